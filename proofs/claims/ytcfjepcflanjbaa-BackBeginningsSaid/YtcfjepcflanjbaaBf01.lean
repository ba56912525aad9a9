/- Plain words on memory, used by all proofs of this seat: what a slice value reads, that it reads on while other blocks turn, and appending from whatever source. Nothing here speaks of the program. -/
import Derived.WalkKit
import Derived.WalkSpells
import Derived.WalkLawsBesides
import Derived.Lib.Hide
import Derived.Maps.AppendAt
import Derived.Deep.Draws
import Derived.Deep.AppendLies
import Derived.Deep.QuietTactic
import Derived.Deep.RegionHeld3
import Derived.Deep.RegionLaw
import Derived.Deep.RegionWith
import Derived.Deep.LoopGhost
import Derived.Deep.Light
import Derived.Deep.DeepCutAuto
import Derived.Deep.CutBlock
import Derived.Deep.DeepFit
import Derived.Deep.DeepMust
import Derived.Deep.OwnRows
import Derived.BigQuiet
import Derived.WalkSmall
namespace Go.Lab
open Go Go.RowKit

theorem hidep {p : Prop} (h : p) : Hid p := h

/-- Every block of cells whose element type satisfies T is as it was. -/
def Keeps (T : TypeId → Prop) (w w' : World) : Prop :=
  w.heap.size ≤ w'.heap.size ∧ ∀ (b : Nat) (cur : Array Value) (t : TypeId) (fz : Nat × Nat), T t → w.heap[b]? = some (.cells cur t fz) → w'.heap[b]? = some (.cells cur t fz)

theorem Keeps.refl (T : TypeId → Prop) (w : World) : Keeps T w w := ⟨Nat.le_refl _, fun _ _ _ _ _ h => h⟩
theorem Keeps.trans {T : TypeId → Prop} {a b c : World} (h : Keeps T a b) (k : Keeps T b c) : Keeps T a c :=
  ⟨Nat.le_trans h.1 k.1, fun x cur t fz ht hx => k.2 x cur t fz ht (h.2 x cur t fz ht hx)⟩
theorem Keeps.mono {T T' : TypeId → Prop} {a b : World} (h : Keeps T a b) (hT : ∀ t, T' t → T t) : Keeps T' a b :=
  ⟨h.1, fun x cur t fz ht hx => h.2 x cur t fz (hT t ht) hx⟩
theorem lt_of_block {w : World} {b : Nat} {o : Obj} (h : w.heap[b]? = some o) : b < w.heap.size := (Array.getElem?_eq_some_iff.1 h).1
theorem Keeps.below (T : TypeId → Prop) {w w' : World} (h : Below w.heap.size w w') : Keeps T w w' :=
  ⟨h.size, fun b _ _ _ _ hx => (h.block b (lt_of_block hx)).trans hx⟩
theorem Keeps.alloc (T : TypeId → Prop) (w : World) (o : Obj) : Keeps T w (w.alloc o) := Keeps.below T ((Below.refl _ _).alloc (Nat.le_refl _) o)
theorem Keeps.drew (T : TypeId → Prop) (w : World) : Keeps T w w.drew := ⟨Nat.le_refl _, fun _ _ _ _ _ h => h⟩
theorem Keeps.drewN (T : TypeId → Prop) (w : World) (n : Nat) : Keeps T w (w.drewN n) := ⟨Nat.le_refl _, fun _ _ _ _ _ h => h⟩
/-- One row of type e has turned: all blocks of other types stand. -/
theorem Keeps.grown {T : TypeId → Prop} {w w' : World} {base : Nat} {e : TypeId} {size n : Nat} {v : Value} {xs : List Value}
    (hown : w.ownsRow base e size v n xs) (hg : w.grownBy w' v.ownBlock) (hT : ∀ t, T t → t ≠ e) : Keeps T w w' := by
  refine ⟨hg.size, fun b cur t fz ht hx => ?_⟩
  refine (hg.block b (lt_of_block hx) (fun hb => ?_)).trans hx
  rcases hown.2 with ⟨rfl, _⟩ | ⟨g, cap, cur', rfl, _, hh, _⟩
  · simp [Value.ownBlock] at hb
  · simp [Value.ownBlock] at hb
    subst hb
    rw [hh] at hx
    injection hx with hx
    injection hx with _ h2 _
    exact hT t ht h2.symm
theorem Keeps.setCell {T : TypeId → Prop} {w : World} {a : Addr} {e : TypeId} {cur0 : Array Value} {fz0 : Nat × Nat}
    (hb : w.heap[a.block]? = some (.cells cur0 e fz0)) (hT : ∀ t, T t → t ≠ e) (u : Value) : Keeps T w (w.setCell a u) := by
  refine ⟨by simp [World.setCell], fun b cur t fz ht hx => ?_⟩
  have hne : b ≠ a.block := by
    rintro rfl
    rw [hb] at hx
    injection hx with hx
    injection hx with _ h2 _
    exact hT t ht h2.symm
  exact (Below.heap_setCell w a u b hne).trans hx
/-- A store into a block that is newer than w0: what w0 held stands. -/
theorem Below.of_keeps {w w' : World} (h : Below w.heap.size w w') : Keeps (fun _ => True) w w' := Keeps.below _ h

/-- The slice value v, of n elements of k cells each, in a block whose element type satisfies T, reads the cells cs. -/
def Rd (w : World) (T : TypeId → Prop) (k : Nat) (v : Value) (n : Nat) (cs : List Value) : Prop :=
  cs.length = n * k ∧ ∃ a cap, v = .slice a n cap ∧ n ≤ cap ∧ cap ≤ maxLen ∧ (a = none → cap = 0) ∧
    ∀ ad, a = some ad → 0 < cap → ad.spot = none ∧ ∃ (cur : Array Value) (t : TypeId) (fz : Nat × Nat), T t ∧ w.heap[ad.block]? = some (.cells cur t fz) ∧ ∀ j u, cs[j]? = some u → cur[ad.off + j]? = some u

section
variable {w w' : World} {T T' : TypeId → Prop} {k n : Nat} {v : Value} {cs : List Value}
theorem Rd.nil (w : World) (T : TypeId → Prop) (k : Nat) : Rd w T k (.slice none 0 0) 0 [] :=
  ⟨by simp, none, 0, rfl, Nat.le_refl _, Nat.zero_le _, fun _ => rfl, fun _ h _ => by cases h⟩
theorem Rd.keeps (h : Rd w T k v n cs) (hk : Keeps T w w') : Rd w' T k v n cs := by
  obtain ⟨h1, a, cap, h2, h3, h4, h5, h6⟩ := h
  refine ⟨h1, a, cap, h2, h3, h4, h5, fun ad e h0 => ?_⟩
  obtain ⟨g1, cur, t, fz, g2, g3, g4⟩ := h6 ad e h0
  exact ⟨g1, cur, t, fz, g2, hk.2 _ _ _ _ g2 g3, g4⟩
theorem Rd.below (h : Rd w T k v n cs) (hb : Below w.heap.size w w') : Rd w' T k v n cs := h.keeps (Keeps.below T hb)
theorem Rd.mono (h : Rd w T k v n cs) (hT : ∀ t, T t → T' t) : Rd w T' k v n cs := by
  obtain ⟨h1, a, cap, h2, h3, h4, h5, h6⟩ := h
  refine ⟨h1, a, cap, h2, h3, h4, h5, fun ad e h0 => ?_⟩
  obtain ⟨g1, cur, t, fz, g2, g3, g4⟩ := h6 ad e h0
  exact ⟨g1, cur, t, fz, hT t g2, g3, g4⟩
theorem Rd.form (h : Rd w T k v n cs) : ∃ a cap, v = .slice a n cap ∧ n ≤ cap ∧ cap ≤ maxLen := by
  obtain ⟨_, a, cap, h2, h3, h4, _⟩ := h
  exact ⟨a, cap, h2, h3, h4⟩
theorem Rd.lenMax (h : Rd w T k v n cs) : n ≤ maxLen := by
  obtain ⟨_, a, cap, h2, h3, h4, _⟩ := h
  exact Nat.le_trans h3 h4
/-- Where there is an element the address is there, and the cells. -/
theorem Rd.at {a : Option Addr} {c : Nat} (h : Rd w T k (.slice a n c) n cs) (hn : 0 < n) :
    ∃ b off, a = some ⟨b, off, none⟩ ∧ b < w.heap.size ∧ ∀ j u, cs[j]? = some u → w.cell? ⟨b, off + j, none⟩ = some u := by
  obtain ⟨h1, a', cap, h2, h3, h4, h5, h6⟩ := h
  injection h2 with e1 e2 e3
  subst e1 e3
  cases a with
  | none => have := h5 rfl; omega
  | some ad =>
    obtain ⟨b, off, sp⟩ := ad
    obtain ⟨g1, cur, t, fz, g2, g3, g4⟩ := h6 _ rfl (by omega)
    simp only at g1
    subst g1
    refine ⟨b, off, rfl, lt_of_block g3, fun j u hu => ?_⟩
    simp only [World.cell?, g3]
    simpa using g4 j u hu
theorem Rd.of_own {base : Nat} {e : TypeId} (h : w.ownsRow base e k v n cs) : Rd w (· = e) k v n cs := by
  rcases h.2 with ⟨rfl, rfl⟩ | ⟨g, cap, cur, rfl, hb, hg, hn, hc, hs, ht⟩
  · have : cs = [] := List.eq_nil_of_length_eq_zero (by simpa using h.1)
    subst this
    exact Rd.nil _ _ _
  · refine ⟨h.1, _, _, rfl, hn, hc, (fun e => by cases e), fun ad e _ => ?_⟩
    injection e with e
    subst e
    refine ⟨rfl, cur, _, _, rfl, hg, fun j u hu => ?_⟩
    rw [← ht, List.getElem?_take] at hu
    split at hu
    · simpa using hu
    · cases hu
/-- The beginning of a slice. -/
theorem Rd.pre {a : Option Addr} {c : Nat} (h : Rd w T k (.slice a n c) n cs) {j : Nat} (hj : j ≤ n) : Rd w T k (.slice a j c) j (cs.take (j * k)) := by
  obtain ⟨g1, a', cap, g2, g3, g4, g5, g6⟩ := h
  injection g2 with e1 e2 e3
  subst e1 e3
  have hle : j * k ≤ n * k := Nat.mul_le_mul_right k hj
  refine ⟨by rw [List.length_take, g1]; omega, _, _, rfl, by omega, g4, g5, fun ad e h0 => ?_⟩
  obtain ⟨s1, cur, t, fz, s2, s3, s4⟩ := g6 ad e h0
  refine ⟨s1, cur, t, fz, s2, s3, fun i u hu => s4 i u ?_⟩
  rw [List.getElem?_take] at hu
  split at hu
  · exact hu
  · cases hu
/-- A part of a slice, l to h, the capacity up to m. -/
theorem Rd.part {a : Option Addr} {c : Nat} (h : Rd w T k (.slice a n c) n cs) {l hh m : Nat} (h1 : l ≤ hh) (h2 : hh ≤ n) (h3 : hh ≤ m) (h4 : m ≤ c) :
    Rd w T k (.slice (if m = l then a else a.map (·.add (l * k))) (hh - l) (m - l)) (hh - l) ((cs.drop (l * k)).take ((hh - l) * k)) := by
  obtain ⟨g1, a', cap, g2, g3, g4, g5, g6⟩ := h
  injection g2 with e1 e2 e3
  subst e1 e3
  have hle : hh * k ≤ n * k := Nat.mul_le_mul_right k h2
  have hle2 : l * k ≤ hh * k := Nat.mul_le_mul_right k h1
  refine ⟨by rw [List.length_take, List.length_drop, g1, Nat.sub_mul]; omega, _, _, rfl, by omega, by omega, fun e => ?_, fun ad e h0 => ?_⟩
  · split at e
    · omega
    · rw [Option.map_eq_none_iff] at e
      have := g5 e
      omega
  · by_cases hm : m = l
    · omega
    · rw [if_neg hm] at e
      obtain ⟨ad0, rfl, rfl⟩ := Option.map_eq_some_iff.1 e
      obtain ⟨s1, cur, t, fz, s2, s3, s4⟩ := g6 _ rfl (by omega)
      have hadd : (ad0.add (l * k)).block = ad0.block ∧ (ad0.add (l * k)).off = ad0.off + l * k ∧ (ad0.add (l * k)).spot = none := by
        unfold Addr.add
        split <;> simp_all
      obtain ⟨q1, q2, q3⟩ := hadd
      refine ⟨q3, cur, t, fz, s2, by rw [q1]; exact s3, fun j u hu => ?_⟩
      rw [q2, Nat.add_assoc]
      refine s4 _ u ?_
      rw [List.getElem?_take] at hu
      split at hu
      · rwa [List.getElem?_drop] at hu
      · cases hu
end

/-- What a slice type's element is, as append and make ask it. -/
def SlT (P : Program) (t e : TypeId) (z : Value) (size bytes : Nat) : Prop :=
  P.underlying t = some (.slice e) ∧ (P.info? e).map (fun i => (i.zero, i.size, i.bytes)) = some (some z, size, bytes) ∧ z.cells.size = size ∧ 0 < size
theorem SlT.und {P : Program} {t e : TypeId} {z : Value} {size bytes : Nat} (h : SlT P t e z size bytes) : P.underlying t = some (.slice e) := h.1

section
variable {P : Program} (w : World)
theorem run_append_rd {t e : TypeId} {z : Value} {size bytes : Nat} (hT : SlT P t e z size bytes) (ty : TypeId) (base : Nat)
    (v : Value) (n : Nat) (xs : List Value) (hown : w.ownsRow base e size v n xs)
    (T : TypeId → Prop) (x : Value) (m : Nat) (news : List Value) (hr : Rd w T size x m news) (h1 : ∀ u ∈ news, u.oneCell' = true)
    (h63 : n + m ≤ maxLen) (hbytes : (n + m) * bytes ≤ 140737488355328) (hbase : base ≤ w.heap.size) :
    ∃ v' w', (Builtin.append_ #[t, t] ty #[v, x]).run P w = .ok v' w' ∧ w'.ownsRow base e size v' (n + m) (xs ++ news) ∧ w.grownBy w' v.ownBlock ∧
      (v'.ownBlock = v.ownBlock ∨ v'.ownBlock = some w.heap.size) ∧ (v' = .slice none 0 0 ↔ v = .slice none 0 0 ∧ m = 0) := by
  obtain ⟨ht, hinfo, hzs, hsz⟩ := hT
  obtain ⟨i, hi, hz, hsize, hby⟩ := info_parts hinfo
  obtain ⟨a, c, rfl, _, _⟩ := hr.form
  cases a with
  | none =>
    have hm : m = 0 := by
      rcases Nat.eq_zero_or_pos m with h | h
      · exact h
      · obtain ⟨_, _, e, _⟩ := hr.at h; cases e
    subst hm
    have hn : news = [] := List.eq_nil_of_length_eq_zero (by simpa using hr.1)
    subst hn
    refine ⟨v, w, ?_, by simpa using hown, ⟨rfl, rfl, rfl, Nat.le_refl _, fun _ _ _ => rfl⟩, .inl rfl, by simp⟩
    rcases hown.2 with ⟨rfl, rfl⟩ | ⟨g, cap, cur, rfl, _, _, hnc, _⟩
    · simp [Builtin.append_, run_underlying ht, sizeOf, typeInfo, hi, Builtin.lenOf, Builtin.firstCells]
    · simp [Builtin.append_, run_underlying ht, sizeOf, typeInfo, hi, Builtin.lenOf, Builtin.firstCells, hnc, storeCells]
  | some ad =>
    have hnews : ∀ j u, news[j]? = some u → w.cell? (ad.add j) = some u := by
      intro j u hu
      have hm : 0 < m := by
        rcases Nat.eq_zero_or_pos m with h | h
        · subst h
          have : news = [] := List.eq_nil_of_length_eq_zero (by simpa using hr.1)
          subst this
          simp at hu
        · exact h
      obtain ⟨b, off, e, _, hc⟩ := hr.at hm
      injection e with e
      subst e
      have : (⟨b, off, none⟩ : Addr).add j = ⟨b, off + j, none⟩ := by unfold Addr.add; split <;> simp_all
      rw [this]
      exact hc j u hu
    obtain ⟨v', w', g1, g2, g3, g4, g5⟩ := run_append_own_at (P := P) w base t ty e i z size bytes ht hi hz hsize hby hzs hsz v n xs hown ad m c news hr.1 hnews h1 h63 hbytes hbase
    exact ⟨v', w', g1, g2, g3, g5, g4⟩

theorem wp_append_rd {o : Oper} {a : Act} {K : Act → World → Prop} {Q : Exit → Act → World → Prop} (s x : Operand) {t e : TypeId} {z : Value} {size bytes : Nat}
    (ho : o.op = .call { callee := .builtin .append, args := #[s, x], argTypes := #[t, t] })
    (hT : SlT P t e z size bytes) (base : Nat) (v : Value) (n : Nat) (xs : List Value) (hs : a.eval s = v) (hown : w.ownsRow base e size v n xs)
    (T : TypeId → Prop) (y : Value) (m : Nat) (news : List Value) (hx : a.eval x = y) (hr : Rd w T size y m news) (h1 : ∀ u ∈ news, u.oneCell' = true)
    (h63 : n + m ≤ maxLen) (hbytes : (n + m) * bytes ≤ 140737488355328) (hbase : base ≤ w.heap.size)
    (h : ∀ v' w', w'.ownsRow base e size v' (n + m) (xs ++ news) → w.grownBy w' v.ownBlock → (v'.ownBlock = v.ownBlock ∨ v'.ownBlock = some w.heap.size) → (v' = .slice none 0 0 ↔ v = .slice none 0 0 ∧ m = 0) → K (a.put o.dst v') w') : o.wp P a w K Q := by
  obtain ⟨v', w', hrun, h2, h3, h4, h5⟩ := run_append_rd (P := P) w hT o.type base v n xs hown T y m news hr h1 h63 hbytes hbase
  unfold Oper.wp execOp
  simp only [ho, resolve, invoke, builtin, Sem.run_bind, Sem.run_pure, Result.andThen_ok, List.map_toArray, List.map_cons, List.map_nil, hs, hx, hrun]
  exact h v' w' h2 h3 h4 h5

theorem wpList_append_rd {ops : Array Oper} {rest : List Oper} {o : Oper} {a : Act} {Q : Exit → Act → World → Prop} (hgd : o.guard = none) (s x : Operand) {t e : TypeId} {z : Value} {size bytes : Nat}
    (ho : o.op = .call { callee := .builtin .append, args := #[s, x], argTypes := #[t, t] })
    (hT : SlT P t e z size bytes) (base : Nat) (v : Value) (n : Nat) (xs : List Value) (hs : a.eval s = v) (hown : w.ownsRow base e size v n xs)
    (T : TypeId → Prop) (y : Value) (m : Nat) (news : List Value) (hx : a.eval x = y) (hr : Rd w T size y m news) (h1 : ∀ u ∈ news, u.oneCell' = true)
    (h63 : n + m ≤ maxLen) (hbytes : (n + m) * bytes ≤ 140737488355328) (hbase : base ≤ w.heap.size)
    (h : ∀ v' w', w'.ownsRow base e size v' (n + m) (xs ++ news) → w.grownBy w' v.ownBlock → (v'.ownBlock = v.ownBlock ∨ v'.ownBlock = some w.heap.size) → (v' = .slice none 0 0 ↔ v = .slice none 0 0 ∧ m = 0) → wpList P ops Q rest (a.put o.dst v') w') : wpList P ops Q (o :: rest) a w :=
  wpList_plain hgd fun _ hK => wp_append_rd w s x ho hT base v n xs hs hown T y m news hx hr h1 h63 hbytes hbase fun v' w' h2 h3 h4 h5 => hK _ _ (h v' w' h2 h3 h4 h5)

theorem step_append_rd {ops : Array Oper} {o : Oper} {a : Act} {K : Act → World → Prop} {Q : Exit → Act → World → Prop} {E : Prop} (hgd : o.guard = none) (s x : Operand) {t e : TypeId} {z : Value} {size bytes : Nat}
    (ho : o.op = .call { callee := .builtin .append, args := #[s, x], argTypes := #[t, t] })
    (hT : SlT P t e z size bytes) (base : Nat) (v : Value) (n : Nat) (xs : List Value) (hs : a.eval s = v) (hown : w.ownsRow base e size v n xs)
    (T : TypeId → Prop) (y : Value) (m : Nat) (news : List Value) (hx : a.eval x = y) (hr : Rd w T size y m news) (h1 : ∀ u ∈ news, u.oneCell' = true)
    (h63 : n + m ≤ maxLen) (hbytes : (n + m) * bytes ≤ 140737488355328) (hbase : base ≤ w.heap.size)
    (h : ∀ v' w', w'.ownsRow base e size v' (n + m) (xs ++ news) → w.grownBy w' v.ownBlock → (v'.ownBlock = v.ownBlock ∨ v'.ownBlock = some w.heap.size) → (v' = .slice none 0 0 ↔ v = .slice none 0 0 ∧ m = 0) → K (a.put o.dst v') w') :
    if Region.wanted o (yielded ops a.tmps) = true then Oper.wp P o a w K Q else E := by
  have hw : Region.wanted o (yielded ops a.tmps) = true := by simp [Region.wanted, hgd]
  rw [if_pos hw]
  exact wp_append_rd w s x ho hT base v n xs hs hown T y m news hx hr h1 h63 hbytes hbase h
end

/-- A block of n cells just made reads as a slice of its elements. -/
theorem Rd.fresh (w : World) (cs : Array Value) (e : TypeId) (k n : Nat) (hn : cs.size = n * k) (hm : n ≤ maxLen) :
    Rd (w.alloc (.cells cs e)) (· = e) k (.slice (some ⟨w.heap.size, 0, none⟩) n n) n cs.toList :=
  ⟨by simpa using hn, _, _, rfl, Nat.le_refl _, hm, (fun e => by cases e), fun ad e _ => by
    injection e with e
    subst e
    exact ⟨rfl, cs, _, _, rfl, heap_alloc_new w _, fun j u hu => by simpa using hu⟩⟩
theorem below_drewN {B : Nat} {a w : World} (h : Below B a w) (n : Nat) : Below B a (w.drewN n) := ⟨h.os, h.tape, h.output, h.size, h.block⟩
theorem bcell {W w1 : World} (hb : Below W.heap.size W w1) : (∀ b o, b < W.heap.size → w1.cell? ⟨b, o, none⟩ = W.cell? ⟨b, o, none⟩) ∧ (∀ b o, b < W.heap.size → w1.frozen? ⟨b, o, none⟩ = W.frozen? ⟨b, o, none⟩) :=
  ⟨fun b o h => hb.cell (p := ⟨b, o, none⟩) h, fun b o h => hb.frozen (p := ⟨b, o, none⟩) h⟩

theorem bcellB {B : Nat} {W w1 : World} (hb : Below B W w1) : (∀ b o, b < B → w1.cell? ⟨b, o, none⟩ = W.cell? ⟨b, o, none⟩) ∧ (∀ b o, b < B → w1.frozen? ⟨b, o, none⟩ = W.frozen? ⟨b, o, none⟩) :=
  ⟨fun b o h => hb.cell (p := ⟨b, o, none⟩) h, fun b o h => hb.frozen (p := ⟨b, o, none⟩) h⟩
/-- A list of ints as cells; an untyped reading. -/
def intsC (l : List Int) : List Value := l.map (Value.int .i64)
def IntsAt (w : World) (v : Value) (l : List Int) : Prop := Rd w (fun _ => True) 1 v l.length (intsC l) ∧ ∀ x ∈ l, -9223372036854775808 ≤ x ∧ x ≤ 9223372036854775807
theorem IntsAt.below {w w' : World} {v : Value} {l : List Int} (h : IntsAt w v l) (hb : Below w.heap.size w w') : IntsAt w' v l := ⟨h.1.below hb, h.2⟩
theorem intsC_one (l : List Int) : ∀ u ∈ intsC l, u.oneCell' = true := by
  intro u hu
  obtain ⟨x, _, rfl⟩ := List.mem_map.1 hu
  rfl
theorem intsC_get (l : List Int) (i : Nat) (h : i < l.length) : (intsC l)[i]? = some (.int .i64 l[i]) := by simp [intsC, h]
theorem rowIs_ne {w : World} {b b' : Nat} {t t' : TypeId} {n n' : Nat} {f f' : Nat → Value} (h : w.rowIs b t n f) (h' : w.rowIs b' t' n' f') (hne : t ≠ t') : b ≠ b' := by
  rintro rfl
  obtain ⟨c, hc, _⟩ := h
  obtain ⟨c', hc', _⟩ := h'
  rw [hc] at hc'
  injection hc' with h1
  injection h1 with _ h2 _
  exact hne h2
theorem rowIs_below {B : Nat} {w w' : World} {b : Nat} {t : TypeId} {n : Nat} {f : Nat → Value} (h : w.rowIs b t n f) (hb : Below B w w') (hB : b < B) : w'.rowIs b t n f := h.of_block (hb.block b hB)
theorem rowIs_rd {w : World} {b : Nat} {t : TypeId} {n : Nat} {f : Nat → Value} (h : w.rowIs b t n f) (hn : n ≤ maxLen) : Rd w (· = t) 1 (.slice (some ⟨b, 0, none⟩) n n) n ((List.range n).map f) := by
  obtain ⟨c, hc, hs, hf⟩ := h
  refine ⟨by simp, _, _, rfl, Nat.le_refl _, hn, (fun e => by cases e), fun ad e _ => ?_⟩
  injection e with e
  subst e
  refine ⟨rfl, c, _, _, rfl, hc, fun j u hu => ?_⟩
  rw [List.getElem?_map] at hu
  obtain ⟨x, hx, rfl⟩ := Option.map_eq_some_iff.1 hu
  obtain ⟨hj, rfl⟩ := List.getElem?_eq_some_iff.1 hx
  simp only [List.length_range] at hj
  simp only [List.getElem_range]
  rw [Nat.zero_add]
  exact hf j hj
theorem ret_val {a b : Value} (h : a = b) : Ending.returned a = .returned b := by rw [h]
end Go.Lab
