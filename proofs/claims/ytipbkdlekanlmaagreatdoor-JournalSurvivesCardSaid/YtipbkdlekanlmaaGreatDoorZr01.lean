/- Plain words on memory, used by all proofs of this seat: what a slice value reads, that it reads on while other blocks turn, and appending from whatever source. Nothing here speaks of the program. -/
import Derived.WalkKit
import Derived.WalkSpells
import Derived.WalkLawsBesides
import Derived.Lib.Hide
import Derived.Maps.AppendAt
import Derived.Deep.Draws
import Derived.Deep.AppendLies
import Derived.Deep.QuietTactic
import Derived.Deep.RegionHeld3
import Derived.Deep.RegionLaw
import Derived.Deep.RegionWith
import Derived.Deep.LoopGhost
import Derived.Deep.Light
import Derived.Deep.DeepCutAuto
import Derived.Deep.CutBlock
import Derived.Deep.DeepFit
import Derived.Deep.DeepMust
import Derived.Deep.OwnRows
import Derived.BigQuiet
import Derived.WalkSmall
namespace Go.Lab
open Go Go.RowKit

theorem hidep {p : Prop} (h : p) : Hid p := h

/-- Every block of cells whose element type satisfies T is as it was. -/
def Keeps (T : TypeId → Prop) (w w' : World) : Prop :=
  w.heap.size ≤ w'.heap.size ∧ ∀ (b : Nat) (cur : Array Value) (t : TypeId) (fz : Nat × Nat), T t → w.heap[b]? = some (.cells cur t fz) → w'.heap[b]? = some (.cells cur t fz)

theorem Keeps.refl (T : TypeId → Prop) (w : World) : Keeps T w w := ⟨Nat.le_refl _, fun _ _ _ _ _ h => h⟩
theorem Keeps.trans {T : TypeId → Prop} {a b c : World} (h : Keeps T a b) (k : Keeps T b c) : Keeps T a c :=
  ⟨Nat.le_trans h.1 k.1, fun x cur t fz ht hx => k.2 x cur t fz ht (h.2 x cur t fz ht hx)⟩
theorem Keeps.mono {T T' : TypeId → Prop} {a b : World} (h : Keeps T a b) (hT : ∀ t, T' t → T t) : Keeps T' a b :=
  ⟨h.1, fun x cur t fz ht hx => h.2 x cur t fz (hT t ht) hx⟩
theorem lt_of_block {w : World} {b : Nat} {o : Obj} (h : w.heap[b]? = some o) : b < w.heap.size := (Array.getElem?_eq_some_iff.1 h).1
theorem Keeps.below (T : TypeId → Prop) {w w' : World} (h : Below w.heap.size w w') : Keeps T w w' :=
  ⟨h.size, fun b _ _ _ _ hx => (h.block b (lt_of_block hx)).trans hx⟩
theorem Keeps.alloc (T : TypeId → Prop) (w : World) (o : Obj) : Keeps T w (w.alloc o) := Keeps.below T ((Below.refl _ _).alloc (Nat.le_refl _) o)
theorem Keeps.drew (T : TypeId → Prop) (w : World) : Keeps T w w.drew := ⟨Nat.le_refl _, fun _ _ _ _ _ h => h⟩
theorem Keeps.drewN (T : TypeId → Prop) (w : World) (n : Nat) : Keeps T w (w.drewN n) := ⟨Nat.le_refl _, fun _ _ _ _ _ h => h⟩
/-- One row of type e has turned: all blocks of other types stand. -/
theorem Keeps.grown {T : TypeId → Prop} {w w' : World} {base : Nat} {e : TypeId} {size n : Nat} {v : Value} {xs : List Value}
    (hown : w.ownsRow base e size v n xs) (hg : w.grownBy w' v.ownBlock) (hT : ∀ t, T t → t ≠ e) : Keeps T w w' := by
  refine ⟨hg.size, fun b cur t fz ht hx => ?_⟩
  refine (hg.block b (lt_of_block hx) (fun hb => ?_)).trans hx
  rcases hown.2 with ⟨rfl, _⟩ | ⟨g, cap, cur', rfl, _, hh, _⟩
  · simp [Value.ownBlock] at hb
  · simp [Value.ownBlock] at hb
    subst hb
    rw [hh] at hx
    injection hx with hx
    injection hx with _ h2 _
    exact hT t ht h2.symm
theorem Keeps.setCell {T : TypeId → Prop} {w : World} {a : Addr} {e : TypeId} {cur0 : Array Value} {fz0 : Nat × Nat}
    (hb : w.heap[a.block]? = some (.cells cur0 e fz0)) (hT : ∀ t, T t → t ≠ e) (u : Value) : Keeps T w (w.setCell a u) := by
  refine ⟨by simp [World.setCell], fun b cur t fz ht hx => ?_⟩
  have hne : b ≠ a.block := by
    rintro rfl
    rw [hb] at hx
    injection hx with hx
    injection hx with _ h2 _
    exact hT t ht h2.symm
  exact (Below.heap_setCell w a u b hne).trans hx
/-- A store into a block that is newer than w0: what w0 held stands. -/
theorem Below.of_keeps {w w' : World} (h : Below w.heap.size w w') : Keeps (fun _ => True) w w' := Keeps.below _ h

/-- The slice value v, of n elements of k cells each, in a block whose element type satisfies T, reads the cells cs. -/
def Rd (w : World) (T : TypeId → Prop) (k : Nat) (v : Value) (n : Nat) (cs : List Value) : Prop :=
  cs.length = n * k ∧ ∃ a cap, v = .slice a n cap ∧ n ≤ cap ∧ cap ≤ maxLen ∧ (a = none → cap = 0) ∧
    ∀ ad, a = some ad → 0 < cap → ad.spot = none ∧ ∃ (cur : Array Value) (t : TypeId) (fz : Nat × Nat), T t ∧ w.heap[ad.block]? = some (.cells cur t fz) ∧ ∀ j u, cs[j]? = some u → cur[ad.off + j]? = some u

section
variable {w w' : World} {T T' : TypeId → Prop} {k n : Nat} {v : Value} {cs : List Value}
theorem Rd.nil (w : World) (T : TypeId → Prop) (k : Nat) : Rd w T k (.slice none 0 0) 0 [] :=
  ⟨by simp, none, 0, rfl, Nat.le_refl _, Nat.zero_le _, fun _ => rfl, fun _ h _ => by cases h⟩
theorem Rd.keeps (h : Rd w T k v n cs) (hk : Keeps T w w') : Rd w' T k v n cs := by
  obtain ⟨h1, a, cap, h2, h3, h4, h5, h6⟩ := h
  refine ⟨h1, a, cap, h2, h3, h4, h5, fun ad e h0 => ?_⟩
  obtain ⟨g1, cur, t, fz, g2, g3, g4⟩ := h6 ad e h0
  exact ⟨g1, cur, t, fz, g2, hk.2 _ _ _ _ g2 g3, g4⟩
theorem Rd.below (h : Rd w T k v n cs) (hb : Below w.heap.size w w') : Rd w' T k v n cs := h.keeps (Keeps.below T hb)
theorem Rd.mono (h : Rd w T k v n cs) (hT : ∀ t, T t → T' t) : Rd w T' k v n cs := by
  obtain ⟨h1, a, cap, h2, h3, h4, h5, h6⟩ := h
  refine ⟨h1, a, cap, h2, h3, h4, h5, fun ad e h0 => ?_⟩
  obtain ⟨g1, cur, t, fz, g2, g3, g4⟩ := h6 ad e h0
  exact ⟨g1, cur, t, fz, hT t g2, g3, g4⟩
theorem Rd.form (h : Rd w T k v n cs) : ∃ a cap, v = .slice a n cap ∧ n ≤ cap ∧ cap ≤ maxLen := by
  obtain ⟨_, a, cap, h2, h3, h4, _⟩ := h
  exact ⟨a, cap, h2, h3, h4⟩
theorem Rd.lenMax (h : Rd w T k v n cs) : n ≤ maxLen := by
  obtain ⟨_, a, cap, h2, h3, h4, _⟩ := h
  exact Nat.le_trans h3 h4
/-- Where there is an element the address is there, and the cells. -/
theorem Rd.at {a : Option Addr} {c : Nat} (h : Rd w T k (.slice a n c) n cs) (hn : 0 < n) :
    ∃ b off, a = some ⟨b, off, none⟩ ∧ b < w.heap.size ∧ ∀ j u, cs[j]? = some u → w.cell? ⟨b, off + j, none⟩ = some u := by
  obtain ⟨h1, a', cap, h2, h3, h4, h5, h6⟩ := h
  injection h2 with e1 e2 e3
  subst e1 e3
  cases a with
  | none => have := h5 rfl; omega
  | some ad =>
    obtain ⟨b, off, sp⟩ := ad
    obtain ⟨g1, cur, t, fz, g2, g3, g4⟩ := h6 _ rfl (by omega)
    simp only at g1
    subst g1
    refine ⟨b, off, rfl, lt_of_block g3, fun j u hu => ?_⟩
    simp only [World.cell?, g3]
    simpa using g4 j u hu
theorem Rd.of_own {base : Nat} {e : TypeId} (h : w.ownsRow base e k v n cs) : Rd w (· = e) k v n cs := by
  rcases h.2 with ⟨rfl, rfl⟩ | ⟨g, cap, cur, rfl, hb, hg, hn, hc, hs, ht⟩
  · have : cs = [] := List.eq_nil_of_length_eq_zero (by simpa using h.1)
    subst this
    exact Rd.nil _ _ _
  · refine ⟨h.1, _, _, rfl, hn, hc, (fun e => by cases e), fun ad e _ => ?_⟩
    injection e with e
    subst e
    refine ⟨rfl, cur, _, _, rfl, hg, fun j u hu => ?_⟩
    rw [← ht, List.getElem?_take] at hu
    split at hu
    · simpa using hu
    · cases hu
/-- The beginning of a slice. -/
theorem Rd.pre {a : Option Addr} {c : Nat} (h : Rd w T k (.slice a n c) n cs) {j : Nat} (hj : j ≤ n) : Rd w T k (.slice a j c) j (cs.take (j * k)) := by
  obtain ⟨g1, a', cap, g2, g3, g4, g5, g6⟩ := h
  injection g2 with e1 e2 e3
  subst e1 e3
  have hle : j * k ≤ n * k := Nat.mul_le_mul_right k hj
  refine ⟨by rw [List.length_take, g1]; omega, _, _, rfl, by omega, g4, g5, fun ad e h0 => ?_⟩
  obtain ⟨s1, cur, t, fz, s2, s3, s4⟩ := g6 ad e h0
  refine ⟨s1, cur, t, fz, s2, s3, fun i u hu => s4 i u ?_⟩
  rw [List.getElem?_take] at hu
  split at hu
  · exact hu
  · cases hu
/-- A part of a slice, l to h, the capacity up to m. -/
theorem Rd.part {a : Option Addr} {c : Nat} (h : Rd w T k (.slice a n c) n cs) {l hh m : Nat} (h1 : l ≤ hh) (h2 : hh ≤ n) (h3 : hh ≤ m) (h4 : m ≤ c) :
    Rd w T k (.slice (if m = l then a else a.map (·.add (l * k))) (hh - l) (m - l)) (hh - l) ((cs.drop (l * k)).take ((hh - l) * k)) := by
  obtain ⟨g1, a', cap, g2, g3, g4, g5, g6⟩ := h
  injection g2 with e1 e2 e3
  subst e1 e3
  have hle : hh * k ≤ n * k := Nat.mul_le_mul_right k h2
  have hle2 : l * k ≤ hh * k := Nat.mul_le_mul_right k h1
  refine ⟨by rw [List.length_take, List.length_drop, g1, Nat.sub_mul]; omega, _, _, rfl, by omega, by omega, fun e => ?_, fun ad e h0 => ?_⟩
  · split at e
    · omega
    · rw [Option.map_eq_none_iff] at e
      have := g5 e
      omega
  · by_cases hm : m = l
    · omega
    · rw [if_neg hm] at e
      obtain ⟨ad0, rfl, rfl⟩ := Option.map_eq_some_iff.1 e
      obtain ⟨s1, cur, t, fz, s2, s3, s4⟩ := g6 _ rfl (by omega)
      have hadd : (ad0.add (l * k)).block = ad0.block ∧ (ad0.add (l * k)).off = ad0.off + l * k ∧ (ad0.add (l * k)).spot = none := by
        unfold Addr.add
        split <;> simp_all
      obtain ⟨q1, q2, q3⟩ := hadd
      refine ⟨q3, cur, t, fz, s2, by rw [q1]; exact s3, fun j u hu => ?_⟩
      rw [q2, Nat.add_assoc]
      refine s4 _ u ?_
      rw [List.getElem?_take] at hu
      split at hu
      · rwa [List.getElem?_drop] at hu
      · cases hu
end

/-- What a slice type's element is, as append and make ask it. -/
def SlT (P : Program) (t e : TypeId) (z : Value) (size bytes : Nat) : Prop :=
  P.underlying t = some (.slice e) ∧ (P.info? e).map (fun i => (i.zero, i.size, i.bytes)) = some (some z, size, bytes) ∧ z.cells.size = size ∧ 0 < size
theorem SlT.und {P : Program} {t e : TypeId} {z : Value} {size bytes : Nat} (h : SlT P t e z size bytes) : P.underlying t = some (.slice e) := h.1

section
variable {P : Program} (w : World)
theorem run_append_rd {t e : TypeId} {z : Value} {size bytes : Nat} (hT : SlT P t e z size bytes) (ty : TypeId) (base : Nat)
    (v : Value) (n : Nat) (xs : List Value) (hown : w.ownsRow base e size v n xs)
    (T : TypeId → Prop) (x : Value) (m : Nat) (news : List Value) (hr : Rd w T size x m news) (h1 : ∀ u ∈ news, u.oneCell' = true)
    (h63 : n + m ≤ maxLen) (hbytes : (n + m) * bytes ≤ 140737488355328) (hbase : base ≤ w.heap.size) :
    ∃ v' w', (Builtin.append_ #[t, t] ty #[v, x]).run P w = .ok v' w' ∧ w'.ownsRow base e size v' (n + m) (xs ++ news) ∧ w.grownBy w' v.ownBlock ∧
      (v'.ownBlock = v.ownBlock ∨ v'.ownBlock = some w.heap.size) ∧ (v' = .slice none 0 0 ↔ v = .slice none 0 0 ∧ m = 0) := by
  obtain ⟨ht, hinfo, hzs, hsz⟩ := hT
  obtain ⟨i, hi, hz, hsize, hby⟩ := info_parts hinfo
  obtain ⟨a, c, rfl, _, _⟩ := hr.form
  cases a with
  | none =>
    have hm : m = 0 := by
      rcases Nat.eq_zero_or_pos m with h | h
      · exact h
      · obtain ⟨_, _, e, _⟩ := hr.at h; cases e
    subst hm
    have hn : news = [] := List.eq_nil_of_length_eq_zero (by simpa using hr.1)
    subst hn
    refine ⟨v, w, ?_, by simpa using hown, ⟨rfl, rfl, rfl, Nat.le_refl _, fun _ _ _ => rfl⟩, .inl rfl, by simp⟩
    rcases hown.2 with ⟨rfl, rfl⟩ | ⟨g, cap, cur, rfl, _, _, hnc, _⟩
    · simp [Builtin.append_, run_underlying ht, sizeOf, typeInfo, hi, Builtin.lenOf, Builtin.firstCells]
    · simp [Builtin.append_, run_underlying ht, sizeOf, typeInfo, hi, Builtin.lenOf, Builtin.firstCells, hnc, storeCells]
  | some ad =>
    have hnews : ∀ j u, news[j]? = some u → w.cell? (ad.add j) = some u := by
      intro j u hu
      have hm : 0 < m := by
        rcases Nat.eq_zero_or_pos m with h | h
        · subst h
          have : news = [] := List.eq_nil_of_length_eq_zero (by simpa using hr.1)
          subst this
          simp at hu
        · exact h
      obtain ⟨b, off, e, _, hc⟩ := hr.at hm
      injection e with e
      subst e
      have : (⟨b, off, none⟩ : Addr).add j = ⟨b, off + j, none⟩ := by unfold Addr.add; split <;> simp_all
      rw [this]
      exact hc j u hu
    obtain ⟨v', w', g1, g2, g3, g4, g5⟩ := run_append_own_at (P := P) w base t ty e i z size bytes ht hi hz hsize hby hzs hsz v n xs hown ad m c news hr.1 hnews h1 h63 hbytes hbase
    exact ⟨v', w', g1, g2, g3, g5, g4⟩

theorem wp_append_rd {o : Oper} {a : Act} {K : Act → World → Prop} {Q : Exit → Act → World → Prop} (s x : Operand) {t e : TypeId} {z : Value} {size bytes : Nat}
    (ho : o.op = .call { callee := .builtin .append, args := #[s, x], argTypes := #[t, t] })
    (hT : SlT P t e z size bytes) (base : Nat) (v : Value) (n : Nat) (xs : List Value) (hs : a.eval s = v) (hown : w.ownsRow base e size v n xs)
    (T : TypeId → Prop) (y : Value) (m : Nat) (news : List Value) (hx : a.eval x = y) (hr : Rd w T size y m news) (h1 : ∀ u ∈ news, u.oneCell' = true)
    (h63 : n + m ≤ maxLen) (hbytes : (n + m) * bytes ≤ 140737488355328) (hbase : base ≤ w.heap.size)
    (h : ∀ v' w', w'.ownsRow base e size v' (n + m) (xs ++ news) → w.grownBy w' v.ownBlock → (v'.ownBlock = v.ownBlock ∨ v'.ownBlock = some w.heap.size) → (v' = .slice none 0 0 ↔ v = .slice none 0 0 ∧ m = 0) → K (a.put o.dst v') w') : o.wp P a w K Q := by
  obtain ⟨v', w', hrun, h2, h3, h4, h5⟩ := run_append_rd (P := P) w hT o.type base v n xs hown T y m news hr h1 h63 hbytes hbase
  unfold Oper.wp execOp
  simp only [ho, resolve, invoke, builtin, Sem.run_bind, Sem.run_pure, Result.andThen_ok, List.map_toArray, List.map_cons, List.map_nil, hs, hx, hrun]
  exact h v' w' h2 h3 h4 h5

theorem wpList_append_rd {ops : Array Oper} {rest : List Oper} {o : Oper} {a : Act} {Q : Exit → Act → World → Prop} (hgd : o.guard = none) (s x : Operand) {t e : TypeId} {z : Value} {size bytes : Nat}
    (ho : o.op = .call { callee := .builtin .append, args := #[s, x], argTypes := #[t, t] })
    (hT : SlT P t e z size bytes) (base : Nat) (v : Value) (n : Nat) (xs : List Value) (hs : a.eval s = v) (hown : w.ownsRow base e size v n xs)
    (T : TypeId → Prop) (y : Value) (m : Nat) (news : List Value) (hx : a.eval x = y) (hr : Rd w T size y m news) (h1 : ∀ u ∈ news, u.oneCell' = true)
    (h63 : n + m ≤ maxLen) (hbytes : (n + m) * bytes ≤ 140737488355328) (hbase : base ≤ w.heap.size)
    (h : ∀ v' w', w'.ownsRow base e size v' (n + m) (xs ++ news) → w.grownBy w' v.ownBlock → (v'.ownBlock = v.ownBlock ∨ v'.ownBlock = some w.heap.size) → (v' = .slice none 0 0 ↔ v = .slice none 0 0 ∧ m = 0) → wpList P ops Q rest (a.put o.dst v') w') : wpList P ops Q (o :: rest) a w :=
  wpList_plain hgd fun _ hK => wp_append_rd w s x ho hT base v n xs hs hown T y m news hx hr h1 h63 hbytes hbase fun v' w' h2 h3 h4 h5 => hK _ _ (h v' w' h2 h3 h4 h5)

theorem step_append_rd {ops : Array Oper} {o : Oper} {a : Act} {K : Act → World → Prop} {Q : Exit → Act → World → Prop} {E : Prop} (hgd : o.guard = none) (s x : Operand) {t e : TypeId} {z : Value} {size bytes : Nat}
    (ho : o.op = .call { callee := .builtin .append, args := #[s, x], argTypes := #[t, t] })
    (hT : SlT P t e z size bytes) (base : Nat) (v : Value) (n : Nat) (xs : List Value) (hs : a.eval s = v) (hown : w.ownsRow base e size v n xs)
    (T : TypeId → Prop) (y : Value) (m : Nat) (news : List Value) (hx : a.eval x = y) (hr : Rd w T size y m news) (h1 : ∀ u ∈ news, u.oneCell' = true)
    (h63 : n + m ≤ maxLen) (hbytes : (n + m) * bytes ≤ 140737488355328) (hbase : base ≤ w.heap.size)
    (h : ∀ v' w', w'.ownsRow base e size v' (n + m) (xs ++ news) → w.grownBy w' v.ownBlock → (v'.ownBlock = v.ownBlock ∨ v'.ownBlock = some w.heap.size) → (v' = .slice none 0 0 ↔ v = .slice none 0 0 ∧ m = 0) → K (a.put o.dst v') w') :
    if Region.wanted o (yielded ops a.tmps) = true then Oper.wp P o a w K Q else E := by
  have hw : Region.wanted o (yielded ops a.tmps) = true := by simp [Region.wanted, hgd]
  rw [if_pos hw]
  exact wp_append_rd w s x ho hT base v n xs hs hown T y m news hx hr h1 h63 hbytes hbase h
end

/-- A block of n cells just made reads as a slice of its elements. -/
theorem Rd.fresh (w : World) (cs : Array Value) (e : TypeId) (k n : Nat) (hn : cs.size = n * k) (hm : n ≤ maxLen) :
    Rd (w.alloc (.cells cs e)) (· = e) k (.slice (some ⟨w.heap.size, 0, none⟩) n n) n cs.toList :=
  ⟨by simpa using hn, _, _, rfl, Nat.le_refl _, hm, (fun e => by cases e), fun ad e _ => by
    injection e with e
    subst e
    exact ⟨rfl, cs, _, _, rfl, heap_alloc_new w _, fun j u hu => by simpa using hu⟩⟩
theorem below_drewN {B : Nat} {a w : World} (h : Below B a w) (n : Nat) : Below B a (w.drewN n) := ⟨h.os, h.tape, h.output, h.size, h.block⟩
theorem bcell {W w1 : World} (hb : Below W.heap.size W w1) : (∀ b o, b < W.heap.size → w1.cell? ⟨b, o, none⟩ = W.cell? ⟨b, o, none⟩) ∧ (∀ b o, b < W.heap.size → w1.frozen? ⟨b, o, none⟩ = W.frozen? ⟨b, o, none⟩) :=
  ⟨fun b o h => hb.cell (p := ⟨b, o, none⟩) h, fun b o h => hb.frozen (p := ⟨b, o, none⟩) h⟩

theorem bcellB {B : Nat} {W w1 : World} (hb : Below B W w1) : (∀ b o, b < B → w1.cell? ⟨b, o, none⟩ = W.cell? ⟨b, o, none⟩) ∧ (∀ b o, b < B → w1.frozen? ⟨b, o, none⟩ = W.frozen? ⟨b, o, none⟩) :=
  ⟨fun b o h => hb.cell (p := ⟨b, o, none⟩) h, fun b o h => hb.frozen (p := ⟨b, o, none⟩) h⟩
/-- A list of ints as cells; an untyped reading. -/
def intsC (l : List Int) : List Value := l.map (Value.int .i64)
def IntsAt (w : World) (v : Value) (l : List Int) : Prop := Rd w (fun _ => True) 1 v l.length (intsC l) ∧ ∀ x ∈ l, -9223372036854775808 ≤ x ∧ x ≤ 9223372036854775807
theorem IntsAt.below {w w' : World} {v : Value} {l : List Int} (h : IntsAt w v l) (hb : Below w.heap.size w w') : IntsAt w' v l := ⟨h.1.below hb, h.2⟩
theorem intsC_one (l : List Int) : ∀ u ∈ intsC l, u.oneCell' = true := by
  intro u hu
  obtain ⟨x, _, rfl⟩ := List.mem_map.1 hu
  rfl
theorem intsC_get (l : List Int) (i : Nat) (h : i < l.length) : (intsC l)[i]? = some (.int .i64 l[i]) := by simp [intsC, h]
theorem rowIs_ne {w : World} {b b' : Nat} {t t' : TypeId} {n n' : Nat} {f f' : Nat → Value} (h : w.rowIs b t n f) (h' : w.rowIs b' t' n' f') (hne : t ≠ t') : b ≠ b' := by
  rintro rfl
  obtain ⟨c, hc, _⟩ := h
  obtain ⟨c', hc', _⟩ := h'
  rw [hc] at hc'
  injection hc' with h1
  injection h1 with _ h2 _
  exact hne h2
theorem rowIs_below {B : Nat} {w w' : World} {b : Nat} {t : TypeId} {n : Nat} {f : Nat → Value} (h : w.rowIs b t n f) (hb : Below B w w') (hB : b < B) : w'.rowIs b t n f := h.of_block (hb.block b hB)
theorem rowIs_rd {w : World} {b : Nat} {t : TypeId} {n : Nat} {f : Nat → Value} (h : w.rowIs b t n f) (hn : n ≤ maxLen) : Rd w (· = t) 1 (.slice (some ⟨b, 0, none⟩) n n) n ((List.range n).map f) := by
  obtain ⟨c, hc, hs, hf⟩ := h
  refine ⟨by simp, _, _, rfl, Nat.le_refl _, hn, (fun e => by cases e), fun ad e _ => ?_⟩
  injection e with e
  subst e
  refine ⟨rfl, c, _, _, rfl, hc, fun j u hu => ?_⟩
  rw [List.getElem?_map] at hu
  obtain ⟨x, hx, rfl⟩ := Option.map_eq_some_iff.1 hu
  obtain ⟨hj, rfl⟩ := List.getElem?_eq_some_iff.1 hx
  simp only [List.length_range] at hj
  simp only [List.getElem_range]
  rw [Nat.zero_add]
  exact hf j hj
theorem ret_val {a b : Value} (h : a = b) : Ending.returned a = .returned b := by rw [h]
end Go.Lab
/- The disk as plain data: what each operation does and what it answers. No program in sight. -/
namespace Go.Disk
open Go Go.Lab
structure Sec where
  text : ByteArray
  next : ByteArray
  dirty : Bool
  worn : Bool
  deriving DecidableEq
structure Dk where
  s : List Sec
  off : Bool
  left : Int
  deriving DecidableEq
structure Op where
  kind : Int
  i : Int
  bit : Int
  text : ByteArray
  picks : List Int
def zeros : ByteArray := ⟨(List.replicate 64 0).toArray⟩
def secZ : Sec := ⟨zeros, ByteArray.empty, false, false⟩
def newD (n : Nat) : Dk := ⟨List.replicate n secZ, false, -1⟩
def atS (S : List Sec) (k : Nat) : Sec := S.getD k secZ
def Dk.isIn (D : Dk) (i : Int) : Bool := decide (0 ≤ i) && decide (i < D.s.length)
def checkZ (D : Dk) (i : Int) : Int := if D.off = true then 25 else if D.isIn i = false then 1 else 0
def stepE (D : Dk) : Int := if D.left = 0 then 25 else 0
def stepD (D : Dk) : Dk := if D.left = 0 then { D with off := true } else if 0 < D.left then { D with left := D.left - 1 } else D
def readZ (D : Dk) (i : Int) : ByteArray × Int :=
  if D.off = true then (ByteArray.empty, 25) else if D.isIn i = false then (ByteArray.empty, 1) else
  if (atS D.s i.toNat).dirty = true then ((atS D.s i.toNat).next, 0) else ((atS D.s i.toNat).text, 0)
def writeS (S : List Sec) (k : Nat) (s : ByteArray) : List Sec := S.set k { atS S k with next := s, dirty := true }
def writeE (D : Dk) (i : Int) (s : ByteArray) : Int :=
  if D.off = true then 25 else if D.isIn i = false then 1 else if s.size ≠ 64 then 1 else stepE D
def writeD (D : Dk) (i : Int) (s : ByteArray) : Dk :=
  if D.off = true then D else if D.isIn i = false then D else if s.size ≠ 64 then D else
  if stepE D = 25 then stepD D else { stepD D with s := writeS D.s i.toNat s }
def settleS (x : Sec) (p : Nat) : Sec := { text := if x.worn = true then x.text else x.next.extract 0 p ++ x.text.extract p 64, next := ByteArray.empty, dirty := false, worn := x.worn }
def clampP (p : Int) : Nat := (max 0 (min p 64)).toNat
def settleAt (S : List Sec) (k : Nat) (p : Int) : List Sec := S.set k (settleS (atS S k) (clampP p))
def mountS : List Sec → List Int → List Sec
  | [], _ => []
  | x :: r, ps => if x.dirty = true then settleS x (clampP (ps.headD 64)) :: mountS r ps.tail else x :: mountS r ps
def flushE (D : Dk) : Int := if D.off = true then 25 else stepE D
def flushD (D : Dk) : Dk := if D.off = true then D else if stepE D = 25 then stepD D else { stepD D with s := mountS D.s [] }
def tripD (D : Dk) (n : Int) : Dk := { D with left := max (-1) n }
def mountD (D : Dk) (ps : List Int) : Dk := ⟨mountS D.s ps, false, -1⟩
def rotOk (D : Dk) (i bit : Int) : Bool := D.isIn i && (decide (0 ≤ bit) && decide (bit ≤ 511))
def nums (s : ByteArray) : List Int := s.data.toList.map fun b => (b.toNat : Int)
def rotN (x k : Nat) : Nat := x ^^^ 2 ^ k
def rotB (s : ByteArray) (bit : Nat) : ByteArray := ⟨(s.data.toList.set (bit / 8) (UInt8.ofNat (rotN (s.data.toList.getD (bit / 8) 0).toNat (bit % 8)))).toArray⟩
def rotS (S : List Sec) (k bit : Nat) : List Sec := S.set k { atS S k with text := rotB (atS S k).text bit }
def rotD (D : Dk) (i bit : Int) : Dk := if rotOk D i bit = true then { D with s := rotS D.s i.toNat bit.toNat } else D
def wearS (S : List Sec) (k : Nat) : List Sec := S.set k { atS S k with worn := true }
def wearD (D : Dk) (i : Int) : Dk := if D.isIn i = true then { D with s := wearS D.s i.toNat } else D
def pendZ : List Sec → Nat → List Int
  | [], _ => []
  | x :: r, k => if x.dirty = true then (k : Int) :: pendZ r (k + 1) else pendZ r (k + 1)
def wornZ : List Sec → Nat → List Int
  | [], _ => []
  | x :: r, k => if x.worn = true then (k : Int) :: wornZ r (k + 1) else wornZ r (k + 1)
def imageZ (D : Dk) : List ByteArray := D.s.map (·.text)

/-! ### what stays true of a disk -/
def Sec.Ok (x : Sec) : Prop := x.text.size = 64 ∧ (x.dirty = true → x.next.size = 64)
def SOk (S : List Sec) : Prop := 1 ≤ S.length ∧ S.length ≤ 4096 ∧ ∀ x ∈ S, x.Ok
def Dk.Ok (D : Dk) : Prop := SOk D.s ∧ -1 ≤ D.left ∧ D.left ≤ 9223372036854775807
theorem atS_get {S : List Sec} {k : Nat} (h : k < S.length) : atS S k = S[k] := by simp [atS, h]
theorem SOk.at {S : List Sec} (h : SOk S) {k : Nat} (hk : k < S.length) : (atS S k).Ok := by rw [atS_get hk]; exact h.2.2 _ (List.getElem_mem hk)
theorem SOk.set {S : List Sec} (h : SOk S) (k : Nat) {x : Sec} (hx : x.Ok) : SOk (S.set k x) :=
  ⟨by simpa using h.1, by simpa using h.2.1, fun y hy => by
    rcases List.mem_or_eq_of_mem_set hy with h1 | rfl
    · exact h.2.2 y h1
    · exact hx⟩
theorem zeros_size : zeros.size = 64 := by decide
theorem secZ_ok : secZ.Ok := ⟨zeros_size, fun h => by cases h⟩
theorem SOk.new {n : Nat} (h1 : 1 ≤ n) (h2 : n ≤ 4096) : SOk (List.replicate n secZ) := ⟨by simpa using h1, by simpa using h2, fun x hx => by rw [(List.mem_replicate.1 hx).2]; exact secZ_ok⟩
theorem newD_ok {n : Nat} (h1 : 1 ≤ n) (h2 : n ≤ 4096) : (newD n).Ok := ⟨SOk.new h1 h2, by simp [newD], by simp [newD]⟩
theorem writeS_ok {S : List Sec} (h : SOk S) {k : Nat} (hk : k < S.length) {s : ByteArray} (hs : s.size = 64) : SOk (writeS S k s) := h.set k ⟨(h.at hk).1, fun _ => hs⟩
theorem extract_size (s : ByteArray) (a b : Nat) : (s.extract a b).size = min b s.size - a := ByteArray.size_extract
theorem settleS_size {x : Sec} (h : x.Ok) (hd : x.dirty = true) {p : Nat} (hp : p ≤ 64) : (x.next.extract 0 p ++ x.text.extract p 64).size = 64 := by
  have h1 := h.1
  have h2 := h.2 hd
  rw [ByteArray.size_append, extract_size, extract_size]
  omega
theorem settleS_ok {x : Sec} (h : x.Ok) (hd : x.dirty = true) {p : Nat} (hp : p ≤ 64) : (settleS x p).Ok := by
  refine ⟨?_, fun h => by cases h⟩
  show (if x.worn = true then x.text else _).size = 64
  split
  · exact h.1
  · exact settleS_size h hd hp
theorem clampP_le (p : Int) : clampP p ≤ 64 := by unfold clampP; omega
theorem settleAt_ok {S : List Sec} (h : SOk S) {k : Nat} (hk : k < S.length) (hd : (atS S k).dirty = true) (p : Int) : SOk (settleAt S k p) := h.set k (settleS_ok (h.at hk) hd (clampP_le p))
theorem mountS_len : ∀ (S : List Sec) (ps : List Int), (mountS S ps).length = S.length
  | [], _ => rfl
  | x :: r, ps => by
    rw [mountS]
    split <;> simp [mountS_len r]
theorem mountS_mem : ∀ (S : List Sec) (ps : List Int), (∀ x ∈ S, x.Ok) → ∀ y ∈ mountS S ps, y.Ok
  | [], _, _, y, hy => by cases hy
  | x :: r, ps, h, y, hy => by
    rw [mountS] at hy
    split at hy
    · rename_i hd
      rcases List.mem_cons.1 hy with rfl | hy
      · exact settleS_ok (h x (by simp)) hd (clampP_le _)
      · exact mountS_mem r _ (fun z hz => h z (by simp [hz])) y hy
    · rcases List.mem_cons.1 hy with rfl | hy
      · exact h y (by simp)
      · exact mountS_mem r _ (fun z hz => h z (by simp [hz])) y hy
theorem mountS_ok {S : List Sec} (h : SOk S) (ps : List Int) : SOk (mountS S ps) := ⟨by rw [mountS_len]; exact h.1, by rw [mountS_len]; exact h.2.1, mountS_mem S ps h.2.2⟩
theorem rotB_size (s : ByteArray) (bit : Nat) : (rotB s bit).size = s.size := by
  show (List.toArray _).size = s.data.size
  rw [List.size_toArray, List.length_set, Array.length_toList]
theorem rotS_ok {S : List Sec} (h : SOk S) {k : Nat} (hk : k < S.length) (bit : Nat) : SOk (rotS S k bit) := h.set k ⟨by rw [rotB_size]; exact (h.at hk).1, (h.at hk).2⟩
theorem wearS_ok {S : List Sec} (h : SOk S) {k : Nat} (hk : k < S.length) : SOk (wearS S k) := h.set k ⟨(h.at hk).1, (h.at hk).2⟩
theorem stepD_s (D : Dk) : (stepD D).s = D.s := by
  unfold stepD
  split
  · rfl
  · split <;> rfl
theorem stepD_left (D : Dk) (h : -1 ≤ D.left ∧ D.left ≤ 9223372036854775807) : -1 ≤ (stepD D).left ∧ (stepD D).left ≤ 9223372036854775807 := by
  unfold stepD
  split
  · exact h
  · split
    · simp only; omega
    · exact h
theorem stepD_ok {D : Dk} (h : D.Ok) : (stepD D).Ok := ⟨by rw [stepD_s]; exact h.1, stepD_left D h.2⟩
theorem isIn_lt {D : Dk} {i : Int} (h : D.isIn i = true) : 0 ≤ i ∧ i.toNat < D.s.length := by
  simp only [Dk.isIn, Bool.and_eq_true, decide_eq_true_eq] at h
  omega
theorem isIn_out {D : Dk} {i : Int} (h : D.isIn i = false) : i < 0 ∨ (0 ≤ i ∧ (D.s.length : Int) ≤ i) := by
  simp only [Dk.isIn, Bool.and_eq_false_iff, decide_eq_false_iff_not] at h
  omega
theorem isIn_mk {D : Dk} {k : Nat} (h : k < D.s.length) : D.isIn (k : Int) = true := by
  simp only [Dk.isIn, Bool.and_eq_true, decide_eq_true_eq]
  omega
theorem writeD_ok {D : Dk} (h : D.Ok) (i : Int) (s : ByteArray) : (writeD D i s).Ok := by
  unfold writeD
  split
  · exact h
  split
  · exact h
  rename_i hin
  split
  · exact h
  rename_i hs
  split
  · exact stepD_ok h
  · exact ⟨writeS_ok h.1 (isIn_lt (by simpa using hin)).2 (by simpa using hs), (stepD_ok h).2⟩
theorem flushD_ok {D : Dk} (h : D.Ok) : (flushD D).Ok := by
  unfold flushD
  split
  · exact h
  split
  · exact stepD_ok h
  · exact ⟨mountS_ok h.1 _, (stepD_ok h).2⟩
theorem tripD_ok {D : Dk} (h : D.Ok) {n : Int} (hn : n ≤ 9223372036854775807) : (tripD D n).Ok := ⟨h.1, by simp only [tripD]; omega, by simp only [tripD]; omega⟩
theorem mountD_ok {D : Dk} (h : D.Ok) (ps : List Int) : (mountD D ps).Ok := ⟨mountS_ok h.1 ps, by simp [mountD], by simp [mountD]⟩
theorem rotD_ok {D : Dk} (h : D.Ok) (i bit : Int) : (rotD D i bit).Ok := by
  unfold rotD
  split
  · rename_i hr
    simp only [rotOk, Bool.and_eq_true] at hr
    exact ⟨rotS_ok h.1 (isIn_lt hr.1).2 _, h.2⟩
  · exact h
theorem wearD_ok {D : Dk} (h : D.Ok) (i : Int) : (wearD D i).Ok := by
  unfold wearD
  split
  · rename_i hr
    exact ⟨wearS_ok h.1 (isIn_lt hr).2, h.2⟩
  · exact h
/-! ### settling one after the other is mounting -/
theorem mountS_append : ∀ (A B : List Sec) (ps : List Int), mountS (A ++ B) ps = mountS A ps ++ mountS B (ps.drop (A.filter (·.dirty)).length)
  | [], B, ps => by simp [mountS]
  | x :: A, B, ps => by
    rw [List.cons_append, mountS, mountS]
    split
    · rename_i hd
      rw [mountS_append A B, List.filter_cons, if_pos hd, List.length_cons, List.cons_append, List.drop_tail]
    · rename_i hd
      rw [mountS_append A B, List.filter_cons, if_neg hd, List.cons_append]
theorem mountS_clean : ∀ (A : List Sec) (ps : List Int), (∀ x ∈ A, x.dirty = false) → mountS A ps = A
  | [], _, _ => rfl
  | x :: A, ps, h => by
    rw [mountS, if_neg (by rw [h x (by simp)]; simp), mountS_clean A ps (fun y hy => h y (by simp [hy]))]
/-- how many sectors before k are pending -/
def cntD (S : List Sec) (k : Nat) : Nat := ((S.take k).filter (·.dirty)).length
/-- The disk in the middle: the sectors before k are settled. -/
def mid (S : List Sec) (ps : List Int) (k : Nat) : List Sec := mountS (S.take k) ps ++ S.drop k
theorem mid_zero (S : List Sec) (ps : List Int) : mid S ps 0 = S := by simp [mid, mountS]
theorem mid_all (S : List Sec) (ps : List Int) {k : Nat} (h : S.length ≤ k) : mid S ps k = mountS S ps := by simp [mid, List.take_of_length_le h, List.drop_eq_nil_of_le h]
theorem mid_len (S : List Sec) (ps : List Int) (k : Nat) : (mid S ps k).length = S.length := by simp [mid, mountS_len]; omega
theorem mid_at {S : List Sec} (ps : List Int) {k j : Nat} (h : k ≤ j) (hj : j < S.length) : atS (mid S ps k) j = S[j] := by
  rw [atS_get (by rw [mid_len]; exact hj)]
  simp only [mid]
  rw [List.getElem_append_right (by rw [mountS_len, List.length_take]; omega)]
  simp only [mountS_len, List.length_take, List.getElem_drop]
  congr 1
  omega
theorem cntD_succ {S : List Sec} {k : Nat} (h : k < S.length) : cntD S (k + 1) = cntD S k + if S[k].dirty = true then 1 else 0 := by
  unfold cntD
  rw [List.take_succ_eq_append_getElem h, List.filter_append, List.length_append]
  congr 1
  by_cases hd : S[k].dirty = true
  · simp [hd]
  · simp [hd]
theorem mid_succ_dirty {S : List Sec} (ps : List Int) {k : Nat} (h : k < S.length) (hd : S[k].dirty = true) : settleAt (mid S ps k) k (ps.getD (cntD S k) 64) = mid S ps (k + 1) := by
  unfold settleAt
  rw [mid_at ps (Nat.le_refl _) h]
  unfold mid
  rw [List.take_succ_eq_append_getElem h, mountS_append, List.set_append_right _ _ (by rw [mountS_len, List.length_take]; omega)]
  have e : k - (mountS (S.take k) ps).length = 0 := by rw [mountS_len, List.length_take]; omega
  rw [e, List.drop_eq_getElem_cons h, List.set_cons_zero, List.append_assoc, mountS, if_pos hd, mountS]
  congr 2
  rw [show ((S.take k).filter (·.dirty)).length = cntD S k from rfl]
  congr 2
  rw [List.headD_eq_head?_getD, List.head?_drop]; rfl
theorem mid_succ_clean {S : List Sec} (ps : List Int) {k : Nat} (h : k < S.length) (hd : S[k].dirty = false) : mid S ps (k + 1) = mid S ps k := by
  unfold mid
  rw [List.take_succ_eq_append_getElem h, mountS_append, mountS_clean [S[k]] _ (by simpa using hd), List.append_assoc]
  congr 1
  rw [List.drop_eq_getElem_cons h]; rfl
theorem cntD_mono (S : List Sec) {j k : Nat} (h : j ≤ k) : cntD S j ≤ cntD S k := by
  unfold cntD
  have : S.take j = (S.take k).take j := by rw [List.take_take, Nat.min_eq_left h]
  rw [this]
  exact ((List.take_sublist j (S.take k)).filter _).length_le
theorem mid_same {S : List Sec} (ps : List Int) : ∀ (d j : Nat), j + d ≤ S.length → cntD S j = cntD S (j + d) → mid S ps j = mid S ps (j + d)
  | 0, j, _, _ => rfl
  | d + 1, j, h, hc => by
    have h1 := cntD_mono S (Nat.le_add_right (j + 1) d)
    have e : j + (d + 1) = j + 1 + d := by omega
    rw [e] at hc ⊢
    have hs := cntD_succ (S := S) (k := j) (by omega)
    have hd : S[j].dirty = false := by
      cases hq : S[j].dirty
      · rfl
      · rw [hq, if_pos rfl] at hs; omega
    rw [hd] at hs
    simp only [Bool.false_eq_true, if_false, Nat.add_zero] at hs
    rw [← mid_same ps d (j + 1) (by omega) (by omega), mid_succ_clean ps (by omega) hd]
theorem mid_eq {S : List Sec} (ps : List Int) {j k : Nat} (hj : j ≤ S.length) (hk : k ≤ S.length) (hc : cntD S j = cntD S k) : mid S ps j = mid S ps k := by
  rcases Nat.le_total j k with h | h
  · obtain ⟨d, rfl⟩ := Nat.exists_eq_add_of_le h
    exact mid_same ps d j hk hc
  · obtain ⟨d, rfl⟩ := Nat.exists_eq_add_of_le h
    exact (mid_same ps d k hj hc.symm).symm
theorem pendZ_len : ∀ (S : List Sec) (o : Nat), (pendZ S o).length = (S.filter (·.dirty)).length
  | [], _ => rfl
  | x :: r, o => by
    rw [pendZ]
    by_cases hd : x.dirty = true
    · rw [if_pos hd, List.filter_cons, if_pos hd, List.length_cons, List.length_cons, pendZ_len r]
    · rw [if_neg hd, List.filter_cons, if_neg hd, pendZ_len r]
theorem pendZ_cnt (S : List Sec) : (pendZ S 0).length = cntD S S.length := by rw [pendZ_len]; simp [cntD]
theorem pendZ_get : ∀ (S : List Sec) (o k : Nat) (h : k < (pendZ S o).length), ∃ i : Nat, ∃ hi : i < S.length, (pendZ S o)[k] = ((o + i : Nat) : Int) ∧ S[i].dirty = true ∧ cntD S i = k
  | [], _, _, h => by simp [pendZ] at h
  | x :: r, o, k, h => by
    by_cases hd : x.dirty = true
    · have e : pendZ (x :: r) o = (o : Int) :: pendZ r (o + 1) := by rw [pendZ, if_pos hd]
      cases k with
      | zero => exact ⟨0, by simp, by simp [e], by simpa using hd, by simp [cntD]⟩
      | succ k =>
        obtain ⟨i, hi, h1, h2, h3⟩ := pendZ_get r (o + 1) k (by rw [e] at h; simpa using h)
        refine ⟨i + 1, by simpa using hi, ?_, by simpa using h2, ?_⟩
        · simp only [e, List.getElem_cons_succ, h1]
          congr 1; omega
        · unfold cntD at h3 ⊢
          rw [List.take_succ_cons, List.filter_cons, if_pos hd, List.length_cons, h3]
    · have e : pendZ (x :: r) o = pendZ r (o + 1) := by rw [pendZ, if_neg hd]
      obtain ⟨i, hi, h1, h2, h3⟩ := pendZ_get r (o + 1) k (by rw [e] at h; exact h)
      refine ⟨i + 1, by simpa using hi, ?_, by simpa using h2, ?_⟩
      · simp only [e, h1]
        congr 1; omega
      · unfold cntD at h3 ⊢
        rw [List.take_succ_cons, List.filter_cons, if_neg hd, h3]
theorem pendZ_mem : ∀ (S : List Sec) (o : Nat) (x : Int), x ∈ pendZ S o ↔ ∃ i : Nat, ∃ hi : i < S.length, x = ((o + i : Nat) : Int) ∧ S[i].dirty = true
  | [], _, x => by simp [pendZ]
  | y :: r, o, x => by
    have ih := pendZ_mem r (o + 1) x
    rw [pendZ]
    constructor
    · intro h
      have h2 : (y.dirty = true ∧ x = (o : Int)) ∨ x ∈ pendZ r (o + 1) := by
        split at h
        · rename_i hd
          rcases List.mem_cons.1 h with h | h
          · exact .inl ⟨hd, h⟩
          · exact .inr h
        · exact .inr h
      rcases h2 with ⟨hd, rfl⟩ | h
      · exact ⟨0, by simp, by simp, by simpa using hd⟩
      · obtain ⟨i, hi, rfl, h3⟩ := ih.1 h
        exact ⟨i + 1, by simpa using hi, by congr 1; omega, by simpa using h3⟩
    · rintro ⟨i, hi, rfl, h3⟩
      cases i with
      | zero =>
        have hd : y.dirty = true := by simpa using h3
        rw [if_pos hd]; simp
      | succ i =>
        have := ih.2 ⟨i, by simpa using hi, by congr 1; omega, by simpa using h3⟩
        split
        · exact List.mem_cons_of_mem _ this
        · exact this
theorem pendZ_sorted : ∀ (S : List Sec) (o : Nat), (pendZ S o).Pairwise (· < ·)
  | [], _ => List.Pairwise.nil
  | y :: r, o => by
    have ih := pendZ_sorted r (o + 1)
    rw [pendZ]
    split
    · refine List.pairwise_cons.2 ⟨fun x hx => ?_, ih⟩
      obtain ⟨i, _, rfl, _⟩ := (pendZ_mem r (o + 1) x).1 hx
      omega
    · exact ih
/-- The worn sectors are the pending ones of another disk. -/
def flip (x : Sec) : Sec := { x with dirty := x.worn }
theorem wornZ_flip : ∀ (S : List Sec) (o : Nat), wornZ S o = pendZ (S.map flip) o
  | [], _ => rfl
  | x :: r, o => by rw [wornZ, List.map_cons, pendZ, wornZ_flip r]; rfl
theorem wornZ_mem (S : List Sec) (o : Nat) (x : Int) : x ∈ wornZ S o ↔ ∃ i : Nat, ∃ hi : i < S.length, x = ((o + i : Nat) : Int) ∧ S[i].worn = true := by
  rw [wornZ_flip, pendZ_mem]
  constructor
  · rintro ⟨i, hi, h1, h2⟩
    exact ⟨i, by simpa using hi, h1, by simpa [flip] using h2⟩
  · rintro ⟨i, hi, h1, h2⟩
    exact ⟨i, by simpa using hi, h1, by simpa [flip] using h2⟩
theorem wornZ_sorted (S : List Sec) (o : Nat) : (wornZ S o).Pairwise (· < ·) := by rw [wornZ_flip]; exact pendZ_sorted _ _
theorem pendZ_le (S : List Sec) (o : Nat) : (pendZ S o).length ≤ S.length := by rw [pendZ_len]; exact List.length_filter_le _ _
theorem wornZ_le (S : List Sec) (o : Nat) : (wornZ S o).length ≤ S.length := by
  rw [wornZ_flip]
  have := pendZ_le (S.map flip) o
  simpa using this
end Go.Disk
