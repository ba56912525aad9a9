/- Plain words on memory, used by all proofs of this seat: what a slice value reads, that it reads on while other blocks turn, and appending from whatever source. Nothing here speaks of the program. -/
import Derived.WalkKit
import Derived.WalkSpells
import Derived.WalkLawsBesides
import Derived.Lib.Hide
import Derived.Maps.AppendAt
import Derived.Deep.Draws
import Derived.Deep.AppendLies
import Derived.Deep.QuietTactic
import Derived.Deep.RegionHeld3
import Derived.Deep.RegionLaw
import Derived.Deep.RegionWith
import Derived.Deep.LoopGhost
import Derived.Deep.Light
import Derived.Deep.DeepCutAuto
import Derived.Deep.CutBlock
import Derived.Deep.DeepFit
import Derived.Deep.DeepMust
import Derived.Deep.OwnRows
import Derived.BigQuiet
import Derived.WalkSmall
import Derived.RangeFuncNested
import Derived.RangeFuncLeaves
import Derived.RangeFuncCalls
import Derived.RangeFuncBound
import Derived.RangeFuncWrites
import Derived.RangeFuncBox
import Derived.OrdersIn
import Derived.OrdersHeld
import Derived.TacticsIn
namespace Go.Lab
open Go Go.RowKit

theorem hidep {p : Prop} (h : p) : Hid p := h

def Keeps (T : TypeId -> Prop) (w w' : World) : Prop :=
  w.heap.size <= w'.heap.size /\ ∀ (b : Nat) (cur : Array Value) (t : TypeId) (fz : Nat × Nat), T t -> w.heap[b]? = some (.cells cur t fz) -> w'.heap[b]? = some (.cells cur t fz)

theorem Keeps.refl (T : TypeId -> Prop) (w : World) : Keeps T w w := ⟨Nat.le_refl _, fun _ _ _ _ _ h => h⟩
theorem Keeps.trans {T : TypeId -> Prop} {a b c : World} (h : Keeps T a b) (k : Keeps T b c) : Keeps T a c :=
  ⟨Nat.le_trans h.1 k.1, fun x cur t fz ht hx => k.2 x cur t fz ht (h.2 x cur t fz ht hx)⟩
theorem Keeps.mono {T T' : TypeId -> Prop} {a b : World} (h : Keeps T a b) (hT : ∀ t, T' t -> T t) : Keeps T' a b :=
  ⟨h.1, fun x cur t fz ht hx => h.2 x cur t fz (hT t ht) hx⟩
theorem lt_of_block {w : World} {b : Nat} {o : Obj} (h : w.heap[b]? = some o) : b < w.heap.size := (Array.getElem?_eq_some_iff.1 h).1
theorem Keeps.below (T : TypeId -> Prop) {w w' : World} (h : Below w.heap.size w w') : Keeps T w w' :=
  ⟨h.size, fun b _ _ _ _ hx => (h.block b (lt_of_block hx)).trans hx⟩
theorem Keeps.alloc (T : TypeId -> Prop) (w : World) (o : Obj) : Keeps T w (w.alloc o) := Keeps.below T ((Below.refl _ _).alloc (Nat.le_refl _) o)
theorem Keeps.drew (T : TypeId -> Prop) (w : World) : Keeps T w w.drew := ⟨Nat.le_refl _, fun _ _ _ _ _ h => h⟩
theorem Keeps.drewN (T : TypeId -> Prop) (w : World) (n : Nat) : Keeps T w (w.drewN n) := ⟨Nat.le_refl _, fun _ _ _ _ _ h => h⟩
theorem Keeps.grown {T : TypeId -> Prop} {w w' : World} {base : Nat} {e : TypeId} {size n : Nat} {v : Value} {xs : List Value}
    (hown : w.ownsRow base e size v n xs) (hg : w.grownBy w' v.ownBlock) (hT : ∀ t, T t -> t ≠ e) : Keeps T w w' := by
  refine ⟨hg.size, fun b cur t fz ht hx => ?_⟩
  refine (hg.block b (lt_of_block hx) (fun hb => ?_)).trans hx
  rcases hown.2 with ⟨rfl, _⟩ | ⟨g, cap, cur', rfl, _, hh, _⟩
  · simp [Value.ownBlock] at hb
  · simp [Value.ownBlock] at hb
    subst hb
    rw [hh] at hx
    injection hx with hx
    injection hx with _ h2 _
    exact hT t ht h2.symm
theorem Keeps.setCell {T : TypeId -> Prop} {w : World} {a : Addr} {e : TypeId} {cur0 : Array Value} {fz0 : Nat × Nat}
    (hb : w.heap[a.block]? = some (.cells cur0 e fz0)) (hT : ∀ t, T t -> t ≠ e) (u : Value) : Keeps T w (w.setCell a u) := by
  refine ⟨by simp [World.setCell], fun b cur t fz ht hx => ?_⟩
  have hne : b ≠ a.block := by
    rintro rfl
    rw [hb] at hx
    injection hx with hx
    injection hx with _ h2 _
    exact hT t ht h2.symm
  exact (Below.heap_setCell w a u b hne).trans hx
def Rd (w : World) (T : TypeId -> Prop) (k : Nat) (v : Value) (n : Nat) (cs : List Value) : Prop :=
  cs.length = n * k /\ ∃ a cap, v = .slice a n cap /\ n <= cap /\ cap <= maxLen /\ (a = none -> cap = 0) /\
    ∀ ad, a = some ad -> 0 < cap -> ad.spot = none /\ ∃ (cur : Array Value) (t : TypeId) (fz : Nat × Nat), T t /\ w.heap[ad.block]? = some (.cells cur t fz) /\ ∀ j u, cs[j]? = some u -> cur[ad.off + j]? = some u

section
variable {w w' : World} {T T' : TypeId -> Prop} {k n : Nat} {v : Value} {cs : List Value}
theorem Rd.nil (w : World) (T : TypeId -> Prop) (k : Nat) : Rd w T k (.slice none 0 0) 0 [] :=
  ⟨by simp, none, 0, rfl, Nat.le_refl _, Nat.zero_le _, fun _ => rfl, fun _ h _ => by cases h⟩
theorem Rd.keeps (h : Rd w T k v n cs) (hk : Keeps T w w') : Rd w' T k v n cs := by
  obtain ⟨h1, a, cap, h2, h3, h4, h5, h6⟩ := h
  refine ⟨h1, a, cap, h2, h3, h4, h5, fun ad e h0 => ?_⟩
  obtain ⟨g1, cur, t, fz, g2, g3, g4⟩ := h6 ad e h0
  exact ⟨g1, cur, t, fz, g2, hk.2 _ _ _ _ g2 g3, g4⟩
theorem Rd.below (h : Rd w T k v n cs) (hb : Below w.heap.size w w') : Rd w' T k v n cs := h.keeps (Keeps.below T hb)
theorem Rd.mono (h : Rd w T k v n cs) (hT : ∀ t, T t -> T' t) : Rd w T' k v n cs := by
  obtain ⟨h1, a, cap, h2, h3, h4, h5, h6⟩ := h
  refine ⟨h1, a, cap, h2, h3, h4, h5, fun ad e h0 => ?_⟩
  obtain ⟨g1, cur, t, fz, g2, g3, g4⟩ := h6 ad e h0
  exact ⟨g1, cur, t, fz, hT t g2, g3, g4⟩
theorem Rd.form (h : Rd w T k v n cs) : ∃ a cap, v = .slice a n cap /\ n <= cap /\ cap <= maxLen := by
  obtain ⟨_, a, cap, h2, h3, h4, _⟩ := h
  exact ⟨a, cap, h2, h3, h4⟩
theorem Rd.at {a : Option Addr} {c : Nat} (h : Rd w T k (.slice a n c) n cs) (hn : 0 < n) :
    ∃ b off, a = some ⟨b, off, none⟩ /\ b < w.heap.size /\ ∀ j u, cs[j]? = some u -> w.cell? ⟨b, off + j, none⟩ = some u := by
  obtain ⟨h1, a', cap, h2, h3, h4, h5, h6⟩ := h
  injection h2 with e1 e2 e3
  subst e1 e3
  cases a with
  | none => have := h5 rfl; omega
  | some ad =>
    obtain ⟨b, off, sp⟩ := ad
    obtain ⟨g1, cur, t, fz, g2, g3, g4⟩ := h6 _ rfl (by omega)
    simp only at g1
    subst g1
    refine ⟨b, off, rfl, lt_of_block g3, fun j u hu => ?_⟩
    simp only [World.cell?, g3]
    simpa using g4 j u hu
theorem Rd.of_own {base : Nat} {e : TypeId} (h : w.ownsRow base e k v n cs) : Rd w (· = e) k v n cs := by
  rcases h.2 with ⟨rfl, rfl⟩ | ⟨g, cap, cur, rfl, hb, hg, hn, hc, hs, ht⟩
  · have : cs = [] := List.eq_nil_of_length_eq_zero (by simpa using h.1)
    subst this
    exact Rd.nil _ _ _
  · refine ⟨h.1, _, _, rfl, hn, hc, (fun e => by cases e), fun ad e _ => ?_⟩
    injection e with e
    subst e
    refine ⟨rfl, cur, _, _, rfl, hg, fun j u hu => ?_⟩
    rw [<- ht, List.getElem?_take] at hu
    split at hu
    · simpa using hu
    · cases hu
theorem Rd.pre {a : Option Addr} {c : Nat} (h : Rd w T k (.slice a n c) n cs) {j : Nat} (hj : j <= n) : Rd w T k (.slice a j c) j (cs.take (j * k)) := by
  obtain ⟨g1, a', cap, g2, g3, g4, g5, g6⟩ := h
  injection g2 with e1 e2 e3
  subst e1 e3
  have hle : j * k <= n * k := Nat.mul_le_mul_right k hj
  refine ⟨by rw [List.length_take, g1]; omega, _, _, rfl, by omega, g4, g5, fun ad e h0 => ?_⟩
  obtain ⟨s1, cur, t, fz, s2, s3, s4⟩ := g6 ad e h0
  refine ⟨s1, cur, t, fz, s2, s3, fun i u hu => s4 i u ?_⟩
  rw [List.getElem?_take] at hu
  split at hu
  · exact hu
  · cases hu
theorem Rd.part {a : Option Addr} {c : Nat} (h : Rd w T k (.slice a n c) n cs) {l hh m : Nat} (h1 : l <= hh) (h2 : hh <= n) (h3 : hh <= m) (h4 : m <= c) :
    Rd w T k (.slice (if m = l then a else a.map (·.add (l * k))) (hh - l) (m - l)) (hh - l) ((cs.drop (l * k)).take ((hh - l) * k)) := by
  obtain ⟨g1, a', cap, g2, g3, g4, g5, g6⟩ := h
  injection g2 with e1 e2 e3
  subst e1 e3
  have hle : hh * k <= n * k := Nat.mul_le_mul_right k h2
  have hle2 : l * k <= hh * k := Nat.mul_le_mul_right k h1
  refine ⟨by rw [List.length_take, List.length_drop, g1, Nat.sub_mul]; omega, _, _, rfl, by omega, by omega, fun e => ?_, fun ad e h0 => ?_⟩
  · split at e
    · omega
    · rw [Option.map_eq_none_iff] at e
      have := g5 e
      omega
  · by_cases hm : m = l
    · omega
    · rw [if_neg hm] at e
      obtain ⟨ad0, rfl, rfl⟩ := Option.map_eq_some_iff.1 e
      obtain ⟨s1, cur, t, fz, s2, s3, s4⟩ := g6 _ rfl (by omega)
      have hadd : (ad0.add (l * k)).block = ad0.block /\ (ad0.add (l * k)).off = ad0.off + l * k /\ (ad0.add (l * k)).spot = none := by
        unfold Addr.add
        split <;> simp_all
      obtain ⟨q1, q2, q3⟩ := hadd
      refine ⟨q3, cur, t, fz, s2, by rw [q1]; exact s3, fun j u hu => ?_⟩
      rw [q2, Nat.add_assoc]
      refine s4 _ u ?_
      rw [List.getElem?_take] at hu
      split at hu
      · rwa [List.getElem?_drop] at hu
      · cases hu
end

def SlT (P : Program) (t e : TypeId) (z : Value) (size bytes : Nat) : Prop :=
  P.underlying t = some (.slice e) /\ (P.info? e).map (fun i => (i.zero, i.size, i.bytes)) = some (some z, size, bytes) /\ z.cells.size = size /\ 0 < size
theorem SlT.und {P : Program} {t e : TypeId} {z : Value} {size bytes : Nat} (h : SlT P t e z size bytes) : P.underlying t = some (.slice e) := h.1

section
variable {P : Program} (w : World)
theorem run_append_rd {t e : TypeId} {z : Value} {size bytes : Nat} (hT : SlT P t e z size bytes) (ty : TypeId) (base : Nat)
    (v : Value) (n : Nat) (xs : List Value) (hown : w.ownsRow base e size v n xs)
    (T : TypeId -> Prop) (x : Value) (m : Nat) (news : List Value) (hr : Rd w T size x m news) (h1 : ∀ u ∈ news, u.oneCell' = true)
    (h63 : n + m <= maxLen) (hbytes : (n + m) * bytes <= 140737488355328) (hbase : base <= w.heap.size) :
    ∃ v' w', (Builtin.append_ #[t, t] ty #[v, x]).run P w = .ok v' w' /\ w'.ownsRow base e size v' (n + m) (xs ++ news) /\ w.grownBy w' v.ownBlock /\
      (v'.ownBlock = v.ownBlock \/ v'.ownBlock = some w.heap.size) /\ (v' = .slice none 0 0 ↔ v = .slice none 0 0 /\ m = 0) := by
  obtain ⟨ht, hinfo, hzs, hsz⟩ := hT
  obtain ⟨i, hi, hz, hsize, hby⟩ := info_parts hinfo
  obtain ⟨a, c, rfl, _, _⟩ := hr.form
  cases a with
  | none =>
    have hm : m = 0 := by
      rcases Nat.eq_zero_or_pos m with h | h
      · exact h
      · obtain ⟨_, _, e, _⟩ := hr.at h; cases e
    subst hm
    have hn : news = [] := List.eq_nil_of_length_eq_zero (by simpa using hr.1)
    subst hn
    refine ⟨v, w, ?_, by simpa using hown, ⟨rfl, rfl, rfl, Nat.le_refl _, fun _ _ _ => rfl⟩, .inl rfl, by simp⟩
    rcases hown.2 with ⟨rfl, rfl⟩ | ⟨g, cap, cur, rfl, _, _, hnc, _⟩
    · simp [Builtin.append_, run_underlying ht, sizeOf, typeInfo, hi, Builtin.lenOf, Builtin.firstCells]
    · simp [Builtin.append_, run_underlying ht, sizeOf, typeInfo, hi, Builtin.lenOf, Builtin.firstCells, hnc, storeCells]
  | some ad =>
    have hnews : ∀ j u, news[j]? = some u -> w.cell? (ad.add j) = some u := by
      intro j u hu
      have hm : 0 < m := by
        rcases Nat.eq_zero_or_pos m with h | h
        · subst h
          have : news = [] := List.eq_nil_of_length_eq_zero (by simpa using hr.1)
          subst this
          simp at hu
        · exact h
      obtain ⟨b, off, e, _, hc⟩ := hr.at hm
      injection e with e
      subst e
      have : (⟨b, off, none⟩ : Addr).add j = ⟨b, off + j, none⟩ := by unfold Addr.add; split <;> simp_all
      rw [this]
      exact hc j u hu
    obtain ⟨v', w', g1, g2, g3, g4, g5⟩ := run_append_own_at (P := P) w base t ty e i z size bytes ht hi hz hsize hby hzs hsz v n xs hown ad m c news hr.1 hnews h1 h63 hbytes hbase
    exact ⟨v', w', g1, g2, g3, g5, g4⟩

theorem wp_append_rd {o : Oper} {a : Act} {K : Act -> World -> Prop} {Q : Exit -> Act -> World -> Prop} (s x : Operand) {t e : TypeId} {z : Value} {size bytes : Nat}
    (ho : o.op = .call { callee := .builtin .append, args := #[s, x], argTypes := #[t, t] })
    (hT : SlT P t e z size bytes) (base : Nat) (v : Value) (n : Nat) (xs : List Value) (hs : a.eval s = v) (hown : w.ownsRow base e size v n xs)
    (T : TypeId -> Prop) (y : Value) (m : Nat) (news : List Value) (hx : a.eval x = y) (hr : Rd w T size y m news) (h1 : ∀ u ∈ news, u.oneCell' = true)
    (h63 : n + m <= maxLen) (hbytes : (n + m) * bytes <= 140737488355328) (hbase : base <= w.heap.size)
    (h : ∀ v' w', w'.ownsRow base e size v' (n + m) (xs ++ news) -> w.grownBy w' v.ownBlock -> (v'.ownBlock = v.ownBlock \/ v'.ownBlock = some w.heap.size) -> (v' = .slice none 0 0 ↔ v = .slice none 0 0 /\ m = 0) -> K (a.put o.dst v') w') : o.wp P a w K Q := by
  obtain ⟨v', w', hrun, h2, h3, h4, h5⟩ := run_append_rd (P := P) w hT o.type base v n xs hown T y m news hr h1 h63 hbytes hbase
  unfold Oper.wp execOp
  simp only [ho, resolve, invoke, builtin, Sem.run_bind, Sem.run_pure, Result.andThen_ok, List.map_toArray, List.map_cons, List.map_nil, hs, hx, hrun]
  exact h v' w' h2 h3 h4 h5

theorem zq4 {ops : Array Oper} {rest : List Oper} {o : Oper} {a : Act} {Q : Exit -> Act -> World -> Prop} (hgd : o.guard = none) (s x : Operand) {t e : TypeId} {z : Value} {size bytes : Nat}
    (ho : o.op = .call { callee := .builtin .append, args := #[s, x], argTypes := #[t, t] })
    (hT : SlT P t e z size bytes) (base : Nat) (v : Value) (n : Nat) (xs : List Value) (hs : a.eval s = v) (hown : w.ownsRow base e size v n xs)
    (T : TypeId -> Prop) (y : Value) (m : Nat) (news : List Value) (hx : a.eval x = y) (hr : Rd w T size y m news) (h1 : ∀ u ∈ news, u.oneCell' = true)
    (h63 : n + m <= maxLen) (hbytes : (n + m) * bytes <= 140737488355328) (hbase : base <= w.heap.size)
    (h : ∀ v' w', w'.ownsRow base e size v' (n + m) (xs ++ news) -> w.grownBy w' v.ownBlock -> (v'.ownBlock = v.ownBlock \/ v'.ownBlock = some w.heap.size) -> (v' = .slice none 0 0 ↔ v = .slice none 0 0 /\ m = 0) -> wpList P ops Q rest (a.put o.dst v') w') : wpList P ops Q (o :: rest) a w :=
  wpList_plain hgd fun _ hK => wp_append_rd w s x ho hT base v n xs hs hown T y m news hx hr h1 h63 hbytes hbase fun v' w' h2 h3 h4 h5 => hK _ _ (h v' w' h2 h3 h4 h5)

theorem zq11 {ops : Array Oper} {o : Oper} {a : Act} {K : Act -> World -> Prop} {Q : Exit -> Act -> World -> Prop} {E : Prop} (hgd : o.guard = none) (s x : Operand) {t e : TypeId} {z : Value} {size bytes : Nat}
    (ho : o.op = .call { callee := .builtin .append, args := #[s, x], argTypes := #[t, t] })
    (hT : SlT P t e z size bytes) (base : Nat) (v : Value) (n : Nat) (xs : List Value) (hs : a.eval s = v) (hown : w.ownsRow base e size v n xs)
    (T : TypeId -> Prop) (y : Value) (m : Nat) (news : List Value) (hx : a.eval x = y) (hr : Rd w T size y m news) (h1 : ∀ u ∈ news, u.oneCell' = true)
    (h63 : n + m <= maxLen) (hbytes : (n + m) * bytes <= 140737488355328) (hbase : base <= w.heap.size)
    (h : ∀ v' w', w'.ownsRow base e size v' (n + m) (xs ++ news) -> w.grownBy w' v.ownBlock -> (v'.ownBlock = v.ownBlock \/ v'.ownBlock = some w.heap.size) -> (v' = .slice none 0 0 ↔ v = .slice none 0 0 /\ m = 0) -> K (a.put o.dst v') w') :
    if Region.wanted o (yielded ops a.tmps) = true then Oper.wp P o a w K Q else E := by
  have hw : Region.wanted o (yielded ops a.tmps) = true := by simp [Region.wanted, hgd]
  rw [if_pos hw]
  exact wp_append_rd w s x ho hT base v n xs hs hown T y m news hx hr h1 h63 hbytes hbase h
end

theorem Rd.fresh (w : World) (cs : Array Value) (e : TypeId) (k n : Nat) (hn : cs.size = n * k) (hm : n <= maxLen) :
    Rd (w.alloc (.cells cs e)) (· = e) k (.slice (some ⟨w.heap.size, 0, none⟩) n n) n cs.toList :=
  ⟨by simpa using hn, _, _, rfl, Nat.le_refl _, hm, (fun e => by cases e), fun ad e _ => by
    injection e with e
    subst e
    exact ⟨rfl, cs, _, _, rfl, heap_alloc_new w _, fun j u hu => by simpa using hu⟩⟩
theorem zq6 {B : Nat} {a w : World} (h : Below B a w) (n : Nat) : Below B a (w.drewN n) := ⟨h.os, h.tape, h.output, h.size, h.block⟩
def intsC (l : List Int) : List Value := l.map (Value.int .i64)
def IntsAt (w : World) (v : Value) (l : List Int) : Prop := Rd w (fun _ => True) 1 v l.length (intsC l) /\ ∀ x ∈ l, -9223372036854775808 <= x /\ x <= 9223372036854775807
theorem IntsAt.below {w w' : World} {v : Value} {l : List Int} (h : IntsAt w v l) (hb : Below w.heap.size w w') : IntsAt w' v l := ⟨h.1.below hb, h.2⟩
theorem intsC_get (l : List Int) (i : Nat) (h : i < l.length) : (intsC l)[i]? = some (.int .i64 l[i]) := by simp [intsC, h]
theorem zqb {a b : Value} (h : a = b) : Ending.returned a = .returned b := by rw [h]
end Go.Lab
/- Reader: a function with loops over functions within a loop: the marks among its deferred calls. -/
namespace Go.Lab
open Go Go.RowKit
def markD (r : Nat) : Deferred := { target := .collected r, args := #[] }
def Marks (lo : Nat) (ds : List Deferred) (w : World) : Prop := ∃ rs : List Nat, ds = rs.map markD /\ rs.Nodup /\ ∀ r ∈ rs, lo <= r /\ w.heap[r]? = some (.deferred (some []))
def KeepsM (w w' : World) : Prop := ∀ r : Nat, w.heap[r]? = some (.deferred (some [])) -> w'.heap[r]? = some (.deferred (some []))
theorem KeepsM.refl (w : World) : KeepsM w w := fun _ h => h
theorem KeepsM.trans {a b c : World} (h : KeepsM a b) (k : KeepsM b c) : KeepsM a c := fun r hr => k r (h r hr)
theorem KeepsM.below {w w' : World} (h : Below w.heap.size w w') : KeepsM w w' := fun r hr => (h.block r (lt_of_block hr)).trans hr
theorem KeepsM.grown {w w' : World} {b : Nat} {o : Obj} (hg : w.grownBy w' (some b)) (hb : w.heap[b]? = some o) (ho : o ≠ .deferred (some [])) : KeepsM w w' := fun r hr => by
  refine (hg.block r (lt_of_block hr) (fun e => ?_)).trans hr
  injection e with e
  subst e
  rw [hb] at hr
  injection hr with hr
  exact ho hr
theorem Marks.nil (lo : Nat) (w : World) : Marks lo [] w := ⟨[], rfl, List.nodup_nil, fun _ h => by cases h⟩
theorem Marks.kept {lo : Nat} {ds : List Deferred} {w w' : World} (h : Marks lo ds w) (hk : KeepsM w w') : Marks lo ds w' := by
  obtain ⟨rs, h1, h2, h3⟩ := h
  exact ⟨rs, h1, h2, fun r hr => ⟨(h3 r hr).1, hk r (h3 r hr).2⟩⟩
theorem Marks.cons {lo D : Nat} {ds : List Deferred} {w w' : World} (h : Marks lo ds w) (hk : KeepsM w w') (hlo : lo <= D) (hD : w.heap.size <= D) (hd : w'.heap[D]? = some (.deferred (some []))) :
    Marks lo ({ target := .collected D, args := #[] } :: ds) w' := by
  obtain ⟨rs, h1, h2, h3⟩ := h
  refine ⟨D :: rs, by rw [h1]; rfl, List.nodup_cons.2 ⟨fun hm => ?_, h2⟩, fun r hr => ?_⟩
  · have := lt_of_block (h3 D hm).2; omega
  · rcases List.mem_cons.1 hr with rfl | hr
    · exact ⟨hlo, hd⟩
    · exact ⟨(h3 r hr).1, hk r (h3 r hr).2⟩
end Go.Lab
/- A region that draws its order, inside a round of a loop over a function: by the law for a region outside of it. Nothing here speaks of the program. -/
namespace Go.Lab
open Go Go.RowKit
variable {P : Program} {ops : Array Oper} {Q : Exit -> Act -> World -> Prop} {md : Region.Mode}
def slot (t : Array Value) (i : Nat) : Value := t.getD i undef
def LoopI (n : Nat) (R : Array Value -> List Deferred -> World -> Prop) (a : Act) (w : World) : Prop := a.tmps.size = n /\ R a.tmps a.defers w
theorem LoopI.mk {n : Nat} {R : Array Value -> List Deferred -> World -> Prop} {a : Act} {w : World} (h : a.tmps.size = n) (hR : R a.tmps a.defers w) : LoopI n R a w := ⟨h, hR⟩
end Go.Lab
/- Plain words on walks, gathered from the texts of the Reader seat: what turned, joins, abstractions. No program in sight. -/
namespace Go.Proofs.YtcfjepcflanjbaaGreat
open Go.RowKit Go.Lab
structure Turned (T : Nat -> Prop) (w w' : World) : Prop where
  os : w'.os = w.os
  tape : w'.tape = w.tape
  output : w'.output = w.output
  size : w.heap.size <= w'.heap.size
  block : ∀ b, b < w.heap.size -> ¬ T b -> w'.heap[b]? = w.heap[b]?
theorem Turned.refl (T : Nat -> Prop) (w : World) : Turned T w w := ⟨rfl, rfl, rfl, Nat.le_refl _, fun _ _ _ => rfl⟩
theorem Turned.trans {T : Nat -> Prop} {a b c : World} (h : Turned T a b) (k : Turned T b c) : Turned T a c :=
  ⟨k.os.trans h.os, k.tape.trans h.tape, k.output.trans h.output, Nat.le_trans h.size k.size, fun x hx hT => (k.block x (Nat.lt_of_lt_of_le hx h.size) hT).trans (h.block x hx hT)⟩
theorem Turned.mono {T T' : Nat -> Prop} {a b : World} (h : Turned T a b) (hT : ∀ x, x < a.heap.size -> T x -> T' x) : Turned T' a b :=
  ⟨h.os, h.tape, h.output, h.size, fun x hx hn => h.block x hx (fun ht => hn (hT x hx ht))⟩
theorem Turned.of_below {T : Nat -> Prop} {w w' : World} (h : Below w.heap.size w w') : Turned T w w' := ⟨h.os, h.tape, h.output, h.size, fun b hb _ => h.block b hb⟩
theorem Turned.of_grown {T : Nat -> Prop} {w w' : World} {x : Nat} (h : w.grownBy w' (some x)) (hx : T x) : Turned T w w' :=
  ⟨h.os, h.tape, h.output, h.size, fun b hb hT => h.block b hb (fun e => by injection e with e; subst e; exact hT hx)⟩
theorem Turned.grown {T : Nat -> Prop} {w w' : World} {x : Nat} (h : Turned T w w') (hT : ∀ b, b < w.heap.size -> T b -> b = x) : w.grownBy w' (some x) :=
  ⟨h.os, h.tape, h.output, h.size, fun b hb hn => h.block b hb (fun ht => hn (by rw [hT b hb ht]))⟩
theorem Turned.cells {T : Nat -> Prop} {w w' : World} (h : Turned T w w') {b : Nat} {o : Obj} (hb : w.heap[b]? = some o) (hT : ¬ T b) : w'.heap[b]? = some o := (h.block b (lt_of_block hb) hT).trans hb
theorem Turned.keeps {T : Nat -> Prop} {w w' : World} (h : Turned T w w') (hT : ∀ b, T b -> ∀ cur t fz, w.heap[b]? ≠ some (.cells cur t fz)) : Keeps (fun _ => True) w w' :=
  ⟨h.size, fun b cur t fz _ hb => h.cells hb (fun ht => hT b ht cur t fz hb)⟩
theorem Turned.drew {T : Nat -> Prop} {w w' : World} (h : Turned T w w') : Turned T w w'.drew := ⟨h.os, h.tape, h.output, h.size, h.block⟩
theorem Turned.alloc {T : Nat -> Prop} {w w' : World} (h : Turned T w w') (o : Obj) : Turned T w (w'.alloc o) := h.trans (Turned.of_below ((Below.refl _ _).alloc (Nat.le_refl _) o))
theorem Turned.below {T : Nat -> Prop} {w w' w'' : World} (h : Turned T w w') (hb : Below w'.heap.size w' w'') : Turned T w w'' := h.trans (Turned.of_below hb)
theorem Turned.setCell {T : Nat -> Prop} {w w' : World} (h : Turned T w w') (a : Addr) (v : Value) (ha : w.heap.size <= a.block \/ T a.block) : Turned T w (w'.setCell a v) :=
  ⟨h.os, h.tape, h.output, by simp [World.setCell]; exact h.size, fun b hb hT => (Below.heap_setCell w' a v b (fun e => by subst e; rcases ha with h1 | h1; exact absurd hb (Nat.not_lt.2 h1); exact hT h1)).trans (h.block b hb hT)⟩
theorem Turned.own {T : Nat -> Prop} {w W W' : World} {row : Option Nat} (h : Turned T w W) (hg : W.grownBy W' row) (hr : ∀ r, row = some r -> w.heap.size <= r) : Turned T w W' :=
  ⟨hg.os.trans h.os, hg.tape.trans h.tape, hg.output.trans h.output, Nat.le_trans h.size hg.size, fun b hb hT => (hg.block b (Nat.lt_of_lt_of_le hb h.size) (fun e => absurd hb (Nat.not_lt.2 (hr b e.symm)))).trans (h.block b hb hT)⟩
theorem Turned.from {T : Nat -> Prop} {w w' : World} (h : Turned T w w') {B : Nat} (hT : ∀ b, B <= b -> ¬ T b) : KeepsFrom B w w' := ⟨h.size, fun k _ hk ho _ => h.cells ho (hT k hk)⟩
theorem Turned.cell {T : Nat -> Prop} {w w' : World} (h : Turned T w w') {b o : Nat} {v : Value} (hc : w.cell? ⟨b, o, none⟩ = some v) (hT : ¬ T b) : w'.cell? ⟨b, o, none⟩ = some v := by
  have hb : b < w.heap.size := World.block_lt_of_cell? w ⟨b, o, none⟩ hc
  simp only [World.cell?, h.block b hb hT] at hc ⊢
  exact hc
theorem zq9 {P : Program} {c : Code} {Q : Exit -> Act -> World -> Prop} {a : Act} {w : World} (Pw : World -> Prop) (h : Pw w) (k : ∀ w', Pw w' -> c.wp P Q a w') : c.wp P Q a w := k w h
theorem wp_cutA {P : Program} {c : Code} {Q : Exit -> Act -> World -> Prop} {a : Act} {w : World} (N : Nat) (R : Array Value -> List Deferred -> Prop) (hs : a.tmps.size = N) (hR : R a.tmps a.defers) (k : ∀ t ds, t.size = N -> R t ds -> c.wp P Q { tmps := t, defers := ds } w) : c.wp P Q a w := k _ _ hs hR
theorem zq12 {W : World} {b : Nat} {cur : Array Value} {t : TypeId} {f : Nat × Nat} (h : W.heap[b]? = some (.cells cur t f)) (j : Nat) (v : Value) : (W.setCell ⟨b, j, none⟩ v).heap[b]? = some (.cells (cur.setIfInBounds j v) t f) := by
  simp [World.setCell, Array.getElem?_modify, h]
theorem zq32 {T : Nat -> Prop} {W X : World} {base : Nat} {e : TypeId} {k n : Nat} {v : Value} {xs : List Value} (h : W.ownsRow base e k v n xs) (hT : Turned T W X) (hne : ∀ g, v.ownBlock = some g -> ¬ T g) : X.ownsRow base e k v n xs := by
  refine ⟨h.1, ?_⟩
  rcases h.2 with h2 | ⟨g, cap, cur, rfl, hg, hb, r⟩
  · exact .inl h2
  · exact .inr ⟨g, cap, cur, rfl, hg, hT.cells hb (hne g rfl), r⟩
theorem zq1d {W : World} {base : Nat} {e : TypeId} {k n : Nat} {v : Value} {xs : List Value} (h : W.ownsRow base e k v n xs) {g : Nat} (hg : v.ownBlock = some g) : ∃ cur, W.heap[g]? = some (.cells cur e (0, 0)) := by
  rcases h.2 with ⟨rfl, _⟩ | ⟨g', cap, cur, rfl, _, hb, _⟩
  · cases hg
  · injection hg with hg
    subst hg
    exact ⟨cur, hb⟩
theorem zq17 {P : Program} {c : Code} {K : Act -> World -> Prop} {Q : Exit -> Act -> World -> Prop} {a : Act} {w : World} (M : Act -> World -> Prop) (h1 : ∀ K' : Act -> World -> Prop, (∀ a w, M a w -> K' a w) -> c.wp P (Exit.then K' Q) a w) (h2 : ∀ a w, M a w -> K a w) : c.wp P (Exit.then K Q) a w := h1 K h2
theorem zq7 {K : Act -> World -> Prop} {a : Act} {W : World} {o : Obj} (h : ∀ X, Below W.heap.size W X -> X.heap[W.heap.size]? = some o -> K a X) : K a (W.alloc o) :=
  h _ ((Below.refl _ _).alloc (Nat.le_refl _) o) (heap_alloc_new _ _)
theorem zq3 {K : Act -> World -> Prop} {a : Act} {W : World} {o : Obj} (h : ∀ X, Below W.heap.size W X -> X.heap[W.heap.size]? = some o -> K a X) : K a (W.alloc o).drew :=
  h _ (((Below.refl _ _).alloc (Nat.le_refl _) o).drew) (heap_alloc_new _ _)
theorem grown_other {W W' : World} {base : Nat} {e : TypeId} {k n : Nat} {v : Value} {xs : List Value} (hown : W.ownsRow base e k v n xs) (hg : W.grownBy W' v.ownBlock) {p : Nat} {cur : Array Value} {t : TypeId} {fz : Nat × Nat} (hP : W.heap[p]? = some (.cells cur t fz)) (hne : t ≠ e) :
    W'.heap[p]? = some (.cells cur t fz) := (Keeps.grown (T := fun x => x = t) hown hg (fun _ h => h ▸ hne)).2 _ _ _ _ rfl hP
theorem zq0 {W W' : World} {p : Nat} {o : Obj} (hb : Below W.heap.size W W') (hP : W.heap[p]? = some o) : W'.heap[p]? = some o := (hb.block _ (lt_of_block hP)).trans hP
theorem zq1 {W : World} {p : Nat} {cur : Array Value} {t : TypeId} (hP : W.heap[p]? = some (.cells cur t)) (j : Nat) : W.frozen? ⟨p, j, none⟩ = false := by simp [World.frozen?, hP]
theorem zq5 {w : World} {b : Nat} {x : Value} {t : TypeId} {fz : Nat × Nat} (h : w.heap[b]? = some (.cells #[x] t fz)) : w.cell? ⟨b, 0, none⟩ = some x := by simp [World.cell?, h]
theorem zq44 {fn : Func} {p : Tmp} {t1 : TypeId} (h : fn.results = #[.cell p t1]) (tmps : Array Value) (P : Program) (w : World) {b1 : Addr} {v1 : Value}
    (e1 : tmps.getD p undef = .pointer (some b1)) (l1 : (loadVar t1 b1).run P w = .ok v1 w) : (results fn tmps).run P w = .ok v1 w := by
  have e1' : tmps[p]?.getD undef = .pointer (some b1) := by simpa using e1
  simp only [results, h]
  simp [e1', l1, asAddr]
end Go.Proofs.YtcfjepcflanjbaaGreat
