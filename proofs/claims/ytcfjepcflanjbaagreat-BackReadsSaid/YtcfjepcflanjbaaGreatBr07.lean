/- Plain words: explicit steps of a plain region, whole variables, joins. No program in sight. -/
import Derived.Test.YtcfjepcflanjbaaGreatBr01
import Derived.Deep.MidRow
import Derived.Deep.WholeRow
import Derived.Maps.OwnSet
import Derived.Maps.OwnOps
import Derived.Maps.Views
import Derived.Test.YtcfjepcflanjbaaGreatBr02
import Derived.Test.YtcfjepcflanjbaaGreatBr06
namespace Go.Proofs.YtcfjepcflanjbaaGreat
open Go.RowKit Go.Lab
theorem zq5e {P : Program} {w w' : World} {ops : Array Oper} {rest : List Oper} {o : Oper} {a : Act} {Q : Exit -> Act -> World -> Prop} {v : Value} (hgd : o.guard = none) (hr : (execOp a.eval o).run P w = .ok (.value v) w') (h : wpList P ops Q rest (a.put o.dst v) w') : wpList P ops Q (o :: rest) a w := by
  refine wpList_plain hgd fun K hK => ?_
  unfold Oper.wp
  rw [hr]
  exact hK _ _ h
theorem zq28 {X : World} {b : Nat} {e : TypeId} {cs : Array Value} (h : X.heap[b]? = some (.cells cs e)) : Rd X (· = e) cs.size (.slice (some ⟨b, 0, none⟩) 1 1) 1 cs.toList :=
  ⟨by simp, _, _, rfl, Nat.le_refl _, by unfold maxLen; omega, (fun e => by cases e), fun ad e _ => by
    injection e with e
    subst e
    exact ⟨rfl, _, _, _, rfl, h, fun j u hu => by simpa using hu⟩⟩
theorem zq8a {X : World} {b n k : Nat} {e : TypeId} {cs : Array Value} (h : X.heap[b]? = some (.cells cs e)) (hn : cs.size = n * k) (hm : n <= maxLen) : Rd X (· = e) k (.slice (some ⟨b, 0, none⟩) n n) n cs.toList :=
  ⟨by simpa using hn, _, _, rfl, Nat.le_refl _, hm, (fun e => by cases e), fun ad e _ => by
    injection e with e
    subst e
    exact ⟨rfl, _, _, _, rfl, h, fun j u hu => by simpa using hu⟩⟩
theorem zqd4 {X : World} {B g k n : Nat} {e : TypeId} {cs : Array Value} (hX : X.heap[g]? = some (.cells cs e)) (hB : B <= g) (hn : cs.size = n * k) (hm : n <= maxLen) : X.ownsRow B e k (.slice (some ⟨g, 0, none⟩) n n) n cs.toList :=
  ⟨by simpa using hn, .inr ⟨g, n, cs, rfl, hB, hX, Nat.le_refl _, hm, hn, by rw [<- hn]; exact List.take_length⟩⟩
theorem zqad {P : Program} {c : Code} {Q : Exit -> Act -> World -> Prop} {a : Act} {w : World} (M : Act -> World -> Prop) (h1 : ∀ Q' : Exit -> Act -> World -> Prop, (∀ a w, M a w -> Q' .normal a w) -> c.wp P Q' a w) (h2 : ∀ a w, M a w -> Q .normal a w) : c.wp P Q a w := h1 Q h2
theorem heap2 (w : World) (o0 o1 : Obj) : ((w.alloc o0).alloc o1).heap[w.heap.size]? = some o0 /\ ((w.alloc o0).alloc o1).heap[w.heap.size + 1]? = some o1 := by
  refine ⟨zq0 ((Below.refl _ _).alloc (Nat.le_refl _) _) (heap_alloc_new _ _), ?_⟩
  have h := heap_alloc_new (w.alloc o0) o1
  rw [World.size_alloc] at h
  exact h
theorem heap3 (w : World) (o0 o1 o2 : Obj) : (((w.alloc o0).alloc o1).alloc o2).heap[w.heap.size]? = some o0 /\ (((w.alloc o0).alloc o1).alloc o2).heap[w.heap.size + 1]? = some o1 /\ (((w.alloc o0).alloc o1).alloc o2).heap[w.heap.size + 2]? = some o2 := by
  refine ⟨zq0 ((Below.refl _ _).alloc (Nat.le_refl _) _) (heap2 w o0 o1).1, zq0 ((Below.refl _ _).alloc (Nat.le_refl _) _) (heap2 w o0 o1).2, ?_⟩
  have h := heap_alloc_new ((w.alloc o0).alloc o1) o2
  rw [World.size_alloc, World.size_alloc] at h
  exact h
end Go.Proofs.YtcfjepcflanjbaaGreat
/- Maps whose keys are a plain type's values and whose elements are held as they are. No program in sight. -/
namespace Go.Proofs.YtcfjepcflanjbaaGreat
open Go.RowKit Go.Lab Go.WideMaps Go.Maps
def heldE (v : Value) : Option (DataW Value × List MemPlace) := some (.held v, [])
structure KeyK (P : Program) (tK tM tE : TypeId) {κ : Type} (enc : κ -> Value) (lit : κ -> Lit) (ok : κ -> Prop) (z : Value) : Prop where
  keyed : Maps.Keyed P tK
  key : ∀ x, ok x -> keyOf P tK (enc x) = some (lit x)
  inj : ∀ x y, ok x -> ok y -> enc x = enc y -> x = y
  und : P.underlying tM = some (.map tK tE)
  zero : ∀ w, (zeroValue tE).run P w = .ok z w
theorem KeyK.lit_inj {P : Program} {tK tM tE : TypeId} {κ : Type} {enc : κ -> Value} {lit : κ -> Lit} {ok : κ -> Prop} {z : Value} (K : KeyK P tK tM tE enc lit ok z) {x y : κ} (hx : ok x) (hy : ok y) (h : lit x = lit y) : x = y := by
  have h1 := K.key x hx
  have h2 := K.key y hy
  rw [h] at h1
  exact K.inj x y hx hy (K.keyed.inj h1 h2)
def updK {κ : Type} [DecidableEq κ] (g : κ -> Value) (k : κ) (v : Value) : κ -> Value := fun y => if y = k then v else g y
theorem zq6c {κ : Type} [DecidableEq κ] (g : κ -> Value) (k : κ) (v : Value) : updK g k v k = v := if_pos rfl
theorem zq50 {κ : Type} [DecidableEq κ] (g : κ -> Value) {k y : κ} (v : Value) (h : y ≠ k) : updK g k v y = g y := if_neg h
def MapIs (P : Program) (tK : TypeId) {κ : Type} (lit : κ -> Lit) (ok : κ -> Prop) (z : Value) (w : World) (b n : Nat) (g : κ -> Value) : Prop :=
  ∃ D, w.ownsMap P tK heldE b n D /\ ∀ x, ok x -> D.atKey (lit x) (.held z) = .held (g x)
section
variable {P : Program} {tK tM tE : TypeId} {κ : Type} {enc : κ -> Value} {lit : κ -> Lit} {ok : κ -> Prop} {z : Value} {w w' : World} {b n : Nat} {g : κ -> Value}
theorem MapIs.made (w : World) : MapIs P tK lit ok z (w.alloc (.map #[] 0)) w.heap.size 0 (fun _ : κ => z) :=
  ⟨_, World.ownsMap_made _ _ _ _, fun _ _ => rfl⟩
theorem MapIs.lookup (K : KeyK P tK tM tE enc lit ok z) (h : MapIs P tK lit ok z w b n g) {x : κ} (hx : ok x) : (Instr.lookup tM (.map (some b)) (enc x) false).run P w = .ok (g x) w := by
  obtain ⟨D, hD, hg⟩ := h
  obtain ⟨v, ps, hrun, hR⟩ := hD.lookup K.keyed K.und (K.zero w) (zd := .held z) (zp := []) rfl (K.key x hx)
  rw [hrun]
  rw [hg x hx] at hR
  unfold heldE at hR
  injection hR with hR
  injection hR with h1 h2
  injection h1 with h1
  rw [h1]
theorem MapIs.update  [DecidableEq κ] (K : KeyK P tK tM tE enc lit ok z) (h : MapIs P tK lit ok z w b n g) (hn : n < maxLen) {x : κ} (hx : ok x) (v : Value) :
    ∃ w', (Instr.mapUpdate tM (.map (some b)) (enc x) v).run P w = .ok () w' /\ MapIs P tK lit ok z w' b (n + 1) (updK g x v) /\ w.grownBy w' (some b) := by
  obtain ⟨D, hD, hg⟩ := h
  obtain ⟨w', hrun, ho, hgr⟩ := hD.update K.keyed K.und hn (K.key x hx) (val := v) (d := .held v) (ps := []) rfl
  refine ⟨w', hrun, ⟨_, ho, fun y hy => ?_⟩, hgr⟩
  by_cases he : y = x
  · subst he
    rw [zq6c]
    exact atKey_put_same hD.isMap (K.keyed.key (K.key y hy)) _ _
  · rw [zq50 _ _ he, atKey_put_other (fun e => he (K.lit_inj hy hx e)), hg y hy]
theorem MapIs.update_at [DecidableEq κ] (K : KeyK P tK tM tE enc lit ok z) (h : MapIs P tK lit ok z w b n g) (hn : n < maxLen) {x : κ} (hx : ok x) (v : Value) :
    ∃ w', (Instr.mapUpdate tM (.map (some b)) (enc x) v).run P w = .ok () w' /\ MapIs P tK lit ok z w' b (n + 1) (updK g x v) /\ (g x ≠ z -> MapIs P tK lit ok z w' b n (updK g x v)) /\ w.grownBy w' (some b) := by
  obtain ⟨D, hD, hg⟩ := h
  obtain ⟨w', hrun, ho, hgr⟩ := hD.update K.keyed K.und hn (K.key x hx) (val := v) (d := .held v) (ps := []) rfl
  have hview : ∀ y, ok y -> (D.put (lit x) (.held v)).atKey (lit y) (.held z) = .held (updK g x v y) := fun y hy => by
    by_cases he : y = x
    · subst he
      rw [zq6c]
      exact atKey_put_same hD.isMap (K.keyed.key (K.key y hy)) _ _
    · rw [zq50 _ _ he, atKey_put_other (fun e => he (K.lit_inj hy hx e)), hg y hy]
  refine ⟨w', hrun, ⟨_, ho, hview⟩, fun hne => ⟨_, ?_, hview⟩, hgr⟩
  have hh : has D (lit x) = true := by
    cases h : has D (lit x) with
    | true => rfl
    | false =>
      have h1 := atKey_of_not_has h (.held z)
      rw [hg x hx] at h1
      injection h1 with h1
      exact absurd h1 hne
  obtain ⟨es, clock, h1, h2, h3, h4⟩ := ho
  refine ⟨es, clock, h1, h2, ?_, h4⟩
  have hs := size_put (k := lit x) (hD.tidy K.keyed) (.held v)
  rw [hh, if_pos rfl] at hs
  have h5 : size (D.put (lit x) (.held v)) = es.size := by
    rw [h4]
    simp [Maps.size, length_sorted]
  have := hD.size_le
  omega
theorem MapIs.delete  [DecidableEq κ] (K : KeyK P tK tM tE enc lit ok z) (h : MapIs P tK lit ok z w b n g) {x : κ} (hx : ok x) (ty : TypeId) :
    ∃ w', (Builtin.delete_ #[tM, tK] ty #[.map (some b), enc x]).run P w = .ok (.tuple #[]) w' /\ MapIs P tK lit ok z w' b n (updK g x z) /\ w.grownBy w' (some b) := by
  obtain ⟨D, hD, hg⟩ := h
  obtain ⟨w', hrun, ho, ht⟩ := hD.drop K.keyed K.und (K.key x hx) ty
  refine ⟨w', hrun, ⟨_, ho, fun y hy => ?_⟩, ht.grown⟩
  by_cases he : y = x
  · subst he
    rw [zq6c]
    exact atKey_del_same _
  · rw [zq50 _ _ he, atKey_del_other (fun e => he (K.lit_inj hy hx e)), hg y hy]
theorem MapIs.lt (h : MapIs P tK lit ok z w b n g) : b < w.heap.size := let ⟨_, h, _⟩ := h; h.lt
theorem MapIs.mono (h : MapIs P tK lit ok z w b n g) {m : Nat} (hm : n <= m) : MapIs P tK lit ok z w b m g := let ⟨D, h, k⟩ := h; ⟨D, h.mono hm, k⟩
theorem MapIs.block (h : MapIs P tK lit ok z w b n g) (hb : w'.heap[b]? = w.heap[b]?) : MapIs P tK lit ok z w' b n g := by
  obtain ⟨D, ⟨es, c, h1, h2⟩, k⟩ := h
  exact ⟨D, ⟨es, c, hb.trans h1, h2⟩, k⟩
theorem MapIs.below (h : MapIs P tK lit ok z w b n g) (hb : Below w.heap.size w w') : MapIs P tK lit ok z w' b n g := h.block (hb.block b h.lt)
theorem MapIs.turned {T : Nat -> Prop} (h : MapIs P tK lit ok z w b n g) (ht : Turned T w w') (hb : ¬ T b) : MapIs P tK lit ok z w' b n g := h.block (ht.block b h.lt hb)
theorem MapIs.no_cells (h : MapIs P tK lit ok z w b n g) (cur : Array Value) (t : TypeId) (fz : Nat × Nat) : w.heap[b]? ≠ some (.cells cur t fz) := by
  obtain ⟨D, ⟨es, c, h1, _⟩, _⟩ := h
  rw [h1]
  intro e
  cases e
theorem wpList_mapUpdate_at [DecidableEq κ] {ops : Array Oper} {rest : List Oper} {o : Oper} {a : Act} {Q : Exit -> Act -> World -> Prop} (hgd : o.guard = none) (K : KeyK P tK tM tE enc lit ok z) (m x v : Operand) (hop : o.op = Op.mapUpdate tM m x v)
    (h : MapIs P tK lit ok z w b n g) (hm : a.eval m = .map (some b)) (hn : n < maxLen) (k : κ) (hk : ok k) (hx : a.eval x = enc k) (val : Value) (hv : a.eval v = val)
    (hK : ∀ w', MapIs P tK lit ok z w' b (n + 1) (updK g k val) -> (g k ≠ z -> MapIs P tK lit ok z w' b n (updK g k val)) -> w.grownBy w' (some b) -> wpList P ops Q rest (a.put o.dst undef) w') : wpList P ops Q (o :: rest) a w := by
  refine wpList_plain hgd fun K' hK' => ?_
  obtain ⟨w', hrun, r1, r2, r3⟩ := h.update_at K hn hk val
  unfold Oper.wp
  simp [execOp, hop, hm, hx, hv, hrun, Result.andThen]
  exact hK' _ _ (hK w' r1 r2 r3)
theorem wpList_mapUpdate_map [DecidableEq κ] {ops : Array Oper} {rest : List Oper} {o : Oper} {a : Act} {Q : Exit -> Act -> World -> Prop} (hgd : o.guard = none) (K : KeyK P tK tM tE enc lit ok z) (m x v : Operand) (hop : o.op = Op.mapUpdate tM m x v)
    (h : MapIs P tK lit ok z w b n g) (hm : a.eval m = .map (some b)) (hn : n < maxLen) (k : κ) (hk : ok k) (hx : a.eval x = enc k) (val : Value) (hv : a.eval v = val)
    (hK : ∀ w', MapIs P tK lit ok z w' b (n + 1) (updK g k val) -> w.grownBy w' (some b) -> wpList P ops Q rest (a.put o.dst undef) w') : wpList P ops Q (o :: rest) a w := by
  refine wpList_plain hgd fun K' hK' => ?_
  obtain ⟨w', hrun, r1, r2⟩ := h.update K hn hk val
  unfold Oper.wp
  simp [execOp, hop, hm, hx, hv, hrun, Result.andThen]
  exact hK' _ _ (hK w' r1 r2)
theorem step_mapUpdate_map [DecidableEq κ] {ops : Array Oper} {o : Oper} {a : Act} {K0 : Act -> World -> Prop} {Q : Exit -> Act -> World -> Prop} {E : Prop} (hgd : o.guard = none) (K : KeyK P tK tM tE enc lit ok z) (m x v : Operand) (hop : o.op = Op.mapUpdate tM m x v)
    (h : MapIs P tK lit ok z w b n g) (hm : a.eval m = .map (some b)) (hn : n < maxLen) (k : κ) (hk : ok k) (hx : a.eval x = enc k) (val : Value) (hv : a.eval v = val)
    (hK : ∀ w', MapIs P tK lit ok z w' b (n + 1) (updK g k val) -> w.grownBy w' (some b) -> K0 (a.put o.dst undef) w') : if Region.wanted o (yielded ops a.tmps) = true then Oper.wp P o a w K0 Q else E := by
  have hw : Region.wanted o (yielded ops a.tmps) = true := by simp [Region.wanted, hgd]
  rw [if_pos hw]
  obtain ⟨w', hrun, r1, r2⟩ := h.update K hn hk val
  unfold Oper.wp
  simp [execOp, hop, hm, hx, hv, hrun, Result.andThen]
  exact hK w' r1 r2
theorem wpList_insert_map [DecidableEq κ] {ops : Array Oper} {rest : List Oper} {o : Oper} {a : Act} {Q : Exit -> Act -> World -> Prop} (hgd : o.guard = none) (K : KeyK P tK tM tE enc lit ok z) (m x v : Operand) (hop : o.op = Op.insert tM m x v)
    (h : MapIs P tK lit ok z w b n g) (hm : a.eval m = .map (some b)) (hn : n < maxLen) (k : κ) (hk : ok k) (hx : a.eval x = enc k) (val : Value) (hv : a.eval v = val)
    (hK : ∀ w', MapIs P tK lit ok z w' b (n + 1) (updK g k val) -> w.grownBy w' (some b) -> wpList P ops Q rest (a.put o.dst undef) w') : wpList P ops Q (o :: rest) a w := by
  refine wpList_plain hgd fun K' hK' => ?_
  obtain ⟨w', hrun, r1, r2⟩ := h.update K hn hk val
  unfold Oper.wp
  simp [execOp, hop, hm, hx, hv, hrun, Result.andThen]
  exact hK' _ _ (hK w' r1 r2)
end
/-! ### how many keys there can be -/
theorem nodup_lt_length : ∀ (N : Nat) (l : List Nat), l.Nodup -> (∀ x ∈ l, x < N) -> l.length <= N
  | 0, l, _, h => by
    cases l with
    | nil => simp
    | cons a l => have := h a (by simp); omega
  | N + 1, l, hn, h => by
    have h1 := nodup_lt_length N (l.filter (· ≠ N)) (hn.filter _) (fun x hx => by
      rw [List.mem_filter] at hx
      have h1 := h x hx.1
      have h2 : x ≠ N := by simpa using hx.2
      omega)
    have h2 : ∀ l : List Nat, l.Nodup -> l.length <= (l.filter (· ≠ N)).length + 1 := by
      intro l hl
      induction l with
      | nil => simp
      | cons a l ih =>
        rw [List.nodup_cons] at hl
        by_cases he : a = N
        · subst he
          have : l.filter (· ≠ a) = l := by
            apply List.filter_eq_self.2
            intro x hx
            have : x ≠ a := fun e => hl.1 (e ▸ hx)
            simpa using this
          rw [List.filter_cons_of_neg (by simp), this]
          simp
        · rw [List.filter_cons_of_pos (by simpa using he)]
          have := ih hl.2
          simp
          simpa using this
    have := h2 l hn
    omega
theorem nodup_code_length {κ : Type} (f : κ -> Nat) (N : Nat) (ks : List κ) (hn : ks.Nodup) (hi : ∀ x ∈ ks, ∀ y ∈ ks, f x = f y -> x = y) (hb : ∀ x ∈ ks, f x < N) : ks.length <= N := by
  have h1 : (ks.map f).Nodup := by
    induction ks with
    | nil => simp
    | cons a l ih =>
      rw [List.nodup_cons] at hn
      rw [List.map_cons, List.nodup_cons]
      refine ⟨fun h => ?_, ih hn.2 (fun x hx y hy => hi x (by simp [hx]) y (by simp [hy])) (fun x hx => hb x (by simp [hx]))⟩
      obtain ⟨y, hy, he⟩ := List.mem_map.1 h
      have := hi y (by simp [hy]) a (by simp) he
      subst this
      exact hn.1 hy
  have := nodup_lt_length N (ks.map f) h1 (fun x hx => by
    obtain ⟨y, hy, rfl⟩ := List.mem_map.1 hx
    exact hb y hy)
  simpa using this
end Go.Proofs.YtcfjepcflanjbaaGreat
/- Contract: a rule fits at a place (dactylref06.Fits). -/
namespace Go.Proofs.YtcfjepcflanjbaaGreat
open Go.RowKit Go.Lab Go.Shelf
set_option maxRecDepth 100000
theorem frame101 (t : Array Value) (ds : List Deferred) (h : t.size = 101) : ({ tmps := t, defers := ds } : Act) = { tmps := #[slot t 0, slot t 1, slot t 2, slot t 3, slot t 4, slot t 5, slot t 6, slot t 7, slot t 8, slot t 9, slot t 10, slot t 11, slot t 12, slot t 13, slot t 14, slot t 15, slot t 16, slot t 17, slot t 18, slot t 19, slot t 20, slot t 21, slot t 22, slot t 23, slot t 24, slot t 25, slot t 26, slot t 27, slot t 28, slot t 29, slot t 30, slot t 31, slot t 32, slot t 33, slot t 34, slot t 35, slot t 36, slot t 37, slot t 38, slot t 39, slot t 40, slot t 41, slot t 42, slot t 43, slot t 44, slot t 45, slot t 46, slot t 47, slot t 48, slot t 49, slot t 50, slot t 51, slot t 52, slot t 53, slot t 54, slot t 55, slot t 56, slot t 57, slot t 58, slot t 59, slot t 60, slot t 61, slot t 62, slot t 63, slot t 64, slot t 65, slot t 66, slot t 67, slot t 68, slot t 69, slot t 70, slot t 71, slot t 72, slot t 73, slot t 74, slot t 75, slot t 76, slot t 77, slot t 78, slot t 79, slot t 80, slot t 81, slot t 82, slot t 83, slot t 84, slot t 85, slot t 86, slot t 87, slot t 88, slot t 89, slot t 90, slot t 91, slot t 92, slot t 93, slot t 94, slot t 95, slot t 96, slot t 97, slot t 98, slot t 99, slot t 100], defers := ds } :=
  (congrArg (fun x => ({ tmps := x, defers := ds } : Act)) (zq1e h)).trans (by kernel_rfl)
def symAt (l : List Sym) (i : Nat) : Sym := l.getD i ⟨0, 0⟩
theorem zq37 {l : List Sym} {i : Nat} (h : i < l.length) : symAt l i = l[i] := by
  unfold symAt
  rw [List.getD_eq_getElem?_getD, List.getElem?_eq_getElem h]
  rfl
def SymOk (l : List Sym) : Prop := ∀ x ∈ l, 0 <= x.c /\ x.c < 256 /\ -9223372036854775808 <= x.lang /\ x.lang <= 9223372036854775807
def zq2a (l : List Sym) (i : Nat) : Bool := decide (1 <= i) && (decide (i < l.length) && (letB (symAt l (i - 1)).c && (letB (symAt l i).c && decide ((symAt l (i - 1)).lang = (symAt l i).lang))))
set_option maxHeartbeats 1000000 in
theorem inWord_any (v : Value) (l : List Sym) (i : Nat) (w : World) (h : SymsAt w v l) (hr : SymOk l) (_hl : l.length <= 1000000) (hi : i <= 1000000) :
    Calls Tryz.prog 97 #[v, .int .i64 (i : Nat)] w fun e w' => e = .returned (.bool (zq2a l i)) /\ ∃ n, w' = w.drewN n := by
  obtain ⟨a, cap, rfl, h2, h3⟩ := h.form
  unfold maxLen at h3
  by_cases h1 : 1 <= i
  case neg =>
    have g1 : (i : Int) < 1 := by omega
    have HF := hidep (show zq2a l i = false from by unfold zq2a; rw [decide_eq_false h1, Bool.false_and])
    go_enter Tryz.func97, Tryz.ntmps97
    go_wp2
    go_ret
    exact ⟨by rw [HF.out]; rfl, 0, rfl⟩
  have g1 : ¬ (i : Int) < 1 := by omega
  by_cases hil : i < l.length
  case neg =>
    have g2 : (i : Int) >= (l.length : Int) := by omega
    have HF := hidep (show zq2a l i = false from by unfold zq2a; rw [decide_eq_false hil, Bool.false_and, Bool.and_false])
    go_enter Tryz.func97, Tryz.ntmps97
    go_wp2
    go_ret
    exact ⟨by rw [HF.out]; rfl, 0, rfl⟩
  have g2 : ¬ (i : Int) >= (l.length : Int) := by omega
  obtain ⟨m, rfl⟩ : ∃ m, i = m + 1 := ⟨i - 1, by omega⟩
  have hml : m < l.length := by omega
  obtain ⟨b, off, rfl, hb, hc0, hc1⟩ := h.at hil
  obtain ⟨b', off', hra, _, hd0, hd1⟩ := h.at hml
  injection hra with hra
  injection hra with hbb hoo
  subst hbb hoo
  have hx := hr _ (List.getElem_mem hil)
  have hy := hr _ (List.getElem_mem hml)
  obtain ⟨x, hxd⟩ : ∃ x, x = l[m + 1] := ⟨_, rfl⟩
  obtain ⟨y, hyd⟩ : ∃ y, y = l[m] := ⟨_, rfl⟩
  have HB := hidep (show zq2a l (m + 1) = (letB y.c && (letB x.c && decide (y.lang = x.lang))) from by
    unfold zq2a
    rw [decide_eq_true h1, decide_eq_true hil, zq37 hil, Nat.add_sub_cancel, zq37 hml, <- hxd, <- hyd]
    rfl)
  rw [<- hxd] at hc0 hc1 hx
  rw [<- hyd] at hd0 hd1 hy
  obtain ⟨xl, xc⟩ := x
  obtain ⟨yl, yc⟩ := y
  simp only at hc0 hc1 hd0 hd1 hx hy HB
  have hw : IntKind.i64.wrap (((m + 1 : Nat) : Int) - 1) = (m : Int) := by rw [show ((m + 1 : Nat) : Int) - 1 = (m : Int) from by omega]; exact IntWalk.i64_in _ (by omega)
  have hw2 : IntKind.i64.wrap (m : Int) = (m : Int) := IntWalk.i64_in _ (by omega)
  have HX := hidep (fun W => zqdf xc W ⟨hx.1, hx.2.1⟩)
  have HY := hidep (fun W => zqdf yc W ⟨hy.1, hy.2.1⟩)
  obtain ⟨bx, hbx⟩ : ∃ b, b = letB xc := ⟨_, rfl⟩
  obtain ⟨by_, hby⟩ : ∃ b, b = letB yc := ⟨_, rfl⟩
  rw [<- hbx] at HX HB
  rw [<- hby] at HY HB
  have hlen : (m : Int) + 1 < (l.length : Int) := by omega
  have hlen2 : (m : Int) < (l.length : Int) := by omega
  have hp1 : (0 : Int) <= (m : Int) := by omega
  have hp2 : (0 : Int) <= (m : Int) + 1 := by omega
  obtain ⟨im, him⟩ : ∃ im : Int, im = ((m + 1 : Nat) : Int) := ⟨_, rfl⟩
  obtain ⟨n, hn⟩ : ∃ n, n = l.length := ⟨_, rfl⟩
  clear hxd hyd hx hy hr hb hbx hby
  cases by_ with
  | false =>
    have HF := hidep (HB.out.trans (by rw [Bool.false_and] : _ = false))
    clear HB
    go_enter Tryz.func97, Tryz.ntmps97
    go_upto_region 3 with (fail)
    go_quiet ((go_at_call 111; refine (HY.out _).mono ?_; rintro e w' ⟨rfl, rfl⟩; exact ⟨rfl, _, rfl⟩))
    (try dsimp only [Exit.inBlock, Exit.then])
    (try apply_assumption)
    go_wp2
    go_ret
    exact ⟨by rw [HF.out]; rfl, _, rfl⟩
  | true =>
    cases bx with
    | false =>
      have HF := hidep (HB.out.trans (by rw [Bool.true_and, Bool.false_and] : _ = false))
      clear HB
      go_enter Tryz.func97, Tryz.ntmps97
      go_upto_region 3 with (fail)
      go_quiet ((go_at_call 111; first | ((with_reducible refine (HY.out _).mono ?_); rintro e w' ⟨rfl, rfl⟩; exact ⟨rfl, _, rfl⟩) | ((with_reducible refine (HX.out _).mono ?_); rintro e w' ⟨rfl, rfl⟩; exact ⟨rfl, _, rfl⟩)))
      (try dsimp only [Exit.inBlock, Exit.then])
      (try apply_assumption)
      go_wp2
      go_ret
      exact ⟨by rw [HF.out]; rfl, _, rfl⟩
    | true =>
      have HF := hidep (HB.out.trans (by rw [Bool.true_and, Bool.true_and] : _ = decide (yl = xl)))
      clear HB
      go_enter Tryz.func97, Tryz.ntmps97
      go_upto_region 3 with (fail)
      go_quiet ((go_at_call 111; first | ((with_reducible refine (HY.out _).mono ?_); rintro e w' ⟨rfl, rfl⟩; exact ⟨rfl, _, rfl⟩) | ((with_reducible refine (HX.out _).mono ?_); rintro e w' ⟨rfl, rfl⟩; exact ⟨rfl, _, rfl⟩)))
      (try dsimp only [Exit.inBlock, Exit.then])
      (try apply_assumption)
      go_wp2
      go_ret
      exact ⟨by rw [HF.out]; rfl, _, rfl⟩
end Go.Proofs.YtcfjepcflanjbaaGreat
