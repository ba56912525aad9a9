/- Contract: the code's Best. -/
import Derived.Test.YtfljgcpfmhhgcaaRdO
import Derived.Test.YtfljgcpfmhhgcaaRdTb
namespace Go.Proofs.Ytfljgcpfmhhgcaa
open Go.RowKit Go.Lab
attribute [local go_sem] Oper.semAt_some
theorem range_map99 (f : Nat → Value) : (List.range 99).map f = [f 0, f 1, f 2, f 3, f 4, f 5, f 6, f 7, f 8, f 9, f 10, f 11, f 12, f 13, f 14, f 15, f 16, f 17, f 18, f 19, f 20, f 21, f 22, f 23, f 24, f 25, f 26, f 27, f 28, f 29, f 30, f 31, f 32, f 33, f 34, f 35, f 36, f 37, f 38, f 39, f 40, f 41, f 42, f 43, f 44, f 45, f 46, f 47, f 48, f 49, f 50, f 51, f 52, f 53, f 54, f 55, f 56, f 57, f 58, f 59, f 60, f 61, f 62, f 63, f 64, f 65, f 66, f 67, f 68, f 69, f 70, f 71, f 72, f 73, f 74, f 75, f 76, f 77, f 78, f 79, f 80, f 81, f 82, f 83, f 84, f 85, f 86, f 87, f 88, f 89, f 90, f 91, f 92, f 93, f 94, f 95, f 96, f 97, f 98] := rfl
theorem frame99 (t : Array Value) (ds : List Deferred) (h : t.size = 99) : ({ tmps := t, defers := ds } : Act) = { tmps := #[slot t 0, slot t 1, slot t 2, slot t 3, slot t 4, slot t 5, slot t 6, slot t 7, slot t 8, slot t 9, slot t 10, slot t 11, slot t 12, slot t 13, slot t 14, slot t 15, slot t 16, slot t 17, slot t 18, slot t 19, slot t 20, slot t 21, slot t 22, slot t 23, slot t 24, slot t 25, slot t 26, slot t 27, slot t 28, slot t 29, slot t 30, slot t 31, slot t 32, slot t 33, slot t 34, slot t 35, slot t 36, slot t 37, slot t 38, slot t 39, slot t 40, slot t 41, slot t 42, slot t 43, slot t 44, slot t 45, slot t 46, slot t 47, slot t 48, slot t 49, slot t 50, slot t 51, slot t 52, slot t 53, slot t 54, slot t 55, slot t 56, slot t 57, slot t 58, slot t 59, slot t 60, slot t 61, slot t 62, slot t 63, slot t 64, slot t 65, slot t 66, slot t 67, slot t 68, slot t 69, slot t 70, slot t 71, slot t 72, slot t 73, slot t 74, slot t 75, slot t 76, slot t 77, slot t 78, slot t 79, slot t 80, slot t 81, slot t 82, slot t 83, slot t 84, slot t 85, slot t 86, slot t 87, slot t 88, slot t 89, slot t 90, slot t 91, slot t 92, slot t 93, slot t 94, slot t 95, slot t 96, slot t 97, slot t 98], defers := ds } := by
  have e : t = ((List.range 99).map (slot t)).toArray := by
    apply Array.ext
    · simp [h]
    · intro i h1 h2
      simp [slot, Array.getD, h1]
  rw [range_map99] at e
  exact congrArg (fun x => ({ tmps := x, defers := ds } : Act)) e
theorem box3_cells {w : World} {b : Nat} {x0 x1 x2 : Value} {t : TypeId} {fz : Nat × Nat} (h : w.heap[b]? = some (.cells #[x0, x1, x2] t fz)) : w.cell? ⟨b, 0, none⟩ = some x0 ∧ w.cell? ⟨b, 1, none⟩ = some x1 ∧ w.cell? ⟨b, 2, none⟩ = some x2 := by
  refine ⟨?_, ?_, ?_⟩ <;> simp [World.cell?, h]
theorem load_plan (w : World) (g : Nat) (x y z : Value) (c0 : w.cell? ⟨g, 0, none⟩ = some x) (c1 : w.cell? ⟨g, 1, none⟩ = some y) (c2 : w.cell? ⟨g, 2, none⟩ = some z) : (loadVar 35 ⟨g, 0, none⟩).run Try.prog w = .ok (.agg #[x, y, z]) w := by
  go_simp
theorem results_plan {fn : Func} {p u : Tmp} (h : fn.results = #[.cell p 35, .tmp u]) (tmps : Array Value) (w : World) (g : Nat) (x y z : Value) (hp : tmps.getD p undef = .pointer (some ⟨g, 0, none⟩))
    (c0 : w.cell? ⟨g, 0, none⟩ = some x) (c1 : w.cell? ⟨g, 1, none⟩ = some y) (c2 : w.cell? ⟨g, 2, none⟩ = some z) : (results fn tmps).run Try.prog w = .ok (.tuple #[.agg #[x, y, z], tmps.getD u undef]) w := by
  rw [results_cell_tmp h, hp, show (asAddr (.pointer (some ⟨g, 0, none⟩))).run Try.prog w = .ok ⟨g, 0, none⟩ w from rfl]
  simp only [Result.andThen_ok, load_plan w g x y z c0 c1 c2]
theorem grownBy_setC (W : World) (b o : Nat) (v : Value) : W.grownBy (W.setCell ⟨b, o, none⟩ v) (some b) := ⟨rfl, rfl, rfl, by simp [World.setCell], fun k _ hk => Below.heap_setCell W ⟨b, o, none⟩ v k (fun e => hk (by rw [e]))⟩
def planV (o : Value) (s : Int) (l : Value) : Value := .agg #[o, .int .i64 s, l]
/-- What Best hands back. -/
def BestR (w : World) (way : Int) (pl : List Pl) (need : List Int) : Ending → World → Prop := fun e w' =>
  Below w.heap.size w w' ∧ ∃ vo vl : Value, e = .returned (.tuple #[planV vo (if taskZ way pl.length need = 0 then restV way (needL pl need) (2 ^ need.length - 1) pl0 else 0) vl, .int .i64 (taskZ way pl.length need)]) ∧
    IntsOf TkR w' vo (if taskZ way pl.length need = 0 then orderZ way (needL pl need) need else []) ∧ TabOf TkR w' vl (if taskZ way pl.length need = 0 then tabL way (needL pl need) else [])
def ndOf (need : List Int) (acc : List Nat) : List Int := acc.map fun k => need.getD k 0
/-- Best's loop: the facts acc have been taken, the set s is left, the reader stands at f. -/
def BestI (W5 wr : World) (way : Int) (L : List Pl) (need : List Int) (S : Int) (lv : Value) (C F p q n : Nat) (ds : List Deferred) : Prop :=
  Turned (fun b => b = p ∨ b = p + 1 ∨ b = p + 3 ∨ b = p + 3 + 1 ∨ b = q) W5 wr ∧ Marks W5.heap.size ds wr ∧ ∃ (s : Nat) (acc : List Nat) (f : Pl) (vo : Value),
    wr.heap[p]? = some (.cells #[vo, .int .i64 S, lv] 35) ∧ wr.ownsRow W5.heap.size 3 1 vo acc.length (intsC (ndOf need acc)) ∧ MapOk wr way L (p + 1) (C + acc.length * (8 * C)) ∧
    Boxed wr (p + 3) 3 (.int .i64 (s : Nat)) ∧ wr.heap[p + 3 + 1]? = some (.cells (plC f).toArray 26) ∧ Boxed wr q 3 (.int .i64 (restV way L s f)) ∧ PlOk f ∧ s < 2 ^ n ∧
    acc ++ orderV way L s f = orderV way L F pl0 ∧ acc.length + (othersL s n (-1)).length ≤ 8
/-- Behind a round that has taken the fact k. -/
def BestX (w7 W : World) (way : Int) (L : List Pl) (need : List Int) (S : Int) (lv : Value) (C p q base s : Nat) (f : Pl) (acc pre : List Nat) : Prop :=
  ∃ (p' : List Nat) (k : Nat) (vo : Value), pre = p' ++ [k] ∧ (∀ y ∈ p', bestP way L s f y = false) ∧ bestP way L s f k = true ∧
    Turned (fun b => b = p ∨ b = p + 1 ∨ b = p + 3 ∨ b = p + 3 + 1 ∨ b = q ∨ base ≤ b) w7 W ∧ KeepsM w7 W ∧ W.heap[p]? = some (.cells #[vo, .int .i64 S, lv] 35) ∧ W.ownsRow base 3 1 vo (acc.length + 1) (intsC (ndOf need (acc ++ [k]))) ∧
    MapOk W way L (p + 1) (C + acc.length * (8 * C) + 8 * C) ∧ Boxed W (p + 3) 3 (.int .i64 ((s - 2 ^ k : Nat) : Int)) ∧ W.heap[p + 3 + 1]? = some (.cells (plC (lp L k)).toArray 26) ∧ Boxed W q 3 (.int .i64 (restV way L (s - 2 ^ k) (lp L k)))
theorem BestX.own {w7 W W' : World} {row : Option Nat} {way : Int} {L : List Pl} {need : List Int} {S : Int} {lv : Value} {C p q base s : Nat} {f : Pl} {acc pre : List Nat} (h : BestX w7 W way L need S lv C p q base s f acc pre) (hg : W.grownBy W' row)
    (hp : p + 5 ≤ w7.heap.size) (hq : q < w7.heap.size) (hr : ∀ r, row = some r → w7.heap.size ≤ r ∧ ∃ o : Obj, W.heap[r]? = some o ∧ o.isCells = false) : BestX w7 W' way L need S lv C p q base s f acc pre := by
  obtain ⟨p', k, vo, h1, h2, h3, h4, h4', h5, h6, h7, h8, h9, h10⟩ := h
  have hne : ∀ b, b < w7.heap.size → some b ≠ row := fun b hb e => by have := (hr b e.symm).1; omega
  refine ⟨p', k, vo, h1, h2, h3, h4.own hg (fun r e => (hr r e).1), fun r hr7 => ?_, (hg.block _ (lt_of_block h5) (hne _ (by omega))).trans h5, h6.kept hg ?_, h7.kept hg (hne _ (by omega)), h8.kept hg (hne _ (by omega)), (hg.block _ (lt_of_block h9) (hne _ (by omega))).trans h9, h10.kept hg (hne _ hq)⟩
  · exact (hg.block r (lt_of_block (h4' r hr7)) (hne r (lt_of_block hr7))).trans (h4' r hr7)
  · by_cases hv : vo.ownBlock = none
    · exact .inl hv
    · refine .inr (fun e => ?_)
      rcases h6.2 with ⟨rfl, _⟩ | ⟨g, cap, cur, rfl, _, hcur, _⟩
      · exact hv rfl
      · obtain ⟨_, o, ho, hoc⟩ := hr g e.symm
        rw [hcur] at ho
        injection ho with ho
        subst ho
        cases hoc
theorem TabOf.nil (T : TypeId → Prop) (w : World) : TabOf T w (.slice none 0 0) [] := ⟨[], rfl, Rd.nil _ _ _, fun i u r h => by cases h⟩
theorem IntsOf.nil (T : TypeId → Prop) (w : World) : IntsOf T w (.slice none 0 0) [] := ⟨Rd.nil _ _ _, fun x hx => by cases hx⟩
theorem Turned.set6 {T : Nat → Prop} {w w' : World} (h : Turned T w w') (b : Nat) (v0 v1 v2 v3 v4 v5 : Value) (hb : T b) : Turned T w ((((((w'.setCell ⟨b, 0, none⟩ v0).setCell ⟨b, 1, none⟩ v1).setCell ⟨b, 2, none⟩ v2).setCell ⟨b, 3, none⟩ v3).setCell ⟨b, 4, none⟩ v4).setCell ⟨b, 5, none⟩ v5) :=
  (((((h.setCell ⟨b, 0, none⟩ _ (.inr hb)).setCell ⟨b, 1, none⟩ _ (.inr hb)).setCell ⟨b, 2, none⟩ _ (.inr hb)).setCell ⟨b, 3, none⟩ _ (.inr hb)).setCell ⟨b, 4, none⟩ _ (.inr hb)).setCell ⟨b, 5, none⟩ _ (.inr hb)
theorem wpIn_join {F : Fence} {n : Nat} {P : Program} {c : Code} {K : Act → World → Prop} {Q : Exit → Act → World → Prop} {a : Act} {w : World} (M : Act → World → Prop) (h1 : ∀ K' : Act → World → Prop, (∀ a w, M a w → K' a w) → c.wpIn F n P (Exit.then K' Q) a w) (h2 : ∀ a w, M a w → K a w) : c.wpIn F n P (Exit.then K Q) a w := h1 K h2
theorem wpIn_cutA {F : Fence} {n : Nat} {P : Program} {c : Code} {Q : Exit → Act → World → Prop} {a : Act} {w : World} (N : Nat) (R : Array Value → List Deferred → Prop) (hs : a.tmps.size = N) (hR : R a.tmps a.defers) (k : ∀ t ds, t.size = N → R t ds → c.wpIn F n P Q { tmps := t, defers := ds } w) : c.wpIn F n P Q a w := k _ _ hs hR
theorem heap_set {W : World} {b : Nat} {cur : Array Value} {t : TypeId} {f : Nat × Nat} (h : W.heap[b]? = some (.cells cur t f)) (j : Nat) (v : Value) : (W.setCell ⟨b, j, none⟩ v).heap[b]? = some (.cells (cur.setIfInBounds j v) t f) := by
  simp [World.setCell, Array.getElem?_modify, h]
theorem drew_heap' (w : World) (b : Nat) : w.drew.heap[b]? = w.heap[b]? := rfl
theorem six_get (W : World) (b : Nat) (t0 t1 t2 t3 t4 t5 m0 m1 m2 m3 m4 m5 : Value) {t : TypeId} {f : Nat × Nat} (h2 : W.heap[b]? = some (.cells #[m0, m1, m2, m3, m4, m5] t f)) : ((((((W.setCell ⟨b, 0, none⟩ t0).setCell ⟨b, 1, none⟩ t1).setCell ⟨b, 2, none⟩ t2).setCell ⟨b, 3, none⟩ t3).setCell ⟨b, 4, none⟩ t4).setCell ⟨b, 5, none⟩ t5).heap[b]? = some (.cells #[t0, t1, t2, t3, t4, t5] t f) := by
  have e1 := heap_set h2 0 t0
  generalize W.setCell ⟨b, 0, none⟩ t0 = W1 at e1 ⊢
  have e2 := heap_set e1 1 t1
  generalize W1.setCell ⟨b, 1, none⟩ t1 = W2 at e2 ⊢
  have e3 := heap_set e2 2 t2
  generalize W2.setCell ⟨b, 2, none⟩ t2 = W3 at e3 ⊢
  have e4 := heap_set e3 3 t3
  generalize W3.setCell ⟨b, 3, none⟩ t3 = W4 at e4 ⊢
  have e5 := heap_set e4 4 t4
  generalize W4.setCell ⟨b, 4, none⟩ t4 = W5 at e5 ⊢
  have e6 := heap_set e5 5 t5
  generalize W5.setCell ⟨b, 5, none⟩ t5 = W6 at e6 ⊢
  exact e6
theorem six_other (W : World) (b c : Nat) (t0 t1 t2 t3 t4 t5 : Value) (h : c ≠ b) : ((((((W.setCell ⟨b, 0, none⟩ t0).setCell ⟨b, 1, none⟩ t1).setCell ⟨b, 2, none⟩ t2).setCell ⟨b, 3, none⟩ t3).setCell ⟨b, 4, none⟩ t4).setCell ⟨b, 5, none⟩ t5).heap[c]? = W.heap[c]? := by
  rw [Below.heap_setCell _ ⟨b, 5, none⟩ _ _ h, Below.heap_setCell _ ⟨b, 4, none⟩ _ _ h, Below.heap_setCell _ ⟨b, 3, none⟩ _ _ h, Below.heap_setCell _ ⟨b, 2, none⟩ _ _ h, Below.heap_setCell _ ⟨b, 1, none⟩ _ _ h, Below.heap_setCell _ ⟨b, 0, none⟩ _ _ h]
theorem st16 (W : World) (a b c : Nat) (x y x0 y0 t0 t1 t2 t3 t4 t5 m0 m1 m2 m3 m4 m5 : Value) (h1 : W.heap[a]? = some (.cells #[x0] 3 (0, 0))) (h2 : W.heap[b]? = some (.cells #[m0, m1, m2, m3, m4, m5] 26 (0, 0))) (h3 : W.heap[c]? = some (.cells #[y0] 3 (0, 0))) (hab : a ≠ b) (hac : a ≠ c) (hbc : b ≠ c) :
    Turned (fun z => z = a ∨ z = b ∨ z = c) W ((((((((W.setCell ⟨a, 0, none⟩ x).setCell ⟨b, 0, none⟩ t0).setCell ⟨b, 1, none⟩ t1).setCell ⟨b, 2, none⟩ t2).setCell ⟨b, 3, none⟩ t3).setCell ⟨b, 4, none⟩ t4).setCell ⟨b, 5, none⟩ t5).setCell ⟨c, 0, none⟩ y).drew ∧ Boxed ((((((((W.setCell ⟨a, 0, none⟩ x).setCell ⟨b, 0, none⟩ t0).setCell ⟨b, 1, none⟩ t1).setCell ⟨b, 2, none⟩ t2).setCell ⟨b, 3, none⟩ t3).setCell ⟨b, 4, none⟩ t4).setCell ⟨b, 5, none⟩ t5).setCell ⟨c, 0, none⟩ y).drew a 3 x ∧ ((((((((W.setCell ⟨a, 0, none⟩ x).setCell ⟨b, 0, none⟩ t0).setCell ⟨b, 1, none⟩ t1).setCell ⟨b, 2, none⟩ t2).setCell ⟨b, 3, none⟩ t3).setCell ⟨b, 4, none⟩ t4).setCell ⟨b, 5, none⟩ t5).setCell ⟨c, 0, none⟩ y).drew.heap[b]? = some (.cells #[t0, t1, t2, t3, t4, t5] 26 (0, 0)) ∧ Boxed ((((((((W.setCell ⟨a, 0, none⟩ x).setCell ⟨b, 0, none⟩ t0).setCell ⟨b, 1, none⟩ t1).setCell ⟨b, 2, none⟩ t2).setCell ⟨b, 3, none⟩ t3).setCell ⟨b, 4, none⟩ t4).setCell ⟨b, 5, none⟩ t5).setCell ⟨c, 0, none⟩ y).drew c 3 y := by
  have k1 : Turned (fun z => z = a ∨ z = b ∨ z = c) W (W.setCell ⟨a, 0, none⟩ x) := (Turned.refl _ _).setCell ⟨a, 0, none⟩ _ (.inr (.inl rfl))
  have e1 := heap_set h1 0 x
  have e2 := (Below.heap_setCell W ⟨a, 0, none⟩ x b (Ne.symm hab)).trans h2
  have e3 := (Below.heap_setCell W ⟨a, 0, none⟩ x c (Ne.symm hac)).trans h3
  generalize W.setCell ⟨a, 0, none⟩ x = W1 at k1 e1 e2 e3 ⊢
  have k2 := k1.set6 b t0 t1 t2 t3 t4 t5 (.inr (.inl rfl))
  have f1 := (six_other W1 b a t0 t1 t2 t3 t4 t5 hab).trans e1
  have f2 := six_get W1 b t0 t1 t2 t3 t4 t5 _ _ _ _ _ _ e2
  have f3 := (six_other W1 b c t0 t1 t2 t3 t4 t5 (Ne.symm hbc)).trans e3
  generalize ((((((W1.setCell ⟨b, 0, none⟩ t0).setCell ⟨b, 1, none⟩ t1).setCell ⟨b, 2, none⟩ t2).setCell ⟨b, 3, none⟩ t3).setCell ⟨b, 4, none⟩ t4).setCell ⟨b, 5, none⟩ t5) = W2 at k2 f1 f2 f3 ⊢
  have k3 := k2.setCell ⟨c, 0, none⟩ y (.inr (.inr (.inr rfl)))
  have g1 := (Below.heap_setCell W2 ⟨c, 0, none⟩ y a hac).trans f1
  have g2 := (Below.heap_setCell W2 ⟨c, 0, none⟩ y b hbc).trans f2
  have g3 := heap_set f3 0 y
  generalize W2.setCell ⟨c, 0, none⟩ y = W3 at k3 g1 g2 g3 ⊢
  exact ⟨k3.drew, g1, g2, g3⟩
theorem intsC_snoc' (pre : List Int) (x : Int) : intsC (pre ++ [x]) = intsC pre ++ [.int .i64 x] := by simp [intsC]
theorem ownsRow_turned {T : Nat → Prop} {W X : World} {base : Nat} {e : TypeId} {k n : Nat} {v : Value} {xs : List Value} (h : W.ownsRow base e k v n xs) (hT : Turned T W X) (hne : ∀ g, v.ownBlock = some g → ¬ T g) : X.ownsRow base e k v n xs := by
  refine ⟨h.1, ?_⟩
  rcases h.2 with h2 | ⟨g, cap, cur, rfl, hg, hb, r⟩
  · exact .inl h2
  · exact .inr ⟨g, cap, cur, rfl, hg, hT.cells hb (hne g rfl), r⟩
theorem ownsRow_cells {W : World} {base : Nat} {e : TypeId} {k n : Nat} {v : Value} {xs : List Value} (h : W.ownsRow base e k v n xs) {g : Nat} (hg : v.ownBlock = some g) : ∃ cur, W.heap[g]? = some (.cells cur e (0, 0)) := by
  rcases h.2 with ⟨rfl, _⟩ | ⟨g', cap, cur, rfl, _, hb, _⟩
  · cases hg
  · injection hg with hg
    subst hg
    exact ⟨cur, hb⟩
theorem MapOk.turned {T : Nat → Prop} {w X : World} {way : Int} {L : List Pl} {b n : Nat} (h : MapOk w way L b n) (hT : Turned T w X) (hne : ¬ T b) : MapOk X way L b n := by
  obtain ⟨D, ⟨es, clock, hb, r⟩, h2⟩ := h
  exact ⟨D, ⟨es, clock, hT.cells hb hne, r⟩, h2⟩
set_option maxRecDepth 100000 in
set_option maxHeartbeats 40000000 in
theorem best_any (way : Int) (pl : List Pl) (need : List Int) (pv nv : Value) (hok : ∀ p ∈ pl, PlOk p) (w : World) (hp : PlacesAt w pv pl) (hn : IntsAt w nv need) :
    Calls Try.prog 18 #[.int .i64 way, pv, nv] w (BestR w way pl need) := by
  obtain ⟨a, c, rfl, hca, hma⟩ := hp.form
  obtain ⟨b, d, rfl, hcb, hmb⟩ := hn.1.form
  unfold maxLen at hma hmb
  have hfw : Fence.wide.fn 18 := trivial
  refine (callsIn_wide (n := 8)).1 ?_
  refine callsIn_of_wp_marks Try.func18 rfl hfw ?_ rfl
  simp only [Try.ntmps18, List.size_toArray, List.length_cons, List.length_nil, Nat.reduceAdd, Nat.reduceSub, Array.replicate_succ, Array.replicate_zero, List.push_toArray, List.append_toArray, List.nil_append, List.cons_append]
  refine wpIn_wide.2 ?_
  have HWB := hidep (allocs_below [.cells #[.int .i64 way] 3, .cells #[.slice a pl.length c] 23, .cells #[.slice b need.length d] 22, .cells #[.slice none 0 0, .int .i64 0, .slice none 0 0] 35] w)
  have HTA := hidep (fun W (h : Below w.heap.size w W) => rtask_any way _ _ pl need W (hp.below h) (hn.below h))
  by_cases ht : taskZ way pl.length need = 0
  · obtain ⟨hneed, hw0, hw3, hpw⟩ := task_need rfl ht
    rw [ht] at HTA
    have HT0 := hidep ht
    have HPW := hidep hpw
    clear ht hpw
    have HNEED := hidep hneed
    have hn8 := hneed.1
    have HTAB := hidep (fun W (h : Below w.heap.size w W) => table_any way pl need _ _ hok hneed W (hp.below h) (hn.below h))
    obtain ⟨F, hF⟩ : ∃ F, F = 2 ^ need.length - 1 := ⟨_, rfl⟩
    have hN := two_pow_lt hn8
    have hFl : F < 256 := by omega
    have hshl : wrap64 (wrap64 (2 ^ need.length) - 1) = ((F : Nat) : Int) := by
      rw [hF]
      have : ∀ n, n ≤ 8 → wrap64 (wrap64 (2 ^ n) - 1) = ((2 ^ n - 1 : Nat) : Int) := by decide +kernel
      exact this _ hn8
    have HFE := hidep hF
    clear hF
    have HQ4 := hidep (show ∀ w1, Below (allocs w [.cells #[.int .i64 way] 3, .cells #[.slice a pl.length c] 23, .cells #[.slice b need.length d] 22, .cells #[.slice none 0 0, .int .i64 0, .slice none 0 0] 35]).heap.size (allocs w [.cells #[.int .i64 way] 3, .cells #[.slice a pl.length c] 23, .cells #[.slice b need.length d] 22, .cells #[.slice none 0 0, .int .i64 0, .slice none 0 0] 35]) w1 → w1.heap[w.heap.size]? = some (.cells #[.int .i64 way] 3) ∧ w1.heap[w.heap.size + 1]? = some (.cells #[.slice a pl.length c] 23) ∧ w1.heap[w.heap.size + 1 + 1]? = some (.cells #[.slice b need.length d] 22) ∧ w1.heap[w.heap.size + 1 + 1 + 1]? = some (.cells #[.slice none 0 0, .int .i64 0, .slice none 0 0] 35) ∧ w.heap.size + 4 ≤ w1.heap.size from fun w1 h => by
      have hz := allocs_size [.cells #[.int .i64 way] 3, .cells #[.slice a pl.length c] 23, .cells #[.slice b need.length d] 22, .cells #[.slice none 0 0, .int .i64 0, .slice none 0 0] 35] w
      simp only [List.length_cons, List.length_nil] at hz
      exact ⟨(h.block _ (by omega)).trans (allocs_get [.cells #[.int .i64 way] 3, .cells #[.slice a pl.length c] 23, .cells #[.slice b need.length d] 22, .cells #[.slice none 0 0, .int .i64 0, .slice none 0 0] 35] w 0 _ rfl), (h.block _ (by omega)).trans (allocs_get [.cells #[.int .i64 way] 3, .cells #[.slice a pl.length c] 23, .cells #[.slice b need.length d] 22, .cells #[.slice none 0 0, .int .i64 0, .slice none 0 0] 35] w 1 _ rfl), (h.block _ (by omega)).trans (allocs_get [.cells #[.int .i64 way] 3, .cells #[.slice a pl.length c] 23, .cells #[.slice b need.length d] 22, .cells #[.slice none 0 0, .int .i64 0, .slice none 0 0] 35] w 2 _ rfl), (h.block _ (by omega)).trans (allocs_get [.cells #[.int .i64 way] 3, .cells #[.slice a pl.length c] 23, .cells #[.slice b need.length d] 22, .cells #[.slice none 0 0, .int .i64 0, .slice none 0 0] 35] w 3 _ rfl), by have := h.size; omega⟩)
    have hmm := @run_makeMap Try.prog
    obtain ⟨C, hC⟩ : ∃ C, C = cst 9 := ⟨_, rfl⟩
    have hCb : C ≤ 153391689 := by rw [hC]; decide
    have HREST := hidep (show ∀ (X : World) (bm s cnt : Nat) (at_ : Int) (f : Pl), Keeps (fun _ => True) w X → f = fromOf (needL pl need) at_ → s < 256 → -1 ≤ at_ → at_ ≤ 8 → MapOk X way (needL pl need) bm cnt → cnt + C ≤ 1099511627776 →
        Calls Try.prog 39 #[.int .i64 way, .slice a pl.length c, .slice b need.length d, .int .i64 (s : Nat), plV f, .map (some bm), .int .i64 at_] X (RestR X way (needL pl need) bm (cnt + C) s at_) from fun X bm s cnt at_ f hk hf hs h1 h2 hM hc => by
      subst hf
      rw [hC] at hc ⊢
      exact rest_any way pl need _ _ bm hok hneed 8 s cnt at_ X (Nat.le_trans (othersL_len ..) hn8) hs h1 h2 (Rd.keeps hp hk) ⟨hn.1.keeps hk, hn.2⟩ hM hc)
    clear hC
    go_upto_region 6 with (first
      | (go_at_call 37; refine (HTA.out _ (by exact HWB.out)).mono ?_; rintro e w1 ⟨rfl, rfl⟩)
      | (go_at_call 38; refine (HTAB.out _ (by exact HWB.out)).mono ?_; rintro e w1 ⟨v, rfl, hTab, hb1⟩; obtain ⟨av, cv, rfl, hcv, hmv⟩ := hTab.form; unfold maxLen at hmv; have HTB := hidep hTab; clear hTab; obtain ⟨q0, q1, q2, q3, qs⟩ := HQ4.out w1 hb1)
      | fail)
    have HWW := hidep (show Below w.heap.size w w1 from HWB.out.trans (hb1.mono (by simp only [World.size_alloc]; omega)))
    refine wp_abs (fun X => Below w1.heap.size w1 X ∧ X.heap[w1.heap.size]? = some (.cells #[.slice none 0 0, .int .i64 0, .slice av (tabL way (needL pl need)).length cv] 35) ∧ MapOk X way (needL pl need) (w1.heap.size + 1) 0 ∧ X.heap[w1.heap.size + 1 + 1]? = some (.cells #[.map (some (w1.heap.size + 1))] 68) ∧ X.heap.size = w1.heap.size + 3) ⟨allocs_below [.cells #[.slice none 0 0, .int .i64 0, .slice av (tabL way (needL pl need)).length cv] 35, .map #[] 0, .cells #[.map (some (w1.heap.size + 1))] 68] w1, allocs_get [.cells #[.slice none 0 0, .int .i64 0, .slice av (tabL way (needL pl need)).length cv] 35, .map #[] 0, .cells #[.map (some (w1.heap.size + 1))] 68] w1 0 _ rfl, ?hmap, allocs_get [.cells #[.slice none 0 0, .int .i64 0, .slice av (tabL way (needL pl need)).length cv] 35, .map #[] 0, .cells #[.map (some (w1.heap.size + 1))] 68] w1 2 _ rfl, allocs_size [.cells #[.slice none 0 0, .int .i64 0, .slice av (tabL way (needL pl need)).length cv] 35, .map #[] 0, .cells #[.map (some (w1.heap.size + 1))] 68] w1⟩ ?_
    case hmap =>
      have hm := MapOk.made (w1.alloc (.cells #[.slice none 0 0, .int .i64 0, .slice av (tabL way (needL pl need)).length cv] 35)) way (needL pl need)
      rw [World.size_alloc] at hm
      exact hm.kept (World.grownBy_alloc _ _ none) (by simp)
    rintro W2 ⟨hb2, hpl2, hm2, hq10, hsz2⟩
    have j0 := (hb2.block _ (lt_of_block q0)).trans q0
    have j1 := (hb2.block _ (lt_of_block q1)).trans q1
    have j2 := (hb2.block _ (lt_of_block q2)).trans q2
    have j3 := (hb2.block _ (lt_of_block q3)).trans q3
    have k2 := box1_cell j2
    have l0 := q0
    have l1 := q1
    have l2 := q2
    have l3 := q3
    clear q0 q1 q2 q3 hmm
    go_upto_region 7 with (fail)
    have hpl0 : plC pl0 = [.int .i64 0, .int .i64 0, .int .i64 0, .int .i64 0, .int .i64 0, .int .i64 0] := rfl
    refine wp_abs (fun X => Below W2.heap.size W2 X ∧ X.heap[w1.heap.size + 3]? = some (.cells #[.int .i64 (F : Nat)] 3) ∧ X.heap[w1.heap.size + 3 + 1]? = some (.cells (plC pl0).toArray 26) ∧ X.heap.size = w1.heap.size + 5) ⟨allocs_below [.cells #[.int .i64 (F : Nat)] 3, .cells (plC pl0).toArray 26] W2, by rw [← hsz2]; exact allocs_get [.cells #[.int .i64 (F : Nat)] 3, .cells (plC pl0).toArray 26] W2 0 _ rfl, by rw [← hsz2]; exact allocs_get [.cells #[.int .i64 (F : Nat)] 3, .cells (plC pl0).toArray 26] W2 1 _ rfl, by simp only [World.size_alloc]; omega⟩ ?_
    rintro W3 ⟨hb3, hq11, hq13, hsz3⟩
    have hM3 := hm2.below hb3
    have i0 := (hb3.block _ (lt_of_block j0)).trans j0
    have i1 := (hb3.block _ (lt_of_block j1)).trans j1
    have i2 := (hb3.block _ (lt_of_block j2)).trans j2
    have i3 := (hb3.block _ (lt_of_block j3)).trans j3
    have ipl := (hb3.block _ (lt_of_block hpl2)).trans hpl2
    have i10 := (hb3.block _ (lt_of_block hq10)).trans hq10
    have HW13 := hidep (show Below w1.heap.size w1 W3 from hb2.trans (hb3.mono hb2.size))
    have HWX := hidep (show Below w.heap.size w W3 from (HWW.out.trans (hb2.mono HWW.out.size)).trans (hb3.mono (by have := HWW.out.size; have := hb2.size; omega)))
    clear j0 j1 j2 j3 k2 hpl2 hm2 hq10 hb2 hb3 hsz2
    obtain ⟨S, hS⟩ : ∃ S, S = restV way (needL pl need) F pl0 := ⟨_, rfl⟩
    have HS := hidep hS
    have HR0 := hidep (show Calls Try.prog 39 #[.int .i64 way, .slice a pl.length c, .slice b need.length d, .int .i64 (F : Nat), plV pl0, .map (some (w1.heap.size + 1)), .int .i64 (-1)] W3 (fun e w' => e = .returned (.int .i64 S) ∧ MapOk w' way (needL pl need) (w1.heap.size + 1) (0 + C) ∧ W3.grownBy w' (some (w1.heap.size + 1))) from by rw [hS]; exact HREST.out W3 (w1.heap.size + 1) F 0 (-1) pl0 (Keeps.below _ HWX.out) rfl hFl (by omega) (by omega) hM3 (by omega))
    have c0 := box1_cell i0
    have c1 := box1_cell i1
    have c2 := box1_cell i2
    have c10 := box1_cell i10
    have c11 := box1_cell hq11
    obtain ⟨z0, z1, z2, z3, z4, z5⟩ := box6_cells hq13
    obtain ⟨y0, y1, y2⟩ := box3_cells ipl
    have hfo : fromOf (needL pl need) (-1) = pl0 := rfl
    have fpl : W3.frozen? ⟨w1.heap.size, 1, none⟩ = false := by simp [World.frozen?, ipl]
    clear hS
    go_wp2_with (first
      | (go_at_call 39; refine HR0.out.mono ?_; rintro e w4 ⟨rfl, hM4, hg4⟩; have y4 := hg4.cell y1 (by simp); have f4 : w4.frozen? ⟨w1.heap.size, 1, none⟩ = false := (by have := hg4.block w1.heap.size (lt_of_block ipl) (by simp); simp [World.frozen?, this, ipl]))
      | fail)
    refine wp_abs (fun X => Below w1.heap.size w1 X ∧ X.heap[w1.heap.size]? = some (.cells #[.slice none 0 0, .int .i64 S, .slice av (tabL way (needL pl need)).length cv] 35) ∧ MapOk X way (needL pl need) (w1.heap.size + 1) C ∧ X.heap[w1.heap.size + 1 + 1]? = some (.cells #[.map (some (w1.heap.size + 1))] 68) ∧
        Boxed X (w1.heap.size + 3) 3 (.int .i64 (F : Nat)) ∧ X.heap[w1.heap.size + 3 + 1]? = some (.cells (plC pl0).toArray 26) ∧ Boxed X w4.heap.size 3 (.int .i64 S) ∧ w1.heap.size + 5 ≤ w4.heap.size ∧ X.heap.size = w4.heap.size + 1) ?habs ?_
    case habs =>
      have hs3 : w1.heap.size + 5 ≤ w4.heap.size := by have := hg4.size; omega
      have hW : Below w1.heap.size w1 W3 := HW13.out
      have hset : ∀ b, b ≠ w1.heap.size → b < w4.heap.size → ((w4.setCell ⟨w1.heap.size, 1, none⟩ (.int .i64 S)).alloc (.cells #[.int .i64 S] 3)).heap[b]? = w4.heap[b]? := fun b h1 h2 => (Below.heap_alloc _ _ _ (by simp [World.setCell]; exact h2)).trans (Below.heap_setCell w4 ⟨w1.heap.size, 1, none⟩ _ _ h1)
      have hg : ∀ b, b < W3.heap.size → b ≠ w1.heap.size + 1 → w4.heap[b]? = W3.heap[b]? := fun b h1 h2 => hg4.block b h1 (by simp; omega)
      have hp4 : w4.heap[w1.heap.size]? = some (.cells #[.slice none 0 0, .int .i64 0, .slice av (tabL way (needL pl need)).length cv] 35) := (hg _ (by omega) (by omega)).trans ipl
      refine ⟨⟨?_, ?_, ?_, ?_, fun b hb => ?_⟩, ?_, ?_, ?_, ?_, ?_, ?_, hs3, by simp [World.setCell]⟩
      · exact hg4.os.trans hW.os
      · exact hg4.tape.trans hW.tape
      · exact hg4.output.trans hW.output
      · simp [World.setCell]; omega
      · exact (hset b (by omega) (by omega)).trans ((hg b (by omega) (by omega)).trans (hW.block b hb))
      · rw [Below.heap_alloc _ _ _ (by simp [World.setCell]; omega)]
        simp [World.setCell, Array.getElem?_modify, hp4]
      · exact (hM4.kept (World.grownBy.trans (grownBy_setC w4 _ 1 _) (World.grownBy_alloc _ _ _)) (by simp)).mono (by omega)
      · exact (hset _ (by omega) (by omega)).trans ((hg _ (by omega) (by omega)).trans i10)
      · exact (hset _ (by omega) (by omega)).trans ((hg _ (by omega) (by omega)).trans hq11)
      · exact (hset _ (by omega) (by omega)).trans ((hg _ (by omega) (by omega)).trans hq13)
      · have := heap_alloc_new (w4.setCell ⟨w1.heap.size, 1, none⟩ (.int .i64 S)) (.cells #[.int .i64 S] 3)
        have hsz : (w4.setCell ⟨w1.heap.size, 1, none⟩ (.int .i64 S)).heap.size = w4.heap.size := by simp [World.setCell]
        rw [hsz] at this
        exact this
    rintro W5 ⟨hb5, n9, hM5, n10, n11, n13, n14, hs4, hs5⟩
    have hw1s := HWW.out.size
    have j0 := (hb5.block _ (lt_of_block l0)).trans l0
    have j1 := (hb5.block _ (lt_of_block l1)).trans l1
    have j2 := (hb5.block _ (lt_of_block l2)).trans l2
    have j3 := (hb5.block _ (lt_of_block l3)).trans l3
    have HB5 := hidep hb5
    have HTB5 := hidep (HTB.out.below hb5)
    have hBp : w.heap.size + 4 ≤ w1.heap.size := qs
    have HPO := hidep pl0_ok
    clear hg4 hM4 y4 f4 c0 c1 c2 c10 c11 z0 z1 z2 z3 z4 z5 y0 y1 y2 fpl i0 i1 i2 i3 ipl i10 hq11 hq13 hM3 hpl0 hfo HR0 hb5
    generalize w4.heap.size = q at *
    obtain ⟨p, hp1⟩ : ∃ p, p = w1.heap.size := ⟨_, rfl⟩
    rw [← hp1] at n9 hM5 n10 n11 n13 hs4 hw1s HB5 hBp ⊢
    have HP1 := hidep hp1
    clear hp1
    have HNF := hidep (show F < 2 ^ need.length by rw [HFE.out]; have := Nat.two_pow_pos need.length; omega)
    have HNL := hidep (needL_len pl need)
    refine wp_loop (LoopI 99 (fun tm ds wr => (slot tm 3) = .pointer (some ⟨w.heap.size, 0, none⟩) ∧ (slot tm 4) = .pointer (some ⟨w.heap.size + 1, 0, none⟩) ∧ (slot tm 5) = .pointer (some ⟨w.heap.size + 1 + 1, 0, none⟩) ∧ (slot tm 6) = .pointer (some ⟨w.heap.size + 1 + 1 + 1, 0, none⟩) ∧ (slot tm 9) = .pointer (some ⟨p, 0, none⟩) ∧ (slot tm 10) = .pointer (some ⟨p + 1 + 1, 0, none⟩) ∧ (slot tm 11) = .pointer (some ⟨p + 3, 0, none⟩) ∧ (slot tm 13) = .pointer (some ⟨p + 3 + 1, 0, none⟩) ∧ (slot tm 14) = .pointer (some ⟨q, 0, none⟩) ∧ BestI W5 wr way (needL pl need) need S (.slice av (tabL way (needL pl need)).length cv) C F p q need.length ds)) (fun a' wr => (intOf ((wr.cell? ⟨p + 3, 0, none⟩).getD undef)).toNat) ?mainStart ?mainRound
    case' mainStart => refine LoopI.mk rfl ?_
    case' mainRound => (rintro ⟨t, ds⟩ wr ⟨hts, hrel⟩; dsimp only at hts hrel; rw [frame99 t ds hts])
    case mainStart =>
      exact ⟨rfl, rfl, rfl, rfl, rfl, rfl, rfl, rfl, rfl, Turned.refl _ _, Marks.nil _ _, F, [], pl0, .slice none 0 0, n9, World.ownsRow_nil _ _ _ _, by simpa using hM5, n11, n13, by rw [← HS.out]; exact n14, pl0_ok, HNF.out, rfl, by simpa using Nat.le_trans (othersL_len ..) hn8⟩
    obtain ⟨h3, h4, h5, h6, h9, h10, h11, h13, h14, hBI⟩ := hrel
    rw [h3, h4, h5, h6, h9, h10, h11, h13, h14]
    clear h3 h4 h5 h6 h9 h10 h11 h13 h14 hts
    obtain ⟨hT, hMk, s, acc, f, vo, g9, hown, hMr, g11, g13, g14, hfok, hsN, hord, hcnt⟩ := hBI
    have HMK := hidep hMk
    have HORD := hidep hord
    have HCNT := hidep hcnt
    have HOWN := hidep hown
    have HMR := hidep hMr
    have HSN := hidep hsN
    clear hMk hord hcnt hMr hsN
    have hszw := hT.size
    obtain ⟨avo, cvo, rfl, hcvo, hmvo⟩ := (Rd.of_own hown).form
    unfold maxLen at hmvo
    clear hown
    have c11 := g11.cell
    have cc3 := hT.cells j3 (by omega)
    by_cases hs0 : s = 0
    · subst hs0
      obtain ⟨y0, y1, y2⟩ := box3_cells g9
      obtain ⟨x0, x1, x2⟩ := box3_cells cc3
      have f0 : wr.frozen? ⟨w.heap.size + 1 + 1 + 1, 0, none⟩ = false := by simp [World.frozen?, cc3]
      have f1 : wr.frozen? ⟨w.heap.size + 1 + 1 + 1, 1, none⟩ = false := by simp [World.frozen?, cc3]
      have f2 : wr.frozen? ⟨w.heap.size + 1 + 1 + 1, 2, none⟩ = false := by simp [World.frozen?, cc3]
      have HT := hidep hT
      have HG9 := hidep g9
      have HFO := hidep hfok
      have HN := hidep hn.2
      have HCC := hidep cc3
      clear hT g13 g14 g9 n9 n10 n11 n13 n14 hM5 j0 j1 j2 l0 l1 l2 hp hn hok
      go_wp2
      obtain ⟨Z, hZ⟩ : ∃ Z, Z = (((wr.setCell ⟨w.heap.size + 1 + 1 + 1, 0, none⟩ (.slice avo acc.length cvo)).setCell ⟨w.heap.size + 1 + 1 + 1, 1, none⟩ (.int .i64 S)).setCell ⟨w.heap.size + 1 + 1 + 1, 2, none⟩ (.slice av (tabL way (needL pl need)).length cv)) := ⟨_, rfl⟩
      rw [← hZ]
      have hTZ : Turned (fun b => b = w.heap.size + 1 + 1 + 1) wr Z := by rw [hZ]; exact (((Turned.refl (fun b => b = w.heap.size + 1 + 1 + 1) wr).setCell ⟨w.heap.size + 1 + 1 + 1, 0, none⟩ _ (.inr rfl)).setCell ⟨w.heap.size + 1 + 1 + 1, 1, none⟩ _ (.inr rfl)).setCell ⟨w.heap.size + 1 + 1 + 1, 2, none⟩ _ (.inr rfl)
      have hZ3 : Z.heap[w.heap.size + 1 + 1 + 1]? = some (.cells #[.slice avo acc.length cvo, .int .i64 S, .slice av (tabL way (needL pl need)).length cv] 35) := by rw [hZ]; simp [World.setCell, Array.getElem?_modify, HCC.out]
      have hMZ := HMK.out.kept (hTZ.keepsM (fun b hb => by subst hb; rw [HCC.out]; simp))
      refine leavesM_marks (lo := W5.heap.size) hMZ (fun w' hc hb => ?_)
      obtain ⟨r0, r1, r2⟩ := box3_cells (hc _ _ hZ3 rfl)
      have hK1 : Keeps TkR wr w' := ⟨Nat.le_trans hTZ.size hb.size, fun b cur t fz ht hbk => hc b _ (hTZ.cells hbk (fun e => by
        subst e
        rw [HCC.out] at hbk
        injection hbk with hbk
        injection hbk with _ h2 _
        subst h2
        rcases ht with h | h <;> exact absurd h (by decide))) rfl⟩
      have hK0 : Keeps TkR w1 wr := ⟨Nat.le_trans HB5.out.size HT.out.size, fun b cur t fz _ hbk => HT.out.cells ((HB5.out.block b (by have := HP1.out; have := lt_of_block hbk; omega)).trans hbk) (by have := HP1.out; have := lt_of_block hbk; omega)⟩
      have hBw : Below w.heap.size w w' := by
        have h1 := HWW.out
        have h2 := HB5.out
        have h3 := HT.out
        exact ⟨hb.os.trans (hTZ.os.trans (h3.os.trans (h2.os.trans h1.os))), hb.tape.trans (hTZ.tape.trans (h3.tape.trans (h2.tape.trans h1.tape))), hb.output.trans (hTZ.output.trans (h3.output.trans (h2.output.trans h1.output))), Nat.le_trans h1.size (Nat.le_trans h2.size (Nat.le_trans h3.size (Nat.le_trans hTZ.size hb.size))), fun b hbl =>
          (hb.block b (by have := h2.size; have := h1.size; omega)).trans ((hTZ.block b (by have := h3.size; have := h2.size; have := h1.size; omega) (by omega)).trans ((h3.block b (by have := h2.size; have := h1.size; omega) (by omega)).trans ((h2.block b (by omega)).trans (h1.block b hbl))))⟩
      refine ⟨_, results_plan rfl _ _ (w.heap.size + 1 + 1 + 1) _ _ _ rfl r0 r1 r2, hBw, .slice avo acc.length cvo, .slice av (tabL way (needL pl need)).length cv, ?_, ?_, ?_⟩
      · rw [HT0.out, if_pos rfl, ← HFE.out, ← HS.out]; rfl
      · rw [if_pos HT0.out]
        have hoz : orderZ way (needL pl need) need = ndOf need acc := by
          have := HORD.out
          rw [orderV_zero, List.append_nil] at this
          rw [this, HFE.out]
          unfold orderZ ndOf
          rw [HNL.out]
        rw [hoz]
        have hlen : (ndOf need acc).length = acc.length := by simp [ndOf]
        refine ⟨?_, fun x hx => ?_⟩
        · rw [hlen]
          exact ((Rd.of_own HOWN.out).mono (T' := TkR) (fun _ h => .inr h)).keeps hK1
        · obtain ⟨k, _, rfl⟩ := List.mem_map.1 hx
          by_cases hkl : k < need.length
          · have := HN.out _ (List.getElem_mem hkl)
            simpa [List.getD, hkl] using this
          · simp [List.getD, List.getElem?_eq_none (Nat.le_of_not_lt hkl)]
      · rw [if_pos HT0.out]
        exact HTB.out.keeps (hK0.trans hK1)
    · have hs0' : ¬ (s : Int) = 0 := by omega
      have cc2 := box1_cell (hT.cells j2 (by omega))
      go_upto_region 10 with (fail)
      go_wp2_with (first
        | (go_at_call 40; refine (others_any s need.length (-1) _).mono ?_; rintro e w7 ⟨rfl, hO7, hs7, hb7⟩)
        | fail)
      have hfc : Fence.wide.fn 61 := trivial
      have hs256 : s < 256 := Nat.lt_of_lt_of_le HSN.out hN
      have hM7 := HMR.out.below hb7
      have hml := HMR.out.lt
      refine (wpIn_wide (n := 8)).1 ?_
      refine wpIn_rangeFunc_ownG rfl (by omega) (gf := 61) (lb := _) rfl hfc (enters_of Try.func61 (by kernel_rfl) rfl) (others_stops (8 - 1) (by omega) _ s need.length (-1) (by omega) hn8 (by omega) (by omega) w7 hO7) (fun h k => Kp3.trans h k) (Kp3.putObj (n := w7.heap.size) (by omega)) (Below.refl _ _) (fun _ => rfl)
        (fun pre W => (∀ y ∈ othV pre, bestP way (needL pl need) s f y = false) ∧ Turned (fun b => b = p + 1) w7 W ∧ MapOk W way (needL pl need) (p + 1) (C + acc.length * (8 * C) + pre.length * C))
        (fun cd pre W => cd = .exit 2 ∧ BestX w7 W way (needL pl need) need S (.slice av (tabL way (needL pl need)).length cv) C p q W5.heap.size s f acc (othV pre))
        (fun st A B row hs hg hr => ⟨hs.1, hs.2.1.own hg (fun r e => (hr r e).1), hs.2.2.kept hg (fun e => by have := (hr _ e.symm).1; omega)⟩)
        (fun cd st A B row hs hg hr => ⟨hs.1, hs.2.own hg (by omega) (by omega) hr⟩)
        ⟨fun y hy => (by cases hy), Turned.refl _ _, by simpa using hM7⟩
        ?a1 ?assign ?body ?done ?stop
      case assign =>
        intro l x W K hK
        gi_wp2
        exact hK
      case done =>
        rintro D ys W hD hys ⟨hall, _, _⟩ hK
        obtain ⟨k, hk, hbk⟩ := best_some way (needL pl need) (s := s) f hs0 (by rw [HNL.out]; exact HSN.out)
        rw [HNL.out] at hk
        rw [hall k (by rw [hys]; exact hk)] at hbk
        cases hbk
      case stop =>
        rintro D cd pre W hD ⟨hpre, hne⟩ ⟨rfl, hX⟩ hK
        obtain ⟨p', k, vo, hpk, hall, hbk, hTX, hKM, x9, xown, xM, x11, x13, xq⟩ := hX
        rw [hpk] at hpre
        have hfind := find_first hpre hall hbk
        have hkm := List.mem_of_find?_eq_some hfind
        obtain ⟨hkn, _, hkb⟩ := othersL_mem.1 hkm
        have hord2 := orderV_eq way (needL pl need) hs0 (by rw [HNL.out]; exact hfind)
        have hless := others_fewer hs256 hn8 hkm
        have hge := bit_ge hkb
        have hpos := Nat.two_pow_pos k
        have hmk2 := (HMK.out.kept (KeepsM.below hb7)).cons hKM (by have := hb7.size; omega) hD hK
        have hTN : Turned (fun b => b = p ∨ b = p + 1 ∨ b = p + 3 ∨ b = p + 3 + 1 ∨ b = q) W5 W := (((hT.mono (T' := fun b => b = p ∨ b = p + 1 ∨ b = p + 3 ∨ b = p + 3 + 1 ∨ b = q ∨ W5.heap.size ≤ b) (fun _ _ h => by omega)).below hb7).trans hTX).mono (fun b hb h => by omega)
        have hlen1 : (acc ++ [k]).length = acc.length + 1 := by simp
        have HNEW := hidep (show BestI W5 W way (needL pl need) need S (.slice av (tabL way (needL pl need)).length cv) C F p q need.length ({ target := .collected D, args := #[] } :: ds) from
          ⟨hTN, hmk2, s - 2 ^ k, acc ++ [k], lp (needL pl need) k, vo, x9, by rw [hlen1]; exact xown, by rw [hlen1]; exact xM.mono (by rw [Nat.add_mul]; omega), x11, x13, xq, lp_ok (needL_ok hok) k, sub_lt_pow HSN.out, by rw [List.append_assoc, List.singleton_append, ← hord2]; exact HORD.out, by rw [hlen1]; have := HCNT.out; omega⟩)
        have hm1 := x11.cell
        have hm2 := c11
        have HMEAS := hidep (show (intOf ((W.cell? ⟨p + 3, 0, none⟩).getD undef)).toNat < (intOf ((wr.cell? ⟨p + 3, 0, none⟩).getD undef)).toNat by
          rw [hm1, hm2]
          simp only [Option.getD_some, intOf, Int.toNat_natCast]
          omega)
        refine wpIn_wide.2 ?_
        clear hord2 hless hmk2 hTN hTX hKM x9 xown xM x11 x13 xq hall hfind hpre hge hpos hm1 hm2 hlen1
        go_wp2
        exact ⟨LoopI.mk rfl ⟨rfl, rfl, rfl, rfl, rfl, rfl, rfl, rfl, rfl, HNEW.out⟩, HMEAS.out⟩
      case body =>
        rintro l pre x W ⟨hall, hTW, hMW⟩ hlen
        obtain ⟨k, hkm⟩ := x
        obtain ⟨hkn, _, hkb⟩ := othersL_mem.1 hkm
        obtain ⟨i, hi, hni, hli⟩ := needL_get hneed hkn
        obtain ⟨nb, no, rfl, hnbl, hnc⟩ := ints_get hn hkn
        obtain ⟨pb, po, rfl, hpbl, p0, p1, p2, p3, p4, p5⟩ := PlacesAt.at hp hi
        have hnk := hni
        rw [hni] at hnc
        have HNK := hidep (show need.getD k 0 = ((i : Nat) : Int) by simp [List.getD, hkn, hnk])
        have hpk := lp_ok (needL_ok hok (need := need)) k
        have HLI := hidep hli
        rw [hli] at hpk
        generalize pl[i] = tp at *
        obtain ⟨t0, t1, t2, t3, t4, t5⟩ := tp
        simp only at p0 p1 p2 p3 p4 p5
        have hi0 : (0 : Int) ≤ (i : Int) := by omega
        have hi1 : (i : Int) < (pl.length : Int) := by omega
        have hk0 : (0 : Int) ≤ (k : Int) := by omega
        have hk1 : (k : Int) < (need.length : Int) := by omega
        have hTrW : Turned (fun b => b = p + 1) wr W := (Turned.of_below hb7).trans hTW
        have hT5W : Turned (fun b => b = p ∨ b = p + 1 ∨ b = p + 3 ∨ b = p + 3 + 1 ∨ b = q) W5 W := hT.trans (hTrW.mono (fun _ _ h => by omega))
        have hwW : Turned (fun b => w.heap.size ≤ b) w W := by
          have h1 := HWW.out
          have h2 := HB5.out
          refine (Turned.of_below h1).trans (Turned.trans (b := W5) ⟨h2.os, h2.tape, h2.output, h2.size, fun b hb hT => h2.block b (by omega)⟩ (hT5W.mono (fun b hb h => by omega)))
        have hkW : Keeps (fun _ => True) w W := hwW.keeps (fun b hb cur t fz h => by have := lt_of_block h; omega)
        have x0 := hT5W.cells j0 (by omega)
        have x1 := hT5W.cells j1 (by omega)
        have x2 := hT5W.cells j2 (by omega)
        have x10 := hT5W.cells n10 (by omega)
        have x11 := hTrW.cells g11 (by omega)
        have x13 : W.heap[p + 3 + 1]? = some (.cells #[.int .i64 f.item, .int .i64 f.fact, .int .i64 f.start, .int .i64 f.len, .int .i64 f.page, .int .i64 f.line] 26) := hTrW.cells g13 (by omega)
        have x14 := hTrW.cells g14 (by omega)
        have xnc := hwW.cell hnc (by omega)
        have xp0 := hwW.cell p0 (by omega)
        have xp1 := hwW.cell p1 (by omega)
        have xp2 := hwW.cell p2 (by omega)
        have xp3 := hwW.cell p3 (by omega)
        have xp4 := hwW.cell p4 (by omega)
        have xp5 := hwW.cell p5 (by omega)
        have HC1 := hidep (show ∀ X, Turned (fun b => b = p + 1) W X → X.cell? ⟨w.heap.size + 1, 0, none⟩ = some (.slice (some ⟨pb, po, none⟩) pl.length c) ∧ X.cell? ⟨w.heap.size + 1 + 1, 0, none⟩ = some (.slice (some ⟨nb, no, none⟩) need.length d) ∧
            X.cell? ⟨nb, no + k, none⟩ = some (.int .i64 (i : Nat)) ∧ X.cell? ⟨pb, po + i * 6, none⟩ = some (.int .i64 t0) ∧ X.cell? ⟨pb, po + i * 6 + 1, none⟩ = some (.int .i64 t1) ∧ X.cell? ⟨pb, po + i * 6 + 2, none⟩ = some (.int .i64 t2) ∧
            X.cell? ⟨pb, po + i * 6 + 3, none⟩ = some (.int .i64 t3) ∧ X.cell? ⟨pb, po + i * 6 + 4, none⟩ = some (.int .i64 t4) ∧ X.cell? ⟨pb, po + i * 6 + 5, none⟩ = some (.int .i64 t5) from fun X hX =>
          ⟨box1_cell (hX.cells x1 (by omega)), box1_cell (hX.cells x2 (by omega)), hX.cell xnc (by omega), hX.cell xp0 (by omega), hX.cell xp1 (by omega), hX.cell xp2 (by omega), hX.cell xp3 (by omega), hX.cell xp4 (by omega), hX.cell xp5 (by omega)⟩)
        have HCOST := hidep (fun X => rcost_any way f ⟨t0, t1, t2, t3, t4, t5⟩ X hfok hpk)
        have HSZ := hidep (show p + 5 ≤ W.heap.size ∧ q < W.heap.size ∧ w7.heap.size ≤ W.heap.size from ⟨by have := hTW.size; omega, by have := hTW.size; omega, hTW.size⟩)
        gi_wp2
        refine wpIn_region_round (S := (fun X => Turned (fun b => b = p + 1) W X)) (by kernel_rfl) (by kernel_rfl) (by rintro ⟨_, _, h⟩; exact h) ?hS18r12n0 (fun hHeld => ?hR18r12n0)
        case hS18r12n0 => ((try dsimp only); (exact (Turned.refl _ _).drew))
        refine wpAnyH_take (i := 0) (v := ?v18r12n0q1) rfl (by kernel_rfl) (by kernel_rfl) (by kernel_rfl) (fun _ _ _ h => h) (Or.inl ⟨by kernel_rfl, ?hy18r12n0q1⟩) (by assumption) ?hr18r12n0q1
        case hy18r12n0q1 => (intro w hSw; (try dsimp only at hSw); (obtain ⟨c1, c2, c3, c4, c5, c6, c7, c8, c9⟩ := HC1.out w hSw); first | (go_simp; done) | (go_simp; with_reducible rfl))
        refine wpAnyH_take (i := 1) (v := ?v18r12n0q2) rfl (by kernel_rfl) (by kernel_rfl) (by kernel_rfl) (fun _ _ _ h => h) (Or.inl ⟨by kernel_rfl, ?hy18r12n0q2⟩) (by assumption) ?hr18r12n0q2
        case hy18r12n0q2 => (intro w hSw; (try dsimp only at hSw); (obtain ⟨c1, c2, c3, c4, c5, c6, c7, c8, c9⟩ := HC1.out w hSw); first | (go_simp; done) | (go_simp; with_reducible rfl))
        refine wpAnyH_take (i := 2) (v := ?v18r12n0q3) rfl (by kernel_rfl) (by kernel_rfl) (by kernel_rfl) (fun _ _ _ h => h) (Or.inl ⟨by kernel_rfl, ?hy18r12n0q3⟩) (by assumption) ?hr18r12n0q3
        case hy18r12n0q3 => (intro w hSw; (try dsimp only at hSw); (obtain ⟨c1, c2, c3, c4, c5, c6, c7, c8, c9⟩ := HC1.out w hSw); first | (go_simp; done) | (go_simp; with_reducible rfl))
        refine wpAnyH_take (i := 3) (v := ?v18r12n0q4) rfl (by kernel_rfl) (by kernel_rfl) (by kernel_rfl) (fun _ _ _ h => h) (Or.inl ⟨by kernel_rfl, ?hy18r12n0q4⟩) (by assumption) ?hr18r12n0q4
        case hy18r12n0q4 => (intro w hSw; (try dsimp only at hSw); (obtain ⟨c1, c2, c3, c4, c5, c6, c7, c8, c9⟩ := HC1.out w hSw); first | (go_simp; done) | (go_simp; with_reducible rfl))
        refine wpAnyH_take (i := 4) (v := ?v18r12n0q5) rfl (by kernel_rfl) (by kernel_rfl) (by kernel_rfl) (fun _ _ _ h => h) (Or.inl ⟨by kernel_rfl, ?hy18r12n0q5⟩) (by assumption) ?hr18r12n0q5
        case hy18r12n0q5 => (intro w hSw; (try dsimp only at hSw); (obtain ⟨c1, c2, c3, c4, c5, c6, c7, c8, c9⟩ := HC1.out w hSw); first | (go_simp; done) | (go_simp; with_reducible rfl))
        refine wpAnyH_take (i := 5) (v := ?v18r12n0q6) rfl (by kernel_rfl) (by kernel_rfl) (by kernel_rfl) (fun _ _ _ h => h) (Or.inl ⟨by kernel_rfl, ?hy18r12n0q6⟩) (by assumption) ?hr18r12n0q6
        case hy18r12n0q6 => (intro w hSw; (try dsimp only at hSw); (obtain ⟨c1, c2, c3, c4, c5, c6, c7, c8, c9⟩ := HC1.out w hSw); first | (go_simp; done) | (go_simp; with_reducible rfl))
        refine wpAnyH_take (i := 6) (v := ?v18r12n0q7) rfl (by kernel_rfl) (by kernel_rfl) (by kernel_rfl) (fun _ _ _ h => h) (Or.inl ⟨by kernel_rfl, ?hy18r12n0q7⟩) (by assumption) ?hr18r12n0q7
        case hy18r12n0q7 => (intro w hSw; (try dsimp only at hSw); (obtain ⟨c1, c2, c3, c4, c5, c6, c7, c8, c9⟩ := HC1.out w hSw); first | (go_simp; done) | (go_simp; with_reducible rfl))
        refine wpAnyH_ready (rs := [7]) (by kernel_rfl) (by simp) (AllReadyH.cons rfl (fun K hK => ?hc18r12n0q8) AllReadyH.nil)
        go_simp
        refine hK.out _ _ ?hs18r12n0q8 (fun hHeld18r12n0q8 => ?ht18r12n0q8)
        case hs18r12n0q8 => ((try dsimp only); (first | exact hHeld.alloc _ | exact (Turned.refl _ _).drew.alloc _ | exact ((Turned.refl _ _).alloc _).drew))
        clear hHeld hK
        have hHeld := hHeld18r12n0q8
        clear hHeld18r12n0q8
        refine wpAnyH_ready (rs := [8]) (by kernel_rfl) (by simp) (AllReadyH.cons rfl (fun K hK => ?hc18r12n0q9) AllReadyH.nil)
        go_simp
        refine hK.out _ _ ?hs18r12n0q9 (fun hHeld18r12n0q9 => ?ht18r12n0q9)
        case hs18r12n0q9 => ((try dsimp only); (first | exact hHeld.alloc _ | exact (Turned.refl _ _).drew.alloc _ | exact ((Turned.refl _ _).alloc _).drew))
        clear hHeld hK
        have hHeld := hHeld18r12n0q9
        clear hHeld18r12n0q9
        refine wpAnyH_done (by kernel_rfl) ?_ _
        clear hHeld
        obtain ⟨Wb, hWb⟩ : ∃ Wb, Wb = (W.alloc (.cells #[.int .i64 t0, .int .i64 t1, .int .i64 t2, .int .i64 t3, .int .i64 t4, .int .i64 t5] 26)).drew := ⟨_, rfl⟩
        have hTb : Turned (fun b => b = p + 1) W Wb := by rw [hWb]; exact ((Turned.refl _ _).alloc _).drew
        have hcb : Wb.heap[W.heap.size]? = some (.cells #[.int .i64 t0, .int .i64 t1, .int .i64 t2, .int .i64 t3, .int .i64 t4, .int .i64 t5] 26) := by rw [hWb]; exact heap_alloc_new W _
        have hMb : MapOk Wb way (needL pl need) (p + 1) (C + acc.length * (8 * C) + pre.length * C) := by rw [hWb]; exact (hMW.kept (World.grownBy_alloc W _ none) (by simp) : MapOk (W.alloc _) way (needL pl need) (p + 1) _)
        rw [← hWb]
        clear hWb
        have d0 := box1_cell (hTb.cells x0 (by omega))
        obtain ⟨e0, e1, e2, e3, e4, e5⟩ := box6_cells (hTb.cells x13 (by omega))
        obtain ⟨v0, v1, v2, v3, v4, v5⟩ := box6_cells hcb
        gi_wp2_with (refine ⟨trivial, ?_⟩; gi_at_call 12; refine (callsIn_round (HCOST.out _)).mono ?_; rintro e w8 ⟨rfl, hb8⟩)
        have hT8 := hTb.below hb8
        have hM8 := hMb.below hb8
        have hs8 := hb8.size
        have hbsz := lt_of_block hcb
        have HC2 := hidep (show ∀ X, Turned (fun b => b = p + 1) w8 X → X.cell? ⟨w.heap.size, 0, none⟩ = some (.int .i64 way) ∧ X.cell? ⟨w.heap.size + 1, 0, none⟩ = some (.slice (some ⟨pb, po, none⟩) pl.length c) ∧ X.cell? ⟨w.heap.size + 1 + 1, 0, none⟩ = some (.slice (some ⟨nb, no, none⟩) need.length d) ∧
            X.cell? ⟨p + 3, 0, none⟩ = some (.int .i64 (s : Nat)) ∧ X.heap[W.heap.size]? = some (.cells #[.int .i64 t0, .int .i64 t1, .int .i64 t2, .int .i64 t3, .int .i64 t4, .int .i64 t5] 26) ∧ X.cell? ⟨p + 1 + 1, 0, none⟩ = some (.map (some (p + 1))) ∧ X.cell? ⟨q, 0, none⟩ = some (.int .i64 (restV way (needL pl need) s f)) from fun X hX =>
          have hh := hT8.trans hX
          ⟨box1_cell (hh.cells x0 (by omega)), box1_cell (hh.cells x1 (by omega)), box1_cell (hh.cells x2 (by omega)), box1_cell (hh.cells x11 (by omega)), hX.cells ((hb8.block _ hbsz).trans hcb) (by have := HSZ.out; omega), box1_cell (hh.cells x10 (by omega)), box1_cell (hh.cells x14 (by omega))⟩)
        obtain ⟨se, hse⟩ : ∃ se, se = s - 2 ^ k := ⟨_, rfl⟩
        have han : bits BinOp.andNot IntKind.i64 ((s : Nat) : Int) (IntKind.i64.wrap (2 ^ min k 64)) = ((se : Nat) : Int) := by rw [hse]; exact andNot_bit s hs256 k (by omega) hkb
        have han2 : bits BinOp.andNot IntKind.i64 ((s : Nat) : Int) (IntKind.i64.wrap (2 ^ k)) = ((se : Nat) : Int) := by rw [← han, Nat.min_eq_left (by omega)]
        have hse2 : se < 256 := by rw [hse]; exact Nat.lt_of_le_of_lt (Nat.sub_le _ _) hs256
        have hcs : C + acc.length * (8 * C) + pre.length * C + C ≤ 1099511627776 := by
          have h8 : pre.length + 1 ≤ 8 := by have := othersL_len s need.length (-1); omega
          have h9 : acc.length ≤ 8 := by have := HCNT.out; omega
          have e1 := Nat.mul_le_mul_right (8 * C) h9
          have e2 := Nat.mul_le_mul_right C h8
          rw [Nat.add_mul, Nat.one_mul] at e2
          omega
        have hfk : fromOf (needL pl need) ((k : Nat) : Int) = ⟨t0, t1, t2, t3, t4, t5⟩ := by
          unfold fromOf
          rw [if_neg (by omega), Int.toNat_natCast, HLI.out]
        have HR9 := hidep (show ∀ X, Turned (fun b => b = p + 1) w8 X → MapOk X way (needL pl need) (p + 1) (C + acc.length * (8 * C) + pre.length * C) →
            Calls Try.prog 39 #[.int .i64 way, .slice (some ⟨pb, po, none⟩) pl.length c, .slice (some ⟨nb, no, none⟩) need.length d, .int .i64 (se : Nat), .agg #[.int .i64 t0, .int .i64 t1, .int .i64 t2, .int .i64 t3, .int .i64 t4, .int .i64 t5], .map (some (p + 1)), .int .i64 (k : Nat)] X
              (fun e X' => e = .returned (.int .i64 (restV way (needL pl need) se ⟨t0, t1, t2, t3, t4, t5⟩)) ∧ MapOk X' way (needL pl need) (p + 1) (C + acc.length * (8 * C) + pre.length * C + C) ∧ X.grownBy X' (some (p + 1))) from fun X hX hMX => by
          have hkX : Keeps (fun _ => True) w X := (hwW.trans ((hT8.trans hX).mono (T' := fun b => w.heap.size ≤ b) (fun b hb h => by omega))).keeps (fun b hb cur t fz h => by have := lt_of_block h; omega)
          have := HREST.out X (p + 1) se _ ((k : Nat) : Int) ⟨t0, t1, t2, t3, t4, t5⟩ hkX hfk.symm hse2 (by omega) (by omega) hMX hcs
          unfold RestR at this
          rw [hfk] at this
          exact this)
        have hcbd := costZ_bd (way := way) hfok hpk
        have hrbd := restV_bd (way := way) (needL_ok hok (need := need)) (s := se) (by omega) hpk
        obtain ⟨cvT, hcvT⟩ : ∃ x, x = cv := ⟨_, rfl⟩
        have HCVT := hidep hcvT
        clear hcvT
        obtain ⟨cv, hcv⟩ : ∃ cv, cv = costZ way f ⟨t0, t1, t2, t3, t4, t5⟩ := ⟨_, rfl⟩
        obtain ⟨rv, hrv⟩ : ∃ rv, rv = restV way (needL pl need) se ⟨t0, t1, t2, t3, t4, t5⟩ := ⟨_, rfl⟩
        obtain ⟨lv, hlv⟩ : ∃ lv, lv = restV way (needL pl need) s f := ⟨_, rfl⟩
        have HBP := hidep (show bestP way (needL pl need) s f k = decide (cv + rv = lv) by unfold bestP; rw [HLI.out, hcv, hrv, hlv, hse])
        rw [← hlv] at HC2
        rw [← hrv] at HR9 hrbd
        rw [← hcv] at hcbd ⊢
        have HCV := hidep hcv
        have HRV := hidep hrv
        have HLV := hidep hlv
        have hwrp : IntKind.i64.wrap (cv + rv) = cv + rv := IntWalk.i64_in _ (by omega)
        have HSE := hidep hse
        clear hcv hrv hlv hfk hse hcs HCOST e0 e1 e2 e3 e4 e5 v0 v1 v2 v3 v4 v5 d0
        refine wpIn_region_round (S := (fun X => Turned (fun b => b = p + 1) w8 X)) (by kernel_rfl) (by kernel_rfl) (by rintro ⟨_, _, h⟩; exact h) ?hS18r14n1 (fun hHeld => ?hR18r14n1)
        case hS18r14n1 => ((try dsimp only); (exact (Turned.refl _ _).drew))
        refine wpAnyH_take (i := 0) (v := ?v18r14n1q1) rfl (by kernel_rfl) (by kernel_rfl) (by kernel_rfl) (fun _ _ _ h => h) (Or.inl ⟨by kernel_rfl, ?hy18r14n1q1⟩) (by assumption) ?hr18r14n1q1
        case hy18r14n1q1 => (intro w hSw; (try dsimp only at hSw); (obtain ⟨c1, c2, c3, c4, c5, c6, c7⟩ := HC2.out w hSw; obtain ⟨d0, d1, d2, d3, d4, d5⟩ := box6_cells c5); first | (go_simp; done) | (go_simp; with_reducible rfl))
        refine wpAnyH_take (i := 1) (v := ?v18r14n1q2) rfl (by kernel_rfl) (by kernel_rfl) (by kernel_rfl) (fun _ _ _ h => h) (Or.inl ⟨by kernel_rfl, ?hy18r14n1q2⟩) (by assumption) ?hr18r14n1q2
        case hy18r14n1q2 => (intro w hSw; (try dsimp only at hSw); (obtain ⟨c1, c2, c3, c4, c5, c6, c7⟩ := HC2.out w hSw; obtain ⟨d0, d1, d2, d3, d4, d5⟩ := box6_cells c5); first | (go_simp; done) | (go_simp; with_reducible rfl))
        refine wpAnyH_take (i := 2) (v := ?v18r14n1q3) rfl (by kernel_rfl) (by kernel_rfl) (by kernel_rfl) (fun _ _ _ h => h) (Or.inl ⟨by kernel_rfl, ?hy18r14n1q3⟩) (by assumption) ?hr18r14n1q3
        case hy18r14n1q3 => (intro w hSw; (try dsimp only at hSw); (obtain ⟨c1, c2, c3, c4, c5, c6, c7⟩ := HC2.out w hSw; obtain ⟨d0, d1, d2, d3, d4, d5⟩ := box6_cells c5); first | (go_simp; done) | (go_simp; with_reducible rfl))
        refine wpAnyH_take (i := 3) (v := ?v18r14n1q4) rfl (by kernel_rfl) (by kernel_rfl) (by kernel_rfl) (fun _ _ _ h => h) (Or.inl ⟨by kernel_rfl, ?hy18r14n1q4⟩) (by assumption) ?hr18r14n1q4
        case hy18r14n1q4 => (intro w hSw; (try dsimp only at hSw); (obtain ⟨c1, c2, c3, c4, c5, c6, c7⟩ := HC2.out w hSw; obtain ⟨d0, d1, d2, d3, d4, d5⟩ := box6_cells c5); first | (go_simp; done) | (go_simp; with_reducible rfl))
        refine wpAnyH_take (i := 4) (v := ?v18r14n1q5) rfl (by kernel_rfl) (by kernel_rfl) (by kernel_rfl) (fun _ _ _ h => h) (Or.inl ⟨by kernel_rfl, ?hy18r14n1q5⟩) (by assumption) ?hr18r14n1q5
        case hy18r14n1q5 => (intro w hSw; (try dsimp only at hSw); (obtain ⟨c1, c2, c3, c4, c5, c6, c7⟩ := HC2.out w hSw; obtain ⟨d0, d1, d2, d3, d4, d5⟩ := box6_cells c5); first | (go_simp; done) | (go_simp; with_reducible rfl))
        refine wpAnyH_take (i := 5) (v := ?v18r14n1q6) rfl (by kernel_rfl) (by kernel_rfl) (by kernel_rfl) (fun _ _ _ h => h) (Or.inl ⟨by kernel_rfl, ?hy18r14n1q6⟩) (by assumption) ?hr18r14n1q6
        case hy18r14n1q6 => (intro w hSw; (try dsimp only at hSw); (obtain ⟨c1, c2, c3, c4, c5, c6, c7⟩ := HC2.out w hSw; obtain ⟨d0, d1, d2, d3, d4, d5⟩ := box6_cells c5); first | (go_simp; done) | (go_simp; with_reducible rfl))
        refine wpAnyH_take (i := 6) (v := ?v18r14n1q7) rfl (by kernel_rfl) (by kernel_rfl) (by kernel_rfl) (fun _ _ _ h => h) (Or.inl ⟨by kernel_rfl, ?hy18r14n1q7⟩) (by assumption) ?hr18r14n1q7
        case hy18r14n1q7 => (intro w hSw; (try dsimp only at hSw); (obtain ⟨c1, c2, c3, c4, c5, c6, c7⟩ := HC2.out w hSw; obtain ⟨d0, d1, d2, d3, d4, d5⟩ := box6_cells c5); first | (go_simp; done) | (go_simp; with_reducible rfl))
        refine wpAnyH_take (i := 7) (v := ?v18r14n1q8) rfl (by kernel_rfl) (by kernel_rfl) (by kernel_rfl) (fun _ _ _ h => h) (Or.inl ⟨by kernel_rfl, ?hy18r14n1q8⟩) (by assumption) ?hr18r14n1q8
        case hy18r14n1q8 => (intro w hSw; (try dsimp only at hSw); (obtain ⟨c1, c2, c3, c4, c5, c6, c7⟩ := HC2.out w hSw; obtain ⟨d0, d1, d2, d3, d4, d5⟩ := box6_cells c5); first | (go_simp; done) | (go_simp; with_reducible rfl))
        refine wpAnyH_take (i := 8) (v := ?v18r14n1q9) rfl (by kernel_rfl) (by kernel_rfl) (by kernel_rfl) (fun _ _ _ h => h) (Or.inl ⟨by kernel_rfl, ?hy18r14n1q9⟩) (by assumption) ?hr18r14n1q9
        case hy18r14n1q9 => (intro w hSw; (try dsimp only at hSw); (obtain ⟨c1, c2, c3, c4, c5, c6, c7⟩ := HC2.out w hSw; obtain ⟨d0, d1, d2, d3, d4, d5⟩ := box6_cells c5); first | (go_simp; done) | (go_simp; with_reducible rfl))
        refine wpAnyH_take (i := 9) (v := ?v18r14n1q10) rfl (by kernel_rfl) (by kernel_rfl) (by kernel_rfl) (fun _ _ _ h => h) (Or.inl ⟨by kernel_rfl, ?hy18r14n1q10⟩) (by assumption) ?hr18r14n1q10
        case hy18r14n1q10 => (intro w hSw; (try dsimp only at hSw); (obtain ⟨c1, c2, c3, c4, c5, c6, c7⟩ := HC2.out w hSw; obtain ⟨d0, d1, d2, d3, d4, d5⟩ := box6_cells c5); first | (go_simp; done) | (go_simp; with_reducible rfl))
        refine wpAnyH_take (i := 10) (v := ?v18r14n1q11) rfl (by kernel_rfl) (by kernel_rfl) (by kernel_rfl) (fun _ _ _ h => h) (Or.inl ⟨by kernel_rfl, ?hy18r14n1q11⟩) (by assumption) ?hr18r14n1q11
        case hy18r14n1q11 => (intro w hSw; (try dsimp only at hSw); (obtain ⟨c1, c2, c3, c4, c5, c6, c7⟩ := HC2.out w hSw; obtain ⟨d0, d1, d2, d3, d4, d5⟩ := box6_cells c5); first | (go_simp; done) | (go_simp; with_reducible rfl))
        refine wpAnyH_take (i := 13) (v := ?v18r14n1q12) rfl (by kernel_rfl) (by kernel_rfl) (by kernel_rfl) (fun _ _ _ h => h) (Or.inl ⟨by kernel_rfl, ?hy18r14n1q12⟩) (by assumption) ?hr18r14n1q12
        case hy18r14n1q12 => (intro w hSw; (try dsimp only at hSw); (obtain ⟨c1, c2, c3, c4, c5, c6, c7⟩ := HC2.out w hSw; obtain ⟨d0, d1, d2, d3, d4, d5⟩ := box6_cells c5); first | (go_simp; done) | (go_simp; with_reducible rfl))
        refine wpAnyH_ready (rs := [11]) (by kernel_rfl) (by simp) (AllReadyH.cons rfl (fun K hK => ?hc18r14n1q13) AllReadyH.nil)
        go_simp
        (go_at_call 39; refine (HR9.out _ hHeld hM8).mono ?_; rintro e w9 ⟨rfl, hM9, hg9⟩; (try dsimp only))
        refine hK.out _ _ ?hs18r14n1q13 (fun hHeld18r14n1q13 => ?ht18r14n1q13)
        case hs18r14n1q13 => ((try dsimp only); (first | exact hHeld.trans (Turned.of_grown hg9 rfl)))
        clear hHeld hK
        have hHeld := hHeld18r14n1q13
        clear hHeld18r14n1q13
        refine wpAnyH_take (i := 12) (v := ?v18r14n1q14) rfl (by kernel_rfl) (by kernel_rfl) (by kernel_rfl) (fun _ _ _ h => h) (Or.inl ⟨by kernel_rfl, ?hy18r14n1q14⟩) (by assumption) ?hr18r14n1q14
        case hy18r14n1q14 => (intro w hSw; (try dsimp only at hSw); (obtain ⟨c1, c2, c3, c4, c5, c6, c7⟩ := HC2.out w hSw; obtain ⟨d0, d1, d2, d3, d4, d5⟩ := box6_cells c5); first | (go_simp; done) | (go_simp; with_reducible rfl))
        refine wpAnyH_take (i := 14) (v := ?v18r14n1q15) rfl (by kernel_rfl) (by kernel_rfl) (by kernel_rfl) (fun _ _ _ h => h) (Or.inl ⟨by kernel_rfl, ?hy18r14n1q15⟩) (by assumption) ?hr18r14n1q15
        case hy18r14n1q15 => (intro w hSw; (try dsimp only at hSw); (obtain ⟨c1, c2, c3, c4, c5, c6, c7⟩ := HC2.out w hSw; obtain ⟨d0, d1, d2, d3, d4, d5⟩ := box6_cells c5); first | (go_simp; done) | (go_simp; with_reducible rfl))
        refine wpAnyH_done (by kernel_rfl) ?_ _
        clear hHeld
        have hT9 : Turned (fun b => b = p + 1) W w9 := hT8.trans ((Turned.refl _ w8).drew.trans (Turned.of_grown hg9 rfl))
        have HKF : Hid (KeepsFrom w7.heap.size W w9 ∧ Kp3 wr.heap.size W w9) := hidep ⟨hT9.from (fun b hb h => by have := hb7.size; omega), hT9.kp3 (by have := HSZ.out; omega) (fun b h1 h2 h => by omega)⟩
        have HM9 := hidep hM9
        have HT9 := hidep (show Turned (fun b => b = p + 1) w7 w9 from hTW.trans hT9)
        have HALL := hidep hall
        have HBD := hidep (And.intro hcbd hrbd)
        clear hM9 hall hcbd hrbd
        by_cases hyes : cv + rv = lv
        · have HYES := hidep hyes
          have hT99 := HT9.out
          have y9 := (hT9.cells (hTrW.cells g9 (by omega)) (by omega) : w9.heap[p]? = _)
          obtain ⟨z0, z1, z2⟩ := box3_cells y9
          have hown9 : w9.ownsRow W5.heap.size 3 1 (.slice avo acc.length cvo) acc.length (intsC (ndOf need acc)) := HOWN.out.kept ((hTrW.trans hT9).grown (fun _ _ h => h)) (by
            by_cases hv : (Value.slice avo acc.length cvo).ownBlock = none
            · exact .inl hv
            · refine .inr (fun e => ?_)
              have := (HOWN.out.lt _ e).1
              omega)
          have u2 := box1_cell (hT9.cells x2 (by omega))
          have unc := hT9.cell xnc (by omega)
          have hownA := hown9.alloc (.cells #[.int .i64 (i : Nat)] 3)
          have hfrA := Rd.fresh w9 #[.int .i64 (i : Nat)] 3 1 1 rfl (by decide)
          have hsz9 : W5.heap.size ≤ w9.heap.size := Nat.le_trans hT.size (Nat.le_trans hTrW.size hT9.size)
          have hal8 : acc.length ≤ 8 := by have := HCNT.out; omega
          have z0a : (w9.alloc (.cells #[.int .i64 (i : Nat)] 3)).cell? ⟨p, 0, none⟩ = some (.slice avo acc.length cvo) := (((Below.refl _ w9).alloc (Nat.le_refl _) _).cell (p := ⟨p, 0, none⟩) (by simp only; omega)).trans z0
          have HLT := hidep (show ∀ g, (Value.slice avo acc.length cvo).ownBlock = some g → W5.heap.size ≤ g ∧ g < wr.heap.size from fun g hg => HOWN.out.lt g hg)
          obtain ⟨ob, hob⟩ : ∃ ob, ob = (Value.slice avo acc.length cvo).ownBlock := ⟨_, rfl⟩
          have HOB := hidep (show ∀ g, ob = some g → W5.heap.size ≤ g ∧ g < wr.heap.size from fun g hg => HLT.out g (by rw [← hob]; exact hg))
          have HOBE := hidep hob
          clear hob
          have HC5 := hidep (show ∀ X, Turned (fun b => b = p ∨ ob = some b) w9 X → X.cell? ⟨w.heap.size + 1 + 1, 0, none⟩ = some (.slice (some ⟨nb, no, none⟩) need.length d) ∧ X.cell? ⟨nb, no + k, none⟩ = some (.int .i64 (i : Nat)) from fun X hX => ⟨hX.cell u2 (fun h => by rcases h with h | h; omega; have := HOB.out _ h; omega), hX.cell unc (fun h => by rcases h with h | h; omega; have := HOB.out _ h; omega)⟩)
          clear hown9
          gi_wp2
          refine wpIn_cutA 99 (fun tm ds => ds = [] ∧ slot tm 5 = .pointer (some ⟨w.heap.size + 1 + 1, 0, none⟩) ∧ slot tm 9 = .pointer (some ⟨p, 0, none⟩) ∧ slot tm 11 = .pointer (some ⟨p + 3, 0, none⟩) ∧ slot tm 13 = .pointer (some ⟨p + 3 + 1, 0, none⟩) ∧ slot tm 14 = .pointer (some ⟨q, 0, none⟩) ∧ slot tm 15 = .int .i64 (k : Nat) ∧ slot tm 16 = .pointer (some ⟨W.heap.size, 0, none⟩) ∧ slot tm 17 = .int .i64 cv) (by rfl) (by exact ⟨rfl, rfl, rfl, rfl, rfl, rfl, rfl, rfl, rfl⟩) ?_
          rintro tm5 ds5 h99 ⟨rfl, e5, e9, e11, e13, e14, e15, e16, e17⟩
          rw [frame99 tm5 [] h99, e5, e9, e11, e13, e14, e15, e16, e17]
          clear h99 e5 e9 e11 e13 e14 e15 e16 e17
          refine wpIn_join (fun a' X => a'.tmps.size = 99 ∧ a'.defers = [] ∧ slot a'.tmps 11 = .pointer (some ⟨p + 3, 0, none⟩) ∧ slot a'.tmps 13 = .pointer (some ⟨p + 3 + 1, 0, none⟩) ∧ slot a'.tmps 14 = .pointer (some ⟨q, 0, none⟩) ∧ slot a'.tmps 15 = .int .i64 (k : Nat) ∧ slot a'.tmps 16 = .pointer (some ⟨W.heap.size, 0, none⟩) ∧ slot a'.tmps 17 = .int .i64 cv ∧
              ∃ (av2 : Option Addr) (cv2 : Nat), Turned (fun b => b = p ∨ ob = some b) w9 X ∧ X.heap[p]? = some (.cells #[.slice av2 (acc.length + 1) cv2, .int .i64 S, .slice av (tabL way (needL pl need)).length cvT] 35) ∧
                X.ownsRow W5.heap.size 3 1 (.slice av2 (acc.length + 1) cv2) (acc.length + 1) (intsC (ndOf need acc) ++ [.int .i64 (i : Nat)])) ?j1 ?j2
          case j1 =>
            intro KK hKK
            refine wpIn_region_round (S := (fun X => Turned (fun b => b = p ∨ ob = some b) w9 X)) (by kernel_rfl) (by kernel_rfl) (by rintro ⟨_, _, h⟩; exact h) ?hS18r15n2 (fun hHeld => ?hR18r15n2)
            case hS18r15n2 => ((try dsimp only); (exact (Turned.refl _ _).drew))
            refine wpAnyH_take (i := 0) (v := ?v18r15n2q1) rfl (by kernel_rfl) (by kernel_rfl) (by kernel_rfl) (fun _ _ _ h => h) (Or.inl ⟨by kernel_rfl, ?hy18r15n2q1⟩) (by assumption) ?hr18r15n2q1
            case hy18r15n2q1 => (intro w hSw; (try dsimp only at hSw); (obtain ⟨c1, c2⟩ := HC5.out w hSw); first | (go_simp; done) | (go_simp; with_reducible rfl))
            refine wpAnyH_take (i := 2) (v := ?v18r15n2q2) rfl (by kernel_rfl) (by kernel_rfl) (by kernel_rfl) (fun _ _ _ h => h) (Or.inl ⟨by kernel_rfl, ?hy18r15n2q2⟩) (by assumption) ?hr18r15n2q2
            case hy18r15n2q2 => (intro w hSw; (try dsimp only at hSw); (obtain ⟨c1, c2⟩ := HC5.out w hSw); first | (go_simp; done) | (go_simp; with_reducible rfl))
            refine wpAnyH_take (i := 3) (v := ?v18r15n2q3) rfl (by kernel_rfl) (by kernel_rfl) (by kernel_rfl) (fun _ _ _ h => h) (Or.inl ⟨by kernel_rfl, ?hy18r15n2q3⟩) (by assumption) ?hr18r15n2q3
            case hy18r15n2q3 => (intro w hSw; (try dsimp only at hSw); (obtain ⟨c1, c2⟩ := HC5.out w hSw); first | (go_simp; done) | (go_simp; with_reducible rfl))
            refine wpAnyH_take (i := 4) (v := ?v18r15n2q4) rfl (by kernel_rfl) (by kernel_rfl) (by kernel_rfl) (fun _ _ _ h => h) (Or.inl ⟨by kernel_rfl, ?hy18r15n2q4⟩) (by assumption) ?hr18r15n2q4
            case hy18r15n2q4 => (intro w hSw; (try dsimp only at hSw); (obtain ⟨c1, c2⟩ := HC5.out w hSw); first | (go_simp; done) | (go_simp; with_reducible rfl))
            refine wpAnyH_take (i := 5) (v := ?v18r15n2q5) rfl (by kernel_rfl) (by kernel_rfl) (by kernel_rfl) (fun _ _ _ h => h) (Or.inl ⟨by kernel_rfl, ?hy18r15n2q5⟩) (by assumption) ?hr18r15n2q5
            case hy18r15n2q5 => (intro w hSw; (try dsimp only at hSw); (obtain ⟨c1, c2⟩ := HC5.out w hSw); first | (go_simp; done) | (go_simp; with_reducible rfl))
            refine wpAnyH_ready (rs := [1, 6]) (by kernel_rfl) (by simp) (AllReadyH.cons rfl (fun K hK => ?hc18r15n2q6) (AllReadyH.cons rfl (fun K hK => ?hc18r15n2q7) AllReadyH.nil))
            case' hc18r15n2q6 =>
              go_simp
              refine hK.out _ _ ?hs18r15n2q6 (fun hHeld18r15n2q6 => ?ht18r15n2q6)
              case hs18r15n2q6 => ((try dsimp only); (first | exact hHeld | exact hHeld.drew | exact hHeld.alloc _ | exact hT10 | exact hT10.drew | exact hHeld.setCell _ _ (.inl rfl) | exact hT10.setCell _ _ (.inr (.inl rfl)) | exact ((Turned.refl _ _).alloc _).drew | exact (Turned.refl _ _).drew.alloc _ | exact (hT10.setCell _ _ (.inr (.inl rfl))).drew))
              clear hHeld hK
              have hHeld := hHeld18r15n2q6
              clear hHeld18r15n2q6
              refine wpAnyH_ready (rs := [6]) (by kernel_rfl) (by simp) (AllReadyH.cons rfl (fun K hK => ?hc18r15n2q8) AllReadyH.nil)
              go_simp
              refine hK.out _ _ ?hs18r15n2q8 (fun hHeld18r15n2q8 => ?ht18r15n2q8)
              case hs18r15n2q8 => ((try dsimp only); (first | exact hHeld | exact hHeld.drew | exact hHeld.alloc _ | exact hT10 | exact hT10.drew | exact hHeld.setCell _ _ (.inl rfl) | exact hT10.setCell _ _ (.inr (.inl rfl)) | exact ((Turned.refl _ _).alloc _).drew | exact (Turned.refl _ _).drew.alloc _ | exact (hT10.setCell _ _ (.inr (.inl rfl))).drew))
              clear hHeld hK
              have hHeld := hHeld18r15n2q8
              clear hHeld18r15n2q8
              refine wpAnyH_ready (rs := [7]) (by kernel_rfl) (by simp) (AllReadyH.cons rfl (fun K hK => ?hc18r15n2q9) AllReadyH.nil)
              (refine step_append_rd _ (by rfl) (.tmp 82) (.tmp 87) (by rfl) slIntsR W5.heap.size (.slice avo acc.length cvo) _ _ (by rfl) (by exact hownA) _ _ _ _ (by rfl) (by exact hfrA) (by intro u hu; simp at hu; rw [hu]; rfl) (by unfold maxLen; omega) (by omega) (by simp; omega) ?_; intro v10 w10 hown10 hgr10 hat10 hnl10; clear hat10 hnl10; obtain ⟨av2, cv2, rfl, hcv2, hmv2⟩ := (Rd.of_own hown10).form; unfold maxLen at hmv2; have z10 := (hgr10.block p (by first | (simp; omega) | (simp; done)) (fun e => by have := HLT.out _ e.symm; omega)).trans ((Below.heap_alloc w9 _ p (by omega)).trans y9); have z10c : w10.cell? ⟨p, 0, none⟩ = some (.slice avo acc.length cvo) := (by simp [World.cell?, z10]); have z10f : w10.frozen? ⟨p, 0, none⟩ = false := (by simp [World.frozen?, z10]); have hT10 : Turned (fun b => b = p ∨ ob = some b) w9 w10 := ((Turned.refl (fun b => b = p ∨ ob = some b) w9).alloc (.cells #[.int .i64 (i : Nat)] 3)).trans ⟨hgr10.os, hgr10.tape, hgr10.output, hgr10.size, fun b hb hT => hgr10.block b hb (fun e => hT (.inr (HOBE.out.trans e.symm)))⟩; (try dsimp only))
              refine hK.out _ _ ?hs18r15n2q9 (fun hHeld18r15n2q9 => ?ht18r15n2q9)
              case hs18r15n2q9 => ((try dsimp only); (first | exact hHeld | exact hHeld.drew | exact hHeld.alloc _ | exact hT10 | exact hT10.drew | exact hHeld.setCell _ _ (.inl rfl) | exact hT10.setCell _ _ (.inr (.inl rfl)) | exact ((Turned.refl _ _).alloc _).drew | exact (Turned.refl _ _).drew.alloc _ | exact (hT10.setCell _ _ (.inr (.inl rfl))).drew))
              clear hHeld hK
              have hHeld := hHeld18r15n2q9
              clear hHeld18r15n2q9
              refine wpAnyH_take (i := 8) (v := ?v18r15n2q10) rfl (by kernel_rfl) (by kernel_rfl) (by kernel_rfl) (fun _ _ _ h => h) (Or.inl ⟨by kernel_rfl, ?hy18r15n2q10⟩) (by assumption) ?hr18r15n2q10
              case hy18r15n2q10 => (intro w hSw; (try dsimp only at hSw); (obtain ⟨c1, c2⟩ := HC5.out w hSw); first | (go_simp; done) | (go_simp; with_reducible rfl))
              refine wpAnyH_ready (rs := [9]) (by kernel_rfl) (by simp) (AllReadyH.cons rfl (fun K hK => ?hc18r15n2q11) AllReadyH.nil)
              go_simp
              refine hK.out _ _ ?hs18r15n2q11 (fun hHeld18r15n2q11 => ?ht18r15n2q11)
              case hs18r15n2q11 => ((try dsimp only); (first | exact hHeld | exact hHeld.drew | exact hHeld.alloc _ | exact hT10 | exact hT10.drew | exact hHeld.setCell _ _ (.inl rfl) | exact hT10.setCell _ _ (.inr (.inl rfl)) | exact ((Turned.refl _ _).alloc _).drew | exact (Turned.refl _ _).drew.alloc _ | exact (hT10.setCell _ _ (.inr (.inl rfl))).drew))
              clear hHeld hK
              have hHeld := hHeld18r15n2q11
              clear hHeld18r15n2q11
              refine wpAnyH_done (by kernel_rfl) ?_ _
              clear hHeld
            case' hc18r15n2q7 =>
              go_simp
              refine hK.out _ _ ?hs18r15n2q7 (fun hHeld18r15n2q7 => ?ht18r15n2q7)
              case hs18r15n2q7 => ((try dsimp only); (first | exact hHeld | exact hHeld.drew | exact hHeld.alloc _ | exact hT10 | exact hT10.drew | exact hHeld.setCell _ _ (.inl rfl) | exact hT10.setCell _ _ (.inr (.inl rfl)) | exact ((Turned.refl _ _).alloc _).drew | exact (Turned.refl _ _).drew.alloc _ | exact (hT10.setCell _ _ (.inr (.inl rfl))).drew))
              clear hHeld hK
              have hHeld := hHeld18r15n2q7
              clear hHeld18r15n2q7
              refine wpAnyH_ready (rs := [1]) (by kernel_rfl) (by simp) (AllReadyH.cons rfl (fun K hK => ?hc18r15n2q12) AllReadyH.nil)
              go_simp
              refine hK.out _ _ ?hs18r15n2q12 (fun hHeld18r15n2q12 => ?ht18r15n2q12)
              case hs18r15n2q12 => ((try dsimp only); (first | exact hHeld | exact hHeld.drew | exact hHeld.alloc _ | exact hT10 | exact hT10.drew | exact hHeld.setCell _ _ (.inl rfl) | exact hT10.setCell _ _ (.inr (.inl rfl)) | exact ((Turned.refl _ _).alloc _).drew | exact (Turned.refl _ _).drew.alloc _ | exact (hT10.setCell _ _ (.inr (.inl rfl))).drew))
              clear hHeld hK
              have hHeld := hHeld18r15n2q12
              clear hHeld18r15n2q12
              refine wpAnyH_ready (rs := [7]) (by kernel_rfl) (by simp) (AllReadyH.cons rfl (fun K hK => ?hc18r15n2q13) AllReadyH.nil)
              (refine step_append_rd _ (by rfl) (.tmp 82) (.tmp 87) (by rfl) slIntsR W5.heap.size (.slice avo acc.length cvo) _ _ (by rfl) (by exact hownA) _ _ _ _ (by rfl) (by exact hfrA) (by intro u hu; simp at hu; rw [hu]; rfl) (by unfold maxLen; omega) (by omega) (by simp; omega) ?_; intro v10 w10 hown10 hgr10 hat10 hnl10; clear hat10 hnl10; obtain ⟨av2, cv2, rfl, hcv2, hmv2⟩ := (Rd.of_own hown10).form; unfold maxLen at hmv2; have z10 := (hgr10.block p (by first | (simp; omega) | (simp; done)) (fun e => by have := HLT.out _ e.symm; omega)).trans ((Below.heap_alloc w9 _ p (by omega)).trans y9); have z10c : w10.cell? ⟨p, 0, none⟩ = some (.slice avo acc.length cvo) := (by simp [World.cell?, z10]); have z10f : w10.frozen? ⟨p, 0, none⟩ = false := (by simp [World.frozen?, z10]); have hT10 : Turned (fun b => b = p ∨ ob = some b) w9 w10 := ((Turned.refl (fun b => b = p ∨ ob = some b) w9).alloc (.cells #[.int .i64 (i : Nat)] 3)).trans ⟨hgr10.os, hgr10.tape, hgr10.output, hgr10.size, fun b hb hT => hgr10.block b hb (fun e => hT (.inr (HOBE.out.trans e.symm)))⟩; (try dsimp only))
              refine hK.out _ _ ?hs18r15n2q13 (fun hHeld18r15n2q13 => ?ht18r15n2q13)
              case hs18r15n2q13 => ((try dsimp only); (first | exact hHeld | exact hHeld.drew | exact hHeld.alloc _ | exact hT10 | exact hT10.drew | exact hHeld.setCell _ _ (.inl rfl) | exact hT10.setCell _ _ (.inr (.inl rfl)) | exact ((Turned.refl _ _).alloc _).drew | exact (Turned.refl _ _).drew.alloc _ | exact (hT10.setCell _ _ (.inr (.inl rfl))).drew))
              clear hHeld hK
              have hHeld := hHeld18r15n2q13
              clear hHeld18r15n2q13
              refine wpAnyH_take (i := 8) (v := ?v18r15n2q14) rfl (by kernel_rfl) (by kernel_rfl) (by kernel_rfl) (fun _ _ _ h => h) (Or.inl ⟨by kernel_rfl, ?hy18r15n2q14⟩) (by assumption) ?hr18r15n2q14
              case hy18r15n2q14 => (intro w hSw; (try dsimp only at hSw); (obtain ⟨c1, c2⟩ := HC5.out w hSw); first | (go_simp; done) | (go_simp; with_reducible rfl))
              refine wpAnyH_ready (rs := [9]) (by kernel_rfl) (by simp) (AllReadyH.cons rfl (fun K hK => ?hc18r15n2q15) AllReadyH.nil)
              go_simp
              refine hK.out _ _ ?hs18r15n2q15 (fun hHeld18r15n2q15 => ?ht18r15n2q15)
              case hs18r15n2q15 => ((try dsimp only); (first | exact hHeld | exact hHeld.drew | exact hHeld.alloc _ | exact hT10 | exact hT10.drew | exact hHeld.setCell _ _ (.inl rfl) | exact hT10.setCell _ _ (.inr (.inl rfl)) | exact ((Turned.refl _ _).alloc _).drew | exact (Turned.refl _ _).drew.alloc _ | exact (hT10.setCell _ _ (.inr (.inl rfl))).drew))
              clear hHeld hK
              have hHeld := hHeld18r15n2q15
              clear hHeld18r15n2q15
              refine wpAnyH_done (by kernel_rfl) ?_ _
              clear hHeld
            case hc18r15n2q7 =>
              refine hKK _ _ ⟨by rfl, by rfl, by rfl, by rfl, by rfl, by rfl, by rfl, by rfl, av2, cv2, hT10.setCell ⟨p, 0, none⟩ _ (.inr (.inl rfl)), ?_, ?_⟩
              · rw [HCVT.out]
                simp [World.setCell, Array.getElem?_modify, z10]
              · refine hown10.kept (grownBy_setC w10 p 0 _) ?_
                by_cases hv : (Value.slice av2 (acc.length + 1) cv2).ownBlock = none
                · exact .inl hv
                · exact .inr (fun e => by have := (hown10.lt _ e).1; omega)
            case hc18r15n2q6 =>
              refine hKK _ _ ⟨by rfl, by rfl, by rfl, by rfl, by rfl, by rfl, by rfl, by rfl, av2, cv2, hT10.setCell ⟨p, 0, none⟩ _ (.inr (.inl rfl)), ?_, ?_⟩
              · rw [HCVT.out]
                simp [World.setCell, Array.getElem?_modify, z10]
              · refine hown10.kept (grownBy_setC w10 p 0 _) ?_
                by_cases hv : (Value.slice av2 (acc.length + 1) cv2).ownBlock = none
                · exact .inl hv
                · exact .inr (fun e => by have := (hown10.lt _ e).1; omega)
          case j2 =>
            rintro ⟨tm6, ds6⟩ W11 ⟨h99, hds, e11, e13, e14, e15, e16, e17, av2, cv2, hT11, hP11, hO11⟩
            dsimp only at h99 hds e11 e13 e14 e15 e16 e17
            subst hds
            apply_assumption
            rw [frame99 tm6 [] h99, e11, e13, e14, e15, e16, e17]
            clear h99 e11 e13 e14 e15 e16 e17
            obtain ⟨zz1, zz2, zz3⟩ := HSZ.out
            have hh1 := hb8.size
            have hh2 : w8.heap.size ≤ w9.heap.size := hg9.size
            have hh5 : Wb.heap.size ≤ w8.heap.size := hb8.size
            have hh3 := hTrW.size
            have hh4 := hT.size
            have hnob : ∀ b, b < W5.heap.size → ¬ ob = some b := fun b hb h => by have := HOB.out b h; omega
            have hTs : ∀ b, b < W.heap.size → b ≠ p + 1 → ¬ (b = p ∨ ob = some b) → W11.heap[b]? = W.heap[b]? := fun b h1 h2 h3 => (hT11.block b (Nat.lt_of_lt_of_le h1 hT9.size) h3).trans (hT9.block b h1 h2)
            have a11 : W11.heap[p + 3]? = some (.cells #[.int .i64 (s : Nat)] 3) := (hTs (p + 3) (by omega) (by omega) (fun h => by rcases h with h | h; omega; exact hnob _ (by omega) h)).trans x11
            have a13 : W11.heap[p + 3 + 1]? = some (.cells #[.int .i64 f.item, .int .i64 f.fact, .int .i64 f.start, .int .i64 f.len, .int .i64 f.page, .int .i64 f.line] 26) := (hTs (p + 3 + 1) (by omega) (by omega) (fun h => by rcases h with h | h; omega; exact hnob _ (by omega) h)).trans x13
            have a14 : W11.heap[q]? = some (.cells #[.int .i64 (restV way (needL pl need) s f)] 3) := (hTs q (by omega) (by omega) (fun h => by rcases h with h | h; omega; exact hnob _ (by omega) h)).trans x14
            rw [← HLV.out] at a14
            have aW : W11.heap[W.heap.size]? = some (.cells #[.int .i64 t0, .int .i64 t1, .int .i64 t2, .int .i64 t3, .int .i64 t4, .int .i64 t5] 26) := (hT11.block W.heap.size (by omega) (fun h => by rcases h with h | h; have := HSZ.out; omega; have := HOB.out _ h; have := hTrW.size; omega)).trans ((hg9.block W.heap.size (show W.heap.size < w8.heap.size by omega) (by simp; have := HSZ.out; omega)).trans ((hb8.block _ hbsz).trans hcb))
            have han4 : IntKind.i64.wrap (lv - cv) = lv - cv := IntWalk.i64_in _ (by have := HBD.out; have := HYES.out; omega)
            have G1 := hidep hT11
            have G2 := hidep hT9
            have G3 := hidep hTW
            have G4 := hidep hTrW
            have G5 := hidep hT
            have G6 := hidep hP11
            have G7 := hidep hO11
            have hqa : p + 3 ≠ p + 3 + 1 := by omega
            have hqb : p + 3 ≠ q := by omega
            have hqc : p + 3 + 1 ≠ q := by omega
            have HN16 := hidep (And.intro hqa (And.intro hqb hqc))
            have HCW := hidep (show ∀ X, Turned (fun b => b = p + 3 ∨ b = p + 3 + 1 ∨ b = q) W11 X → X.heap[W.heap.size]? = some (.cells #[.int .i64 t0, .int .i64 t1, .int .i64 t2, .int .i64 t3, .int .i64 t4, .int .i64 t5] 26) from fun X hX => hX.cells aW (by have := HSZ.out; omega))
            have A11 := hidep a11
            have A13 := hidep a13
            have A14 := hidep a14
            have HU := hidep (st16 W11 (p + 3) (p + 3 + 1) q (.int .i64 (se : Nat)) (.int .i64 (lv - cv)) _ _ (.int .i64 t0) (.int .i64 t1) (.int .i64 t2) (.int .i64 t3) (.int .i64 t4) (.int .i64 t5) _ _ _ _ _ _ a11 a13 a14 hqa hqb hqc)
            have b11 := box1_cell a11
            have b14 := box1_cell a14
            obtain ⟨m0, m1, m2, m3, m4, m5⟩ := box6_cells a13
            have fr11 : W11.frozen? ⟨p + 3, 0, none⟩ = false := by simp [World.frozen?, a11]
            have fr14 : W11.frozen? ⟨q, 0, none⟩ = false := by simp [World.frozen?, a14]
            have fr13 : ∀ j, W11.frozen? ⟨p + 3 + 1, j, none⟩ = false := fun j => by simp [World.frozen?, a13]
            have frA := fr13 0
            have frB := fr13 1
            have frC := fr13 2
            have frD := fr13 3
            have frE := fr13 4
            have frF := fr13 5
            have Y9 := hidep y9
            have HCM := hidep (show C + acc.length * (8 * C) + pre.length * C + C ≤ C + acc.length * (8 * C) + 8 * C from by
              have h8 : pre.length + 1 ≤ 8 := by have := othersL_len s need.length (-1); omega
              have := Nat.mul_le_mul_right C h8
              rw [Nat.add_mul, Nat.one_mul] at this
              omega)
            clear fr13 a11 a13 a14 aW hT11 hT9 hTW hTrW hT hP11 hO11 hTs hnob zz1 zz2 zz3 hh1 hh2 hh3 hh4 hh5 hT8 hM8 hMb hcb hTb hMW x0 x1 x2 x10 x11 x13 x14 xnc xp0 xp1 xp2 xp3 xp4 xp5 p0 p1 p2 p3 p4 p5 hnc y9 z0 z1 z2 z0a u2 unc hownA hfrA hkW hwW hT5W j0 j1 j2 j3 n9 n10 n11 n13 n14 hM5 l0 l1 l2 l3 hp hn hT99
            gi_wp2
            refine wpIn_join (fun _ X => Turned (fun b => b = p + 3 ∨ b = p + 3 + 1 ∨ b = q) W11 X ∧ Boxed X (p + 3) 3 (.int .i64 (se : Nat)) ∧ X.heap[p + 3 + 1]? = some (.cells #[.int .i64 t0, .int .i64 t1, .int .i64 t2, .int .i64 t3, .int .i64 t4, .int .i64 t5] 26) ∧ Boxed X q 3 (.int .i64 (lv - cv))) ?r1 ?r2
            case r1 =>
              intro KK hKK
              refine wpIn_region_round (S := (fun X => Turned (fun b => b = p + 3 ∨ b = p + 3 + 1 ∨ b = q) W11 X)) (by kernel_rfl) (by kernel_rfl) (by rintro ⟨_, _, h⟩; exact h) ?hS18r16n3 (fun hHeld => ?hR18r16n3)
              case hS18r16n3 => ((try dsimp only); (exact (Turned.refl _ _).drew))
              refine wpAnyH_take (i := 1) (v := ?v18r16n3q1) rfl (by kernel_rfl) (by kernel_rfl) (by kernel_rfl) (fun _ _ _ h => h) (Or.inl ⟨by kernel_rfl, ?hy18r16n3q1⟩) (by assumption) ?hr18r16n3q1
              case hy18r16n3q1 => (intro w hSw; (try dsimp only at hSw); (obtain ⟨g0, g1, g2, g3, g4, g5⟩ := box6_cells (HCW.out w hSw)); first | (go_simp; done) | (go_simp; with_reducible rfl))
              refine wpAnyH_take (i := 2) (v := ?v18r16n3q2) rfl (by kernel_rfl) (by kernel_rfl) (by kernel_rfl) (fun _ _ _ h => h) (Or.inl ⟨by kernel_rfl, ?hy18r16n3q2⟩) (by assumption) ?hr18r16n3q2
              case hy18r16n3q2 => (intro w hSw; (try dsimp only at hSw); (obtain ⟨g0, g1, g2, g3, g4, g5⟩ := box6_cells (HCW.out w hSw)); first | (go_simp; done) | (go_simp; with_reducible rfl))
              refine wpAnyH_take (i := 4) (v := ?v18r16n3q3) rfl (by kernel_rfl) (by kernel_rfl) (by kernel_rfl) (fun _ _ _ h => h) (Or.inl ⟨by kernel_rfl, ?hy18r16n3q3⟩) (by assumption) ?hr18r16n3q3
              case hy18r16n3q3 => (intro w hSw; (try dsimp only at hSw); (obtain ⟨g0, g1, g2, g3, g4, g5⟩ := box6_cells (HCW.out w hSw)); first | (go_simp; done) | (go_simp; with_reducible rfl))
              refine wpAnyH_take (i := 6) (v := ?v18r16n3q4) rfl (by kernel_rfl) (by kernel_rfl) (by kernel_rfl) (fun _ _ _ h => h) (Or.inl ⟨by kernel_rfl, ?hy18r16n3q4⟩) (by assumption) ?hr18r16n3q4
              case hy18r16n3q4 => (intro w hSw; (try dsimp only at hSw); (obtain ⟨g0, g1, g2, g3, g4, g5⟩ := box6_cells (HCW.out w hSw)); first | (go_simp; done) | (go_simp; with_reducible rfl))
              refine wpAnyH_ready (rs := [0, 5]) (by kernel_rfl) (by simp) (AllReadyH.cons rfl (fun K hK => ?hc18r16n3q5) (AllReadyH.cons rfl (fun K hK => ?hc18r16n3q6) AllReadyH.nil))
              case' hc18r16n3q5 =>
                go_simp
                refine hK.out _ _ ?hs18r16n3q5 (fun hHeld18r16n3q5 => ?ht18r16n3q5)
                case hs18r16n3q5 => ((try dsimp only); (first | (with_reducible exact hHeld) | (refine Turned.drew ?_; first | (with_reducible exact (Turned.refl _ _).setCell ⟨p + 3, 0, none⟩ _ (.inr (.inl rfl))) | (with_reducible exact ((Turned.refl _ _).setCell ⟨p + 3, 0, none⟩ _ (.inr (.inl rfl))).set6 (p + 3 + 1) _ _ _ _ _ _ (.inr (.inl rfl))) | (with_reducible exact (((Turned.refl _ _).setCell ⟨p + 3, 0, none⟩ _ (.inr (.inl rfl))).set6 (p + 3 + 1) _ _ _ _ _ _ (.inr (.inl rfl))).setCell ⟨q, 0, none⟩ _ (.inr (.inr (.inr rfl)))))))
                clear hHeld hK
                have hHeld := hHeld18r16n3q5
                clear hHeld18r16n3q5
                refine wpAnyH_take (i := 3) (v := ?v18r16n3q7) rfl (by kernel_rfl) (by kernel_rfl) (by kernel_rfl) (fun _ _ _ h => h) (Or.inl ⟨by kernel_rfl, ?hy18r16n3q7⟩) (by assumption) ?hr18r16n3q7
                case hy18r16n3q7 => (intro w hSw; (try dsimp only at hSw); (obtain ⟨g0, g1, g2, g3, g4, g5⟩ := box6_cells (HCW.out w hSw)); first | (go_simp; done) | (go_simp; with_reducible rfl))
                refine wpAnyH_ready (rs := [5, 8]) (by kernel_rfl) (by simp) (AllReadyH.cons rfl (fun K hK => ?hc18r16n3q8) (AllReadyH.cons rfl (fun K hK => ?hc18r16n3q9) AllReadyH.nil))
                case' hc18r16n3q8 =>
                  go_simp
                  refine hK.out _ _ ?hs18r16n3q8 (fun hHeld18r16n3q8 => ?ht18r16n3q8)
                  case hs18r16n3q8 => ((try dsimp only); (first | (with_reducible exact hHeld) | (refine Turned.drew ?_; first | (with_reducible exact (Turned.refl _ _).setCell ⟨p + 3, 0, none⟩ _ (.inr (.inl rfl))) | (with_reducible exact ((Turned.refl _ _).setCell ⟨p + 3, 0, none⟩ _ (.inr (.inl rfl))).set6 (p + 3 + 1) _ _ _ _ _ _ (.inr (.inl rfl))) | (with_reducible exact (((Turned.refl _ _).setCell ⟨p + 3, 0, none⟩ _ (.inr (.inl rfl))).set6 (p + 3 + 1) _ _ _ _ _ _ (.inr (.inl rfl))).setCell ⟨q, 0, none⟩ _ (.inr (.inr (.inr rfl)))))))
                  clear hHeld hK
                  have hHeld := hHeld18r16n3q8
                  clear hHeld18r16n3q8
                  refine wpAnyH_take (i := 7) (v := ?v18r16n3q10) rfl (by kernel_rfl) (by kernel_rfl) (by kernel_rfl) (fun _ _ _ h => h) (Or.inl ⟨by kernel_rfl, ?hy18r16n3q10⟩) (by assumption) ?hr18r16n3q10
                  case hy18r16n3q10 => (intro w hSw; (try dsimp only at hSw); (obtain ⟨g0, g1, g2, g3, g4, g5⟩ := box6_cells (HCW.out w hSw)); first | (go_simp; done) | (go_simp; with_reducible rfl))
                  refine wpAnyH_ready (rs := [8]) (by kernel_rfl) (by simp) (AllReadyH.cons rfl (fun K hK => ?hc18r16n3q11) AllReadyH.nil)
                  go_simp
                  refine hK.out _ _ ?hs18r16n3q11 (fun hHeld18r16n3q11 => ?ht18r16n3q11)
                  case hs18r16n3q11 => ((try dsimp only); (first | (with_reducible exact hHeld) | (refine Turned.drew ?_; first | (with_reducible exact (Turned.refl _ _).setCell ⟨p + 3, 0, none⟩ _ (.inr (.inl rfl))) | (with_reducible exact ((Turned.refl _ _).setCell ⟨p + 3, 0, none⟩ _ (.inr (.inl rfl))).set6 (p + 3 + 1) _ _ _ _ _ _ (.inr (.inl rfl))) | (with_reducible exact (((Turned.refl _ _).setCell ⟨p + 3, 0, none⟩ _ (.inr (.inl rfl))).set6 (p + 3 + 1) _ _ _ _ _ _ (.inr (.inl rfl))).setCell ⟨q, 0, none⟩ _ (.inr (.inr (.inr rfl)))))))
                  clear hHeld hK
                  have hHeld := hHeld18r16n3q11
                  clear hHeld18r16n3q11
                  refine wpAnyH_ready (rs := [9]) (by kernel_rfl) (by simp) (AllReadyH.cons rfl (fun K hK => ?hc18r16n3q12) AllReadyH.nil)
                  go_simp
                  refine hK.out _ _ ?hs18r16n3q12 (fun hHeld18r16n3q12 => ?ht18r16n3q12)
                  case hs18r16n3q12 => ((try dsimp only); (first | (with_reducible exact hHeld) | (refine Turned.drew ?_; first | (with_reducible exact (Turned.refl _ _).setCell ⟨p + 3, 0, none⟩ _ (.inr (.inl rfl))) | (with_reducible exact ((Turned.refl _ _).setCell ⟨p + 3, 0, none⟩ _ (.inr (.inl rfl))).set6 (p + 3 + 1) _ _ _ _ _ _ (.inr (.inl rfl))) | (with_reducible exact (((Turned.refl _ _).setCell ⟨p + 3, 0, none⟩ _ (.inr (.inl rfl))).set6 (p + 3 + 1) _ _ _ _ _ _ (.inr (.inl rfl))).setCell ⟨q, 0, none⟩ _ (.inr (.inr (.inr rfl)))))))
                  clear hHeld hK
                  have hHeld := hHeld18r16n3q12
                  clear hHeld18r16n3q12
                  refine wpAnyH_ready (rs := [10]) (by kernel_rfl) (by simp) (AllReadyH.cons rfl (fun K hK => ?hc18r16n3q13) AllReadyH.nil)
                  go_simp
                  refine hK.out _ _ ?hs18r16n3q13 (fun hHeld18r16n3q13 => ?ht18r16n3q13)
                  case hs18r16n3q13 => ((try dsimp only); (first | (with_reducible exact hHeld) | (refine Turned.drew ?_; first | (with_reducible exact (Turned.refl _ _).setCell ⟨p + 3, 0, none⟩ _ (.inr (.inl rfl))) | (with_reducible exact ((Turned.refl _ _).setCell ⟨p + 3, 0, none⟩ _ (.inr (.inl rfl))).set6 (p + 3 + 1) _ _ _ _ _ _ (.inr (.inl rfl))) | (with_reducible exact (((Turned.refl _ _).setCell ⟨p + 3, 0, none⟩ _ (.inr (.inl rfl))).set6 (p + 3 + 1) _ _ _ _ _ _ (.inr (.inl rfl))).setCell ⟨q, 0, none⟩ _ (.inr (.inr (.inr rfl)))))))
                  clear hHeld hK
                  have hHeld := hHeld18r16n3q13
                  clear hHeld18r16n3q13
                  refine wpAnyH_done (by kernel_rfl) ?_ _
                  clear hHeld
                case' hc18r16n3q9 =>
                  go_simp
                  refine hK.out _ _ ?hs18r16n3q9 (fun hHeld18r16n3q9 => ?ht18r16n3q9)
                  case hs18r16n3q9 => ((try dsimp only); (first | (with_reducible exact hHeld) | (refine Turned.drew ?_; first | (with_reducible exact (Turned.refl _ _).setCell ⟨p + 3, 0, none⟩ _ (.inr (.inl rfl))) | (with_reducible exact ((Turned.refl _ _).setCell ⟨p + 3, 0, none⟩ _ (.inr (.inl rfl))).set6 (p + 3 + 1) _ _ _ _ _ _ (.inr (.inl rfl))) | (with_reducible exact (((Turned.refl _ _).setCell ⟨p + 3, 0, none⟩ _ (.inr (.inl rfl))).set6 (p + 3 + 1) _ _ _ _ _ _ (.inr (.inl rfl))).setCell ⟨q, 0, none⟩ _ (.inr (.inr (.inr rfl)))))))
                  clear hHeld hK
                  have hHeld := hHeld18r16n3q9
                  clear hHeld18r16n3q9
                  refine wpAnyH_ready (rs := [5, 9]) (by kernel_rfl) (by simp) (AllReadyH.cons rfl (fun K hK => ?hc18r16n3q14) (AllReadyH.cons rfl (fun K hK => ?hc18r16n3q15) AllReadyH.nil))
                  case' hc18r16n3q14 =>
                    go_simp
                    refine hK.out _ _ ?hs18r16n3q14 (fun hHeld18r16n3q14 => ?ht18r16n3q14)
                    case hs18r16n3q14 => ((try dsimp only); (first | (with_reducible exact hHeld) | (refine Turned.drew ?_; first | (with_reducible exact (Turned.refl _ _).setCell ⟨p + 3, 0, none⟩ _ (.inr (.inl rfl))) | (with_reducible exact ((Turned.refl _ _).setCell ⟨p + 3, 0, none⟩ _ (.inr (.inl rfl))).set6 (p + 3 + 1) _ _ _ _ _ _ (.inr (.inl rfl))) | (with_reducible exact (((Turned.refl _ _).setCell ⟨p + 3, 0, none⟩ _ (.inr (.inl rfl))).set6 (p + 3 + 1) _ _ _ _ _ _ (.inr (.inl rfl))).setCell ⟨q, 0, none⟩ _ (.inr (.inr (.inr rfl)))))))
                    clear hHeld hK
                    have hHeld := hHeld18r16n3q14
                    clear hHeld18r16n3q14
                    refine wpAnyH_take (i := 7) (v := ?v18r16n3q16) rfl (by kernel_rfl) (by kernel_rfl) (by kernel_rfl) (fun _ _ _ h => h) (Or.inl ⟨by kernel_rfl, ?hy18r16n3q16⟩) (by assumption) ?hr18r16n3q16
                    case hy18r16n3q16 => (intro w hSw; (try dsimp only at hSw); (obtain ⟨g0, g1, g2, g3, g4, g5⟩ := box6_cells (HCW.out w hSw)); first | (go_simp; done) | (go_simp; with_reducible rfl))
                    refine wpAnyH_ready (rs := [9]) (by kernel_rfl) (by simp) (AllReadyH.cons rfl (fun K hK => ?hc18r16n3q17) AllReadyH.nil)
                    go_simp
                    refine hK.out _ _ ?hs18r16n3q17 (fun hHeld18r16n3q17 => ?ht18r16n3q17)
                    case hs18r16n3q17 => ((try dsimp only); (first | (with_reducible exact hHeld) | (refine Turned.drew ?_; first | (with_reducible exact (Turned.refl _ _).setCell ⟨p + 3, 0, none⟩ _ (.inr (.inl rfl))) | (with_reducible exact ((Turned.refl _ _).setCell ⟨p + 3, 0, none⟩ _ (.inr (.inl rfl))).set6 (p + 3 + 1) _ _ _ _ _ _ (.inr (.inl rfl))) | (with_reducible exact (((Turned.refl _ _).setCell ⟨p + 3, 0, none⟩ _ (.inr (.inl rfl))).set6 (p + 3 + 1) _ _ _ _ _ _ (.inr (.inl rfl))).setCell ⟨q, 0, none⟩ _ (.inr (.inr (.inr rfl)))))))
                    clear hHeld hK
                    have hHeld := hHeld18r16n3q17
                    clear hHeld18r16n3q17
                    refine wpAnyH_ready (rs := [10]) (by kernel_rfl) (by simp) (AllReadyH.cons rfl (fun K hK => ?hc18r16n3q18) AllReadyH.nil)
                    go_simp
                    refine hK.out _ _ ?hs18r16n3q18 (fun hHeld18r16n3q18 => ?ht18r16n3q18)
                    case hs18r16n3q18 => ((try dsimp only); (first | (with_reducible exact hHeld) | (refine Turned.drew ?_; first | (with_reducible exact (Turned.refl _ _).setCell ⟨p + 3, 0, none⟩ _ (.inr (.inl rfl))) | (with_reducible exact ((Turned.refl _ _).setCell ⟨p + 3, 0, none⟩ _ (.inr (.inl rfl))).set6 (p + 3 + 1) _ _ _ _ _ _ (.inr (.inl rfl))) | (with_reducible exact (((Turned.refl _ _).setCell ⟨p + 3, 0, none⟩ _ (.inr (.inl rfl))).set6 (p + 3 + 1) _ _ _ _ _ _ (.inr (.inl rfl))).setCell ⟨q, 0, none⟩ _ (.inr (.inr (.inr rfl)))))))
                    clear hHeld hK
                    have hHeld := hHeld18r16n3q18
                    clear hHeld18r16n3q18
                    refine wpAnyH_done (by kernel_rfl) ?_ _
                    clear hHeld
                  case' hc18r16n3q15 =>
                    go_simp
                    refine hK.out _ _ ?hs18r16n3q15 (fun hHeld18r16n3q15 => ?ht18r16n3q15)
                    case hs18r16n3q15 => ((try dsimp only); (first | (with_reducible exact hHeld) | (refine Turned.drew ?_; first | (with_reducible exact (Turned.refl _ _).setCell ⟨p + 3, 0, none⟩ _ (.inr (.inl rfl))) | (with_reducible exact ((Turned.refl _ _).setCell ⟨p + 3, 0, none⟩ _ (.inr (.inl rfl))).set6 (p + 3 + 1) _ _ _ _ _ _ (.inr (.inl rfl))) | (with_reducible exact (((Turned.refl _ _).setCell ⟨p + 3, 0, none⟩ _ (.inr (.inl rfl))).set6 (p + 3 + 1) _ _ _ _ _ _ (.inr (.inl rfl))).setCell ⟨q, 0, none⟩ _ (.inr (.inr (.inr rfl)))))))
                    clear hHeld hK
                    have hHeld := hHeld18r16n3q15
                    clear hHeld18r16n3q15
                    refine wpAnyH_ready (rs := [5]) (by kernel_rfl) (by simp) (AllReadyH.cons rfl (fun K hK => ?hc18r16n3q19) AllReadyH.nil)
                    go_simp
                    refine hK.out _ _ ?hs18r16n3q19 (fun hHeld18r16n3q19 => ?ht18r16n3q19)
                    case hs18r16n3q19 => ((try dsimp only); (first | (with_reducible exact hHeld) | (refine Turned.drew ?_; first | (with_reducible exact (Turned.refl _ _).setCell ⟨p + 3, 0, none⟩ _ (.inr (.inl rfl))) | (with_reducible exact ((Turned.refl _ _).setCell ⟨p + 3, 0, none⟩ _ (.inr (.inl rfl))).set6 (p + 3 + 1) _ _ _ _ _ _ (.inr (.inl rfl))) | (with_reducible exact (((Turned.refl _ _).setCell ⟨p + 3, 0, none⟩ _ (.inr (.inl rfl))).set6 (p + 3 + 1) _ _ _ _ _ _ (.inr (.inl rfl))).setCell ⟨q, 0, none⟩ _ (.inr (.inr (.inr rfl)))))))
                    clear hHeld hK
                    have hHeld := hHeld18r16n3q19
                    clear hHeld18r16n3q19
                    refine wpAnyH_take (i := 7) (v := ?v18r16n3q20) rfl (by kernel_rfl) (by kernel_rfl) (by kernel_rfl) (fun _ _ _ h => h) (Or.inl ⟨by kernel_rfl, ?hy18r16n3q20⟩) (by assumption) ?hr18r16n3q20
                    case hy18r16n3q20 => (intro w hSw; (try dsimp only at hSw); (obtain ⟨g0, g1, g2, g3, g4, g5⟩ := box6_cells (HCW.out w hSw)); first | (go_simp; done) | (go_simp; with_reducible rfl))
                    refine wpAnyH_ready (rs := [10]) (by kernel_rfl) (by simp) (AllReadyH.cons rfl (fun K hK => ?hc18r16n3q21) AllReadyH.nil)
                    go_simp
                    refine hK.out _ _ ?hs18r16n3q21 (fun hHeld18r16n3q21 => ?ht18r16n3q21)
                    case hs18r16n3q21 => ((try dsimp only); (first | (with_reducible exact hHeld) | (refine Turned.drew ?_; first | (with_reducible exact (Turned.refl _ _).setCell ⟨p + 3, 0, none⟩ _ (.inr (.inl rfl))) | (with_reducible exact ((Turned.refl _ _).setCell ⟨p + 3, 0, none⟩ _ (.inr (.inl rfl))).set6 (p + 3 + 1) _ _ _ _ _ _ (.inr (.inl rfl))) | (with_reducible exact (((Turned.refl _ _).setCell ⟨p + 3, 0, none⟩ _ (.inr (.inl rfl))).set6 (p + 3 + 1) _ _ _ _ _ _ (.inr (.inl rfl))).setCell ⟨q, 0, none⟩ _ (.inr (.inr (.inr rfl)))))))
                    clear hHeld hK
                    have hHeld := hHeld18r16n3q21
                    clear hHeld18r16n3q21
                    refine wpAnyH_done (by kernel_rfl) ?_ _
                    clear hHeld
              case' hc18r16n3q6 =>
                go_simp
                refine hK.out _ _ ?hs18r16n3q6 (fun hHeld18r16n3q6 => ?ht18r16n3q6)
                case hs18r16n3q6 => ((try dsimp only); (first | (with_reducible exact hHeld) | (refine Turned.drew ?_; first | (with_reducible exact (Turned.refl _ _).setCell ⟨p + 3, 0, none⟩ _ (.inr (.inl rfl))) | (with_reducible exact ((Turned.refl _ _).setCell ⟨p + 3, 0, none⟩ _ (.inr (.inl rfl))).set6 (p + 3 + 1) _ _ _ _ _ _ (.inr (.inl rfl))) | (with_reducible exact (((Turned.refl _ _).setCell ⟨p + 3, 0, none⟩ _ (.inr (.inl rfl))).set6 (p + 3 + 1) _ _ _ _ _ _ (.inr (.inl rfl))).setCell ⟨q, 0, none⟩ _ (.inr (.inr (.inr rfl)))))))
                clear hHeld hK
                have hHeld := hHeld18r16n3q6
                clear hHeld18r16n3q6
                refine wpAnyH_take (i := 7) (v := ?v18r16n3q22) rfl (by kernel_rfl) (by kernel_rfl) (by kernel_rfl) (fun _ _ _ h => h) (Or.inl ⟨by kernel_rfl, ?hy18r16n3q22⟩) (by assumption) ?hr18r16n3q22
                case hy18r16n3q22 => (intro w hSw; (try dsimp only at hSw); (obtain ⟨g0, g1, g2, g3, g4, g5⟩ := box6_cells (HCW.out w hSw)); first | (go_simp; done) | (go_simp; with_reducible rfl))
                refine wpAnyH_ready (rs := [0]) (by kernel_rfl) (by simp) (AllReadyH.cons rfl (fun K hK => ?hc18r16n3q23) AllReadyH.nil)
                go_simp
                refine hK.out _ _ ?hs18r16n3q23 (fun hHeld18r16n3q23 => ?ht18r16n3q23)
                case hs18r16n3q23 => ((try dsimp only); (first | (with_reducible exact hHeld) | (refine Turned.drew ?_; first | (with_reducible exact (Turned.refl _ _).setCell ⟨p + 3, 0, none⟩ _ (.inr (.inl rfl))) | (with_reducible exact ((Turned.refl _ _).setCell ⟨p + 3, 0, none⟩ _ (.inr (.inl rfl))).set6 (p + 3 + 1) _ _ _ _ _ _ (.inr (.inl rfl))) | (with_reducible exact (((Turned.refl _ _).setCell ⟨p + 3, 0, none⟩ _ (.inr (.inl rfl))).set6 (p + 3 + 1) _ _ _ _ _ _ (.inr (.inl rfl))).setCell ⟨q, 0, none⟩ _ (.inr (.inr (.inr rfl)))))))
                clear hHeld hK
                have hHeld := hHeld18r16n3q23
                clear hHeld18r16n3q23
                refine wpAnyH_take (i := 3) (v := ?v18r16n3q24) rfl (by kernel_rfl) (by kernel_rfl) (by kernel_rfl) (fun _ _ _ h => h) (Or.inl ⟨by kernel_rfl, ?hy18r16n3q24⟩) (by assumption) ?hr18r16n3q24
                case hy18r16n3q24 => (intro w hSw; (try dsimp only at hSw); (obtain ⟨g0, g1, g2, g3, g4, g5⟩ := box6_cells (HCW.out w hSw)); first | (go_simp; done) | (go_simp; with_reducible rfl))
                refine wpAnyH_ready (rs := [8]) (by kernel_rfl) (by simp) (AllReadyH.cons rfl (fun K hK => ?hc18r16n3q25) AllReadyH.nil)
                go_simp
                refine hK.out _ _ ?hs18r16n3q25 (fun hHeld18r16n3q25 => ?ht18r16n3q25)
                case hs18r16n3q25 => ((try dsimp only); (first | (with_reducible exact hHeld) | (refine Turned.drew ?_; first | (with_reducible exact (Turned.refl _ _).setCell ⟨p + 3, 0, none⟩ _ (.inr (.inl rfl))) | (with_reducible exact ((Turned.refl _ _).setCell ⟨p + 3, 0, none⟩ _ (.inr (.inl rfl))).set6 (p + 3 + 1) _ _ _ _ _ _ (.inr (.inl rfl))) | (with_reducible exact (((Turned.refl _ _).setCell ⟨p + 3, 0, none⟩ _ (.inr (.inl rfl))).set6 (p + 3 + 1) _ _ _ _ _ _ (.inr (.inl rfl))).setCell ⟨q, 0, none⟩ _ (.inr (.inr (.inr rfl)))))))
                clear hHeld hK
                have hHeld := hHeld18r16n3q25
                clear hHeld18r16n3q25
                refine wpAnyH_ready (rs := [9]) (by kernel_rfl) (by simp) (AllReadyH.cons rfl (fun K hK => ?hc18r16n3q26) AllReadyH.nil)
                go_simp
                refine hK.out _ _ ?hs18r16n3q26 (fun hHeld18r16n3q26 => ?ht18r16n3q26)
                case hs18r16n3q26 => ((try dsimp only); (first | (with_reducible exact hHeld) | (refine Turned.drew ?_; first | (with_reducible exact (Turned.refl _ _).setCell ⟨p + 3, 0, none⟩ _ (.inr (.inl rfl))) | (with_reducible exact ((Turned.refl _ _).setCell ⟨p + 3, 0, none⟩ _ (.inr (.inl rfl))).set6 (p + 3 + 1) _ _ _ _ _ _ (.inr (.inl rfl))) | (with_reducible exact (((Turned.refl _ _).setCell ⟨p + 3, 0, none⟩ _ (.inr (.inl rfl))).set6 (p + 3 + 1) _ _ _ _ _ _ (.inr (.inl rfl))).setCell ⟨q, 0, none⟩ _ (.inr (.inr (.inr rfl)))))))
                clear hHeld hK
                have hHeld := hHeld18r16n3q26
                clear hHeld18r16n3q26
                refine wpAnyH_ready (rs := [10]) (by kernel_rfl) (by simp) (AllReadyH.cons rfl (fun K hK => ?hc18r16n3q27) AllReadyH.nil)
                go_simp
                refine hK.out _ _ ?hs18r16n3q27 (fun hHeld18r16n3q27 => ?ht18r16n3q27)
                case hs18r16n3q27 => ((try dsimp only); (first | (with_reducible exact hHeld) | (refine Turned.drew ?_; first | (with_reducible exact (Turned.refl _ _).setCell ⟨p + 3, 0, none⟩ _ (.inr (.inl rfl))) | (with_reducible exact ((Turned.refl _ _).setCell ⟨p + 3, 0, none⟩ _ (.inr (.inl rfl))).set6 (p + 3 + 1) _ _ _ _ _ _ (.inr (.inl rfl))) | (with_reducible exact (((Turned.refl _ _).setCell ⟨p + 3, 0, none⟩ _ (.inr (.inl rfl))).set6 (p + 3 + 1) _ _ _ _ _ _ (.inr (.inl rfl))).setCell ⟨q, 0, none⟩ _ (.inr (.inr (.inr rfl)))))))
                clear hHeld hK
                have hHeld := hHeld18r16n3q27
                clear hHeld18r16n3q27
                refine wpAnyH_done (by kernel_rfl) ?_ _
                clear hHeld
              all_goals refine hKK _ _ ?_
              all_goals exact HU.out
            case r2 =>
              rintro a' X ⟨hTX, hB1, hB2, hB3⟩
              apply_assumption
              gi_wp2
              obtain ⟨n1, n2, n3⟩ := HN16.out
              obtain ⟨zz1, zz2, zz3⟩ := HSZ.out
              have g1 := G1.out
              have g2 := G2.out
              have g3 := G3.out
              have g4 := G4.out
              have g9 := HT9.out
              have hX9 : Turned (fun b => b = p ∨ ob = some b ∨ b = p + 3 ∨ b = p + 3 + 1 ∨ b = q) w9 X := (g1.mono (fun b _ h => by rcases h with h | h; exact .inl h; exact .inr (.inl h))).trans (hTX.mono (fun b _ h => .inr (.inr h)))
              have hob : ∀ b, ob = some b → b < wr.heap.size ∧ W5.heap.size ≤ b := fun b hb => ⟨(HOB.out b hb).2, (HOB.out b hb).1⟩
              have hXW : Turned (fun b => b = p + 1 ∨ b = p ∨ ob = some b ∨ b = p + 3 ∨ b = p + 3 + 1 ∨ b = q) W X := (g2.mono (fun b _ h => .inl h)).trans (hX9.mono (fun b _ h => .inr h))
              have hw7 := hb7.size
              have hsT := G5.out.size
              have hsR := g4.size
              have hs9 := g2.size
              have hs11 := g1.size
              refine ⟨hXW.from (fun b hb h => ?_), rfl, othV pre, k, .slice av2 (acc.length + 1) cv2, by rw [othV_snoc], HALL.out, by rw [HBP.out]; exact decide_eq_true HYES.out, ?_, ?_, ?_, ?_, ?_, ?_, ?_, ?_⟩
              · rcases h with h | h | h | h | h | h
                · omega
                · omega
                · have := hob b h; omega
                · omega
                · omega
                · omega
              · refine (g9.mono (fun b _ h => .inr (.inl h))).trans (hX9.mono (fun b _ h => ?_))
                rcases h with h | h | h | h | h
                · exact .inl h
                · exact .inr (.inr (.inr (.inr (.inr (hob b h).2))))
                · exact .inr (.inr (.inl h))
                · exact .inr (.inr (.inr (.inl h)))
                · exact .inr (.inr (.inr (.inr (.inl h))))
              · refine (g9.keepsM (fun b h hd => ?_)).trans ((g1.keepsM (fun b h hd => ?_)).trans (hTX.keepsM (fun b h hd => ?_)))
                · obtain ⟨es, ck, hm⟩ := hM7.isMap
                  rw [h, hm] at hd
                  cases hd
                · rcases h with h | h
                  · rw [h, Y9.out] at hd
                    cases hd
                  · obtain ⟨cur, hcur⟩ := ownsRow_cells HOWN.out (g := b) (HOBE.out.symm.trans h)
                    have h1 := g2.cells (g4.cells hcur (by have := hob b h; omega)) (by have := hob b h; omega)
                    rw [h1] at hd
                    cases hd
                · rcases h with h | h | h
                  · rw [h, A11.out] at hd
                    cases hd
                  · rw [h, A13.out] at hd
                    cases hd
                  · rw [h, A14.out] at hd
                    cases hd
              · rw [← HCVT.out]
                exact hTX.cells G6.out (by omega)
              · rw [show ndOf need (acc ++ [k]) = ndOf need acc ++ [need.getD k 0] by simp [ndOf], HNK.out, intsC_snoc']
                refine ownsRow_turned G7.out hTX (fun g hg h => ?_)
                obtain ⟨cur, hcur⟩ := ownsRow_cells G7.out hg
                have hl := (G7.out.lt g hg).1
                omega
              · exact (HM9.out.turned hX9 (fun h => by
                  rcases h with h | h | h | h | h
                  · omega
                  · have := hob _ h; omega
                  · omega
                  · omega
                  · omega)).mono HCM.out
              · rw [← HSE.out]
                exact hB1
              · rw [HLI.out]
                exact hB2
              · rw [← HSE.out, HLI.out, ← HRV.out, show rv = lv - cv by have := HYES.out; omega]
                exact hB3
        · have HNO := hidep (show bestP way (needL pl need) s f k = false by rw [HBP.out]; exact decide_eq_false hyes)
          gi_wp2
          refine ⟨HKF.out.1, HKF.out.2, fun y hy => ?_, HT9.out, HM9.out.mono (by simp [Nat.add_mul]; omega)⟩
          rw [othV_snoc] at hy
          rcases List.mem_append.1 hy with h | h
          · exact HALL.out y h
          · simp only [List.mem_singleton] at h
            rw [h]
            exact HNO.out
  · have HR := hidep (show ∀ x, taskZ way pl.length need = x → ¬ x = 0 from fun x h => h ▸ ht)
    obtain ⟨tz, htz⟩ : ∃ tz, tz = taskZ way pl.length need := ⟨_, rfl⟩
    have htz0 : ¬ tz = 0 := by rw [htz]; exact ht
    rw [← htz] at HTA
    have HZ := hidep htz
    have HT0 := hidep ht
    clear ht htz HR
    go_wp2_with (first
      | (go_at_call 37; refine (HTA.out _ (by exact HWB.out)).mono ?_; rintro e w1 ⟨rfl, rfl⟩)
      | fail)
    have hq := allocs_get [.cells #[.int .i64 way] 3, .cells #[.slice a pl.length c] 23, .cells #[.slice b need.length d] 22, .cells #[.slice none 0 0, .int .i64 0, .slice none 0 0] 35] w 3 _ rfl
    obtain ⟨r0, r1, r2⟩ := box3_cells hq
    refine ⟨_, results_plan rfl _ _ (w.heap.size + 3) _ _ _ rfl r0 r1 r2, HWB.out, .slice none 0 0, .slice none 0 0, ?_, ?_, ?_⟩
    · rw [if_neg HT0.out, ← HZ.out]; rfl
    · rw [if_neg HT0.out]; exact IntsOf.nil _ _
    · rw [if_neg HT0.out]; exact TabOf.nil _ _
end Go.Proofs.Ytfljgcpfmhhgcaa
