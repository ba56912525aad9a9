/- The maker of examinations: calculations, tables of entries, figures. -/
import Derived.Test.YtfljgcpfmhhgcaaRdMc
namespace Go.Proofs.Ytfljgcpfmhhgcaa
open Go.RowKit Go.Lab
attribute [local go_sem] Oper.semAt_some
set_option maxRecDepth 100000
theorem load_sum (w : World) (g : Nat) (x y : Value) (c0 : w.cell? ⟨g, 0, none⟩ = some x) (c1 : w.cell? ⟨g, 1, none⟩ = some y) : (loadVar 95 ⟨g, 0, none⟩).run Try.prog w = .ok (.agg #[x, y]) w := by
  go_simp
theorem box2_cells {w : World} {b : Nat} {x0 x1 : Value} {t : TypeId} {fz : Nat × Nat} (h : w.heap[b]? = some (.cells #[x0, x1] t fz)) : w.cell? ⟨b, 0, none⟩ = some x0 ∧ w.cell? ⟨b, 1, none⟩ = some x1 := by
  simp [World.cell?, h]
theorem out2 {P : Nat} {la : Option Addr} {lc : Nat} {l : List Int} {w W : World} (h : Mk P la lc l w) {b : Nat} (hb : w.heap.size ≤ b) {x0 x1 y0 y1 : Value} {t : TypeId} (hq : W.heap[b]? = some (.cells #[x0, x1] t)) (r : MkR P la lc l w W) :
    ((W.setCell ⟨b, 0, none⟩ y0).setCell ⟨b, 1, none⟩ y1).heap[b]? = some (.cells #[y0, y1] t) ∧ MkR P la lc l w ((W.setCell ⟨b, 0, none⟩ y0).setCell ⟨b, 1, none⟩ y1) :=
  ⟨heap_set (heap_set hq 0 y0) 1 y1, (r.set h hb).set h hb⟩
theorem range_map47 (f : Nat → Value) : (List.range 47).map f = [f 0, f 1, f 2, f 3, f 4, f 5, f 6, f 7, f 8, f 9, f 10, f 11, f 12, f 13, f 14, f 15, f 16, f 17, f 18, f 19, f 20, f 21, f 22, f 23, f 24, f 25, f 26, f 27, f 28, f 29, f 30, f 31, f 32, f 33, f 34, f 35, f 36, f 37, f 38, f 39, f 40, f 41, f 42, f 43, f 44, f 45, f 46] := rfl
theorem frame47 (t : Array Value) (ds : List Deferred) (h : t.size = 47) : ({ tmps := t, defers := ds } : Act) = { tmps := #[slot t 0, slot t 1, slot t 2, slot t 3, slot t 4, slot t 5, slot t 6, slot t 7, slot t 8, slot t 9, slot t 10, slot t 11, slot t 12, slot t 13, slot t 14, slot t 15, slot t 16, slot t 17, slot t 18, slot t 19, slot t 20, slot t 21, slot t 22, slot t 23, slot t 24, slot t 25, slot t 26, slot t 27, slot t 28, slot t 29, slot t 30, slot t 31, slot t 32, slot t 33, slot t 34, slot t 35, slot t 36, slot t 37, slot t 38, slot t 39, slot t 40, slot t 41, slot t 42, slot t 43, slot t 44, slot t 45, slot t 46], defers := ds } := by
  have e : t = ((List.range 47).map (slot t)).toArray := by
    apply Array.ext
    · simp [h]
    · intro i h1 h2
      simp [slot, Array.getD, h1]
  rw [range_map47] at e
  exact congrArg (fun x => ({ tmps := x, defers := ds } : Act)) e
set_option maxHeartbeats 4000000 in
theorem sum_any {P : Nat} {la : Option Addr} {lc : Nat} {l : List Int} (w : World) (h : Mk P la lc l w) :
    Calls Try.prog 70 #[.pointer (some ⟨P, 0, none⟩)] w fun e w' => (∃ (op : Int) (a : Option Addr) (n c : Nat), e = .returned (.agg #[.int .i64 op, .slice a n c])) ∧ MkR P la lc l w w' := by
  have HM := hidep h
  have HT := hidep (fun n X (hX : MkR P la lc l w X) => takeM_any n X (hX.mk h))
  have hr0 := MkR.refl h
  clear h
  go_enter Try.func70, Try.ntmps70
  go_upto_region 1 with (fail)
  refine wp_abs (fun X => X.heap[w.heap.size]? = some (.cells #[.int .i64 0, .slice none 0 0] 95) ∧ MkR P la lc l w X) ⟨heap_alloc_new _ _, hr0.alloc _⟩ ?_
  rintro X ⟨hq4, hrX⟩
  obtain ⟨B4, hB4⟩ : ∃ B4, B4 = w.heap.size := ⟨_, rfl⟩
  rw [← hB4] at hq4 ⊢
  have HB4 := hidep (show w.heap.size ≤ B4 from by omega)
  have hB4P : B4 ≠ P := by have := HM.out.lt; omega
  have hP := HM.out.lt
  clear hB4 hr0
  have hrY : ∀ Y, MkR P la lc l w Y → ∀ o, MkR P la lc l w (Y.alloc o) := fun Y h o => h.alloc o
  have hsX := hrX.size
  go_upto_region 2 with (first
    | (go_at_call 52; refine (HT.out _ _ (hrX.alloc _)).mono ?_; rintro e w1 ⟨⟨y, rfl, hy0, hy1, _⟩, hr1⟩; obtain ⟨yn, rfl⟩ : ∃ yn : Nat, y = (yn : Int) := ⟨y.toNat, by omega⟩; have hy6 : (yn : Int) < 5 := hy1 (by decide); obtain ⟨v, hc, op, rfl⟩ := lit_get (p := fun v => ∃ n : Int, v = .int .i64 n) (hr1.box (heap_alloc_new _ _) (by omega)) (by simp) (z := yn) (by simp; omega); have hq4a := hr1.box (below_push ((Below.refl _ _).alloc (Nat.le_refl _) _) hq4) hB4P; have hr1 := (hrX.alloc _).trans hr1)
    | fail)
  clear hc hy0 hy1 hy6 hrX hq4
  have hs1 := hr1.size
  go_upto_region 3 with (first
    | (go_at_call 52; refine (HT.out _ _ (hr1.alloc _)).mono ?_; rintro e w2 ⟨⟨y, rfl, hy0, hy1, _⟩, hr2⟩; obtain ⟨yn, rfl⟩ : ∃ yn : Nat, y = (yn : Int) := ⟨y.toNat, by omega⟩; have hy6 : (yn : Int) < 6 := hy1 (by decide); obtain ⟨v, hc, na, rfl⟩ := lit_get (p := fun v => ∃ n : Int, v = .int .i64 n) (hr2.box (heap_alloc_new _ _) (by omega)) (by simp) (z := yn) (by simp; omega); have hq4b := hr2.box (below_push ((Below.refl _ _).alloc (Nat.le_refl _) _) hq4a) hB4P; have hr2 := (hr1.alloc _).trans hr2)
    | fail)
  clear hc hy0 hy1 hy6 hr1 hq4a
  have hs2 := hr2.size
  go_upto_region 4 with (first
    | (go_at_call 52; refine (HT.out _ _ (hr2.alloc _)).mono ?_; rintro e w3 ⟨⟨y, rfl, hy0, hy1, _⟩, hr3⟩; obtain ⟨yn, rfl⟩ : ∃ yn : Nat, y = (yn : Int) := ⟨y.toNat, by omega⟩; have hy6 : (yn : Int) < 6 := hy1 (by decide); obtain ⟨v, hc, nb, rfl⟩ := lit_get (p := fun v => ∃ n : Int, v = .int .i64 n) (hr3.box (heap_alloc_new _ _) (by omega)) (by simp) (z := yn) (by simp; omega); have hq4 := hr3.box (below_push ((Below.refl _ _).alloc (Nat.le_refl _) _) hq4b) hB4P; have hr3 := (hr2.alloc _).trans hr3)
    | fail)
  clear hc hy0 hy1 hy6 hr2 hq4b hsX hs1 hs2
  have hs3 := hr3.size
  have HRW := hidep hr3
  have HO := hidep (fun (o : Obj) (y0 y1 : Value) => out2 HM.out HB4.out (y0 := y0) (y1 := y1) (below_push ((Below.refl _ _).alloc (Nat.le_refl _) o) hq4) (hr3.alloc o))
  have z0 : ∀ o, (w3.alloc o).cell? ⟨B4, 0, none⟩ = some (.int .i64 0) := fun o => (box2_cells (below_push ((Below.refl _ _).alloc (Nat.le_refl _) o) hq4)).1
  have z1 : ∀ o, (w3.alloc o).cell? ⟨B4, 1, none⟩ = some (.slice none 0 0) := fun o => (box2_cells (below_push ((Below.refl _ _).alloc (Nat.le_refl _) o) hq4)).2
  have f0 : ∀ o, (w3.alloc o).frozen? ⟨B4, 0, none⟩ = false := fun o => box_frozen (below_push ((Below.refl _ _).alloc (Nat.le_refl _) o) hq4) 0
  have f1 : ∀ o, (w3.alloc o).frozen? ⟨B4, 1, none⟩ = false := fun o => box_frozen (below_push ((Below.refl _ _).alloc (Nat.le_refl _) o) hq4) 1
  by_cases h4 : op = 4
  · have h4b : (op == 4) = true := by simp [h4]
    clear h4
    go_wp2
    refine bodyPost_ret (results_cell1 rfl _ _ _ rfl (load_sum _ B4 _ _ (box2_cells (HO.out _ _ _).1).1 (box2_cells (HO.out _ _ _).1).2)) rfl ?_
    exact ⟨⟨_, _, _, _, rfl⟩, (HO.out _ _ _).2⟩
  · have h4b : (op == 4) = false := beq_false_of_ne h4
    clear h4
    by_cases h3 : op = 3
    · have h3b : (op == 3) = true := by simp [h3]
      clear h3 HO z0 z1 f0 f1
      go_upto_if 36 with (first
        | (go_at_call 52; refine (HT.out _ _ HRW.out).mono ?_; rintro e w5 ⟨⟨y, rfl, hy0, hy1, _⟩, hr5⟩; have hq5 := hr5.box hq4 hB4P; have hr5 := HRW.out.trans hr5)
        | fail)
      have HO := hidep (fun (o : Obj) (y0 y1 : Value) => out2 HM.out HB4.out (y0 := y0) (y1 := y1) (below_push ((Below.refl _ _).alloc (Nat.le_refl _) o) hq5) (hr5.alloc o))
      have z0 : ∀ o, (w5.alloc o).cell? ⟨B4, 0, none⟩ = some (.int .i64 0) := fun o => (box2_cells (below_push ((Below.refl _ _).alloc (Nat.le_refl _) o) hq5)).1
      have z1 : ∀ o, (w5.alloc o).cell? ⟨B4, 1, none⟩ = some (.slice none 0 0) := fun o => (box2_cells (below_push ((Below.refl _ _).alloc (Nat.le_refl _) o) hq5)).2
      have f0 : ∀ o, (w5.alloc o).frozen? ⟨B4, 0, none⟩ = false := fun o => box_frozen (below_push ((Below.refl _ _).alloc (Nat.le_refl _) o) hq5) 0
      have f1 : ∀ o, (w5.alloc o).frozen? ⟨B4, 1, none⟩ = false := fun o => box_frozen (below_push ((Below.refl _ _).alloc (Nat.le_refl _) o) hq5) 1
      clear hr5 hq5
      by_cases hy : y = 0
      · have hyb : (y == 0) = true := by simp [hy]
        clear hy hy0 hy1
        go_wp2
        refine bodyPost_ret (results_cell1 rfl _ _ _ rfl (load_sum _ B4 _ _ (box2_cells (HO.out _ _ _).1).1 (box2_cells (HO.out _ _ _).1).2)) rfl ?_
        exact ⟨⟨_, _, _, _, rfl⟩, (HO.out _ _ _).2⟩
      · have hyb : (y == 0) = false := beq_false_of_ne hy
        clear hy hy0 hy1
        go_wp2
        refine bodyPost_ret (results_cell1 rfl _ _ _ rfl (load_sum _ B4 _ _ (box2_cells (HO.out _ _ _).1).1 (box2_cells (HO.out _ _ _).1).2)) rfl ?_
        exact ⟨⟨_, _, _, _, rfl⟩, (HO.out _ _ _).2⟩
    · have h3b : (op == 3) = false := beq_false_of_ne h3
      clear h3
      go_wp2
      refine bodyPost_ret (results_cell1 rfl _ _ _ rfl (load_sum _ B4 _ _ (box2_cells (HO.out _ _ _).1).1 (box2_cells (HO.out _ _ _).1).2)) rfl ?_
      exact ⟨⟨_, _, _, _, rfl⟩, (HO.out _ _ _).2⟩
set_option maxHeartbeats 1000000 in
theorem box_any (x y p q : Int) (w : World) : Calls Try.prog 86 #[.int .i64 x, .int .i64 y, .int .i64 p, .int .i64 q] w fun e w' => e = .returned (.slice (some ⟨w.heap.size, 0, none⟩) 4 4) ∧ Below w.heap.size w w' := by
  have hb := fun o => (Below.refl w.heap.size w).alloc (Nat.le_refl _) o
  have HB := hidep hb
  clear hb
  go_enter Try.func86, Try.ntmps86
  go_wp2
  go_ret
  exact ⟨rfl, HB.out _⟩
/-- The outer loop of Grid: i rows are in the box. -/
def GridI (P : Nat) (la : Option Addr) (lc : Nat) (l : List Int) (w X : World) (B2 B3 : Nat) (s6 : Value) (wr : World) : Prop :=
  ∃ (i : Nat) (rv : Value) (vs : List Value), i ≤ 3 ∧ s6 = .int .i64 (i : Nat) ∧ wr.ownsRow X.heap.size 83 1 rv i vs ∧ (∀ v ∈ vs, ∃ a n c, v = .slice a n c) ∧ wr.heap[B3]? = some (.cells #[rv] 98) ∧ wr.heap[B2]? = some (.cells #[.slice none 0 0] 98) ∧ X.heap.size ≤ wr.heap.size ∧ MkR P la lc l w wr
end Go.Proofs.Ytfljgcpfmhhgcaa
