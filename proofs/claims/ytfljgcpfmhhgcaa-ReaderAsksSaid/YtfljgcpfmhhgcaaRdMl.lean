/- The maker of examinations: facts. -/
import Derived.Test.YtfljgcpfmhhgcaaRdMk
import Derived.Test.YtfljgcpfmhhgcaaRdMi
namespace Go.Proofs.Ytfljgcpfmhhgcaa
open Go.RowKit Go.Lab
attribute [local go_sem] Oper.semAt_some
set_option maxRecDepth 100000
theorem range_map113 (f : Nat → Value) : (List.range 113).map f = [f 0, f 1, f 2, f 3, f 4, f 5, f 6, f 7, f 8, f 9, f 10, f 11, f 12, f 13, f 14, f 15, f 16, f 17, f 18, f 19, f 20, f 21, f 22, f 23, f 24, f 25, f 26, f 27, f 28, f 29, f 30, f 31, f 32, f 33, f 34, f 35, f 36, f 37, f 38, f 39, f 40, f 41, f 42, f 43, f 44, f 45, f 46, f 47, f 48, f 49, f 50, f 51, f 52, f 53, f 54, f 55, f 56, f 57, f 58, f 59, f 60, f 61, f 62, f 63, f 64, f 65, f 66, f 67, f 68, f 69, f 70, f 71, f 72, f 73, f 74, f 75, f 76, f 77, f 78, f 79, f 80, f 81, f 82, f 83, f 84, f 85, f 86, f 87, f 88, f 89, f 90, f 91, f 92, f 93, f 94, f 95, f 96, f 97, f 98, f 99, f 100, f 101, f 102, f 103, f 104, f 105, f 106, f 107, f 108, f 109, f 110, f 111, f 112] := rfl
theorem frame113 (t : Array Value) (ds : List Deferred) (h : t.size = 113) : ({ tmps := t, defers := ds } : Act) = { tmps := #[slot t 0, slot t 1, slot t 2, slot t 3, slot t 4, slot t 5, slot t 6, slot t 7, slot t 8, slot t 9, slot t 10, slot t 11, slot t 12, slot t 13, slot t 14, slot t 15, slot t 16, slot t 17, slot t 18, slot t 19, slot t 20, slot t 21, slot t 22, slot t 23, slot t 24, slot t 25, slot t 26, slot t 27, slot t 28, slot t 29, slot t 30, slot t 31, slot t 32, slot t 33, slot t 34, slot t 35, slot t 36, slot t 37, slot t 38, slot t 39, slot t 40, slot t 41, slot t 42, slot t 43, slot t 44, slot t 45, slot t 46, slot t 47, slot t 48, slot t 49, slot t 50, slot t 51, slot t 52, slot t 53, slot t 54, slot t 55, slot t 56, slot t 57, slot t 58, slot t 59, slot t 60, slot t 61, slot t 62, slot t 63, slot t 64, slot t 65, slot t 66, slot t 67, slot t 68, slot t 69, slot t 70, slot t 71, slot t 72, slot t 73, slot t 74, slot t 75, slot t 76, slot t 77, slot t 78, slot t 79, slot t 80, slot t 81, slot t 82, slot t 83, slot t 84, slot t 85, slot t 86, slot t 87, slot t 88, slot t 89, slot t 90, slot t 91, slot t 92, slot t 93, slot t 94, slot t 95, slot t 96, slot t 97, slot t 98, slot t 99, slot t 100, slot t 101, slot t 102, slot t 103, slot t 104, slot t 105, slot t 106, slot t 107, slot t 108, slot t 109, slot t 110, slot t 111, slot t 112], defers := ds } := by
  have e : t = ((List.range 113).map (slot t)).toArray := by
    apply Array.ext
    · simp [h]
    · intro i h1 h2
      simp [slot, Array.getD, h1]
  rw [range_map113] at e
  exact congrArg (fun x => ({ tmps := x, defers := ds } : Act)) e
theorem box4_cells {w : World} {b : Nat} {x0 x1 x2 x3 : Value} {t : TypeId} {fz : Nat × Nat} (h : w.heap[b]? = some (.cells #[x0, x1, x2, x3] t fz)) :
    w.cell? ⟨b, 0, none⟩ = some x0 ∧ w.cell? ⟨b, 1, none⟩ = some x1 ∧ w.cell? ⟨b, 2, none⟩ = some x2 ∧ w.cell? ⟨b, 3, none⟩ = some x3 := by
  simp [World.cell?, h]
theorem out4 {P : Nat} {la : Option Addr} {lc : Nat} {l : List Int} {w W : World} (h : Mk P la lc l w) {b : Nat} (hb : w.heap.size ≤ b) {x0 x1 x2 x3 y0 y1 y2 y3 : Value} {t : TypeId} (hq : W.heap[b]? = some (.cells #[x0, x1, x2, x3] t)) (r : MkR P la lc l w W) :
    ((((W.setCell ⟨b, 0, none⟩ y0).setCell ⟨b, 1, none⟩ y1).setCell ⟨b, 2, none⟩ y2).setCell ⟨b, 3, none⟩ y3).heap[b]? = some (.cells #[y0, y1, y2, y3] t) ∧ MkR P la lc l w ((((W.setCell ⟨b, 0, none⟩ y0).setCell ⟨b, 1, none⟩ y1).setCell ⟨b, 2, none⟩ y2).setCell ⟨b, 3, none⟩ y3) :=
  ⟨heap_set (heap_set (heap_set (heap_set hq 0 y0) 1 y1) 2 y2) 3 y3, (((r.set h hb).set h hb).set h hb).set h hb⟩
theorem load_fact (w : World) (g : Nat) (x0 x1 x2 x3 : Value) (c0 : w.cell? ⟨g, 0, none⟩ = some x0) (c1 : w.cell? ⟨g, 1, none⟩ = some x1) (c2 : w.cell? ⟨g, 2, none⟩ = some x2) (c3 : w.cell? ⟨g, 3, none⟩ = some x3) : (loadVar 109 ⟨g, 0, none⟩).run Try.prog w = .ok (.agg #[x0, x1, x2, x3]) w := by
  go_simp
theorem keep4 {P : Nat} {la : Option Addr} {lc : Nat} {l : List Int} {w W : World} (h : Mk P la lc l w) {b : Nat} (hb : w.heap.size ≤ b) {b1 o1 b2 o2 : Nat} {v1 v2 : Value} (hk : MkR P la lc l w W ∧ W.cell? ⟨b1, o1, none⟩ = some v1 ∧ W.cell? ⟨b2, o2, none⟩ = some v2) (h1 : b1 ≠ b) (h2 : b2 ≠ b) (y0 y1 y2 y3 : Value) :
    let X := (((W.setCell ⟨b, 0, none⟩ y0).setCell ⟨b, 1, none⟩ y1).setCell ⟨b, 2, none⟩ y2).setCell ⟨b, 3, none⟩ y3
    MkR P la lc l w X ∧ X.cell? ⟨b1, o1, none⟩ = some v1 ∧ X.cell? ⟨b2, o2, none⟩ = some v2 := by
  have hT : Turned (fun c => c = b) W ((((W.setCell ⟨b, 0, none⟩ y0).setCell ⟨b, 1, none⟩ y1).setCell ⟨b, 2, none⟩ y2).setCell ⟨b, 3, none⟩ y3) :=
    ((((Turned.refl (fun c => c = b) W).setCell ⟨b, 0, none⟩ y0 (.inr rfl)).setCell ⟨b, 1, none⟩ y1 (.inr rfl)).setCell ⟨b, 2, none⟩ y2 (.inr rfl)).setCell ⟨b, 3, none⟩ y3 (.inr rfl)
  exact ⟨(((hk.1.set h hb).set h hb).set h hb).set h hb, hT.cell hk.2.1 h1, hT.cell hk.2.2 h2⟩
theorem wpAnyH_join {P : Program} {md : Region.Mode} {ops : Array Oper} {Q : Exit → Act → World → Prop} {S : World → Prop} {fuel : Nat} {listed : Array Bool} {a : Act} {w : World} (fuel' : Nat) (listed' : Array Bool) (M : Act → World → Prop)
    (h1 : (∀ a w, M a w → wpAnyH P md ops Q S fuel' listed' a w) → wpAnyH P md ops Q S fuel listed a w) (h2 : ∀ a w, M a w → wpAnyH P md ops Q S fuel' listed' a w) : wpAnyH P md ops Q S fuel listed a w := h1 h2
theorem wpAnyH_cast {P : Program} {md : Region.Mode} {ops : Array Oper} {Q : Exit → Act → World → Prop} {S : World → Prop} {fuel fuel' : Nat} {listed listed' : Array Bool} {a : Act} {w : World} (hf : fuel = fuel') (hl : listed = listed')
    (h : wpAnyH P md ops Q S fuel' listed' a w) : wpAnyH P md ops Q S fuel listed a w := by
  subst hf hl
  exact h
/-- What holds where all but the fact itself is there, in whatever order it came. -/
def FactJ (P : Nat) (la : Option Addr) (lc : Nat) (l : List Int) (X : World) (at' s : Int) (B6 : Nat) (a : Act) (W : World) : Prop :=
  a.tmps.size = 113 ∧ a.defers = [] ∧ slot a.tmps 0 = .pointer (some ⟨P, 0, none⟩) ∧ slot a.tmps 2 = .int .i64 at' ∧ slot a.tmps 6 = .pointer (some ⟨B6, 0, none⟩) ∧ slot a.tmps 8 = .int .i64 s ∧ (∃ x24 x35 : Int, slot a.tmps 36 = .agg #[.int .i64 x24, .int .i64 at', .int .i64 s, .int .i64 x35]) ∧ MkR P la lc l X W ∧
    ∃ B9 : Nat, slot a.tmps 9 = .pointer (some ⟨B9, 0, none⟩) ∧ B9 ≠ P ∧ X.heap.size ≤ B9 ∧ W.heap[B9]? = some (.cells #[.int .i64 0, .int .i64 0, .int .i64 0, .int .i64 0] 109)
/-- What holds behind the choice of a drawing's fact. -/
def FactM (P : Nat) (la : Option Addr) (lc : Nat) (l : List Int) (X : World) (at' : Int) (B6 : Nat) (a : Act) (W : World) : Prop :=
  a.tmps.size = 113 ∧ a.defers = [] ∧ slot a.tmps 0 = .pointer (some ⟨P, 0, none⟩) ∧ slot a.tmps 2 = .int .i64 at' ∧ slot a.tmps 6 = .pointer (some ⟨B6, 0, none⟩) ∧ (∃ s : Int, slot a.tmps 8 = .int .i64 s) ∧ MkR P la lc l X W ∧
    ∃ (B9 : Nat) (x0 x1 x2 x3 : Int), slot a.tmps 9 = .pointer (some ⟨B9, 0, none⟩) ∧ B9 ≠ P ∧ W.heap[B9]? = some (.cells #[.int .i64 x0, .int .i64 x1, .int .i64 x2, .int .i64 x3] 109)
set_option maxHeartbeats 100000000 in
theorem factM_any {P : Nat} {la : Option Addr} {lc : Nat} {l : List Int} (v : Value) (at' : Int) (w : World) (h : Mk P la lc l w) (hv : BlockV w P v) :
    Calls Try.prog 54 #[.pointer (some ⟨P, 0, none⟩), v, .int .i64 at'] w fun e w' => (∃ x0 x1 x2 x3 : Int, e = .returned (.agg #[.int .i64 x0, .int .i64 x1, .int .i64 x2, .int .i64 x3])) ∧ MkR P la lc l w w' := by
  obtain ⟨k, e0, e1, s0, p0, p1, ra, ea, sa, ga, fa, ma, ia, rn, rc, en, ec, sn, sc, gn, gc, fn, fc, mn, mc, ln, lc2, rfl, h4, h3, h5⟩ := hv
  have HM := hidep h
  have hr0 := MkR.refl h
  have hP := h.lt
  clear h
  have HF := hidep (And.intro h4 (And.intro h3 h5))
  clear h4 h3 h5
  go_enter Try.func54, Try.ntmps54
  go_upto_region 1 with (fail)
  refine wp_abs (fun X => X.heap[w.heap.size]? = some (.cells (blkC k e0 e1 s0 p0 p1 (.slice ra rn rc) (.slice ea en ec) (.slice sa sn sc) (.slice ga gn gc) (.slice fa fn fc) (.slice ma mn mc) (.slice ia ln lc2)) 106) ∧ X.heap[w.heap.size + 1]? = some (.cells #[.int .i64 0, .int .i64 0, .int .i64 0, .int .i64 0] 109) ∧ MkR P la lc l w X)
    ⟨allocs_get [.cells (blkC k e0 e1 s0 p0 p1 (.slice ra rn rc) (.slice ea en ec) (.slice sa sn sc) (.slice ga gn gc) (.slice fa fn fc) (.slice ma mn mc) (.slice ia ln lc2)) 106, .cells #[.int .i64 0, .int .i64 0, .int .i64 0, .int .i64 0] 109] w 0 _ rfl, allocs_get [.cells (blkC k e0 e1 s0 p0 p1 (.slice ra rn rc) (.slice ea en ec) (.slice sa sn sc) (.slice ga gn gc) (.slice fa fn fc) (.slice ma mn mc) (.slice ia ln lc2)) 106, .cells #[.int .i64 0, .int .i64 0, .int .i64 0, .int .i64 0] 109] w 1 _ rfl, (hr0.alloc _).alloc _⟩ ?_
  rintro X ⟨hq4, hq6, hrX⟩
  obtain ⟨B4, hB4⟩ : ∃ B4, B4 = w.heap.size := ⟨_, rfl⟩
  obtain ⟨B6, hB6⟩ : ∃ B6, B6 = w.heap.size + 1 := ⟨_, rfl⟩
  rw [← hB6] at hq6
  rw [← hB4] at hq4
  rw [← hB6, ← hB4]
  have HBB := hidep (show w.heap.size ≤ B4 ∧ w.heap.size ≤ B6 ∧ B4 ≠ B6 from by omega)
  have hB4P : B4 ≠ P := by omega
  have hB6P : B6 ≠ P := by omega
  have hsX := hrX.size
  have hPX : P < X.heap.size := by omega
  clear hB4 hB6 hr0
  have HC := hidep (show ∀ Y, MkR P la lc l X Y → Y.cell? ⟨B4, 0, none⟩ = some (.int .i64 k) ∧ Y.cell? ⟨B4, 7, none⟩ = some (.slice ga gn gc) ∧ Y.cell? ⟨B4, 10, none⟩ = some (.slice fa fn fc) ∧ Y.cell? ⟨B4, 11, none⟩ = some (.slice ma mn mc) ∧ Y.cell? ⟨B4, 12, none⟩ = some (.slice ia ln lc2) from fun Y hY => by
    obtain ⟨y0, y1, y2, y3, y4, y5, y6, y7, y8, y9, y10, y11, y12⟩ := blk_cells (hY.box hq4 hB4P)
    exact ⟨y0, y7, y10, y11, y12⟩)
  have HZ := hidep (show ∀ Y, MkR P la lc l X Y → (Y.cell? ⟨B6, 0, none⟩ = some (.int .i64 0) ∧ Y.cell? ⟨B6, 1, none⟩ = some (.int .i64 0) ∧ Y.cell? ⟨B6, 2, none⟩ = some (.int .i64 0) ∧ Y.cell? ⟨B6, 3, none⟩ = some (.int .i64 0)) ∧ ∀ j, Y.frozen? ⟨B6, j, none⟩ = false from fun Y hY => ⟨box4_cells (hY.box hq6 hB6P), box_frozen (hY.box hq6 hB6P)⟩)
  have HO := hidep (fun Y (hY : MkR P la lc l X Y) y0 y1 y2 y3 => out4 HM.out HBB.out.2.1 (y0 := y0) (y1 := y1) (y2 := y2) (y3 := y3) (hY.box hq6 hB6P) (hrX.trans hY))
  have HT := hidep (fun n Y (hY : MkR P la lc l X Y) => takeM_any n Y (hY.mk (hrX.mk HM.out)))
  have HTU := hidep (fun Y (hY : MkR P la lc l X Y) => hrX.trans hY)
  have hrr := MkR.refl (hrX.mk HM.out)
  have HQ6 := hidep (fun Y (hY : MkR P la lc l X Y) => hY.box hq6 hB6P)
  clear hq4 hq6 hrX
  obtain ⟨c0, c7, c10, c11, c12⟩ := HC.out _ hrr
  by_cases k4 : k = 4
  · have b4 : (k == 4) = true := by simp [k4]
    have hf2 := HF.out.1 k4
    clear k4
    have hfn0 : ¬ fn = 0 := by omega
    go_upto_region 4 with (first
      | (go_at_call 52; refine (HT.out _ _ hrr).mono ?_; rintro e w1 ⟨⟨s, rfl, hs0, _, _⟩, hr1⟩)
      | fail)
    refine wp_join (FactM P la lc l X at' B6) ?drawing ?_
    case drawing =>
      intro K' hMK
      clear c0 c7 c10 c11 c12
      have hrw := hr1
      have HMX := hidep ((HTU.out _ hrr).mk HM.out)
      refine wp_region_noPanic (wp_region_held_drew (S := (fun Y => MkR P la lc l X Y)) (by kernel_rfl) ?hSA (fun hHeld => ?hRA))
      case hSA => ((try dsimp only); (exact hrw.drew))
      refine wpAnyH_join (fuel' := 1) (listed' := #[true, true, true, true, true, true, true, true, true, true, true, true, true, true, true, true, true, true, false]) (FactJ P la lc l X at' s B6) (fun hJA => ?preA) ?postA
      case' preA =>
        refine tkA (i := 1) (v := ?vA1) rfl (.inl ⟨by kernel_rfl, ?yA1⟩) (by assumption) ?rA1
        case yA1 => (intro w hSw; first | (go_simp; done) | (go_simp; with_reducible rfl))
        refine tkA (i := 5) (v := ?vA2) rfl (.inl ⟨by kernel_rfl, ?yA2⟩) (by assumption) ?rA2
        case yA2 => (intro w hSw; first | (go_simp; done) | (go_simp; with_reducible rfl))
        refine tkA (i := 6) (v := ?vA3) rfl (.inl ⟨by kernel_rfl, ?yA3⟩) (by assumption) ?rA3
        case yA3 => (intro w hSw; first | (go_simp; done) | (go_simp; with_reducible rfl))
        refine tkA (i := 7) (v := ?vA4) rfl (.inl ⟨by kernel_rfl, ?yA4⟩) (by assumption) ?rA4
        case yA4 => (intro w hSw; first | (go_simp; done) | (go_simp; with_reducible rfl))
        refine tkA (i := 8) (v := ?vA5) rfl (.inl ⟨by kernel_rfl, ?yA5⟩) (by assumption) ?rA5
        case yA5 => (intro w hSw; first | (go_simp; done) | (go_simp; with_reducible rfl))
        refine tkA (i := 9) (v := ?vA6) rfl (.inl ⟨by kernel_rfl, ?yA6⟩) (by assumption) ?rA6
        case yA6 => (intro w hSw; first | (go_simp; done) | (go_simp; with_reducible rfl))
        refine tkA (i := 10) (v := ?vA7) rfl (.inl ⟨by kernel_rfl, ?yA7⟩) (by assumption) ?rA7
        case yA7 => (intro w hSw; first | (go_simp; done) | (go_simp; with_reducible rfl))
        refine tkA (i := 11) (v := ?vA8) rfl (.inl ⟨by kernel_rfl, ?yA8⟩) (by assumption) ?rA8
        case yA8 => (intro w hSw; first | (go_simp; done) | (go_simp; with_reducible rfl))
        refine tkA (i := 14) (v := ?vA9) rfl (.inl ⟨by kernel_rfl, ?yA9⟩) (by assumption) ?rA9
        case yA9 => (intro w hSw; first | (go_simp; done) | (go_simp; with_reducible rfl))
        refine wpAnyH_ready (rs := [0, 2, 17]) (by kernel_rfl) (by simp) (.cons rfl (fun K hK => ?hcA10) (.cons rfl (fun K hK => ?hcA11) (.cons rfl (fun K hK => ?hcA12) .nil)))
        case' hcA10 =>
         go_simp
         (have hg20 := Nat.ne_of_gt (Nat.lt_of_lt_of_le hPX (MkR.size hHeld)); (first | refine intro_alloc (fun XL20 hBX hLX20 => ?_) | refine intro_alloc_drew (fun XL20 hBX hLX20 => ?_)); have hk := mkr_alloc (by first | exact hHeld | exact undrew_mkr hHeld) hBX; (first | (have hLX9 := below_push hBX hLX9) | skip); (first | (have hget := lit_get (p := fun v => ∃ n : Int, v = .int .i64 n) hLX20 (by simp) (z := zn) (by simp <;> omega); obtain ⟨v, hcL, x24, rfl⟩ := hget) | skip); (first | (obtain ⟨z0, z1, z2, z3⟩ := box4_cells hLX9; have f0 := box_frozen hLX9 0; have f1 := box_frozen hLX9 1; have f2 := box_frozen hLX9 2; have f3 := box_frozen hLX9 3) | skip); (try dsimp only))
         refine hK.out _ _ ?sA10 (fun hA10 => ?tA10)
         case sA10 => ((try dsimp only); (first | (with_reducible exact hHeld) | exact hk | exact hk.drew))
         replace hHeld := hA10; clear hK hA10
         refine wpAnyH_ready (rs := [2, 17]) (by kernel_rfl) (by simp) (.cons rfl (fun K hK => ?hcA13) (.cons rfl (fun K hK => ?hcA14) .nil))
         case' hcA13 =>
          go_simp
          (go_at_call 52; refine (HT.out _ _ hHeld).mono ?_; rintro e wt ⟨⟨zt, rfl, hz0, hz1, _⟩, hrt⟩; obtain ⟨zn, rfl⟩ : ∃ zn : Nat, zt = (zn : Int) := ⟨zt.toNat, by omega⟩; have hz2 : (zn : Int) < 2 := hz1 (by decide); have hk := MkR.trans hHeld hrt; (first | (have hLX20 := hrt.box hLX20 hg20) | skip); (first | (have hLX9 := hrt.box hLX9 hg9) | skip); (first | (have hget := lit_get (p := fun v => ∃ n : Int, v = .int .i64 n) hLX20 (by simp) (z := zn) (by simp <;> omega); obtain ⟨v, hcL, x24, rfl⟩ := hget) | skip); (first | (obtain ⟨z0, z1, z2, z3⟩ := box4_cells hLX9; have f0 := box_frozen hLX9 0; have f1 := box_frozen hLX9 1; have f2 := box_frozen hLX9 2; have f3 := box_frozen hLX9 3) | skip); (try dsimp only))
          refine hK.out _ _ ?sA13 (fun hA13 => ?tA13)
          case sA13 => ((try dsimp only); (first | (with_reducible exact hHeld) | exact hk | exact hk.drew))
          replace hHeld := hA13; clear hK hA13
          refine tkA (i := 3) (v := ?vA15) rfl (.inl ⟨by kernel_rfl, ?yA15⟩) (by assumption) ?rA15
          case yA15 => (intro w hSw; first | (go_simp; done) | (go_simp; with_reducible rfl))
          refine wpAnyH_ready (rs := [4, 12, 17]) (by kernel_rfl) (by simp) (.cons rfl (fun K hK => ?hcA16) (.cons rfl (fun K hK => ?hcA17) (.cons rfl (fun K hK => ?hcA18) .nil)))
          case' hcA16 =>
           go_simp
           refine hK.out _ _ ?sA16 (fun hA16 => ?tA16)
           case sA16 => ((try dsimp only); (first | (with_reducible exact hHeld) | exact hk | exact hk.drew))
           replace hHeld := hA16; clear hK hA16
           refine wpAnyH_ready (rs := [12, 17]) (by kernel_rfl) (by simp) (.cons rfl (fun K hK => ?hcA19) (.cons rfl (fun K hK => ?hcA20) .nil))
           case' hcA19 =>
            go_simp
            (go_at_call 52; refine (HT.out _ _ hHeld).mono ?_; rintro e wu ⟨⟨zu, rfl, _, _, _⟩, hrt⟩; have hk := MkR.trans hHeld hrt; (first | (have hLX20 := hrt.box hLX20 hg20) | skip); (first | (have hLX9 := hrt.box hLX9 hg9) | skip); (first | (have hget := lit_get (p := fun v => ∃ n : Int, v = .int .i64 n) hLX20 (by simp) (z := zn) (by simp <;> omega); obtain ⟨v, hcL, x24, rfl⟩ := hget) | skip); (first | (obtain ⟨z0, z1, z2, z3⟩ := box4_cells hLX9; have f0 := box_frozen hLX9 0; have f1 := box_frozen hLX9 1; have f2 := box_frozen hLX9 2; have f3 := box_frozen hLX9 3) | skip); (try dsimp only))
            refine hK.out _ _ ?sA19 (fun hA19 => ?tA19)
            case sA19 => ((try dsimp only); (first | (with_reducible exact hHeld) | exact hk | exact hk.drew))
            replace hHeld := hA19; clear hK hA19
            refine tkA (i := 13) (v := ?vA21) rfl (.inl ⟨by kernel_rfl, ?yA21⟩) (by assumption) ?rA21
            case yA21 => (intro w hSw; first | (go_simp; done) | (go_simp; with_reducible rfl))
            refine tkA (i := 15) (v := ?vA22) rfl (.inl ⟨by kernel_rfl, ?yA22⟩) (by assumption) ?rA22
            case yA22 => (intro w hSw; first | (go_simp; done) | (go_simp; with_reducible rfl))
            refine tkA (i := 16) (v := ?vA23) rfl (.inl ⟨by kernel_rfl, ?yA23⟩) (by assumption) ?rA23
            case yA23 => (intro w hSw; first | (go_simp; done) | (go_simp; with_reducible rfl))
            refine wpAnyH_ready (rs := [17]) (by kernel_rfl) (by simp) (.cons rfl (fun K hK => ?hcA24) .nil)
            go_simp
            (have hg9 := Nat.ne_of_gt (Nat.lt_of_lt_of_le hPX (MkR.size hHeld)); have hg9s := MkR.size hHeld; (first | refine intro_alloc (fun X9 hBX hLX9 => ?_) | refine intro_alloc_drew (fun X9 hBX hLX9 => ?_)); have hk := mkr_alloc (by first | exact hHeld | exact undrew_mkr hHeld) hBX; (first | (have hLX20 := below_push hBX hLX20) | skip); (first | (have hget := lit_get (p := fun v => ∃ n : Int, v = .int .i64 n) hLX20 (by simp) (z := zn) (by simp <;> omega); obtain ⟨v, hcL, x24, rfl⟩ := hget) | skip); (first | (obtain ⟨z0, z1, z2, z3⟩ := box4_cells hLX9; have f0 := box_frozen hLX9 0; have f1 := box_frozen hLX9 1; have f2 := box_frozen hLX9 2; have f3 := box_frozen hLX9 3) | skip); (try dsimp only))
            refine hK.out _ _ ?sA24 (fun hA24 => ?tA24)
            case sA24 => ((try dsimp only); (first | (with_reducible exact hHeld) | exact hk | exact hk.drew))
            replace hHeld := hA24; clear hK hA24
            refine wpAnyH_cast (by kernel_rfl) (by kernel_rfl) (hJA _ _ ?_)
            (exact ⟨rfl, rfl, by kernel_rfl, by kernel_rfl, by kernel_rfl, by kernel_rfl, ⟨_, _, rfl⟩, hHeld, _, rfl, hg9, hg9s, hLX9⟩)
           case' hcA20 =>
            go_simp
            (have hg9 := Nat.ne_of_gt (Nat.lt_of_lt_of_le hPX (MkR.size hHeld)); have hg9s := MkR.size hHeld; (first | refine intro_alloc (fun X9 hBX hLX9 => ?_) | refine intro_alloc_drew (fun X9 hBX hLX9 => ?_)); have hk := mkr_alloc (by first | exact hHeld | exact undrew_mkr hHeld) hBX; (first | (have hLX20 := below_push hBX hLX20) | skip); (first | (have hget := lit_get (p := fun v => ∃ n : Int, v = .int .i64 n) hLX20 (by simp) (z := zn) (by simp <;> omega); obtain ⟨v, hcL, x24, rfl⟩ := hget) | skip); (first | (obtain ⟨z0, z1, z2, z3⟩ := box4_cells hLX9; have f0 := box_frozen hLX9 0; have f1 := box_frozen hLX9 1; have f2 := box_frozen hLX9 2; have f3 := box_frozen hLX9 3) | skip); (try dsimp only))
            refine hK.out _ _ ?sA20 (fun hA20 => ?tA20)
            case sA20 => ((try dsimp only); (first | (with_reducible exact hHeld) | exact hk | exact hk.drew))
            replace hHeld := hA20; clear hK hA20
            refine wpAnyH_ready (rs := [12]) (by kernel_rfl) (by simp) (.cons rfl (fun K hK => ?hcA25) .nil)
            go_simp
            (go_at_call 52; refine (HT.out _ _ hHeld).mono ?_; rintro e wu ⟨⟨zu, rfl, _, _, _⟩, hrt⟩; have hk := MkR.trans hHeld hrt; (first | (have hLX20 := hrt.box hLX20 hg20) | skip); (first | (have hLX9 := hrt.box hLX9 hg9) | skip); (first | (have hget := lit_get (p := fun v => ∃ n : Int, v = .int .i64 n) hLX20 (by simp) (z := zn) (by simp <;> omega); obtain ⟨v, hcL, x24, rfl⟩ := hget) | skip); (first | (obtain ⟨z0, z1, z2, z3⟩ := box4_cells hLX9; have f0 := box_frozen hLX9 0; have f1 := box_frozen hLX9 1; have f2 := box_frozen hLX9 2; have f3 := box_frozen hLX9 3) | skip); (try dsimp only))
            refine hK.out _ _ ?sA25 (fun hA25 => ?tA25)
            case sA25 => ((try dsimp only); (first | (with_reducible exact hHeld) | exact hk | exact hk.drew))
            replace hHeld := hA25; clear hK hA25
            refine tkA (i := 13) (v := ?vA26) rfl (.inl ⟨by kernel_rfl, ?yA26⟩) (by assumption) ?rA26
            case yA26 => (intro w hSw; first | (go_simp; done) | (go_simp; with_reducible rfl))
            refine tkA (i := 15) (v := ?vA27) rfl (.inl ⟨by kernel_rfl, ?yA27⟩) (by assumption) ?rA27
            case yA27 => (intro w hSw; first | (go_simp; done) | (go_simp; with_reducible rfl))
            refine tkA (i := 16) (v := ?vA28) rfl (.inl ⟨by kernel_rfl, ?yA28⟩) (by assumption) ?rA28
            case yA28 => (intro w hSw; first | (go_simp; done) | (go_simp; with_reducible rfl))
            refine wpAnyH_cast (by kernel_rfl) (by kernel_rfl) (hJA _ _ ?_)
            (exact ⟨rfl, rfl, by kernel_rfl, by kernel_rfl, by kernel_rfl, by kernel_rfl, ⟨_, _, rfl⟩, hHeld, _, rfl, hg9, hg9s, hLX9⟩)
          case' hcA17 =>
           go_simp
           (go_at_call 52; refine (HT.out _ _ hHeld).mono ?_; rintro e wu ⟨⟨zu, rfl, _, _, _⟩, hrt⟩; have hk := MkR.trans hHeld hrt; (first | (have hLX20 := hrt.box hLX20 hg20) | skip); (first | (have hLX9 := hrt.box hLX9 hg9) | skip); (first | (have hget := lit_get (p := fun v => ∃ n : Int, v = .int .i64 n) hLX20 (by simp) (z := zn) (by simp <;> omega); obtain ⟨v, hcL, x24, rfl⟩ := hget) | skip); (first | (obtain ⟨z0, z1, z2, z3⟩ := box4_cells hLX9; have f0 := box_frozen hLX9 0; have f1 := box_frozen hLX9 1; have f2 := box_frozen hLX9 2; have f3 := box_frozen hLX9 3) | skip); (try dsimp only))
           refine hK.out _ _ ?sA17 (fun hA17 => ?tA17)
           case sA17 => ((try dsimp only); (first | (with_reducible exact hHeld) | exact hk | exact hk.drew))
           replace hHeld := hA17; clear hK hA17
           refine tkA (i := 13) (v := ?vA29) rfl (.inl ⟨by kernel_rfl, ?yA29⟩) (by assumption) ?rA29
           case yA29 => (intro w hSw; first | (go_simp; done) | (go_simp; with_reducible rfl))
           refine tkA (i := 15) (v := ?vA30) rfl (.inl ⟨by kernel_rfl, ?yA30⟩) (by assumption) ?rA30
           case yA30 => (intro w hSw; first | (go_simp; done) | (go_simp; with_reducible rfl))
           refine wpAnyH_ready (rs := [4, 17]) (by kernel_rfl) (by simp) (.cons rfl (fun K hK => ?hcA31) (.cons rfl (fun K hK => ?hcA32) .nil))
           case' hcA31 =>
            go_simp
            refine hK.out _ _ ?sA31 (fun hA31 => ?tA31)
            case sA31 => ((try dsimp only); (first | (with_reducible exact hHeld) | exact hk | exact hk.drew))
            replace hHeld := hA31; clear hK hA31
            refine tkA (i := 16) (v := ?vA33) rfl (.inl ⟨by kernel_rfl, ?yA33⟩) (by assumption) ?rA33
            case yA33 => (intro w hSw; first | (go_simp; done) | (go_simp; with_reducible rfl))
            refine wpAnyH_ready (rs := [17]) (by kernel_rfl) (by simp) (.cons rfl (fun K hK => ?hcA34) .nil)
            go_simp
            (have hg9 := Nat.ne_of_gt (Nat.lt_of_lt_of_le hPX (MkR.size hHeld)); have hg9s := MkR.size hHeld; (first | refine intro_alloc (fun X9 hBX hLX9 => ?_) | refine intro_alloc_drew (fun X9 hBX hLX9 => ?_)); have hk := mkr_alloc (by first | exact hHeld | exact undrew_mkr hHeld) hBX; (first | (have hLX20 := below_push hBX hLX20) | skip); (first | (have hget := lit_get (p := fun v => ∃ n : Int, v = .int .i64 n) hLX20 (by simp) (z := zn) (by simp <;> omega); obtain ⟨v, hcL, x24, rfl⟩ := hget) | skip); (first | (obtain ⟨z0, z1, z2, z3⟩ := box4_cells hLX9; have f0 := box_frozen hLX9 0; have f1 := box_frozen hLX9 1; have f2 := box_frozen hLX9 2; have f3 := box_frozen hLX9 3) | skip); (try dsimp only))
            refine hK.out _ _ ?sA34 (fun hA34 => ?tA34)
            case sA34 => ((try dsimp only); (first | (with_reducible exact hHeld) | exact hk | exact hk.drew))
            replace hHeld := hA34; clear hK hA34
            refine wpAnyH_cast (by kernel_rfl) (by kernel_rfl) (hJA _ _ ?_)
            (exact ⟨rfl, rfl, by kernel_rfl, by kernel_rfl, by kernel_rfl, by kernel_rfl, ⟨_, _, rfl⟩, hHeld, _, rfl, hg9, hg9s, hLX9⟩)
           case' hcA32 =>
            go_simp
            (have hg9 := Nat.ne_of_gt (Nat.lt_of_lt_of_le hPX (MkR.size hHeld)); have hg9s := MkR.size hHeld; (first | refine intro_alloc (fun X9 hBX hLX9 => ?_) | refine intro_alloc_drew (fun X9 hBX hLX9 => ?_)); have hk := mkr_alloc (by first | exact hHeld | exact undrew_mkr hHeld) hBX; (first | (have hLX20 := below_push hBX hLX20) | skip); (first | (have hget := lit_get (p := fun v => ∃ n : Int, v = .int .i64 n) hLX20 (by simp) (z := zn) (by simp <;> omega); obtain ⟨v, hcL, x24, rfl⟩ := hget) | skip); (first | (obtain ⟨z0, z1, z2, z3⟩ := box4_cells hLX9; have f0 := box_frozen hLX9 0; have f1 := box_frozen hLX9 1; have f2 := box_frozen hLX9 2; have f3 := box_frozen hLX9 3) | skip); (try dsimp only))
            refine hK.out _ _ ?sA32 (fun hA32 => ?tA32)
            case sA32 => ((try dsimp only); (first | (with_reducible exact hHeld) | exact hk | exact hk.drew))
            replace hHeld := hA32; clear hK hA32
            refine wpAnyH_ready (rs := [4]) (by kernel_rfl) (by simp) (.cons rfl (fun K hK => ?hcA35) .nil)
            go_simp
            refine hK.out _ _ ?sA35 (fun hA35 => ?tA35)
            case sA35 => ((try dsimp only); (first | (with_reducible exact hHeld) | exact hk | exact hk.drew))
            replace hHeld := hA35; clear hK hA35
            refine tkA (i := 16) (v := ?vA36) rfl (.inl ⟨by kernel_rfl, ?yA36⟩) (by assumption) ?rA36
            case yA36 => (intro w hSw; first | (go_simp; done) | (go_simp; with_reducible rfl))
            refine wpAnyH_cast (by kernel_rfl) (by kernel_rfl) (hJA _ _ ?_)
            (exact ⟨rfl, rfl, by kernel_rfl, by kernel_rfl, by kernel_rfl, by kernel_rfl, ⟨_, _, rfl⟩, hHeld, _, rfl, hg9, hg9s, hLX9⟩)
          case' hcA18 =>
           go_simp
           (have hg9 := Nat.ne_of_gt (Nat.lt_of_lt_of_le hPX (MkR.size hHeld)); have hg9s := MkR.size hHeld; (first | refine intro_alloc (fun X9 hBX hLX9 => ?_) | refine intro_alloc_drew (fun X9 hBX hLX9 => ?_)); have hk := mkr_alloc (by first | exact hHeld | exact undrew_mkr hHeld) hBX; (first | (have hLX20 := below_push hBX hLX20) | skip); (first | (have hget := lit_get (p := fun v => ∃ n : Int, v = .int .i64 n) hLX20 (by simp) (z := zn) (by simp <;> omega); obtain ⟨v, hcL, x24, rfl⟩ := hget) | skip); (first | (obtain ⟨z0, z1, z2, z3⟩ := box4_cells hLX9; have f0 := box_frozen hLX9 0; have f1 := box_frozen hLX9 1; have f2 := box_frozen hLX9 2; have f3 := box_frozen hLX9 3) | skip); (try dsimp only))
           refine hK.out _ _ ?sA18 (fun hA18 => ?tA18)
           case sA18 => ((try dsimp only); (first | (with_reducible exact hHeld) | exact hk | exact hk.drew))
           replace hHeld := hA18; clear hK hA18
           refine wpAnyH_ready (rs := [4, 12]) (by kernel_rfl) (by simp) (.cons rfl (fun K hK => ?hcA37) (.cons rfl (fun K hK => ?hcA38) .nil))
           case' hcA37 =>
            go_simp
            refine hK.out _ _ ?sA37 (fun hA37 => ?tA37)
            case sA37 => ((try dsimp only); (first | (with_reducible exact hHeld) | exact hk | exact hk.drew))
            replace hHeld := hA37; clear hK hA37
            refine wpAnyH_ready (rs := [12]) (by kernel_rfl) (by simp) (.cons rfl (fun K hK => ?hcA39) .nil)
            go_simp
            (go_at_call 52; refine (HT.out _ _ hHeld).mono ?_; rintro e wu ⟨⟨zu, rfl, _, _, _⟩, hrt⟩; have hk := MkR.trans hHeld hrt; (first | (have hLX20 := hrt.box hLX20 hg20) | skip); (first | (have hLX9 := hrt.box hLX9 hg9) | skip); (first | (have hget := lit_get (p := fun v => ∃ n : Int, v = .int .i64 n) hLX20 (by simp) (z := zn) (by simp <;> omega); obtain ⟨v, hcL, x24, rfl⟩ := hget) | skip); (first | (obtain ⟨z0, z1, z2, z3⟩ := box4_cells hLX9; have f0 := box_frozen hLX9 0; have f1 := box_frozen hLX9 1; have f2 := box_frozen hLX9 2; have f3 := box_frozen hLX9 3) | skip); (try dsimp only))
            refine hK.out _ _ ?sA39 (fun hA39 => ?tA39)
            case sA39 => ((try dsimp only); (first | (with_reducible exact hHeld) | exact hk | exact hk.drew))
            replace hHeld := hA39; clear hK hA39
            refine tkA (i := 13) (v := ?vA40) rfl (.inl ⟨by kernel_rfl, ?yA40⟩) (by assumption) ?rA40
            case yA40 => (intro w hSw; first | (go_simp; done) | (go_simp; with_reducible rfl))
            refine tkA (i := 15) (v := ?vA41) rfl (.inl ⟨by kernel_rfl, ?yA41⟩) (by assumption) ?rA41
            case yA41 => (intro w hSw; first | (go_simp; done) | (go_simp; with_reducible rfl))
            refine tkA (i := 16) (v := ?vA42) rfl (.inl ⟨by kernel_rfl, ?yA42⟩) (by assumption) ?rA42
            case yA42 => (intro w hSw; first | (go_simp; done) | (go_simp; with_reducible rfl))
            refine wpAnyH_cast (by kernel_rfl) (by kernel_rfl) (hJA _ _ ?_)
            (exact ⟨rfl, rfl, by kernel_rfl, by kernel_rfl, by kernel_rfl, by kernel_rfl, ⟨_, _, rfl⟩, hHeld, _, rfl, hg9, hg9s, hLX9⟩)
           case' hcA38 =>
            go_simp
            (go_at_call 52; refine (HT.out _ _ hHeld).mono ?_; rintro e wu ⟨⟨zu, rfl, _, _, _⟩, hrt⟩; have hk := MkR.trans hHeld hrt; (first | (have hLX20 := hrt.box hLX20 hg20) | skip); (first | (have hLX9 := hrt.box hLX9 hg9) | skip); (first | (have hget := lit_get (p := fun v => ∃ n : Int, v = .int .i64 n) hLX20 (by simp) (z := zn) (by simp <;> omega); obtain ⟨v, hcL, x24, rfl⟩ := hget) | skip); (first | (obtain ⟨z0, z1, z2, z3⟩ := box4_cells hLX9; have f0 := box_frozen hLX9 0; have f1 := box_frozen hLX9 1; have f2 := box_frozen hLX9 2; have f3 := box_frozen hLX9 3) | skip); (try dsimp only))
            refine hK.out _ _ ?sA38 (fun hA38 => ?tA38)
            case sA38 => ((try dsimp only); (first | (with_reducible exact hHeld) | exact hk | exact hk.drew))
            replace hHeld := hA38; clear hK hA38
            refine tkA (i := 13) (v := ?vA43) rfl (.inl ⟨by kernel_rfl, ?yA43⟩) (by assumption) ?rA43
            case yA43 => (intro w hSw; first | (go_simp; done) | (go_simp; with_reducible rfl))
            refine tkA (i := 15) (v := ?vA44) rfl (.inl ⟨by kernel_rfl, ?yA44⟩) (by assumption) ?rA44
            case yA44 => (intro w hSw; first | (go_simp; done) | (go_simp; with_reducible rfl))
            refine wpAnyH_ready (rs := [4]) (by kernel_rfl) (by simp) (.cons rfl (fun K hK => ?hcA45) .nil)
            go_simp
            refine hK.out _ _ ?sA45 (fun hA45 => ?tA45)
            case sA45 => ((try dsimp only); (first | (with_reducible exact hHeld) | exact hk | exact hk.drew))
            replace hHeld := hA45; clear hK hA45
            refine tkA (i := 16) (v := ?vA46) rfl (.inl ⟨by kernel_rfl, ?yA46⟩) (by assumption) ?rA46
            case yA46 => (intro w hSw; first | (go_simp; done) | (go_simp; with_reducible rfl))
            refine wpAnyH_cast (by kernel_rfl) (by kernel_rfl) (hJA _ _ ?_)
            (exact ⟨rfl, rfl, by kernel_rfl, by kernel_rfl, by kernel_rfl, by kernel_rfl, ⟨_, _, rfl⟩, hHeld, _, rfl, hg9, hg9s, hLX9⟩)
         case' hcA14 =>
          go_simp
          (have hg9 := Nat.ne_of_gt (Nat.lt_of_lt_of_le hPX (MkR.size hHeld)); have hg9s := MkR.size hHeld; (first | refine intro_alloc (fun X9 hBX hLX9 => ?_) | refine intro_alloc_drew (fun X9 hBX hLX9 => ?_)); have hk := mkr_alloc (by first | exact hHeld | exact undrew_mkr hHeld) hBX; (first | (have hLX20 := below_push hBX hLX20) | skip); (first | (have hget := lit_get (p := fun v => ∃ n : Int, v = .int .i64 n) hLX20 (by simp) (z := zn) (by simp <;> omega); obtain ⟨v, hcL, x24, rfl⟩ := hget) | skip); (first | (obtain ⟨z0, z1, z2, z3⟩ := box4_cells hLX9; have f0 := box_frozen hLX9 0; have f1 := box_frozen hLX9 1; have f2 := box_frozen hLX9 2; have f3 := box_frozen hLX9 3) | skip); (try dsimp only))
          refine hK.out _ _ ?sA14 (fun hA14 => ?tA14)
          case sA14 => ((try dsimp only); (first | (with_reducible exact hHeld) | exact hk | exact hk.drew))
          replace hHeld := hA14; clear hK hA14
          refine wpAnyH_ready (rs := [2]) (by kernel_rfl) (by simp) (.cons rfl (fun K hK => ?hcA47) .nil)
          go_simp
          (go_at_call 52; refine (HT.out _ _ hHeld).mono ?_; rintro e wt ⟨⟨zt, rfl, hz0, hz1, _⟩, hrt⟩; obtain ⟨zn, rfl⟩ : ∃ zn : Nat, zt = (zn : Int) := ⟨zt.toNat, by omega⟩; have hz2 : (zn : Int) < 2 := hz1 (by decide); have hk := MkR.trans hHeld hrt; (first | (have hLX20 := hrt.box hLX20 hg20) | skip); (first | (have hLX9 := hrt.box hLX9 hg9) | skip); (first | (have hget := lit_get (p := fun v => ∃ n : Int, v = .int .i64 n) hLX20 (by simp) (z := zn) (by simp <;> omega); obtain ⟨v, hcL, x24, rfl⟩ := hget) | skip); (first | (obtain ⟨z0, z1, z2, z3⟩ := box4_cells hLX9; have f0 := box_frozen hLX9 0; have f1 := box_frozen hLX9 1; have f2 := box_frozen hLX9 2; have f3 := box_frozen hLX9 3) | skip); (try dsimp only))
          refine hK.out _ _ ?sA47 (fun hA47 => ?tA47)
          case sA47 => ((try dsimp only); (first | (with_reducible exact hHeld) | exact hk | exact hk.drew))
          replace hHeld := hA47; clear hK hA47
          refine tkA (i := 3) (v := ?vA48) rfl (.inl ⟨by kernel_rfl, ?yA48⟩) (by assumption) ?rA48
          case yA48 => (intro w hSw; first | (go_simp; done) | (go_simp; with_reducible rfl))
          refine wpAnyH_ready (rs := [4, 12]) (by kernel_rfl) (by simp) (.cons rfl (fun K hK => ?hcA49) (.cons rfl (fun K hK => ?hcA50) .nil))
          case' hcA49 =>
           go_simp
           refine hK.out _ _ ?sA49 (fun hA49 => ?tA49)
           case sA49 => ((try dsimp only); (first | (with_reducible exact hHeld) | exact hk | exact hk.drew))
           replace hHeld := hA49; clear hK hA49
           refine wpAnyH_ready (rs := [12]) (by kernel_rfl) (by simp) (.cons rfl (fun K hK => ?hcA51) .nil)
           go_simp
           (go_at_call 52; refine (HT.out _ _ hHeld).mono ?_; rintro e wu ⟨⟨zu, rfl, _, _, _⟩, hrt⟩; have hk := MkR.trans hHeld hrt; (first | (have hLX20 := hrt.box hLX20 hg20) | skip); (first | (have hLX9 := hrt.box hLX9 hg9) | skip); (first | (have hget := lit_get (p := fun v => ∃ n : Int, v = .int .i64 n) hLX20 (by simp) (z := zn) (by simp <;> omega); obtain ⟨v, hcL, x24, rfl⟩ := hget) | skip); (first | (obtain ⟨z0, z1, z2, z3⟩ := box4_cells hLX9; have f0 := box_frozen hLX9 0; have f1 := box_frozen hLX9 1; have f2 := box_frozen hLX9 2; have f3 := box_frozen hLX9 3) | skip); (try dsimp only))
           refine hK.out _ _ ?sA51 (fun hA51 => ?tA51)
           case sA51 => ((try dsimp only); (first | (with_reducible exact hHeld) | exact hk | exact hk.drew))
           replace hHeld := hA51; clear hK hA51
           refine tkA (i := 13) (v := ?vA52) rfl (.inl ⟨by kernel_rfl, ?yA52⟩) (by assumption) ?rA52
           case yA52 => (intro w hSw; first | (go_simp; done) | (go_simp; with_reducible rfl))
           refine tkA (i := 15) (v := ?vA53) rfl (.inl ⟨by kernel_rfl, ?yA53⟩) (by assumption) ?rA53
           case yA53 => (intro w hSw; first | (go_simp; done) | (go_simp; with_reducible rfl))
           refine tkA (i := 16) (v := ?vA54) rfl (.inl ⟨by kernel_rfl, ?yA54⟩) (by assumption) ?rA54
           case yA54 => (intro w hSw; first | (go_simp; done) | (go_simp; with_reducible rfl))
           refine wpAnyH_cast (by kernel_rfl) (by kernel_rfl) (hJA _ _ ?_)
           (exact ⟨rfl, rfl, by kernel_rfl, by kernel_rfl, by kernel_rfl, by kernel_rfl, ⟨_, _, rfl⟩, hHeld, _, rfl, hg9, hg9s, hLX9⟩)
          case' hcA50 =>
           go_simp
           (go_at_call 52; refine (HT.out _ _ hHeld).mono ?_; rintro e wu ⟨⟨zu, rfl, _, _, _⟩, hrt⟩; have hk := MkR.trans hHeld hrt; (first | (have hLX20 := hrt.box hLX20 hg20) | skip); (first | (have hLX9 := hrt.box hLX9 hg9) | skip); (first | (have hget := lit_get (p := fun v => ∃ n : Int, v = .int .i64 n) hLX20 (by simp) (z := zn) (by simp <;> omega); obtain ⟨v, hcL, x24, rfl⟩ := hget) | skip); (first | (obtain ⟨z0, z1, z2, z3⟩ := box4_cells hLX9; have f0 := box_frozen hLX9 0; have f1 := box_frozen hLX9 1; have f2 := box_frozen hLX9 2; have f3 := box_frozen hLX9 3) | skip); (try dsimp only))
           refine hK.out _ _ ?sA50 (fun hA50 => ?tA50)
           case sA50 => ((try dsimp only); (first | (with_reducible exact hHeld) | exact hk | exact hk.drew))
           replace hHeld := hA50; clear hK hA50
           refine tkA (i := 13) (v := ?vA55) rfl (.inl ⟨by kernel_rfl, ?yA55⟩) (by assumption) ?rA55
           case yA55 => (intro w hSw; first | (go_simp; done) | (go_simp; with_reducible rfl))
           refine tkA (i := 15) (v := ?vA56) rfl (.inl ⟨by kernel_rfl, ?yA56⟩) (by assumption) ?rA56
           case yA56 => (intro w hSw; first | (go_simp; done) | (go_simp; with_reducible rfl))
           refine wpAnyH_ready (rs := [4]) (by kernel_rfl) (by simp) (.cons rfl (fun K hK => ?hcA57) .nil)
           go_simp
           refine hK.out _ _ ?sA57 (fun hA57 => ?tA57)
           case sA57 => ((try dsimp only); (first | (with_reducible exact hHeld) | exact hk | exact hk.drew))
           replace hHeld := hA57; clear hK hA57
           refine tkA (i := 16) (v := ?vA58) rfl (.inl ⟨by kernel_rfl, ?yA58⟩) (by assumption) ?rA58
           case yA58 => (intro w hSw; first | (go_simp; done) | (go_simp; with_reducible rfl))
           refine wpAnyH_cast (by kernel_rfl) (by kernel_rfl) (hJA _ _ ?_)
           (exact ⟨rfl, rfl, by kernel_rfl, by kernel_rfl, by kernel_rfl, by kernel_rfl, ⟨_, _, rfl⟩, hHeld, _, rfl, hg9, hg9s, hLX9⟩)
        case' hcA11 =>
         go_simp
         (go_at_call 52; refine (HT.out _ _ hHeld).mono ?_; rintro e wt ⟨⟨zt, rfl, hz0, hz1, _⟩, hrt⟩; obtain ⟨zn, rfl⟩ : ∃ zn : Nat, zt = (zn : Int) := ⟨zt.toNat, by omega⟩; have hz2 : (zn : Int) < 2 := hz1 (by decide); have hk := MkR.trans hHeld hrt; (first | (have hLX20 := hrt.box hLX20 hg20) | skip); (first | (have hLX9 := hrt.box hLX9 hg9) | skip); (first | (have hget := lit_get (p := fun v => ∃ n : Int, v = .int .i64 n) hLX20 (by simp) (z := zn) (by simp <;> omega); obtain ⟨v, hcL, x24, rfl⟩ := hget) | skip); (first | (obtain ⟨z0, z1, z2, z3⟩ := box4_cells hLX9; have f0 := box_frozen hLX9 0; have f1 := box_frozen hLX9 1; have f2 := box_frozen hLX9 2; have f3 := box_frozen hLX9 3) | skip); (try dsimp only))
         refine hK.out _ _ ?sA11 (fun hA11 => ?tA11)
         case sA11 => ((try dsimp only); (first | (with_reducible exact hHeld) | exact hk | exact hk.drew))
         replace hHeld := hA11; clear hK hA11
         refine wpAnyH_ready (rs := [0, 12, 17]) (by kernel_rfl) (by simp) (.cons rfl (fun K hK => ?hcA59) (.cons rfl (fun K hK => ?hcA60) (.cons rfl (fun K hK => ?hcA61) .nil)))
         case' hcA59 =>
          go_simp
          (have hg20 := Nat.ne_of_gt (Nat.lt_of_lt_of_le hPX (MkR.size hHeld)); (first | refine intro_alloc (fun XL20 hBX hLX20 => ?_) | refine intro_alloc_drew (fun XL20 hBX hLX20 => ?_)); have hk := mkr_alloc (by first | exact hHeld | exact undrew_mkr hHeld) hBX; (first | (have hLX9 := below_push hBX hLX9) | skip); (first | (have hget := lit_get (p := fun v => ∃ n : Int, v = .int .i64 n) hLX20 (by simp) (z := zn) (by simp <;> omega); obtain ⟨v, hcL, x24, rfl⟩ := hget) | skip); (first | (obtain ⟨z0, z1, z2, z3⟩ := box4_cells hLX9; have f0 := box_frozen hLX9 0; have f1 := box_frozen hLX9 1; have f2 := box_frozen hLX9 2; have f3 := box_frozen hLX9 3) | skip); (try dsimp only))
          refine hK.out _ _ ?sA59 (fun hA59 => ?tA59)
          case sA59 => ((try dsimp only); (first | (with_reducible exact hHeld) | exact hk | exact hk.drew))
          replace hHeld := hA59; clear hK hA59
          refine tkA (i := 3) (v := ?vA62) rfl (.inl ⟨by kernel_rfl, ?yA62⟩) (by assumption) ?rA62
          case yA62 => (intro w hSw; first | (go_simp; done) | (go_simp; with_reducible rfl))
          refine wpAnyH_ready (rs := [4, 12, 17]) (by kernel_rfl) (by simp) (.cons rfl (fun K hK => ?hcA63) (.cons rfl (fun K hK => ?hcA64) (.cons rfl (fun K hK => ?hcA65) .nil)))
          case' hcA63 =>
           go_simp
           refine hK.out _ _ ?sA63 (fun hA63 => ?tA63)
           case sA63 => ((try dsimp only); (first | (with_reducible exact hHeld) | exact hk | exact hk.drew))
           replace hHeld := hA63; clear hK hA63
           refine wpAnyH_ready (rs := [12, 17]) (by kernel_rfl) (by simp) (.cons rfl (fun K hK => ?hcA66) (.cons rfl (fun K hK => ?hcA67) .nil))
           case' hcA66 =>
            go_simp
            (go_at_call 52; refine (HT.out _ _ hHeld).mono ?_; rintro e wu ⟨⟨zu, rfl, _, _, _⟩, hrt⟩; have hk := MkR.trans hHeld hrt; (first | (have hLX20 := hrt.box hLX20 hg20) | skip); (first | (have hLX9 := hrt.box hLX9 hg9) | skip); (first | (have hget := lit_get (p := fun v => ∃ n : Int, v = .int .i64 n) hLX20 (by simp) (z := zn) (by simp <;> omega); obtain ⟨v, hcL, x24, rfl⟩ := hget) | skip); (first | (obtain ⟨z0, z1, z2, z3⟩ := box4_cells hLX9; have f0 := box_frozen hLX9 0; have f1 := box_frozen hLX9 1; have f2 := box_frozen hLX9 2; have f3 := box_frozen hLX9 3) | skip); (try dsimp only))
            refine hK.out _ _ ?sA66 (fun hA66 => ?tA66)
            case sA66 => ((try dsimp only); (first | (with_reducible exact hHeld) | exact hk | exact hk.drew))
            replace hHeld := hA66; clear hK hA66
            refine tkA (i := 13) (v := ?vA68) rfl (.inl ⟨by kernel_rfl, ?yA68⟩) (by assumption) ?rA68
            case yA68 => (intro w hSw; first | (go_simp; done) | (go_simp; with_reducible rfl))
            refine tkA (i := 15) (v := ?vA69) rfl (.inl ⟨by kernel_rfl, ?yA69⟩) (by assumption) ?rA69
            case yA69 => (intro w hSw; first | (go_simp; done) | (go_simp; with_reducible rfl))
            refine tkA (i := 16) (v := ?vA70) rfl (.inl ⟨by kernel_rfl, ?yA70⟩) (by assumption) ?rA70
            case yA70 => (intro w hSw; first | (go_simp; done) | (go_simp; with_reducible rfl))
            refine wpAnyH_ready (rs := [17]) (by kernel_rfl) (by simp) (.cons rfl (fun K hK => ?hcA71) .nil)
            go_simp
            (have hg9 := Nat.ne_of_gt (Nat.lt_of_lt_of_le hPX (MkR.size hHeld)); have hg9s := MkR.size hHeld; (first | refine intro_alloc (fun X9 hBX hLX9 => ?_) | refine intro_alloc_drew (fun X9 hBX hLX9 => ?_)); have hk := mkr_alloc (by first | exact hHeld | exact undrew_mkr hHeld) hBX; (first | (have hLX20 := below_push hBX hLX20) | skip); (first | (have hget := lit_get (p := fun v => ∃ n : Int, v = .int .i64 n) hLX20 (by simp) (z := zn) (by simp <;> omega); obtain ⟨v, hcL, x24, rfl⟩ := hget) | skip); (first | (obtain ⟨z0, z1, z2, z3⟩ := box4_cells hLX9; have f0 := box_frozen hLX9 0; have f1 := box_frozen hLX9 1; have f2 := box_frozen hLX9 2; have f3 := box_frozen hLX9 3) | skip); (try dsimp only))
            refine hK.out _ _ ?sA71 (fun hA71 => ?tA71)
            case sA71 => ((try dsimp only); (first | (with_reducible exact hHeld) | exact hk | exact hk.drew))
            replace hHeld := hA71; clear hK hA71
            refine wpAnyH_cast (by kernel_rfl) (by kernel_rfl) (hJA _ _ ?_)
            (exact ⟨rfl, rfl, by kernel_rfl, by kernel_rfl, by kernel_rfl, by kernel_rfl, ⟨_, _, rfl⟩, hHeld, _, rfl, hg9, hg9s, hLX9⟩)
           case' hcA67 =>
            go_simp
            (have hg9 := Nat.ne_of_gt (Nat.lt_of_lt_of_le hPX (MkR.size hHeld)); have hg9s := MkR.size hHeld; (first | refine intro_alloc (fun X9 hBX hLX9 => ?_) | refine intro_alloc_drew (fun X9 hBX hLX9 => ?_)); have hk := mkr_alloc (by first | exact hHeld | exact undrew_mkr hHeld) hBX; (first | (have hLX20 := below_push hBX hLX20) | skip); (first | (have hget := lit_get (p := fun v => ∃ n : Int, v = .int .i64 n) hLX20 (by simp) (z := zn) (by simp <;> omega); obtain ⟨v, hcL, x24, rfl⟩ := hget) | skip); (first | (obtain ⟨z0, z1, z2, z3⟩ := box4_cells hLX9; have f0 := box_frozen hLX9 0; have f1 := box_frozen hLX9 1; have f2 := box_frozen hLX9 2; have f3 := box_frozen hLX9 3) | skip); (try dsimp only))
            refine hK.out _ _ ?sA67 (fun hA67 => ?tA67)
            case sA67 => ((try dsimp only); (first | (with_reducible exact hHeld) | exact hk | exact hk.drew))
            replace hHeld := hA67; clear hK hA67
            refine wpAnyH_ready (rs := [12]) (by kernel_rfl) (by simp) (.cons rfl (fun K hK => ?hcA72) .nil)
            go_simp
            (go_at_call 52; refine (HT.out _ _ hHeld).mono ?_; rintro e wu ⟨⟨zu, rfl, _, _, _⟩, hrt⟩; have hk := MkR.trans hHeld hrt; (first | (have hLX20 := hrt.box hLX20 hg20) | skip); (first | (have hLX9 := hrt.box hLX9 hg9) | skip); (first | (have hget := lit_get (p := fun v => ∃ n : Int, v = .int .i64 n) hLX20 (by simp) (z := zn) (by simp <;> omega); obtain ⟨v, hcL, x24, rfl⟩ := hget) | skip); (first | (obtain ⟨z0, z1, z2, z3⟩ := box4_cells hLX9; have f0 := box_frozen hLX9 0; have f1 := box_frozen hLX9 1; have f2 := box_frozen hLX9 2; have f3 := box_frozen hLX9 3) | skip); (try dsimp only))
            refine hK.out _ _ ?sA72 (fun hA72 => ?tA72)
            case sA72 => ((try dsimp only); (first | (with_reducible exact hHeld) | exact hk | exact hk.drew))
            replace hHeld := hA72; clear hK hA72
            refine tkA (i := 13) (v := ?vA73) rfl (.inl ⟨by kernel_rfl, ?yA73⟩) (by assumption) ?rA73
            case yA73 => (intro w hSw; first | (go_simp; done) | (go_simp; with_reducible rfl))
            refine tkA (i := 15) (v := ?vA74) rfl (.inl ⟨by kernel_rfl, ?yA74⟩) (by assumption) ?rA74
            case yA74 => (intro w hSw; first | (go_simp; done) | (go_simp; with_reducible rfl))
            refine tkA (i := 16) (v := ?vA75) rfl (.inl ⟨by kernel_rfl, ?yA75⟩) (by assumption) ?rA75
            case yA75 => (intro w hSw; first | (go_simp; done) | (go_simp; with_reducible rfl))
            refine wpAnyH_cast (by kernel_rfl) (by kernel_rfl) (hJA _ _ ?_)
            (exact ⟨rfl, rfl, by kernel_rfl, by kernel_rfl, by kernel_rfl, by kernel_rfl, ⟨_, _, rfl⟩, hHeld, _, rfl, hg9, hg9s, hLX9⟩)
          case' hcA64 =>
           go_simp
           (go_at_call 52; refine (HT.out _ _ hHeld).mono ?_; rintro e wu ⟨⟨zu, rfl, _, _, _⟩, hrt⟩; have hk := MkR.trans hHeld hrt; (first | (have hLX20 := hrt.box hLX20 hg20) | skip); (first | (have hLX9 := hrt.box hLX9 hg9) | skip); (first | (have hget := lit_get (p := fun v => ∃ n : Int, v = .int .i64 n) hLX20 (by simp) (z := zn) (by simp <;> omega); obtain ⟨v, hcL, x24, rfl⟩ := hget) | skip); (first | (obtain ⟨z0, z1, z2, z3⟩ := box4_cells hLX9; have f0 := box_frozen hLX9 0; have f1 := box_frozen hLX9 1; have f2 := box_frozen hLX9 2; have f3 := box_frozen hLX9 3) | skip); (try dsimp only))
           refine hK.out _ _ ?sA64 (fun hA64 => ?tA64)
           case sA64 => ((try dsimp only); (first | (with_reducible exact hHeld) | exact hk | exact hk.drew))
           replace hHeld := hA64; clear hK hA64
           refine tkA (i := 13) (v := ?vA76) rfl (.inl ⟨by kernel_rfl, ?yA76⟩) (by assumption) ?rA76
           case yA76 => (intro w hSw; first | (go_simp; done) | (go_simp; with_reducible rfl))
           refine tkA (i := 15) (v := ?vA77) rfl (.inl ⟨by kernel_rfl, ?yA77⟩) (by assumption) ?rA77
           case yA77 => (intro w hSw; first | (go_simp; done) | (go_simp; with_reducible rfl))
           refine wpAnyH_ready (rs := [4, 17]) (by kernel_rfl) (by simp) (.cons rfl (fun K hK => ?hcA78) (.cons rfl (fun K hK => ?hcA79) .nil))
           case' hcA78 =>
            go_simp
            refine hK.out _ _ ?sA78 (fun hA78 => ?tA78)
            case sA78 => ((try dsimp only); (first | (with_reducible exact hHeld) | exact hk | exact hk.drew))
            replace hHeld := hA78; clear hK hA78
            refine tkA (i := 16) (v := ?vA80) rfl (.inl ⟨by kernel_rfl, ?yA80⟩) (by assumption) ?rA80
            case yA80 => (intro w hSw; first | (go_simp; done) | (go_simp; with_reducible rfl))
            refine wpAnyH_ready (rs := [17]) (by kernel_rfl) (by simp) (.cons rfl (fun K hK => ?hcA81) .nil)
            go_simp
            (have hg9 := Nat.ne_of_gt (Nat.lt_of_lt_of_le hPX (MkR.size hHeld)); have hg9s := MkR.size hHeld; (first | refine intro_alloc (fun X9 hBX hLX9 => ?_) | refine intro_alloc_drew (fun X9 hBX hLX9 => ?_)); have hk := mkr_alloc (by first | exact hHeld | exact undrew_mkr hHeld) hBX; (first | (have hLX20 := below_push hBX hLX20) | skip); (first | (have hget := lit_get (p := fun v => ∃ n : Int, v = .int .i64 n) hLX20 (by simp) (z := zn) (by simp <;> omega); obtain ⟨v, hcL, x24, rfl⟩ := hget) | skip); (first | (obtain ⟨z0, z1, z2, z3⟩ := box4_cells hLX9; have f0 := box_frozen hLX9 0; have f1 := box_frozen hLX9 1; have f2 := box_frozen hLX9 2; have f3 := box_frozen hLX9 3) | skip); (try dsimp only))
            refine hK.out _ _ ?sA81 (fun hA81 => ?tA81)
            case sA81 => ((try dsimp only); (first | (with_reducible exact hHeld) | exact hk | exact hk.drew))
            replace hHeld := hA81; clear hK hA81
            refine wpAnyH_cast (by kernel_rfl) (by kernel_rfl) (hJA _ _ ?_)
            (exact ⟨rfl, rfl, by kernel_rfl, by kernel_rfl, by kernel_rfl, by kernel_rfl, ⟨_, _, rfl⟩, hHeld, _, rfl, hg9, hg9s, hLX9⟩)
           case' hcA79 =>
            go_simp
            (have hg9 := Nat.ne_of_gt (Nat.lt_of_lt_of_le hPX (MkR.size hHeld)); have hg9s := MkR.size hHeld; (first | refine intro_alloc (fun X9 hBX hLX9 => ?_) | refine intro_alloc_drew (fun X9 hBX hLX9 => ?_)); have hk := mkr_alloc (by first | exact hHeld | exact undrew_mkr hHeld) hBX; (first | (have hLX20 := below_push hBX hLX20) | skip); (first | (have hget := lit_get (p := fun v => ∃ n : Int, v = .int .i64 n) hLX20 (by simp) (z := zn) (by simp <;> omega); obtain ⟨v, hcL, x24, rfl⟩ := hget) | skip); (first | (obtain ⟨z0, z1, z2, z3⟩ := box4_cells hLX9; have f0 := box_frozen hLX9 0; have f1 := box_frozen hLX9 1; have f2 := box_frozen hLX9 2; have f3 := box_frozen hLX9 3) | skip); (try dsimp only))
            refine hK.out _ _ ?sA79 (fun hA79 => ?tA79)
            case sA79 => ((try dsimp only); (first | (with_reducible exact hHeld) | exact hk | exact hk.drew))
            replace hHeld := hA79; clear hK hA79
            refine wpAnyH_ready (rs := [4]) (by kernel_rfl) (by simp) (.cons rfl (fun K hK => ?hcA82) .nil)
            go_simp
            refine hK.out _ _ ?sA82 (fun hA82 => ?tA82)
            case sA82 => ((try dsimp only); (first | (with_reducible exact hHeld) | exact hk | exact hk.drew))
            replace hHeld := hA82; clear hK hA82
            refine tkA (i := 16) (v := ?vA83) rfl (.inl ⟨by kernel_rfl, ?yA83⟩) (by assumption) ?rA83
            case yA83 => (intro w hSw; first | (go_simp; done) | (go_simp; with_reducible rfl))
            refine wpAnyH_cast (by kernel_rfl) (by kernel_rfl) (hJA _ _ ?_)
            (exact ⟨rfl, rfl, by kernel_rfl, by kernel_rfl, by kernel_rfl, by kernel_rfl, ⟨_, _, rfl⟩, hHeld, _, rfl, hg9, hg9s, hLX9⟩)
          case' hcA65 =>
           go_simp
           (have hg9 := Nat.ne_of_gt (Nat.lt_of_lt_of_le hPX (MkR.size hHeld)); have hg9s := MkR.size hHeld; (first | refine intro_alloc (fun X9 hBX hLX9 => ?_) | refine intro_alloc_drew (fun X9 hBX hLX9 => ?_)); have hk := mkr_alloc (by first | exact hHeld | exact undrew_mkr hHeld) hBX; (first | (have hLX20 := below_push hBX hLX20) | skip); (first | (have hget := lit_get (p := fun v => ∃ n : Int, v = .int .i64 n) hLX20 (by simp) (z := zn) (by simp <;> omega); obtain ⟨v, hcL, x24, rfl⟩ := hget) | skip); (first | (obtain ⟨z0, z1, z2, z3⟩ := box4_cells hLX9; have f0 := box_frozen hLX9 0; have f1 := box_frozen hLX9 1; have f2 := box_frozen hLX9 2; have f3 := box_frozen hLX9 3) | skip); (try dsimp only))
           refine hK.out _ _ ?sA65 (fun hA65 => ?tA65)
           case sA65 => ((try dsimp only); (first | (with_reducible exact hHeld) | exact hk | exact hk.drew))
           replace hHeld := hA65; clear hK hA65
           refine wpAnyH_ready (rs := [4, 12]) (by kernel_rfl) (by simp) (.cons rfl (fun K hK => ?hcA84) (.cons rfl (fun K hK => ?hcA85) .nil))
           case' hcA84 =>
            go_simp
            refine hK.out _ _ ?sA84 (fun hA84 => ?tA84)
            case sA84 => ((try dsimp only); (first | (with_reducible exact hHeld) | exact hk | exact hk.drew))
            replace hHeld := hA84; clear hK hA84
            refine wpAnyH_ready (rs := [12]) (by kernel_rfl) (by simp) (.cons rfl (fun K hK => ?hcA86) .nil)
            go_simp
            (go_at_call 52; refine (HT.out _ _ hHeld).mono ?_; rintro e wu ⟨⟨zu, rfl, _, _, _⟩, hrt⟩; have hk := MkR.trans hHeld hrt; (first | (have hLX20 := hrt.box hLX20 hg20) | skip); (first | (have hLX9 := hrt.box hLX9 hg9) | skip); (first | (have hget := lit_get (p := fun v => ∃ n : Int, v = .int .i64 n) hLX20 (by simp) (z := zn) (by simp <;> omega); obtain ⟨v, hcL, x24, rfl⟩ := hget) | skip); (first | (obtain ⟨z0, z1, z2, z3⟩ := box4_cells hLX9; have f0 := box_frozen hLX9 0; have f1 := box_frozen hLX9 1; have f2 := box_frozen hLX9 2; have f3 := box_frozen hLX9 3) | skip); (try dsimp only))
            refine hK.out _ _ ?sA86 (fun hA86 => ?tA86)
            case sA86 => ((try dsimp only); (first | (with_reducible exact hHeld) | exact hk | exact hk.drew))
            replace hHeld := hA86; clear hK hA86
            refine tkA (i := 13) (v := ?vA87) rfl (.inl ⟨by kernel_rfl, ?yA87⟩) (by assumption) ?rA87
            case yA87 => (intro w hSw; first | (go_simp; done) | (go_simp; with_reducible rfl))
            refine tkA (i := 15) (v := ?vA88) rfl (.inl ⟨by kernel_rfl, ?yA88⟩) (by assumption) ?rA88
            case yA88 => (intro w hSw; first | (go_simp; done) | (go_simp; with_reducible rfl))
            refine tkA (i := 16) (v := ?vA89) rfl (.inl ⟨by kernel_rfl, ?yA89⟩) (by assumption) ?rA89
            case yA89 => (intro w hSw; first | (go_simp; done) | (go_simp; with_reducible rfl))
            refine wpAnyH_cast (by kernel_rfl) (by kernel_rfl) (hJA _ _ ?_)
            (exact ⟨rfl, rfl, by kernel_rfl, by kernel_rfl, by kernel_rfl, by kernel_rfl, ⟨_, _, rfl⟩, hHeld, _, rfl, hg9, hg9s, hLX9⟩)
           case' hcA85 =>
            go_simp
            (go_at_call 52; refine (HT.out _ _ hHeld).mono ?_; rintro e wu ⟨⟨zu, rfl, _, _, _⟩, hrt⟩; have hk := MkR.trans hHeld hrt; (first | (have hLX20 := hrt.box hLX20 hg20) | skip); (first | (have hLX9 := hrt.box hLX9 hg9) | skip); (first | (have hget := lit_get (p := fun v => ∃ n : Int, v = .int .i64 n) hLX20 (by simp) (z := zn) (by simp <;> omega); obtain ⟨v, hcL, x24, rfl⟩ := hget) | skip); (first | (obtain ⟨z0, z1, z2, z3⟩ := box4_cells hLX9; have f0 := box_frozen hLX9 0; have f1 := box_frozen hLX9 1; have f2 := box_frozen hLX9 2; have f3 := box_frozen hLX9 3) | skip); (try dsimp only))
            refine hK.out _ _ ?sA85 (fun hA85 => ?tA85)
            case sA85 => ((try dsimp only); (first | (with_reducible exact hHeld) | exact hk | exact hk.drew))
            replace hHeld := hA85; clear hK hA85
            refine tkA (i := 13) (v := ?vA90) rfl (.inl ⟨by kernel_rfl, ?yA90⟩) (by assumption) ?rA90
            case yA90 => (intro w hSw; first | (go_simp; done) | (go_simp; with_reducible rfl))
            refine tkA (i := 15) (v := ?vA91) rfl (.inl ⟨by kernel_rfl, ?yA91⟩) (by assumption) ?rA91
            case yA91 => (intro w hSw; first | (go_simp; done) | (go_simp; with_reducible rfl))
            refine wpAnyH_ready (rs := [4]) (by kernel_rfl) (by simp) (.cons rfl (fun K hK => ?hcA92) .nil)
            go_simp
            refine hK.out _ _ ?sA92 (fun hA92 => ?tA92)
            case sA92 => ((try dsimp only); (first | (with_reducible exact hHeld) | exact hk | exact hk.drew))
            replace hHeld := hA92; clear hK hA92
            refine tkA (i := 16) (v := ?vA93) rfl (.inl ⟨by kernel_rfl, ?yA93⟩) (by assumption) ?rA93
            case yA93 => (intro w hSw; first | (go_simp; done) | (go_simp; with_reducible rfl))
            refine wpAnyH_cast (by kernel_rfl) (by kernel_rfl) (hJA _ _ ?_)
            (exact ⟨rfl, rfl, by kernel_rfl, by kernel_rfl, by kernel_rfl, by kernel_rfl, ⟨_, _, rfl⟩, hHeld, _, rfl, hg9, hg9s, hLX9⟩)
         case' hcA60 =>
          go_simp
          (go_at_call 52; refine (HT.out _ _ hHeld).mono ?_; rintro e wu ⟨⟨zu, rfl, _, _, _⟩, hrt⟩; have hk := MkR.trans hHeld hrt; (first | (have hLX20 := hrt.box hLX20 hg20) | skip); (first | (have hLX9 := hrt.box hLX9 hg9) | skip); (first | (have hget := lit_get (p := fun v => ∃ n : Int, v = .int .i64 n) hLX20 (by simp) (z := zn) (by simp <;> omega); obtain ⟨v, hcL, x24, rfl⟩ := hget) | skip); (first | (obtain ⟨z0, z1, z2, z3⟩ := box4_cells hLX9; have f0 := box_frozen hLX9 0; have f1 := box_frozen hLX9 1; have f2 := box_frozen hLX9 2; have f3 := box_frozen hLX9 3) | skip); (try dsimp only))
          refine hK.out _ _ ?sA60 (fun hA60 => ?tA60)
          case sA60 => ((try dsimp only); (first | (with_reducible exact hHeld) | exact hk | exact hk.drew))
          replace hHeld := hA60; clear hK hA60
          refine tkA (i := 13) (v := ?vA94) rfl (.inl ⟨by kernel_rfl, ?yA94⟩) (by assumption) ?rA94
          case yA94 => (intro w hSw; first | (go_simp; done) | (go_simp; with_reducible rfl))
          refine tkA (i := 15) (v := ?vA95) rfl (.inl ⟨by kernel_rfl, ?yA95⟩) (by assumption) ?rA95
          case yA95 => (intro w hSw; first | (go_simp; done) | (go_simp; with_reducible rfl))
          refine wpAnyH_ready (rs := [0, 17]) (by kernel_rfl) (by simp) (.cons rfl (fun K hK => ?hcA96) (.cons rfl (fun K hK => ?hcA97) .nil))
          case' hcA96 =>
           go_simp
           (have hg20 := Nat.ne_of_gt (Nat.lt_of_lt_of_le hPX (MkR.size hHeld)); (first | refine intro_alloc (fun XL20 hBX hLX20 => ?_) | refine intro_alloc_drew (fun XL20 hBX hLX20 => ?_)); have hk := mkr_alloc (by first | exact hHeld | exact undrew_mkr hHeld) hBX; (first | (have hLX9 := below_push hBX hLX9) | skip); (first | (have hget := lit_get (p := fun v => ∃ n : Int, v = .int .i64 n) hLX20 (by simp) (z := zn) (by simp <;> omega); obtain ⟨v, hcL, x24, rfl⟩ := hget) | skip); (first | (obtain ⟨z0, z1, z2, z3⟩ := box4_cells hLX9; have f0 := box_frozen hLX9 0; have f1 := box_frozen hLX9 1; have f2 := box_frozen hLX9 2; have f3 := box_frozen hLX9 3) | skip); (try dsimp only))
           refine hK.out _ _ ?sA96 (fun hA96 => ?tA96)
           case sA96 => ((try dsimp only); (first | (with_reducible exact hHeld) | exact hk | exact hk.drew))
           replace hHeld := hA96; clear hK hA96
           refine tkA (i := 3) (v := ?vA98) rfl (.inl ⟨by kernel_rfl, ?yA98⟩) (by assumption) ?rA98
           case yA98 => (intro w hSw; first | (go_simp; done) | (go_simp; with_reducible rfl))
           refine wpAnyH_ready (rs := [4, 17]) (by kernel_rfl) (by simp) (.cons rfl (fun K hK => ?hcA99) (.cons rfl (fun K hK => ?hcA100) .nil))
           case' hcA99 =>
            go_simp
            refine hK.out _ _ ?sA99 (fun hA99 => ?tA99)
            case sA99 => ((try dsimp only); (first | (with_reducible exact hHeld) | exact hk | exact hk.drew))
            replace hHeld := hA99; clear hK hA99
            refine tkA (i := 16) (v := ?vA101) rfl (.inl ⟨by kernel_rfl, ?yA101⟩) (by assumption) ?rA101
            case yA101 => (intro w hSw; first | (go_simp; done) | (go_simp; with_reducible rfl))
            refine wpAnyH_ready (rs := [17]) (by kernel_rfl) (by simp) (.cons rfl (fun K hK => ?hcA102) .nil)
            go_simp
            (have hg9 := Nat.ne_of_gt (Nat.lt_of_lt_of_le hPX (MkR.size hHeld)); have hg9s := MkR.size hHeld; (first | refine intro_alloc (fun X9 hBX hLX9 => ?_) | refine intro_alloc_drew (fun X9 hBX hLX9 => ?_)); have hk := mkr_alloc (by first | exact hHeld | exact undrew_mkr hHeld) hBX; (first | (have hLX20 := below_push hBX hLX20) | skip); (first | (have hget := lit_get (p := fun v => ∃ n : Int, v = .int .i64 n) hLX20 (by simp) (z := zn) (by simp <;> omega); obtain ⟨v, hcL, x24, rfl⟩ := hget) | skip); (first | (obtain ⟨z0, z1, z2, z3⟩ := box4_cells hLX9; have f0 := box_frozen hLX9 0; have f1 := box_frozen hLX9 1; have f2 := box_frozen hLX9 2; have f3 := box_frozen hLX9 3) | skip); (try dsimp only))
            refine hK.out _ _ ?sA102 (fun hA102 => ?tA102)
            case sA102 => ((try dsimp only); (first | (with_reducible exact hHeld) | exact hk | exact hk.drew))
            replace hHeld := hA102; clear hK hA102
            refine wpAnyH_cast (by kernel_rfl) (by kernel_rfl) (hJA _ _ ?_)
            (exact ⟨rfl, rfl, by kernel_rfl, by kernel_rfl, by kernel_rfl, by kernel_rfl, ⟨_, _, rfl⟩, hHeld, _, rfl, hg9, hg9s, hLX9⟩)
           case' hcA100 =>
            go_simp
            (have hg9 := Nat.ne_of_gt (Nat.lt_of_lt_of_le hPX (MkR.size hHeld)); have hg9s := MkR.size hHeld; (first | refine intro_alloc (fun X9 hBX hLX9 => ?_) | refine intro_alloc_drew (fun X9 hBX hLX9 => ?_)); have hk := mkr_alloc (by first | exact hHeld | exact undrew_mkr hHeld) hBX; (first | (have hLX20 := below_push hBX hLX20) | skip); (first | (have hget := lit_get (p := fun v => ∃ n : Int, v = .int .i64 n) hLX20 (by simp) (z := zn) (by simp <;> omega); obtain ⟨v, hcL, x24, rfl⟩ := hget) | skip); (first | (obtain ⟨z0, z1, z2, z3⟩ := box4_cells hLX9; have f0 := box_frozen hLX9 0; have f1 := box_frozen hLX9 1; have f2 := box_frozen hLX9 2; have f3 := box_frozen hLX9 3) | skip); (try dsimp only))
            refine hK.out _ _ ?sA100 (fun hA100 => ?tA100)
            case sA100 => ((try dsimp only); (first | (with_reducible exact hHeld) | exact hk | exact hk.drew))
            replace hHeld := hA100; clear hK hA100
            refine wpAnyH_ready (rs := [4]) (by kernel_rfl) (by simp) (.cons rfl (fun K hK => ?hcA103) .nil)
            go_simp
            refine hK.out _ _ ?sA103 (fun hA103 => ?tA103)
            case sA103 => ((try dsimp only); (first | (with_reducible exact hHeld) | exact hk | exact hk.drew))
            replace hHeld := hA103; clear hK hA103
            refine tkA (i := 16) (v := ?vA104) rfl (.inl ⟨by kernel_rfl, ?yA104⟩) (by assumption) ?rA104
            case yA104 => (intro w hSw; first | (go_simp; done) | (go_simp; with_reducible rfl))
            refine wpAnyH_cast (by kernel_rfl) (by kernel_rfl) (hJA _ _ ?_)
            (exact ⟨rfl, rfl, by kernel_rfl, by kernel_rfl, by kernel_rfl, by kernel_rfl, ⟨_, _, rfl⟩, hHeld, _, rfl, hg9, hg9s, hLX9⟩)
          case' hcA97 =>
           go_simp
           (have hg9 := Nat.ne_of_gt (Nat.lt_of_lt_of_le hPX (MkR.size hHeld)); have hg9s := MkR.size hHeld; (first | refine intro_alloc (fun X9 hBX hLX9 => ?_) | refine intro_alloc_drew (fun X9 hBX hLX9 => ?_)); have hk := mkr_alloc (by first | exact hHeld | exact undrew_mkr hHeld) hBX; (first | (have hLX20 := below_push hBX hLX20) | skip); (first | (have hget := lit_get (p := fun v => ∃ n : Int, v = .int .i64 n) hLX20 (by simp) (z := zn) (by simp <;> omega); obtain ⟨v, hcL, x24, rfl⟩ := hget) | skip); (first | (obtain ⟨z0, z1, z2, z3⟩ := box4_cells hLX9; have f0 := box_frozen hLX9 0; have f1 := box_frozen hLX9 1; have f2 := box_frozen hLX9 2; have f3 := box_frozen hLX9 3) | skip); (try dsimp only))
           refine hK.out _ _ ?sA97 (fun hA97 => ?tA97)
           case sA97 => ((try dsimp only); (first | (with_reducible exact hHeld) | exact hk | exact hk.drew))
           replace hHeld := hA97; clear hK hA97
           refine wpAnyH_ready (rs := [0]) (by kernel_rfl) (by simp) (.cons rfl (fun K hK => ?hcA105) .nil)
           go_simp
           (have hg20 := Nat.ne_of_gt (Nat.lt_of_lt_of_le hPX (MkR.size hHeld)); (first | refine intro_alloc (fun XL20 hBX hLX20 => ?_) | refine intro_alloc_drew (fun XL20 hBX hLX20 => ?_)); have hk := mkr_alloc (by first | exact hHeld | exact undrew_mkr hHeld) hBX; (first | (have hLX9 := below_push hBX hLX9) | skip); (first | (have hget := lit_get (p := fun v => ∃ n : Int, v = .int .i64 n) hLX20 (by simp) (z := zn) (by simp <;> omega); obtain ⟨v, hcL, x24, rfl⟩ := hget) | skip); (first | (obtain ⟨z0, z1, z2, z3⟩ := box4_cells hLX9; have f0 := box_frozen hLX9 0; have f1 := box_frozen hLX9 1; have f2 := box_frozen hLX9 2; have f3 := box_frozen hLX9 3) | skip); (try dsimp only))
           refine hK.out _ _ ?sA105 (fun hA105 => ?tA105)
           case sA105 => ((try dsimp only); (first | (with_reducible exact hHeld) | exact hk | exact hk.drew))
           replace hHeld := hA105; clear hK hA105
           refine tkA (i := 3) (v := ?vA106) rfl (.inl ⟨by kernel_rfl, ?yA106⟩) (by assumption) ?rA106
           case yA106 => (intro w hSw; first | (go_simp; done) | (go_simp; with_reducible rfl))
           refine wpAnyH_ready (rs := [4]) (by kernel_rfl) (by simp) (.cons rfl (fun K hK => ?hcA107) .nil)
           go_simp
           refine hK.out _ _ ?sA107 (fun hA107 => ?tA107)
           case sA107 => ((try dsimp only); (first | (with_reducible exact hHeld) | exact hk | exact hk.drew))
           replace hHeld := hA107; clear hK hA107
           refine tkA (i := 16) (v := ?vA108) rfl (.inl ⟨by kernel_rfl, ?yA108⟩) (by assumption) ?rA108
           case yA108 => (intro w hSw; first | (go_simp; done) | (go_simp; with_reducible rfl))
           refine wpAnyH_cast (by kernel_rfl) (by kernel_rfl) (hJA _ _ ?_)
           (exact ⟨rfl, rfl, by kernel_rfl, by kernel_rfl, by kernel_rfl, by kernel_rfl, ⟨_, _, rfl⟩, hHeld, _, rfl, hg9, hg9s, hLX9⟩)
         case' hcA61 =>
          go_simp
          (have hg9 := Nat.ne_of_gt (Nat.lt_of_lt_of_le hPX (MkR.size hHeld)); have hg9s := MkR.size hHeld; (first | refine intro_alloc (fun X9 hBX hLX9 => ?_) | refine intro_alloc_drew (fun X9 hBX hLX9 => ?_)); have hk := mkr_alloc (by first | exact hHeld | exact undrew_mkr hHeld) hBX; (first | (have hLX20 := below_push hBX hLX20) | skip); (first | (have hget := lit_get (p := fun v => ∃ n : Int, v = .int .i64 n) hLX20 (by simp) (z := zn) (by simp <;> omega); obtain ⟨v, hcL, x24, rfl⟩ := hget) | skip); (first | (obtain ⟨z0, z1, z2, z3⟩ := box4_cells hLX9; have f0 := box_frozen hLX9 0; have f1 := box_frozen hLX9 1; have f2 := box_frozen hLX9 2; have f3 := box_frozen hLX9 3) | skip); (try dsimp only))
          refine hK.out _ _ ?sA61 (fun hA61 => ?tA61)
          case sA61 => ((try dsimp only); (first | (with_reducible exact hHeld) | exact hk | exact hk.drew))
          replace hHeld := hA61; clear hK hA61
          refine wpAnyH_ready (rs := [0, 12]) (by kernel_rfl) (by simp) (.cons rfl (fun K hK => ?hcA109) (.cons rfl (fun K hK => ?hcA110) .nil))
          case' hcA109 =>
           go_simp
           (have hg20 := Nat.ne_of_gt (Nat.lt_of_lt_of_le hPX (MkR.size hHeld)); (first | refine intro_alloc (fun XL20 hBX hLX20 => ?_) | refine intro_alloc_drew (fun XL20 hBX hLX20 => ?_)); have hk := mkr_alloc (by first | exact hHeld | exact undrew_mkr hHeld) hBX; (first | (have hLX9 := below_push hBX hLX9) | skip); (first | (have hget := lit_get (p := fun v => ∃ n : Int, v = .int .i64 n) hLX20 (by simp) (z := zn) (by simp <;> omega); obtain ⟨v, hcL, x24, rfl⟩ := hget) | skip); (first | (obtain ⟨z0, z1, z2, z3⟩ := box4_cells hLX9; have f0 := box_frozen hLX9 0; have f1 := box_frozen hLX9 1; have f2 := box_frozen hLX9 2; have f3 := box_frozen hLX9 3) | skip); (try dsimp only))
           refine hK.out _ _ ?sA109 (fun hA109 => ?tA109)
           case sA109 => ((try dsimp only); (first | (with_reducible exact hHeld) | exact hk | exact hk.drew))
           replace hHeld := hA109; clear hK hA109
           refine tkA (i := 3) (v := ?vA111) rfl (.inl ⟨by kernel_rfl, ?yA111⟩) (by assumption) ?rA111
           case yA111 => (intro w hSw; first | (go_simp; done) | (go_simp; with_reducible rfl))
           refine wpAnyH_ready (rs := [4, 12]) (by kernel_rfl) (by simp) (.cons rfl (fun K hK => ?hcA112) (.cons rfl (fun K hK => ?hcA113) .nil))
           case' hcA112 =>
            go_simp
            refine hK.out _ _ ?sA112 (fun hA112 => ?tA112)
            case sA112 => ((try dsimp only); (first | (with_reducible exact hHeld) | exact hk | exact hk.drew))
            replace hHeld := hA112; clear hK hA112
            refine wpAnyH_ready (rs := [12]) (by kernel_rfl) (by simp) (.cons rfl (fun K hK => ?hcA114) .nil)
            go_simp
            (go_at_call 52; refine (HT.out _ _ hHeld).mono ?_; rintro e wu ⟨⟨zu, rfl, _, _, _⟩, hrt⟩; have hk := MkR.trans hHeld hrt; (first | (have hLX20 := hrt.box hLX20 hg20) | skip); (first | (have hLX9 := hrt.box hLX9 hg9) | skip); (first | (have hget := lit_get (p := fun v => ∃ n : Int, v = .int .i64 n) hLX20 (by simp) (z := zn) (by simp <;> omega); obtain ⟨v, hcL, x24, rfl⟩ := hget) | skip); (first | (obtain ⟨z0, z1, z2, z3⟩ := box4_cells hLX9; have f0 := box_frozen hLX9 0; have f1 := box_frozen hLX9 1; have f2 := box_frozen hLX9 2; have f3 := box_frozen hLX9 3) | skip); (try dsimp only))
            refine hK.out _ _ ?sA114 (fun hA114 => ?tA114)
            case sA114 => ((try dsimp only); (first | (with_reducible exact hHeld) | exact hk | exact hk.drew))
            replace hHeld := hA114; clear hK hA114
            refine tkA (i := 13) (v := ?vA115) rfl (.inl ⟨by kernel_rfl, ?yA115⟩) (by assumption) ?rA115
            case yA115 => (intro w hSw; first | (go_simp; done) | (go_simp; with_reducible rfl))
            refine tkA (i := 15) (v := ?vA116) rfl (.inl ⟨by kernel_rfl, ?yA116⟩) (by assumption) ?rA116
            case yA116 => (intro w hSw; first | (go_simp; done) | (go_simp; with_reducible rfl))
            refine tkA (i := 16) (v := ?vA117) rfl (.inl ⟨by kernel_rfl, ?yA117⟩) (by assumption) ?rA117
            case yA117 => (intro w hSw; first | (go_simp; done) | (go_simp; with_reducible rfl))
            refine wpAnyH_cast (by kernel_rfl) (by kernel_rfl) (hJA _ _ ?_)
            (exact ⟨rfl, rfl, by kernel_rfl, by kernel_rfl, by kernel_rfl, by kernel_rfl, ⟨_, _, rfl⟩, hHeld, _, rfl, hg9, hg9s, hLX9⟩)
           case' hcA113 =>
            go_simp
            (go_at_call 52; refine (HT.out _ _ hHeld).mono ?_; rintro e wu ⟨⟨zu, rfl, _, _, _⟩, hrt⟩; have hk := MkR.trans hHeld hrt; (first | (have hLX20 := hrt.box hLX20 hg20) | skip); (first | (have hLX9 := hrt.box hLX9 hg9) | skip); (first | (have hget := lit_get (p := fun v => ∃ n : Int, v = .int .i64 n) hLX20 (by simp) (z := zn) (by simp <;> omega); obtain ⟨v, hcL, x24, rfl⟩ := hget) | skip); (first | (obtain ⟨z0, z1, z2, z3⟩ := box4_cells hLX9; have f0 := box_frozen hLX9 0; have f1 := box_frozen hLX9 1; have f2 := box_frozen hLX9 2; have f3 := box_frozen hLX9 3) | skip); (try dsimp only))
            refine hK.out _ _ ?sA113 (fun hA113 => ?tA113)
            case sA113 => ((try dsimp only); (first | (with_reducible exact hHeld) | exact hk | exact hk.drew))
            replace hHeld := hA113; clear hK hA113
            refine tkA (i := 13) (v := ?vA118) rfl (.inl ⟨by kernel_rfl, ?yA118⟩) (by assumption) ?rA118
            case yA118 => (intro w hSw; first | (go_simp; done) | (go_simp; with_reducible rfl))
            refine tkA (i := 15) (v := ?vA119) rfl (.inl ⟨by kernel_rfl, ?yA119⟩) (by assumption) ?rA119
            case yA119 => (intro w hSw; first | (go_simp; done) | (go_simp; with_reducible rfl))
            refine wpAnyH_ready (rs := [4]) (by kernel_rfl) (by simp) (.cons rfl (fun K hK => ?hcA120) .nil)
            go_simp
            refine hK.out _ _ ?sA120 (fun hA120 => ?tA120)
            case sA120 => ((try dsimp only); (first | (with_reducible exact hHeld) | exact hk | exact hk.drew))
            replace hHeld := hA120; clear hK hA120
            refine tkA (i := 16) (v := ?vA121) rfl (.inl ⟨by kernel_rfl, ?yA121⟩) (by assumption) ?rA121
            case yA121 => (intro w hSw; first | (go_simp; done) | (go_simp; with_reducible rfl))
            refine wpAnyH_cast (by kernel_rfl) (by kernel_rfl) (hJA _ _ ?_)
            (exact ⟨rfl, rfl, by kernel_rfl, by kernel_rfl, by kernel_rfl, by kernel_rfl, ⟨_, _, rfl⟩, hHeld, _, rfl, hg9, hg9s, hLX9⟩)
          case' hcA110 =>
           go_simp
           (go_at_call 52; refine (HT.out _ _ hHeld).mono ?_; rintro e wu ⟨⟨zu, rfl, _, _, _⟩, hrt⟩; have hk := MkR.trans hHeld hrt; (first | (have hLX20 := hrt.box hLX20 hg20) | skip); (first | (have hLX9 := hrt.box hLX9 hg9) | skip); (first | (have hget := lit_get (p := fun v => ∃ n : Int, v = .int .i64 n) hLX20 (by simp) (z := zn) (by simp <;> omega); obtain ⟨v, hcL, x24, rfl⟩ := hget) | skip); (first | (obtain ⟨z0, z1, z2, z3⟩ := box4_cells hLX9; have f0 := box_frozen hLX9 0; have f1 := box_frozen hLX9 1; have f2 := box_frozen hLX9 2; have f3 := box_frozen hLX9 3) | skip); (try dsimp only))
           refine hK.out _ _ ?sA110 (fun hA110 => ?tA110)
           case sA110 => ((try dsimp only); (first | (with_reducible exact hHeld) | exact hk | exact hk.drew))
           replace hHeld := hA110; clear hK hA110
           refine tkA (i := 13) (v := ?vA122) rfl (.inl ⟨by kernel_rfl, ?yA122⟩) (by assumption) ?rA122
           case yA122 => (intro w hSw; first | (go_simp; done) | (go_simp; with_reducible rfl))
           refine tkA (i := 15) (v := ?vA123) rfl (.inl ⟨by kernel_rfl, ?yA123⟩) (by assumption) ?rA123
           case yA123 => (intro w hSw; first | (go_simp; done) | (go_simp; with_reducible rfl))
           refine wpAnyH_ready (rs := [0]) (by kernel_rfl) (by simp) (.cons rfl (fun K hK => ?hcA124) .nil)
           go_simp
           (have hg20 := Nat.ne_of_gt (Nat.lt_of_lt_of_le hPX (MkR.size hHeld)); (first | refine intro_alloc (fun XL20 hBX hLX20 => ?_) | refine intro_alloc_drew (fun XL20 hBX hLX20 => ?_)); have hk := mkr_alloc (by first | exact hHeld | exact undrew_mkr hHeld) hBX; (first | (have hLX9 := below_push hBX hLX9) | skip); (first | (have hget := lit_get (p := fun v => ∃ n : Int, v = .int .i64 n) hLX20 (by simp) (z := zn) (by simp <;> omega); obtain ⟨v, hcL, x24, rfl⟩ := hget) | skip); (first | (obtain ⟨z0, z1, z2, z3⟩ := box4_cells hLX9; have f0 := box_frozen hLX9 0; have f1 := box_frozen hLX9 1; have f2 := box_frozen hLX9 2; have f3 := box_frozen hLX9 3) | skip); (try dsimp only))
           refine hK.out _ _ ?sA124 (fun hA124 => ?tA124)
           case sA124 => ((try dsimp only); (first | (with_reducible exact hHeld) | exact hk | exact hk.drew))
           replace hHeld := hA124; clear hK hA124
           refine tkA (i := 3) (v := ?vA125) rfl (.inl ⟨by kernel_rfl, ?yA125⟩) (by assumption) ?rA125
           case yA125 => (intro w hSw; first | (go_simp; done) | (go_simp; with_reducible rfl))
           refine wpAnyH_ready (rs := [4]) (by kernel_rfl) (by simp) (.cons rfl (fun K hK => ?hcA126) .nil)
           go_simp
           refine hK.out _ _ ?sA126 (fun hA126 => ?tA126)
           case sA126 => ((try dsimp only); (first | (with_reducible exact hHeld) | exact hk | exact hk.drew))
           replace hHeld := hA126; clear hK hA126
           refine tkA (i := 16) (v := ?vA127) rfl (.inl ⟨by kernel_rfl, ?yA127⟩) (by assumption) ?rA127
           case yA127 => (intro w hSw; first | (go_simp; done) | (go_simp; with_reducible rfl))
           refine wpAnyH_cast (by kernel_rfl) (by kernel_rfl) (hJA _ _ ?_)
           (exact ⟨rfl, rfl, by kernel_rfl, by kernel_rfl, by kernel_rfl, by kernel_rfl, ⟨_, _, rfl⟩, hHeld, _, rfl, hg9, hg9s, hLX9⟩)
        case' hcA12 =>
         go_simp
         (have hg9 := Nat.ne_of_gt (Nat.lt_of_lt_of_le hPX (MkR.size hHeld)); have hg9s := MkR.size hHeld; (first | refine intro_alloc (fun X9 hBX hLX9 => ?_) | refine intro_alloc_drew (fun X9 hBX hLX9 => ?_)); have hk := mkr_alloc (by first | exact hHeld | exact undrew_mkr hHeld) hBX; (first | (have hLX20 := below_push hBX hLX20) | skip); (first | (have hget := lit_get (p := fun v => ∃ n : Int, v = .int .i64 n) hLX20 (by simp) (z := zn) (by simp <;> omega); obtain ⟨v, hcL, x24, rfl⟩ := hget) | skip); (first | (obtain ⟨z0, z1, z2, z3⟩ := box4_cells hLX9; have f0 := box_frozen hLX9 0; have f1 := box_frozen hLX9 1; have f2 := box_frozen hLX9 2; have f3 := box_frozen hLX9 3) | skip); (try dsimp only))
         refine hK.out _ _ ?sA12 (fun hA12 => ?tA12)
         case sA12 => ((try dsimp only); (first | (with_reducible exact hHeld) | exact hk | exact hk.drew))
         replace hHeld := hA12; clear hK hA12
         refine wpAnyH_ready (rs := [0, 2]) (by kernel_rfl) (by simp) (.cons rfl (fun K hK => ?hcA128) (.cons rfl (fun K hK => ?hcA129) .nil))
         case' hcA128 =>
          go_simp
          (have hg20 := Nat.ne_of_gt (Nat.lt_of_lt_of_le hPX (MkR.size hHeld)); (first | refine intro_alloc (fun XL20 hBX hLX20 => ?_) | refine intro_alloc_drew (fun XL20 hBX hLX20 => ?_)); have hk := mkr_alloc (by first | exact hHeld | exact undrew_mkr hHeld) hBX; (first | (have hLX9 := below_push hBX hLX9) | skip); (first | (have hget := lit_get (p := fun v => ∃ n : Int, v = .int .i64 n) hLX20 (by simp) (z := zn) (by simp <;> omega); obtain ⟨v, hcL, x24, rfl⟩ := hget) | skip); (first | (obtain ⟨z0, z1, z2, z3⟩ := box4_cells hLX9; have f0 := box_frozen hLX9 0; have f1 := box_frozen hLX9 1; have f2 := box_frozen hLX9 2; have f3 := box_frozen hLX9 3) | skip); (try dsimp only))
          refine hK.out _ _ ?sA128 (fun hA128 => ?tA128)
          case sA128 => ((try dsimp only); (first | (with_reducible exact hHeld) | exact hk | exact hk.drew))
          replace hHeld := hA128; clear hK hA128
          refine wpAnyH_ready (rs := [2]) (by kernel_rfl) (by simp) (.cons rfl (fun K hK => ?hcA130) .nil)
          go_simp
          (go_at_call 52; refine (HT.out _ _ hHeld).mono ?_; rintro e wt ⟨⟨zt, rfl, hz0, hz1, _⟩, hrt⟩; obtain ⟨zn, rfl⟩ : ∃ zn : Nat, zt = (zn : Int) := ⟨zt.toNat, by omega⟩; have hz2 : (zn : Int) < 2 := hz1 (by decide); have hk := MkR.trans hHeld hrt; (first | (have hLX20 := hrt.box hLX20 hg20) | skip); (first | (have hLX9 := hrt.box hLX9 hg9) | skip); (first | (have hget := lit_get (p := fun v => ∃ n : Int, v = .int .i64 n) hLX20 (by simp) (z := zn) (by simp <;> omega); obtain ⟨v, hcL, x24, rfl⟩ := hget) | skip); (first | (obtain ⟨z0, z1, z2, z3⟩ := box4_cells hLX9; have f0 := box_frozen hLX9 0; have f1 := box_frozen hLX9 1; have f2 := box_frozen hLX9 2; have f3 := box_frozen hLX9 3) | skip); (try dsimp only))
          refine hK.out _ _ ?sA130 (fun hA130 => ?tA130)
          case sA130 => ((try dsimp only); (first | (with_reducible exact hHeld) | exact hk | exact hk.drew))
          replace hHeld := hA130; clear hK hA130
          refine tkA (i := 3) (v := ?vA131) rfl (.inl ⟨by kernel_rfl, ?yA131⟩) (by assumption) ?rA131
          case yA131 => (intro w hSw; first | (go_simp; done) | (go_simp; with_reducible rfl))
          refine wpAnyH_ready (rs := [4, 12]) (by kernel_rfl) (by simp) (.cons rfl (fun K hK => ?hcA132) (.cons rfl (fun K hK => ?hcA133) .nil))
          case' hcA132 =>
           go_simp
           refine hK.out _ _ ?sA132 (fun hA132 => ?tA132)
           case sA132 => ((try dsimp only); (first | (with_reducible exact hHeld) | exact hk | exact hk.drew))
           replace hHeld := hA132; clear hK hA132
           refine wpAnyH_ready (rs := [12]) (by kernel_rfl) (by simp) (.cons rfl (fun K hK => ?hcA134) .nil)
           go_simp
           (go_at_call 52; refine (HT.out _ _ hHeld).mono ?_; rintro e wu ⟨⟨zu, rfl, _, _, _⟩, hrt⟩; have hk := MkR.trans hHeld hrt; (first | (have hLX20 := hrt.box hLX20 hg20) | skip); (first | (have hLX9 := hrt.box hLX9 hg9) | skip); (first | (have hget := lit_get (p := fun v => ∃ n : Int, v = .int .i64 n) hLX20 (by simp) (z := zn) (by simp <;> omega); obtain ⟨v, hcL, x24, rfl⟩ := hget) | skip); (first | (obtain ⟨z0, z1, z2, z3⟩ := box4_cells hLX9; have f0 := box_frozen hLX9 0; have f1 := box_frozen hLX9 1; have f2 := box_frozen hLX9 2; have f3 := box_frozen hLX9 3) | skip); (try dsimp only))
           refine hK.out _ _ ?sA134 (fun hA134 => ?tA134)
           case sA134 => ((try dsimp only); (first | (with_reducible exact hHeld) | exact hk | exact hk.drew))
           replace hHeld := hA134; clear hK hA134
           refine tkA (i := 13) (v := ?vA135) rfl (.inl ⟨by kernel_rfl, ?yA135⟩) (by assumption) ?rA135
           case yA135 => (intro w hSw; first | (go_simp; done) | (go_simp; with_reducible rfl))
           refine tkA (i := 15) (v := ?vA136) rfl (.inl ⟨by kernel_rfl, ?yA136⟩) (by assumption) ?rA136
           case yA136 => (intro w hSw; first | (go_simp; done) | (go_simp; with_reducible rfl))
           refine tkA (i := 16) (v := ?vA137) rfl (.inl ⟨by kernel_rfl, ?yA137⟩) (by assumption) ?rA137
           case yA137 => (intro w hSw; first | (go_simp; done) | (go_simp; with_reducible rfl))
           refine wpAnyH_cast (by kernel_rfl) (by kernel_rfl) (hJA _ _ ?_)
           (exact ⟨rfl, rfl, by kernel_rfl, by kernel_rfl, by kernel_rfl, by kernel_rfl, ⟨_, _, rfl⟩, hHeld, _, rfl, hg9, hg9s, hLX9⟩)
          case' hcA133 =>
           go_simp
           (go_at_call 52; refine (HT.out _ _ hHeld).mono ?_; rintro e wu ⟨⟨zu, rfl, _, _, _⟩, hrt⟩; have hk := MkR.trans hHeld hrt; (first | (have hLX20 := hrt.box hLX20 hg20) | skip); (first | (have hLX9 := hrt.box hLX9 hg9) | skip); (first | (have hget := lit_get (p := fun v => ∃ n : Int, v = .int .i64 n) hLX20 (by simp) (z := zn) (by simp <;> omega); obtain ⟨v, hcL, x24, rfl⟩ := hget) | skip); (first | (obtain ⟨z0, z1, z2, z3⟩ := box4_cells hLX9; have f0 := box_frozen hLX9 0; have f1 := box_frozen hLX9 1; have f2 := box_frozen hLX9 2; have f3 := box_frozen hLX9 3) | skip); (try dsimp only))
           refine hK.out _ _ ?sA133 (fun hA133 => ?tA133)
           case sA133 => ((try dsimp only); (first | (with_reducible exact hHeld) | exact hk | exact hk.drew))
           replace hHeld := hA133; clear hK hA133
           refine tkA (i := 13) (v := ?vA138) rfl (.inl ⟨by kernel_rfl, ?yA138⟩) (by assumption) ?rA138
           case yA138 => (intro w hSw; first | (go_simp; done) | (go_simp; with_reducible rfl))
           refine tkA (i := 15) (v := ?vA139) rfl (.inl ⟨by kernel_rfl, ?yA139⟩) (by assumption) ?rA139
           case yA139 => (intro w hSw; first | (go_simp; done) | (go_simp; with_reducible rfl))
           refine wpAnyH_ready (rs := [4]) (by kernel_rfl) (by simp) (.cons rfl (fun K hK => ?hcA140) .nil)
           go_simp
           refine hK.out _ _ ?sA140 (fun hA140 => ?tA140)
           case sA140 => ((try dsimp only); (first | (with_reducible exact hHeld) | exact hk | exact hk.drew))
           replace hHeld := hA140; clear hK hA140
           refine tkA (i := 16) (v := ?vA141) rfl (.inl ⟨by kernel_rfl, ?yA141⟩) (by assumption) ?rA141
           case yA141 => (intro w hSw; first | (go_simp; done) | (go_simp; with_reducible rfl))
           refine wpAnyH_cast (by kernel_rfl) (by kernel_rfl) (hJA _ _ ?_)
           (exact ⟨rfl, rfl, by kernel_rfl, by kernel_rfl, by kernel_rfl, by kernel_rfl, ⟨_, _, rfl⟩, hHeld, _, rfl, hg9, hg9s, hLX9⟩)
         case' hcA129 =>
          go_simp
          (go_at_call 52; refine (HT.out _ _ hHeld).mono ?_; rintro e wt ⟨⟨zt, rfl, hz0, hz1, _⟩, hrt⟩; obtain ⟨zn, rfl⟩ : ∃ zn : Nat, zt = (zn : Int) := ⟨zt.toNat, by omega⟩; have hz2 : (zn : Int) < 2 := hz1 (by decide); have hk := MkR.trans hHeld hrt; (first | (have hLX20 := hrt.box hLX20 hg20) | skip); (first | (have hLX9 := hrt.box hLX9 hg9) | skip); (first | (have hget := lit_get (p := fun v => ∃ n : Int, v = .int .i64 n) hLX20 (by simp) (z := zn) (by simp <;> omega); obtain ⟨v, hcL, x24, rfl⟩ := hget) | skip); (first | (obtain ⟨z0, z1, z2, z3⟩ := box4_cells hLX9; have f0 := box_frozen hLX9 0; have f1 := box_frozen hLX9 1; have f2 := box_frozen hLX9 2; have f3 := box_frozen hLX9 3) | skip); (try dsimp only))
          refine hK.out _ _ ?sA129 (fun hA129 => ?tA129)
          case sA129 => ((try dsimp only); (first | (with_reducible exact hHeld) | exact hk | exact hk.drew))
          replace hHeld := hA129; clear hK hA129
          refine wpAnyH_ready (rs := [0, 12]) (by kernel_rfl) (by simp) (.cons rfl (fun K hK => ?hcA142) (.cons rfl (fun K hK => ?hcA143) .nil))
          case' hcA142 =>
           go_simp
           (have hg20 := Nat.ne_of_gt (Nat.lt_of_lt_of_le hPX (MkR.size hHeld)); (first | refine intro_alloc (fun XL20 hBX hLX20 => ?_) | refine intro_alloc_drew (fun XL20 hBX hLX20 => ?_)); have hk := mkr_alloc (by first | exact hHeld | exact undrew_mkr hHeld) hBX; (first | (have hLX9 := below_push hBX hLX9) | skip); (first | (have hget := lit_get (p := fun v => ∃ n : Int, v = .int .i64 n) hLX20 (by simp) (z := zn) (by simp <;> omega); obtain ⟨v, hcL, x24, rfl⟩ := hget) | skip); (first | (obtain ⟨z0, z1, z2, z3⟩ := box4_cells hLX9; have f0 := box_frozen hLX9 0; have f1 := box_frozen hLX9 1; have f2 := box_frozen hLX9 2; have f3 := box_frozen hLX9 3) | skip); (try dsimp only))
           refine hK.out _ _ ?sA142 (fun hA142 => ?tA142)
           case sA142 => ((try dsimp only); (first | (with_reducible exact hHeld) | exact hk | exact hk.drew))
           replace hHeld := hA142; clear hK hA142
           refine tkA (i := 3) (v := ?vA144) rfl (.inl ⟨by kernel_rfl, ?yA144⟩) (by assumption) ?rA144
           case yA144 => (intro w hSw; first | (go_simp; done) | (go_simp; with_reducible rfl))
           refine wpAnyH_ready (rs := [4, 12]) (by kernel_rfl) (by simp) (.cons rfl (fun K hK => ?hcA145) (.cons rfl (fun K hK => ?hcA146) .nil))
           case' hcA145 =>
            go_simp
            refine hK.out _ _ ?sA145 (fun hA145 => ?tA145)
            case sA145 => ((try dsimp only); (first | (with_reducible exact hHeld) | exact hk | exact hk.drew))
            replace hHeld := hA145; clear hK hA145
            refine wpAnyH_ready (rs := [12]) (by kernel_rfl) (by simp) (.cons rfl (fun K hK => ?hcA147) .nil)
            go_simp
            (go_at_call 52; refine (HT.out _ _ hHeld).mono ?_; rintro e wu ⟨⟨zu, rfl, _, _, _⟩, hrt⟩; have hk := MkR.trans hHeld hrt; (first | (have hLX20 := hrt.box hLX20 hg20) | skip); (first | (have hLX9 := hrt.box hLX9 hg9) | skip); (first | (have hget := lit_get (p := fun v => ∃ n : Int, v = .int .i64 n) hLX20 (by simp) (z := zn) (by simp <;> omega); obtain ⟨v, hcL, x24, rfl⟩ := hget) | skip); (first | (obtain ⟨z0, z1, z2, z3⟩ := box4_cells hLX9; have f0 := box_frozen hLX9 0; have f1 := box_frozen hLX9 1; have f2 := box_frozen hLX9 2; have f3 := box_frozen hLX9 3) | skip); (try dsimp only))
            refine hK.out _ _ ?sA147 (fun hA147 => ?tA147)
            case sA147 => ((try dsimp only); (first | (with_reducible exact hHeld) | exact hk | exact hk.drew))
            replace hHeld := hA147; clear hK hA147
            refine tkA (i := 13) (v := ?vA148) rfl (.inl ⟨by kernel_rfl, ?yA148⟩) (by assumption) ?rA148
            case yA148 => (intro w hSw; first | (go_simp; done) | (go_simp; with_reducible rfl))
            refine tkA (i := 15) (v := ?vA149) rfl (.inl ⟨by kernel_rfl, ?yA149⟩) (by assumption) ?rA149
            case yA149 => (intro w hSw; first | (go_simp; done) | (go_simp; with_reducible rfl))
            refine tkA (i := 16) (v := ?vA150) rfl (.inl ⟨by kernel_rfl, ?yA150⟩) (by assumption) ?rA150
            case yA150 => (intro w hSw; first | (go_simp; done) | (go_simp; with_reducible rfl))
            refine wpAnyH_cast (by kernel_rfl) (by kernel_rfl) (hJA _ _ ?_)
            (exact ⟨rfl, rfl, by kernel_rfl, by kernel_rfl, by kernel_rfl, by kernel_rfl, ⟨_, _, rfl⟩, hHeld, _, rfl, hg9, hg9s, hLX9⟩)
           case' hcA146 =>
            go_simp
            (go_at_call 52; refine (HT.out _ _ hHeld).mono ?_; rintro e wu ⟨⟨zu, rfl, _, _, _⟩, hrt⟩; have hk := MkR.trans hHeld hrt; (first | (have hLX20 := hrt.box hLX20 hg20) | skip); (first | (have hLX9 := hrt.box hLX9 hg9) | skip); (first | (have hget := lit_get (p := fun v => ∃ n : Int, v = .int .i64 n) hLX20 (by simp) (z := zn) (by simp <;> omega); obtain ⟨v, hcL, x24, rfl⟩ := hget) | skip); (first | (obtain ⟨z0, z1, z2, z3⟩ := box4_cells hLX9; have f0 := box_frozen hLX9 0; have f1 := box_frozen hLX9 1; have f2 := box_frozen hLX9 2; have f3 := box_frozen hLX9 3) | skip); (try dsimp only))
            refine hK.out _ _ ?sA146 (fun hA146 => ?tA146)
            case sA146 => ((try dsimp only); (first | (with_reducible exact hHeld) | exact hk | exact hk.drew))
            replace hHeld := hA146; clear hK hA146
            refine tkA (i := 13) (v := ?vA151) rfl (.inl ⟨by kernel_rfl, ?yA151⟩) (by assumption) ?rA151
            case yA151 => (intro w hSw; first | (go_simp; done) | (go_simp; with_reducible rfl))
            refine tkA (i := 15) (v := ?vA152) rfl (.inl ⟨by kernel_rfl, ?yA152⟩) (by assumption) ?rA152
            case yA152 => (intro w hSw; first | (go_simp; done) | (go_simp; with_reducible rfl))
            refine wpAnyH_ready (rs := [4]) (by kernel_rfl) (by simp) (.cons rfl (fun K hK => ?hcA153) .nil)
            go_simp
            refine hK.out _ _ ?sA153 (fun hA153 => ?tA153)
            case sA153 => ((try dsimp only); (first | (with_reducible exact hHeld) | exact hk | exact hk.drew))
            replace hHeld := hA153; clear hK hA153
            refine tkA (i := 16) (v := ?vA154) rfl (.inl ⟨by kernel_rfl, ?yA154⟩) (by assumption) ?rA154
            case yA154 => (intro w hSw; first | (go_simp; done) | (go_simp; with_reducible rfl))
            refine wpAnyH_cast (by kernel_rfl) (by kernel_rfl) (hJA _ _ ?_)
            (exact ⟨rfl, rfl, by kernel_rfl, by kernel_rfl, by kernel_rfl, by kernel_rfl, ⟨_, _, rfl⟩, hHeld, _, rfl, hg9, hg9s, hLX9⟩)
          case' hcA143 =>
           go_simp
           (go_at_call 52; refine (HT.out _ _ hHeld).mono ?_; rintro e wu ⟨⟨zu, rfl, _, _, _⟩, hrt⟩; have hk := MkR.trans hHeld hrt; (first | (have hLX20 := hrt.box hLX20 hg20) | skip); (first | (have hLX9 := hrt.box hLX9 hg9) | skip); (first | (have hget := lit_get (p := fun v => ∃ n : Int, v = .int .i64 n) hLX20 (by simp) (z := zn) (by simp <;> omega); obtain ⟨v, hcL, x24, rfl⟩ := hget) | skip); (first | (obtain ⟨z0, z1, z2, z3⟩ := box4_cells hLX9; have f0 := box_frozen hLX9 0; have f1 := box_frozen hLX9 1; have f2 := box_frozen hLX9 2; have f3 := box_frozen hLX9 3) | skip); (try dsimp only))
           refine hK.out _ _ ?sA143 (fun hA143 => ?tA143)
           case sA143 => ((try dsimp only); (first | (with_reducible exact hHeld) | exact hk | exact hk.drew))
           replace hHeld := hA143; clear hK hA143
           refine tkA (i := 13) (v := ?vA155) rfl (.inl ⟨by kernel_rfl, ?yA155⟩) (by assumption) ?rA155
           case yA155 => (intro w hSw; first | (go_simp; done) | (go_simp; with_reducible rfl))
           refine tkA (i := 15) (v := ?vA156) rfl (.inl ⟨by kernel_rfl, ?yA156⟩) (by assumption) ?rA156
           case yA156 => (intro w hSw; first | (go_simp; done) | (go_simp; with_reducible rfl))
           refine wpAnyH_ready (rs := [0]) (by kernel_rfl) (by simp) (.cons rfl (fun K hK => ?hcA157) .nil)
           go_simp
           (have hg20 := Nat.ne_of_gt (Nat.lt_of_lt_of_le hPX (MkR.size hHeld)); (first | refine intro_alloc (fun XL20 hBX hLX20 => ?_) | refine intro_alloc_drew (fun XL20 hBX hLX20 => ?_)); have hk := mkr_alloc (by first | exact hHeld | exact undrew_mkr hHeld) hBX; (first | (have hLX9 := below_push hBX hLX9) | skip); (first | (have hget := lit_get (p := fun v => ∃ n : Int, v = .int .i64 n) hLX20 (by simp) (z := zn) (by simp <;> omega); obtain ⟨v, hcL, x24, rfl⟩ := hget) | skip); (first | (obtain ⟨z0, z1, z2, z3⟩ := box4_cells hLX9; have f0 := box_frozen hLX9 0; have f1 := box_frozen hLX9 1; have f2 := box_frozen hLX9 2; have f3 := box_frozen hLX9 3) | skip); (try dsimp only))
           refine hK.out _ _ ?sA157 (fun hA157 => ?tA157)
           case sA157 => ((try dsimp only); (first | (with_reducible exact hHeld) | exact hk | exact hk.drew))
           replace hHeld := hA157; clear hK hA157
           refine tkA (i := 3) (v := ?vA158) rfl (.inl ⟨by kernel_rfl, ?yA158⟩) (by assumption) ?rA158
           case yA158 => (intro w hSw; first | (go_simp; done) | (go_simp; with_reducible rfl))
           refine wpAnyH_ready (rs := [4]) (by kernel_rfl) (by simp) (.cons rfl (fun K hK => ?hcA159) .nil)
           go_simp
           refine hK.out _ _ ?sA159 (fun hA159 => ?tA159)
           case sA159 => ((try dsimp only); (first | (with_reducible exact hHeld) | exact hk | exact hk.drew))
           replace hHeld := hA159; clear hK hA159
           refine tkA (i := 16) (v := ?vA160) rfl (.inl ⟨by kernel_rfl, ?yA160⟩) (by assumption) ?rA160
           case yA160 => (intro w hSw; first | (go_simp; done) | (go_simp; with_reducible rfl))
           refine wpAnyH_cast (by kernel_rfl) (by kernel_rfl) (hJA _ _ ?_)
           (exact ⟨rfl, rfl, by kernel_rfl, by kernel_rfl, by kernel_rfl, by kernel_rfl, ⟨_, _, rfl⟩, hHeld, _, rfl, hg9, hg9s, hLX9⟩)
      case' postA =>
        (rintro ⟨tm1, ds1⟩ W ⟨h113, hds, e0, e2, e6, e8, ⟨x24, x35, e36⟩, hHeld, B9, e9, hg9, hg9s, hLX9⟩; simp only at h113 hds e0 e2 e6 e8 e36 e9; subst hds; rw [frame113 tm1 [] h113, e0, e2, e6, e8, e9, e36]; clear h113 e0 e2 e6 e8 e9 e36; have hk := hHeld; obtain ⟨z0, z1, z2, z3⟩ := box4_cells hLX9; have f0 := box_frozen hLX9 0; have f1 := box_frozen hLX9 1; have f2 := box_frozen hLX9 2; have f3 := box_frozen hLX9 3)
        refine wpAnyH_ready (rs := [18]) (by kernel_rfl) (by simp) (.cons rfl (fun K hK => ?hcA161) .nil)
        go_simp
        refine hK.out _ _ ?sA161 (fun hA161 => ?tA161)
        case sA161 => ((try dsimp only); (first | (with_reducible exact hHeld) | exact hk | exact hk.drew | exact (((hk.set HMX.out hg9s).set HMX.out hg9s).set HMX.out hg9s).set HMX.out hg9s | exact ((((hk.set HMX.out hg9s).set HMX.out hg9s).set HMX.out hg9s).set HMX.out hg9s).drew))
        replace hHeld := hA161; clear hK hA161
        refine wpAnyH_done (by kernel_rfl) ?_ _
        clear hHeld
        refine NoPanic.normal ?_
      all_goals
        (try dsimp only [Exit.inBlock, Exit.then])
        refine hMK _ _ ⟨rfl, rfl, by kernel_rfl, by kernel_rfl, by kernel_rfl, ⟨s, by kernel_rfl⟩, by first | exact ((((hk.set HMX.out hg9s).set HMX.out hg9s).set HMX.out hg9s).set HMX.out hg9s).drew | exact (((hk.set HMX.out hg9s).set HMX.out hg9s).set HMX.out hg9s).set HMX.out hg9s, _, _, _, _, _, by kernel_rfl, hg9, heap_set (heap_set (heap_set (heap_set hLX9 0 _) 1 _) 2 _) 3 _⟩
    clear hr1 hrr
    rintro ⟨tm1, ds1⟩ W ⟨h113, hds, e0, e2, e6, ⟨s8, e8⟩, hrW, B9, x0, x1, x2, x3, e9, hB9, hq9⟩
    simp only at h113 hds e0 e2 e6 e8 e9
    subst hds
    apply_assumption
    rw [frame113 tm1 [] h113, e0, e2, e6, e8, e9]
    clear h113 e0 e2 e6 e8 e9 c0 c7 c10 c11 c12
    go_upto_region 5 with (fail)
    have hDec : ∀ z : Int, (z == 0) = true ∨ (z == 0) = false := fun z => by cases (z == 0) <;> simp
    by_cases hs8 : 0 < s8
    all_goals
      go_upto_if 43 with (first
        | (go_at_call 52; refine (HT.out _ _ hrW).mono ?_; rintro e w5 ⟨⟨z5, rfl, _, _, _⟩, hr5⟩; have hq9 := hr5.box hq9 hB9; have hr5 := MkR.trans hrW hr5; clear hrW; rcases hDec z5 with hz5 | hz5)
        | fail)
      all_goals
        obtain ⟨q0, q1, q2, q3⟩ := box4_cells hq9
        obtain ⟨⟨z0, z1, z2, z3⟩, hfz⟩ := HZ.out _ hr5
        have f0 := hfz 0
        have f1 := hfz 1
        have f2 := hfz 2
        have f3 := hfz 3
        have HR := hidep hr5
        clear hr5 hfz hDec hq9
        go_wp2
        refine bodyPost_ret (results_cell1 rfl _ _ _ rfl (load_fact _ B6 _ _ _ _ (box4_cells (HO.out _ HR.out _ _ _ _).1).1 (box4_cells (HO.out _ HR.out _ _ _ _).1).2.1 (box4_cells (HO.out _ HR.out _ _ _ _).1).2.2.1 (box4_cells (HO.out _ HR.out _ _ _ _).1).2.2.2)) rfl ?_
        exact ⟨⟨_, _, _, _, rfl⟩, (HO.out _ HR.out _ _ _ _).2⟩
  · have b4 : (k == 4) = false := beq_false_of_ne k4
    clear k4
    by_cases k3 : k = 3
    · have b3 : (k == 3) = true := by simp [k3]
      have b5 : (k == 5) = false := by simp [k3]
      have b6 : (k == 6) = false := by simp [k3]
      have hf3 := HF.out.2.1 k3
      clear k3
      go_upto_if 55 with (first
        | (go_at_call 52; refine (HT.out _ _ hrr).mono ?_; rintro e w5 ⟨⟨z5, rfl, _, _, _⟩, hr5⟩; have hr5 := MkR.trans hrr hr5)
        | fail)
      obtain ⟨c0, c7, c10, c11, c12⟩ := HC.out _ hr5
      by_cases hz : 0 < z5
      · obtain ⟨gb, rfl, hgbP, hgbw, qa, qn, qc, hq⟩ := hf3.2
        have hgn := hf3.1
        have HG := hidep (show ∀ Y, MkR P la lc l X Y → Y.cell? ⟨gb, 0, none⟩ = some (.slice qa qn qc) from fun Y hY => (HTU.out _ hY).2.cell hq hgbP)
        have hgb6 : gb ≠ B6 := by have := HBB.out; omega
        clear hq hf3
        go_upto_region 9 with (fail)
        have HTW := hidep (fun n Y (hY : MkR P la lc l w Y) => takeM_any n Y (hY.mk HM.out))
        have hq6 := HQ6.out _ hr5
        have hS0 := And.intro (HTU.out _ hr5) (And.intro c7 (HG.out _ hr5))
        clear c0 c7 c10 c11 c12 hrr hr5
        refine wp_region_noPanic (wp_region_held_drew (S := (fun Y => MkR P la lc l w Y ∧ Y.cell? ⟨B4, 7, none⟩ = some (.slice (some ⟨gb, 0, none⟩) gn gc) ∧ Y.cell? ⟨gb, 0, none⟩ = some (.slice qa qn qc))) (by kernel_rfl) ?hSB (fun hHeld => ?hRB))
        case hSB => ((try dsimp only); (first | exact hS0 | exact ⟨hS0.1.drew, hS0.2⟩))
        refine tkA (i := 0) (v := ?vB1) rfl (.inl ⟨by kernel_rfl, ?yB1⟩) (by assumption) ?rB1
        case yB1 => (intro w hSw; (try dsimp only at hSw); (obtain ⟨u0, u1, u2⟩ := hSw); first | (go_simp; done) | (go_simp; with_reducible rfl))
        refine tkA (i := 1) (v := ?vB2) rfl (.inl ⟨by kernel_rfl, ?yB2⟩) (by assumption) ?rB2
        case yB2 => (intro w hSw; (try dsimp only at hSw); (obtain ⟨u0, u1, u2⟩ := hSw); first | (go_simp; done) | (go_simp; with_reducible rfl))
        refine tkA (i := 2) (v := ?vB3) rfl (.inl ⟨by kernel_rfl, ?yB3⟩) (by assumption) ?rB3
        case yB3 => (intro w hSw; (try dsimp only at hSw); (obtain ⟨u0, u1, u2⟩ := hSw); first | (go_simp; done) | (go_simp; with_reducible rfl))
        refine tkA (i := 3) (v := ?vB4) rfl (.inl ⟨by kernel_rfl, ?yB4⟩) (by assumption) ?rB4
        case yB4 => (intro w hSw; (try dsimp only at hSw); (obtain ⟨u0, u1, u2⟩ := hSw); first | (go_simp; done) | (go_simp; with_reducible rfl))
        refine tkA (i := 4) (v := ?vB5) rfl (.inl ⟨by kernel_rfl, ?yB5⟩) (by assumption) ?rB5
        case yB5 => (intro w hSw; (try dsimp only at hSw); (obtain ⟨u0, u1, u2⟩ := hSw); first | (go_simp; done) | (go_simp; with_reducible rfl))
        refine tkA (i := 5) (v := ?vB6) rfl (.inl ⟨by kernel_rfl, ?yB6⟩) (by assumption) ?rB6
        case yB6 => (intro w hSw; (try dsimp only at hSw); (obtain ⟨u0, u1, u2⟩ := hSw); first | (go_simp; done) | (go_simp; with_reducible rfl))
        refine tkA (i := 7) (v := ?vB7) rfl (.inl ⟨by kernel_rfl, ?yB7⟩) (by assumption) ?rB7
        case yB7 => (intro w hSw; (try dsimp only at hSw); (obtain ⟨u0, u1, u2⟩ := hSw); first | (go_simp; done) | (go_simp; with_reducible rfl))
        refine tkA (i := 8) (v := ?vB8) rfl (.inl ⟨by kernel_rfl, ?yB8⟩) (by assumption) ?rB8
        case yB8 => (intro w hSw; (try dsimp only at hSw); (obtain ⟨u0, u1, u2⟩ := hSw); first | (go_simp; done) | (go_simp; with_reducible rfl))
        refine tkA (i := 9) (v := ?vB9) rfl (.inl ⟨by kernel_rfl, ?yB9⟩) (by assumption) ?rB9
        case yB9 => (intro w hSw; (try dsimp only at hSw); (obtain ⟨u0, u1, u2⟩ := hSw); first | (go_simp; done) | (go_simp; with_reducible rfl))
        refine tkA (i := 10) (v := ?vB10) rfl (.inl ⟨by kernel_rfl, ?yB10⟩) (by assumption) ?rB10
        case yB10 => (intro w hSw; (try dsimp only at hSw); (obtain ⟨u0, u1, u2⟩ := hSw); first | (go_simp; done) | (go_simp; with_reducible rfl))
        refine tkA (i := 11) (v := ?vB11) rfl (.inl ⟨by kernel_rfl, ?yB11⟩) (by assumption) ?rB11
        case yB11 => (intro w hSw; (try dsimp only at hSw); (obtain ⟨u0, u1, u2⟩ := hSw); first | (go_simp; done) | (go_simp; with_reducible rfl))
        refine tkA (i := 12) (v := ?vB12) rfl (.inl ⟨by kernel_rfl, ?yB12⟩) (by assumption) ?rB12
        case yB12 => (intro w hSw; (try dsimp only at hSw); (obtain ⟨u0, u1, u2⟩ := hSw); first | (go_simp; done) | (go_simp; with_reducible rfl))
        refine tkA (i := 13) (v := ?vB13) rfl (.inl ⟨by kernel_rfl, ?yB13⟩) (by assumption) ?rB13
        case yB13 => (intro w hSw; (try dsimp only at hSw); (obtain ⟨u0, u1, u2⟩ := hSw); first | (go_simp; done) | (go_simp; with_reducible rfl))
        refine wpAnyH_ready (rs := [6]) (by kernel_rfl) (by simp) (.cons rfl (fun K hK => ?hcB14) .nil)
        go_simp
        (go_at_call 52; refine (HTW.out _ _ hHeld.1).mono ?_; rintro e wt ⟨⟨zt, rfl, _, _, _⟩, hrt⟩; have hk := And.intro (MkR.trans hHeld.1 hrt) (And.intro (hrt.2.cell hHeld.2.1 hB4P) (hrt.2.cell hHeld.2.2 hgbP)); have hq6 := hrt.box hq6 hB6P; obtain ⟨z0, z1, z2, z3⟩ := box4_cells hq6; have f0 := box_frozen hq6 0; have f1 := box_frozen hq6 1; have f2 := box_frozen hq6 2; have f3 := box_frozen hq6 3; (try dsimp only))
        refine hK.out _ _ ?sB14 (fun hB14 => ?tB14)
        case sB14 => ((try dsimp only); (first | (with_reducible exact hHeld) | exact hk | exact ⟨hk.1.drew, hk.2⟩))
        replace hHeld := hB14; clear hK hB14
        refine wpAnyH_ready (rs := [14]) (by kernel_rfl) (by simp) (.cons rfl (fun K hK => ?hcB15) .nil)
        go_simp
        (go_at_call 52; refine (HTW.out _ _ hHeld.1).mono ?_; rintro e wt ⟨⟨zt, rfl, _, _, _⟩, hrt⟩; have hk := And.intro (MkR.trans hHeld.1 hrt) (And.intro (hrt.2.cell hHeld.2.1 hB4P) (hrt.2.cell hHeld.2.2 hgbP)); have hq6 := hrt.box hq6 hB6P; obtain ⟨z0, z1, z2, z3⟩ := box4_cells hq6; have f0 := box_frozen hq6 0; have f1 := box_frozen hq6 1; have f2 := box_frozen hq6 2; have f3 := box_frozen hq6 3; (try dsimp only))
        refine hK.out _ _ ?sB15 (fun hB15 => ?tB15)
        case sB15 => ((try dsimp only); (first | (with_reducible exact hHeld) | exact hk | exact ⟨hk.1.drew, hk.2⟩))
        replace hHeld := hB15; clear hK hB15
        refine tkA (i := 15) (v := ?vB16) rfl (.inl ⟨by kernel_rfl, ?yB16⟩) (by assumption) ?rB16
        case yB16 => (intro w hSw; (try dsimp only at hSw); (obtain ⟨u0, u1, u2⟩ := hSw); first | (go_simp; done) | (go_simp; with_reducible rfl))
        refine wpAnyH_ready (rs := [16]) (by kernel_rfl) (by simp) (.cons rfl (fun K hK => ?hcB17) .nil)
        go_simp
        refine hK.out _ _ ?sB17 (fun hB17 => ?tB17)
        case sB17 => ((try dsimp only); (first | (with_reducible exact hHeld) | exact hk | exact ⟨hk.1.drew, hk.2⟩ | exact keep4 HM.out HBB.out.2.1 hk HBB.out.2.2 hgb6 _ _ _ _ | (have h4 := keep4 HM.out HBB.out.2.1 hk HBB.out.2.2 hgb6; exact ⟨(h4 _ _ _ _).1.drew, (h4 _ _ _ _).2⟩)))
        replace hHeld := hB17; clear hK hB17
        refine wpAnyH_done (by kernel_rfl) ?_ _
        clear hHeld
        refine NoPanic.normal ?_
        all_goals
          (try dsimp only [Exit.inBlock, Exit.then])
          have hO := fun y0 y1 y2 y3 => out4 HM.out HBB.out.2.1 (y0 := y0) (y1 := y1) (y2 := y2) (y3 := y3) hq6 hk.1
          go_wp2
          refine bodyPost_ret (results_cell1 rfl _ _ _ rfl (load_fact _ B6 _ _ _ _ (box4_cells (hO _ _ _ _).1).1 (box4_cells (hO _ _ _ _).1).2.1 (box4_cells (hO _ _ _ _).1).2.2.1 (box4_cells (hO _ _ _ _).1).2.2.2)) rfl ?_
          first | exact ⟨⟨_, _, _, _, rfl⟩, (hO _ _ _ _).2.drew⟩ | exact ⟨⟨_, _, _, _, rfl⟩, (hO _ _ _ _).2⟩
      · clear hrr
        obtain ⟨⟨z0, z1, z2, z3⟩, hfz⟩ := HZ.out _ hr5
        have f0 := hfz 0
        have f1 := hfz 1
        have f2 := hfz 2
        have f3 := hfz 3
        have HR := hidep hr5
        clear hr5 hfz
        go_wp2
        refine bodyPost_ret (results_cell1 rfl _ _ _ rfl (load_fact _ B6 _ _ _ _ (box4_cells (HO.out _ HR.out _ _ _ _).1).1 (box4_cells (HO.out _ HR.out _ _ _ _).1).2.1 (box4_cells (HO.out _ HR.out _ _ _ _).1).2.2.1 (box4_cells (HO.out _ HR.out _ _ _ _).1).2.2.2)) rfl ?_
        exact ⟨⟨_, _, _, _, rfl⟩, (HO.out _ HR.out _ _ _ _).2⟩
    · have b3 : (k == 3) = false := beq_false_of_ne k3
      clear k3
      by_cases k5 : k = 5
      · have b5 : (k == 5) = true := by simp [k5]
        have b6 : (k == 6) = false := by simp [k5]
        have hf5 := HF.out.2.2 k5
        clear k5
        go_upto_if 79 with (first
          | (go_at_call 52; refine (HT.out _ _ hrr).mono ?_; rintro e w5 ⟨⟨z5, rfl, _, _, _⟩, hr5⟩; have hr5 := MkR.trans hrr hr5)
          | fail)
        obtain ⟨c0, c7, c10, c11, c12⟩ := HC.out _ hr5
        by_cases hz : 0 < z5
        · obtain ⟨gb, rfl, hgbP, hgbw, qa, qn, qc, hq⟩ := hf5.2
          have hmn := hf5.1
          have HG := hidep (show ∀ Y, MkR P la lc l X Y → Y.cell? ⟨gb, 0, none⟩ = some (.slice qa qn qc) from fun Y hY => (HTU.out _ hY).2.cell hq hgbP)
          have hgb6 : gb ≠ B6 := by have := HBB.out; omega
          clear hq hf5
          go_upto_region 11 with (fail)
          have HTW := hidep (fun n Y (hY : MkR P la lc l w Y) => takeM_any n Y (hY.mk HM.out))
          have hq6 := HQ6.out _ hr5
          have hS0 := And.intro (HTU.out _ hr5) (And.intro c11 (HG.out _ hr5))
          clear c0 c7 c10 c11 c12 hrr hr5
          refine wp_region_noPanic (wp_region_held_drew (S := (fun Y => MkR P la lc l w Y ∧ Y.cell? ⟨B4, 11, none⟩ = some (.slice (some ⟨gb, 0, none⟩) mn mc) ∧ Y.cell? ⟨gb, 0, none⟩ = some (.slice qa qn qc))) (by kernel_rfl) ?hSC (fun hHeld => ?hRC))
          case hSC => ((try dsimp only); (first | exact hS0 | exact ⟨hS0.1.drew, hS0.2⟩))
          refine tkA (i := 0) (v := ?vC1) rfl (.inl ⟨by kernel_rfl, ?yC1⟩) (by assumption) ?rC1
          case yC1 => (intro w hSw; (try dsimp only at hSw); (obtain ⟨u0, u1, u2⟩ := hSw); first | (go_simp; done) | (go_simp; with_reducible rfl))
          refine tkA (i := 1) (v := ?vC2) rfl (.inl ⟨by kernel_rfl, ?yC2⟩) (by assumption) ?rC2
          case yC2 => (intro w hSw; (try dsimp only at hSw); (obtain ⟨u0, u1, u2⟩ := hSw); first | (go_simp; done) | (go_simp; with_reducible rfl))
          refine tkA (i := 2) (v := ?vC3) rfl (.inl ⟨by kernel_rfl, ?yC3⟩) (by assumption) ?rC3
          case yC3 => (intro w hSw; (try dsimp only at hSw); (obtain ⟨u0, u1, u2⟩ := hSw); first | (go_simp; done) | (go_simp; with_reducible rfl))
          refine tkA (i := 3) (v := ?vC4) rfl (.inl ⟨by kernel_rfl, ?yC4⟩) (by assumption) ?rC4
          case yC4 => (intro w hSw; (try dsimp only at hSw); (obtain ⟨u0, u1, u2⟩ := hSw); first | (go_simp; done) | (go_simp; with_reducible rfl))
          refine tkA (i := 4) (v := ?vC5) rfl (.inl ⟨by kernel_rfl, ?yC5⟩) (by assumption) ?rC5
          case yC5 => (intro w hSw; (try dsimp only at hSw); (obtain ⟨u0, u1, u2⟩ := hSw); first | (go_simp; done) | (go_simp; with_reducible rfl))
          refine tkA (i := 5) (v := ?vC6) rfl (.inl ⟨by kernel_rfl, ?yC6⟩) (by assumption) ?rC6
          case yC6 => (intro w hSw; (try dsimp only at hSw); (obtain ⟨u0, u1, u2⟩ := hSw); first | (go_simp; done) | (go_simp; with_reducible rfl))
          refine tkA (i := 6) (v := ?vC7) rfl (.inl ⟨by kernel_rfl, ?yC7⟩) (by assumption) ?rC7
          case yC7 => (intro w hSw; (try dsimp only at hSw); (obtain ⟨u0, u1, u2⟩ := hSw); first | (go_simp; done) | (go_simp; with_reducible rfl))
          refine tkA (i := 7) (v := ?vC8) rfl (.inl ⟨by kernel_rfl, ?yC8⟩) (by assumption) ?rC8
          case yC8 => (intro w hSw; (try dsimp only at hSw); (obtain ⟨u0, u1, u2⟩ := hSw); first | (go_simp; done) | (go_simp; with_reducible rfl))
          refine tkA (i := 9) (v := ?vC9) rfl (.inl ⟨by kernel_rfl, ?yC9⟩) (by assumption) ?rC9
          case yC9 => (intro w hSw; (try dsimp only at hSw); (obtain ⟨u0, u1, u2⟩ := hSw); first | (go_simp; done) | (go_simp; with_reducible rfl))
          refine tkA (i := 10) (v := ?vC10) rfl (.inl ⟨by kernel_rfl, ?yC10⟩) (by assumption) ?rC10
          case yC10 => (intro w hSw; (try dsimp only at hSw); (obtain ⟨u0, u1, u2⟩ := hSw); first | (go_simp; done) | (go_simp; with_reducible rfl))
          refine tkA (i := 11) (v := ?vC11) rfl (.inl ⟨by kernel_rfl, ?yC11⟩) (by assumption) ?rC11
          case yC11 => (intro w hSw; (try dsimp only at hSw); (obtain ⟨u0, u1, u2⟩ := hSw); first | (go_simp; done) | (go_simp; with_reducible rfl))
          refine tkA (i := 12) (v := ?vC12) rfl (.inl ⟨by kernel_rfl, ?yC12⟩) (by assumption) ?rC12
          case yC12 => (intro w hSw; (try dsimp only at hSw); (obtain ⟨u0, u1, u2⟩ := hSw); first | (go_simp; done) | (go_simp; with_reducible rfl))
          refine tkA (i := 13) (v := ?vC13) rfl (.inl ⟨by kernel_rfl, ?yC13⟩) (by assumption) ?rC13
          case yC13 => (intro w hSw; (try dsimp only at hSw); (obtain ⟨u0, u1, u2⟩ := hSw); first | (go_simp; done) | (go_simp; with_reducible rfl))
          refine wpAnyH_ready (rs := [8]) (by kernel_rfl) (by simp) (.cons rfl (fun K hK => ?hcC14) .nil)
          go_simp
          (go_at_call 52; refine (HTW.out _ _ hHeld.1).mono ?_; rintro e wt ⟨⟨zt, rfl, _, _, _⟩, hrt⟩; have hk := And.intro (MkR.trans hHeld.1 hrt) (And.intro (hrt.2.cell hHeld.2.1 hB4P) (hrt.2.cell hHeld.2.2 hgbP)); have hq6 := hrt.box hq6 hB6P; obtain ⟨z0, z1, z2, z3⟩ := box4_cells hq6; have f0 := box_frozen hq6 0; have f1 := box_frozen hq6 1; have f2 := box_frozen hq6 2; have f3 := box_frozen hq6 3; (try dsimp only))
          refine hK.out _ _ ?sC14 (fun hC14 => ?tC14)
          case sC14 => ((try dsimp only); (first | (with_reducible exact hHeld) | exact hk | exact ⟨hk.1.drew, hk.2⟩))
          replace hHeld := hC14; clear hK hC14
          refine wpAnyH_ready (rs := [14]) (by kernel_rfl) (by simp) (.cons rfl (fun K hK => ?hcC15) .nil)
          go_simp
          (go_at_call 52; refine (HTW.out _ _ hHeld.1).mono ?_; rintro e wt ⟨⟨zt, rfl, _, _, _⟩, hrt⟩; have hk := And.intro (MkR.trans hHeld.1 hrt) (And.intro (hrt.2.cell hHeld.2.1 hB4P) (hrt.2.cell hHeld.2.2 hgbP)); have hq6 := hrt.box hq6 hB6P; obtain ⟨z0, z1, z2, z3⟩ := box4_cells hq6; have f0 := box_frozen hq6 0; have f1 := box_frozen hq6 1; have f2 := box_frozen hq6 2; have f3 := box_frozen hq6 3; (try dsimp only))
          refine hK.out _ _ ?sC15 (fun hC15 => ?tC15)
          case sC15 => ((try dsimp only); (first | (with_reducible exact hHeld) | exact hk | exact ⟨hk.1.drew, hk.2⟩))
          replace hHeld := hC15; clear hK hC15
          refine tkA (i := 15) (v := ?vC16) rfl (.inl ⟨by kernel_rfl, ?yC16⟩) (by assumption) ?rC16
          case yC16 => (intro w hSw; (try dsimp only at hSw); (obtain ⟨u0, u1, u2⟩ := hSw); first | (go_simp; done) | (go_simp; with_reducible rfl))
          refine wpAnyH_ready (rs := [16]) (by kernel_rfl) (by simp) (.cons rfl (fun K hK => ?hcC17) .nil)
          go_simp
          refine hK.out _ _ ?sC17 (fun hC17 => ?tC17)
          case sC17 => ((try dsimp only); (first | (with_reducible exact hHeld) | exact hk | exact ⟨hk.1.drew, hk.2⟩ | exact keep4 HM.out HBB.out.2.1 hk HBB.out.2.2 hgb6 _ _ _ _ | (have h4 := keep4 HM.out HBB.out.2.1 hk HBB.out.2.2 hgb6; exact ⟨(h4 _ _ _ _).1.drew, (h4 _ _ _ _).2⟩)))
          replace hHeld := hC17; clear hK hC17
          refine wpAnyH_done (by kernel_rfl) ?_ _
          clear hHeld
          refine NoPanic.normal ?_
          all_goals
            (try dsimp only [Exit.inBlock, Exit.then])
            have hO := fun y0 y1 y2 y3 => out4 HM.out HBB.out.2.1 (y0 := y0) (y1 := y1) (y2 := y2) (y3 := y3) hq6 hk.1
            go_wp2
            refine bodyPost_ret (results_cell1 rfl _ _ _ rfl (load_fact _ B6 _ _ _ _ (box4_cells (hO _ _ _ _).1).1 (box4_cells (hO _ _ _ _).1).2.1 (box4_cells (hO _ _ _ _).1).2.2.1 (box4_cells (hO _ _ _ _).1).2.2.2)) rfl ?_
            first | exact ⟨⟨_, _, _, _, rfl⟩, (hO _ _ _ _).2.drew⟩ | exact ⟨⟨_, _, _, _, rfl⟩, (hO _ _ _ _).2⟩
        · clear hrr
          obtain ⟨⟨z0, z1, z2, z3⟩, hfz⟩ := HZ.out _ hr5
          have f0 := hfz 0
          have f1 := hfz 1
          have f2 := hfz 2
          have f3 := hfz 3
          have HR := hidep hr5
          clear hr5 hfz
          go_wp2
          refine bodyPost_ret (results_cell1 rfl _ _ _ rfl (load_fact _ B6 _ _ _ _ (box4_cells (HO.out _ HR.out _ _ _ _).1).1 (box4_cells (HO.out _ HR.out _ _ _ _).1).2.1 (box4_cells (HO.out _ HR.out _ _ _ _).1).2.2.1 (box4_cells (HO.out _ HR.out _ _ _ _).1).2.2.2)) rfl ?_
          exact ⟨⟨_, _, _, _, rfl⟩, (HO.out _ HR.out _ _ _ _).2⟩
      · have b5 : (k == 5) = false := beq_false_of_ne k5
        clear k5
        by_cases k6 : k = 6
        · have b6 : (k == 6) = true := by simp [k6]
          clear k6
          go_upto_if 103 with (first
            | (go_at_call 52; refine (HT.out _ _ hrr).mono ?_; rintro e w5 ⟨⟨z5, rfl, _, _, _⟩, hr5⟩; have hr5 := MkR.trans hrr hr5)
            | fail)
          obtain ⟨c0, c7, c10, c11, c12⟩ := HC.out _ hr5
          by_cases hz : 0 < z5
          · go_upto_region 13 with (fail)
            obtain ⟨⟨z0, z1, z2, z3⟩, hfz⟩ := HZ.out _ hr5
            go_wp2_with (first
              | (go_at_call 52; refine (HT.out _ _ hr5).mono ?_; rintro e w6 ⟨⟨z6, rfl, _, _, _⟩, hr6⟩; have hr6 := MkR.trans hr5 hr6; obtain ⟨⟨z0, z1, z2, z3⟩, hfz⟩ := HZ.out _ hr6; have f0 := hfz 0; have f1 := hfz 1; have f2 := hfz 2; have f3 := hfz 3; have HR := hidep hr6; clear hr5 hr6 hfz)
              | fail)
            refine bodyPost_ret (results_cell1 rfl _ _ _ rfl (load_fact _ B6 _ _ _ _ (box4_cells (HO.out _ HR.out _ _ _ _).1).1 (box4_cells (HO.out _ HR.out _ _ _ _).1).2.1 (box4_cells (HO.out _ HR.out _ _ _ _).1).2.2.1 (box4_cells (HO.out _ HR.out _ _ _ _).1).2.2.2)) rfl ?_
            exact ⟨⟨_, _, _, _, rfl⟩, (HO.out _ HR.out _ _ _ _).2⟩
          · clear hrr
            obtain ⟨⟨z0, z1, z2, z3⟩, hfz⟩ := HZ.out _ hr5
            have f0 := hfz 0
            have f1 := hfz 1
            have f2 := hfz 2
            have f3 := hfz 3
            have HR := hidep hr5
            clear hr5 hfz
            go_wp2
            refine bodyPost_ret (results_cell1 rfl _ _ _ rfl (load_fact _ B6 _ _ _ _ (box4_cells (HO.out _ HR.out _ _ _ _).1).1 (box4_cells (HO.out _ HR.out _ _ _ _).1).2.1 (box4_cells (HO.out _ HR.out _ _ _ _).1).2.2.1 (box4_cells (HO.out _ HR.out _ _ _ _).1).2.2.2)) rfl ?_
            exact ⟨⟨_, _, _, _, rfl⟩, (HO.out _ HR.out _ _ _ _).2⟩
        · have b6 : (k == 6) = false := beq_false_of_ne k6
          clear k6
          obtain ⟨⟨z0, z1, z2, z3⟩, hfz⟩ := HZ.out _ hrr
          have f0 := hfz 0
          have f1 := hfz 1
          have f2 := hfz 2
          have f3 := hfz 3
          have HR := hidep hrr
          clear hrr hfz
          go_wp2
          refine bodyPost_ret (results_cell1 rfl _ _ _ rfl (load_fact _ B6 _ _ _ _ (box4_cells (HO.out _ HR.out _ _ _ _).1).1 (box4_cells (HO.out _ HR.out _ _ _ _).1).2.1 (box4_cells (HO.out _ HR.out _ _ _ _).1).2.2.1 (box4_cells (HO.out _ HR.out _ _ _ _).1).2.2.2)) rfl ?_
          exact ⟨⟨_, _, _, _, rfl⟩, (HO.out _ HR.out _ _ _ _).2⟩
end Go.Proofs.Ytfljgcpfmhhgcaa
