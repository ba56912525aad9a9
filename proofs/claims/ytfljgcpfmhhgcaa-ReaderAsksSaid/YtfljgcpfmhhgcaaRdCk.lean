/- Contract: the code's Check. -/
import Derived.Test.YtfljgcpfmhhgcaaRdBo
namespace Go.Proofs.Ytfljgcpfmhhgcaa
open Go.RowKit Go.Lab
attribute [local go_sem] Oper.semAt_some
theorem range_map79 (f : Nat → Value) : (List.range 79).map f = [f 0, f 1, f 2, f 3, f 4, f 5, f 6, f 7, f 8, f 9, f 10, f 11, f 12, f 13, f 14, f 15, f 16, f 17, f 18, f 19, f 20, f 21, f 22, f 23, f 24, f 25, f 26, f 27, f 28, f 29, f 30, f 31, f 32, f 33, f 34, f 35, f 36, f 37, f 38, f 39, f 40, f 41, f 42, f 43, f 44, f 45, f 46, f 47, f 48, f 49, f 50, f 51, f 52, f 53, f 54, f 55, f 56, f 57, f 58, f 59, f 60, f 61, f 62, f 63, f 64, f 65, f 66, f 67, f 68, f 69, f 70, f 71, f 72, f 73, f 74, f 75, f 76, f 77, f 78] := rfl
theorem frame79 (t : Array Value) (ds : List Deferred) (h : t.size = 79) : ({ tmps := t, defers := ds } : Act) = { tmps := #[slot t 0, slot t 1, slot t 2, slot t 3, slot t 4, slot t 5, slot t 6, slot t 7, slot t 8, slot t 9, slot t 10, slot t 11, slot t 12, slot t 13, slot t 14, slot t 15, slot t 16, slot t 17, slot t 18, slot t 19, slot t 20, slot t 21, slot t 22, slot t 23, slot t 24, slot t 25, slot t 26, slot t 27, slot t 28, slot t 29, slot t 30, slot t 31, slot t 32, slot t 33, slot t 34, slot t 35, slot t 36, slot t 37, slot t 38, slot t 39, slot t 40, slot t 41, slot t 42, slot t 43, slot t 44, slot t 45, slot t 46, slot t 47, slot t 48, slot t 49, slot t 50, slot t 51, slot t 52, slot t 53, slot t 54, slot t 55, slot t 56, slot t 57, slot t 58, slot t 59, slot t 60, slot t 61, slot t 62, slot t 63, slot t 64, slot t 65, slot t 66, slot t 67, slot t 68, slot t 69, slot t 70, slot t 71, slot t 72, slot t 73, slot t 74, slot t 75, slot t 76, slot t 77, slot t 78], defers := ds } := by
  have e : t = ((List.range 79).map (slot t)).toArray := by
    apply Array.ext
    · simp [h]
    · intro i h1 h2
      simp [slot, Array.getD, h1]
  rw [range_map79] at e
  exact congrArg (fun x => ({ tmps := x, defers := ds } : Act)) e
def stepsGo (way : Int) (pl : List Pl) : Pl → List Int → Int
  | _, [] => 0
  | f, x :: xs => costZ way f (lp pl x.toNat) + stepsGo way pl (lp pl x.toNat) xs
def stepsZ (way : Int) (pl : List Pl) (l : List Int) : Int := stepsGo way pl pl0 l
def checkZ (way : Int) (pl : List Pl) (need order : List Int) (steps : Int) (least : List (List Int)) : Int :=
  if taskZ way pl.length need = 0 then (if decide (sortZ order = need) && boundsZ way (needL pl need) least then (if decide (stepsZ way pl order = steps) && !((least.getD (least.length - 1) []).any fun x => decide (x < steps)) then 0 else 19) else 19) else taskZ way pl.length need
theorem stepsGo_bd {way : Int} {pl : List Pl} (h : ∀ p ∈ pl, PlOk p) : ∀ (l : List Int) (f : Pl), PlOk f → 0 ≤ stepsGo way pl f l ∧ stepsGo way pl f l ≤ 20000000 * l.length
  | [], _, _ => by simp [stepsGo]
  | x :: xs, f, hf => by
    have h1 := costZ_bd (way := way) hf (lp_ok h x.toNat)
    have h2 := stepsGo_bd (way := way) h xs _ (lp_ok h x.toNat)
    rw [stepsGo, List.length_cons]
    omega
theorem sortZ_perm (l : List Int) : (sortZ l).Perm l := List.mergeSort_perm _ _
set_option maxRecDepth 100000 in
set_option maxHeartbeats 40000000 in
theorem check_any (way : Int) (pl : List Pl) (need order : List Int) (steps : Int) (least : List (List Int)) (pv nv vo vl : Value) (hok : ∀ p ∈ pl, PlOk p) (hT : ∀ r ∈ least, ∀ x ∈ r, -1152921504606846976 ≤ x ∧ x ≤ 1152921504606846976) (hol : order.length ≤ 1048576) (w : World) (hp : PlacesAt w pv pl) (hn : IntsAt w nv need) (ho : IntsAt w vo order) (hl : TabAt w vl least) :
    Calls Try.prog 23 #[.int .i64 way, pv, nv, planV vo steps vl] w fun e w' => e = .returned (.int .i64 (checkZ way pl need order steps least)) ∧ Below w.heap.size w w' := by
  obtain ⟨a, c, rfl, hca, hma⟩ := hp.form
  obtain ⟨b, d, rfl, hcb, hmb⟩ := hn.1.form
  obtain ⟨oa, oc, rfl, hco, hmo⟩ := ho.1.form
  obtain ⟨g, f, rfl, hcf, hmf⟩ := TabOf.form hl
  unfold maxLen at hma hmb hmf hmo
  unfold planV
  have HTA := hidep (fun W (h : Below w.heap.size w W) => rtask_any way _ _ pl need W (hp.below h) (hn.below h))
  obtain ⟨W0, hW0⟩ : ∃ W0, W0 = w.alloc (.cells #[.slice oa order.length oc, .int .i64 steps, .slice g least.length f] 35) := ⟨_, rfl⟩
  have hb0 : Below w.heap.size w W0 := by rw [hW0]; exact (Below.refl _ _).alloc (Nat.le_refl _) _
  have hq0 : W0.heap[w.heap.size]? = some (.cells #[.slice oa order.length oc, .int .i64 steps, .slice g least.length f] 35) := by rw [hW0]; exact heap_alloc_new _ _
  have hs0 : W0.heap.size = w.heap.size + 1 := by rw [hW0]; simp
  obtain ⟨y0, y1, y2⟩ := box3_cells hq0
  have HQ0 := hidep (show ∀ X, Below W0.heap.size W0 X → X.heap[w.heap.size]? = some (.cells #[.slice oa order.length oc, .int .i64 steps, .slice g least.length f] 35) from fun X hX => (hX.block _ (by omega)).trans hq0)
  clear hq0
  have hfw : Fence.wide.fn 23 := trivial
  go_enter Try.func23, Try.ntmps23
  go_upto_region 1 with (fail)
  rw [← hW0]
  have HP := hidep (hp.below hb0)
  have HN := hidep (hn.below hb0)
  have HO := hidep (ho.below hb0)
  have HL := hidep (TabAt.below hl hb0)
  have HB0 := hidep hb0
  have HW0 := hidep hW0
  have HS0 := hidep hs0
  clear hp hn ho hl hW0 hb0 hs0
  by_cases ht : taskZ way pl.length need = 0
  · have HCZ := hidep (show checkZ way pl need order steps least = if decide (sortZ order = need) && boundsZ way (needL pl need) least then (if decide (stepsZ way pl order = steps) && !((least.getD (least.length - 1) []).any fun x => decide (x < steps)) then 0 else 19) else 19 by unfold checkZ; rw [if_pos ht])
    obtain ⟨hneed, hw0, hw3, hpw⟩ := task_need rfl ht
    rw [ht] at HTA
    clear ht
    have HS := hidep (fun X (hX : Below W0.heap.size W0 X) => sorted_any X.heap.size order (.slice oa order.length oc) (X.alloc (.cells #[.slice oa order.length oc] 22)) (heap_alloc_new X _) (HO.out.below (hX.alloc hX.size _)) hol)
    have HV := hidep (values_any oa order.length oc)
    have hsl : (sortZ order).length = order.length := (sortZ_perm order).length_eq
    have hrange : ∀ x ∈ sortZ order, -9223372036854775808 ≤ x ∧ x ≤ 9223372036854775807 := fun x hx => HO.out.2 x ((sortZ_perm order).mem_iff.1 hx)
    have HSI := hidep (show ∀ W v (h : W.ownsRow (W0.heap.size + 1) 3 1 v order.length (intsC (sortZ order))), IntsAt W v (sortZ order) from fun W v h => ⟨by rw [hsl]; exact (Rd.of_own h).mono (fun _ _ => trivial), hrange⟩)
    have HPM := hidep (sortZ_perm order)
    have HW01 := hidep (show (W0.alloc (.cells #[.slice oa order.length oc] 22)).heap.size = W0.heap.size + 1 by simp)
    clear hsl hrange
    have HBD := hidep (fun X (hX : Below W0.heap.size W0 X) => bounds_any way pl need least _ _ _ hok hneed hT X (HP.out.below hX) (HN.out.below hX) (HL.out.below hX))
    have HEQ := hidep (fun X (hX : Below W0.heap.size W0 X) (v : Value) (hv : IntsAt X v (sortZ order)) => equal_any v _ (sortZ order) need X hv (HN.out.below hX))
    clear hT
    by_cases hsn : sortZ order = need
    · rw [decide_eq_true hsn] at HCZ HEQ
      have HSN := hidep hsn
      clear hsn
      obtain ⟨bz, hbz⟩ : ∃ bz, bz = boundsZ way (needL pl need) least := ⟨_, rfl⟩
      rw [← hbz] at HCZ HBD
      have HBZ := hidep hbz
      clear hbz
      cases bz with
      | false =>
        go_wp2_with (first
          | (go_at_call 37; refine (HTA.out _ (by exact HB0.out)).mono ?_; rintro e w1 ⟨rfl, rfl⟩)
          | (go_at_call 45; refine (HV.out _).mono ?_; rintro e w1 ⟨rfl, rfl⟩)
          | (go_at_call 44; refine (HS.out _ (Below.refl _ _)).mono ?_; rintro e w2 ⟨sv, rfl, hown, hb2⟩; have hb02 := ((Below.refl _ W0).alloc (Nat.le_refl _) (.cells #[.slice oa order.length oc] 22)).trans (hb2.mono (by simp)); have hsv := HSI.out w2 sv (by rw [← HW01.out]; exact hown); clear hown hb2)
          | (go_at_call 46; refine (HEQ.out _ hb02 _ hsv).mono ?_; rintro e w3 ⟨rfl, dn, hdn⟩; have hb03 : Below W0.heap.size W0 w3 := (by rw [hdn]; exact below_drewN hb02 dn); clear hdn; obtain ⟨z0, z1, z2⟩ := box3_cells (HQ0.out _ hb03))
          | (go_at_call 47; refine (HBD.out _ hb03).mono ?_; rintro e w4 ⟨rfl, hb4⟩)
          | fail)
        go_ret
        have hb04 := hb03.trans (hb4.mono hb03.size)
        exact ⟨ret_val (congrArg _ (show (19 : Int) = checkZ way pl need order steps least from by rw [HCZ.out]; rfl)), HB0.out.trans (hb04.mono HB0.out.size)⟩
      | true =>
        go_upto_region 7 with (first
          | (go_at_call 37; refine (HTA.out _ (by exact HB0.out)).mono ?_; rintro e w1 ⟨rfl, rfl⟩)
          | (go_at_call 45; refine (HV.out _).mono ?_; rintro e w1 ⟨rfl, rfl⟩)
          | (go_at_call 44; refine (HS.out _ (Below.refl _ _)).mono ?_; rintro e w2 ⟨sv, rfl, hown, hb2⟩; have hb02 := ((Below.refl _ W0).alloc (Nat.le_refl _) (.cells #[.slice oa order.length oc] 22)).trans (hb2.mono (by simp)); have hsv := HSI.out w2 sv (by rw [← HW01.out]; exact hown); clear hown hb2)
          | (go_at_call 46; refine (HEQ.out _ hb02 _ hsv).mono ?_; rintro e w3 ⟨rfl, dn, hdn⟩; have hb03 : Below W0.heap.size W0 w3 := (by rw [hdn]; exact below_drewN hb02 dn); clear hdn; obtain ⟨z0, z1, z2⟩ := box3_cells (HQ0.out _ hb03))
          | (go_at_call 47; refine (HBD.out _ hb03).mono ?_; rintro e w4 ⟨rfl, hb4⟩)
          | fail)
        have hb04 := hb03.trans (hb4.mono hb03.size)
        clear hb4 hb03 z0 z1 z2 y0 y1 y2 hb02 hsv
        have hol8 : order.length ≤ 8 := by
          have h1 := HPM.out.length_eq
          rw [HSN.out] at h1
          have := hneed.1
          omega
        have HMEM := hidep (show ∀ x ∈ order, 0 ≤ x ∧ x < pl.length from fun x hx => hneed.2 x (by rw [← HSN.out]; exact HPM.out.mem_iff.2 hx))
        obtain ⟨z0, z1, z2⟩ := box3_cells (HQ0.out w4 hb04)
        have z0a : (w4.alloc (.cells (plC pl0).toArray 26)).cell? ⟨w.heap.size, 0, none⟩ = some (.slice oa order.length oc) := (((Below.refl _ w4).alloc (Nat.le_refl _) _).cell (p := ⟨w.heap.size, 0, none⟩) (by simp only; have := hb04.size; have := HS0.out; omega)).trans z0
        have hpl0 : plC pl0 = [.int .i64 0, .int .i64 0, .int .i64 0, .int .i64 0, .int .i64 0, .int .i64 0] := rfl
        rw [hpl0] at z0a
        go_upto_region 9 with (fail)
        obtain ⟨W5, hW5⟩ : ∃ W5, W5 = w4.alloc (.cells (plC pl0).toArray 26) := ⟨_, rfl⟩
        have hq5 : W5.heap[w4.heap.size]? = some (.cells (plC pl0).toArray 26) := by rw [hW5]; exact heap_alloc_new _ _
        have hb5 : Below W0.heap.size W0 W5 := by rw [hW5]; exact hb04.alloc hb04.size _
        have hb5s : W0.heap.size ≤ w4.heap.size := hb04.size
        rw [hpl0] at hW5
        rw [← hW5]
        generalize hFB : w4.heap.size = FB at *
        have HFB := hidep hFB
        clear hW5 hFB z0 z1 z2 z0a hpl0
        have HB5 := hidep hb5
        have HPL := hidep pl0_ok
        clear hb5 hb04
        refine wp_loop (LoopI 79 (fun tm ds wr => (slot tm 0) = .int .i64 way ∧ (slot tm 1) = .slice a pl.length c ∧ (slot tm 7) = .pointer (some ⟨w.heap.size, 0, none⟩) ∧ (slot tm 12) = .pointer (some ⟨FB, 0, none⟩) ∧ (slot tm 42) = .slice oa order.length oc ∧ (slot tm 43) = .int .i64 (order.length : Nat) ∧ ds = [] ∧ ∃ (k : Nat) (acc : Int) (f : Pl), k ≤ order.length ∧ (slot tm 44) = .int .i64 (k : Nat) ∧ (slot tm 11) = .int .i64 acc ∧ PlOk f ∧ wr.heap[FB]? = some (.cells (plC f).toArray 26) ∧ Turned (fun b => b = FB) W5 wr ∧ Hid (acc + stepsGo way pl f (order.drop k) = stepsZ way pl order) ∧ 0 ≤ acc ∧ acc ≤ 20000000 * k)) (fun a' wr => order.length - (intOf (a'.tmps.getD 44 undef)).toNat) ?mainStart ?mainRound
        case' mainStart => refine LoopI.mk rfl ?_
        case' mainRound => (rintro ⟨t, ds⟩ wr ⟨hts, hrel⟩; dsimp only at hts hrel; rw [frame79 t ds hts])
        case mainStart => exact ⟨rfl, rfl, rfl, rfl, rfl, rfl, rfl, 0, 0, pl0, Nat.zero_le _, rfl, rfl, HPL.out, hq5, Turned.refl _ _, hidep (by rw [List.drop_zero]; unfold stepsZ; omega), by omega, by omega⟩
        obtain ⟨h0, h1, h7, h12, h42, h43, hds, k, acc, f, hk, h44, h11, hfok, hfb, hTr, HACC, ha0, ha1⟩ := hrel
        subst hds
        rw [h0, h1, h7, h12, h42, h43, h44, h11]
        clear h0 h1 h7 h12 h42 h43 h44 h11 hts
        by_cases hlt : k < order.length
        · have hxm := HMEM.out _ (List.getElem_mem hlt)
          have HDR := hidep (List.drop_eq_getElem_cons hlt)
          obtain ⟨ob, oo, rfl, hob, hox⟩ := ints_get HO.out hlt
          generalize order[k] = x at *
          obtain ⟨pi, rfl⟩ : ∃ pi : Nat, x = (pi : Int) := ⟨x.toNat, by omega⟩
          have hpi : pi < pl.length := by omega
          obtain ⟨pb, po, rfl, hpbl, p0, p1, p2, p3, p4, p5⟩ := PlacesAt.at HP.out hpi
          have hlp : lp pl pi = pl[pi] := lp_get hpi
          have hpk := lp_ok hok pi
          rw [hlp] at hpk
          have HSTEP := hidep (show stepsGo way pl f (order.drop k) = costZ way f pl[pi] + stepsGo way pl pl[pi] (order.drop (k + 1)) by rw [HDR.out, stepsGo, Int.toNat_natCast, hlp])
          clear hlp HDR
          generalize pl[pi] = tq at *
          obtain ⟨t0, t1, t2, t3, t4, t5⟩ := tq
          simp only at p0 p1 p2 p3 p4 p5
          have hpi0 : (0 : Int) ≤ (pi : Int) := by omega
          have hpi1 : (pi : Int) < (pl.length : Int) := by omega
          have hk0 : (0 : Int) ≤ (k : Int) := by omega
          have hk1 : (k : Int) < (order.length : Int) := by omega
          have hlow : ∀ b, b < W0.heap.size → ¬ b = FB := fun b hb => by omega
          have hWr : ∀ {b o v}, W0.cell? ⟨b, o, none⟩ = some v → b < W0.heap.size → wr.cell? ⟨b, o, none⟩ = some v := fun hc hb => hTr.cell ((HB5.out.cell (p := ⟨_, _, none⟩) hb).trans hc) (hlow _ hb)
          have g0 := hWr p0 hpbl
          have g1 := hWr p1 hpbl
          have g2 := hWr p2 hpbl
          have g3 := hWr p3 hpbl
          have g4 := hWr p4 hpbl
          have g5 := hWr p5 hpbl
          have gx := hWr hox hob
          have hcb2 := costZ_bd (way := way) hfok hpk
          have HCJ := hidep (fun X => rcost_any way f ⟨t0, t1, t2, t3, t4, t5⟩ X hfok hpk)
          obtain ⟨f0, f1, f2, f3, f4, f5⟩ := f
          obtain ⟨cv, hcv⟩ : ∃ cv, cv = costZ way ⟨f0, f1, f2, f3, f4, f5⟩ ⟨t0, t1, t2, t3, t4, t5⟩ := ⟨_, rfl⟩
          rw [← hcv] at hcb2 HCJ HSTEP
          have hwa : IntKind.i64.wrap (acc + cv) = acc + cv := IntWalk.i64_in _ (by omega)
          have HPK := hidep hpk
          have HFB6 : wr.heap[FB]? = some (.cells #[.int .i64 f0, .int .i64 f1, .int .i64 f2, .int .i64 f3, .int .i64 f4, .int .i64 f5] 26) := hfb
          have HCC := hidep (show ∀ X, Turned (fun _ => False) wr X → X.heap[FB]? = some (.cells #[.int .i64 f0, .int .i64 f1, .int .i64 f2, .int .i64 f3, .int .i64 f4, .int .i64 f5] 26) ∧ X.cell? ⟨pb, po + pi * 6, none⟩ = some (.int .i64 t0) ∧ X.cell? ⟨pb, po + pi * 6 + 1, none⟩ = some (.int .i64 t1) ∧ X.cell? ⟨pb, po + pi * 6 + 2, none⟩ = some (.int .i64 t2) ∧
              X.cell? ⟨pb, po + pi * 6 + 3, none⟩ = some (.int .i64 t3) ∧ X.cell? ⟨pb, po + pi * 6 + 4, none⟩ = some (.int .i64 t4) ∧ X.cell? ⟨pb, po + pi * 6 + 5, none⟩ = some (.int .i64 t5) from fun X hX => ⟨hX.cells HFB6 id, hX.cell g0 id, hX.cell g1 id, hX.cell g2 id, hX.cell g3 id, hX.cell g4 id, hX.cell g5 id⟩)
          clear hfb hfok hpk hcv HFB6 g0 g1 g2 g3 g4 g5 p0 p1 p2 p3 p4 p5 hWr hox hxm
          go_upto_region 11 with (fail)
          refine wp_region_noPanic (wp_region_held_drew (S := (fun X => Turned (fun _ => False) wr X)) (by kernel_rfl) ?hS23r11n0 (fun hHeld => ?hR23r11n0))
          case hS23r11n0 => ((try dsimp only); (exact (Turned.refl _ _).drew))
          refine wpAnyH_take (i := 0) (v := ?v23r11n0q1) rfl (by kernel_rfl) (by kernel_rfl) (by kernel_rfl) (fun _ _ _ h => h) (Or.inl ⟨by kernel_rfl, ?hy23r11n0q1⟩) (by assumption) ?hr23r11n0q1
          case hy23r11n0q1 => (intro w hSw; (try dsimp only at hSw); (obtain ⟨c9, g0, g1, g2, g3, g4, g5⟩ := HCC.out w hSw; obtain ⟨d0, d1, d2, d3, d4, d5⟩ := box6_cells c9); first | (go_simp; done) | (go_simp; with_reducible rfl))
          refine wpAnyH_take (i := 1) (v := ?v23r11n0q2) rfl (by kernel_rfl) (by kernel_rfl) (by kernel_rfl) (fun _ _ _ h => h) (Or.inl ⟨by kernel_rfl, ?hy23r11n0q2⟩) (by assumption) ?hr23r11n0q2
          case hy23r11n0q2 => (intro w hSw; (try dsimp only at hSw); (obtain ⟨c9, g0, g1, g2, g3, g4, g5⟩ := HCC.out w hSw; obtain ⟨d0, d1, d2, d3, d4, d5⟩ := box6_cells c9); first | (go_simp; done) | (go_simp; with_reducible rfl))
          refine wpAnyH_take (i := 2) (v := ?v23r11n0q3) rfl (by kernel_rfl) (by kernel_rfl) (by kernel_rfl) (fun _ _ _ h => h) (Or.inl ⟨by kernel_rfl, ?hy23r11n0q3⟩) (by assumption) ?hr23r11n0q3
          case hy23r11n0q3 => (intro w hSw; (try dsimp only at hSw); (obtain ⟨c9, g0, g1, g2, g3, g4, g5⟩ := HCC.out w hSw; obtain ⟨d0, d1, d2, d3, d4, d5⟩ := box6_cells c9); first | (go_simp; done) | (go_simp; with_reducible rfl))
          refine wpAnyH_take (i := 3) (v := ?v23r11n0q4) rfl (by kernel_rfl) (by kernel_rfl) (by kernel_rfl) (fun _ _ _ h => h) (Or.inl ⟨by kernel_rfl, ?hy23r11n0q4⟩) (by assumption) ?hr23r11n0q4
          case hy23r11n0q4 => (intro w hSw; (try dsimp only at hSw); (obtain ⟨c9, g0, g1, g2, g3, g4, g5⟩ := HCC.out w hSw; obtain ⟨d0, d1, d2, d3, d4, d5⟩ := box6_cells c9); first | (go_simp; done) | (go_simp; with_reducible rfl))
          refine wpAnyH_take (i := 4) (v := ?v23r11n0q5) rfl (by kernel_rfl) (by kernel_rfl) (by kernel_rfl) (fun _ _ _ h => h) (Or.inl ⟨by kernel_rfl, ?hy23r11n0q5⟩) (by assumption) ?hr23r11n0q5
          case hy23r11n0q5 => (intro w hSw; (try dsimp only at hSw); (obtain ⟨c9, g0, g1, g2, g3, g4, g5⟩ := HCC.out w hSw; obtain ⟨d0, d1, d2, d3, d4, d5⟩ := box6_cells c9); first | (go_simp; done) | (go_simp; with_reducible rfl))
          refine wpAnyH_take (i := 5) (v := ?v23r11n0q6) rfl (by kernel_rfl) (by kernel_rfl) (by kernel_rfl) (fun _ _ _ h => h) (Or.inl ⟨by kernel_rfl, ?hy23r11n0q6⟩) (by assumption) ?hr23r11n0q6
          case hy23r11n0q6 => (intro w hSw; (try dsimp only at hSw); (obtain ⟨c9, g0, g1, g2, g3, g4, g5⟩ := HCC.out w hSw; obtain ⟨d0, d1, d2, d3, d4, d5⟩ := box6_cells c9); first | (go_simp; done) | (go_simp; with_reducible rfl))
          refine wpAnyH_take (i := 6) (v := ?v23r11n0q7) rfl (by kernel_rfl) (by kernel_rfl) (by kernel_rfl) (fun _ _ _ h => h) (Or.inl ⟨by kernel_rfl, ?hy23r11n0q7⟩) (by assumption) ?hr23r11n0q7
          case hy23r11n0q7 => (intro w hSw; (try dsimp only at hSw); (obtain ⟨c9, g0, g1, g2, g3, g4, g5⟩ := HCC.out w hSw; obtain ⟨d0, d1, d2, d3, d4, d5⟩ := box6_cells c9); first | (go_simp; done) | (go_simp; with_reducible rfl))
          refine wpAnyH_ready (rs := [7]) (by kernel_rfl) (by simp) (AllReadyH.cons rfl (fun K hK => ?hc23r11n0q8) AllReadyH.nil)
          go_simp
          (go_at_call 12; refine (HCJ.out _).mono ?_; rintro e w8 ⟨rfl, hb8⟩; (try dsimp only))
          refine hK.out _ _ ?hs23r11n0q8 (fun hHeld23r11n0q8 => ?ht23r11n0q8)
          case hs23r11n0q8 => ((try dsimp only); (first | exact hHeld.below hb8))
          clear hHeld hK
          have hHeld := hHeld23r11n0q8
          clear hHeld23r11n0q8
          refine wpAnyH_take (i := 8) (v := ?v23r11n0q9) rfl (by kernel_rfl) (by kernel_rfl) (by kernel_rfl) (fun _ _ _ h => h) (Or.inl ⟨by kernel_rfl, ?hy23r11n0q9⟩) (by assumption) ?hr23r11n0q9
          case hy23r11n0q9 => (intro w hSw; (try dsimp only at hSw); (obtain ⟨c9, g0, g1, g2, g3, g4, g5⟩ := HCC.out w hSw; obtain ⟨d0, d1, d2, d3, d4, d5⟩ := box6_cells c9); first | (go_simp; done) | (go_simp; with_reducible rfl))
          refine wpAnyH_take (i := 9) (v := ?v23r11n0q10) rfl (by kernel_rfl) (by kernel_rfl) (by kernel_rfl) (fun _ _ _ h => h) (Or.inl ⟨by kernel_rfl, ?hy23r11n0q10⟩) (by assumption) ?hr23r11n0q10
          case hy23r11n0q10 => (intro w hSw; (try dsimp only at hSw); (obtain ⟨c9, g0, g1, g2, g3, g4, g5⟩ := HCC.out w hSw; obtain ⟨d0, d1, d2, d3, d4, d5⟩ := box6_cells c9); first | (go_simp; done) | (go_simp; with_reducible rfl))
          refine wpAnyH_done (by kernel_rfl) ?_ _
          clear hHeld
          refine NoPanic.normal ?_
          have hT8 : Turned (fun _ => False) wr w8 := ((Turned.refl _ _).drew).below hb8
          apply_assumption
          refine wp_cutA 79 (fun tm ds => ds = [] ∧ slot tm 0 = .int .i64 way ∧ slot tm 1 = .slice (some ⟨pb, po, none⟩) pl.length c ∧ slot tm 7 = .pointer (some ⟨w.heap.size, 0, none⟩) ∧ slot tm 12 = .pointer (some ⟨FB, 0, none⟩) ∧ slot tm 42 = .slice (some ⟨ob, oo, none⟩) order.length oc ∧ slot tm 43 = .int .i64 (order.length : Nat) ∧ slot tm 44 = .int .i64 (k : Nat) ∧ slot tm 11 = .int .i64 (acc + cv) ∧ slot tm 14 = .int .i64 (pi : Nat)) (by kernel_rfl) (by exact ⟨by kernel_rfl, by kernel_rfl, by kernel_rfl, by kernel_rfl, by kernel_rfl, by kernel_rfl, by kernel_rfl, by kernel_rfl, by kernel_rfl, by kernel_rfl⟩) ?_
          rintro tm3 ds3 h79 ⟨rfl, e0, e1, e7, e12, e42, e43, e44, e11, e14⟩
          rw [frame79 tm3 [] h79, e0, e1, e7, e12, e42, e43, e44, e11, e14]
          clear h79 e0 e1 e7 e12 e42 e43 e44 e11 e14 hwa
          obtain ⟨c9, g0, g1, g2, g3, g4, g5⟩ := HCC.out w8 hT8
          obtain ⟨d0, d1, d2, d3, d4, d5⟩ := box6_cells c9
          have fr : ∀ j, w8.frozen? ⟨FB, j, none⟩ = false := fun j => by simp [World.frozen?, c9]
          have fr0 := fr 0
          have fr1 := fr 1
          have fr2 := fr 2
          have fr3 := fr 3
          have fr4 := fr 4
          have fr5 := fr 5
          have HNEW := hidep (six_get w8 FB (.int .i64 t0) (.int .i64 t1) (.int .i64 t2) (.int .i64 t3) (.int .i64 t4) (.int .i64 t5) _ _ _ _ _ _ c9)
          have HTN := hidep (show ∀ v0 v1 v2 v3 v4 v5, Turned (fun b => b = FB) W5 ((((((w8.setCell ⟨FB, 0, none⟩ v0).setCell ⟨FB, 1, none⟩ v1).setCell ⟨FB, 2, none⟩ v2).setCell ⟨FB, 3, none⟩ v3).setCell ⟨FB, 4, none⟩ v4).setCell ⟨FB, 5, none⟩ v5) from fun v0 v1 v2 v3 v4 v5 => hTr.trans (((hT8.mono (fun _ _ h => h.elim)).trans ((Turned.refl (fun b => b = FB) w8).set6 FB v0 v1 v2 v3 v4 v5 rfl))))
          clear fr c9 hb8 hT8 hTr
          go_wp2
          refine ⟨LoopI.mk rfl ⟨rfl, rfl, rfl, rfl, rfl, rfl, rfl, k + 1, acc + cv, ⟨t0, t1, t2, t3, t4, t5⟩, by omega, by show Value.int _ _ = _; go_num, rfl, HPK.out, HNEW.out, HTN.out _ _ _ _ _ _, hidep (by rw [Int.add_assoc, ← HSTEP.out]; exact HACC.out), by omega, by omega⟩, ?_⟩
          show order.length - _ < order.length - _
          simp [intOf]; omega
        · have hkl : k = order.length := by omega
          subst hkl
          have hst : acc = stepsZ way pl order := by
            have := HACC.out
            rw [List.drop_length] at this
            simpa [stepsGo] using this
          have hl1 : 1 ≤ least.length := by
            have h := HBZ.out
            unfold boundsZ at h
            rw [eq_comm, Bool.and_eq_true, decide_eq_true_eq] at h
            rw [h.1]
            exact Nat.two_pow_pos _
          obtain ⟨m, hm⟩ : ∃ m, m = least.length - 1 := ⟨_, rfl⟩
          have hml : m < least.length := by omega
          have hwm : IntKind.i64.wrap ((least.length : Int) - 1) = ((m : Nat) : Int) := by rw [show (least.length : Int) - 1 = (m : Int) by omega]; exact IntWalk.i64_in _ (by omega)
          have hm0 : (0 : Int) ≤ (m : Int) := by omega
          have hm1 : (m : Int) < (least.length : Int) := by omega
          obtain ⟨gb, go, u, rfl, hgb, hgu, hui⟩ := tab_get HL.out hml
          have HLAST : Hid (least.getD (least.length - 1) [] = least[m]) := hidep (by rw [← hm]; simp [List.getD, hml])
          generalize least[m] = last at *
          have hb5 := HB5.out
          have hlow : ∀ b, b < W0.heap.size → ¬ b = FB := fun b hb => by omega
          have hqr := hTr.cells ((hb5.block _ (by have := HS0.out; omega)).trans (HQ0.out W0 (Below.refl _ _))) (by have := HS0.out; omega)
          obtain ⟨z0, z1, z2⟩ := box3_cells hqr
          have zu := hTr.cell ((hb5.cell (p := ⟨gb, go + m, none⟩) hgb).trans hgu) (hlow _ hgb)
          have hiw : IntsAt wr u last := ⟨hui.1.keeps (KpB.keeps ⟨Nat.le_trans hb5.size hTr.size, fun b hb => (hTr.block b (Nat.lt_of_lt_of_le hb hb5.size) (hlow b hb)).trans (hb5.block b hb)⟩), hui.2⟩
          obtain ⟨ua, uc, rfl, _, _⟩ := hiw.1.form
          have HCI := hidep (conI_any w.heap.size steps _ last wr hiw z1)
          have HBW := hidep (show Below w.heap.size w wr from by
            have h0 := HB0.out
            have h5 := hb5
            exact ⟨hTr.os.trans (h5.os.trans h0.os), hTr.tape.trans (h5.tape.trans h0.tape), hTr.output.trans (h5.output.trans h0.output), Nat.le_trans h0.size (Nat.le_trans h5.size hTr.size), fun b hb => (hTr.block b (by have := h0.size; have := h5.size; omega) (hlow b (by have := h0.size; omega))).trans ((h5.block b (by have := h0.size; omega)).trans (h0.block b hb))⟩)
          obtain ⟨an, han⟩ : ∃ an, an = last.any fun x => decide (x < steps) := ⟨_, rfl⟩
          have HR : Hid (checkZ way pl need order steps least = if decide (acc = steps) && !an then 0 else 19) := hidep (by rw [HCZ.out, HLAST.out, ← hst, ← han]; rfl)
          rw [← han] at HCI
          clear han hst hiw hgu hui hTr hb5 hfb hlow hqr hm hml hl1 HCZ
          by_cases hac : acc = steps
          · rw [decide_eq_true hac] at HR
            subst hac
            have hnn : (acc != acc) = false := by simp
            cases an with
            | true =>
              go_wp2_with (first
                | (go_at_call 48; refine HCI.out.mono ?_; rintro e w6 ⟨rfl, rfl⟩)
                | fail)
              go_ret
              exact ⟨ret_val (congrArg _ (show (19 : Int) = checkZ way pl need order _ least from by rw [HR.out]; rfl)), HBW.out⟩
            | false =>
              go_wp2_with (first
                | (go_at_call 48; refine HCI.out.mono ?_; rintro e w6 ⟨rfl, rfl⟩)
                | fail)
              go_ret
              exact ⟨ret_val (congrArg _ (show (0 : Int) = checkZ way pl need order _ least from by rw [HR.out]; rfl)), HBW.out⟩
          · rw [decide_eq_false hac] at HR
            have hnn : (acc == steps) = false := beq_false_of_ne hac
            have hnn2 : (acc != steps) = true := by unfold bne; rw [hnn]; rfl
            go_wp2
            go_ret
            exact ⟨ret_val (congrArg _ (show (19 : Int) = checkZ way pl need order steps least from by rw [HR.out]; rfl)), HBW.out⟩
    · rw [decide_eq_false hsn] at HCZ HEQ
      clear hsn
      go_wp2_with (first
        | (go_at_call 37; refine (HTA.out _ (by exact HB0.out)).mono ?_; rintro e w1 ⟨rfl, rfl⟩)
        | (go_at_call 45; refine (HV.out _).mono ?_; rintro e w1 ⟨rfl, rfl⟩)
        | (go_at_call 44; refine (HS.out _ (Below.refl _ _)).mono ?_; rintro e w2 ⟨sv, rfl, hown, hb2⟩; have hb02 := ((Below.refl _ W0).alloc (Nat.le_refl _) (.cells #[.slice oa order.length oc] 22)).trans (hb2.mono (by simp)); have hsv := HSI.out w2 sv (by rw [← HW01.out]; exact hown); clear hown hb2)
        | (go_at_call 46; refine (HEQ.out _ hb02 _ hsv).mono ?_; rintro e w3 ⟨rfl, dn, hdn⟩; have hb03 : Below W0.heap.size W0 w3 := (by rw [hdn]; exact below_drewN hb02 dn); clear hdn; obtain ⟨z0, z1, z2⟩ := box3_cells (HQ0.out _ hb03))
        | fail)
      go_ret
      exact ⟨ret_val (congrArg _ (show (19 : Int) = checkZ way pl need order steps least from by rw [HCZ.out]; rfl)), HB0.out.trans (hb03.mono HB0.out.size)⟩
  · obtain ⟨tz, htz⟩ : ∃ tz, tz = taskZ way pl.length need := ⟨_, rfl⟩
    have htz0 : ¬ tz = 0 := by rw [htz]; exact ht
    have HR := hidep (show checkZ way pl need order steps least = tz by unfold checkZ; rw [if_neg ht, htz])
    rw [← htz] at HTA
    clear ht htz
    go_wp2_with (first
      | (go_at_call 37; refine (HTA.out _ (by exact HB0.out)).mono ?_; rintro e w1 ⟨rfl, rfl⟩)
      | fail)
    go_ret
    exact ⟨ret_val (congrArg _ HR.out.symm), HB0.out⟩
end Go.Proofs.Ytfljgcpfmhhgcaa
