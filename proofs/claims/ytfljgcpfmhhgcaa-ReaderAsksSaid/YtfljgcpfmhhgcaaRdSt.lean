/- Contract: the reference's Steps. -/
import Derived.Test.YtfljgcpfmhhgcaaRdCk
namespace Go.Proofs.Ytfljgcpfmhhgcaa
open Go.RowKit Go.Lab
theorem range_map37 (f : Nat → Value) : (List.range 37).map f = [f 0, f 1, f 2, f 3, f 4, f 5, f 6, f 7, f 8, f 9, f 10, f 11, f 12, f 13, f 14, f 15, f 16, f 17, f 18, f 19, f 20, f 21, f 22, f 23, f 24, f 25, f 26, f 27, f 28, f 29, f 30, f 31, f 32, f 33, f 34, f 35, f 36] := rfl
theorem frame37 (t : Array Value) (ds : List Deferred) (h : t.size = 37) : ({ tmps := t, defers := ds } : Act) = { tmps := #[slot t 0, slot t 1, slot t 2, slot t 3, slot t 4, slot t 5, slot t 6, slot t 7, slot t 8, slot t 9, slot t 10, slot t 11, slot t 12, slot t 13, slot t 14, slot t 15, slot t 16, slot t 17, slot t 18, slot t 19, slot t 20, slot t 21, slot t 22, slot t 23, slot t 24, slot t 25, slot t 26, slot t 27, slot t 28, slot t 29, slot t 30, slot t 31, slot t 32, slot t 33, slot t 34, slot t 35, slot t 36], defers := ds } := by
  have e : t = ((List.range 37).map (slot t)).toArray := by
    apply Array.ext
    · simp [h]
    · intro i h1 h2
      simp [slot, Array.getD, h1]
  rw [range_map37] at e
  exact congrArg (fun x => ({ tmps := x, defers := ds } : Act)) e
set_option maxRecDepth 100000 in
set_option maxHeartbeats 20000000 in
theorem steps30_any (way : Int) (pl : List Pl) (order : List Int) (pv ov : Value) (hok : ∀ p ∈ pl, PlOk p) (hmem : ∀ x ∈ order, 0 ≤ x ∧ x < pl.length) (hol : order.length ≤ 1000000) (w : World) (hp : PlacesAt w pv pl) (ho : IntsAt w ov order) :
    Calls Try.prog 26 #[.int .i64 way, pv, ov] w fun e w' => e = .returned (.int .i64 (stepsZ way pl order)) ∧ Below w.heap.size w w' := by
  obtain ⟨a, c, rfl, hca, hma⟩ := hp.form
  obtain ⟨oa, oc, rfl, hco, hmo⟩ := ho.1.form
  unfold maxLen at hma hmo
  have HP := hidep hp
  have HO := hidep ho
  have HMEM := hidep hmem
  have HPL := hidep pl0_ok
  clear hp ho hmem
  go_enter Try.func26, Try.ntmps26
  go_upto_region 4 with (fail)
  obtain ⟨W5, hW5⟩ : ∃ W5, W5 = w.alloc (.cells (plC pl0).toArray 26) := ⟨_, rfl⟩
  have hq5 : W5.heap[w.heap.size]? = some (.cells (plC pl0).toArray 26) := by rw [hW5]; exact heap_alloc_new _ _
  have hb5 : Below w.heap.size w W5 := by rw [hW5]; exact (Below.refl _ _).alloc (Nat.le_refl _) _
  rw [show plC pl0 = [.int .i64 0, .int .i64 0, .int .i64 0, .int .i64 0, .int .i64 0, .int .i64 0] from rfl] at hW5
  rw [← hW5]
  have HB5 := hidep hb5
  clear hW5 hb5
  obtain ⟨FB, hFB⟩ : ∃ FB, FB = w.heap.size := ⟨_, rfl⟩
  rw [← hFB] at hq5 ⊢
  have HFB := hidep hFB
  clear hFB
  refine wp_loop (LoopI 37 (fun tm ds wr => (slot tm 0) = .int .i64 way ∧ (slot tm 1) = .slice a pl.length c ∧ (slot tm 2) = .slice oa order.length oc ∧ (slot tm 8) = .pointer (some ⟨FB, 0, none⟩) ∧ ds = [] ∧ ∃ (k : Nat) (acc : Int) (f : Pl), k ≤ order.length ∧ (slot tm 9) = .int .i64 (k : Nat) ∧ (slot tm 7) = .int .i64 acc ∧ PlOk f ∧ wr.heap[FB]? = some (.cells (plC f).toArray 26) ∧ Turned (fun b => b = FB) W5 wr ∧ Hid (acc + stepsGo way pl f (order.drop k) = stepsZ way pl order) ∧ 0 ≤ acc ∧ acc ≤ 20000000 * k)) (fun a' wr => order.length - (intOf (a'.tmps.getD 9 undef)).toNat) ?mainStart ?mainRound
  case' mainStart => refine LoopI.mk rfl ?_
  case' mainRound => (rintro ⟨t, ds⟩ wr ⟨hts, hrel⟩; dsimp only at hts hrel; rw [frame37 t ds hts])
  case mainStart => exact ⟨rfl, rfl, rfl, rfl, rfl, 0, 0, pl0, Nat.zero_le _, rfl, rfl, HPL.out, hq5, Turned.refl _ _, hidep (by rw [List.drop_zero]; unfold stepsZ; omega), by omega, by omega⟩
  obtain ⟨h0, h1, h2, h8, hds, k, acc, f, hk, h9, h7, hfok, hfb, hTr, HACC, ha0, ha1⟩ := hrel
  subst hds
  rw [h0, h1, h2, h8, h9, h7]
  clear h0 h1 h2 h8 h9 h7 hts
  by_cases hlt : k < order.length
  · have hxm := HMEM.out _ (List.getElem_mem hlt)
    have HDR := hidep (List.drop_eq_getElem_cons hlt)
    obtain ⟨ob, oo, rfl, hob, hox⟩ := ints_get HO.out hlt
    generalize order[k] = x at *
    obtain ⟨pi, rfl⟩ : ∃ pi : Nat, x = (pi : Int) := ⟨x.toNat, by omega⟩
    have hpi : pi < pl.length := by omega
    obtain ⟨pb, po, rfl, hpbl, p0, p1, p2, p3, p4, p5⟩ := PlacesAt.at HP.out hpi
    have hlp : lp pl pi = pl[pi] := lp_get hpi
    have hpk := lp_ok hok pi
    rw [hlp] at hpk
    have HSTEP := hidep (show stepsGo way pl f (order.drop k) = costZ way f pl[pi] + stepsGo way pl pl[pi] (order.drop (k + 1)) by rw [HDR.out, stepsGo, Int.toNat_natCast, hlp])
    clear hlp HDR
    generalize pl[pi] = tq at *
    obtain ⟨t0, t1, t2, t3, t4, t5⟩ := tq
    simp only at p0 p1 p2 p3 p4 p5
    have hpi0 : (0 : Int) ≤ (pi : Int) := by omega
    have hpi1 : (pi : Int) < (pl.length : Int) := by omega
    have hk0 : (0 : Int) ≤ (k : Int) := by omega
    have hk1 : (k : Int) < (order.length : Int) := by omega
    have hlow : ∀ b, b < w.heap.size → ¬ b = FB := fun b hb => by have := HFB.out; omega
    have hWr : ∀ {b o v}, w.cell? ⟨b, o, none⟩ = some v → b < w.heap.size → wr.cell? ⟨b, o, none⟩ = some v := fun hc hb => hTr.cell ((HB5.out.cell (p := ⟨_, _, none⟩) hb).trans hc) (hlow _ hb)
    have g0 := hWr p0 hpbl
    have g1 := hWr p1 hpbl
    have g2 := hWr p2 hpbl
    have g3 := hWr p3 hpbl
    have g4 := hWr p4 hpbl
    have g5 := hWr p5 hpbl
    have gx := hWr hox hob
    have hcb2 := costZ_bd (way := way) hfok hpk
    have HCJ := hidep (fun X => cost30_any way f ⟨t0, t1, t2, t3, t4, t5⟩ X hfok hpk)
    obtain ⟨f0, f1, f2, f3, f4, f5⟩ := f
    obtain ⟨cv, hcv⟩ : ∃ cv, cv = costZ way ⟨f0, f1, f2, f3, f4, f5⟩ ⟨t0, t1, t2, t3, t4, t5⟩ := ⟨_, rfl⟩
    rw [← hcv] at hcb2 HCJ HSTEP
    have hwa : IntKind.i64.wrap (acc + cv) = acc + cv := IntWalk.i64_in _ (by omega)
    have HPK := hidep hpk
    have HFB6 : wr.heap[FB]? = some (.cells #[.int .i64 f0, .int .i64 f1, .int .i64 f2, .int .i64 f3, .int .i64 f4, .int .i64 f5] 26) := hfb
    have HCC := hidep (show ∀ X, Turned (fun _ => False) wr X → X.heap[FB]? = some (.cells #[.int .i64 f0, .int .i64 f1, .int .i64 f2, .int .i64 f3, .int .i64 f4, .int .i64 f5] 26) ∧ X.cell? ⟨pb, po + pi * 6, none⟩ = some (.int .i64 t0) ∧ X.cell? ⟨pb, po + pi * 6 + 1, none⟩ = some (.int .i64 t1) ∧ X.cell? ⟨pb, po + pi * 6 + 2, none⟩ = some (.int .i64 t2) ∧
        X.cell? ⟨pb, po + pi * 6 + 3, none⟩ = some (.int .i64 t3) ∧ X.cell? ⟨pb, po + pi * 6 + 4, none⟩ = some (.int .i64 t4) ∧ X.cell? ⟨pb, po + pi * 6 + 5, none⟩ = some (.int .i64 t5) ∧ X.cell? ⟨ob, oo + k, none⟩ = some (.int .i64 (pi : Nat)) from fun X hX => ⟨hX.cells HFB6 id, hX.cell g0 id, hX.cell g1 id, hX.cell g2 id, hX.cell g3 id, hX.cell g4 id, hX.cell g5 id, hX.cell gx id⟩)
    clear hfb hfok hpk hcv HFB6 g0 g1 g2 g3 g4 g5 gx p0 p1 p2 p3 p4 p5 hWr hox hxm
    go_upto_region 6 with (fail)
    refine wp_region_noPanic (wp_region_held_drew (S := (fun X => Turned (fun _ => False) wr X)) (by kernel_rfl) ?hS26r6n0 (fun hHeld => ?hR26r6n0))
    case hS26r6n0 => ((try dsimp only); (exact (Turned.refl _ _).drew))
    refine wpAnyH_take (i := 0) (v := ?v26r6n0q1) rfl (by kernel_rfl) (by kernel_rfl) (by kernel_rfl) (fun _ _ _ h => h) (Or.inl ⟨by kernel_rfl, ?hy26r6n0q1⟩) (by assumption) ?hr26r6n0q1
    case hy26r6n0q1 => (intro w hSw; (try dsimp only at hSw); (obtain ⟨c9, g0, g1, g2, g3, g4, g5, gx⟩ := HCC.out w hSw; obtain ⟨d0, d1, d2, d3, d4, d5⟩ := box6_cells c9); first | (go_simp; done) | (go_simp; with_reducible rfl))
    refine wpAnyH_take (i := 1) (v := ?v26r6n0q2) rfl (by kernel_rfl) (by kernel_rfl) (by kernel_rfl) (fun _ _ _ h => h) (Or.inl ⟨by kernel_rfl, ?hy26r6n0q2⟩) (by assumption) ?hr26r6n0q2
    case hy26r6n0q2 => (intro w hSw; (try dsimp only at hSw); (obtain ⟨c9, g0, g1, g2, g3, g4, g5, gx⟩ := HCC.out w hSw; obtain ⟨d0, d1, d2, d3, d4, d5⟩ := box6_cells c9); first | (go_simp; done) | (go_simp; with_reducible rfl))
    refine wpAnyH_take (i := 2) (v := ?v26r6n0q3) rfl (by kernel_rfl) (by kernel_rfl) (by kernel_rfl) (fun _ _ _ h => h) (Or.inl ⟨by kernel_rfl, ?hy26r6n0q3⟩) (by assumption) ?hr26r6n0q3
    case hy26r6n0q3 => (intro w hSw; (try dsimp only at hSw); (obtain ⟨c9, g0, g1, g2, g3, g4, g5, gx⟩ := HCC.out w hSw; obtain ⟨d0, d1, d2, d3, d4, d5⟩ := box6_cells c9); first | (go_simp; done) | (go_simp; with_reducible rfl))
    refine wpAnyH_take (i := 3) (v := ?v26r6n0q4) rfl (by kernel_rfl) (by kernel_rfl) (by kernel_rfl) (fun _ _ _ h => h) (Or.inl ⟨by kernel_rfl, ?hy26r6n0q4⟩) (by assumption) ?hr26r6n0q4
    case hy26r6n0q4 => (intro w hSw; (try dsimp only at hSw); (obtain ⟨c9, g0, g1, g2, g3, g4, g5, gx⟩ := HCC.out w hSw; obtain ⟨d0, d1, d2, d3, d4, d5⟩ := box6_cells c9); first | (go_simp; done) | (go_simp; with_reducible rfl))
    refine wpAnyH_take (i := 4) (v := ?v26r6n0q5) rfl (by kernel_rfl) (by kernel_rfl) (by kernel_rfl) (fun _ _ _ h => h) (Or.inl ⟨by kernel_rfl, ?hy26r6n0q5⟩) (by assumption) ?hr26r6n0q5
    case hy26r6n0q5 => (intro w hSw; (try dsimp only at hSw); (obtain ⟨c9, g0, g1, g2, g3, g4, g5, gx⟩ := HCC.out w hSw; obtain ⟨d0, d1, d2, d3, d4, d5⟩ := box6_cells c9); first | (go_simp; done) | (go_simp; with_reducible rfl))
    refine wpAnyH_take (i := 5) (v := ?v26r6n0q6) rfl (by kernel_rfl) (by kernel_rfl) (by kernel_rfl) (fun _ _ _ h => h) (Or.inl ⟨by kernel_rfl, ?hy26r6n0q6⟩) (by assumption) ?hr26r6n0q6
    case hy26r6n0q6 => (intro w hSw; (try dsimp only at hSw); (obtain ⟨c9, g0, g1, g2, g3, g4, g5, gx⟩ := HCC.out w hSw; obtain ⟨d0, d1, d2, d3, d4, d5⟩ := box6_cells c9); first | (go_simp; done) | (go_simp; with_reducible rfl))
    refine wpAnyH_take (i := 6) (v := ?v26r6n0q7) rfl (by kernel_rfl) (by kernel_rfl) (by kernel_rfl) (fun _ _ _ h => h) (Or.inl ⟨by kernel_rfl, ?hy26r6n0q7⟩) (by assumption) ?hr26r6n0q7
    case hy26r6n0q7 => (intro w hSw; (try dsimp only at hSw); (obtain ⟨c9, g0, g1, g2, g3, g4, g5, gx⟩ := HCC.out w hSw; obtain ⟨d0, d1, d2, d3, d4, d5⟩ := box6_cells c9); first | (go_simp; done) | (go_simp; with_reducible rfl))
    refine wpAnyH_take (i := 7) (v := ?v26r6n0q8) rfl (by kernel_rfl) (by kernel_rfl) (by kernel_rfl) (fun _ _ _ h => h) (Or.inl ⟨by kernel_rfl, ?hy26r6n0q8⟩) (by assumption) ?hr26r6n0q8
    case hy26r6n0q8 => (intro w hSw; (try dsimp only at hSw); (obtain ⟨c9, g0, g1, g2, g3, g4, g5, gx⟩ := HCC.out w hSw; obtain ⟨d0, d1, d2, d3, d4, d5⟩ := box6_cells c9); first | (go_simp; done) | (go_simp; with_reducible rfl))
    refine wpAnyH_take (i := 8) (v := ?v26r6n0q9) rfl (by kernel_rfl) (by kernel_rfl) (by kernel_rfl) (fun _ _ _ h => h) (Or.inl ⟨by kernel_rfl, ?hy26r6n0q9⟩) (by assumption) ?hr26r6n0q9
    case hy26r6n0q9 => (intro w hSw; (try dsimp only at hSw); (obtain ⟨c9, g0, g1, g2, g3, g4, g5, gx⟩ := HCC.out w hSw; obtain ⟨d0, d1, d2, d3, d4, d5⟩ := box6_cells c9); first | (go_simp; done) | (go_simp; with_reducible rfl))
    refine wpAnyH_take (i := 9) (v := ?v26r6n0q10) rfl (by kernel_rfl) (by kernel_rfl) (by kernel_rfl) (fun _ _ _ h => h) (Or.inl ⟨by kernel_rfl, ?hy26r6n0q10⟩) (by assumption) ?hr26r6n0q10
    case hy26r6n0q10 => (intro w hSw; (try dsimp only at hSw); (obtain ⟨c9, g0, g1, g2, g3, g4, g5, gx⟩ := HCC.out w hSw; obtain ⟨d0, d1, d2, d3, d4, d5⟩ := box6_cells c9); first | (go_simp; done) | (go_simp; with_reducible rfl))
    refine wpAnyH_ready (rs := [10]) (by kernel_rfl) (by simp) (AllReadyH.cons rfl (fun K hK => ?hc26r6n0q11) AllReadyH.nil)
    go_simp
    (go_at_call 13; refine (HCJ.out _).mono ?_; rintro e w8 ⟨rfl, hb8⟩; (try dsimp only))
    refine hK.out _ _ ?hs26r6n0q11 (fun hHeld26r6n0q11 => ?ht26r6n0q11)
    case hs26r6n0q11 => ((try dsimp only); (first | exact hHeld.below hb8))
    clear hHeld hK
    have hHeld := hHeld26r6n0q11
    clear hHeld26r6n0q11
    refine wpAnyH_take (i := 11) (v := ?v26r6n0q12) rfl (by kernel_rfl) (by kernel_rfl) (by kernel_rfl) (fun _ _ _ h => h) (Or.inl ⟨by kernel_rfl, ?hy26r6n0q12⟩) (by assumption) ?hr26r6n0q12
    case hy26r6n0q12 => (intro w hSw; (try dsimp only at hSw); (obtain ⟨c9, g0, g1, g2, g3, g4, g5, gx⟩ := HCC.out w hSw; obtain ⟨d0, d1, d2, d3, d4, d5⟩ := box6_cells c9); first | (go_simp; done) | (go_simp; with_reducible rfl))
    refine wpAnyH_take (i := 12) (v := ?v26r6n0q13) rfl (by kernel_rfl) (by kernel_rfl) (by kernel_rfl) (fun _ _ _ h => h) (Or.inl ⟨by kernel_rfl, ?hy26r6n0q13⟩) (by assumption) ?hr26r6n0q13
    case hy26r6n0q13 => (intro w hSw; (try dsimp only at hSw); (obtain ⟨c9, g0, g1, g2, g3, g4, g5, gx⟩ := HCC.out w hSw; obtain ⟨d0, d1, d2, d3, d4, d5⟩ := box6_cells c9); first | (go_simp; done) | (go_simp; with_reducible rfl))
    refine wpAnyH_done (by kernel_rfl) ?_ _
    clear hHeld
    refine NoPanic.normal ?_
    have hT8 : Turned (fun _ => False) wr w8 := ((Turned.refl _ _).drew).below hb8
    apply_assumption
    refine wp_cutA 37 (fun tm ds => ds = [] ∧ slot tm 0 = .int .i64 way ∧ slot tm 1 = .slice (some ⟨pb, po, none⟩) pl.length c ∧ slot tm 2 = .slice (some ⟨ob, oo, none⟩) order.length oc ∧ slot tm 8 = .pointer (some ⟨FB, 0, none⟩) ∧ slot tm 9 = .int .i64 (k : Nat) ∧ slot tm 7 = .int .i64 (acc + cv)) (by kernel_rfl) (by exact ⟨by kernel_rfl, by kernel_rfl, by kernel_rfl, by kernel_rfl, by kernel_rfl, by kernel_rfl, by kernel_rfl⟩) ?_
    rintro tm3 ds3 h37 ⟨rfl, e0, e1, e2, e8, e9, e7⟩
    rw [frame37 tm3 [] h37, e0, e1, e2, e8, e9, e7]
    clear h37 e0 e1 e2 e8 e9 e7 hwa
    obtain ⟨c9, g0, g1, g2, g3, g4, g5, gx⟩ := HCC.out w8 hT8
    obtain ⟨d0, d1, d2, d3, d4, d5⟩ := box6_cells c9
    have fr : ∀ j, w8.frozen? ⟨FB, j, none⟩ = false := fun j => by simp [World.frozen?, c9]
    have fr0 := fr 0
    have fr1 := fr 1
    have fr2 := fr 2
    have fr3 := fr 3
    have fr4 := fr 4
    have fr5 := fr 5
    have HNEW := hidep (six_get w8 FB (.int .i64 t0) (.int .i64 t1) (.int .i64 t2) (.int .i64 t3) (.int .i64 t4) (.int .i64 t5) _ _ _ _ _ _ c9)
    have HTN := hidep (show ∀ v0 v1 v2 v3 v4 v5, Turned (fun b => b = FB) W5 ((((((w8.setCell ⟨FB, 0, none⟩ v0).setCell ⟨FB, 1, none⟩ v1).setCell ⟨FB, 2, none⟩ v2).setCell ⟨FB, 3, none⟩ v3).setCell ⟨FB, 4, none⟩ v4).setCell ⟨FB, 5, none⟩ v5) from fun v0 v1 v2 v3 v4 v5 => hTr.trans (((hT8.mono (fun _ _ h => h.elim)).trans ((Turned.refl (fun b => b = FB) w8).set6 FB v0 v1 v2 v3 v4 v5 rfl))))
    clear fr c9 hb8 hT8 hTr
    go_wp2
    refine ⟨LoopI.mk rfl ⟨rfl, rfl, rfl, rfl, rfl, k + 1, acc + cv, ⟨t0, t1, t2, t3, t4, t5⟩, by omega, by show Value.int _ _ = _; go_num, rfl, HPK.out, HNEW.out, HTN.out _ _ _ _ _ _, hidep (by rw [Int.add_assoc, ← HSTEP.out]; exact HACC.out), by omega, by omega⟩, ?_⟩
    show order.length - _ < order.length - _
    simp [intOf]; omega
  · have hkl : k = order.length := by omega
    subst hkl
    have hst : Hid (acc = stepsZ way pl order) := hidep (by
      have := HACC.out
      rw [List.drop_length] at this
      simpa [stepsGo] using this)
    have HBW := hidep (show Below w.heap.size w wr from by
      have h5 := HB5.out
      exact ⟨hTr.os.trans h5.os, hTr.tape.trans h5.tape, hTr.output.trans h5.output, Nat.le_trans h5.size hTr.size, fun b hb => (hTr.block b (Nat.lt_of_lt_of_le hb h5.size) (by have := HFB.out; omega)).trans (h5.block b hb)⟩)
    clear hTr hfb
    go_wp2
    go_ret
    exact ⟨ret_val (congrArg _ hst.out), HBW.out⟩
end Go.Proofs.Ytfljgcpfmhhgcaa
