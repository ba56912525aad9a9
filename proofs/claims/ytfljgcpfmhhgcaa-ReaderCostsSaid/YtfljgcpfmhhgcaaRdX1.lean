/- The walk of the law ReaderCosts. -/
import Derived.Test.YtfljgcpfmhhgcaaRdPc
namespace Go.Proofs.Ytfljgcpfmhhgcaa
open Go.RowKit Go.Lab
theorem range_map64 (f : Nat → Value) : (List.range 64).map f = [f 0, f 1, f 2, f 3, f 4, f 5, f 6, f 7, f 8, f 9, f 10, f 11, f 12, f 13, f 14, f 15, f 16, f 17, f 18, f 19, f 20, f 21, f 22, f 23, f 24, f 25, f 26, f 27, f 28, f 29, f 30, f 31, f 32, f 33, f 34, f 35, f 36, f 37, f 38, f 39, f 40, f 41, f 42, f 43, f 44, f 45, f 46, f 47, f 48, f 49, f 50, f 51, f 52, f 53, f 54, f 55, f 56, f 57, f 58, f 59, f 60, f 61, f 62, f 63] := rfl
theorem frame64 (t : Array Value) (ds : List Deferred) (h : t.size = 64) : ({ tmps := t, defers := ds } : Act) = { tmps := #[slot t 0, slot t 1, slot t 2, slot t 3, slot t 4, slot t 5, slot t 6, slot t 7, slot t 8, slot t 9, slot t 10, slot t 11, slot t 12, slot t 13, slot t 14, slot t 15, slot t 16, slot t 17, slot t 18, slot t 19, slot t 20, slot t 21, slot t 22, slot t 23, slot t 24, slot t 25, slot t 26, slot t 27, slot t 28, slot t 29, slot t 30, slot t 31, slot t 32, slot t 33, slot t 34, slot t 35, slot t 36, slot t 37, slot t 38, slot t 39, slot t 40, slot t 41, slot t 42, slot t 43, slot t 44, slot t 45, slot t 46, slot t 47, slot t 48, slot t 49, slot t 50, slot t 51, slot t 52, slot t 53, slot t 54, slot t 55, slot t 56, slot t 57, slot t 58, slot t 59, slot t 60, slot t 61, slot t 62, slot t 63], defers := ds } := by
  have e : t = ((List.range 64).map (slot t)).toArray := by
    apply Array.ext
    · simp [h]
    · intro i h1 h2
      simp [slot, Array.getD, h1]
  rw [range_map64] at e
  exact congrArg (fun x => ({ tmps := x, defers := ds } : Act)) e
def plBig : Pl := ⟨0, 0, 0, 1048576, 1048576, 1048576⟩
set_option maxRecDepth 100000 in
set_option maxHeartbeats 20000000 in
theorem lawCosts_any (v : Value) (l : List Int) (way : Int) (w : World) (hl : IntsAt w v l) (hway : -9223372036854775808 ≤ way ∧ way ≤ 9223372036854775807) :
    Calls Try.prog 3 #[v, .int .i64 way] w fun e w' => e = .returned (.bool true) ∧ Below w.heap.size w w' := by
  obtain ⟨a, c, rfl, hca, hma⟩ := hl.1.form
  have HPL := hidep (places30_any _ l false w hl)
  clear hl
  go_enter Try.func3, Try.ntmps3
  go_upto_region 2 with (first
    | (go_at_call 11; refine HPL.out.mono ?_; rintro e w1 ⟨u, L, rfl, hown, hmade, hb1⟩; have hb1s := hb1.size; have hlen : L.length ≤ 9 := hmade.1; have hdr := (Rd.of_own hown).form; obtain ⟨ua, uc, rfl, _, _⟩ := hdr)
    | (at_builtin; refine wpList_append_rd _ rfl (.tmp 11) (.tmp 14) rfl slPlacesR w.heap.size _ _ _ rfl (hown.alloc _) _ _ _ _ rfl (Rd.fresh w1 #[.int .i64 0, .int .i64 0, .int .i64 0, .int .i64 0, .int .i64 0, .int .i64 0, .int .i64 0, .int .i64 0, .int .i64 0, .int .i64 1048576, .int .i64 1048576, .int .i64 1048576] 26 6 2 rfl (by decide)) (by intro u hu; simp at hu; rcases hu with rfl | rfl | rfl | rfl | rfl | rfl | rfl | rfl | rfl | rfl | rfl | rfl <;> rfl) (by unfold maxLen; omega) (by omega) (by simp; omega) ?_; intro v2 w2 hown2 hgr2 hat2 hnl2; clear hat2 hnl2)
    | fail)
  have hb2 : Below w.heap.size w w2 := (hb1.alloc hb1.size _).grown hgr2 (by simp; omega) (fun g hg => (hown.lt g hg).1)
  obtain ⟨L2, hL2⟩ : ∃ L2, L2 = L ++ [pl0, plBig] := ⟨_, rfl⟩
  have hl2 : L2.length = L.length + 2 := by rw [hL2]; simp
  have hok : ∀ p ∈ L2, PlOk p := by
    rw [hL2]
    intro p hp
    rcases List.mem_append.1 hp with h | h
    · exact (hmade.2.1 p h).ok
    · simp only [List.mem_cons, List.not_mem_nil, or_false] at h
      rcases h with rfl | rfl <;> simp [PlOk, pl0, plBig]
  have hpl : PlacesAt w2 v2 L2 := by
    have h := (Rd.of_own hown2).mono (T' := fun _ => True) (fun _ _ => trivial)
    rw [← hl2] at h
    have e : placesC L2 = placesC L ++ [.int .i64 0, .int .i64 0, .int .i64 0, .int .i64 0, .int .i64 0, .int .i64 0, .int .i64 0, .int .i64 0, .int .i64 0, .int .i64 1048576, .int .i64 1048576, .int .i64 1048576] := by rw [hL2, placesC_append]; rfl
    unfold PlacesAt
    rw [e]
    exact h
  have hxl : L2.length ≤ 11 := by omega
  clear hown hown2 hgr2 hmade hL2 hl2 HPL hb1 hb1s hlen
  obtain ⟨xa, xc, rfl, hxc, hxm⟩ := PlacesAt.form hpl
  unfold maxLen at hxm
  obtain ⟨W3, hW3⟩ : ∃ W3, W3 = w2.alloc (.cells #[.int .i64 0, .int .i64 1, .int .i64 2, .int .i64 3, .int .i64 4, .int .i64 (-1), .int .i64 way] 3) := ⟨_, rfl⟩
  have hwl : IntsAt W3 (.slice (some ⟨w2.heap.size, 0, none⟩) 7 7) [0, 1, 2, 3, 4, -1, way] := by
    rw [hW3]
    refine ⟨(Rd.fresh w2 #[.int .i64 0, .int .i64 1, .int .i64 2, .int .i64 3, .int .i64 4, .int .i64 (-1), .int .i64 way] 3 1 7 rfl (by decide)).mono (fun _ _ => trivial), fun x hx => ?_⟩
    simp only [List.mem_cons, List.not_mem_nil, or_false] at hx
    omega
  have hb23 : Below w2.heap.size w2 W3 := by rw [hW3]; exact (Below.refl _ _).alloc (Nat.le_refl _) _
  have HB3 := hidep (hb2.trans (hb23.mono hb2.size))
  have HPX := hidep (hpl.below hb23)
  have HOK := hidep hok
  obtain ⟨WL, hWL⟩ : ∃ WL, WL = [0, 1, 2, 3, 4, -1, way] := ⟨_, rfl⟩
  have hwl7 : WL.length = 7 := by rw [hWL]; rfl
  rw [← hWL] at hwl
  have HWL := hidep hwl
  have HW7 := hidep hwl7
  clear hpl hb23 hb2 hok hwl hWL hwl7 hway
  go_upto_region 4 with (fail)
  rw [← hW3]
  generalize w2.heap.size = wb at *
  clear hW3
  refine wp_loop (LoopI 64 (fun tm ds wr => (slot tm 5) = .slice xa L2.length xc ∧ (slot tm 6) = .slice (some ⟨wb, 0, none⟩) 7 7 ∧ ds = [] ∧ ∃ i : Nat, i ≤ 7 ∧ (slot tm 7) = .int .i64 (i : Nat) ∧ Turned (fun _ => False) W3 wr)) (fun a' wr => 7 - (intOf (a'.tmps.getD 7 undef)).toNat) ?wyStart ?wyRound
  case' wyStart => refine LoopI.mk rfl ?_
  case' wyRound => (rintro ⟨t, ds⟩ wr ⟨hts, hrel⟩; dsimp only at hts hrel; rw [frame64 t ds hts])
  case wyStart => exact ⟨rfl, rfl, rfl, 0, by omega, rfl, Turned.refl _ _⟩
  obtain ⟨h5, h6, hds, i, hi, h7, hTi⟩ := hrel
  subst hds
  rw [h5, h6, h7]
  clear h5 h6 h7 hts
  by_cases hi7 : i < 7
  · have hi0 : (0 : Int) ≤ (i : Int) := by omega
    have hi1 : (i : Int) < 7 := by omega
    obtain ⟨wi, hwi⟩ : ∃ wi : World, wi = wr := ⟨_, rfl⟩
    subst hwi
    go_upto_region 7 with (fail)
    refine wp_loop (LoopI 64 (fun tm ds wr => (slot tm 5) = .slice xa L2.length xc ∧ (slot tm 6) = .slice (some ⟨wb, 0, none⟩) 7 7 ∧ (slot tm 7) = .int .i64 (i : Nat) ∧ ds = [] ∧ ∃ j : Nat, j ≤ L2.length ∧ (slot tm 8) = .int .i64 (j : Nat) ∧ Turned (fun _ => False) W3 wr)) (fun a' wr => L2.length - (intOf (a'.tmps.getD 8 undef)).toNat) ?mdStart ?mdRound
    case' mdStart => refine LoopI.mk rfl ?_
    case' mdRound => (rintro ⟨t, ds⟩ wr ⟨hts, hrel⟩; dsimp only at hts hrel; rw [frame64 t ds hts])
    case mdStart => exact ⟨rfl, rfl, rfl, rfl, 0, by omega, rfl, hTi⟩
    obtain ⟨h5, h6, h7, hds, j, hj, h8, hTj⟩ := hrel
    subst hds
    rw [h5, h6, h7, h8]
    clear h5 h6 h7 h8 hts
    by_cases hjl : j < L2.length
    · have hj0 : (0 : Int) ≤ (j : Int) := by omega
      have hj1 : (j : Int) < (L2.length : Int) := by omega
      obtain ⟨wj, hwj⟩ : ∃ wj : World, wj = wr := ⟨_, rfl⟩
      subst hwj
      go_upto_region 10 with (fail)
      refine wp_loop (LoopI 64 (fun tm ds wr => (slot tm 5) = .slice xa L2.length xc ∧ (slot tm 6) = .slice (some ⟨wb, 0, none⟩) 7 7 ∧ (slot tm 7) = .int .i64 (i : Nat) ∧ (slot tm 8) = .int .i64 (j : Nat) ∧ ds = [] ∧ ∃ k : Nat, k ≤ L2.length ∧ (slot tm 9) = .int .i64 (k : Nat) ∧ Turned (fun _ => False) W3 wr)) (fun a' wr => L2.length - (intOf (a'.tmps.getD 9 undef)).toNat) ?kkStart ?kkRound
      case' kkStart => refine LoopI.mk rfl ?_
      case' kkRound => (rintro ⟨t, ds⟩ wr ⟨hts, hrel⟩; dsimp only at hts hrel; rw [frame64 t ds hts])
      case kkStart => exact ⟨rfl, rfl, rfl, rfl, rfl, 0, by omega, rfl, hTj⟩
      obtain ⟨h5, h6, h7, h8, hds, k, hk, h9, hTk⟩ := hrel
      subst hds
      rw [h5, h6, h7, h8, h9]
      clear h5 h6 h7 h8 h9 hts
      by_cases hkl : k < L2.length
      · have hk0 : (0 : Int) ≤ (k : Int) := by omega
        have hk1 : (k : Int) < (L2.length : Int) := by omega
        have hw' : IntsAt W3 (.slice (some ⟨wb, 0, none⟩) WL.length 7) WL := by rw [HW7.out]; exact HWL.out
        obtain ⟨b0, o0, hwe, _, hwy⟩ := ints_get hw' (by rw [HW7.out]; exact hi7 : i < WL.length)
        injection hwe with hwe
        injection hwe with hx1 hx2
        subst hx1 hx2
        rw [Nat.zero_add] at hwy
        obtain ⟨pb, po, rfl, _, p0, p1, p2, p3, p4, p5⟩ := PlacesAt.at HPX.out hjl
        obtain ⟨pb2, po2, hpe, _, q0, q1, q2, q3, q4, q5⟩ := PlacesAt.at HPX.out hkl
        injection hpe with hpe
        injection hpe with hx1 hx2
        subst hx1 hx2
        have ho1 := HOK.out _ (List.getElem_mem hjl)
        have ho2 := HOK.out _ (List.getElem_mem hkl)
        generalize WL[i]'(by rw [HW7.out]; exact hi7) = y at *
        generalize L2[j] = s at *
        generalize L2[k] = q at *
        obtain ⟨s0, s1, s2, s3, s4, s5⟩ := s
        obtain ⟨t0, t1, t2, t3, t4, t5⟩ := q
        simp only at p0 p1 p2 p3 p4 p5 q0 q1 q2 q3 q4 q5
        have HC1 := hidep (fun X => rcost_any y ⟨s0, s1, s2, s3, s4, s5⟩ ⟨t0, t1, t2, t3, t4, t5⟩ X ho1 ho2)
        have HC2 := hidep (fun X => cost30_any y ⟨s0, s1, s2, s3, s4, s5⟩ ⟨t0, t1, t2, t3, t4, t5⟩ X ho1 ho2)
        obtain ⟨cv, hcv⟩ : ∃ cv, cv = costZ y ⟨s0, s1, s2, s3, s4, s5⟩ ⟨t0, t1, t2, t3, t4, t5⟩ := ⟨_, rfl⟩
        rw [← hcv] at HC1 HC2
        clear hcv
        have HCC := hidep (show ∀ X, Turned (fun _ => False) wr X → X.cell? ⟨wb, i, none⟩ = some (.int .i64 y) ∧ X.cell? ⟨pb, po + j * 6, none⟩ = some (.int .i64 s0) ∧ X.cell? ⟨pb, po + j * 6 + 1, none⟩ = some (.int .i64 s1) ∧ X.cell? ⟨pb, po + j * 6 + 2, none⟩ = some (.int .i64 s2) ∧
            X.cell? ⟨pb, po + j * 6 + 3, none⟩ = some (.int .i64 s3) ∧ X.cell? ⟨pb, po + j * 6 + 4, none⟩ = some (.int .i64 s4) ∧ X.cell? ⟨pb, po + j * 6 + 5, none⟩ = some (.int .i64 s5) from fun X hX => by
          have hh := hTk.trans hX
          exact ⟨hh.cell hwy id, hh.cell p0 id, hh.cell p1 id, hh.cell p2 id, hh.cell p3 id, hh.cell p4 id, hh.cell p5 id⟩)
        have HCD := hidep (show ∀ X, Turned (fun _ => False) wr X → X.cell? ⟨pb, po + k * 6, none⟩ = some (.int .i64 t0) ∧ X.cell? ⟨pb, po + k * 6 + 1, none⟩ = some (.int .i64 t1) ∧ X.cell? ⟨pb, po + k * 6 + 2, none⟩ = some (.int .i64 t2) ∧
            X.cell? ⟨pb, po + k * 6 + 3, none⟩ = some (.int .i64 t3) ∧ X.cell? ⟨pb, po + k * 6 + 4, none⟩ = some (.int .i64 t4) ∧ X.cell? ⟨pb, po + k * 6 + 5, none⟩ = some (.int .i64 t5) from fun X hX => by
          have hh := hTk.trans hX
          exact ⟨hh.cell q0 id, hh.cell q1 id, hh.cell q2 id, hh.cell q3 id, hh.cell q4 id, hh.cell q5 id⟩)
        have HTK := hidep hTk
        have hcc : (cv != cv) = false := by simp
        clear hw' hwy p0 p1 p2 p3 p4 p5 q0 q1 q2 q3 q4 q5 ho1 ho2 hTk hTj hTi
        go_upto_region 12 with (fail)
        refine wp_region_noPanic (wp_region_held_drew (S := (fun X => Turned (fun _ => False) wr X)) (by kernel_rfl) ?hS3r12n0 (fun hHeld => ?hR3r12n0))
        case hS3r12n0 => ((try dsimp only); (exact (Turned.refl _ _).drew))
        refine wpAnyH_take (i := 0) (v := ?v3r12n0q1) rfl (by kernel_rfl) (by kernel_rfl) (by kernel_rfl) (fun _ _ _ h => h) (Or.inl ⟨by kernel_rfl, ?hy3r12n0q1⟩) (by assumption) ?hr3r12n0q1
        case hy3r12n0q1 => (intro w hSw; (try dsimp only at hSw); (obtain ⟨c1, d0, d1, d2, d3, d4, d5⟩ := HCC.out w hSw; obtain ⟨g0, g1, g2, g3, g4, g5⟩ := HCD.out w hSw); first | (go_simp; done) | (go_simp; with_reducible rfl))
        refine wpAnyH_take (i := 1) (v := ?v3r12n0q2) rfl (by kernel_rfl) (by kernel_rfl) (by kernel_rfl) (fun _ _ _ h => h) (Or.inl ⟨by kernel_rfl, ?hy3r12n0q2⟩) (by assumption) ?hr3r12n0q2
        case hy3r12n0q2 => (intro w hSw; (try dsimp only at hSw); (obtain ⟨c1, d0, d1, d2, d3, d4, d5⟩ := HCC.out w hSw; obtain ⟨g0, g1, g2, g3, g4, g5⟩ := HCD.out w hSw); first | (go_simp; done) | (go_simp; with_reducible rfl))
        refine wpAnyH_take (i := 2) (v := ?v3r12n0q3) rfl (by kernel_rfl) (by kernel_rfl) (by kernel_rfl) (fun _ _ _ h => h) (Or.inl ⟨by kernel_rfl, ?hy3r12n0q3⟩) (by assumption) ?hr3r12n0q3
        case hy3r12n0q3 => (intro w hSw; (try dsimp only at hSw); (obtain ⟨c1, d0, d1, d2, d3, d4, d5⟩ := HCC.out w hSw; obtain ⟨g0, g1, g2, g3, g4, g5⟩ := HCD.out w hSw); first | (go_simp; done) | (go_simp; with_reducible rfl))
        refine wpAnyH_take (i := 3) (v := ?v3r12n0q4) rfl (by kernel_rfl) (by kernel_rfl) (by kernel_rfl) (fun _ _ _ h => h) (Or.inl ⟨by kernel_rfl, ?hy3r12n0q4⟩) (by assumption) ?hr3r12n0q4
        case hy3r12n0q4 => (intro w hSw; (try dsimp only at hSw); (obtain ⟨c1, d0, d1, d2, d3, d4, d5⟩ := HCC.out w hSw; obtain ⟨g0, g1, g2, g3, g4, g5⟩ := HCD.out w hSw); first | (go_simp; done) | (go_simp; with_reducible rfl))
        refine wpAnyH_take (i := 4) (v := ?v3r12n0q5) rfl (by kernel_rfl) (by kernel_rfl) (by kernel_rfl) (fun _ _ _ h => h) (Or.inl ⟨by kernel_rfl, ?hy3r12n0q5⟩) (by assumption) ?hr3r12n0q5
        case hy3r12n0q5 => (intro w hSw; (try dsimp only at hSw); (obtain ⟨c1, d0, d1, d2, d3, d4, d5⟩ := HCC.out w hSw; obtain ⟨g0, g1, g2, g3, g4, g5⟩ := HCD.out w hSw); first | (go_simp; done) | (go_simp; with_reducible rfl))
        refine wpAnyH_take (i := 5) (v := ?v3r12n0q6) rfl (by kernel_rfl) (by kernel_rfl) (by kernel_rfl) (fun _ _ _ h => h) (Or.inl ⟨by kernel_rfl, ?hy3r12n0q6⟩) (by assumption) ?hr3r12n0q6
        case hy3r12n0q6 => (intro w hSw; (try dsimp only at hSw); (obtain ⟨c1, d0, d1, d2, d3, d4, d5⟩ := HCC.out w hSw; obtain ⟨g0, g1, g2, g3, g4, g5⟩ := HCD.out w hSw); first | (go_simp; done) | (go_simp; with_reducible rfl))
        refine wpAnyH_take (i := 6) (v := ?v3r12n0q7) rfl (by kernel_rfl) (by kernel_rfl) (by kernel_rfl) (fun _ _ _ h => h) (Or.inl ⟨by kernel_rfl, ?hy3r12n0q7⟩) (by assumption) ?hr3r12n0q7
        case hy3r12n0q7 => (intro w hSw; (try dsimp only at hSw); (obtain ⟨c1, d0, d1, d2, d3, d4, d5⟩ := HCC.out w hSw; obtain ⟨g0, g1, g2, g3, g4, g5⟩ := HCD.out w hSw); first | (go_simp; done) | (go_simp; with_reducible rfl))
        refine wpAnyH_take (i := 7) (v := ?v3r12n0q8) rfl (by kernel_rfl) (by kernel_rfl) (by kernel_rfl) (fun _ _ _ h => h) (Or.inl ⟨by kernel_rfl, ?hy3r12n0q8⟩) (by assumption) ?hr3r12n0q8
        case hy3r12n0q8 => (intro w hSw; (try dsimp only at hSw); (obtain ⟨c1, d0, d1, d2, d3, d4, d5⟩ := HCC.out w hSw; obtain ⟨g0, g1, g2, g3, g4, g5⟩ := HCD.out w hSw); first | (go_simp; done) | (go_simp; with_reducible rfl))
        refine wpAnyH_take (i := 8) (v := ?v3r12n0q9) rfl (by kernel_rfl) (by kernel_rfl) (by kernel_rfl) (fun _ _ _ h => h) (Or.inl ⟨by kernel_rfl, ?hy3r12n0q9⟩) (by assumption) ?hr3r12n0q9
        case hy3r12n0q9 => (intro w hSw; (try dsimp only at hSw); (obtain ⟨c1, d0, d1, d2, d3, d4, d5⟩ := HCC.out w hSw; obtain ⟨g0, g1, g2, g3, g4, g5⟩ := HCD.out w hSw); first | (go_simp; done) | (go_simp; with_reducible rfl))
        refine wpAnyH_take (i := 9) (v := ?v3r12n0q10) rfl (by kernel_rfl) (by kernel_rfl) (by kernel_rfl) (fun _ _ _ h => h) (Or.inl ⟨by kernel_rfl, ?hy3r12n0q10⟩) (by assumption) ?hr3r12n0q10
        case hy3r12n0q10 => (intro w hSw; (try dsimp only at hSw); (obtain ⟨c1, d0, d1, d2, d3, d4, d5⟩ := HCC.out w hSw; obtain ⟨g0, g1, g2, g3, g4, g5⟩ := HCD.out w hSw); first | (go_simp; done) | (go_simp; with_reducible rfl))
        refine wpAnyH_take (i := 10) (v := ?v3r12n0q11) rfl (by kernel_rfl) (by kernel_rfl) (by kernel_rfl) (fun _ _ _ h => h) (Or.inl ⟨by kernel_rfl, ?hy3r12n0q11⟩) (by assumption) ?hr3r12n0q11
        case hy3r12n0q11 => (intro w hSw; (try dsimp only at hSw); (obtain ⟨c1, d0, d1, d2, d3, d4, d5⟩ := HCC.out w hSw; obtain ⟨g0, g1, g2, g3, g4, g5⟩ := HCD.out w hSw); first | (go_simp; done) | (go_simp; with_reducible rfl))
        refine wpAnyH_take (i := 11) (v := ?v3r12n0q12) rfl (by kernel_rfl) (by kernel_rfl) (by kernel_rfl) (fun _ _ _ h => h) (Or.inl ⟨by kernel_rfl, ?hy3r12n0q12⟩) (by assumption) ?hr3r12n0q12
        case hy3r12n0q12 => (intro w hSw; (try dsimp only at hSw); (obtain ⟨c1, d0, d1, d2, d3, d4, d5⟩ := HCC.out w hSw; obtain ⟨g0, g1, g2, g3, g4, g5⟩ := HCD.out w hSw); first | (go_simp; done) | (go_simp; with_reducible rfl))
        refine wpAnyH_take (i := 13) (v := ?v3r12n0q13) rfl (by kernel_rfl) (by kernel_rfl) (by kernel_rfl) (fun _ _ _ h => h) (Or.inl ⟨by kernel_rfl, ?hy3r12n0q13⟩) (by assumption) ?hr3r12n0q13
        case hy3r12n0q13 => (intro w hSw; (try dsimp only at hSw); (obtain ⟨c1, d0, d1, d2, d3, d4, d5⟩ := HCC.out w hSw; obtain ⟨g0, g1, g2, g3, g4, g5⟩ := HCD.out w hSw); first | (go_simp; done) | (go_simp; with_reducible rfl))
        refine wpAnyH_take (i := 14) (v := ?v3r12n0q14) rfl (by kernel_rfl) (by kernel_rfl) (by kernel_rfl) (fun _ _ _ h => h) (Or.inl ⟨by kernel_rfl, ?hy3r12n0q14⟩) (by assumption) ?hr3r12n0q14
        case hy3r12n0q14 => (intro w hSw; (try dsimp only at hSw); (obtain ⟨c1, d0, d1, d2, d3, d4, d5⟩ := HCC.out w hSw; obtain ⟨g0, g1, g2, g3, g4, g5⟩ := HCD.out w hSw); first | (go_simp; done) | (go_simp; with_reducible rfl))
        refine wpAnyH_take (i := 15) (v := ?v3r12n0q15) rfl (by kernel_rfl) (by kernel_rfl) (by kernel_rfl) (fun _ _ _ h => h) (Or.inl ⟨by kernel_rfl, ?hy3r12n0q15⟩) (by assumption) ?hr3r12n0q15
        case hy3r12n0q15 => (intro w hSw; (try dsimp only at hSw); (obtain ⟨c1, d0, d1, d2, d3, d4, d5⟩ := HCC.out w hSw; obtain ⟨g0, g1, g2, g3, g4, g5⟩ := HCD.out w hSw); first | (go_simp; done) | (go_simp; with_reducible rfl))
        refine wpAnyH_take (i := 16) (v := ?v3r12n0q16) rfl (by kernel_rfl) (by kernel_rfl) (by kernel_rfl) (fun _ _ _ h => h) (Or.inl ⟨by kernel_rfl, ?hy3r12n0q16⟩) (by assumption) ?hr3r12n0q16
        case hy3r12n0q16 => (intro w hSw; (try dsimp only at hSw); (obtain ⟨c1, d0, d1, d2, d3, d4, d5⟩ := HCC.out w hSw; obtain ⟨g0, g1, g2, g3, g4, g5⟩ := HCD.out w hSw); first | (go_simp; done) | (go_simp; with_reducible rfl))
        refine wpAnyH_take (i := 17) (v := ?v3r12n0q17) rfl (by kernel_rfl) (by kernel_rfl) (by kernel_rfl) (fun _ _ _ h => h) (Or.inl ⟨by kernel_rfl, ?hy3r12n0q17⟩) (by assumption) ?hr3r12n0q17
        case hy3r12n0q17 => (intro w hSw; (try dsimp only at hSw); (obtain ⟨c1, d0, d1, d2, d3, d4, d5⟩ := HCC.out w hSw; obtain ⟨g0, g1, g2, g3, g4, g5⟩ := HCD.out w hSw); first | (go_simp; done) | (go_simp; with_reducible rfl))
        refine wpAnyH_take (i := 18) (v := ?v3r12n0q18) rfl (by kernel_rfl) (by kernel_rfl) (by kernel_rfl) (fun _ _ _ h => h) (Or.inl ⟨by kernel_rfl, ?hy3r12n0q18⟩) (by assumption) ?hr3r12n0q18
        case hy3r12n0q18 => (intro w hSw; (try dsimp only at hSw); (obtain ⟨c1, d0, d1, d2, d3, d4, d5⟩ := HCC.out w hSw; obtain ⟨g0, g1, g2, g3, g4, g5⟩ := HCD.out w hSw); first | (go_simp; done) | (go_simp; with_reducible rfl))
        refine wpAnyH_take (i := 19) (v := ?v3r12n0q19) rfl (by kernel_rfl) (by kernel_rfl) (by kernel_rfl) (fun _ _ _ h => h) (Or.inl ⟨by kernel_rfl, ?hy3r12n0q19⟩) (by assumption) ?hr3r12n0q19
        case hy3r12n0q19 => (intro w hSw; (try dsimp only at hSw); (obtain ⟨c1, d0, d1, d2, d3, d4, d5⟩ := HCC.out w hSw; obtain ⟨g0, g1, g2, g3, g4, g5⟩ := HCD.out w hSw); first | (go_simp; done) | (go_simp; with_reducible rfl))
        refine wpAnyH_take (i := 20) (v := ?v3r12n0q20) rfl (by kernel_rfl) (by kernel_rfl) (by kernel_rfl) (fun _ _ _ h => h) (Or.inl ⟨by kernel_rfl, ?hy3r12n0q20⟩) (by assumption) ?hr3r12n0q20
        case hy3r12n0q20 => (intro w hSw; (try dsimp only at hSw); (obtain ⟨c1, d0, d1, d2, d3, d4, d5⟩ := HCC.out w hSw; obtain ⟨g0, g1, g2, g3, g4, g5⟩ := HCD.out w hSw); first | (go_simp; done) | (go_simp; with_reducible rfl))
        refine wpAnyH_take (i := 21) (v := ?v3r12n0q21) rfl (by kernel_rfl) (by kernel_rfl) (by kernel_rfl) (fun _ _ _ h => h) (Or.inl ⟨by kernel_rfl, ?hy3r12n0q21⟩) (by assumption) ?hr3r12n0q21
        case hy3r12n0q21 => (intro w hSw; (try dsimp only at hSw); (obtain ⟨c1, d0, d1, d2, d3, d4, d5⟩ := HCC.out w hSw; obtain ⟨g0, g1, g2, g3, g4, g5⟩ := HCD.out w hSw); first | (go_simp; done) | (go_simp; with_reducible rfl))
        refine wpAnyH_take (i := 22) (v := ?v3r12n0q22) rfl (by kernel_rfl) (by kernel_rfl) (by kernel_rfl) (fun _ _ _ h => h) (Or.inl ⟨by kernel_rfl, ?hy3r12n0q22⟩) (by assumption) ?hr3r12n0q22
        case hy3r12n0q22 => (intro w hSw; (try dsimp only at hSw); (obtain ⟨c1, d0, d1, d2, d3, d4, d5⟩ := HCC.out w hSw; obtain ⟨g0, g1, g2, g3, g4, g5⟩ := HCD.out w hSw); first | (go_simp; done) | (go_simp; with_reducible rfl))
        refine wpAnyH_take (i := 23) (v := ?v3r12n0q23) rfl (by kernel_rfl) (by kernel_rfl) (by kernel_rfl) (fun _ _ _ h => h) (Or.inl ⟨by kernel_rfl, ?hy3r12n0q23⟩) (by assumption) ?hr3r12n0q23
        case hy3r12n0q23 => (intro w hSw; (try dsimp only at hSw); (obtain ⟨c1, d0, d1, d2, d3, d4, d5⟩ := HCC.out w hSw; obtain ⟨g0, g1, g2, g3, g4, g5⟩ := HCD.out w hSw); first | (go_simp; done) | (go_simp; with_reducible rfl))
        refine wpAnyH_take (i := 24) (v := ?v3r12n0q24) rfl (by kernel_rfl) (by kernel_rfl) (by kernel_rfl) (fun _ _ _ h => h) (Or.inl ⟨by kernel_rfl, ?hy3r12n0q24⟩) (by assumption) ?hr3r12n0q24
        case hy3r12n0q24 => (intro w hSw; (try dsimp only at hSw); (obtain ⟨c1, d0, d1, d2, d3, d4, d5⟩ := HCC.out w hSw; obtain ⟨g0, g1, g2, g3, g4, g5⟩ := HCD.out w hSw); first | (go_simp; done) | (go_simp; with_reducible rfl))
        refine wpAnyH_ready (rs := [12]) (by kernel_rfl) (by simp) (AllReadyH.cons rfl (fun K hK => ?hc3r12n0q25) AllReadyH.nil)
        go_simp
        (go_at_call 12; refine (HC1.out _).mono ?_; rintro e w8 ⟨rfl, hb8⟩; (try dsimp only))
        refine hK.out _ _ ?hs3r12n0q25 (fun hHeld3r12n0q25 => ?ht3r12n0q25)
        case hs3r12n0q25 => ((try dsimp only); (first | exact hHeld.below hb9 | exact hHeld.below hb8))
        clear hHeld hK
        have hHeld := hHeld3r12n0q25
        clear hHeld3r12n0q25
        refine wpAnyH_ready (rs := [25]) (by kernel_rfl) (by simp) (AllReadyH.cons rfl (fun K hK => ?hc3r12n0q26) AllReadyH.nil)
        go_simp
        (go_at_call 13; refine (HC2.out _).mono ?_; rintro e w9 ⟨rfl, hb9⟩; (try dsimp only))
        refine hK.out _ _ ?hs3r12n0q26 (fun hHeld3r12n0q26 => ?ht3r12n0q26)
        case hs3r12n0q26 => ((try dsimp only); (first | exact hHeld.below hb9 | exact hHeld.below hb8))
        clear hHeld hK
        have hHeld := hHeld3r12n0q26
        clear hHeld3r12n0q26
        refine wpAnyH_take (i := 26) (v := ?v3r12n0q27) rfl (by kernel_rfl) (by kernel_rfl) (by kernel_rfl) (fun _ _ _ h => h) (Or.inl ⟨by kernel_rfl, ?hy3r12n0q27⟩) (by assumption) ?hr3r12n0q27
        case hy3r12n0q27 => (intro w hSw; (try dsimp only at hSw); (obtain ⟨c1, d0, d1, d2, d3, d4, d5⟩ := HCC.out w hSw; obtain ⟨g0, g1, g2, g3, g4, g5⟩ := HCD.out w hSw); first | (go_simp; done) | (go_simp; with_reducible rfl))
        refine wpAnyH_done (by kernel_rfl) ?_ _
        clear hHeld
        refine NoPanic.normal ?_
        have hT9 : Turned (fun _ => False) wr w9 := (((Turned.refl _ _).drew).below hb8).below hb9
        apply_assumption
        refine wp_cutA 64 (fun tm ds => ds = [] ∧ slot tm 5 = .slice (some ⟨pb, po, none⟩) L2.length xc ∧ slot tm 6 = .slice (some ⟨wb, 0, none⟩) 7 7 ∧ slot tm 7 = .int .i64 (i : Nat) ∧ slot tm 8 = .int .i64 (j : Nat) ∧ slot tm 9 = .int .i64 (k : Nat) ∧ slot tm 62 = .bool false) (by kernel_rfl) (by exact ⟨by kernel_rfl, by kernel_rfl, by kernel_rfl, by kernel_rfl, by kernel_rfl, by kernel_rfl, by first | kernel_rfl | (rw [← hcc]; kernel_rfl)⟩) ?_
        rintro tm3 ds3 h64 ⟨rfl, e5, e6, e7, e8, e9, e62⟩
        rw [frame64 tm3 [] h64, e5, e6, e7, e8, e9, e62]
        clear h64 e5 e6 e7 e8 e9 e62 hb8 hb9
        have hT39 := HTK.out.trans hT9
        clear hT9
        go_wp2
        refine ⟨LoopI.mk rfl ⟨rfl, rfl, rfl, rfl, rfl, k + 1, by omega, by show Value.int _ _ = _; go_num, hT39⟩, ?_⟩
        show L2.length - _ < L2.length - _
        simp [intOf]; omega
      · have hkk : k = L2.length := by omega
        clear hkk
        go_wp2
        refine ⟨LoopI.mk rfl ⟨rfl, rfl, rfl, rfl, j + 1, by omega, by show Value.int _ _ = _; go_num, hTk⟩, ?_⟩
        show L2.length - _ < L2.length - _
        simp [intOf]; omega
    · go_wp2
      refine ⟨LoopI.mk rfl ⟨rfl, rfl, rfl, i + 1, by omega, by show Value.int _ _ = _; go_num, hTj⟩, ?_⟩
      show 7 - _ < 7 - _
      simp [intOf]; omega
  · go_wp2_with (first
      | (go_at_call 14; refine (lives_any _).mono ?_; rintro e w5 ⟨rfl, hb5⟩)
      | fail)
    go_ret
    have h3 := hTi.toBelow
    exact ⟨rfl, (HB3.out.trans (h3.mono HB3.out.size)).trans (hb5.mono (by have := HB3.out.size; have := h3.size; omega))⟩
end Go.Proofs.Ytfljgcpfmhhgcaa
