/- The maker of examinations: Decimal from 10 on. -/
import Derived.Test.YtfljgcpfmhhgcaaRdMb
import Derived.Laws.BytesString
import Derived.Test.YtfljgcpfmhhgcaaRdJ
import Derived.Laws.Concat
namespace Go.Proofs.Ytfljgcpfmhhgcaa
open Go.RowKit Go.Lab
attribute [local go_sem] Oper.semAt_some
set_option maxRecDepth 100000
theorem conv1 (W : World) (B : Nat) (x : Int) (h : W.cell? ⟨B, 0, none⟩ = some (.int .u8 x)) : ∃ s : ByteArray, s.size = 1 ∧ (convert 155 9 (.slice (some ⟨B, 0, none⟩) 1 1)).run Try.prog W = .ok (.string s) W := by
  refine ⟨[x].foldl (fun r n => r.push (UInt8.ofNat n.toNat)) ByteArray.empty, by simp [ByteArray.size_push], ?_⟩
  rw [run_convert_bytes_string (P := Try.prog) W 155 9 5 _ _ _ (by kernel_rfl) (by kernel_rfl) (by kernel_rfl)]
  exact run_bytesToString (P := Try.prog) W ⟨B, 0, none⟩ 1 1 [x] (by go_simp)
set_option maxHeartbeats 2000000 in
theorem dec_base (n : Int) (w : World) (h0 : 0 ≤ n) (h1 : n < 10) : Calls Try.prog 76 #[.int .i64 n] w fun e w' => (∃ s : ByteArray, e = .returned (.string s) ∧ s.size ≤ 1) ∧ Below w.heap.size w w' := by
  have HB := hidep (fun o => (Below.refl w.heap.size w).alloc (Nat.le_refl _) o)
  obtain ⟨s, hs, hcv⟩ := conv1 (w.alloc (.cells #[.int .u8 (48 + n)] 5)) w.heap.size (48 + n) (box1_cell (heap_alloc_new _ _))
  have HS := hidep hs
  clear hs
  go_enter Try.func76, Try.ntmps76
  go_wp2
  go_ret
  exact ⟨⟨_, rfl, by rw [HS.out]; exact Nat.le_refl _⟩, HB.out _⟩
theorem lower_drew {B : Nat} {a W : World} (h : Below B a W.drew) : Below B a W := ⟨h.os, h.tape, h.output, h.size, h.block⟩
set_option maxHeartbeats 20000000 in
theorem dec_step (n : Int) (m : Nat) (hm : m < 100) (w : World) (h1 : 10 ≤ n) (h2 : n < 1000)
    (IH : ∀ w, Calls Try.prog 76 #[.int .i64 (n / 10)] w fun e w' => (∃ s : ByteArray, e = .returned (.string s) ∧ s.size ≤ m) ∧ Below w.heap.size w w') :
    Calls Try.prog 76 #[.int .i64 n] w fun e w' => (∃ s : ByteArray, e = .returned (.string s) ∧ s.size ≤ m + 1) ∧ Below w.heap.size w w' := by
  have HI := hidep IH
  have hge : ¬ n < 10 := by omega
  have hq : Int.tdiv n 10 = n / 10 := Int.tdiv_eq_ediv_of_nonneg (by omega)
  have hqw : IntKind.i64.wrap (n / 10) = n / 10 := IntWalk.i64_in _ (by omega)
  clear IH
  go_enter Try.func76, Try.ntmps76
  go_upto_region 3 with (fail)
  refine wp_region_noPanic (wp_region_held_drew (S := (fun Y => Below w.heap.size w Y)) (by kernel_rfl) ?hS76r3n0 (fun hHeld => ?hR76r3n0))
  case hS76r3n0 => ((try dsimp only); (first | exact Below.refl _ _ | exact (Below.refl _ _).drew))
  refine wpAnyH_take (i := 0) (v := ?v76r3n0q1) rfl (by kernel_rfl) (by kernel_rfl) (by kernel_rfl) (fun _ _ _ h => h) (Or.inl ⟨by kernel_rfl, ?hy76r3n0q1⟩) (by assumption) ?hr76r3n0q1
  case hy76r3n0q1 => (intro w hSw; (try dsimp only at hSw); (skip); first | (go_simp; done) | (go_simp; with_reducible rfl))
  refine wpAnyH_take (i := 1) (v := ?v76r3n0q2) rfl (by kernel_rfl) (by kernel_rfl) (by kernel_rfl) (fun _ _ _ h => h) (Or.inl ⟨by kernel_rfl, ?hy76r3n0q2⟩) (by assumption) ?hr76r3n0q2
  case hy76r3n0q2 => (intro w hSw; (try dsimp only at hSw); (skip); first | (go_simp; done) | (go_simp; with_reducible rfl))
  refine wpAnyH_take (i := 3) (v := ?v76r3n0q3) rfl (by kernel_rfl) (by kernel_rfl) (by kernel_rfl) (fun _ _ _ h => h) (Or.inl ⟨by kernel_rfl, ?hy76r3n0q3⟩) (by assumption) ?hr76r3n0q3
  case hy76r3n0q3 => (intro w hSw; (try dsimp only at hSw); (skip); first | (go_simp; done) | (go_simp; with_reducible rfl))
  refine wpAnyH_take (i := 4) (v := ?v76r3n0q4) rfl (by kernel_rfl) (by kernel_rfl) (by kernel_rfl) (fun _ _ _ h => h) (Or.inl ⟨by kernel_rfl, ?hy76r3n0q4⟩) (by assumption) ?hr76r3n0q4
  case hy76r3n0q4 => (intro w hSw; (try dsimp only at hSw); (skip); first | (go_simp; done) | (go_simp; with_reducible rfl))
  refine wpAnyH_take (i := 5) (v := ?v76r3n0q5) rfl (by kernel_rfl) (by kernel_rfl) (by kernel_rfl) (fun _ _ _ h => h) (Or.inl ⟨by kernel_rfl, ?hy76r3n0q5⟩) (by assumption) ?hr76r3n0q5
  case hy76r3n0q5 => (intro w hSw; (try dsimp only at hSw); (skip); first | (go_simp; done) | (go_simp; with_reducible rfl))
  refine wpAnyH_take (i := 6) (v := ?v76r3n0q6) rfl (by kernel_rfl) (by kernel_rfl) (by kernel_rfl) (fun _ _ _ h => h) (Or.inl ⟨by kernel_rfl, ?hy76r3n0q6⟩) (by assumption) ?hr76r3n0q6
  case hy76r3n0q6 => (intro w hSw; (try dsimp only at hSw); (skip); first | (go_simp; done) | (go_simp; with_reducible rfl))
  refine wpAnyH_ready (rs := [2, 7]) (by kernel_rfl) (by simp) (AllReadyH.cons rfl (fun K hK => ?hc76r3n0q7) (AllReadyH.cons rfl (fun K hK => ?hc76r3n0q8) AllReadyH.nil))
  case' hc76r3n0q7 =>
    go_simp
    (go_at_call 76; refine (HI.out _).mono ?_; rintro e wt ⟨⟨s12, rfl, hs12⟩, hbt⟩; have hk := (by first | exact hHeld.trans (hbt.mono hHeld.size) | exact (lower_drew hHeld).trans (hbt.mono hHeld.size) : Below w.heap.size w wt); (first | (have hLX := below_push hbt hLX; obtain ⟨s18, hs18, hcv⟩ := conv1 _ _ _ (box1_cell hLX); have hadd := (show ¬ 9223372036854775807 < s12.size + 1 from by omega)) | skip); (try dsimp only))
    refine hK.out _ _ ?hs76r3n0q7 (fun hHeld76r3n0q7 => ?ht76r3n0q7)
    case hs76r3n0q7 => ((try dsimp only); (first | (with_reducible exact hHeld) | exact hk | exact hk.drew))
    clear hHeld hK
    have hHeld := hHeld76r3n0q7
    clear hHeld76r3n0q7
    refine wpAnyH_ready (rs := [7]) (by kernel_rfl) (by simp) (AllReadyH.cons rfl (fun K hK => ?hc76r3n0q9) AllReadyH.nil)
    go_simp
    ((first | refine intro_alloc (fun X17 hBX hLX => ?_) | refine intro_alloc_drew (fun X17 hBX hLX => ?_)); have hk := (by first | exact hHeld.trans (hBX.mono hHeld.size) | exact (lower_drew hHeld).trans (hBX.mono hHeld.size) : Below w.heap.size w X17); obtain ⟨s18, hs18, hcv⟩ := conv1 _ _ _ (box1_cell hLX); (first | (have hadd := (show ¬ 9223372036854775807 < s12.size + 1 from by omega)) | skip); (try dsimp only))
    refine hK.out _ _ ?hs76r3n0q9 (fun hHeld76r3n0q9 => ?ht76r3n0q9)
    case hs76r3n0q9 => ((try dsimp only); (first | (with_reducible exact hHeld) | exact hk | exact hk.drew))
    clear hHeld hK
    have hHeld := hHeld76r3n0q9
    clear hHeld76r3n0q9
    refine wpAnyH_ready (rs := [8]) (by kernel_rfl) (by simp) (AllReadyH.cons rfl (fun K hK => ?hc76r3n0q10) AllReadyH.nil)
    go_simp
    ((first | (have hadd := (show ¬ 9223372036854775807 < s12.size + 1 from by omega)) | skip); (try dsimp only))
    refine hK.out _ _ ?hs76r3n0q10 (fun hHeld76r3n0q10 => ?ht76r3n0q10)
    case hs76r3n0q10 => ((try dsimp only); (first | (with_reducible exact hHeld) | exact hk | exact hk.drew))
    clear hHeld hK
    have hHeld := hHeld76r3n0q10
    clear hHeld76r3n0q10
    refine wpAnyH_take (i := 9) (v := ?v76r3n0q11) rfl (by kernel_rfl) (by kernel_rfl) (by kernel_rfl) (fun _ _ _ h => h) (Or.inl ⟨by kernel_rfl, ?hy76r3n0q11⟩) (by assumption) ?hr76r3n0q11
    case hy76r3n0q11 => (intro w hSw; (try dsimp only at hSw); (skip); first | (go_simp; done) | (go_simp; with_reducible rfl))
    refine wpAnyH_take (i := 10) (v := ?v76r3n0q12) rfl (by kernel_rfl) (by kernel_rfl) (by kernel_rfl) (fun _ _ _ h => h) (Or.inl ⟨by kernel_rfl, ?hy76r3n0q12⟩) (by assumption) ?hr76r3n0q12
    case hy76r3n0q12 => (intro w hSw; (try dsimp only at hSw); (skip); first | (go_simp; done) | (go_simp; with_reducible rfl))
    refine wpAnyH_done (by kernel_rfl) ?_ _
    clear hHeld
    refine NoPanic.normal ?_
  case' hc76r3n0q8 =>
    go_simp
    ((first | refine intro_alloc (fun X17 hBX hLX => ?_) | refine intro_alloc_drew (fun X17 hBX hLX => ?_)); have hk := (by first | exact hHeld.trans (hBX.mono hHeld.size) | exact (lower_drew hHeld).trans (hBX.mono hHeld.size) : Below w.heap.size w X17); obtain ⟨s18, hs18, hcv⟩ := conv1 _ _ _ (box1_cell hLX); (first | (have hadd := (show ¬ 9223372036854775807 < s12.size + 1 from by omega)) | skip); (try dsimp only))
    refine hK.out _ _ ?hs76r3n0q8 (fun hHeld76r3n0q8 => ?ht76r3n0q8)
    case hs76r3n0q8 => ((try dsimp only); (first | (with_reducible exact hHeld) | exact hk | exact hk.drew))
    clear hHeld hK
    have hHeld := hHeld76r3n0q8
    clear hHeld76r3n0q8
    refine wpAnyH_ready (rs := [2, 8]) (by kernel_rfl) (by simp) (AllReadyH.cons rfl (fun K hK => ?hc76r3n0q13) (AllReadyH.cons rfl (fun K hK => ?hc76r3n0q14) AllReadyH.nil))
    case' hc76r3n0q13 =>
      go_simp
      (go_at_call 76; refine (HI.out _).mono ?_; rintro e wt ⟨⟨s12, rfl, hs12⟩, hbt⟩; have hk := (by first | exact hHeld.trans (hbt.mono hHeld.size) | exact (lower_drew hHeld).trans (hbt.mono hHeld.size) : Below w.heap.size w wt); (first | (have hLX := below_push hbt hLX; obtain ⟨s18, hs18, hcv⟩ := conv1 _ _ _ (box1_cell hLX); have hadd := (show ¬ 9223372036854775807 < s12.size + 1 from by omega)) | skip); (try dsimp only))
      refine hK.out _ _ ?hs76r3n0q13 (fun hHeld76r3n0q13 => ?ht76r3n0q13)
      case hs76r3n0q13 => ((try dsimp only); (first | (with_reducible exact hHeld) | exact hk | exact hk.drew))
      clear hHeld hK
      have hHeld := hHeld76r3n0q13
      clear hHeld76r3n0q13
      refine wpAnyH_ready (rs := [8]) (by kernel_rfl) (by simp) (AllReadyH.cons rfl (fun K hK => ?hc76r3n0q15) AllReadyH.nil)
      go_simp
      ((first | (have hadd := (show ¬ 9223372036854775807 < s12.size + 1 from by omega)) | skip); (try dsimp only))
      refine hK.out _ _ ?hs76r3n0q15 (fun hHeld76r3n0q15 => ?ht76r3n0q15)
      case hs76r3n0q15 => ((try dsimp only); (first | (with_reducible exact hHeld) | exact hk | exact hk.drew))
      clear hHeld hK
      have hHeld := hHeld76r3n0q15
      clear hHeld76r3n0q15
      refine wpAnyH_take (i := 9) (v := ?v76r3n0q16) rfl (by kernel_rfl) (by kernel_rfl) (by kernel_rfl) (fun _ _ _ h => h) (Or.inl ⟨by kernel_rfl, ?hy76r3n0q16⟩) (by assumption) ?hr76r3n0q16
      case hy76r3n0q16 => (intro w hSw; (try dsimp only at hSw); (skip); first | (go_simp; done) | (go_simp; with_reducible rfl))
      refine wpAnyH_take (i := 10) (v := ?v76r3n0q17) rfl (by kernel_rfl) (by kernel_rfl) (by kernel_rfl) (fun _ _ _ h => h) (Or.inl ⟨by kernel_rfl, ?hy76r3n0q17⟩) (by assumption) ?hr76r3n0q17
      case hy76r3n0q17 => (intro w hSw; (try dsimp only at hSw); (skip); first | (go_simp; done) | (go_simp; with_reducible rfl))
      refine wpAnyH_done (by kernel_rfl) ?_ _
      clear hHeld
      refine NoPanic.normal ?_
    case' hc76r3n0q14 =>
      go_simp
      ((first | (have hadd := (show ¬ 9223372036854775807 < s12.size + 1 from by omega)) | skip); (try dsimp only))
      refine hK.out _ _ ?hs76r3n0q14 (fun hHeld76r3n0q14 => ?ht76r3n0q14)
      case hs76r3n0q14 => ((try dsimp only); (first | (with_reducible exact hHeld) | exact hk | exact hk.drew))
      clear hHeld hK
      have hHeld := hHeld76r3n0q14
      clear hHeld76r3n0q14
      refine wpAnyH_ready (rs := [2]) (by kernel_rfl) (by simp) (AllReadyH.cons rfl (fun K hK => ?hc76r3n0q18) AllReadyH.nil)
      go_simp
      (go_at_call 76; refine (HI.out _).mono ?_; rintro e wt ⟨⟨s12, rfl, hs12⟩, hbt⟩; have hk := (by first | exact hHeld.trans (hbt.mono hHeld.size) | exact (lower_drew hHeld).trans (hbt.mono hHeld.size) : Below w.heap.size w wt); (first | (have hLX := below_push hbt hLX; obtain ⟨s18, hs18, hcv⟩ := conv1 _ _ _ (box1_cell hLX); have hadd := (show ¬ 9223372036854775807 < s12.size + 1 from by omega)) | skip); (try dsimp only))
      refine hK.out _ _ ?hs76r3n0q18 (fun hHeld76r3n0q18 => ?ht76r3n0q18)
      case hs76r3n0q18 => ((try dsimp only); (first | (with_reducible exact hHeld) | exact hk | exact hk.drew))
      clear hHeld hK
      have hHeld := hHeld76r3n0q18
      clear hHeld76r3n0q18
      refine wpAnyH_take (i := 9) (v := ?v76r3n0q19) rfl (by kernel_rfl) (by kernel_rfl) (by kernel_rfl) (fun _ _ _ h => h) (Or.inl ⟨by kernel_rfl, ?hy76r3n0q19⟩) (by assumption) ?hr76r3n0q19
      case hy76r3n0q19 => (intro w hSw; (try dsimp only at hSw); (skip); first | (go_simp; done) | (go_simp; with_reducible rfl))
      refine wpAnyH_take (i := 10) (v := ?v76r3n0q20) rfl (by kernel_rfl) (by kernel_rfl) (by kernel_rfl) (fun _ _ _ h => h) (Or.inl ⟨by kernel_rfl, ?hy76r3n0q20⟩) (by assumption) ?hr76r3n0q20
      case hy76r3n0q20 => (intro w hSw; (try dsimp only at hSw); (skip); first | (go_simp; done) | (go_simp; with_reducible rfl))
      refine wpAnyH_done (by kernel_rfl) ?_ _
      clear hHeld
      refine NoPanic.normal ?_
  all_goals
    (try dsimp only [Exit.inBlock, Exit.then])
    go_wp2
    go_ret
    exact ⟨⟨_, rfl, by simp [ByteArray.size_append]; omega⟩, by first | exact hk | exact hk.drew⟩
theorem dec_any (n : Int) (w : World) (h0 : 0 ≤ n) (h1 : n < 1000) : Calls Try.prog 76 #[.int .i64 n] w fun e w' => (∃ s : ByteArray, e = .returned (.string s)) ∧ Below w.heap.size w w' := by
  have hone := fun (n : Int) (h0 : 0 ≤ n) (h1 : n < 10) (w : World) => dec_base n w h0 h1
  have htwo : ∀ n : Int, 0 ≤ n → n < 100 → ∀ w, Calls Try.prog 76 #[.int .i64 n] w fun e w' => (∃ s : ByteArray, e = .returned (.string s) ∧ s.size ≤ 2) ∧ Below w.heap.size w w' := fun n h0 h1 w => by
    by_cases h : n < 10
    · exact (hone n h0 h w).mono fun e w' ⟨⟨s, h1, h2⟩, h3⟩ => ⟨⟨s, h1, by omega⟩, h3⟩
    · exact dec_step n 1 (by omega) w (by omega) (by omega) (hone (n / 10) (by omega) (by omega))
  by_cases h : n < 100
  · exact (htwo n h0 h w).mono fun e w' ⟨⟨s, h1, h2⟩, h3⟩ => ⟨⟨s, h1⟩, h3⟩
  · exact (dec_step n 2 (by omega) w (by omega) h1 (htwo (n / 10) (by omega) (by omega))).mono fun e w' ⟨⟨s, h1, h2⟩, h3⟩ => ⟨⟨s, h1⟩, h3⟩
end Go.Proofs.Ytfljgcpfmhhgcaa
