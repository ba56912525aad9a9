/- Contracts of the small helpers of the reference packages: numbers out of lists, equal lists. -/
import Derived.Test.YtfljgcpfmhhgcaaRdVb
namespace Go.Proofs.Ytfljgcpfmhhgcaa
open Go.RowKit Go.Lab
def aroundZ (n most : Int) : Int := if most < 1 then 0 else (if n < 0 then -(n + 1) else n) % most
theorem aroundZ_rng (n most : Int) (h : 1 ≤ most) : 0 ≤ aroundZ n most ∧ aroundZ n most < most := by
  unfold aroundZ
  rw [if_neg (by omega)]
  exact ⟨Int.emod_nonneg _ (by omega), Int.emod_lt_of_pos _ (by omega)⟩
theorem aroundZ_low {n most : Int} (h : most < 1) : (0 : Int) = aroundZ n most := (if_pos h).symm
theorem aroundZ_neg {n most : Int} (h : 1 ≤ most) (hn : n < 0) : -((n + 1).tmod most) = aroundZ n most := by
  unfold aroundZ
  rw [if_neg (by omega), if_pos hn, ← Int.neg_tmod, Int.tmod_eq_emod_of_nonneg (by omega)]
theorem aroundZ_pos {n most : Int} (h : 1 ≤ most) (hn : 0 ≤ n) : n % most = aroundZ n most := by
  unfold aroundZ
  rw [if_neg (by omega), if_neg (by omega)]
set_option maxHeartbeats 400000 in
theorem around_any (n most : Int) (w : World) (h1 : -9223372036854775808 ≤ n) (h2 : n ≤ 9223372036854775807) :
    Calls Try.prog 15 #[.int .i64 n, .int .i64 most] w fun e w' => e = .returned (.int .i64 (aroundZ n most)) ∧ w = w' := by
  go_enter Try.func15, Try.ntmps15
  go_wp2
  all_goals go_ret
  · exact ⟨ret_val (congrArg _ (aroundZ_low ‹_›)), rfl⟩
  · exact ⟨ret_val (congrArg _ (aroundZ_neg ‹_› ‹_›)), rfl⟩
  · exact ⟨ret_val (congrArg _ (aroundZ_low ‹_›)), rfl⟩
  · exact ⟨ret_val (congrArg _ (aroundZ_pos ‹_› ‹_›)), rfl⟩
def atZ (l : List Int) (i most : Int) : Int := if i < 0 ∨ (l.length : Int) ≤ i then 0 else aroundZ (l.getD i.toNat 0) most
theorem atZ_in {l : List Int} {k : Nat} {most : Int} (h : k < l.length) : aroundZ l[k] most = atZ l (k : Int) most := by
  unfold atZ
  rw [if_neg (by omega)]
  simp [h]
theorem atZ_out {l : List Int} {i most : Int} (h : i < 0 ∨ (l.length : Int) ≤ i) : (0 : Int) = atZ l i most := (if_pos h).symm
theorem atZ_rng (l : List Int) (i most : Int) (h : 1 ≤ most) : 0 ≤ atZ l i most ∧ atZ l i most < most := by
  unfold atZ
  split
  · omega
  · exact aroundZ_rng _ _ h
set_option maxHeartbeats 400000 in
theorem at_any (v : Value) (l : List Int) (i most : Int) (w : World) (h : IntsAt w v l) :
    Calls Try.prog 27 #[v, .int .i64 i, .int .i64 most] w fun e w' => e = .returned (.int .i64 (atZ l i most)) ∧ w = w' := by
  obtain ⟨a, cap, rfl, hc, hm⟩ := h.1.form
  by_cases hin : 0 ≤ i ∧ i < (l.length : Int)
  · obtain ⟨k, rfl⟩ : ∃ k : Nat, i = (k : Int) := ⟨i.toNat, by omega⟩
    have hk : k < l.length := by omega
    obtain ⟨b, off, rfl, hb, hcell⟩ := h.1.at (by omega)
    have hx := hcell k _ (intsC_get l k hk)
    have hr := h.2 l[k] (List.getElem_mem hk)
    obtain ⟨hr1, hr2⟩ := hr
    have HK : Hid (∀ most, aroundZ l[k] most = atZ l (k : Int) most) := hidep (fun _ => atZ_in hk)
    clear hin hcell h
    generalize l[k] = x at *
    go_enter Try.func27, Try.ntmps27
    go_wp2_with (go_at_call 15; refine (around_any _ _ _ (by omega) (by omega)).mono ?_; rintro e w' ⟨rfl, rfl⟩)
    go_ret
    exact ⟨ret_val (congrArg _ (HK.out _)), rfl⟩
  · have hz := atZ_out (l := l) (i := i) (most := most) (by omega)
    have HZ := hidep hz
    clear hz h
    have h1 : i < 0 ∨ (0 ≤ i ∧ (l.length : Int) ≤ i) := by omega
    rcases h1 with h1 | ⟨h0, h1⟩
    all_goals
      go_enter Try.func27, Try.ntmps27
      go_wp2
      go_ret
      exact ⟨ret_val (congrArg _ HZ.out), rfl⟩
set_option maxHeartbeats 1000000 in
theorem sameInts_any (v u : Value) (l m : List Int) (w : World) (hv : IntsAt w v l) (hu : IntsAt w u m) : Calls Try.prog 35 #[v, u] w fun e w' => e = .returned (.bool (decide (l = m))) ∧ ∃ d, w' = w.drewN d := by
  obtain ⟨a, c, rfl, hc, hm⟩ := hv.1.form
  obtain ⟨a2, c2, rfl, hc2, hm2⟩ := hu.1.form
  unfold maxLen at hm hm2
  by_cases hl : l.length = m.length
  · have hn : ((l.length : Int) == (m.length : Int)) = true := by rw [hl]; simp
    go_enter Try.func35, Try.ntmps35
    go_wp2
    go_loopw [5] (fun i wr => ∃ k : Nat, k ≤ l.length ∧ i = .int .i64 k ∧ Hid (decide (l = m) = decide (l.drop k = m.drop k)) ∧ ∃ d, wr = w.drewN d) (fun i _ => l.length - (intOf i).toNat)
    case atStart => exact ⟨0, Nat.zero_le _, rfl, hidep rfl, 0, rfl⟩
    case round =>
      obtain ⟨k, hk, rfl, hg, d, rfl⟩ := hrel
      by_cases hlt : k < l.length
      · obtain ⟨b, off, rfl, hb, hx⟩ := ints_get hv hlt
        obtain ⟨b2, off2, rfl, hb2, hx2⟩ := ints_get hu (by omega : k < m.length)
        have HS := hidep (hg.out.trans (eqZ_step hl hlt))
        have hk0 : (0 : Int) ≤ (k : Int) := by omega
        have hk1 : (k : Int) < (l.length : Int) := by omega
        have hk2 : (k : Int) < (m.length : Int) := by omega
        have HX := hidep hx
        have HX2 := hidep hx2
        clear hx hx2 hv hu hg
        generalize l[k] = x at *
        generalize m[k] = y at *
        have hx := HX.out
        have hx2 := HX2.out
        clear HX HX2
        by_cases hxy : x = y
        · have HR := hidep (HS.out.trans (by rw [decide_eq_true hxy]; rfl : _ = decide (l.drop (k + 1) = m.drop (k + 1))))
          subst hxy
          clear HS
          go_upto_region 6 with (fail)
          go_quiet (fail)
          go_wp2
          go_roundw
          case rel => exact ⟨k + 1, by omega, by go_num, HR, _, rfl⟩
          case measure => simp [intOf]; omega
        · have HR := hidep (HS.out.trans (by rw [decide_eq_false hxy]; rfl : _ = false))
          clear HS
          go_upto_region 6 with (fail)
          go_quiet (fail)
          go_wp2
          go_ret
          exact ⟨ret_val (congrArg _ HR.out.symm), _, by first | rfl | exact World.drewN_drewN ..⟩
      · have hkl : k = l.length := by omega
        subst hkl
        have HR : Hid (decide (l = m) = true) := hidep (by rw [hg.out, List.drop_length, hl, List.drop_length]; rfl)
        clear hv hu hg
        go_wp2
        go_ret
        exact ⟨ret_val (congrArg _ HR.out.symm), _, rfl⟩
  · have HR : Hid (decide (l = m) = false) := hidep (decide_eq_false (fun e => hl (by rw [e])))
    have hn : ((l.length : Int) == (m.length : Int)) = false := beq_false_of_ne (by omega)
    go_enter Try.func35, Try.ntmps35
    clear hv hu hl
    generalize l.length = x at *
    generalize m.length = y at *
    go_wp2
    go_ret
    exact ⟨ret_val (congrArg Value.bool HR.out.symm), 0, rfl⟩
end Go.Proofs.Ytfljgcpfmhhgcaa
