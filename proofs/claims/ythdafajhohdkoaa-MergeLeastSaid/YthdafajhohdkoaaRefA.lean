/- Contracts of the small helpers of the reference packages: numbers out of lists, valid characters, equal texts. -/
import Derived.Test.YthdafajhohdkoaaTypes
namespace Go.Proofs.Ythdafajhohdkoaa
open Go.RowKit Go.Lab
def aroundZ (n most : Int) : Int := if most < 1 then 0 else (if n < 0 then -(n + 1) else n) % most
theorem aroundZ_rng (n most : Int) (h : 1 ≤ most) : 0 ≤ aroundZ n most ∧ aroundZ n most < most := by
  unfold aroundZ
  rw [if_neg (by omega)]
  exact ⟨Int.emod_nonneg _ (by omega), Int.emod_lt_of_pos _ (by omega)⟩
theorem aroundZ_low {n most : Int} (h : most < 1) : (0 : Int) = aroundZ n most := (if_pos h).symm
theorem aroundZ_neg {n most : Int} (h : 1 ≤ most) (hn : n < 0) : -((n + 1).tmod most) = aroundZ n most := by
  unfold aroundZ
  rw [if_neg (by omega), if_pos hn, ← Int.neg_tmod, Int.tmod_eq_emod_of_nonneg (by omega)]
theorem aroundZ_pos {n most : Int} (h : 1 ≤ most) (hn : 0 ≤ n) : n % most = aroundZ n most := by
  unfold aroundZ
  rw [if_neg (by omega), if_neg (by omega)]
set_option maxHeartbeats 400000 in
theorem around_any (n most : Int) (w : World) (h1 : -9223372036854775808 ≤ n) (h2 : n ≤ 9223372036854775807) :
    Calls Try.prog 14 #[.int .i64 n, .int .i64 most] w fun e w' => e = .returned (.int .i64 (aroundZ n most)) ∧ w = w' := by
  go_enter Try.func14, Try.ntmps14
  go_wp2
  all_goals go_ret
  · exact ⟨ret_val (congrArg _ (aroundZ_low ‹_›)), rfl⟩
  · exact ⟨ret_val (congrArg _ (aroundZ_neg ‹_› ‹_›)), rfl⟩
  · exact ⟨ret_val (congrArg _ (aroundZ_low ‹_›)), rfl⟩
  · exact ⟨ret_val (congrArg _ (aroundZ_pos ‹_› ‹_›)), rfl⟩
def atZ (l : List Int) (i most : Int) : Int := if i < 0 ∨ (l.length : Int) ≤ i then 0 else aroundZ (l.getD i.toNat 0) most
theorem atZ_in {l : List Int} {k : Nat} {most : Int} (h : k < l.length) : aroundZ l[k] most = atZ l (k : Int) most := by
  unfold atZ
  rw [if_neg (by omega)]
  simp [h]
theorem atZ_out {l : List Int} {i most : Int} (h : i < 0 ∨ (l.length : Int) ≤ i) : (0 : Int) = atZ l i most := (if_pos h).symm
theorem atZ_rng (l : List Int) (i most : Int) (h : 1 ≤ most) : 0 ≤ atZ l i most ∧ atZ l i most < most := by
  unfold atZ
  split
  · omega
  · exact aroundZ_rng _ _ h
set_option maxHeartbeats 400000 in
theorem at_any (v : Value) (l : List Int) (i most : Int) (w : World) (h : IntsAt w v l) :
    Calls Try.prog 27 #[v, .int .i64 i, .int .i64 most] w fun e w' => e = .returned (.int .i64 (atZ l i most)) ∧ w = w' := by
  obtain ⟨a, cap, rfl, hc, hm⟩ := h.1.form
  by_cases hin : 0 ≤ i ∧ i < (l.length : Int)
  · obtain ⟨k, rfl⟩ : ∃ k : Nat, i = (k : Int) := ⟨i.toNat, by omega⟩
    have hk : k < l.length := by omega
    obtain ⟨b, off, rfl, hb, hcell⟩ := h.1.at (by omega)
    have hx := hcell k _ (intsC_get l k hk)
    have hr := h.2 l[k] (List.getElem_mem hk)
    obtain ⟨hr1, hr2⟩ := hr
    have HK : Hid (∀ most, aroundZ l[k] most = atZ l (k : Int) most) := hidep (fun _ => atZ_in hk)
    clear hin hcell h
    generalize l[k] = x at *
    go_enter Try.func27, Try.ntmps27
    go_wp2_with (go_at_call 14; refine (around_any _ _ _ (by omega) (by omega)).mono ?_; rintro e w' ⟨rfl, rfl⟩)
    go_ret
    exact ⟨ret_val (congrArg _ (HK.out _)), rfl⟩
  · have hz := atZ_out (l := l) (i := i) (most := most) (by omega)
    have HZ := hidep hz
    clear hz h
    have h1 : i < 0 ∨ (0 ≤ i ∧ (l.length : Int) ≤ i) := by omega
    rcases h1 with h1 | ⟨h0, h1⟩
    all_goals
      go_enter Try.func27, Try.ntmps27
      go_wp2
      go_ret
      exact ⟨ret_val (congrArg _ HZ.out), rfl⟩
def writtenB (c : Int) : Bool := decide (32 ≤ c) && decide (c ≤ 126)
set_option maxHeartbeats 400000 in
theorem written_any (c : Int) (w : World) :
    Calls Try.prog 68 #[.int .u8 c] w fun e w' => e = .returned (.bool (writtenB c)) ∧ w = w' := by
  go_enter Try.func68, Try.ntmps68
  go_wp2
  · rename_i h; go_ret; exact ⟨ret_val (by simp [writtenB, h]), rfl⟩
  · rename_i h; go_ret; exact ⟨ret_val (by simp [writtenB]; omega), rfl⟩
def goodB (s : Sym) : Bool := decide (0 ≤ s.lang) && decide (s.lang ≤ 1) && writtenB s.c
theorem all_take_succ {α : Type} (p : α → Bool) (l : List α) (k : Nat) (h : k < l.length) : (l.take (k + 1)).all p = ((l.take k).all p && p l[k]) := by
  rw [List.take_succ_eq_append_getElem h, List.all_append]; simp only [List.all_cons, List.all_nil, Bool.and_true]
theorem all_false_at {α : Type} (p : α → Bool) (l : List α) (k : Nat) (h : k < l.length) (hp : p l[k] = false) : l.all p = false := by
  rw [List.all_eq_false]
  exact ⟨l[k], List.getElem_mem h, by simp [hp]⟩
set_option maxHeartbeats 400000 in
theorem good_any (v : Value) (l : List Sym) (w : World) (h : SymsAt w v l) :
    Calls Try.prog 46 #[v] w fun e w' => e = .returned (.bool (l.all goodB)) ∧ w = w' := by
  obtain ⟨a, cap, rfl, h2, h3⟩ := h.form
  unfold maxLen at h3
  go_enter Try.func46, Try.ntmps46
  go_wp2
  go_loop [3] (fun i => ∃ k : Nat, k ≤ l.length ∧ i = .int .i64 k ∧ Hid ((l.take k).all goodB = true)) (fun i => l.length - (intOf i).toNat)
  case atStart => exact ⟨0, Nat.zero_le _, rfl, rfl⟩
  case round =>
    obtain ⟨k, hk, rfl, hg⟩ := hrel
    by_cases hlt : k < l.length
    · obtain ⟨b, off, rfl, hb, hc1, hc2⟩ := h.at hlt
      have HB : Hid (∀ x, l[k] = x → (l.take (k + 1)).all goodB = goodB x ∧ (goodB x = false → l.all goodB = false)) := by
        rintro x rfl
        refine ⟨by rw [all_take_succ _ _ _ hlt, hg.out]; simp, all_false_at _ _ _ hlt⟩
      have HB := hidep (HB.out _ rfl)
      clear h
      generalize l[k] = x at *
      obtain ⟨lang, c⟩ := x
      simp only at hc1 hc2
      go_wp2_with (go_at_call 68; refine (written_any _ _).mono ?_; rintro e w' ⟨rfl, rfl⟩)
      · have hf : goodB ⟨lang, c⟩ = false := by
          have hw : (lang < 0 ∨ 1 < lang) ∨ (!writtenB c) = true := by assumption
          unfold goodB
          rcases hw with (hw | hw) | hw
          · simp only [Bool.and_eq_false_iff, decide_eq_false_iff_not]; omega
          · simp only [Bool.and_eq_false_iff, decide_eq_false_iff_not]; omega
          · simp only [Bool.not_eq_true'] at hw; simp [hw]
        go_ret
        exact ⟨ret_val (congrArg _ (HB.out.2 hf).symm), rfl⟩
      · have ht : goodB ⟨lang, c⟩ = true := by
          have hw : (0 ≤ lang ∧ lang ≤ 1) ∧ (!writtenB c) = false := by assumption
          unfold goodB
          simpa using hw
        go_round
        case rel => exact ⟨k + 1, by omega, by go_num, hidep (by rw [HB.out.1, ht])⟩
        case measure => simp [intOf]; omega
      · have hf : goodB ⟨lang, c⟩ = false := by
          have hw : 1 < lang := by assumption
          unfold goodB
          simp only [Bool.and_eq_false_iff, decide_eq_false_iff_not]; omega
        go_ret
        exact ⟨ret_val (congrArg _ (HB.out.2 hf).symm), rfl⟩
      · have hf : goodB ⟨lang, c⟩ = false := by
          have hw : lang < 0 := by assumption
          unfold goodB
          simp only [Bool.and_eq_false_iff, decide_eq_false_iff_not]; omega
        go_ret
        exact ⟨ret_val (congrArg _ (HB.out.2 hf).symm), rfl⟩
    · go_wp2
      go_ret
      have hlk : k = l.length := by omega
      subst hlk
      have := hg.out
      rw [List.take_length] at this
      exact ⟨ret_val (congrArg _ this.symm), rfl⟩
end Go.Proofs.Ythdafajhohdkoaa
