/- Contracts of the small helpers of the reference packages: numbers out of lists, valid characters, equal texts. -/
import Derived.Test.YtcfjepcflanjbaaGreatBi01
import Derived.Test.YtcfjepcflanjbaaGreatBi02
namespace Go.Proofs.YtcfjepcflanjbaaGreat
open Go.RowKit Go.Lab
def aroundZ (n most : Int) : Int := if most < 1 then 0 else (if n < 0 then -(n + 1) else n) % most
theorem aroundZ_rng (n most : Int) (h : 1 ≤ most) : 0 ≤ aroundZ n most ∧ aroundZ n most < most := by
  unfold aroundZ
  rw [if_neg (by omega)]
  exact ⟨Int.emod_nonneg _ (by omega), Int.emod_lt_of_pos _ (by omega)⟩
theorem aroundZ_low {n most : Int} (h : most < 1) : (0 : Int) = aroundZ n most := (if_pos h).symm
theorem aroundZ_neg {n most : Int} (h : 1 ≤ most) (hn : n < 0) : -((n + 1).tmod most) = aroundZ n most := by
  unfold aroundZ
  rw [if_neg (by omega), if_pos hn, ← Int.neg_tmod, Int.tmod_eq_emod_of_nonneg (by omega)]
theorem aroundZ_pos {n most : Int} (h : 1 ≤ most) (hn : 0 ≤ n) : n % most = aroundZ n most := by
  unfold aroundZ
  rw [if_neg (by omega), if_neg (by omega)]
set_option maxHeartbeats 400000 in
theorem around_any (n most : Int) (w : World) (h1 : -9223372036854775808 ≤ n) (h2 : n ≤ 9223372036854775807) :
    Calls Tryz.prog 9 #[.int .i64 n, .int .i64 most] w fun e w' => e = .returned (.int .i64 (aroundZ n most)) ∧ w = w' := by
  go_enter Tryz.func9, Tryz.ntmps9
  go_wp2
  all_goals go_ret
  · exact ⟨ret_val (congrArg _ (aroundZ_low ‹_›)), rfl⟩
  · exact ⟨ret_val (congrArg _ (aroundZ_neg ‹_› ‹_›)), rfl⟩
  · exact ⟨ret_val (congrArg _ (aroundZ_low ‹_›)), rfl⟩
  · exact ⟨ret_val (congrArg _ (aroundZ_pos ‹_› ‹_›)), rfl⟩
def atZ (l : List Int) (i most : Int) : Int := if i < 0 ∨ (l.length : Int) ≤ i then 0 else aroundZ (l.getD i.toNat 0) most
theorem atZ_in {l : List Int} {k : Nat} {most : Int} (h : k < l.length) : aroundZ l[k] most = atZ l (k : Int) most := by
  unfold atZ
  rw [if_neg (by omega)]
  simp [h]
theorem atZ_out {l : List Int} {i most : Int} (h : i < 0 ∨ (l.length : Int) ≤ i) : (0 : Int) = atZ l i most := (if_pos h).symm
theorem atZ_rng (l : List Int) (i most : Int) (h : 1 ≤ most) : 0 ≤ atZ l i most ∧ atZ l i most < most := by
  unfold atZ
  split
  · omega
  · exact aroundZ_rng _ _ h
set_option maxHeartbeats 400000 in
theorem at_any (v : Value) (l : List Int) (i most : Int) (w : World) (h : IntsAt w v l) :
    Calls Tryz.prog 27 #[v, .int .i64 i, .int .i64 most] w fun e w' => e = .returned (.int .i64 (atZ l i most)) ∧ w = w' := by
  obtain ⟨a, cap, rfl, hc, hm⟩ := h.1.form
  by_cases hin : 0 ≤ i ∧ i < (l.length : Int)
  · obtain ⟨k, rfl⟩ : ∃ k : Nat, i = (k : Int) := ⟨i.toNat, by omega⟩
    have hk : k < l.length := by omega
    obtain ⟨b, off, rfl, hb, hcell⟩ := h.1.at (by omega)
    have hx := hcell k _ (intsC_get l k hk)
    have hr := h.2 l[k] (List.getElem_mem hk)
    obtain ⟨hr1, hr2⟩ := hr
    have HK : Hid (∀ most, aroundZ l[k] most = atZ l (k : Int) most) := hidep (fun _ => atZ_in hk)
    clear hin hcell h
    generalize l[k] = x at *
    go_enter Tryz.func27, Tryz.ntmps27
    go_wp2_with (go_at_call 9; refine (around_any _ _ _ (by omega) (by omega)).mono ?_; rintro e w' ⟨rfl, rfl⟩)
    go_ret
    exact ⟨ret_val (congrArg _ (HK.out _)), rfl⟩
  · have hz := atZ_out (l := l) (i := i) (most := most) (by omega)
    have HZ := hidep hz
    clear hz h
    have h1 : i < 0 ∨ (0 ≤ i ∧ (l.length : Int) ≤ i) := by omega
    rcases h1 with h1 | ⟨h0, h1⟩
    all_goals
      go_enter Tryz.func27, Tryz.ntmps27
      go_wp2
      go_ret
      exact ⟨ret_val (congrArg _ HZ.out), rfl⟩
def writtenB (c : Int) : Bool := decide (32 ≤ c) && decide (c ≤ 126)
set_option maxHeartbeats 400000 in
theorem written_any (c : Int) (w : World) :
    Calls Tryz.prog 94 #[.int .u8 c] w fun e w' => e = .returned (.bool (writtenB c)) ∧ w = w' := by
  go_enter Tryz.func94, Tryz.ntmps94
  go_wp2
  · rename_i h; go_ret; exact ⟨ret_val (by simp [writtenB, h]), rfl⟩
  · rename_i h; go_ret; exact ⟨ret_val (by simp [writtenB]; omega), rfl⟩
def goodB (s : Sym) : Bool := decide (0 ≤ s.lang) && decide (s.lang ≤ 1) && writtenB s.c
theorem all_take_succ {α : Type} (p : α → Bool) (l : List α) (k : Nat) (h : k < l.length) : (l.take (k + 1)).all p = ((l.take k).all p && p l[k]) := by
  rw [List.take_succ_eq_append_getElem h, List.all_append]; simp only [List.all_cons, List.all_nil, Bool.and_true]
theorem all_false_at {α : Type} (p : α → Bool) (l : List α) (k : Nat) (h : k < l.length) (hp : p l[k] = false) : l.all p = false := by
  rw [List.all_eq_false]
  exact ⟨l[k], List.getElem_mem h, by simp [hp]⟩
set_option maxHeartbeats 400000 in
theorem good_any (v : Value) (l : List Sym) (w : World) (h : SymsAt w v l) :
    Calls Tryz.prog 54 #[v] w fun e w' => e = .returned (.bool (l.all goodB)) ∧ w = w' := by
  obtain ⟨a, cap, rfl, h2, h3⟩ := h.form
  unfold maxLen at h3
  go_enter Tryz.func54, Tryz.ntmps54
  go_wp2
  go_loop [3] (fun i => ∃ k : Nat, k ≤ l.length ∧ i = .int .i64 k ∧ Hid ((l.take k).all goodB = true)) (fun i => l.length - (intOf i).toNat)
  case atStart => exact ⟨0, Nat.zero_le _, rfl, rfl⟩
  case round =>
    obtain ⟨k, hk, rfl, hg⟩ := hrel
    by_cases hlt : k < l.length
    · obtain ⟨b, off, rfl, hb, hc1, hc2⟩ := h.at hlt
      have HB : Hid (∀ x, l[k] = x → (l.take (k + 1)).all goodB = goodB x ∧ (goodB x = false → l.all goodB = false)) := by
        rintro x rfl
        refine ⟨by rw [all_take_succ _ _ _ hlt, hg.out]; simp, all_false_at _ _ _ hlt⟩
      have HB := hidep (HB.out _ rfl)
      clear h
      generalize l[k] = x at *
      obtain ⟨lang, c⟩ := x
      simp only at hc1 hc2
      go_wp2_with (go_at_call 94; refine (written_any _ _).mono ?_; rintro e w' ⟨rfl, rfl⟩)
      · have hf : goodB ⟨lang, c⟩ = false := by
          have hw : (lang < 0 ∨ 1 < lang) ∨ (!writtenB c) = true := by assumption
          unfold goodB
          rcases hw with (hw | hw) | hw
          · simp only [Bool.and_eq_false_iff, decide_eq_false_iff_not]; omega
          · simp only [Bool.and_eq_false_iff, decide_eq_false_iff_not]; omega
          · simp only [Bool.not_eq_true'] at hw; simp [hw]
        go_ret
        exact ⟨ret_val (congrArg _ (HB.out.2 hf).symm), rfl⟩
      · have ht : goodB ⟨lang, c⟩ = true := by
          have hw : (0 ≤ lang ∧ lang ≤ 1) ∧ (!writtenB c) = false := by assumption
          unfold goodB
          simpa using hw
        go_round
        case rel => exact ⟨k + 1, by omega, by go_num, hidep (by rw [HB.out.1, ht])⟩
        case measure => simp [intOf]; omega
      · have hf : goodB ⟨lang, c⟩ = false := by
          have hw : 1 < lang := by assumption
          unfold goodB
          simp only [Bool.and_eq_false_iff, decide_eq_false_iff_not]; omega
        go_ret
        exact ⟨ret_val (congrArg _ (HB.out.2 hf).symm), rfl⟩
      · have hf : goodB ⟨lang, c⟩ = false := by
          have hw : lang < 0 := by assumption
          unfold goodB
          simp only [Bool.and_eq_false_iff, decide_eq_false_iff_not]; omega
        go_ret
        exact ⟨ret_val (congrArg _ (HB.out.2 hf).symm), rfl⟩
    · go_wp2
      go_ret
      have hlk : k = l.length := by omega
      subst hlk
      have := hg.out
      rw [List.take_length] at this
      exact ⟨ret_val (congrArg _ this.symm), rfl⟩
end Go.Proofs.YtcfjepcflanjbaaGreat
/- Contracts: a rule is right, on both sides. -/
namespace Go.Proofs.YtcfjepcflanjbaaGreat
open Go.RowKit Go.Lab Go.Shelf
set_option maxHeartbeats 400000 in
theorem containsFuncB_any (f : FuncId) (p : Int → Bool) (ef : ∀ args w, (callFunc f args).run Tryz.prog w = .ok (.enter f args) w) (hf : ∀ x W, 0 ≤ x → x < 256 → Calls Tryz.prog f #[.int .u8 x] W fun e w' => e = .returned (.bool (!p x)) ∧ w' = W)
    (v : Value) (l : List Int) (w : World) (h : BysAt w v l) :
    Calls Tryz.prog 98 #[v, .func (.func f) #[] #[]] w fun e w' => e = .returned (.bool (!l.all p)) ∧ w' = w := by
  have HI := hidep (indexFuncB_any f p ef hf v l w h)
  clear h hf
  go_enter Tryz.func98, Tryz.ntmps98
  go_wp2_with fail
  refine HI.out.mono ?_
  rintro e w1 ⟨⟨k, rfl, hk⟩, rfl⟩
  go_wp2
  go_ret
  exact ⟨ret_val (congrArg Value.bool hk.out), rfl⟩
theorem cellsT_any (v : Value) (l : List Int) (w : World) (h : BysAt w v l) : Calls Tryz.prog 60 #[v] w fun e w' => e = .returned (.bool (l.all cellB)) ∧ w' = w := by
  have HI := hidep (containsFuncB_any 99 cellB (fun args w => by kernel_rfl) (fun x W _ _ => cells1_any x W) v l w h)
  clear h
  go_enter Tryz.func60, Tryz.ntmps60
  go_wp2_with fail
  refine HI.out.mono ?_
  rintro e w1 ⟨rfl, rfl⟩
  go_wp2
  go_ret
  exact ⟨ret_val (congrArg Value.bool (by simp)), rfl⟩
set_option maxHeartbeats 400000 in
theorem indicator_any (v : Value) (l : List Int) (w : World) (h : BysAt w v l) : Calls Tryz.prog 61 #[v] w fun e w' => e = .returned (.bool (cellsB l 1 4)) ∧ w' = w := by
  have HI := hidep (cellsT_any v l w h)
  obtain ⟨a, cap, rfl, h2, h3⟩ := h.1.form
  unfold maxLen at h3
  clear h
  obtain ⟨n, hn⟩ : ∃ n, n = l.length := ⟨_, rfl⟩
  have HT := hidep (show cellsB l 1 4 = (l.all cellB && (decide (1 ≤ n) && decide (n ≤ 4))) from by rw [hn]; rfl)
  rw [← hn] at HI h2 ⊢
  clear hn
  generalize l.all cellB = ab at *
  go_enter Tryz.func61, Tryz.ntmps61
  by_cases g1 : 1 ≤ n
  · have g1i : (n : Int) ≥ 1 := by omega
    by_cases g2 : n ≤ 4
    · have g2i : (n : Int) ≤ 4 := by omega
      have HT2 := hidep (HT.out.trans (by rw [decide_eq_true g1, decide_eq_true g2, Bool.and_self, Bool.and_true]))
      go_wp2_with (go_at_call 60; refine HI.out.mono ?_; rintro e w1 ⟨rfl, rfl⟩)
      go_ret
      exact ⟨by rw [HT2.out]; rfl, rfl⟩
    · have g2i : ¬ (n : Int) ≤ 4 := by omega
      have HT2 := hidep (HT.out.trans (by rw [decide_eq_true g1, decide_eq_false g2, Bool.and_false, Bool.and_false]))
      go_wp2
      go_ret
      exact ⟨by rw [HT2.out]; rfl, rfl⟩
  · have g1i : ¬ (n : Int) ≥ 1 := by omega
    have HT2 := hidep (HT.out.trans (by rw [decide_eq_false g1, Bool.false_and, Bool.and_false]))
    go_wp2
    go_ret
    exact ⟨by rw [HT2.out]; rfl, rfl⟩
set_option maxHeartbeats 1000000 in
theorem cellsR_any (v : Value) (l : List Int) (lo hi : Nat) (w : World) (h : BysAt w v l) : Calls Tryz.prog 69 #[v, .int .i64 (lo : Nat), .int .i64 (hi : Nat)] w fun e w' => e = .returned (.bool (cellsB l lo hi)) ∧ w' = w := by
  obtain ⟨a, cap, rfl, hn2, hn3⟩ := h.1.form
  unfold maxLen at hn3
  have HB := hidep (show ∀ b, l.all cellB = b → cellsB l lo hi = (b && (decide (lo ≤ l.length) && decide (l.length ≤ hi))) from fun b hb => by unfold cellsB; rw [hb])
  go_enter Tryz.func69, Tryz.ntmps69
  go_upto_region 2 with (fail)
  go_loopw [7] (fun iv wr => ∃ k : Nat, k ≤ l.length ∧ iv = .int .i64 (k : Nat) ∧ Hid ((l.take k).all cellB = true) ∧ wr = w) (fun iv _ => l.length - (intOf iv).toNat)
  case atStart => exact ⟨0, Nat.zero_le _, rfl, hidep rfl, rfl⟩
  case round =>
    obtain ⟨k, hk, rfl, hg, rfl⟩ := hrel
    by_cases hlt : k < l.length
    · obtain ⟨b, off, rfl, hb, hc, hx1, hx2⟩ := h.at hlt
      have HT := hidep (takeAll cellB l k hlt hg.out)
      have HF := hidep (allFalse cellB l k hlt)
      obtain ⟨y, hy⟩ : ∃ y, y = l[k] := ⟨_, rfl⟩
      rw [← hy] at hc hx1 hx2 HT HF
      clear hy h
      by_cases hl : 1 ≤ y
      · by_cases hu : y ≤ 63
        · have hyb : cellB y = true := by simp [cellB, hl, hu]
          have HG := hidep (HT.out.trans hyb)
          clear hyb
          go_wp2
          go_roundw
          case rel => exact ⟨k + 1, by omega, by go_num, HG, trivial⟩
          case measure => simp [intOf]; omega
        · have hyb : cellB y = false := by simp [cellB, hu]
          have HG := hidep (HB.out _ (HF.out hyb))
          clear hyb
          go_wp2
          go_ret
          exact ⟨by rw [HG.out]; rfl, rfl⟩
      · have hyb : cellB y = false := by simp [cellB, hl]
        have HG := hidep (HB.out _ (HF.out hyb))
        clear hyb
        go_wp2
        go_ret
        exact ⟨by rw [HG.out]; rfl, rfl⟩
    · have hkl : k = l.length := by omega
      have hA := hg.out
      rw [hkl, List.take_length] at hA
      have HA := hidep (HB.out _ hA)
      clear hA
      by_cases g1 : lo ≤ l.length
      · have g1i : (l.length : Int) ≥ (lo : Int) := by omega
        by_cases g2 : l.length ≤ hi
        · have g2i : (l.length : Int) ≤ (hi : Int) := by omega
          have HT2 := hidep (HA.out.trans (by rw [decide_eq_true g1, decide_eq_true g2]; rfl : _ = true))
          go_wp2
          go_ret
          exact ⟨by rw [HT2.out]; rfl, rfl⟩
        · have g2i : ¬ (l.length : Int) ≤ (hi : Int) := by omega
          have HT2 := hidep (HA.out.trans (by rw [decide_eq_true g1, decide_eq_false g2]; rfl : _ = false))
          go_wp2
          go_ret
          exact ⟨by rw [HT2.out]; rfl, rfl⟩
      · have g1i : ¬ (l.length : Int) ≥ (lo : Int) := by omega
        have HT2 := hidep (HA.out.trans (by rw [decide_eq_false g1]; rfl : _ = false))
        go_wp2
        go_ret
        exact ⟨by rw [HT2.out]; rfl, rfl⟩
end Go.Proofs.YtcfjepcflanjbaaGreat
