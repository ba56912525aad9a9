/- Contracts of package merge: valid characters, texts, valid edits. -/
import Derived.Test.YthdafajhohdkoaaLiftB
namespace Go.Proofs.Ythdafajhohdkoaa
open Go.RowKit Go.Lab
set_option maxHeartbeats 400000 in
theorem msym_any (lang c : Int) (w : World) :
    Calls Try.prog 71 #[.agg #[.int .i64 lang, .int .u8 c]] w fun e w' => e = .returned (.bool (goodB ⟨lang, c⟩)) ∧ Below w.heap.size w w' := by
  have HB := hidep (show ∀ l, Below w.heap.size w (w.alloc (.cells #[.int .i64 l, .int .u8 c] 34)) from fun l => (Below.refl _ _).alloc (Nat.le_refl _) _)
  have HR : Hid (∀ (lang : Int) (b : Bool), ((((lang = 0 ∨ lang = 1) ∧ 32 ≤ c ∧ c ≤ 126) ↔ b = true)) → b = goodB ⟨lang, c⟩) := hidep (fun lang b hb => by
    rw [Bool.eq_iff_iff, ← hb]; simp only [goodB, writtenB, Bool.and_eq_true, decide_eq_true_eq]; omega)
  go_enter Try.func71, Try.ntmps71
  go_wp2
  all_goals
    go_ret
    refine ⟨ret_val (congrArg Value.bool (HR.out _ _ ?_)), HB.out _⟩
    simp
    try omega
set_option maxHeartbeats 400000 in
theorem mtext1_any (lang c : Int) (w : World) :
    Calls Try.prog 70 #[.agg #[.int .i64 lang, .int .u8 c]] w fun e w' => e = .returned (.bool (!goodB ⟨lang, c⟩)) ∧ Below w.heap.size w w' := by
  have hb : Below w.heap.size w (w.alloc (.cells #[.int .i64 lang, .int .u8 c] 34)) := (Below.refl _ _).alloc (Nat.le_refl _) _
  have HB := hidep hb
  clear hb
  go_enter Try.func70, Try.ntmps70
  go_wp2_with (go_at_call 71; refine (msym_any _ _ _).mono ?_; rintro e w1 ⟨rfl, hb1⟩)
  go_ret
  exact ⟨rfl, HB.out.trans (hb1.mono (by simp))⟩
set_option maxHeartbeats 400000 in
theorem indexFunc_mtext (v : Value) (l : List Sym) (w : World) (h : SymsAt w v l) :
    Calls Try.prog 81 #[v, .func (.func 70) #[] #[]] w fun e w' => (∃ k : Int, e = .returned (.int .i64 k) ∧ Hid (decide (0 ≤ k) = !l.all goodB)) ∧ Below w.heap.size w w' := by
  obtain ⟨a, cap, rfl, h2, h3⟩ := h.form
  unfold maxLen at h3
  go_enter Try.func81, Try.ntmps81
  go_wp2
  go_loopw [8] (fun i wr => ∃ k : Nat, k ≤ l.length ∧ i = .int .i64 k ∧ Hid ((l.take k).all goodB = true) ∧ Below w.heap.size w wr) (fun i _ => l.length - (intOf i).toNat)
  case atStart => exact ⟨0, Nat.zero_le _, rfl, hidep rfl, Below.refl _ _⟩
  case round =>
    obtain ⟨k, hk, rfl, hg, hbw⟩ := hrel
    by_cases hlt : k < l.length
    · obtain ⟨b, off, rfl, hb, hc1, hc2⟩ := (h.below hbw).at hlt
      have HB : Hid (∀ x, l[k] = x → (l.take (k + 1)).all goodB = goodB x ∧ (goodB x = false → l.all goodB = false)) := by
        rintro x rfl
        refine ⟨by rw [all_take_succ _ _ _ hlt, hg.out]; simp, all_false_at _ _ _ hlt⟩
      have HB := hidep (HB.out _ rfl)
      clear h
      generalize l[k] = x at *
      obtain ⟨lang, c⟩ := x
      simp only at hc1 hc2
      go_wp2_with (go_at_call 70; refine (mtext1_any _ _ _).mono ?_; rintro e w1 ⟨rfl, hb1⟩)
      · have hf : goodB ⟨lang, c⟩ = false := by
          have hw : (!goodB ⟨lang, c⟩) = true := by assumption
          simpa using hw
        go_ret
        exact ⟨⟨_, rfl, hidep (by rw [HB.out.2 hf]; simp; try omega)⟩, hbw.trans (hb1.mono hbw.size)⟩
      · have ht : goodB ⟨lang, c⟩ = true := by
          have hw : (!goodB ⟨lang, c⟩) = false := by assumption
          simpa using hw
        go_roundw
        case rel => exact ⟨k + 1, by omega, by go_num, hidep (by rw [HB.out.1, ht]), hbw.trans (hb1.mono hbw.size)⟩
        case measure => simp [intOf]; omega
    · go_wp2
      go_ret
      have hkl : k = l.length := by omega
      subst hkl
      have := hg.out
      rw [List.take_length] at this
      exact ⟨⟨_, rfl, hidep (by rw [this]; rfl)⟩, hbw⟩
set_option maxHeartbeats 400000 in
theorem containsFunc_mtext (v : Value) (l : List Sym) (w : World) (h : SymsAt w v l) :
    Calls Try.prog 69 #[v, .func (.func 70) #[] #[]] w fun e w' => e = .returned (.bool (!l.all goodB)) ∧ Below w.heap.size w w' := by
  have HI := hidep (indexFunc_mtext v l w h)
  clear h
  go_enter Try.func69, Try.ntmps69
  go_wp2_with fail
  refine HI.out.mono ?_
  rintro e w1 ⟨⟨k, rfl, hk⟩, hb⟩
  go_wp2
  go_ret
  exact ⟨ret_val (congrArg Value.bool hk.out), hb⟩
set_option maxHeartbeats 400000 in
theorem mtext_any (v : Value) (l : List Sym) (w : World) (h : SymsAt w v l) :
    Calls Try.prog 52 #[v] w fun e w' => e = .returned (.bool (isTextB l)) ∧ Below w.heap.size w w' := by
  have HI := hidep (containsFunc_mtext v l w h)
  obtain ⟨a, cap, rfl, h2, h3⟩ := h.form
  unfold maxLen at h3
  clear h
  have HT : Hid (isTextB l = (decide (l.length ≤ 2048) && l.all goodB)) := hidep rfl
  by_cases hl : l.length ≤ 2048
  · have HT := hidep (HT.out.trans (by rw [decide_eq_true hl]; rfl : _ = l.all goodB))
    go_enter Try.func52, Try.ntmps52
    go_wp2_with fail
    refine HI.out.mono ?_
    rintro e w1 ⟨rfl, hb⟩
    go_wp2
    go_ret
    exact ⟨ret_val (congrArg Value.bool (HT.out.trans (by simp)).symm), hb⟩
  · have HT := hidep (HT.out.trans (by rw [decide_eq_false hl]; rfl : _ = false))
    go_enter Try.func52, Try.ntmps52
    go_wp2
    go_ret
    exact ⟨ret_val (congrArg Value.bool HT.out.symm), Below.refl _ _⟩
theorem isTextB_short {l : List Sym} (h : l.length ≤ 64) : isTextB l = l.all goodB := by unfold isTextB; rw [decide_eq_true (by omega)]; rfl
theorem validZ_go {n : Int} {l : List Edit} {b : Bool} (hb : b = decide (l.length ≤ 32)) (h : validGo n (-1) l = true) : validZ n l = b := by unfold validZ; rw [h, hb]; simp
theorem validZ_bad {n : Int} {l : List Edit} (h : validGo n (-1) l = false) : validZ n l = false := by unfold validZ; rw [h]; simp
set_option maxHeartbeats 2000000 in
theorem mvalid_any (v : Value) (n : Int) (l : List Edit) (w : World) (h : EditsAt w v l) (h0 : 0 ≤ n) (h1 : n ≤ 140737488355328) :
    Calls Try.prog 40 #[v, .int .i64 n] w fun e w' => e = .returned (.bool (validZ n l)) ∧ Below w.heap.size w w' := by
  obtain ⟨a, cap, rfl, h2, h3⟩ := h.form
  unfold maxLen at h3
  go_enter Try.func40, Try.ntmps40
  go_wp2
  go_loopw [5, 10] (fun en i wr => ∃ (k : Nat) (last : Int), k ≤ l.length ∧ i = .int .i64 k ∧ en = .int .i64 last ∧ -1 ≤ last ∧ last ≤ n ∧ Hid (validGo n (-1) l = validGo n last (l.drop k)) ∧ Below w.heap.size w wr) (fun _ i _ => l.length - (intOf i).toNat)
  case atStart => exact ⟨0, -1, Nat.zero_le _, rfl, rfl, by omega, by omega, hidep rfl, Below.refl _ _⟩
  case round =>
    obtain ⟨k, last, hk, rfl, rfl, hl0, hl1, hg, hbw⟩ := hrel
    by_cases hlt : k < l.length
    · obtain ⟨b, off, u, rfl, hb, hc0, hc1, hc2, hu⟩ := (h.below hbw).at hlt
      have HB := hidep (@validGo_step n last l k hlt)
      clear h
      generalize l[k] = x at *
      obtain ⟨pos, del, ins⟩ := x
      simp only at hc0 hc1 hu
      obtain ⟨a', cap', rfl, hu2, hu3⟩ := hu.form
      unfold maxLen at hu3
      have HR := hidep (fun o => mtext_any _ _ (wr.alloc o) (hu.below ((Below.refl _ _).alloc (Nat.le_refl _) o)))
      clear hu
      have HS := hidep (@isTextB_short ins)
      have hgb : isTextB ins = true ∨ isTextB ins = false := by cases isTextB ins <;> simp
      have hi0 : ((ins.length : Int) == 0) = true ∨ ((ins.length : Int) == 0) = false := by cases ((ins.length : Int) == 0) <;> simp
      have HI0 : Hid (((ins.length : Int) == 0) = true → ins.length = 0) := hidep (by simp)
      have HI1 : Hid (((ins.length : Int) == 0) = false → ins.length ≠ 0) := hidep (by simp)
      rcases hgb with hgb | hgb <;> rcases hi0 with hi0 | hi0
      all_goals
        have HGB := hidep hgb
        simp only [hgb] at HR
        clear hgb
        go_wp2_with (go_at_call 52; refine (HR.out _).mono ?_; rintro e w1 ⟨rfl, hb1⟩; obtain ⟨hq1, hq2⟩ := bcell hb1; have hz : wr.heap.size + 1 ≤ w1.heap.size := by (have := hb1.size; simp at this; omega))
        all_goals first
          | (go_roundw
             case rel => exact ⟨k + 1, _, by omega, by go_num, rfl, by omega, by omega, hidep (hg.out.trans ((HB.out.2 (badE_false (by omega) (by omega) (by omega) (by omega) (by omega) ((HS.out (by omega)).symm.trans HGB.out) (by first | (exact .inr (HI1.out hi0)) | (left; omega)))).trans (by first | rfl | (congr 1; omega)))), by first | exact (hbw.alloc hbw.size _).trans (hb1.mono (by have := hbw.size; simp; omega)) | exact hbw.alloc hbw.size _⟩
             case measure => simp [intOf]; omega)
          | (go_ret
             refine ⟨ret_val (congrArg Value.bool ?_), by first | exact (hbw.alloc hbw.size _).trans (hb1.mono (by have := hbw.size; simp; omega)) | exact hbw.alloc hbw.size _⟩
             refine (validZ_bad ?_).symm
             rw [hg.out, HB.out.1 (badE_true (by first | exact .inr (.inr (.inr (.inr (.inr (.inl ((HS.out (by omega)).symm.trans HGB.out)))))) | exact .inr (.inr (.inr (.inr (.inr (.inr ⟨by omega, HI0.out hi0⟩))))) | omega))])
    · have hkl : k = l.length := by omega
      have HG : Hid (validGo n (-1) l = true) := hidep (by rw [hg.out, hkl, List.drop_length]; rfl)
      have HD : Hid (∀ b : Bool, b = decide (l.length ≤ 32) → validZ n l = b) := hidep (fun b hb => validZ_go hb HG.out)
      clear hkl
      by_cases hl : l.length ≤ 32
      · go_wp2
        go_ret
        refine ⟨ret_val (congrArg Value.bool (HD.out _ ?_).symm), hbw⟩
        simp [hl]
        omega
      · go_wp2
        go_ret
        refine ⟨ret_val (congrArg Value.bool (HD.out _ ?_).symm), hbw⟩
        simp [hl]
        omega
end Go.Proofs.Ythdafajhohdkoaa
