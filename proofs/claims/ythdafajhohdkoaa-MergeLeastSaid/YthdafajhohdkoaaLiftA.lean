/- Contracts of package lift: valid characters, valid edits. -/
import Derived.Test.YthdafajhohdkoaaRefC
namespace Go.Proofs.Ythdafajhohdkoaa
open Go.RowKit Go.Lab
set_option maxHeartbeats 400000 in
theorem right1_any (lang c : Int) (w : World) :
    Calls Try.prog 76 #[.agg #[.int .i64 lang, .int .u8 c]] w fun e w' => e = .returned (.bool (!goodB ⟨lang, c⟩)) ∧ Below w.heap.size w w' := by
  have hb : Below w.heap.size w (w.alloc (.cells #[.int .i64 lang, .int .u8 c] 34)) := (Below.refl _ _).alloc (Nat.le_refl _) _
  have HB := hidep hb
  clear hb
  go_enter Try.func76, Try.ntmps76
  go_wp2
  all_goals
    go_ret
    refine ⟨ret_val (congrArg Value.bool ?_), HB.out⟩
    rw [Bool.eq_iff_iff]
    simp [goodB, writtenB]
    try omega
def badIx (l : List Sym) (k : Nat) : Option Nat := ((l.drop k).findIdx? (fun s => !goodB s)).map (· + k)
set_option maxHeartbeats 400000 in
theorem indexFunc_right (v : Value) (l : List Sym) (w : World) (h : SymsAt w v l) :
    Calls Try.prog 81 #[v, .func (.func 76) #[] #[]] w fun e w' => (∃ k : Int, e = .returned (.int .i64 k) ∧ Hid (decide (0 ≤ k) = !l.all goodB)) ∧ Below w.heap.size w w' := by
  obtain ⟨a, cap, rfl, h2, h3⟩ := h.form
  unfold maxLen at h3
  go_enter Try.func81, Try.ntmps81
  go_wp2
  go_loopw [8] (fun i wr => ∃ k : Nat, k ≤ l.length ∧ i = .int .i64 k ∧ Hid ((l.take k).all goodB = true) ∧ Below w.heap.size w wr) (fun i _ => l.length - (intOf i).toNat)
  case atStart => exact ⟨0, Nat.zero_le _, rfl, hidep rfl, Below.refl _ _⟩
  case round =>
    obtain ⟨k, hk, rfl, hg, hbw⟩ := hrel
    by_cases hlt : k < l.length
    · obtain ⟨b, off, rfl, hb, hc1, hc2⟩ := (h.below hbw).at hlt
      have HB : Hid (∀ x, l[k] = x → (l.take (k + 1)).all goodB = goodB x ∧ (goodB x = false → l.all goodB = false)) := by
        rintro x rfl
        refine ⟨by rw [all_take_succ _ _ _ hlt, hg.out]; simp, all_false_at _ _ _ hlt⟩
      have HB := hidep (HB.out _ rfl)
      clear h
      generalize l[k] = x at *
      obtain ⟨lang, c⟩ := x
      simp only at hc1 hc2
      go_wp2_with (go_at_call 76; refine (right1_any _ _ _).mono ?_; rintro e w1 ⟨rfl, hb1⟩)
      · have hf : goodB ⟨lang, c⟩ = false := by
          have hw : (!goodB ⟨lang, c⟩) = true := by assumption
          simpa using hw
        go_ret
        exact ⟨⟨_, rfl, hidep (by rw [HB.out.2 hf]; simp; try omega)⟩, hbw.trans (hb1.mono hbw.size)⟩
      · have ht : goodB ⟨lang, c⟩ = true := by
          have hw : (!goodB ⟨lang, c⟩) = false := by assumption
          simpa using hw
        go_roundw
        case rel => exact ⟨k + 1, by omega, by go_num, hidep (by rw [HB.out.1, ht]), hbw.trans (hb1.mono hbw.size)⟩
        case measure => simp [intOf]; omega
    · go_wp2
      go_ret
      have hkl : k = l.length := by omega
      subst hkl
      have := hg.out
      rw [List.take_length] at this
      exact ⟨⟨_, rfl, hidep (by rw [this]; rfl)⟩, hbw⟩
set_option maxHeartbeats 400000 in
theorem containsFunc_right (v : Value) (l : List Sym) (w : World) (h : SymsAt w v l) :
    Calls Try.prog 69 #[v, .func (.func 76) #[] #[]] w fun e w' => e = .returned (.bool (!l.all goodB)) ∧ Below w.heap.size w w' := by
  have HI := hidep (indexFunc_right v l w h)
  clear h
  go_enter Try.func69, Try.ntmps69
  go_wp2_with fail
  refine HI.out.mono ?_
  rintro e w1 ⟨⟨k, rfl, hk⟩, hb⟩
  go_wp2
  go_ret
  exact ⟨ret_val (congrArg Value.bool hk.out), hb⟩
set_option maxHeartbeats 400000 in
theorem right_any (v : Value) (l : List Sym) (w : World) (h : SymsAt w v l) :
    Calls Try.prog 55 #[v] w fun e w' => e = .returned (.bool (l.all goodB)) ∧ Below w.heap.size w w' := by
  have HI := hidep (containsFunc_right v l w h)
  clear h
  go_enter Try.func55, Try.ntmps55
  go_wp2_with fail
  refine HI.out.mono ?_
  rintro e w1 ⟨rfl, hb⟩
  go_wp2
  go_ret
  exact ⟨ret_val (congrArg Value.bool (by simp)), hb⟩
def isTextB (l : List Sym) : Bool := decide (l.length ≤ 2048) && l.all goodB
set_option maxHeartbeats 400000 in
theorem isText_any (v : Value) (l : List Sym) (w : World) (h : SymsAt w v l) :
    Calls Try.prog 37 #[v] w fun e w' => e = .returned (.bool (isTextB l)) ∧ Below w.heap.size w w' := by
  have HI := hidep (right_any v l w h)
  obtain ⟨a, cap, rfl, h2, h3⟩ := h.form
  unfold maxLen at h3
  clear h
  have HT : Hid (isTextB l = (decide (l.length ≤ 2048) && l.all goodB)) := hidep rfl
  by_cases hl : l.length ≤ 2048
  · have HT := hidep (HT.out.trans (by rw [decide_eq_true hl]; rfl : _ = l.all goodB))
    go_enter Try.func37, Try.ntmps37
    go_wp2_with fail
    refine HI.out.mono ?_
    rintro e w1 ⟨rfl, hb⟩
    go_wp2
    go_ret
    exact ⟨ret_val (congrArg Value.bool HT.out.symm), hb⟩
  · have HT := hidep (HT.out.trans (by rw [decide_eq_false hl]; rfl : _ = false))
    go_enter Try.func37, Try.ntmps37
    go_wp2
    go_ret
    exact ⟨ret_val (congrArg Value.bool HT.out.symm), Below.refl _ _⟩
end Go.Proofs.Ythdafajhohdkoaa
