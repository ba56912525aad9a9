/- Contracts: texts and valid edits (reference). -/
import Derived.Test.YthhjnafhpmgceaaLiftB
namespace Go.Proofs.Ythhjnafhpmgceaa
open Go.RowKit Go.Lab
set_option maxHeartbeats 400000 in
theorem text33_any (v : Value) (l : List Sym) (w : World) (h : SymsAt w v l) :
    Calls Try.prog 27 #[v] w fun e w' => e = .returned (.bool (isTextB l)) ∧ w = w' := by
  have HI := hidep (good_any v l w h)
  obtain ⟨a, cap, rfl, h2, h3⟩ := h.form
  unfold maxLen at h3
  clear h
  have HT : Hid (isTextB l = (decide (l.length ≤ 2048) && l.all goodB)) := hidep rfl
  by_cases hl : l.length ≤ 2048
  · have HT := hidep (HT.out.trans (by rw [decide_eq_true hl]; rfl : _ = l.all goodB))
    go_enter Try.func27, Try.ntmps27
    go_wp2_with fail
    refine HI.out.mono ?_
    rintro e w1 ⟨rfl, rfl⟩
    go_wp2
    go_ret
    exact ⟨ret_val (congrArg Value.bool HT.out.symm), rfl⟩
  · have HT := hidep (HT.out.trans (by rw [decide_eq_false hl]; rfl : _ = false))
    go_enter Try.func27, Try.ntmps27
    go_wp2
    go_ret
    exact ⟨ret_val (congrArg Value.bool HT.out.symm), rfl⟩
set_option maxHeartbeats 4000000 in
theorem valid33_any (v : Value) (n : Int) (l : List Edit) (w : World) (h : EditsAt w v l) (h0 : 0 ≤ n) (h1 : n ≤ 140737488355328) :
    Calls Try.prog 28 #[.int .i64 n, v] w fun e w' => e = .returned (.bool (validZ n l)) ∧ Below w.heap.size w w' := by
  obtain ⟨a, cap, rfl, h2, h3⟩ := h.form
  unfold maxLen at h3
  by_cases hl : l.length ≤ 32
  · have HT : Hid (validZ n l = validGo n (-1) l) := hidep (by unfold validZ; rw [decide_eq_true hl]; rfl)
    go_enter Try.func28, Try.ntmps28
    go_wp2
    go_loopw [5, 6] (fun en i wr => ∃ (k : Nat) (last : Int), k ≤ l.length ∧ i = .int .i64 k ∧ en = .int .i64 last ∧ -1 ≤ last ∧ last ≤ n ∧ Hid (validZ n l = validGo n last (l.drop k)) ∧ Below w.heap.size w wr) (fun _ i _ => l.length - (intOf i).toNat)
    case atStart => exact ⟨0, -1, Nat.zero_le _, rfl, rfl, by omega, by omega, hidep HT.out, Below.refl _ _⟩
    case round =>
      obtain ⟨k, last, hk, rfl, rfl, hl0, hl1, hg, hbw⟩ := hrel
      by_cases hlt : k < l.length
      · obtain ⟨b, off, u, rfl, hb, hc0, hc1, hc2, hu⟩ := (h.below hbw).at hlt
        have HB := hidep (@validGo_step n last l k hlt)
        clear h
        generalize l[k] = x at *
        obtain ⟨pos, del, ins⟩ := x
        simp only at hc0 hc1 hu
        obtain ⟨a', cap', rfl, hu2, hu3⟩ := hu.form
        unfold maxLen at hu3
        have HR := hidep (fun o => good_any _ _ (wr.alloc o) (hu.below ((Below.refl _ _).alloc (Nat.le_refl _) o)))
        clear hu
        have hgb : ins.all goodB = true ∨ ins.all goodB = false := by cases ins.all goodB <;> simp
        have hi0 : ((del + (ins.length : Int)) == 0) = true ∨ ((del + (ins.length : Int)) == 0) = false := by cases ((del + (ins.length : Int)) == 0) <;> simp
        have HI0 : Hid (((del + (ins.length : Int)) == 0) = true → del + (ins.length : Int) = 0) := hidep (by simp)
        have HI1 : Hid (((del + (ins.length : Int)) == 0) = false → del + (ins.length : Int) ≠ 0) := hidep (by simp)
        rcases hgb with hgb | hgb <;> rcases hi0 with hi0 | hi0
        all_goals
          have HGB := hidep hgb
          simp only [hgb] at HR
          clear hgb
          go_wp2_with (go_at_call 38; refine (HR.out _).mono ?_; rintro e w1 ⟨rfl, rfl⟩)
          all_goals first
            | (go_roundw
               case rel =>
                 have := HI1.out hi0
                 exact ⟨k + 1, _, by omega, by go_num, rfl, by omega, by omega, hidep (hg.out.trans ((HB.out.2 (badE_false (by omega) (by omega) (by omega) (by omega) (by omega) HGB.out (by omega))).trans (by first | rfl | (congr 1; omega)))), hbw.alloc hbw.size _⟩
               case measure => simp [intOf]; omega)
            | (go_ret
               refine ⟨ret_val (congrArg Value.bool ?_), hbw.alloc hbw.size _⟩
               rw [hg.out, HB.out.1 (badE_true (by first | exact .inr (.inr (.inr (.inr (.inr (.inl HGB.out))))) | (have := HI0.out hi0; omega) | omega))])
      · go_wp2
        go_ret
        have hkl : k = l.length := by omega
        subst hkl
        exact ⟨ret_val (congrArg Value.bool (by rw [hg.out, List.drop_length]; rfl)), hbw⟩
  · have HT : Hid (validZ n l = false) := hidep (by unfold validZ; rw [decide_eq_false hl]; rfl)
    go_enter Try.func28, Try.ntmps28
    go_wp2
    go_ret
    exact ⟨ret_val (congrArg Value.bool HT.out.symm), Below.refl _ _⟩
end Go.Proofs.Ythhjnafhpmgceaa
