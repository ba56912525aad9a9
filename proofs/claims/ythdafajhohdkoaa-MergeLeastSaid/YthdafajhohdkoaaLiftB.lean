/- Contracts: valid edits (package lift). -/
import Derived.Test.YthdafajhohdkoaaLiftA
namespace Go.Proofs.Ythdafajhohdkoaa
open Go.RowKit Go.Lab
def badE (n last : Int) (e : Edit) : Bool :=
  decide (e.pos ≤ last) || decide (n < e.pos) || decide (e.del < 0) || decide (n - e.pos < e.del) || decide (64 < e.ins.length) || !e.ins.all goodB || (decide (e.del = 0) && decide (e.ins.length = 0))
def validGo (n : Int) : Int → List Edit → Bool
  | _, [] => true
  | last, e :: l => if badE n last e then false else validGo n (e.pos + e.del) l
def validZ (n : Int) (l : List Edit) : Bool := decide (l.length ≤ 32) && validGo n (-1) l
theorem validGo_step {n last : Int} {l : List Edit} {k : Nat} (h : k < l.length) :
    (badE n last l[k] = true → validGo n last (l.drop k) = false) ∧ (badE n last l[k] = false → validGo n last (l.drop k) = validGo n (l[k].pos + l[k].del) (l.drop (k + 1))) := by
  rw [List.drop_eq_getElem_cons h, validGo]
  exact ⟨fun hb => by rw [if_pos hb], fun hb => by rw [if_neg (by simp [hb])]⟩
theorem badE_true {n last pos del : Int} {ins : List Sym} (h : pos ≤ last ∨ n < pos ∨ del < 0 ∨ n - pos < del ∨ 64 < ins.length ∨ ins.all goodB = false ∨ (del = 0 ∧ ins.length = 0)) : badE n last ⟨pos, del, ins⟩ = true := by
  unfold badE
  simp only [Bool.or_eq_true, decide_eq_true_eq, Bool.and_eq_true, Bool.not_eq_true']
  rcases h with h | h | h | h | h | h | h
  · simp [h]
  · simp [h]
  · simp [h]
  · simp [h]
  · simp [h]
  · simp [h]
  · simp [h]
theorem badE_false {n last pos del : Int} {ins : List Sym} (h1 : last < pos) (h2 : pos ≤ n) (h3 : 0 ≤ del) (h4 : del ≤ n - pos) (h5 : ins.length ≤ 64) (h6 : ins.all goodB = true) (h7 : del ≠ 0 ∨ ins.length ≠ 0) : badE n last ⟨pos, del, ins⟩ = false := by
  unfold badE
  rw [h6]
  simp only [Bool.or_eq_false_iff, decide_eq_false_iff_not, Bool.and_eq_false_iff, Bool.not_true, and_true]
  omega
set_option maxHeartbeats 2000000 in
theorem valid_any (v : Value) (n : Int) (l : List Edit) (w : World) (h : EditsAt w v l) (h0 : 0 ≤ n) (h1 : n ≤ 140737488355328) :
    Calls Try.prog 38 #[.int .i64 n, v] w fun e w' => e = .returned (.bool (validZ n l)) ∧ Below w.heap.size w w' := by
  obtain ⟨a, cap, rfl, h2, h3⟩ := h.form
  unfold maxLen at h3
  by_cases hl : l.length ≤ 32
  · have HT : Hid (validZ n l = validGo n (-1) l) := hidep (by unfold validZ; rw [decide_eq_true hl]; rfl)
    go_enter Try.func38, Try.ntmps38
    go_wp2
    go_loopw [5, 13] (fun en i wr => ∃ (k : Nat) (last : Int), k ≤ l.length ∧ i = .int .i64 k ∧ en = .int .i64 last ∧ -1 ≤ last ∧ last ≤ n ∧ Hid (validZ n l = validGo n last (l.drop k)) ∧ Below w.heap.size w wr) (fun _ i _ => l.length - (intOf i).toNat)
    case atStart => exact ⟨0, -1, Nat.zero_le _, rfl, rfl, by omega, by omega, hidep HT.out, Below.refl _ _⟩
    case round =>
      obtain ⟨k, last, hk, rfl, rfl, hl0, hl1, hg, hbw⟩ := hrel
      by_cases hlt : k < l.length
      · obtain ⟨b, off, u, rfl, hb, hc0, hc1, hc2, hu⟩ := (h.below hbw).at hlt
        have HB := hidep (@validGo_step n last l k hlt)
        clear h
        generalize l[k] = x at *
        obtain ⟨pos, del, ins⟩ := x
        simp only at hc0 hc1 hu
        obtain ⟨a', cap', rfl, hu2, hu3⟩ := hu.form
        unfold maxLen at hu3
        have HR := hidep (fun o => right_any _ _ (wr.alloc o) (hu.below ((Below.refl _ _).alloc (Nat.le_refl _) o)))
        clear hu
        have hgb : ins.all goodB = true ∨ ins.all goodB = false := by cases ins.all goodB <;> simp
        have hi0 : ((ins.length : Int) == 0) = true ∨ ((ins.length : Int) == 0) = false := by cases ((ins.length : Int) == 0) <;> simp
        have HI0 : Hid (((ins.length : Int) == 0) = true → ins.length = 0) := hidep (by simp)
        have HI1 : Hid (((ins.length : Int) == 0) = false → ins.length ≠ 0) := hidep (by simp)
        rcases hgb with hgb | hgb <;> rcases hi0 with hi0 | hi0
        all_goals
          have HGB := hidep hgb
          simp only [hgb] at HR
          clear hgb
          go_wp2_with (go_at_call 55; refine (HR.out _).mono ?_; rintro e w1 ⟨rfl, hb1⟩; obtain ⟨hq1, hq2⟩ := bcell hb1; have hz : wr.heap.size + 1 ≤ w1.heap.size := by (have := hb1.size; simp at this; omega))
          all_goals first
            | (go_roundw
               case rel => exact ⟨k + 1, _, by omega, by go_num, rfl, by omega, by omega, hidep (hg.out.trans ((HB.out.2 (badE_false (by omega) (by omega) (by omega) (by omega) (by omega) HGB.out (by first | (exact .inr (HI1.out hi0)) | (left; omega)))).trans (by first | rfl | (congr 1; omega)))), by first | exact (hbw.alloc hbw.size _).trans (hb1.mono (by have := hbw.size; simp; omega)) | exact hbw.alloc hbw.size _⟩
               case measure => simp [intOf]; omega)
            | (go_ret
               refine ⟨ret_val (congrArg Value.bool ?_), by first | exact (hbw.alloc hbw.size _).trans (hb1.mono (by have := hbw.size; simp; omega)) | exact hbw.alloc hbw.size _⟩
               rw [hg.out, HB.out.1 (badE_true (by first | exact .inr (.inr (.inr (.inr (.inr (.inl HGB.out))))) | exact .inr (.inr (.inr (.inr (.inr (.inr ⟨by omega, HI0.out hi0⟩))))) | omega))])
      · go_wp2
        go_ret
        have hkl : k = l.length := by omega
        subst hkl
        exact ⟨ret_val (congrArg Value.bool (by rw [hg.out, List.drop_length]; rfl)), hbw⟩
  · have HT : Hid (validZ n l = false) := hidep (by unfold validZ; rw [decide_eq_false hl]; rfl)
    go_enter Try.func38, Try.ntmps38
    go_wp2
    go_ret
    exact ⟨ret_val (congrArg Value.bool HT.out.symm), Below.refl _ _⟩
end Go.Proofs.Ythdafajhohdkoaa
