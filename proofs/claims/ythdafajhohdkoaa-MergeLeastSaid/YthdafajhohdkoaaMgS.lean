/- Contracts of the reference of package merge: texts, valid edits. -/
import Derived.Test.YthdafajhohdkoaaLiftB
import Derived.Test.YthdafajhohdkoaaMgQ
namespace Go.Proofs.Ythdafajhohdkoaa
open Go.RowKit Go.Lab
set_option maxHeartbeats 400000 in
theorem text34_any (v : Value) (l : List Sym) (w : World) (h : SymsAt w v l) :
    Calls Try.prog 49 #[v] w fun e w' => e = .returned (.bool (isTextB l)) ∧ w = w' := by
  have HI := hidep (good_any v l w h)
  obtain ⟨a, cap, rfl, h2, h3⟩ := h.form
  unfold maxLen at h3
  clear h
  have HT : Hid (isTextB l = (decide (l.length ≤ 2048) && l.all goodB)) := hidep rfl
  by_cases hl : l.length ≤ 2048
  · have HT := hidep (HT.out.trans (by rw [decide_eq_true hl]; rfl : _ = l.all goodB))
    go_enter Try.func49, Try.ntmps49
    go_wp2_with fail
    refine HI.out.mono ?_
    rintro e w1 ⟨rfl, rfl⟩
    go_wp2
    go_ret
    exact ⟨ret_val (congrArg Value.bool HT.out.symm), rfl⟩
  · have HT := hidep (HT.out.trans (by rw [decide_eq_false hl]; rfl : _ = false))
    go_enter Try.func49, Try.ntmps49
    go_wp2
    go_ret
    exact ⟨ret_val (congrArg Value.bool HT.out.symm), rfl⟩
theorem badE_iff {n last pos del : Int} {ins : List Sym} (_hn : -1 ≤ last) (h : badE n last ⟨pos, del, ins⟩ = false) : last < pos ∧ pos ≤ n ∧ 0 ≤ del ∧ del ≤ n - pos ∧ ins.length ≤ 64 ∧ ins.all goodB = true ∧ (del ≠ 0 ∨ ins.length ≠ 0) := by
  simp only [badE, Bool.or_eq_false_iff, decide_eq_false_iff_not, Bool.and_eq_false_iff, Bool.not_eq_false'] at h
  obtain ⟨⟨⟨⟨⟨⟨h1, h2⟩, h3⟩, h4⟩, h5⟩, h6⟩, h7⟩ := h
  exact ⟨by omega, by omega, by omega, by omega, by omega, h6, by omega⟩
set_option maxRecDepth 100000 in
set_option maxHeartbeats 4000000 in
theorem valid34_any (v : Value) (n : Int) (l : List Edit) (w : World) (h : EditsAt w v l) (h0 : 0 ≤ n) (h1 : n ≤ 140737488355328) :
    Calls Try.prog 24 #[v, .int .i64 n] w fun e w' => e = .returned (.bool (validZ n l)) ∧ Below w.heap.size w w' := by
  obtain ⟨a, cap, rfl, h2, h3⟩ := h.form
  unfold maxLen at h3
  by_cases hl : l.length ≤ 32
  · have HT : Hid (validZ n l = validGo n (-1) l) := hidep (by unfold validZ; rw [decide_eq_true hl]; rfl)
    go_enter Try.func24, Try.ntmps24
    go_wp2
    go_loopw [5] (fun i wr => ∃ (k : Nat) (last : Int), k ≤ l.length ∧ i = .int .i64 k ∧ -1 ≤ last ∧ last ≤ n ∧ Hid (validZ n l = validGo n last (l.drop k)) ∧ Hid (k = 0 ∧ last = -1 ∨ ∃ k', ∃ hk : k' < l.length, k = k' + 1 ∧ last = l[k'].pos + l[k'].del ∧ 0 ≤ l[k'].pos ∧ 0 ≤ l[k'].del ∧ l[k'].pos ≤ n ∧ l[k'].del ≤ n) ∧ Below w.heap.size w wr) (fun i _ => l.length - (intOf i).toNat)
    case atStart => exact ⟨0, -1, Nat.zero_le _, rfl, by omega, by omega, hidep HT.out, hidep (.inl ⟨rfl, rfl⟩), Below.refl _ _⟩
    case round =>
      obtain ⟨k, last, hk, rfl, hl0, hl1, hg, HP, hbw⟩ := hrel
      by_cases hlt : k < l.length
      · obtain ⟨b, off, u, rfl, hb, hc0, hc1, hc2, hu⟩ := (h.below hbw).at hlt
        have HB := hidep (@validGo_step n last l k hlt)
        have HNX : Hid (∀ x, l[k] = x → 0 ≤ x.pos ∧ 0 ≤ x.del ∧ x.pos ≤ n ∧ x.del ≤ n → (k + 1 = 0 ∧ x.pos + x.del = -1 ∨ ∃ k', ∃ hk : k' < l.length, k + 1 = k' + 1 ∧ x.pos + x.del = l[k'].pos + l[k'].del ∧ 0 ≤ l[k'].pos ∧ 0 ≤ l[k'].del ∧ l[k'].pos ≤ n ∧ l[k'].del ≤ n)) := hidep (by
          rintro x rfl ⟨e1, e2, e3, e4⟩
          exact .inr ⟨k, hlt, rfl, rfl, e1, e2, e3, e4⟩)
        have HNX' := hidep (HNX.out _ rfl)
        have HPV : Hid (k = 0 ∧ last = -1 ∨ ∃ k' pp dd, k = k' + 1 ∧ last = pp + dd ∧ 0 ≤ pp ∧ 0 ≤ dd ∧ pp ≤ n ∧ dd ≤ n ∧ wr.cell? ⟨b, off + k' * 3, none⟩ = some (.int .i64 pp) ∧ wr.cell? ⟨b, off + k' * 3 + 1, none⟩ = some (.int .i64 dd)) := hidep (by
          rcases HP.out with hp | ⟨k', hk', rfl, rfl, e1, e2, e3, e4⟩
          · exact .inl hp
          · obtain ⟨b2, off2, u2, he2, _, hq0, hq1, _, _⟩ := (h.below hbw).at hk'
            injection he2 with he2
            injection he2 with hb2 ho2 _
            subst hb2 ho2
            exact .inr ⟨k', _, _, rfl, rfl, e1, e2, e3, e4, hq0, hq1⟩)
        clear h HP HNX
        generalize l[k] = x at *
        obtain ⟨pos, del, ins⟩ := x
        simp only at hc0 hc1 hu HNX'
        obtain ⟨a', cap', rfl, hu2, hu3⟩ := hu.form
        unfold maxLen at hu3
        have HR := hidep (fun o => good_any _ _ (wr.alloc o) (hu.below ((Below.refl _ _).alloc (Nat.le_refl _) o)))
        have HBN : Hid (∀ o, Below w.heap.size w (wr.alloc o)) := hidep (fun o => hbw.alloc hbw.size o)
        clear hu
        have hgb : ins.all goodB = true ∨ ins.all goodB = false := by cases ins.all goodB <;> simp
        by_cases hall : 0 ≤ pos ∧ 0 ≤ del ∧ pos ≤ n ∧ del ≤ n ∧ pos + del ≤ n ∧ ins.length ≤ 64 ∧ ins.all goodB = true ∧ (del ≠ 0 ∨ ins.length ≠ 0)
        · obtain ⟨q1, q2, q3, q4, q5, q6, q7, q8⟩ := hall
          have HQ7 := hidep q7
          have HQ8 := hidep q8
          simp only [q7] at HR
          have hwr1 : IntKind.i64.wrap (pos + del) = pos + del := IntWalk.i64_in _ (by omega)
          have hcase : ((del == 0) = true ∧ ((ins.length : Int) == 0) = false) ∨ (del == 0) = false := by
            by_cases hd : del = 0
            · left
              refine ⟨by simpa using hd, ?_⟩
              rw [beq_eq_false_iff_ne]
              omega
            · right; simpa using hd
          clear q7 q8 hgb
          rcases hcase with ⟨hdb, hib⟩ | hdb
          all_goals
            go_upto_region 9 with (go_at_call 46; refine (HR.out _).mono ?_; rintro e w1 ⟨rfl, rfl⟩)
            rcases HPV.out with ⟨rfl, rfl⟩ | ⟨k', pp, dd, rfl, rfl, e1, e2, e3, e4, hq0, hq1⟩
            · go_wp2
              try go_quiet (fail)
              go_wp2
              go_roundw
              case rel => exact ⟨0 + 1, _, by omega, by go_num, by omega, by omega, hidep (hg.out.trans (HB.out.2 (badE_false (by omega) (by omega) (by omega) (by omega) (by omega) HQ7.out HQ8.out))), hidep (HNX'.out ⟨q1, q2, q3, q4⟩), by first | exact HBN.out _ | exact (HBN.out _).drew | exact below_drewN (HBN.out _) _⟩
              case measure => simp [intOf]; omega
            · have hwr2 : IntKind.i64.wrap (pp + dd) = pp + dd := IntWalk.i64_in _ (by omega)
              have hwr3 : IntKind.i64.wrap (k' : Int) = k' := IntWalk.i64_in _ (by omega)
              have hI1 : (0 : Int) ≤ (k' : Int) := by omega
              have hI2 : (k' : Int) < (l.length : Int) := by omega
              by_cases hc : pos ≤ pp + dd
              · go_wp2
                go_quiet (fail)
                go_wp2
                go_ret
                refine ⟨ret_val (congrArg Value.bool ?_), by first | exact HBN.out _ | exact (HBN.out _).drew | exact below_drewN (HBN.out _) _⟩
                rw [hg.out, HB.out.1 (badE_true (by omega))]
              · go_wp2
                go_quiet (fail)
                go_wp2
                go_roundw
                case rel => exact ⟨k' + 1 + 1, _, by omega, by go_num, by omega, by omega, hidep (hg.out.trans (HB.out.2 (badE_false (by omega) (by omega) (by omega) (by omega) (by omega) HQ7.out HQ8.out))), hidep (HNX'.out ⟨q1, q2, q3, q4⟩), by first | exact HBN.out _ | exact (HBN.out _).drew | exact below_drewN (HBN.out _) _⟩
                case measure => simp [intOf]; omega
        · have hi0 : ((ins.length : Int) == 0) = true ∨ ((ins.length : Int) == 0) = false := by cases ((ins.length : Int) == 0) <;> simp
          have hd0 : (del == 0) = true ∨ (del == 0) = false := by cases (del == 0) <;> simp
          have HI0 : Hid (((ins.length : Int) == 0) = true → ins.length = 0) := hidep (by simp)
          have HI1 : Hid (((ins.length : Int) == 0) = false → ins.length ≠ 0) := hidep (by simp)
          have HD0 : Hid ((del == 0) = true → del = 0) := hidep (by simp)
          have HD1 : Hid ((del == 0) = false → del ≠ 0) := hidep (by simp)
          have HALL := hidep hall
          clear hall
          rcases hgb with hgb | hgb <;> rcases hi0 with hi0 | hi0 <;> rcases hd0 with hd0 | hd0
          all_goals
            have HGB := hidep hgb
            have HII := hidep hi0
            have HDD := hidep hd0
            simp only [hgb] at HR
            clear hgb
            go_upto_region 9 with (go_at_call 46; refine (HR.out _).mono ?_; rintro e w1 ⟨rfl, rfl⟩)
            all_goals first
              | (go_ret
                 refine ⟨ret_val (congrArg Value.bool ?_), by first | exact HBN.out _ | exact hbw⟩
                 rw [hg.out, HB.out.1 (badE_true (by first | exact .inr (.inr (.inr (.inr (.inr (.inl HGB.out))))) | exact .inr (.inr (.inr (.inr (.inr (.inr ⟨HD0.out HDD.out, HI0.out HII.out⟩))))) | omega))])
              | (exfalso
                 exact HALL.out ⟨by omega, by omega, by omega, by omega, by omega, by omega, HGB.out, by first | exact .inl (HD1.out HDD.out) | exact .inr (HI1.out HII.out)⟩)
      · go_wp2
        go_ret
        have hkl : k = l.length := by omega
        subst hkl
        exact ⟨ret_val (congrArg Value.bool (by rw [hg.out, List.drop_length]; rfl)), hbw⟩
  · have HT : Hid (validZ n l = false) := hidep (by unfold validZ; rw [decide_eq_false hl]; rfl)
    go_enter Try.func24, Try.ntmps24
    go_wp2
    go_ret
    exact ⟨ret_val (congrArg Value.bool HT.out.symm), Below.refl _ _⟩
end Go.Proofs.Ythdafajhohdkoaa
