/- Contracts: a rule is right, on both sides. -/
import Derived.Test.YtcfjepcflanjbaaGreatBr03
namespace Go.Proofs.YtcfjepcflanjbaaGreat
open Go.RowKit Go.Lab Go.Shelf
set_option maxHeartbeats 400000 in
theorem containsFuncB_any (f : FuncId) (p : Int -> Bool) (ef : ∀ args w, (callFunc f args).run Tryz.prog w = .ok (.enter f args) w) (hf : ∀ x W, 0 <= x -> x < 256 -> Calls Tryz.prog f #[.int .u8 x] W fun e w' => e = .returned (.bool (!p x)) /\ w' = W)
    (v : Value) (l : List Int) (w : World) (h : BysAt w v l) :
    Calls Tryz.prog 98 #[v, .func (.func f) #[] #[]] w fun e w' => e = .returned (.bool (!l.all p)) /\ w' = w := by
  have HI := hidep (indexFuncB_any f p ef hf v l w h)
  clear h hf
  go_enter Tryz.func98, Tryz.ntmps98
  go_wp2_with fail
  refine HI.out.mono ?_
  rintro e w1 ⟨⟨k, rfl, hk⟩, rfl⟩
  go_wp2
  go_ret
  exact ⟨zqb (congrArg Value.bool hk.out), rfl⟩
theorem cellsT_any (v : Value) (l : List Int) (w : World) (h : BysAt w v l) : Calls Tryz.prog 60 #[v] w fun e w' => e = .returned (.bool (l.all cellB)) /\ w' = w := by
  have HI := hidep (containsFuncB_any 99 cellB (fun args w => by kernel_rfl) (fun x W _ _ => cells1_any x W) v l w h)
  clear h
  go_enter Tryz.func60, Tryz.ntmps60
  go_wp2_with fail
  refine HI.out.mono ?_
  rintro e w1 ⟨rfl, rfl⟩
  go_wp2
  go_ret
  exact ⟨zqb (congrArg Value.bool (by simp)), rfl⟩
set_option maxHeartbeats 400000 in
theorem indicator_any (v : Value) (l : List Int) (w : World) (h : BysAt w v l) : Calls Tryz.prog 61 #[v] w fun e w' => e = .returned (.bool (zqc l 1 4)) /\ w' = w := by
  have HI := hidep (cellsT_any v l w h)
  obtain ⟨a, cap, rfl, h2, h3⟩ := h.1.form
  unfold maxLen at h3
  clear h
  obtain ⟨n, hn⟩ : ∃ n, n = l.length := ⟨_, rfl⟩
  have HT := hidep (show zqc l 1 4 = (l.all cellB && (decide (1 <= n) && decide (n <= 4))) from by rw [hn]; rfl)
  rw [<- hn] at HI h2 ⊢
  clear hn
  generalize l.all cellB = ab at *
  go_enter Tryz.func61, Tryz.ntmps61
  by_cases g1 : 1 <= n
  · have g1i : (n : Int) >= 1 := by omega
    by_cases g2 : n <= 4
    · have g2i : (n : Int) <= 4 := by omega
      have HT2 := hidep (HT.out.trans (by rw [decide_eq_true g1, decide_eq_true g2, Bool.and_self, Bool.and_true]))
      go_wp2_with (go_at_call 60; refine HI.out.mono ?_; rintro e w1 ⟨rfl, rfl⟩)
      go_ret
      exact ⟨by rw [HT2.out]; rfl, rfl⟩
    · have g2i : ¬ (n : Int) <= 4 := by omega
      have HT2 := hidep (HT.out.trans (by rw [decide_eq_true g1, decide_eq_false g2, Bool.and_false, Bool.and_false]))
      go_wp2
      go_ret
      exact ⟨by rw [HT2.out]; rfl, rfl⟩
  · have g1i : ¬ (n : Int) >= 1 := by omega
    have HT2 := hidep (HT.out.trans (by rw [decide_eq_false g1, Bool.false_and, Bool.and_false]))
    go_wp2
    go_ret
    exact ⟨by rw [HT2.out]; rfl, rfl⟩
set_option maxHeartbeats 1000000 in
theorem zq63 (v : Value) (l : List Int) (lo hi : Nat) (w : World) (h : BysAt w v l) : Calls Tryz.prog 69 #[v, .int .i64 (lo : Nat), .int .i64 (hi : Nat)] w fun e w' => e = .returned (.bool (zqc l lo hi)) /\ w' = w := by
  obtain ⟨a, cap, rfl, hn2, hn3⟩ := h.1.form
  unfold maxLen at hn3
  have HB := hidep (show ∀ b, l.all cellB = b -> zqc l lo hi = (b && (decide (lo <= l.length) && decide (l.length <= hi))) from fun b hb => by unfold zqc; rw [hb])
  go_enter Tryz.func69, Tryz.ntmps69
  go_upto_region 2 with (fail)
  go_loopw [7] (fun iv wr => ∃ k : Nat, k <= l.length /\ iv = .int .i64 (k : Nat) /\ Hid ((l.take k).all cellB = true) /\ wr = w) (fun iv _ => l.length - (intOf iv).toNat)
  case atStart => exact ⟨0, Nat.zero_le _, rfl, hidep rfl, rfl⟩
  case round =>
    obtain ⟨k, hk, rfl, hg, rfl⟩ := hrel
    by_cases hlt : k < l.length
    · obtain ⟨b, off, rfl, hb, hc, hx1, hx2⟩ := h.at hlt
      have HT := hidep (zq75 cellB l k hlt hg.out)
      have HF := hidep (zq69 cellB l k hlt)
      obtain ⟨y, hy⟩ : ∃ y, y = l[k] := ⟨_, rfl⟩
      rw [<- hy] at hc hx1 hx2 HT HF
      clear hy h
      by_cases hl : 1 <= y
      · by_cases hu : y <= 63
        · have hyb : cellB y = true := by simp [cellB, hl, hu]
          have HG := hidep (HT.out.trans hyb)
          clear hyb
          go_wp2
          go_roundw
          case rel => exact ⟨k + 1, by omega, by go_num, HG, trivial⟩
          case measure => simp [intOf]; omega
        · have hyb : cellB y = false := by simp [cellB, hu]
          have HG := hidep (HB.out _ (HF.out hyb))
          clear hyb
          go_wp2
          go_ret
          exact ⟨by rw [HG.out]; rfl, rfl⟩
      · have hyb : cellB y = false := by simp [cellB, hl]
        have HG := hidep (HB.out _ (HF.out hyb))
        clear hyb
        go_wp2
        go_ret
        exact ⟨by rw [HG.out]; rfl, rfl⟩
    · have hkl : k = l.length := by omega
      have hA := hg.out
      rw [hkl, List.take_length] at hA
      have HA := hidep (HB.out _ hA)
      clear hA
      by_cases g1 : lo <= l.length
      · have g1i : (l.length : Int) >= (lo : Int) := by omega
        by_cases g2 : l.length <= hi
        · have g2i : (l.length : Int) <= (hi : Int) := by omega
          have HT2 := hidep (HA.out.trans (by rw [decide_eq_true g1, decide_eq_true g2]; rfl : _ = true))
          go_wp2
          go_ret
          exact ⟨by rw [HT2.out]; rfl, rfl⟩
        · have g2i : ¬ (l.length : Int) <= (hi : Int) := by omega
          have HT2 := hidep (HA.out.trans (by rw [decide_eq_true g1, decide_eq_false g2]; rfl : _ = false))
          go_wp2
          go_ret
          exact ⟨by rw [HT2.out]; rfl, rfl⟩
      · have g1i : ¬ (l.length : Int) >= (lo : Int) := by omega
        have HT2 := hidep (HA.out.trans (by rw [decide_eq_false g1]; rfl : _ = false))
        go_wp2
        go_ret
        exact ⟨by rw [HT2.out]; rfl, rfl⟩
end Go.Proofs.YtcfjepcflanjbaaGreat
/- Contracts (2): a rule is right, on both sides (printed by a program). -/
namespace Go.Proofs.YtcfjepcflanjbaaGreat
open Go.RowKit Go.Lab Go.Shelf
set_option maxHeartbeats 2000000 in
theorem rightT_any (r : RuleZ) (u : Value) (w : World) (hu : BysAt w u r.cells) (hs : r.text.size <= 100000) :
    Calls Tryz.prog 64 #[.agg #[.string r.text, .int .i64 r.wh, u]] w fun e w' => e = .returned (.bool (zqf r)) /\ Below w.heap.size w w' := by
  obtain ⟨s, wh, cl⟩ := r
  simp only at hu hs ⊢
  obtain ⟨ua, uc, rfl, hn2, hn3⟩ := hu.1.form
  obtain ⟨cb, hcb⟩ : ∃ cb, cb = zqc cl 1 4 := ⟨_, rfl⟩
  obtain ⟨lw, hlw⟩ : ∃ lw, lw = lowsB s := ⟨_, rfl⟩
  obtain ⟨mk, hmk⟩ : ∃ mk, mk = markB ⟨s, wh, cl⟩ := ⟨_, rfl⟩
  have HB := hidep (show zqf ⟨s, wh, cl⟩ = (decide (1 <= s.size) && (decide (s.size <= 8) && (decide (0 <= wh) && (decide (wh <= 3) && (cb && (lw || mk)))))) from by rw [hcb, hlw, hmk]; rfl)
  have HI := hidep (fun Y (hY : Below w.heap.size w Y) => indicator_any _ cl Y (hu.below hY))
  have HW := hidep (fun Y => word_any s Y hs)
  rw [<- hcb] at HI
  rw [<- hlw] at HW
  obtain ⟨n, hn⟩ : ∃ n, n = cl.length := ⟨_, rfl⟩
  rw [<- hn] at HI ⊢
  have hbx := (Below.refl w.heap.size w).alloc (Nat.le_refl _) (.cells #[.string s, .int .i64 wh, .slice ua n uc] 59)
  have HBX := hidep hbx
  clear hcb hlw hu hn hn2 hn3 hbx
  by_cases h1 : 1 <= s.size
  case neg =>
    have g1 : (s.size : Int) < 1 := by omega
    have HF := hidep (HB.out.trans (by rw [decide_eq_false h1, Bool.false_and] : _ = false))
    clear hmk
    go_enter Tryz.func64, Tryz.ntmps64
    go_wp2
    go_ret
    exact ⟨by rw [HF.out]; rfl, HBX.out⟩
  have g1 : ¬ (s.size : Int) < 1 := by omega
  by_cases h2 : s.size <= 8
  case neg =>
    have g2 : (s.size : Int) > 8 := by omega
    have HF := hidep (HB.out.trans (by rw [decide_eq_false h2, Bool.false_and, Bool.and_false] : _ = false))
    clear hmk
    go_enter Tryz.func64, Tryz.ntmps64
    go_wp2
    go_ret
    exact ⟨by rw [HF.out]; rfl, HBX.out⟩
  have g2 : ¬ (s.size : Int) > 8 := by omega
  by_cases h3 : 0 <= wh
  case neg =>
    have g3 : wh < 0 := by omega
    have HF := hidep (HB.out.trans (by rw [decide_eq_false h3, Bool.false_and, Bool.and_false, Bool.and_false] : _ = false))
    clear hmk
    go_enter Tryz.func64, Tryz.ntmps64
    go_wp2
    go_ret
    exact ⟨by rw [HF.out]; rfl, HBX.out⟩
  have g3 : ¬ wh < 0 := by omega
  by_cases h4 : wh <= 3
  case neg =>
    have g4 : wh > 3 := by omega
    have HF := hidep (HB.out.trans (by rw [decide_eq_false h4, Bool.false_and, Bool.and_false, Bool.and_false, Bool.and_false] : _ = false))
    clear hmk
    go_enter Tryz.func64, Tryz.ntmps64
    go_wp2
    go_ret
    exact ⟨by rw [HF.out]; rfl, HBX.out⟩
  have g4 : ¬ wh > 3 := by omega
  have HB2 := hidep (HB.out.trans (by rw [decide_eq_true h1, decide_eq_true h2, decide_eq_true h3, decide_eq_true h4]; rfl : _ = (cb && (lw || mk))))
  cases cb with
  | false =>
    have HF := hidep (HB2.out.trans (by rfl : _ = false))
    clear hmk HB HB2
    go_enter Tryz.func64, Tryz.ntmps64
    go_wp2_with (go_at_call 61; refine (HI.out _ HBX.out).mono ?_; rintro e w1 ⟨rfl, rfl⟩)
    go_ret
    exact ⟨by rw [HF.out]; rfl, HBX.out⟩
  | true =>
    have hs0 : 0 < s.size := by omega
    have hat := zq40 s 0 hs0 (by rw [zq1a]; exact hs0)
    obtain ⟨c, hc⟩ : ∃ c, c = (byts s)[0]'(by rw [zq1a]; exact hs0) := ⟨_, rfl⟩
    have hhd : headC s = c := by
      unfold headC
      rw [hc, List.headD_eq_head?_getD, List.head?_eq_getElem?, List.getElem?_eq_getElem (by rw [zq1a]; exact hs0)]
      rfl
    have hcr := byts_rng s c (by rw [hc]; exact List.getElem_mem _)
    rw [<- hc] at hat
    clear hc
    cases lw with
    | true =>
      have HF := hidep (HB2.out.trans (by rfl : _ = true))
      clear hmk HB HB2
      go_enter Tryz.func64, Tryz.ntmps64
      go_wp2_with (first
        | (go_at_call 61; refine (HI.out _ HBX.out).mono ?_; rintro e w1 ⟨rfl, rfl⟩)
        | (go_at_call 101; refine (HW.out _).mono ?_; rintro e w2 ⟨rfl, rfl⟩)
        | fail)
      go_ret
      exact ⟨by rw [HF.out]; rfl, HBX.out⟩
    | false =>
      have hB3 := HB2.out.trans (by rfl : _ = mk)
      have hmk2 : mk = (decide (s.size = 1) && (charB c && (!lowB c && (!capB c && (!digB c && decide (wh = 0)))))) := by
        rw [hmk]
        unfold markB
        simp only [hhd]
      rw [hmk2] at hB3
      have HB3 := hidep hB3
      have HCH := hidep (fun Y => charT_any c Y)
      have HLT := hidep (fun Y => isLetter_any c Y hcr)
      have HDG := hidep (fun Y => digit_any c Y)
      clear hmk hmk2 hB3 HB HB2 hhd
      by_cases h5 : s.size = 1
      case neg =>
        have g5 : ¬ (s.size : Int) = 1 := by omega
        have g6 : ((s.size : Int) == 1) = false := by simp; omega
        have HF := hidep (HB3.out.trans (by rw [decide_eq_false h5, Bool.false_and] : _ = false))
        go_enter Tryz.func64, Tryz.ntmps64
        go_wp2_with (first
          | (go_at_call 61; refine (HI.out _ HBX.out).mono ?_; rintro e w1 ⟨rfl, rfl⟩)
          | (go_at_call 101; refine (HW.out _).mono ?_; rintro e w2 ⟨rfl, rfl⟩)
          | fail)
        go_ret
        exact ⟨by rw [HF.out]; rfl, HBX.out⟩
      have g5 : (s.size : Int) = 1 := by omega
      rw [decide_eq_true h5, Bool.true_and] at HB3
      have hlet : (!letB c) = (!lowB c && !capB c) := by unfold letB; cases lowB c <;> cases capB c <;> rfl
      have hB4 : zqf ⟨s, wh, cl⟩ = (charB c && (!letB c && (!digB c && decide (wh = 0)))) := by
        rw [HB3.out, hlet]
        cases charB c <;> cases lowB c <;> cases capB c <;> cases digB c <;> rfl
      clear HB3 hlet h5
      generalize charB c = ch at *
      generalize letB c = lt at *
      generalize digB c = dg at *
      have HB4 := hidep hB4
      clear hB4
      by_cases h6 : wh = 0
      · have g7 : (wh == 0) = true := by simp [h6]
        have g8 : decide (wh = 0) = true := decide_eq_true h6
        rw [g8] at HB4
        clear h6 g8
        cases ch <;> cases lt <;> cases dg
        all_goals
          have HF := hidep (HB4.out)
          clear HB4
          go_enter Tryz.func64, Tryz.ntmps64
          go_wp2_with (first
            | (go_at_call 61; refine (HI.out _ HBX.out).mono ?_; rintro e w1 ⟨rfl, rfl⟩)
            | (go_at_call 101; refine (HW.out _).mono ?_; rintro e w2 ⟨rfl, rfl⟩)
            | (go_at_call 102; refine (HCH.out _).mono ?_; rintro e w3 ⟨rfl, rfl⟩)
            | (go_at_call 103; refine (HLT.out _).mono ?_; rintro e w4 ⟨rfl, rfl⟩)
            | (go_at_call 89; refine (HDG.out _).mono ?_; rintro e w5 ⟨rfl, rfl⟩)
            | fail)
          go_ret
          exact ⟨by rw [HF.out]; rfl, HBX.out⟩
      · have g7 : (wh == 0) = false := by simp [h6]
        have g8 : decide (wh = 0) = false := decide_eq_false h6
        rw [g8] at HB4
        clear g8
        cases ch <;> cases lt <;> cases dg
        all_goals
          have HF := hidep (HB4.out)
          clear HB4
          go_enter Tryz.func64, Tryz.ntmps64
          go_wp2_with (first
            | (go_at_call 61; refine (HI.out _ HBX.out).mono ?_; rintro e w1 ⟨rfl, rfl⟩)
            | (go_at_call 101; refine (HW.out _).mono ?_; rintro e w2 ⟨rfl, rfl⟩)
            | (go_at_call 102; refine (HCH.out _).mono ?_; rintro e w3 ⟨rfl, rfl⟩)
            | (go_at_call 103; refine (HLT.out _).mono ?_; rintro e w4 ⟨rfl, rfl⟩)
            | (go_at_call 89; refine (HDG.out _).mono ?_; rintro e w5 ⟨rfl, rfl⟩)
            | fail)
          go_ret
          exact ⟨by rw [HF.out]; rfl, HBX.out⟩
set_option maxHeartbeats 2000000 in
theorem rightR_any (r : RuleZ) (u : Value) (w : World) (hu : BysAt w u r.cells) (hs : r.text.size <= 100000) :
    Calls Tryz.prog 68 #[.agg #[.string r.text, .int .i64 r.wh, u]] w fun e w' => e = .returned (.bool (zqf r)) /\ Below w.heap.size w w' := by
  obtain ⟨s, wh, cl⟩ := r
  simp only at hu hs ⊢
  obtain ⟨ua, uc, rfl, hn2, hn3⟩ := hu.1.form
  obtain ⟨cb, hcb⟩ : ∃ cb, cb = zqc cl 1 4 := ⟨_, rfl⟩
  obtain ⟨lw, hlw⟩ : ∃ lw, lw = lowsB s := ⟨_, rfl⟩
  obtain ⟨mk, hmk⟩ : ∃ mk, mk = markB ⟨s, wh, cl⟩ := ⟨_, rfl⟩
  have HB := hidep (show zqf ⟨s, wh, cl⟩ = (decide (1 <= s.size) && (decide (s.size <= 8) && (decide (0 <= wh) && (decide (wh <= 3) && (cb && (lw || mk)))))) from by rw [hcb, hlw, hmk]; rfl)
  have HI := hidep (fun Y (hY : Below w.heap.size w Y) => zq63 _ cl 1 4 Y (hu.below hY))
  have HW := hidep (fun Y => zqb3 s Y hs)
  rw [<- hcb] at HI
  rw [<- hlw] at HW
  obtain ⟨n, hn⟩ : ∃ n, n = cl.length := ⟨_, rfl⟩
  rw [<- hn] at HI ⊢
  have hbx := (Below.refl w.heap.size w).alloc (Nat.le_refl _) (.cells #[.string s, .int .i64 wh, .slice ua n uc] 59)
  have HBX := hidep hbx
  clear hcb hlw hu hn hn2 hn3 hbx
  by_cases h1 : 1 <= s.size
  case neg =>
    have g1 : (s.size : Int) < 1 := by omega
    have HF := hidep (HB.out.trans (by rw [decide_eq_false h1, Bool.false_and] : _ = false))
    clear hmk
    go_enter Tryz.func68, Tryz.ntmps68
    go_wp2
    go_ret
    exact ⟨by rw [HF.out]; rfl, HBX.out⟩
  have g1 : ¬ (s.size : Int) < 1 := by omega
  by_cases h2 : s.size <= 8
  case neg =>
    have g2 : (s.size : Int) > 8 := by omega
    have HF := hidep (HB.out.trans (by rw [decide_eq_false h2, Bool.false_and, Bool.and_false] : _ = false))
    clear hmk
    go_enter Tryz.func68, Tryz.ntmps68
    go_wp2
    go_ret
    exact ⟨by rw [HF.out]; rfl, HBX.out⟩
  have g2 : ¬ (s.size : Int) > 8 := by omega
  by_cases h3 : 0 <= wh
  case neg =>
    have g3 : wh < 0 := by omega
    have HF := hidep (HB.out.trans (by rw [decide_eq_false h3, Bool.false_and, Bool.and_false, Bool.and_false] : _ = false))
    clear hmk
    go_enter Tryz.func68, Tryz.ntmps68
    go_wp2
    go_ret
    exact ⟨by rw [HF.out]; rfl, HBX.out⟩
  have g3 : ¬ wh < 0 := by omega
  by_cases h4 : wh <= 3
  case neg =>
    have g4 : wh > 3 := by omega
    have HF := hidep (HB.out.trans (by rw [decide_eq_false h4, Bool.false_and, Bool.and_false, Bool.and_false, Bool.and_false] : _ = false))
    clear hmk
    go_enter Tryz.func68, Tryz.ntmps68
    go_wp2
    go_ret
    exact ⟨by rw [HF.out]; rfl, HBX.out⟩
  have g4 : ¬ wh > 3 := by omega
  have HB2 := hidep (HB.out.trans (by rw [decide_eq_true h1, decide_eq_true h2, decide_eq_true h3, decide_eq_true h4]; rfl : _ = (cb && (lw || mk))))
  cases cb with
  | false =>
    have HF := hidep (HB2.out.trans (by rfl : _ = false))
    clear hmk HB HB2
    go_enter Tryz.func68, Tryz.ntmps68
    go_wp2_with (go_at_call 69; refine (HI.out _ HBX.out).mono ?_; rintro e w1 ⟨rfl, rfl⟩)
    go_ret
    exact ⟨by rw [HF.out]; rfl, HBX.out⟩
  | true =>
    have hs0 : 0 < s.size := by omega
    have hat := zq40 s 0 hs0 (by rw [zq1a]; exact hs0)
    obtain ⟨c, hc⟩ : ∃ c, c = (byts s)[0]'(by rw [zq1a]; exact hs0) := ⟨_, rfl⟩
    have hhd : headC s = c := by
      unfold headC
      rw [hc, List.headD_eq_head?_getD, List.head?_eq_getElem?, List.getElem?_eq_getElem (by rw [zq1a]; exact hs0)]
      rfl
    have hcr := byts_rng s c (by rw [hc]; exact List.getElem_mem _)
    rw [<- hc] at hat
    clear hc
    cases lw with
    | true =>
      have HF := hidep (HB2.out.trans (by rfl : _ = true))
      clear hmk HB HB2
      go_enter Tryz.func68, Tryz.ntmps68
      go_wp2_with (first
        | (go_at_call 69; refine (HI.out _ HBX.out).mono ?_; rintro e w1 ⟨rfl, rfl⟩)
        | (go_at_call 96; refine (HW.out _).mono ?_; rintro e w2 ⟨rfl, rfl⟩)
        | fail)
      go_ret
      exact ⟨by rw [HF.out]; rfl, HBX.out⟩
    | false =>
      have hB3 := HB2.out.trans (by rfl : _ = mk)
      have hmk2 : mk = (decide (s.size = 1) && (charB c && (!lowB c && (!capB c && (!digB c && decide (wh = 0)))))) := by
        rw [hmk]
        unfold markB
        simp only [hhd]
      rw [hmk2] at hB3
      have HB3 := hidep hB3
      have HCH := hidep (fun Y => show Calls Tryz.prog 94 #[.int .u8 c] Y fun e w' => e = .returned (.bool (charB c)) /\ w' = Y from (written_any c Y).mono fun e w' ⟨he, hw⟩ => ⟨he, hw.symm⟩)
      have HLT := hidep (fun Y => zqdf c Y hcr)
      have HDG := hidep (fun Y => digitR_any c Y)
      clear hmk hmk2 hB3 HB HB2 hhd
      by_cases h5 : s.size = 1
      case neg =>
        have g5 : ¬ (s.size : Int) = 1 := by omega
        have g6 : ((s.size : Int) == 1) = false := by simp; omega
        have HF := hidep (HB3.out.trans (by rw [decide_eq_false h5, Bool.false_and] : _ = false))
        go_enter Tryz.func68, Tryz.ntmps68
        go_wp2_with (first
          | (go_at_call 69; refine (HI.out _ HBX.out).mono ?_; rintro e w1 ⟨rfl, rfl⟩)
          | (go_at_call 96; refine (HW.out _).mono ?_; rintro e w2 ⟨rfl, rfl⟩)
          | fail)
        go_ret
        exact ⟨by rw [HF.out]; rfl, HBX.out⟩
      have g5 : (s.size : Int) = 1 := by omega
      rw [decide_eq_true h5, Bool.true_and] at HB3
      have hlet : (!letB c) = (!lowB c && !capB c) := by unfold letB; cases lowB c <;> cases capB c <;> rfl
      have hB4 : zqf ⟨s, wh, cl⟩ = (charB c && (!letB c && (!digB c && decide (wh = 0)))) := by
        rw [HB3.out, hlet]
        cases charB c <;> cases lowB c <;> cases capB c <;> cases digB c <;> rfl
      clear HB3 hlet h5
      generalize charB c = ch at *
      generalize letB c = lt at *
      generalize digB c = dg at *
      have HB4 := hidep hB4
      clear hB4
      by_cases h6 : wh = 0
      · have g7 : (wh == 0) = true := by simp [h6]
        have g8 : decide (wh = 0) = true := decide_eq_true h6
        rw [g8] at HB4
        clear h6 g8
        cases ch <;> cases lt <;> cases dg
        all_goals
          have HF := hidep (HB4.out)
          clear HB4
          go_enter Tryz.func68, Tryz.ntmps68
          go_wp2_with (first
            | (go_at_call 69; refine (HI.out _ HBX.out).mono ?_; rintro e w1 ⟨rfl, rfl⟩)
            | (go_at_call 96; refine (HW.out _).mono ?_; rintro e w2 ⟨rfl, rfl⟩)
            | (go_at_call 94; refine (HCH.out _).mono ?_; rintro e w3 ⟨rfl, rfl⟩)
            | (go_at_call 111; refine (HLT.out _).mono ?_; rintro e w4 ⟨rfl, rfl⟩)
            | (go_at_call 57; refine (HDG.out _).mono ?_; rintro e w5 ⟨rfl, rfl⟩)
            | fail)
          go_ret
          exact ⟨by rw [HF.out]; rfl, HBX.out⟩
      · have g7 : (wh == 0) = false := by simp [h6]
        have g8 : decide (wh = 0) = false := decide_eq_false h6
        rw [g8] at HB4
        clear g8
        cases ch <;> cases lt <;> cases dg
        all_goals
          have HF := hidep (HB4.out)
          clear HB4
          go_enter Tryz.func68, Tryz.ntmps68
          go_wp2_with (first
            | (go_at_call 69; refine (HI.out _ HBX.out).mono ?_; rintro e w1 ⟨rfl, rfl⟩)
            | (go_at_call 96; refine (HW.out _).mono ?_; rintro e w2 ⟨rfl, rfl⟩)
            | (go_at_call 94; refine (HCH.out _).mono ?_; rintro e w3 ⟨rfl, rfl⟩)
            | (go_at_call 111; refine (HLT.out _).mono ?_; rintro e w4 ⟨rfl, rfl⟩)
            | (go_at_call 57; refine (HDG.out _).mono ?_; rintro e w5 ⟨rfl, rfl⟩)
            | fail)
          go_ret
          exact ⟨by rw [HF.out]; rfl, HBX.out⟩
end Go.Proofs.YtcfjepcflanjbaaGreat
