/- Contracts of the reference's disk: Flush, Mount. -/
import Derived.Test.YtmgogmjkoealoaaDkT
namespace Go.Proofs.Ytmgogmjkoealoaa
open Go.RowKit Go.Lab Go.Disk Go.Maps
theorem RDiskAt.ok {w : World} {lo hi : Nat} {p : Value} {D : Dk} (h : RDiskAt w lo hi p D) : D.Ok := by
  obtain ⟨b, g, c, hp, h⟩ := h
  exact h.ok
theorem flushE_off {D : Dk} (h : D.off = true) : flushE D = 25 ∧ flushD D = D := ⟨if_pos h, if_pos h⟩
theorem flushE_down {D : Dk} (h : D.off = false) (hl : D.left = 0) : flushE D = 25 ∧ flushD D = stepD D := by
  unfold flushE flushD
  simp [h, stepE_0 hl]
theorem flushE_ok {D : Dk} (h : D.off = false) (hl : D.left ≠ 0) : flushE D = 0 ∧ flushD D = { stepD D with s := mountS D.s [] } := by
  unfold flushE flushD
  simp [h, stepE_1 hl]
theorem cntD_le (S : List Sec) (k : Nat) : cntD S k ≤ k := by
  unfold cntD
  have h1 := List.length_filter_le (fun x : Sec => x.dirty) (S.take k)
  rw [List.length_take] at h1
  omega
theorem getD_nil (k : Nat) : ([] : List Int).getD k 64 = 64 := by simp
set_option maxHeartbeats 1000000 in
theorem rflush_any (p : Value) (D : Dk) (w : World) (lo hi : Nat) (h : RDiskAt w lo hi p D) :
    Calls Try.prog 35 #[p] w fun e w' => e = .returned (.int .i64 (flushE D)) ∧ RDiskAt w' lo hi p (flushD D) ∧ Turn lo hi w w' := by
  have HS := hidep (fun W hW => rstep_any p D W lo hi (hW : RDiskAt W lo hi p D))
  obtain ⟨b, g, c, rfl, h⟩ := h
  have c1 := h.c1
  have H : Hid (RDiskAt w lo hi (.pointer (some ⟨b, 0, none⟩)) D) := hidep ⟨b, g, c, rfl, h⟩
  clear h
  cases hoff : D.off with
  | true =>
    rw [hoff] at c1
    have HZ := hidep (flushE_off hoff)
    clear hoff
    go_enter Try.func35, Try.ntmps35
    go_wp2
    go_ret
    exact ⟨ret_val (congrArg _ HZ.out.1.symm), by rw [HZ.out.2]; exact H.out, Turn.refl _ _ _⟩
  | false =>
    rw [hoff] at c1
    by_cases hl : D.left = 0
    · have HZ := hidep (flushE_down hoff hl)
      have HE := hidep (stepE_0 hl)
      clear hoff hl
      go_enter Try.func35, Try.ntmps35
      go_wp2_with (go_at_call 56; refine (HS.out _ H.out).mono ?_; rintro e w' ⟨rfl, hD, hT⟩; rw [HE.out])
      go_ret
      exact ⟨ret_val (congrArg _ HZ.out.1.symm), by rw [HZ.out.2]; exact hD, hT⟩
    · have HZ := hidep (flushE_ok hoff hl)
      have HE := hidep (stepE_1 hl)
      have hn := H.out
      clear hn hoff hl
      obtain ⟨n, hn⟩ : ∃ n, D.s.length = n := ⟨_, rfl⟩
      have HN := hidep hn
      clear hn
      go_enter Try.func35, Try.ntmps35
      go_wp2_with (go_at_call 56; refine (HS.out _ H.out).mono ?_; rintro e w1 ⟨rfl, hD, hT⟩; rw [HE.out])
      have hn4 : n ≤ 4096 := by have := hD.ok.1.2.1; rw [stepD_s, HN.out] at this; exact this
      have HT := hidep hT
      have HD : Hid (RDiskAt w1 lo hi (.pointer (some ⟨b, 0, none⟩)) { stepD D with s := mid D.s [] 0 }) := hidep (by
        have e : ({ stepD D with s := mid D.s [] 0 } : Dk) = stepD D := by rw [mid_zero, ← stepD_s D]
        rw [e]; exact hD)
      clear hD hT
      go_loopw [4] (fun i wr => ∃ j : Nat, j ≤ n ∧ i = .int .i64 j ∧ Hid (RDiskAt wr lo hi (.pointer (some ⟨b, 0, none⟩)) { stepD D with s := mid D.s [] j }) ∧ Hid (Turn lo hi w wr)) (fun i _ => n - (RowKit.intOf i).toNat)
      case atStart => exact ⟨0, Nat.zero_le _, rfl, HD, HT⟩
      case round =>
        obtain ⟨j, hj, rfl, HR, HT2⟩ := hrel
        obtain ⟨b1, g1, cc, hbb, h1⟩ := HR.out
        obtain rfl := ptr_inj hbb
        clear hbb
        have c0 := h1.c0
        rw [show ({ stepD D with s := mid D.s [] j } : Dk).s.length = n by show (mid D.s [] j).length = n; rw [mid_len, HN.out]] at c0
        by_cases hlt : j < n
        · have hjl : j < D.s.length := by rw [HN.out]; exact hlt
          obtain ⟨d0, d1, d2, d3⟩ := h1.at (k := j) (by show j < (mid D.s [] j).length; rw [mid_len]; exact hjl)
          rw [show ({ stepD D with s := mid D.s [] j } : Dk).s = mid D.s [] j from rfl, mid_at [] (Nat.le_refl j) hjl] at d2
          clear d0 d1 d3 h1
          cases hd : (D.s[j]).dirty with
          | true =>
            rw [hd] at d2
            have HM : Hid (settleAt (mid D.s [] j) j 64 = mid D.s [] (j + 1)) := hidep (by rw [← mid_succ_dirty [] hjl hd, getD_nil])
            have HC := hidep (rsettle_any _ _ j 64 wr lo hi HR.out (by show j < (mid D.s [] j).length; rw [mid_len]; exact hjl) (by show (atS (mid D.s [] j) j).dirty = true; rw [mid_at [] (Nat.le_refl j) hjl]; exact hd))
            clear hd hjl
            go_wp2_with (go_at_call 57; refine HC.out.mono ?_; rintro e w2 ⟨rfl, hD2, hT2⟩)
            have HD2 := hidep hD2
            have HT3 := hidep (HT2.out.trans hT2)
            clear hD2 hT2
            go_roundw
            case rel => exact ⟨j + 1, by omega, by go_num, hidep (by have := HD2.out; rw [HM.out] at this; exact this), HT3⟩
            case measure => simp [RowKit.intOf]; omega
          | false =>
            rw [hd] at d2
            have HM := hidep (mid_succ_clean [] hjl hd)
            clear hd hjl
            go_wp2
            go_roundw
            case rel => exact ⟨j + 1, by omega, by go_num, hidep (by rw [HM.out]; exact HR.out), HT2⟩
            case measure => simp [RowKit.intOf]; omega
        · clear h1
          go_wp2
          go_ret
          have e : mid D.s [] j = mountS D.s [] := mid_all _ _ (by rw [HN.out]; omega)
          exact ⟨ret_val (congrArg _ HZ.out.1.symm), by rw [HZ.out.2, ← e]; exact HR.out, HT2.out⟩
set_option maxHeartbeats 1000000 in
theorem rmount_any (p v : Value) (ps : List Int) (D : Dk) (w : World) (lo hi : Nat) (h : RDiskAt w lo hi p D) (hp : ∀ X, Turn lo hi w X → IntsAt X v ps) :
    Calls Try.prog 37 #[p, v] w fun e w' => e = .returned (.tuple #[]) ∧ RDiskAt w' lo hi p (mountD D ps) ∧ Turn lo hi w w' := by
  have HP := hidep hp
  have hp0 := hp w (Turn.refl _ _ _)
  obtain ⟨a, cap, rfl, hlc, hmc⟩ := hp0.1.form
  unfold maxLen at hmc
  clear hp hp0
  obtain ⟨b, g, c, rfl, h⟩ := h
  have hn4 := h.ok.1.2.1
  have H : Hid (RDiskAt w lo hi (.pointer (some ⟨b, 0, none⟩)) { D with s := mid D.s ps 0 }) := hidep (by rw [mid_zero]; exact ⟨b, g, c, rfl, h⟩)
  clear h
  obtain ⟨n, hn⟩ : ∃ n, D.s.length = n := ⟨_, rfl⟩
  have HN := hidep hn
  rw [hn] at hn4
  clear hn
  go_enter Try.func37, Try.ntmps37
  go_wp2
  go_loopw [4, 5] (fun k i wr => ∃ j : Nat, j ≤ n ∧ i = .int .i64 j ∧ k = .int .i64 (cntD D.s j) ∧ Hid (RDiskAt wr lo hi (.pointer (some ⟨b, 0, none⟩)) { D with s := mid D.s ps j }) ∧ Hid (Turn lo hi w wr)) (fun _ i _ => n - (RowKit.intOf i).toNat)
  case atStart => exact ⟨0, Nat.zero_le _, rfl, by simp [cntD], H, hidep (Turn.refl _ _ _)⟩
  case round =>
    obtain ⟨j, hj, rfl, rfl, HR, HT2⟩ := hrel
    obtain ⟨b1, g1, cc, hbb, h1⟩ := HR.out
    obtain rfl := ptr_inj hbb
    clear hbb
    have c0 := h1.c0
    rw [show ({ D with s := mid D.s ps j } : Dk).s.length = n by show (mid D.s ps j).length = n; rw [mid_len, HN.out]] at c0
    by_cases hlt : j < n
    · have hjl : j < D.s.length := by rw [HN.out]; exact hlt
      obtain ⟨d0, d1, d2, d3⟩ := h1.at (k := j) (by show j < (mid D.s ps j).length; rw [mid_len]; exact hjl)
      rw [show ({ D with s := mid D.s ps j } : Dk).s = mid D.s ps j from rfl, mid_at ps (Nat.le_refl j) hjl] at d2
      clear d0 d1 d3 h1
      cases hd : (D.s[j]).dirty with
      | true =>
        rw [hd] at d2
        have HM := hidep (mid_succ_dirty ps hjl hd)
        have HCN : Hid (cntD D.s (j + 1) = cntD D.s j + 1) := hidep (by rw [cntD_succ hjl, hd]; rfl)
        have hcl := cntD_le D.s j
        have HC := hidep (fun (q : Int) => rsettle_any _ _ j q wr lo hi HR.out (by show j < (mid D.s ps j).length; rw [mid_len]; exact hjl) (by show (atS (mid D.s ps j) j).dirty = true; rw [mid_at ps (Nat.le_refl j) hjl]; exact hd))
        clear hd hjl
        generalize cntD D.s j = k at *
        by_cases hk : k < ps.length
        · have HG : Hid (ps.getD k 64 = ps[k]) := hidep (by simp [hk])
          obtain ⟨pb, po, rfl, _, hcell⟩ := (HP.out wr HT2.out).1.at (by omega)
          have hx := hcell k _ (intsC_get ps k hk)
          clear hcell
          generalize ps[k] = x at *
          generalize ps.length = pn at *
          go_wp2_with (go_at_call 57; refine (HC.out _).mono ?_; rintro e w2 ⟨rfl, hD2, hT2⟩)
          have HD2 := hidep hD2
          have HT3 := hidep (HT2.out.trans hT2)
          clear hD2 hT2
          go_roundw
          case rel => exact ⟨j + 1, by omega, by go_num, by rw [HCN.out]; go_num, hidep (by have := HD2.out; rw [← HG.out, HM.out] at this; exact this), HT3⟩
          case measure => simp [RowKit.intOf]; omega
        · have HG : Hid (ps.getD k 64 = 64) := hidep (by rw [List.getD_eq_getElem?_getD, List.getElem?_eq_none (by omega)]; rfl)
          generalize ps.length = pn at *
          go_wp2_with (go_at_call 57; refine (HC.out _).mono ?_; rintro e w2 ⟨rfl, hD2, hT2⟩)
          have HD2 := hidep hD2
          have HT3 := hidep (HT2.out.trans hT2)
          clear hD2 hT2
          go_roundw
          case rel => exact ⟨j + 1, by omega, by go_num, by rw [HCN.out]; go_num, hidep (by have := HD2.out; rw [← HG.out, HM.out] at this; exact this), HT3⟩
          case measure => simp [RowKit.intOf]; omega
      | false =>
        rw [hd] at d2
        have HM := hidep (mid_succ_clean ps hjl hd)
        have HCN : Hid (cntD D.s (j + 1) = cntD D.s j) := hidep (by rw [cntD_succ hjl, hd]; rfl)
        clear hd hjl
        generalize cntD D.s j = k at *
        go_wp2
        go_roundw
        case rel => exact ⟨j + 1, by omega, by go_num, by rw [HCN.out], hidep (by rw [HM.out]; exact HR.out), HT2⟩
        case measure => simp [RowKit.intOf]; omega
    · have e : mid D.s ps j = mountS D.s ps := mid_all _ _ (by rw [HN.out]; omega)
      rw [e] at h1 HR
      have c1 := h1.c1
      have c2 := h1.c2
      have f1 := h1.fr 1
      have f2 := h1.fr 2
      have HF := hidep ((h1.setOff false).setLeft (l := -1) (by omega))
      have HTF := hidep ((HT2.out.trans (h1.turn 1 (.bool false))).trans ((h1.setOff false).turn 2 (.int .i64 (-1))))
      clear h1 e
      go_wp2
      go_end0
      exact ⟨rfl, ⟨b, g1, cc, rfl, HF.out⟩, HTF.out⟩
end Go.Proofs.Ytmgogmjkoealoaa
