/- Contracts of the program's disk: Flush, Mount. -/
import Derived.Test.YtmgogmjkoealoaaDkF
import Derived.Test.YtmgogmjkoealoaaDkU
namespace Go.Proofs.Ytmgogmjkoealoaa
open Go.RowKit Go.Lab Go.Disk
theorem own_turn {w w' : World} {base lo hi : Nat} {e : TypeId} {k n : Nat} {v : Value} {xs : List Value} (h : w.ownsRow base e k v n xs) (hT : Turn lo hi w w') (hb : hi ≤ base) : w'.ownsRow base e k v n xs := by
  refine ⟨h.1, ?_⟩
  rcases h.2 with h2 | ⟨g, cap, cur, hv, hg, hh, r⟩
  · exact .inl h2
  · exact .inr ⟨g, cap, cur, hv, hg, (hT.block g (Go.lt_of_block hh) (by omega)).trans hh, r⟩
theorem cntD_all {S : List Sec} {j : Nat} (h : cntD S j = cntD S S.length) (hj : j ≤ S.length) (ps : List Int) : mid S ps j = mountS S ps := by
  rw [mid_eq ps hj (Nat.le_refl _) h, mid_all _ _ (Nat.le_refl _)]
theorem DiskAt.s_eq {w : World} {lo hi : Nat} {p : Value} {D : Dk} {s s' : List Sec} (h : DiskAt w lo hi p { D with s := s }) (e : s = s') : DiskAt w lo hi p { D with s := s' } := by rw [← e]; exact h
set_option maxHeartbeats 1000000 in
set_option maxRecDepth 100000 in
theorem flush_any (p : Value) (D : Dk) (w : World) (lo hi : Nat) (h : DiskAt w lo hi p D) :
    Calls Try.prog 25 #[p] w fun e w' => e = .returned (.int .i64 (flushE D)) ∧ DiskAt w' lo hi p (flushD D) ∧ Turn lo hi w w' := by
  have HC := hidep (fun W hW => check_any p D 0 W lo hi (hW : DiskAt W lo hi p D))
  have HS := hidep (fun W hW => step_any p D W lo hi (hW : DiskAt W lo hi p D))
  have H := hidep h
  have hpt : ∃ b, p = .pointer (some ⟨b, 0, none⟩) := by
    obtain ⟨b, g, mb, wb, c, l, P, W, hp, _⟩ := h
    exact ⟨b, hp⟩
  obtain ⟨b, rfl⟩ := hpt
  have hin : D.isIn 0 = true := isIn_mk (k := 0) (by have := h.ok.1.1; omega)
  clear h
  cases hoff : D.off with
  | true =>
    have HZ := hidep (flushE_off hoff)
    have HK := hidep (checkZ_off 0 hoff)
    clear hoff hin
    go_enter Try.func25, Try.ntmps25
    go_wp2_with (go_at_call 46; refine (HC.out _ H.out).mono ?_; rintro e w' ⟨rfl, rfl⟩; rw [HK.out])
    go_ret
    exact ⟨ret_val (congrArg _ HZ.out.1.symm), by rw [HZ.out.2]; exact H.out, Turn.refl _ _ _⟩
  | false =>
    have HK := hidep (checkZ_in hoff hin)
    by_cases hl : D.left = 0
    · have HZ := hidep (flushE_down hoff hl)
      have HE := hidep (stepE_0 hl)
      clear hoff hl hin
      go_enter Try.func25, Try.ntmps25
      go_wp2_with (first
        | (go_at_call 46; refine (HC.out _ H.out).mono ?_; rintro e w' ⟨rfl, rfl⟩; rw [HK.out])
        | (go_at_call 47; refine (HS.out _ H.out).mono ?_; rintro e w' ⟨rfl, hD, hT⟩; rw [HE.out]))
      go_ret
      exact ⟨ret_val (congrArg _ HZ.out.1.symm), by rw [HZ.out.2]; exact hD, hT⟩
    · have HZ := hidep (flushE_ok hoff hl)
      have HE := hidep (stepE_1 hl)
      have hs : (stepD D).s = D.s := stepD_s D
      have HSS := hidep hs
      have HP := hidep (fun W hW => pending_any (.pointer (some ⟨b, 0, none⟩)) (stepD D) W lo hi (hW : DiskAt W lo hi _ (stepD D)))
      rw [hs] at HP
      clear hoff hl hin hs
      go_enter Try.func25, Try.ntmps25
      go_wp2_with (first
        | (go_at_call 46; refine (HC.out _ H.out).mono ?_; rintro e w' ⟨rfl, rfl⟩; rw [HK.out])
        | (go_at_call 47; refine (HS.out _ H.out).mono ?_; rintro e w1 ⟨rfl, hD, hT⟩; rw [HE.out])
        | (go_at_call 22; refine (HP.out _ hD).mono ?_; rintro e w2 ⟨v, rfl, hown, hb2⟩; obtain ⟨av, cv, rfl, hc1, hc2⟩ := (Rd.of_own hown).form; have hn4 := hD.ok.1.2.1))
      have hrng := hD.rng
      have HB : Hid (hi ≤ w1.heap.size) := hidep hrng.2
      have hle := pendZ_le D.s 0
      have hn2 : (pendZ D.s 0).length ≤ 4096 := by rw [HSS.out] at hn4; omega
      have HO := hidep hown
      have HCN := hidep (pendZ_cnt D.s)
      have HD : Hid (DiskAt w2 lo hi (.pointer (some ⟨b, 0, none⟩)) { stepD D with s := mid D.s [] 0 }) := hidep ((hD.below hb2).s_eq (s := (stepD D).s) (by rw [mid_zero, HSS.out]))
      have HT : Hid (Turn lo hi w w2) := hidep (hT.trans (Turn.of_below hb2))
      have HG := hidep (pendZ_get D.s 0)
      clear hD hT hb2 hown hrng hn4 hle hc1 hc2 HC HS HP HK HE
      generalize hL : pendZ D.s 0 = L at *
      clear hL
      go_loopw [20] (fun i wr => ∃ k j : Nat, k ≤ L.length ∧ i = .int .i64 k ∧ Hid (j ≤ D.s.length) ∧ Hid (cntD D.s j = k) ∧ Hid (DiskAt wr lo hi (.pointer (some ⟨b, 0, none⟩)) { stepD D with s := mid D.s [] j }) ∧ Hid (Turn lo hi w wr) ∧ Hid (wr.ownsRow w1.heap.size 3 1 (.slice av L.length cv) L.length (intsC L))) (fun i _ => L.length - (RowKit.intOf i).toNat)
      case atStart => exact ⟨0, 0, Nat.zero_le _, rfl, hidep (Nat.zero_le _), hidep (by simp [cntD]), HD, HT, HO⟩
      case round =>
        obtain ⟨k, j, hk, rfl, HJ, HCJ, HR, HT2, HO2⟩ := hrel
        by_cases hlt : k < L.length
        · obtain ⟨i, hi2, hLi, hdi, hci⟩ := HG.out k hlt
          obtain ⟨b1, o1, rfl, hb1, hcell⟩ := (Rd.of_own HO2.out).at (by omega)
          have hx := hcell k _ (intsC_get L k hlt)
          rw [hLi, Nat.zero_add] at hx
          have HM : Hid (settleAt (mid D.s [] i) i 64 = mid D.s [] (i + 1)) := hidep (by rw [← mid_succ_dirty [] hi2 hdi, getD_nil])
          have HME : Hid (mid D.s [] j = mid D.s [] i) := hidep (mid_eq [] HJ.out (by omega) (by rw [HCJ.out, hci]))
          have HCI : Hid (cntD D.s (i + 1) = k + 1) := hidep (by rw [cntD_succ hi2, hci, if_pos hdi])
          have HC2 := hidep (settle_any (.pointer (some ⟨b, 0, none⟩)) { stepD D with s := mid D.s [] i } i 64 wr lo hi (HR.out.s_eq HME.out) (by show i < (mid D.s [] i).length; rw [mid_len]; exact hi2) (by show (atS (mid D.s [] i) i).dirty = true; rw [mid_at [] (Nat.le_refl i) hi2]; exact hdi))
          have HI := hidep hi2
          have hI2 : (i : Int) ≤ 4096 := by
            have := HR.out.ok.1.2.1
            rw [show ({ stepD D with s := mid D.s [] j } : Dk).s = mid D.s [] j from rfl, mid_len] at this
            omega
          clear hLi hdi hci hi2 hcell
          go_wp2_with (go_at_call 51; refine HC2.out.mono ?_; rintro e w3 ⟨rfl, hD3, hT3⟩)
          have HD3 := hidep (hD3.s_eq HM.out)
          have HT3 := hidep (HT2.out.trans hT3)
          have HO3 := hidep (own_turn HO2.out hT3 HB.out)
          clear hD3 hT3
          go_roundw
          case rel => exact ⟨k + 1, i + 1, by omega, by go_num, hidep (by have := HI.out; omega), HCI, HD3, HT3, HO3⟩
          case measure => simp [RowKit.intOf]; omega
        · go_wp2
          go_ret
          have e : mid D.s [] j = mountS D.s [] := cntD_all (by rw [HCJ.out, ← HCN.out]; omega) HJ.out []
          exact ⟨ret_val (congrArg _ HZ.out.1.symm), by rw [HZ.out.2]; exact HR.out.s_eq e, HT2.out⟩
theorem DiskIn.endMount {w : World} {lo hi b g mb wb c : Nat} {l : Int} {P W : DataW Unit} {D : Dk} (h : DiskIn w lo hi b g mb wb c l P W D) :
    DiskIn ((w.setCell ⟨b, 3, none⟩ (.bool false)).setCell ⟨b, 4, none⟩ (.int .i64 (-1))) lo hi b g mb wb c (-1) P W ⟨D.s, false, -1⟩ ∧ Turn lo hi w ((w.setCell ⟨b, 3, none⟩ (.bool false)).setCell ⟨b, 4, none⟩ (.int .i64 (-1))) :=
  ⟨(h.setOff false).setLeft (l' := -1) (left' := -1) ⟨by rfl, by omega⟩ (by omega), (h.turn 3 _).trans ((h.setOff false).turn 4 _)⟩
set_option maxHeartbeats 1000000 in
set_option maxRecDepth 100000 in
theorem mount_any (p pv : Value) (ps : List Int) (D : Dk) (w : World) (lo hi : Nat) (h : DiskAt w lo hi p D) (hp : ∀ X, Turn lo hi w X → IntsAt X pv ps) :
    Calls Try.prog 26 #[p, pv] w fun e w' => e = .returned (.tuple #[]) ∧ DiskAt w' lo hi p (mountD D ps) ∧ Turn lo hi w w' := by
  have HPK := hidep hp
  have hp0 := hp w (Turn.refl _ _ _)
  obtain ⟨pa, pc, rfl, hlc, hmc⟩ := hp0.1.form
  unfold maxLen at hmc
  clear hp hp0
  have H := hidep h
  have hpt : ∃ b, p = .pointer (some ⟨b, 0, none⟩) := by
    obtain ⟨b, g, mb, wb, c, l, P, W, hp, _⟩ := h
    exact ⟨b, hp⟩
  obtain ⟨b, rfl⟩ := hpt
  have HP := hidep (fun W hW => pending_any (.pointer (some ⟨b, 0, none⟩)) D W lo hi (hW : DiskAt W lo hi _ D))
  clear h
  go_enter Try.func26, Try.ntmps26
  go_wp2_with (go_at_call 22; refine (HP.out _ H.out).mono ?_; rintro e w2 ⟨v, rfl, hown, hb2⟩; obtain ⟨av, cv, rfl, hc1, hc2⟩ := (Rd.of_own hown).form)
  have hrng := H.out.rng
  have HB : Hid (hi ≤ w.heap.size) := hidep hrng.2
  have hle := pendZ_le D.s 0
  have hn4 := H.out.ok.1.2.1
  have hn2 : (pendZ D.s 0).length ≤ 4096 := by omega
  have HO := hidep hown
  have HCN := hidep (pendZ_cnt D.s)
  have HD : Hid (DiskAt w2 lo hi (.pointer (some ⟨b, 0, none⟩)) { D with s := mid D.s ps 0 }) := hidep ((H.out.below hb2).s_eq (s := D.s) (by rw [mid_zero]))
  have HT : Hid (Turn lo hi w w2) := hidep (Turn.of_below hb2)
  have HG := hidep (pendZ_get D.s 0)
  clear hb2 hown hrng hn4 hle hc1 hc2 HP
  generalize hL : pendZ D.s 0 = L at *
  clear hL
  go_loopw [10] (fun i wr => ∃ k j : Nat, k ≤ L.length ∧ i = .int .i64 k ∧ Hid (j ≤ D.s.length) ∧ Hid (cntD D.s j = k) ∧ Hid (DiskAt wr lo hi (.pointer (some ⟨b, 0, none⟩)) { D with s := mid D.s ps j }) ∧ Hid (Turn lo hi w wr) ∧ Hid (wr.ownsRow w.heap.size 3 1 (.slice av L.length cv) L.length (intsC L))) (fun i _ => L.length - (RowKit.intOf i).toNat)
  case atStart => exact ⟨0, 0, Nat.zero_le _, rfl, hidep (Nat.zero_le _), hidep (by simp [cntD]), HD, HT, HO⟩
  case round =>
    obtain ⟨k, j, hk, rfl, HJ, HCJ, HR, HT2, HO2⟩ := hrel
    by_cases hlt : k < L.length
    · obtain ⟨i, hi2, hLi, hdi, hci⟩ := HG.out k hlt
      obtain ⟨b1, o1, rfl, hb1, hcell⟩ := (Rd.of_own HO2.out).at (by omega)
      have hx := hcell k _ (intsC_get L k hlt)
      rw [hLi, Nat.zero_add] at hx
      have HM : Hid (settleAt (mid D.s ps i) i (ps.getD k 64) = mid D.s ps (i + 1)) := hidep (by rw [← mid_succ_dirty ps hi2 hdi, hci])
      have HME : Hid (mid D.s ps j = mid D.s ps i) := hidep (mid_eq ps HJ.out (by omega) (by rw [HCJ.out, hci]))
      have HCI : Hid (cntD D.s (i + 1) = k + 1) := hidep (by rw [cntD_succ hi2, hci, if_pos hdi])
      have HC2 := hidep (fun q : Int => settle_any (.pointer (some ⟨b, 0, none⟩)) { D with s := mid D.s ps i } i q wr lo hi (HR.out.s_eq HME.out) (by show i < (mid D.s ps i).length; rw [mid_len]; exact hi2) (by show (atS (mid D.s ps i) i).dirty = true; rw [mid_at ps (Nat.le_refl i) hi2]; exact hdi))
      have HI := hidep hi2
      have hI2 : (i : Int) ≤ 4096 := by
        have := HR.out.ok.1.2.1
        rw [show ({ D with s := mid D.s ps j } : Dk).s = mid D.s ps j from rfl, mid_len] at this
        omega
      clear hLi hdi hci hi2 hcell
      by_cases hkp : k < ps.length
      · have hg : ps.getD k 64 = ps[k] := by simp [hkp]
        have HGP := hidep hg
        clear hg
        obtain ⟨pb, po, rfl, _, hcellp⟩ := (HPK.out wr HT2.out).1.at (by omega)
        have hxp := hcellp k _ (intsC_get ps k hkp)
        clear hcellp
        generalize ps[k] = x at *
        go_wp2_with (go_at_call 51; refine (HC2.out _).mono ?_; rintro e w3 ⟨rfl, hD3, hT3⟩)
        have HD3 := hidep (hD3.s_eq (s' := mid D.s ps (i + 1)) (by rw [← HGP.out]; exact HM.out))
        have HT3 := hidep (HT2.out.trans hT3)
        have HO3 := hidep (own_turn HO2.out hT3 HB.out)
        clear hD3 hT3
        go_roundw
        case rel => exact ⟨k + 1, i + 1, by omega, by go_num, hidep (by have := HI.out; omega), HCI, HD3, HT3, HO3⟩
        case measure => simp [RowKit.intOf]; omega
      · have hg : ps.getD k 64 = 64 := by rw [List.getD_eq_getElem?_getD, List.getElem?_eq_none (by omega)]; rfl
        have HGP := hidep hg
        clear hg
        go_wp2_with (go_at_call 51; refine (HC2.out _).mono ?_; rintro e w3 ⟨rfl, hD3, hT3⟩)
        have HD3 := hidep (hD3.s_eq (s' := mid D.s ps (i + 1)) (by rw [← HGP.out]; exact HM.out))
        have HT3 := hidep (HT2.out.trans hT3)
        have HO3 := hidep (own_turn HO2.out hT3 HB.out)
        clear hD3 hT3
        go_roundw
        case rel => exact ⟨k + 1, i + 1, by omega, by go_num, hidep (by have := HI.out; omega), HCI, HD3, HT3, HO3⟩
        case measure => simp [RowKit.intOf]; omega
    · have e : mid D.s ps j = mountS D.s ps := cntD_all (by rw [HCJ.out, ← HCN.out]; omega) HJ.out ps
      obtain ⟨b1, g, mb, wb, c, l, P, W, hbb, h1⟩ := HR.out.s_eq e
      obtain rfl := ptr_inj hbb
      have c3 := h1.c3
      have c4 := h1.c4
      have f3 := h1.fr 3
      have f4 := h1.fr 4
      have HF := hidep h1.endMount
      clear h1 hbb e
      go_wp2
      all_goals go_end0
      all_goals exact ⟨rfl, ⟨b, g, mb, wb, c, -1, P, W, rfl, HF.out.1⟩, HT2.out.trans HF.out.2⟩
end Go.Proofs.Ytmgogmjkoealoaa
