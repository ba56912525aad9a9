/- The law MergeLimits returns true. -/
import Derived.Test.YthdafajhohdkoaaMgBs
import Derived.Test.YthdafajhohdkoaaMgX4
namespace Go.Proofs.Ythdafajhohdkoaa
open Go.RowKit Go.Lab
set_option maxHeartbeats 400000 in
theorem few_any (v : Value) (l : List Sym) (w : World) (h : BaseAt w v l) :
    Calls Try.prog 15 #[v] w fun e w' => w = w' ∧ ∃ a c, e = .returned (.slice a (l.take 40).length c) ∧ BaseAt w (.slice a (l.take 40).length c) (l.take 40) := by
  obtain ⟨a, c, rfl, hc, hm⟩ := h.form
  unfold maxLen at hm
  have hp := Rd.pre h (j := min l.length 40) (Nat.min_le_left _ _)
  rw [symsC_take] at hp
  have hl : (l.take 40).length = min l.length 40 := by rw [List.length_take, Nat.min_comm]
  have ht : l.take (min l.length 40) = l.take 40 := by
    rcases Nat.le_total l.length 40 with h | h
    · rw [Nat.min_eq_left h, List.take_length, List.take_of_length_le h]
    · rw [Nat.min_eq_right h]
  rw [ht] at hp
  have HP : Hid (BaseAt w (.slice a (l.take 40).length c) (l.take 40)) := hidep (by unfold BaseAt; rw [hl]; exact hp)
  obtain ⟨k, hk⟩ : ∃ k : Nat, min (l.length : Int) 40 = (k : Int) := ⟨min l.length 40, by omega⟩
  have hk2 : (l.take 40).length = k := by rw [hl]; omega
  have hkl : k ≤ l.length := by omega
  rw [hk2] at HP ⊢
  clear h hp hl ht hk2
  go_enter Try.func15, Try.ntmps15
  go_wp2
  go_ret
  exact ⟨rfl, a, c, rfl, HP.out⟩
theorem rows_syms {W : World} {g n c : Nat} {L : List Sym} (h : RowAt W g 34 (symsC L)) (hl : L.length = n) (hn : n ≤ c) (hc : c ≤ maxLen) : SymsAt W (.slice (some ⟨g, 0, none⟩) n c) L := by
  have := rd_rowAt (k := 2) h (by rw [symsC_len, hl]) hn hc
  unfold SymsAt
  rw [hl]
  exact this
set_option maxRecDepth 100000 in
set_option maxHeartbeats 4000000 in
theorem lawLimits_any (v1 v2 : Value) (raw : List Sym) (m : List Int) (n del : Int) (w : World) (h1 : BaseAt w v1 raw) (h2 : IntsAt w v2 m)
    (i0 : -9223372036854775808 ≤ n ∧ n ≤ 9223372036854775807) (i3 : -9223372036854775808 ≤ del ∧ del ≤ 9223372036854775807) :
    Calls Try.prog 4 #[.int .i64 n, v1, v2, .int .i64 del] w fun e w' => e = .returned (.bool true) ∧ Below w.heap.size w w' := by
  obtain ⟨ht, hinfo, hzs, hsz⟩ := slSyms
  obtain ⟨ti, hti, hz, hsize, hby⟩ := info_parts hinfo
  have hq0 := aroundZ_rng n 12 (by omega)
  obtain ⟨N, hN⟩ : ∃ N : Nat, 2040 + aroundZ n 12 = (N : Int) := ⟨(2040 + aroundZ n 12).toNat, by omega⟩
  obtain ⟨q, hq⟩ : ∃ q, aroundZ n 12 = q := ⟨_, rfl⟩
  have HQ := hidep hq
  rw [hq] at hq0 hN
  have hN2 : N ≤ 2051 := by omega
  have H1 := hidep h1
  have H2 := hidep h2
  clear hq h1 h2
  go_enter Try.func4, Try.ntmps4
  go_upto_region 2 with (first
    | (go_at_call 14; refine (around_any _ _ _ (by omega) (by omega)).mono ?_; rintro e w' ⟨rfl, rfl⟩; rw [HQ.out])
    | (at_make; refine wpList_make_full _ rfl _ _ 23 rfl w.heap.size 34 ti _ 2 ht hti hz hsize .i64 .i64 _ _ N rfl rfl (by omega) (by omega) (by rw [hby]; omega) (by unfold maxLen; omega) (Nat.le_refl _) ?_; intro w3 hown3 hgr3)
    | fail)
  have hb3 : Below w.heap.size w w3 := (Below.refl _ _).grown hgr3 (Nat.le_refl _) (fun g hg => by cases hg)
  have hrow : RowAt w3 w.heap.size 34 (symsC (List.replicate N ⟨0, 0⟩)) ∧ w.heap.size < w3.heap.size := by
    have h0 := hown3
    rw [madeSyms] at h0
    obtain ⟨g, c, hsl, hg, hgc, hgm, hrow⟩ := RowAt.of_own h0 (by omega)
    injection hsl with hsa _ _
    injection hsa with hsa
    injection hsa with hsb _ _
    rw [← hsb] at hrow
    exact ⟨hrow, hrow.lt⟩
  have HR0 := hidep hrow.1
  have hgl := hrow.2
  have HB3 := hidep hb3
  obtain ⟨g, hg⟩ : ∃ g, w.heap.size = g := ⟨_, rfl⟩
  rw [hg] at HR0 hgl ⊢
  have HG := hidep hg
  clear hown3 hgr3 hrow hb3 hg
  go_wp2
  go_loopw [10] (fun i wr => ∃ (j : Nat) (L : List Sym), j ≤ N ∧ i = .int .i64 j ∧ L.length = N ∧ RowAt wr g 34 (symsC L) ∧ Below w.heap.size w wr) (fun i _ => N - (intOf i).toNat)
  case atStart => exact ⟨0, _, by omega, rfl, by simp, HR0.out, HB3.out⟩
  case round =>
    obtain ⟨j, L, hj, rfl, hL, hri, hbw⟩ := hrel
    have HL2 := hidep hL
    by_cases hlt : j < N
    · have hjl : j < L.length := by omega
      have hsc := symsC_get L j hjl
      have hc1 := hri.cell hsc.2
      have hf1 := hri.free (j * 2 + 1)
      have HST := hidep (fun c => by
        have hset := hri.setCell (o := j * 2 + 1) (by rw [symsC_len]; omega) (.int .u8 c)
        rw [symsC_set1 L j c hjl] at hset
        exact hset)
      have hIj : (j : Int) < (N : Int) := by omega
      have hI0 : 0 ≤ (j : Int) := by omega
      clear hsc hL
      go_wp2
      go_roundw
      case rel => exact ⟨j + 1, _, by omega, by go_num, by rw [List.length_set]; exact HL2.out, HST.out _, hbw.setCell (p := ⟨g, j * 2 + 1, none⟩) (by rw [HG.out]; exact Nat.le_refl _) _⟩
      case measure => simp [intOf]; omega
    · have hjn : j = N := by omega
      subst hjn
      have HBA := hidep (rows_syms hri HL2.out (Nat.le_refl _) (by unfold maxLen; omega))
      clear hL hri hlt hj
      obtain ⟨wA, hwA⟩ : ∃ wA : World, wA = wr := ⟨_, rfl⟩
      subst hwA
      go_upto_region 7 with (first
        | (at_make; refine wpList_make_full _ rfl _ _ 23 rfl wA.heap.size 34 ti _ 2 ht hti hz hsize .i64 .i64 _ _ 4 rfl rfl rfl rfl (by rw [hby]; omega) (by unfold maxLen; omega) (Nat.le_refl _) ?_; intro w5 hown5 hgr5)
        | fail)
      have hb5 : Below wA.heap.size wA w5 := (Below.refl _ _).grown hgr5 (Nat.le_refl _) (fun g hg => by cases hg)
      have hrow5 : RowAt w5 wA.heap.size 34 (symsC (List.replicate 4 ⟨0, 0⟩)) ∧ wA.heap.size < w5.heap.size := by
        have h0 := hown5
        rw [madeSyms] at h0
        obtain ⟨g, c, hsl, hg, hgc, hgm, hrow⟩ := RowAt.of_own h0 (by omega)
        injection hsl with hsa _ _
        injection hsa with hsa
        injection hsa with hsb _ _
        rw [← hsb] at hrow
        exact ⟨hrow, hrow.lt⟩
      have HR5 := hidep hrow5.1
      have hgl5 := hrow5.2
      have HB5 := hidep hb5
      have HBW := hidep hbw
      obtain ⟨g2, hg2⟩ : ∃ g2, wA.heap.size = g2 := ⟨_, rfl⟩
      rw [hg2] at HR5 hgl5 ⊢
      have HG2 := hidep hg2
      clear hown5 hgr5 hrow5 hb5 hg2 hbw
      go_wp2
      go_loopw [12] (fun i wi => ∃ (k : Nat) (M : List Sym), k ≤ 4 ∧ i = .int .i64 k ∧ M.length = 4 ∧ RowAt wi g2 34 (symsC M) ∧ Below wA.heap.size wA wi) (fun i _ => 4 - (intOf i).toNat)
      case atStart => exact ⟨0, _, by omega, rfl, by simp, HR5.out, HB5.out⟩
      case round =>
        obtain ⟨k, M, hk, rfl, hM, hrj, hbi⟩ := hrel
        have HM2 := hidep hM
        by_cases hlk : k < 4
        · have hkl : k < M.length := by omega
          have hsc := symsC_get M k hkl
          have hc1 := hrj.cell hsc.2
          have hf1 := hrj.free (k * 2 + 1)
          have HST := hidep (fun c => by
            have hset := hrj.setCell (o := k * 2 + 1) (by rw [symsC_len]; omega) (.int .u8 c)
            rw [symsC_set1 M k c hkl] at hset
            exact hset)
          have hIj : (k : Int) < 4 := by omega
          have hI0 : 0 ≤ (k : Int) := by omega
          clear hsc hM
          go_wp2
          go_roundw
          case rel => exact ⟨k + 1, _, by omega, by go_num, by rw [List.length_set]; exact HM2.out, HST.out _, hbi.setCell (p := ⟨g2, k * 2 + 1, none⟩) (by rw [HG2.out]; exact Nat.le_refl _) _⟩
          case measure => simp [intOf]; omega
        · have hk4 : k = 4 := by omega
          subst hk4
          have HI4 := hidep (rows_syms hrj HM2.out (Nat.le_refl _) (by unfold maxLen; omega))
          have HI2 : Hid (SymsAt wr (.slice (some ⟨g2, 0, none⟩) 2 4) (M.take 2)) := hidep (by
            have h0 := HI4.out
            have hp := Rd.pre (a := some ⟨g2, 0, none⟩) (c := 4) (n := 4) (by have := h0; unfold SymsAt at this; rw [HM2.out] at this; exact this) (j := 2) (by omega)
            rw [symsC_take] at hp
            have e : (M.take 2).length = 2 := by rw [List.length_take, HM2.out]; rfl
            unfold SymsAt
            rw [e]
            exact hp)
          clear hM hrj hlk hk
          have HBI := hidep hbi
          have hq6 := aroundZ_rng del 6 (by omega)
          have hq3 := aroundZ_rng del 3 (by omega)
          obtain ⟨q6, hq6e⟩ : ∃ q, aroundZ del 6 = q := ⟨_, rfl⟩
          obtain ⟨q3, hq3e⟩ : ∃ q, aroundZ del 3 = q := ⟨_, rfl⟩
          have HQ6 := hidep hq6e
          have HQ3 := hidep hq3e
          rw [hq6e] at hq6
          rw [hq3e] at hq3
          clear hbi hq6e hq3e
          obtain ⟨wC, hwC⟩ : ∃ wC : World, wC = wr := ⟨_, rfl⟩
          subst hwC
          go_upto_region 11 with (fail)
          go_region_with (first
            | (go_at_call 14; refine (around_any _ _ _ (by omega) (by omega)).mono ?_; rintro e w' ⟨rfl, rfl⟩; first | rw [HQ6.out] | rw [HQ3.out])
            | fail)
          all_goals
            go_upto_region 13 with (first
              | (go_at_call 14; refine (around_any _ _ _ (by omega) (by omega)).mono ?_; rintro e w' ⟨rfl, rfl⟩; first | rw [HQ6.out] | rw [HQ3.out])
              | fail)
            have hAB : ∃ A B : Value, A = .slice (some ⟨wC.heap.size, 0, none⟩) 2 2 ∧ B = .slice (some ⟨wC.heap.size + 1, 0, none⟩) 1 1 ∧ ∃ W1 : World, W1 = ((wC.alloc (.cells #[.int .i64 3, .int .i64 q6, .slice (some ⟨g2, 0, none⟩) 4 4, .int .i64 2030, .int .i64 0, .slice (some ⟨g2, 0, none⟩) 2 4] 36)).alloc (.cells #[.int .i64 100, .int .i64 q3, .slice (some ⟨g2, 0, none⟩) 4 4] 36)).drew ∧
                Below wC.heap.size wC W1 ∧ EditsAt W1 A [⟨3, q6, M⟩, ⟨2030, 0, M.take 2⟩] ∧ EditsAt W1 B [⟨100, q3, M⟩] := by
              have hM4 := HI4.out
              have hb0 : Below wC.heap.size wC (wC.alloc (.cells #[.int .i64 3, .int .i64 q6, .slice (some ⟨g2, 0, none⟩) 4 4, .int .i64 2030, .int .i64 0, .slice (some ⟨g2, 0, none⟩) 2 4] 36)) := (Below.refl _ _).alloc (Nat.le_refl _) _
              have e1 := editsAt_2 wC 3 q6 2030 0 _ _ M (M.take 2) HI4.out HI2.out
              have e2 := editsAt_1 _ 100 q3 _ M (hM4.below hb0)
              have hb1 := hb0.alloc hb0.size (.cells #[.int .i64 100, .int .i64 q3, .slice (some ⟨g2, 0, none⟩) 4 4] 36)
              have e1' := e1.below ((Below.refl _ _).alloc (Nat.le_refl _) (.cells #[.int .i64 100, .int .i64 q3, .slice (some ⟨g2, 0, none⟩) 4 4] 36))
              rw [World.size_alloc] at e2
              exact ⟨_, _, rfl, rfl, _, rfl, hb1.drew, e1'.below (Below.refl _ _).drew, e2.below (Below.refl _ _).drew⟩
            obtain ⟨A, B, hA, hB, W1, hW1, hbW, hEA, hEB⟩ := hAB
            rw [← hA, ← hB, ← hW1]
            clear hA hB hW1
            have HRW := hidep (few_any v1 raw W1 (((H1.out.below HBW.out).below ((HBI.out.trans (hbW.mono HBI.out.size))))))
            have HSM := hidep (fun W (hW : Below W1.heap.size W1 W) (k : Nat) (hk : k ≤ 4096) => some_txt v2 m k false W (((H2.out.below HBW.out).below (HBI.out.trans (hbW.mono HBI.out.size))).below hW) hk)
            have HB2 := hidep (HBA.out.below (HBI.out.trans (hbW.mono HBI.out.size)))
            have HAL1 := hidep (all_any _ A B L _ _ W1 HB2.out hEA hEB)
            have HAL2 := hidep (fun W (hW : Below W1.heap.size W1 W) => all_any _ B (.slice none 0 0) L _ _ W (HB2.out.below hW) (hEB.below hW) (EditsAt.nil _))
            have HWW := hidep (HBW.out.trans ((HBI.out.trans (hbW.mono HBI.out.size)).mono HBW.out.size))
            clear hEA hEB hbW
            go_wp2_with (first
              | (go_at_call 15; refine HRW.out.mono ?_; rintro e w' ⟨rfl, af, cf, rfl, hF⟩; have HFF := hidep hF; clear hF; have hk40 : (raw.take 40).length ≤ 40 := (by rw [List.length_take]; omega); generalize raw.take 40 = R at *)
              | (go_at_call 12; (with_reducible refine HAL1.out.mono ?_); clear HAL1; rintro e w6 ⟨rfl, hb6⟩)
              | (go_at_call 12; (with_reducible refine (HAL2.out _ hb6).mono ?_); clear HAL2; rintro e w7 ⟨rfl, hb7⟩; have hb67 := hb6.trans (hb7.mono hb6.size))
              | (go_at_call 10; refine (HSM.out _ hb67 _ (by omega)).mono ?_; rintro e w8 ⟨vs, es, rfl, hS8, _, _, hb8⟩; have hb68 := hb67.trans (hb8.mono hb67.size))
              | (go_at_call 12; (with_reducible refine (all_anyB _ vs (.slice none 0 0) _ es [] _ (HFF.out.below hb68) hS8 (EditsAt.nil _)).mono ?_); rintro e w9 ⟨rfl, hb9⟩; have hb69 := hb68.trans (hb9.mono hb68.size))
              | (go_at_call 13; refine (lives_any _).mono ?_; rintro e w10 ⟨rfl, hb10⟩; have hbz := hb69.trans (hb10.mono hb69.size))
              | fail)
            go_ret
            exact ⟨rfl, HWW.out.trans (hbz.mono HWW.out.size)⟩
end Go.Proofs.Ythdafajhohdkoaa
