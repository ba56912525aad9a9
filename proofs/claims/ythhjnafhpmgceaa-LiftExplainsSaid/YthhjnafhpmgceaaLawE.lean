/- For all lists of ints and ints the law LiftExplains returns true, and leaves its arguments as they were: no condition. -/
import Derived.Test.YthhjnafhpmgceaaLiftJ
import Derived.Test.YthhjnafhpmgceaaExp
import Derived.Test.YthhjnafhpmgceaaFrame
namespace Go.Proofs.Ythhjnafhpmgceaa
open Go.RowKit Go.Lab
set_option maxHeartbeats 4000000 in
set_option maxRecDepth 100000 in
theorem lawE_any (v1 v2 : Value) (l m : List Int) (most : Int) (w : World) (h1 : IntsAt w v1 l) (h2 : IntsAt w v2 m) (r1 : -9223372036854775808 ≤ most ∧ most ≤ 9223372036854775807) :
    Calls Try.prog 5 #[v1, v2, .int .i64 most] w fun e w' => e = .returned (.bool true) ∧ Below w.heap.size w w' := by
  have HP := hidep (pair_any v1 v2 l m w h1 h2)
  have hlA := symsZ_len l
  have HTA : Hid (isTextB (symsZ l) = true) := hidep (isTextB_mk (by omega) (symsZ_good l))
  obtain ⟨cn, hcn⟩ : ∃ cn : Nat, aroundZ most 20 = (cn : Int) := ⟨(aroundZ most 20).toNat, by have := (aroundZ_rng most 20 (by omega)).1; omega⟩
  have hcn2 : cn ≤ 19 := by have := (aroundZ_rng most 20 (by omega)).2; omega
  have HA20 : Hid (∀ W, Calls Try.prog 9 #[.int .i64 most, .int .i64 20] W fun e w' => e = .returned (.int .i64 cn) ∧ W = w') := hidep (fun W => by rw [← hcn]; exact around_any most 20 W r1.1 r1.2)
  clear h1 h2 r1 hcn
  generalize symsZ l = A at *
  go_enter Try.func5, Try.ntmps5
  go_upto_region 2 with (first
    | (go_at_call 7; refine HP.out.mono ?_; rintro e w1 ⟨va, vb, ve, es, rfl, ha, hb, he, hv, hle, hin, hb1⟩)
    | fail)
  have hlB := applyZ_len (a := A) hle hin
  have HTB : Hid (isTextB (applyZ A es).1 = true) := hidep (applyZ_text A es)
  have hlow : (leastZ A (applyZ A es).1).2.1 ≤ sizeZ es := by
    refine least_low HTA.out hv ?_
    have hv2 := hv
    unfold validZ at hv2
    simp only [Bool.and_eq_true] at hv2
    have := applyGo_len (l := A) (c := 10) es (-1) 0 [] hv2.2 hin (Nat.zero_le _) (by omega)
    simp at this
    omega
  have hsz : szOk es := by
    refine ⟨by omega, fun e hm => ?_⟩
    have hins := hin e hm
    have hv2 := hv
    unfold validZ at hv2
    simp only [Bool.and_eq_true] at hv2
    have hd : ∀ (es : List Edit) (last : Int), validGo A.length last es = true → -1 ≤ last → ∀ e ∈ es, 0 ≤ e.del ∧ e.del ≤ A.length := by
      intro es
      induction es with
      | nil => intro _ _ _ e he; cases he
      | cons x xs ih =>
        intro last hv hl e he
        rw [validGo] at hv
        split at hv
        · cases hv
        · rename_i hbb
          have hb2 : last < x.pos ∧ x.pos ≤ A.length ∧ 0 ≤ x.del ∧ x.del ≤ A.length - x.pos := by
            unfold badE at hbb
            simp only [Bool.not_eq_true, Bool.or_eq_false_iff, decide_eq_false_iff_not] at hbb
            omega
          rcases List.mem_cons.1 he with rfl | he
          · omega
          · exact ih _ hv (by omega) e he
    have := hd es (-1) hv2.2 (by omega) e hm
    omega
  clear HP hv hle hin
  generalize (applyZ A es).1 = B at *
  obtain ⟨N, hN⟩ : ∃ N : Nat, N = 2 + cn := ⟨_, rfl⟩
  have hN1 : 2 ≤ N := by omega
  have hN2 : N ≤ 21 := by omega
  obtain ⟨hne, hsev, hhd⟩ := choices_several HTA.out HTB.out (n := N) hN1 (by omega)
  obtain ⟨L, hL⟩ : ∃ L, L = choicesZ A B N := ⟨_, rfl⟩
  have HDIFF : Hid (∀ i j (hij : i < j) (hj : j < L.length), L[i] ≠ L[j]) := hidep (fun i j hij hj => choices_diff HTA.out HTB.out (by omega) (by omega) hL hij hj)
  have HSIZE : Hid (∀ x ∈ L, sizeZ x = (leastZ A B).2.1) := hidep (fun x hx => choices_size HTA.out HTB.out (n := N) (by omega) (by omega) (by rw [← hL]; exact hx))
  have HLEAD : Hid (∀ x ∈ L, applyZ A x = (B, 0)) := hidep (fun x hx => choices_lead HTA.out HTB.out (n := N) (by omega) (by omega) hlA (by omega) (by rw [← hL]; exact hx))
  have HSZ : Hid (∀ x ∈ L, szOk x) := hidep (fun x hx => choicesZ_sz (by rw [← hL]; exact hx))
  rw [← hL] at hne hsev hhd
  have HLST := hidep (leastL_any A B va vb w1 ha hb)
  have HCH : Hid (∀ W, Below w1.heap.size w1 W → Calls Try.prog 17 #[va, vb, .int .i64 (2 + (cn : Int))] W fun e w' => ∃ v, e = .returned v ∧ EditssAt w' v L ∧ Below W.heap.size W w') := hidep (fun W hW => by
    have h := choicesL_any A B va vb N W (ha.below hW) (hb.below hW)
    rw [← hL, hN] at h
    exact h.mono (fun e w' ⟨v, he, ho, hb⟩ => ⟨v, he, ho.rd, hb⟩))
  clear hL hN
  generalize leastZ A B = Z at *
  obtain ⟨X1, X2, X3⟩ := Z
  simp only at hlow hsev hhd HSIZE HLST
  have hL0 : 0 < L.length := by omega
  have hX1 : L[0] = X1 := by rw [← hhd]; cases L with | nil => simp at hL0 | cons x r => rfl
  have HD : decide ((1 : Int) < (L.length : Int)) = X3 := by rw [← hsev, decide_eq_decide]; omega
  have hne0 : ((L.length : Int) == 0) = false := by rw [beq_eq_false_iff_ne]; omega
  have hL0i : (0 : Int) < (L.length : Int) := by omega
  clear hhd hsev hne
  obtain ⟨ae, ce, rfl, _, _⟩ := he.form
  have HSE := hidep (fun (W : World) (hW : Below w1.heap.size w1 W) => size_any _ es W (he.below hW) hsz)
  generalize sizeZ es = s at *
  clear hsz
  go_upto_region 4 with (first
    | (go_at_call 16; refine HLST.out.mono ?_; rintro e w2 ⟨vx, rfl, hx, hb2⟩)
    | (go_at_call 9; refine (HA20.out _).mono ?_; rintro e w' ⟨rfl, rfl⟩)
    | (go_at_call 17; refine (HCH.out _ hb2).mono ?_; rintro e w3 ⟨vl, rfl, hl, hb3⟩; have hx3 := hx.below hb3; have hb13 := hb2.trans (hb3.mono hb2.size))
    | fail)
  obtain ⟨al, cl, rfl, hcl, hcl2⟩ := hl.form
  unfold maxLen at hcl2
  obtain ⟨ax, cx, hvx, _, _⟩ := hx3.form
  subst hvx
  have hbw3 := hb1.trans (hb13.mono hb1.size)
  have ha3 := ha.below hb13
  have hbb3 := hb.below hb13
  obtain ⟨aa, ca, rfl, _, _⟩ := ha3.form
  obtain ⟨ab, cb, rfl, _, _⟩ := hbb3.form
  have HL3 := hidep hl
  obtain ⟨bl, ol, u0, rfl, hbl, hcu, hu0⟩ := hl.at (k := 0) hL0
  simp only [Nat.add_zero] at hcu
  rw [hX1] at hu0
  obtain ⟨a0, c0, hv0, _, _⟩ := hu0.form
  subst hv0
  have HSM : Hid (∀ n, Calls Try.prog 19 #[.slice ax X1.length cx, .slice a0 X1.length c0] (w3.drewN n) fun e w' => e = .returned (.bool true) ∧ ∃ k, w' = w3.drewN k) := hidep (fun n => by
    have h := sameEdits_any _ _ X1 X1 (w3.drewN n) (hx3.below (below_drewN (Below.refl _ _) n)) (hu0.below (below_drewN (Below.refl _ _) n))
    rw [decide_eq_true rfl] at h
    exact h.mono (fun e w' ⟨h1, k, h2⟩ => ⟨h1, n + k, by rw [h2, World.drewN_drewN]⟩))
  have HSE3 : Hid (Calls Try.prog 18 #[.slice ae es.length ce] w3 fun e w' => e = .returned (.int .i64 s) ∧ ∃ n, w' = w3.drewN n) := hidep (HSE.out w3 hb13)
  clear hl hx hx3 hu0 hb2 hb3 he HSE HCH HLST HA20 ha hb
  go_upto_if 61 with (first
    | (go_at_call 18; refine HSE3.out.mono ?_; rintro e w4 ⟨rfl, n4, rfl⟩; dsimp only)
    | (go_at_call 19; refine (HSM.out _).mono ?_; rintro e w5 ⟨rfl, n5, rfl⟩; dsimp only)
    | fail)
  have hb35 : Below w3.heap.size w3 (w3.drewN n5) := below_drewN (Below.refl _ _) n5
  have hl5 := HL3.out.below hb35
  have ha5 := ha3.below hb35
  have hbb5 := hbb3.below hb35
  have hbw5 := hbw3.trans (hb35.mono hbw3.size)
  have hbl5 : bl < (w3.drewN n5).heap.size := hbl
  clear HL3 ha3 hbb3 hb35 HSM HSE3 hcu hbw3 hX1
  generalize w3.drewN n5 = w5 at *
  have HLV : Hid (∀ W : World, Below w5.heap.size w5 W → Calls Try.prog 11 #[] W fun e w' => e = .returned (.bool true) ∧ Below w5.heap.size w5 w') := hidep (fun W hW =>
    (lives_any W).mono (fun e w' ⟨he, hb⟩ => ⟨he, hW.trans (hb.mono hW.size)⟩))
  have HEL : Hid (∀ k (hk : k < L.length), ∃ ak ck, w5.cell? ⟨bl, ol + k, none⟩ = some (.slice ak (L[k]).length ck) ∧ EditsAt w5 (.slice ak (L[k]).length ck) L[k]) := hidep (fun k hk => by
    obtain ⟨b', o', u, e', _, hc, hu⟩ := hl5.at hk
    injection e' with e'
    injection e' with e1 e2
    subst e1 e2
    obtain ⟨ak, ck, rfl, _, _⟩ := hu.form
    exact ⟨ak, ck, hc, hu⟩)
  clear hl5
  go_wp2
  go_loopg [14] L.length (fun g i wr => ∃ k : Nat, k ≤ L.length ∧ L.length - k = g ∧ i = .int .i64 k ∧ Below w5.heap.size w5 wr)
  case atStart => exact ⟨0, by omega, rfl, rfl, Below.refl _ _⟩
  case round =>
    obtain ⟨k, hk, hg, rfl, hbr⟩ := hrel
    have HG := hidep hg
    clear hg
    obtain ⟨wo, rfl⟩ : ∃ wo : World, wo = wr := ⟨_, rfl⟩
    by_cases hlt : k < L.length
    · obtain ⟨ak, ck, hck, huk⟩ := HEL.out k hlt
      have hck1 := (hbr.cell (p := ⟨bl, ol + k, none⟩) hbl5).trans hck
      have hLk := HLEAD.out _ (List.getElem_mem hlt)
      have hSk := HSIZE.out _ (List.getElem_mem hlt)
      have hZk := HSZ.out _ (List.getElem_mem hlt)
      have HAP : Hid (∀ W, Below w5.heap.size w5 W → Calls Try.prog 13 #[.slice aa A.length ca, .slice ak (L[k]).length ck] W fun e w' => ∃ x, e = .returned (.tuple #[x, .int .i64 0]) ∧ SymsAt w' x B ∧ Below w5.heap.size w5 w') := hidep (fun W hW => by
        have h := apply_any _ _ A L[k] W (ha5.below hW) (huk.below hW)
        rw [hLk] at h
        exact h.mono (fun e w' ⟨x, he, ho, hb⟩ => ⟨x, he, SymsAt.of_own ho, hW.trans (hb.mono hW.size)⟩))
      have HSK : Hid (∀ W, Below w5.heap.size w5 W → Calls Try.prog 18 #[.slice ak (L[k]).length ck] W fun e w' => e = .returned (.int .i64 X2) ∧ ∃ n, w' = W.drewN n) := hidep (fun W hW => by
        have h := size_any _ L[k] W (huk.below hW) hZk
        rw [hSk] at h
        exact h)
      have HSS : Hid (∀ W x, Below w5.heap.size w5 W → SymsAt W x B → Calls Try.prog 15 #[x, .slice ab B.length cb] W fun e w' => e = .returned (.bool true) ∧ ∃ n, w' = W.drewN n) := hidep (fun W x hW hx => by
        have h := sameSyms_any x _ B B W hx (hbb5.below hW)
        rwa [decide_eq_true rfl] at h)
      have hI : (0 : Int) ≤ (k : Int) := by omega
      have hI1 : (k : Int) < (L.length : Int) := by omega
      have HDK : Hid (∀ W (j : Nat) (hj : j < k), Below w5.heap.size w5 W → ∀ aj cj, EditsAt w5 (.slice aj (L[j]).length cj) L[j] → Calls Try.prog 19 #[.slice ak (L[k]).length ck, .slice aj (L[j]).length cj] W fun e w' => e = .returned (.bool false) ∧ ∃ n, w' = W.drewN n) := hidep (fun W j hj hW aj cj hu => by
        have h := sameEdits_any _ _ L[k] L[j] W (huk.below hW) (hu.below hW)
        rwa [decide_eq_false (fun e => HDIFF.out j k hj hlt e.symm)] at h)
      clear huk hLk hSk hZk
      generalize hLK : L[k] = LK at *
      clear hLK
      go_wp2_with (first
        | (go_at_call 13; refine (HAP.out _ hbr).mono ?_; rintro e w6 ⟨vx6, rfl, hx6, hb6⟩; obtain ⟨a6, c6, rfl, _, _⟩ := hx6.form; have hck6 := (hb6.cell (p := ⟨bl, ol + k, none⟩) hbl5).trans hck)
        | (go_at_call 15; refine (HSS.out _ _ hb6 hx6).mono ?_; rintro e w7 ⟨rfl, n7, rfl⟩; have hb7 := below_drewN hb6 n7)
        | (go_at_call 18; refine (HSK.out _ hb7).mono ?_; rintro e w8 ⟨rfl, n8, rfl⟩)
        | fail)
      go_loopg [17] k (fun g j wl => ∃ jj : Nat, jj ≤ k ∧ k - jj = g ∧ j = .int .i64 jj ∧ Below w5.heap.size w5 wl)
      case atStart => exact ⟨0, by omega, rfl, rfl, below_drewN hb6 _⟩
      case round =>
        obtain ⟨j, hj, hg2, rfl, hbl2⟩ := hrel
        have HG2 := hidep hg2
        clear hg2 hck1 hck6 hx6 hb6 hb7
        by_cases hjk : j < k
        · obtain ⟨aj, cj, hcj, huj⟩ := HEL.out j (by omega)
          have hck3 := (hbl2.cell (p := ⟨bl, ol + k, none⟩) hbl5).trans hck
          have hcj3 := (hbl2.cell (p := ⟨bl, ol + j, none⟩) hbl5).trans hcj
          have HQ : Hid (∀ (W : World) (n : Nat), W = wr.drewN n → Calls Try.prog 19 #[.slice ak LK.length ck, .slice aj (L[j]).length cj] W fun e w' => e = .returned (.bool false) ∧ ∃ n, w' = W.drewN n) := hidep (fun W n e => HDK.out W j hjk (by rw [e]; exact below_drewN hbl2 n) aj cj huj)
          have hJ : (0 : Int) ≤ (j : Int) := by omega
          have hJ1 : (j : Int) < (L.length : Int) := by omega
          have hJ2 : (j : Int) < (k : Int) := by omega
          clear huj
          generalize hLJ : L[j]'(by omega) = LJ at *
          clear hLJ
          go_wp2
          go_quiet ((go_at_call 19; refine (HQ.out _ _ (by go_simp; rfl)).mono ?_; rintro e w' ⟨rfl, n1, rfl⟩; exact ⟨rfl, _, World.drewN_drewN ..⟩))
          go_wp2
          go_roundg (k - (j + 1))
          case measure => have := HG2.out; omega
          case rel => exact ⟨j + 1, by omega, rfl, by go_num, below_drewN hbl2 _⟩
        · have hJ2 : (k : Int) ≤ (j : Int) := by omega
          go_wp2
          go_roundg (L.length - (k + 1))
          case measure => have := HG.out; omega
          case rel => exact ⟨k + 1, by omega, rfl, by go_num, hbl2⟩
    · have hI1 : (L.length : Int) ≤ (k : Int) := by omega
      go_wp2_with (first
        | (go_at_call 11; refine (HLV.out _ hbr).mono ?_; rintro e wn ⟨rfl, hX⟩)
        | fail)
      go_ret
      exact ⟨rfl, hbw5.trans (hX.mono hbw5.size)⟩
end Go.Proofs.Ythhjnafhpmgceaa
