/- For all lists of ints the law LiftSizes returns true, and leaves its arguments as they were: no condition. -/
import Derived.Test.YthhjnafhpmgceaaLiftJ
import Derived.Test.YthhjnafhpmgceaaSub
import Derived.Test.YthhjnafhpmgceaaFrame
namespace Go.Proofs.Ythhjnafhpmgceaa
open Go.RowKit Go.Lab
theorem fresh_none (w : World) : (w.alloc (.cells #[] 30)).ownsRow w.heap.size 30 2 (.slice (some ⟨w.heap.size, 0, none⟩) 0 0) 0 [] := World.ownsRow_lit w #[] 0 (Nat.le_refl _) (by decide) rfl
set_option maxHeartbeats 4000000 in
set_option maxRecDepth 100000 in
theorem lawS_any (v1 v2 v3 : Value) (l m k : List Int) (w : World) (h1 : IntsAt w v1 l) (h2 : IntsAt w v2 m) (h3 : IntsAt w v3 k) :
    Calls Try.prog 6 #[v1, v2, v3] w fun e w' => e = .returned (.bool true) ∧ Below w.heap.size w w' := by
  have HP := hidep (pair_any v1 v2 l m w h1 h2)
  have HC : Hid (∀ W, Below w.heap.size w W → Calls Try.prog 8 #[v3] W fun e w' => ∃ u, e = .returned u ∧ SymsAt w' u (symsZ k) ∧ Below W.heap.size W w') := hidep (fun W hW => (syms_any v3 k W (h3.below hW)).mono (fun e w' ⟨u, he, ho, hb⟩ => ⟨u, he, SymsAt.of_own ho, hb⟩))
  have hlA := symsZ_len l
  have hlC := symsZ_len k
  have HTA : Hid (isTextB (symsZ l) = true) := hidep (isTextB_mk (by omega) (symsZ_good l))
  have HTC : Hid (isTextB (symsZ k) = true) := hidep (isTextB_mk (by omega) (symsZ_good k))
  clear h1 h2 h3
  generalize symsZ l = A at *
  generalize symsZ k = C at *
  go_enter Try.func6, Try.ntmps6
  go_upto_region 3 with (first
    | (go_at_call 7; refine HP.out.mono ?_; rintro e w1 ⟨va, vb, ve, es, rfl, ha, hb, he, hv, hle, hin, hb1⟩)
    | (go_at_call 8; refine (HC.out _ hb1).mono ?_; rintro e w2 ⟨vc, rfl, hc, hb2⟩; have hbw := hb1.trans (hb2.mono hb1.size); have ha := ha.below hb2; have hb := hb.below hb2)
    | fail)
  have hlB := applyZ_len (a := A) hle hin
  have HTB : Hid (isTextB (applyZ A es).1 = true) := hidep (applyZ_text A es)
  clear HP HC he hv hle hin hb1 hb2
  generalize (applyZ A es).1 = B at *
  have hcom := lcs_comm A B
  have htri := lcs_tri A B C
  have hl1 := lcs_le _ A B (Nat.le_refl _)
  have hl2 := lcs_le _ A C (Nat.le_refl _)
  have hl3 := lcs_le _ C B (Nat.le_refl _)
  have z1 := leastZ_size HTA.out HTB.out
  have z2 := leastZ_size HTB.out HTA.out
  have z3 := leastZ_size HTA.out HTC.out
  have z4 := leastZ_size HTC.out HTB.out
  have hgAC : (C ++ A ++ C).all goodB = true := by rw [List.all_append, List.all_append, isTextB_good HTA.out, isTextB_good HTC.out]; rfl
  have hgBC : (C ++ B ++ C).all goodB = true := by rw [List.all_append, List.all_append, isTextB_good HTB.out, isTextB_good HTC.out]; rfl
  have z5 := leastZ_size (isTextB_mk (l := C ++ A ++ C) (by simp; omega) hgAC) (isTextB_mk (l := C ++ B ++ C) (by simp; omega) hgBC)
  have hpp : lcs (C ++ A ++ C) (C ++ B ++ C) = C.length + lcs A B + C.length := by rw [lcs_suf, lcs_pre]
  have hq5 : (leastZ (C ++ A ++ C) (C ++ B ++ C)).2.1 = (leastZ A B).2.1 := by
    rw [z5, z1, hpp]
    simp only [List.length_append]
    omega
  have hq2 : (leastZ B A).2.1 = (leastZ A B).2.1 := by rw [z1, z2, hcom]; omega
  have hq0 : ((leastZ A B).2.1 == 0) = decide (A = B) := by
    by_cases hab : A = B
    · rw [decide_eq_true hab, z1, hab, lcs_self]
      simp; omega
    · rw [decide_eq_false hab, beq_eq_false_iff_ne]
      intro hz
      rw [z1] at hz
      exact hab (lcs_all (by omega))
  have hle1 : (leastZ A B).2.1 ≤ (leastZ A C).2.1 + (leastZ C B).2.1 := by rw [z1, z3, z4]; omega
  have hb3 : 0 ≤ (leastZ A C).2.1 ∧ (leastZ A C).2.1 ≤ 4096 := by rw [z3]; omega
  have hb4 : 0 ≤ (leastZ C B).2.1 ∧ (leastZ C B).2.1 ≤ 4096 := by rw [z4]; omega
  have HL : Hid (∀ W x y u v, SymsAt W u x → SymsAt W v y → Below w2.heap.size w2 W → Calls Try.prog 16 #[u, v] W fun e w' => ∃ r t, e = .returned (.tuple #[r, .int .i64 (leastZ x y).2.1, .bool t]) ∧ Below w2.heap.size w2 w') := hidep (fun W x y u v hu hv hW =>
    (leastL_any x y u v W hu hv).mono (fun e w' ⟨r, he, _, hb⟩ => ⟨r, _, he, hW.trans (hb.mono hW.size)⟩))
  have H1 : Hid (∀ W, Below w2.heap.size w2 W → Calls Try.prog 16 #[va, vb] W fun e w' => ∃ r t, e = .returned (.tuple #[r, .int .i64 (leastZ A B).2.1, .bool t]) ∧ Below w2.heap.size w2 w') := hidep (fun W hW => HL.out W _ _ _ _ (ha.below hW) (hb.below hW) hW)
  have H2 : Hid (∀ W, Below w2.heap.size w2 W → Calls Try.prog 16 #[vb, va] W fun e w' => ∃ r t, e = .returned (.tuple #[r, .int .i64 (leastZ A B).2.1, .bool t]) ∧ Below w2.heap.size w2 w') := hidep (fun W hW => by rw [← hq2]; exact HL.out W _ _ _ _ (hb.below hW) (ha.below hW) hW)
  have H3 : Hid (∀ W, Below w2.heap.size w2 W → Calls Try.prog 16 #[va, vc] W fun e w' => ∃ r t, e = .returned (.tuple #[r, .int .i64 (leastZ A C).2.1, .bool t]) ∧ Below w2.heap.size w2 w') := hidep (fun W hW => HL.out W _ _ _ _ (ha.below hW) (hc.below hW) hW)
  have H4 : Hid (∀ W, Below w2.heap.size w2 W → Calls Try.prog 16 #[vc, vb] W fun e w' => ∃ r t, e = .returned (.tuple #[r, .int .i64 (leastZ C B).2.1, .bool t]) ∧ Below w2.heap.size w2 w') := hidep (fun W hW => HL.out W _ _ _ _ (hc.below hW) (hb.below hW) hW)
  have H5 : Hid (∀ W u v, SymsAt W u (C ++ A ++ C) → SymsAt W v (C ++ B ++ C) → Below w2.heap.size w2 W → Calls Try.prog 16 #[u, v] W fun e w' => ∃ r t, e = .returned (.tuple #[r, .int .i64 (leastZ A B).2.1, .bool t]) ∧ Below w2.heap.size w2 w') := hidep (fun W u v hu hv hW => by rw [← hq5]; exact HL.out W _ _ _ _ hu hv hW)
  have HSS : Hid (∀ W, Below w2.heap.size w2 W → Calls Try.prog 15 #[va, vb] W fun e w' => e = .returned (.bool (decide (A = B))) ∧ Below w2.heap.size w2 w') := hidep (fun W hW =>
    (sameSyms_any va vb A B W (ha.below hW) (hb.below hW)).mono (fun e w' ⟨he, n, hn⟩ => ⟨he, by rw [hn]; exact below_drewN hW n⟩))
  have HLV : Hid (∀ W : World, Below w2.heap.size w2 W → Calls Try.prog 11 #[] W fun e w' => e = .returned (.bool true) ∧ Below w2.heap.size w2 w') := hidep (fun W hW =>
    (lives_any W).mono (fun e w' ⟨he, hb⟩ => ⟨he, hW.trans (hb.mono hW.size)⟩))
  clear z1 z2 z3 z4 z5 hpp hq5 hq2 hcom htri hl1 hl2 hl3 hgAC hgBC HL
  generalize decide (A = B) = D at *
  generalize (leastZ A B).2.1 = s1 at *
  generalize (leastZ A C).2.1 = s3 at *
  generalize (leastZ C B).2.1 = s4 at *
  obtain ⟨hb5, hb6⟩ := hb3
  obtain ⟨hb7, hb8⟩ := hb4
  have hX := Below.refl w2.heap.size w2
  go_upto_region 7 with (first
    | (go_at_call 16; (with_reducible refine (H1.out _ hX).mono ?_); rintro e wn ⟨r1, t1, rfl, hX⟩)
    | (go_at_call 16; (with_reducible refine (H2.out _ hX).mono ?_); rintro e wn ⟨r2, t2, rfl, hX⟩)
    | (go_at_call 16; (with_reducible refine (H3.out _ hX).mono ?_); rintro e wn ⟨r3, t3, rfl, hX⟩)
    | (go_at_call 16; (with_reducible refine (H4.out _ hX).mono ?_); rintro e wn ⟨r4, t4, rfl, hX⟩)
    | fail)
  clear H1 H2 H3 H4
  have HX := hidep hX
  go_cut [23] (fun s23 wc => SymsAt wc s23 (C ++ A ++ C) ∧ Below w2.heap.size w2 wc)
  case first =>
    have hone := symsC_one A
    have hone2 := symsC_one C
    have hxa : Below wn.heap.size wn (wn.alloc (.cells #[] 30)) := (Below.refl _ _).alloc (Nat.le_refl _) _
    have hc3 := hc.below (hX.trans (hxa.mono hX.size))
    go_wp2_with (first
      | (at_builtin; refine wpList_append_rd _ rfl (.tmp 65) (.tmp 66) rfl slSyms wn.heap.size (.slice (some ⟨wn.heap.size, 0, none⟩) 0 0) 0 [] rfl (fresh_none wn) _ _ _ _ rfl hc3 hone2 (by unfold maxLen; omega) (by omega) (by simp) ?_; intro v3' w3 hown3 hgr3 hat hnl; clear hat hnl; simp only [Nat.zero_add, List.nil_append] at hown3; have hb3 := hxa.grown hgr3 (by simp) (fun g hg => by simp [Value.ownBlock] at hg; omega); have ha4 := ha.below (hX.trans (hb3.mono hX.size)); clear hgr3)
      | (at_builtin; refine wpList_append_rd _ rfl (.tmp 67) (.tmp 68) rfl slSyms wn.heap.size v3' _ _ rfl hown3 _ _ _ _ rfl ha4 hone (by unfold maxLen; omega) (by omega) (by have := hb3.size; omega) ?_; intro v4' w4 hown4 hgr4 hat hnl; clear hat hnl; have hb4 := hb3.grown hgr4 hb3.size (fun g hg => (hown3.lt g hg).1); have hc5 := hc.below (hX.trans (hb4.mono hX.size)); clear hgr4)
      | (at_builtin; refine wpList_append_rd _ rfl (.tmp 69) (.tmp 70) rfl slSyms wn.heap.size v4' _ _ rfl hown4 _ _ _ _ rfl hc5 hone2 (by unfold maxLen; omega) (by omega) (by have := hb4.size; omega) ?_; intro v5' w5 hown5 hgr5 hat hnl; clear hat hnl; have hb5 := hb4.grown hgr5 hb4.size (fun g hg => (hown4.lt g hg).1))
      | fail)
    go_meet
    refine ⟨?_, hX.trans (hb5.mono hX.size)⟩
    have := Rd.of_own hown5
    unfold SymsAt
    rw [symsC_append, symsC_append, List.length_append, List.length_append]
    exact this
  case rest =>
    obtain ⟨hca, hX2⟩ := hcut
    clear hX HX
    obtain ⟨wm, rfl⟩ : ∃ wm : World, wm = wc := ⟨_, rfl⟩
    go_upto_region 8 with (fail)
    go_cut [24] (fun s24 wd => SymsAt wd s24 (C ++ B ++ C) ∧ Below wm.heap.size wm wd)
    case first =>
      have hone := symsC_one B
      have hone2 := symsC_one C
      have hxa : Below wm.heap.size wm (wm.alloc (.cells #[] 30)) := (Below.refl _ _).alloc (Nat.le_refl _) _
      have hc3 := hc.below (hX2.trans (hxa.mono hX2.size))
      go_wp2_with (first
        | (at_builtin; refine wpList_append_rd _ rfl (.tmp 72) (.tmp 73) rfl slSyms wm.heap.size (.slice (some ⟨wm.heap.size, 0, none⟩) 0 0) 0 [] rfl (fresh_none wm) _ _ _ _ rfl hc3 hone2 (by unfold maxLen; omega) (by omega) (by simp) ?_; intro v3' w3 hown3 hgr3 hat hnl; clear hat hnl; simp only [Nat.zero_add, List.nil_append] at hown3; have hb3 := hxa.grown hgr3 (by simp) (fun g hg => by simp [Value.ownBlock] at hg; omega); have ha4 := hb.below (hX2.trans (hb3.mono hX2.size)); clear hgr3)
        | (at_builtin; refine wpList_append_rd _ rfl (.tmp 74) (.tmp 75) rfl slSyms wm.heap.size v3' _ _ rfl hown3 _ _ _ _ rfl ha4 hone (by unfold maxLen; omega) (by omega) (by have := hb3.size; omega) ?_; intro v4' w4 hown4 hgr4 hat hnl; clear hat hnl; have hb4 := hb3.grown hgr4 hb3.size (fun g hg => (hown3.lt g hg).1); have hc5 := hc.below (hX2.trans (hb4.mono hX2.size)); clear hgr4)
        | (at_builtin; refine wpList_append_rd _ rfl (.tmp 76) (.tmp 77) rfl slSyms wm.heap.size v4' _ _ rfl hown4 _ _ _ _ rfl hc5 hone2 (by unfold maxLen; omega) (by omega) (by have := hb4.size; omega) ?_; intro v5' w5 hown5 hgr5 hat hnl; clear hat hnl; have hb5 := hb4.grown hgr5 hb4.size (fun g hg => (hown4.lt g hg).1))
        | fail)
      go_meet
      refine ⟨?_, hb5⟩
      have := Rd.of_own hown5
      unfold SymsAt
      rw [symsC_append, symsC_append, List.length_append, List.length_append]
      exact this
    case rest =>
      obtain ⟨hcb, hX3⟩ := hcut
      have hca := hca.below hX3
      have hX := hX2.trans (hX3.mono hX2.size)
      clear ha hb hc hX2 hX3
      go_wp2_with (first
        | (go_at_call 16; refine (H5.out _ _ _ hca hcb hX).mono ?_; rintro e wn ⟨r5, t5, rfl, hX⟩)
        | (go_at_call 15; refine (HSS.out _ hX).mono ?_; rintro e wn ⟨rfl, hX⟩)
        | (go_at_call 11; refine (HLV.out _ hX).mono ?_; rintro e wn ⟨rfl, hX⟩)
        | fail)
      all_goals go_ret
      all_goals exact ⟨rfl, hbw.trans (hX.mono hbw.size)⟩
end Go.Proofs.Ythhjnafhpmgceaa
