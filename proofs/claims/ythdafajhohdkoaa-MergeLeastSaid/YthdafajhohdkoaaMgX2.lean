/- For all lists of ints and a bool the law MergeAfter returns true, and leaves its arguments as they were: no condition. -/
import Derived.Test.YthdafajhohdkoaaMgX1
import Derived.Test.YthdafajhohdkoaaMgY
namespace Go.Proofs.Ythdafajhohdkoaa
open Go.RowKit Go.Lab
theorem clash_len (va vb : Value) (a b : List Edit) (w : World) (ha : EditsAt w va a) (hb : EditsAt w vb b) {n : Nat} (hn : (clashZ a b).length = n) :
    Calls Try.prog 21 #[va, vb] w fun e w' => ∃ x c, e = .returned (.slice x n c) ∧ Below w.heap.size w w' := by
  subst hn
  exact (mClash_any va vb a b w ha hb).mono (fun _ _ ⟨v, he, ho, hb⟩ => by
    have h1 : PairsAt _ v (clashZ a b) := Rd.of_own ho
    obtain ⟨x, c, rfl, _, _⟩ := h1.form
    exact ⟨x, c, he, hb⟩)
theorem move_to (va vb : Value) (a b : List Edit) (w : World) (ha : EditsAt w va a) (hb : EditsAt w vb b) {m : List Edit} {er : Int} (hm : (moveZ a b).1 = m) (her : (moveZ a b).2 = er) :
    Calls Try.prog 22 #[va, vb] w fun e w' => ∃ vo, e = .returned (.tuple #[vo, .int .i64 er]) ∧ EditsAt w' vo m ∧ Below w.heap.size w w' := by
  subst hm her
  exact move_any va vb a b w ha hb
theorem clashZ_of {n : Int} {a b : List Edit} (hn : n ≤ 2048) (ha : validZ n a = true) (hb : validZ n b = true) : clashZ a b = clashP a b := by
  unfold clashZ
  rw [validZ_mono hn ha, validZ_mono hn hb]
  rfl
set_option maxHeartbeats 4000000 in
set_option maxRecDepth 100000 in
theorem lawAfter_any (v0 v1 v2 : Value) (l m k : List Int) (odd : Bool) (w : World) (h0 : IntsAt w v0 l) (h1 : IntsAt w v1 m) (h2 : IntsAt w v2 k) :
    Calls Try.prog 7 #[v0, v1, v2, .bool odd] w fun e w' => e = .returned (.bool true) ∧ Below w.heap.size w w' := by
  have ht := symsZ_text l
  have hlen := symsZ_len l
  have H0 := hidep (syms_txt v0 l w h0)
  generalize symsZ l = base at *
  go_enter Try.func7, Try.ntmps7
  go_upto_region 2 with (go_at_call 9; refine H0.out.mono ?_; rintro e w1 ⟨ab, cb, rfl, hS, hb1⟩)
  go_upto_region 3 with (go_at_call 10; refine (some_txt v1 m _ _ _ (h1.below hb1) (by omega)).mono ?_; rintro e w2 ⟨va, a, rfl, hA, hva, sa, hb2⟩)
  have hB2 := hb1.trans (hb2.mono hb1.size)
  go_upto_region 4 with (go_at_call 10; refine (some_txt v2 k _ _ _ (h2.below hB2) (by omega)).mono ?_; rintro e w3 ⟨vb, b, rfl, hBb, hvb, sb, hb3⟩)
  have hB3 := hB2.trans (hb3.mono hB2.size)
  replace hS := (hS.below hb2).below hb3
  replace hA := hA.below hb3
  have hcz : clashZ a b = clashP a b := clashZ_of (by omega) hva hvb
  by_cases hc : clashP a b = []
  · obtain ⟨q1, q2, q3, q4, q5⟩ := after_law ht (by omega) hva hvb sa sb hc
    obtain ⟨o1, ho1⟩ : ∃ o, (mergeZ base a b).1 = o := ⟨_, rfl⟩
    obtain ⟨y, hy⟩ : ∃ o, (applyZ base b).1 = o := ⟨_, rfl⟩
    obtain ⟨mo, hmo⟩ : ∃ o, (moveZ a b).1 = o := ⟨_, rfl⟩
    rw [hy, hmo] at q4 q5
    have HM1 := hidep (fun X (hX : Below w3.heap.size w3 X) => merge_to _ _ _ base a b X (hS.below hX) (hA.below hX) (hBb.below hX) ho1 q1)
    have HAP := hidep (fun X (hX : Below w3.heap.size w3 X) => apply_to _ _ base b X (hS.below hX) (hBb.below hX) hy q2)
    have HMV := hidep (fun X (hX : Below w3.heap.size w3 X) => move_to _ _ a b X (hA.below hX) (hBb.below hX) hmo q3)
    have HM2 := hidep (fun X vy vm (h : SymsAt X vy y) (h' : EditsAt X vm mo) => merge_to vy vm _ y mo [] X h h' (EditsAt.nil X) (q5.trans ho1) q4)
    have HCL := hidep (fun X (hX : Below w3.heap.size w3 X) => clash_len _ _ a b X (hA.below hX) (hBb.below hX) (n := 0) (by rw [hcz, hc]; rfl))
    clear q1 q2 q3 q4 q5 ho1 hy hmo hva hvb sa sb hA hBb hS h0 h1 h2 H0 ht hcz hc
    go_upto_region 5 with (go_at_call 16; refine (HM1.out _ (Below.refl _ _)).mono ?_; rintro e w4 ⟨vx, rfl, hx, hb4⟩)
    go_upto_region 8 with (go_at_call 19; refine (HAP.out _ hb4).mono ?_; rintro e w5 ⟨vy, rfl, hy, hb5⟩)
    have hc5 := hb4.trans (hb5.mono hb4.size)
    go_upto_region 9 with (go_at_call 22; refine (HMV.out _ hc5).mono ?_; rintro e w6 ⟨vm, rfl, hm, hb6⟩)
    have hc6 := hc5.trans (hb6.mono hc5.size)
    go_upto_region 10 with (go_at_call 16; refine (HM2.out _ _ _ (hy.below hb6) hm).mono ?_; rintro e w7 ⟨vz, rfl, hz, hb7⟩)
    have hc7 := hc6.trans (hb7.mono hc6.size)
    replace hx := ((hx.below hb5).below hb6).below hb7
    go_wp2_with (first
      | (go_at_call 21; (with_reducible refine (HCL.out _ hc7).mono ?_); rintro e w8 ⟨xx, cc, rfl, hb8⟩)
      | (go_at_call 20; (with_reducible refine (s_same (hx.below hb8) (hz.below hb8)).mono ?_); rintro e w9 ⟨rfl, hb9⟩)
      | (go_at_call 13; refine (lives_any _).mono ?_; rintro e w10 ⟨rfl, hb10⟩)
      | fail)
    go_ret
    have r8 := hc7.trans (hb8.mono hc7.size)
    have r9 := r8.trans (hb9.mono r8.size)
    have r10 := r9.trans (hb10.mono r9.size)
    exact ⟨rfl, hB3.trans (r10.mono hB3.size)⟩
  · have hmz := merge_clash ht hva hvb hc
    obtain ⟨n, hn⟩ : ∃ n, (clashZ a b).length = n := ⟨_, rfl⟩
    have hn0 : 0 < n := by
      rw [← hn, hcz]
      exact List.length_pos_iff.2 hc
    have HM1 := hidep (fun X (hX : Below w3.heap.size w3 X) => merge_to _ _ _ base a b X (hS.below hX) (hA.below hX) (hBb.below hX) (o := []) (er := 18) (by rw [hmz]) (by rw [hmz]))
    have HCL := hidep (fun X (hX : Below w3.heap.size w3 X) => clash_len _ _ a b X (hA.below hX) (hBb.below hX) hn)
    clear hmz hn hva hvb sa sb hA hBb hS h0 h1 h2 H0 ht hcz hc
    go_upto_region 5 with (go_at_call 16; refine (HM1.out _ (Below.refl _ _)).mono ?_; rintro e w4 ⟨vx, rfl, hx, hb4⟩)
    go_wp2_with (first
      | (go_at_call 21; (with_reducible refine (HCL.out _ hb4).mono ?_); rintro e w8 ⟨xx, cc, rfl, hb8⟩)
      | (go_at_call 13; refine (lives_any _).mono ?_; rintro e w10 ⟨rfl, hb10⟩)
      | fail)
    go_ret
    have r8 := hb4.trans (hb8.mono hb4.size)
    have r10 := r8.trans (hb10.mono r8.size)
    exact ⟨rfl, hB3.trans (r10.mono hB3.size)⟩
end Go.Proofs.Ythdafajhohdkoaa
