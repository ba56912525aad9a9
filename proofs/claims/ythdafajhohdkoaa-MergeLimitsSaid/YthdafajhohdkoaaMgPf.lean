/- The law's helper 'all' is true of all texts and edits: the code's Merge, Kept, Move and Clash return what the reference's do. -/
import Derived.Test.YthdafajhohdkoaaMgPb
import Derived.Test.YthdafajhohdkoaaMgPd
import Derived.Test.YthdafajhohdkoaaMgPe
import Derived.Test.YthdafajhohdkoaaMgPq
namespace Go.Proofs.Ythdafajhohdkoaa
open Go.RowKit Go.Lab
set_option maxRecDepth 100000 in
set_option maxHeartbeats 1000000 in
theorem both34_any (v va vb : Value) (base : List Sym) (a b : List Edit) (w : World) (h : SymsAt w v base) (ha : EditsAt w va a) (hb : EditsAt w vb b) :
    Calls Try.prog 28 #[v, va, vb] w fun e w' => ∃ vo vk, e = .returned (.tuple #[vo, vk, .int .i64 (mergeZ base a b).2.2]) ∧ SymsAt w' vo (mergeZ base a b).1 ∧ PairsAt w' vk (mergeZ base a b).2.1 ∧ Below w.heap.size w w' := by
  by_cases hall : (isTextB base && validZ base.length a && validZ base.length b) = true
  · have h2 := hall
    simp only [Bool.and_eq_true] at h2
    have h3 := both34_run v va vb base a b w h ha hb h2.1.1 h2.1.2 h2.2
    unfold BothR at h3
    rw [bothZ_eq] at h3
    exact h3
  · have hf : (isTextB base && validZ base.length a && validZ base.length b) = false := by simpa using hall
    have HZ : Hid (mergeZ base a b = ([], [], 1)) := hidep (mergeZ_bad hf)
    obtain ⟨ab, cb, rfl, _, _⟩ := h.form
    obtain ⟨aa, ca, rfl, _, _⟩ := ha.form
    obtain ⟨ae, ce, rfl, _, _⟩ := hb.form
    have HT := hidep (text34_any _ base w h)
    cases ht : isTextB base
    · rw [ht] at HT
      clear hall hf h ha hb ht
      go_enter Try.func28, Try.ntmps28
      go_wp2_with (first
        | (go_at_call 49; refine HT.out.mono ?_; rintro e w1 ⟨rfl, rfl⟩)
        | fail)
      go_ret3
      exact ⟨_, _, by rw [HZ.out] <;> rfl, by rw [HZ.out]; exact SymsAt.nil _, by rw [HZ.out]; exact Rd.nil _ _ _, Below.refl _ _⟩
    · have hl := isTextB_len0 ht
      have HA := hidep (fun W (hW : Below w.heap.size w W) => valid34_any _ base.length a W (ha.below hW) (by omega) (by omega))
      have HB := hidep (fun W (hW : Below w.heap.size w W) => valid34_any _ base.length b W (hb.below hW) (by omega) (by omega))
      rw [ht] at HT hf
      clear hall h ha hb ht
      cases hva : validZ base.length a
      · rw [hva] at HA
        clear hf hva
        go_enter Try.func28, Try.ntmps28
        go_wp2_with (first
          | (go_at_call 49; refine HT.out.mono ?_; rintro e w1 ⟨rfl, rfl⟩)
          | (go_at_call 24; (with_reducible refine (HA.out _ (Below.refl _ _)).mono ?_); clear HA; rintro e w2 ⟨rfl, hb2⟩)
          | fail)
        go_ret3
        exact ⟨_, _, by rw [HZ.out] <;> rfl, by rw [HZ.out]; exact SymsAt.nil _, by rw [HZ.out]; exact Rd.nil _ _ _, hb2⟩
      · cases hvb : validZ base.length b
        · rw [hva] at HA
          rw [hvb] at HB
          clear hf hva hvb
          go_enter Try.func28, Try.ntmps28
          go_wp2_with (first
            | (go_at_call 49; refine HT.out.mono ?_; rintro e w1 ⟨rfl, rfl⟩)
            | (go_at_call 24; (with_reducible refine (HA.out _ (Below.refl _ _)).mono ?_); clear HA; rintro e w2 ⟨rfl, hb2⟩)
            | (go_at_call 24; (with_reducible refine (HB.out _ hb2).mono ?_); rintro e w3 ⟨rfl, hb3⟩; have hb13 := hb2.trans (hb3.mono hb2.size); clear hb2 hb3)
            | fail)
          go_ret3
          exact ⟨_, _, by rw [HZ.out] <;> rfl, by rw [HZ.out]; exact SymsAt.nil _, by rw [HZ.out]; exact Rd.nil _ _ _, hb13⟩
        · rw [hva, hvb] at hf
          cases hf
set_option maxRecDepth 100000 in
set_option maxHeartbeats 1000000 in
theorem move34_any (va vb : Value) (a b : List Edit) (w : World) (ha : EditsAt w va a) (hb : EditsAt w vb b) : Calls Try.prog 29 #[va, vb] w (MovedR w a b) := by
  by_cases hall : (validZ 2048 a && validZ 2048 b) = true
  · have h2 := hall
    simp only [Bool.and_eq_true] at h2
    exact move34_run va vb a b w ha hb h2.1 h2.2
  · have hf : (validZ 2048 a && validZ 2048 b) = false := by simpa using hall
    have HZ : Hid (moveZ a b = ([], 1)) := hidep (if_pos hf)
    obtain ⟨aa, ca, rfl, _, _⟩ := ha.form
    obtain ⟨ae, ce, rfl, _, _⟩ := hb.form
    have HA := hidep (fun W (hW : Below w.heap.size w W) => valid34_any _ 2048 a W (ha.below hW) (by omega) (by omega))
    have HB := hidep (fun W (hW : Below w.heap.size w W) => valid34_any _ 2048 b W (hb.below hW) (by omega) (by omega))
    clear hall ha hb
    cases hva : validZ 2048 a
    · rw [hva] at HA
      clear hf hva
      go_enter Try.func29, Try.ntmps29
      go_wp2_with (first
        | (go_at_call 24; (with_reducible refine (HA.out _ (Below.refl _ _)).mono ?_); clear HA; rintro e w2 ⟨rfl, hb2⟩)
        | fail)
      go_ret2
      exact ⟨_, by rw [HZ.out] <;> rfl, by rw [HZ.out]; exact EditsAt.nil _, hb2⟩
    · cases hvb : validZ 2048 b
      · rw [hva] at HA
        rw [hvb] at HB
        clear hf hva hvb
        go_enter Try.func29, Try.ntmps29
        go_wp2_with (first
          | (go_at_call 24; (with_reducible refine (HA.out _ (Below.refl _ _)).mono ?_); clear HA; rintro e w2 ⟨rfl, hb2⟩)
          | (go_at_call 24; (with_reducible refine (HB.out _ hb2).mono ?_); rintro e w3 ⟨rfl, hb3⟩; have hb13 := hb2.trans (hb3.mono hb2.size); clear hb2 hb3)
          | fail)
        go_ret2
        exact ⟨_, by rw [HZ.out] <;> rfl, by rw [HZ.out]; exact EditsAt.nil _, hb13⟩
      · rw [hva, hvb] at hf
        cases hf
theorem samePairs_same (v u : Value) (l : List (Nat × Nat)) (w : World) (h : PairsAt w v l) (h' : PairsAt w u l) :
    Calls Try.prog 30 #[v, u] w fun e w' => e = .returned (.bool true) ∧ ∃ n, w' = w.drewN n :=
  (samePairs_any v u l l w h h').mono fun e w' ⟨he, hn⟩ => ⟨by rw [he, decide_eq_true rfl], hn⟩
theorem below_thru {w X Y : World} (h : Below w.heap.size w X) (n : Nat) (hb : Below (X.drewN n).heap.size (X.drewN n) Y) : Below w.heap.size w Y :=
  (below_drewN h n).trans (hb.mono h.size)
set_option maxRecDepth 100000 in
set_option maxHeartbeats 4000000 in
theorem all_any (v va vb : Value) (base : List Sym) (a b : List Edit) (w : World) (h : SymsAt w v base) (ha : EditsAt w va a) (hb : EditsAt w vb b) :
    Calls Try.prog 12 #[v, va, vb] w fun e w' => e = .returned (.bool true) ∧ Below w.heap.size w w' := by
  have HM := hidep (merge_any v va vb base a b w h ha hb)
  have HK := hidep (fun W (hW : Below w.heap.size w W) => kept_any v va vb base a b W (h.below hW) (ha.below hW) (hb.below hW))
  have HB := hidep (fun W (hW : Below w.heap.size w W) => both34_any v va vb base a b W (h.below hW) (ha.below hW) (hb.below hW))
  have HV : Hid (∀ W, Below w.heap.size w W → Calls Try.prog 22 #[va, vb] W fun e w' => ∃ v, e = .returned (.tuple #[v, .int .i64 (moveZ a b).2]) ∧ EditsAt w' v (moveZ a b).1 ∧ Below W.heap.size W w') := hidep (fun W (hW : Below w.heap.size w W) => move_any va vb a b W (ha.below hW) (hb.below hW))
  have HV3 : Hid (∀ W, Below w.heap.size w W → Calls Try.prog 29 #[va, vb] W fun e w' => ∃ v, e = .returned (.tuple #[v, .int .i64 (moveZ a b).2]) ∧ EditsAt w' v (moveZ a b).1 ∧ Below W.heap.size W w') := hidep (fun W (hW : Below w.heap.size w W) => move34_any va vb a b W (ha.below hW) (hb.below hW))
  have HC := hidep (fun W (hW : Below w.heap.size w W) => mClash_any va vb a b W (ha.below hW) (hb.below hW))
  have HC3 := hidep (fun W (hW : Below w.heap.size w W) => clash34_any va vb a b W (ha.below hW) (hb.below hW))
  clear h ha hb
  generalize mergeZ base a b = r at *
  obtain ⟨r1, r2, r3⟩ := r
  generalize moveZ a b = m at *
  obtain ⟨m1, m2⟩ := m
  generalize clashZ a b = z at *
  simp only at HM HK HB HV HV3
  go_enter Try.func12, Try.ntmps12
  go_upto_region 6 with (first
    | (go_at_call 16; refine HM.out.mono ?_; rintro e w1 ⟨x1, rfl, hx1, hb1⟩; have hs1 := SymsAt.of_own hx1; clear hx1)
    | (go_at_call 17; refine (HK.out _ hb1).mono ?_; rintro e w2 ⟨x2, rfl, hx2, hb2⟩; have hs2 : PairsAt w2 x2 r2 := Rd.of_own hx2; have hs1 := hs1.below hb2; have hb12 := hb1.trans (hb2.mono hb1.size); clear hx2)
    | (go_at_call 28; refine (HB.out _ hb12).mono ?_; rintro e w3 ⟨x3, x4, rfl, hs3, hs4, hb3⟩; have hs1 := hs1.below hb3; have hs2 := hs2.below hb3; have hb13 := hb12.trans (hb3.mono hb12.size))
    | (go_at_call 22; refine (HV.out _ hb13).mono ?_; rintro e w4 ⟨x5, rfl, hs5, hb4⟩; have hs1 := hs1.below hb4; have hs2 := hs2.below hb4; have hs3 := hs3.below hb4; have hs4 := hs4.below hb4; have hb14 := hb13.trans (hb4.mono hb13.size))
    | (go_at_call 29; refine (HV3.out _ hb14).mono ?_; rintro e w5 ⟨x6, rfl, hs6, hb5⟩; have hs1 := hs1.below hb5; have hs2 := hs2.below hb5; have hs3 := hs3.below hb5; have hs4 := hs4.below hb5; have hs5 := hs5.below hb5; have hb15 := hb14.trans (hb5.mono hb14.size))
    | fail)
  have HS1 := hidep (sameSyms_any x1 x3 r1 r1 w5 hs1 hs3)
  have HS2 := hidep (fun n => samePairs_any x2 x4 r2 r2 (w5.drewN n) (hs2.below (below_drewN (Below.refl _ _) n)) (hs4.below (below_drewN (Below.refl _ _) n)))
  have HS3 := hidep (fun n => sameAll_any x5 x6 m1 m1 (w5.drewN n) (hs5.below (below_drewN (Below.refl _ _) n)) (hs6.below (below_drewN (Below.refl _ _) n)))
  have hd1 : decide (r1 = r1) = true := decide_eq_true rfl
  have hd2 : decide (r2 = r2) = true := decide_eq_true rfl
  have hd3 : decide (m1 = m1) = true := decide_eq_true rfl
  have hd4 : decide (z = z) = true := decide_eq_true rfl
  rw [hd1] at HS1
  rw [hd2] at HS2
  rw [hd3] at HS3
  have HB15 := hidep hb15
  clear hs1 hs2 hs3 hs4 hs5 hs6 hb15 HM HK HB HV HV3 hb1 hb2 hb3 hb4 hb5 hb12 hb13 hb14 hd1 hd2 hd3
  have HD4 := hidep hd4
  clear hd4
  go_wp2_with (first
    | (go_at_call 20; refine HS1.out.mono ?_; rintro e w6 ⟨rfl, n6, rfl⟩)
    | (go_at_call 30; refine (HS2.out _).mono ?_; clear HS2; rintro e w7 ⟨rfl, n7, rfl⟩)
    | (go_at_call 31; refine (HS3.out _).mono ?_; rintro e w8 ⟨rfl, hb8⟩; have hb18 := below_thru HB15.out _ hb8)
    | (go_at_call 21; refine (HC.out _ hb18).mono ?_; rintro e w9 ⟨y1, rfl, ho1, hb9⟩; have hp1 : PairsAt w9 y1 z := Rd.of_own ho1; have hb19 := hb18.trans (hb9.mono hb18.size); clear ho1)
    | (go_at_call 32; refine (HC3.out _ hb19).mono ?_; rintro e w10 ⟨y2, rfl, ho2, hb10⟩; have hp2 : PairsAt w10 y2 z := Rd.of_own ho2; have hp1 := hp1.below hb10; have hb20 := hb19.trans (hb10.mono hb19.size); clear ho2)
    | (go_at_call 30; refine (samePairs_same _ _ z _ hp1 hp2).mono ?_; rintro e w11 ⟨rfl, n11, rfl⟩)
    | fail)
  go_ret
  exact ⟨rfl, below_drewN hb20 _⟩
end Go.Proofs.Ythdafajhohdkoaa
