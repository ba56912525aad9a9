/- Contract: the examples of the section (lives) return true. -/
import Derived.Test.YthdafajhohdkoaaMgU
namespace Go.Proofs.Ythdafajhohdkoaa
open Go.RowKit Go.Lab
theorem t_gen (s : ByteArray) (L : List Sym) (h : ofStr s = L) (hs : s.size ≤ 1000) (w : World) : Calls Try.prog 33 #[.string s] w fun e w' => ∃ u, e = .returned u ∧ SymsAt w' u L ∧ Below w.heap.size w w' :=
  (lawText_any s w hs).mono (fun e w' ⟨u, he, ho, hb⟩ => by subst h; exact ⟨u, he, SymsAt.of_own ho, hb⟩)
theorem e_gen (p d : Int) (s : ByteArray) (L : List Sym) (h : ofStr s = L) (hs : s.size ≤ 1000) (w : World) : Calls Try.prog 34 #[.int .i64 p, .int .i64 d, .string s] w fun e w' => ∃ a n c, e = .returned (.agg #[.int .i64 p, .int .i64 d, .slice a n c]) ∧ SymsAt w' (.slice a n c) L ∧ Below w.heap.size w w' :=
  (lawEdit_any p d s w hs).mono (fun e w' ⟨a, c, he, h1, hb⟩ => by subst h; exact ⟨a, _, c, he, h1, hb⟩)
theorem t_base (w : World) : Calls Try.prog 33 #[.string ⟨#[97, 98, 99, 100, 101, 102]⟩] w fun e w' => ∃ u, e = .returned u ∧ SymsAt w' u lBase ∧ Below w.heap.size w w' := t_gen _ _ (by decide) (by decide) w
theorem t_out (w : World) : Calls Try.prog 33 #[.string ⟨#[97, 88, 99, 121, 121, 100, 101]⟩] w fun e w' => ∃ u, e = .returned u ∧ SymsAt w' u lOut ∧ Below w.heap.size w w' := t_gen _ _ (by decide) (by decide) w
theorem e_A (w : World) : Calls Try.prog 34 #[.int .i64 1, .int .i64 1, .string ⟨#[88]⟩] w fun e w' => ∃ a n c, e = .returned (.agg #[.int .i64 1, .int .i64 1, .slice a n c]) ∧ SymsAt w' (.slice a n c) [⟨0, 88⟩] ∧ Below w.heap.size w w' := e_gen _ _ _ _ (by decide) (by decide) w
theorem e_B1 (w : World) : Calls Try.prog 34 #[.int .i64 3, .int .i64 0, .string ⟨#[121, 121]⟩] w fun e w' => ∃ a n c, e = .returned (.agg #[.int .i64 3, .int .i64 0, .slice a n c]) ∧ SymsAt w' (.slice a n c) [⟨0, 121⟩, ⟨0, 121⟩] ∧ Below w.heap.size w w' := e_gen _ _ _ _ (by decide) (by decide) w
theorem e_B2 (w : World) : Calls Try.prog 34 #[.int .i64 5, .int .i64 1, .string ⟨#[]⟩] w fun e w' => ∃ a n c, e = .returned (.agg #[.int .i64 5, .int .i64 1, .slice a n c]) ∧ SymsAt w' (.slice a n c) [] ∧ Below w.heap.size w w' := e_gen _ _ _ _ (by decide) (by decide) w
theorem e_C (w : World) : Calls Try.prog 34 #[.int .i64 2, .int .i64 0, .string ⟨#[122]⟩] w fun e w' => ∃ a n c, e = .returned (.agg #[.int .i64 2, .int .i64 0, .slice a n c]) ∧ SymsAt w' (.slice a n c) [⟨0, 122⟩] ∧ Below w.heap.size w w' := e_gen _ _ _ _ (by decide) (by decide) w
theorem e_D (w : World) : Calls Try.prog 34 #[.int .i64 1, .int .i64 0, .string ⟨#[122, 122]⟩] w fun e w' => ∃ a n c, e = .returned (.agg #[.int .i64 1, .int .i64 0, .slice a n c]) ∧ SymsAt w' (.slice a n c) [⟨0, 122⟩, ⟨0, 122⟩] ∧ Below w.heap.size w w' := e_gen _ _ _ _ (by decide) (by decide) w
theorem e_E (w : World) : Calls Try.prog 34 #[.int .i64 0, .int .i64 1, .string ⟨#[122, 122, 122]⟩] w fun e w' => ∃ a n c, e = .returned (.agg #[.int .i64 0, .int .i64 1, .slice a n c]) ∧ SymsAt w' (.slice a n c) [⟨0, 122⟩, ⟨0, 122⟩, ⟨0, 122⟩] ∧ Below w.heap.size w w' := e_gen _ _ _ _ (by decide) (by decide) w
theorem e_M1 (w : World) : Calls Try.prog 34 #[.int .i64 5, .int .i64 0, .string ⟨#[121, 121]⟩] w fun e w' => ∃ a n c, e = .returned (.agg #[.int .i64 5, .int .i64 0, .slice a n c]) ∧ SymsAt w' (.slice a n c) [⟨0, 121⟩, ⟨0, 121⟩] ∧ Below w.heap.size w w' := e_gen _ _ _ _ (by decide) (by decide) w
theorem e_M2 (w : World) : Calls Try.prog 34 #[.int .i64 7, .int .i64 1, .string ⟨#[]⟩] w fun e w' => ∃ a n c, e = .returned (.agg #[.int .i64 7, .int .i64 1, .slice a n c]) ∧ SymsAt w' (.slice a n c) [] ∧ Below w.heap.size w w' := e_gen _ _ _ _ (by decide) (by decide) w
theorem m_ex (v va vb : Value) (w : World) (h : SymsAt w v lBase) (ha : EditsAt w va lA) (hb : EditsAt w vb lB) : Calls Try.prog 16 #[v, va, vb] w fun e w' => ∃ vo, e = .returned (.tuple #[vo, .int .i64 0]) ∧ SymsAt w' vo lOut ∧ Below w.heap.size w w' := by
  have := merge_any v va vb lBase lA lB w h ha hb
  rw [ex_merge] at this
  exact this.mono (fun e w' ⟨vo, he, ho, hb⟩ => ⟨vo, he, SymsAt.of_own ho, hb⟩)
theorem k_ex (v va vb : Value) (w : World) (h : SymsAt w v lBase) (ha : EditsAt w va lA) (hb : EditsAt w vb lB) : Calls Try.prog 17 #[v, va, vb] w fun e w' => ∃ vo, e = .returned (.tuple #[vo, .int .i64 0]) ∧ PairsAt w' vo lK ∧ Below w.heap.size w w' := by
  have := kept_any v va vb lBase lA lB w h ha hb
  rw [ex_merge] at this
  exact this.mono (fun e w' ⟨vo, he, ho, hb⟩ => ⟨vo, he, Rd.of_own ho, hb⟩)
theorem c_ex (va vb : Value) (w : World) (ha : EditsAt w va lA) (hb : EditsAt w vb lC) : Calls Try.prog 21 #[va, vb] w fun e w' => ∃ vo, e = .returned vo ∧ PairsAt w' vo [(0, 0)] ∧ Below w.heap.size w w' := by
  have := mClash_any va vb lA lC w ha hb
  rw [ex_clash] at this
  exact this.mono (fun e w' ⟨vo, he, ho, hb⟩ => ⟨vo, he, Rd.of_own ho, hb⟩)
theorem v1_ex (va vb : Value) (w : World) (ha : EditsAt w va lB) (hb : EditsAt w vb lA) : Calls Try.prog 22 #[va, vb] w fun e w' => ∃ vo, e = .returned (.tuple #[vo, .int .i64 0]) ∧ EditsAt w' vo lB ∧ Below w.heap.size w w' := by
  refine (move_any va vb lB lA w ha hb).mono ?_
  rintro e w' ⟨vo, he, ho, hb⟩
  rw [ex_move1] at he ho
  exact ⟨vo, he, ho, hb⟩
theorem v2_ex (va vb : Value) (w : World) (ha : EditsAt w va lA) (hb : EditsAt w vb lD) : Calls Try.prog 22 #[va, vb] w fun e w' => ∃ vo, e = .returned (.tuple #[vo, .int .i64 18]) ∧ Below w.heap.size w w' := by
  refine (move_any va vb lA lD w ha hb).mono ?_
  rintro e w' ⟨vo, he, ho, hb⟩
  rw [ex_move2] at he
  exact ⟨vo, he, hb⟩
theorem v3_ex (va vb : Value) (w : World) (ha : EditsAt w va lB) (hb : EditsAt w vb lE) : Calls Try.prog 22 #[va, vb] w fun e w' => ∃ vo, e = .returned (.tuple #[vo, .int .i64 0]) ∧ EditsAt w' vo lM ∧ Below w.heap.size w w' := by
  refine (move_any va vb lB lE w ha hb).mono ?_
  rintro e w' ⟨vo, he, ho, hb⟩
  rw [ex_move3] at he ho
  exact ⟨vo, he, ho, hb⟩
theorem s_same {l : List Sym} {v u : Value} {w : World} (h : SymsAt w v l) (h' : SymsAt w u l) : Calls Try.prog 20 #[v, u] w fun e w' => e = .returned (.bool true) ∧ Below w.heap.size w w' :=
  (sameSyms_any v u l l w h h').mono (fun e w' ⟨he, n, hn⟩ => ⟨by rw [he, decide_eq_true rfl], by rw [hn]; exact below_drewN (Below.refl _ _) n⟩)
theorem p_same {l : List (Nat × Nat)} {v u : Value} {w : World} (h : PairsAt w v l) (h' : PairsAt w u l) : Calls Try.prog 30 #[v, u] w fun e w' => e = .returned (.bool true) ∧ Below w.heap.size w w' :=
  (samePairs_any v u l l w h h').mono (fun e w' ⟨he, n, hn⟩ => ⟨by rw [he, decide_eq_true rfl], by rw [hn]; exact below_drewN (Below.refl _ _) n⟩)
theorem a_same {l : List Edit} {v u : Value} {w : World} (h : EditsAt w v l) (h' : EditsAt w u l) : Calls Try.prog 31 #[v, u] w fun e w' => e = .returned (.bool true) ∧ Below w.heap.size w w' :=
  (sameAll_any v u l l w h h').mono (fun e w' ⟨he, hb⟩ => ⟨by rw [he, decide_eq_true rfl], hb⟩)
set_option maxRecDepth 100000 in
set_option maxHeartbeats 4000000 in
theorem lives_any (w : World) : Calls Try.prog 13 #[] w fun e w' => e = .returned (.bool true) ∧ Below w.heap.size w w' := by
  go_enter Try.func13, Try.ntmps13
  go_upto_region 2 with (go_at_call 33; refine (t_base _).mono ?_; rintro e w1 ⟨u1, rfl, hS, hb1⟩)
  have hB := hb1
  go_upto_region 3 with (go_at_call 34; (with_reducible refine (e_A _).mono ?_); rintro e w2 ⟨a2, n2, c2, rfl, hs2, hb2⟩)
  replace hS := hS.below hb2
  replace hB := hB.trans (hb2.mono hB.size)
  have hA := editsAt_1 w2 1 1 _ _ hs2
  have hx : Below w2.heap.size w2 (w2.alloc (.cells #[.int .i64 1, .int .i64 1, .slice a2 n2 c2] 36)) := (Below.refl _ _).alloc (Nat.le_refl _) _
  replace hS := hS.below hx
  replace hB := hB.trans (hx.mono hB.size)
  obtain ⟨x2, hnw⟩ : ∃ x, w2.alloc (.cells #[.int .i64 1, .int .i64 1, .slice a2 n2 c2] 36) = x := ⟨_, rfl⟩
  rw [hnw] at hA hS hB ⊢
  clear hnw hx
  go_upto_region 4 with (first | (go_at_call 34; (with_reducible refine (e_B1 _).mono ?_); rintro e w3 ⟨a3, n3, c3, rfl, hs3, hb3⟩) | (go_at_call 34; (with_reducible refine (e_B2 _).mono ?_); rintro e w4 ⟨a4, n4, c4, rfl, hs4, hb4⟩) | fail)
  replace hS := hS.below hb3
  replace hA := hA.below hb3
  replace hB := hB.trans (hb3.mono hB.size)
  replace hS := hS.below hb4
  replace hA := hA.below hb4
  replace hB := hB.trans (hb4.mono hB.size)
  replace hs3 := hs3.below hb4
  have hBb := editsAt_2 w4 3 0 5 1 _ _ _ _ hs3 hs4
  have hx : Below w4.heap.size w4 (w4.alloc (.cells #[.int .i64 3, .int .i64 0, .slice a3 n3 c3, .int .i64 5, .int .i64 1, .slice a4 n4 c4] 36)) := (Below.refl _ _).alloc (Nat.le_refl _) _
  replace hS := hS.below hx
  replace hA := hA.below hx
  replace hB := hB.trans (hx.mono hB.size)
  obtain ⟨x4, hnw⟩ : ∃ x, w4.alloc (.cells #[.int .i64 3, .int .i64 0, .slice a3 n3 c3, .int .i64 5, .int .i64 1, .slice a4 n4 c4] 36) = x := ⟨_, rfl⟩
  rw [hnw] at hBb hS hA hB ⊢
  clear hnw hx
  go_upto_region 5 with (go_at_call 16; refine (m_ex _ _ _ _ hS hA hBb).mono ?_; rintro e w5 ⟨vo, rfl, hM, hb5⟩)
  replace hS := hS.below hb5
  replace hA := hA.below hb5
  replace hBb := hBb.below hb5
  replace hB := hB.trans (hb5.mono hB.size)
  go_upto_region 6 with (first | (go_at_call 34; (with_reducible refine (e_C _).mono ?_); rintro e w6 ⟨a6, n6, c6, rfl, hs6, hb6⟩; have hx : Below w6.heap.size w6 (w6.alloc (.cells #[.int .i64 2, .int .i64 0, .slice a6 n6 c6] 36)) := (Below.refl _ _).alloc (Nat.le_refl _) _; have hL := editsAt_1 w6 2 0 _ _ hs6; have hA6 := (hA.below hb6).below hx) | (go_at_call 21; refine (c_ex _ _ _ hA6 hL).mono ?_; rintro e w7 ⟨vc, rfl, hC, hb7⟩) | fail)
  replace hS := hS.below hb6
  replace hA := hA.below hb6
  replace hBb := hBb.below hb6
  replace hM := hM.below hb6
  replace hB := hB.trans (hb6.mono hB.size)
  replace hS := hS.below hx
  replace hA := hA.below hx
  replace hBb := hBb.below hx
  replace hM := hM.below hx
  replace hB := hB.trans (hx.mono hB.size)
  replace hS := hS.below hb7
  replace hA := hA.below hb7
  replace hBb := hBb.below hb7
  replace hM := hM.below hb7
  replace hB := hB.trans (hb7.mono hB.size)
  clear hL hA6 hx
  go_upto_region 7 with (go_at_call 22; refine (v1_ex _ _ _ hBb hA).mono ?_; rintro e w8 ⟨vd, rfl, hD, hb8⟩)
  replace hS := hS.below hb8
  replace hA := hA.below hb8
  replace hBb := hBb.below hb8
  replace hM := hM.below hb8
  replace hC := hC.below hb8
  replace hB := hB.trans (hb8.mono hB.size)
  go_upto_region 8 with (first | (go_at_call 34; (with_reducible refine (e_D _).mono ?_); rintro e w9 ⟨a9, n9, c9, rfl, hs9, hb9⟩; have hx : Below w9.heap.size w9 (w9.alloc (.cells #[.int .i64 1, .int .i64 0, .slice a9 n9 c9] 36)) := (Below.refl _ _).alloc (Nat.le_refl _) _; have hL := editsAt_1 w9 1 0 _ _ hs9; have hA9 := (hA.below hb9).below hx) | (go_at_call 22; refine (v2_ex _ _ _ hA9 hL).mono ?_; rintro e w10 ⟨vg, rfl, hb10⟩) | fail)
  replace hS := hS.below hb9
  replace hA := hA.below hb9
  replace hBb := hBb.below hb9
  replace hM := hM.below hb9
  replace hC := hC.below hb9
  replace hD := hD.below hb9
  replace hB := hB.trans (hb9.mono hB.size)
  replace hS := hS.below hx
  replace hA := hA.below hx
  replace hBb := hBb.below hx
  replace hM := hM.below hx
  replace hC := hC.below hx
  replace hD := hD.below hx
  replace hB := hB.trans (hx.mono hB.size)
  replace hS := hS.below hb10
  replace hA := hA.below hb10
  replace hBb := hBb.below hb10
  replace hM := hM.below hb10
  replace hC := hC.below hb10
  replace hD := hD.below hb10
  replace hB := hB.trans (hb10.mono hB.size)
  clear hL hA9 hx
  go_upto_region 9 with (first | (go_at_call 34; (with_reducible refine (e_E _).mono ?_); rintro e w11 ⟨a11, n11, c11, rfl, hs11, hb11⟩; have hx : Below w11.heap.size w11 (w11.alloc (.cells #[.int .i64 0, .int .i64 1, .slice a11 n11 c11] 36)) := (Below.refl _ _).alloc (Nat.le_refl _) _; have hL := editsAt_1 w11 0 1 _ _ hs11; have hB11 := (hBb.below hb11).below hx) | (go_at_call 22; refine (v3_ex _ _ _ hB11 hL).mono ?_; rintro e w12 ⟨vm, rfl, hMv, hb12⟩) | fail)
  replace hS := hS.below hb11
  replace hA := hA.below hb11
  replace hBb := hBb.below hb11
  replace hM := hM.below hb11
  replace hC := hC.below hb11
  replace hD := hD.below hb11
  replace hB := hB.trans (hb11.mono hB.size)
  replace hS := hS.below hx
  replace hA := hA.below hx
  replace hBb := hBb.below hx
  replace hM := hM.below hx
  replace hC := hC.below hx
  replace hD := hD.below hx
  replace hB := hB.trans (hx.mono hB.size)
  replace hS := hS.below hb12
  replace hA := hA.below hb12
  replace hBb := hBb.below hb12
  replace hM := hM.below hb12
  replace hC := hC.below hb12
  replace hD := hD.below hb12
  replace hB := hB.trans (hb12.mono hB.size)
  clear hL hB11 hx
  go_upto_region 10 with (go_at_call 17; refine (k_ex _ _ _ _ hS hA hBb).mono ?_; rintro e w13 ⟨vk, rfl, hK, hb13⟩)
  replace hS := hS.below hb13
  replace hA := hA.below hb13
  replace hBb := hBb.below hb13
  replace hM := hM.below hb13
  replace hC := hC.below hb13
  replace hD := hD.below hb13
  replace hMv := hMv.below hb13
  replace hB := hB.trans (hb13.mono hB.size)
  go_upto_region 13 with (first | (go_at_call 33; refine (t_out _).mono ?_; rintro e w14 ⟨u14, rfl, hO, hb14⟩) | (go_at_call 20; refine (s_same (hM.below hb14) hO).mono ?_; rintro e w15 ⟨rfl, hb15⟩; have hx : Below w15.heap.size w15 (w15.alloc (.cells #[.int .i64 0, .int .i64 0] 45)) := (Below.refl _ _).alloc (Nat.le_refl _) _; have hP : PairsAt (w15.alloc (.cells #[.int .i64 0, .int .i64 0] 45)) (.slice (some ⟨w15.heap.size, 0, none⟩) 1 1) [(0, 0)] := Rd.fresh w15 #[.int .i64 0, .int .i64 0] 45 2 1 rfl (by decide); have hC15 := ((hC.below hb14).below hb15).below hx) | (go_at_call 30; refine (p_same hC15 hP).mono ?_; rintro e w16 ⟨rfl, hb16⟩; have hD16 := (((hD.below hb14).below hb15).below hx).below hb16; have hB16 := (((hBb.below hb14).below hb15).below hx).below hb16) | (go_at_call 31; refine (a_same hD16 hB16).mono ?_; rintro e w17 ⟨rfl, hb17⟩) | fail)
  replace hS := hS.below hb14
  replace hA := hA.below hb14
  replace hBb := hBb.below hb14
  replace hM := hM.below hb14
  replace hC := hC.below hb14
  replace hD := hD.below hb14
  replace hMv := hMv.below hb14
  replace hK := hK.below hb14
  replace hB := hB.trans (hb14.mono hB.size)
  replace hS := hS.below hb15
  replace hA := hA.below hb15
  replace hBb := hBb.below hb15
  replace hM := hM.below hb15
  replace hC := hC.below hb15
  replace hD := hD.below hb15
  replace hMv := hMv.below hb15
  replace hK := hK.below hb15
  replace hB := hB.trans (hb15.mono hB.size)
  replace hS := hS.below hx
  replace hA := hA.below hx
  replace hBb := hBb.below hx
  replace hM := hM.below hx
  replace hC := hC.below hx
  replace hD := hD.below hx
  replace hMv := hMv.below hx
  replace hK := hK.below hx
  replace hB := hB.trans (hx.mono hB.size)
  replace hS := hS.below hb16
  replace hA := hA.below hb16
  replace hBb := hBb.below hb16
  replace hM := hM.below hb16
  replace hC := hC.below hb16
  replace hD := hD.below hb16
  replace hMv := hMv.below hb16
  replace hK := hK.below hb16
  replace hB := hB.trans (hb16.mono hB.size)
  replace hS := hS.below hb17
  replace hA := hA.below hb17
  replace hBb := hBb.below hb17
  replace hM := hM.below hb17
  replace hC := hC.below hb17
  replace hD := hD.below hb17
  replace hMv := hMv.below hb17
  replace hK := hK.below hb17
  replace hB := hB.trans (hb17.mono hB.size)
  clear hP hC15 hD16 hB16 hx
  go_wp2_with (first | (go_at_call 34; (with_reducible refine (e_M1 _).mono ?_); rintro e w18 ⟨a18, n18, c18, rfl, hs18, hb18⟩) | (go_at_call 34; (with_reducible refine (e_M2 _).mono ?_); rintro e w19 ⟨a19, n19, c19, rfl, hs19, hb19⟩; have hx : Below w19.heap.size w19 (w19.alloc (.cells #[.int .i64 5, .int .i64 0, .slice a18 n18 c18, .int .i64 7, .int .i64 1, .slice a19 n19 c19] 36)) := (Below.refl _ _).alloc (Nat.le_refl _) _; have hL := editsAt_2 w19 5 0 7 1 _ _ _ _ (hs18.below hb19) hs19; have hM19 := ((hMv.below hb18).below hb19).below hx) | (go_at_call 31; refine (a_same hM19 hL).mono ?_; rintro e w20 ⟨rfl, hb20⟩; have hy : Below w20.heap.size w20 (w20.alloc (.cells #[.int .i64 0, .int .i64 0, .int .i64 2, .int .i64 2, .int .i64 3, .int .i64 5, .int .i64 4, .int .i64 6] 45)) := (Below.refl _ _).alloc (Nat.le_refl _) _; have hP : PairsAt (w20.alloc (.cells #[.int .i64 0, .int .i64 0, .int .i64 2, .int .i64 2, .int .i64 3, .int .i64 5, .int .i64 4, .int .i64 6] 45)) (.slice (some ⟨w20.heap.size, 0, none⟩) 4 4) lK := Rd.fresh w20 #[.int .i64 0, .int .i64 0, .int .i64 2, .int .i64 2, .int .i64 3, .int .i64 5, .int .i64 4, .int .i64 6] 45 2 4 rfl (by decide); have hK20 := ((((hK.below hb18).below hb19).below hx).below hb20).below hy) | (go_at_call 30; refine (p_same hK20 hP).mono ?_; rintro e w21 ⟨rfl, hb21⟩) | fail)
  go_ret
  exact ⟨rfl, hB.trans ((((((hb18.trans (hb19.mono hb18.size)).trans (hx.mono (hb18.trans (hb19.mono hb18.size)).size)).trans (hb20.mono ((hb18.trans (hb19.mono hb18.size)).trans (hx.mono (hb18.trans (hb19.mono hb18.size)).size)).size)).trans (hy.mono (((hb18.trans (hb19.mono hb18.size)).trans (hx.mono (hb18.trans (hb19.mono hb18.size)).size)).trans (hb20.mono ((hb18.trans (hb19.mono hb18.size)).trans (hx.mono (hb18.trans (hb19.mono hb18.size)).size)).size)).size)).trans (hb21.mono ((((hb18.trans (hb19.mono hb18.size)).trans (hx.mono (hb18.trans (hb19.mono hb18.size)).size)).trans (hb20.mono ((hb18.trans (hb19.mono hb18.size)).trans (hx.mono (hb18.trans (hb19.mono hb18.size)).size)).size)).trans (hy.mono (((hb18.trans (hb19.mono hb18.size)).trans (hx.mono (hb18.trans (hb19.mono hb18.size)).size)).trans (hb20.mono ((hb18.trans (hb19.mono hb18.size)).trans (hx.mono (hb18.trans (hb19.mono hb18.size)).size)).size)).size)).size)).mono hB.size)⟩
end Go.Proofs.Ythdafajhohdkoaa
