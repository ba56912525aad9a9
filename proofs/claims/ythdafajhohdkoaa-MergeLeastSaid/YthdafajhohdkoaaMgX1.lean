/- For all lists of ints and a bool the law MergeBoth returns true, and leaves its arguments as they were: no condition. -/
import Derived.Test.YthdafajhohdkoaaMgV
import Derived.Test.YthdafajhohdkoaaMgW
import Derived.Test.YthdafajhohdkoaaLiftD
namespace Go.Proofs.Ythdafajhohdkoaa
open Go.RowKit Go.Lab
theorem syms_txt (v : Value) (l : List Int) (w : World) (h : IntsAt w v l) : Calls Try.prog 9 #[v] w fun e w' => ∃ a c, e = .returned (.slice a (symsZ l).length c) ∧ SymsAt w' (.slice a (symsZ l).length c) (symsZ l) ∧ Below w.heap.size w w' :=
  (syms_any v l w h).mono (fun _ _ ⟨u, he, ho, hb⟩ => by
    have h1 := SymsAt.of_own ho
    obtain ⟨a, c, rfl, _, _⟩ := h1.form
    exact ⟨a, c, he, h1, hb⟩)
theorem some_txt (v : Value) (l : List Int) (n : Nat) (odd : Bool) (w : World) (h : IntsAt w v l) (hn : n ≤ 4096) :
    Calls Try.prog 10 #[v, .int .i64 n, .bool odd] w fun e w' => ∃ u es, e = .returned u ∧ EditsAt w' u es ∧ validZ n es = true ∧ Small es ∧ Below w.heap.size w w' :=
  (some_any v l n odd w h hn).mono (fun _ _ ⟨u, es, h1, h2, h3, h4, h5, h6⟩ => ⟨u, es, h1, h2, h3, ⟨h4, h5⟩, h6⟩)
theorem merge_to (v va vb : Value) (base : List Sym) (a b : List Edit) (w : World) (h : SymsAt w v base) (ha : EditsAt w va a) (hb : EditsAt w vb b) {o : List Sym} {er : Int} (ho : (mergeZ base a b).1 = o) (her : (mergeZ base a b).2.2 = er) :
    Calls Try.prog 16 #[v, va, vb] w fun e w' => ∃ vo, e = .returned (.tuple #[vo, .int .i64 er]) ∧ SymsAt w' vo o ∧ Below w.heap.size w w' := by
  subst ho her
  exact (merge_any v va vb base a b w h ha hb).mono (fun _ _ ⟨vo, he, ho, hb⟩ => ⟨vo, he, SymsAt.of_own ho, hb⟩)
theorem apply_to (v va : Value) (base : List Sym) (a : List Edit) (w : World) (h : SymsAt w v base) (ha : EditsAt w va a) {o : List Sym} {er : Int} (ho : (applyZ base a).1 = o) (her : (applyZ base a).2 = er) :
    Calls Try.prog 19 #[v, va] w fun e w' => ∃ vo, e = .returned (.tuple #[vo, .int .i64 er]) ∧ SymsAt w' vo o ∧ Below w.heap.size w w' := by
  subst ho her
  exact (apply_any v va base a w h ha).mono (fun _ _ ⟨vo, he, ho, hb⟩ => ⟨vo, he, SymsAt.of_own ho, hb⟩)
set_option maxHeartbeats 4000000 in
set_option maxRecDepth 100000 in
theorem lawBoth_any (v0 v1 v2 : Value) (l m k : List Int) (odd : Bool) (w : World) (h0 : IntsAt w v0 l) (h1 : IntsAt w v1 m) (h2 : IntsAt w v2 k) :
    Calls Try.prog 6 #[v0, v1, v2, .bool odd] w fun e w' => e = .returned (.bool true) ∧ Below w.heap.size w w' := by
  have ht := symsZ_text l
  have hlen := symsZ_len l
  have H0 := hidep (syms_txt v0 l w h0)
  generalize symsZ l = base at *
  go_enter Try.func6, Try.ntmps6
  go_upto_region 2 with (go_at_call 9; refine H0.out.mono ?_; rintro e w1 ⟨ab, cb, rfl, hS, hb1⟩)
  go_upto_region 3 with (go_at_call 10; refine (some_txt v1 m _ _ _ (h1.below hb1) (by omega)).mono ?_; rintro e w2 ⟨va, a, rfl, hA, hva, sa, hb2⟩)
  have hB2 := hb1.trans (hb2.mono hb1.size)
  go_upto_region 4 with (go_at_call 10; refine (some_txt v2 k _ _ _ (h2.below hB2) (by omega)).mono ?_; rintro e w3 ⟨vb, b, rfl, hBb, hvb, sb, hb3⟩)
  have hB3 := hB2.trans (hb3.mono hB2.size)
  replace hS := (hS.below hb2).below hb3
  replace hA := hA.below hb3
  obtain ⟨q1, q2, q3, q4, q5, q6, q7⟩ := both_law ht (by omega) hva hvb sa sb
  obtain ⟨er, her⟩ : ∃ er, (mergeZ base a b).2.2 = er := ⟨_, rfl⟩
  obtain ⟨o1, ho1⟩ : ∃ o, (mergeZ base a b).1 = o := ⟨_, rfl⟩
  obtain ⟨oa, hoa⟩ : ∃ o, (applyZ base a).1 = o := ⟨_, rfl⟩
  have HM1 := hidep (fun X (hX : Below w3.heap.size w3 X) => merge_to _ _ _ base a b X (hS.below hX) (hA.below hX) (hBb.below hX) ho1 her)
  have HM2 := hidep (fun X (hX : Below w3.heap.size w3 X) => merge_to _ _ _ base b a X (hS.below hX) (hBb.below hX) (hA.below hX) (q2.symm.trans ho1) (q1.symm.trans her))
  have HM3 := hidep (fun X (hX : Below w3.heap.size w3 X) => merge_to _ _ _ base a [] X (hS.below hX) (hA.below hX) (EditsAt.nil X) (q6.trans hoa) q3)
  have HM4 := hidep (fun X (hX : Below w3.heap.size w3 X) => merge_to _ _ _ base a a X (hS.below hX) (hA.below hX) (hA.below hX) (q7.trans hoa) q4)
  have HAP := hidep (fun X (hX : Below w3.heap.size w3 X) => apply_to _ _ base a X (hS.below hX) (hA.below hX) hoa q5)
  clear q1 q2 q3 q4 q5 q6 q7 her ho1 hoa hva hvb sa sb hA hBb hS h0 h1 h2 H0 ht
  go_upto_region 5 with (go_at_call 16; refine (HM1.out _ (Below.refl _ _)).mono ?_; rintro e w4 ⟨vx, rfl, hx, hb4⟩)
  go_upto_region 6 with (go_at_call 16; refine (HM2.out _ hb4).mono ?_; rintro e w5 ⟨vy, rfl, hy, hb5⟩)
  have hc5 := hb4.trans (hb5.mono hb4.size)
  go_upto_region 7 with (go_at_call 16; refine (HM3.out _ hc5).mono ?_; rintro e w6 ⟨vone, rfl, hone, hb6⟩)
  have hc6 := hc5.trans (hb6.mono hc5.size)
  go_upto_region 8 with (go_at_call 16; refine (HM4.out _ hc6).mono ?_; rintro e w7 ⟨vsame, rfl, hsame, hb7⟩)
  have hc7 := hc6.trans (hb7.mono hc6.size)
  go_upto_region 9 with (go_at_call 19; refine (HAP.out _ hc7).mono ?_; rintro e w8 ⟨vown, rfl, hown, hb8⟩)
  have hc8 := hc7.trans (hb8.mono hc7.size)
  replace hx := (((hx.below hb5).below hb6).below hb7).below hb8
  replace hy := ((hy.below hb6).below hb7).below hb8
  replace hone := (hone.below hb7).below hb8
  replace hsame := hsame.below hb8
  clear HM1 HM2 HM3 HM4 HAP
  go_upto_region 11 with (go_at_call 20; refine (s_same hx hy).mono ?_; rintro e w9 ⟨rfl, hb9⟩)
  replace hone := hone.below hb9
  replace hsame := hsame.below hb9
  replace hown := hown.below hb9
  go_wp2_with (first
    | (go_at_call 20; (with_reducible refine (s_same hone hown).mono ?_); rintro e w10 ⟨rfl, hb10⟩)
    | (go_at_call 20; (with_reducible refine (s_same (hsame.below hb10) (hown.below hb10)).mono ?_); rintro e w11 ⟨rfl, hb11⟩)
    | (go_at_call 13; refine (lives_any _).mono ?_; rintro e w12 ⟨rfl, hb12⟩)
    | fail)
  go_ret
  have r9 := hc8.trans (hb9.mono hc8.size)
  have r10 := r9.trans (hb10.mono r9.size)
  have r11 := r10.trans (hb11.mono r10.size)
  have r12 := r11.trans (hb12.mono r11.size)
  exact ⟨rfl, hB3.trans (r12.mono hB3.size)⟩
end Go.Proofs.Ythdafajhohdkoaa
