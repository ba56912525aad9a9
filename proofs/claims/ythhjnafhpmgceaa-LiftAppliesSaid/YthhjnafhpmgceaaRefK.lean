/- Contracts: the text of a string, a pair of texts made of numbers, and: lift and its reference return the same. -/
import Derived.Test.YthhjnafhpmgceaaRefJ
import Derived.Test.YthhjnafhpmgceaaRefF
import Derived.Test.YthhjnafhpmgceaaRefI
import Derived.Test.YthhjnafhpmgceaaLiftI
namespace Go.Proofs.Ythhjnafhpmgceaa
open Go.RowKit Go.Lab
def ofStr (s : ByteArray) : List Sym := (bytesL s).map (Sym.mk 0)
set_option maxHeartbeats 1000000 in
theorem syms23_any (s : ByteArray) (w : World) (hs : s.size ≤ 1000) :
    Calls Try.prog 23 #[.string s] w fun e w' => ∃ u, e = .returned u ∧ w'.ownsRow w.heap.size 30 2 u (ofStr s).length (symsC (ofStr s)) ∧ Below w.heap.size w w' := by
  have HE : Hid (addP [] 0 (bytesL s) s.size = ofStr s) := hidep (by unfold addP ofStr; rw [List.take_of_length_le (by rw [bytesL_len]; exact Nat.le_refl _), List.nil_append])
  go_enter Try.func23, Try.ntmps23
  go_wp2
  go_loopg [3, 4] s.size (fun g o i wl => ∃ j : Nat, j ≤ s.size ∧ s.size - j = g ∧ i = .int .i64 j ∧
      wl.ownsRow w.heap.size 30 2 o (addP [] 0 (bytesL s) j).length (symsC (addP [] 0 (bytesL s) j)) ∧ Below w.heap.size w wl)
  case atStart => exact ⟨0, by omega, by omega, rfl, by rw [addP_zero]; exact World.ownsRow_nil _ _ _ _, Below.refl _ _⟩
  case round =>
    obtain ⟨j, hj1, hj3, rfl, hol, hbl⟩ := hrel
    have HJ := hidep hj3
    clear hj3
    have HL : Hid (∀ j, j ≤ s.size → (addP [] 0 (bytesL s) j).length = j) := hidep (fun j hj => by rw [addP_len (by rw [bytesL_len]; exact hj)]; simp)
    have hsz2 := hbl.size
    rw [HL.out j hj1] at hol
    obtain ⟨a2, cap2, rfl, hc2, hm2⟩ := (Rd.of_own hol).form
    unfold maxLen at hm2
    by_cases hj4 : j < s.size
    · have hfr := Rd.fresh wr #[.int .i64 0, .int .u8 ((s[j]'hj4).toNat)] 30 2 1 rfl (by decide)
      have HA : Hid (symsC (addP [] 0 (bytesL s) (j + 1)) = symsC (addP [] 0 (bytesL s) j) ++ [.int .i64 0, .int .u8 ((s[j]'hj4).toNat)]) :=
        hidep (by rw [addP_succ (by rw [bytesL_len]; exact hj4), symsC_append, symsC_one_, bytesL_get])
      go_wp2_with (at_builtin; refine wpList_append_rd _ rfl (.tmp 11) (.tmp 16) rfl slSyms w.heap.size (.slice a2 j cap2) _ _ rfl (hol.alloc _) _ _ _ _ rfl hfr (by intro u hu; simp at hu; rcases hu with rfl | rfl <;> rfl) (by unfold maxLen; omega) (by omega) (by simp; omega) ?_; intro v2 w2 hown2 hgr2 _ _; clear hfr)
      go_roundg (s.size - (j + 1))
      case measure => have := HJ.out; omega
      case rel => exact ⟨j + 1, by omega, rfl, by go_num, by rw [HL.out _ (by omega), HA.out]; exact hown2, (hbl.alloc hsz2 _).grown hgr2 (by simp; omega) (fun g hg => (hol.lt g hg).1)⟩
    · have hj6 : (s.size : Int) ≤ j := by omega
      have he : j = s.size := by omega
      have HX : Hid (wr.ownsRow w.heap.size 30 2 (.slice a2 j cap2) (ofStr s).length (symsC (ofStr s))) := hidep (by
        rw [← HE.out, HL.out _ (Nat.le_refl _), ← he]; exact hol)
      clear he
      go_wp2
      go_ret
      exact ⟨_, rfl, HX.out, hbl⟩
set_option maxHeartbeats 1000000 in
theorem pair_any (vl vm : Value) (l m : List Int) (w : World) (hl : IntsAt w vl l) (hm : IntsAt w vm m) :
    Calls Try.prog 7 #[vl, vm] w fun e w' => ∃ va vb ve es, e = .returned (.tuple #[va, vb, ve]) ∧ SymsAt w' va (symsZ l) ∧ SymsAt w' vb (applyZ (symsZ l) es).1 ∧ EditsAt w' ve es ∧
      validZ (symsZ l).length es = true ∧ es.length ≤ 3 ∧ (∀ e ∈ es, e.ins.length ≤ 10) ∧ Below w.heap.size w w' := by
  have hlen := symsZ_len l
  have HS := hidep (syms_any vl l w hl)
  have HM : Hid (∀ W, Below w.heap.size w W → Calls Try.prog 20 #[.int .i64 (symsZ l).length, vm] W fun e w' => ∃ u es, e = .returned u ∧ OwnEd w' W.heap.size u es ∧ validZ (symsZ l).length es = true ∧ es.length ≤ 3 ∧ (∀ e ∈ es, e.ins.length ≤ 10) ∧ Below W.heap.size W w') :=
    hidep (fun W hW => made_any vm m _ W (hm.below hW) (by omega))
  generalize symsZ l = A at *
  go_enter Try.func7, Try.ntmps7
  go_wp2_with (first
    | (go_at_call 8; refine HS.out.mono ?_; rintro e w1 ⟨va, rfl, ho, hb1⟩; have ha := SymsAt.of_own ho; obtain ⟨aa, ca, rfl, _, _⟩ := ha.form; clear ho)
    | (go_at_call 20; refine (HM.out _ hb1).mono ?_; rintro e w2 ⟨ve, es, rfl, ho, hv, hle, hin, hb2⟩; have he := ho.rd; have hb12 := hb1.trans (hb2.mono hb1.size); have ha2 := ha.below hb2)
    | (go_at_call 14; refine (apply33_any _ _ A es _ ha2 he).mono ?_; rintro e w3 ⟨vb, rfl, ho3, hb3⟩; have hB := SymsAt.of_own ho3; have he3 := he.below hb3; have ha3 := ha2.below hb3; have hbw := hb12.trans (hb3.mono hb12.size))
    | fail)
  go_ret3
  exact ⟨_, _, _, es, rfl, ha3, hB, he3, hv, hle, hin, hbw⟩
set_option maxHeartbeats 2000000 in
theorem same_any (va vb : Value) (a b : List Sym) (most : Int) (w : World) (ha : SymsAt w va a) (hb : SymsAt w vb b) :
    Calls Try.prog 10 #[va, vb, .int .i64 most] w fun e w' => e = .returned (.bool true) ∧ Below w.heap.size w w' := by
  obtain ⟨aa, ca, rfl, h1, h2⟩ := ha.form
  obtain ⟨ab, cb, rfl, h3, h4⟩ := hb.form
  obtain ⟨Z, hZ⟩ : ∃ Z, Z = leastZ a b := ⟨_, rfl⟩
  obtain ⟨L, hL⟩ : ∃ L, L = choicesZ a b most := ⟨_, rfl⟩
  have H1 := hidep (leastL_any a b _ _ w ha hb)
  have H2 : Hid (∀ W, Below w.heap.size w W → Calls Try.prog 21 #[.slice aa a.length ca, .slice ab b.length cb] W fun e w' => ∃ v, e = .returned (.tuple #[v, .int .i64 Z.2.1, .bool Z.2.2]) ∧ EditsAt w' v Z.1 ∧ Below W.heap.size W w') :=
    hidep (fun W hW => by rw [hZ]; exact least33_any a b _ _ W (ha.below hW) (hb.below hW))
  have H3 : Hid (∀ W, Below w.heap.size w W → Calls Try.prog 17 #[.slice aa a.length ca, .slice ab b.length cb, .int .i64 most] W fun e w' => ∃ v, e = .returned v ∧ OwnEE w' W.heap.size v L ∧ Below W.heap.size W w') :=
    hidep (fun W hW => by rw [hL]; exact choicesL_any a b _ _ most W (ha.below hW) (hb.below hW))
  have H4 : Hid (∀ W, Below w.heap.size w W → Calls Try.prog 22 #[.slice aa a.length ca, .slice ab b.length cb, .int .i64 most] W fun e w' => ∃ v, e = .returned v ∧ OwnEE w' W.heap.size v L ∧ Below W.heap.size W w') :=
    hidep (fun W hW => by rw [hL]; exact choices33_any a b _ _ most W (ha.below hW) (hb.below hW))
  rw [← hZ] at H1
  clear hZ hL ha hb
  obtain ⟨Z1, Z2, Z3⟩ := Z
  simp only at H1 H2
  go_enter Try.func10, Try.ntmps10
  go_wp2_with (first
    | (go_at_call 16; refine H1.out.mono ?_; rintro e w1 ⟨vx, rfl, hx1, hb1⟩)
    | (go_at_call 21; refine (H2.out _ hb1).mono ?_; rintro e w2 ⟨vy, rfl, hy2, hb2⟩; have hx2 := hx1.below hb2; have hw2 := hb1.trans (hb2.mono hb1.size))
    | (go_at_call 17; refine (H3.out _ hw2).mono ?_; rintro e w3 ⟨vv, rfl, hv3, hb3⟩; have hx3 := hx2.below hb3; have hy3 := hy2.below hb3; have hw3 := hw2.trans (hb3.mono hw2.size); have hv3 := hv3.rd; obtain ⟨av, cv, rfl, hcv, hcv2⟩ := hv3.form)
    | (go_at_call 22; refine (H4.out _ hw3).mono ?_; rintro e w4 ⟨vu, rfl, hu4, hb4⟩; have hx4 := hx3.below hb4; have hy4 := hy3.below hb4; have hv4 := hv3.below hb4; have hw4 := hw3.trans (hb4.mono hw3.size); have hu4 := hu4.rd; obtain ⟨au, cu, rfl, hcu, _⟩ := hu4.form)
    | (go_at_call 19; refine (sameEdits_any _ _ Z1 Z1 _ hx4 hy4).mono ?_; rintro e w5 ⟨rfl, n5, rfl⟩; rw [decide_eq_true (rfl : Z1 = Z1)]; have hw5 := below_drewN hw4 n5; have hv5 := hv4.below (below_drewN (Below.refl _ _) n5); have hu5 := hu4.below (below_drewN (Below.refl _ _) n5))
    | fail)
  clear hx4 hy4 hv4 hu4 hw4
  unfold maxLen at hcv2
  generalize w4.drewN n5 = w5 at *
  go_loopg [15] L.length (fun g i wr => ∃ k n : Nat, k ≤ L.length ∧ L.length - k = g ∧ i = .int .i64 k ∧ Hid (wr = w5.drewN n))
  case atStart => exact ⟨0, 0, by omega, rfl, rfl, hidep rfl⟩
  case round =>
    obtain ⟨k, n, hk, hg, rfl, hw⟩ := hrel
    have HG := hidep hg
    clear hg
    have hw' := hw.out
    clear hw
    subst hw'
    by_cases hlt : k < L.length
    · obtain ⟨b1, o1, u1, rfl, hq1, hc1, hr1⟩ := hv5.at hlt
      obtain ⟨b2, o2, u2, rfl, hq2, hc2, hr2⟩ := hu5.at hlt
      have HS := hidep (fun W : World => fun (n : Nat) (e : W = w5.drewN n) => sameEdits_any u1 u2 L[k] L[k] W (by rw [e]; exact hr1.below (below_drewN (Below.refl _ _) _)) (by rw [e]; exact hr2.below (below_drewN (Below.refl _ _) _)))
      simp only [decide_true] at HS
      obtain ⟨a7, c7, e7, _, _⟩ := hr1.form
      obtain ⟨a8, c8, e8, _, _⟩ := hr2.form
      clear hr1 hr2
      subst e7 e8
      generalize L[k] = x at *
      have hI : 0 ≤ (k : Int) := by omega
      have hI1 : (k : Int) < (L.length : Int) := by omega
      go_wp2
      go_quiet ((go_at_call 19; refine (HS.out _ _ (by go_simp; rfl)).mono ?_; rintro e w' ⟨rfl, n1, rfl⟩; exact ⟨rfl, _, by rw [World.drewN_drewN, Nat.add_assoc]⟩))
      go_wp2
      go_roundg (L.length - (k + 1))
      case measure => have := HG.out; omega
      case rel => exact ⟨k + 1, _, by omega, rfl, by go_num, hidep rfl⟩
    · have hI1 : (L.length : Int) ≤ (k : Int) := by omega
      go_wp2
      go_ret
      exact ⟨rfl, below_drewN hw5 _⟩
end Go.Proofs.Ythhjnafhpmgceaa
