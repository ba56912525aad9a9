/- Journal: same, of a journal and the reference's one that read alike. -/
import Derived.Test.YtipbkdlekanlmaaGreatDoorZr29
import Derived.Test.YtipbkdlekanlmaaGreatDoorZr30
import Derived.Test.YtipbkdlekanlmaaGreatDoorZr01
import Derived.Test.YtipbkdlekanlmaaGreatDoorRows
import Derived.WalkKit
import Derived.ProofKit
import Derived.OpenShut
import Derived.ChangeSame
import Derived.JoinedAt
import Derived.Test.YtipbkdlekanlmaaGreatDoorZr05
import Derived.Test.YtipbkdlekanlmaaGreatDoorZr12
import Derived.LaidMore
import Derived.Stop.Joined
import Derived.Deep.Slices
import Derived.Test.YtipbkdlekanlmaaGreatDoorZr03
namespace Go.Proofs.YtipbkdlekanlmaaGreatDoor
open Go.RowKit Go.Lab Go.Disk Go.Jn
attribute [local go_sem] Oper.semAt_some
set_option maxRecDepth 100000
theorem jat_ptr' {w : World} {lo : Nat} {p dv : Value} {j : JZ} (h : JAt w lo p dv j) : ∃ b, p = .pointer (some ⟨b, 0, none⟩) := by
  obtain ⟨b, nv, bv, tv, hp, _⟩ := h
  exact ⟨b, hp⟩
set_option maxHeartbeats 8000000 in
theorem same_any (p q dv rv : Value) (j : JZ) (D : Dk) (w : World) (lo rlo dlo dhi elo ehi n m : Nat) (hj : JAt w lo p dv j) (hr : RJAt w rlo q rv j) (hd : DiskAt w dlo dhi dv D) (hrd : RDiskAt w elo ehi rv D) (hok : JOk j n m) (hn : n ≤ 4096) :
    Calls Tryz.prog 14 #[p, q] w fun e w' => e = .returned (.bool true) ∧ Below w.heap.size w w' := by
  obtain ⟨pb, rfl⟩ := jat_ptr' hj
  obtain ⟨qb, nv, bv, tv, rfl, hri⟩ := hr
  have hr : RJAt w rlo (.pointer (some ⟨qb, 0, none⟩)) rv j := ⟨qb, nv, bv, tv, rfl, hri⟩
  have s0 := hok.s0
  have s1 := hok.s1
  have n0 := hok.n0
  have n1 := hok.n1
  have HN := hidep (fun Y (hY : Below w.heap.size w Y) => show Calls Tryz.prog 42 #[.pointer (some ⟨pb, 0, none⟩)] Y fun e w' => ∃ v, e = .returned v ∧ NumsAt w' v j.nums ∧ Below Y.heap.size Y w' from
    (numbers_any _ _ j Y _ (hj.below hY)).mono fun e w' ⟨v, he, ho, hb⟩ => ⟨v, he, (Rd.of_own ho).mono (fun _ _ => trivial), hb⟩)
  have HT := hidep (fun Y (hY : Below w.heap.size w Y) => show Calls Tryz.prog 21 #[.pointer (some ⟨pb, 0, none⟩)] Y fun e w' => ∃ v, e = .returned v ∧ StrsAt w' v j.texts ∧ Below Y.heap.size Y w' from
    (texts_any _ _ j Y _ (hj.below hY)).mono fun e w' ⟨v, he, ho, hb⟩ => ⟨v, he, (Rd.of_own ho).mono (fun _ _ => trivial), hb⟩)
  have HB := hidep (fun Y (hY : Below w.heap.size w Y) => show Calls Tryz.prog 22 #[.pointer (some ⟨pb, 0, none⟩)] Y fun e w' => ∃ v, e = .returned v ∧ NumsAt w' v j.bad ∧ Below Y.heap.size Y w' from
    (bad_any _ _ j Y _ (hj.below hY)).mono fun e w' ⟨v, he, ho, hb⟩ => ⟨v, he, (Rd.of_own ho).mono (fun _ _ => trivial), hb⟩)
  have HA := hidep (fun Y (hY : Below w.heap.size w Y) => show Calls Tryz.prog 24 #[.pointer (some ⟨pb, 0, none⟩)] Y fun e w' => ∃ v, e = .returned v ∧ NumsAt w' v (damagedZ j) ∧ Below Y.heap.size Y w' from
    (damaged_any _ _ j Y _ (hj.below hY) ⟨n0, by omega⟩ (fun x hx => by have := hok.nr x hx; omega)).mono fun e w' ⟨v, he, ho, hb⟩ => ⟨v, he, (Rd.of_own ho).mono (fun _ _ => trivial), hb⟩)
  have HAR := hidep (fun Y (hY : Below w.heap.size w Y) => show Calls Tryz.prog 58 #[.pointer (some ⟨qb, 0, none⟩)] Y fun e w' => ∃ v, e = .returned v ∧ NumsAt w' v (damagedZ j) ∧ Below Y.heap.size Y w' from
    (damagedR_any _ _ j Y _ (hr.below hY) ⟨n0, by omega⟩).mono fun e w' ⟨v, he, ho, hb⟩ => ⟨v, he, (Rd.of_own ho).mono (fun _ _ => trivial), hb⟩)
  have HX := hidep (fun Y (hY : Below w.heap.size w Y) => next_any _ _ j Y _ (hj.below hY))
  have HM := hidep (fun Y (hY : Below w.heap.size w Y) => room_any _ _ j D Y _ _ _ (hj.below hY) (hd.below hY) ⟨s0, by omega⟩)
  have HMR := hidep (fun Y (hY : Below w.heap.size w Y) => roomR_any _ _ j D Y _ _ _ (hr.below hY) (hrd.below hY) ⟨s0, by omega⟩)
  obtain ⟨na, nc, rfl, hnl, hnc⟩ := (Rd.of_own hri.rn).form
  obtain ⟨ta, tc, rfl, htl, htc⟩ := (Rd.of_own hri.rt).form
  obtain ⟨ba, bc, rfl, hbl, hbc⟩ := (Rd.of_own hri.rb).form
  have HC := hidep (fun Y (hY : Below w.heap.size w Y) => (hri.below hY).cells)
  have HRN := hidep (fun Y (hY : Below w.heap.size w Y) => show NumsAt Y (.slice na j.nums.length nc) j.nums from ((Rd.of_own hri.rn).mono (fun _ _ => trivial)).below hY)
  have HRT := hidep (fun Y (hY : Below w.heap.size w Y) => show StrsAt Y (.slice ta j.texts.length tc) j.texts from ((Rd.of_own hri.rt).mono (fun _ _ => trivial)).below hY)
  have HRB := hidep (fun Y (hY : Below w.heap.size w Y) => show NumsAt Y (.slice ba j.bad.length bc) j.bad from ((Rd.of_own hri.rb).mono (fun _ _ => trivial)).below hY)
  obtain ⟨nx, hnx⟩ : ∃ nx, nx = j.next := ⟨_, rfl⟩
  obtain ⟨rm, hrm⟩ : ∃ rm, rm = roomZ j D := ⟨_, rfl⟩
  obtain ⟨sp, hsp⟩ : ∃ sp, sp = j.stop := ⟨_, rfl⟩
  rw [← hnx] at HX HC
  rw [← hrm] at HM HMR
  rw [← hsp] at HC
  clear hj hr hri hd hrd hok hnx hrm hsp s0 s1 n0 n1
  go_enter Tryz.func14, Tryz.ntmps14
  go_upto_region 3 with (fail)
  have hk0 := Below.refl w.heap.size w
  refine wp_region_noPanic (wp_region_held_drew (S := (fun Y => Below w.heap.size w Y)) (by kernel_rfl) ?hS14r3n0 (fun hHeld => ?hR14r3n0))
  case hS14r3n0 => ((try dsimp only); (exact hk0.drew))
  refine wpAnyH_take (i := 0) (v := ?v14r3n0q1) rfl (by kernel_rfl) (by kernel_rfl) (by kernel_rfl) (fun _ _ _ h => h) (Or.inl ⟨by kernel_rfl, ?hy14r3n0q1⟩) (by assumption) ?hr14r3n0q1
  case hy14r3n0q1 => (intro w hSw; (try dsimp only at hSw); (obtain ⟨c0, c1, c2, c3, c4, c5, c6⟩ := HC.out w hSw); first | (go_simp; done) | (go_simp; with_reducible rfl))
  refine wpAnyH_take (i := 2) (v := ?v14r3n0q2) rfl (by kernel_rfl) (by kernel_rfl) (by kernel_rfl) (fun _ _ _ h => h) (Or.inl ⟨by kernel_rfl, ?hy14r3n0q2⟩) (by assumption) ?hr14r3n0q2
  case hy14r3n0q2 => (intro w hSw; (try dsimp only at hSw); (obtain ⟨c0, c1, c2, c3, c4, c5, c6⟩ := HC.out w hSw); first | (go_simp; done) | (go_simp; with_reducible rfl))
  refine wpAnyH_take (i := 3) (v := ?v14r3n0q3) rfl (by kernel_rfl) (by kernel_rfl) (by kernel_rfl) (fun _ _ _ h => h) (Or.inl ⟨by kernel_rfl, ?hy14r3n0q3⟩) (by assumption) ?hr14r3n0q3
  case hy14r3n0q3 => (intro w hSw; (try dsimp only at hSw); (obtain ⟨c0, c1, c2, c3, c4, c5, c6⟩ := HC.out w hSw); first | (go_simp; done) | (go_simp; with_reducible rfl))
  refine wpAnyH_take (i := 4) (v := ?v14r3n0q4) rfl (by kernel_rfl) (by kernel_rfl) (by kernel_rfl) (fun _ _ _ h => h) (Or.inl ⟨by kernel_rfl, ?hy14r3n0q4⟩) (by assumption) ?hr14r3n0q4
  case hy14r3n0q4 => (intro w hSw; (try dsimp only at hSw); (obtain ⟨c0, c1, c2, c3, c4, c5, c6⟩ := HC.out w hSw); first | (go_simp; done) | (go_simp; with_reducible rfl))
  refine wpAnyH_take (i := 5) (v := ?v14r3n0q5) rfl (by kernel_rfl) (by kernel_rfl) (by kernel_rfl) (fun _ _ _ h => h) (Or.inl ⟨by kernel_rfl, ?hy14r3n0q5⟩) (by assumption) ?hr14r3n0q5
  case hy14r3n0q5 => (intro w hSw; (try dsimp only at hSw); (obtain ⟨c0, c1, c2, c3, c4, c5, c6⟩ := HC.out w hSw); first | (go_simp; done) | (go_simp; with_reducible rfl))
  refine wpAnyH_ready (rs := [1]) (by kernel_rfl) (by simp) (AllReadyH.cons rfl (fun K hK => ?hc14r3n0q6) AllReadyH.nil)
  go_simp
  (go_at_call 42; refine (HN.out _ hHeld).mono ?_; rintro e w18 ⟨v18, rfl, hn18, hb18⟩; obtain ⟨_, _, rfl, _, _⟩ := hn18.form; have hk := hHeld.trans (hb18.mono hHeld.size); (try dsimp only))
  refine hK.out _ _ ?hs14r3n0q6 (fun hHeld14r3n0q6 => ?ht14r3n0q6)
  case hs14r3n0q6 => ((try dsimp only); (exact hk))
  clear hHeld hK
  have hHeld := hHeld14r3n0q6
  clear hHeld14r3n0q6
  refine wpAnyH_ready (rs := [6]) (by kernel_rfl) (by simp) (AllReadyH.cons rfl (fun K hK => ?hc14r3n0q7) AllReadyH.nil)
  go_simp
  (go_at_call 23; refine (sameInts_t _ _ j.nums _ hn18 (HRN.out _ hHeld)).mono ?_; rintro e w23 ⟨rfl, hb23⟩; have hk := hHeld.trans (hb23.mono hHeld.size); (try dsimp only))
  refine hK.out _ _ ?hs14r3n0q7 (fun hHeld14r3n0q7 => ?ht14r3n0q7)
  case hs14r3n0q7 => ((try dsimp only); (exact hk))
  clear hHeld hK
  have hHeld := hHeld14r3n0q7
  clear hHeld14r3n0q7
  refine wpAnyH_take (i := 7) (v := ?v14r3n0q8) rfl (by kernel_rfl) (by kernel_rfl) (by kernel_rfl) (fun _ _ _ h => h) (Or.inl ⟨by kernel_rfl, ?hy14r3n0q8⟩) (by assumption) ?hr14r3n0q8
  case hy14r3n0q8 => (intro w hSw; (try dsimp only at hSw); (obtain ⟨c0, c1, c2, c3, c4, c5, c6⟩ := HC.out w hSw); first | (go_simp; done) | (go_simp; with_reducible rfl))
  refine wpAnyH_take (i := 8) (v := ?v14r3n0q9) rfl (by kernel_rfl) (by kernel_rfl) (by kernel_rfl) (fun _ _ _ h => h) (Or.inl ⟨by kernel_rfl, ?hy14r3n0q9⟩) (by assumption) ?hr14r3n0q9
  case hy14r3n0q9 => (intro w hSw; (try dsimp only at hSw); (obtain ⟨c0, c1, c2, c3, c4, c5, c6⟩ := HC.out w hSw); first | (go_simp; done) | (go_simp; with_reducible rfl))
  refine wpAnyH_take (i := 10) (v := ?v14r3n0q10) rfl (by kernel_rfl) (by kernel_rfl) (by kernel_rfl) (fun _ _ _ h => h) (Or.inl ⟨by kernel_rfl, ?hy14r3n0q10⟩) (by assumption) ?hr14r3n0q10
  case hy14r3n0q10 => (intro w hSw; (try dsimp only at hSw); (obtain ⟨c0, c1, c2, c3, c4, c5, c6⟩ := HC.out w hSw); first | (go_simp; done) | (go_simp; with_reducible rfl))
  refine wpAnyH_take (i := 11) (v := ?v14r3n0q11) rfl (by kernel_rfl) (by kernel_rfl) (by kernel_rfl) (fun _ _ _ h => h) (Or.inl ⟨by kernel_rfl, ?hy14r3n0q11⟩) (by assumption) ?hr14r3n0q11
  case hy14r3n0q11 => (intro w hSw; (try dsimp only at hSw); (obtain ⟨c0, c1, c2, c3, c4, c5, c6⟩ := HC.out w hSw); first | (go_simp; done) | (go_simp; with_reducible rfl))
  refine wpAnyH_take (i := 12) (v := ?v14r3n0q12) rfl (by kernel_rfl) (by kernel_rfl) (by kernel_rfl) (fun _ _ _ h => h) (Or.inl ⟨by kernel_rfl, ?hy14r3n0q12⟩) (by assumption) ?hr14r3n0q12
  case hy14r3n0q12 => (intro w hSw; (try dsimp only at hSw); (obtain ⟨c0, c1, c2, c3, c4, c5, c6⟩ := HC.out w hSw); first | (go_simp; done) | (go_simp; with_reducible rfl))
  refine wpAnyH_take (i := 13) (v := ?v14r3n0q13) rfl (by kernel_rfl) (by kernel_rfl) (by kernel_rfl) (fun _ _ _ h => h) (Or.inl ⟨by kernel_rfl, ?hy14r3n0q13⟩) (by assumption) ?hr14r3n0q13
  case hy14r3n0q13 => (intro w hSw; (try dsimp only at hSw); (obtain ⟨c0, c1, c2, c3, c4, c5, c6⟩ := HC.out w hSw); first | (go_simp; done) | (go_simp; with_reducible rfl))
  refine wpAnyH_ready (rs := [9]) (by kernel_rfl) (by simp) (AllReadyH.cons rfl (fun K hK => ?hc14r3n0q14) AllReadyH.nil)
  go_simp
  (go_at_call 21; refine (HT.out _ hHeld).mono ?_; rintro e w26 ⟨v26, rfl, hn26, hb26⟩; obtain ⟨_, _, rfl, _, _⟩ := hn26.form; have hk := hHeld.trans (hb26.mono hHeld.size); (try dsimp only))
  refine hK.out _ _ ?hs14r3n0q14 (fun hHeld14r3n0q14 => ?ht14r3n0q14)
  case hs14r3n0q14 => ((try dsimp only); (exact hk))
  clear hHeld hK
  have hHeld := hHeld14r3n0q14
  clear hHeld14r3n0q14
  refine wpAnyH_ready (rs := [14]) (by kernel_rfl) (by simp) (AllReadyH.cons rfl (fun K hK => ?hc14r3n0q15) AllReadyH.nil)
  go_simp
  (go_at_call 20; refine (sameTexts_t _ _ j.texts _ hn26 (HRT.out _ hHeld)).mono ?_; rintro e w31 ⟨rfl, hb31⟩; have hk := hHeld.trans (hb31.mono hHeld.size); (try dsimp only))
  refine hK.out _ _ ?hs14r3n0q15 (fun hHeld14r3n0q15 => ?ht14r3n0q15)
  case hs14r3n0q15 => ((try dsimp only); (exact hk))
  clear hHeld hK
  have hHeld := hHeld14r3n0q15
  clear hHeld14r3n0q15
  refine wpAnyH_take (i := 15) (v := ?v14r3n0q16) rfl (by kernel_rfl) (by kernel_rfl) (by kernel_rfl) (fun _ _ _ h => h) (Or.inl ⟨by kernel_rfl, ?hy14r3n0q16⟩) (by assumption) ?hr14r3n0q16
  case hy14r3n0q16 => (intro w hSw; (try dsimp only at hSw); (obtain ⟨c0, c1, c2, c3, c4, c5, c6⟩ := HC.out w hSw); first | (go_simp; done) | (go_simp; with_reducible rfl))
  refine wpAnyH_take (i := 16) (v := ?v14r3n0q17) rfl (by kernel_rfl) (by kernel_rfl) (by kernel_rfl) (fun _ _ _ h => h) (Or.inl ⟨by kernel_rfl, ?hy14r3n0q17⟩) (by assumption) ?hr14r3n0q17
  case hy14r3n0q17 => (intro w hSw; (try dsimp only at hSw); (obtain ⟨c0, c1, c2, c3, c4, c5, c6⟩ := HC.out w hSw); first | (go_simp; done) | (go_simp; with_reducible rfl))
  refine wpAnyH_take (i := 17) (v := ?v14r3n0q18) rfl (by kernel_rfl) (by kernel_rfl) (by kernel_rfl) (fun _ _ _ h => h) (Or.inl ⟨by kernel_rfl, ?hy14r3n0q18⟩) (by assumption) ?hr14r3n0q18
  case hy14r3n0q18 => (intro w hSw; (try dsimp only at hSw); (obtain ⟨c0, c1, c2, c3, c4, c5, c6⟩ := HC.out w hSw); first | (go_simp; done) | (go_simp; with_reducible rfl))
  refine wpAnyH_take (i := 19) (v := ?v14r3n0q19) rfl (by kernel_rfl) (by kernel_rfl) (by kernel_rfl) (fun _ _ _ h => h) (Or.inl ⟨by kernel_rfl, ?hy14r3n0q19⟩) (by assumption) ?hr14r3n0q19
  case hy14r3n0q19 => (intro w hSw; (try dsimp only at hSw); (obtain ⟨c0, c1, c2, c3, c4, c5, c6⟩ := HC.out w hSw); first | (go_simp; done) | (go_simp; with_reducible rfl))
  refine wpAnyH_ready (rs := [18]) (by kernel_rfl) (by simp) (AllReadyH.cons rfl (fun K hK => ?hc14r3n0q20) AllReadyH.nil)
  go_simp
  (go_at_call 24; refine (HA.out _ hHeld).mono ?_; rintro e w35 ⟨v35, rfl, hn35, hb35⟩; obtain ⟨_, _, rfl, _, _⟩ := hn35.form; have hk := hHeld.trans (hb35.mono hHeld.size); (try dsimp only))
  refine hK.out _ _ ?hs14r3n0q20 (fun hHeld14r3n0q20 => ?ht14r3n0q20)
  case hs14r3n0q20 => ((try dsimp only); (exact hk))
  clear hHeld hK
  have hHeld := hHeld14r3n0q20
  clear hHeld14r3n0q20
  refine wpAnyH_ready (rs := [20]) (by kernel_rfl) (by simp) (AllReadyH.cons rfl (fun K hK => ?hc14r3n0q21) AllReadyH.nil)
  go_simp
  (go_at_call 58; refine (HAR.out _ hHeld).mono ?_; rintro e w37 ⟨v37, rfl, hn37, hb37⟩; have hn35 := hn35.below hb37; obtain ⟨_, _, rfl, _, _⟩ := hn37.form; have hk := hHeld.trans (hb37.mono hHeld.size); (try dsimp only))
  refine hK.out _ _ ?hs14r3n0q21 (fun hHeld14r3n0q21 => ?ht14r3n0q21)
  case hs14r3n0q21 => ((try dsimp only); (exact hk))
  clear hHeld hK
  have hHeld := hHeld14r3n0q21
  clear hHeld14r3n0q21
  refine wpAnyH_ready (rs := [21]) (by kernel_rfl) (by simp) (AllReadyH.cons rfl (fun K hK => ?hc14r3n0q22) AllReadyH.nil)
  go_simp
  (go_at_call 23; refine (sameInts_t _ _ (damagedZ j) _ hn35 hn37).mono ?_; rintro e w38 ⟨rfl, hb38⟩; have hk := hHeld.trans (hb38.mono hHeld.size); (try dsimp only))
  refine hK.out _ _ ?hs14r3n0q22 (fun hHeld14r3n0q22 => ?ht14r3n0q22)
  case hs14r3n0q22 => ((try dsimp only); (exact hk))
  clear hHeld hK
  have hHeld := hHeld14r3n0q22
  clear hHeld14r3n0q22
  refine wpAnyH_take (i := 22) (v := ?v14r3n0q23) rfl (by kernel_rfl) (by kernel_rfl) (by kernel_rfl) (fun _ _ _ h => h) (Or.inl ⟨by kernel_rfl, ?hy14r3n0q23⟩) (by assumption) ?hr14r3n0q23
  case hy14r3n0q23 => (intro w hSw; (try dsimp only at hSw); (obtain ⟨c0, c1, c2, c3, c4, c5, c6⟩ := HC.out w hSw); first | (go_simp; done) | (go_simp; with_reducible rfl))
  refine wpAnyH_take (i := 23) (v := ?v14r3n0q24) rfl (by kernel_rfl) (by kernel_rfl) (by kernel_rfl) (fun _ _ _ h => h) (Or.inl ⟨by kernel_rfl, ?hy14r3n0q24⟩) (by assumption) ?hr14r3n0q24
  case hy14r3n0q24 => (intro w hSw; (try dsimp only at hSw); (obtain ⟨c0, c1, c2, c3, c4, c5, c6⟩ := HC.out w hSw); first | (go_simp; done) | (go_simp; with_reducible rfl))
  refine wpAnyH_take (i := 24) (v := ?v14r3n0q25) rfl (by kernel_rfl) (by kernel_rfl) (by kernel_rfl) (fun _ _ _ h => h) (Or.inl ⟨by kernel_rfl, ?hy14r3n0q25⟩) (by assumption) ?hr14r3n0q25
  case hy14r3n0q25 => (intro w hSw; (try dsimp only at hSw); (obtain ⟨c0, c1, c2, c3, c4, c5, c6⟩ := HC.out w hSw); first | (go_simp; done) | (go_simp; with_reducible rfl))
  refine wpAnyH_take (i := 26) (v := ?v14r3n0q26) rfl (by kernel_rfl) (by kernel_rfl) (by kernel_rfl) (fun _ _ _ h => h) (Or.inl ⟨by kernel_rfl, ?hy14r3n0q26⟩) (by assumption) ?hr14r3n0q26
  case hy14r3n0q26 => (intro w hSw; (try dsimp only at hSw); (obtain ⟨c0, c1, c2, c3, c4, c5, c6⟩ := HC.out w hSw); first | (go_simp; done) | (go_simp; with_reducible rfl))
  refine wpAnyH_take (i := 27) (v := ?v14r3n0q27) rfl (by kernel_rfl) (by kernel_rfl) (by kernel_rfl) (fun _ _ _ h => h) (Or.inl ⟨by kernel_rfl, ?hy14r3n0q27⟩) (by assumption) ?hr14r3n0q27
  case hy14r3n0q27 => (intro w hSw; (try dsimp only at hSw); (obtain ⟨c0, c1, c2, c3, c4, c5, c6⟩ := HC.out w hSw); first | (go_simp; done) | (go_simp; with_reducible rfl))
  refine wpAnyH_take (i := 28) (v := ?v14r3n0q28) rfl (by kernel_rfl) (by kernel_rfl) (by kernel_rfl) (fun _ _ _ h => h) (Or.inl ⟨by kernel_rfl, ?hy14r3n0q28⟩) (by assumption) ?hr14r3n0q28
  case hy14r3n0q28 => (intro w hSw; (try dsimp only at hSw); (obtain ⟨c0, c1, c2, c3, c4, c5, c6⟩ := HC.out w hSw); first | (go_simp; done) | (go_simp; with_reducible rfl))
  refine wpAnyH_take (i := 29) (v := ?v14r3n0q29) rfl (by kernel_rfl) (by kernel_rfl) (by kernel_rfl) (fun _ _ _ h => h) (Or.inl ⟨by kernel_rfl, ?hy14r3n0q29⟩) (by assumption) ?hr14r3n0q29
  case hy14r3n0q29 => (intro w hSw; (try dsimp only at hSw); (obtain ⟨c0, c1, c2, c3, c4, c5, c6⟩ := HC.out w hSw); first | (go_simp; done) | (go_simp; with_reducible rfl))
  refine wpAnyH_ready (rs := [25]) (by kernel_rfl) (by simp) (AllReadyH.cons rfl (fun K hK => ?hc14r3n0q30) AllReadyH.nil)
  go_simp
  (go_at_call 22; refine (HB.out _ hHeld).mono ?_; rintro e w42 ⟨v42, rfl, hn42, hb42⟩; obtain ⟨_, _, rfl, _, _⟩ := hn42.form; have hk := hHeld.trans (hb42.mono hHeld.size); (try dsimp only))
  refine hK.out _ _ ?hs14r3n0q30 (fun hHeld14r3n0q30 => ?ht14r3n0q30)
  case hs14r3n0q30 => ((try dsimp only); (exact hk))
  clear hHeld hK
  have hHeld := hHeld14r3n0q30
  clear hHeld14r3n0q30
  refine wpAnyH_ready (rs := [30]) (by kernel_rfl) (by simp) (AllReadyH.cons rfl (fun K hK => ?hc14r3n0q31) AllReadyH.nil)
  go_simp
  (go_at_call 23; refine (sameInts_t _ _ j.bad _ hn42 (HRB.out _ hHeld)).mono ?_; rintro e w47 ⟨rfl, hb47⟩; have hk := hHeld.trans (hb47.mono hHeld.size); (try dsimp only))
  refine hK.out _ _ ?hs14r3n0q31 (fun hHeld14r3n0q31 => ?ht14r3n0q31)
  case hs14r3n0q31 => ((try dsimp only); (exact hk))
  clear hHeld hK
  have hHeld := hHeld14r3n0q31
  clear hHeld14r3n0q31
  refine wpAnyH_take (i := 31) (v := ?v14r3n0q32) rfl (by kernel_rfl) (by kernel_rfl) (by kernel_rfl) (fun _ _ _ h => h) (Or.inl ⟨by kernel_rfl, ?hy14r3n0q32⟩) (by assumption) ?hr14r3n0q32
  case hy14r3n0q32 => (intro w hSw; (try dsimp only at hSw); (obtain ⟨c0, c1, c2, c3, c4, c5, c6⟩ := HC.out w hSw); first | (go_simp; done) | (go_simp; with_reducible rfl))
  refine wpAnyH_take (i := 32) (v := ?v14r3n0q33) rfl (by kernel_rfl) (by kernel_rfl) (by kernel_rfl) (fun _ _ _ h => h) (Or.inl ⟨by kernel_rfl, ?hy14r3n0q33⟩) (by assumption) ?hr14r3n0q33
  case hy14r3n0q33 => (intro w hSw; (try dsimp only at hSw); (obtain ⟨c0, c1, c2, c3, c4, c5, c6⟩ := HC.out w hSw); first | (go_simp; done) | (go_simp; with_reducible rfl))
  refine wpAnyH_take (i := 33) (v := ?v14r3n0q34) rfl (by kernel_rfl) (by kernel_rfl) (by kernel_rfl) (fun _ _ _ h => h) (Or.inl ⟨by kernel_rfl, ?hy14r3n0q34⟩) (by assumption) ?hr14r3n0q34
  case hy14r3n0q34 => (intro w hSw; (try dsimp only at hSw); (obtain ⟨c0, c1, c2, c3, c4, c5, c6⟩ := HC.out w hSw); first | (go_simp; done) | (go_simp; with_reducible rfl))
  refine wpAnyH_take (i := 35) (v := ?v14r3n0q35) rfl (by kernel_rfl) (by kernel_rfl) (by kernel_rfl) (fun _ _ _ h => h) (Or.inl ⟨by kernel_rfl, ?hy14r3n0q35⟩) (by assumption) ?hr14r3n0q35
  case hy14r3n0q35 => (intro w hSw; (try dsimp only at hSw); (obtain ⟨c0, c1, c2, c3, c4, c5, c6⟩ := HC.out w hSw); first | (go_simp; done) | (go_simp; with_reducible rfl))
  refine wpAnyH_take (i := 36) (v := ?v14r3n0q36) rfl (by kernel_rfl) (by kernel_rfl) (by kernel_rfl) (fun _ _ _ h => h) (Or.inl ⟨by kernel_rfl, ?hy14r3n0q36⟩) (by assumption) ?hr14r3n0q36
  case hy14r3n0q36 => (intro w hSw; (try dsimp only at hSw); (obtain ⟨c0, c1, c2, c3, c4, c5, c6⟩ := HC.out w hSw); first | (go_simp; done) | (go_simp; with_reducible rfl))
  refine wpAnyH_take (i := 37) (v := ?v14r3n0q37) rfl (by kernel_rfl) (by kernel_rfl) (by kernel_rfl) (fun _ _ _ h => h) (Or.inl ⟨by kernel_rfl, ?hy14r3n0q37⟩) (by assumption) ?hr14r3n0q37
  case hy14r3n0q37 => (intro w hSw; (try dsimp only at hSw); (obtain ⟨c0, c1, c2, c3, c4, c5, c6⟩ := HC.out w hSw); first | (go_simp; done) | (go_simp; with_reducible rfl))
  refine wpAnyH_take (i := 38) (v := ?v14r3n0q38) rfl (by kernel_rfl) (by kernel_rfl) (by kernel_rfl) (fun _ _ _ h => h) (Or.inl ⟨by kernel_rfl, ?hy14r3n0q38⟩) (by assumption) ?hr14r3n0q38
  case hy14r3n0q38 => (intro w hSw; (try dsimp only at hSw); (obtain ⟨c0, c1, c2, c3, c4, c5, c6⟩ := HC.out w hSw); first | (go_simp; done) | (go_simp; with_reducible rfl))
  refine wpAnyH_ready (rs := [34]) (by kernel_rfl) (by simp) (AllReadyH.cons rfl (fun K hK => ?hc14r3n0q39) AllReadyH.nil)
  go_simp
  (go_at_call 37; refine (HX.out _ hHeld).mono ?_; rintro e w51 ⟨rfl, hw51⟩; rw [hw51]; clear hw51; have hk := hHeld; (try dsimp only))
  refine hK.out _ _ ?hs14r3n0q39 (fun hHeld14r3n0q39 => ?ht14r3n0q39)
  case hs14r3n0q39 => ((try dsimp only); (exact hk))
  clear hHeld hK
  have hHeld := hHeld14r3n0q39
  clear hHeld14r3n0q39
  refine wpAnyH_take (i := 39) (v := ?v14r3n0q40) rfl (by kernel_rfl) (by kernel_rfl) (by kernel_rfl) (fun _ _ _ h => h) (Or.inl ⟨by kernel_rfl, ?hy14r3n0q40⟩) (by assumption) ?hr14r3n0q40
  case hy14r3n0q40 => (intro w hSw; (try dsimp only at hSw); (obtain ⟨c0, c1, c2, c3, c4, c5, c6⟩ := HC.out w hSw); first | (go_simp; done) | (go_simp; with_reducible rfl))
  refine wpAnyH_take (i := 40) (v := ?v14r3n0q41) rfl (by kernel_rfl) (by kernel_rfl) (by kernel_rfl) (fun _ _ _ h => h) (Or.inl ⟨by kernel_rfl, ?hy14r3n0q41⟩) (by assumption) ?hr14r3n0q41
  case hy14r3n0q41 => (intro w hSw; (try dsimp only at hSw); (obtain ⟨c0, c1, c2, c3, c4, c5, c6⟩ := HC.out w hSw); first | (go_simp; done) | (go_simp; with_reducible rfl))
  refine wpAnyH_take (i := 41) (v := ?v14r3n0q42) rfl (by kernel_rfl) (by kernel_rfl) (by kernel_rfl) (fun _ _ _ h => h) (Or.inl ⟨by kernel_rfl, ?hy14r3n0q42⟩) (by assumption) ?hr14r3n0q42
  case hy14r3n0q42 => (intro w hSw; (try dsimp only at hSw); (obtain ⟨c0, c1, c2, c3, c4, c5, c6⟩ := HC.out w hSw); first | (go_simp; done) | (go_simp; with_reducible rfl))
  refine wpAnyH_take (i := 42) (v := ?v14r3n0q43) rfl (by kernel_rfl) (by kernel_rfl) (by kernel_rfl) (fun _ _ _ h => h) (Or.inl ⟨by kernel_rfl, ?hy14r3n0q43⟩) (by assumption) ?hr14r3n0q43
  case hy14r3n0q43 => (intro w hSw; (try dsimp only at hSw); (obtain ⟨c0, c1, c2, c3, c4, c5, c6⟩ := HC.out w hSw); first | (go_simp; done) | (go_simp; with_reducible rfl))
  refine wpAnyH_take (i := 44) (v := ?v14r3n0q44) rfl (by kernel_rfl) (by kernel_rfl) (by kernel_rfl) (fun _ _ _ h => h) (Or.inl ⟨by kernel_rfl, ?hy14r3n0q44⟩) (by assumption) ?hr14r3n0q44
  case hy14r3n0q44 => (intro w hSw; (try dsimp only at hSw); (obtain ⟨c0, c1, c2, c3, c4, c5, c6⟩ := HC.out w hSw); first | (go_simp; done) | (go_simp; with_reducible rfl))
  refine wpAnyH_ready (rs := [43]) (by kernel_rfl) (by simp) (AllReadyH.cons rfl (fun K hK => ?hc14r3n0q45) AllReadyH.nil)
  go_simp
  (go_at_call 38; refine (HM.out _ hHeld).mono ?_; rintro e w60 ⟨rfl, hb60⟩; have hk := hHeld.trans (hb60.mono hHeld.size); (try dsimp only))
  refine hK.out _ _ ?hs14r3n0q45 (fun hHeld14r3n0q45 => ?ht14r3n0q45)
  case hs14r3n0q45 => ((try dsimp only); (exact hk))
  clear hHeld hK
  have hHeld := hHeld14r3n0q45
  clear hHeld14r3n0q45
  refine wpAnyH_ready (rs := [45]) (by kernel_rfl) (by simp) (AllReadyH.cons rfl (fun K hK => ?hc14r3n0q46) AllReadyH.nil)
  go_simp
  (go_at_call 59; refine (HMR.out _ hHeld).mono ?_; rintro e w62 ⟨rfl, hb62⟩; have hk := hHeld.trans (hb62.mono hHeld.size); (try dsimp only))
  refine hK.out _ _ ?hs14r3n0q46 (fun hHeld14r3n0q46 => ?ht14r3n0q46)
  case hs14r3n0q46 => ((try dsimp only); (exact hk))
  clear hHeld hK
  have hHeld := hHeld14r3n0q46
  clear hHeld14r3n0q46
  refine wpAnyH_take (i := 46) (v := ?v14r3n0q47) rfl (by kernel_rfl) (by kernel_rfl) (by kernel_rfl) (fun _ _ _ h => h) (Or.inl ⟨by kernel_rfl, ?hy14r3n0q47⟩) (by assumption) ?hr14r3n0q47
  case hy14r3n0q47 => (intro w hSw; (try dsimp only at hSw); (obtain ⟨c0, c1, c2, c3, c4, c5, c6⟩ := HC.out w hSw); first | (go_simp; done) | (go_simp; with_reducible rfl))
  refine wpAnyH_take (i := 47) (v := ?v14r3n0q48) rfl (by kernel_rfl) (by kernel_rfl) (by kernel_rfl) (fun _ _ _ h => h) (Or.inl ⟨by kernel_rfl, ?hy14r3n0q48⟩) (by assumption) ?hr14r3n0q48
  case hy14r3n0q48 => (intro w hSw; (try dsimp only at hSw); (obtain ⟨c0, c1, c2, c3, c4, c5, c6⟩ := HC.out w hSw); first | (go_simp; done) | (go_simp; with_reducible rfl))
  refine wpAnyH_take (i := 48) (v := ?v14r3n0q49) rfl (by kernel_rfl) (by kernel_rfl) (by kernel_rfl) (fun _ _ _ h => h) (Or.inl ⟨by kernel_rfl, ?hy14r3n0q49⟩) (by assumption) ?hr14r3n0q49
  case hy14r3n0q49 => (intro w hSw; (try dsimp only at hSw); (obtain ⟨c0, c1, c2, c3, c4, c5, c6⟩ := HC.out w hSw); first | (go_simp; done) | (go_simp; with_reducible rfl))
  refine wpAnyH_done (by kernel_rfl) ?_ _
  clear hHeld
  refine NoPanic.normal ?_
  apply_assumption
  refine wp_ret ?_
  show bodyPost Tryz.prog Tryz.f14 (fun e w' => e = .returned (.bool true) ∧ Below w.heap.size w w') Exit.ret _ _
  refine bodyPost_ret (P := Tryz.prog) (fn := Tryz.f14) (results_tmp rfl _ _ _) (by kernel_rfl) ?_
  exact ⟨by kernel_rfl, hk⟩
end Go.Proofs.YtipbkdlekanlmaaGreatDoor
/- The frame of a law's statement: arguments that are lists of ints and ints are opened, and closed behind a call that has turned nothing that was there. -/
namespace Go.Proofs.YtipbkdlekanlmaaGreatDoor
open Go.ChangeShapes Go.WideShapes Go.ChangeAt Go.RowKit Go.Lab
theorem Tryz.own0 : ownKnob Tryz.prog.godebug = none := by kernel_rfl
theorem cellsInt : Tryz.prog.cellsOf 3 = 1 := by kernel_rfl
theorem i64_rng {x : Int} (h : (Lit.int .i64 x).wf = true) : -9223372036854775808 ≤ x ∧ x ≤ 9223372036854775807 := by
  simpa [Lit.wf, IntKind.min, IntKind.max, IntKind.signed, IntKind.bits] using h
section
variable {H : Type} {enc : TypeId × Value → H}
set_option maxRecDepth 100000 in
theorem open_list {W : World} {base : Nat} {v : Value} {d : DataW H} {p : List MemPlace} (hok : Value.okWide Tryz.prog W .any base 51 v) (h : DataW.Trod enc Tryz.prog W 0 (fun _ => true) true 51 v d p) :
    ∃ l : List Int, IntsAt W v l ∧ ∀ W', Below W.heap.size W W' → ∀ sp : Nat → Bool, (∀ q ∈ p, sp q.block = true) → DataW.Trod enc Tryz.prog W' 0 sp true 51 v d p := by
  obtain ⟨a0, len, cap, rfl⟩ := okWide_slice Tryz.underlying51 hok
  obtain ⟨fuel, hf⟩ := h
  rcases open_ints Tryz.underlying51 Tryz.underlying3 cellsInt hf with ⟨hcs, hx⟩ | ⟨a, len', cap', zs, hcs, _, hl, hm, hz, hx, hcell, hwz⟩
  · simp [Value.cells] at hcs
    obtain ⟨rfl, rfl, rfl⟩ := hcs
    simp only [Prod.mk.injEq] at hx
    obtain ⟨rfl, rfl⟩ := hx
    exact ⟨[], ⟨Rd.nil _ _ _, fun x hx => by simp at hx⟩, fun _ _ _ _ => shut_slice_nil Tryz.underlying51⟩
  · simp [Value.cells] at hcs
    obtain ⟨rfl, rfl, rfl⟩ := hcs
    simp only [Prod.mk.injEq] at hx
    obtain ⟨rfl, rfl⟩ := hx
    simp only [if_true] at hz
    have hblk : ∀ i, i < zs.length → a.block < W.heap.size := fun i hi => by
      have h1 := hcell i hi
      unfold World.cell? at h1
      rw [block_add] at h1
      split at h1
      · rename_i hh; exact lt_of_block hh
      · cases h1
    refine ⟨zs.take len, ⟨?_, fun x hx => i64_rng (hwz x (List.mem_of_mem_take hx))⟩, fun W' hb sp hsp => ?_⟩
    · have hlen : (zs.take len).length = len := by rw [List.length_take]; omega
      refine ⟨by rw [hlen]; simp [intsC]; omega, some a, cap, by rw [hlen], by omega, hm, fun e => (by cases e), fun ad e h0 => ?_⟩
      injection e with e
      subst e
      obtain ⟨b, off, spot⟩ := a
      have hspot : spot = none := by simpa [Addr.add] using World.cell?_spot (hcell 0 (by omega))
      subst hspot
      have hc0 := hcell 0 (by omega)
      have hcell2 : ∀ i, i < zs.length → W.cell? ⟨b, off + i, none⟩ = some (.int .i64 (zs.getD i 0)) := fun i hi => by
        have := hcell i hi
        rw [add_plain] at this
        exact this
      cases hh : W.heap[b]? with
      | none => have := hcell2 0 (by omega); simp [World.cell?, hh] at this
      | some o =>
        have hx0 := hcell2 0 (by omega)
        unfold World.cell? at hx0
        simp only [hh] at hx0
        split at hx0
        · rename_i cur t fz hoo
          injection hoo with hoo
          subst hoo
          refine ⟨rfl, cur, t, fz, trivial, rfl, fun j u hu => ?_⟩
          have hj : j < len := by
            have := (List.getElem?_eq_some_iff.1 hu).1
            simp [intsC] at this
            omega
          have h1 := hcell2 j (by omega)
          simp only [World.cell?, hh] at h1
          have h2 : u = .int .i64 (zs.getD j 0) := by
            simp [intsC, hj] at hu
            obtain ⟨x, hx, rfl⟩ := hu
            rw [List.getD, hx]; rfl
          rw [h2]
          simpa using h1
        · cases hx0
    · by_cases hz0 : zs.length = 0
      · have hc0 : cap = 0 := by omega
        have hl0 : len = 0 := by omega
        subst hc0; subst hl0
        have t0 := shut_ints (enc := enc) (w := W') (base := 0) (spare := sp) (held := true) (a := a) (len := 0) (cap := 0) (zs := zs) 0 Tryz.underlying51 Tryz.underlying3 cellsInt (Nat.zero_le _) (Nat.le_refl _) hm (by simp [hz0]) (fun i hi => by omega) hwz
        exact ⟨2, by simpa [Value.cells] using t0⟩
      · have hspb : sp a.block = true := hsp (.cell a.block a.off) (MemPlace.mem_row.2 ⟨0, by omega, by simp⟩)
        have t0 := shut_ints (enc := enc) (w := W') (base := 0) (spare := sp) (held := true) (a := a) (len := len) (cap := cap) (zs := zs) 0 Tryz.underlying51 Tryz.underlying3 cellsInt (Nat.zero_le _) hl hm (by simp [hspb, hz]) (fun i hi => (hb.cell (p := a.add i) (by rw [block_add]; exact hblk i hi)).trans (hcell i hi)) hwz
        exact ⟨2, by simpa [Value.cells] using t0⟩
set_option maxRecDepth 100000 in
/-- The end of a law's call: it returns true, what was there reads as it read. -/
theorem law_post {f : Func} {s : ChangeSpec} {W W' : World} {args : Array Value} {ds : List (DataW H)} {before : List MemPlace}
    (hW : DataW.Whole enc Tryz.prog f.params.toList s.vars false W args.toList ds [] before) (hsv : s.vars = []) (hrt : f.resultTypes = #[4]) (hb : Below W.heap.size W W')
    (hfn : s.fn H (ds ++ []) = { results := [.lit (.bool true)], args := ds }) (hps : ∀ sp : Nat → Bool, (∀ q ∈ before, sp q.block = true) → DataW.TrodAll enc Tryz.prog W' 0 sp true f.params.toList args.toList ds before) :
    s.post enc Tryz.prog f false true false false W args (.bool true) W' := by
  have hlt : ∀ q ∈ before, q.block < W.heap.size := fun q hq => hW.lt q hq
  have hr : ∀ (b : Nat) (sp : Nat → Bool) (hd : Bool), DataW.TrodAll enc Tryz.prog W' b sp hd f.resultTypes.toList ((Value.bool true).resultList f.resultTypes.size) (s.fn H (ds ++ [])).results [] := fun b sp hd => by
    rw [hfn, hrt]
    exact trodAll_mk1 (shut_bool Tryz.underlying4 _)
  have ha : ∀ sp : Nat → Bool, (∀ q ∈ before, sp q.block = true) → DataW.TrodAll enc Tryz.prog W' 0 sp true f.params.toList args.toList (s.fn H (ds ++ [])).args before := fun sp h => by rw [hfn]; exact hps sp h
  have hv : ∀ sp : Nat → Bool, DataW.TrodVars enc Tryz.prog W' sp s.vars (s.fn H (ds ++ [])).vars [] := fun sp => by rw [hfn, hsv]; rfl
  refine ⟨ds, [], before, [], before, [], hW, hr _ _ _, ha _ (fun q hq => by simpa using hlt q hq), hv _, World.keptBut_mono (fun q hq => ⟨hq, Or.inr (Or.inl hq)⟩) (hb.frame (· ∈ before)), fun _ => ?_⟩
  · obtain ⟨_, _, _, _, _, hz, hn⟩ := hW
    refine ⟨ok_one hrt rfl (okWide_bool_mk Tryz.underlying4 _), _, _, ([] ++ before) ++ [], ⟨[] ++ before, [], trodAll_append (ha _ (fun _ _ => rfl)) (hr _ _ _), hv _, rfl, ?_, ?_⟩, ?_⟩
    · intro b off hp
      have hin : MemPlace.cell b off ∈ before := by simpa using hp
      rw [hb.frozen (hlt _ hin)]
      exact hz b off hin
    · intro h
      cases h
    · intro q hq _
      simpa using hq
end
end Go.Proofs.YtipbkdlekanlmaaGreatDoor
/- Journal: the listed tables of constants, opened; a start that meets the condition. -/
namespace Go.Proofs.YtipbkdlekanlmaaGreatDoor
open Go.RowKit Go.Lab Go.Jn Go.ChangeShapes Go.WideShapes Go.ChangeAt
theorem consts_hash {H : Type} : (Rows.laid_dactyl_hash_constants : DataW H) = .agg (ks0.map fun x => .lit (.int .u32 (wz x))) := by kernel_rfl
theorem und_u32x64 : Tryz.prog.underlying 161 = some (.array 64 137) := by kernel_rfl
theorem row_of_trod {H : Type} {enc : TypeId × Value → H} {W : World} {base : Nat} {sp : Nat → Bool} {held : Bool} {fuel : Nat} {cs : List Value} {p : List MemPlace}
    (h : DataW.trod enc Tryz.prog W base sp held fuel 161 cs = some (.agg (ks0.map fun x => .lit (.int .u32 (wz x))), p)) : ∀ (j : Nat) (v : Value), (u32C ks0)[j]? = some v → cs[j]? = some v := by
  obtain ⟨xs, m, rfl, hx, hlen, hn, hel⟩ := DataW.trod_array und_u32x64 h
  have c1 : Tryz.prog.cellsOf 137 = 1 := by kernel_rfl
  have hk : ks0.length = 64 := by decide
  simp only [Prod.mk.injEq, DataW.agg.injEq] at hx
  intro j v hv
  have hj : j < 64 := by
    have := (List.getElem?_eq_some_iff.1 hv).1
    rw [u32C_len, hk] at this
    exact this
  have h0 := hel j hj
  rw [c1, Nat.mul_one, List.getElem?_eq_getElem (by rw [hn]; exact hj)] at h0
  obtain ⟨k, e1, e2, _⟩ := DataW.trod_int Tryz.underlying137 h0
  have hxj : (xs.map (·.1))[j]? = some (.lit (.int .u32 k)) := by
    rw [List.getElem?_map, List.getElem?_eq_getElem (by rw [hn]; exact hj), e2]
    rfl
  rw [← hx.1, List.getElem?_map] at hxj
  unfold u32C at hv
  rw [List.getElem?_map] at hv
  rw [List.getElem?_eq_getElem (by rw [hk]; exact hj)] at hxj hv
  simp only [Option.map_some, Option.some.injEq, DataW.lit.injEq, Lit.int.injEq] at hxj hv
  have h1 : (cs.drop j)[0]? = some (.int .u32 k) := by
    have : ((cs.drop j).take 1)[0]? = some (.int .u32 k) := by rw [e1]; rfl
    rw [List.getElem?_take] at this
    simpa using this
  rw [List.getElem?_drop, Nat.add_zero] at h1
  rw [h1, ← hv, hxj.2]
theorem range_of_var {W : World} {n : String} {g : Nat} {cs : Array Value} (hg : Tryz.prog.globalNamed n = some g) (hv : W.var? Tryz.prog n = some cs) (h : ∀ (j : Nat) (v : Value), (u32C ks0)[j]? = some v → cs.toList[j]? = some v) : W.rangeAt g 0 (u32C ks0) := by
  intro j v hjv
  rw [Nat.zero_add, World.var?_cell hg hv j]
  have := h j v hjv
  simpa using this
end Go.Proofs.YtipbkdlekanlmaaGreatDoor
/- Journal: the arguments of a law, opened. -/
namespace Go.Proofs.YtipbkdlekanlmaaGreatDoor
open Go.ChangeShapes Go.WideShapes Go.ChangeAt Go.RowKit Go.Lab
theorem laidAll : laidOutB Tryz.prog = true := by kernel_rfl
theorem stays {H : Type} {enc : TypeId × Value → H} {t : TypeId} {W W' : World} {v : Value} {d : DataW H} {ps : List MemPlace} (hl : laidOutB Tryz.prog = true) (hr : Tryz.prog.readableRec t = true) (hrow : t < Tryz.prog.types.size)
    (h : DataW.Trod enc Tryz.prog W 0 (fun _ => true) true t v d ps) (hb : Below W.heap.size W W') (hlt : ∀ x ∈ ps, x.block < W.heap.size) (sp : Nat → Bool) (hsp : ∀ x ∈ ps, sp x.block = true) :
    DataW.Trod enc Tryz.prog W' 0 sp true t v d ps :=
  WideElems.Trod_stays hl hr hrow h (fun x hx => hb.same (hlt x hx)) hsp
section
variable {H : Type} {enc : TypeId × Value → H} {W : World} {sp : Nat → Bool} {held : Bool}
set_option maxRecDepth 100000 in
theorem open_int_arg {W : World} {base : Nat} {v : Value} {d : DataW H} {p : List MemPlace} (hok : Value.okWide Tryz.prog W .any base 3 v) (h : DataW.Trod enc Tryz.prog W 0 (fun _ => true) held 3 v d p) : ∃ n : Int, v = .int .i64 n ∧ -9223372036854775808 ≤ n ∧ n ≤ 9223372036854775807 := by
  obtain ⟨n, rfl⟩ := okWide_int Tryz.underlying3 hok
  obtain ⟨fuel, hf⟩ := h
  obtain ⟨m, e, _, hw⟩ := DataW.trod_int Tryz.underlying3 hf
  simp [Value.cells] at e
  subst e
  exact ⟨n, rfl, i64_rng hw⟩
set_option maxRecDepth 100000 in
theorem open_str_arg {W : World} {base : Nat} {v : Value} {d : DataW H} {p : List MemPlace} (hok : Value.okWide Tryz.prog W .any base 9 v) (h : DataW.Trod enc Tryz.prog W 0 (fun _ => true) held 9 v d p) : ∃ s : ByteArray, v = .string s ∧ s.size ≤ maxLen := by
  obtain ⟨n, rfl⟩ := okWide_string Tryz.underlying9 hok
  obtain ⟨fuel, hf⟩ := h
  obtain ⟨m, e, _, hw⟩ := DataW.trod_string Tryz.underlying9 hf
  simp [Value.cells] at e
  subst e
  exact ⟨n, rfl, hw⟩
end
end Go.Proofs.YtipbkdlekanlmaaGreatDoor
/- Journal: a list of texts as a law's argument, opened. -/
namespace Go.Proofs.YtipbkdlekanlmaaGreatDoor
open Go.ChangeShapes Go.WideShapes Go.ChangeAt Go.RowKit Go.Lab Go.Disk
section
variable {H : Type} {enc : TypeId × Value → H} {W : World} {sp : Nat → Bool} {held : Bool}
theorem rd_of_cellsS {v : Value} {k : Nat} {a : Addr} {len cap : Nat} {cs : List Value} (hv : v = .slice (some a) len cap) (hl : len ≤ cap) (hm : cap ≤ maxLen) (hlen : cs.length = len * k)
    (hblk : 0 < cap → ∃ u, W.cell? a = some u) (hcell : ∀ j u, cs[j]? = some u → W.cell? (a.add j) = some u) : Rd W (fun _ => True) k v len cs := by
  refine ⟨hlen, some a, cap, hv, hl, hm, fun e => (by cases e), fun ad e h0 => ?_⟩
  injection e with e
  subst e
  obtain ⟨b, off, spot⟩ := a
  obtain ⟨u0, hc0⟩ := hblk h0
  have hspot : spot = none := by simpa using World.cell?_spot hc0
  subst hspot
  cases hh : W.heap[b]? with
  | none => simp [World.cell?, hh] at hc0
  | some o =>
    have hx0 := hc0
    unfold World.cell? at hx0
    simp only [hh] at hx0
    split at hx0
    · rename_i cur t fz hoo
      injection hoo with hoo
      subst hoo
      refine ⟨rfl, cur, t, fz, trivial, rfl, fun j u hu => ?_⟩
      have h1 := hcell j u hu
      rw [add_plain] at h1
      simpa [World.cell?, hh] using h1
    · cases hx0
set_option maxRecDepth 100000 in
theorem strs_of_trod {fuel : Nat} {v : Value} {x : DataW H × List MemPlace} (h : DataW.trod enc Tryz.prog W 0 (fun _ => true) held fuel 22 [v] = some x) : ∃ l : List ByteArray, StrsAt W v l ∧ ∀ s ∈ l, s.size ≤ maxLen := by
  rcases Go.Deep.open_slice Tryz.underlying22 h with ⟨hcs, hx⟩ | ⟨a, len, cap, m, n, D, Pl, hcs, _, hl, hm, hmm, _, hx⟩
  · simp at hcs
    subst hcs
    exact ⟨[], Rd.nil _ _ _, fun x hx => by cases hx⟩
  · simp at hcs
    simp only [if_true] at hmm
    subst hmm
    have ce : Tryz.prog.cellsOf 9 = 1 := by kernel_rfl
    have each : ∀ i, i < m → ∃ q : ByteArray, W.cell? (a.add i) = some (.string q) ∧ q.size ≤ maxLen := by
      intro i hi
      obtain ⟨cs', h1, h2⟩ := hx i hi
      rw [ce] at h1
      obtain ⟨_, hlen, hcell⟩ := World.cells?_some h1
      obtain ⟨n0, e0, _, w0⟩ := DataW.trod_string Tryz.underlying9 h2
      subst e0
      have e := hcell 0 (by omega)
      rw [Go.Deep.add_add] at e
      exact ⟨n0, by simpa using e, w0⟩
    obtain ⟨q, hq⟩ := Go.Deep.choose_lt each
    refine ⟨(List.range len).map q, ?_, fun x hx => ?_⟩
    · have := rd_of_cellsS (W := W) (k := 1) (cs := strsC ((List.range len).map q)) hcs hl hm (by simp [strsC]) (fun h0 => ⟨_, by simpa [Addr.add] using (hq 0 (by omega)).1⟩) (fun j u hu => by
        have hj : j < len := by
          have := (List.getElem?_eq_some_iff.1 hu).1
          simpa [strsC] using this
        simp [strsC, hj] at hu
        rw [← hu]
        exact (hq j (by omega)).1)
      show Rd W (fun _ => True) 1 v ((List.range len).map q).length _
      rw [List.length_map, List.length_range]
      exact this
    · obtain ⟨i, hi, rfl⟩ := List.mem_map.1 hx
      have := List.mem_range.1 hi
      exact (hq i (by omega)).2
set_option maxRecDepth 100000 in
theorem open_strs_arg {W : World} {base : Nat} {v : Value} {d : DataW H} {p : List MemPlace} (hok : Value.okWide Tryz.prog W .any base 22 v) (h : DataW.Trod enc Tryz.prog W 0 (fun _ => true) held 22 v d p) : ∃ l : List ByteArray, StrsAt W v l ∧ ∀ s ∈ l, s.size ≤ maxLen := by
  obtain ⟨a0, len, cap, rfl⟩ := okWide_slice Tryz.underlying22 hok
  obtain ⟨fuel, hf⟩ := h
  exact strs_of_trod (by simpa [Value.cells] using hf)
end
end Go.Proofs.YtipbkdlekanlmaaGreatDoor
