/- Contract: the reference's Choices. -/
import Derived.Test.YthhjnafhpmgceaaOwnEE
import Derived.Test.YthhjnafhpmgceaaPairs
import Derived.Test.YthhjnafhpmgceaaRefG
import Derived.Test.YthhjnafhpmgceaaRefD
namespace Go.Proofs.Ythhjnafhpmgceaa
open Go.RowKit Go.Lab
theorem own_base2 {w : World} {B B' e size n : Nat} {v : Value} {xs : List Value} (h : w.ownsRow B' e size v n xs) (hB : B ≤ B') : w.ownsRow B e size v n xs :=
  ⟨h.1, h.2.imp id (fun ⟨g, cap, cur, a, b, c⟩ => ⟨g, cap, cur, a, Nat.le_trans hB b, c⟩)⟩
set_option maxHeartbeats 4000000 in
theorem choices33_any (a b : List Sym) (va vb : Value) (most : Int) (w : World) (ha : SymsAt w va a) (hb : SymsAt w vb b) :
    Calls Try.prog 22 #[va, vb, .int .i64 most] w fun e w' => ∃ v, e = .returned v ∧ OwnEE w' w.heap.size v (choicesZ a b most) ∧ Below w.heap.size w w' := by
  obtain ⟨aa, ca, rfl, h1, h2⟩ := ha.form
  obtain ⟨ab, cb, rfl, h3, h4⟩ := hb.form
  unfold maxLen at h2 h4
  have HTA := hidep (text33_any _ a w ha)
  have HTB := hidep (text33_any _ b w hb)
  by_cases hok : isTextB a = true ∧ isTextB b = true ∧ 1 ≤ most ∧ most ≤ 64
  · obtain ⟨hta, htb, hm1, hm2⟩ := hok
    have hla := isTextB_len hta
    have hlb := isTextB_len htb
    obtain ⟨mo, rfl⟩ : ∃ mo : Nat, most = (mo : Int) := ⟨most.toNat, by omega⟩
    obtain ⟨PL, hPL⟩ : ∃ PL, PL = (enumP a b a.length 0 0).take mo := ⟨_, rfl⟩
    have HZ : Hid (choicesZ a b mo = PL.map (editsZ a b)) := hidep (by
      unfold choicesZ
      rw [hta, htb, decide_eq_true hm1, decide_eq_true hm2, hPL]
      rfl)
    have hpl : PL.length ≤ 64 := by rw [hPL]; have := List.length_take_le mo (enumP a b a.length 0 0); omega
    have HP : Hid (∀ p ∈ PL, p.length ≤ a.length ∧ incP a.length b.length 0 0 p) := hidep (fun p hp => by
      rw [hPL] at hp
      have hm := List.mem_of_mem_take hp
      exact ⟨by have := enumP_len _ _ _ p hm; omega, enumP_inc _ _ _ p (by omega) (by omega) hm⟩)
    have HPL := hidep hPL
    rw [hta] at HTA
    rw [htb] at HTB
    clear hta htb hPL
    go_enter Try.func22, Try.ntmps22
    go_wp2_with fail
    refine HTA.out.mono ?_
    rintro e w1 ⟨rfl, rfl⟩
    go_wp2_with fail
    refine HTB.out.mono ?_
    rintro e w1 ⟨rfl, rfl⟩
    go_wp2_with (first
      | (go_at_call 34; refine (table_any _ _ a b w ha hb hla hlb).mono ?_; rintro e w1 ⟨vt, rfl, hT, hb1⟩; obtain ⟨ob, rb, rfl, hT1, hT2⟩ := hT; have hTT : TableAt w1 (.slice (some ⟨ob, 0, none⟩) (a.length + 1) (a.length + 1)) a b := ⟨ob, rb, rfl, hT1, hT2⟩; clear hT1 hT2)
      | (go_at_call 33; refine (pairs_any a b hla hlb a.length 0 0 mo _ _ _ w1 (by omega) (by omega) (by omega) (by omega) (by omega) (ha.below hb1) (hb.below hb1) hTT).mono ?_; rintro e w2 ⟨vp, rfl, hP, hb2⟩; rw [← HPL.out] at hP; have hP := hP.rd; have hbw2 := hb1.trans (hb2.mono hb1.size); obtain ⟨ap, cp, rfl, hcp, hcp2⟩ := hP.form; unfold maxLen at hcp2; clear hTT hb1 hb2))
    go_loopg [8, 9] PL.length (fun g o jv wr => ∃ j : Nat, j ≤ PL.length ∧ PL.length - j = g ∧ jv = .int .i64 j ∧ OwnEE wr w2.heap.size o ((PL.take j).map (editsZ a b)) ∧ Below w2.heap.size w2 wr)
    case atStart => exact ⟨0, by omega, rfl, rfl, by simpa using OwnEE.nil _ _, Below.refl _ _⟩
    case round =>
      obtain ⟨j, hj, hg, rfl, hown, hb3⟩ := hrel
      have HG := hidep hg
      clear hg
      have hbw : Below w.heap.size w wr := hbw2.trans (hb3.mono hbw2.size)
      by_cases hjl : j < PL.length
      · obtain ⟨bp, op, u, rfl, hbp, hcu, hpu⟩ := (hP.below hb3).at hjl
        have hpp := HP.out _ (List.getElem_mem hjl)
        have HTK : Hid ((PL.take (j + 1)).map (editsZ a b) = (PL.take j).map (editsZ a b) ++ [editsZ a b PL[j]]) := hidep (by
          rw [List.take_succ_eq_append_getElem hjl, List.map_append]; rfl)
        have HCE := hidep (edits33_any a b PL[j] _ _ u wr hla hlb (by omega) hpp.2 (ha.below hbw) (hb.below hbw) hpu)
        obtain ⟨us, hul, huo, hus⟩ := hown
        have HOW : Hid (OwnEE wr w2.heap.size _ ((PL.take j).map (editsZ a b))) := hidep ⟨us, hul, huo, hus⟩
        obtain ⟨ao, co, rfl, hco, hco2⟩ := (Rd.of_own huo).form
        have hq1 : ((PL.take j).map (editsZ a b)).length + 1 ≤ 64 := by simp; omega
        have hs3 := hb3.size
        clear hpp hus hul huo hpu
        generalize PL[j] = P at *
        generalize (PL.take j).map (editsZ a b) = LJ at *
        go_wp2_with (first
          | (go_at_call 35; refine HCE.out.mono ?_; rintro e w4 ⟨v4, rfl, hE4, hb4⟩; obtain ⟨a4, c4, rfl, hc4, hc5⟩ := hE4.form)
          | (at_builtin; obtain ⟨us2, hul2, huo2, hus2⟩ := HOW.out.below (hb4.alloc hb4.size (.cells #[.slice a4 (editsZ a b P).length c4] 24)); have hfr := Rd.fresh w4 #[.slice a4 (editsZ a b P).length c4] 24 1 1 rfl (by decide); refine wpList_append_rd _ rfl (.tmp 39) (.tmp 47) rfl slEditss w2.heap.size (.slice ao LJ.length co) _ _ rfl huo2 _ _ _ _ rfl hfr (by intro u hu; simp at hu; subst hu; rfl) (by unfold maxLen; omega) (by omega) (by have := hb4.size; simp; omega) ?_; intro v5 w5 hown5 hgr5 hat hnl; clear hat hnl hfr))
        have hW2 := hb4.alloc hb4.size (.cells #[.slice a4 (editsZ a b P).length c4] 24)
        have hsz4 := hb4.size
        have hsn := OwnEE.snoc hul2 huo2 hus2 (hE4.rd.below ((Below.refl _ _).alloc (Nat.le_refl _) _)) hown5 hgr5
        go_roundg (PL.length - (j + 1))
        case measure => have := HG.out; omega
        case rel => exact ⟨j + 1, by omega, rfl, by go_num, by rw [HTK.out]; exact hsn, (hb3.trans (hW2.mono hs3)).grown hgr5 (by simp; omega) (fun g hg => (huo2.lt g hg).1)⟩
      · have hjl2 : j = PL.length := by omega
        subst hjl2
        have HF : Hid ((PL.take PL.length).map (editsZ a b) = choicesZ a b mo) := hidep (by rw [HZ.out, List.take_length])
        go_wp2
        go_ret
        rw [← HF.out]
        obtain ⟨us, hul, huo, hus⟩ := hown
        exact ⟨_, rfl, ⟨us, hul, own_base2 huo hbw2.size, hus⟩, hbw⟩
  · have HZ : Hid (choicesZ a b most = []) := hidep (by
      unfold choicesZ
      rw [if_neg]
      simp only [Bool.and_eq_true, decide_eq_true_eq]
      intro h
      exact hok ⟨h.1.1.1, h.1.1.2, h.1.2, h.2⟩)
    have hfail : ∀ e w', (e = Ending.returned (.slice none 0 0) ∧ w = w') → ∃ v, e = .returned v ∧ OwnEE w' w.heap.size v (choicesZ a b most) ∧ Below w.heap.size w w' := by
      rintro e w' ⟨rfl, rfl⟩
      rw [HZ.out]
      exact ⟨_, rfl, OwnEE.nil _ _, Below.refl _ _⟩
    refine Calls.mono ?_ hfail
    clear hfail HZ
    cases hta : isTextB a with
    | false =>
      rw [hta] at HTA
      go_enter Try.func22, Try.ntmps22
      go_wp2_with fail
      refine HTA.out.mono ?_
      rintro e w1 ⟨rfl, rfl⟩
      go_wp2
      go_ret
      exact ⟨rfl, rfl⟩
    | true =>
      cases htb : isTextB b with
      | false =>
        rw [hta] at HTA
        rw [htb] at HTB
        go_enter Try.func22, Try.ntmps22
        go_wp2_with fail
        refine HTA.out.mono ?_
        rintro e w1 ⟨rfl, rfl⟩
        go_wp2_with fail
        refine HTB.out.mono ?_
        rintro e w1 ⟨rfl, rfl⟩
        go_wp2
        go_ret
        exact ⟨rfl, rfl⟩
      | true =>
        have hm : most < 1 ∨ (1 ≤ most ∧ 64 < most) := by
          by_cases h : most < 1
          · exact .inl h
          · right
            refine ⟨by omega, ?_⟩
            have : ¬ most ≤ 64 := fun h2 => hok ⟨hta, htb, by omega, h2⟩
            omega
        rw [hta] at HTA
        rw [htb] at HTB
        clear hok
        rcases hm with hm | ⟨hm0, hm⟩
        all_goals
          go_enter Try.func22, Try.ntmps22
          go_wp2_with fail
          refine HTA.out.mono ?_
          rintro e w1 ⟨rfl, rfl⟩
          go_wp2_with fail
          refine HTB.out.mono ?_
          rintro e w1 ⟨rfl, rfl⟩
          go_wp2
          go_ret
          exact ⟨rfl, rfl⟩
end Go.Proofs.Ythhjnafhpmgceaa
