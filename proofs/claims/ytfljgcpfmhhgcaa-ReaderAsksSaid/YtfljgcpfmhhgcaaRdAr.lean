/- Contract: the reference's Ask. -/
import Derived.Test.YtfljgcpfmhhgcaaRdAk
namespace Go.Proofs.Ytfljgcpfmhhgcaa
open Go.RowKit Go.Lab
attribute [local go_sem] Oper.semAt_some
set_option maxRecDepth 100000
set_option maxHeartbeats 20000000 in
theorem ask30_any (way : Int) (L : List Pl) (R : List (List (List Int))) (pv ev : Value) (hok : ∀ p ∈ L, PlOk p) (hL : L.length ≤ 1000) (hR : ExamOk R) (w : World) (hp : PlacesAt w pv L) (he : ExamAt w ev R) :
    Calls Try.prog 31 #[.int .i64 way, ev, pv] w fun e w' => ∃ (ra : Option Addr) (rc : Nat) (rows : List (List Int)) (ez : Int), e = .returned (.tuple #[.slice ra rows.length rc, .int .i64 ez]) ∧ TabAt w' (.slice ra rows.length rc) rows ∧ AskR way L R rows ez ∧ Below w.heap.size w w' := by
  obtain ⟨a, c, rfl, hca, hma⟩ := PlacesAt.form hp
  obtain ⟨et, ia, ic, rfl, hit⟩ := he
  unfold maxLen at hma
  obtain ⟨W0, hW0⟩ : ∃ W0, W0 = w.alloc (.cells #[.string et, .slice ia R.length ic] 57) := ⟨_, rfl⟩
  have hb0 : Below w.heap.size w W0 := by rw [hW0]; exact (Below.refl _ _).alloc (Nat.le_refl _) _
  have hq0 : W0.heap[w.heap.size]? = some (.cells #[.string et, .slice ia R.length ic] 57) := by rw [hW0]; exact heap_alloc_new _ _
  obtain ⟨PB, hPB⟩ : ∃ PB, PB = w.heap.size := ⟨_, rfl⟩
  rw [← hPB] at hq0
  have HPX := hidep (show ∀ X, Below W0.heap.size W0 X → PlacesAt X (.slice a L.length c) L ∧ ItemsAt X (.slice ia R.length ic) R from fun X hX => ⟨(hp.below hb0).below hX, (hit.below hb0).below hX⟩)
  have k1 : W0.cell? ⟨PB, 1, none⟩ = some (.slice ia R.length ic) := by simp [World.cell?, hq0]
  have HPB := hidep (show ∀ X, Below W0.heap.size W0 X → X.cell? ⟨PB, 1, none⟩ = some (.slice ia R.length ic) from fun X hX => (hX.cell (p := ⟨PB, 1, none⟩) (lt_of_block hq0)).trans k1)
  have hR1 := hR.1
  have HB0 := hidep hb0
  clear hp hit hb0 hq0
  go_enter Try.func31, Try.ntmps31
  go_upto_region 1 with (fail)
  rw [← hW0, ← hPB]
  clear hW0 hPB
  by_cases hway : way < 0 ∨ 3 < way
  · by_cases hw0 : way < 0
    · go_wp2
      go_ret2
      exact ⟨none, 0, [], 1, rfl, TabOf.nil _ _, .inl ⟨hway, rfl, rfl⟩, HB0.out⟩
    · have hw3 : (3 : Int) < way := by omega
      go_wp2
      go_ret2
      exact ⟨none, 0, [], 1, rfl, TabOf.nil _ _, .inl ⟨hway, rfl, rfl⟩, HB0.out⟩
  · have hw0 : ¬ way < 0 := by omega
    have hw3 : ¬ (3 : Int) < way := by omega
    have HWY := hidep (show 0 ≤ way ∧ way ≤ 3 from by omega)
    clear hway
    go_upto_region 5 with (fail)
    clear hw0 hw3 k1
    refine wp_loop (LoopI 79 (fun tm ds wr => (slot tm 0) = .int .i64 way ∧ (slot tm 2) = .slice a L.length c ∧ (slot tm 4) = .pointer (some ⟨PB, 0, none⟩) ∧ ds = [] ∧ AkO W0 way L R (slot tm 8) (slot tm 9) wr)) (fun a' wr => R.length - (intOf (a'.tmps.getD 9 undef)).toNat) ?outerStart ?outerRound
    case' outerStart => refine LoopI.mk rfl ?_
    case' outerRound => (rintro ⟨t, ds⟩ wr ⟨hts, hrel⟩; dsimp only at hts hrel; rw [frame79 t ds hts])
    case outerStart => exact ⟨rfl, rfl, rfl, rfl, 0, [], Nat.zero_le _, rfl, rfl, World.ownsRow_nil _ _ _ _, (fun j u r h => by simp at h), GoodTo.start _ _ _, Below.refl _ _⟩
    obtain ⟨h0, h2, h4, hds, i, vs, hi, h9, hvl, hown, hvs, hgood, hbw⟩ := hrel
    subst hds
    obtain ⟨va, vc, hvv, _, _⟩ := (Rd.of_own hown).form
    rw [hvv] at hown
    rw [h0, h2, h4, h9, hvv]
    clear h0 h2 h4 h9 hvv hts
    have k1w := HPB.out wr hbw
    have HOWN := hidep hown
    have HVS := hidep hvs
    have HVL := hidep hvl
    have HG := hidep hgood
    have HBW := hidep hbw
    clear hown hvs hvl hgood
    by_cases hlt : i < R.length
    · have hi0 : (0 : Int) ≤ (i : Int) := by omega
      have hi1 : (i : Int) < (R.length : Int) := by omega
      obtain ⟨ib, io, s0, a1, a2, qa, n1, c1, n2, c2, qc, rfl, hib, g0, g1, g2, g3, hqa⟩ := ItemsAt.at (HPX.out wr hbw).2 hlt
      have hqok := hR.2 R[i] (List.getElem_mem hlt)
      have HRS := hidep (rowsTo_succ (way := way) (L := L) hlt)
      obtain ⟨qs, hqs⟩ : ∃ qs, qs = R[i] := ⟨_, rfl⟩
      rw [← hqs] at g3 hqa hqok HRS
      have HQS := hidep hqs
      clear hqs
      obtain ⟨W6, hW6⟩ : ∃ W6 : World, W6 = wr := ⟨_, rfl⟩
      rw [← hW6] at HBW HOWN HVS g3 hqa hbw k1w ⊢
      have H06 := hidep hbw
      have HQA := hidep hqa
      have HG3 := hidep (show ∀ X, Below W6.heap.size W6 X → X.cell? ⟨PB, 1, none⟩ = some (.slice (some ⟨ib, io, none⟩) R.length ic) ∧ X.cell? ⟨ib, io + i * 4 + 3, none⟩ = some (.slice qa qs.length qc) from fun X hX => ⟨HPB.out X (H06.out.trans (hX.mono H06.out.size)), (hX.cell (p := ⟨ib, io + i * 4 + 3, none⟩) (by rw [hW6]; exact hib)).trans g3⟩)
      have hown6 := HOWN
      have hvs6 := HVS
      clear hW6 g0 g1 g2 g3 hqa hbw hib
      go_upto_region 9 with (fail)
      clear k1w
      refine wp_loop (LoopI 79 (fun tm ds wr => (slot tm 0) = .int .i64 way ∧ (slot tm 2) = .slice a L.length c ∧ (slot tm 4) = .pointer (some ⟨PB, 0, none⟩) ∧ (slot tm 8) = .slice va i vc ∧ (slot tm 9) = .int .i64 (i : Nat) ∧ ds = [] ∧ AkI W6 way L R i qs (slot tm 10) (slot tm 11) wr)) (fun a' wr => qs.length - (intOf (a'.tmps.getD 11 undef)).toNat) ?innerStart ?innerRound
      case' innerStart => refine LoopI.mk rfl ?_
      case' innerRound => (rintro ⟨t, ds⟩ wr ⟨hts, hrel⟩; dsimp only at hts hrel; rw [frame79 t ds hts])
      case innerStart => exact ⟨rfl, rfl, rfl, rfl, rfl, rfl, 0, Nat.zero_le _, rfl, World.ownsRow_nil _ _ _ _, (by simp), HG.out, Below.refl _ _⟩
      obtain ⟨h0, h2, h4, h8, h9, hds, j, hj, h11, hrow, hrb, hgj, hbj⟩ := hrel
      subst hds
      obtain ⟨ra, rc, hrv, _, _⟩ := (Rd.of_own hrow).form
      rw [hrv] at hrow
      rw [h0, h2, h4, h8, h9, h11, hrv]
      clear h0 h2 h4 h8 h9 h11 hrv hts
      obtain ⟨k1j, k3j⟩ := HG3.out wr hbj
      have HROW := hidep hrow
      have HRB := hidep hrb
      have HGJ := hidep hgj
      have HBJ := hidep hbj
      have hql := hqok.1
      clear hrow hgj hrb
      by_cases hjl : j < qs.length
      · have hj0 : (0 : Int) ≤ (j : Int) := by omega
        have hj1 : (j : Int) < (qs.length : Int) := by omega
        obtain ⟨qb, qo, k, p, s4, b1, b2, na, b6, m1, d1, m2, d2, nc, m6, d6, rfl, hqb, g0, g1, g2, g3, g4, g5, g6, hna⟩ := QuestAt.at (HQA.out.below hbj) hjl
        have hnl := hqok.2 qs[j] (List.getElem_mem hjl)
        have HTK := hidep (show (qs.take (j + 1)).map (quS way L (i : Nat)) = (qs.take j).map (quS way L (i : Nat)) ++ [quS way L (i : Nat) qs[j]] by rw [List.take_succ_eq_append_getElem hjl, List.map_append]; rfl)
        have HNX := hidep (show quE way L (i : Nat) qs[j] = 0 → GoodTo way L R i (j + 1) from fun h => GoodTo.next HGJ.out hlt (by rw [← HQS.out]; exact hjl) (by simp only [← HQS.out]; exact h))
        have HQT := hidep (show Qat R i j qs[j] from ⟨qs, by rw [HQS.out]; exact List.getElem?_eq_getElem hlt, List.getElem?_eq_getElem hjl⟩)
        obtain ⟨needs, hnd⟩ : ∃ n, n = qs[j] := ⟨_, rfl⟩
        rw [← hnd] at g3 hna hnl HTK HNX HQT
        clear hnd
        have h010 := H06.out.trans (hbj.mono H06.out.size)
        have HPL := hidep (needed30_any L (i : Nat) needs (.slice a L.length c) (.slice na needs.length nc) (by omega) (by omega) wr (HPX.out wr h010).1 hna)
        have H610 := hidep hbj
        have HWR10 := hidep (Below.refl wr.heap.size wr)
        clear h010 g0 g1 g2 g4 g5 g6 hna hbj
        go_upto_region 12 with (first
          | (go_at_call 58; refine HPL.out.mono ?_; rintro e w11 ⟨oa, oc, o, ez, rfl, ho, hpr, hb11⟩)
          | fail)
        clear HPL g3 k1j k3j
        have HNZ := hidep (needed_eq hpr)
        have h611 := H610.out.trans (hb11.mono H610.out.size)
        have h011 := H06.out.trans (h611.mono H06.out.size)
        have H611 := hidep h611
        have HWR := hidep (HWR10.out.trans (hb11.mono HWR10.out.size))
        have H011 := hidep h011
        have HO := hidep ho
        clear hpr hb11 h611 h011 ho
        by_cases hez : ez = 0
        · subst hez
          have hez0 : ((0 : Int) != 0) = false := rfl
          obtain ⟨tz, htz⟩ : ∃ z, z = taskZ way L.length o := ⟨_, rfl⟩
          obtain ⟨po, hpo⟩ : ∃ z, z = if taskZ way L.length o = 0 then orderZ way (needL L o) o else [] := ⟨_, rfl⟩
          obtain ⟨st, hst⟩ : ∃ z, z = if taskZ way L.length o = 0 then restV way (needL L o) (2 ^ o.length - 1) pl0 else 0 := ⟨_, rfl⟩
          obtain ⟨tb, htb⟩ : ∃ z, z = if taskZ way L.length o = 0 then tabL way (needL L o) else [] := ⟨_, rfl⟩
          have HBG := hidep (best_gen2 way L o (.slice a L.length c) (.slice oa o.length oc) hok w11 (HPX.out w11 H011.out).1 HO.out po st tz tb htz hpo hst htb).2
          have HTZ := hidep htz
          have HST := hidep hst
          have HQE : Hid (quE way L (i : Nat) needs = tz) := hidep (by unfold quE; rw [HNZ.out, if_pos rfl, htz])
          clear htz hpo hst htb
          go_upto_region 15 with (first
            | (go_at_call 19; refine HBG.out.mono ?_; rintro e w14 ⟨h14, pa, pc, ta, tc, rfl, _, _⟩)
            | fail)
          obtain ⟨W15, hW15⟩ : ∃ W15, W15 = w14.alloc (.cells #[.slice pa po.length pc, .int .i64 st, .slice ta tb.length tc] 39) := ⟨_, rfl⟩
          have hq15 : W15.heap[w14.heap.size]? = some (.cells #[.slice pa po.length pc, .int .i64 st, .slice ta tb.length tc] 39) := by rw [hW15]; exact heap_alloc_new _ _
          have hb15 : Below w14.heap.size w14 W15 := by rw [hW15]; exact (Below.refl _ _).alloc (Nat.le_refl _) _
          rw [← hW15]
          have h615 := H611.out.trans ((h14.trans (hb15.mono h14.size)).mono H611.out.size)
          obtain ⟨y0, y1, y2⟩ := box3_cells hq15
          have HW15 := hidep (HWR.out.trans ((h14.trans (hb15.mono h14.size)).mono HWR.out.size))
          clear hW15 hb15 h14 HBG hq15
          by_cases htz0 : tz = 0
          · have HT : Hid (taskZ way L.length o = 0) := hidep (HTZ.out.symm.trans htz0)
            have HQS2 : Hid (quS way L (i : Nat) needs = st) := hidep (by unfold quS; rw [HNZ.out, HST.out, if_pos HT.out])
            have hstb : -9223372036854775808 ≤ st ∧ st ≤ 9223372036854775807 := by
              have h8 := (task_need rfl HT.out).1.1
              have := two_pow_lt h8
              have := restV_bd (way := way) (needL_ok (need := o) hok) (s := 2 ^ o.length - 1) (by omega) pl0_ok
              rw [HST.out, if_pos HT.out]
              omega
            have HGN := hidep (HNX.out (HQE.out.trans htz0))
            have htzb : (tz != 0) = false := by simp [htz0]
            have HROW15 := hidep (ownsRow_turned HROW.out (Turned.of_below (T := fun _ => False) HW15.out) (fun _ _ h => h))
            have hfr := Rd.fresh W15 #[.int .i64 st] 3 1 1 rfl (by decide)
            have hs615 := h615.size
            clear htz0
            go_wp2_with (first
              | (at_builtin; refine wpList_append_rd _ rfl (.tmp 69) (.tmp 72) rfl slIntsR W6.heap.size _ _ _ rfl (HROW15.out.alloc _) _ _ _ _ rfl hfr (by intro u hu; simp at hu; rw [hu]; rfl) (by unfold maxLen; omega) (by omega) (by simp; omega) ?_; intro v2 w2 hown2 hgr2 hat2 hnl2; clear hat2 hnl2)
              | fail)
            have hend : Below W6.heap.size W6 w2 := (h615.alloc hs615 _).grown hgr2 (by simp; omega) (fun g hg => (HROW15.out.lt g hg).1)
            refine ⟨LoopI.mk rfl ⟨rfl, rfl, rfl, rfl, rfl, rfl, j + 1, by omega, by show Value.int _ _ = _; go_num, by rw [HTK.out, HQS2.out, intsC_snoc']; exact hown2, fun x hx => ?_, HGN.out, hend⟩, ?_⟩
            · rw [HTK.out, HQS2.out] at hx
              rcases List.mem_append.1 hx with h | h
              · exact HRB.out x h
              · rw [List.mem_singleton.1 h]
                exact hstb
            · show qs.length - _ < qs.length - _
              simp [intOf]; omega
          · have htzb : (tz != 0) = true := by simp [htz0]
            have h0e := H06.out.trans (h615.mono H06.out.size)
            go_wp2
            go_ret2
            exact ⟨none, 0, [], tz, rfl, TabOf.nil _ _, .inr ⟨HWY.out, .inr ⟨htz0, rfl, i, j, needs, HQT.out, HQE.out, HGJ.out⟩⟩, HB0.out.trans (h0e.mono HB0.out.size)⟩
        · have hezb : (ez != 0) = true := by simp [hez]
          have HQE : Hid (quE way L (i : Nat) needs = ez) := hidep (by unfold quE; rw [HNZ.out, if_neg hez])
          go_wp2
          go_ret2
          exact ⟨none, 0, [], ez, rfl, TabOf.nil _ _, .inr ⟨HWY.out, .inr ⟨hez, rfl, i, j, needs, HQT.out, HQE.out, HGJ.out⟩⟩, HB0.out.trans (H011.out.mono HB0.out.size)⟩
      · have hjl2 : j = qs.length := by omega
        subst hjl2
        have hrowf : wr.ownsRow W6.heap.size 3 1 (.slice ra qs.length rc) qs.length (intsC (qs.map (quS way L (i : Nat)))) := by
          have h := HROW.out
          rwa [List.take_length] at h
        have hrbf := HRB.out
        rw [List.take_length] at hrbf
        have HOUT := hidep (ownsRow_turned hown6.out (Turned.of_below (T := fun _ => False) hbj) (fun _ _ h => h))
        have HVS2 := hidep (show ∀ (j : Nat) (u : Value) (r : List Int), vs[j]? = some u → (rowsTo way L R i)[j]? = some r → IntsOf (· = 3) wr u r from fun j u r h1 h2 => (hvs6.out j u r h1 h2).keeps (Keeps.below _ hbj))
        have HRV := hidep (show IntsOf (· = 3) wr (.slice ra qs.length rc) (qs.map (quS way L (i : Nat))) from ⟨by rw [List.length_map]; exact Rd.of_own hrowf, hrbf⟩)
        have hfr := Rd.fresh wr #[.slice ra qs.length rc] 22 1 1 rfl (by decide)
        have HGI := hidep (GoodTo.item HGJ.out hlt (by rw [← HQS.out]; exact Nat.le_refl _))
        have h0j := H06.out.trans (hbj.mono H06.out.size)
        have hs0j := h0j.size
        clear hrowf hrbf
        go_wp2_with (first
          | (at_builtin; refine wpList_append_rd _ rfl (.tmp 74) (.tmp 76) rfl slTabR W0.heap.size _ _ _ rfl (HOUT.out.alloc _) _ _ _ _ rfl hfr (by intro u hu; simp at hu; rw [hu]; rfl) (by unfold maxLen; omega) (by omega) (by simp; omega) ?_; intro v2 w2 hown2 hgr2 hat2 hnl2; clear hat2 hnl2)
          | fail)
        have hend : Below W0.heap.size W0 w2 := (h0j.alloc hs0j _).grown hgr2 (by simp; omega) (fun g hg => (HOUT.out.lt g hg).1)
        have hkeep : Keeps (· = 3) wr w2 := (Keeps.alloc _ wr _).trans (Keeps.grown (T := (· = 3)) (HOUT.out.alloc _) hgr2 (fun t ht => by rw [ht]; decide))
        refine ⟨LoopI.mk rfl ⟨rfl, rfl, rfl, rfl, i + 1, vs ++ [Value.slice ra qs.length rc], by omega, by show Value.int _ _ = _; go_num, by simp [HVL.out], hown2, ?_, HGI.out, hend⟩, ?_⟩
        · intro k u r hu hr
          have hrl := rowsTo_len way L R i
          rw [HRS.out] at hr
          rcases Nat.lt_or_ge k vs.length with hk | hk
          · rw [List.getElem?_append_left hk] at hu
            rw [List.getElem?_append_left (by rw [hrl, ← HVL.out]; exact hk)] at hr
            exact (HVS2.out k u r hu hr).keeps hkeep
          · rw [List.getElem?_append_right hk] at hu
            rw [List.getElem?_append_right (by rw [hrl, ← HVL.out]; exact hk)] at hr
            have e1 : Value.slice ra qs.length rc = u := (List.mem_singleton.1 (List.mem_of_getElem? hu)).symm
            have e2 : qs.map (quS way L (i : Nat)) = r := (List.mem_singleton.1 (List.mem_of_getElem? hr)).symm
            rw [← e1, ← e2]
            exact HRV.out.keeps hkeep
        · show R.length - _ < R.length - _
          simp [intOf]; omega
    · have hie : i = R.length := by omega
      subst hie
      have hfin : TabAt wr (.slice va R.length vc) (rowsTo way L R R.length) := by
        have hl := rowsTo_len way L R R.length
        refine ⟨vs, by rw [hl]; exact HVL.out, by rw [hl]; exact (Rd.of_own HOWN.out).mono (fun _ _ => trivial), fun j u r hu hr => ?_⟩
        exact ⟨(HVS.out j u r hu hr).1.mono (fun _ _ => trivial), (HVS.out j u r hu hr).2⟩
      have HFIN := hidep hfin
      clear hfin
      go_wp2
      go_ret2
      exact ⟨va, vc, rowsTo way L R R.length, 0, by rw [rowsTo_len]; rfl, by rw [rowsTo_len]; exact HFIN.out, .inr ⟨HWY.out, .inl ⟨rfl, HG.out.all, rfl⟩⟩, HB0.out.trans (hbw.mono HB0.out.size)⟩
end Go.Proofs.Ytfljgcpfmhhgcaa
