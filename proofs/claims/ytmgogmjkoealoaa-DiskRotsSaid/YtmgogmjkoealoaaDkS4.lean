/- The law 'a mount tears as it is told': its walk. Written by genr4.py. -/
import Derived.Test.YtmgogmjkoealoaaDkS2
import Derived.Test.YtmgogmjkoealoaaDkS3
namespace Go.Proofs.Ytmgogmjkoealoaa
open Go.RowKit Go.Lab Go.Disk
theorem slice_to {P : Program} {t : TypeId} (h : P.underlying t = some .string) (s : ByteArray) (e : Int) (m : Nat) (he : e = (m : Int)) (hm : m ≤ s.size) (w : World) :
    (Instr.slice t (.string s) none (some (.int .i64 e)) none).run P w = .ok (.string (s.extract 0 m)) w := by
  subst he
  have h2 : 0 ≤ (m : Int) := by omega
  simp [Instr.slice, run_underlying h, Instr.sliceBounds, Instr.sliceBound, asIntOf, hm, h2, Result.andThen]
theorem slice_from {P : Program} {t : TypeId} (h : P.underlying t = some .string) (s : ByteArray) (e : Int) (m : Nat) (he : e = (m : Int)) (hm : m ≤ s.size) (w : World) :
    (Instr.slice t (.string s) (some (.int .i64 e)) none none).run P w = .ok (.string (s.extract m s.size)) w := by
  subst he
  have h2 : 0 ≤ (m : Int) := by omega
  simp [Instr.slice, run_underlying h, Instr.sliceBounds, Instr.sliceBound, asIntOf, hm, h2, Result.andThen]
theorem strs_some {L : List ByteArray} {j : Nat} {s : ByteArray} (h : L[j]? = some s) : (strsC L)[j]? = some (.string s) := by simp [strsC, h]
theorem cntD_lej (S : List Sec) (j : Nat) : cntD S j ≤ j := by
  unfold cntD
  exact Nat.le_trans (List.length_filter_le _ _) (by rw [List.length_take]; omega)
theorem cntD_next {S : List Sec} {j : Nat} (h : j < S.length) : cntD S (j + 1) = cntD S j + if (atS S j).dirty = true then 1 else 0 := by
  rw [atS_get h]
  exact cntD_succ h
set_option maxHeartbeats 8000000 in
set_option maxRecDepth 100000 in
theorem tears_any (v v2 : Value) (n : Int) (ops : List Disk.Op) (ps : List Int) (w : World) (_hn : -9223372036854775808 ≤ n ∧ n ≤ 9223372036854775807) (h : OpsAt w v ops) (hp : IntsAt w v2 ps) :
    Calls Try.prog 6 #[.int .i64 n, v, v2] w fun e w' => e = .returned (.bool true) ∧ Below w.heap.size w w' := by
  obtain ⟨a, c, rfl, hc1, hc2⟩ := h.form
  obtain ⟨a2, c2, rfl, hd1, hd2⟩ := hp.1.form
  unfold maxLen at hc2 hd2
  have HSAN := hidep (fun X => sanity_any X)
  have HBAD := hidep (fun X => start_bad n X)
  have HOPS := hidep h
  have HPS := hidep hp
  clear h hp _hn
  rcases (by omega : n < 1 ∨ (¬ n < 1 ∧ 64 < n) ∨ (1 ≤ n ∧ n ≤ 64)) with hn | ⟨hn1, hn⟩ | hn
  · replace HBAD := hidep (fun X => HBAD.out X (.inl hn))
    go_enter Try.func6, Try.ntmps6
    go_wp2_with (first
      | (go_at_call 9; refine (HSAN.out _).mono ?_; rintro e w1 ⟨rfl, hb1⟩)
      | (go_at_call 10; refine (HBAD.out _).mono ?_; rintro e w2 ⟨rfl, rfl⟩)
      | fail)
    go_ret
    exact ⟨ret_val (by simp), hb1⟩
  · replace HBAD := hidep (fun X => HBAD.out X (.inr hn))
    go_enter Try.func6, Try.ntmps6
    go_wp2_with (first
      | (go_at_call 9; refine (HSAN.out _).mono ?_; rintro e w1 ⟨rfl, hb1⟩)
      | (go_at_call 10; refine (HBAD.out _).mono ?_; rintro e w2 ⟨rfl, rfl⟩)
      | fail)
    go_ret
    exact ⟨ret_val (by simp), hb1⟩
  · obtain ⟨k, rfl⟩ : ∃ k : Nat, n = (k : Int) := ⟨n.toNat, by omega⟩
    have hk : 1 ≤ k ∧ k ≤ 64 := by omega
    have HST := hidep (fun X => start_any k X hk.1 hk.2)
    clear hn HBAD
    by_cases hl : 60 < ops.length
    · go_enter Try.func6, Try.ntmps6
      go_wp2_with (first
        | (go_at_call 9; refine (HSAN.out _).mono ?_; rintro e w1 ⟨rfl, hb1⟩)
        | (go_at_call 10; refine (HST.out _).mono ?_; rintro e w2 ⟨p, q, m, rfl, hD, hR, hb2⟩)
        | fail)
      go_ret
      exact ⟨ret_val (by simp), hb1.trans (hb2.mono hb1.size)⟩
    · go_enter Try.func6, Try.ntmps6
      go_wp2_with (first
        | (go_at_call 9; refine (HSAN.out _).mono ?_; rintro e w1 ⟨rfl, hb1⟩)
        | (go_at_call 10; refine (HST.out _).mono ?_; rintro e w2 ⟨p, q, m, rfl, hD, hR, hb2⟩)
        | fail)
      have HD := hidep hD
      have HR := hidep hR
      have HB := hidep (hb1.trans (hb2.mono hb1.size))
      have HZ := hidep hb1.size
      have hm := hD.rng
      have HM := hidep hm.1
      have HL0 : Hid ((newD k).s.length = k) := hidep (by simp [newD])
      obtain ⟨bp, rfl⟩ := hD.ptr
      obtain ⟨bq, rfl⟩ := hR.ptr
      clear hb1 hb2 hD hR hm HSAN HST
      go_loopw [11] (fun i wr => ∃ (j : Nat) (D : Dk), j ≤ ops.length ∧ i = .int .i64 j ∧ Hid (DiskAt wr w1.heap.size m (.pointer (some ⟨bp, 0, none⟩)) D) ∧ Hid (RDiskAt wr m w2.heap.size (.pointer (some ⟨bq, 0, none⟩)) D) ∧ Hid (D.s.length = k) ∧ Hid (Below w.heap.size w wr)) (fun i _ => ops.length - (RowKit.intOf i).toNat)
      case atStart => exact ⟨0, _, Nat.zero_le _, rfl, HD, HR, HL0, HB⟩
      case round =>
        clear HD HR HL0 HB
        obtain ⟨j, D, hj, rfl, HDj, HRj, HL, HBj⟩ := hrel
        by_cases hlt : j < ops.length
        · obtain ⟨b, off, u, rfl, hcell, hints, hok⟩ := HOPS.out.op hlt
          have HC := hidep hcell
          have HI := hidep hints
          have HO := hidep hok
          clear hcell hints hok
          generalize ops[j] = o at *
          obtain ⟨c0, c1, c2, c3, c4⟩ := HC.out _ HBj.out
          have HDO := hidep (do_any _ u o D wr w1.heap.size m HDj.out HO.out (fun X hX => HI.out _ (HBj.out.trans (hX.below HZ.out HBj.out.size))))
          have HRDO := hidep (fun (X : World) (hX : Below w.heap.size w X) (hR : RDiskAt X m w2.heap.size (.pointer (some ⟨bq, 0, none⟩)) D) => rdo_any _ u o D X m w2.heap.size hR HO.out (fun Y hY => HI.out _ (hX.trans (hY.below (Nat.le_trans HZ.out (Nat.le_of_lt HM.out)) hX.size))))
          have HL2 : Hid ((doD D o).s.length = k) := hidep (by rw [doD_len]; exact HL.out)
          generalize doE D o = ed at *
          obtain ⟨et, ee⟩ := ed
          generalize hdd : doD D o = DD at *
          clear hdd
          go_wp2_with (first
            | (go_at_call 11; refine HDO.out.mono ?_; rintro e w3 ⟨rfl, hD3, hT3⟩; have hB3 : Below w.heap.size w w3 := HBj.out.trans (hT3.below HZ.out HBj.out.size); have hR3 := HRj.out.keep hT3 (.inr (Nat.le_refl _)); have hq := HC.out _ hB3; have q0 := hq.1; have q1 := hq.2.1; have q2 := hq.2.2.1; have q3 := hq.2.2.2.1; have q4 := hq.2.2.2.2)
            | (go_at_call 12; refine (HRDO.out _ hB3 hR3).mono ?_; rintro e w4 ⟨rfl, hR4, hT4⟩; have hB4 : Below w.heap.size w w4 := hB3.trans (hT4.below (Nat.le_trans HZ.out (Nat.le_of_lt HM.out)) hB3.size); have hD4 := hD3.keep hT4 (.inl (Nat.le_refl _)))
            | fail)
          go_roundw
          case rel => exact ⟨j + 1, DD, by omega, by go_num, hidep hD4, hidep hR4, HL2, hidep hB4⟩
          case measure => simp [RowKit.intOf]; omega
        · have HI1 : Hid (∀ X, DiskAt X w1.heap.size m (.pointer (some ⟨bp, 0, none⟩)) D → Calls Try.prog 15 #[.pointer (some ⟨bp, 0, none⟩)] X fun e w' => ∃ g, e = .returned (.slice (some ⟨g, 0, none⟩) k k) ∧ X.heap.size ≤ g ∧ RowAt w' g 9 (strsC (imageZ D)) ∧ Below X.heap.size X w') := hidep (fun X hX => (image_any _ _ X _ _ hX).mono (fun e w' ⟨g, he, hg, hr, hb⟩ => ⟨g, by rw [he, HL.out], hg, hr, hb⟩))
          have HI2 : Hid (∀ X, DiskAt X w1.heap.size m (.pointer (some ⟨bp, 0, none⟩)) (mountD D ps) → Calls Try.prog 15 #[.pointer (some ⟨bp, 0, none⟩)] X fun e w' => ∃ g, e = .returned (.slice (some ⟨g, 0, none⟩) k k) ∧ RowAt w' g 9 (strsC (imageZ (mountD D ps))) ∧ Below X.heap.size X w') := hidep (fun X hX => (image_any _ _ X _ _ hX).mono (fun e w' ⟨g, he, _, hr, hb⟩ => ⟨g, by rw [he, mountD_len, HL.out], hr, hb⟩))
          have HMO : Hid (∀ X, Below w.heap.size w X → DiskAt X w1.heap.size m (.pointer (some ⟨bp, 0, none⟩)) D → Calls Try.prog 26 #[.pointer (some ⟨bp, 0, none⟩), .slice a2 ps.length c2] X fun e w' => e = .returned (.tuple #[]) ∧ DiskAt w' w1.heap.size m (.pointer (some ⟨bp, 0, none⟩)) (mountD D ps) ∧ Turn w1.heap.size m X w') := hidep (fun X hX hD => mount_any _ _ ps _ X _ _ hD (fun Y hY => HPS.out.below (hX.trans (hY.below HZ.out hX.size))))
          have HPE : Hid (∀ X, DiskAt X w1.heap.size m (.pointer (some ⟨bp, 0, none⟩)) (mountD D ps) → Calls Try.prog 22 #[.pointer (some ⟨bp, 0, none⟩)] X fun e w' => ∃ a c, e = .returned (.slice a 0 c) ∧ Below X.heap.size X w') := hidep (fun X hX => (pending_any _ _ X _ _ hX).mono (fun e w' ⟨v, he, ho, hb⟩ => by
            rw [mount_pend] at ho
            obtain ⟨a, c, hv, _⟩ := (own_rd ho).form
            exact ⟨a, c, by rw [he, hv]; rfl, hb⟩))
          have HUP : Hid (∀ X, DiskAt X w1.heap.size m (.pointer (some ⟨bp, 0, none⟩)) (mountD D ps) → Calls Try.prog 27 #[.pointer (some ⟨bp, 0, none⟩)] X fun e w' => e = .returned (.bool true) ∧ X = w') := hidep (fun X hX => up_any _ _ X _ _ hX)
          have hD := HDj.out
          have hR := HRj.out
          have hB := HBj.out
          have hrr := hR.rng
          clear HDj HRj HBj HOPS
          go_upto_region 15 with (first
            | (go_at_call 15; (with_reducible refine (HI1.out _ hD).mono ?_); rintro e w3 ⟨g1, rfl, hg1, hi1, hb⟩; have hD := hD.below hb; have hR := hR.below hb; have hB := hB.trans (hb.mono hB.size))
            | (go_at_call 26; refine (HMO.out _ hB hD).mono ?_; rintro e w4 ⟨rfl, hD, hT⟩; have hi1 := hi1.of_turn hT (by omega); have hR := hR.keep hT (.inr (Nat.le_refl _)); have hB := hB.trans (hT.below HZ.out hB.size))
            | (go_at_call 15; (with_reducible refine (HI2.out _ hD).mono ?_); rintro e w5 ⟨g2, rfl, hi2, hb⟩; have hD := hD.below hb; have hi1 := hi1.below hb; have hR := hR.below hb; have hB := hB.trans (hb.mono hB.size))
            | (go_at_call 22; refine (HPE.out _ hD).mono ?_; rintro e w6 ⟨ap, cp, rfl, hb⟩; have hD := hD.below hb; have hi1 := hi1.below hb; have hi2 := hi2.below hb; have hR := hR.below hb; have hB := hB.trans (hb.mono hB.size))
            | (go_at_call 27; refine (HUP.out _ hD).mono ?_; rintro e w7 ⟨rfl, rfl⟩)
            | fail)
          have HR := hidep hR
          have HG1 := hidep hi1
          have HG2 := hidep hi2
          have HB := hidep hB
          have HOKD := hidep hR.ok
          clear hD hR hi1 hi2 hB hrr hg1 HI1 HI2 HMO HPE HUP hlt hj
          obtain ⟨wx, rfl⟩ : ∃ wx : World, wx = w6 := ⟨_, rfl⟩
          go_wp2
          go_loopw [14, 15] (fun cn i wr => ∃ j : Nat, j ≤ k ∧ i = .int .i64 j ∧ cn = .int .i64 (cntD D.s j) ∧ Hid (Below wx.heap.size wx wr)) (fun _ i _ => k - (RowKit.intOf i).toNat)
          case atStart => exact ⟨0, Nat.zero_le _, rfl, rfl, hidep (Below.refl _ _)⟩
          case round =>
            obtain ⟨j, hj, rfl, rfl, HBj⟩ := hrel
            by_cases hlt : j < k
            · have hjl : j < D.s.length := by rw [HL.out]; exact hlt
              have hr1 := HG1.out.below HBj.out
              have hr2 := HG2.out.below HBj.out
              obtain ⟨bq1, gq, cq, hbb, hrin⟩ := HR.out.below HBj.out
              obtain rfl := ptr_inj hbb
              have c0 := hrin.c0
              rw [HL.out] at c0
              obtain ⟨d0, d1, d2, d3⟩ := hrin.at hjl
              have e1 := hr1.cell (j := j) (strs_some (image_get hjl))
              have HR2 := hidep hr2
              have hg1l := hr1.lt
              have hbq := hrin.top.lt
              have hgq := hrin.row.lt
              have hA := hidep (@mount_clean D ps j hjl)
              have hBw := hidep (@mount_worn D ps j hjl)
              have hC := hidep (@mount_torn D ps j HOKD.out hjl)
              have hcn := cntD_next hjl
              have hcl := cntD_lej D.s j
              have hsok := HOKD.out.1.at hjl
              clear hr1 hr2 hbb hrin hjl
              have HX : Hid (∃ x, atS D.s j = x) := hidep ⟨_, rfl⟩
              obtain ⟨x, hx⟩ := HX.out
              clear HX
              rw [hx] at d0 d1 d2 d3 e1 hA hBw hC hcn hsok
              clear hx
              obtain ⟨x1, x2, x3, x4⟩ := x
              obtain ⟨hs1, hs2⟩ := hsok
              simp only at d0 d1 d2 d3 e1 hA hBw hC hcn hs1 hs2
              have HX2 := (Below.refl wr.heap.size wr).alloc (Nat.le_refl _) (.cells #[.string x1, .string x2, .bool x3, .bool x4] 54)
              have HBX := hidep (HBj.out.trans (HX2.mono HBj.out.size))
              have HXB := hidep HX2
              have e1 := (HX2.cell (p := ⟨g1, j, none⟩) hg1l).trans e1
              clear HX2
              have a1 : x1.size ≤ 64 := Nat.le_of_eq hs1
              have a2' : 64 ≤ x1.size := Nat.le_of_eq hs1.symm
              cases x3 with
              | false =>
                have e2 := (HXB.out.cell (p := ⟨g2, j, none⟩) HR2.out.lt).trans (HR2.out.cell (j := j) (strs_some (hA.out rfl)))
                have HCN : Hid (cntD D.s (j + 1) = cntD D.s j) := hidep (by rw [hcn]; simp)
                clear hA hBw hC hcn hs1 hs2
                generalize hcj : cntD D.s j = cj at *
                clear hcj
                go_wp2
                go_roundw
                case rel => exact ⟨j + 1, by omega, by go_num, by rw [HCN.out], HBX⟩
                case measure => simp [RowKit.intOf]; omega
              | true =>
                have a3 : x2.size ≤ 64 := Nat.le_of_eq (hs2 rfl)
                have a4 : 64 ≤ x2.size := Nat.le_of_eq (hs2 rfl).symm
                have HCN : Hid (cntD D.s (j + 1) = cntD D.s j + 1) := hidep (by rw [hcn]; simp)
                clear hA hcn hs1 hs2
                generalize hcj : cntD D.s j = cj at *
                clear hcj
                cases x4 with
                | true =>
                  have e2 := (HXB.out.cell (p := ⟨g2, j, none⟩) HR2.out.lt).trans (HR2.out.cell (j := j) (strs_some (hBw.out rfl rfl)))
                  clear hBw hC
                  by_cases hin : cj < ps.length
                  · obtain ⟨bps, ops', rfl, hbps, hcps⟩ := Rd.at HPS.out.1 (by omega)
                    have hpin : ps[cj]? = some ps[cj] := List.getElem?_eq_getElem hin
                    have hpc := ((HB.out.trans (HBX.out.mono HB.out.size)).cell (p := ⟨bps, ops' + cj, none⟩) hbps).trans (hcps cj (.int .i64 ps[cj]) (by simp [intsC, hin]))
                    have hpg : ps.getD cj 64 = ps[cj] := by rw [List.getD, hpin]; rfl
                    have hprg := HPS.out.2 _ (List.getElem_mem hin)
                    clear hcps hpin
                    clear hpg
                    generalize ps[cj] = p at *
                    go_wp2
                    go_roundw
                    case rel => exact ⟨j + 1, by omega, by go_num, by rw [HCN.out]; go_num, HBX⟩
                    case measure => simp [RowKit.intOf]; omega
                  · go_wp2
                    go_roundw
                    case rel => exact ⟨j + 1, by omega, by go_num, by rw [HCN.out]; go_num, HBX⟩
                    case measure => simp [RowKit.intOf]; omega
                | false =>
                  clear hBw
                  by_cases hin : cj < ps.length
                  · obtain ⟨bps, ops', rfl, hbps, hcps⟩ := Rd.at HPS.out.1 (by omega)
                    have hpin : ps[cj]? = some ps[cj] := List.getElem?_eq_getElem hin
                    have hpc := ((HB.out.trans (HBX.out.mono HB.out.size)).cell (p := ⟨bps, ops' + cj, none⟩) hbps).trans (hcps cj (.int .i64 ps[cj]) (by simp [intsC, hin]))
                    have hpg : ps.getD cj 64 = ps[cj] := by rw [List.getD, hpin]; rfl
                    have hprg := HPS.out.2 _ (List.getElem_mem hin)
                    clear hcps hpin
                    rw [hpg] at hC
                    clear hpg
                    generalize ps[cj] = p at *
                    have hcc : clampP p = (max 0 (min p 64)).toNat := rfl
                    have hcc2 := clampP_le p
                    obtain ⟨mm, hmm⟩ : ∃ mm : Nat, clampP p = mm := ⟨_, rfl⟩
                    have HMM : max 0 (min p 64) = (mm : Int) := by omega
                    have hm64 : mm ≤ 64 := by omega
                    clear hcc hcc2
                    have e2 := (HXB.out.cell (p := ⟨g2, j, none⟩) HR2.out.lt).trans (HR2.out.cell (j := j) (strs_some (hC.out rfl rfl (show clampP _ = mm by exact hmm))))
                    have hsl1 := slice_to (P := Try.prog) Try.underlying9 x2 (mm : Int) mm (by omega) (by omega)
                    have hsl2 := slice_from (P := Try.prog) Try.underlying9 x1 (mm : Int) mm (by omega) (by omega)
                    clear hC hmm
                    go_upto_region 28 with (fail)
                    clear HMM
                    go_quiet (fail)
                    go_wp2
                    go_roundw
                    case rel => exact ⟨j + 1, by omega, by go_num, by rw [HCN.out]; go_num, hidep (below_drewN HBX.out _)⟩
                    case measure => simp [RowKit.intOf]; omega
                  · have hpg : ps.getD cj 64 = 64 := by rw [List.getD, List.getElem?_eq_none (by omega)]; rfl
                    rw [hpg] at hC
                    clear hpg
                    have e2 := (HXB.out.cell (p := ⟨g2, j, none⟩) HR2.out.lt).trans (HR2.out.cell (j := j) (strs_some (hC.out rfl rfl (show clampP _ = 64 by unfold clampP; omega))))
                    have hsl1 := slice_to (P := Try.prog) Try.underlying9 x2 64 64 (by omega) (by omega)
                    have hsl2 := slice_from (P := Try.prog) Try.underlying9 x1 64 64 (by omega) (by omega)
                    clear hC
                    go_upto_region 28 with (fail)
                    go_quiet (fail)
                    go_wp2
                    go_roundw
                    case rel => exact ⟨j + 1, by omega, by go_num, by rw [HCN.out]; go_num, hidep (below_drewN HBX.out _)⟩
                    case measure => simp [RowKit.intOf]; omega
            · go_wp2
              go_ret
              exact ⟨ret_val (by simp), HB.out.trans (HBj.out.mono HB.out.size)⟩
end Go.Proofs.Ytmgogmjkoealoaa
