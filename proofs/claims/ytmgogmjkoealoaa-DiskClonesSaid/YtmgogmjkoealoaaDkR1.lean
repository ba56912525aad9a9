/- The law 'the disk does what the reference does': its walk. -/
import Derived.Test.YtmgogmjkoealoaaDkQ
import Derived.Test.YtmgogmjkoealoaaDkL
import Derived.Test.YtmgogmjkoealoaaDkO
namespace Go.Proofs.Ytmgogmjkoealoaa
open Go.RowKit Go.Lab Go.Disk
set_option maxHeartbeats 2000000 in
set_option maxRecDepth 100000 in
theorem matches_any (v : Value) (n : Int) (ops : List Disk.Op) (w : World) (_hn : -9223372036854775808 ≤ n ∧ n ≤ 9223372036854775807) (h : OpsAt w v ops) : Calls Try.prog 3 #[.int .i64 n, v] w fun e w' => e = .returned (.bool true) ∧ Below w.heap.size w w' := by
  obtain ⟨a, c, rfl, hc1, hc2⟩ := h.form
  unfold maxLen at hc2
  have HSAN := hidep (fun X => sanity_any X)
  have HBAD := hidep (fun X => start_bad n X)
  have HOPS := hidep h
  clear h _hn
  by_cases hn : n < 1 ∨ 64 < n
  · rcases hn with hn | hn
    · replace HBAD := hidep (fun X => HBAD.out X (.inl hn))
      go_enter Try.func3, Try.ntmps3
      go_wp2_with (first
        | (go_at_call 9; refine (HSAN.out _).mono ?_; rintro e w1 ⟨rfl, hb1⟩)
        | (go_at_call 10; refine (HBAD.out _).mono ?_; rintro e w2 ⟨rfl, rfl⟩)
        | fail)
      go_ret
      exact ⟨ret_val (by simp), hb1⟩
    · have hn1 : ¬ n < 1 := by omega
      replace HBAD := hidep (fun X => HBAD.out X (.inr hn))
      go_enter Try.func3, Try.ntmps3
      go_wp2_with (first
        | (go_at_call 9; refine (HSAN.out _).mono ?_; rintro e w1 ⟨rfl, hb1⟩)
        | (go_at_call 10; refine (HBAD.out _).mono ?_; rintro e w2 ⟨rfl, rfl⟩)
        | fail)
      go_ret
      exact ⟨ret_val (by simp), hb1⟩
  · obtain ⟨k, rfl⟩ : ∃ k : Nat, n = (k : Int) := ⟨n.toNat, by omega⟩
    have hk : 1 ≤ k ∧ k ≤ 64 := by omega
    have HST := hidep (fun X => start_any k X hk.1 hk.2)
    clear hn HBAD
    by_cases hl : 60 < ops.length
    · go_enter Try.func3, Try.ntmps3
      go_wp2_with (first
        | (go_at_call 9; refine (HSAN.out _).mono ?_; rintro e w1 ⟨rfl, hb1⟩)
        | (go_at_call 10; refine (HST.out _).mono ?_; rintro e w2 ⟨p, q, m, rfl, hD, hR, hb2⟩)
        | fail)
      go_ret
      exact ⟨ret_val (by simp), hb1.trans (hb2.mono hb1.size)⟩
    · go_enter Try.func3, Try.ntmps3
      go_wp2_with (first
        | (go_at_call 9; refine (HSAN.out _).mono ?_; rintro e w1 ⟨rfl, hb1⟩)
        | (go_at_call 10; refine (HST.out _).mono ?_; rintro e w2 ⟨p, q, m, rfl, hD, hR, hb2⟩)
        | fail)
      have HD := hidep hD
      have HR := hidep hR
      have HB := hidep (hb1.trans (hb2.mono hb1.size))
      have HZ := hidep hb1.size
      have hm := hD.rng
      have HM := hidep hm.1
      obtain ⟨bp, rfl⟩ := hD.ptr
      obtain ⟨bq, rfl⟩ := hR.ptr
      clear hb1 hb2 hD hR hm HSAN HST
      go_loopw [9] (fun i wr => ∃ (j : Nat) (D : Dk), j ≤ ops.length ∧ i = .int .i64 j ∧ Hid (DiskAt wr w1.heap.size m (.pointer (some ⟨bp, 0, none⟩)) D) ∧ Hid (RDiskAt wr m w2.heap.size (.pointer (some ⟨bq, 0, none⟩)) D) ∧ Hid (Below w.heap.size w wr)) (fun i _ => ops.length - (RowKit.intOf i).toNat)
      case atStart => exact ⟨0, _, Nat.zero_le _, rfl, HD, HR, HB⟩
      case round =>
        obtain ⟨j, D, hj, rfl, HDj, HRj, HBj⟩ := hrel
        by_cases hlt : j < ops.length
        · obtain ⟨b, off, u, rfl, hcell, hints, hok⟩ := HOPS.out.op hlt
          have HC := hidep hcell
          have HI := hidep hints
          have HO := hidep hok
          clear hcell hints hok
          generalize ops[j] = o at *
          obtain ⟨c0, c1, c2, c3, c4⟩ := HC.out _ HBj.out
          have HDO := hidep (do_any _ u o D wr w1.heap.size m HDj.out HO.out (fun X hX => HI.out _ (HBj.out.trans (hX.below HZ.out HBj.out.size))))
          have HRDO := hidep (fun (X : World) (hX : Below w.heap.size w X) (hR : RDiskAt X m w2.heap.size (.pointer (some ⟨bq, 0, none⟩)) D) => rdo_any _ u o D X m w2.heap.size hR HO.out (fun Y hY => HI.out _ (hX.trans (hY.below (Nat.le_trans HZ.out (Nat.le_of_lt HM.out)) hX.size))))
          generalize doE D o = ed at *
          obtain ⟨et, ee⟩ := ed
          generalize hdd : doD D o = DD at *
          clear hdd
          go_wp2_with (first
            | (go_at_call 11; refine HDO.out.mono ?_; rintro e w3 ⟨rfl, hD3, hT3⟩; have hB3 : Below w.heap.size w w3 := HBj.out.trans (hT3.below HZ.out HBj.out.size); have hR3 := HRj.out.keep hT3 (.inr (Nat.le_refl _)); have hq := HC.out _ hB3; have q0 := hq.1; have q1 := hq.2.1; have q2 := hq.2.2.1; have q3 := hq.2.2.2.1; have q4 := hq.2.2.2.2)
            | (go_at_call 12; refine (HRDO.out _ hB3 hR3).mono ?_; rintro e w4 ⟨rfl, hR4, hT4⟩; have hB4 : Below w.heap.size w w4 := hB3.trans (hT4.below (Nat.le_trans HZ.out (Nat.le_of_lt HM.out)) hB3.size); have hD4 := hD3.keep hT4 (.inl (Nat.le_refl _)))
            | (go_at_call 13; refine (same_any _ _ _ _ _ _ _ _ hD4 hR4).mono ?_; rintro e w5 ⟨rfl, hB5⟩)
            | fail)
          go_roundw
          case rel => exact ⟨j + 1, DD, by omega, by go_num, hidep (hD4.below hB5), hidep (hR4.below hB5), hidep (hB4.trans (hB5.mono hB4.size))⟩
          case measure => simp [RowKit.intOf]; omega
        · go_wp2
          go_ret
          exact ⟨ret_val (by simp), HBj.out⟩
end Go.Proofs.Ytmgogmjkoealoaa
