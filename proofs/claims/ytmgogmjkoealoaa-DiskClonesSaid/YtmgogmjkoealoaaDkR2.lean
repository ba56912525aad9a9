/- The law 'a clone is a disk of its own': its walk. Written by genr2.py. -/
import Derived.Test.YtmgogmjkoealoaaDkR1
namespace Go.Proofs.Ytmgogmjkoealoaa
open Go.RowKit Go.Lab Go.Disk
/-- Four disks: two of the program, two of the reference, apart. -/
structure Four (W X : World) (lo m h a b c : Nat) (p q p' q' : Value) (D1 D2 D3 D4 : Dk) : Prop where
  dp : DiskAt X lo m p D1
  rq : RDiskAt X m h q D2
  dc : DiskAt X a b p' D3
  rc : RDiskAt X b c q' D4
  z : W.heap.size ≤ lo
  o : h ≤ a
  hb : Below W.heap.size W X
section
variable {W X Y : World} {lo m h a b c : Nat} {p q p' q' : Value} {D1 D2 D3 D4 E : Dk}
theorem Four.s1 (f : Four W X lo m h a b c p q p' q' D1 D2 D3 D4) (hT : Turn lo m X Y) (hD : DiskAt Y lo m p E) : Four W Y lo m h a b c p q p' q' E D2 D3 D4 := by
  have g1 := f.dp.rng; have g2 := f.rq.rng; have g3 := f.dc.rng; have g4 := f.rc.rng; have g5 := f.z; have g6 := f.o; have g7 := f.hb.size
  exact ⟨hD, f.rq.keep hT (by omega), f.dc.keep hT (by omega), f.rc.keep hT (by omega), f.z, f.o, f.hb.trans (hT.below (by omega) (by omega))⟩
theorem Four.s2 (f : Four W X lo m h a b c p q p' q' D1 D2 D3 D4) (hT : Turn m h X Y) (hD : RDiskAt Y m h q E) : Four W Y lo m h a b c p q p' q' D1 E D3 D4 := by
  have g1 := f.dp.rng; have g2 := f.rq.rng; have g3 := f.dc.rng; have g4 := f.rc.rng; have g5 := f.z; have g6 := f.o; have g7 := f.hb.size
  exact ⟨f.dp.keep hT (by omega), hD, f.dc.keep hT (by omega), f.rc.keep hT (by omega), f.z, f.o, f.hb.trans (hT.below (by omega) (by omega))⟩
theorem Four.s3 (f : Four W X lo m h a b c p q p' q' D1 D2 D3 D4) (hT : Turn a b X Y) (hD : DiskAt Y a b p' E) : Four W Y lo m h a b c p q p' q' D1 D2 E D4 := by
  have g1 := f.dp.rng; have g2 := f.rq.rng; have g3 := f.dc.rng; have g4 := f.rc.rng; have g5 := f.z; have g6 := f.o; have g7 := f.hb.size
  exact ⟨f.dp.keep hT (by omega), f.rq.keep hT (by omega), hD, f.rc.keep hT (by omega), f.z, f.o, f.hb.trans (hT.below (by omega) (by omega))⟩
theorem Four.s4 (f : Four W X lo m h a b c p q p' q' D1 D2 D3 D4) (hT : Turn b c X Y) (hD : RDiskAt Y b c q' E) : Four W Y lo m h a b c p q p' q' D1 D2 D3 E := by
  have g1 := f.dp.rng; have g2 := f.rq.rng; have g3 := f.dc.rng; have g4 := f.rc.rng; have g5 := f.z; have g6 := f.o; have g7 := f.hb.size
  exact ⟨f.dp.keep hT (by omega), f.rq.keep hT (by omega), f.dc.keep hT (by omega), hD, f.z, f.o, f.hb.trans (hT.below (by omega) (by omega))⟩
theorem Four.below (f : Four W X lo m h a b c p q p' q' D1 D2 D3 D4) (hb : Below X.heap.size X Y) : Four W Y lo m h a b c p q p' q' D1 D2 D3 D4 :=
  ⟨f.dp.below hb, f.rq.below hb, f.dc.below hb, f.rc.below hb, f.z, f.o, f.hb.trans (hb.mono f.hb.size)⟩
theorem Four.do1 {bp : Nat} (f : Four W X lo m h a b c (.pointer (some ⟨bp, 0, none⟩)) q p' q' D1 D2 D3 D4) {u : Value} {o : Disk.Op} (ho : OpOk o) (hi : ∀ X, Below W.heap.size W X → IntsAt X u o.picks) :
    Calls Try.prog 11 #[.pointer (some ⟨bp, 0, none⟩), .agg #[.int .i64 o.kind, .int .i64 o.i, .int .i64 o.bit, .string o.text, u]] X fun e Y => (∃ s n, e = .returned (.tuple #[.string s, .int .i64 n])) ∧ Four W Y lo m h a b c (.pointer (some ⟨bp, 0, none⟩)) q p' q' (doD D1 o) D2 D3 D4 :=
  (do_any _ u o D1 X lo m f.dp ho (fun _ hY => hi _ (f.hb.trans (hY.below f.z f.hb.size)))).mono fun _ _ ⟨h1, h2, h3⟩ => ⟨⟨_, _, h1⟩, f.s1 h3 h2⟩
theorem Four.do2 {bp : Nat} (f : Four W X lo m h a b c p (.pointer (some ⟨bp, 0, none⟩)) p' q' D1 D2 D3 D4) {u : Value} {o : Disk.Op} (ho : OpOk o) (hi : ∀ X, Below W.heap.size W X → IntsAt X u o.picks) :
    Calls Try.prog 12 #[.pointer (some ⟨bp, 0, none⟩), .agg #[.int .i64 o.kind, .int .i64 o.i, .int .i64 o.bit, .string o.text, u]] X fun e Y => (∃ s n, e = .returned (.tuple #[.string s, .int .i64 n])) ∧ Four W Y lo m h a b c p (.pointer (some ⟨bp, 0, none⟩)) p' q' D1 (doD D2 o) D3 D4 :=
  (rdo_any _ u o D2 X m h f.rq ho (fun _ hY => hi _ (f.hb.trans (hY.below (by have := f.z; have := f.dp.rng; omega) f.hb.size)))).mono fun _ _ ⟨h1, h2, h3⟩ => ⟨⟨_, _, h1⟩, f.s2 h3 h2⟩
theorem Four.do3 {bp : Nat} (f : Four W X lo m h a b c p q (.pointer (some ⟨bp, 0, none⟩)) q' D1 D2 D3 D4) {u : Value} {o : Disk.Op} (ho : OpOk o) (hi : ∀ X, Below W.heap.size W X → IntsAt X u o.picks) :
    Calls Try.prog 11 #[.pointer (some ⟨bp, 0, none⟩), .agg #[.int .i64 o.kind, .int .i64 o.i, .int .i64 o.bit, .string o.text, u]] X fun e Y => (∃ s n, e = .returned (.tuple #[.string s, .int .i64 n])) ∧ Four W Y lo m h a b c p q (.pointer (some ⟨bp, 0, none⟩)) q' D1 D2 (doD D3 o) D4 :=
  (do_any _ u o D3 X a b f.dc ho (fun _ hY => hi _ (f.hb.trans (hY.below (by have := f.z; have := f.o; have := f.dp.rng; have := f.rq.rng; omega) f.hb.size)))).mono fun _ _ ⟨h1, h2, h3⟩ => ⟨⟨_, _, h1⟩, f.s3 h3 h2⟩
theorem Four.do4 {bp : Nat} (f : Four W X lo m h a b c p q p' (.pointer (some ⟨bp, 0, none⟩)) D1 D2 D3 D4) {u : Value} {o : Disk.Op} (ho : OpOk o) (hi : ∀ X, Below W.heap.size W X → IntsAt X u o.picks) :
    Calls Try.prog 12 #[.pointer (some ⟨bp, 0, none⟩), .agg #[.int .i64 o.kind, .int .i64 o.i, .int .i64 o.bit, .string o.text, u]] X fun e Y => (∃ s n, e = .returned (.tuple #[.string s, .int .i64 n])) ∧ Four W Y lo m h a b c p q p' (.pointer (some ⟨bp, 0, none⟩)) D1 D2 D3 (doD D4 o) :=
  (rdo_any _ u o D4 X b c f.rc ho (fun _ hY => hi _ (f.hb.trans (hY.below (by have := f.z; have := f.o; have := f.dp.rng; have := f.rq.rng; have := f.dc.rng; omega) f.hb.size)))).mono fun _ _ ⟨h1, h2, h3⟩ => ⟨⟨_, _, h1⟩, f.s4 h3 h2⟩
end
set_option maxHeartbeats 4000000 in
set_option maxRecDepth 100000 in
theorem clones_any (v1 v2 v3 : Value) (n : Int) (l1 l2 l3 : List Disk.Op) (w : World) (_hn : -9223372036854775808 ≤ n ∧ n ≤ 9223372036854775807) (h1 : OpsAt w v1 l1) (h2 : OpsAt w v2 l2) (h3 : OpsAt w v3 l3) :
    Calls Try.prog 8 #[.int .i64 n, v1, v2, v3] w fun e w' => e = .returned (.bool true) ∧ Below w.heap.size w w' := by
  obtain ⟨a1, c1, rfl, hc1, hd1⟩ := h1.form
  obtain ⟨a2, c2, rfl, hc2, hd2⟩ := h2.form
  obtain ⟨a3, c3, rfl, hc3, hd3⟩ := h3.form
  unfold maxLen at hd1 hd2 hd3
  have HSAN := hidep (fun X => sanity_any X)
  have HBAD := hidep (fun X => start_bad n X)
  have HO1 := hidep h1
  have HO2 := hidep h2
  have HO3 := hidep h3
  clear h1 h2 h3 _hn
  rcases (by omega : n < 1 ∨ (¬ n < 1 ∧ 64 < n) ∨ (1 ≤ n ∧ n ≤ 64)) with hn | ⟨hn1, hn⟩ | hn
  · replace HBAD := hidep (fun X => HBAD.out X (.inl hn))
    go_enter Try.func8, Try.ntmps8
    go_wp2_with (first
      | (go_at_call 9; refine (HSAN.out _).mono ?_; rintro e w1 ⟨rfl, hb1⟩)
      | (go_at_call 10; refine (HBAD.out _).mono ?_; rintro e w2 ⟨rfl, rfl⟩)
      | fail)
    go_ret
    exact ⟨ret_val (by simp), hb1⟩
  · replace HBAD := hidep (fun X => HBAD.out X (.inr hn))
    go_enter Try.func8, Try.ntmps8
    go_wp2_with (first
      | (go_at_call 9; refine (HSAN.out _).mono ?_; rintro e w1 ⟨rfl, hb1⟩)
      | (go_at_call 10; refine (HBAD.out _).mono ?_; rintro e w2 ⟨rfl, rfl⟩)
      | fail)
    go_ret
    exact ⟨ret_val (by simp), hb1⟩
  · obtain ⟨k, rfl⟩ : ∃ k : Nat, n = (k : Int) := ⟨n.toNat, by omega⟩
    have hk : 1 ≤ k ∧ k ≤ 64 := by omega
    have HST := hidep (fun X => start_any k X hk.1 hk.2)
    clear hn HBAD
    rcases (by omega : 60 < l1.length ∨ (¬ 60 < l1.length ∧ 60 < l2.length) ∨ (¬ 60 < l1.length ∧ ¬ 60 < l2.length ∧ 60 < l3.length) ∨ (¬ 60 < l1.length ∧ ¬ 60 < l2.length ∧ ¬ 60 < l3.length)) with hl | ⟨hl1, hl⟩ | ⟨hl1, hl2, hl⟩ | ⟨hl1, hl2, hl3⟩
    · go_enter Try.func8, Try.ntmps8
      go_wp2_with (first
        | (go_at_call 9; refine (HSAN.out _).mono ?_; rintro e w1 ⟨rfl, hb1⟩)
        | (go_at_call 10; refine (HST.out _).mono ?_; rintro e w2 ⟨p, q, m, rfl, hD, hR, hb2⟩)
        | fail)
      go_ret
      exact ⟨ret_val (by simp), hb1.trans (hb2.mono hb1.size)⟩
    · go_enter Try.func8, Try.ntmps8
      go_wp2_with (first
        | (go_at_call 9; refine (HSAN.out _).mono ?_; rintro e w1 ⟨rfl, hb1⟩)
        | (go_at_call 10; refine (HST.out _).mono ?_; rintro e w2 ⟨p, q, m, rfl, hD, hR, hb2⟩)
        | fail)
      go_ret
      exact ⟨ret_val (by simp), hb1.trans (hb2.mono hb1.size)⟩
    · go_enter Try.func8, Try.ntmps8
      go_wp2_with (first
        | (go_at_call 9; refine (HSAN.out _).mono ?_; rintro e w1 ⟨rfl, hb1⟩)
        | (go_at_call 10; refine (HST.out _).mono ?_; rintro e w2 ⟨p, q, m, rfl, hD, hR, hb2⟩)
        | fail)
      go_ret
      exact ⟨ret_val (by simp), hb1.trans (hb2.mono hb1.size)⟩
    · go_enter Try.func8, Try.ntmps8
      go_wp2_with (first
        | (go_at_call 9; refine (HSAN.out _).mono ?_; rintro e w1 ⟨rfl, hb1⟩)
        | (go_at_call 10; refine (HST.out _).mono ?_; rintro e w2 ⟨p, q, m, rfl, hD, hR, hb2⟩)
        | fail)
      have HD := hidep hD
      have HR := hidep hR
      have HB := hidep (hb1.trans (hb2.mono hb1.size))
      have HZ := hidep hb1.size
      have hm := hD.rng
      have HM := hidep hm.1
      obtain ⟨bp, rfl⟩ := hD.ptr
      obtain ⟨bq, rfl⟩ := hR.ptr
      clear hb1 hb2 hD hR hm HSAN HST
      go_loopw [13] (fun i wr => ∃ (j : Nat) (D : Dk), j ≤ l1.length ∧ i = .int .i64 j ∧ Hid (DiskAt wr w1.heap.size m (.pointer (some ⟨bp, 0, none⟩)) D) ∧ Hid (RDiskAt wr m w2.heap.size (.pointer (some ⟨bq, 0, none⟩)) D) ∧ Hid (Below w.heap.size w wr)) (fun i _ => l1.length - (RowKit.intOf i).toNat)
      case atStart => exact ⟨0, _, Nat.zero_le _, rfl, HD, HR, HB⟩
      case round =>
        obtain ⟨j, D, hj, rfl, HDj, HRj, HBj⟩ := hrel
        by_cases hlt : j < l1.length
        · obtain ⟨b, off, u, rfl, hcell, hints, hok⟩ := HO1.out.op hlt
          have HC := hidep hcell
          have HI := hidep hints
          have HO := hidep hok
          clear hcell hints hok
          generalize l1[j] = o at *
          obtain ⟨c0, c1, c2, c3, c4⟩ := HC.out _ HBj.out
          have HDO := hidep (do_any _ u o D wr w1.heap.size m HDj.out HO.out (fun X hX => HI.out _ (HBj.out.trans (hX.below HZ.out HBj.out.size))))
          have HRDO := hidep (fun (X : World) (hX : Below w.heap.size w X) (hR : RDiskAt X m w2.heap.size (.pointer (some ⟨bq, 0, none⟩)) D) => rdo_any _ u o D X m w2.heap.size hR HO.out (fun Y hY => HI.out _ (hX.trans (hY.below (Nat.le_trans HZ.out (Nat.le_of_lt HM.out)) hX.size))))
          generalize doE D o = ed at *
          obtain ⟨et, ee⟩ := ed
          generalize hdd : doD D o = DD at *
          clear hdd
          go_wp2_with (first
            | (go_at_call 11; refine HDO.out.mono ?_; rintro e w3 ⟨rfl, hD3, hT3⟩; have hB3 : Below w.heap.size w w3 := HBj.out.trans (hT3.below HZ.out HBj.out.size); have hR3 := HRj.out.keep hT3 (.inr (Nat.le_refl _)); have hq := HC.out _ hB3; have q0 := hq.1; have q1 := hq.2.1; have q2 := hq.2.2.1; have q3 := hq.2.2.2.1; have q4 := hq.2.2.2.2)
            | (go_at_call 12; refine (HRDO.out _ hB3 hR3).mono ?_; rintro e w4 ⟨rfl, hR4, hT4⟩; have hB4 : Below w.heap.size w w4 := hB3.trans (hT4.below (Nat.le_trans HZ.out (Nat.le_of_lt HM.out)) hB3.size); have hD4 := hD3.keep hT4 (.inl (Nat.le_refl _)))
            | fail)
          go_roundw
          case rel => exact ⟨j + 1, DD, by omega, by go_num, hidep hD4, hidep hR4, hidep hB4⟩
          case measure => simp [RowKit.intOf]; omega
        · have HCL := hidep (clone_any _ D wr _ _ HDj.out)
          have HRCL := hidep (fun (X : World) (hX : Below wr.heap.size wr X) => rclone_any _ D X _ _ (HRj.out.below hX))
          go_upto_region 12 with (first
            | (go_at_call 28; refine HCL.out.mono ?_; rintro e w3 ⟨pc, rfl, hD3, hb3⟩; obtain ⟨bpc, rfl⟩ := hD3.ptr)
            | (go_at_call 29; refine (HRCL.out _ hb3).mono ?_; rintro e w4 ⟨qc, rfl, hR4, hb4⟩; obtain ⟨bqc, rfl⟩ := hR4.ptr)
            | fail)
          have HF : Hid (Four w w4 w1.heap.size m w2.heap.size wr.heap.size w3.heap.size w4.heap.size (.pointer (some ⟨bp, 0, none⟩)) (.pointer (some ⟨bq, 0, none⟩)) (.pointer (some ⟨bpc, 0, none⟩)) (.pointer (some ⟨bqc, 0, none⟩)) D D D D) :=
            hidep ⟨(HDj.out.below hb3).below hb4, (HRj.out.below hb3).below hb4, hD3.below hb4, hR4, HZ.out, HRj.out.rng.2, HBj.out.trans ((hb3.mono HBj.out.size).trans (hb4.mono (Nat.le_trans HBj.out.size hb3.size)))⟩
          clear hD3 hR4 hb3 hb4 HCL HRCL HDj HRj HBj HD HR HB HM HZ
          generalize wr.heap.size = ea at *
          generalize w1.heap.size = eb at *
          generalize w2.heap.size = ec at *
          generalize w3.heap.size = ef at *
          generalize w4.heap.size = eg at *
          go_wp2_with (first
            | (go_at_call 13; refine (same_any _ _ _ _ _ _ _ _ HF.out.dc HF.out.rc).mono ?_; rintro e w5 ⟨rfl, hB5⟩; have HF := hidep (HF.out.below hB5); clear hB5)
            | fail)
          go_loopw [16] (fun i wr => ∃ (j : Nat) (D' : Dk), j ≤ l2.length ∧ i = .int .i64 j ∧ Hid (Four w wr eb m ec ea ef eg (.pointer (some ⟨bp, 0, none⟩)) (.pointer (some ⟨bq, 0, none⟩)) (.pointer (some ⟨bpc, 0, none⟩)) (.pointer (some ⟨bqc, 0, none⟩)) D' D' D D)) (fun i _ => l2.length - (RowKit.intOf i).toNat)
          case atStart => exact ⟨0, _, Nat.zero_le _, rfl, HF⟩
          case round =>
            obtain ⟨j, D', hj, rfl, HFj⟩ := hrel
            by_cases hlt : j < l2.length
            · obtain ⟨b, off, u, rfl, hcell, hints, hok⟩ := HO2.out.op hlt
              have HC := hidep hcell
              have HI := hidep hints
              have HO := hidep hok
              clear hcell hints hok
              generalize l2[j] = o at *
              obtain ⟨c0, c1, c2, c3, c4⟩ := HC.out _ HFj.out.hb
              go_wp2_with (first
                | (go_at_call 11; refine (HFj.out.do1 HO.out HI.out).mono ?_; rintro e w3 ⟨⟨_, _, rfl⟩, f3⟩; have hq := HC.out _ f3.hb; have q0 := hq.1; have q1 := hq.2.1; have q2 := hq.2.2.1; have q3 := hq.2.2.2.1; have q4 := hq.2.2.2.2; have F3 := hidep f3; clear f3)
                | (go_at_call 12; refine (F3.out.do2 HO.out HI.out).mono ?_; rintro e w4 ⟨⟨_, _, rfl⟩, f4⟩; have F4 := hidep f4; clear f4)
                | fail)
              go_roundw
              case rel => exact ⟨j + 1, _, by omega, by go_num, F4⟩
              case measure => simp [RowKit.intOf]; omega
            · go_wp2
              generalize D' = X1 at *
              go_loopw [17] (fun i wr => ∃ (j : Nat) (D' : Dk), j ≤ l3.length ∧ i = .int .i64 j ∧ Hid (Four w wr eb m ec ea ef eg (.pointer (some ⟨bp, 0, none⟩)) (.pointer (some ⟨bq, 0, none⟩)) (.pointer (some ⟨bpc, 0, none⟩)) (.pointer (some ⟨bqc, 0, none⟩)) X1 X1 D' D')) (fun i _ => l3.length - (RowKit.intOf i).toNat)
              case atStart => exact ⟨0, _, Nat.zero_le _, rfl, HFj⟩
              case round =>
                obtain ⟨j, D', hj, rfl, HFj⟩ := hrel
                by_cases hlt : j < l3.length
                · obtain ⟨b, off, u, rfl, hcell, hints, hok⟩ := HO3.out.op hlt
                  have HC := hidep hcell
                  have HI := hidep hints
                  have HO := hidep hok
                  clear hcell hints hok
                  generalize l3[j] = o at *
                  obtain ⟨c0, c1, c2, c3, c4⟩ := HC.out _ HFj.out.hb
                  go_wp2_with (first
                    | (go_at_call 11; refine (HFj.out.do3 HO.out HI.out).mono ?_; rintro e w3 ⟨⟨_, _, rfl⟩, f3⟩; have hq := HC.out _ f3.hb; have q0 := hq.1; have q1 := hq.2.1; have q2 := hq.2.2.1; have q3 := hq.2.2.2.1; have q4 := hq.2.2.2.2; have F3 := hidep f3; clear f3)
                    | (go_at_call 12; refine (F3.out.do4 HO.out HI.out).mono ?_; rintro e w4 ⟨⟨_, _, rfl⟩, f4⟩; have F4 := hidep f4; clear f4)
                    | fail)
                  go_roundw
                  case rel => exact ⟨j + 1, _, by omega, by go_num, F4⟩
                  case measure => simp [RowKit.intOf]; omega
                · go_wp2_with (first
                    | (go_at_call 13; (with_reducible refine (same_any _ _ _ _ _ _ _ _ HFj.out.dp HFj.out.rq).mono ?_); rintro e w5 ⟨rfl, hB5⟩; have HF5 := hidep (HFj.out.below hB5))
                    | (go_at_call 13; (with_reducible refine (same_any _ _ _ _ _ _ _ _ HF5.out.dc HF5.out.rc).mono ?_); rintro e w6 ⟨rfl, hB6⟩; have HF6 := hidep (HF5.out.below hB6))
                    | fail)
                  go_ret
                  exact ⟨ret_val (by simp), HF6.out.hb⟩
end Go.Proofs.Ytmgogmjkoealoaa
