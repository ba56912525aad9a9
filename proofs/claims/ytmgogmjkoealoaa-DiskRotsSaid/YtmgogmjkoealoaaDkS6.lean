/- The law 'a rotten bit is one bit': its walk. Written by genr5.py. -/
import Derived.Test.YtmgogmjkoealoaaDkS4
import Derived.Test.YtmgogmjkoealoaaDkS5
namespace Go.Proofs.Ytmgogmjkoealoaa
open Go.RowKit Go.Lab Go.Disk
theorem i64_xor_nat (a b : Nat) (ha : a < 256) (hb : b < 256) : bits .xor .i64 (a : Int) (b : Int) = ((a ^^^ b : Nat) : Int) := by
  have hx : a ^^^ b < 2 ^ 8 := Nat.xor_lt_two_pow (by omega) (by omega)
  show IntKind.i64.wrap ((BitVec.ofInt 64 (a : Int) ^^^ BitVec.ofInt 64 (b : Int)).toNat : Int) = _
  rw [BitVec.toNat_xor, ofInt_u64 a (by omega), ofInt_u64 b (by omega)]
  exact IntWalk.i64_in _ (by omega)
theorem run_byte {P : Program} {t : TypeId} (h : P.underlying t = some .string) (s : ByteArray) (k : Nat) (hk : k < s.size) (w : World) :
    (Instr.index t (.string s) (.int .i64 (k : Int))).run P w = .ok (.int .u8 ((byteN s k : Nat) : Int)) w := by
  rw [run_index_string w t s .i64 k h, dif_pos ⟨by omega, by omega⟩]
  have : byteN s k = (s[k]'hk).toNat := by
    unfold byteN
    rw [List.getD_eq_getElem?_getD, List.getElem?_eq_getElem (by rw [Array.length_toList]; exact hk)]
    rfl
  rw [this]
  rfl
set_option maxHeartbeats 8000000 in
set_option maxRecDepth 100000 in
theorem rots_any (v : Value) (n : Int) (ops : List Disk.Op) (i bit : Int) (w : World) (_hn : -9223372036854775808 ≤ n ∧ n ≤ 9223372036854775807) (h : OpsAt w v ops) (_hi : -9223372036854775808 ≤ i ∧ i ≤ 9223372036854775807) (_hb : -9223372036854775808 ≤ bit ∧ bit ≤ 9223372036854775807) :
    Calls Try.prog 7 #[.int .i64 n, v, .int .i64 i, .int .i64 bit] w fun e w' => e = .returned (.bool true) ∧ Below w.heap.size w w' := by
  obtain ⟨a, c, rfl, hc1, hc2⟩ := h.form
  unfold maxLen at hc2
  have HSAN := hidep (fun X => sanity_any X)
  have HBAD := hidep (fun X => start_bad n X)
  have HOPS := hidep h
  clear h _hn _hi _hb
  rcases (by omega : n < 1 ∨ (¬ n < 1 ∧ 64 < n) ∨ (1 ≤ n ∧ n ≤ 64)) with hn | ⟨hn1, hn⟩ | hn
  · replace HBAD := hidep (fun X => HBAD.out X (.inl hn))
    go_enter Try.func7, Try.ntmps7
    go_wp2_with (first
      | (go_at_call 9; refine (HSAN.out _).mono ?_; rintro e w1 ⟨rfl, hb1⟩)
      | (go_at_call 10; refine (HBAD.out _).mono ?_; rintro e w2 ⟨rfl, rfl⟩)
      | fail)
    go_ret
    exact ⟨ret_val (by simp), hb1⟩
  · replace HBAD := hidep (fun X => HBAD.out X (.inr hn))
    go_enter Try.func7, Try.ntmps7
    go_wp2_with (first
      | (go_at_call 9; refine (HSAN.out _).mono ?_; rintro e w1 ⟨rfl, hb1⟩)
      | (go_at_call 10; refine (HBAD.out _).mono ?_; rintro e w2 ⟨rfl, rfl⟩)
      | fail)
    go_ret
    exact ⟨ret_val (by simp), hb1⟩
  · obtain ⟨k, rfl⟩ : ∃ k : Nat, n = (k : Int) := ⟨n.toNat, by omega⟩
    have hk : 1 ≤ k ∧ k ≤ 64 := by omega
    have HST := hidep (fun X => start_any k X hk.1 hk.2)
    clear hn HBAD
    by_cases hl : 60 < ops.length
    · go_enter Try.func7, Try.ntmps7
      go_wp2_with (first
        | (go_at_call 9; refine (HSAN.out _).mono ?_; rintro e w1 ⟨rfl, hb1⟩)
        | (go_at_call 10; refine (HST.out _).mono ?_; rintro e w2 ⟨p, q, m, rfl, hD, hR, hb2⟩; obtain ⟨bp, rfl⟩ := hD.ptr; obtain ⟨bq, rfl⟩ := hR.ptr)
        | fail)
      go_ret
      exact ⟨ret_val (by simp), hb1.trans (hb2.mono hb1.size)⟩
    · go_enter Try.func7, Try.ntmps7
      go_wp2_with (first
        | (go_at_call 9; refine (HSAN.out _).mono ?_; rintro e w1 ⟨rfl, hb1⟩)
        | (go_at_call 10; refine (HST.out _).mono ?_; rintro e w2 ⟨p, q, m, rfl, hD, hR, hb2⟩; obtain ⟨bp, rfl⟩ := hD.ptr; obtain ⟨bq, rfl⟩ := hR.ptr)
        | fail)
      have HD := hidep hD
      have HB := hidep (hb1.trans (hb2.mono hb1.size))
      have HZ := hidep hb1.size
      have HL0 : Hid ((newD k).s.length = k) := hidep (by simp [newD])
      clear hb1 hb2 hD hR HSAN HST
      go_loopw [13] (fun i wr => ∃ (j : Nat) (D : Dk), j ≤ ops.length ∧ i = .int .i64 j ∧ Hid (DiskAt wr w1.heap.size m (.pointer (some ⟨bp, 0, none⟩)) D) ∧ Hid (D.s.length = k) ∧ Hid (Below w.heap.size w wr)) (fun i _ => ops.length - (RowKit.intOf i).toNat)
      case atStart => exact ⟨0, _, Nat.zero_le _, rfl, HD, HL0, HB⟩
      case round =>
        clear HD HL0 HB
        obtain ⟨j, D, hj, rfl, HDj, HL, HBj⟩ := hrel
        by_cases hlt : j < ops.length
        · obtain ⟨b, off, u, rfl, hcell, hints, hok⟩ := HOPS.out.op hlt
          have HC := hidep hcell
          have HI := hidep hints
          have HO := hidep hok
          clear hcell hints hok
          generalize ops[j] = o at *
          obtain ⟨c0, c1, c2, c3, c4⟩ := HC.out _ HBj.out
          have HDO := hidep (do_any _ u o D wr w1.heap.size m HDj.out HO.out (fun X hX => HI.out _ (HBj.out.trans (hX.below HZ.out HBj.out.size))))
          have HL2 : Hid ((doD D o).s.length = k) := hidep (by rw [doD_len]; exact HL.out)
          generalize doE D o = ed at *
          obtain ⟨et, ee⟩ := ed
          generalize hdd : doD D o = DD at *
          clear hdd
          go_wp2_with (first
            | (go_at_call 11; refine HDO.out.mono ?_; rintro e w3 ⟨rfl, hD3, hT3⟩; have hB3 : Below w.heap.size w w3 := HBj.out.trans (hT3.below HZ.out HBj.out.size))
            | fail)
          go_roundw
          case rel => exact ⟨j + 1, DD, by omega, by go_num, hidep hD3, HL2, hidep hB3⟩
          case measure => simp [RowKit.intOf]; omega
        · have HI1 : Hid (∀ X, DiskAt X w1.heap.size m (.pointer (some ⟨bp, 0, none⟩)) D → Calls Try.prog 15 #[.pointer (some ⟨bp, 0, none⟩)] X fun e w' => ∃ g, e = .returned (.slice (some ⟨g, 0, none⟩) k k) ∧ X.heap.size ≤ g ∧ RowAt w' g 9 (strsC (imageZ D)) ∧ Below X.heap.size X w') := hidep (fun X hX => (image_any _ _ X _ _ hX).mono (fun e w' ⟨g, he, hg, hr, hb⟩ => ⟨g, by rw [he, HL.out], hg, hr, hb⟩))
          have HI2 : Hid (∀ X, DiskAt X w1.heap.size m (.pointer (some ⟨bp, 0, none⟩)) (rotD D i bit) → Calls Try.prog 15 #[.pointer (some ⟨bp, 0, none⟩)] X fun e w' => ∃ g, e = .returned (.slice (some ⟨g, 0, none⟩) k k) ∧ X.heap.size ≤ g ∧ RowAt w' g 9 (strsC (imageZ (rotD D i bit))) ∧ Below X.heap.size X w') := hidep (fun X hX => (image_any _ _ X _ _ hX).mono (fun e w' ⟨g, he, hg, hr, hb⟩ => ⟨g, by rw [he, rotD_len, HL.out], hg, hr, hb⟩))
          have HI3 : Hid (∀ X, DiskAt X w1.heap.size m (.pointer (some ⟨bp, 0, none⟩)) (rotD (rotD D i bit) i bit) → Calls Try.prog 15 #[.pointer (some ⟨bp, 0, none⟩)] X fun e w' => ∃ g, e = .returned (.slice (some ⟨g, 0, none⟩) k k) ∧ RowAt w' g 9 (strsC (imageZ D)) ∧ Below X.heap.size X w') := hidep (fun X hX => (image_any _ _ X _ _ hX).mono (fun e w' ⟨g, he, _, hr, hb⟩ => ⟨g, by rw [he, rotD_len, rotD_len, HL.out], by rw [rot_twice HDj.out.ok] at hr; exact hr, hb⟩))
          have HLT : Hid ((imageZ D).length = k) := hidep (by rw [imageZ_len, HL.out])
          have HSA : Hid (∀ X g, RowAt X g 9 (strsC (imageZ D)) → StrsAt X (.slice (some ⟨g, 0, none⟩) k k) (imageZ D)) := hidep (fun X g hX => row_strs hX HLT.out (by omega))
          have HST : Hid (∀ X u v, StrsAt X u (imageZ D) → StrsAt X v (imageZ D) → Calls Try.prog 21 #[u, v] X fun e w' => e = .returned (.bool true) ∧ Below X.heap.size X w') := hidep (fun X u v hu hv => (sameTexts_any u v _ _ X hu hv).mono (fun e w' ⟨he, n, hn⟩ => ⟨by rw [he]; simp, by rw [hn]; exact below_drewN (Below.refl _ _) n⟩))
          have HRO1 : Hid (∀ X, DiskAt X w1.heap.size m (.pointer (some ⟨bp, 0, none⟩)) D → Calls Try.prog 19 #[.pointer (some ⟨bp, 0, none⟩), .int .i64 i, .int .i64 bit] X fun e w' => e = .returned (.int .i64 (if rotOk D i bit = true then 0 else 1)) ∧ DiskAt w' w1.heap.size m (.pointer (some ⟨bp, 0, none⟩)) (rotD D i bit) ∧ Turn w1.heap.size m X w') := hidep (fun X hX => rot_any _ _ i bit X _ _ hX)
          have HRO2 : Hid (∀ X, DiskAt X w1.heap.size m (.pointer (some ⟨bp, 0, none⟩)) (rotD D i bit) → Calls Try.prog 19 #[.pointer (some ⟨bp, 0, none⟩), .int .i64 i, .int .i64 bit] X fun e w' => e = .returned (.int .i64 (if rotOk D i bit = true then 0 else 1)) ∧ DiskAt w' w1.heap.size m (.pointer (some ⟨bp, 0, none⟩)) (rotD (rotD D i bit) i bit) ∧ Turn w1.heap.size m X w') := hidep (fun X hX => by
            have := rot_any _ _ i bit X _ _ hX
            rw [rotOk_rot] at this
            exact this)
          have hD := HDj.out
          have hB := HBj.out
          have hrr := hD.rng
          have HOKD := hidep hD.ok
          clear HDj HBj HOPS HLT
          cases hrot : rotOk D i bit with
          | false =>
            rw [hrot] at HRO1 HRO2
            simp only [Bool.false_eq_true, if_false] at HRO1 HRO2
            have hno := rotOk_no hrot
            rw [HL.out] at hno
            clear hrot HOKD
            generalize rotD (rotD D i bit) i bit = D2 at *
            generalize rotD D i bit = D1 at *
            rcases hno with hno | ⟨hn1, hno⟩ | ⟨hn1, hn2, hno⟩ | ⟨hn1, hn2, hn3, hno⟩
            · go_wp2_with (first
                | (go_at_call 15; (with_reducible refine (HI1.out _ hD).mono ?_); rintro e w3 ⟨g1, rfl, hg1, hi1, hb⟩; have hD := hD.below hb; have hB := hB.trans (hb.mono hB.size))
                | (go_at_call 19; (with_reducible refine (HRO1.out _ hD).mono ?_); rintro e w4 ⟨rfl, hD, hT⟩; have hi1 := hi1.of_turn hT (by omega); have hB := hB.trans (hT.below HZ.out hB.size))
                | (go_at_call 15; (with_reducible refine (HI2.out _ hD).mono ?_); rintro e w5 ⟨g2, rfl, hg2, hi2, hb⟩; have hgm := Nat.le_trans hD.rng.2 hg2; have hD := hD.below hb; have hi1 := hi1.below hb; have hB := hB.trans (hb.mono hB.size))
                | (go_at_call 19; (with_reducible refine (HRO2.out _ hD).mono ?_); rintro e w6 ⟨rfl, hD, hT⟩; have hi1 := hi1.of_turn hT (by omega); have hi2 := hi2.of_turn hT (by omega); have hB := hB.trans (hT.below HZ.out hB.size))
                | (go_at_call 15; (with_reducible refine (HI3.out _ hD).mono ?_); rintro e w7 ⟨g3, rfl, hi3, hb⟩; have hD := hD.below hb; have hi1 := hi1.below hb; have hi2 := hi2.below hb; have hB := hB.trans (hb.mono hB.size))
                | (go_at_call 21; refine (HST.out _ _ _ (HSA.out _ _ hi1) (HSA.out _ _ hi3)).mono ?_; rintro e w8 ⟨rfl, hb⟩; have hi1 := hi1.below hb; have hi2 := hi2.below hb; have hB := hB.trans (hb.mono hB.size))
                | fail)
              go_ret
              exact ⟨ret_val (by simp), hB⟩
            · go_wp2_with (first
                | (go_at_call 15; (with_reducible refine (HI1.out _ hD).mono ?_); rintro e w3 ⟨g1, rfl, hg1, hi1, hb⟩; have hD := hD.below hb; have hB := hB.trans (hb.mono hB.size))
                | (go_at_call 19; (with_reducible refine (HRO1.out _ hD).mono ?_); rintro e w4 ⟨rfl, hD, hT⟩; have hi1 := hi1.of_turn hT (by omega); have hB := hB.trans (hT.below HZ.out hB.size))
                | (go_at_call 15; (with_reducible refine (HI2.out _ hD).mono ?_); rintro e w5 ⟨g2, rfl, hg2, hi2, hb⟩; have hgm := Nat.le_trans hD.rng.2 hg2; have hD := hD.below hb; have hi1 := hi1.below hb; have hB := hB.trans (hb.mono hB.size))
                | (go_at_call 19; (with_reducible refine (HRO2.out _ hD).mono ?_); rintro e w6 ⟨rfl, hD, hT⟩; have hi1 := hi1.of_turn hT (by omega); have hi2 := hi2.of_turn hT (by omega); have hB := hB.trans (hT.below HZ.out hB.size))
                | (go_at_call 15; (with_reducible refine (HI3.out _ hD).mono ?_); rintro e w7 ⟨g3, rfl, hi3, hb⟩; have hD := hD.below hb; have hi1 := hi1.below hb; have hi2 := hi2.below hb; have hB := hB.trans (hb.mono hB.size))
                | (go_at_call 21; refine (HST.out _ _ _ (HSA.out _ _ hi1) (HSA.out _ _ hi3)).mono ?_; rintro e w8 ⟨rfl, hb⟩; have hi1 := hi1.below hb; have hi2 := hi2.below hb; have hB := hB.trans (hb.mono hB.size))
                | fail)
              go_ret
              exact ⟨ret_val (by simp), hB⟩
            · go_wp2_with (first
                | (go_at_call 15; (with_reducible refine (HI1.out _ hD).mono ?_); rintro e w3 ⟨g1, rfl, hg1, hi1, hb⟩; have hD := hD.below hb; have hB := hB.trans (hb.mono hB.size))
                | (go_at_call 19; (with_reducible refine (HRO1.out _ hD).mono ?_); rintro e w4 ⟨rfl, hD, hT⟩; have hi1 := hi1.of_turn hT (by omega); have hB := hB.trans (hT.below HZ.out hB.size))
                | (go_at_call 15; (with_reducible refine (HI2.out _ hD).mono ?_); rintro e w5 ⟨g2, rfl, hg2, hi2, hb⟩; have hgm := Nat.le_trans hD.rng.2 hg2; have hD := hD.below hb; have hi1 := hi1.below hb; have hB := hB.trans (hb.mono hB.size))
                | (go_at_call 19; (with_reducible refine (HRO2.out _ hD).mono ?_); rintro e w6 ⟨rfl, hD, hT⟩; have hi1 := hi1.of_turn hT (by omega); have hi2 := hi2.of_turn hT (by omega); have hB := hB.trans (hT.below HZ.out hB.size))
                | (go_at_call 15; (with_reducible refine (HI3.out _ hD).mono ?_); rintro e w7 ⟨g3, rfl, hi3, hb⟩; have hD := hD.below hb; have hi1 := hi1.below hb; have hi2 := hi2.below hb; have hB := hB.trans (hb.mono hB.size))
                | (go_at_call 21; refine (HST.out _ _ _ (HSA.out _ _ hi1) (HSA.out _ _ hi3)).mono ?_; rintro e w8 ⟨rfl, hb⟩; have hi1 := hi1.below hb; have hi2 := hi2.below hb; have hB := hB.trans (hb.mono hB.size))
                | fail)
              go_ret
              exact ⟨ret_val (by simp), hB⟩
            · go_wp2_with (first
                | (go_at_call 15; (with_reducible refine (HI1.out _ hD).mono ?_); rintro e w3 ⟨g1, rfl, hg1, hi1, hb⟩; have hD := hD.below hb; have hB := hB.trans (hb.mono hB.size))
                | (go_at_call 19; (with_reducible refine (HRO1.out _ hD).mono ?_); rintro e w4 ⟨rfl, hD, hT⟩; have hi1 := hi1.of_turn hT (by omega); have hB := hB.trans (hT.below HZ.out hB.size))
                | (go_at_call 15; (with_reducible refine (HI2.out _ hD).mono ?_); rintro e w5 ⟨g2, rfl, hg2, hi2, hb⟩; have hgm := Nat.le_trans hD.rng.2 hg2; have hD := hD.below hb; have hi1 := hi1.below hb; have hB := hB.trans (hb.mono hB.size))
                | (go_at_call 19; (with_reducible refine (HRO2.out _ hD).mono ?_); rintro e w6 ⟨rfl, hD, hT⟩; have hi1 := hi1.of_turn hT (by omega); have hi2 := hi2.of_turn hT (by omega); have hB := hB.trans (hT.below HZ.out hB.size))
                | (go_at_call 15; (with_reducible refine (HI3.out _ hD).mono ?_); rintro e w7 ⟨g3, rfl, hi3, hb⟩; have hD := hD.below hb; have hi1 := hi1.below hb; have hi2 := hi2.below hb; have hB := hB.trans (hb.mono hB.size))
                | (go_at_call 21; refine (HST.out _ _ _ (HSA.out _ _ hi1) (HSA.out _ _ hi3)).mono ?_; rintro e w8 ⟨rfl, hb⟩; have hi1 := hi1.below hb; have hi2 := hi2.below hb; have hB := hB.trans (hb.mono hB.size))
                | fail)
              go_ret
              exact ⟨ret_val (by simp), hB⟩
          | true =>
            rw [hrot] at HRO1 HRO2
            simp only [if_true] at HRO1 HRO2
            obtain ⟨hin, hb0, hb1⟩ := rotOk_true hrot
            obtain ⟨hi0, hil⟩ := isIn_lt hin
            obtain ⟨ii, rfl⟩ : ∃ ii : Nat, i = (ii : Int) := ⟨i.toNat, by omega⟩
            obtain ⟨bb, rfl⟩ : ∃ bb : Nat, bit = (bb : Int) := ⟨bit.toNat, by omega⟩
            rw [Int.toNat_natCast, HL.out] at hil
            have HG : Hid (∀ j, j < k → (imageZ D)[j]? = some (atS D.s j).text ∧ (imageZ (rotD D ii bb))[j]? = some (if j = ii then rotB (atS D.s ii).text bb else (atS D.s j).text) ∧ (atS D.s j).text.size = 64) := hidep (fun j hj => ⟨image_get (by rw [HL.out]; exact hj), rot_get hrot (by rw [HL.out]; exact hj), (HOKD.out.1.at (by rw [HL.out]; exact hj)).1⟩)
            clear hin hi0 hrot HOKD hb0
            generalize rotD (rotD D ii bb) ii bb = D2 at *
            generalize rotD D ii bb = D1 at *
            have hbb : bb ≤ 511 := by omega
            clear hb1
            go_upto_region 18 with (first
              | (go_at_call 15; (with_reducible refine (HI1.out _ hD).mono ?_); rintro e w3 ⟨g1, rfl, hg1, hi1, hb⟩; have hD := hD.below hb; have hB := hB.trans (hb.mono hB.size))
              | (go_at_call 19; (with_reducible refine (HRO1.out _ hD).mono ?_); rintro e w4 ⟨rfl, hD, hT⟩; have hi1 := hi1.of_turn hT (by omega); have hB := hB.trans (hT.below HZ.out hB.size))
              | (go_at_call 15; (with_reducible refine (HI2.out _ hD).mono ?_); rintro e w5 ⟨g2, rfl, hg2, hi2, hb⟩; have hgm := Nat.le_trans hD.rng.2 hg2; have hD := hD.below hb; have hi1 := hi1.below hb; have hB := hB.trans (hb.mono hB.size))
              | (go_at_call 19; (with_reducible refine (HRO2.out _ hD).mono ?_); rintro e w6 ⟨rfl, hD, hT⟩; have hi1 := hi1.of_turn hT (by omega); have hi2 := hi2.of_turn hT (by omega); have hB := hB.trans (hT.below HZ.out hB.size))
              | (go_at_call 15; (with_reducible refine (HI3.out _ hD).mono ?_); rintro e w7 ⟨g3, rfl, hi3, hb⟩; have hD := hD.below hb; have hi1 := hi1.below hb; have hi2 := hi2.below hb; have hB := hB.trans (hb.mono hB.size))
              | (go_at_call 21; refine (HST.out _ _ _ (HSA.out _ _ hi1) (HSA.out _ _ hi3)).mono ?_; rintro e w8 ⟨rfl, hb⟩; have hi1 := hi1.below hb; have hi2 := hi2.below hb; have hB := hB.trans (hb.mono hB.size))
              | fail)
            have HB := hidep hB
            have HR1 := hidep hi1
            have HR2 := hidep hi2
            clear hD hB hi1 hi2 hi3 hb hg1 hg2 hgm hrr hlt hj HI1 HI2 HI3 HRO1 HRO2 HST HSA hT
            obtain ⟨wx, rfl⟩ : ∃ wx : World, wx = w8 := ⟨_, rfl⟩
            have hki : decide (k ≤ ii) = false := by rw [decide_eq_false_iff_not]; omega
            simp only [hki, Bool.or_false]
            clear hki
            go_wp2
            go_loopw [19] (fun i wr => ∃ j : Nat, j ≤ k ∧ i = .int .i64 j ∧ Hid (Below wx.heap.size wx wr)) (fun i _ => k - (RowKit.intOf i).toNat)
            case atStart => exact ⟨0, Nat.zero_le _, rfl, hidep (Below.refl _ _)⟩
            case round =>
              obtain ⟨j, hj, rfl, HBj⟩ := hrel
              by_cases hlt : j < k
              · have hr1 := HR1.out.below HBj.out
                have hr2 := HR2.out.below HBj.out
                obtain ⟨t1, t2, t3⟩ := HG.out j hlt
                have e1 := hr1.cell (j := j) (strs_some t1)
                have e2 := hr2.cell (j := j) (strs_some t2)
                clear hr1 hr2 t1 t2
                by_cases hji : j = ii
                · rw [if_pos hji, ← hji] at e2
                  have hne : ((atS D.s j).text.toList == (rotB (atS D.s j).text bb).toList) = false := by
                    rw [beq_eq_false_iff_ne]
                    intro e
                    exact rotB_ne t3 hbb (bytes_eq_of e).symm
                  have hsz : ((rotB (atS D.s j).text bb).size : Int) = 64 := by rw [rotB_size, t3]; rfl
                  subst hji
                  clear t3
                  generalize (atS D.s j).text = s1 at *
                  generalize rotB s1 bb = s2 at *
                  go_upto_region 21 with (fail)
                  go_quiet (fail)
                  go_wp2
                  go_roundw
                  case rel => exact ⟨j + 1, by omega, by go_num, hidep (below_drewN HBj.out _)⟩
                  case measure => simp [RowKit.intOf]; omega
                · rw [if_neg hji] at e2
                  have hsz : ((atS D.s j).text.size : Int) = 64 := by rw [t3]; rfl
                  have hji2 : ¬ (j : Int) = (ii : Int) := by omega
                  have hji3 : ((j : Int) == (ii : Int)) = false := by simpa using hji2
                  clear t3
                  generalize (atS D.s j).text = s1 at *
                  go_upto_region 21 with (fail)
                  go_quiet (fail)
                  go_wp2
                  go_roundw
                  case rel => exact ⟨j + 1, by omega, by go_num, hidep (below_drewN HBj.out _)⟩
                  case measure => simp [RowKit.intOf]; omega
              · obtain ⟨wy, rfl⟩ : ∃ wy : World, wy = wr := ⟨_, rfl⟩
                have HBy := HBj
                clear HBj
                go_wp2
                clear hlt hj
                go_loopw [20] (fun i wr => ∃ j : Nat, j ≤ 64 ∧ i = .int .i64 j ∧ Hid (Below wx.heap.size wx wr)) (fun i _ => 64 - (RowKit.intOf i).toNat)
                case atStart => exact ⟨0, Nat.zero_le _, rfl, HBy⟩
                case round =>
                  obtain ⟨y, hy, rfl, HBj⟩ := hrel
                  by_cases hlt : y < 64
                  · have hr1 := HR1.out.below HBj.out
                    have hr2 := HR2.out.below HBj.out
                    obtain ⟨t1, t2, t3⟩ := HG.out ii hil
                    rw [if_pos rfl] at t2
                    have e1 := hr1.cell (j := ii) (strs_some t1)
                    have e2 := hr2.cell (j := ii) (strs_some t2)
                    have hb := byteN_rot (k := y) t3 hbb
                    have hx1 := fun W => run_byte (P := Try.prog) Try.underlying9 (atS D.s ii).text y (by omega) W
                    have hx2 := fun W => run_byte (P := Try.prog) Try.underlying9 (rotB (atS D.s ii).text bb) y (by rw [rotB_size]; omega) W
                    have hA := byteN_lt (atS D.s ii).text y
                    have hBB := byteN_lt (rotB (atS D.s ii).text bb) y
                    have hxor := i64_xor_nat _ _ hA hBB
                    have hz1 : (atS D.s ii).text.size = 64 := t3
                    have hz2 : (rotB (atS D.s ii).text bb).size = 64 := by rw [rotB_size]; exact t3
                    clear hr1 hr2 t1 t2 t3
                    generalize rotB (atS D.s ii).text bb = s2 at *
                    generalize (atS D.s ii).text = s1 at *
                    generalize byteN s1 y = A at *
                    generalize byteN s2 y = B at *
                    have hwA : IntKind.i64.wrap (A : Int) = A := IntWalk.i64_in _ (by omega)
                    have hwB : IntKind.i64.wrap (B : Int) = B := IntWalk.i64_in _ (by omega)
                    by_cases hyb : y = bb / 8
                    · rw [if_pos hyb] at hb
                      rw [hb, rotN_diff] at hxor
                      rw [← hb] at hxor
                      have hyI : (bb : Int) / 8 = (y : Int) := by omega
                      have h8 : bb % 8 = 0 ∨ bb % 8 = 1 ∨ bb % 8 = 2 ∨ bb % 8 = 3 ∨ bb % 8 = 4 ∨ bb % 8 = 5 ∨ bb % 8 = 6 ∨ bb % 8 = 7 := by omega
                      clear hb hA hBB hyb
                      rcases h8 with h8 | h8 | h8 | h8 | h8 | h8 | h8 | h8
                      all_goals
                        rw [h8] at hxor
                        have h8I : (bb : Int) % 8 = ((bb % 8 : Nat) : Int) := by omega
                        rw [h8] at h8I
                        simp only [Nat.reducePow, Int.cast_ofNat_Int] at hxor h8I
                        go_upto_region 26 with (fail)
                        go_quiet (fail)
                        go_wp2
                        go_roundw
                        case rel => exact ⟨y + 1, by omega, by go_num, hidep (below_drewN HBj.out _)⟩
                        case measure => simp [RowKit.intOf]; omega
                    · rw [if_neg hyb] at hb
                      rw [hb, Nat.xor_self] at hxor
                      have hyI : ¬ (y : Int) = (bb : Int) / 8 := by omega
                      have hyq : ((y : Int) == (bb : Int) / 8) = false := by simpa using hyI
                      subst hb
                      clear hA hBB hyb
                      simp only [Int.natCast_zero] at hxor
                      go_upto_region 26 with (fail)
                      go_quiet (fail)
                      go_wp2
                      go_roundw
                      case rel =>
                        first
                          | exact ⟨y + 1, by omega, by go_num, hidep (below_drewN HBj.out _)⟩
                          | ((repeat apply Exists.intro); refine ⟨?_, rfl⟩; exact ⟨y + 1, by omega, by go_num, hidep (below_drewN HBj.out _)⟩)
                      case measure => simp [RowKit.intOf]; omega
                  · go_wp2
                    go_ret
                    exact ⟨ret_val (by simp), HB.out.trans (HBj.out.mono HB.out.size)⟩
end Go.Proofs.Ytmgogmjkoealoaa
