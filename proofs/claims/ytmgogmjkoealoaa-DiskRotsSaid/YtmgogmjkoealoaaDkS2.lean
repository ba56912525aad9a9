/- The law 'what was flushed stays': its walk. -/
import Derived.Test.YtmgogmjkoealoaaDkQ
import Derived.Test.YtmgogmjkoealoaaDkO
import Derived.Test.YtmgogmjkoealoaaDkS1
namespace Go.Proofs.Ytmgogmjkoealoaa
open Go.RowKit Go.Lab Go.Disk
theorem row_strs {w : World} {g n : Nat} {L : List ByteArray} (h : RowAt w g 9 (strsC L)) (hl : L.length = n) (hm : n ≤ 4096) : StrsAt w (.slice (some ⟨g, 0, none⟩) n n) L := by
  subst hl
  exact (h.rd (n := L.length) (k := 1) (c := L.length) (by rw [strsC_len]; omega) (Nat.le_refl _) (by unfold maxLen; omega)).mono (T' := fun _ => True) (fun _ _ => trivial)
theorem zrep_get {n j : Nat} (h : j < (List.replicate n zeros).length) : (List.replicate n zeros)[j] = zeros := by simp
theorem strsC_set (L : List ByteArray) (k : Nat) (s : ByteArray) : (strsC L).set k (.string s) = strsC (L.set k s) := by
  unfold strsC
  rw [List.map_set]
theorem alloc_old {w : World} {o : Obj} {b : Nat} (h : b < w.heap.size) : (w.alloc o).heap[b]? = w.heap[b]? := ((Below.refl w.heap.size w).alloc (Nat.le_refl _) o).block b h
set_option maxHeartbeats 4000000 in
set_option maxRecDepth 100000 in
theorem keeps_any (v v2 : Value) (n : Int) (ops : List Disk.Op) (ps : List Int) (w : World) (_hn : -9223372036854775808 ≤ n ∧ n ≤ 9223372036854775807) (h : OpsAt w v ops) (hp : IntsAt w v2 ps) :
    Calls Try.prog 5 #[.int .i64 n, v, v2] w fun e w' => e = .returned (.bool true) ∧ Below w.heap.size w w' := by
  obtain ⟨a, c, rfl, hc1, hc2⟩ := h.form
  obtain ⟨a2, c2, rfl, hd1, hd2⟩ := hp.1.form
  unfold maxLen at hc2 hd2
  have HSAN := hidep (fun X => sanity_any X)
  have HBAD := hidep (fun X => start_bad n X)
  have HOPS := hidep h
  have HPS := hidep hp
  clear h hp _hn
  rcases (by omega : n < 1 ∨ (¬ n < 1 ∧ 64 < n) ∨ (1 ≤ n ∧ n ≤ 64)) with hn | ⟨hn1, hn⟩ | hn
  · replace HBAD := hidep (fun X => HBAD.out X (.inl hn))
    go_enter Try.func5, Try.ntmps5
    go_wp2_with (first
      | (go_at_call 9; refine (HSAN.out _).mono ?_; rintro e w1 ⟨rfl, hb1⟩)
      | (go_at_call 10; refine (HBAD.out _).mono ?_; rintro e w2 ⟨rfl, rfl⟩)
      | fail)
    go_ret
    exact ⟨ret_val (by simp), hb1⟩
  · replace HBAD := hidep (fun X => HBAD.out X (.inr hn))
    go_enter Try.func5, Try.ntmps5
    go_wp2_with (first
      | (go_at_call 9; refine (HSAN.out _).mono ?_; rintro e w1 ⟨rfl, hb1⟩)
      | (go_at_call 10; refine (HBAD.out _).mono ?_; rintro e w2 ⟨rfl, rfl⟩)
      | fail)
    go_ret
    exact ⟨ret_val (by simp), hb1⟩
  · obtain ⟨k, rfl⟩ : ∃ k : Nat, n = (k : Int) := ⟨n.toNat, by omega⟩
    have hk : 1 ≤ k ∧ k ≤ 64 := by omega
    have HST := hidep (fun X => start_any k X hk.1 hk.2)
    clear hn HBAD
    by_cases hl : 60 < ops.length
    · go_enter Try.func5, Try.ntmps5
      go_wp2_with (first
        | (go_at_call 9; refine (HSAN.out _).mono ?_; rintro e w1 ⟨rfl, hb1⟩)
        | (go_at_call 10; refine (HST.out _).mono ?_; rintro e w2 ⟨p, q, m, rfl, hD, hR, hb2⟩)
        | fail)
      go_ret
      exact ⟨ret_val (by simp), hb1.trans (hb2.mono hb1.size)⟩
    · have hmk := mk_strs k (by omega)
      have HF0 : Hid (∀ X, Calls Try.prog 18 #[.int .u8 0] X fun e w' => e = .returned (.string zeros) ∧ Below X.heap.size X w') := hidep (fun X => by rw [← f15]; exact full_any 0 X (by omega))
      go_enter Try.func5, Try.ntmps5
      go_wp2_with (first
        | (go_at_call 9; refine (HSAN.out _).mono ?_; rintro e w1 ⟨rfl, hb1⟩)
        | (go_at_call 10; refine (HST.out _).mono ?_; rintro e w2 ⟨p, q, m, rfl, hD, hR, hb2⟩; obtain ⟨bp, rfl⟩ := hD.ptr; obtain ⟨bq, rfl⟩ := hR.ptr)
        | fail)
      have hal := (Below.refl w2.heap.size w2).alloc (Nat.le_refl _) (.cells (madeCells #[.string ByteArray.empty] k) 9)
      have HD := hidep (hD.below hal)
      have HZ := hidep hb1.size
      have HM := hidep (Nat.le_trans (Nat.le_of_lt hR.rng.1) hR.rng.2)
      have HB := hidep ((hb1.trans (hb2.mono hb1.size)).trans (hal.mono (hb1.trans (hb2.mono hb1.size)).size))
      have hr0 : RowAt (w2.alloc (.cells (madeCells #[.string ByteArray.empty] k) 9)) w2.heap.size 9 (imgRow (List.replicate k zeros) 0 k) := by
        have := RowAt.new w2 (madeCells #[.string ByteArray.empty] k) 9
        rw [toList_madeCells_one] at this
        simpa [imgRow, strsC] using this
      have HR0 := hidep hr0
      clear hr0 hal hb1 hb2 hD hR HSAN HST hmk
      have hL : (List.replicate k zeros).length = k := by simp
      have HL := hidep hL
      clear hL
      go_loopw [12] (fun i wr => ∃ j : Nat, j ≤ k ∧ i = .int .i64 j ∧ Hid (DiskAt wr w1.heap.size m (.pointer (some ⟨bp, 0, none⟩)) (newD k)) ∧ Hid (RowAt wr w2.heap.size 9 (imgRow (List.replicate k zeros) j k)) ∧ Hid (Below w.heap.size w wr)) (fun i _ => k - (RowKit.intOf i).toNat)
      case atStart => exact ⟨0, Nat.zero_le _, rfl, HD, HR0, HB⟩
      case round =>
        obtain ⟨j, hj, rfl, HDj, HRj, HBj⟩ := hrel
        by_cases hlt : j < k
        · have HS : Hid (∀ X, RowAt X w2.heap.size 9 (imgRow (List.replicate k zeros) j k) → RowAt (X.setCell ⟨w2.heap.size, j, none⟩ (.string zeros)) w2.heap.size 9 (imgRow (List.replicate k zeros) (j + 1) k)) := hidep (fun X hX => by
            have := hX.setCell (o := j) (by rw [imgRow_len _ _ _ HL.out hj]; exact hlt) (.string zeros)
            have e := imgRow_set (L := List.replicate k zeros) (j := j) (n := k) (by rw [HL.out]; exact hlt) HL.out
            rw [zrep_get] at e
            rw [e] at this
            exact this)
          have hg := List.getElem?_eq_getElem (l := imgRow (List.replicate k zeros) j k) (i := j) (by rw [imgRow_len _ _ _ HL.out hj]; exact hlt)
          have HG := hidep hg
          clear hg
          generalize (imgRow (List.replicate k zeros) j k)[j]'_ = old at *
          go_wp2_with (go_at_call 18; refine (HF0.out _).mono ?_; rintro e w3 ⟨rfl, hb3⟩; have hD3 := HDj.out.below hb3; have hr3 := HRj.out.below hb3; have hcell := hr3.cell (j := j) HG.out; have hfree := hr3.free j; have hB3 : Below w.heap.size w w3 := HBj.out.trans (hb3.mono HBj.out.size))
          go_roundw
          case rel => exact ⟨j + 1, by omega, by go_num, hidep (hD3.keep (Turn.setCell (lo := w2.heap.size) (hi := w2.heap.size + 1) (Nat.le_refl _) (Nat.lt_succ_self _) _) (.inl HM.out)), hidep (HS.out _ hr3), hidep (hB3.setCell (Nat.le_trans HZ.out (Nat.le_trans (Nat.le_of_lt HD.out.rng.1) HM.out)) _)⟩
          case measure => simp [RowKit.intOf]; omega
        · have hr1 : RowAt wr w2.heap.size 9 (strsC (List.replicate k zeros)) := by
            have hr := HRj.out
            have e : imgRow (List.replicate k zeros) j k = strsC (List.replicate k zeros) := by
              unfold imgRow
              have hjn : j = k := by omega
              rw [List.take_of_length_le (by rw [HL.out]; omega), hjn, Nat.sub_self]
              simp
            rw [e] at hr
            exact hr
          have HRT := hidep hr1
          have HK := hidep (kept_new k)
          have HMZ := hidep (Nat.le_of_lt HD.out.rng.1)
          clear hr1 HRj HD HB HR0 HF0
          generalize hD0 : newD k = D0 at *
          generalize hT0 : List.replicate k zeros = T0 at *
          generalize w1.heap.size = lo at *
          generalize w2.heap.size = g at *
          clear hD0 hT0
          go_wp2
          go_loopw [13] (fun i wr => ∃ (j : Nat) (D : Dk) (T : List ByteArray), j ≤ ops.length ∧ i = .int .i64 j ∧ Hid (DiskAt wr lo m (.pointer (some ⟨bp, 0, none⟩)) D) ∧ Hid (Kept D T) ∧ Hid (RowAt wr g 9 (strsC T)) ∧ Hid (T.length = k) ∧ Hid (Below w.heap.size w wr)) (fun i _ => ops.length - (RowKit.intOf i).toNat)
          case atStart => exact ⟨0, D0, T0, Nat.zero_le _, rfl, HDj, HK, HRT, HL, HBj⟩
          case round =>
            clear HDj HK HRT HL HBj
            obtain ⟨j, D, T, hj, rfl, HDj, HK, HRT, HL, HBj⟩ := hrel
            by_cases hlt : j < ops.length
            · obtain ⟨b, off, u, rfl, hcell, hints, hok⟩ := HOPS.out.op hlt
              have HC := hidep hcell
              have HI := hidep hints
              have HO := hidep hok
              clear hcell hints hok
              generalize ops[j] = o at *
              obtain ⟨kind, oi, bit, text, picks⟩ := o
              obtain ⟨c0, c1, c2, c3, c4⟩ := HC.out _ HBj.out
              obtain ⟨pa, pc, rfl, hpc1, hpc2⟩ := (HI.out _ (Below.refl _ _)).1.form
              clear hpc1 hpc2
              simp only at c0 c1 c2 c3
              have hX := (Below.refl wr.heap.size wr).alloc (Nat.le_refl _) (.cells #[.int .i64 kind, .int .i64 oi, .int .i64 bit, .string text, .slice pa picks.length pc] 33)
              have HX := hidep hX
              clear hX
              have HBX : Hid (Below w.heap.size w (wr.alloc (.cells #[.int .i64 kind, .int .i64 oi, .int .i64 bit, .string text, .slice pa picks.length pc] 33))) := hidep (HBj.out.trans (HX.out.mono HBj.out.size))
              have hgl := HRT.out.lt
              rcases (by omega : kind = 4 ∨ kind = 5 ∨ kind = 6 ∨ kind = 7 ∨ (kind ≠ 4 ∧ kind ≠ 5 ∧ kind ≠ 6 ∧ kind ≠ 7)) with rfl | rfl | rfl | rfl | ⟨k4, k5, k6, k7⟩
              · go_wp2
                go_roundw
                case rel => exact ⟨j + 1, D, T, by omega, by go_num, hidep (HDj.out.below HX.out), HK, hidep (HRT.out.below HX.out), HL, HBX⟩
                case measure => simp [RowKit.intOf]; omega
              · go_wp2
                go_roundw
                case rel => exact ⟨j + 1, D, T, by omega, by go_num, hidep (HDj.out.below HX.out), HK, hidep (HRT.out.below HX.out), HL, HBX⟩
                case measure => simp [RowKit.intOf]; omega
              · go_wp2
                go_roundw
                case rel => exact ⟨j + 1, D, T, by omega, by go_num, hidep (HDj.out.below HX.out), HK, hidep (HRT.out.below HX.out), HL, HBX⟩
                case measure => simp [RowKit.intOf]; omega
              · go_wp2
                go_roundw
                case rel => exact ⟨j + 1, D, T, by omega, by go_num, hidep (HDj.out.below HX.out), HK, hidep (HRT.out.below HX.out), HL, HBX⟩
                case measure => simp [RowKit.intOf]; omega
              · have HDO := hidep (fun (X : World) (hX : Below wr.heap.size wr X) => do_any _ (.slice pa picks.length pc) ⟨kind, oi, bit, text, picks⟩ D X lo m (HDj.out.below hX) HO.out (fun Y hY => HI.out _ ((HBj.out.trans (hX.mono HBj.out.size)).trans (hY.below HZ.out (Nat.le_trans HBj.out.size hX.size)))))
                have hwx : (wr.alloc (.cells #[.int .i64 kind, .int .i64 oi, .int .i64 bit, .string text, .slice pa picks.length pc] 33)).heap[wr.heap.size]? = some (.cells #[.int .i64 kind, .int .i64 oi, .int .i64 bit, .string text, .slice pa picks.length pc] 33 (0, 0)) := heap_alloc_new _ _
                have hcl : ∀ X : World, X.heap[wr.heap.size]? = some (.cells #[.int .i64 kind, .int .i64 oi, .int .i64 bit, .string text, .slice pa picks.length pc] 33 (0, 0)) → X.cell? ⟨wr.heap.size, 0, none⟩ = some (.int .i64 kind) ∧ X.cell? ⟨wr.heap.size, 1, none⟩ = some (.int .i64 oi) ∧ X.cell? ⟨wr.heap.size, 2, none⟩ = some (.int .i64 bit) ∧ X.cell? ⟨wr.heap.size, 3, none⟩ = some (.string text) ∧ X.cell? ⟨wr.heap.size, 4, none⟩ = some (.slice pa picks.length pc) := fun X hX => by simp [World.cell?, hX]
                have HCL := hidep hcl
                have HWX := hidep hwx
                clear hcl hwx
                have hno : ¬ (lo ≤ wr.heap.size ∧ wr.heap.size < m) := by have := HDj.out.rng; omega
                have q4 : (kind == 4) = false := by simpa using k4
                have q5 : (kind == 5) = false := by simpa using k5
                have q6 : (kind == 6) = false := by simpa using k6
                have q7 : (kind == 7) = false := by simpa using k7
                have hgno : ¬ (lo ≤ g ∧ g < m) := by have := HM.out; omega
                by_cases k1 : kind = 1
                · subst k1
                  have HE : Hid (doE D ⟨1, oi, bit, text, picks⟩ = (ByteArray.empty, writeE D oi (textZ text)) ∧ doD D ⟨1, oi, bit, text, picks⟩ = writeD D oi (textZ text)) := hidep ⟨rfl, rfl⟩
                  rw [HE.out.1, HE.out.2] at HDO
                  have htl := HO.out.2.2.2
                  have HTX : Hid (∀ X, Calls Try.prog 24 #[.agg #[.int .i64 1, .int .i64 oi, .int .i64 bit, .string text, .slice pa picks.length pc]] X fun e w' => e = .returned (.string (textZ text)) ∧ Below X.heap.size X w') := hidep (fun X => text_any 1 oi bit text _ X htl)
                  simp only at HDO
                  clear q4 q5 q6 q7 k4 k5 k6 k7 htl HE
                  rcases HK.out.write oi (textZ text) with ⟨he, hoi, hol, hkp⟩ | ⟨he, hdd⟩
                  · rw [he] at HDO
                    obtain ⟨ii, rfl⟩ : ∃ ii : Nat, oi = (ii : Int) := ⟨oi.toNat, by omega⟩
                    rw [Int.toNat_natCast] at hol hkp
                    have HKP := hidep hkp
                    have hik : ii < k := by have := HK.out.len; have := HL.out; omega
                    have hi0 : 0 ≤ (ii : Int) := by omega
                    have hi1 : (ii : Int) < (k : Int) := by omega
                    clear he hoi hol hkp
                    generalize textZ text = tx at *
                    generalize writeD D (ii : Int) tx = D' at *
                    have hset : ∀ (X : World) (vv : Value) y, X.heap[wr.heap.size]? = y → (X.setCell ⟨g, ii, none⟩ vv).heap[wr.heap.size]? = y := fun X vv y hy => (Below.heap_setCell _ _ _ wr.heap.size (by simp; omega)).trans hy
                    have HSET := hidep hset
                    clear hset
                    have hge := List.getElem?_eq_getElem (l := strsC T) (i := ii) (by rw [strsC_len, HL.out]; exact hik)
                    have HGE := hidep hge
                    clear hge
                    generalize (strsC T)[ii]'_ = old at *
                    go_upto_region 17 with (go_at_call 11; refine (HDO.out _ HX.out).mono ?_; rintro e w3 ⟨rfl, hD3, hT3⟩; have h3 := (hT3.block _ (by simp) hno).trans HWX.out; have hq := HCL.out _ h3; have q0 := hq.1; have q1 := hq.2.1; have q2 := hq.2.2.1; have q3 := hq.2.2.2.1; have q4 := hq.2.2.2.2)
                    have hr3 := (HRT.out.below HX.out).of_turn hT3 hgno
                    have hcell3 := hr3.cell (j := ii) HGE.out
                    have hfree3 := hr3.free ii
                    have hB3 : Below w.heap.size w w3 := HBX.out.trans (hT3.below HZ.out HBX.out.size)
                    have h5 := True.intro
                    go_region_held3 (fun w' => w'.cell? ⟨wr.heap.size, 0, none⟩ = some (.int .i64 1) ∧ w'.cell? ⟨wr.heap.size, 1, none⟩ = some (.int .i64 ii) ∧ w'.cell? ⟨wr.heap.size, 2, none⟩ = some (.int .i64 bit) ∧ w'.cell? ⟨wr.heap.size, 3, none⟩ = some (.string text) ∧ w'.cell? ⟨wr.heap.size, 4, none⟩ = some (.slice pa picks.length pc))
                      (first
                        | exact HCL.out _ h3
                        | exact HCL.out _ h5
                        | exact HCL.out _ (HSET.out _ _ _ h5))
                      (first
                        | (go_at_call 24; refine (HTX.out _).mono ?_; rintro e w5 ⟨rfl, hb5'⟩; have hb5 : Below w3.heap.size w3 w5 := (by first | exact hb5' | exact (Below.refl w3.heap.size w3).drew.trans hb5'); have h5 := (hb5.block _ (lt_of_block h3)).trans h3; have hr5 := hr3.below hb5; have hcell5 := hr5.cell (j := ii) HGE.out; have hfree5 := hr5.free ii; have hD5 := hD3.below hb5; have hB5 : Below w.heap.size w w5 := hB3.trans (hb5.mono hB3.size); dsimp only))
                    all_goals go_wp2
                    all_goals go_roundw
                    case rel =>
                      have hs5 := hr5.setCell (o := ii) (by rw [strsC_len, HL.out]; exact hik) (.string tx)
                      rw [strsC_set] at hs5
                      exact ⟨j + 1, D', T.set ii tx, by omega, by go_num, hidep (hD5.keep (Turn.setCell (lo := g) (hi := g + 1) (Nat.le_refl _) (Nat.lt_succ_self _) _) (.inl HM.out)), HKP, hidep hs5, hidep (by rw [List.length_set]; exact HL.out), hidep (hB5.setCell (Nat.le_trans HZ.out (Nat.le_trans HMZ.out HM.out)) _)⟩
                    case measure => simp [RowKit.intOf]; omega
                  · rw [hdd] at HDO
                    clear hdd
                    generalize writeE D oi (textZ text) = ee at *
                    have qe : (ee == 0) = false := by simpa using he
                    go_wp2_with (go_at_call 11; refine (HDO.out _ HX.out).mono ?_; rintro e w3 ⟨rfl, hD3, hT3⟩; have h3 := (hT3.block _ (by simp) hno).trans HWX.out; have hq := HCL.out _ h3; have q0 := hq.1; have q1 := hq.2.1; have q2 := hq.2.2.1; have q3 := hq.2.2.2.1; have q4 := hq.2.2.2.2)
                    go_roundw
                    case rel => exact ⟨j + 1, D, T, by omega, by go_num, hidep hD3, HK, hidep ((HRT.out.below HX.out).of_turn hT3 hgno), HL, hidep (HBX.out.trans (hT3.below HZ.out HBX.out.size))⟩
                    case measure => simp [RowKit.intOf]; omega
                · have p1 : (kind == 1) = false := by simpa using k1
                  have HKP := hidep (HK.out.do (o := ⟨kind, oi, bit, text, picks⟩) HDj.out.ok k1 k4 k5 k6 k7)
                  generalize doE D ⟨kind, oi, bit, text, picks⟩ = ed at *
                  obtain ⟨et, ee⟩ := ed
                  generalize doD D ⟨kind, oi, bit, text, picks⟩ = D' at *
                  clear k1 k4 k5 k6 k7
                  go_wp2_with (go_at_call 11; refine (HDO.out _ HX.out).mono ?_; rintro e w3 ⟨rfl, hD3, hT3⟩; have h3 := (hT3.block _ (by simp) hno).trans HWX.out; have hq := HCL.out _ h3; have q0 := hq.1; have q1 := hq.2.1; have q2 := hq.2.2.1; have q3 := hq.2.2.2.1; have q4 := hq.2.2.2.2)
                  go_roundw
                  case rel => exact ⟨j + 1, D', T, by omega, by go_num, hidep hD3, HKP, hidep ((HRT.out.below HX.out).of_turn hT3 hgno), HL, hidep (HBX.out.trans (hT3.below HZ.out HBX.out.size))⟩
                  case measure => simp [RowKit.intOf]; omega
            · obtain ⟨hfl, -, him, hmo⟩ := HK.out.flush HDj.out.ok
              have HFL := hidep (flush_any _ D wr lo m HDj.out)
              rw [hfl] at HFL
              have HLD : Hid ((flushD D).s.length = k) := hidep (by rw [← HL.out, ← him, imageZ_len])
              have HLM : Hid ((mountD (flushD D) ps).s.length = k) := hidep (by rw [← HL.out, ← hmo ps, imageZ_len])
              have HST : Hid (∀ X u v, StrsAt X u T → StrsAt X v T → Calls Try.prog 21 #[u, v] X fun e w' => e = .returned (.bool true) ∧ Below X.heap.size X w') := hidep (fun X u v hu hv => (sameTexts_any u v _ _ X hu hv).mono (fun e w' ⟨he, n, hn⟩ => ⟨by rw [he]; simp, by rw [hn]; exact below_drewN (Below.refl _ _) n⟩))
              have HI1 : Hid (∀ X, DiskAt X lo m (.pointer (some ⟨bp, 0, none⟩)) (flushD D) → Calls Try.prog 15 #[.pointer (some ⟨bp, 0, none⟩)] X fun e w' => ∃ g, e = .returned (.slice (some ⟨g, 0, none⟩) k k) ∧ StrsAt w' (.slice (some ⟨g, 0, none⟩) k k) T ∧ Below X.heap.size X w') := hidep (fun X hX => (image_any _ _ X lo m hX).mono (fun e w' ⟨g, he, _, hr, hb⟩ => ⟨g, by rw [he, HLD.out], by have := image_strs hr hX.ok; rw [HLD.out, him] at this; exact this, hb⟩))
              have HI2 : Hid (∀ X, DiskAt X lo m (.pointer (some ⟨bp, 0, none⟩)) (mountD (flushD D) ps) → Calls Try.prog 15 #[.pointer (some ⟨bp, 0, none⟩)] X fun e w' => ∃ g, e = .returned (.slice (some ⟨g, 0, none⟩) k k) ∧ StrsAt w' (.slice (some ⟨g, 0, none⟩) k k) T ∧ Below X.heap.size X w') := hidep (fun X hX => (image_any _ _ X lo m hX).mono (fun e w' ⟨g, he, _, hr, hb⟩ => ⟨g, by rw [he, HLM.out], by have := image_strs hr hX.ok; rw [HLM.out, hmo ps] at this; exact this, hb⟩))
              have HMO : Hid (∀ X, Below w.heap.size w X → DiskAt X lo m (.pointer (some ⟨bp, 0, none⟩)) (flushD D) → Calls Try.prog 26 #[.pointer (some ⟨bp, 0, none⟩), .slice a2 ps.length c2] X fun e w' => e = .returned (.tuple #[]) ∧ DiskAt w' lo m (.pointer (some ⟨bp, 0, none⟩)) (mountD (flushD D) ps) ∧ Turn lo m X w') := hidep (fun X hX hD => mount_any _ _ ps _ X lo m hD (fun Y hY => HPS.out.below (hX.trans (hY.below HZ.out hX.size))))
              have hgno : ¬ (lo ≤ g ∧ g < m) := by have := HM.out; omega
              have HRW : Hid (∀ X, RowAt X g 9 (strsC T) → StrsAt X (.slice (some ⟨g, 0, none⟩) k k) T) := hidep (fun X hX => row_strs hX HL.out (by omega))
              clear hfl him hmo HLD HLM
              generalize flushD D = D1 at *
              generalize mountD D1 ps = D2 at *
              go_wp2_with (first
                | (go_at_call 25; refine HFL.out.mono ?_; rintro e w3 ⟨rfl, hD, hT⟩; have hB : Below w.heap.size w w3 := HBj.out.trans (hT.below HZ.out HBj.out.size); have hr := HRT.out.of_turn hT hgno)
                | (go_at_call 15; (with_reducible refine (HI1.out _ hD).mono ?_); rintro e w4 ⟨g4, rfl, hi4, hb4⟩; have hD := hD.below hb4; have hr := hr.below hb4; have hB := hB.trans (hb4.mono hB.size))
                | (go_at_call 15; (with_reducible refine (HI2.out _ hD).mono ?_); rintro e w4 ⟨g4, rfl, hi4, hb4⟩; have hD := hD.below hb4; have hr := hr.below hb4; have hB := hB.trans (hb4.mono hB.size))
                | (go_at_call 21; refine (HST.out _ _ _ hi4 (HRW.out _ hr)).mono ?_; rintro e w5 ⟨rfl, hb5⟩; have hD := hD.below hb5; have hr := hr.below hb5; have hB := hB.trans (hb5.mono hB.size))
                | (go_at_call 26; refine (HMO.out _ hB hD).mono ?_; rintro e w6 ⟨rfl, hD, hT6⟩; have hr := hr.of_turn hT6 hgno; have hB := hB.trans (hT6.below HZ.out hB.size))
                | fail)
              go_ret
              exact ⟨ret_val (by simp), hB⟩
end Go.Proofs.Ytmgogmjkoealoaa
