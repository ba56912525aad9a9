/- The law 'a size that does not fit is refused': its walk. Written by genr3.py. -/
import Derived.Test.YtmgogmjkoealoaaDkQ
import Derived.Test.YtmgogmjkoealoaaDkO
namespace Go.Proofs.Ytmgogmjkoealoaa
open Go.RowKit Go.Lab Go.Disk
theorem n3_in {i : Int} (h : i < 0 ∨ 2 < i) : (newD 3).isIn i = false := by
  unfold Dk.isIn
  have : (newD 3).s.length = 3 := rfl
  rw [this]
  simp only [Bool.and_eq_false_iff, decide_eq_false_iff_not]
  omega
theorem n3_read {i : Int} (h : i < 0 ∨ 2 < i) : readZ (newD 3) i = (ByteArray.empty, 1) := by
  unfold readZ
  rw [if_neg (by simp [newD]), if_pos (n3_in h)]
theorem n3_write {i : Int} (h : i < 0 ∨ 2 < i) (s : ByteArray) : writeE (newD 3) i s = 1 ∧ writeD (newD 3) i s = newD 3 := by
  unfold writeE writeD
  rw [if_neg (by simp [newD]), if_pos (n3_in h), if_neg (by simp [newD]), if_pos (n3_in h)]
  exact ⟨rfl, rfl⟩
theorem n3_size {s : ByteArray} (h : s.size ≠ 64) : writeE (newD 3) 0 s = 1 ∧ writeD (newD 3) 0 s = newD 3 := by
  have hi : ¬ (newD 3).isIn 0 = false := by rw [show (newD 3).isIn 0 = true from rfl]; simp
  unfold writeE writeD
  rw [if_neg (by simp [newD]), if_neg hi, if_pos h, if_neg (by simp [newD]), if_neg hi, if_pos h]
  exact ⟨rfl, rfl⟩
theorem n3_rot {i : Int} (h : i < 0 ∨ 2 < i) : rotOk (newD 3) i 0 = false ∧ rotD (newD 3) i 0 = newD 3 := by
  have : rotOk (newD 3) i 0 = false := by unfold rotOk; rw [n3_in h]; rfl
  refine ⟨this, ?_⟩
  unfold rotD
  rw [if_neg (by rw [this]; simp)]
theorem n3_wear {i : Int} (h : i < 0 ∨ 2 < i) : wearD (newD 3) i = newD 3 := by
  unfold wearD
  rw [if_neg (by rw [n3_in h]; simp)]
set_option maxHeartbeats 8000000 in
set_option maxRecDepth 100000 in
theorem refuses_any (n i : Int) (s : ByteArray) (w : World) (_hn : -9223372036854775808 ≤ n ∧ n ≤ 9223372036854775807) (hi64 : -9223372036854775808 ≤ i ∧ i ≤ 9223372036854775807) (hs : s.size ≤ maxLen) :
    Calls Try.prog 4 #[.int .i64 n, .int .i64 i, .string s] w fun e w' => e = .returned (.bool true) ∧ Below w.heap.size w w' := by
  have HSAN := hidep (fun X => sanity_any X)
  have HNB := hidep (fun X => new_bad n X)
  have HN3 : Hid (∀ X, Calls Try.prog 14 #[.int .i64 3] X fun e w' => ∃ p, e = .returned (.tuple #[p, .int .i64 0]) ∧ DiskAt w' X.heap.size w'.heap.size p (newD 3) ∧ Below X.heap.size X w') := hidep (fun X => new_any 3 X (by omega) (by omega))
  have HFU : Hid (∀ X, Calls Try.prog 18 #[.int .u8 120] X fun e w' => e = .returned (.string (fullZ 120)) ∧ Below X.heap.size X w') := hidep (fun X => full_any 120 X (by omega))
  have HOK : Hid (newD 3).Ok := hidep (newD_ok (by omega) (by omega))
  have HST : Hid (∀ X u v, StrsAt X u (imageZ (newD 3)) → StrsAt X v (imageZ (newD 3)) → Calls Try.prog 21 #[u, v] X fun e w' => e = .returned (.bool true) ∧ Below X.heap.size X w') := hidep (fun X u v hu hv => (sameTexts_any u v _ _ X hu hv).mono (fun e w' ⟨he, n, hn⟩ => ⟨by rw [he]; simp, by rw [hn]; exact below_drewN (Below.refl _ _) n⟩))
  have HIM : Hid (∀ X lo hi p, DiskAt X lo hi p (newD 3) → Calls Try.prog 15 #[p] X fun e w' => ∃ g, e = .returned (.slice (some ⟨g, 0, none⟩) 3 3) ∧ X.heap.size ≤ g ∧ RowAt w' g 9 (strsC (imageZ (newD 3))) ∧ Below X.heap.size X w') := hidep (fun X lo hi p hX => image_any p (newD 3) X lo hi hX)
  have HPE : Hid (∀ X lo hi p, DiskAt X lo hi p (newD 3) → Calls Try.prog 22 #[p] X fun e w' => ∃ a c, e = .returned (.slice a 0 c) ∧ Below X.heap.size X w') := hidep (fun X lo hi p hX => (pending_any p (newD 3) X lo hi hX).mono (fun e w' ⟨v, he, ho, hb⟩ => by
    obtain ⟨a, c, hv, _⟩ := (own_rd ho).form
    exact ⟨a, c, by rw [he, hv]; rfl, hb⟩))
  have HWN : Hid (∀ X lo hi p, DiskAt X lo hi p (newD 3) → Calls Try.prog 23 #[p] X fun e w' => ∃ a c, e = .returned (.slice a 0 c) ∧ Below X.heap.size X w') := hidep (fun X lo hi p hX => (worn_any p (newD 3) X lo hi hX).mono (fun e w' ⟨v, he, ho, hb⟩ => by
    obtain ⟨a, c, hv, _⟩ := (own_rd ho).form
    exact ⟨a, c, by rw [he, hv]; rfl, hb⟩))
  have HRD : Hid (i < 0 ∨ 2 < i → ∀ X lo hi p, DiskAt X lo hi p (newD 3) → Calls Try.prog 16 #[p, .int .i64 i] X fun e w' => e = .returned (.tuple #[.string ByteArray.empty, .int .i64 1]) ∧ Below X.heap.size X w') := hidep (fun hb X lo hi p hX => by
    have := read_any p (newD 3) i X lo hi hX hi64
    rw [n3_read hb] at this; exact this)
  have HWR : Hid (i < 0 ∨ 2 < i → ∀ X lo hi p, DiskAt X lo hi p (newD 3) → Calls Try.prog 17 #[p, .int .i64 i, .string (fullZ 120)] X fun e w' => e = .returned (.int .i64 1) ∧ DiskAt w' lo hi p (newD 3) ∧ Turn lo hi X w') := hidep (fun hb X lo hi p hX => by
    have := write_any p (newD 3) i (fullZ 120) X lo hi hX (by rw [fullZ_size]; decide) hi64
    rw [(n3_write hb _).1, (n3_write hb _).2] at this; exact this)
  have HRO : Hid (i < 0 ∨ 2 < i → ∀ X lo hi p, DiskAt X lo hi p (newD 3) → Calls Try.prog 19 #[p, .int .i64 i, .int .i64 0] X fun e w' => e = .returned (.int .i64 1) ∧ DiskAt w' lo hi p (newD 3) ∧ Turn lo hi X w') := hidep (fun hb X lo hi p hX => by
    have := rot_any p (newD 3) i 0 X lo hi hX
    rw [(n3_rot hb).1, (n3_rot hb).2] at this; exact this)
  have HWE : Hid (i < 0 ∨ 2 < i → ∀ X lo hi p, DiskAt X lo hi p (newD 3) → Calls Try.prog 20 #[p, .int .i64 i] X fun e w' => e = .returned (.int .i64 1) ∧ DiskAt w' lo hi p (newD 3) ∧ Turn lo hi X w') := hidep (fun hb X lo hi p hX => by
    have := wear_any p (newD 3) i X lo hi hX hi64
    rw [n3_in hb, n3_wear hb] at this; exact this)
  have HW0 : Hid (s.size ≠ 64 → ∀ X lo hi p, DiskAt X lo hi p (newD 3) → Calls Try.prog 17 #[p, .int .i64 0, .string s] X fun e w' => e = .returned (.int .i64 1) ∧ DiskAt w' lo hi p (newD 3) ∧ Turn lo hi X w') := hidep (fun hb X lo hi p hX => by
    have := write_any p (newD 3) 0 s X lo hi hX hs (by omega)
    rw [(n3_size hb).1, (n3_size hb).2] at this; exact this)
  clear hi64
  unfold maxLen at hs
  have H33 : Hid (∀ X g, RowAt X g 9 (strsC (imageZ (newD 3))) → StrsAt X (.slice (some ⟨g, 0, none⟩) 3 3) (imageZ (newD 3))) := hidep (fun X g h => image_strs h HOK.out)
  clear HOK
  generalize newD 3 = D at *
  rcases (by omega : n < 1 ∨ (¬ n < 1 ∧ 4096 < n) ∨ (¬ n < 1 ∧ ¬ 4096 < n)) with hn | ⟨hn1, hn⟩ | ⟨hn1, hn⟩
  · replace HNB := hidep (fun X => HNB.out X (.inl hn))
    go_enter Try.func4, Try.ntmps4
    go_upto_region 6 with (first
      | (go_at_call 9; refine (HSAN.out _).mono ?_; rintro e w1 ⟨rfl, hb1⟩)
      | (go_at_call 14; (with_reducible refine (HNB.out _).mono ?_); rintro e w2 ⟨rfl, rfl⟩)
      | (go_at_call 14; (with_reducible refine (HN3.out _).mono ?_); rintro e w3 ⟨p, rfl, hD, hb3⟩; obtain ⟨b, rfl⟩ := hD.ptr)
      | fail)
    have hrng := hD.rng
    have hz1 := hb1.size
    have HB := hidep (hb1.trans (hb3.mono hb1.size))
    clear hb1 hb3 HNB HN3 HSAN
    generalize hlo : w1.heap.size = lo at *
    generalize hhi : w3.heap.size = hi at *
    go_upto_region 9 with (go_at_call 15; refine (HIM.out _ _ _ _ hD).mono ?_; rintro e w4 ⟨g, rfl, hg, him, hb⟩; have hD := hD.below hb; have HB := hidep (HB.out.trans (hb.mono HB.out.size)))
    rw [hhi] at hg
    clear hb hlo hhi
    rcases (by omega : i < 0 ∨ (¬ i < 0 ∧ 2 < i) ∨ (¬ i < 0 ∧ ¬ 2 < i)) with hi1 | ⟨hi0, hi1⟩ | ⟨hi0, hi1⟩
    · replace HRD := hidep (HRD.out (.inl hi1))
      replace HWR := hidep (HWR.out (.inl hi1))
      replace HRO := hidep (HRO.out (.inl hi1))
      replace HWE := hidep (HWE.out (.inl hi1))
      by_cases h64 : s.size = 64
      · clear HW0
        have h64i : (s.size : Int) = 64 := by omega
        go_wp2_with (first
          | (go_at_call 16; refine (HRD.out _ _ _ _ hD).mono ?_; rintro e wn ⟨rfl, hb⟩; have hD := hD.below hb; have him := him.below hb; have HB := hidep (HB.out.trans (hb.mono HB.out.size)))
          | (go_at_call 18; refine (HFU.out _).mono ?_; rintro e wn ⟨rfl, hb⟩; have hD := hD.below hb; have him := him.below hb; have HB := hidep (HB.out.trans (hb.mono HB.out.size)))
          | (go_at_call 17; (with_reducible refine (HWR.out _ _ _ _ hD).mono ?_); rintro e wn ⟨rfl, hD, hT⟩; have him := him.of_turn hT (by omega); have HB := hidep (HB.out.trans (hT.below hz1 HB.out.size)))
          | (go_at_call 19; refine (HRO.out _ _ _ _ hD).mono ?_; rintro e wn ⟨rfl, hD, hT⟩; have him := him.of_turn hT (by omega); have HB := hidep (HB.out.trans (hT.below hz1 HB.out.size)))
          | (go_at_call 20; refine (HWE.out _ _ _ _ hD).mono ?_; rintro e wn ⟨rfl, hD, hT⟩; have him := him.of_turn hT (by omega); have HB := hidep (HB.out.trans (hT.below hz1 HB.out.size)))
          | (go_at_call 17; (with_reducible refine (HW0.out _ _ _ _ hD).mono ?_); rintro e wn ⟨rfl, hD, hT⟩; have him := him.of_turn hT (by omega); have HB := hidep (HB.out.trans (hT.below hz1 HB.out.size)))
          | (go_at_call 15; refine (HIM.out _ _ _ _ hD).mono ?_; rintro e wi ⟨g2, rfl, hg2, him2, hb⟩; have hD := hD.below hb; have him := him.below hb; have HB := hidep (HB.out.trans (hb.mono HB.out.size)))
          | (go_at_call 21; refine (HST.out _ _ _ (H33.out _ _ him) (H33.out _ _ him2)).mono ?_; rintro e wn ⟨rfl, hb⟩; have hD := hD.below hb; have HB := hidep (HB.out.trans (hb.mono HB.out.size)))
          | (go_at_call 22; refine (HPE.out _ _ _ _ hD).mono ?_; rintro e wn ⟨ap, cp, rfl, hb⟩; have hD := hD.below hb; have HB := hidep (HB.out.trans (hb.mono HB.out.size)))
          | (go_at_call 23; refine (HWN.out _ _ _ _ hD).mono ?_; rintro e wn ⟨ap, cp, rfl, hb⟩; have hD := hD.below hb; have HB := hidep (HB.out.trans (hb.mono HB.out.size)))
          | fail)
        go_ret
        exact ⟨ret_val (by simp), HB.out⟩
      · replace HW0 := hidep (HW0.out h64)
        have h64i : ¬ (s.size : Int) = 64 := by omega
        go_wp2_with (first
          | (go_at_call 16; refine (HRD.out _ _ _ _ hD).mono ?_; rintro e wn ⟨rfl, hb⟩; have hD := hD.below hb; have him := him.below hb; have HB := hidep (HB.out.trans (hb.mono HB.out.size)))
          | (go_at_call 18; refine (HFU.out _).mono ?_; rintro e wn ⟨rfl, hb⟩; have hD := hD.below hb; have him := him.below hb; have HB := hidep (HB.out.trans (hb.mono HB.out.size)))
          | (go_at_call 17; (with_reducible refine (HWR.out _ _ _ _ hD).mono ?_); rintro e wn ⟨rfl, hD, hT⟩; have him := him.of_turn hT (by omega); have HB := hidep (HB.out.trans (hT.below hz1 HB.out.size)))
          | (go_at_call 19; refine (HRO.out _ _ _ _ hD).mono ?_; rintro e wn ⟨rfl, hD, hT⟩; have him := him.of_turn hT (by omega); have HB := hidep (HB.out.trans (hT.below hz1 HB.out.size)))
          | (go_at_call 20; refine (HWE.out _ _ _ _ hD).mono ?_; rintro e wn ⟨rfl, hD, hT⟩; have him := him.of_turn hT (by omega); have HB := hidep (HB.out.trans (hT.below hz1 HB.out.size)))
          | (go_at_call 17; (with_reducible refine (HW0.out _ _ _ _ hD).mono ?_); rintro e wn ⟨rfl, hD, hT⟩; have him := him.of_turn hT (by omega); have HB := hidep (HB.out.trans (hT.below hz1 HB.out.size)))
          | (go_at_call 15; refine (HIM.out _ _ _ _ hD).mono ?_; rintro e wi ⟨g2, rfl, hg2, him2, hb⟩; have hD := hD.below hb; have him := him.below hb; have HB := hidep (HB.out.trans (hb.mono HB.out.size)))
          | (go_at_call 21; refine (HST.out _ _ _ (H33.out _ _ him) (H33.out _ _ him2)).mono ?_; rintro e wn ⟨rfl, hb⟩; have hD := hD.below hb; have HB := hidep (HB.out.trans (hb.mono HB.out.size)))
          | (go_at_call 22; refine (HPE.out _ _ _ _ hD).mono ?_; rintro e wn ⟨ap, cp, rfl, hb⟩; have hD := hD.below hb; have HB := hidep (HB.out.trans (hb.mono HB.out.size)))
          | (go_at_call 23; refine (HWN.out _ _ _ _ hD).mono ?_; rintro e wn ⟨ap, cp, rfl, hb⟩; have hD := hD.below hb; have HB := hidep (HB.out.trans (hb.mono HB.out.size)))
          | fail)
        go_ret
        exact ⟨ret_val (by simp), HB.out⟩
    · replace HRD := hidep (HRD.out (.inr hi1))
      replace HWR := hidep (HWR.out (.inr hi1))
      replace HRO := hidep (HRO.out (.inr hi1))
      replace HWE := hidep (HWE.out (.inr hi1))
      by_cases h64 : s.size = 64
      · clear HW0
        have h64i : (s.size : Int) = 64 := by omega
        go_wp2_with (first
          | (go_at_call 16; refine (HRD.out _ _ _ _ hD).mono ?_; rintro e wn ⟨rfl, hb⟩; have hD := hD.below hb; have him := him.below hb; have HB := hidep (HB.out.trans (hb.mono HB.out.size)))
          | (go_at_call 18; refine (HFU.out _).mono ?_; rintro e wn ⟨rfl, hb⟩; have hD := hD.below hb; have him := him.below hb; have HB := hidep (HB.out.trans (hb.mono HB.out.size)))
          | (go_at_call 17; (with_reducible refine (HWR.out _ _ _ _ hD).mono ?_); rintro e wn ⟨rfl, hD, hT⟩; have him := him.of_turn hT (by omega); have HB := hidep (HB.out.trans (hT.below hz1 HB.out.size)))
          | (go_at_call 19; refine (HRO.out _ _ _ _ hD).mono ?_; rintro e wn ⟨rfl, hD, hT⟩; have him := him.of_turn hT (by omega); have HB := hidep (HB.out.trans (hT.below hz1 HB.out.size)))
          | (go_at_call 20; refine (HWE.out _ _ _ _ hD).mono ?_; rintro e wn ⟨rfl, hD, hT⟩; have him := him.of_turn hT (by omega); have HB := hidep (HB.out.trans (hT.below hz1 HB.out.size)))
          | (go_at_call 17; (with_reducible refine (HW0.out _ _ _ _ hD).mono ?_); rintro e wn ⟨rfl, hD, hT⟩; have him := him.of_turn hT (by omega); have HB := hidep (HB.out.trans (hT.below hz1 HB.out.size)))
          | (go_at_call 15; refine (HIM.out _ _ _ _ hD).mono ?_; rintro e wi ⟨g2, rfl, hg2, him2, hb⟩; have hD := hD.below hb; have him := him.below hb; have HB := hidep (HB.out.trans (hb.mono HB.out.size)))
          | (go_at_call 21; refine (HST.out _ _ _ (H33.out _ _ him) (H33.out _ _ him2)).mono ?_; rintro e wn ⟨rfl, hb⟩; have hD := hD.below hb; have HB := hidep (HB.out.trans (hb.mono HB.out.size)))
          | (go_at_call 22; refine (HPE.out _ _ _ _ hD).mono ?_; rintro e wn ⟨ap, cp, rfl, hb⟩; have hD := hD.below hb; have HB := hidep (HB.out.trans (hb.mono HB.out.size)))
          | (go_at_call 23; refine (HWN.out _ _ _ _ hD).mono ?_; rintro e wn ⟨ap, cp, rfl, hb⟩; have hD := hD.below hb; have HB := hidep (HB.out.trans (hb.mono HB.out.size)))
          | fail)
        go_ret
        exact ⟨ret_val (by simp), HB.out⟩
      · replace HW0 := hidep (HW0.out h64)
        have h64i : ¬ (s.size : Int) = 64 := by omega
        go_wp2_with (first
          | (go_at_call 16; refine (HRD.out _ _ _ _ hD).mono ?_; rintro e wn ⟨rfl, hb⟩; have hD := hD.below hb; have him := him.below hb; have HB := hidep (HB.out.trans (hb.mono HB.out.size)))
          | (go_at_call 18; refine (HFU.out _).mono ?_; rintro e wn ⟨rfl, hb⟩; have hD := hD.below hb; have him := him.below hb; have HB := hidep (HB.out.trans (hb.mono HB.out.size)))
          | (go_at_call 17; (with_reducible refine (HWR.out _ _ _ _ hD).mono ?_); rintro e wn ⟨rfl, hD, hT⟩; have him := him.of_turn hT (by omega); have HB := hidep (HB.out.trans (hT.below hz1 HB.out.size)))
          | (go_at_call 19; refine (HRO.out _ _ _ _ hD).mono ?_; rintro e wn ⟨rfl, hD, hT⟩; have him := him.of_turn hT (by omega); have HB := hidep (HB.out.trans (hT.below hz1 HB.out.size)))
          | (go_at_call 20; refine (HWE.out _ _ _ _ hD).mono ?_; rintro e wn ⟨rfl, hD, hT⟩; have him := him.of_turn hT (by omega); have HB := hidep (HB.out.trans (hT.below hz1 HB.out.size)))
          | (go_at_call 17; (with_reducible refine (HW0.out _ _ _ _ hD).mono ?_); rintro e wn ⟨rfl, hD, hT⟩; have him := him.of_turn hT (by omega); have HB := hidep (HB.out.trans (hT.below hz1 HB.out.size)))
          | (go_at_call 15; refine (HIM.out _ _ _ _ hD).mono ?_; rintro e wi ⟨g2, rfl, hg2, him2, hb⟩; have hD := hD.below hb; have him := him.below hb; have HB := hidep (HB.out.trans (hb.mono HB.out.size)))
          | (go_at_call 21; refine (HST.out _ _ _ (H33.out _ _ him) (H33.out _ _ him2)).mono ?_; rintro e wn ⟨rfl, hb⟩; have hD := hD.below hb; have HB := hidep (HB.out.trans (hb.mono HB.out.size)))
          | (go_at_call 22; refine (HPE.out _ _ _ _ hD).mono ?_; rintro e wn ⟨ap, cp, rfl, hb⟩; have hD := hD.below hb; have HB := hidep (HB.out.trans (hb.mono HB.out.size)))
          | (go_at_call 23; refine (HWN.out _ _ _ _ hD).mono ?_; rintro e wn ⟨ap, cp, rfl, hb⟩; have hD := hD.below hb; have HB := hidep (HB.out.trans (hb.mono HB.out.size)))
          | fail)
        go_ret
        exact ⟨ret_val (by simp), HB.out⟩
    · clear HRD HWR HRO HWE
      by_cases h64 : s.size = 64
      · clear HW0
        have h64i : (s.size : Int) = 64 := by omega
        go_wp2_with (first
          | (go_at_call 16; refine (HRD.out _ _ _ _ hD).mono ?_; rintro e wn ⟨rfl, hb⟩; have hD := hD.below hb; have him := him.below hb; have HB := hidep (HB.out.trans (hb.mono HB.out.size)))
          | (go_at_call 18; refine (HFU.out _).mono ?_; rintro e wn ⟨rfl, hb⟩; have hD := hD.below hb; have him := him.below hb; have HB := hidep (HB.out.trans (hb.mono HB.out.size)))
          | (go_at_call 17; (with_reducible refine (HWR.out _ _ _ _ hD).mono ?_); rintro e wn ⟨rfl, hD, hT⟩; have him := him.of_turn hT (by omega); have HB := hidep (HB.out.trans (hT.below hz1 HB.out.size)))
          | (go_at_call 19; refine (HRO.out _ _ _ _ hD).mono ?_; rintro e wn ⟨rfl, hD, hT⟩; have him := him.of_turn hT (by omega); have HB := hidep (HB.out.trans (hT.below hz1 HB.out.size)))
          | (go_at_call 20; refine (HWE.out _ _ _ _ hD).mono ?_; rintro e wn ⟨rfl, hD, hT⟩; have him := him.of_turn hT (by omega); have HB := hidep (HB.out.trans (hT.below hz1 HB.out.size)))
          | (go_at_call 17; (with_reducible refine (HW0.out _ _ _ _ hD).mono ?_); rintro e wn ⟨rfl, hD, hT⟩; have him := him.of_turn hT (by omega); have HB := hidep (HB.out.trans (hT.below hz1 HB.out.size)))
          | (go_at_call 15; refine (HIM.out _ _ _ _ hD).mono ?_; rintro e wi ⟨g2, rfl, hg2, him2, hb⟩; have hD := hD.below hb; have him := him.below hb; have HB := hidep (HB.out.trans (hb.mono HB.out.size)))
          | (go_at_call 21; refine (HST.out _ _ _ (H33.out _ _ him) (H33.out _ _ him2)).mono ?_; rintro e wn ⟨rfl, hb⟩; have hD := hD.below hb; have HB := hidep (HB.out.trans (hb.mono HB.out.size)))
          | (go_at_call 22; refine (HPE.out _ _ _ _ hD).mono ?_; rintro e wn ⟨ap, cp, rfl, hb⟩; have hD := hD.below hb; have HB := hidep (HB.out.trans (hb.mono HB.out.size)))
          | (go_at_call 23; refine (HWN.out _ _ _ _ hD).mono ?_; rintro e wn ⟨ap, cp, rfl, hb⟩; have hD := hD.below hb; have HB := hidep (HB.out.trans (hb.mono HB.out.size)))
          | fail)
        go_ret
        exact ⟨ret_val (by simp), HB.out⟩
      · replace HW0 := hidep (HW0.out h64)
        have h64i : ¬ (s.size : Int) = 64 := by omega
        go_wp2_with (first
          | (go_at_call 16; refine (HRD.out _ _ _ _ hD).mono ?_; rintro e wn ⟨rfl, hb⟩; have hD := hD.below hb; have him := him.below hb; have HB := hidep (HB.out.trans (hb.mono HB.out.size)))
          | (go_at_call 18; refine (HFU.out _).mono ?_; rintro e wn ⟨rfl, hb⟩; have hD := hD.below hb; have him := him.below hb; have HB := hidep (HB.out.trans (hb.mono HB.out.size)))
          | (go_at_call 17; (with_reducible refine (HWR.out _ _ _ _ hD).mono ?_); rintro e wn ⟨rfl, hD, hT⟩; have him := him.of_turn hT (by omega); have HB := hidep (HB.out.trans (hT.below hz1 HB.out.size)))
          | (go_at_call 19; refine (HRO.out _ _ _ _ hD).mono ?_; rintro e wn ⟨rfl, hD, hT⟩; have him := him.of_turn hT (by omega); have HB := hidep (HB.out.trans (hT.below hz1 HB.out.size)))
          | (go_at_call 20; refine (HWE.out _ _ _ _ hD).mono ?_; rintro e wn ⟨rfl, hD, hT⟩; have him := him.of_turn hT (by omega); have HB := hidep (HB.out.trans (hT.below hz1 HB.out.size)))
          | (go_at_call 17; (with_reducible refine (HW0.out _ _ _ _ hD).mono ?_); rintro e wn ⟨rfl, hD, hT⟩; have him := him.of_turn hT (by omega); have HB := hidep (HB.out.trans (hT.below hz1 HB.out.size)))
          | (go_at_call 15; refine (HIM.out _ _ _ _ hD).mono ?_; rintro e wi ⟨g2, rfl, hg2, him2, hb⟩; have hD := hD.below hb; have him := him.below hb; have HB := hidep (HB.out.trans (hb.mono HB.out.size)))
          | (go_at_call 21; refine (HST.out _ _ _ (H33.out _ _ him) (H33.out _ _ him2)).mono ?_; rintro e wn ⟨rfl, hb⟩; have hD := hD.below hb; have HB := hidep (HB.out.trans (hb.mono HB.out.size)))
          | (go_at_call 22; refine (HPE.out _ _ _ _ hD).mono ?_; rintro e wn ⟨ap, cp, rfl, hb⟩; have hD := hD.below hb; have HB := hidep (HB.out.trans (hb.mono HB.out.size)))
          | (go_at_call 23; refine (HWN.out _ _ _ _ hD).mono ?_; rintro e wn ⟨ap, cp, rfl, hb⟩; have hD := hD.below hb; have HB := hidep (HB.out.trans (hb.mono HB.out.size)))
          | fail)
        go_ret
        exact ⟨ret_val (by simp), HB.out⟩
  · replace HNB := hidep (fun X => HNB.out X (.inr hn))
    go_enter Try.func4, Try.ntmps4
    go_upto_region 6 with (first
      | (go_at_call 9; refine (HSAN.out _).mono ?_; rintro e w1 ⟨rfl, hb1⟩)
      | (go_at_call 14; (with_reducible refine (HNB.out _).mono ?_); rintro e w2 ⟨rfl, rfl⟩)
      | (go_at_call 14; (with_reducible refine (HN3.out _).mono ?_); rintro e w3 ⟨p, rfl, hD, hb3⟩; obtain ⟨b, rfl⟩ := hD.ptr)
      | fail)
    have hrng := hD.rng
    have hz1 := hb1.size
    have HB := hidep (hb1.trans (hb3.mono hb1.size))
    clear hb1 hb3 HNB HN3 HSAN
    generalize hlo : w1.heap.size = lo at *
    generalize hhi : w3.heap.size = hi at *
    go_upto_region 9 with (go_at_call 15; refine (HIM.out _ _ _ _ hD).mono ?_; rintro e w4 ⟨g, rfl, hg, him, hb⟩; have hD := hD.below hb; have HB := hidep (HB.out.trans (hb.mono HB.out.size)))
    rw [hhi] at hg
    clear hb hlo hhi
    rcases (by omega : i < 0 ∨ (¬ i < 0 ∧ 2 < i) ∨ (¬ i < 0 ∧ ¬ 2 < i)) with hi1 | ⟨hi0, hi1⟩ | ⟨hi0, hi1⟩
    · replace HRD := hidep (HRD.out (.inl hi1))
      replace HWR := hidep (HWR.out (.inl hi1))
      replace HRO := hidep (HRO.out (.inl hi1))
      replace HWE := hidep (HWE.out (.inl hi1))
      by_cases h64 : s.size = 64
      · clear HW0
        have h64i : (s.size : Int) = 64 := by omega
        go_wp2_with (first
          | (go_at_call 16; refine (HRD.out _ _ _ _ hD).mono ?_; rintro e wn ⟨rfl, hb⟩; have hD := hD.below hb; have him := him.below hb; have HB := hidep (HB.out.trans (hb.mono HB.out.size)))
          | (go_at_call 18; refine (HFU.out _).mono ?_; rintro e wn ⟨rfl, hb⟩; have hD := hD.below hb; have him := him.below hb; have HB := hidep (HB.out.trans (hb.mono HB.out.size)))
          | (go_at_call 17; (with_reducible refine (HWR.out _ _ _ _ hD).mono ?_); rintro e wn ⟨rfl, hD, hT⟩; have him := him.of_turn hT (by omega); have HB := hidep (HB.out.trans (hT.below hz1 HB.out.size)))
          | (go_at_call 19; refine (HRO.out _ _ _ _ hD).mono ?_; rintro e wn ⟨rfl, hD, hT⟩; have him := him.of_turn hT (by omega); have HB := hidep (HB.out.trans (hT.below hz1 HB.out.size)))
          | (go_at_call 20; refine (HWE.out _ _ _ _ hD).mono ?_; rintro e wn ⟨rfl, hD, hT⟩; have him := him.of_turn hT (by omega); have HB := hidep (HB.out.trans (hT.below hz1 HB.out.size)))
          | (go_at_call 17; (with_reducible refine (HW0.out _ _ _ _ hD).mono ?_); rintro e wn ⟨rfl, hD, hT⟩; have him := him.of_turn hT (by omega); have HB := hidep (HB.out.trans (hT.below hz1 HB.out.size)))
          | (go_at_call 15; refine (HIM.out _ _ _ _ hD).mono ?_; rintro e wi ⟨g2, rfl, hg2, him2, hb⟩; have hD := hD.below hb; have him := him.below hb; have HB := hidep (HB.out.trans (hb.mono HB.out.size)))
          | (go_at_call 21; refine (HST.out _ _ _ (H33.out _ _ him) (H33.out _ _ him2)).mono ?_; rintro e wn ⟨rfl, hb⟩; have hD := hD.below hb; have HB := hidep (HB.out.trans (hb.mono HB.out.size)))
          | (go_at_call 22; refine (HPE.out _ _ _ _ hD).mono ?_; rintro e wn ⟨ap, cp, rfl, hb⟩; have hD := hD.below hb; have HB := hidep (HB.out.trans (hb.mono HB.out.size)))
          | (go_at_call 23; refine (HWN.out _ _ _ _ hD).mono ?_; rintro e wn ⟨ap, cp, rfl, hb⟩; have hD := hD.below hb; have HB := hidep (HB.out.trans (hb.mono HB.out.size)))
          | fail)
        go_ret
        exact ⟨ret_val (by simp), HB.out⟩
      · replace HW0 := hidep (HW0.out h64)
        have h64i : ¬ (s.size : Int) = 64 := by omega
        go_wp2_with (first
          | (go_at_call 16; refine (HRD.out _ _ _ _ hD).mono ?_; rintro e wn ⟨rfl, hb⟩; have hD := hD.below hb; have him := him.below hb; have HB := hidep (HB.out.trans (hb.mono HB.out.size)))
          | (go_at_call 18; refine (HFU.out _).mono ?_; rintro e wn ⟨rfl, hb⟩; have hD := hD.below hb; have him := him.below hb; have HB := hidep (HB.out.trans (hb.mono HB.out.size)))
          | (go_at_call 17; (with_reducible refine (HWR.out _ _ _ _ hD).mono ?_); rintro e wn ⟨rfl, hD, hT⟩; have him := him.of_turn hT (by omega); have HB := hidep (HB.out.trans (hT.below hz1 HB.out.size)))
          | (go_at_call 19; refine (HRO.out _ _ _ _ hD).mono ?_; rintro e wn ⟨rfl, hD, hT⟩; have him := him.of_turn hT (by omega); have HB := hidep (HB.out.trans (hT.below hz1 HB.out.size)))
          | (go_at_call 20; refine (HWE.out _ _ _ _ hD).mono ?_; rintro e wn ⟨rfl, hD, hT⟩; have him := him.of_turn hT (by omega); have HB := hidep (HB.out.trans (hT.below hz1 HB.out.size)))
          | (go_at_call 17; (with_reducible refine (HW0.out _ _ _ _ hD).mono ?_); rintro e wn ⟨rfl, hD, hT⟩; have him := him.of_turn hT (by omega); have HB := hidep (HB.out.trans (hT.below hz1 HB.out.size)))
          | (go_at_call 15; refine (HIM.out _ _ _ _ hD).mono ?_; rintro e wi ⟨g2, rfl, hg2, him2, hb⟩; have hD := hD.below hb; have him := him.below hb; have HB := hidep (HB.out.trans (hb.mono HB.out.size)))
          | (go_at_call 21; refine (HST.out _ _ _ (H33.out _ _ him) (H33.out _ _ him2)).mono ?_; rintro e wn ⟨rfl, hb⟩; have hD := hD.below hb; have HB := hidep (HB.out.trans (hb.mono HB.out.size)))
          | (go_at_call 22; refine (HPE.out _ _ _ _ hD).mono ?_; rintro e wn ⟨ap, cp, rfl, hb⟩; have hD := hD.below hb; have HB := hidep (HB.out.trans (hb.mono HB.out.size)))
          | (go_at_call 23; refine (HWN.out _ _ _ _ hD).mono ?_; rintro e wn ⟨ap, cp, rfl, hb⟩; have hD := hD.below hb; have HB := hidep (HB.out.trans (hb.mono HB.out.size)))
          | fail)
        go_ret
        exact ⟨ret_val (by simp), HB.out⟩
    · replace HRD := hidep (HRD.out (.inr hi1))
      replace HWR := hidep (HWR.out (.inr hi1))
      replace HRO := hidep (HRO.out (.inr hi1))
      replace HWE := hidep (HWE.out (.inr hi1))
      by_cases h64 : s.size = 64
      · clear HW0
        have h64i : (s.size : Int) = 64 := by omega
        go_wp2_with (first
          | (go_at_call 16; refine (HRD.out _ _ _ _ hD).mono ?_; rintro e wn ⟨rfl, hb⟩; have hD := hD.below hb; have him := him.below hb; have HB := hidep (HB.out.trans (hb.mono HB.out.size)))
          | (go_at_call 18; refine (HFU.out _).mono ?_; rintro e wn ⟨rfl, hb⟩; have hD := hD.below hb; have him := him.below hb; have HB := hidep (HB.out.trans (hb.mono HB.out.size)))
          | (go_at_call 17; (with_reducible refine (HWR.out _ _ _ _ hD).mono ?_); rintro e wn ⟨rfl, hD, hT⟩; have him := him.of_turn hT (by omega); have HB := hidep (HB.out.trans (hT.below hz1 HB.out.size)))
          | (go_at_call 19; refine (HRO.out _ _ _ _ hD).mono ?_; rintro e wn ⟨rfl, hD, hT⟩; have him := him.of_turn hT (by omega); have HB := hidep (HB.out.trans (hT.below hz1 HB.out.size)))
          | (go_at_call 20; refine (HWE.out _ _ _ _ hD).mono ?_; rintro e wn ⟨rfl, hD, hT⟩; have him := him.of_turn hT (by omega); have HB := hidep (HB.out.trans (hT.below hz1 HB.out.size)))
          | (go_at_call 17; (with_reducible refine (HW0.out _ _ _ _ hD).mono ?_); rintro e wn ⟨rfl, hD, hT⟩; have him := him.of_turn hT (by omega); have HB := hidep (HB.out.trans (hT.below hz1 HB.out.size)))
          | (go_at_call 15; refine (HIM.out _ _ _ _ hD).mono ?_; rintro e wi ⟨g2, rfl, hg2, him2, hb⟩; have hD := hD.below hb; have him := him.below hb; have HB := hidep (HB.out.trans (hb.mono HB.out.size)))
          | (go_at_call 21; refine (HST.out _ _ _ (H33.out _ _ him) (H33.out _ _ him2)).mono ?_; rintro e wn ⟨rfl, hb⟩; have hD := hD.below hb; have HB := hidep (HB.out.trans (hb.mono HB.out.size)))
          | (go_at_call 22; refine (HPE.out _ _ _ _ hD).mono ?_; rintro e wn ⟨ap, cp, rfl, hb⟩; have hD := hD.below hb; have HB := hidep (HB.out.trans (hb.mono HB.out.size)))
          | (go_at_call 23; refine (HWN.out _ _ _ _ hD).mono ?_; rintro e wn ⟨ap, cp, rfl, hb⟩; have hD := hD.below hb; have HB := hidep (HB.out.trans (hb.mono HB.out.size)))
          | fail)
        go_ret
        exact ⟨ret_val (by simp), HB.out⟩
      · replace HW0 := hidep (HW0.out h64)
        have h64i : ¬ (s.size : Int) = 64 := by omega
        go_wp2_with (first
          | (go_at_call 16; refine (HRD.out _ _ _ _ hD).mono ?_; rintro e wn ⟨rfl, hb⟩; have hD := hD.below hb; have him := him.below hb; have HB := hidep (HB.out.trans (hb.mono HB.out.size)))
          | (go_at_call 18; refine (HFU.out _).mono ?_; rintro e wn ⟨rfl, hb⟩; have hD := hD.below hb; have him := him.below hb; have HB := hidep (HB.out.trans (hb.mono HB.out.size)))
          | (go_at_call 17; (with_reducible refine (HWR.out _ _ _ _ hD).mono ?_); rintro e wn ⟨rfl, hD, hT⟩; have him := him.of_turn hT (by omega); have HB := hidep (HB.out.trans (hT.below hz1 HB.out.size)))
          | (go_at_call 19; refine (HRO.out _ _ _ _ hD).mono ?_; rintro e wn ⟨rfl, hD, hT⟩; have him := him.of_turn hT (by omega); have HB := hidep (HB.out.trans (hT.below hz1 HB.out.size)))
          | (go_at_call 20; refine (HWE.out _ _ _ _ hD).mono ?_; rintro e wn ⟨rfl, hD, hT⟩; have him := him.of_turn hT (by omega); have HB := hidep (HB.out.trans (hT.below hz1 HB.out.size)))
          | (go_at_call 17; (with_reducible refine (HW0.out _ _ _ _ hD).mono ?_); rintro e wn ⟨rfl, hD, hT⟩; have him := him.of_turn hT (by omega); have HB := hidep (HB.out.trans (hT.below hz1 HB.out.size)))
          | (go_at_call 15; refine (HIM.out _ _ _ _ hD).mono ?_; rintro e wi ⟨g2, rfl, hg2, him2, hb⟩; have hD := hD.below hb; have him := him.below hb; have HB := hidep (HB.out.trans (hb.mono HB.out.size)))
          | (go_at_call 21; refine (HST.out _ _ _ (H33.out _ _ him) (H33.out _ _ him2)).mono ?_; rintro e wn ⟨rfl, hb⟩; have hD := hD.below hb; have HB := hidep (HB.out.trans (hb.mono HB.out.size)))
          | (go_at_call 22; refine (HPE.out _ _ _ _ hD).mono ?_; rintro e wn ⟨ap, cp, rfl, hb⟩; have hD := hD.below hb; have HB := hidep (HB.out.trans (hb.mono HB.out.size)))
          | (go_at_call 23; refine (HWN.out _ _ _ _ hD).mono ?_; rintro e wn ⟨ap, cp, rfl, hb⟩; have hD := hD.below hb; have HB := hidep (HB.out.trans (hb.mono HB.out.size)))
          | fail)
        go_ret
        exact ⟨ret_val (by simp), HB.out⟩
    · clear HRD HWR HRO HWE
      by_cases h64 : s.size = 64
      · clear HW0
        have h64i : (s.size : Int) = 64 := by omega
        go_wp2_with (first
          | (go_at_call 16; refine (HRD.out _ _ _ _ hD).mono ?_; rintro e wn ⟨rfl, hb⟩; have hD := hD.below hb; have him := him.below hb; have HB := hidep (HB.out.trans (hb.mono HB.out.size)))
          | (go_at_call 18; refine (HFU.out _).mono ?_; rintro e wn ⟨rfl, hb⟩; have hD := hD.below hb; have him := him.below hb; have HB := hidep (HB.out.trans (hb.mono HB.out.size)))
          | (go_at_call 17; (with_reducible refine (HWR.out _ _ _ _ hD).mono ?_); rintro e wn ⟨rfl, hD, hT⟩; have him := him.of_turn hT (by omega); have HB := hidep (HB.out.trans (hT.below hz1 HB.out.size)))
          | (go_at_call 19; refine (HRO.out _ _ _ _ hD).mono ?_; rintro e wn ⟨rfl, hD, hT⟩; have him := him.of_turn hT (by omega); have HB := hidep (HB.out.trans (hT.below hz1 HB.out.size)))
          | (go_at_call 20; refine (HWE.out _ _ _ _ hD).mono ?_; rintro e wn ⟨rfl, hD, hT⟩; have him := him.of_turn hT (by omega); have HB := hidep (HB.out.trans (hT.below hz1 HB.out.size)))
          | (go_at_call 17; (with_reducible refine (HW0.out _ _ _ _ hD).mono ?_); rintro e wn ⟨rfl, hD, hT⟩; have him := him.of_turn hT (by omega); have HB := hidep (HB.out.trans (hT.below hz1 HB.out.size)))
          | (go_at_call 15; refine (HIM.out _ _ _ _ hD).mono ?_; rintro e wi ⟨g2, rfl, hg2, him2, hb⟩; have hD := hD.below hb; have him := him.below hb; have HB := hidep (HB.out.trans (hb.mono HB.out.size)))
          | (go_at_call 21; refine (HST.out _ _ _ (H33.out _ _ him) (H33.out _ _ him2)).mono ?_; rintro e wn ⟨rfl, hb⟩; have hD := hD.below hb; have HB := hidep (HB.out.trans (hb.mono HB.out.size)))
          | (go_at_call 22; refine (HPE.out _ _ _ _ hD).mono ?_; rintro e wn ⟨ap, cp, rfl, hb⟩; have hD := hD.below hb; have HB := hidep (HB.out.trans (hb.mono HB.out.size)))
          | (go_at_call 23; refine (HWN.out _ _ _ _ hD).mono ?_; rintro e wn ⟨ap, cp, rfl, hb⟩; have hD := hD.below hb; have HB := hidep (HB.out.trans (hb.mono HB.out.size)))
          | fail)
        go_ret
        exact ⟨ret_val (by simp), HB.out⟩
      · replace HW0 := hidep (HW0.out h64)
        have h64i : ¬ (s.size : Int) = 64 := by omega
        go_wp2_with (first
          | (go_at_call 16; refine (HRD.out _ _ _ _ hD).mono ?_; rintro e wn ⟨rfl, hb⟩; have hD := hD.below hb; have him := him.below hb; have HB := hidep (HB.out.trans (hb.mono HB.out.size)))
          | (go_at_call 18; refine (HFU.out _).mono ?_; rintro e wn ⟨rfl, hb⟩; have hD := hD.below hb; have him := him.below hb; have HB := hidep (HB.out.trans (hb.mono HB.out.size)))
          | (go_at_call 17; (with_reducible refine (HWR.out _ _ _ _ hD).mono ?_); rintro e wn ⟨rfl, hD, hT⟩; have him := him.of_turn hT (by omega); have HB := hidep (HB.out.trans (hT.below hz1 HB.out.size)))
          | (go_at_call 19; refine (HRO.out _ _ _ _ hD).mono ?_; rintro e wn ⟨rfl, hD, hT⟩; have him := him.of_turn hT (by omega); have HB := hidep (HB.out.trans (hT.below hz1 HB.out.size)))
          | (go_at_call 20; refine (HWE.out _ _ _ _ hD).mono ?_; rintro e wn ⟨rfl, hD, hT⟩; have him := him.of_turn hT (by omega); have HB := hidep (HB.out.trans (hT.below hz1 HB.out.size)))
          | (go_at_call 17; (with_reducible refine (HW0.out _ _ _ _ hD).mono ?_); rintro e wn ⟨rfl, hD, hT⟩; have him := him.of_turn hT (by omega); have HB := hidep (HB.out.trans (hT.below hz1 HB.out.size)))
          | (go_at_call 15; refine (HIM.out _ _ _ _ hD).mono ?_; rintro e wi ⟨g2, rfl, hg2, him2, hb⟩; have hD := hD.below hb; have him := him.below hb; have HB := hidep (HB.out.trans (hb.mono HB.out.size)))
          | (go_at_call 21; refine (HST.out _ _ _ (H33.out _ _ him) (H33.out _ _ him2)).mono ?_; rintro e wn ⟨rfl, hb⟩; have hD := hD.below hb; have HB := hidep (HB.out.trans (hb.mono HB.out.size)))
          | (go_at_call 22; refine (HPE.out _ _ _ _ hD).mono ?_; rintro e wn ⟨ap, cp, rfl, hb⟩; have hD := hD.below hb; have HB := hidep (HB.out.trans (hb.mono HB.out.size)))
          | (go_at_call 23; refine (HWN.out _ _ _ _ hD).mono ?_; rintro e wn ⟨ap, cp, rfl, hb⟩; have hD := hD.below hb; have HB := hidep (HB.out.trans (hb.mono HB.out.size)))
          | fail)
        go_ret
        exact ⟨ret_val (by simp), HB.out⟩
  · clear HNB
    have HNB : Hid (∀ X, Calls Try.prog 14 #[.int .i64 (-1)] X fun e w' => e = .returned (.tuple #[.pointer none, .int .i64 1]) ∧ X = w') := hidep (fun X => new_bad (-1) X (.inl (by omega)))
    go_enter Try.func4, Try.ntmps4
    go_upto_region 6 with (first
      | (go_at_call 9; refine (HSAN.out _).mono ?_; rintro e w1 ⟨rfl, hb1⟩)
      | (go_at_call 14; (with_reducible refine (HNB.out _).mono ?_); rintro e w2 ⟨rfl, rfl⟩)
      | (go_at_call 14; (with_reducible refine (HN3.out _).mono ?_); rintro e w3 ⟨p, rfl, hD, hb3⟩; obtain ⟨b, rfl⟩ := hD.ptr)
      | fail)
    have hrng := hD.rng
    have hz1 := hb1.size
    have HB := hidep (hb1.trans (hb3.mono hb1.size))
    clear hb1 hb3 HNB HN3 HSAN
    generalize hlo : w1.heap.size = lo at *
    generalize hhi : w3.heap.size = hi at *
    go_upto_region 9 with (go_at_call 15; refine (HIM.out _ _ _ _ hD).mono ?_; rintro e w4 ⟨g, rfl, hg, him, hb⟩; have hD := hD.below hb; have HB := hidep (HB.out.trans (hb.mono HB.out.size)))
    rw [hhi] at hg
    clear hb hlo hhi
    rcases (by omega : i < 0 ∨ (¬ i < 0 ∧ 2 < i) ∨ (¬ i < 0 ∧ ¬ 2 < i)) with hi1 | ⟨hi0, hi1⟩ | ⟨hi0, hi1⟩
    · replace HRD := hidep (HRD.out (.inl hi1))
      replace HWR := hidep (HWR.out (.inl hi1))
      replace HRO := hidep (HRO.out (.inl hi1))
      replace HWE := hidep (HWE.out (.inl hi1))
      by_cases h64 : s.size = 64
      · clear HW0
        have h64i : (s.size : Int) = 64 := by omega
        go_wp2_with (first
          | (go_at_call 16; refine (HRD.out _ _ _ _ hD).mono ?_; rintro e wn ⟨rfl, hb⟩; have hD := hD.below hb; have him := him.below hb; have HB := hidep (HB.out.trans (hb.mono HB.out.size)))
          | (go_at_call 18; refine (HFU.out _).mono ?_; rintro e wn ⟨rfl, hb⟩; have hD := hD.below hb; have him := him.below hb; have HB := hidep (HB.out.trans (hb.mono HB.out.size)))
          | (go_at_call 17; (with_reducible refine (HWR.out _ _ _ _ hD).mono ?_); rintro e wn ⟨rfl, hD, hT⟩; have him := him.of_turn hT (by omega); have HB := hidep (HB.out.trans (hT.below hz1 HB.out.size)))
          | (go_at_call 19; refine (HRO.out _ _ _ _ hD).mono ?_; rintro e wn ⟨rfl, hD, hT⟩; have him := him.of_turn hT (by omega); have HB := hidep (HB.out.trans (hT.below hz1 HB.out.size)))
          | (go_at_call 20; refine (HWE.out _ _ _ _ hD).mono ?_; rintro e wn ⟨rfl, hD, hT⟩; have him := him.of_turn hT (by omega); have HB := hidep (HB.out.trans (hT.below hz1 HB.out.size)))
          | (go_at_call 17; (with_reducible refine (HW0.out _ _ _ _ hD).mono ?_); rintro e wn ⟨rfl, hD, hT⟩; have him := him.of_turn hT (by omega); have HB := hidep (HB.out.trans (hT.below hz1 HB.out.size)))
          | (go_at_call 15; refine (HIM.out _ _ _ _ hD).mono ?_; rintro e wi ⟨g2, rfl, hg2, him2, hb⟩; have hD := hD.below hb; have him := him.below hb; have HB := hidep (HB.out.trans (hb.mono HB.out.size)))
          | (go_at_call 21; refine (HST.out _ _ _ (H33.out _ _ him) (H33.out _ _ him2)).mono ?_; rintro e wn ⟨rfl, hb⟩; have hD := hD.below hb; have HB := hidep (HB.out.trans (hb.mono HB.out.size)))
          | (go_at_call 22; refine (HPE.out _ _ _ _ hD).mono ?_; rintro e wn ⟨ap, cp, rfl, hb⟩; have hD := hD.below hb; have HB := hidep (HB.out.trans (hb.mono HB.out.size)))
          | (go_at_call 23; refine (HWN.out _ _ _ _ hD).mono ?_; rintro e wn ⟨ap, cp, rfl, hb⟩; have hD := hD.below hb; have HB := hidep (HB.out.trans (hb.mono HB.out.size)))
          | fail)
        go_ret
        exact ⟨ret_val (by simp), HB.out⟩
      · replace HW0 := hidep (HW0.out h64)
        have h64i : ¬ (s.size : Int) = 64 := by omega
        go_wp2_with (first
          | (go_at_call 16; refine (HRD.out _ _ _ _ hD).mono ?_; rintro e wn ⟨rfl, hb⟩; have hD := hD.below hb; have him := him.below hb; have HB := hidep (HB.out.trans (hb.mono HB.out.size)))
          | (go_at_call 18; refine (HFU.out _).mono ?_; rintro e wn ⟨rfl, hb⟩; have hD := hD.below hb; have him := him.below hb; have HB := hidep (HB.out.trans (hb.mono HB.out.size)))
          | (go_at_call 17; (with_reducible refine (HWR.out _ _ _ _ hD).mono ?_); rintro e wn ⟨rfl, hD, hT⟩; have him := him.of_turn hT (by omega); have HB := hidep (HB.out.trans (hT.below hz1 HB.out.size)))
          | (go_at_call 19; refine (HRO.out _ _ _ _ hD).mono ?_; rintro e wn ⟨rfl, hD, hT⟩; have him := him.of_turn hT (by omega); have HB := hidep (HB.out.trans (hT.below hz1 HB.out.size)))
          | (go_at_call 20; refine (HWE.out _ _ _ _ hD).mono ?_; rintro e wn ⟨rfl, hD, hT⟩; have him := him.of_turn hT (by omega); have HB := hidep (HB.out.trans (hT.below hz1 HB.out.size)))
          | (go_at_call 17; (with_reducible refine (HW0.out _ _ _ _ hD).mono ?_); rintro e wn ⟨rfl, hD, hT⟩; have him := him.of_turn hT (by omega); have HB := hidep (HB.out.trans (hT.below hz1 HB.out.size)))
          | (go_at_call 15; refine (HIM.out _ _ _ _ hD).mono ?_; rintro e wi ⟨g2, rfl, hg2, him2, hb⟩; have hD := hD.below hb; have him := him.below hb; have HB := hidep (HB.out.trans (hb.mono HB.out.size)))
          | (go_at_call 21; refine (HST.out _ _ _ (H33.out _ _ him) (H33.out _ _ him2)).mono ?_; rintro e wn ⟨rfl, hb⟩; have hD := hD.below hb; have HB := hidep (HB.out.trans (hb.mono HB.out.size)))
          | (go_at_call 22; refine (HPE.out _ _ _ _ hD).mono ?_; rintro e wn ⟨ap, cp, rfl, hb⟩; have hD := hD.below hb; have HB := hidep (HB.out.trans (hb.mono HB.out.size)))
          | (go_at_call 23; refine (HWN.out _ _ _ _ hD).mono ?_; rintro e wn ⟨ap, cp, rfl, hb⟩; have hD := hD.below hb; have HB := hidep (HB.out.trans (hb.mono HB.out.size)))
          | fail)
        go_ret
        exact ⟨ret_val (by simp), HB.out⟩
    · replace HRD := hidep (HRD.out (.inr hi1))
      replace HWR := hidep (HWR.out (.inr hi1))
      replace HRO := hidep (HRO.out (.inr hi1))
      replace HWE := hidep (HWE.out (.inr hi1))
      by_cases h64 : s.size = 64
      · clear HW0
        have h64i : (s.size : Int) = 64 := by omega
        go_wp2_with (first
          | (go_at_call 16; refine (HRD.out _ _ _ _ hD).mono ?_; rintro e wn ⟨rfl, hb⟩; have hD := hD.below hb; have him := him.below hb; have HB := hidep (HB.out.trans (hb.mono HB.out.size)))
          | (go_at_call 18; refine (HFU.out _).mono ?_; rintro e wn ⟨rfl, hb⟩; have hD := hD.below hb; have him := him.below hb; have HB := hidep (HB.out.trans (hb.mono HB.out.size)))
          | (go_at_call 17; (with_reducible refine (HWR.out _ _ _ _ hD).mono ?_); rintro e wn ⟨rfl, hD, hT⟩; have him := him.of_turn hT (by omega); have HB := hidep (HB.out.trans (hT.below hz1 HB.out.size)))
          | (go_at_call 19; refine (HRO.out _ _ _ _ hD).mono ?_; rintro e wn ⟨rfl, hD, hT⟩; have him := him.of_turn hT (by omega); have HB := hidep (HB.out.trans (hT.below hz1 HB.out.size)))
          | (go_at_call 20; refine (HWE.out _ _ _ _ hD).mono ?_; rintro e wn ⟨rfl, hD, hT⟩; have him := him.of_turn hT (by omega); have HB := hidep (HB.out.trans (hT.below hz1 HB.out.size)))
          | (go_at_call 17; (with_reducible refine (HW0.out _ _ _ _ hD).mono ?_); rintro e wn ⟨rfl, hD, hT⟩; have him := him.of_turn hT (by omega); have HB := hidep (HB.out.trans (hT.below hz1 HB.out.size)))
          | (go_at_call 15; refine (HIM.out _ _ _ _ hD).mono ?_; rintro e wi ⟨g2, rfl, hg2, him2, hb⟩; have hD := hD.below hb; have him := him.below hb; have HB := hidep (HB.out.trans (hb.mono HB.out.size)))
          | (go_at_call 21; refine (HST.out _ _ _ (H33.out _ _ him) (H33.out _ _ him2)).mono ?_; rintro e wn ⟨rfl, hb⟩; have hD := hD.below hb; have HB := hidep (HB.out.trans (hb.mono HB.out.size)))
          | (go_at_call 22; refine (HPE.out _ _ _ _ hD).mono ?_; rintro e wn ⟨ap, cp, rfl, hb⟩; have hD := hD.below hb; have HB := hidep (HB.out.trans (hb.mono HB.out.size)))
          | (go_at_call 23; refine (HWN.out _ _ _ _ hD).mono ?_; rintro e wn ⟨ap, cp, rfl, hb⟩; have hD := hD.below hb; have HB := hidep (HB.out.trans (hb.mono HB.out.size)))
          | fail)
        go_ret
        exact ⟨ret_val (by simp), HB.out⟩
      · replace HW0 := hidep (HW0.out h64)
        have h64i : ¬ (s.size : Int) = 64 := by omega
        go_wp2_with (first
          | (go_at_call 16; refine (HRD.out _ _ _ _ hD).mono ?_; rintro e wn ⟨rfl, hb⟩; have hD := hD.below hb; have him := him.below hb; have HB := hidep (HB.out.trans (hb.mono HB.out.size)))
          | (go_at_call 18; refine (HFU.out _).mono ?_; rintro e wn ⟨rfl, hb⟩; have hD := hD.below hb; have him := him.below hb; have HB := hidep (HB.out.trans (hb.mono HB.out.size)))
          | (go_at_call 17; (with_reducible refine (HWR.out _ _ _ _ hD).mono ?_); rintro e wn ⟨rfl, hD, hT⟩; have him := him.of_turn hT (by omega); have HB := hidep (HB.out.trans (hT.below hz1 HB.out.size)))
          | (go_at_call 19; refine (HRO.out _ _ _ _ hD).mono ?_; rintro e wn ⟨rfl, hD, hT⟩; have him := him.of_turn hT (by omega); have HB := hidep (HB.out.trans (hT.below hz1 HB.out.size)))
          | (go_at_call 20; refine (HWE.out _ _ _ _ hD).mono ?_; rintro e wn ⟨rfl, hD, hT⟩; have him := him.of_turn hT (by omega); have HB := hidep (HB.out.trans (hT.below hz1 HB.out.size)))
          | (go_at_call 17; (with_reducible refine (HW0.out _ _ _ _ hD).mono ?_); rintro e wn ⟨rfl, hD, hT⟩; have him := him.of_turn hT (by omega); have HB := hidep (HB.out.trans (hT.below hz1 HB.out.size)))
          | (go_at_call 15; refine (HIM.out _ _ _ _ hD).mono ?_; rintro e wi ⟨g2, rfl, hg2, him2, hb⟩; have hD := hD.below hb; have him := him.below hb; have HB := hidep (HB.out.trans (hb.mono HB.out.size)))
          | (go_at_call 21; refine (HST.out _ _ _ (H33.out _ _ him) (H33.out _ _ him2)).mono ?_; rintro e wn ⟨rfl, hb⟩; have hD := hD.below hb; have HB := hidep (HB.out.trans (hb.mono HB.out.size)))
          | (go_at_call 22; refine (HPE.out _ _ _ _ hD).mono ?_; rintro e wn ⟨ap, cp, rfl, hb⟩; have hD := hD.below hb; have HB := hidep (HB.out.trans (hb.mono HB.out.size)))
          | (go_at_call 23; refine (HWN.out _ _ _ _ hD).mono ?_; rintro e wn ⟨ap, cp, rfl, hb⟩; have hD := hD.below hb; have HB := hidep (HB.out.trans (hb.mono HB.out.size)))
          | fail)
        go_ret
        exact ⟨ret_val (by simp), HB.out⟩
    · clear HRD HWR HRO HWE
      by_cases h64 : s.size = 64
      · clear HW0
        have h64i : (s.size : Int) = 64 := by omega
        go_wp2_with (first
          | (go_at_call 16; refine (HRD.out _ _ _ _ hD).mono ?_; rintro e wn ⟨rfl, hb⟩; have hD := hD.below hb; have him := him.below hb; have HB := hidep (HB.out.trans (hb.mono HB.out.size)))
          | (go_at_call 18; refine (HFU.out _).mono ?_; rintro e wn ⟨rfl, hb⟩; have hD := hD.below hb; have him := him.below hb; have HB := hidep (HB.out.trans (hb.mono HB.out.size)))
          | (go_at_call 17; (with_reducible refine (HWR.out _ _ _ _ hD).mono ?_); rintro e wn ⟨rfl, hD, hT⟩; have him := him.of_turn hT (by omega); have HB := hidep (HB.out.trans (hT.below hz1 HB.out.size)))
          | (go_at_call 19; refine (HRO.out _ _ _ _ hD).mono ?_; rintro e wn ⟨rfl, hD, hT⟩; have him := him.of_turn hT (by omega); have HB := hidep (HB.out.trans (hT.below hz1 HB.out.size)))
          | (go_at_call 20; refine (HWE.out _ _ _ _ hD).mono ?_; rintro e wn ⟨rfl, hD, hT⟩; have him := him.of_turn hT (by omega); have HB := hidep (HB.out.trans (hT.below hz1 HB.out.size)))
          | (go_at_call 17; (with_reducible refine (HW0.out _ _ _ _ hD).mono ?_); rintro e wn ⟨rfl, hD, hT⟩; have him := him.of_turn hT (by omega); have HB := hidep (HB.out.trans (hT.below hz1 HB.out.size)))
          | (go_at_call 15; refine (HIM.out _ _ _ _ hD).mono ?_; rintro e wi ⟨g2, rfl, hg2, him2, hb⟩; have hD := hD.below hb; have him := him.below hb; have HB := hidep (HB.out.trans (hb.mono HB.out.size)))
          | (go_at_call 21; refine (HST.out _ _ _ (H33.out _ _ him) (H33.out _ _ him2)).mono ?_; rintro e wn ⟨rfl, hb⟩; have hD := hD.below hb; have HB := hidep (HB.out.trans (hb.mono HB.out.size)))
          | (go_at_call 22; refine (HPE.out _ _ _ _ hD).mono ?_; rintro e wn ⟨ap, cp, rfl, hb⟩; have hD := hD.below hb; have HB := hidep (HB.out.trans (hb.mono HB.out.size)))
          | (go_at_call 23; refine (HWN.out _ _ _ _ hD).mono ?_; rintro e wn ⟨ap, cp, rfl, hb⟩; have hD := hD.below hb; have HB := hidep (HB.out.trans (hb.mono HB.out.size)))
          | fail)
        go_ret
        exact ⟨ret_val (by simp), HB.out⟩
      · replace HW0 := hidep (HW0.out h64)
        have h64i : ¬ (s.size : Int) = 64 := by omega
        go_wp2_with (first
          | (go_at_call 16; refine (HRD.out _ _ _ _ hD).mono ?_; rintro e wn ⟨rfl, hb⟩; have hD := hD.below hb; have him := him.below hb; have HB := hidep (HB.out.trans (hb.mono HB.out.size)))
          | (go_at_call 18; refine (HFU.out _).mono ?_; rintro e wn ⟨rfl, hb⟩; have hD := hD.below hb; have him := him.below hb; have HB := hidep (HB.out.trans (hb.mono HB.out.size)))
          | (go_at_call 17; (with_reducible refine (HWR.out _ _ _ _ hD).mono ?_); rintro e wn ⟨rfl, hD, hT⟩; have him := him.of_turn hT (by omega); have HB := hidep (HB.out.trans (hT.below hz1 HB.out.size)))
          | (go_at_call 19; refine (HRO.out _ _ _ _ hD).mono ?_; rintro e wn ⟨rfl, hD, hT⟩; have him := him.of_turn hT (by omega); have HB := hidep (HB.out.trans (hT.below hz1 HB.out.size)))
          | (go_at_call 20; refine (HWE.out _ _ _ _ hD).mono ?_; rintro e wn ⟨rfl, hD, hT⟩; have him := him.of_turn hT (by omega); have HB := hidep (HB.out.trans (hT.below hz1 HB.out.size)))
          | (go_at_call 17; (with_reducible refine (HW0.out _ _ _ _ hD).mono ?_); rintro e wn ⟨rfl, hD, hT⟩; have him := him.of_turn hT (by omega); have HB := hidep (HB.out.trans (hT.below hz1 HB.out.size)))
          | (go_at_call 15; refine (HIM.out _ _ _ _ hD).mono ?_; rintro e wi ⟨g2, rfl, hg2, him2, hb⟩; have hD := hD.below hb; have him := him.below hb; have HB := hidep (HB.out.trans (hb.mono HB.out.size)))
          | (go_at_call 21; refine (HST.out _ _ _ (H33.out _ _ him) (H33.out _ _ him2)).mono ?_; rintro e wn ⟨rfl, hb⟩; have hD := hD.below hb; have HB := hidep (HB.out.trans (hb.mono HB.out.size)))
          | (go_at_call 22; refine (HPE.out _ _ _ _ hD).mono ?_; rintro e wn ⟨ap, cp, rfl, hb⟩; have hD := hD.below hb; have HB := hidep (HB.out.trans (hb.mono HB.out.size)))
          | (go_at_call 23; refine (HWN.out _ _ _ _ hD).mono ?_; rintro e wn ⟨ap, cp, rfl, hb⟩; have hD := hD.below hb; have HB := hidep (HB.out.trans (hb.mono HB.out.size)))
          | fail)
        go_ret
        exact ⟨ret_val (by simp), HB.out⟩
end Go.Proofs.Ytmgogmjkoealoaa
