/- Journal, plain: what a sector of a record reads as; what a whole record reads as. No program in sight. -/
import Derived.Test.YtipbkdlekanlmaaDoorJs21
namespace Go.Jn
open Go Go.Lab Go.Disk Go.Proofs.YtipbkdlekanlmaaDoor
theorem getN_leN : ∀ (m n : Nat), n < 256 ^ m → getN (leN n m) = (n : Int)
  | 0, n, h => by
    have : n = 0 := by simpa using h
    rw [this]; rfl
  | m + 1, n, h => by
    rw [leN, getN, getN_leN m (n / 256) (by rw [Nat.pow_succ] at h; omega)]
    omega
/-- The parts of a sector's bytes. -/
theorem cut4 {A B C E S : List Int} (hA : A.length = 4) (hB : B.length = 2) (hC : C.length = 2) (hE : E.length = 48) :
    ((A ++ (B ++ (C ++ E))) ++ S).take 56 = A ++ (B ++ (C ++ E)) ∧ ((A ++ (B ++ (C ++ E))) ++ S).drop 56 = S ∧ ((A ++ (B ++ (C ++ E))) ++ S).take 4 = A ∧ (((A ++ (B ++ (C ++ E))) ++ S).drop 4).take 2 = B ∧ (((A ++ (B ++ (C ++ E))) ++ S).drop 6).take 2 = C ∧ ∀ k, (A ++ (B ++ (C ++ E))).drop (8 + k) = E.drop k := by
  have h56 : (A ++ (B ++ (C ++ E))).length = 56 := by simp [hA, hB, hC, hE]
  refine ⟨by rw [List.take_left' h56], by rw [List.drop_left' h56], ?_, ?_, ?_, ?_⟩
  · rw [List.append_assoc, List.take_left' hA]
  · rw [List.append_assoc, List.drop_left' hA, List.append_assoc, List.take_left' hB]
  · rw [show (6 : Nat) = 4 + 2 from rfl, ← List.drop_drop, List.append_assoc, List.drop_left' hA, List.append_assoc, List.drop_left' hB, List.append_assoc, List.take_left' hC]
  · intro k
    rw [show 8 + k = 4 + (2 + (2 + k)) from by omega, ← List.drop_drop, List.drop_left' hA, ← List.drop_drop, List.drop_left' hB, ← List.drop_drop, List.drop_left' hC]
theorem nums_secS (num : Nat) (t : ByteArray) (k : Nat) : nums (secS num t k) = secB num (nums t) k := nums_str' (secB_rng _ _ _ (nums_rng t))
theorem size_secS (num : Nat) (t : ByteArray) (k : Nat) : (secS num t k).size = 64 := by rw [← nums_len, nums_secS, secB_len]
/-- What a sector of a record reads as. -/
theorem unp_sec (num : Nat) (t : ByteArray) (k : Nat) (hn : 1 ≤ num ∧ num ≤ 4096) (ht : t.size ≤ 8000) (hk : 48 * k ≤ t.size) (hk0 : 48 * k = t.size → k = 0) :
    unpZ (secS num t k) = ⟨(num : Int), (k : Int), (t.size : Int) - 48 * (k : Int), t.extract (48 * k) (48 * k + min (t.size - 48 * k) 48), true⟩ := by
  have hrl : ((nums t).drop (48 * k)).length = t.size - 48 * k := by rw [List.length_drop, nums_len]
  obtain ⟨R, hR⟩ : ∃ R, R = (nums t).drop (48 * k) := ⟨_, rfl⟩
  rw [← hR] at hrl
  have hE : (R.take 48 ++ List.replicate (48 - R.length) (0 : Int)).length = 48 := by
    rw [List.length_append, List.length_take, List.length_replicate]
    omega
  obtain ⟨c1, c2, c3, c4, c5, c6⟩ := cut4 (A := leN num 4) (B := leN k 2) (C := leN R.length 2) (E := R.take 48 ++ List.replicate (48 - R.length) 0) (S := (sha56 (headB num k R)).take 8) (leN_len _ _) (leN_len _ _) (leN_len _ _) hE
  have hs : secB num (nums t) k = (leN num 4 ++ (leN k 2 ++ (leN R.length 2 ++ (R.take 48 ++ List.replicate (48 - R.length) 0)))) ++ (sha56 (headB num k R)).take 8 := by
    unfold secB sealB
    rw [← hR]
    rfl
  have e1 : numZ (secB num (nums t) k) = (num : Int) := by unfold numZ; rw [hs, c3, getN_leN 4 num (by omega)]
  have e2 : partNo (secB num (nums t) k) = (k : Int) := by unfold partNo; rw [hs, c4, getN_leN 2 k (by omega)]
  have e3 : leftZ (secB num (nums t) k) = (R.length : Int) := by unfold leftZ; rw [hs, c5, getN_leN 2 R.length (by omega)]
  have e4 : payN (secB num (nums t) k) = min R.length 48 := by unfold payN; rw [e3]; omega
  have hb : ¬ badZ (secB num (nums t) k) := by
    unfold badZ
    rw [e1, e2, e3, e4]
    rintro (h | h | h | h | h | h)
    · rw [hs, c1, c2] at h
      exact h rfl
    · omega
    · omega
    · omega
    · omega
    · rw [hs, c1, c6] at h
      apply h
      by_cases hl : R.length ≤ 48
      · rw [Nat.min_eq_left hl, List.take_of_length_le hl, List.drop_left' rfl]
      · rw [Nat.min_eq_right (by omega), show 48 - R.length = 0 from by omega, List.replicate_zero, List.append_nil, List.drop_of_length_le (by rw [List.length_take]; omega)]
  have hpay : (secS num t k).extract 8 (8 + min R.length 48) = t.extract (48 * k) (48 * k + min (t.size - 48 * k) 48) := by
    apply nums_inj
    rw [nums_extract, nums_extract, nums_secS, hs, Nat.add_sub_cancel_left, Nat.add_sub_cancel_left, ← hR, hrl]
    rw [show (8 : Nat) = 4 + (2 + 2) from rfl, ← List.drop_drop, ← List.drop_drop, List.append_assoc, List.drop_left' (leN_len _ _), List.append_assoc, List.drop_left' (leN_len _ _), List.append_assoc, List.drop_left' (leN_len _ _), List.append_assoc]
    rw [List.take_append_of_le_length (by rw [List.length_take, hrl]; omega), List.take_take]
    congr 1
    omega
  unfold unpZ
  rw [if_neg (by rw [size_secS]; simp), nums_secS, if_neg hb, e1, e2, e3, e4, hpay, hrl]
  congr 1
  omega
theorem unp_zeros : unpZ zeros = part0 := by
  unfold unpZ
  rw [if_neg (by decide), if_pos]
  unfold badZ
  right; left
  decide
theorem sec_ne (num : Nat) (t : ByteArray) (k : Nat) (hn : 1 ≤ num ∧ num ≤ 4096) (ht : t.size ≤ 8000) (hk : 48 * k ≤ t.size) (hk0 : 48 * k = t.size → k = 0) : secS num t k ≠ zeros := by
  intro e
  have h := unp_sec num t k hn ht hk hk0
  rw [e, unp_zeros] at h
  have := congrArg PartZ.ok h
  cases this
/-- The sectors of a record. -/
theorem packL_eq (num : Int) (t : ByteArray) (h1 : 1 ≤ num ∧ num ≤ 4096) (h2 : t.size ≤ 8000) : packL num t = (List.range (cntZ t.size).toNat).map (secS num.toNat t) := by
  have he : packE num t = 0 := by
    unfold packE
    rw [if_neg (by omega), if_neg (by omega)]
  unfold packL
  rw [if_pos he]
  unfold packB
  rw [List.map_map, nums_len]
  rfl
theorem cnt_bounds (t : ByteArray) (h : t.size ≤ 8000) (k : Nat) (hk : k < (cntZ t.size).toNat) : 48 * k ≤ t.size ∧ (48 * k = t.size → k = 0) := by
  unfold cntZ at hk
  rw [if_neg (by omega)] at hk
  omega
theorem cnt_pos (t : ByteArray) (h : t.size ≤ 8000) : 1 ≤ (cntZ t.size).toNat ∧ t.size ≤ 48 * (cntZ t.size).toNat := by
  unfold cntZ
  rw [if_neg (by omega)]
  omega
/-- Part k of a record, as it reads. -/
def partK (num : Nat) (t : ByteArray) (k : Nat) : PartZ := ⟨(num : Int), (k : Int), (t.size : Int) - 48 * (k : Int), t.extract (48 * k) (48 * k + min (t.size - 48 * k) 48), true⟩
theorem recAll_own (num : Nat) (t : ByteArray) : ∀ (m k : Nat), recAll (partK num t 0) k ((List.range' k m).map (partK num t)) = true
  | 0, _ => rfl
  | m + 1, k => by
    rw [List.range'_succ, List.map_cons, recAll, recAll_own num t m (k + 1), Bool.and_true]
    simp [recOk, partK]
theorem pay_own (num : Nat) (t : ByteArray) : ∀ m, payAll ((List.range m).map (partK num t)) = t.extract 0 (min t.size (48 * m))
  | 0 => by
    apply nums_inj
    rw [nums_extract]
    simp [payAll, nums]
  | m + 1 => by
    rw [List.range_succ, List.map_append, List.map_singleton, payAll_snoc, pay_own num t m]
    apply nums_inj
    rw [nums_append, nums_extract, nums_extract]
    show _ ++ nums (t.extract _ _) = _
    rw [nums_extract]
    have hl := nums_len t
    generalize nums t = L at hl ⊢
    rw [← hl]
    simp only [List.drop_zero, Nat.sub_zero, Nat.add_sub_cancel_left]
    by_cases h : L.length ≤ 48 * m
    · rw [Nat.min_eq_left h, Nat.min_eq_left (show L.length - 48 * m ≤ 48 from by omega), show L.length - 48 * m = 0 from by omega, List.take_zero, List.append_nil, Nat.min_eq_left (show L.length ≤ 48 * (m + 1) from by omega)]
    · rw [Nat.min_eq_right (by omega)]
      have e : min L.length (48 * (m + 1)) = 48 * m + min (L.length - 48 * m) 48 := by omega
      rw [e, List.take_add]
/-- A whole record reads as its text. -/
theorem rec_whole (num : Nat) (t : ByteArray) (rest : List PartZ) (ht : t.size ≤ 8000) : recordZ ((List.range (cntZ t.size).toNat).map (partK num t) ++ rest) = (t, cntZ t.size, true) := by
  have hc := cnt_pos t ht
  obtain ⟨n, hn⟩ : ∃ n, n = (cntZ t.size).toNat := ⟨_, rfl⟩
  have hcn : cntZ t.size = (n : Int) := by rw [hn]; have := cntZ_rng t.size; omega
  rw [← hn] at hc ⊢
  have hhd : ((List.range n).map (partK num t) ++ rest).headD part0 = partK num t 0 := by
    obtain ⟨m, rfl⟩ : ∃ m, n = m + 1 := ⟨n - 1, by omega⟩
    rw [List.range_succ_eq_map]
    rfl
  unfold recordZ
  simp only [hhd]
  have hl : (partK num t 0).left = (t.size : Int) := by show (t.size : Int) - 48 * ((0 : Nat) : Int) = _; omega
  rw [hl, hcn, if_neg, Int.toNat_natCast, List.take_left' (by simp), List.range_eq_range', if_pos (recAll_own num t n 0), ← List.range_eq_range', pay_own, Nat.min_eq_left hc.2]
  · congr 1
    apply nums_inj
    rw [nums_extract, List.drop_zero, Nat.sub_zero, List.take_of_length_le (by rw [nums_len]; omega)]
  · rintro (h | h | h)
    · cases h
    · exact h rfl
    · rw [List.length_append, List.length_map, List.length_range] at h
      omega
end Go.Jn
