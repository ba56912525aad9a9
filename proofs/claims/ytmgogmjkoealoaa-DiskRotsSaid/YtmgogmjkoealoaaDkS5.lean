/- A rotten bit: the law on plain data. No program in sight. -/
import Derived.Test.YtmgogmjkoealoaaDkS3
import Derived.Test.YtmgogmjkoealoaaDkX
namespace Go.Disk
open Go Go.Proofs.Ytmgogmjkoealoaa
/-- the byte of the string at k -/
def byteN (s : ByteArray) (k : Nat) : Nat := (s.data.toList.getD k 0).toNat
theorem byteN_lt (s : ByteArray) (k : Nat) : byteN s k < 256 := UInt8.toNat_lt _
theorem rotN_lt8 {x k : Nat} (hx : x < 256) (hk : k < 8) : rotN x k < 256 := Nat.xor_lt_two_pow (n := 8) hx (Nat.pow_lt_pow_right (by omega) hk)
theorem byteN_rot {s : ByteArray} {m k : Nat} (hs : s.size = 64) (hm : m ≤ 511) : byteN (rotB s m) k = if k = m / 8 then rotN (byteN s k) (m % 8) else byteN s k := by
  have hl : m / 8 < s.data.toList.length := by
    have : s.data.toList.length = 64 := by rw [Array.length_toList]; exact hs
    omega
  unfold byteN rotB
  simp only
  rw [List.getD_eq_getElem?_getD, List.getElem?_set]
  by_cases hk : k = m / 8
  · subst hk
    rw [if_pos rfl, if_pos hl, if_pos rfl]
    show (UInt8.ofNat _).toNat = _
    rw [UInt8.toNat_ofNat']
    exact Nat.mod_eq_of_lt (rotN_lt8 (UInt8.toNat_lt _) (Nat.mod_lt _ (by omega)))
  · rw [if_neg (fun e => hk e.symm), if_neg hk, List.getD_eq_getElem?_getD]
theorem bytes_eq {s t : ByteArray} (h : s.size = t.size) (hb : ∀ k, byteN s k = byteN t k) : s = t := by
  apply ByteArray.ext
  apply Array.toList_inj.1
  apply List.ext_getElem
  · rw [Array.length_toList, Array.length_toList]; exact h
  · intro k h1 h2
    have := hb k
    unfold byteN at this
    rw [List.getD_eq_getElem?_getD, List.getD_eq_getElem?_getD, List.getElem?_eq_getElem h1, List.getElem?_eq_getElem h2] at this
    exact UInt8.toNat_inj.1 this
theorem rotN_twice (x k : Nat) : rotN (rotN x k) k = x := by
  unfold rotN
  rw [Nat.xor_assoc, Nat.xor_self, Nat.xor_zero]
theorem rotN_diff (x k : Nat) : x ^^^ rotN x k = 2 ^ k := by
  unfold rotN
  rw [← Nat.xor_assoc, Nat.xor_self, Nat.zero_xor]
theorem rotB_twice {s : ByteArray} {m : Nat} (hs : s.size = 64) (hm : m ≤ 511) : rotB (rotB s m) m = s := by
  refine bytes_eq (by rw [rotB_size, rotB_size]) fun k => ?_
  rw [byteN_rot (by rw [rotB_size]; exact hs) hm, byteN_rot hs hm]
  by_cases hk : k = m / 8
  · rw [if_pos hk, if_pos hk, rotN_twice]
  · rw [if_neg hk, if_neg hk]
theorem rotB_ne {s : ByteArray} {m : Nat} (hs : s.size = 64) (hm : m ≤ 511) : rotB s m ≠ s := by
  intro e
  have h1 := byteN_rot (k := m / 8) hs hm
  rw [if_pos rfl, e] at h1
  have h2 := rotN_diff (byteN s (m / 8)) (m % 8)
  rw [← h1, Nat.xor_self] at h2
  have : 0 < 2 ^ (m % 8) := Nat.pow_pos (by omega)
  omega
theorem rotOk_rot (D : Dk) (i bit j b : Int) : rotOk (rotD D i bit) j b = rotOk D j b := by
  unfold rotOk Dk.isIn
  rw [rotD_len]
theorem rot_get {D : Dk} {i m : Nat} (h : rotOk D i m = true) {j : Nat} (hj : j < D.s.length) : (imageZ (rotD D i m))[j]? = some (if j = i then rotB (atS D.s i).text m else (atS D.s j).text) := by
  have e : rotD D i m = { D with s := rotS D.s i m } := by unfold rotD; rw [if_pos h]; rfl
  rw [e]
  show ((rotS D.s i m).map (·.text))[j]? = _
  unfold rotS
  rw [List.getElem?_map, List.getElem?_set]
  have hi := (isIn_lt (rotOk_true h).1).2
  rw [Int.toNat_natCast] at hi
  by_cases hij : j = i
  · subst hij
    rw [if_pos rfl, if_pos hi, if_pos rfl]; rfl
  · rw [if_neg (fun e => hij e.symm), if_neg hij, List.getElem?_eq_getElem hj, atS_get hj]; rfl
theorem rot_twice {D : Dk} (hok : D.Ok) (i bit : Int) : imageZ (rotD (rotD D i bit) i bit) = imageZ D := by
  cases h : rotOk D i bit with
  | false =>
    have e : rotD D i bit = D := by unfold rotD; rw [if_neg (by rw [h]; simp)]
    rw [e, e]
  | true =>
    obtain ⟨h1, h2, h3⟩ := rotOk_true h
    obtain ⟨h4, h5⟩ := isIn_lt h1
    obtain ⟨k, rfl⟩ : ∃ k : Nat, i = (k : Int) := ⟨i.toNat, by omega⟩
    obtain ⟨m, rfl⟩ : ∃ m : Nat, bit = (m : Int) := ⟨bit.toNat, by omega⟩
    rw [Int.toNat_natCast] at h5
    apply List.ext_getElem?
    intro j
    by_cases hj : j < D.s.length
    · rw [rot_get (by rw [rotOk_rot]; exact h) (by rw [rotD_len]; exact hj), image_get hj]
      have hlk : ∀ q, q < D.s.length → (atS (rotD D k m).s q).text = if q = k then rotB (atS D.s k).text m else (atS D.s q).text := fun q hq => by
        have := rot_get h hq
        rw [image_get (by rw [rotD_len]; exact hq)] at this
        injection this
      congr 1
      by_cases hjk : j = k
      · rw [if_pos hjk, hlk k h5, if_pos rfl, hjk]
        exact rotB_twice (hok.1.at h5).1 (by omega)
      · rw [if_neg hjk, hlk j hj, if_neg hjk]
    · rw [List.getElem?_eq_none (by simp [imageZ, rotD_len]; omega), List.getElem?_eq_none (by simp [imageZ]; omega)]
theorem rotOk_no {D : Dk} {i bit : Int} (h : rotOk D i bit = false) : i < 0 ∨ (0 ≤ i ∧ (D.s.length : Int) ≤ i) ∨ (0 ≤ i ∧ i < D.s.length ∧ bit < 0) ∨ (0 ≤ i ∧ i < D.s.length ∧ 0 ≤ bit ∧ 511 < bit) := by
  rcases rotOk_cases h with h | ⟨h, h2⟩ | ⟨h, h2⟩
  · have := isIn_out h; omega
  · have := isIn_lt h; omega
  · have := isIn_lt h; omega
end Go.Disk
