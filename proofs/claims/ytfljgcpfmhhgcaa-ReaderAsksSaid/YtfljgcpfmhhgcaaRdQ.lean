/- Reader: a set of at most eight numbers, as bits, less one of its elements. -/
import Derived.Test.YtfljgcpfmhhgcaaRdP
namespace Go.Proofs.Ytfljgcpfmhhgcaa
open Go.RowKit Go.Lab
set_option maxRecDepth 100000 in
theorem andNot_bit : ∀ s < 256, ∀ k < 8, s.testBit k = true → bits BinOp.andNot IntKind.i64 ((s : Nat) : Int) (IntKind.i64.wrap (2 ^ min k 64)) = ((s - 2 ^ k : Nat) : Int) := by decide +kernel
set_option maxRecDepth 100000 in
theorem sub_testBit : ∀ s < 256, ∀ k < 8, s.testBit k = true → ∀ j < 8, (s - 2 ^ k).testBit j = (s.testBit j && decide (j ≠ k)) := by decide +kernel
set_option maxRecDepth 100000 in
theorem shl_eq : ∀ s < 256, ∀ k < 8, (((s : Nat) : Int) == IntKind.i64.wrap (2 ^ min k 64)) = decide (s = 2 ^ k) := by decide +kernel
set_option maxRecDepth 100000 in
theorem shl_eq2 : ∀ s < 256, ∀ k < 8, (((s : Nat) : Int) == wrap64 (2 ^ k)) = decide (s = 2 ^ k) := by decide +kernel
theorem others_less {s n k : Nat} (hs : s < 256) (hn : n ≤ 8) (hk : k < n) (hb : s.testBit k = true) : othersL (s - 2 ^ k) n (-1) = (othersL s n (-1)).filter fun j => decide (j ≠ k) := by
  unfold othersL
  rw [List.filter_filter]
  refine List.filter_congr (fun j hj => ?_)
  rw [sub_testBit s hs k (by omega) hb j (by simp at hj; omega)]
  cases s.testBit j <;> simp
theorem others_k {s n k : Nat} (hs : s < 256) (hn : n ≤ 8) (hk : k < n) (hb : s.testBit k = true) : othersL s n (k : Int) = othersL (s - 2 ^ k) n (-1) := by
  unfold othersL
  refine List.filter_congr (fun j hj => ?_)
  rw [sub_testBit s hs k (by omega) hb j (by simp at hj; omega)]
  have : decide ((j : Int) ≠ (k : Int)) = decide (j ≠ k) := by
    by_cases h : j = k
    · subst h; simp
    · have : (j : Int) ≠ (k : Int) := by omega
      simp [h, this]
  rw [this]
  cases s.testBit j <;> simp
theorem others_fewer {s n k : Nat} (hs : s < 256) (hn : n ≤ 8) (hk : k ∈ othersL s n (-1)) : (othersL (s - 2 ^ k) n (-1)).length < (othersL s n (-1)).length := by
  obtain ⟨h1, _, h3⟩ := othersL_mem.1 hk
  rw [others_less hs hn h1 h3]
  exact List.length_filter_lt_length_iff_exists.2 ⟨k, hk, by simp⟩
theorem two_pow_lt {n : Nat} (hn : n ≤ 8) : 2 ^ n ≤ 256 := Nat.pow_le_pow_right (n := 2) (by omega) hn
theorem others_zero (n : Nat) (k : Int) : othersL 0 n k = [] := by simp [othersL]
theorem others_ne {s n : Nat} (h0 : s ≠ 0) (hs : s < 2 ^ n) : othersL s n (-1) ≠ [] := by
  intro h
  apply h0
  apply Nat.eq_of_testBit_eq
  intro i
  rw [Nat.zero_testBit]
  by_cases hi : i < n
  · cases hb : s.testBit i with
    | false => rfl
    | true =>
      have : i ∈ othersL s n (-1) := othersL_mem.2 ⟨hi, by omega, hb⟩
      rw [h] at this
      cases this
  · exact Nat.testBit_lt_two_pow (Nat.lt_of_lt_of_le hs (Nat.pow_le_pow_right (by omega) (by omega)))
end Go.Proofs.Ytfljgcpfmhhgcaa
