/- Plain: the length of a longest common part of two texts, by the places from which they are read. -/
import Derived.Test.YthdafajhohdkoaaTypes
namespace Go.Proofs.Ythdafajhohdkoaa
def lcs : List Sym → List Sym → Nat
  | [], _ => 0
  | _ :: _, [] => 0
  | x :: xs, y :: ys => if x = y then 1 + lcs xs ys else max (lcs xs (y :: ys)) (lcs (x :: xs) ys)
  termination_by a b => a.length + b.length
theorem lcs_nil_left (b : List Sym) : lcs [] b = 0 := by simp [lcs]
theorem lcs_nil_right (a : List Sym) : lcs a [] = 0 := by cases a <;> simp [lcs]
theorem lcs_cons (x y : Sym) (xs ys : List Sym) : lcs (x :: xs) (y :: ys) = if x = y then 1 + lcs xs ys else max (lcs xs (y :: ys)) (lcs (x :: xs) ys) := by rw [lcs]
theorem lcs_le : ∀ (n : Nat) (a b : List Sym), a.length + b.length ≤ n → lcs a b ≤ a.length ∧ lcs a b ≤ b.length
  | 0, a, b, h => by
    have : a = [] := List.eq_nil_of_length_eq_zero (by omega)
    subst this
    simp [lcs_nil_left]
  | n + 1, [], b, _ => by simp [lcs_nil_left]
  | n + 1, x :: xs, [], _ => by simp [lcs_nil_right]
  | n + 1, x :: xs, y :: ys, h => by
    simp only [List.length_cons] at h
    rw [lcs_cons]
    split
    · have := lcs_le n xs ys (by omega)
      simp only [List.length_cons]; omega
    · have h1 := lcs_le n xs (y :: ys) (by simp only [List.length_cons]; omega)
      have h2 := lcs_le n (x :: xs) ys (by simp only [List.length_cons]; omega)
      simp only [List.length_cons] at *; omega
/-- One character more on a side adds at most one. -/
theorem lcs_step : ∀ (n : Nat) (x y : Sym) (xs ys : List Sym), xs.length + ys.length ≤ n →
    lcs xs ys ≤ lcs (x :: xs) ys ∧ lcs (x :: xs) ys ≤ 1 + lcs xs ys ∧ lcs xs ys ≤ lcs xs (y :: ys) ∧ lcs xs (y :: ys) ≤ 1 + lcs xs ys
  | n, x, y, xs, ys, h => by
    cases xs with
    | nil =>
      cases ys with
      | nil => simp [lcs_nil_left, lcs_nil_right]
      | cons z zs =>
        have := (lcs_le _ [x] (z :: zs) (Nat.le_refl _)).1
        simp [lcs_nil_left] at *; omega
    | cons u us =>
      cases ys with
      | nil =>
        have := (lcs_le _ (u :: us) [y] (Nat.le_refl _)).2
        simp [lcs_nil_right] at *; omega
      | cons z zs =>
        match n, h with
        | 0, h => simp at h
        | n + 1, h =>
          simp only [List.length_cons] at h
          have i1 := lcs_step n x z us zs (by omega)
          have i2 := lcs_step n u y us zs (by omega)
          have i3 := lcs_step n u z us zs (by omega)
          have j1 := lcs_step n x y us (z :: zs) (by simp only [List.length_cons]; omega)
          have j2 := lcs_step n x y (u :: us) zs (by simp only [List.length_cons]; omega)
          have c1 := lcs_cons u z us zs
          have c2 := lcs_cons x z (u :: us) zs
          have c3 := lcs_cons u y us (z :: zs)
          have j3 := lcs_step n u y us (z :: zs) (by simp only [List.length_cons]; omega)
          have j4 := lcs_step n x z (u :: us) zs (by simp only [List.length_cons]; omega)
          refine ⟨?_, ?_, ?_, ?_⟩
          · split at c1 <;> split at c2 <;> omega
          · split at c1 <;> split at c2 <;> omega
          · split at c1 <;> split at c3 <;> omega
          · split at c1 <;> split at c3 <;> omega
/-- From place i of the one, k of the other. -/
def lcsM (a b : List Sym) (i k : Nat) : Nat := lcs (a.drop i) (b.drop k)
variable {a b : List Sym} {i k : Nat}
theorem lcsM_end_i (h : a.length ≤ i) : lcsM a b i k = 0 := by unfold lcsM; rw [List.drop_eq_nil_of_le h, lcs_nil_left]
theorem lcsM_end_k (h : b.length ≤ k) : lcsM a b i k = 0 := by unfold lcsM; rw [List.drop_eq_nil_of_le h, lcs_nil_right]
theorem lcsM_step (hi : i < a.length) (hk : k < b.length) : lcsM a b i k = if a[i] = b[k] then 1 + lcsM a b (i + 1) (k + 1) else max (lcsM a b (i + 1) k) (lcsM a b i (k + 1)) := by
  unfold lcsM
  rw [List.drop_eq_getElem_cons hi, List.drop_eq_getElem_cons hk, lcs_cons]
theorem lcsM_le (a b : List Sym) (i k : Nat) : lcsM a b i k ≤ a.length - i ∧ lcsM a b i k ≤ b.length - k := by
  have := lcs_le _ (a.drop i) (b.drop k) (Nat.le_refl _)
  simp only [List.length_drop] at this
  exact this
theorem lcsM_mono (a b : List Sym) (i k : Nat) : lcsM a b (i + 1) k ≤ lcsM a b i k ∧ lcsM a b i k ≤ 1 + lcsM a b (i + 1) k ∧ lcsM a b i (k + 1) ≤ lcsM a b i k ∧ lcsM a b i k ≤ 1 + lcsM a b i (k + 1) := by
  by_cases hi : i < a.length
  · by_cases hk : k < b.length
    · unfold lcsM
      have e1 := List.drop_eq_getElem_cons hi
      have e2 := List.drop_eq_getElem_cons hk
      have h1 := lcs_step _ a[i] b[k] (a.drop (i + 1)) (b.drop k) (Nat.le_refl _)
      have h2 := lcs_step _ a[i] b[k] (a.drop i) (b.drop (k + 1)) (Nat.le_refl _)
      rw [← e1] at h1
      rw [← e2] at h2
      omega
    · have h1 := lcsM_end_k (a := a) (b := b) (i := i) (k := k) (by omega)
      have h2 := lcsM_end_k (a := a) (b := b) (i := i + 1) (k := k) (by omega)
      have h3 := lcsM_end_k (a := a) (b := b) (i := i) (k := k + 1) (by omega)
      omega
  · have h1 := lcsM_end_i (a := a) (b := b) (i := i) (k := k) (by omega)
    have h2 := lcsM_end_i (a := a) (b := b) (i := i + 1) (k := k) (by omega)
    have h3 := lcsM_end_i (a := a) (b := b) (i := i) (k := k + 1) (by omega)
    omega
end Go.Proofs.Ythdafajhohdkoaa
