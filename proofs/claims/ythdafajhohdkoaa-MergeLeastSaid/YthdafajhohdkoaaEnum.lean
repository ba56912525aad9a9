/- Plain: all alignments of two texts, in order; lists of pairs of places as cells. -/
import Derived.Test.YthdafajhohdkoaaLcs
import Derived.Test.YthdafajhohdkoaaPairA
namespace Go.Proofs.Ythdafajhohdkoaa
open Go.RowKit Go.Lab

/-- All alignments of what follows the places i, k: the first component is fuel. -/
def enumP (a b : List Sym) : Nat → Nat → Nat → List (List (Nat × Nat))
  | 0, _, _ => [[]]
  | f + 1, i, k => if lcsM a b i k = 0 then [[]] else
      (List.range' i (a.length - i)).flatMap fun x => (List.range' k (b.length - k)).flatMap fun y =>
        if a[x]? = b[y]? ∧ 1 + lcsM a b (x + 1) (y + 1) = lcsM a b i k then (enumP a b f (x + 1) (y + 1)).map ((x, y) :: ·) else []
theorem enumP_zero {a b : List Sym} {f i k : Nat} (h : lcsM a b i k = 0) : enumP a b f i k = [[]] := by
  cases f with
  | zero => rfl
  | succ f => rw [enumP, if_pos h]
/-- What the place (x, y) gives. -/
def blkP (a b : List Sym) (f i k x y : Nat) : List (List (Nat × Nat)) :=
  if a[x]? = b[y]? ∧ 1 + lcsM a b (x + 1) (y + 1) = lcsM a b i k then (enumP a b f (x + 1) (y + 1)).map ((x, y) :: ·) else []
/-- What the first n places of row x give. -/
def rowP (a b : List Sym) (f i k x n : Nat) : List (List (Nat × Nat)) := (List.range' k n).flatMap (blkP a b f i k x)
/-- What the first n rows give. -/
def rowsP (a b : List Sym) (f i k n : Nat) : List (List (Nat × Nat)) := (List.range' i n).flatMap fun x => rowP a b f i k x (b.length - k)
theorem enumP_succ {a b : List Sym} {f i k : Nat} (h : lcsM a b i k ≠ 0) : enumP a b (f + 1) i k = rowsP a b f i k (a.length - i) := by
  rw [enumP, if_neg h]; rfl
theorem rowP_zero (a b : List Sym) (f i k x : Nat) : rowP a b f i k x 0 = [] := rfl
theorem rowP_succ (a b : List Sym) (f i k x n : Nat) : rowP a b f i k x (n + 1) = rowP a b f i k x n ++ blkP a b f i k x (k + n) := by
  unfold rowP
  rw [List.range'_concat, List.flatMap_append]
  simp
theorem rowsP_zero (a b : List Sym) (f i k : Nat) : rowsP a b f i k 0 = [] := rfl
theorem rowsP_succ (a b : List Sym) (f i k n : Nat) : rowsP a b f i k (n + 1) = rowsP a b f i k n ++ rowP a b f i k (i + n) (b.length - k) := by
  unfold rowsP
  rw [List.range'_concat, List.flatMap_append]
  simp
/-- More fuel than is wanted changes nothing. -/
theorem enumP_fuel {a b : List Sym} : ∀ (f g i k : Nat), a.length - i ≤ f → a.length - i ≤ g → enumP a b f i k = enumP a b g i k
  | 0, g, i, k, hf, _ => by rw [enumP_zero (lcsM_end_i (by omega)), enumP_zero (lcsM_end_i (by omega))]
  | f + 1, 0, i, k, _, hg => by rw [enumP_zero (lcsM_end_i (by omega)), enumP_zero (lcsM_end_i (by omega))]
  | f + 1, g + 1, i, k, hf, hg => by
    by_cases h : lcsM a b i k = 0
    · rw [enumP_zero h, enumP_zero h]
    · rw [enumP_succ h, enumP_succ h]
      unfold rowsP
      have hx : ∀ x ∈ List.range' i (a.length - i), rowP a b f i k x (b.length - k) = rowP a b g i k x (b.length - k) := by
        intro x hx
        have hxi : i ≤ x := by
          obtain ⟨j, _, rfl⟩ := List.mem_range'.1 hx
          omega
        unfold rowP
        congr 1
        funext y
        unfold blkP
        rw [enumP_fuel f g (x + 1) (y + 1) (by omega) (by omega)]
      rw [List.flatMap_def, List.flatMap_def, List.map_congr_left hx]
theorem take_grow {α : Type} {pre more : List α} {n : Nat} (h : n ≤ pre.length) : (pre ++ more).take n = pre.take n := by
  rw [List.take_append_of_le_length h]
theorem take_more {α : Type} {pre more : List α} {n : Nat} (h : pre.length ≤ n) : (pre ++ more).take n = pre ++ more.take (n - pre.length) := by
  rw [List.take_append, List.take_of_length_le h]
theorem blkP_yes {a b : List Sym} {f i k x y : Nat} (hx : x < a.length) (hy : y < b.length) (h : a[x] = b[y]) (h2 : 1 + lcsM a b (x + 1) (y + 1) = lcsM a b i k) :
    blkP a b f i k x y = (enumP a b f (x + 1) (y + 1)).map ((x, y) :: ·) := by
  unfold blkP
  rw [if_pos ⟨by rw [List.getElem?_eq_getElem hx, List.getElem?_eq_getElem hy, h], h2⟩]
theorem blkP_no {a b : List Sym} {f i k x y : Nat} (hx : x < a.length) (hy : y < b.length) (h : a[x] ≠ b[y] ∨ 1 + lcsM a b (x + 1) (y + 1) ≠ lcsM a b i k) :
    blkP a b f i k x y = [] := by
  unfold blkP
  rw [if_neg]
  rintro ⟨h1, h2⟩
  rcases h with h | h
  · rw [List.getElem?_eq_getElem hx, List.getElem?_eq_getElem hy] at h1
    injection h1 with h1
    exact h h1
  · exact h h2
theorem enumP_len {a b : List Sym} : ∀ (f i k : Nat) (p : List (Nat × Nat)), p ∈ enumP a b f i k → p.length ≤ a.length - i
  | 0, i, k, p, h => by
    simp [enumP] at h
    subst h
    simp
  | f + 1, i, k, p, h => by
    by_cases h0 : lcsM a b i k = 0
    · rw [enumP_zero h0] at h
      simp at h
      subst h
      simp
    · rw [enumP_succ h0] at h
      unfold rowsP rowP at h
      obtain ⟨x, hx, h⟩ := List.mem_flatMap.1 h
      obtain ⟨y, hy, h⟩ := List.mem_flatMap.1 h
      obtain ⟨j, hj, rfl⟩ := List.mem_range'.1 hx
      unfold blkP at h
      split at h
      · obtain ⟨q, hq, rfl⟩ := List.mem_map.1 h
        have := enumP_len f _ _ q hq
        simp only [List.length_cons]
        omega
      · cases h
end Go.Proofs.Ythdafajhohdkoaa
