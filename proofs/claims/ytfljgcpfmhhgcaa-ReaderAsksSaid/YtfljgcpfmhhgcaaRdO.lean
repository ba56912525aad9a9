/- Reader: the order of the plan, in plain words: at each place the first fact that lies on a shortest way. -/
import Derived.Test.YtfljgcpfmhhgcaaRdQ
namespace Go.Proofs.Ytfljgcpfmhhgcaa
open Go.RowKit Go.Lab
theorem take_mem {α : Type} {f : α → Int} : ∀ (l : List α) (a : Int), l.foldl (fun a x => takeZ a (f x)) a = a ∨ ∃ x ∈ l, f x = l.foldl (fun a x => takeZ a (f x)) a
  | [], _ => .inl rfl
  | x :: l, a => by
    rw [List.foldl_cons]
    rcases take_mem (f := f) l (takeZ a (f x)) with h | ⟨y, hy, h⟩
    · rw [h]
      unfold takeZ
      split
      · exact .inr ⟨x, List.mem_cons_self .., rfl⟩
      · exact .inl rfl
    · exact .inr ⟨y, List.mem_cons_of_mem _ hy, h⟩
theorem take_attained {α : Type} {f : α → Int} {l : List α} (hl : l ≠ []) : ∃ x ∈ l, f x = l.foldl (fun a x => takeZ a (f x)) (-1) := by
  cases l with
  | nil => exact absurd rfl hl
  | cons x l =>
    rw [List.foldl_cons]
    have h0 : takeZ (-1) (f x) = f x := if_pos (.inl (by omega))
    rw [h0]
    rcases take_mem (f := f) l (f x) with h | ⟨y, hy, h⟩
    · exact ⟨x, List.mem_cons_self .., h.symm⟩
    · exact ⟨y, List.mem_cons_of_mem _ hy, h⟩
def bestP (way : Int) (L : List Pl) (s : Nat) (p : Pl) (k : Nat) : Bool := decide (costZ way p (lp L k) + restV way L (s - 2 ^ k) (lp L k) = restV way L s p)
def orderF (way : Int) (L : List Pl) : Nat → Nat → Pl → List Nat
  | 0, _, _ => []
  | f + 1, s, p => if s = 0 then [] else match (othersL s L.length (-1)).find? (bestP way L s p) with
    | some k => k :: orderF way L f (s - 2 ^ k) (lp L k)
    | none => []
def orderV (way : Int) (L : List Pl) (s : Nat) (p : Pl) : List Nat := orderF way L (s + 1) s p
theorem orderF_stable (way : Int) (L : List Pl) : ∀ (f g s : Nat) (p : Pl), s < f → s < g → orderF way L f s p = orderF way L g s p
  | 0, _, _, _, h, _ => absurd h (Nat.not_lt_zero _)
  | _ + 1, 0, _, _, _, h => absurd h (Nat.not_lt_zero _)
  | f + 1, g + 1, s, p, hf, hg => by
    unfold orderF
    by_cases hs : s = 0
    · rw [if_pos hs, if_pos hs]
    · rw [if_neg hs, if_neg hs]
      cases hk : (othersL s L.length (-1)).find? (bestP way L s p) with
      | none => rfl
      | some k =>
        have hb := bit_ge (othersL_mem.1 (List.mem_of_find?_eq_some hk)).2.2
        have h1 : 0 < 2 ^ k := Nat.two_pow_pos k
        simp only
        rw [orderF_stable way L f g (s - 2 ^ k) (lp L k) (by omega) (by omega)]
theorem orderV_zero (way : Int) (L : List Pl) (p : Pl) : orderV way L 0 p = [] := by rw [orderV, orderF, if_pos rfl]
theorem orderV_eq (way : Int) (L : List Pl) {s k : Nat} {p : Pl} (hs : s ≠ 0) (hk : (othersL s L.length (-1)).find? (bestP way L s p) = some k) : orderV way L s p = k :: orderV way L (s - 2 ^ k) (lp L k) := by
  have hb := bit_ge (othersL_mem.1 (List.mem_of_find?_eq_some hk)).2.2
  have h1 : 0 < 2 ^ k := Nat.two_pow_pos k
  rw [orderV, orderF, if_neg hs, hk]
  simp only
  rw [orderV, orderF_stable way L s (s - 2 ^ k + 1) (s - 2 ^ k) (lp L k) (by omega) (by omega)]
theorem best_some (way : Int) (L : List Pl) {s : Nat} (p : Pl) (hs : s ≠ 0) (hl : s < 2 ^ L.length) : ∃ k ∈ othersL s L.length (-1), bestP way L s p k = true := by
  obtain ⟨k, hk, h⟩ := take_attained (f := fun k => costZ way p (lp L k) + restV way L (s - 2 ^ k) (lp L k)) (others_ne hs hl)
  refine ⟨k, hk, ?_⟩
  unfold bestP
  rw [restV_eq way L s p hs]
  exact decide_eq_true h
/-- The first one that is found, where the ones before it are none. -/
theorem find_first {α : Type} {P : α → Bool} {l pre : List α} {x : α} (h : pre ++ [x] <+: l) (h1 : ∀ y ∈ pre, P y = false) (h2 : P x = true) : l.find? P = some x := by
  obtain ⟨r, rfl⟩ := h
  rw [List.append_assoc, List.find?_append]
  have : pre.find? P = none := List.find?_eq_none.2 (fun y hy => by simp [h1 y hy])
  rw [this]
  simp [h2]
/-- The plan's order: indices of places. -/
def orderZ (way : Int) (L : List Pl) (need : List Int) : List Int := (orderV way L (2 ^ L.length - 1) pl0).map fun k => need.getD k 0
theorem sub_lt_pow {s n k : Nat} (h : s < 2 ^ n) : s - 2 ^ k < 2 ^ n := Nat.lt_of_le_of_lt (Nat.sub_le _ _) h
end Go.Proofs.Ytfljgcpfmhhgcaa
