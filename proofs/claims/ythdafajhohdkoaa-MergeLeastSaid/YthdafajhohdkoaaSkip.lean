/- Plain: the places at which no alignment goes on: what an early stop passes over. -/
import Derived.Test.YthdafajhohdkoaaEnum
namespace Go.Proofs.Ythdafajhohdkoaa
theorem lcsM_mono2 (a b : List Sym) {i k : Nat} : ∀ {x y : Nat}, i ≤ x → k ≤ y → lcsM a b x y ≤ lcsM a b i k := by
  intro x y hx hy
  obtain ⟨d, rfl⟩ : ∃ d, x = i + d := ⟨x - i, by omega⟩
  obtain ⟨e, rfl⟩ : ∃ e, y = k + e := ⟨y - k, by omega⟩
  have h1 : lcsM a b (i + d) (k + e) ≤ lcsM a b i (k + e) := by
    clear hx hy
    induction d with
    | zero => exact Nat.le_refl _
    | succ d ih => exact Nat.le_trans (lcsM_mono a b (i + d) (k + e)).1 ih
  have h2 : lcsM a b i (k + e) ≤ lcsM a b i k := by
    clear hx hy h1
    induction e with
    | zero => exact Nat.le_refl _
    | succ e ih => exact Nat.le_trans (lcsM_mono a b i (k + e)).2.2.1 ih
  exact Nat.le_trans h1 h2
theorem blkP_low {a b : List Sym} {f i k x y : Nat} (hx : x < a.length) (hy : y < b.length) (h : lcsM a b x y < lcsM a b i k) : blkP a b f i k x y = [] := by
  refine blkP_no hx hy ?_
  by_cases e : a[x] = b[y]
  · right
    rw [lcsM_step hx hy, if_pos e] at h
    omega
  · exact .inl e
theorem row_tail {a b : List Sym} {f i k x y : Nat} (n : Nat) (hx : x < a.length) (hn : y + n ≤ b.length) (h : lcsM a b x y < lcsM a b i k) : (List.range' y n).flatMap (blkP a b f i k x) = [] := by
  rw [List.flatMap_eq_nil_iff]
  intro z hz
  obtain ⟨j, hj, rfl⟩ := List.mem_range'.1 hz
  exact blkP_low hx (by omega) (Nat.lt_of_le_of_lt (lcsM_mono2 a b (Nat.le_refl _) (by omega)) h)
theorem rowP_stop {a b : List Sym} {f i k x m : Nat} (hx : x < a.length) (hm : m ≤ b.length - k) (hk : k ≤ b.length) (h : lcsM a b x (k + m) < lcsM a b i k) : rowP a b f i k x (b.length - k) = rowP a b f i k x m := by
  obtain ⟨d, hd⟩ : ∃ d, b.length - k = m + d := ⟨b.length - k - m, by omega⟩
  rw [hd]
  unfold rowP
  rw [← List.range'_append_1, List.flatMap_append, row_tail d hx (by omega) h, List.append_nil]
theorem rowsP_stop {a b : List Sym} {f i k n : Nat} (hn : n ≤ a.length - i) (hi : i ≤ a.length) (hk : k ≤ b.length) (h : lcsM a b (i + n) k < lcsM a b i k) : rowsP a b f i k (a.length - i) = rowsP a b f i k n := by
  obtain ⟨d, hd⟩ : ∃ d, a.length - i = n + d := ⟨a.length - i - n, by omega⟩
  rw [hd]
  unfold rowsP
  rw [← List.range'_append_1, List.flatMap_append]
  have : (List.range' (i + n) d).flatMap (fun x => rowP a b f i k x (b.length - k)) = [] := by
    rw [List.flatMap_eq_nil_iff]
    intro z hz
    obtain ⟨j, hj, rfl⟩ := List.mem_range'.1 hz
    exact row_tail _ (by omega) (by omega) (Nat.lt_of_le_of_lt (lcsM_mono2 a b (by omega) (Nat.le_refl _)) h)
  rw [this, List.append_nil]
end Go.Proofs.Ythdafajhohdkoaa
