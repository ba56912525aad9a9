/- Plain: all alignments of two texts, in order; lists of pairs of places as cells. -/
import Derived.Test.YthhjnafhpmgceaaLcs
namespace Go.Proofs.Ythhjnafhpmgceaa
open Go.RowKit Go.Lab
def pairC (p : Nat × Nat) : List Value := [.int .i64 p.1, .int .i64 p.2]
def pairsC (l : List (Nat × Nat)) : List Value := l.flatMap pairC
theorem pairsC_append (a b : List (Nat × Nat)) : pairsC (a ++ b) = pairsC a ++ pairsC b := by simp [pairsC]
theorem pairsC_cons (p : Nat × Nat) (l : List (Nat × Nat)) : pairsC (p :: l) = [.int .i64 p.1, .int .i64 p.2] ++ pairsC l := rfl
theorem pairsC_len (l : List (Nat × Nat)) : (pairsC l).length = l.length * 2 := by
  induction l with
  | nil => rfl
  | cons a l ih => simp [pairsC, pairC] at *; omega
theorem pairsC_one (l : List (Nat × Nat)) : ∀ u ∈ pairsC l, u.oneCell' = true := by
  intro u hu
  obtain ⟨x, _, hx⟩ := List.mem_flatMap.1 hu
  simp [pairC] at hx
  rcases hx with rfl | rfl <;> rfl
theorem pairsC_get (l : List (Nat × Nat)) (i : Nat) (h : i < l.length) : (pairsC l)[i * 2]? = some (.int .i64 l[i].1) ∧ (pairsC l)[i * 2 + 1]? = some (.int .i64 l[i].2) := by
  induction l generalizing i with
  | nil => simp at h
  | cons a l ih =>
    cases i with
    | zero => simp [pairsC, pairC]
    | succ i =>
      have := ih i (by simpa using h)
      have e : (i + 1) * 2 = i * 2 + 1 + 1 := by omega
      simpa [pairsC, pairC, e] using this
def PairsAt (w : World) (v : Value) (l : List (Nat × Nat)) : Prop := Rd w (· = 76) 2 v l.length (pairsC l)
theorem PairsAt.keeps {w w' : World} {v : Value} {l : List (Nat × Nat)} {T : TypeId → Prop} (h : PairsAt w v l) (hk : Keeps T w w') (hT : T 76) : PairsAt w' v l :=
  Rd.keeps h (hk.mono (by rintro t rfl; exact hT))
theorem PairsAt.below {w w' : World} {v : Value} {l : List (Nat × Nat)} (h : PairsAt w v l) (hb : Below w.heap.size w w') : PairsAt w' v l := Rd.below h hb
theorem PairsAt.form {w : World} {v : Value} {l : List (Nat × Nat)} (h : PairsAt w v l) : ∃ a cap, v = .slice a l.length cap ∧ l.length ≤ cap ∧ cap ≤ maxLen := Rd.form h
theorem PairsAt.at {w : World} {a : Option Addr} {c : Nat} {l : List (Nat × Nat)} (h : PairsAt w (.slice a l.length c) l) {k : Nat} (hk : k < l.length) :
    ∃ b off, a = some ⟨b, off, none⟩ ∧ b < w.heap.size ∧ w.cell? ⟨b, off + k * 2, none⟩ = some (.int .i64 l[k].1) ∧ w.cell? ⟨b, off + k * 2 + 1, none⟩ = some (.int .i64 l[k].2) := by
  obtain ⟨b, off, e, hb, hc⟩ := Rd.at h (by omega)
  have := pairsC_get l k hk
  exact ⟨b, off, e, hb, hc _ _ this.1, hc (k * 2 + 1) _ this.2⟩
def PairssAt (w : World) (v : Value) (l : List (List (Nat × Nat))) : Prop :=
  ∃ us : List Value, us.length = l.length ∧ Rd w (· = 67) 1 v l.length us ∧ ∀ i (h : i < l.length) (h' : i < us.length), PairsAt w us[i] l[i]
theorem PairssAt.below {w w' : World} {v : Value} {l : List (List (Nat × Nat))} (h : PairssAt w v l) (hb : Below w.heap.size w w') : PairssAt w' v l := by
  obtain ⟨us, hl, hr, hs⟩ := h
  exact ⟨us, hl, hr.below hb, fun i a b => (hs i a b).below hb⟩
theorem PairssAt.form {w : World} {v : Value} {l : List (List (Nat × Nat))} (h : PairssAt w v l) : ∃ a cap, v = .slice a l.length cap ∧ l.length ≤ cap ∧ cap ≤ maxLen := by
  obtain ⟨_, _, hr, _⟩ := h
  exact hr.form
theorem PairssAt.at {w : World} {a : Option Addr} {c : Nat} {l : List (List (Nat × Nat))} (h : PairssAt w (.slice a l.length c) l) {k : Nat} (hk : k < l.length) :
    ∃ b off u, a = some ⟨b, off, none⟩ ∧ b < w.heap.size ∧ w.cell? ⟨b, off + k, none⟩ = some u ∧ PairsAt w u l[k] := by
  obtain ⟨us, hl, hr, hs⟩ := h
  obtain ⟨b, off, e, hb, hc⟩ := hr.at (by omega)
  exact ⟨b, off, us[k], e, hb, hc k _ (List.getElem?_eq_getElem (by omega)), hs k hk (by omega)⟩
theorem slPair : SlT Try.prog 67 76 (.agg #[.int .i64 0, .int .i64 0]) 2 16 := ⟨by kernel_rfl, by kernel_rfl, rfl, by decide⟩
theorem slPairs : SlT Try.prog 62 67 (.slice none 0 0) 1 24 := ⟨by kernel_rfl, by kernel_rfl, rfl, by decide⟩

/-- All alignments of what follows the places i, k: the first component is fuel. -/
def enumP (a b : List Sym) : Nat → Nat → Nat → List (List (Nat × Nat))
  | 0, _, _ => [[]]
  | f + 1, i, k => if lcsM a b i k = 0 then [[]] else
      (List.range' i (a.length - i)).flatMap fun x => (List.range' k (b.length - k)).flatMap fun y =>
        if a[x]? = b[y]? ∧ 1 + lcsM a b (x + 1) (y + 1) = lcsM a b i k then (enumP a b f (x + 1) (y + 1)).map ((x, y) :: ·) else []
theorem enumP_zero {a b : List Sym} {f i k : Nat} (h : lcsM a b i k = 0) : enumP a b f i k = [[]] := by
  cases f with
  | zero => rfl
  | succ f => rw [enumP, if_pos h]
/-- What the place (x, y) gives. -/
def blkP (a b : List Sym) (f i k x y : Nat) : List (List (Nat × Nat)) :=
  if a[x]? = b[y]? ∧ 1 + lcsM a b (x + 1) (y + 1) = lcsM a b i k then (enumP a b f (x + 1) (y + 1)).map ((x, y) :: ·) else []
/-- What the first n places of row x give. -/
def rowP (a b : List Sym) (f i k x n : Nat) : List (List (Nat × Nat)) := (List.range' k n).flatMap (blkP a b f i k x)
/-- What the first n rows give. -/
def rowsP (a b : List Sym) (f i k n : Nat) : List (List (Nat × Nat)) := (List.range' i n).flatMap fun x => rowP a b f i k x (b.length - k)
theorem enumP_succ {a b : List Sym} {f i k : Nat} (h : lcsM a b i k ≠ 0) : enumP a b (f + 1) i k = rowsP a b f i k (a.length - i) := by
  rw [enumP, if_neg h]; rfl
theorem rowP_zero (a b : List Sym) (f i k x : Nat) : rowP a b f i k x 0 = [] := rfl
theorem rowP_succ (a b : List Sym) (f i k x n : Nat) : rowP a b f i k x (n + 1) = rowP a b f i k x n ++ blkP a b f i k x (k + n) := by
  unfold rowP
  rw [List.range'_concat, List.flatMap_append]
  simp
theorem rowsP_zero (a b : List Sym) (f i k : Nat) : rowsP a b f i k 0 = [] := rfl
theorem rowsP_succ (a b : List Sym) (f i k n : Nat) : rowsP a b f i k (n + 1) = rowsP a b f i k n ++ rowP a b f i k (i + n) (b.length - k) := by
  unfold rowsP
  rw [List.range'_concat, List.flatMap_append]
  simp
/-- More fuel than is wanted changes nothing. -/
theorem enumP_fuel {a b : List Sym} : ∀ (f g i k : Nat), a.length - i ≤ f → a.length - i ≤ g → enumP a b f i k = enumP a b g i k
  | 0, g, i, k, hf, _ => by rw [enumP_zero (lcsM_end_i (by omega)), enumP_zero (lcsM_end_i (by omega))]
  | f + 1, 0, i, k, _, hg => by rw [enumP_zero (lcsM_end_i (by omega)), enumP_zero (lcsM_end_i (by omega))]
  | f + 1, g + 1, i, k, hf, hg => by
    by_cases h : lcsM a b i k = 0
    · rw [enumP_zero h, enumP_zero h]
    · rw [enumP_succ h, enumP_succ h]
      unfold rowsP
      have hx : ∀ x ∈ List.range' i (a.length - i), rowP a b f i k x (b.length - k) = rowP a b g i k x (b.length - k) := by
        intro x hx
        have hxi : i ≤ x := by
          obtain ⟨j, _, rfl⟩ := List.mem_range'.1 hx
          omega
        unfold rowP
        congr 1
        funext y
        unfold blkP
        rw [enumP_fuel f g (x + 1) (y + 1) (by omega) (by omega)]
      rw [List.flatMap_def, List.flatMap_def, List.map_congr_left hx]
theorem take_grow {α : Type} {pre more : List α} {n : Nat} (h : n ≤ pre.length) : (pre ++ more).take n = pre.take n := by
  rw [List.take_append_of_le_length h]
theorem take_more {α : Type} {pre more : List α} {n : Nat} (h : pre.length ≤ n) : (pre ++ more).take n = pre ++ more.take (n - pre.length) := by
  rw [List.take_append, List.take_of_length_le h]
theorem blkP_yes {a b : List Sym} {f i k x y : Nat} (hx : x < a.length) (hy : y < b.length) (h : a[x] = b[y]) (h2 : 1 + lcsM a b (x + 1) (y + 1) = lcsM a b i k) :
    blkP a b f i k x y = (enumP a b f (x + 1) (y + 1)).map ((x, y) :: ·) := by
  unfold blkP
  rw [if_pos ⟨by rw [List.getElem?_eq_getElem hx, List.getElem?_eq_getElem hy, h], h2⟩]
theorem blkP_no {a b : List Sym} {f i k x y : Nat} (hx : x < a.length) (hy : y < b.length) (h : a[x] ≠ b[y] ∨ 1 + lcsM a b (x + 1) (y + 1) ≠ lcsM a b i k) :
    blkP a b f i k x y = [] := by
  unfold blkP
  rw [if_neg]
  rintro ⟨h1, h2⟩
  rcases h with h | h
  · rw [List.getElem?_eq_getElem hx, List.getElem?_eq_getElem hy] at h1
    injection h1 with h1
    exact h h1
  · exact h h2
theorem enumP_len {a b : List Sym} : ∀ (f i k : Nat) (p : List (Nat × Nat)), p ∈ enumP a b f i k → p.length ≤ a.length - i
  | 0, i, k, p, h => by
    simp [enumP] at h
    subst h
    simp
  | f + 1, i, k, p, h => by
    by_cases h0 : lcsM a b i k = 0
    · rw [enumP_zero h0] at h
      simp at h
      subst h
      simp
    · rw [enumP_succ h0] at h
      unfold rowsP rowP at h
      obtain ⟨x, hx, h⟩ := List.mem_flatMap.1 h
      obtain ⟨y, hy, h⟩ := List.mem_flatMap.1 h
      obtain ⟨j, hj, rfl⟩ := List.mem_range'.1 hx
      unfold blkP at h
      split at h
      · obtain ⟨q, hq, rfl⟩ := List.mem_map.1 h
        have := enumP_len f _ _ q hq
        simp only [List.length_cons]
        omega
      · cases h
end Go.Proofs.Ythhjnafhpmgceaa
