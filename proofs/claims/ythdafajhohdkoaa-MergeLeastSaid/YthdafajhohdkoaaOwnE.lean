/- Words: a slice of edits that the call owns; the edits of an alignment. -/
import Derived.Test.YthdafajhohdkoaaEnum
namespace Go.Proofs.Ythdafajhohdkoaa
open Go.RowKit Go.Lab
def OwnEs (w : World) (base : Nat) (v : Value) (l : List Edit) : Prop :=
  ∃ us : List Value, us.length = l.length ∧ w.ownsRow base 36 3 v l.length (editsC l us) ∧ ∀ i (h : i < l.length) (h' : i < us.length), SymsAt w us[i] l[i].ins
theorem OwnEs.nil (w : World) (base : Nat) : OwnEs w base (.slice none 0 0) [] := ⟨[], rfl, World.ownsRow_nil _ _ _ _, fun _ h => by simp at h⟩
theorem OwnEs.rd {w : World} {base : Nat} {v : Value} {l : List Edit} (h : OwnEs w base v l) : EditsAt w v l := by
  obtain ⟨us, hl, ho, hs⟩ := h
  exact ⟨us, hl, Rd.of_own ho, hs⟩
theorem OwnEs.form {w : World} {base : Nat} {v : Value} {l : List Edit} (h : OwnEs w base v l) : ∃ a cap, v = .slice a l.length cap ∧ l.length ≤ cap ∧ cap ≤ maxLen := h.rd.form
theorem OwnEs.below {w w' : World} {base : Nat} {v : Value} {l : List Edit} (h : OwnEs w base v l) (hb : Below w.heap.size w w') : OwnEs w' base v l := by
  obtain ⟨us, hl, ho, hs⟩ := h
  refine ⟨us, hl, ⟨ho.1, ?_⟩, fun i a b => (hs i a b).below hb⟩
  rcases ho.2 with h2 | ⟨g, cap, cur, hv, hg, hh, r⟩
  · exact .inl h2
  · exact .inr ⟨g, cap, cur, hv, hg, (hb.block g (lt_of_block hh)).trans hh, r⟩
theorem OwnEs.lt {w : World} {base : Nat} {v : Value} {l : List Edit} (h : OwnEs w base v l) : ∀ g, v.ownBlock = some g → base ≤ g ∧ g < w.heap.size := by
  obtain ⟨us, hl, ho, hs⟩ := h
  exact ho.lt
theorem OwnEs.snoc {w w' : World} {base : Nat} {v v' : Value} {l : List Edit} {u : Value} {e : Edit} {us : List Value}
    (hl : us.length = l.length) (ho : w.ownsRow base 36 3 v l.length (editsC l us)) (hs : ∀ i (h : i < l.length) (h' : i < us.length), SymsAt w us[i] l[i].ins) (hu : SymsAt w u e.ins)
    (ho' : w'.ownsRow base 36 3 v' (l.length + 1) (editsC l us ++ editC e u)) (hg : w.grownBy w' v.ownBlock) : OwnEs w' base v' (l ++ [e]) := by
  have hk : Keeps (fun t => t ≠ 36) w w' := Keeps.grown ho hg (fun t ht => ht)
  refine ⟨us ++ [u], by simp [hl], by rw [editsC_snoc _ _ _ _ hl]; simpa using ho', fun i h h' => ?_⟩
  by_cases hi : i < l.length
  · rw [List.getElem_append_left (by omega)]
    simp only [List.getElem_append_left hi]
    exact (hs i hi (by omega)).keeps hk (by decide)
  · have : i = l.length := by simp at h; omega
    subst this
    rw [List.getElem_append_right (by omega)]
    simp only [List.getElem_append_right (Nat.le_refl _), hl, Nat.sub_self, List.getElem_cons_zero]
    exact hu.keeps hk (by decide)
/-- The edits of an alignment (its pairs, and the end of both texts behind them). -/
def editsGo (b : List Sym) : Nat → Nat → List (Nat × Nat) → List Edit
  | _, _, [] => []
  | i, k, (p, q) :: r => (if i < p ∨ k < q then [⟨i, (p : Int) - i, (b.drop k).take (q - k)⟩] else []) ++ editsGo b (p + 1) (q + 1) r
def editsZ (a b : List Sym) (l : List (Nat × Nat)) : List Edit := editsGo b 0 0 (l ++ [(a.length, b.length)])
/-- Pairs at increasing places, from i, k on. -/
def incP (n m : Nat) : Nat → Nat → List (Nat × Nat) → Prop
  | i, k, [] => i ≤ n ∧ k ≤ m
  | i, k, (p, q) :: r => i ≤ p ∧ k ≤ q ∧ p < n ∧ q < m ∧ incP n m (p + 1) (q + 1) r
theorem editsGo_len (b : List Sym) : ∀ (l : List (Nat × Nat)) (i k : Nat), (editsGo b i k l).length ≤ l.length
  | [], _, _ => by simp [editsGo]
  | (p, q) :: r, i, k => by
    have := editsGo_len b r (p + 1) (q + 1)
    rw [editsGo, List.length_append, List.length_cons]
    split <;> simp <;> omega
theorem enumP_inc {a b : List Sym} : ∀ (f i k : Nat) (p : List (Nat × Nat)), i ≤ a.length → k ≤ b.length → p ∈ enumP a b f i k → incP a.length b.length i k p
  | 0, i, k, p, hi, hk, h => by
    simp [enumP] at h
    subst h
    exact ⟨hi, hk⟩
  | f + 1, i, k, p, hi, hk, h => by
    by_cases h0 : lcsM a b i k = 0
    · rw [enumP_zero h0] at h
      simp at h
      subst h
      exact ⟨hi, hk⟩
    · rw [enumP_succ h0] at h
      unfold rowsP rowP at h
      obtain ⟨x, hx, h⟩ := List.mem_flatMap.1 h
      obtain ⟨y, hy, h⟩ := List.mem_flatMap.1 h
      obtain ⟨j, hj, rfl⟩ := List.mem_range'.1 hx
      obtain ⟨j', hj', rfl⟩ := List.mem_range'.1 hy
      unfold blkP at h
      split at h
      · obtain ⟨q, hq, rfl⟩ := List.mem_map.1 h
        have := enumP_inc f _ _ q (by omega) (by omega) hq
        refine ⟨by omega, by omega, by omega, by omega, this⟩
      · cases h
end Go.Proofs.Ythdafajhohdkoaa
