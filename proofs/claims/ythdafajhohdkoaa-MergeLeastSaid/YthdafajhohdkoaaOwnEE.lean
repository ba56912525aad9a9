/- Words: a slice of lists of edits that the call owns; the edits of the first least alignments. -/
import Derived.Test.YthdafajhohdkoaaOwnE
import Derived.Test.YthdafajhohdkoaaLiftA
namespace Go.Proofs.Ythdafajhohdkoaa
open Go.RowKit Go.Lab
def EditssAt (w : World) (v : Value) (l : List (List Edit)) : Prop :=
  ∃ us : List Value, us.length = l.length ∧ Rd w (· = 25) 1 v l.length us ∧ ∀ i (h : i < l.length) (h' : i < us.length), EditsAt w us[i] l[i]
theorem EditssAt.below {w w' : World} {v : Value} {l : List (List Edit)} (h : EditssAt w v l) (hb : Below w.heap.size w w') : EditssAt w' v l := by
  obtain ⟨us, hl, hr, hs⟩ := h
  exact ⟨us, hl, hr.below hb, fun i a b => (hs i a b).below hb⟩
theorem EditssAt.form {w : World} {v : Value} {l : List (List Edit)} (h : EditssAt w v l) : ∃ a cap, v = .slice a l.length cap ∧ l.length ≤ cap ∧ cap ≤ maxLen := by
  obtain ⟨_, _, hr, _⟩ := h
  exact hr.form
theorem EditssAt.at {w : World} {a : Option Addr} {c : Nat} {l : List (List Edit)} (h : EditssAt w (.slice a l.length c) l) {k : Nat} (hk : k < l.length) :
    ∃ b off u, a = some ⟨b, off, none⟩ ∧ b < w.heap.size ∧ w.cell? ⟨b, off + k, none⟩ = some u ∧ EditsAt w u l[k] := by
  obtain ⟨us, hl, hr, hs⟩ := h
  obtain ⟨b, off, e, hb, hc⟩ := hr.at (by omega)
  exact ⟨b, off, us[k], e, hb, hc k _ (List.getElem?_eq_getElem (by omega)), hs k hk (by omega)⟩
def OwnEE (w : World) (base : Nat) (v : Value) (l : List (List Edit)) : Prop :=
  ∃ us : List Value, us.length = l.length ∧ w.ownsRow base 25 1 v l.length us ∧ ∀ i (h : i < l.length) (h' : i < us.length), EditsAt w us[i] l[i]
theorem OwnEE.nil (w : World) (base : Nat) : OwnEE w base (.slice none 0 0) [] := ⟨[], rfl, World.ownsRow_nil _ _ _ _, fun _ h => by simp at h⟩
theorem OwnEE.rd {w : World} {base : Nat} {v : Value} {l : List (List Edit)} (h : OwnEE w base v l) : EditssAt w v l := by
  obtain ⟨us, hl, ho, hs⟩ := h
  exact ⟨us, hl, Rd.of_own ho, hs⟩
theorem OwnEE.form {w : World} {base : Nat} {v : Value} {l : List (List Edit)} (h : OwnEE w base v l) : ∃ a cap, v = .slice a l.length cap ∧ l.length ≤ cap ∧ cap ≤ maxLen := h.rd.form
theorem OwnEE.below {w w' : World} {base : Nat} {v : Value} {l : List (List Edit)} (h : OwnEE w base v l) (hb : Below w.heap.size w w') : OwnEE w' base v l := by
  obtain ⟨us, hl, ho, hs⟩ := h
  refine ⟨us, hl, ⟨ho.1, ?_⟩, fun i a b => (hs i a b).below hb⟩
  rcases ho.2 with h2 | ⟨g, cap, cur, hv, hg, hh, r⟩
  · exact .inl h2
  · exact .inr ⟨g, cap, cur, hv, hg, (hb.block g (lt_of_block hh)).trans hh, r⟩
theorem OwnEE.kept {w w' : World} {base : Nat} {v : Value} {l : List (List Edit)} (h : OwnEE w base v l) (hk : Keeps (fun t => t = 36 ∨ t = 34) w w') (hb : ∀ g, v.ownBlock = some g → w'.heap[g]? = w.heap[g]?) : OwnEE w' base v l := by
  obtain ⟨us, hl, ho, hs⟩ := h
  refine ⟨us, hl, ⟨ho.1, ?_⟩, fun i a b => (hs i a b).keeps hk (.inr rfl) (.inl rfl)⟩
  rcases ho.2 with h2 | ⟨g, cap, cur, hv, hg, hh, r⟩
  · exact .inl h2
  · exact .inr ⟨g, cap, cur, hv, hg, (hb g (by rw [hv]; rfl)).trans hh, r⟩
theorem OwnEE.lt {w : World} {base : Nat} {v : Value} {l : List (List Edit)} (h : OwnEE w base v l) : ∀ g, v.ownBlock = some g → base ≤ g ∧ g < w.heap.size := by
  obtain ⟨us, hl, ho, hs⟩ := h
  exact ho.lt
theorem OwnEE.snoc {w w' : World} {base : Nat} {v v' : Value} {l : List (List Edit)} {u : Value} {e : List Edit} {us : List Value}
    (hl : us.length = l.length) (ho : w.ownsRow base 25 1 v l.length us) (hs : ∀ i (h : i < l.length) (h' : i < us.length), EditsAt w us[i] l[i]) (hu : EditsAt w u e)
    (ho' : w'.ownsRow base 25 1 v' (l.length + 1) (us ++ [u])) (hg : w.grownBy w' v.ownBlock) : OwnEE w' base v' (l ++ [e]) := by
  have hk : Keeps (fun t => t ≠ 25) w w' := Keeps.grown ho hg (fun t ht => ht)
  refine ⟨us ++ [u], by simp [hl], by simpa using ho', fun i h h' => ?_⟩
  by_cases hi : i < l.length
  · rw [List.getElem_append_left (by omega), List.getElem_append_left hi]
    exact (hs i hi (by omega)).keeps hk (by decide) (by decide)
  · have : i = l.length := by simp at h; omega
    subst this
    rw [List.getElem_append_right (by omega), List.getElem_append_right (by omega)]
    simp only [hl, Nat.sub_self, List.getElem_cons_zero]
    exact hu.keeps hk (by decide) (by decide)
theorem slEditss : SlT Try.prog 28 25 (.slice none 0 0) 1 24 := ⟨by kernel_rfl, by kernel_rfl, rfl, by decide⟩
def choicesZ (a b : List Sym) (most : Int) : List (List Edit) :=
  if isTextB a && isTextB b && decide (1 ≤ most) && decide (most ≤ 64) then ((enumP a b a.length 0 0).take most.toNat).map (editsZ a b) else []
theorem isTextB_len {l : List Sym} (h : isTextB l = true) : l.length ≤ 2048 := by
  unfold isTextB at h
  simp at h
  exact h.1
end Go.Proofs.Ythdafajhohdkoaa
