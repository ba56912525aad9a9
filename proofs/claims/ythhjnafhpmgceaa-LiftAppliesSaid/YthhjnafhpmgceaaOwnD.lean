/- Words: a slice of edits that the call owns, each inserted text in a row of its own. -/
import Derived.Test.YthhjnafhpmgceaaOwnE
namespace Go.Proofs.Ythhjnafhpmgceaa
open Go.RowKit Go.Lab
theorem ownR_below {w w1 : World} {base : Nat} {e : TypeId} {k n : Nat} {v : Value} {xs : List Value} (h : w.ownsRow base e k v n xs) (hb : Below w.heap.size w w1) : w1.ownsRow base e k v n xs := by
  refine ⟨h.1, ?_⟩
  rcases h.2 with h2 | ⟨g, cap, cur, hv, hg, hh, r⟩
  · exact .inl h2
  · exact .inr ⟨g, cap, cur, hv, hg, (hb.block g (Go.lt_of_block hh)).trans hh, r⟩
theorem ownR_base {w : World} {base base' : Nat} {e : TypeId} {k n : Nat} {v : Value} {xs : List Value} (h : w.ownsRow base e k v n xs) (hb : base' ≤ base) : w.ownsRow base' e k v n xs := by
  refine ⟨h.1, ?_⟩
  rcases h.2 with h2 | ⟨g, cap, cur, hv, hg, r⟩
  · exact .inl h2
  · exact .inr ⟨g, cap, cur, hv, Nat.le_trans hb hg, r⟩
/-- A row of one type stays while the row of another type is written. -/
theorem ownR_other {w w' : World} {base base' : Nat} {e e' : TypeId} {k n k' n' : Nat} {v v' : Value} {xs xs' : List Value} (h : w.ownsRow base e k v n xs) (h' : w.ownsRow base' e' k' v' n' xs') (hne : e ≠ e') (hg : w.grownBy w' v'.ownBlock) : w'.ownsRow base e k v n xs := by
  refine ⟨h.1, ?_⟩
  rcases h.2 with h2 | ⟨g, cap, cur, hv, hgb, hh, r⟩
  · exact .inl h2
  · refine .inr ⟨g, cap, cur, hv, hgb, (hg.block g (Go.lt_of_block hh) (fun e2 => ?_)).trans hh, r⟩
    rcases h'.2 with ⟨h3, _⟩ | ⟨g2, _, _, hv2, _, hh2, _⟩
    · rw [h3] at e2; simp [Value.ownBlock] at e2
    · rw [hv2] at e2
      simp [Value.ownBlock] at e2
      subst e2
      rw [hh] at hh2
      simp at hh2
      exact hne hh2.2
def ApartL (us : List Value) : Prop := ∀ i j (hij : i < j) (hj : j < us.length) (g : Nat), us[i].ownBlock = some g → us[j].ownBlock ≠ some g
def OwnEd (w : World) (base : Nat) (v : Value) (l : List Edit) : Prop :=
  ∃ us : List Value, us.length = l.length ∧ w.ownsRow base 53 3 v l.length (editsC l us) ∧ (∀ i (h : i < l.length) (h' : i < us.length), w.ownsRow base 30 2 us[i] l[i].ins.length (symsC l[i].ins)) ∧ ApartL us
theorem OwnEd.nil (w : World) (base : Nat) : OwnEd w base (.slice none 0 0) [] := ⟨[], rfl, World.ownsRow_nil _ _ _ _, fun _ h => by simp at h, fun _ _ _ h => by simp at h⟩
theorem OwnEd.es {w : World} {base : Nat} {v : Value} {l : List Edit} (h : OwnEd w base v l) : OwnEs w base v l := by
  obtain ⟨us, hl, ho, hs, _⟩ := h
  exact ⟨us, hl, ho, fun i a b => SymsAt.of_own (hs i a b)⟩
theorem OwnEd.rd {w : World} {base : Nat} {v : Value} {l : List Edit} (h : OwnEd w base v l) : EditsAt w v l := h.es.rd
theorem OwnEd.form {w : World} {base : Nat} {v : Value} {l : List Edit} (h : OwnEd w base v l) : ∃ a cap, v = .slice a l.length cap ∧ l.length ≤ cap ∧ cap ≤ maxLen := h.rd.form
theorem OwnEd.below {w w' : World} {base : Nat} {v : Value} {l : List Edit} (h : OwnEd w base v l) (hb : Below w.heap.size w w') : OwnEd w' base v l := by
  obtain ⟨us, hl, ho, hs, ha⟩ := h
  exact ⟨us, hl, ownR_below ho hb, fun i a b => ownR_below (hs i a b) hb, ha⟩
theorem OwnEd.lt {w : World} {base : Nat} {v : Value} {l : List Edit} (h : OwnEd w base v l) : ∀ g, v.ownBlock = some g → base ≤ g ∧ g < w.heap.size := by
  obtain ⟨us, hl, ho, hs, _⟩ := h
  exact ho.lt
theorem OwnEd.snoc {w w' : World} {base B : Nat} {v v' : Value} {l : List Edit} {u : Value} {e : Edit} {us : List Value}
    (hl : us.length = l.length) (ho : w.ownsRow base 53 3 v l.length (editsC l us)) (hs : ∀ i (h : i < l.length) (h' : i < us.length), w.ownsRow base 30 2 us[i] l[i].ins.length (symsC l[i].ins)) (ha : ApartL us)
    (hlow : ∀ i (h' : i < us.length) g, us[i].ownBlock = some g → g < B) (hB : base ≤ B) (hu : w.ownsRow B 30 2 u e.ins.length (symsC e.ins))
    (ho' : w'.ownsRow base 53 3 v' (l.length + 1) (editsC l us ++ editC e u)) (hg : w.grownBy w' v.ownBlock) : OwnEd w' base v' (l ++ [e]) := by
  refine ⟨us ++ [u], by simp [hl], by rw [editsC_snoc _ _ _ _ hl]; simpa using ho', fun i h h' => ?_, fun i j hij hj g => ?_⟩
  · by_cases hi : i < l.length
    · rw [List.getElem_append_left (by omega)]
      simp only [List.getElem_append_left hi]
      exact ownR_other (hs i hi (by omega)) ho (by decide) hg
    · have : i = l.length := by simp at h; omega
      subst this
      rw [List.getElem_append_right (by omega)]
      simp only [List.getElem_append_right (Nat.le_refl _), hl, Nat.sub_self, List.getElem_cons_zero]
      exact ownR_other (ownR_base hu hB) ho (by decide) hg
  · by_cases hjl : j < us.length
    · rw [List.getElem_append_left hjl, List.getElem_append_left (by omega)]
      exact ha i j hij hjl g
    · have hj2 : j = us.length := by simp at hj; omega
      subst hj2
      rw [List.getElem_append_left hij, List.getElem_append_right (Nat.le_refl _)]
      simp only [Nat.sub_self, List.getElem_cons_zero]
      intro h1 h2
      have := hlow i hij g h1
      have := (hu.lt g h2).1
      omega
end Go.Proofs.Ythhjnafhpmgceaa
