/- Plain: cells of edits with one thing changed; what may be pushed into without harm. -/
import Derived.Test.YthhjnafhpmgceaaRefL
namespace Go.Proofs.Ythhjnafhpmgceaa
open Go.RowKit Go.Lab
theorem editsC_pos : ∀ (l : List Edit) (us : List Value) (k : Nat) (x : Int) (h : k < l.length), us.length = l.length → (editsC l us).set (k * 3) (.int .i64 x) = editsC (l.set k ⟨x, l[k].del, l[k].ins⟩) us
  | e :: l, u :: us, 0, x, _, _ => rfl
  | e :: l, u :: us, k + 1, x, h, hl => by
    have ih := editsC_pos l us k x (by simpa using h) (by simpa using hl)
    have e3 : (k + 1) * 3 = k * 3 + 1 + 1 + 1 := by omega
    rw [e3]
    simp only [editsC, editC, List.cons_append, List.nil_append, List.set_cons_succ, List.getElem_cons_succ]
    rw [ih]
theorem editsC_del : ∀ (l : List Edit) (us : List Value) (k : Nat) (x : Int) (h : k < l.length), us.length = l.length → (editsC l us).set (k * 3 + 1) (.int .i64 x) = editsC (l.set k ⟨l[k].pos, x, l[k].ins⟩) us
  | e :: l, u :: us, 0, x, _, _ => rfl
  | e :: l, u :: us, k + 1, x, h, hl => by
    have ih := editsC_del l us k x (by simpa using h) (by simpa using hl)
    have e3 : (k + 1) * 3 + 1 = (k * 3 + 1) + 1 + 1 + 1 := by omega
    rw [e3]
    simp only [editsC, editC, List.cons_append, List.nil_append, List.set_cons_succ, List.getElem_cons_succ]
    rw [ih]
theorem editsC_ins : ∀ (l : List Edit) (us : List Value) (k : Nat) (v : Value) (ins : List Sym) (h : k < l.length), us.length = l.length → (editsC l us).set (k * 3 + 2) v = editsC (l.set k ⟨l[k].pos, l[k].del, ins⟩) (us.set k v)
  | e :: l, u :: us, 0, v, ins, _, _ => rfl
  | e :: l, u :: us, k + 1, v, ins, h, hl => by
    have ih := editsC_ins l us k v ins (by simpa using h) (by simpa using hl)
    have e3 : (k + 1) * 3 + 2 = (k * 3 + 2) + 1 + 1 + 1 := by omega
    rw [e3]
    simp only [editsC, editC, List.cons_append, List.nil_append, List.set_cons_succ, List.getElem_cons_succ]
    rw [ih]
theorem editsC_one : ∀ (l : List Edit) (us : List Value), (∀ u ∈ us, u.oneCell' = true) → ∀ u ∈ editsC l us, u.oneCell' = true
  | [], _, _, u, h => by simp [editsC] at h
  | e :: l, [], _, u, h => by simp [editsC] at h
  | e :: l, x :: us, hx, u, h => by
    simp only [editsC, editC, List.cons_append, List.nil_append, List.mem_cons] at h
    rcases h with rfl | rfl | rfl | h
    · rfl
    · rfl
    · exact hx _ (List.mem_cons_self ..)
    · exact editsC_one l us (fun y hy => hx y (List.mem_cons_of_mem _ hy)) u h
def CohL (us : List Value) : Prop := ∀ x ∈ us, ∀ y ∈ us, ∀ g o s n c m cx, x = .slice (some ⟨g, 0, none⟩) n c → y = .slice (some ⟨g, o, s⟩) m cx → o = 0 ∧ m ≤ n
theorem CohL.far {us : List Value} (h : CohL us) {u x : Value} (hu : u ∈ us) (hx : x ∈ us) : FarFrom u x := fun g o s n c m cx e1 e2 _ => h u hu x hx g o s n c m cx e1 e2
theorem FarFrom.none (x : Value) : FarFrom (.slice none 0 0) x := fun _ _ _ _ _ _ _ e => by cases e
/-- A text's row: none, or a slice from the row's beginning on. -/
theorem own_shape {w : World} {B : Nat} {x : Value} {n : Nat} {xs : List Value} (h : w.ownsRow B 30 2 x n xs) : x = .slice none 0 0 ∧ n = 0 ∨ ∃ g c, x = .slice (some ⟨g, 0, none⟩) n c ∧ B ≤ g ∧ g < w.heap.size ∧ n ≤ c ∧ c ≤ maxLen := by
  rcases h.2 with h2 | ⟨g, cap, cur, rfl, hg, hh, h3, h4, _⟩
  · exact .inl h2
  · exact .inr ⟨g, cap, rfl, hg, Go.lt_of_block hh, h3, h4⟩
/-- The rows after a change against the rows before it: none, new, or the same row, no shorter. -/
def RelL (S : Nat) (us us' : List Value) : Prop := ∀ x' ∈ us', x' = .slice none 0 0 ∨ (∃ g n c, x' = .slice (some ⟨g, 0, none⟩) n c ∧ S ≤ g) ∨ ∃ x ∈ us, ∃ g n c n', x = .slice (some ⟨g, 0, none⟩) n c ∧ x' = .slice (some ⟨g, 0, none⟩) n' c ∧ n ≤ n'
/-- What was read from the rows before is not hurt by a push into the rows after. -/
theorem RelL.far {S : Nat} {us us' : List Value} (h : RelL S us us') (hc : CohL us) (hlow : ∀ x ∈ us, ∀ g o s m cx, x = .slice (some ⟨g, o, s⟩) m cx → g < S) {u' x : Value} (hu : u' ∈ us') (hx : x ∈ us) : FarFrom u' x := by
  intro g o s n' c' m cx e1 e2 h0
  rcases h u' hu with h1 | ⟨g1, n1, c1, h1, hS⟩ | ⟨y, hy, g1, n1, c1, n2, h1, h2, hle⟩
  · rw [h1] at e1; cases e1
  · rw [h1] at e1
    injection e1 with e1 _ _
    injection e1 with e1
    injection e1 with e1 _ _
    have := hlow x hx g o s m cx e2
    omega
  · rw [h2] at e1
    injection e1 with e1 e3 _
    injection e1 with e1
    injection e1 with e1 _ _
    subst e1 e3
    have := hc y hy x hx g1 o s n1 c1 m cx h1 e2
    exact ⟨this.1, by omega⟩
end Go.Proofs.Ythhjnafhpmgceaa
