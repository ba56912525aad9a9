/- Plain: the merged text, edit by edit; the bounds that the walk wants. -/
import Derived.Test.YthdafajhohdkoaaMgK
namespace Go.Proofs.Ythdafajhohdkoaa
open Go.RowKit Go.Lab Go.Shelf
/-- Where merging stands: the next place, the pairs, the text. -/
structure MS where
  k : Nat
  kept : List (Nat × Nat)
  out : List Sym
def keepS (base : List Sym) (t : Nat) (s : MS) : MS := ⟨s.k + (t - s.k), s.kept ++ segP s.k s.out.length (t - s.k), s.out ++ segS base s.k (t - s.k)⟩
def insS (e : Edit) (s : MS) : MS := ⟨s.k + e.del.toNat, s.kept, s.out ++ e.ins⟩
def stepS (base : List Sym) (s : MS) (e : Edit) : MS := insS e (keepS base e.pos.toNat s)
def foldS (base : List Sym) (l : List Edit) : MS := l.foldl (stepS base) ⟨0, [], []⟩
def endS (base : List Sym) (l : List Edit) : MS := keepS base base.length (foldS base l)
theorem foldS_snoc (base : List Sym) (l : List Edit) (e : Edit) : foldS base (l ++ [e]) = stepS base (foldS base l) e := by simp [foldS]
/-- An edit within a text of n characters. -/
def InE (n : Nat) (e : Edit) : Prop := 0 ≤ e.pos ∧ e.pos ≤ n ∧ 0 ≤ e.del ∧ e.del ≤ n ∧ e.ins.length ≤ 64
structure Fits (m : Nat) (s : MS) : Prop where
  k : s.k ≤ (m + 1) * 2048
  kept : s.kept.length ≤ m * 2048
  out : s.out.length ≤ m * 2112
theorem segS_le (base : List Sym) (k j : Nat) : (segS base k j).length ≤ j := by unfold segS; rw [List.length_take]; omega
theorem fits_step {base : List Sym} {m : Nat} {s : MS} {e : Edit} (h : Fits m s) (hl : base.length ≤ 2048) (he : InE base.length e) : Fits (m + 1) (stepS base s e) := by
  obtain ⟨h1, h2, h3⟩ := h
  obtain ⟨e1, e2, e3, e4, e5⟩ := he
  have hs := segS_le base s.k (e.pos.toNat - s.k)
  refine ⟨?_, ?_, ?_⟩
  · simp only [stepS, insS, keepS]
    omega
  · simp only [stepS, insS, keepS, List.length_append, segP_len]
    omega
  · simp only [stepS, insS, keepS, List.length_append]
    omega
theorem isTextB_len0 {l : List Sym} (h : isTextB l = true) : l.length ≤ 2048 := by
  unfold isTextB at h
  simp only [Bool.and_eq_true, decide_eq_true_eq] at h
  exact h.1
theorem fits_fold {base : List Sym} (hl : base.length ≤ 2048) (l : List Edit) (h : ∀ e ∈ l, InE base.length e) : Fits l.length (foldS base l) := by
  have gen : ∀ (l : List Edit) (m : Nat) (s : MS), Fits m s → (∀ e ∈ l, InE base.length e) → Fits (m + l.length) (l.foldl (stepS base) s) := by
    intro l
    induction l with
    | nil => intro m s h _; exact h
    | cons x l ih =>
      intro m s h hl2
      have := ih (m + 1) _ (fits_step h hl (hl2 x (List.mem_cons_self ..))) (fun e he => hl2 e (List.mem_cons_of_mem _ he))
      rw [List.length_cons, show m + (l.length + 1) = m + 1 + l.length by omega]
      exact this
  have := gen l 0 ⟨0, [], []⟩ ⟨by simp, by simp, by simp⟩ h
  rwa [Nat.zero_add] at this
/-- What merging ends with: the text, the pairs, the error. -/
def doneZ (s : MS) : List Sym × List (Nat × Nat) × Int := if 2048 < s.out.length then ([], [], 4) else (s.out, s.kept, 0)
end Go.Proofs.Ythdafajhohdkoaa
