/- Plain: the reference's text, place by place; its bounds. -/
import Derived.Test.YthdafajhohdkoaaMgPc
import Derived.Test.YthdafajhohdkoaaMgN
namespace Go.Proofs.Ythdafajhohdkoaa
open Go.RowKit Go.Lab
/-- Where the reference stands: the characters to leave out, the pairs, the text. -/
structure RS where
  skip : Int
  kept : List (Nat × Nat)
  out : List Sym
def edAt (a b : List Edit) (p : Int) : Option Edit := if (findE a p).isSome then findE a p else findE b p
def insR (o : Option Edit) (s : RS) : RS := match o with
  | none => s
  | some e => ⟨e.del, s.kept, s.out ++ e.ins⟩
def keepR (base : List Sym) (i : Nat) (s : RS) : RS :=
  if 0 < s.skip then ⟨s.skip - 1, s.kept, s.out⟩ else ⟨s.skip, s.kept ++ [(i, s.out.length)], s.out ++ (base.drop i).take 1⟩
def placeR (base : List Sym) (a b : List Edit) : Nat → RS
  | 0 => ⟨0, [], []⟩
  | i + 1 => keepR base i (insR (edAt a b i) (placeR base a b i))
def finR (base : List Sym) (a b : List Edit) : RS := insR (edAt a b base.length) (placeR base a b base.length)
def bothZ (base : List Sym) (a b : List Edit) : List Sym × List (Nat × Nat) × Int :=
  if (isTextB base && validZ base.length a && validZ base.length b) = false then ([], [], 1) else if clashP a b ≠ [] then ([], [], 18)
  else if 2048 < (finR base a b).out.length then ([], [], 4) else ((finR base a b).out, (finR base a b).kept, 0)
structure RBd (i : Nat) (s : RS) : Prop where
  s0 : 0 ≤ s.skip
  s1 : s.skip ≤ 2048
  kl : s.kept.length ≤ i
  ol : s.out.length ≤ 65 * i
theorem findE_mem {l : List Edit} {p : Int} {e : Edit} (h : findE l p = some e) : e ∈ l ∧ e.pos = p := by
  unfold findE at h
  have h1 := List.mem_of_find?_eq_some h
  have h2 := List.find?_some h
  exact ⟨h1, by simpa using h2⟩
theorem findE_bd {n : Nat} {l : List Edit} (hn : n ≤ 2048) (h : validZ n l = true) (p : Int) (e : Edit) (he : findE l p = some e) : 0 ≤ e.del ∧ e.del ≤ 2048 ∧ e.ins.length ≤ 64 := by
  obtain ⟨_, _, h3, h4, h5⟩ := validZ_in h e (findE_mem he).1
  exact ⟨h3, by omega, h5⟩
theorem edAt_bd {n : Nat} {a b : List Edit} (hn : n ≤ 2048) (ha : validZ n a = true) (hb : validZ n b = true) (p : Int) (e : Edit) (he : edAt a b p = some e) : 0 ≤ e.del ∧ e.del ≤ 2048 ∧ e.ins.length ≤ 64 := by
  unfold edAt at he
  split at he
  · exact findE_bd hn ha p e he
  · exact findE_bd hn hb p e he
theorem insR_bd {n i : Nat} {a b : List Edit} (hn : n ≤ 2048) (ha : validZ n a = true) (hb : validZ n b = true) (p : Int) {s : RS} (h : RBd i s) : 0 ≤ (insR (edAt a b p) s).skip ∧ (insR (edAt a b p) s).skip ≤ 2048 ∧ (insR (edAt a b p) s).kept.length ≤ i ∧ (insR (edAt a b p) s).out.length ≤ 65 * i + 64 := by
  cases he : edAt a b p with
  | none => exact ⟨h.s0, h.s1, h.kl, Nat.le_trans h.ol (by omega)⟩
  | some e =>
    obtain ⟨h1, h2, h3⟩ := edAt_bd hn ha hb p e he
    have := h.ol
    exact ⟨h1, h2, h.kl, by simp only [insR, List.length_append]; omega⟩
theorem placeR_bd {base : List Sym} {a b : List Edit} (hn : base.length ≤ 2048) (ha : validZ base.length a = true) (hb : validZ base.length b = true) : ∀ i, RBd i (placeR base a b i)
  | 0 => ⟨by simp [placeR], by simp [placeR], by simp [placeR], by simp [placeR]⟩
  | i + 1 => by
    obtain ⟨h1, h2, h3, h4⟩ := insR_bd hn ha hb i (placeR_bd hn ha hb i)
    have ht : ((base.drop i).take 1).length ≤ 1 := by rw [List.length_take]; omega
    rw [placeR]
    generalize insR (edAt a b i) (placeR base a b i) = s at *
    unfold keepR
    split
    · exact ⟨by simp only; omega, by simp only; omega, by simp only; omega, by simp only; omega⟩
    · exact ⟨h1, h2, by simp only [List.length_append, List.length_cons, List.length_nil]; omega, by simp only [List.length_append]; omega⟩
theorem take_one {base : List Sym} {i : Nat} (h : i < base.length) : (base.drop i).take 1 = [base[i]] := by
  rw [List.drop_eq_getElem_cons h]
  rfl
end Go.Proofs.Ythdafajhohdkoaa
