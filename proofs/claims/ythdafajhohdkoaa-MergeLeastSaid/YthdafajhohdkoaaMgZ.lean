/- Plain: the pairs of kept characters of a merge. -/
import Derived.Test.YthdafajhohdkoaaMgY
namespace Go.Proofs.Ythdafajhohdkoaa
open Go.RowKit Go.Lab
theorem mem_segP {k n : Nat} {p : Nat × Nat} : ∀ {j : Nat}, p ∈ segP k n j → ∃ i, i < j ∧ p = (k + i, n + i)
  | 0, h => by simp [segP] at h
  | j + 1, h => by
    simp only [segP, List.mem_append, List.mem_singleton] at h
    rcases h with h | h
    · obtain ⟨i, hi, e⟩ := mem_segP h
      exact ⟨i, by omega, e⟩
    · exact ⟨j, by omega, h⟩
theorem segP_inc (k n : Nat) : ∀ j, (segP k n j).Pairwise (fun p q => p.1 < q.1 ∧ p.2 < q.2)
  | 0 => by simp [segP]
  | j + 1 => by
    simp only [segP]
    rw [List.pairwise_append]
    refine ⟨segP_inc k n j, List.pairwise_singleton .., fun p hp q hq => ?_⟩
    obtain ⟨i, hi, rfl⟩ := mem_segP hp
    rw [List.mem_singleton] at hq
    subst hq
    exact ⟨by simp; omega, by simp; omega⟩
/-- The pairs so far: increasing, of the same characters; how many. -/
structure KInv (base : List Sym) (s : MS) (ins del : Nat) : Prop where
  inc : s.kept.Pairwise (fun p q => p.1 < q.1 ∧ p.2 < q.2)
  lt : ∀ p ∈ s.kept, p.1 < s.k ∧ p.2 < s.out.length
  eq : ∀ p ∈ s.kept, ∃ x, base[p.1]? = some x ∧ s.out[p.2]? = some x
  out : s.out.length = s.kept.length + ins
  k : s.k = s.kept.length + del
theorem KInv.keep {base : List Sym} {s : MS} {i d t : Nat} (h : KInv base s i d) (ht : t ≤ base.length) : KInv base (keepS base t s) i d := by
  have hlen := segS_full base s.k t ht
  refine ⟨?_, ?_, ?_, ?_, ?_⟩
  · simp only [keepS]
    rw [List.pairwise_append]
    refine ⟨h.inc, segP_inc _ _ _, fun p hp q hq => ?_⟩
    obtain ⟨j, hj, rfl⟩ := mem_segP hq
    have := h.lt p hp
    exact ⟨by simp; omega, by simp; omega⟩
  · intro p hp
    simp only [keepS, List.mem_append, List.length_append, hlen] at hp ⊢
    rcases hp with hp | hp
    · have := h.lt p hp
      omega
    · obtain ⟨j, hj, rfl⟩ := mem_segP hp
      simp only
      omega
  · intro p hp
    simp only [keepS, List.mem_append] at hp ⊢
    rcases hp with hp | hp
    · obtain ⟨x, h1, h2⟩ := h.eq p hp
      exact ⟨x, h1, by rw [List.getElem?_append_left (h.lt p hp).2]; exact h2⟩
    · obtain ⟨j, hj, rfl⟩ := mem_segP hp
      refine ⟨base[s.k + j]'(by omega), List.getElem?_eq_getElem _, ?_⟩
      simp only
      rw [List.getElem?_append_right (by omega), show s.out.length + j - s.out.length = j by omega]
      unfold segS
      rw [List.getElem?_take_of_lt hj, List.getElem?_drop]
      exact List.getElem?_eq_getElem _
  · have := h.out
    simp only [keepS, List.length_append, hlen, segP_len]
    omega
  · have := h.k
    simp only [keepS, List.length_append, segP_len]
    omega
theorem KInv.ins {base : List Sym} {s : MS} {i d : Nat} (h : KInv base s i d) (e : Edit) : KInv base (insS e s) (i + e.ins.length) (d + e.del.toNat) := by
  refine ⟨h.inc, ?_, ?_, ?_, ?_⟩
  · intro p hp
    have := h.lt p hp
    simp only [insS, List.length_append]
    omega
  · intro p hp
    obtain ⟨x, h1, h2⟩ := h.eq p hp
    refine ⟨x, h1, ?_⟩
    simp only [insS]
    rw [List.getElem?_append_left (h.lt p hp).2]
    exact h2
  · have := h.out
    simp only [insS, List.length_append]
    omega
  · have := h.k
    simp only [insS]
    omega
def delLen (l : List Edit) : Nat := (l.map fun e => e.del.toNat).sum
theorem insLen_cons (e : Edit) (l : List Edit) : insLen (e :: l) = e.ins.length + insLen l := by simp [insLen]
theorem delLen_cons (e : Edit) (l : List Edit) : delLen (e :: l) = e.del.toNat + delLen l := by simp [delLen]
theorem insLen_app (a b : List Edit) : insLen (a ++ b) = insLen a + insLen b := by simp [insLen]
theorem delLen_app (a b : List Edit) : delLen (a ++ b) = delLen a + delLen b := by simp [delLen]
theorem insLen_perm {a b : List Edit} (h : a.Perm b) : insLen a = insLen b := (h.map _).sum_nat
theorem delLen_perm {a b : List Edit} (h : a.Perm b) : delLen a = delLen b := (h.map _).sum_nat
theorem delLen_le {l : List Edit} {m : Nat} (h : ∀ e ∈ l, e.del ≤ m) : delLen l ≤ l.length * m := by
  induction l with
  | nil => simp [delLen]
  | cons e l ih =>
    have h1 := ih (fun x hx => h x (List.mem_cons_of_mem _ hx))
    have h2 := h e (List.mem_cons_self ..)
    rw [delLen_cons, List.length_cons, Nat.add_mul]
    omega
theorem kinv_fold (base : List Sym) : ∀ (l : List Edit) (s : MS) (i d : Nat), KInv base s i d → (∀ e ∈ l, InN base.length e) → KInv base (l.foldl (stepS base) s) (i + insLen l) (d + delLen l)
  | [], s, i, d, h, _ => by simpa [insLen, delLen] using h
  | e :: l, s, i, d, h, hi => by
    obtain ⟨i1, i2, i3⟩ := hi e (List.mem_cons_self ..)
    have := kinv_fold base l (stepS base s e) _ _ ((h.keep (t := e.pos.toNat) (by omega)).ins e) (fun x hx => hi x (List.mem_cons_of_mem _ hx))
    rw [List.foldl_cons, insLen_cons, delLen_cons, ← Nat.add_assoc, ← Nat.add_assoc]
    exact this
theorem fold_k (base : List Sym) : ∀ (l : List Edit) (s : MS), SepE l → (∀ e ∈ l, InN base.length e) → (∀ e ∈ l, (s.k : Int) ≤ e.pos) → s.k ≤ base.length → (l.foldl (stepS base) s).k ≤ base.length
  | [], s, _, _, _, hk => hk
  | e :: l, s, hs, hi, hp, hk => by
    unfold SepE at hs
    rw [List.pairwise_cons] at hs
    obtain ⟨i1, i2, i3⟩ := hi e (List.mem_cons_self ..)
    have hpe := hp e (List.mem_cons_self ..)
    have hk2 : (stepS base s e).k = (e.pos + e.del).toNat := by
      simp only [stepS, insS, keepS]
      omega
    exact fold_k base l _ hs.2 (fun x hx => hi x (List.mem_cons_of_mem _ hx)) (fun x hx => by have := hs.1 x hx; rw [hk2]; omega) (by rw [hk2]; omega)
/-- What the law Keeps says. -/
structure KeepsR (base out : List Sym) (kept : List (Nat × Nat)) (ins del : Nat) : Prop where
  inc : kept.Pairwise (fun p q => p.1 < q.1 ∧ p.2 < q.2)
  eq : ∀ p ∈ kept, ∃ x, base[p.1]? = some x ∧ out[p.2]? = some x
  out : out.length = kept.length + ins
  k : base.length = kept.length + del
theorem keeps_law {base : List Sym} {a b : List Edit} (ht : isTextB base = true) (hl : base.length ≤ 500) (ha : validZ base.length a = true) (hb : validZ base.length b = true) (sa : Small a) (sb : Small b) (hc : clashP a b = []) :
    (mergeZ base a b).2.2 = 0 ∧ KeepsR base (mergeZ base a b).1 (mergeZ base a b).2.1 (insLen a + insLen (b.filter fun x => !memB a x)) (delLen a + delLen (b.filter fun x => !memB a x)) := by
  have hm := merge_small ht hl ha hb sa sb hc
  have hsep := srt_sep ha hb hc
  have hin := bothE_in ha hb
  have h0 : KInv base ⟨0, [], []⟩ 0 0 := ⟨List.Pairwise.nil, (fun _ h => by cases h), (fun _ h => by cases h), rfl, rfl⟩
  have h1 := kinv_fold base (srtE (bothE a b)) _ _ _ h0 hin
  have h2 := fold_k base (srtE (bothE a b)) ⟨0, [], []⟩ hsep hin (fun e he => by have := (hin e he).1; simpa using this) (Nat.zero_le _)
  have h3 := h1.keep (Nat.le_refl base.length)
  rw [insLen_perm (srtE_perm _), delLen_perm (srtE_perm _), Nat.zero_add, Nat.zero_add] at h3
  unfold bothE at h3
  rw [insLen_app, delLen_app] at h3
  rw [hm]
  refine ⟨rfl, h3.inc, h3.eq, h3.out, ?_⟩
  have hk := h3.k
  have hkk : (keepS base base.length (List.foldl (stepS base) ⟨0, [], []⟩ (srtE (bothE a b)))).k = base.length := by
    simp only [keepS]
    omega
  unfold bothE at hkk
  rw [hkk] at hk
  exact hk
end Go.Proofs.Ythdafajhohdkoaa
