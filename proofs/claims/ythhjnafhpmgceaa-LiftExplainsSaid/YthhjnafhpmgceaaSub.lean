/- Plain: longest common parts as sublists; the size of least edits; what all alignments have in common. -/
import Derived.Test.YthhjnafhpmgceaaOwnE
import Derived.Test.YthhjnafhpmgceaaRefI
import Derived.Test.YthhjnafhpmgceaaLiftD
namespace Go.Proofs.Ythhjnafhpmgceaa
open Go.RowKit Go.Lab
theorem lcs_max : ∀ (n : Nat) (s a b : List Sym), a.length + b.length ≤ n → s.Sublist a → s.Sublist b → s.length ≤ lcs a b
  | _, s, [], b, _, h, _ => by
    have := List.sublist_nil.1 h
    subst this
    simp
  | _, s, x :: xs, [], _, _, h => by
    have := List.sublist_nil.1 h
    subst this
    simp
  | 0, s, x :: xs, y :: ys, hn, _, _ => by simp at hn
  | n + 1, s, x :: xs, y :: ys, hn, h1, h2 => by
    simp only [List.length_cons] at hn
    have m1 := (lcs_step _ x y xs (y :: ys) (Nat.le_refl _)).1
    have m2 := (lcs_step _ x y (x :: xs) ys (Nat.le_refl _)).2.2.1
    cases h1 with
    | cons _ h1 =>
      have := lcs_max n s xs (y :: ys) (by simp only [List.length_cons]; omega) h1 h2
      omega
    | cons_cons _ h1 =>
      rename_i s1
      cases h2 with
      | cons _ h2 =>
        have := lcs_max n (x :: s1) (x :: xs) ys (by simp only [List.length_cons]; omega) (h1.cons_cons x) h2
        omega
      | cons_cons _ h2 =>
        have := lcs_max n s1 xs ys (by omega) h1 h2
        rw [lcs_cons, if_pos rfl, List.length_cons]
        omega
theorem lcs_ex : ∀ (n : Nat) (a b : List Sym), a.length + b.length ≤ n → ∃ s : List Sym, s.Sublist a ∧ s.Sublist b ∧ s.length = lcs a b
  | _, [], b, _ => ⟨[], List.nil_sublist _, List.nil_sublist _, by rw [lcs_nil_left]; rfl⟩
  | _, x :: xs, [], _ => ⟨[], List.nil_sublist _, List.nil_sublist _, by rw [lcs_nil_right]; rfl⟩
  | 0, x :: xs, y :: ys, hn => by simp at hn
  | n + 1, x :: xs, y :: ys, hn => by
    simp only [List.length_cons] at hn
    rw [lcs_cons]
    by_cases e : x = y
    · subst e
      rw [if_pos rfl]
      obtain ⟨s, h1, h2, h3⟩ := lcs_ex n xs ys (by omega)
      exact ⟨x :: s, h1.cons_cons x, h2.cons_cons x, by rw [List.length_cons, h3]; omega⟩
    · rw [if_neg e]
      by_cases hle : lcs xs (y :: ys) ≤ lcs (x :: xs) ys
      · obtain ⟨s, h1, h2, h3⟩ := lcs_ex n (x :: xs) ys (by simp only [List.length_cons]; omega)
        exact ⟨s, h1, h2.cons y, by rw [h3]; omega⟩
      · obtain ⟨s, h1, h2, h3⟩ := lcs_ex n xs (y :: ys) (by simp only [List.length_cons]; omega)
        exact ⟨s, h1.cons x, h2, by rw [h3]; omega⟩
theorem lcs_sup {s a b : List Sym} (h1 : s.Sublist a) (h2 : s.Sublist b) : s.length ≤ lcs a b := lcs_max _ s a b (Nat.le_refl _) h1 h2
theorem lcs_has (a b : List Sym) : ∃ s : List Sym, s.Sublist a ∧ s.Sublist b ∧ s.length = lcs a b := lcs_ex _ a b (Nat.le_refl _)
theorem lcs_comm (a b : List Sym) : lcs a b = lcs b a := by
  obtain ⟨s, h1, h2, h3⟩ := lcs_has a b
  obtain ⟨t, g1, g2, g3⟩ := lcs_has b a
  have := lcs_sup h2 h1
  have := lcs_sup g2 g1
  omega
theorem meet_sub {s t c : List Sym} (h : s.Sublist c) (g : t.Sublist c) : ∃ u : List Sym, u.Sublist s ∧ u.Sublist t ∧ s.length + t.length ≤ c.length + u.length := by
  induction c generalizing s t with
  | nil =>
    have := List.sublist_nil.1 h
    have := List.sublist_nil.1 g
    subst_vars
    exact ⟨[], List.nil_sublist _, List.nil_sublist _, by simp⟩
  | cons x c ih =>
    cases h with
    | cons _ h =>
      cases g with
      | cons _ g =>
        obtain ⟨u, h1, h2, h3⟩ := ih h g
        exact ⟨u, h1, h2, by simp only [List.length_cons]; omega⟩
      | cons_cons _ g =>
        obtain ⟨u, h1, h2, h3⟩ := ih h g
        exact ⟨u, h1, h2.cons x, by simp only [List.length_cons]; omega⟩
    | cons_cons _ h =>
      cases g with
      | cons _ g =>
        obtain ⟨u, h1, h2, h3⟩ := ih h g
        exact ⟨u, h1.cons x, h2, by simp only [List.length_cons]; omega⟩
      | cons_cons _ g =>
        obtain ⟨u, h1, h2, h3⟩ := ih h g
        exact ⟨x :: u, h1.cons_cons x, h2.cons_cons x, by simp only [List.length_cons]; omega⟩
theorem lcs_tri (a b c : List Sym) : lcs a c + lcs c b ≤ c.length + lcs a b := by
  obtain ⟨s, h1, h2, h3⟩ := lcs_has a c
  obtain ⟨t, g1, g2, g3⟩ := lcs_has c b
  obtain ⟨u, k1, k2, k3⟩ := meet_sub h2 g1
  have := lcs_sup (k1.trans h1) (k2.trans g2)
  omega
theorem lcs_self (a : List Sym) : lcs a a = a.length := by
  have := lcs_sup (List.Sublist.refl a) (List.Sublist.refl a)
  have := (lcs_le _ a a (Nat.le_refl _)).1
  omega
theorem lcs_all {a b : List Sym} (h : a.length + b.length ≤ 2 * lcs a b) : a = b := by
  obtain ⟨s, h1, h2, h3⟩ := lcs_has a b
  have e1 := h1.length_le
  have e2 := h2.length_le
  exact (h1.eq_of_length (by omega)).symm.trans (h2.eq_of_length (by omega))
theorem lcs_pre (c a b : List Sym) : lcs (c ++ a) (c ++ b) = c.length + lcs a b := by
  induction c with
  | nil => simp
  | cons x c ih =>
    rw [List.cons_append, List.cons_append, lcs_cons, if_pos rfl, ih, List.length_cons]
    omega
theorem lcs_rev (a b : List Sym) : lcs a.reverse b.reverse = lcs a b := by
  have key : ∀ a b : List Sym, lcs a b ≤ lcs a.reverse b.reverse := fun a b => by
    obtain ⟨s, h1, h2, h3⟩ := lcs_has a b
    have := lcs_sup (List.reverse_sublist.2 h1) (List.reverse_sublist.2 h2)
    rw [List.length_reverse] at this
    omega
  have h1 := key a b
  have h2 := key a.reverse b.reverse
  rw [List.reverse_reverse, List.reverse_reverse] at h2
  omega
theorem lcs_suf (c a b : List Sym) : lcs (a ++ c) (b ++ c) = lcs a b + c.length := by
  rw [← lcs_rev, List.reverse_append, List.reverse_append, lcs_pre, lcs_rev, List.length_reverse]
  omega
theorem editsGo_size (n m : Nat) (b : List Sym) (hm : b.length = m) : ∀ (l : List (Nat × Nat)) (i k : Nat), incP n m i k l → sizeZ (editsGo b i k (l ++ [(n, m)])) = ((n - i : Nat) : Int) + ((m - k : Nat) : Int) - 2 * l.length
  | [], i, k, h => by
    obtain ⟨h1, h2⟩ := h
    rw [List.nil_append, editsGo, editsGo]
    split
    · simp [sizeZ]; omega
    · simp [sizeZ]; omega
  | (p, q) :: r, i, k, h => by
    obtain ⟨h1, h2, h3, h4, h5⟩ := h
    have ih := editsGo_size n m b hm r (p + 1) (q + 1) h5
    rw [List.cons_append, editsGo]
    unfold sizeZ at ih ⊢
    rw [List.map_append, List.sum_append, ih, List.length_cons]
    split
    · simp; omega
    · simp; omega
theorem editsZ_size {a b : List Sym} {p : List (Nat × Nat)} (h : incP a.length b.length 0 0 p) : sizeZ (editsZ a b p) = (a.length : Int) + b.length - 2 * p.length := by
  have := editsGo_size a.length b.length b rfl p 0 0 h
  simpa [editsZ] using this
theorem enumP_card {a b : List Sym} : ∀ (f i k : Nat) (p : List (Nat × Nat)), a.length - i ≤ f → p ∈ enumP a b f i k → p.length = lcsM a b i k
  | 0, i, k, p, hf, h => by
    simp [enumP] at h
    subst h
    rw [lcsM_end_i (by omega)]
    rfl
  | f + 1, i, k, p, hf, h => by
    by_cases h0 : lcsM a b i k = 0
    · rw [enumP_zero h0] at h
      simp at h
      subst h
      rw [h0]
      rfl
    · rw [enumP_succ h0] at h
      unfold rowsP rowP at h
      obtain ⟨x, hx, h⟩ := List.mem_flatMap.1 h
      obtain ⟨y, hy, h⟩ := List.mem_flatMap.1 h
      obtain ⟨j, hj, rfl⟩ := List.mem_range'.1 hx
      obtain ⟨j', hj', rfl⟩ := List.mem_range'.1 hy
      unfold blkP at h
      split at h
      · rename_i hc
        obtain ⟨q, hq, rfl⟩ := List.mem_map.1 h
        have := enumP_card f _ _ q (by omega) hq
        rw [List.length_cons, this]
        omega
      · cases h
theorem lcsM_pair {a b : List Sym} : ∀ (n i k : Nat), (a.length - i) + (b.length - k) ≤ n → lcsM a b i k ≠ 0 →
    ∃ x y, i ≤ x ∧ k ≤ y ∧ ∃ (hx : x < a.length) (hy : y < b.length), a[x] = b[y] ∧ 1 + lcsM a b (x + 1) (y + 1) = lcsM a b i k
  | n, i, k, hn, h0 => by
    have hi : i < a.length := by
      rcases Nat.lt_or_ge i a.length with h | h
      · exact h
      · exact absurd (lcsM_end_i h) h0
    have hk : k < b.length := by
      rcases Nat.lt_or_ge k b.length with h | h
      · exact h
      · exact absurd (lcsM_end_k h) h0
    have hs := lcsM_step hi hk
    by_cases e : a[i] = b[k]
    · rw [if_pos e] at hs
      exact ⟨i, k, Nat.le_refl _, Nat.le_refl _, hi, hk, e, hs.symm⟩
    · rw [if_neg e] at hs
      match n, hn with
      | 0, hn => omega
      | n + 1, hn =>
        by_cases hle : lcsM a b (i + 1) k ≤ lcsM a b i (k + 1)
        · obtain ⟨x, y, h1, h2, hx, hy, h3, h4⟩ := lcsM_pair (a := a) (b := b) n i (k + 1) (by omega) (by omega)
          exact ⟨x, y, h1, by omega, hx, hy, h3, by omega⟩
        · obtain ⟨x, y, h1, h2, hx, hy, h3, h4⟩ := lcsM_pair (a := a) (b := b) n (i + 1) k (by omega) (by omega)
          exact ⟨x, y, by omega, h2, hx, hy, h3, by omega⟩
theorem enumP_ne {a b : List Sym} : ∀ (f i k : Nat), a.length - i ≤ f → ∃ p, p ∈ enumP a b f i k
  | 0, i, k, hf => ⟨[], by simp [enumP]⟩
  | f + 1, i, k, hf => by
    by_cases h0 : lcsM a b i k = 0
    · exact ⟨[], by rw [enumP_zero h0]; simp⟩
    · obtain ⟨x, y, h1, h2, hx, hy, h3, h4⟩ := lcsM_pair _ i k (Nat.le_refl _) h0
      obtain ⟨p, hp⟩ := enumP_ne (a := a) (b := b) f (x + 1) (y + 1) (by omega)
      refine ⟨(x, y) :: p, ?_⟩
      rw [enumP_succ h0]
      unfold rowsP rowP
      refine List.mem_flatMap.2 ⟨x, List.mem_range'.2 ⟨x - i, by omega, by omega⟩, List.mem_flatMap.2 ⟨y, List.mem_range'.2 ⟨y - k, by omega, by omega⟩, ?_⟩⟩
      rw [blkP_yes hx hy h3 h4]
      exact List.mem_map.2 ⟨p, hp, rfl⟩
theorem leastZ_size {a b : List Sym} (hta : isTextB a = true) (htb : isTextB b = true) : (leastZ a b).2.1 = (a.length : Int) + b.length - 2 * lcs a b := by
  have hc : choicesZ a b 2 = ((enumP a b a.length 0 0).take 2).map (editsZ a b) := by
    unfold choicesZ
    rw [hta, htb]
    rfl
  have hpq : ∀ p, p ∈ enumP a b a.length 0 0 → sizeZ (editsZ a b p) = (a.length : Int) + b.length - 2 * lcs a b := fun p hp => by
    rw [editsZ_size (enumP_inc _ _ _ p (Nat.zero_le _) (Nat.zero_le _) hp), enumP_card _ _ _ p (by omega) hp]
    rfl
  obtain ⟨p, hp⟩ := enumP_ne (a := a) (b := b) a.length 0 0 (by omega)
  unfold leastZ
  rw [hc]
  cases he : enumP a b a.length 0 0 with
  | nil => rw [he] at hp; cases hp
  | cons q r =>
    have := hpq q (by rw [he]; exact List.mem_cons_self ..)
    simpa using this
theorem isTextB_mk {l : List Sym} (h : l.length ≤ 2048) (hg : l.all goodB = true) : isTextB l = true := by
  unfold isTextB
  rw [hg]
  simpa using h
theorem isTextB_good {l : List Sym} (h : isTextB l = true) : l.all goodB = true := by
  unfold isTextB at h
  simp only [Bool.and_eq_true] at h
  exact h.2
theorem all_good_take {l : List Sym} (h : l.all goodB = true) (n : Nat) : (l.take n).all goodB = true := by
  rw [List.all_eq_true] at h ⊢
  exact fun x hx => h x (List.mem_of_mem_take hx)
theorem all_good_drop {l : List Sym} (h : l.all goodB = true) (n : Nat) : (l.drop n).all goodB = true := by
  rw [List.all_eq_true] at h ⊢
  exact fun x hx => h x (List.mem_of_mem_drop hx)
theorem applyGo_good {l : List Sym} (hl : l.all goodB = true) : ∀ (es : List Edit) (last : Int) (p : Nat) (out : List Sym), validGo l.length last es = true → out.all goodB = true → (applyGo l p out es).all goodB = true
  | [], last, p, out, _, ho => by
    rw [applyGo, List.all_append, ho, all_good_drop hl]
    rfl
  | e :: es, last, p, out, hv, ho => by
    rw [validGo] at hv
    split at hv
    · cases hv
    · rename_i hb
      rw [applyGo]
      refine applyGo_good hl es _ _ _ hv ?_
      have hi : e.ins.all goodB = true := by
        unfold badE at hb
        cases hh : e.ins.all goodB with
        | true => rfl
        | false => rw [hh] at hb; simp at hb
      rw [List.all_append, List.all_append, ho, all_good_take (all_good_drop hl _), hi]
      rfl
theorem applyGo_len {l : List Sym} {c : Nat} : ∀ (es : List Edit) (last : Int) (p : Nat) (out : List Sym), validGo l.length last es = true → (∀ e ∈ es, e.ins.length ≤ c) → p ≤ l.length → (p : Int) ≤ last + 1 →
    (applyGo l p out es).length ≤ out.length + (l.length - p) + c * es.length
  | [], last, p, out, _, _, _, _ => by
    rw [applyGo, List.length_append, List.length_drop]
    omega
  | e :: es, last, p, out, hv, hc, hp, hpl => by
    rw [validGo] at hv
    split at hv
    · cases hv
    · rename_i hb
      have hb2 : last < e.pos ∧ e.pos ≤ l.length ∧ 0 ≤ e.del ∧ e.del ≤ l.length - e.pos := by
        unfold badE at hb
        simp only [Bool.not_eq_true, Bool.or_eq_false_iff, decide_eq_false_iff_not] at hb
        omega
      have hin := hc e (List.mem_cons_self ..)
      have ih := applyGo_len (l := l) (c := c) es (e.pos + e.del) (e.pos + e.del).toNat (out ++ (l.drop p).take (e.pos.toNat - p) ++ e.ins) hv (fun x hx => hc x (List.mem_cons_of_mem _ hx)) (by omega) (by omega)
      rw [applyGo]
      refine Nat.le_trans ih ?_
      rw [List.length_append, List.length_append, List.length_take, List.length_drop, List.length_cons, Nat.mul_succ]
      omega
theorem applyZ_text (a : List Sym) (es : List Edit) : isTextB (applyZ a es).1 = true := by
  unfold applyZ
  split
  · rename_i h
    simp only [Bool.and_eq_true] at h
    split
    · decide
    · rename_i h2
      have hv := h.2
      unfold validZ at hv
      simp only [Bool.and_eq_true] at hv
      exact isTextB_mk (by show (applyGo a 0 [] es).length ≤ 2048; omega) (applyGo_good (isTextB_good h.1) es _ 0 [] hv.2 rfl)
  · decide
theorem applyZ_len {a : List Sym} {es : List Edit} (h1 : es.length ≤ 3) (h2 : ∀ e ∈ es, e.ins.length ≤ 10) : (applyZ a es).1.length ≤ a.length + 30 := by
  unfold applyZ
  split
  · rename_i h
    simp only [Bool.and_eq_true] at h
    split
    · simp
    · have hv := h.2
      unfold validZ at hv
      simp only [Bool.and_eq_true] at hv
      have := applyGo_len (l := a) (c := 10) es (-1) 0 [] hv.2 h2 (Nat.zero_le _) (by omega)
      simp at this
      show (applyGo a 0 [] es).length ≤ _
      omega
  · simp
end Go.Proofs.Ythhjnafhpmgceaa
