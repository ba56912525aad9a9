/- Reader, plain: what the reference's first finds among the orders that begin with some elements. -/
import Derived.Test.YtfljgcpfmhhgcaaRdPm
import Derived.Test.YtfljgcpfmhhgcaaRdPq
namespace Go.Proofs.Ytfljgcpfmhhgcaa
open Go.RowKit Go.Lab
theorem len_le_of_sub : ∀ {l m : List Nat}, l.Nodup → l ⊆ m → l.length ≤ m.length
  | [], _, _, _ => Nat.zero_le _
  | x :: l, m, hd, hs => by
    obtain ⟨h1, h2⟩ := List.nodup_cons.1 hd
    have hx : x ∈ m := hs (List.mem_cons_self ..)
    have hsub : l ⊆ m.erase x := fun y hy => (List.mem_erase_of_ne (by rintro rfl; exact h1 hy)).2 (hs (List.mem_cons_of_mem _ hy))
    have h := len_le_of_sub h2 hsub
    have hl := List.length_erase_of_mem hx
    have hp := List.length_pos_of_mem hx
    simp only [List.length_cons]
    omega
/-- What the search knows of a beginning: s are the elements that are left, f is the last place. -/
def Begun (pl : List Pl) (need : List Int) (pre : List Nat) (s : Nat) (f : Pl) : Prop :=
  pre.Nodup ∧ s < 2 ^ need.length ∧ (∀ k, k ∈ othersL s need.length (-1) ↔ k < need.length ∧ k ∉ pre) ∧ (∀ k ∈ pre, k < need.length) ∧ (pre = [] ∧ f = pl0 ∨ ∃ q k, pre = q ++ [k] ∧ f = lp (needL pl need) k)
theorem Begun.start (pl : List Pl) (need : List Int) : Begun pl need [] (2 ^ need.length - 1) pl0 :=
  ⟨List.nodup_nil, full_lt _, fun k => by rw [full_mem]; simp, fun _ h => (by cases h), .inl ⟨rfl, rfl⟩⟩
theorem Begun.more {pl : List Pl} {need : List Int} {pre : List Nat} {s : Nat} {f : Pl} (h : Begun pl need pre s f) (hn : need.length ≤ 8) {k : Nat} (hk : k < need.length) (hkp : k ∉ pre) : Begun pl need (pre ++ [k]) (s - 2 ^ k) (lp (needL pl need) k) := by
  obtain ⟨h1, h2, h3, h4, _⟩ := h
  have hks : k ∈ othersL s need.length (-1) := (h3 k).2 ⟨hk, hkp⟩
  have hs256 : s < 256 := Nat.lt_of_lt_of_le h2 (two_pow_lt hn)
  refine ⟨List.nodup_append.2 ⟨h1, by simp, fun a ha b hb => ?_⟩, Nat.lt_of_le_of_lt (Nat.sub_le _ _) h2, fun j => ?_, fun j hj => ?_, .inr ⟨pre, k, rfl, rfl⟩⟩
  · simp only [List.mem_singleton] at hb
    subst hb
    rintro rfl
    exact hkp ha
  · rw [mem_less hs256 hn hks, h3 j]
    simp only [List.mem_append, List.mem_singleton, not_or]
    exact ⟨fun ⟨⟨a, b⟩, c⟩ => ⟨a, b, c⟩, fun ⟨a, b, c⟩ => ⟨⟨a, b⟩, c⟩⟩
  · rcases List.mem_append.1 hj with hj | hj
    · exact h4 j hj
    · simp only [List.mem_singleton] at hj
      subst hj
      exact hk
theorem stepsN_more (way : Int) (L : List Pl) : ∀ (pre : List Nat) (p : Pl) (k : Nat), stepsN way L p (pre ++ [k]) = stepsN way L p pre + costZ way (match pre.getLast? with | some j => lp L j | none => p) (lp L k)
  | [], p, k => by simp [stepsN]
  | x :: pre, p, k => by
    have h := stepsN_more way L pre (lp L x) k
    rw [List.cons_append, stepsN, h, stepsN]
    cases pre with
    | nil => simp; omega
    | cons y r => simp [List.getLast?_cons]; omega
theorem Begun.steps {way : Int} {pl : List Pl} {need : List Int} {pre : List Nat} {s : Nat} {f : Pl} (h : Begun pl need pre s f) (k : Nat) : stepsN way (needL pl need) pl0 (pre ++ [k]) = stepsN way (needL pl need) pl0 pre + costZ way f (lp (needL pl need) k) := by
  rw [stepsN_more]
  rcases h.2.2.2.2 with ⟨rfl, rfl⟩ | ⟨q, j, rfl, rfl⟩
  · rfl
  · simp
theorem Begun.fok {pl : List Pl} {need : List Int} {pre : List Nat} {s : Nat} {f : Pl} (h : Begun pl need pre s f) (hok : ∀ p ∈ pl, PlOk p) : PlOk f := by
  rcases h.2.2.2.2 with ⟨_, rfl⟩ | ⟨q, j, _, rfl⟩
  · exact pl0_ok
  · exact lp_ok (needL_ok hok) j
theorem Begun.len {pl : List Pl} {need : List Int} {pre : List Nat} {s : Nat} {f : Pl} (h : Begun pl need pre s f) : pre.length ≤ need.length := by
  have hsub : pre ⊆ List.range need.length := fun k hk => List.mem_range.2 (h.2.2.2.1 k hk)
  have := (len_le_of_sub h.1 hsub)
  simpa using this
theorem Begun.full {pl : List Pl} {need : List Int} {pre : List Nat} {s : Nat} {f : Pl} (h : Begun pl need pre s f) (hl : pre.length = need.length) : s = 0 := by
  by_cases h0 : s = 0
  · exact h0
  · obtain ⟨k, hk⟩ := List.exists_mem_of_ne_nil _ (others_ne h0 h.2.1)
    obtain ⟨hk1, hk2⟩ := (h.2.2.1 k).1 hk
    have hsub : (k :: pre) ⊆ List.range need.length := fun j hj => by
      rcases List.mem_cons.1 hj with rfl | hj
      · exact List.mem_range.2 hk1
      · exact List.mem_range.2 (h.2.2.2.1 j hj)
    have := (len_le_of_sub (List.nodup_cons.2 ⟨hk2, h.1⟩) hsub)
    simp at this
    omega
theorem Begun.left {pl : List Pl} {need : List Int} {pre : List Nat} {s : Nat} {f : Pl} (h : Begun pl need pre s f) (hl : ¬ pre.length = need.length) : s ≠ 0 := by
  rintro rfl
  have hsub : List.range need.length ⊆ pre := fun k hk => by
    by_cases hkp : k ∈ pre
    · exact hkp
    · have := (h.2.2.1 k).2 ⟨List.mem_range.1 hk, hkp⟩
      rw [others_zero] at this
      cases this
  have := (len_le_of_sub List.nodup_range hsub)
  have := h.len
  simp at *
  omega
/-- The rest behind one more element is not less than the rest. -/
theorem Begun.rest {way : Int} {pl : List Pl} {need : List Int} {pre : List Nat} {s : Nat} {f : Pl} (h : Begun pl need pre s f) (hok : ∀ p ∈ pl, PlOk p) {k : Nat} (hk : k < need.length) (hkp : k ∉ pre) :
    restV way (needL pl need) s f ≤ costZ way f (lp (needL pl need) k) + restV way (needL pl need) (s - 2 ^ k) (lp (needL pl need) k) := by
  have hks : k ∈ othersL s need.length (-1) := (h.2.2.1 k).2 ⟨hk, hkp⟩
  have h0 : s ≠ 0 := fun e => by rw [e, others_zero] at hks; cases hks
  have hL := needL_ok (need := need) hok
  rw [restV_eq way (needL pl need) s f h0, needL_len]
  exact (fold_bd (f := fun k => costZ way f (lp (needL pl need) k) + restV way (needL pl need) (s - 2 ^ k) (lp (needL pl need) k)) (othersL s need.length (-1)) (-1) (fun y hy => by
    have g1 := costZ_bd (way := way) (h.fok hok) (lp_ok hL y)
    have g2 := restV_nonneg (way := way) hL (s - 2 ^ y) (lp (needL pl need) y) (lp_ok hL y) (by rw [needL_len]; exact Nat.lt_of_le_of_lt (Nat.sub_le _ _) h.2.1)
    omega)).2 k hks
theorem has_nd {need : List Int} (hs : need.Pairwise (· < ·)) {pre : List Nat} (hp : ∀ k ∈ pre, k < need.length) {i : Nat} (hi : i < need.length) : hasZ (ndOf need pre) need[i] = decide (i ∈ pre) := by
  unfold hasZ
  rw [Bool.eq_iff_iff]
  simp only [List.any_eq_true, decide_eq_true_eq, ndOf, List.mem_map]
  refine ⟨?_, fun h => ⟨need[i], ⟨i, h, by simp [List.getD, hi]⟩, rfl⟩⟩
  rintro ⟨x, ⟨k, hk, rfl⟩, hx⟩
  have hkl := hp k hk
  have e : need[k] = need[i] := by simpa [List.getD, hkl] using hx
  have hpw := List.pairwise_iff_getElem.1 hs
  rcases Nat.lt_trichotomy k i with h | h | h
  · have := hpw k i hkl hi h
    omega
  · exact h ▸ hk
  · have := hpw i k hi hkl h
    omega
/-- The first element that leads to the fewest steps. -/
theorem Begun.first {way : Int} {pl : List Pl} {need : List Int} {pre : List Nat} {s : Nat} {f : Pl} (h : Begun pl need pre s f) {i : Nat} (hi : i < need.length) (hip : i ∉ pre)
    (hno : ∀ k, k < i → k ∉ pre → ¬ costZ way f (lp (needL pl need) k) + restV way (needL pl need) (s - 2 ^ k) (lp (needL pl need) k) = restV way (needL pl need) s f)
    (hyes : costZ way f (lp (needL pl need) i) + restV way (needL pl need) (s - 2 ^ i) (lp (needL pl need) i) = restV way (needL pl need) s f) :
    orderV way (needL pl need) s f = i :: orderV way (needL pl need) (s - 2 ^ i) (lp (needL pl need) i) := by
  have his : i ∈ othersL s need.length (-1) := (h.2.2.1 i).2 ⟨hi, hip⟩
  have h0 : s ≠ 0 := fun e => by rw [e, others_zero] at his; cases his
  refine orderV_eq way (needL pl need) h0 ?_
  rw [needL_len]
  have hpw : (othersL s need.length (-1)).Pairwise (· < ·) := (List.pairwise_lt_range).sublist List.filter_sublist
  obtain ⟨xs, ys, hsp⟩ := List.append_of_mem his
  rw [List.find?_eq_some_iff_append]
  refine ⟨by unfold bestP; exact decide_eq_true hyes, xs, ys, hsp, fun a ha => ?_⟩
  have hal : a ∈ othersL s need.length (-1) := by rw [hsp]; exact List.mem_append_left _ ha
  have hai : a < i := by
    rw [hsp] at hpw
    exact (List.pairwise_append.1 hpw).2.2 a ha i (List.mem_cons_self ..)
  unfold bestP
  rw [Bool.not_eq_true', decide_eq_false_iff_not]
  exact hno a hai ((h.2.2.1 a).1 hal).2
/-- If no element is found, none leads to the fewest steps. -/
theorem Begun.some {way : Int} {pl : List Pl} {need : List Int} {pre : List Nat} {s : Nat} {f : Pl} (h : Begun pl need pre s f) (h0 : s ≠ 0) :
    ∃ k, k < need.length ∧ k ∉ pre ∧ costZ way f (lp (needL pl need) k) + restV way (needL pl need) (s - 2 ^ k) (lp (needL pl need) k) = restV way (needL pl need) s f := by
  obtain ⟨k, hk, hb⟩ := best_some way (needL pl need) f h0 (by rw [needL_len]; exact h.2.1)
  rw [needL_len] at hk
  obtain ⟨h1, h2⟩ := (h.2.2.1 k).1 hk
  unfold bestP at hb
  exact ⟨k, h1, h2, of_decide_eq_true hb⟩
theorem nd_snoc (need : List Int) (pre : List Nat) (k : Nat) : ndOf need (pre ++ [k]) = ndOf need pre ++ [need.getD k 0] := by simp [ndOf]
end Go.Proofs.Ytfljgcpfmhhgcaa
