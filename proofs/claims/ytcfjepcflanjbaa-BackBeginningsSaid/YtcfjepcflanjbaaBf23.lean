/- Plain: what is written, and a rule's cells for the blank behind it, is cells of the text with a blank behind it. -/
import Derived.Test.YtcfjepcflanjbaaBf22
namespace Go.Proofs.Ytcfjepcflanjbaa
open Go.RowKit Go.Lab Go.Shelf
set_option maxRecDepth 100000
theorem symAt_app {l m : List Sym} {j : Nat} (h : j < l.length) : symAt (l ++ m) j = symAt l j := by
  unfold symAt
  rw [List.getD_eq_getElem?_getD, List.getD_eq_getElem?_getD, List.getElem?_append_left h]
theorem symAt_last (l : List Sym) (b : Sym) : symAt (l ++ [b]) l.length = b := by
  unfold symAt
  rw [List.getD_eq_getElem?_getD, List.getElem?_append_right (Nat.le_refl _), Nat.sub_self]
  rfl
theorem inWord_app {l : List Sym} {b : Sym} (hb : letB b.c = false) {j : Nat} (h : j ≤ l.length) : inWordB (l ++ [b]) j = inWordB l j := by
  unfold inWordB
  by_cases hj : j < l.length
  · by_cases h1 : 1 ≤ j
    · rw [symAt_app hj, symAt_app (by omega : j - 1 < l.length), decide_eq_true hj, decide_eq_true (by rw [List.length_append]; omega : j < (l ++ [b]).length)]
    · rw [decide_eq_false h1, Bool.false_and, Bool.false_and]
  · obtain rfl : j = l.length := by omega
    rw [symAt_last, hb, decide_eq_false hj]
    simp
theorem lit_app {l m : List Sym} {i : Nat} {s : ByteArray} (h : i + s.size ≤ l.length) (hi : i < l.length) (hl : litB l i s = true) : litB (l ++ m) i s = true := by
  unfold litB at hl ⊢
  refine List.all_eq_true.2 (fun k hk => ?_)
  have := List.all_eq_true.1 hl k hk
  have hk2 := List.mem_range.1 hk
  unfold stepB at this ⊢
  rw [symAt_app (by omega : i + k < l.length), symAt_app hi]
  exact this
theorem fits_app {r : RuleZ} {l : List Sym} {b : Sym} (hb : letB b.c = false) {i : Nat} (hi : i < l.length) (h : fitsB r l i = true) : fitsB r (l ++ [b]) i = true := by
  have hlen := fitsB_len h
  unfold fitsB at h ⊢
  simp only [Bool.and_eq_true, decide_eq_true_eq] at h
  rw [decide_eq_true (by rw [List.length_append]; simp; omega : i + r.text.size ≤ (l ++ [b]).length), lit_app hlen hi h.2.1, inWord_app hb (Nat.le_of_lt hi), inWord_app hb hlen, h.2.2]
  rfl
theorem ruleSteps_app {lang : Int} {wd : Bool} {lead : List Int} {l l' : List Sym} {i : Nat} : ∀ (rs : List RuleZ) (k : Nat) (s : StpZ), (∀ r ∈ rs, fitsB r l i = true → fitsB r l' i = true) → s ∈ ruleSteps lang wd lead l i rs k → s ∈ ruleSteps lang wd lead l' i rs k
  | [], _, _, _, h => by cases h
  | r :: rs, k, s, hf, h => by
    rw [ruleSteps] at h ⊢
    rcases List.mem_append.1 h with h | h
    · refine List.mem_append.2 (.inl ?_)
      split at h
      · rename_i hr
        rw [if_pos (hf r (List.mem_cons_self ..) hr)]
        exact h
      · cases h
    · exact List.mem_append.2 (.inr (ruleSteps_app rs (k + 1) s (fun r hr => hf r (List.mem_cons_of_mem _ hr)) h))
theorem next_app {T : TabZ} {st : StZ} {l : List Sym} {b : Sym} (hb : letB b.c = false) {i : Nat} (hi : i < l.length) {s : StpZ} (h : s ∈ nextZ T st l i) : s ∈ nextZ T st (l ++ [b]) i := by
  unfold nextZ at h ⊢
  rw [symAt_app hi]
  split at h
  · rename_i h1
    rw [if_pos h1]
    exact h
  · rename_i h1
    rw [if_neg h1]
    split at h
    · rename_i h2
      rw [if_pos h2]
      exact h
    · rename_i h2
      rw [if_neg h2]
      exact ruleSteps_app _ _ _ (fun r _ hr => fits_app hb hi hr) h
theorem ruleSteps_get {lang : Int} {wd : Bool} {lead : List Int} {l : List Sym} {i : Nat} {r : RuleZ} (hf : fitsB r l i = true) : ∀ (rs : List RuleZ) (k : Nat), r ∈ rs → ∃ s ∈ ruleSteps lang wd lead l i rs k, s.st = ⟨lang, false, wd⟩ ∧ s.n = r.text.size ∧ s.cells = lead ++ r.cells
  | [], _, h => by cases h
  | x :: rs, k, h => by
    rw [ruleSteps]
    rcases List.mem_cons.1 h with rfl | h
    · exact ⟨⟨⟨lang, false, wd⟩, r.text.size, lead ++ r.cells, k⟩, List.mem_append.2 (.inl (by rw [if_pos hf]; exact List.mem_singleton.2 rfl)), rfl, rfl, rfl⟩
    · obtain ⟨s, hs, h2⟩ := ruleSteps_get (lang := lang) (wd := wd) (lead := lead) hf rs (k + 1) h
      exact ⟨s, List.mem_append.2 (.inr hs), h2⟩
theorem begB_app {C D E : List Int} (h : begB C E = true) : begB (C ++ D) E = true ∧ (C ++ D).drop E.length = C.drop E.length ++ D := by
  have hl := begB_len h
  unfold begB at h ⊢
  rw [decide_eq_true_eq] at h ⊢
  exact ⟨by rw [List.take_append_of_le_length hl]; exact h, List.drop_append_of_le_length hl⟩
/-- The last character's language. -/
def lastLg (l : List Sym) : Int := if l.length = 0 then 0 else (symAt l (l.length - 1)).lang
theorem isF_blank {T : TabZ} {l : List Sym} {r : RuleZ} (hr : r ∈ T.rules (lastLg l)) (hw : r.wh = 0) (hs : r.text.size = 1) (h0 : (byts r.text).getD 0 0 = 32) : ∀ (f : Nat) (st : StZ) (i : Nat) (C : List Int), i ≤ l.length → (i = l.length → st.lang = lastLg l) → isF T l f st i C = true → isF T (l ++ [(⟨lastLg l, 32⟩ : Sym)]) (f + 1) st i (C ++ r.cells) = true
  | 0, _, _, _, _, _, h => by cases h
  | f + 1, st, i, C, hi, hg, h => by
    have hll : (l ++ [(⟨lastLg l, 32⟩ : Sym)]).length = l.length + 1 := by rw [List.length_append]; rfl
    by_cases hil : i = l.length
    · subst hil
      unfold isF at h
      rw [if_pos (Nat.le_refl _), decide_eq_true_eq] at h
      obtain rfl := List.eq_nil_of_length_eq_zero h
      have hsy := symAt_last l (⟨lastLg l, 32⟩ : Sym)
      have hf : fitsB r (l ++ [(⟨lastLg l, 32⟩ : Sym)]) l.length = true := by
        unfold fitsB
        rw [hs, decide_eq_true (by rw [hll]; exact Nat.le_refl _ : l.length + 1 ≤ (l ++ [(⟨lastLg l, 32⟩ : Sym)]).length), Bool.true_and]
        have hlit : litB (l ++ [(⟨lastLg l, 32⟩ : Sym)]) l.length r.text = true := by
          unfold litB
          rw [hs]
          refine List.all_eq_true.2 (fun k hk => ?_)
          have hk0 : k = 0 := by have := List.mem_range.1 hk; omega
          subst hk0
          unfold stepB
          rw [Nat.add_zero, hsy, h0]
          simp [lowZ, capB]
        rw [hlit, Bool.true_and, hw]
        unfold ctxV
        simp
      obtain ⟨s, hsm, s1, s2, s3⟩ := ruleSteps_get (lang := lastLg l) (wd := letB 32) (lead := leadZ T st 32) hf (T.rules (lastLg l)) 0 hr
      have hlead : leadZ T st 32 = [] := by
        unfold leadZ
        simp [letB, lowB, capB]
      unfold isF
      rw [if_neg (by rw [hll]; omega)]
      refine List.any_eq_true.2 ⟨s, ?_, ?_⟩
      · unfold nextZ
        rw [hsy, if_neg (by rw [hg rfl]; simp), if_neg (by simp [digB])]
        exact hsm
      · rw [s3, hlead, List.nil_append]
        have hb : begB r.cells r.cells = true := by unfold begB; simp
        rw [hb, Bool.true_and, List.drop_length]
        unfold isF
        rw [if_pos (by rw [hll, s2, hs]; exact Nat.le_refl _)]
        rfl
    · have hlt : i < l.length := by omega
      unfold isF at h
      rw [if_neg (by omega)] at h
      obtain ⟨s, hsm, h2⟩ := List.any_eq_true.1 h
      simp only [Bool.and_eq_true] at h2
      obtain ⟨hb1, hb2⟩ := begB_app (D := r.cells) h2.1
      unfold isF
      rw [if_neg (by rw [hll]; omega)]
      refine List.any_eq_true.2 ⟨s, next_app (b := (⟨lastLg l, 32⟩ : Sym)) (by simp [letB, lowB, capB]) hlt hsm, ?_⟩
      rw [hb1, Bool.true_and, hb2]
      have hn : i + s.n ≤ l.length ∧ (i + s.n = l.length → s.st.lang = lastLg l) := by
        have hlast : ∀ x : Int, (∀ j, i + j + 1 = l.length → (symAt l (i + j)).lang = x) → ∀ j, i + j + 1 = l.length → x = lastLg l := fun x hx j hj => by
          unfold lastLg
          rw [if_neg (by omega), show l.length - 1 = i + j by omega]
          exact (hx j hj).symm
        unfold nextZ at hsm
        split at hsm
        · rw [List.mem_singleton] at hsm
          subst hsm
          exact ⟨by simp only; omega, fun e => absurd e (by simp only; omega)⟩
        · split at hsm
          · rw [List.mem_singleton] at hsm
            subst hsm
            refine ⟨by simp only; omega, fun e => ?_⟩
            simp only at e ⊢
            unfold lastLg
            rw [if_neg (by omega), show l.length - 1 = i by omega]
          · obtain ⟨r2, _, hf2, e1, e2, _⟩ := ruleSteps_mem hsm
            have hlen := fitsB_len hf2
            rw [e1, e2]
            refine ⟨hlen, fun e => ?_⟩
            simp only
            unfold fitsB at hf2
            simp only [Bool.and_eq_true, decide_eq_true_eq] at hf2
            have hl2 := hf2.2.1
            unfold litB at hl2
            have hk := List.all_eq_true.1 hl2 (r2.text.size - 1) (List.mem_range.2 (by omega))
            unfold stepB at hk
            simp only [Bool.and_eq_true, decide_eq_true_eq] at hk
            unfold lastLg
            rw [if_neg (by omega), show l.length - 1 = i + (r2.text.size - 1) by omega]
            exact hk.2.1.symm
      exact isF_blank hr hw hs h0 f s.st (i + s.n) _ hn.1 hn.2 h2.2
theorem isZ_blank {T : TabZ} {l : List Sym} {r : RuleZ} {c : List Int} (hr : r ∈ T.rules (lastLg l)) (hw : r.wh = 0) (hs : r.text.size = 1) (h0 : (byts r.text).getD 0 0 = 32) (h : isZ T l c = true) : isZ T (l ++ [(⟨lastLg l, 32⟩ : Sym)]) (c ++ r.cells) = true := by
  unfold isZ at h ⊢
  have h1 := isF_blank hr hw hs h0 _ _ 0 c (Nat.zero_le _) (fun e => by unfold lastLg; rw [if_pos e.symm]) h
  have h2 := isF_mono _ _ _ _ h1
  rw [show 2 * (l ++ [(⟨lastLg l, 32⟩ : Sym)]).length + 2 = 2 * l.length + 2 + 1 + 1 by rw [List.length_append, List.length_singleton]; omega]
  exact h2
end Go.Proofs.Ytcfjepcflanjbaa
