/- Plain: what the maker of tables makes is valid. -/
import Derived.Test.YtcfjepcflanjbaaBf44
import Derived.Test.YtcfjepcflanjbaaBf13
import Derived.Test.YtcfjepcflanjbaaBf06
import Derived.Test.YtcfjepcflanjbaaBf23
import Derived.Test.YtcfjepcflanjbaaBf29
import Derived.Test.YtcfjepcflanjbaaBf39
namespace Go.Proofs.Ytcfjepcflanjbaa
open Go.RowKit Go.Lab Go.Shelf
set_option maxRecDepth 100000
theorem onceZ_to (l : List RuleZ) : onceZ l = onceTo l l.length := by unfold onceTo; rw [List.take_length]
theorem sameR_iff {a b : RuleZ} : sameR a b = true ↔ a.text = b.text ∧ a.wh = b.wh := by
  unfold sameR
  simp
theorem sameR_comm (a b : RuleZ) : sameR a b = sameR b a := by
  rw [Bool.eq_iff_iff, sameR_iff, sameR_iff]
  exact ⟨fun h => ⟨h.1.symm, h.2.symm⟩, fun h => ⟨h.1.symm, h.2.symm⟩⟩
theorem once_has (l : List RuleZ) : ∀ k, k ≤ l.length → ∀ r ∈ l.take k, ∃ r' ∈ onceTo l k, r'.text = r.text ∧ r'.wh = r.wh
  | 0, _, r, hr => by simp at hr
  | k + 1, h, r, hr => by
    rw [List.take_succ_eq_append_getElem (by omega)] at hr
    rw [onceTo_succ (by omega)]
    rcases List.mem_append.1 hr with hr | hr
    · obtain ⟨x, hx, e⟩ := once_has l k (by omega) r hr
      split
      · exact ⟨x, List.mem_append_left _ hx, e⟩
      · exact ⟨x, hx, e⟩
    · rw [List.mem_singleton] at hr
      split
      · exact ⟨l[k], by simp, by rw [hr], by rw [hr]⟩
      · rename_i hf
        have h2 : ∃ o ∈ onceTo l k, sameR o l[k] = true := by
          refine Decidable.byContradiction fun hn => hf ?_
          unfold freshB
          rw [List.all_eq_true]
          intro o ho
          cases e : sameR o l[k] with
          | false => rfl
          | true => exact absurd ⟨o, ho, e⟩ hn
        obtain ⟨o, ho, e⟩ := h2
        have e2 := sameR_iff.1 e
        exact ⟨o, ho, by rw [hr]; exact e2.1, by rw [hr]; exact e2.2⟩
theorem once_noTw (l : List RuleZ) : ∀ k, k ≤ l.length → ∀ i, i < (onceTo l k).length → NoTw (onceTo l k) i
  | 0, _, i, hi => by simp [onceTo, onceZ, onceG] at hi
  | k + 1, h, i, hi => by
    have ih := once_noTw l k (by omega)
    rw [onceTo_succ (by omega)] at hi ⊢
    split at hi
    · rename_i hf
      rw [if_pos hf]
      intro j hj
      by_cases hi2 : i < (onceTo l k).length
      · have h1 := ih i hi2 j hj
        rw [List.getD_eq_getElem?_getD, List.getD_eq_getElem?_getD] at h1 ⊢
        rw [List.getElem?_append_left hi2, List.getElem?_append_left (by omega)]
        exact h1
      · have hie : i = (onceTo l k).length := by simp at hi; omega
        have hjl : j < (onceTo l k).length := by omega
        rw [List.getD_eq_getElem?_getD, List.getD_eq_getElem?_getD, hie, List.getElem?_append_right (Nat.le_refl _), List.getElem?_append_left hjl, Nat.sub_self, List.getElem?_eq_getElem hjl]
        show sameR l[k] (onceTo l k)[j] = false
        unfold freshB at hf
        have h2 := List.all_eq_true.1 hf _ (List.getElem_mem (show j < (onceTo l k).length by omega))
        rw [sameR_comm]
        simpa using h2
    · rename_i hf
      rw [if_neg hf]
      exact ih i hi
theorem byts_ltt : ∀ i : Fin 26, byts (lttB i.val) = [97 + (i.val : Int)] := by decide +kernel
theorem made_own {L : List RuleZ} (h : MadeO L) : lettersZ.all (ownB L) = true := by
  obtain ⟨L', rfl, hl, hr, ha, hm⟩ := h
  rw [List.all_eq_true]
  intro c hc
  unfold lettersZ at hc
  obtain ⟨k, hk, rfl⟩ := List.mem_map.1 hc
  have hk2 := List.mem_range.1 hk
  obtain ⟨r, hr1, hr2, hr3⟩ := ha k hk2
  obtain ⟨x, hx, e1, e2⟩ := once_has L' L'.length (Nat.le_refl _) r (by rw [List.take_length]; exact hr1)
  unfold ownB
  rw [List.any_eq_true]
  refine ⟨x, by rw [onceZ_to]; exact hx, ?_⟩
  rw [e1, hr2, e2, hr3, byts_ltt ⟨k, hk2⟩]
  simp
theorem made_right {L : List RuleZ} (h : MadeO L) : L.all rightB = true := by
  obtain ⟨L', rfl, hl, hr, ha, hm⟩ := h
  rw [List.all_eq_true]
  intro x hx
  rw [onceZ_to] at hx
  exact hr x (onceTo_mem L' _ (Nat.le_refl _) x hx)
theorem made_len {L : List RuleZ} (h : MadeO L) : L.length ≤ 90 := by
  obtain ⟨L', rfl, hl, hr, ha, hm⟩ := h
  rw [onceZ_to]
  exact Nat.le_trans (onceTo_len L' _ (Nat.le_refl _)) hl
theorem made_twice {L : List RuleZ} (h : MadeO L) : twiceB L = false := by
  obtain ⟨L', rfl, hl, hr, ha, hm⟩ := h
  rw [onceZ_to]
  exact twice_false (once_noTw L' _ (Nat.le_refl _))
theorem valid_made {T : TabZ} (h : TabG T) : validE T = 0 := by
  unfold validE
  have h0 := made_len h.l0
  have h1 := made_len h.l1
  rw [if_neg (by omega), made_right h.l0, made_right h.l1, h.dg, h.cp, h.nm, h.en, h.sw, if_neg (by decide), made_twice h.l0, made_twice h.l1, if_neg (by decide), made_own h.l0, made_own h.l1, if_neg (by decide)]
/-- A rule for each mark. -/
theorem made_mark {L : List RuleZ} (h : MadeO L) {j : Nat} (hj : j < 6) : ∃ r ∈ L, r.text = mrkB j ∧ r.wh = 0 := by
  obtain ⟨L', rfl, hl, hr, ha, hm⟩ := h
  obtain ⟨r, hr1, hr2, hr3⟩ := hm j hj
  obtain ⟨x, hx, e1, e2⟩ := once_has L' L'.length (Nat.le_refl _) r (by rw [List.take_length]; exact hr1)
  exact ⟨x, by rw [onceZ_to]; exact hx, by rw [e1, hr2], by rw [e2, hr3]⟩
theorem made_letter {L : List RuleZ} (h : MadeO L) {j : Nat} (hj : j < 26) : ∃ r ∈ L, r.text = lttB j ∧ r.wh = 0 := by
  obtain ⟨L', rfl, hl, hr, ha, hm⟩ := h
  obtain ⟨r, hr1, hr2, hr3⟩ := ha j hj
  obtain ⟨x, hx, e1, e2⟩ := once_has L' L'.length (Nat.le_refl _) r (by rw [List.take_length]; exact hr1)
  exact ⟨x, by rw [onceZ_to]; exact hx, by rw [e1, hr2], by rw [e2, hr3]⟩
end Go.Proofs.Ytcfjepcflanjbaa
/- Plain: what the laws about reading back want of generated texts and tables. -/
namespace Go.Proofs.Ytcfjepcflanjbaa
open Go.RowKit Go.Lab Go.Shelf
set_option maxRecDepth 100000
/-- A character of a generated text. -/
def SymG (x : Sym) : Prop := (x.lang = 0 ∨ x.lang = 1) ∧ 0 ≤ x.c ∧ x.c < 256
theorem bytesL_rng (s : ByteArray) : ∀ x ∈ bytesL s, 0 ≤ x ∧ x < 256 := by
  intro x hx
  unfold bytesL at hx
  obtain ⟨b, _, rfl⟩ := List.mem_map.1 hx
  have := b.toNat_lt
  omega
theorem langN_or {lang n : Int} (h : lang = 0 ∨ lang = 1) : langN lang n = 0 ∨ langN lang n = 1 := by
  unfold langN
  split <;> omega
theorem stepO_ok {out : List Sym} {lang n : Int} (h : ∀ x ∈ out, SymG x) (hl : lang = 0 ∨ lang = 1) : ∀ x ∈ stepO out lang n, SymG x := by
  have hn : SymG (⟨langN lang n, charN n⟩ : Sym) := ⟨langN_or hl, by have := charN_rng n; simp only; omega, by have := charN_rng n; simp only; omega⟩
  intro x hx
  unfold stepO addW at hx
  split at hx
  · rcases List.mem_append.1 hx with hx | hx
    · rcases List.mem_append.1 hx with hx | hx
      · exact h x hx
      · rw [List.mem_singleton] at hx
        exact hx ▸ hn
    · obtain ⟨c, hc, rfl⟩ := List.mem_map.1 hx
      exact ⟨langN_or hl, bytesL_rng _ _ (List.mem_of_mem_take hc)⟩
  · rcases List.mem_append.1 hx with hx | hx
    · exact h x hx
    · rw [List.mem_singleton] at hx
      exact hx ▸ hn
theorem symsRun_ok : ∀ (l : List Int) (out : List Sym) (lang : Int), (∀ x ∈ out, SymG x) → (lang = 0 ∨ lang = 1) → ∀ x ∈ symsRun l out lang, SymG x
  | [], out, _, h, _ => h
  | x :: xs, out, lang, h, hl => by
    rw [symsRun]
    split
    · exact h
    · exact symsRun_ok xs _ _ (stepO_ok h hl) (langN_or hl)
theorem symsZ_ok (l : List Int) : ∀ x ∈ symsZ l, SymG x := symsRun_ok l [] 0 (by simp) (.inl rfl)
theorem symsZ_SymOk (l : List Int) : SymOk (symsZ l) := fun x hx => by
  obtain ⟨h1, h2, h3⟩ := symsZ_ok l x hx
  exact ⟨h2, h3, by omega, by omega⟩
theorem symsZ_lang (l : List Int) : ∀ x ∈ symsZ l, x.lang = 0 ∨ x.lang = 1 := fun x hx => (symsZ_ok l x hx).1
theorem made_ok {L : List RuleZ} (h : MadeO L) : ∀ r ∈ L, RuleOk r := fun r hr => by
  have := List.all_eq_true.1 (made_right h) r hr
  unfold rightB at this
  simp only [Bool.and_eq_true, decide_eq_true_eq] at this
  exact ⟨by omega, by omega, by omega⟩
theorem tabG_ok {T : TabZ} (h : TabG T) : TabOk T := ⟨made_ok h.l0, made_ok h.l1, by have := made_len h.l0; omega, by have := made_len h.l1; omega⟩
theorem tabG_dg {T : TabZ} (h : TabG T) : 0 < T.dg.length ∧ T.dg.length ≤ 1000 := by
  have := h.dg
  unfold cellsB at this
  simp only [Bool.and_eq_true, decide_eq_true_eq] at this
  omega
end Go.Proofs.Ytcfjepcflanjbaa
/- Plain: every character of a generated text has a step in made tables; a blank's rule is a mark's. -/
namespace Go.Proofs.Ytcfjepcflanjbaa
open Go.RowKit Go.Lab Go.Shelf
set_option maxRecDepth 100000
def ChG (c : Int) : Prop := digB c = true ∨ (∃ j : Nat, j < 26 ∧ lowZ c = 97 + (j : Int)) ∨ ∃ j : Nat, j < 6 ∧ lowZ c = ([32, 46, 44, 63, 39, 45] : List Int).getD j 0
theorem chG_low {c : Int} (h1 : 97 ≤ c) (h2 : c ≤ 122) : ChG c := by
  refine .inr (.inl ⟨(c - 97).toNat, by omega, ?_⟩)
  unfold lowZ capB
  rw [decide_eq_false (by omega : ¬ c ≤ 90), Bool.and_false, if_neg (by simp)]
  omega
theorem chG_cap {c : Int} (h1 : 65 ≤ c) (h2 : c ≤ 90) : ChG c := by
  refine .inr (.inl ⟨(c - 65).toNat, by omega, ?_⟩)
  unfold lowZ capB
  rw [decide_eq_true h1, decide_eq_true h2, if_pos (by rfl)]
  omega
theorem chG_mark {j : Nat} (h : j < 6) : ChG (([32, 46, 44, 63, 39, 45] : List Int).getD j 0) := by
  refine .inr (.inr ⟨j, h, ?_⟩)
  have := c6_rng_all ⟨j, h⟩
  simp only at this
  unfold lowZ capB
  rw [decide_eq_false (by omega : ¬ 65 ≤ ([32, 46, 44, 63, 39, 45] : List Int).getD j 0), Bool.false_and, if_neg (by simp)]
theorem chG_charN (n : Int) : ChG (charN n) := by
  unfold charN
  repeat' split
  · have := c10_rng n
    exact .inl (by unfold digB; rw [decide_eq_true this.1, decide_eq_true this.2]; rfl)
  · exact chG_mark (by omega)
  · exact chG_mark (j := 0) (by decide)
  · have := c19_rng n
    exact chG_cap (by omega) (by omega)
  · have := c19_rng n
    exact chG_low this.1 this.2
theorem words_low : ∀ m : Fin 7, ∀ x ∈ bytesL (words7.getD m.val ⟨#[]⟩), 97 ≤ x ∧ x ≤ 122 := by decide +kernel
theorem chG_word (n : Int) : ∀ x ∈ bytesL (wordB n), ChG x := fun x hx => by
  have := words_low ⟨(n % 7).toNat, by omega⟩ x hx
  exact chG_low this.1 this.2
theorem stepO_ch {out : List Sym} {lang n : Int} (h : ∀ x ∈ out, ChG x.c) : ∀ x ∈ stepO out lang n, ChG x.c := by
  intro x hx
  unfold stepO addW at hx
  split at hx
  · rcases List.mem_append.1 hx with hx | hx
    · rcases List.mem_append.1 hx with hx | hx
      · exact h x hx
      · rw [List.mem_singleton] at hx
        rw [hx]
        exact chG_charN n
    · obtain ⟨c, hc, rfl⟩ := List.mem_map.1 hx
      exact chG_word n _ (List.mem_of_mem_take hc)
  · rcases List.mem_append.1 hx with hx | hx
    · exact h x hx
    · rw [List.mem_singleton] at hx
      rw [hx]
      exact chG_charN n
theorem symsRun_ch : ∀ (l : List Int) (out : List Sym) (lang : Int), (∀ x ∈ out, ChG x.c) → ∀ x ∈ symsRun l out lang, ChG x.c
  | [], _, _, h => h
  | x :: xs, out, lang, h => by
    rw [symsRun]
    split
    · exact h
    · exact symsRun_ch xs _ _ (stepO_ch h)
theorem symsZ_ch (l : List Int) : ∀ x ∈ symsZ l, ChG x.c := symsRun_ch l [] 0 (by simp)
theorem fits_one {r : RuleZ} {l : List Sym} {i : Nat} (hi : i < l.length) (hs : r.text.size = 1) (hw : r.wh = 0) (h0 : lowZ (symAt l i).c = (byts r.text).getD 0 0) : fitsB r l i = true := by
  unfold fitsB
  rw [hs, decide_eq_true (by omega : i + 1 ≤ l.length), Bool.true_and]
  have hlit : litB l i r.text = true := by
    unfold litB
    rw [hs]
    refine List.all_eq_true.2 (fun k hk => ?_)
    have hk0 : k = 0 := by have := List.mem_range.1 hk; omega
    subst hk0
    unfold stepB
    rw [Nat.add_zero, h0]
    simp
  rw [hlit, Bool.true_and, hw]
  unfold ctxV
  simp
theorem ltt_byte : ∀ j : Fin 26, (byts (lttB j.val)).getD 0 0 = 97 + (j.val : Int) ∧ (lttB j.val).size = 1 := by decide +kernel
theorem mrk_byte : ∀ j : Fin 6, (byts (mrkB j.val)).getD 0 0 = ([32, 46, 44, 63, 39, 45] : List Int).getD j.val 0 ∧ (mrkB j.val).size = 1 := by decide +kernel
theorem rules_made {T : TabZ} (h : TabG T) (x : Int) : MadeO (T.rules x) := by
  unfold TabZ.rules
  split
  · exact h.l0
  · exact h.l1
theorem next_made {T : TabZ} (hG : TabG T) {l : List Sym} (hc : ∀ x ∈ l, ChG x.c) (st : StZ) (i : Nat) (hi : i < l.length) : nextZ T st l i ≠ [] := by
  unfold nextZ
  split
  · simp
  · split
    · simp
    · rename_i hd
      have hx : ChG (symAt l i).c := by
        rw [symAt_get hi]
        exact hc _ (List.getElem_mem hi)
      have hfin : ∀ r ∈ T.rules (symAt l i).lang, fitsB r l i = true → ruleSteps (symAt l i).lang (letB (symAt l i).c) (leadZ T st (symAt l i).c) l i (T.rules (symAt l i).lang) 0 ≠ [] := fun r hr hf e => by
        obtain ⟨s, hs, _⟩ := ruleSteps_get (lang := (symAt l i).lang) (wd := letB (symAt l i).c) (lead := leadZ T st (symAt l i).c) hf _ 0 hr
        rw [e] at hs
        cases hs
      have hm := rules_made hG (symAt l i).lang
      rcases hx with hx | ⟨j, hj, hx⟩ | ⟨j, hj, hx⟩
      · exact absurd hx hd
      · obtain ⟨r, hr, h1, h2⟩ := made_letter hm hj
        have hb := ltt_byte ⟨j, hj⟩
        exact hfin r hr (fits_one hi (by rw [h1]; exact hb.2) h2 (by rw [hx, h1]; exact hb.1.symm))
      · obtain ⟨r, hr, h1, h2⟩ := made_mark hm hj
        have hb := mrk_byte ⟨j, hj⟩
        exact hfin r hr (fits_one hi (by rw [h1]; exact hb.2) h2 (by rw [hx, h1]; exact hb.1.symm))
/-- A made rule for the blank. -/
theorem blank_rule {T : TabZ} (hG : TabG T) {x : Int} {r : RuleZ} (hr : r ∈ T.rules x) (ht : r.text = ⟨#[32]⟩) : r.wh = 0 ∧ r.text.size = 1 ∧ (byts r.text).getD 0 0 = 32 := by
  have h := List.all_eq_true.1 (made_right (rules_made hG x)) r hr
  unfold rightB at h
  simp only [Bool.and_eq_true, Bool.or_eq_true, decide_eq_true_eq] at h
  rw [ht]
  refine ⟨?_, by decide, by decide⟩
  rcases h.2.2.2.2.2 with h | h
  · rw [ht] at h
    exact absurd h (by decide)
  · unfold markB at h
    simp only [Bool.and_eq_true, decide_eq_true_eq] at h
    exact h.2.2.2.2.2
theorem written_ok {T : TabZ} (hG : TabG T) (l : List Int) : ∀ st i, i < (symsZ l).length → nextZ T st (symsZ l) i ≠ [] := fun st i hi => next_made hG (symsZ_ch l) st i hi
/-- What is written, and a rule for the blank, is the text with a blank. -/
theorem further {T : TabZ} (hG : TabG T) {l : List Sym} {r : RuleZ} {c : List Int} (hr : r ∈ T.rules (lastLg l)) (ht : r.text = ⟨#[32]⟩) (h : isZ T l c = true) : isZ T (l ++ [(⟨lastLg l, 32⟩ : Sym)]) (c ++ r.cells) = true := by
  obtain ⟨h1, h2, h3⟩ := blank_rule hG hr ht
  exact isZ_blank hr h1 h2 h3 h
end Go.Proofs.Ytcfjepcflanjbaa
/- The reference: code and place. -/
namespace Go.Proofs.Ytcfjepcflanjbaa
open Go.RowKit Go.Lab Go.Shelf
set_option maxRecDepth 100000
/-- A place's number. -/
def codeN (p : PlZ) : Nat := p.st.lang.toNat + ((if p.st.num = true then 2 else 0) + ((if p.st.word = true then 4 else 0) + ((if p.sw = true then 8 else 0) + 16 * p.need)))
def plR (p : PlZ) : List Value := [.int .i64 p.st.lang, .bool p.st.num, .bool p.st.word, .int .i64 (p.need : Nat), .bool p.sw]
end Go.Proofs.Ytcfjepcflanjbaa
/- Plain: the greatest beginning told by what is reached; a place by its number. -/
namespace Go.Proofs.Ytcfjepcflanjbaa
open Go.RowKit Go.Lab Go.Shelf
theorem gdM_ge (C : List Int) (k : Nat) : ∀ (ms : List MvZ) (a : Nat), a ≤ ms.foldl (gdM C k) a ∧ ∀ m ∈ ms, k + comm (C.drop k) m.cells ≤ ms.foldl (gdM C k) a
  | [], a => ⟨Nat.le_refl _, fun _ h => by cases h⟩
  | m :: ms, a => by
    have h := gdM_ge C k ms (gdM C k a m)
    have h1 : a ≤ gdM C k a m := Nat.le_max_left _ _
    have h2 : k + comm (C.drop k) m.cells ≤ gdM C k a m := Nat.le_max_right _ _
    refine ⟨Nat.le_trans h1 h.1, fun x hx => ?_⟩
    rcases List.mem_cons.1 hx with rfl | hx
    · exact Nat.le_trans h2 h.1
    · exact h.2 x hx
theorem gdM_at (C : List Int) (k : Nat) : ∀ (ms : List MvZ) (a : Nat), ms.foldl (gdM C k) a = a ∨ ∃ m ∈ ms, ms.foldl (gdM C k) a = k + comm (C.drop k) m.cells
  | [], a => .inl rfl
  | m :: ms, a => by
    rcases gdM_at C k ms (gdM C k a m) with h | ⟨x, hx, h⟩
    · rw [List.foldl_cons, h]
      rcases Nat.le_total a (k + comm (C.drop k) m.cells) with g | g
      · exact .inr ⟨m, by simp, Nat.max_eq_right g⟩
      · exact .inl (Nat.max_eq_left g)
    · exact .inr ⟨x, by simp [hx], h⟩
theorem gdRow_ge (T : TabZ) (C : List Int) (k : Nat) : ∀ (ps : List PlZ) (a : Nat), a ≤ gdRow T C k a ps ∧ ∀ p ∈ ps, ∀ m ∈ movesZ T p, k + comm (C.drop k) m.cells ≤ gdRow T C k a ps
  | [], a => ⟨Nat.le_refl _, fun _ h => by cases h⟩
  | p :: ps, a => by
    have h := gdRow_ge T C k ps (gdP T C k a p)
    have h1 := gdM_ge C k (movesZ T p) a
    refine ⟨Nat.le_trans h1.1 h.1, fun x hx m hm => ?_⟩
    rcases List.mem_cons.1 hx with rfl | hx
    · exact Nat.le_trans (h1.2 m hm) h.1
    · exact h.2 x hx m hm
theorem gdRow_at (T : TabZ) (C : List Int) (k : Nat) : ∀ (ps : List PlZ) (a : Nat), gdRow T C k a ps = a ∨ ∃ p ∈ ps, ∃ m ∈ movesZ T p, gdRow T C k a ps = k + comm (C.drop k) m.cells
  | [], a => .inl rfl
  | p :: ps, a => by
    rcases gdRow_at T C k ps (gdP T C k a p) with h | ⟨x, hx, m, hm, h⟩
    · rcases gdM_at C k (movesZ T p) a with g | ⟨m, hm, g⟩
      · exact .inl (h.trans g)
      · exact .inr ⟨p, by simp, m, hm, h.trans g⟩
    · exact .inr ⟨x, by simp [hx], m, hm, h⟩
theorem goodTo_ge (T : TabZ) (C : List Int) (ls : List (List PlZ)) : ∀ n k, k < n → ∀ p ∈ ls.getD k [], ∀ m ∈ movesZ T p, k + comm (C.drop k) m.cells ≤ goodTo T C ls n
  | 0, _, hk => by omega
  | n + 1, k, hk => fun p hp m hm => by
    have h := gdRow_ge T C n (ls.getD n []) (goodTo T C ls n)
    rcases (by omega : k = n ∨ k < n) with rfl | hk2
    · exact h.2 p hp m hm
    · exact Nat.le_trans (goodTo_ge T C ls n k hk2 p hp m hm) h.1
theorem goodTo_at (T : TabZ) (C : List Int) (ls : List (List PlZ)) : ∀ n, goodTo T C ls n = 0 ∨ ∃ k, k < n ∧ ∃ p ∈ ls.getD k [], ∃ m ∈ movesZ T p, goodTo T C ls n = k + comm (C.drop k) m.cells
  | 0 => .inl rfl
  | n + 1 => by
    rcases gdRow_at T C n (ls.getD n []) (goodTo T C ls n) with h | ⟨p, hp, m, hm, h⟩
    · rcases goodTo_at T C ls n with g | ⟨k, hk, p, hp, m, hm, g⟩
      · exact .inl (h.trans g)
      · exact .inr ⟨k, by omega, p, hp, m, hm, h.trans g⟩
    · exact .inr ⟨n, by omega, p, hp, m, hm, h⟩
/-- A number is the greatest beginning. -/
structure IsGood (T : TabZ) (C : List Int) (g : Nat) : Prop where
  ge : ∀ k p m, k ≤ C.length → Reach T C k p → m ∈ movesZ T p → k + comm (C.drop k) m.cells ≤ g
  at_ : g = 0 ∨ ∃ k p m, k ≤ C.length ∧ Reach T C k p ∧ m ∈ movesZ T p ∧ g = k + comm (C.drop k) m.cells
theorem goodZ_is {T : TabZ} {C : List Int} (hv : validE T = 0) : IsGood T C (goodZ T C) where
  ge := fun k p m hk hp hm => goodTo_ge T C (liveZ T C) (C.length + 1) k (by omega) p ((live_reach hv hk).2 hp) m hm
  at_ := by
    rcases goodTo_at T C (liveZ T C) (C.length + 1) with h | ⟨k, hk, p, hp, m, hm, h⟩
    · exact .inl h
    · exact .inr ⟨k, p, m, by omega, (live_reach hv (by omega)).1 hp, hm, h⟩
theorem IsGood.le {T : TabZ} {C : List Int} {g h : Nat} (hg : IsGood T C g) (hh : IsGood T C h) : g ≤ h := by
  rcases hg.at_ with e | ⟨k, p, m, hk, hp, hm, e⟩
  · omega
  · exact e ▸ hh.ge k p m hk hp hm
theorem IsGood.one {T : TabZ} {C : List Int} {g h : Nat} (hg : IsGood T C g) (hh : IsGood T C h) : g = h := Nat.le_antisymm (hg.le hh) (hh.le hg)
/-! ### a place by its number -/
def placeN (n : Nat) : PlZ := ⟨⟨((n % 2 : Nat) : Int), n / 2 % 2 == 1, n / 4 % 2 == 1⟩, n / 16, n / 8 % 2 == 1⟩
theorem placeN_ok {n : Nat} (h : n < 48) : PlOk (placeN n) := by
  refine ⟨?_, by show n / 16 ≤ 2; omega⟩
  show ((n % 2 : Nat) : Int) = 0 ∨ ((n % 2 : Nat) : Int) = 1
  omega
theorem codeN_lt {p : PlZ} (h : PlOk p) : codeN p < 48 := by
  obtain ⟨⟨l, u, v⟩, n, s⟩ := p
  obtain ⟨h1, h2⟩ := h
  simp only at h1 h2
  unfold codeN
  simp only
  have : l.toNat ≤ 1 := by omega
  split <;> split <;> split <;> omega
theorem placeN_codeN {p : PlZ} (h : PlOk p) : placeN (codeN p) = p := by
  obtain ⟨⟨l, u, v⟩, n, s⟩ := p
  obtain ⟨h1, h2⟩ := h
  simp only at h1 h2
  have h3 : n = 0 ∨ n = 1 ∨ n = 2 := by omega
  rcases h1 with rfl | rfl <;> rcases h3 with rfl | rfl | rfl <;> cases u <;> cases v <;> cases s <;> decide
theorem codeN_placeN_all : ∀ n : Fin 48, codeN (placeN n.val) = n.val := by decide
theorem codeN_placeN {n : Nat} (h : n < 48) : codeN (placeN n) = n := codeN_placeN_all ⟨n, h⟩
end Go.Proofs.Ytcfjepcflanjbaa
