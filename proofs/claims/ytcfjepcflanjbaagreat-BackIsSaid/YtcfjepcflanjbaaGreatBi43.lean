/- Plain: what the maker of tables makes is valid. -/
import Derived.Test.YtcfjepcflanjbaaGreatBi42
import Derived.Test.YtcfjepcflanjbaaGreatBi13
import Derived.Test.YtcfjepcflanjbaaGreatBi07
namespace Go.Proofs.YtcfjepcflanjbaaGreat
open Go.RowKit Go.Lab Go.Shelf
set_option maxRecDepth 100000
theorem onceZ_to (l : List RuleZ) : onceZ l = onceTo l l.length := by unfold onceTo; rw [List.take_length]
theorem sameR_iff {a b : RuleZ} : sameR a b = true ↔ a.text = b.text ∧ a.wh = b.wh := by
  unfold sameR
  simp
theorem sameR_comm (a b : RuleZ) : sameR a b = sameR b a := by
  rw [Bool.eq_iff_iff, sameR_iff, sameR_iff]
  exact ⟨fun h => ⟨h.1.symm, h.2.symm⟩, fun h => ⟨h.1.symm, h.2.symm⟩⟩
theorem once_has (l : List RuleZ) : ∀ k, k ≤ l.length → ∀ r ∈ l.take k, ∃ r' ∈ onceTo l k, r'.text = r.text ∧ r'.wh = r.wh
  | 0, _, r, hr => by simp at hr
  | k + 1, h, r, hr => by
    rw [List.take_succ_eq_append_getElem (by omega)] at hr
    rw [onceTo_succ (by omega)]
    rcases List.mem_append.1 hr with hr | hr
    · obtain ⟨x, hx, e⟩ := once_has l k (by omega) r hr
      split
      · exact ⟨x, List.mem_append_left _ hx, e⟩
      · exact ⟨x, hx, e⟩
    · rw [List.mem_singleton] at hr
      split
      · exact ⟨l[k], by simp, by rw [hr], by rw [hr]⟩
      · rename_i hf
        have h2 : ∃ o ∈ onceTo l k, sameR o l[k] = true := by
          refine Decidable.byContradiction fun hn => hf ?_
          unfold freshB
          rw [List.all_eq_true]
          intro o ho
          cases e : sameR o l[k] with
          | false => rfl
          | true => exact absurd ⟨o, ho, e⟩ hn
        obtain ⟨o, ho, e⟩ := h2
        have e2 := sameR_iff.1 e
        exact ⟨o, ho, by rw [hr]; exact e2.1, by rw [hr]; exact e2.2⟩
theorem once_noTw (l : List RuleZ) : ∀ k, k ≤ l.length → ∀ i, i < (onceTo l k).length → NoTw (onceTo l k) i
  | 0, _, i, hi => by simp [onceTo, onceZ, onceG] at hi
  | k + 1, h, i, hi => by
    have ih := once_noTw l k (by omega)
    rw [onceTo_succ (by omega)] at hi ⊢
    split at hi
    · rename_i hf
      rw [if_pos hf]
      intro j hj
      by_cases hi2 : i < (onceTo l k).length
      · have h1 := ih i hi2 j hj
        rw [List.getD_eq_getElem?_getD, List.getD_eq_getElem?_getD] at h1 ⊢
        rw [List.getElem?_append_left hi2, List.getElem?_append_left (by omega)]
        exact h1
      · have hie : i = (onceTo l k).length := by simp at hi; omega
        have hjl : j < (onceTo l k).length := by omega
        rw [List.getD_eq_getElem?_getD, List.getD_eq_getElem?_getD, hie, List.getElem?_append_right (Nat.le_refl _), List.getElem?_append_left hjl, Nat.sub_self, List.getElem?_eq_getElem hjl]
        show sameR l[k] (onceTo l k)[j] = false
        unfold freshB at hf
        have h2 := List.all_eq_true.1 hf _ (List.getElem_mem (show j < (onceTo l k).length by omega))
        rw [sameR_comm]
        simpa using h2
    · rename_i hf
      rw [if_neg hf]
      exact ih i hi
theorem byts_ltt : ∀ i : Fin 26, byts (lttB i.val) = [97 + (i.val : Int)] := by decide +kernel
theorem made_own {L : List RuleZ} (h : MadeO L) : lettersZ.all (ownB L) = true := by
  obtain ⟨L', rfl, hl, hr, ha, hm⟩ := h
  rw [List.all_eq_true]
  intro c hc
  unfold lettersZ at hc
  obtain ⟨k, hk, rfl⟩ := List.mem_map.1 hc
  have hk2 := List.mem_range.1 hk
  obtain ⟨r, hr1, hr2, hr3⟩ := ha k hk2
  obtain ⟨x, hx, e1, e2⟩ := once_has L' L'.length (Nat.le_refl _) r (by rw [List.take_length]; exact hr1)
  unfold ownB
  rw [List.any_eq_true]
  refine ⟨x, by rw [onceZ_to]; exact hx, ?_⟩
  rw [e1, hr2, e2, hr3, byts_ltt ⟨k, hk2⟩]
  simp
theorem made_right {L : List RuleZ} (h : MadeO L) : L.all rightB = true := by
  obtain ⟨L', rfl, hl, hr, ha, hm⟩ := h
  rw [List.all_eq_true]
  intro x hx
  rw [onceZ_to] at hx
  exact hr x (onceTo_mem L' _ (Nat.le_refl _) x hx)
theorem made_len {L : List RuleZ} (h : MadeO L) : L.length ≤ 90 := by
  obtain ⟨L', rfl, hl, hr, ha, hm⟩ := h
  rw [onceZ_to]
  exact Nat.le_trans (onceTo_len L' _ (Nat.le_refl _)) hl
theorem made_twice {L : List RuleZ} (h : MadeO L) : twiceB L = false := by
  obtain ⟨L', rfl, hl, hr, ha, hm⟩ := h
  rw [onceZ_to]
  exact twice_false (once_noTw L' _ (Nat.le_refl _))
theorem valid_made {T : TabZ} (h : TabG T) : validE T = 0 := by
  unfold validE
  have h0 := made_len h.l0
  have h1 := made_len h.l1
  rw [if_neg (by omega), made_right h.l0, made_right h.l1, h.dg, h.cp, h.nm, h.en, h.sw, if_neg (by decide), made_twice h.l0, made_twice h.l1, if_neg (by decide), made_own h.l0, made_own h.l1, if_neg (by decide)]
end Go.Proofs.YtcfjepcflanjbaaGreat
/- Plain: what the laws about reading back want of generated texts and tables. -/
namespace Go.Proofs.YtcfjepcflanjbaaGreat
open Go.RowKit Go.Lab Go.Shelf
set_option maxRecDepth 100000
def SymG (x : Sym) : Prop := (x.lang = 0 ∨ x.lang = 1) ∧ 0 ≤ x.c ∧ x.c < 256
theorem bytesL_rng (s : ByteArray) : ∀ x ∈ bytesL s, 0 ≤ x ∧ x < 256 := by
  intro x hx
  unfold bytesL at hx
  obtain ⟨b, _, rfl⟩ := List.mem_map.1 hx
  have := b.toNat_lt
  omega
theorem langN_or {lang n : Int} (h : lang = 0 ∨ lang = 1) : langN lang n = 0 ∨ langN lang n = 1 := by
  unfold langN
  split <;> omega
theorem stepO_ok {out : List Sym} {lang n : Int} (h : ∀ x ∈ out, SymG x) (hl : lang = 0 ∨ lang = 1) : ∀ x ∈ stepO out lang n, SymG x := by
  have hn : SymG (⟨langN lang n, charN n⟩ : Sym) := ⟨langN_or hl, by have := charN_rng n; simp only; omega, by have := charN_rng n; simp only; omega⟩
  intro x hx
  unfold stepO addW at hx
  split at hx
  · rcases List.mem_append.1 hx with hx | hx
    · rcases List.mem_append.1 hx with hx | hx
      · exact h x hx
      · rw [List.mem_singleton] at hx
        exact hx ▸ hn
    · obtain ⟨c, hc, rfl⟩ := List.mem_map.1 hx
      exact ⟨langN_or hl, bytesL_rng _ _ (List.mem_of_mem_take hc)⟩
  · rcases List.mem_append.1 hx with hx | hx
    · exact h x hx
    · rw [List.mem_singleton] at hx
      exact hx ▸ hn
theorem symsRun_ok : ∀ (l : List Int) (out : List Sym) (lang : Int), (∀ x ∈ out, SymG x) → (lang = 0 ∨ lang = 1) → ∀ x ∈ symsRun l out lang, SymG x
  | [], out, _, h, _ => h
  | x :: xs, out, lang, h, hl => by
    rw [symsRun]
    split
    · exact h
    · exact symsRun_ok xs _ _ (stepO_ok h hl) (langN_or hl)
theorem symsZ_ok (l : List Int) : ∀ x ∈ symsZ l, SymG x := symsRun_ok l [] 0 (by simp) (.inl rfl)
theorem symsZ_SymOk (l : List Int) : SymOk (symsZ l) := fun x hx => by
  obtain ⟨h1, h2, h3⟩ := symsZ_ok l x hx
  exact ⟨h2, h3, by omega, by omega⟩
theorem symsZ_lang (l : List Int) : ∀ x ∈ symsZ l, x.lang = 0 ∨ x.lang = 1 := fun x hx => (symsZ_ok l x hx).1
theorem made_ok {L : List RuleZ} (h : MadeO L) : ∀ r ∈ L, RuleOk r := fun r hr => by
  have := List.all_eq_true.1 (made_right h) r hr
  unfold rightB at this
  simp only [Bool.and_eq_true, decide_eq_true_eq] at this
  exact ⟨by omega, by omega, by omega⟩
theorem tabG_ok {T : TabZ} (h : TabG T) : TabOk T := ⟨made_ok h.l0, made_ok h.l1, by have := made_len h.l0; omega, by have := made_len h.l1; omega⟩
theorem tabG_dg {T : TabZ} (h : TabG T) : 0 < T.dg.length ∧ T.dg.length ≤ 1000 := by
  have := h.dg
  unfold cellsB at this
  simp only [Bool.and_eq_true, decide_eq_true_eq] at this
  omega
end Go.Proofs.YtcfjepcflanjbaaGreat
