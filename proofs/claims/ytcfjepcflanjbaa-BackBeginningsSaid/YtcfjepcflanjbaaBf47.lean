/- Plain: what is written is read. -/
import Derived.Test.YtcfjepcflanjbaaBf46
import Derived.Test.YtcfjepcflanjbaaBf17
namespace Go.Proofs.Ytcfjepcflanjbaa
open Go.RowKit Go.Lab Go.Shelf
theorem rule_kind {r : RuleZ} (h : rightB r = true) : 1 ≤ r.text.size ∧ r.text.size ≤ 8 ∧ ((lowsB r.text = true ∧ smallZ r.text = true) ∨ (lowsB r.text = false ∧ smallZ r.text = false ∧ r.text.size = 1 ∧ letB ((byts r.text).getD 0 0) = false)) := by
  unfold rightB at h
  simp only [Bool.and_eq_true, Bool.or_eq_true, decide_eq_true_eq] at h
  obtain ⟨h1, h2, _, _, _, h3⟩ := h
  refine ⟨h1, h2, ?_⟩
  have hl : 0 < (byts r.text).length := by rw [byts_len]; exact h1
  obtain ⟨x, t, hx⟩ : ∃ x t, byts r.text = x :: t := by
    cases hb : byts r.text with
    | nil => rw [hb] at hl; exact absurd hl (by decide)
    | cons x t => exact ⟨x, t, rfl⟩
  have hd : (byts r.text).getD 0 0 = x := by rw [hx]; rfl
  have hs : smallZ r.text = lowB x := by
    unfold smallZ
    rw [decide_eq_true h1, Bool.true_and, hd]
  cases hlo : lowsB r.text with
  | true =>
    left
    refine ⟨rfl, ?_⟩
    rw [hs]
    unfold lowsB at hlo
    rw [hx, List.all_cons] at hlo
    simp only [Bool.and_eq_true] at hlo
    exact hlo.1
  | false =>
    right
    rcases h3 with h3 | h3
    · rw [hlo] at h3; cases h3
    · unfold markB headC at h3
      rw [hx] at h3
      simp only [Bool.and_eq_true, decide_eq_true_eq, List.headD_cons, Bool.not_eq_true'] at h3
      refine ⟨rfl, ?_, h3.1, ?_⟩
      · rw [hs]; exact h3.2.2.1
      · rw [hd]
        unfold letB
        rw [h3.2.2.1, h3.2.2.2.1]
        rfl
theorem lit_all {l : List Sym} {i : Nat} {s : ByteArray} (h : litB l i s = true) {j : Nat} (hj : j < s.size) : lowZ (symAt l (i + j)).c = (byts s).getD j 0 ∧ (symAt l (i + j)).lang = (symAt l i).lang ∧ (0 < j → capB (symAt l (i + j)).c = false) := by
  unfold litB at h
  have h1 := List.all_eq_true.1 h j (List.mem_range.2 hj)
  unfold stepB at h1
  simp only [Bool.and_eq_true, decide_eq_true_eq, Bool.not_eq_true'] at h1
  refine ⟨h1.1, h1.2.1, fun hp => ?_⟩
  have h2 := h1.2.2
  rw [decide_eq_true hp, Bool.true_and] at h2
  exact h2
theorem low_getD {s : ByteArray} (h : lowsB s = true) {j : Nat} (hj : j < s.size) : lowB ((byts s).getD j 0) = true := by
  have hl : j < (byts s).length := by rw [byts_len]; exact hj
  rw [List.getD_eq_getElem?_getD, List.getElem?_eq_getElem hl]
  exact List.all_eq_true.1 h _ (List.getElem_mem hl)
theorem let_of_low {c : Int} (h : lowB (lowZ c) = true) : letB c = true := by
  unfold letB
  unfold lowZ at h
  split at h
  · rename_i hc
    rw [hc, Bool.or_true]
  · rw [h, Bool.true_or]
theorem letB_capB {c : Int} (h : letB c = false) : capB c = false := by
  unfold letB at h
  simp only [Bool.or_eq_false_iff] at h
  exact h.2
/-- The characters of a rule that fits are its piece. -/
theorem piece_fits {l : List Sym} {i : Nat} {s : ByteArray} (hl : i + s.size ≤ l.length) (h : litB l i s = true) {cap : Bool} (hcap : cap = capB (symAt l i).c) {lang : Int} (hlang : (symAt l i).lang = lang) (hc : ∀ x ∈ l, 0 ≤ x.c ∧ x.c < 256) : (l.drop i).take s.size = pieceZ lang s cap := by
  apply List.ext_getElem
  · rw [List.length_take, List.length_drop, pieceZ_len]; omega
  · intro j h1 h2
    rw [pieceZ_len] at h2
    have hij : i + j < l.length := by omega
    obtain ⟨g1, g2, g3⟩ := lit_all h h2
    rw [List.getElem_take, List.getElem_drop]
    have hpz : (pieceZ lang s cap)[j]'(by rw [pieceZ_len]; exact h2) = pieceAt lang s cap j := by simp [pieceZ]
    refine Eq.trans ?_ hpz.symm
    clear hpz
    rw [symAt_get hij] at g1 g2 g3
    have hb := hc _ (List.getElem_mem hij)
    obtain ⟨y, hy⟩ : ∃ y, y = l[i + j] := ⟨_, rfl⟩
    rw [← hy] at g1 g2 g3 hb ⊢
    unfold pieceAt
    obtain ⟨yl, yc⟩ := y
    simp only at g1 g2 g3 hb ⊢
    rw [g2, hlang]
    congr 1
    by_cases hj0 : j = 0
    · subst hj0
      have he : symAt l i = ⟨yl, yc⟩ := by rw [hy]; exact symAt_get hij
      rw [he] at hcap
      simp only at hcap
      cases cap with
      | true =>
        rw [if_pos ⟨rfl, rfl⟩, ← g1]
        unfold lowZ
        rw [if_pos hcap.symm]
        show yc = (yc + 32 - 32) % 256
        omega
      | false =>
        rw [if_neg (fun e => by cases e.2), ← g1]
        unfold lowZ
        rw [if_neg (fun e => by rw [← hcap] at e; cases e)]
    · rw [if_neg (fun e => hj0 e.1), ← g1]
      unfold lowZ
      rw [if_neg (fun e => by rw [g3 (by omega)] at e; cases e)]
/-- How a place of reading stands to a place of a text. -/
structure Wr (l : List Sym) (i : Nat) (p : PlZ) : Prop where
  ok : PlOk p
  le : i ≤ l.length
  word : p.st.word = (decide (1 ≤ i) && (letB (symAt l (i - 1)).c && decide ((symAt l (i - 1)).lang = p.st.lang)))
  before : 1 ≤ i → p.sw = false → (symAt l (i - 1)).lang = p.st.lang
  ended : p.need = 1 → ¬ (i < l.length ∧ letB (symAt l i).c = true ∧ (symAt l i).lang = p.st.lang)
  goes : p.need = 2 → i < l.length ∧ letB (symAt l i).c = true ∧ (symAt l i).lang = p.st.lang
  sw : p.sw = true → i < l.length ∧ (symAt l i).lang = p.st.lang
theorem Wr.start (l : List Sym) : Wr l 0 pl0 := ⟨pl0_ok, Nat.zero_le _, rfl, fun h => absurd h (by decide), fun h => absurd h (by decide), fun h => absurd h (by decide), fun h => absurd h (by decide)⟩
theorem inWordB_of {l : List Sym} {i : Nat} (h1 : 1 ≤ i) (h2 : i < l.length) (h3 : letB (symAt l (i - 1)).c = true) (h4 : letB (symAt l i).c = true) (h5 : (symAt l (i - 1)).lang = (symAt l i).lang) : inWordB l i = true := by
  unfold inWordB
  rw [decide_eq_true h1, decide_eq_true h2, h3, h4, decide_eq_true h5]
  rfl
theorem inWordB_to {l : List Sym} {i : Nat} (h : inWordB l i = true) : 1 ≤ i ∧ i < l.length ∧ letB (symAt l (i - 1)).c = true ∧ letB (symAt l i).c = true ∧ (symAt l (i - 1)).lang = (symAt l i).lang := by
  unfold inWordB at h
  simp only [Bool.and_eq_true, decide_eq_true_eq] at h
  exact ⟨h.1, h.2.1, h.2.2.1, h.2.2.2.1, h.2.2.2.2⟩
theorem isF_acc {T : TabZ} {C : List Int} {l : List Sym} (hv : validE T = 0) (hlang : ∀ x ∈ l, x.lang = 0 ∨ x.lang = 1) (hc : ∀ x ∈ l, 0 ≤ x.c ∧ x.c < 256) : ∀ (f i k : Nat) (p : PlZ), k ≤ C.length → Wr l i p → isF T l f p.st i (C.drop k) = true → Acc T C k p (l.drop i)
  | 0, _, _, _, _, _, h => by cases h
  | f + 1, i, k, p, hk, hw, h => by
    obtain ⟨hok, hile, hword, hbef, hend, hgo, hsw⟩ := hw
    show Acc T C k p (l.drop i)
    unfold isF at h
    by_cases hil : l.length ≤ i
    · rw [if_pos hil] at h
      have h1 := of_decide_eq_true h
      rw [List.length_drop] at h1
      rw [List.drop_eq_nil_of_le hil]
      refine .done (by omega) ?_ (fun e => by have := (hgo e).1; omega)
      cases hs : p.sw with
      | false => rfl
      | true => have := (hsw hs).1; omega
    · rw [if_neg hil] at h
      have hi : i < l.length := by omega
      obtain ⟨s, hs, h2⟩ := List.any_eq_true.1 h
      simp only [Bool.and_eq_true] at h2
      obtain ⟨hb, hrec⟩ := h2
      rw [List.drop_drop] at hrec
      have hx := hlang _ (List.getElem_mem hi)
      have hxc := hc _ (List.getElem_mem hi)
      rw [← symAt_get hi] at hx hxc
      have hvi := valid_inds hv
      unfold nextZ at hs
      split at hs
      · -- another language
        rename_i hne
        simp only [List.mem_cons, List.not_mem_nil, or_false] at hs
        subst hs
        simp only at hb hrec
        have hs0 : p.sw = false := by
          cases e : p.sw with
          | false => rfl
          | true => exact absurd (hsw e).2 hne
        have hn2 : p.need ≠ 2 := fun e => hne (hgo e).2.2
        have hl1 : 1 - p.st.lang = (symAt l i).lang := by have := hok.1; omega
        have hm : (⟨T.sw, ByteArray.empty, false, ⟨⟨1 - p.st.lang, false, false⟩, 0, true⟩⟩ : MvZ) ∈ movesZ T p := by
          unfold movesZ
          rw [if_neg hn2]
          refine List.mem_append_right _ (List.mem_append_right _ ?_)
          unfold swMv
          rw [if_neg (by rw [hs0]; simp)]
          simp
        refine .move hk hm hb ?_ (show l.drop i = [] ++ l.drop i from rfl)
        simp only
        rw [hl1]
        refine isF_acc hv hlang hc f i (k + T.sw.length) _ (begB_at hk hb) ⟨⟨hx, Nat.zero_le _⟩, hile, ?_, fun _ e => (by cases e), fun e => (by cases e), fun e => (by cases e), fun _ => ⟨hi, rfl⟩⟩ hrec
        show false = _
        by_cases h1 : 1 ≤ i
        · have := hbef h1 hs0
          rw [decide_eq_true h1, decide_eq_false (fun e => hne (e.symm.trans this)), Bool.and_false, Bool.and_false]
        · rw [decide_eq_false h1, Bool.false_and]
      · rename_i hee
        have he : (symAt l i).lang = p.st.lang := Decidable.byContradiction hee
        have hdrop : ∀ n, i + n ≤ l.length → l.drop i = (l.drop i).take n ++ l.drop (i + n) := fun n _ => by
          rw [← List.drop_drop, List.take_append_drop]
        split at hs
        · -- a digit
          rename_i hd
          simp only [List.mem_cons, List.not_mem_nil, or_false] at hs
          subst hs
          simp only at hb hrec
          have hd2 : 48 ≤ (symAt l i).c ∧ (symAt l i).c ≤ 57 := by
            unfold digB at hd
            simpa using hd
          have hlet : letB (symAt l i).c = false := by
            unfold letB lowB capB
            simp only [Bool.or_eq_false_iff, Bool.and_eq_false_iff, decide_eq_false_iff_not]
            omega
          have hn2 : p.need ≠ 2 := fun e => by
            have := (hgo e).2.1
            rw [hlet] at this
            cases this
          obtain ⟨d, hdd⟩ : ∃ d : Nat, d = ((symAt l i).c - 48).toNat := ⟨_, rfl⟩
          have hd10 : d < 10 := by omega
          rw [← hdd] at hb hrec
          have hm : digMv T p d (T.dg.getD d 0) ∈ movesZ T p := by
            unfold movesZ
            rw [if_neg hn2]
            refine List.mem_append_right _ (List.mem_append_left _ ?_)
            unfold digMvs
            exact List.mem_map.2 ⟨d, List.mem_range.2 (by rw [hvi.1]; exact hd10), rfl⟩
          have hpz : pieceZ p.st.lang (digText d) false = [symAt l i] := by
            have e1 : pieceZ p.st.lang (digText d) false = [⟨p.st.lang, (48 + d : Nat)⟩] := by
              have h10 : ∀ x : Fin 10, pieceZ p.st.lang (digText x.val) false = [⟨p.st.lang, ((48 + x.val : Nat) : Int)⟩] := by
                intro x
                obtain ⟨x, hx⟩ := x
                have : x = 0 ∨ x = 1 ∨ x = 2 ∨ x = 3 ∨ x = 4 ∨ x = 5 ∨ x = 6 ∨ x = 7 ∨ x = 8 ∨ x = 9 := by omega
                rcases this with rfl | rfl | rfl | rfl | rfl | rfl | rfl | rfl | rfl | rfl <;> rfl
              exact h10 ⟨d, hd10⟩
            rw [e1]
            have : symAt l i = ⟨p.st.lang, ((48 + d : Nat) : Int)⟩ := by
              rcases hsy : symAt l i with ⟨a, b⟩
              rw [hsy] at he hdd hd2
              simp only at he hdd hd2
              rw [he]
              congr 1
              omega
            rw [this]
          refine .move hk hm hb (t := l.drop (i + 1)) ?_ ?_
          · show Acc T C (k + (digMv T p d (T.dg.getD d 0)).cells.length) ⟨⟨p.st.lang, true, false⟩, 0, false⟩ (l.drop (i + 1))
            have hrec2 : isF T l f (⟨⟨p.st.lang, true, false⟩, 0, false⟩ : PlZ).st (i + 1) (C.drop (k + (digMv T p d (T.dg.getD d 0)).cells.length)) = true := by
              rw [← he]
              exact hrec
            refine isF_acc hv hlang hc f (i + 1) _ _ (begB_at hk hb) ⟨⟨hok.1, Nat.zero_le _⟩, hi, ?_, fun _ _ => he, fun e => (by cases e), fun e => (by cases e), fun e => (by cases e)⟩ hrec2
            show false = _
            rw [Nat.add_sub_cancel, hlet, Bool.false_and, Bool.and_false]
          · show l.drop i = pieceZ p.st.lang (digText d) false ++ l.drop (i + 1)
            rw [hpz, symAt_get hi]
            exact List.drop_eq_getElem_cons hi
        · -- a rule
          rename_i hd
          obtain ⟨r, hr, hfit, g1, g2, g3⟩ := ruleSteps_mem hs
          rw [g1, g2, g3] at hrec
          rw [g3] at hb
          have hrv : rightB r = true := by
            have h := valid_right hv
            unfold TabZ.rules at hr
            split at hr
            · exact List.all_eq_true.1 h.1 r hr
            · exact List.all_eq_true.1 h.2 r hr
          rw [he] at hr hrec
          obtain ⟨z1, z2, hkind⟩ := rule_kind hrv
          have hfl := fitsB_len hfit
          unfold fitsB at hfit
          simp only [Bool.and_eq_true, decide_eq_true_eq] at hfit
          obtain ⟨_, hlit, hctx⟩ := hfit
          have h0 := lit_all hlit z1
          rw [Nat.add_zero] at h0
          have hlast := lit_all hlit (show r.text.size - 1 < r.text.size by omega)
          have hpf := fun cap (hcap : cap = capB (symAt l i).c) => piece_fits hfl hlit hcap he hc
          have hbef2 : (symAt l (i + r.text.size - 1)).lang = p.st.lang := by
            rw [show i + r.text.size - 1 = i + (r.text.size - 1) from by omega, hlast.2.1]
            exact he
          rcases hkind with ⟨hlo, hsm⟩ | ⟨hlo, hsm, hs1, hlf⟩
          · -- small letters
            have hlet : letB (symAt l i).c = true := let_of_low (by rw [h0.1]; exact low_getD hlo z1)
            have hletl : letB (symAt l (i + r.text.size - 1)).c = true := by
              rw [show i + r.text.size - 1 = i + (r.text.size - 1) from by omega]
              exact let_of_low (by rw [hlast.1]; exact low_getD hlo (by omega))
            rw [hlo] at hctx
            simp only [Bool.not_true, Bool.false_or] at hctx
            rw [hlet] at hrec
            have hww : p.st.word = true → inWordB l i = true := fun e => by
              rw [hword] at e
              simp only [Bool.and_eq_true, decide_eq_true_eq] at e
              exact inWordB_of e.1 hi e.2.1 hlet (e.2.2.trans he.symm)
            have hwn : inWordB l i = true → p.st.word = true := fun e => by
              obtain ⟨e1, _, e3, _, e5⟩ := inWordB_to e
              rw [hword, decide_eq_true e1, e3, decide_eq_true (e5.trans he)]
              rfl
            have hblk : blockedZ p r.wh = false := by
              unfold blockedZ
              have hn1 : decide (p.need = 1) = false := decide_eq_false (fun e => hend e ⟨hi, hlet, he⟩)
              rw [hn1, Bool.false_or]
              unfold ctxV at hctx
              by_cases w1 : r.wh = 1
              · rw [if_pos w1] at hctx
                simp only [Bool.and_eq_true, Bool.not_eq_true'] at hctx
                have hwf : p.st.word = false := by
                  cases e : p.st.word with
                  | false => rfl
                  | true => rw [hww e] at hctx; exact absurd hctx.1 (by decide)
                rw [hwf, w1]
                rfl
              · by_cases w2 : r.wh = 2
                · rw [if_neg w1, if_pos w2] at hctx
                  simp only [Bool.and_eq_true, Bool.not_eq_true'] at hctx
                  have hwf : p.st.word = false := by
                    cases e : p.st.word with
                    | false => rfl
                    | true => rw [hww e] at hctx; exact absurd hctx.1 (by decide)
                  rw [hwf, w2]
                  rfl
                · by_cases w3 : r.wh = 3
                  · rw [if_neg w1, if_neg w2, if_pos w3] at hctx
                    rw [hwn hctx, w3]
                    rfl
                  · rw [decide_eq_false w1, decide_eq_false w2, decide_eq_false w3]
                    simp
            have hnew : Wr l (i + r.text.size) ⟨⟨p.st.lang, false, true⟩, needZ r.wh, false⟩ := by
              refine ⟨⟨hok.1, ?_⟩, hfl, ?_, fun _ _ => hbef2, fun e => ?_, fun e => ?_, fun e => (by cases e)⟩
              · show needZ r.wh ≤ 2
                unfold needZ
                split
                · omega
                · split <;> omega
              · show true = _
                rw [decide_eq_true (show 1 ≤ i + r.text.size by omega), hletl, decide_eq_true hbef2]
                rfl
              · rintro ⟨e1, e2, e3⟩
                have w1 : r.wh = 1 := by
                  unfold needZ at e
                  split at e
                  · assumption
                  · split at e <;> cases e
                unfold ctxV at hctx
                rw [if_pos w1] at hctx
                simp only [Bool.and_eq_true, Bool.not_eq_true'] at hctx
                rw [inWordB_of (by omega) e1 hletl e2 (hbef2.trans e3.symm)] at hctx
                exact absurd hctx.2 (by decide)
              · have w2 : r.wh = 2 ∧ r.wh ≠ 1 := by
                  unfold needZ at e
                  split at e
                  · cases e
                  · rename_i hn
                    split at e
                    · rename_i h2; exact ⟨h2, hn⟩
                    · cases e
                unfold ctxV at hctx
                rw [if_neg w2.2, if_pos w2.1] at hctx
                simp only [Bool.and_eq_true] at hctx
                obtain ⟨_, q2, _, q4, q5⟩ := inWordB_to hctx.2
                exact ⟨q2, q4, q5.symm.trans hbef2⟩
            have hmem : ∀ m ∈ ruleMv T p r, m ∈ movesZ T p := fun m hm => by
              unfold movesZ
              exact List.mem_append_left _ (List.mem_flatMap.2 ⟨r, hr, hm⟩)
            cases hcap : capB (symAt l i).c with
            | false =>
              have hlead : leadZ T p.st (symAt l i).c = headZ T p := by
                unfold leadZ headZ
                rw [hcap, hlet]
                simp
              rw [hlead] at hb hrec
              refine .move (m := ⟨headZ T p ++ r.cells, r.text, false, ⟨⟨p.st.lang, false, true⟩, needZ r.wh, false⟩⟩) hk (hmem _ ?_) hb (isF_acc hv hlang hc f _ _ _ (begB_at hk hb) hnew hrec) ?_
              · unfold ruleMv
                rw [if_pos hsm, if_neg (by rw [hblk]; simp)]
                simp
              · show l.drop i = pieceZ p.st.lang r.text false ++ _
                rw [← hpf false hcap.symm]
                exact hdrop _ hfl
            | true =>
              have hlead : leadZ T p.st (symAt l i).c = headZ T p ++ T.cp := by
                unfold leadZ headZ
                rw [hcap, hlet]
                simp
              rw [hlead, List.append_assoc] at hb hrec
              refine .move (m := ⟨headZ T p ++ (T.cp ++ r.cells), r.text, true, ⟨⟨p.st.lang, false, true⟩, needZ r.wh, false⟩⟩) hk (hmem _ ?_) hb (isF_acc hv hlang hc f _ _ _ (begB_at hk hb) hnew hrec) ?_
              · unfold ruleMv
                rw [if_pos hsm, if_neg (by rw [hblk]; simp)]
                simp
              · show l.drop i = pieceZ p.st.lang r.text true ++ _
                rw [← hpf true hcap.symm]
                exact hdrop _ hfl
          · -- a mark
            have hlet : letB (symAt l i).c = false := by
              cases e : letB (symAt l i).c with
              | false => rfl
              | true =>
                have h1 := h0.1
                have : lowB (lowZ (symAt l i).c) = true := by
                  unfold letB at e
                  unfold lowZ
                  split
                  · rename_i hcp
                    unfold capB at hcp
                    simp only [Bool.and_eq_true, decide_eq_true_eq] at hcp
                    unfold lowB
                    simp only [Bool.and_eq_true, decide_eq_true_eq]
                    omega
                  · rename_i hcp
                    rw [Bool.or_eq_true] at e
                    rcases e with e | e
                    · exact e
                    · exact absurd e hcp
                rw [h1] at this
                unfold letB at hlf
                rw [this, Bool.true_or] at hlf
                cases hlf
            have hcap := letB_capB hlet
            have hn2 : p.need ≠ 2 := fun e => by
              have := (hgo e).2.1
              rw [hlet] at this
              cases this
            have hlead : leadZ T p.st (symAt l i).c = [] := by
              unfold leadZ
              rw [hcap, hlet]
              simp
            rw [hlead, List.nil_append] at hb hrec
            rw [hlet] at hrec
            refine .move (m := ⟨r.cells, r.text, false, ⟨⟨p.st.lang, false, false⟩, 0, false⟩⟩) hk ?_ hb (isF_acc hv hlang hc f _ _ _ (begB_at hk hb) ⟨⟨hok.1, Nat.zero_le _⟩, hfl, ?_, fun _ _ => hbef2, fun e => (by cases e), fun e => (by cases e), fun e => (by cases e)⟩ hrec) ?_
            · unfold movesZ
              refine List.mem_append_left _ (List.mem_flatMap.2 ⟨r, hr, ?_⟩)
              unfold ruleMv
              rw [if_neg (by rw [hsm]; simp), if_neg hn2]
              simp
            · show false = _
              rw [hs1, Nat.add_sub_cancel, hlet, Bool.false_and, Bool.and_false]
            · show l.drop i = pieceZ p.st.lang r.text false ++ _
              rw [← hpf false hcap.symm]
              exact hdrop _ hfl
/-- Cells that are a translation of a text are read as it. -/
theorem is_acc {T : TabZ} {C : List Int} {l : List Sym} (hv : validE T = 0) (hlang : ∀ x ∈ l, x.lang = 0 ∨ x.lang = 1) (hc : ∀ x ∈ l, 0 ≤ x.c ∧ x.c < 256) (h : isZ T l C = true) : Acc T C 0 pl0 l := isF_acc hv hlang hc _ 0 0 pl0 (Nat.zero_le _) (Wr.start l) h
end Go.Proofs.Ytcfjepcflanjbaa
