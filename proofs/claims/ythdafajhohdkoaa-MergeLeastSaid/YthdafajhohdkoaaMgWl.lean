/- Plain: each choice leads to its text; the least edits lead to their text, also by Merge; one after the other (printed in part out of Sub, Exp, MgW and MgY). -/
import Derived.Test.YthdafajhohdkoaaRefI0
import Derived.Test.YthdafajhohdkoaaLiftD
import Derived.Test.YthdafajhohdkoaaMgZ
namespace Go.Proofs.Ythdafajhohdkoaa
open Go.RowKit Go.Lab
theorem lcsM_pair {a b : List Sym} : ∀ (n i k : Nat), (a.length - i) + (b.length - k) ≤ n → lcsM a b i k ≠ 0 →
    ∃ x y, i ≤ x ∧ k ≤ y ∧ ∃ (hx : x < a.length) (hy : y < b.length), a[x] = b[y] ∧ 1 + lcsM a b (x + 1) (y + 1) = lcsM a b i k
  | n, i, k, hn, h0 => by
    have hi : i < a.length := by
      rcases Nat.lt_or_ge i a.length with h | h
      · exact h
      · exact absurd (lcsM_end_i h) h0
    have hk : k < b.length := by
      rcases Nat.lt_or_ge k b.length with h | h
      · exact h
      · exact absurd (lcsM_end_k h) h0
    have hs := lcsM_step hi hk
    by_cases e : a[i] = b[k]
    · rw [if_pos e] at hs
      exact ⟨i, k, Nat.le_refl _, Nat.le_refl _, hi, hk, e, hs.symm⟩
    · rw [if_neg e] at hs
      match n, hn with
      | 0, hn => omega
      | n + 1, hn =>
        by_cases hle : lcsM a b (i + 1) k ≤ lcsM a b i (k + 1)
        · obtain ⟨x, y, h1, h2, hx, hy, h3, h4⟩ := lcsM_pair (a := a) (b := b) n i (k + 1) (by omega) (by omega)
          exact ⟨x, y, h1, by omega, hx, hy, h3, by omega⟩
        · obtain ⟨x, y, h1, h2, hx, hy, h3, h4⟩ := lcsM_pair (a := a) (b := b) n (i + 1) k (by omega) (by omega)
          exact ⟨x, y, by omega, h2, hx, hy, h3, by omega⟩
theorem enumP_ne {a b : List Sym} : ∀ (f i k : Nat), a.length - i ≤ f → ∃ p, p ∈ enumP a b f i k
  | 0, i, k, hf => ⟨[], by simp [enumP]⟩
  | f + 1, i, k, hf => by
    by_cases h0 : lcsM a b i k = 0
    · exact ⟨[], by rw [enumP_zero h0]; simp⟩
    · obtain ⟨x, y, h1, h2, hx, hy, h3, h4⟩ := lcsM_pair _ i k (Nat.le_refl _) h0
      obtain ⟨p, hp⟩ := enumP_ne (a := a) (b := b) f (x + 1) (y + 1) (by omega)
      refine ⟨(x, y) :: p, ?_⟩
      rw [enumP_succ h0]
      unfold rowsP rowP
      refine List.mem_flatMap.2 ⟨x, List.mem_range'.2 ⟨x - i, by omega, by omega⟩, List.mem_flatMap.2 ⟨y, List.mem_range'.2 ⟨y - k, by omega, by omega⟩, ?_⟩⟩
      rw [blkP_yes hx hy h3 h4]
      exact List.mem_map.2 ⟨p, hp, rfl⟩
theorem isTextB_mk {l : List Sym} (h : l.length ≤ 2048) (hg : l.all goodB = true) : isTextB l = true := by
  unfold isTextB
  rw [hg]
  simpa using h
theorem isTextB_good {l : List Sym} (h : isTextB l = true) : l.all goodB = true := by
  unfold isTextB at h
  simp only [Bool.and_eq_true] at h
  exact h.2
theorem all_good_take {l : List Sym} (h : l.all goodB = true) (n : Nat) : (l.take n).all goodB = true := by
  rw [List.all_eq_true] at h ⊢
  exact fun x hx => h x (List.mem_of_mem_take hx)
theorem all_good_drop {l : List Sym} (h : l.all goodB = true) (n : Nat) : (l.drop n).all goodB = true := by
  rw [List.all_eq_true] at h ⊢
  exact fun x hx => h x (List.mem_of_mem_drop hx)
theorem applyGo_out0 (l : List Sym) : ∀ (es : List Edit) (p : Nat) (out : List Sym), applyGo l p out es = out ++ applyGo l p [] es
  | [], p, out => by rw [applyGo, applyGo, List.nil_append]
  | e :: es, p, out => by
    rw [applyGo, applyGo, applyGo_out0 l es _ (out ++ _ ++ _), applyGo_out0 l es _ ([] ++ _ ++ _)]
    simp only [List.nil_append, List.append_assoc]
/-- The pairs of an alignment are pairs of one and the same character. -/
def mateP (a b : List Sym) (p : List (Nat × Nat)) : Prop := ∀ x y, (x, y) ∈ p → a[x]? = b[y]?
theorem enumP_mate {a b : List Sym} : ∀ (f i k : Nat) (p : List (Nat × Nat)), p ∈ enumP a b f i k → mateP a b p
  | 0, i, k, p, h => by
    simp [enumP] at h
    subst h
    intro x y hxy
    cases hxy
  | f + 1, i, k, p, h => by
    by_cases h0 : lcsM a b i k = 0
    · rw [enumP_zero h0] at h
      simp at h
      subst h
      intro x y hxy
      cases hxy
    · rw [enumP_succ h0] at h
      unfold rowsP rowP at h
      obtain ⟨x, _, h⟩ := List.mem_flatMap.1 h
      obtain ⟨y, _, h⟩ := List.mem_flatMap.1 h
      unfold blkP at h
      split at h
      · rename_i hc
        obtain ⟨q, hq, rfl⟩ := List.mem_map.1 h
        have ih := enumP_mate f _ _ q hq
        intro u v huv
        rcases List.mem_cons.1 huv with e | e
        · injection e with e1 e2
          subst e1 e2
          exact hc.1
        · exact ih u v e
      · cases h
theorem drop_take_one {l : List Sym} {i c : Nat} (hc : c ≤ i) (hi : i < l.length) : (l.drop c).take (i + 1 - c) = (l.drop c).take (i - c) ++ [l[i]] := by
  rw [show i + 1 - c = (i - c) + 1 from by omega, List.take_succ_eq_append_getElem (by rw [List.length_drop]; omega), List.getElem_drop]
  congr 2
  congr 1
  omega
theorem drop_part {l : List Sym} {k y : Nat} (hk : k ≤ y) (hy : y < l.length) : (l.drop k).take (y - k) ++ [l[y]] ++ l.drop (y + 1) = l.drop k := by
  rw [← drop_take_one hk hy]
  have h := List.take_append_drop (y + 1 - k) (l.drop k)
  rw [List.drop_drop, show k + (y + 1 - k) = y + 1 from by omega] at h
  exact h
theorem apply_edits {a b : List Sym} : ∀ (p : List (Nat × Nat)) (i k c : Nat) (out : List Sym), incP a.length b.length i k p → mateP a b p → c ≤ i →
    applyGo a c out (editsGo b i k (p ++ [(a.length, b.length)])) = out ++ (a.drop c).take (i - c) ++ b.drop k
  | [], i, k, c, out, hinc, _, hc => by
    obtain ⟨h1, h2⟩ := hinc
    rw [List.nil_append, editsGo, editsGo]
    split
    · rw [List.append_nil, applyGo, applyGo]
      simp only [Int.toNat_natCast]
      rw [show ((i : Int) + ((a.length : Int) - i)).toNat = a.length from by omega, List.drop_length, List.append_nil, List.take_of_length_le (i := b.length - k) (by simp)]
    · rename_i hno
      rw [List.append_nil, applyGo, show i = a.length from by omega, show k = b.length from by omega, List.drop_length, List.append_nil, List.take_of_length_le (by simp)]
  | (x, y) :: r, i, k, c, out, hinc, hm, hc => by
    obtain ⟨h1, h2, h3, h4, h5⟩ := hinc
    have hmr : mateP a b r := fun u v h => hm u v (List.mem_cons_of_mem _ h)
    have hxy : a[x] = b[y] := by
      have := hm x y (List.mem_cons_self ..)
      rw [List.getElem?_eq_getElem h3, List.getElem?_eq_getElem h4] at this
      injection this
    rw [List.cons_append, editsGo]
    split
    · rw [List.singleton_append, applyGo, apply_edits r (x + 1) (y + 1) _ _ h5 hmr (by show ((i : Int) + ((x : Int) - i)).toNat ≤ x + 1; omega)]
      simp only [Int.toNat_natCast]
      rw [show ((i : Int) + ((x : Int) - i)).toNat = x from by omega, drop_take_one (Nat.le_refl x) h3, Nat.sub_self, List.take_zero, List.nil_append, hxy]
      have := drop_part h2 h4
      simp only [List.append_assoc] at this ⊢
      rw [this]
    · rename_i hno
      have hx : i = x := by omega
      have hy : k = y := by omega
      subst hx hy
      rw [List.nil_append, apply_edits r (i + 1) (k + 1) c out h5 hmr (by omega), drop_take_one hc h3, hxy]
      have := drop_part (Nat.le_refl k) h4
      rw [Nat.sub_self, List.take_zero, List.nil_append] at this
      simp only [List.append_assoc] at this ⊢
      rw [this]
theorem edits_valid {a b : List Sym} (hg : b.all goodB = true) (hb : b.length ≤ 64) : ∀ (p : List (Nat × Nat)) (i k : Nat) (last : Int), incP a.length b.length i k p → last < i →
    validGo a.length last (editsGo b i k (p ++ [(a.length, b.length)])) = true
  | [], i, k, last, hinc, hl => by
    obtain ⟨h1, h2⟩ := hinc
    rw [List.nil_append, editsGo, editsGo]
    split
    · rw [List.append_nil, validGo, badE_false (by omega) (by omega) (by omega) (by omega) (by rw [List.length_take, List.length_drop]; omega) (all_good_take (all_good_drop hg _) _) (by rw [List.length_take, List.length_drop]; omega)]
      rfl
    · rfl
  | (x, y) :: r, i, k, last, hinc, hl => by
    obtain ⟨h1, h2, h3, h4, h5⟩ := hinc
    rw [List.cons_append, editsGo]
    split
    · rw [List.singleton_append, validGo, badE_false (by omega) (by omega) (by omega) (by omega) (by rw [List.length_take, List.length_drop]; omega) (all_good_take (all_good_drop hg _) _) (by rw [List.length_take, List.length_drop]; omega)]
      exact edits_valid hg hb r (x + 1) (y + 1) _ h5 (by simp only []; omega)
    · rw [List.nil_append]
      exact edits_valid hg hb r (x + 1) (y + 1) _ h5 (by omega)
theorem choice_leads {a b : List Sym} {p : List (Nat × Nat)} (hta : isTextB a = true) (htb : isTextB b = true) (hla : a.length ≤ 24) (hlb : b.length ≤ 64) (hp : p ∈ enumP a b a.length 0 0) : applyZ a (editsZ a b p) = (b, 0) := by
  have hinc := enumP_inc _ _ _ p (Nat.zero_le _) (Nat.zero_le _) hp
  have hlen := enumP_len _ _ _ p hp
  have h1 := apply_edits p 0 0 0 [] hinc (enumP_mate _ _ _ p hp) (Nat.le_refl 0)
  have h2 : validZ a.length (editsZ a b p) = true := by
    unfold validZ
    rw [show validGo (a.length : Int) (-1) (editsZ a b p) = true from edits_valid (isTextB_good htb) hlb p 0 0 (-1) hinc (by omega)]
    have := editsGo_len b (p ++ [(a.length, b.length)]) 0 0
    rw [List.length_append] at this
    simp only [List.length_cons, List.length_nil] at this
    simp only [Bool.and_true, decide_eq_true_eq]
    unfold editsZ
    omega
  simp only [Nat.sub_self, List.take_zero, List.append_nil, List.drop_zero, List.nil_append] at h1
  unfold applyZ
  rw [hta, h2]
  simp only [Bool.and_self, if_true]
  unfold editsZ
  rw [h1, if_neg (by omega)]
theorem choicesZ_eq {a b : List Sym} {n : Nat} (hta : isTextB a = true) (htb : isTextB b = true) (h1 : 1 ≤ n) (h2 : n ≤ 64) : choicesZ a b n = ((enumP a b a.length 0 0).take n).map (editsZ a b) := by
  unfold choicesZ
  rw [hta, htb, decide_eq_true (by omega), decide_eq_true (by omega)]
  rfl
theorem choices_lead {a b : List Sym} {n : Nat} (hta : isTextB a = true) (htb : isTextB b = true) (h1 : 1 ≤ n) (h2 : n ≤ 64) (hla : a.length ≤ 24) (hlb : b.length ≤ 64) {es : List Edit} (h : es ∈ choicesZ a b n) : applyZ a es = (b, 0) := by
  rw [choicesZ_eq hta htb h1 h2] at h
  obtain ⟨p, hp, rfl⟩ := List.mem_map.1 h
  exact choice_leads hta htb hla hlb (List.mem_of_mem_take hp)
open Go.RowKit Go.Lab
theorem insLen_filter (p : Edit → Bool) : ∀ l : List Edit, insLen (l.filter p) ≤ insLen l
  | [] => by simp [insLen]
  | x :: l => by
    have := insLen_filter p l
    rw [List.filter_cons]
    split
    · rw [insLen_cons, insLen_cons]; omega
    · rw [insLen_cons]; omega
theorem insLen_shift (b : List Edit) : ∀ l : List Edit, insLen (l.map (shiftE b)) = insLen l
  | [] => rfl
  | x :: l => by rw [List.map_cons, insLen_cons, insLen_cons, insLen_shift b l]; rfl
theorem insLen_apply (l : List Sym) : ∀ (es : List Edit) (p : Nat), insLen es ≤ (applyGo l p [] es).length
  | [], _ => by simp [insLen]
  | e :: es, p => by
    have := insLen_apply l es (e.pos + e.del).toNat
    rw [applyGo_cons, insLen_cons, List.length_append, List.length_append]
    omega
theorem srt_insL {a b : List Edit} (ha : insLen a ≤ 96) (hb : insLen b ≤ 96) : insLen (srtE (bothE a b)) ≤ 192 := by
  rw [insLen_perm (srtE_perm _)]
  unfold bothE
  rw [insLen_app]
  have := insLen_filter (fun x => !memB a x) b
  omega
theorem merge_smallL {base : List Sym} {a b : List Edit} (ht : isTextB base = true) (hl : base.length ≤ 500) (ha : validZ base.length a = true) (hb : validZ base.length b = true) (sa : insLen a ≤ 96) (sb : insLen b ≤ 96) (hc : clashP a b = []) :
    mergeZ base a b = ((endS base (srtE (bothE a b))).out, (endS base (srtE (bothE a b))).kept, 0) := by
  have h1 := (end_apply (srt_sep ha hb hc) (bothE_in ha hb)).2
  have h2 := srt_insL sa sb
  unfold mergeZ
  rw [ht, ha, hb, if_neg (by decide), if_neg (by simp [hc])]
  unfold doneZ
  rw [if_neg (by omega)]
/-- What the law After says. -/
theorem after_lawL {base : List Sym} {a b : List Edit} (ht : isTextB base = true) (hl : base.length ≤ 100) (ha : validZ base.length a = true) (hb : validZ base.length b = true) (sa : insLen a ≤ 96) (sb : insLen b ≤ 96) (hc : clashP a b = []) :
    (mergeZ base a b).2.2 = 0 ∧ (applyZ base b).2 = 0 ∧ (moveZ a b).2 = 0 ∧ (mergeZ (applyZ base b).1 (moveZ a b).1 []).2.2 = 0 ∧ (mergeZ (applyZ base b).1 (moveZ a b).1 []).1 = (mergeZ base a b).1 := by
  have hm := merge_smallL ht (by omega) ha hb sa sb hc
  have he := end_apply (validZ_sep hb).1 (validZ_inN hb)
  have hib := sb
  have happ : applyZ base b = (applyGo base 0 [] b, 0) := by
    unfold applyZ
    rw [ht, hb, if_pos (by decide), if_neg (by rw [← he.1]; omega)]
  have hmv : moveZ a b = ((a.filter fun x => !memB b x).map (shiftE b), 0) := by
    unfold moveZ
    rw [validZ_mono (by omega : (base.length : Int) ≤ 2048) ha, validZ_mono (by omega : (base.length : Int) ≤ 2048) hb, if_neg (by decide), if_neg (by simp [hc])]
  have hL1 : (srtE (bothE a b)).filter (memB b) = b := asc_ext _ _ (fun x => by
      rw [List.mem_filter, (srtE_perm _).mem_iff, mem_bothE, memB_iff]
      exact ⟨fun h => h.2, fun h => ⟨.inr h, h⟩⟩) (filter_dif _ (srt_dif ha hb hc)) (valid_dif hb) (filter_asc _ (srtE_asc _)) (valid_asc hb)
  have hL2 : (srtE (bothE a b)).filter (fun x => !memB b x) = a.filter (fun x => !memB b x) := asc_ext _ _ (fun x => by
      rw [List.mem_filter, List.mem_filter, (srtE_perm _).mem_iff, mem_bothE]
      constructor
      · rintro ⟨h1 | h1, h2⟩
        · exact ⟨h1, h2⟩
        · rw [memB_iff.2 h1] at h2; cases h2
      · rintro ⟨h1, h2⟩
        exact ⟨.inl h1, h2⟩) (filter_dif _ (srt_dif ha hb hc)) (filter_dif _ (valid_dif ha)) (filter_asc _ (srtE_asc _)) (filter_asc _ (valid_asc ha))
  have hsep := srt_sep ha hb hc
  have hin := bothE_in ha hb
  have hfine : ∀ x ∈ srtE (bothE a b), memB b x = false → FineE x := fun x hx hq => by
    rcases mem_bothE.1 ((srtE_perm _).mem_iff.1 hx) with h | h
    · exact validZ_fine ha x h
    · rw [memB_iff.2 h] at hq; cases hq
  have hlow : ∀ x ∈ srtE (bothE a b), memB b x = false → (-1 : Int) < x.pos + offE x.pos b := fun x hx hq => by
    have h1 := (hin x hx).1
    have h2 := offE_low x.pos b 0 (validZ_sep hb).1 (fun y hy => (validZ_sep hb).2 y hy) h1
    omega
  obtain ⟨r1, r2⟩ := after_go base (applyGo base 0 [] b) (memB b) (fun x => x.pos + offE x.pos b) (srtE (bothE a b)) 0 0 (-1) hsep hin (fun e he => by have := (hin e he).1; simpa using this) (Nat.zero_le _) (Nat.zero_le _)
    (by rw [hL1, List.drop_zero]) (fun x hx hq => by rw [hL1]; simp) hfine hlow
  rw [hL2] at r1 r2
  have hmv2 : (a.filter (fun x => !memB b x)).map (mv fun x => x.pos + offE x.pos b) = (a.filter fun x => !memB b x).map (shiftE b) := rfl
  rw [hmv2] at r1 r2
  have hlenm : ((a.filter fun x => !memB b x).map (shiftE b)).length ≤ 32 := by
    rw [List.length_map]
    exact Nat.le_trans (List.length_filter_le _ _) (validZ_len ha)
  have hsm : insLen ((a.filter fun x => !memB b x).map (shiftE b)) ≤ 96 := by
    rw [insLen_shift]
    exact Nat.le_trans (insLen_filter _ _) sa
  have hvm : validZ (applyGo base 0 [] b).length ((a.filter fun x => !memB b x).map (shiftE b)) = true := by
    unfold validZ
    rw [r2, decide_eq_true (by omega)]
    rfl
  have hy : isTextB (applyGo base 0 [] b) = true := by
    unfold isTextB
    rw [applyGo_good (isTextB_all ht) b 0 (validZ_fine hb), decide_eq_true (by rw [← he.1]; omega)]
    rfl
  have hz := merge_smallL hy (by rw [← he.1]; omega) hvm (validZ_nil _) hsm (by simp [insLen]) (clashP_none _)
  rw [srt_of_mem hvm (validZ_nil base.length) (clashP_none _) (fun x hx => by cases hx)] at hz
  have hze := end_apply (validZ_sep hvm).1 (validZ_inN hvm)
  rw [hm, happ, hmv]
  refine ⟨rfl, rfl, rfl, ?_, ?_⟩
  · rw [hz]
  · rw [hz]
    show (endS _ _).out = (endS _ _).out
    rw [hze.1, r1, (end_apply hsep hin).1]
theorem least_leads {a b : List Sym} (hta : isTextB a = true) (htb : isTextB b = true) (hla : a.length ≤ 24) (hlb : b.length ≤ 64) : applyZ a (leastZ a b).1 = (b, 0) := by
  have hm : (leastZ a b).1 ∈ choicesZ a b 2 := by
    obtain ⟨p, hp⟩ := enumP_ne (a := a) (b := b) a.length 0 0 (by omega)
    have he := choicesZ_eq (n := 2) hta htb (by omega) (by omega)
    cases hc : choicesZ a b 2 with
    | nil =>
      have he2 : choicesZ a b 2 = ((enumP a b a.length 0 0).take 2).map (editsZ a b) := he
      rw [hc] at he2
      have h0 := congrArg List.length he2
      rw [List.length_map, List.length_take] at h0
      have := List.length_pos_of_mem hp
      simp at h0
      omega
    | cons x r =>
      unfold leastZ
      rw [hc]
      exact List.mem_cons_self ..
  exact choices_lead (n := 2) hta htb (by omega) (by omega) hla hlb hm
theorem least_apply {a b : List Sym} (hta : isTextB a = true) (htb : isTextB b = true) (hla : a.length ≤ 24) (hlb : b.length ≤ 64) (hv : validZ a.length (leastZ a b).1 = true) : applyGo a 0 [] (leastZ a b).1 = b ∧ insLen (leastZ a b).1 ≤ 64 := by
  have h := least_leads hta htb hla hlb
  have he : applyGo a 0 [] (leastZ a b).1 = b := by
    unfold applyZ at h
    rw [hta, hv, if_pos (by decide)] at h
    split at h
    · cases h
    · injection h
  exact ⟨he, Nat.le_trans (insLen_apply a _ 0) (by rw [he]; exact hlb)⟩
theorem least_merge {a b : List Sym} (hta : isTextB a = true) (htb : isTextB b = true) (hla : a.length ≤ 24) (hlb : b.length ≤ 64) (hv : validZ a.length (leastZ a b).1 = true) : (mergeZ a (leastZ a b).1 []).2.2 = 0 ∧ (mergeZ a (leastZ a b).1 []).1 = b := by
  obtain ⟨h1, h2⟩ := least_apply hta htb hla hlb hv
  have hn := merge_smallL hta (by omega) hv (validZ_nil _) (by omega) (by simp [insLen]) (clashP_none _)
  rw [srt_of_mem hv (validZ_nil a.length) (clashP_none _) (fun x hx => by cases hx)] at hn
  rw [hn]
  refine ⟨rfl, ?_⟩
  exact (end_apply (validZ_sep hv).1 (validZ_inN hv)).1.trans h1
/-- What the law Least says of Merge and Move. -/
theorem least_law {a x y : List Sym} (hta : isTextB a = true) (htx : isTextB x = true) (hty : isTextB y = true) (hla : a.length ≤ 24) (hlx : x.length ≤ 64) (hly : y.length ≤ 64)
    (hvx : validZ a.length (leastZ a x).1 = true) (hvy : validZ a.length (leastZ a y).1 = true) :
    ((mergeZ a (leastZ a x).1 (leastZ a y).1).2.2 = 18 ∧ (moveZ (leastZ a x).1 (leastZ a y).1).2 = 18) ∨
    ((mergeZ a (leastZ a x).1 (leastZ a y).1).2.2 = 0 ∧ (moveZ (leastZ a x).1 (leastZ a y).1).2 = 0 ∧ (mergeZ y (moveZ (leastZ a x).1 (leastZ a y).1).1 []).2.2 = 0 ∧ (mergeZ y (moveZ (leastZ a x).1 (leastZ a y).1).1 []).1 = (mergeZ a (leastZ a x).1 (leastZ a y).1).1) := by
  by_cases hc : clashP (leastZ a x).1 (leastZ a y).1 = []
  · right
    obtain ⟨_, h2⟩ := least_apply hta htx hla hlx hvx
    obtain ⟨_, k2⟩ := least_apply hta hty hla hly hvy
    obtain ⟨g1, _, g3, g4, g5⟩ := after_lawL hta (by omega) hvx hvy (by omega) (by omega) hc
    rw [least_leads hta hty hla hly] at g4 g5
    exact ⟨g1, g3, g4, g5⟩
  · left
    rw [merge_clash hta hvx hvy hc]
    refine ⟨rfl, ?_⟩
    unfold moveZ
    rw [validZ_mono (by omega : (a.length : Int) ≤ 2048) hvx, validZ_mono (by omega : (a.length : Int) ≤ 2048) hvy, if_neg (by decide), if_pos hc]
end Go.Proofs.Ythdafajhohdkoaa
