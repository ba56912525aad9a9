/- Plain: every least alignment leads from the one text to the other; other edits are not smaller; the alignments are all different. -/
import Derived.Test.YthhjnafhpmgceaaSub
namespace Go.Proofs.Ythhjnafhpmgceaa
open Go.RowKit Go.Lab
theorem applyGo_out (l : List Sym) : ∀ (es : List Edit) (p : Nat) (out : List Sym), applyGo l p out es = out ++ applyGo l p [] es
  | [], p, out => by rw [applyGo, applyGo, List.nil_append]
  | e :: es, p, out => by
    rw [applyGo, applyGo, applyGo_out l es _ (out ++ _ ++ _), applyGo_out l es _ ([] ++ _ ++ _)]
    simp only [List.nil_append, List.append_assoc]
def sumI (l : List Edit) : Nat := (l.map fun e => e.ins.length).sum
def sumD (l : List Edit) : Int := (l.map fun e => e.del).sum
theorem sizeZ_sum (l : List Edit) : sizeZ l = sumD l + sumI l := by
  induction l with
  | nil => rfl
  | cons e l ih =>
    unfold sizeZ sumD sumI at *
    simp only [List.map_cons, List.sum_cons]
    omega
theorem kept {l : List Sym} : ∀ (es : List Edit) (last : Int) (p : Nat), validGo l.length last es = true → p ≤ l.length → (p : Int) ≤ last + 1 →
    ∃ s : List Sym, s.Sublist (l.drop p) ∧ s.Sublist (applyGo l p [] es) ∧ (s.length : Int) + sumD es = (l.length - p : Nat) ∧ ((applyGo l p [] es).length : Int) + sumD es = (l.length - p : Nat) + sumI es
  | [], last, p, _, hp, _ => ⟨l.drop p, List.Sublist.refl _, by rw [applyGo, List.nil_append]; exact List.Sublist.refl _, by simp [sumD], by rw [applyGo]; simp [sumD, sumI]⟩
  | e :: es, last, p, hv, hp, hpl => by
    rw [validGo] at hv
    split at hv
    · cases hv
    · rename_i hb
      have hb2 : last < e.pos ∧ e.pos ≤ l.length ∧ 0 ≤ e.del ∧ e.del ≤ l.length - e.pos := by
        unfold badE at hb
        simp only [Bool.not_eq_true, Bool.or_eq_false_iff, decide_eq_false_iff_not] at hb
        omega
      obtain ⟨s, h1, h2, h3, h4⟩ := kept (l := l) es (e.pos + e.del) (e.pos + e.del).toNat hv (by omega) (by omega)
      have hsp : l.drop p = (l.drop p).take (e.pos.toNat - p) ++ l.drop e.pos.toNat := by
        have h := (List.take_append_drop (e.pos.toNat - p) (l.drop p)).symm
        rw [List.drop_drop, show p + (e.pos.toNat - p) = e.pos.toNat from by omega] at h
        exact h
      have hdd : (l.drop (e.pos + e.del).toNat).Sublist (l.drop e.pos.toNat) := by
        rw [show (e.pos + e.del).toNat = e.pos.toNat + e.del.toNat from by omega, ← List.drop_drop]
        exact List.drop_sublist _ _
      have hap : applyGo l p [] (e :: es) = (l.drop p).take (e.pos.toNat - p) ++ (e.ins ++ applyGo l (e.pos + e.del).toNat [] es) := by
        rw [applyGo, applyGo_out, List.nil_append, List.append_assoc]
      have hlt : ((l.drop p).take (e.pos.toNat - p)).length = e.pos.toNat - p := by
        rw [List.length_take, List.length_drop]; omega
      refine ⟨(l.drop p).take (e.pos.toNat - p) ++ s, ?_, ?_, ?_, ?_⟩
      · conv => rhs; rw [hsp]
        exact List.Sublist.append (List.Sublist.refl _) (h1.trans hdd)
      · rw [hap]
        exact List.Sublist.append (List.Sublist.refl _) (h2.trans (List.sublist_append_right _ _))
      · rw [List.length_append, hlt]
        unfold sumD at h3 ⊢
        rw [List.map_cons, List.sum_cons]
        omega
      · rw [hap, List.length_append, List.length_append, hlt]
        unfold sumD sumI at h4 ⊢
        rw [List.map_cons, List.sum_cons, List.map_cons, List.sum_cons]
        omega
/-- Other edits that lead there are not smaller. -/
theorem least_low {a : List Sym} {es : List Edit} (hta : isTextB a = true) (hv : validZ a.length es = true) (hl : (applyGo a 0 [] es).length ≤ 2048) :
    (leastZ a (applyZ a es).1).2.1 ≤ sizeZ es := by
  have htb := applyZ_text a es
  have hb : (applyZ a es).1 = applyGo a 0 [] es := by
    unfold applyZ
    rw [hta, hv]
    simp only [Bool.and_self, if_true]
    rw [if_neg (by omega)]
  rw [leastZ_size hta htb, hb, sizeZ_sum]
  unfold validZ at hv
  simp only [Bool.and_eq_true] at hv
  obtain ⟨s, h1, h2, h3, h4⟩ := kept es (-1) 0 hv.2 (Nat.zero_le _) (by omega)
  rw [List.drop_zero] at h1
  have := lcs_sup h1 h2
  omega
/-- The pairs of an alignment are pairs of one and the same character. -/
def mateP (a b : List Sym) (p : List (Nat × Nat)) : Prop := ∀ x y, (x, y) ∈ p → a[x]? = b[y]?
theorem enumP_mate {a b : List Sym} : ∀ (f i k : Nat) (p : List (Nat × Nat)), p ∈ enumP a b f i k → mateP a b p
  | 0, i, k, p, h => by
    simp [enumP] at h
    subst h
    intro x y hxy
    cases hxy
  | f + 1, i, k, p, h => by
    by_cases h0 : lcsM a b i k = 0
    · rw [enumP_zero h0] at h
      simp at h
      subst h
      intro x y hxy
      cases hxy
    · rw [enumP_succ h0] at h
      unfold rowsP rowP at h
      obtain ⟨x, _, h⟩ := List.mem_flatMap.1 h
      obtain ⟨y, _, h⟩ := List.mem_flatMap.1 h
      unfold blkP at h
      split at h
      · rename_i hc
        obtain ⟨q, hq, rfl⟩ := List.mem_map.1 h
        have ih := enumP_mate f _ _ q hq
        intro u v huv
        rcases List.mem_cons.1 huv with e | e
        · injection e with e1 e2
          subst e1 e2
          exact hc.1
        · exact ih u v e
      · cases h
theorem drop_take_one {l : List Sym} {i c : Nat} (hc : c ≤ i) (hi : i < l.length) : (l.drop c).take (i + 1 - c) = (l.drop c).take (i - c) ++ [l[i]] := by
  rw [show i + 1 - c = (i - c) + 1 from by omega, List.take_succ_eq_append_getElem (by rw [List.length_drop]; omega), List.getElem_drop]
  congr 2
  congr 1
  omega
theorem drop_part {l : List Sym} {k y : Nat} (hk : k ≤ y) (hy : y < l.length) : (l.drop k).take (y - k) ++ [l[y]] ++ l.drop (y + 1) = l.drop k := by
  rw [← drop_take_one hk hy]
  have h := List.take_append_drop (y + 1 - k) (l.drop k)
  rw [List.drop_drop, show k + (y + 1 - k) = y + 1 from by omega] at h
  exact h
theorem apply_edits {a b : List Sym} : ∀ (p : List (Nat × Nat)) (i k c : Nat) (out : List Sym), incP a.length b.length i k p → mateP a b p → c ≤ i →
    applyGo a c out (editsGo b i k (p ++ [(a.length, b.length)])) = out ++ (a.drop c).take (i - c) ++ b.drop k
  | [], i, k, c, out, hinc, _, hc => by
    obtain ⟨h1, h2⟩ := hinc
    rw [List.nil_append, editsGo, editsGo]
    split
    · rw [List.append_nil, applyGo, applyGo]
      simp only [Int.toNat_natCast]
      rw [show ((i : Int) + ((a.length : Int) - i)).toNat = a.length from by omega, List.drop_length, List.append_nil, List.take_of_length_le (i := b.length - k) (by simp)]
    · rename_i hno
      rw [List.append_nil, applyGo, show i = a.length from by omega, show k = b.length from by omega, List.drop_length, List.append_nil, List.take_of_length_le (by simp)]
  | (x, y) :: r, i, k, c, out, hinc, hm, hc => by
    obtain ⟨h1, h2, h3, h4, h5⟩ := hinc
    have hmr : mateP a b r := fun u v h => hm u v (List.mem_cons_of_mem _ h)
    have hxy : a[x] = b[y] := by
      have := hm x y (List.mem_cons_self ..)
      rw [List.getElem?_eq_getElem h3, List.getElem?_eq_getElem h4] at this
      injection this
    rw [List.cons_append, editsGo]
    split
    · rw [List.singleton_append, applyGo, apply_edits r (x + 1) (y + 1) _ _ h5 hmr (by show ((i : Int) + ((x : Int) - i)).toNat ≤ x + 1; omega)]
      simp only [Int.toNat_natCast]
      rw [show ((i : Int) + ((x : Int) - i)).toNat = x from by omega, drop_take_one (Nat.le_refl x) h3, Nat.sub_self, List.take_zero, List.nil_append, hxy]
      have := drop_part h2 h4
      simp only [List.append_assoc] at this ⊢
      rw [this]
    · rename_i hno
      have hx : i = x := by omega
      have hy : k = y := by omega
      subst hx hy
      rw [List.nil_append, apply_edits r (i + 1) (k + 1) c out h5 hmr (by omega), drop_take_one hc h3, hxy]
      have := drop_part (Nat.le_refl k) h4
      rw [Nat.sub_self, List.take_zero, List.nil_append] at this
      simp only [List.append_assoc] at this ⊢
      rw [this]
theorem edits_valid {a b : List Sym} (hg : b.all goodB = true) (hb : b.length ≤ 64) : ∀ (p : List (Nat × Nat)) (i k : Nat) (last : Int), incP a.length b.length i k p → last < i →
    validGo a.length last (editsGo b i k (p ++ [(a.length, b.length)])) = true
  | [], i, k, last, hinc, hl => by
    obtain ⟨h1, h2⟩ := hinc
    rw [List.nil_append, editsGo, editsGo]
    split
    · rw [List.append_nil, validGo, badE_false (by omega) (by omega) (by omega) (by omega) (by rw [List.length_take, List.length_drop]; omega) (all_good_take (all_good_drop hg _) _) (by rw [List.length_take, List.length_drop]; omega)]
      rfl
    · rfl
  | (x, y) :: r, i, k, last, hinc, hl => by
    obtain ⟨h1, h2, h3, h4, h5⟩ := hinc
    rw [List.cons_append, editsGo]
    split
    · rw [List.singleton_append, validGo, badE_false (by omega) (by omega) (by omega) (by omega) (by rw [List.length_take, List.length_drop]; omega) (all_good_take (all_good_drop hg _) _) (by rw [List.length_take, List.length_drop]; omega)]
      exact edits_valid hg hb r (x + 1) (y + 1) _ h5 (by simp only []; omega)
    · rw [List.nil_append]
      exact edits_valid hg hb r (x + 1) (y + 1) _ h5 (by omega)
theorem choice_leads {a b : List Sym} {p : List (Nat × Nat)} (hta : isTextB a = true) (htb : isTextB b = true) (hla : a.length ≤ 24) (hlb : b.length ≤ 64) (hp : p ∈ enumP a b a.length 0 0) : applyZ a (editsZ a b p) = (b, 0) := by
  have hinc := enumP_inc _ _ _ p (Nat.zero_le _) (Nat.zero_le _) hp
  have hlen := enumP_len _ _ _ p hp
  have h1 := apply_edits p 0 0 0 [] hinc (enumP_mate _ _ _ p hp) (Nat.le_refl 0)
  have h2 : validZ a.length (editsZ a b p) = true := by
    unfold validZ
    rw [show validGo (a.length : Int) (-1) (editsZ a b p) = true from edits_valid (isTextB_good htb) hlb p 0 0 (-1) hinc (by omega)]
    have := editsGo_len b (p ++ [(a.length, b.length)]) 0 0
    rw [List.length_append] at this
    simp only [List.length_cons, List.length_nil] at this
    simp only [Bool.and_true, decide_eq_true_eq]
    unfold editsZ
    omega
  simp only [Nat.sub_self, List.take_zero, List.append_nil, List.drop_zero, List.nil_append] at h1
  unfold applyZ
  rw [hta, h2]
  simp only [Bool.and_self, if_true]
  unfold editsZ
  rw [h1, if_neg (by omega)]
theorem editsGo_pos {n m : Nat} (b : List Sym) : ∀ (p : List (Nat × Nat)) (i k : Nat) (e : Edit), incP n m i k p → e ∈ editsGo b i k (p ++ [(n, m)]) → (i : Int) ≤ e.pos
  | [], i, k, e, _, h => by
    rw [List.nil_append, editsGo, editsGo, List.append_nil] at h
    split at h
    · have := List.mem_singleton.1 h
      rw [this]
      exact Int.le_refl _
    · cases h
  | (x, y) :: r, i, k, e, hinc, h => by
    obtain ⟨h1, h2, h3, h4, h5⟩ := hinc
    rw [List.cons_append, editsGo] at h
    rcases List.mem_append.1 h with h | h
    · split at h
      · have := List.mem_singleton.1 h
        rw [this]
        exact Int.le_refl _
      · cases h
    · have := editsGo_pos b r (x + 1) (y + 1) e h5 h
      omega
/-- An edit at place i cannot head a list of edits that begin behind i. -/
theorem head_no {n m : Nat} {b : List Sym} {r : List (Nat × Nat)} {i x y : Nat} {e : Edit} {es : List Edit} (h5 : incP n m (x + 1) (y + 1) r) (hx : i ≤ x) (he : e.pos = (i : Int)) (h : e :: es = editsGo b (x + 1) (y + 1) (r ++ [(n, m)])) : False := by
  have := editsGo_pos b r (x + 1) (y + 1) e h5 (by rw [← h]; exact List.mem_cons_self ..)
  omega
theorem edits_inj {n m : Nat} {b : List Sym} (hb : b.length = m) : ∀ (p q : List (Nat × Nat)) (i k : Nat), incP n m i k p → incP n m i k q → editsGo b i k (p ++ [(n, m)]) = editsGo b i k (q ++ [(n, m)]) → p = q
  | [], [], _, _, _, _, _ => rfl
  | [], (x, y) :: r, i, k, hp, hq, h => by
    obtain ⟨h1, h2, h3, h4, h5⟩ := hq
    rw [List.nil_append, editsGo, editsGo, List.append_nil, if_pos (by omega), List.cons_append, editsGo] at h
    split at h
    · rw [List.singleton_append] at h
      injection h with h6 _
      injection h6 with _ h7 _
      omega
    · rw [List.nil_append] at h
      exact (head_no h5 h1 rfl h).elim
  | (x, y) :: r, [], i, k, hp, hq, h => by
    obtain ⟨h1, h2, h3, h4, h5⟩ := hp
    have h := h.symm
    rw [List.nil_append, editsGo, editsGo, List.append_nil, if_pos (by omega), List.cons_append, editsGo] at h
    split at h
    · rw [List.singleton_append] at h
      injection h with h6 _
      injection h6 with _ h7 _
      omega
    · rw [List.nil_append] at h
      exact (head_no h5 h1 rfl h).elim
  | (x, y) :: r, (x', y') :: r', i, k, hp, hq, h => by
    obtain ⟨h1, h2, h3, h4, h5⟩ := hp
    obtain ⟨g1, g2, g3, g4, g5⟩ := hq
    rw [List.cons_append, List.cons_append, editsGo, editsGo] at h
    split at h
    · split at h
      · rw [List.singleton_append, List.singleton_append] at h
        injection h with h6 h7
        injection h6 with _ h8 h9
        have hx : x = x' := by omega
        have h10 := congrArg List.length h9
        rw [List.length_take, List.length_take, List.length_drop] at h10
        have hy : y = y' := by omega
        subst hx hy
        rw [edits_inj hb r r' (x + 1) (y + 1) h5 g5 h7]
      · rw [List.singleton_append, List.nil_append] at h
        exact (head_no g5 g1 rfl h).elim
    · split at h
      · rw [List.singleton_append, List.nil_append] at h
        exact (head_no h5 h1 rfl h.symm).elim
      · rw [List.nil_append, List.nil_append] at h
        have hx : x = x' := by omega
        have hy : y = y' := by omega
        subst hx hy
        rw [edits_inj hb r r' (x + 1) (y + 1) h5 g5 h]
theorem enumP_nodup {a b : List Sym} : ∀ (f i k : Nat), (enumP a b f i k).Pairwise (· ≠ ·)
  | 0, i, k => by simp [enumP]
  | f + 1, i, k => by
    by_cases h0 : lcsM a b i k = 0
    · rw [enumP_zero h0]; simp
    · rw [enumP_succ h0]
      unfold rowsP rowP
      have hblk : ∀ x y p, p ∈ blkP a b f i k x y → ∃ q, p = (x, y) :: q := fun x y p hp => by
        unfold blkP at hp
        split at hp
        · obtain ⟨q, _, rfl⟩ := List.mem_map.1 hp
          exact ⟨q, rfl⟩
        · cases hp
      refine List.pairwise_flatMap.2 ⟨fun x _ => List.pairwise_flatMap.2 ⟨fun y _ => ?_, ?_⟩, ?_⟩
      · unfold blkP
        split
        · refine List.pairwise_map.2 ((enumP_nodup f (x + 1) (y + 1)).imp ?_)
          intro p q hpq e
          injection e with _ e
          exact hpq e
        · exact List.Pairwise.nil
      · refine (List.pairwise_lt_range' (s := k) (n := b.length - k)).imp ?_
        intro y y' hy p hp q hq e
        obtain ⟨p', rfl⟩ := hblk _ _ _ hp
        obtain ⟨q', rfl⟩ := hblk _ _ _ hq
        injection e with e _
        injection e with _ e
        omega
      · refine (List.pairwise_lt_range' (s := i) (n := a.length - i)).imp ?_
        intro x x' hx p hp q hq e
        obtain ⟨y, _, hp⟩ := List.mem_flatMap.1 hp
        obtain ⟨y', _, hq⟩ := List.mem_flatMap.1 hq
        obtain ⟨p', rfl⟩ := hblk _ _ _ hp
        obtain ⟨q', rfl⟩ := hblk _ _ _ hq
        injection e with e _
        injection e with e _
        omega
theorem choicesZ_eq {a b : List Sym} {n : Nat} (hta : isTextB a = true) (htb : isTextB b = true) (h1 : 1 ≤ n) (h2 : n ≤ 64) : choicesZ a b n = ((enumP a b a.length 0 0).take n).map (editsZ a b) := by
  unfold choicesZ
  rw [hta, htb, decide_eq_true (by omega), decide_eq_true (by omega)]
  rfl
/-- The choices are all different. -/
theorem choices_diff {a b : List Sym} {n : Nat} (hta : isTextB a = true) (htb : isTextB b = true) (h1 : 1 ≤ n) (h2 : n ≤ 64) {L : List (List Edit)} (hL : L = choicesZ a b n) {i j : Nat} (hij : i < j) (hj : j < L.length) :
    L[i] ≠ L[j] := by
  have he := hL.trans (choicesZ_eq hta htb h1 h2)
  have hnd := (enumP_nodup (a := a) (b := b) a.length 0 0).sublist (List.take_sublist n _)
  have hmem : ∀ p, p ∈ (enumP a b a.length 0 0).take n → incP a.length b.length 0 0 p := fun p hp => enumP_inc _ _ _ p (Nat.zero_le _) (Nat.zero_le _) (List.mem_of_mem_take hp)
  clear hL
  generalize (enumP a b a.length 0 0).take n = M at *
  subst he
  rw [List.length_map] at hj
  rw [List.getElem_map, List.getElem_map]
  intro e
  have hlen : b.length = b.length := rfl
  have := edits_inj hlen _ _ 0 0 (hmem _ (List.getElem_mem _)) (hmem _ (List.getElem_mem hj)) e
  exact (List.pairwise_iff_getElem.1 hnd) i j (by omega) hj hij this
theorem choices_several {a b : List Sym} {n : Nat} (hta : isTextB a = true) (htb : isTextB b = true) (h1 : 2 ≤ n) (h2 : n ≤ 64) :
    (choicesZ a b n).length ≠ 0 ∧ decide (1 < (choicesZ a b n).length) = (leastZ a b).2.2 ∧ (choicesZ a b n).headD [] = (leastZ a b).1 := by
  have he := choicesZ_eq hta htb (n := n) (by omega) h2
  have he2 : choicesZ a b 2 = _ := choicesZ_eq hta htb (n := 2) (by omega) (by omega)
  obtain ⟨p, hp⟩ := enumP_ne (a := a) (b := b) a.length 0 0 (by omega)
  unfold leastZ
  rw [he, he2]
  cases hE : enumP a b a.length 0 0 with
  | nil => rw [hE] at hp; cases hp
  | cons q r =>
    obtain ⟨n', rfl⟩ : ∃ n', n = n' + 2 := ⟨n - 2, by omega⟩
    refine ⟨by simp, ?_, by simp⟩
    simp only [List.length_map, List.length_take, List.length_cons]
    rw [decide_eq_decide]
    omega
theorem choices_size {a b : List Sym} {n : Nat} (hta : isTextB a = true) (htb : isTextB b = true) (h1 : 1 ≤ n) (h2 : n ≤ 64) {es : List Edit} (h : es ∈ choicesZ a b n) : sizeZ es = (leastZ a b).2.1 := by
  rw [choicesZ_eq hta htb h1 h2] at h
  obtain ⟨p, hp, rfl⟩ := List.mem_map.1 h
  have hp := List.mem_of_mem_take hp
  rw [editsZ_size (enumP_inc _ _ _ p (Nat.zero_le _) (Nat.zero_le _) hp), enumP_card _ _ _ p (by omega) hp, leastZ_size hta htb]
  rfl
theorem choices_lead {a b : List Sym} {n : Nat} (hta : isTextB a = true) (htb : isTextB b = true) (h1 : 1 ≤ n) (h2 : n ≤ 64) (hla : a.length ≤ 24) (hlb : b.length ≤ 64) {es : List Edit} (h : es ∈ choicesZ a b n) : applyZ a es = (b, 0) := by
  rw [choicesZ_eq hta htb h1 h2] at h
  obtain ⟨p, hp, rfl⟩ := List.mem_map.1 h
  exact choice_leads hta htb hla hlb (List.mem_of_mem_take hp)
end Go.Proofs.Ythhjnafhpmgceaa
