/- Plain: one author's edits, moved, after the other's: the merged text. -/
import Derived.Test.YthdafajhohdkoaaMgW
import Derived.Test.YthdafajhohdkoaaMgO
namespace Go.Proofs.Ythdafajhohdkoaa
open Go.RowKit Go.Lab
theorem applyGo_out (l : List Sym) : ∀ (es : List Edit) (p : Nat) (out : List Sym), applyGo l p out es = out ++ applyGo l p [] es
  | [], p, out => by simp [applyGo]
  | e :: es, p, out => by
    rw [applyGo, applyGo, applyGo_out l es _ (out ++ _ ++ _), applyGo_out l es _ ([] ++ _ ++ _)]
    simp
theorem applyGo_cons (l : List Sym) (e : Edit) (es : List Edit) (p : Nat) : applyGo l p [] (e :: es) = (l.drop p).take (e.pos.toNat - p) ++ e.ins ++ applyGo l (e.pos + e.del).toNat [] es := by
  rw [applyGo, applyGo_out]
  simp
/-- The text up to a place before all edits. -/
theorem applyGo_ahead {l : List Sym} {es : List Edit} {p k : Nat} (h : ∀ e ∈ es, ((p + k : Nat) : Int) ≤ e.pos) : applyGo l p [] es = (l.drop p).take k ++ applyGo l (p + k) [] es := by
  cases es with
  | nil =>
    simp only [applyGo, List.nil_append]
    rw [← List.drop_drop, List.take_append_drop]
  | cons e es =>
    have he := h e (List.mem_cons_self ..)
    rw [applyGo_cons, applyGo_cons]
    have h1 : e.pos.toNat - p = k + (e.pos.toNat - (p + k)) := by omega
    rw [h1, List.take_add, List.drop_drop]
    simp
theorem take_len {l : List Sym} {p k : Nat} (h : p + k ≤ l.length) : ((l.drop p).take k).length = k := by simp; omega
theorem offE_low (x : Int) : ∀ (lb : List Edit) (p : Int), SepE lb → (∀ y ∈ lb, p ≤ y.pos ∧ 0 ≤ y.del) → p ≤ x → p - x ≤ offE x lb
  | [], p, _, _, h => by rw [offE]; omega
  | y :: l, p, hs, hp, h => by
    unfold SepE at hs
    rw [List.pairwise_cons] at hs
    have hy := hp y (List.mem_cons_self ..)
    rw [offE]
    split
    · rename_i hc
      have := offE_low x l (y.pos + y.del) hs.2 (fun z hz => ⟨by have := hs.1 z hz; omega, (hp z (List.mem_cons_of_mem _ hz)).2⟩) (by omega)
      omega
    · have := offE_low x l p hs.2 (fun z hz => hp z (List.mem_cons_of_mem _ hz)) h
      omega
theorem offE_zero {x : Int} : ∀ {lb : List Edit}, (∀ y ∈ lb, x ≤ y.pos + y.del) → offE x lb = 0
  | [], _ => rfl
  | y :: l, h => by
    have := h y (List.mem_cons_self ..)
    rw [offE, if_neg (by omega), offE_zero (fun z hz => h z (List.mem_cons_of_mem _ hz))]
    rfl
/-- An edit that says something, with a short text. -/
def FineE (e : Edit) : Prop := e.ins.length ≤ 64 ∧ e.ins.all goodB = true ∧ (e.del ≠ 0 ∨ e.ins.length ≠ 0)
def mv (sh : Edit → Int) (x : Edit) : Edit := ⟨sh x, x.del, x.ins⟩
theorem after_go (base y : List Sym) (q0 : Edit → Bool) (sh : Edit → Int) : ∀ (L : List Edit) (p q : Nat) (last : Int), SepE L → (∀ e ∈ L, InN base.length e) → (∀ e ∈ L, (p : Int) ≤ e.pos) → p ≤ base.length → q ≤ y.length →
    y.drop q = applyGo base p [] (L.filter q0) → (∀ x ∈ L, q0 x = false → sh x = x.pos - p + q + offE x.pos (L.filter q0)) → (∀ x ∈ L, q0 x = false → FineE x) → (∀ x ∈ L, q0 x = false → last < sh x) →
    applyGo y q [] ((L.filter (fun x => !q0 x)).map (mv sh)) = applyGo base p [] L ∧ validGo y.length last ((L.filter (fun x => !q0 x)).map (mv sh)) = true
  | [], p, q, last, _, _, _, _, _, hd, _, _, _ => by
    simp only [List.filter_nil, List.map_nil, applyGo, List.nil_append] at hd ⊢
    exact ⟨hd, rfl⟩
  | x :: L, p, q, last, hs, hi, hp, hpn, hq, hd, hsh, hf, hla => by
    have hs0 := hs
    unfold SepE at hs
    rw [List.pairwise_cons] at hs
    obtain ⟨i1, i2, i3⟩ := hi x (List.mem_cons_self ..)
    have hpx := hp x (List.mem_cons_self ..)
    have hLp : ∀ e ∈ L, ((x.pos + x.del).toNat : Int) ≤ e.pos := fun e he => by have := hs.1 e he; omega
    have hend : (x.pos + x.del).toNat ≤ base.length := by omega
    cases hqx : q0 x
    · -- of the one who is moved
      have e1 : (x :: L).filter q0 = L.filter q0 := by rw [List.filter_cons_of_neg (by simp [hqx])]
      have e2 : (x :: L).filter (fun x => !q0 x) = x :: L.filter (fun x => !q0 x) := by rw [List.filter_cons_of_pos (by simp [hqx])]
      rw [e1] at hd hsh
      have hlb : ∀ z ∈ L.filter q0, x.pos + x.del < z.pos ∧ 0 ≤ z.del := fun z hz => ⟨hs.1 z (List.mem_filter.1 hz).1, (hi z (List.mem_cons_of_mem _ (List.mem_filter.1 hz).1)).2.1⟩
      have hoff : offE x.pos (L.filter q0) = 0 := offE_zero (fun z hz => by have := hlb z hz; omega)
      have hsx := hsh x (List.mem_cons_self ..) hqx
      rw [hoff] at hsx
      have hd2 := hd
      rw [applyGo_ahead (k := (x.pos + x.del).toNat - p) (fun z hz => by have := hlb z hz; omega)] at hd2
      have hk : p + ((x.pos + x.del).toNat - p) = (x.pos + x.del).toNat := by omega
      rw [hk] at hd2
      have hlen := congrArg List.length hd2
      rw [List.length_append, take_len (by omega), List.length_drop] at hlen
      have hq2 : q + ((x.pos + x.del).toNat - p) ≤ y.length := by omega
      have hd3 : y.drop (q + ((x.pos + x.del).toNat - p)) = applyGo base (x.pos + x.del).toNat [] (L.filter q0) := by
        rw [← List.drop_drop, hd2, List.drop_append_of_le_length (by rw [take_len (by omega)]; exact Nat.le_refl _), List.drop_of_length_le (by rw [take_len (by omega)]; exact Nat.le_refl _), List.nil_append]
      have hlast : ∀ z ∈ L, q0 z = false → ((q + ((x.pos + x.del).toNat - p) : Nat) : Int) < sh z := fun z hz hqz => by
        have h1 := hsh z (List.mem_cons_of_mem _ hz) hqz
        have h2 := offE_low z.pos (L.filter q0) (x.pos + x.del + 1) (hs.2.filter _) (fun e he => by have := hlb e he; omega) (by have := hs.1 z hz; omega)
        have h3 := hs.1 z hz
        omega
      obtain ⟨r1, r2⟩ := after_go base y q0 sh L (x.pos + x.del).toNat (q + ((x.pos + x.del).toNat - p)) ((q + ((x.pos + x.del).toNat - p) : Nat) : Int) hs.2 (fun e he => hi e (List.mem_cons_of_mem _ he)) hLp hend hq2 hd3
        (fun z hz hqz => by have := hsh z (List.mem_cons_of_mem _ hz) hqz; omega) (fun z hz => hf z (List.mem_cons_of_mem _ hz)) hlast
      have hfx := hf x (List.mem_cons_self ..) hqx
      have hlx := hla x (List.mem_cons_self ..) hqx
      rw [e2, List.map_cons]
      have hpos : (mv sh x).pos = sh x := rfl
      have hdel : (mv sh x).del = x.del := rfl
      have hins : (mv sh x).ins = x.ins := rfl
      refine ⟨?_, ?_⟩
      · rw [applyGo_cons, applyGo_cons, hpos, hdel, hins, show (sh x + x.del).toNat = q + ((x.pos + x.del).toNat - p) by omega, r1, hd2, show (sh x).toNat - q = x.pos.toNat - p by omega]
        rw [List.take_append_of_le_length (by rw [take_len (by omega)]; omega), List.take_take, Nat.min_eq_left (by omega)]
      · rw [validGo, hpos, hdel]
        have hb : badE y.length last (mv sh x) = false := badE_false (by omega) (by omega) i2 (by omega) hfx.1 hfx.2.1 hfx.2.2
        rw [hb, show sh x + x.del = ((q + ((x.pos + x.del).toNat - p) : Nat) : Int) by omega]
        exact r2
    · -- of the other
      have e1 : (x :: L).filter q0 = x :: L.filter q0 := by rw [List.filter_cons_of_pos hqx]
      have e2 : (x :: L).filter (fun x => !q0 x) = L.filter (fun x => !q0 x) := by rw [List.filter_cons_of_neg (by simp [hqx])]
      rw [e1] at hd hsh
      rw [applyGo_cons] at hd
      have hseg : ((base.drop p).take (x.pos.toNat - p)).length = x.pos.toNat - p := take_len (by omega)
      have hlen := congrArg List.length hd
      rw [List.length_append, List.length_append, hseg, List.length_drop] at hlen
      have hq2 : q + ((x.pos.toNat - p) + x.ins.length) ≤ y.length := by omega
      have hpre : (y.drop q).take ((x.pos.toNat - p) + x.ins.length) = (base.drop p).take (x.pos.toNat - p) ++ x.ins := by
        rw [hd, List.take_append_of_le_length (by rw [List.length_append, hseg]; exact Nat.le_refl _), List.take_of_length_le (by rw [List.length_append, hseg]; exact Nat.le_refl _)]
      have hd3 : y.drop (q + ((x.pos.toNat - p) + x.ins.length)) = applyGo base (x.pos + x.del).toNat [] (L.filter q0) := by
        rw [← List.drop_drop, hd, List.drop_append_of_le_length (by rw [List.length_append, hseg]; exact Nat.le_refl _), List.drop_of_length_le (by rw [List.length_append, hseg]; exact Nat.le_refl _), List.nil_append]
      have hshL : ∀ z ∈ L, q0 z = false → sh z = z.pos - ((x.pos + x.del).toNat : Nat) + ((q + ((x.pos.toNat - p) + x.ins.length) : Nat) : Int) + offE z.pos (L.filter q0) := fun z hz hqz => by
        have h1 := hsh z (List.mem_cons_of_mem _ hz) hqz
        have h3 := hs.1 z hz
        rw [offE, if_pos h3] at h1
        omega
      obtain ⟨r1, r2⟩ := after_go base y q0 sh L (x.pos + x.del).toNat (q + ((x.pos.toNat - p) + x.ins.length)) last hs.2 (fun e he => hi e (List.mem_cons_of_mem _ he)) hLp hend hq2 hd3 hshL
        (fun z hz => hf z (List.mem_cons_of_mem _ hz)) (fun z hz => hla z (List.mem_cons_of_mem _ hz))
      rw [e2]
      refine ⟨?_, r2⟩
      have hah : ∀ e ∈ (L.filter (fun x => !q0 x)).map (mv sh), ((q + ((x.pos.toNat - p) + x.ins.length) : Nat) : Int) ≤ e.pos := fun e he => by
        obtain ⟨z, hz, rfl⟩ := List.mem_map.1 he
        obtain ⟨hz1, hz2⟩ := List.mem_filter.1 hz
        have hqz : q0 z = false := by simpa using hz2
        have h1 := hshL z hz1 hqz
        have h3 := hs.1 z hz1
        have h2 := offE_low z.pos (L.filter q0) (x.pos + x.del) (hs.2.filter _) (fun e he => ⟨by have := hs.1 e (List.mem_filter.1 he).1; omega, (hi e (List.mem_cons_of_mem _ (List.mem_filter.1 he).1)).2.1⟩) (by omega)
        show _ ≤ sh z
        omega
      rw [applyGo_ahead hah, hpre, r1, applyGo_cons]
theorem badE_mono {n m last : Int} {e : Edit} (h : n ≤ m) (hb : badE n last e = false) : badE m last e = false := by
  unfold badE at hb ⊢
  simp only [Bool.or_eq_false_iff, decide_eq_false_iff_not, Bool.and_eq_false_iff, Bool.not_eq_false'] at hb ⊢
  obtain ⟨⟨⟨⟨⟨⟨h1, h2⟩, h3⟩, h4⟩, h5⟩, h6⟩, h7⟩ := hb
  exact ⟨⟨⟨⟨⟨⟨h1, by omega⟩, h3⟩, by omega⟩, h5⟩, h6⟩, h7⟩
theorem validGo_mono {n m : Int} (h : n ≤ m) : ∀ (l : List Edit) (last : Int), validGo n last l = true → validGo m last l = true
  | [], _, _ => rfl
  | x :: l, last, hv => by
    rw [validGo] at hv ⊢
    split at hv
    · cases hv
    · rename_i hb
      rw [if_neg (by rw [badE_mono h (by simpa using hb)]; simp)]
      exact validGo_mono h l _ hv
theorem validZ_mono {n m : Int} (h : n ≤ m) {l : List Edit} (hv : validZ n l = true) : validZ m l = true := by
  unfold validZ at hv ⊢
  simp only [Bool.and_eq_true] at hv ⊢
  exact ⟨hv.1, validGo_mono h l _ hv.2⟩
theorem validGo_fine {n : Int} : ∀ (l : List Edit) (last : Int), validGo n last l = true → ∀ e ∈ l, FineE e
  | [], _, _ => fun _ h => by cases h
  | x :: l, last, hv => by
    rw [validGo] at hv
    split at hv
    · cases hv
    · rename_i hb
      simp only [badE, Bool.not_eq_true, Bool.or_eq_false_iff, decide_eq_false_iff_not, Bool.and_eq_false_iff, Bool.not_eq_false'] at hb
      obtain ⟨⟨⟨⟨⟨⟨h1, h2⟩, h3⟩, h4⟩, h5⟩, h6⟩, h7⟩ := hb
      intro e he
      rcases List.mem_cons.1 he with rfl | he
      · exact ⟨by omega, h6, by omega⟩
      · exact validGo_fine l _ hv e he
theorem validZ_fine {n : Int} {l : List Edit} (h : validZ n l = true) : ∀ e ∈ l, FineE e := by
  unfold validZ at h
  simp only [Bool.and_eq_true] at h
  exact validGo_fine l _ h.2
theorem all_sub {l : List Sym} (h : l.all goodB = true) (p k : Nat) : ((l.drop p).take k).all goodB = true := by
  rw [List.all_eq_true] at h ⊢
  exact fun x hx => h x (List.mem_of_mem_drop (List.mem_of_mem_take hx))
theorem applyGo_good {l : List Sym} (h : l.all goodB = true) : ∀ (es : List Edit) (p : Nat), (∀ e ∈ es, FineE e) → (applyGo l p [] es).all goodB = true
  | [], p, _ => by
    rw [applyGo, List.nil_append]
    rw [List.all_eq_true] at h ⊢
    exact fun x hx => h x (List.mem_of_mem_drop hx)
  | e :: es, p, hf => by
    rw [applyGo_cons, List.all_append, List.all_append, all_sub h, (hf e (List.mem_cons_self ..)).2.1, applyGo_good h es _ (fun x hx => hf x (List.mem_cons_of_mem _ hx))]
    rfl
theorem isTextB_all {l : List Sym} (h : isTextB l = true) : l.all goodB = true := by
  unfold isTextB at h
  simp only [Bool.and_eq_true] at h
  exact h.2
theorem filter_dif {l : List Edit} (p : Edit → Bool) (h : DifE l) : DifE (l.filter p) := h.filter _
theorem filter_asc {l : List Edit} (p : Edit → Bool) (h : AscE l) : AscE (l.filter p) := h.filter _
theorem valid_dif {n : Int} {a : List Edit} (ha : validZ n a = true) : DifE a := by
  obtain ⟨h1, h2⟩ := validZ_sep ha
  unfold DifE
  refine List.Pairwise.imp_of_mem (fun {x y} hx hy hxy => ?_) h1
  have := h2 x hx
  omega
/-- What the law After says. -/
theorem after_law {base : List Sym} {a b : List Edit} (ht : isTextB base = true) (hl : base.length ≤ 100) (ha : validZ base.length a = true) (hb : validZ base.length b = true) (sa : Small a) (sb : Small b) (hc : clashP a b = []) :
    (mergeZ base a b).2.2 = 0 ∧ (applyZ base b).2 = 0 ∧ (moveZ a b).2 = 0 ∧ (mergeZ (applyZ base b).1 (moveZ a b).1 []).2.2 = 0 ∧ (mergeZ (applyZ base b).1 (moveZ a b).1 []).1 = (mergeZ base a b).1 := by
  have hm := merge_small ht (by omega) ha hb sa sb hc
  have he := end_apply (validZ_sep hb).1 (validZ_inN hb)
  have hib : insLen b ≤ 96 := by
    have h1 := insLen_le sb.ins
    have h2 : b.length * 24 ≤ 4 * 24 := Nat.mul_le_mul_right 24 sb.len
    omega
  have happ : applyZ base b = (applyGo base 0 [] b, 0) := by
    unfold applyZ
    rw [ht, hb, if_pos (by decide), if_neg (by rw [← he.1]; omega)]
  have hmv : moveZ a b = ((a.filter fun x => !memB b x).map (shiftE b), 0) := by
    unfold moveZ
    rw [validZ_mono (by omega : (base.length : Int) ≤ 2048) ha, validZ_mono (by omega : (base.length : Int) ≤ 2048) hb, if_neg (by decide), if_neg (by simp [hc])]
  have hL1 : (srtE (bothE a b)).filter (memB b) = b := asc_ext _ _ (fun x => by
      rw [List.mem_filter, (srtE_perm _).mem_iff, mem_bothE, memB_iff]
      exact ⟨fun h => h.2, fun h => ⟨.inr h, h⟩⟩) (filter_dif _ (srt_dif ha hb hc)) (valid_dif hb) (filter_asc _ (srtE_asc _)) (valid_asc hb)
  have hL2 : (srtE (bothE a b)).filter (fun x => !memB b x) = a.filter (fun x => !memB b x) := asc_ext _ _ (fun x => by
      rw [List.mem_filter, List.mem_filter, (srtE_perm _).mem_iff, mem_bothE]
      constructor
      · rintro ⟨h1 | h1, h2⟩
        · exact ⟨h1, h2⟩
        · rw [memB_iff.2 h1] at h2; cases h2
      · rintro ⟨h1, h2⟩
        exact ⟨.inl h1, h2⟩) (filter_dif _ (srt_dif ha hb hc)) (filter_dif _ (valid_dif ha)) (filter_asc _ (srtE_asc _)) (filter_asc _ (valid_asc ha))
  have hsep := srt_sep ha hb hc
  have hin := bothE_in ha hb
  have hfine : ∀ x ∈ srtE (bothE a b), memB b x = false → FineE x := fun x hx hq => by
    rcases mem_bothE.1 ((srtE_perm _).mem_iff.1 hx) with h | h
    · exact validZ_fine ha x h
    · rw [memB_iff.2 h] at hq; cases hq
  have hlow : ∀ x ∈ srtE (bothE a b), memB b x = false → (-1 : Int) < x.pos + offE x.pos b := fun x hx hq => by
    have h1 := (hin x hx).1
    have h2 := offE_low x.pos b 0 (validZ_sep hb).1 (fun y hy => (validZ_sep hb).2 y hy) h1
    omega
  obtain ⟨r1, r2⟩ := after_go base (applyGo base 0 [] b) (memB b) (fun x => x.pos + offE x.pos b) (srtE (bothE a b)) 0 0 (-1) hsep hin (fun e he => by have := (hin e he).1; simpa using this) (Nat.zero_le _) (Nat.zero_le _)
    (by rw [hL1, List.drop_zero]) (fun x hx hq => by rw [hL1]; simp) hfine hlow
  rw [hL2] at r1 r2
  have hmv2 : (a.filter (fun x => !memB b x)).map (mv fun x => x.pos + offE x.pos b) = (a.filter fun x => !memB b x).map (shiftE b) := rfl
  rw [hmv2] at r1 r2
  have hlenm : ((a.filter fun x => !memB b x).map (shiftE b)).length ≤ 4 := by
    rw [List.length_map]
    exact Nat.le_trans (List.length_filter_le _ _) sa.len
  have hsm : Small ((a.filter fun x => !memB b x).map (shiftE b)) := ⟨hlenm, fun e he => by
    obtain ⟨z, hz, rfl⟩ := List.mem_map.1 he
    exact sa.ins z (List.mem_filter.1 hz).1⟩
  have hvm : validZ (applyGo base 0 [] b).length ((a.filter fun x => !memB b x).map (shiftE b)) = true := by
    unfold validZ
    rw [r2, decide_eq_true (by omega)]
    rfl
  have hy : isTextB (applyGo base 0 [] b) = true := by
    unfold isTextB
    rw [applyGo_good (isTextB_all ht) b 0 (validZ_fine hb), decide_eq_true (by rw [← he.1]; omega)]
    rfl
  have hz := merge_small hy (by rw [← he.1]; omega) hvm (validZ_nil _) hsm small_nil (clashP_none _)
  rw [srt_of_mem hvm (validZ_nil base.length) (clashP_none _) (fun x hx => by cases hx)] at hz
  have hze := end_apply (validZ_sep hvm).1 (validZ_inN hvm)
  rw [hm, happ, hmv]
  refine ⟨rfl, rfl, rfl, ?_, ?_⟩
  · rw [hz]
  · rw [hz]
    show (endS _ _).out = (endS _ _).out
    rw [hze.1, r1, (end_apply hsep hin).1]
end Go.Proofs.Ythdafajhohdkoaa
