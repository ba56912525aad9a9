/- Plain: the order of the authors does not matter; edits of one author alone; how long the merged text is. -/
import Derived.Test.YthdafajhohdkoaaMgN
import Derived.Test.YthdafajhohdkoaaRefC
import Derived.Test.YthdafajhohdkoaaLiftD
namespace Go.Proofs.Ythdafajhohdkoaa
open Go.RowKit Go.Lab
theorem stepO_good {out : List Sym} {lang n : Int} (h : out.all goodB = true) (h0 : 0 ≤ lang) (h1 : lang ≤ 1) : (stepO out lang n).all goodB = true := by
  have hl := langN_rng (n := n) h0 h1
  have hc := charN_rng n
  have hg : ∀ c : Int, 32 ≤ c → c ≤ 126 → goodB ⟨langN lang n, c⟩ = true := fun c h2 h3 => by simp [goodB, writtenB, hl, h2, h3]
  have hw : ∀ c ∈ bytesL (wordB n), 32 ≤ c ∧ c ≤ 126 := by
    have hall : ∀ m : Fin 7, ∀ c ∈ bytesL (words7.getD m.val ⟨#[]⟩), 32 ≤ c ∧ c ≤ 126 := by decide
    exact hall ⟨(n % 7).toNat, by omega⟩
  unfold stepO addW
  rw [List.all_eq_true] at h
  split
  all_goals
    rw [List.all_eq_true]
    intro s hs
    simp only [List.mem_append, List.mem_singleton, List.mem_map] at hs
  · rcases hs with (hs | rfl) | ⟨c, hc2, rfl⟩
    · exact h s hs
    · exact hg _ hc.1 hc.2
    · have := hw c (List.mem_of_mem_take hc2)
      exact hg _ this.1 this.2
  · rcases hs with hs | rfl
    · exact h s hs
    · exact hg _ hc.1 hc.2
theorem symsRun_good : ∀ (l : List Int) (out : List Sym) (lang : Int), out.all goodB = true → 0 ≤ lang → lang ≤ 1 → (symsRun l out lang).all goodB = true
  | [], out, _, h, _, _ => h
  | x :: xs, out, lang, h, h0, h1 => by
    rw [symsRun]
    split
    · exact h
    · have := langN_rng (n := aroundZ x 240) h0 h1
      exact symsRun_good xs _ _ (stepO_good h h0 h1) this.1 this.2
theorem symsZ_good (l : List Int) : (symsZ l).all goodB = true := symsRun_good l [] 0 (by simp) (by omega) (by omega)
theorem symsZ_text (l : List Int) : isTextB (symsZ l) = true := by
  unfold isTextB
  have := symsZ_len l
  rw [symsZ_good, decide_eq_true (by omega)]
  rfl
theorem clashRow_all {x : Edit} {i : Nat} : ∀ {b : List Edit} {k : Nat}, (∀ y ∈ b, clashB x y = false) → clashRow x i b k = []
  | [], _, _ => rfl
  | z :: b, k, h => by
    rw [clashRow, h z (List.mem_cons_self ..), clashRow_all (fun y hy => h y (List.mem_cons_of_mem _ hy))]
    rfl
theorem clashGo_all {b : List Edit} : ∀ {a : List Edit} {i : Nat}, (∀ x ∈ a, ∀ y ∈ b, clashB x y = false) → clashGo b a i = []
  | [], _, _ => rfl
  | z :: a, i, h => by
    rw [clashGo, clashRow_all (h z (List.mem_cons_self ..)), clashGo_all (fun x hx => h x (List.mem_cons_of_mem _ hx))]
    rfl
theorem clashP_iff {a b : List Edit} : clashP a b = [] ↔ ∀ x ∈ a, ∀ y ∈ b, clashB x y = false := ⟨clashP_nil, clashGo_all⟩
theorem clashB_symm (x y : Edit) : clashB x y = clashB y x := by
  unfold clashB
  rw [show decide (x = y) = decide (y = x) from by rw [decide_eq_decide]; exact eq_comm, Bool.and_assoc, Bool.and_assoc, Bool.and_comm (decide (x.pos ≤ y.pos + y.del))]
theorem clashP_symm {a b : List Edit} (h : clashP a b = []) : clashP b a = [] := clashP_iff.2 (fun x hx y hy => by rw [clashB_symm]; exact clashP_nil h y hy x hx)
theorem clashP_none (a : List Edit) : clashP a [] = [] := clashP_iff.2 (fun _ _ _ h => by cases h)
theorem clashP_self {n : Int} {a : List Edit} (ha : validZ n a = true) : clashP a a = [] := by
  obtain ⟨h1, h2⟩ := validZ_sep ha
  refine clashP_iff.2 (fun x hx y hy => ?_)
  unfold clashB
  by_cases e : x = y
  · simp [e]
  · have hp : ∀ l : List Edit, SepE l → (∀ e ∈ l, 0 ≤ e.pos ∧ 0 ≤ e.del) → ∀ x ∈ l, ∀ y ∈ l, x = y ∨ x.pos + x.del < y.pos ∨ y.pos + y.del < x.pos := by
      intro l
      induction l with
      | nil => intro _ _ x hx; cases hx
      | cons z l ih =>
        intro hs hk x hx y hy
        unfold SepE at hs
        rw [List.pairwise_cons] at hs
        rcases List.mem_cons.1 hx with hx' | hx' <;> rcases List.mem_cons.1 hy with hy' | hy'
        · exact .inl (hx'.trans hy'.symm)
        · rw [hx']; exact .inr (.inl (hs.1 y hy'))
        · rw [hy']; exact .inr (.inr (hs.1 x hx'))
        · exact ih hs.2 (fun e he => hk e (List.mem_cons_of_mem _ he)) x hx' y hy'
    rcases hp a h1 h2 x hx y hy with h | h | h
    · exact absurd h e
    · have := h2 x hx; have := h2 y hy
      simp; omega
    · have := h2 x hx; have := h2 y hy
      simp; omega
theorem asc_ext : ∀ (l m : List Edit), (∀ x, x ∈ l ↔ x ∈ m) → DifE l → DifE m → AscE l → AscE m → l = m
  | [], m, h, _, _, _, _ => by
    cases m with
    | nil => rfl
    | cons y m => exact absurd ((h y).2 (List.mem_cons_self ..)) (by simp)
  | x :: l, [], h, _, _, _, _ => absurd ((h x).1 (List.mem_cons_self ..)) (by simp)
  | x :: l, y :: m, h, hd, hd', hl, hm => by
    have hd0 := hd
    have hd0' := hd'
    unfold DifE at hd hd'
    unfold AscE at hl hm
    rw [List.pairwise_cons] at hd hd' hl hm
    have hxy : x = y := by
      rcases List.mem_cons.1 ((h x).1 (List.mem_cons_self ..)) with e | hx
      · exact e
      · rcases List.mem_cons.1 ((h y).2 (List.mem_cons_self ..)) with e | hy
        · exact e.symm
        · have h1 := hl.1 y hy
          have h2 := hm.1 x hx
          have h3 := hd.1 y hy
          omega
    subst hxy
    have ht : ∀ z, z ∈ l ↔ z ∈ m := fun z => by
      have hz := h z
      constructor
      · intro hzl
        rcases List.mem_cons.1 (hz.1 (List.mem_cons_of_mem _ hzl)) with e | h'
        · exact absurd (by rw [e]) (hd.1 z hzl)
        · exact h'
      · intro hzm
        rcases List.mem_cons.1 (hz.2 (List.mem_cons_of_mem _ hzm)) with e | h'
        · exact absurd (by rw [e]) (hd'.1 z hzm)
        · exact h'
    rw [asc_ext l m ht hd.2 hd'.2 hl.2 hm.2]
theorem srt_dif {n m : Int} {a b : List Edit} (ha : validZ n a = true) (hb : validZ m b = true) (hc : clashP a b = []) : DifE (srtE (bothE a b)) :=
  difE_perm (srtE_perm _).symm (ap_dif (bothE_ap ha hb hc) (bothE_ok ha hb))
theorem srt_symm {n m : Int} {a b : List Edit} (ha : validZ n a = true) (hb : validZ m b = true) (hc : clashP a b = []) : srtE (bothE a b) = srtE (bothE b a) :=
  asc_ext _ _ (fun x => by rw [(srtE_perm _).mem_iff, (srtE_perm _).mem_iff, mem_bothE, mem_bothE, or_comm]) (srt_dif ha hb hc) (srt_dif hb ha (clashP_symm hc)) (srtE_asc _) (srtE_asc _)
theorem valid_asc {n : Int} {a : List Edit} (ha : validZ n a = true) : AscE a := by
  obtain ⟨h1, h2⟩ := validZ_sep ha
  unfold AscE
  refine List.Pairwise.imp_of_mem (fun {x y} hx hy hxy => ?_) h1
  have := h2 x hx
  omega
theorem srt_of_mem {n m : Int} {a b : List Edit} (ha : validZ n a = true) (hb : validZ m b = true) (hc : clashP a b = []) (hm : ∀ x ∈ b, x ∈ a) : srtE (bothE a b) = a := by
  obtain ⟨h1, h2⟩ := validZ_sep ha
  refine asc_ext _ _ (fun x => ?_) (srt_dif ha hb hc) ?_ (srtE_asc _) (valid_asc ha)
  · rw [(srtE_perm _).mem_iff, mem_bothE]
    exact ⟨fun h => h.elim id (hm x), .inl⟩
  · unfold DifE
    refine List.Pairwise.imp_of_mem (fun {x y} hx hy hxy => ?_) h1
    have := h2 x hx
    omega
theorem validZ_nil (n : Int) : validZ n [] = true := by simp [validZ, validGo]
/-- Edits in order, separated, within a text of n characters. -/
def InN (n : Nat) (e : Edit) : Prop := 0 ≤ e.pos ∧ 0 ≤ e.del ∧ e.pos + e.del ≤ n
theorem validGo_inN {n : Nat} : ∀ (l : List Edit) (last : Int), -1 ≤ last → validGo n last l = true → ∀ e ∈ l, InN n e
  | [], _, _, _ => fun _ h => by cases h
  | x :: l, last, hl, h => by
    rw [validGo] at h
    split at h
    · cases h
    · rename_i hb
      simp only [badE, Bool.not_eq_true, Bool.or_eq_false_iff, decide_eq_false_iff_not, Bool.and_eq_false_iff] at hb
      obtain ⟨⟨⟨⟨⟨⟨h1, h2⟩, h3⟩, h4⟩, h5⟩, _⟩, _⟩ := hb
      intro e he
      rcases List.mem_cons.1 he with rfl | he
      · exact ⟨by omega, by omega, by omega⟩
      · exact validGo_inN l _ (by omega) h e he
theorem validZ_inN {n : Nat} {l : List Edit} (h : validZ n l = true) : ∀ e ∈ l, InN n e := by
  unfold validZ at h
  simp only [Bool.and_eq_true] at h
  exact validGo_inN l _ (by omega) h.2
def insLen (l : List Edit) : Nat := (l.map fun e => e.ins.length).sum
theorem segS_full (base : List Sym) (k t : Nat) (h : t ≤ base.length) : (segS base k (t - k)).length = t - k := by
  unfold segS
  rw [List.length_take, List.length_drop]
  omega
/-- Edits that are separated and within the text: Apply's text, and how long it is. -/
theorem run_apply (base : List Sym) : ∀ (l : List Edit) (s : MS), SepE l → (∀ e ∈ l, InN base.length e) → (∀ e ∈ l, (s.k : Int) ≤ e.pos) → s.k ≤ base.length →
    (keepS base base.length (l.foldl (stepS base) s)).out = applyGo base s.k s.out l ∧ (keepS base base.length (l.foldl (stepS base) s)).out.length ≤ s.out.length + (base.length - s.k) + insLen l
  | [], s, _, _, _, hk => by
    simp only [List.foldl_nil, applyGo, keepS, insLen, List.map_nil, List.sum_nil]
    refine ⟨?_, ?_⟩
    · unfold segS
      rw [List.take_of_length_le (by rw [List.length_drop]; exact Nat.le_refl _)]
    · rw [List.length_append, segS_full _ _ _ (Nat.le_refl _)]
      omega
  | e :: l, s, hs, hi, hp, hk => by
    unfold SepE at hs
    rw [List.pairwise_cons] at hs
    obtain ⟨i1, i2, i3⟩ := hi e (List.mem_cons_self ..)
    have hpe := hp e (List.mem_cons_self ..)
    have hk2 : (stepS base s e).k = (e.pos + e.del).toNat := by
      simp only [stepS, insS, keepS]
      omega
    have ho2 : (stepS base s e).out = s.out ++ (base.drop s.k).take (e.pos.toNat - s.k) ++ e.ins := rfl
    have := run_apply base l (stepS base s e) hs.2 (fun x hx => hi x (List.mem_cons_of_mem _ hx)) (fun x hx => by have := hs.1 x hx; rw [hk2]; omega) (by rw [hk2]; omega)
    rw [List.foldl_cons, applyGo]
    rw [hk2, ho2] at this
    refine ⟨this.1, Nat.le_trans this.2 ?_⟩
    have hl : insLen (e :: l) = e.ins.length + insLen l := by simp [insLen]
    have hsg := segS_full base s.k e.pos.toNat (by omega)
    unfold segS at hsg
    rw [List.length_append, List.length_append, hsg, hl]
    omega
theorem end_apply {base : List Sym} {l : List Edit} (hs : SepE l) (hi : ∀ e ∈ l, InN base.length e) : (endS base l).out = applyGo base 0 [] l ∧ (endS base l).out.length ≤ base.length + insLen l := by
  have := run_apply base l ⟨0, [], []⟩ hs hi (fun e he => by have := (hi e he).1; simpa using this) (Nat.zero_le _)
  simpa [endS, foldS] using this
theorem insLen_le {l : List Edit} {m : Nat} (h : ∀ e ∈ l, e.ins.length ≤ m) : insLen l ≤ l.length * m := by
  induction l with
  | nil => simp [insLen]
  | cons e l ih =>
    have h1 := ih (fun x hx => h x (List.mem_cons_of_mem _ hx))
    have h2 := h e (List.mem_cons_self ..)
    have hl : insLen (e :: l) = e.ins.length + insLen l := by simp [insLen]
    rw [hl, List.length_cons, Nat.add_mul]
    omega
theorem bothE_in {n : Nat} {a b : List Edit} (ha : validZ n a = true) (hb : validZ n b = true) : ∀ e ∈ srtE (bothE a b), InN n e := fun e he => by
  rcases mem_bothE.1 ((srtE_perm _).mem_iff.1 he) with h | h
  · exact validZ_inN ha e h
  · exact validZ_inN hb e h
/-- Small edits: no error but ErrClash. -/
structure Small (a : List Edit) : Prop where
  len : a.length ≤ 4
  ins : ∀ e ∈ a, e.ins.length ≤ 24
theorem srt_ins {a b : List Edit} (ha : Small a) (hb : Small b) : insLen (srtE (bothE a b)) ≤ 192 := by
  have h1 := insLen_le (l := srtE (bothE a b)) (m := 24) (fun e he => by
    rcases mem_bothE.1 ((srtE_perm _).mem_iff.1 he) with h | h
    · exact ha.ins e h
    · exact hb.ins e h)
  have h2 : (srtE (bothE a b)).length ≤ 8 := by
    rw [(srtE_perm _).length_eq]
    unfold bothE
    rw [List.length_append]
    have := List.length_filter_le (fun x => !memB a x) b
    have := ha.len
    have := hb.len
    omega
  have h3 : (srtE (bothE a b)).length * 24 ≤ 8 * 24 := Nat.mul_le_mul_right 24 h2
  omega
theorem merge_small {base : List Sym} {a b : List Edit} (ht : isTextB base = true) (hl : base.length ≤ 500) (ha : validZ base.length a = true) (hb : validZ base.length b = true) (sa : Small a) (sb : Small b) (hc : clashP a b = []) :
    mergeZ base a b = ((endS base (srtE (bothE a b))).out, (endS base (srtE (bothE a b))).kept, 0) := by
  have h1 := (end_apply (srt_sep ha hb hc) (bothE_in ha hb)).2
  have h2 := srt_ins sa sb
  unfold mergeZ
  rw [ht, ha, hb, if_neg (by decide), if_neg (by simp [hc])]
  unfold doneZ
  rw [if_neg (by omega)]
theorem merge_clash {base : List Sym} {a b : List Edit} (ht : isTextB base = true) (ha : validZ base.length a = true) (hb : validZ base.length b = true) (hc : clashP a b ≠ []) : mergeZ base a b = ([], [], 18) := by
  unfold mergeZ
  rw [ht, ha, hb, if_neg (by decide), if_pos hc]
theorem small_nil : Small [] := ⟨by simp, by simp⟩
/-- What the law Both says of Merge. -/
theorem both_law {base : List Sym} {a b : List Edit} (ht : isTextB base = true) (hl : base.length ≤ 500) (ha : validZ base.length a = true) (hb : validZ base.length b = true) (sa : Small a) (sb : Small b) :
    (mergeZ base a b).2.2 = (mergeZ base b a).2.2 ∧ (mergeZ base a b).1 = (mergeZ base b a).1 ∧ (mergeZ base a []).2.2 = 0 ∧ (mergeZ base a a).2.2 = 0 ∧ (applyZ base a).2 = 0 ∧ (mergeZ base a []).1 = (applyZ base a).1 ∧ (mergeZ base a a).1 = (applyZ base a).1 := by
  have hab : (mergeZ base a b).2.2 = (mergeZ base b a).2.2 ∧ (mergeZ base a b).1 = (mergeZ base b a).1 := by
    by_cases hc : clashP a b = []
    · rw [merge_small ht hl ha hb sa sb hc, merge_small ht hl hb ha sb sa (clashP_symm hc), srt_symm ha hb hc]
      exact ⟨rfl, rfl⟩
    · rw [merge_clash ht ha hb hc, merge_clash ht hb ha (fun h => hc (clashP_symm h))]
      exact ⟨rfl, rfl⟩
  have hn := merge_small ht hl ha (validZ_nil _) sa small_nil (clashP_none a)
  have hs := merge_small ht hl ha ha sa sa (clashP_self ha)
  rw [srt_of_mem ha (validZ_nil base.length) (clashP_none a) (fun x hx => by cases hx)] at hn
  rw [srt_of_mem ha ha (clashP_self ha) (fun x hx => hx)] at hs
  have he := end_apply (validZ_sep ha).1 (validZ_inN ha)
  have hi : insLen a ≤ 96 := by
    have h1 := insLen_le sa.ins
    have h2 : a.length * 24 ≤ 4 * 24 := Nat.mul_le_mul_right 24 sa.len
    omega
  have happ : applyZ base a = (applyGo base 0 [] a, 0) := by
    unfold applyZ
    rw [ht, ha, if_pos (by decide), if_neg (by rw [← he.1]; omega)]
  rw [hn, hs, happ]
  exact ⟨hab.1, hab.2, rfl, rfl, rfl, he.1, he.1⟩
end Go.Proofs.Ythdafajhohdkoaa
