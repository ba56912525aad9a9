/- Plain: edits of two authors that do not clash, in the order of their places: one order, and separated. -/
import Derived.Test.YthdafajhohdkoaaMgM
namespace Go.Proofs.Ythdafajhohdkoaa
open Go.RowKit Go.Lab Go.Shelf
def insertE (x : Edit) : List Edit → List Edit
  | [] => [x]
  | y :: l => if x.pos ≤ y.pos then x :: y :: l else y :: insertE x l
def srtE : List Edit → List Edit
  | [] => []
  | x :: l => insertE x (srtE l)
theorem insertE_perm (x : Edit) : ∀ l, (insertE x l).Perm (x :: l)
  | [] => List.Perm.refl _
  | y :: l => by
    rw [insertE]
    split
    · exact List.Perm.refl _
    · exact (List.Perm.cons y (insertE_perm x l)).trans (List.Perm.swap x y l)
theorem srtE_perm : ∀ l, (srtE l).Perm l
  | [] => List.Perm.refl _
  | x :: l => (insertE_perm x (srtE l)).trans (List.Perm.cons x (srtE_perm l))
def AscE (l : List Edit) : Prop := l.Pairwise fun x y => x.pos ≤ y.pos
theorem insertE_asc (x : Edit) : ∀ l, AscE l → AscE (insertE x l)
  | [], _ => by simp [insertE, AscE]
  | y :: l, h => by
    rw [insertE]
    unfold AscE at h ⊢
    rw [List.pairwise_cons] at h
    split
    · rename_i hxy
      rw [List.pairwise_cons, List.pairwise_cons]
      exact ⟨fun z hz => by
        rcases List.mem_cons.1 hz with rfl | hz
        · exact hxy
        · have := h.1 z hz; omega, h.1, h.2⟩
    · rename_i hxy
      rw [List.pairwise_cons]
      refine ⟨fun z hz => ?_, insertE_asc x l h.2⟩
      rcases List.mem_cons.1 ((insertE_perm x l).mem_iff.1 hz) with rfl | hz
      · omega
      · exact h.1 z hz
theorem srtE_asc : ∀ l, AscE (srtE l)
  | [] => List.Pairwise.nil
  | x :: l => insertE_asc x _ (srtE_asc l)
/-- Different places. -/
def DifE (l : List Edit) : Prop := l.Pairwise fun x y => x.pos ≠ y.pos
theorem difE_perm {l m : List Edit} (h : l.Perm m) (hd : DifE l) : DifE m := h.pairwise hd (fun h => Ne.symm h)
theorem asc_unique : ∀ (l m : List Edit), l.Perm m → DifE l → AscE l → AscE m → l = m
  | [], m, h, _, _, _ => (List.Perm.nil_eq h)
  | x :: l, [], h, _, _, _ => by cases h.length_eq
  | x :: l, y :: m, h, hd, hl, hm => by
    have hd' := difE_perm h hd
    unfold DifE at hd hd'
    unfold AscE at hl hm
    rw [List.pairwise_cons] at hd hd' hl hm
    have hxy : x = y := by
      rcases List.mem_cons.1 (h.mem_iff.1 (List.mem_cons_self ..)) with e | hx
      · exact e
      · rcases List.mem_cons.1 (h.mem_iff.2 (List.mem_cons_self ..)) with e | hy
        · exact e.symm
        · have h1 := hl.1 y hy
          have h2 := hm.1 x hx
          have h3 := hd.1 y hy
          omega
    subst hxy
    rw [asc_unique l m ((List.perm_cons x).1 h) hd.2 hl.2 hm.2]
theorem srtE_eq {l m : List Edit} (h : m.Perm l) (hd : DifE l) (hm : AscE m) : m = srtE l :=
  asc_unique m (srtE l) (h.trans (srtE_perm l).symm) (difE_perm h.symm hd) hm (srtE_asc l)
/-- Separated: each begins behind the end of those before it. -/
def SepE (l : List Edit) : Prop := l.Pairwise fun x y => x.pos + x.del < y.pos
theorem validGo_sep {n : Int} : ∀ (l : List Edit) (last : Int), validGo n last l = true → SepE l ∧ ∀ e ∈ l, last < e.pos ∧ 0 ≤ e.del
  | [], _, _ => ⟨List.Pairwise.nil, fun _ h => by cases h⟩
  | x :: l, last, h => by
    rw [validGo] at h
    split at h
    · cases h
    · rename_i hb
      simp only [badE, Bool.not_eq_true, Bool.or_eq_false_iff, decide_eq_false_iff_not, Bool.and_eq_false_iff] at hb
      obtain ⟨⟨⟨⟨⟨⟨h1, h2⟩, h3⟩, h4⟩, h5⟩, _⟩, _⟩ := hb
      obtain ⟨g1, g2⟩ := validGo_sep l _ h
      unfold SepE
      rw [List.pairwise_cons]
      refine ⟨⟨fun y hy => (g2 y hy).1, g1⟩, fun e he => ?_⟩
      rcases List.mem_cons.1 he with rfl | he
      · omega
      · have := g2 e he; omega
theorem validZ_sep {n : Int} {l : List Edit} (h : validZ n l = true) : SepE l ∧ ∀ e ∈ l, 0 ≤ e.pos ∧ 0 ≤ e.del := by
  unfold validZ at h
  simp only [Bool.and_eq_true] at h
  obtain ⟨h1, h2⟩ := validGo_sep l _ h.2
  exact ⟨h1, fun e he => by have := h2 e he; omega⟩
theorem clashRow_nil {x : Edit} {i : Nat} : ∀ {b : List Edit} {k : Nat}, clashRow x i b k = [] → ∀ y ∈ b, clashB x y = false
  | [], _, _ => fun _ h => by cases h
  | z :: b, k, h => by
    rw [clashRow] at h
    obtain ⟨h1, h2⟩ := List.append_eq_nil_iff.1 h
    intro y hy
    rcases List.mem_cons.1 hy with rfl | hy
    · by_cases hc : clashB x y = true
      · rw [if_pos hc] at h1; cases h1
      · simpa using hc
    · exact clashRow_nil h2 y hy
theorem clashGo_nil {b : List Edit} : ∀ {a : List Edit} {i : Nat}, clashGo b a i = [] → ∀ x ∈ a, ∀ y ∈ b, clashB x y = false
  | [], _, _ => fun _ h => by cases h
  | z :: a, i, h => by
    rw [clashGo] at h
    obtain ⟨h1, h2⟩ := List.append_eq_nil_iff.1 h
    intro x hx
    rcases List.mem_cons.1 hx with rfl | hx
    · exact clashRow_nil h1
    · exact clashGo_nil h2 x hx
theorem clashP_nil {a b : List Edit} (h : clashP a b = []) : ∀ x ∈ a, ∀ y ∈ b, clashB x y = false := clashGo_nil h
def bothE (a b : List Edit) : List Edit := a ++ b.filter fun x => !memB a x
theorem bothL_map (av bv : List EV) : (bothL av bv).map (·.1) = bothE (av.map (·.1)) (bv.map (·.1)) := by
  unfold bothL bothE
  rw [List.map_append, List.filter_map]
  rfl
theorem memB_iff {a : List Edit} {x : Edit} : memB a x = true ↔ x ∈ a := by
  unfold memB
  rw [List.any_eq_true]
  simp
theorem clashB_no {x y : Edit} (h : clashB x y = false) : x = y ∨ y.pos + y.del < x.pos ∨ x.pos + x.del < y.pos := by
  unfold clashB at h
  simp only [Bool.and_eq_false_iff, Bool.not_eq_false', decide_eq_true_eq, decide_eq_false_iff_not] at h
  rcases h with (h | h) | h
  · exact .inl h
  · exact .inr (.inl (by omega))
  · exact .inr (.inr (by omega))
theorem mem_bothE {a b : List Edit} {x : Edit} : x ∈ bothE a b ↔ x ∈ a ∨ x ∈ b := by
  unfold bothE
  rw [List.mem_append, List.mem_filter]
  constructor
  · rintro (h | h)
    · exact .inl h
    · exact .inr h.1
  · rintro (h | h)
    · exact .inl h
    · by_cases hx : x ∈ a
      · exact .inl hx
      · refine .inr ⟨h, ?_⟩
        rw [Bool.not_eq_true']
        by_cases hm : memB a x = true
        · exact absurd (memB_iff.1 hm) hx
        · simpa using hm
/-- No two touch. -/
def ApE (l : List Edit) : Prop := l.Pairwise fun x y => y.pos + y.del < x.pos ∨ x.pos + x.del < y.pos
theorem bothE_ap {n m : Int} {a b : List Edit} (ha : validZ n a = true) (hb : validZ m b = true) (hc : clashP a b = []) : ApE (bothE a b) := by
  obtain ⟨a1, a2⟩ := validZ_sep ha
  obtain ⟨b1, b2⟩ := validZ_sep hb
  have hcl := clashP_nil hc
  unfold ApE bothE
  rw [List.pairwise_append]
  refine ⟨a1.imp (fun h => .inr h), (b1.filter _).imp (fun h => .inr h), fun x hx y hy => ?_⟩
  obtain ⟨hy1, hy2⟩ := List.mem_filter.1 hy
  rcases clashB_no (hcl x hx y hy1) with rfl | h
  · rw [memB_iff.2 hx] at hy2; cases hy2
  · exact h
theorem bothE_ok {n m : Int} {a b : List Edit} (ha : validZ n a = true) (hb : validZ m b = true) : ∀ e ∈ bothE a b, 0 ≤ e.pos ∧ 0 ≤ e.del := by
  intro e he
  rcases mem_bothE.1 he with h | h
  · exact (validZ_sep ha).2 e h
  · exact (validZ_sep hb).2 e h
theorem ap_dif {l : List Edit} (h : ApE l) (hk : ∀ e ∈ l, 0 ≤ e.pos ∧ 0 ≤ e.del) : DifE l := by
  unfold DifE
  refine List.Pairwise.imp_of_mem (fun {x y} hx hy hxy => ?_) h
  have := hk x hx
  have := hk y hy
  omega
theorem ap_perm {l m : List Edit} (h : l.Perm m) (hd : ApE l) : ApE m := h.pairwise hd (fun h => h.symm)
theorem asc_sep {l : List Edit} (h : ApE l) (ha : AscE l) (hk : ∀ e ∈ l, 0 ≤ e.pos ∧ 0 ≤ e.del) : SepE l := by
  unfold SepE
  have h2 : l.Pairwise (fun x y => (y.pos + y.del < x.pos ∨ x.pos + x.del < y.pos) ∧ x.pos ≤ y.pos) := by
    unfold ApE at h
    unfold AscE at ha
    exact List.pairwise_and_iff.2 ⟨h, ha⟩
  refine List.Pairwise.imp_of_mem (fun {x y} hx hy hxy => ?_) h2
  have := hk x hx
  have := hk y hy
  omega
/-- The edits of both in order, where they do not clash. -/
theorem srt_sep {n m : Int} {a b : List Edit} (ha : validZ n a = true) (hb : validZ m b = true) (hc : clashP a b = []) : SepE (srtE (bothE a b)) :=
  asc_sep (ap_perm (srtE_perm _).symm (bothE_ap ha hb hc)) (srtE_asc _) (fun e he => bothE_ok ha hb e ((srtE_perm _).mem_iff.1 he))
def mergeZ (base : List Sym) (a b : List Edit) : List Sym × List (Nat × Nat) × Int :=
  if (isTextB base && validZ base.length a && validZ base.length b) = false then ([], [], 1) else if clashP a b ≠ [] then ([], [], 18) else doneZ (endS base (srtE (bothE a b)))
theorem mergeZ_bad {base : List Sym} {a b : List Edit} (h : (isTextB base && validZ base.length a && validZ base.length b) = false) : mergeZ base a b = ([], [], 1) := if_pos h
theorem merged_ok {w : World} {base : List Sym} {av bv : List EV} {e : Ending} {w' : World} (ht : isTextB base = true) (hva : validZ base.length (av.map (·.1)) = true) (hvb : validZ base.length (bv.map (·.1)) = true) (h : MergedR w base av bv e w') :
    ∃ vo vk, e = .returned (.tuple #[vo, vk, .int .i64 (mergeZ base (av.map (·.1)) (bv.map (·.1))).2.2]) ∧ w'.ownsRow w.heap.size 34 2 vo (mergeZ base (av.map (·.1)) (bv.map (·.1))).1.length (symsC (mergeZ base (av.map (·.1)) (bv.map (·.1))).1) ∧
      w'.ownsRow w.heap.size 45 2 vk (mergeZ base (av.map (·.1)) (bv.map (·.1))).2.1.length (pairsC (mergeZ base (av.map (·.1)) (bv.map (·.1))).2.1) ∧ Below w.heap.size w w' := by
  obtain ⟨r, hr, h⟩ := h
  have hm : mergeZ base (av.map (·.1)) (bv.map (·.1)) = r := by
    unfold mergeZ
    rw [ht, hva, hvb, if_neg (by decide)]
    rcases hr with ⟨h1, rfl⟩ | ⟨h1, L, hp, ha, rfl⟩
    · rw [if_pos h1]
    · rw [if_neg (by simp [h1])]
      have hp2 : (L.map (·.1)).Perm (bothE (av.map (·.1)) (bv.map (·.1))) := by
        rw [← bothL_map]; exact hp.map _
      have ha2 : AscE (L.map (·.1)) := by
        unfold AscE
        rw [List.pairwise_map]
        exact ha
      rw [srtE_eq hp2 (ap_dif (bothE_ap hva hvb h1) (bothE_ok hva hvb)) ha2]
  rw [hm]
  exact h
set_option maxHeartbeats 2000000 in
theorem merged_any (v va vb : Value) (base : List Sym) (a b : List Edit) (w : World) (h : SymsAt w v base) (ha : EditsAt w va a) (hb : EditsAt w vb b) :
    Calls Try.prog 35 #[v, va, vb] w fun e w' => ∃ vo vk, e = .returned (.tuple #[vo, vk, .int .i64 (mergeZ base a b).2.2]) ∧ w'.ownsRow w.heap.size 34 2 vo (mergeZ base a b).1.length (symsC (mergeZ base a b).1) ∧
      w'.ownsRow w.heap.size 45 2 vk (mergeZ base a b).2.1.length (pairsC (mergeZ base a b).2.1) ∧ Below w.heap.size w w' := by
  obtain ⟨av, rfl, hav⟩ := ha.ev
  obtain ⟨bv, rfl, hbv⟩ := hb.ev
  by_cases hall : (isTextB base && validZ base.length (av.map (·.1)) && validZ base.length (bv.map (·.1))) = true
  · have h2 := hall
    simp only [Bool.and_eq_true] at h2
    obtain ⟨⟨h3, h4⟩, h5⟩ := h2
    exact (merged_run v va vb base av bv w h hav hbv h3 h4 h5).mono (fun e w' hm => merged_ok h3 h4 h5 hm)
  · have hf : (isTextB base && validZ base.length (av.map (·.1)) && validZ base.length (bv.map (·.1))) = false := by simpa using hall
    rw [mergeZ_bad hf]
    obtain ⟨a, c, rfl, hc1, hc2⟩ := h.form
    obtain ⟨aa, ca, rfl, _, _⟩ := hav.form
    obtain ⟨ab, cb, rfl, _, _⟩ := hbv.form
    unfold maxLen at hc2
    have hM0 := MBox.start w (.slice a base.length c)
    have HM := hidep hM0.bw
    have HT := hidep (fun W (hW : Below w.heap.size w W) => mtext_any _ base W (h.below hW))
    have HL : Hid (isTextB base = true → base.length ≤ 2048) := hidep isTextB_len0
    have HA := hidep (fun W (hW : Below w.heap.size w W) (hl : base.length ≤ 2048) => mvalid_any _ base.length _ W ((hav.below hW).edits) (by omega) (by omega))
    have HB := hidep (fun W (hW : Below w.heap.size w W) (hl : base.length ≤ 2048) => mvalid_any _ base.length _ W ((hbv.below hW).edits) (by omega) (by omega))
    clear hall h ha hb hav hbv
    generalize isTextB base = t at *
    generalize validZ base.length (av.map (·.1)) = va at *
    generalize validZ base.length (bv.map (·.1)) = vb at *
    have hlen : t = true → base.length ≤ 2048 := HL.out
    cases t
    · go_enter Try.func35, Try.ntmps35
      go_wp2_with (first
        | (go_at_call 52; refine (HT.out _ HM.out).mono ?_; rintro e w1 ⟨rfl, hb1⟩; have hM1 := hM0.step hb1; clear hM0; have c6 := hM1.b6.cell; have c7 := hM1.b7.cell; have c8 := hM1.b8.cell; have f6 := hM1.b6.frozen; have f7 := hM1.b7.frozen; have f8 := hM1.b8.frozen; have HPT := hidep (hM1.put (.slice none 0 0) (.slice none 0 0) 1))
        | fail)
      have hR := HPT.out.1
      have e6 := hR.b6.cell
      have e7 := hR.b7.cell
      have e8 := hR.b8.cell
      refine bodyPost_ret (results_cells3 rfl _ _ _ rfl rfl rfl (v1 := .slice none 0 0) (v2 := .slice none 0 0) (v3 := .int .i64 1) (by go_simp) (by go_simp) (by go_simp)) rfl ?_
      exact ⟨_, _, rfl, World.ownsRow_nil _ _ _ _, World.ownsRow_nil _ _ _ _, hR.bw⟩
    · have hlen := hlen rfl
      have HA := hidep (fun W hW => HA.out W hW hlen)
      have HB := hidep (fun W hW => HB.out W hW hlen)
      cases va
      · go_enter Try.func35, Try.ntmps35
        go_wp2_with (first
          | (go_at_call 52; refine (HT.out _ HM.out).mono ?_; rintro e w1 ⟨rfl, hb1⟩; have hM1 := hM0.step hb1; clear hM0; have c3 := hM1.b3.cell)
          | (go_at_call 40; (with_reducible refine (HA.out _ hM1.bw).mono ?_); rintro e w2 ⟨rfl, hb2⟩; have hM2 := hM1.step hb2; clear hM1 c3; have c6 := hM2.b6.cell; have c7 := hM2.b7.cell; have c8 := hM2.b8.cell; have f6 := hM2.b6.frozen; have f7 := hM2.b7.frozen; have f8 := hM2.b8.frozen; have HPT := hidep (hM2.put (.slice none 0 0) (.slice none 0 0) 1))
          | fail)
        have hR := HPT.out.1
        have e6 := hR.b6.cell
        have e7 := hR.b7.cell
        have e8 := hR.b8.cell
        refine bodyPost_ret (results_cells3 rfl _ _ _ rfl rfl rfl (v1 := .slice none 0 0) (v2 := .slice none 0 0) (v3 := .int .i64 1) (by go_simp) (by go_simp) (by go_simp)) rfl ?_
        exact ⟨_, _, rfl, World.ownsRow_nil _ _ _ _, World.ownsRow_nil _ _ _ _, hR.bw⟩
      · cases vb
        · go_enter Try.func35, Try.ntmps35
          go_wp2_with (first
            | (go_at_call 52; refine (HT.out _ HM.out).mono ?_; rintro e w1 ⟨rfl, hb1⟩; have hM1 := hM0.step hb1; clear hM0; have c3 := hM1.b3.cell)
            | (go_at_call 40; (with_reducible refine (HA.out _ hM1.bw).mono ?_); rintro e w2 ⟨rfl, hb2⟩; have hM2 := hM1.step hb2; clear hM1 c3; have c3 := hM2.b3.cell)
            | (go_at_call 40; (with_reducible refine (HB.out _ hM2.bw).mono ?_); rintro e w3 ⟨rfl, hb3⟩; have hM3 := hM2.step hb3; clear hM2 c3; have c6 := hM3.b6.cell; have c7 := hM3.b7.cell; have c8 := hM3.b8.cell; have f6 := hM3.b6.frozen; have f7 := hM3.b7.frozen; have f8 := hM3.b8.frozen; have HPT := hidep (hM3.put (.slice none 0 0) (.slice none 0 0) 1))
            | fail)
          have hR := HPT.out.1
          have e6 := hR.b6.cell
          have e7 := hR.b7.cell
          have e8 := hR.b8.cell
          refine bodyPost_ret (results_cells3 rfl _ _ _ rfl rfl rfl (v1 := .slice none 0 0) (v2 := .slice none 0 0) (v3 := .int .i64 1) (by go_simp) (by go_simp) (by go_simp)) rfl ?_
          exact ⟨_, _, rfl, World.ownsRow_nil _ _ _ _, World.ownsRow_nil _ _ _ _, hR.bw⟩
        · cases hf
set_option maxHeartbeats 1000000 in
theorem merge_any (v va vb : Value) (base : List Sym) (a b : List Edit) (w : World) (h : SymsAt w v base) (ha : EditsAt w va a) (hb : EditsAt w vb b) :
    Calls Try.prog 16 #[v, va, vb] w fun e w' => ∃ vo, e = .returned (.tuple #[vo, .int .i64 (mergeZ base a b).2.2]) ∧ w'.ownsRow w.heap.size 34 2 vo (mergeZ base a b).1.length (symsC (mergeZ base a b).1) ∧ Below w.heap.size w w' := by
  have H := hidep (merged_any v va vb base a b w h ha hb)
  clear h ha hb
  generalize mergeZ base a b = r at *
  obtain ⟨r1, r2, r3⟩ := r
  go_enter Try.func16, Try.ntmps16
  go_wp2_with (go_at_call 35; refine H.out.mono ?_; rintro e w1 ⟨vo, vk, rfl, h1, h2, hb1⟩)
  go_ret2
  exact ⟨_, rfl, h1, hb1⟩
set_option maxHeartbeats 1000000 in
theorem kept_any (v va vb : Value) (base : List Sym) (a b : List Edit) (w : World) (h : SymsAt w v base) (ha : EditsAt w va a) (hb : EditsAt w vb b) :
    Calls Try.prog 17 #[v, va, vb] w fun e w' => ∃ vk, e = .returned (.tuple #[vk, .int .i64 (mergeZ base a b).2.2]) ∧ w'.ownsRow w.heap.size 45 2 vk (mergeZ base a b).2.1.length (pairsC (mergeZ base a b).2.1) ∧ Below w.heap.size w w' := by
  have H := hidep (merged_any v va vb base a b w h ha hb)
  clear h ha hb
  generalize mergeZ base a b = r at *
  obtain ⟨r1, r2, r3⟩ := r
  go_enter Try.func17, Try.ntmps17
  go_wp2_with (go_at_call 35; refine H.out.mono ?_; rintro e w1 ⟨vo, vk, rfl, h1, h2, hb1⟩)
  go_ret2
  exact ⟨_, rfl, h2, hb1⟩
end Go.Proofs.Ythdafajhohdkoaa
