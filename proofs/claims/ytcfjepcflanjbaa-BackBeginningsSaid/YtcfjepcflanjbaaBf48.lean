/- Plain: a text's cells are not many; a generated text with a blank behind it is good. -/
import Derived.Test.YtcfjepcflanjbaaBf45
import Derived.Test.YtcfjepcflanjbaaBf47
import Derived.Test.YtcfjepcflanjbaaBf41
import Derived.Test.YtcfjepcflanjbaaBf43
namespace Go.Proofs.Ytcfjepcflanjbaa
open Go.RowKit Go.Lab Go.Shelf
set_option maxRecDepth 100000
theorem isF_len {T : TabZ} {l : List Sym} (hv : validE T = 0) (hlang : ∀ x ∈ l, x.lang = 0 ∨ x.lang = 1) : ∀ (f : Nat) (st : StZ) (i : Nat) (C : List Int), isF T l f st i C = true → C.length ≤ 12 * isM l st i
  | 0, _, _, _, h => by cases h
  | f + 1, st, i, C, h => by
    unfold isF at h
    by_cases hi : l.length ≤ i
    · rw [if_pos hi, decide_eq_true_eq] at h
      omega
    · rw [if_neg hi] at h
      simp only [List.any_eq_true, Bool.and_eq_true] at h
      obtain ⟨s, hs, h1, h2⟩ := h
      have hm := next_mem hv (by omega) hlang hs
      have h3 := isF_len hv hlang f s.st (i + s.n) _ h2
      have h4 := begB_len h1
      rw [List.length_drop] at h3
      omega
theorem isZ_len {T : TabZ} {l : List Sym} {C : List Int} (hv : validE T = 0) (hlang : ∀ x ∈ l, x.lang = 0 ∨ x.lang = 1) (h : isZ T l C = true) : C.length ≤ 24 * l.length + 12 := by
  have h1 := isF_len hv hlang _ _ _ _ h
  have h2 := isM_le l ⟨0, false, false⟩ 0
  omega
theorem chG_written {c : Int} (h : ChG c) : writtenB c = true := by
  unfold writtenB
  simp only [Bool.and_eq_true, decide_eq_true_eq]
  rcases h with h | ⟨j, hj, h⟩ | ⟨j, hj, h⟩
  · unfold digB at h
    simp only [Bool.and_eq_true, decide_eq_true_eq] at h
    omega
  · unfold lowZ capB at h
    split at h
    · rename_i hc
      simp only [Bool.and_eq_true, decide_eq_true_eq] at hc
      omega
    · omega
  · have := c6_rng_all ⟨j, hj⟩
    simp only at this
    unfold lowZ capB at h
    split at h
    · rename_i hc
      simp only [Bool.and_eq_true, decide_eq_true_eq] at hc
      omega
    · omega
theorem blank_good (l : List Int) {g : Int} (hg : g = 0 ∨ g = 1) : (symsZ l ++ [(⟨g, 32⟩ : Sym)]).all goodB = true := by
  rw [List.all_eq_true]
  intro x hx
  rcases List.mem_append.1 hx with hx | hx
  · unfold goodB
    have h1 := symsZ_lang l x hx
    rw [chG_written (symsZ_ch l x hx), decide_eq_true (by omega), decide_eq_true (by omega)]
    rfl
  · rw [List.mem_singleton] at hx
    subst hx
    rcases hg with rfl | rfl <;> decide
theorem lastLg_or {l : List Sym} (h : ∀ x ∈ l, x.lang = 0 ∨ x.lang = 1) : lastLg l = 0 ∨ lastLg l = 1 := by
  unfold lastLg
  split
  · exact .inl rfl
  · rw [symAt_get (by omega)]
    exact h _ (List.getElem_mem _)
theorem blank_lang {l : List Sym} {g : Int} (h : ∀ x ∈ l, x.lang = 0 ∨ x.lang = 1) (hg : g = 0 ∨ g = 1) : ∀ x ∈ l ++ [(⟨g, 32⟩ : Sym)], x.lang = 0 ∨ x.lang = 1 := by
  intro x hx
  rcases List.mem_append.1 hx with hx | hx
  · exact h x hx
  · rw [List.mem_singleton] at hx
    subst hx
    exact hg
theorem blank_c {l : List Sym} {g : Int} (h : SymOk l) : ∀ x ∈ l ++ [(⟨g, 32⟩ : Sym)], 0 ≤ x.c ∧ x.c < 256 := by
  intro x hx
  rcases List.mem_append.1 hx with hx | hx
  · exact ⟨(h x hx).1, (h x hx).2.1⟩
  · rw [List.mem_singleton] at hx
    subst hx
    exact ⟨(by decide : (0 : Int) ≤ 32), (by decide : (32 : Int) < 256)⟩
theorem blank_ok {l : List Sym} {g : Int} (h : SymOk l) (hg : g = 0 ∨ g = 1) : SymOk (l ++ [(⟨g, 32⟩ : Sym)]) := by
  intro x hx
  rcases List.mem_append.1 hx with hx | hx
  · exact h x hx
  · rw [List.mem_singleton] at hx
    subst hx
    exact ⟨(by decide : (0 : Int) ≤ 32), (by decide : (32 : Int) < 256), by simp only; omega, by simp only; omega⟩
/-- What All finds of a text that is cells of it. -/
theorem all_found {T : TabZ} {l : List Sym} {C : List Int} (hv : validE T = 0) (hlang : ∀ x ∈ l, x.lang = 0 ∨ x.lang = 1) (hc : ∀ x ∈ l, 0 ≤ x.c ∧ x.c < 256) (h : isZ T l C = true) (hl : C.length ≤ 8192) :
    (allZ T C 64).2 = 0 ∧ (allZ T C 64).1.length ≤ 64 ∧ ((allZ T C 64).1.length = 64 ∨ l ∈ (allZ T C 64).1) := by
  have hF : FirstN 64 (Acc T C 0 pl0) (txtZ T C 64 0 pl0) := txtZ_accZ hv
  have hz : allZ T C 64 = (txtZ T C 64 0 pl0, 0) := by
    unfold allZ
    have hk : checkZ T C = 0 := by
      unfold checkZ
      rw [if_neg (by omega), if_neg (by omega)]
    rw [if_neg (by omega), if_neg (by omega)]
    rfl
  rw [hz]
  refine ⟨rfl, hF.len, ?_⟩
  rcases hF.all l (is_acc hv hlang hc h) with g | ⟨g, _⟩
  · exact .inr g
  · exact .inl g
/-- One text of All at most, and none unless cells have one. -/
theorem all_one {T : TabZ} {C : List Int} (hv : validE T = 0) (hl : C.length ≤ 8192) :
    (allZ T C 1).2 = 0 ∧ ((allZ T C 1).1.length = 0 ∨ (allZ T C 1).1.length = 1 ∧ goodZ T C = C.length) := by
  have hF : FirstN 1 (Acc T C 0 pl0) (txtZ T C 1 0 pl0) := txtZ_accZ hv
  have hz : allZ T C 1 = (txtZ T C 1 0 pl0, 0) := by
    unfold allZ
    have hk : checkZ T C = 0 := by
      unfold checkZ
      rw [if_neg (by omega), if_neg (by omega)]
    rw [if_neg (by omega), if_neg (by omega)]
    rfl
  rw [hz]
  refine ⟨rfl, ?_⟩
  have := hF.len
  by_cases h0 : (txtZ T C 1 0 pl0).length = 0
  · exact .inl h0
  · refine .inr ⟨(show (txtZ T C 1 0 pl0).length = 1 by omega), ?_⟩
    exact good_acc hv (hF.sub _ (List.getElem_mem (show 0 < (txtZ T C 1 0 pl0).length by omega)))
theorem all_one_is {T : TabZ} {l : List Sym} {C : List Int} (hv : validE T = 0) (hlang : ∀ x ∈ l, x.lang = 0 ∨ x.lang = 1) (hc : ∀ x ∈ l, 0 ≤ x.c ∧ x.c < 256) (h : isZ T l C = true) (hl : C.length ≤ 8192) : (allZ T C 1).1.length = 1 := by
  have hF : FirstN 1 (Acc T C 0 pl0) (txtZ T C 1 0 pl0) := txtZ_accZ hv
  have hz : allZ T C 1 = (txtZ T C 1 0 pl0, 0) := by
    unfold allZ
    have hk : checkZ T C = 0 := by
      unfold checkZ
      rw [if_neg (by omega), if_neg (by omega)]
    rw [if_neg (by omega), if_neg (by omega)]
    rfl
  rw [hz]
  have := hF.len
  rcases hF.all l (is_acc hv hlang hc h) with g | ⟨g, _⟩
  · have := List.length_pos_of_mem g
    show (txtZ T C 1 0 pl0).length = 1
    omega
  · exact g
theorem checkZ_zero {T : TabZ} {C : List Int} (hv : validE T = 0) (hl : C.length ≤ 8192) : checkZ T C = 0 := by
  unfold checkZ
  rw [if_neg (by omega), if_neg (by omega)]
end Go.Proofs.Ytcfjepcflanjbaa
/- Contract: the examples of Back. -/
namespace Go.Proofs.Ytcfjepcflanjbaa
open Go.RowKit Go.Lab Go.Shelf
set_option maxRecDepth 100000
theorem bys_lit (W : World) (l : List Int) (hl : l.length ≤ 1000) (hr : ∀ x ∈ l, 1 ≤ x ∧ x ≤ 63) : BysAt (W.alloc (.cells (byC l).toArray 5)) (.slice (some ⟨W.heap.size, 0, none⟩) l.length l.length) l := (byT_lit l (heap_alloc_new _ _) hl hr).at
theorem below_lit {W w' : World} {o : Obj} (h : Below (W.alloc o).heap.size (W.alloc o) w') : Below W.heap.size W w' := ((Below.refl _ _).alloc (Nat.le_refl _) o).trans (h.mono (by rw [World.size_alloc]; omega))
theorem sm_check (C : List Int) (h : C.length ≤ 8192) : checkZ smallT C = 0 := by
  unfold checkZ
  rw [if_neg (fun e => e sm_valid), if_neg (by omega)]
theorem reads1 (W : World) : Calls Try.prog 26 #[.slice (some ⟨W.heap.size, 0, none⟩) 2 2, .int .i64 0, .string ⟨#[65, 110]⟩] (W.alloc (.cells #[.int .u8 60, .int .u8 30] 5)) fun e w' => e = .returned (.bool true) ∧ Below W.heap.size W w' :=
  (reads_true _ [60, 30] 0 ⟨#[65, 110]⟩ [⟨0, 65⟩, ⟨0, 110⟩] _ (bys_lit W [60, 30] (by decide) (by decide)) (by decide) sm_read1 rfl (by decide) (by decide +kernel) (by unfold SymOk; decide) (by decide) sm_is1).mono fun _ _ ⟨h1, h2⟩ => ⟨h1, below_lit h2⟩
theorem reads2 (W : World) : Calls Try.prog 26 #[.slice (some ⟨W.heap.size, 0, none⟩) 1 1, .int .i64 0, .string ⟨#[97, 110]⟩] (W.alloc (.cells #[.int .u8 31] 5)) fun e w' => e = .returned (.bool true) ∧ Below W.heap.size W w' :=
  (reads_true _ [31] 0 ⟨#[97, 110]⟩ [⟨0, 97⟩, ⟨0, 110⟩] _ (bys_lit W [31] (by decide) (by decide)) (by decide) sm_read2 rfl (by decide) (by decide +kernel) (by unfold SymOk; decide) (by decide) sm_is2).mono fun _ _ ⟨h1, h2⟩ => ⟨h1, below_lit h2⟩
theorem reads3 (W : World) : Calls Try.prog 26 #[.slice (some ⟨W.heap.size, 0, none⟩) 2 2, .int .i64 0, .string ⟨#[97, 110, 46]⟩] (W.alloc (.cells #[.int .u8 31, .int .u8 33] 5)) fun e w' => e = .returned (.bool true) ∧ Below W.heap.size W w' :=
  (reads_true _ [31, 33] 0 ⟨#[97, 110, 46]⟩ [⟨0, 97⟩, ⟨0, 110⟩, ⟨0, 46⟩] _ (bys_lit W [31, 33] (by decide) (by decide)) (by decide) sm_read3 rfl (by decide) (by decide +kernel) (by unfold SymOk; decide) (by decide) sm_is3).mono fun _ _ ⟨h1, h2⟩ => ⟨h1, below_lit h2⟩
theorem reads4 (W : World) : Calls Try.prog 26 #[.slice (some ⟨W.heap.size, 0, none⟩) 3 3, .int .i64 0, .string ⟨#[98, 97, 110]⟩] (W.alloc (.cells #[.int .u8 2, .int .u8 1, .int .u8 32] 5)) fun e w' => e = .returned (.bool true) ∧ Below W.heap.size W w' :=
  (reads_true _ [2, 1, 32] 0 ⟨#[98, 97, 110]⟩ [⟨0, 98⟩, ⟨0, 97⟩, ⟨0, 110⟩] _ (bys_lit W [2, 1, 32] (by decide) (by decide)) (by decide) sm_read4 rfl (by decide) (by decide +kernel) (by unfold SymOk; decide) (by decide) sm_is4).mono fun _ _ ⟨h1, h2⟩ => ⟨h1, below_lit h2⟩
theorem reads5 (W : World) : Calls Try.prog 26 #[.slice (some ⟨W.heap.size, 0, none⟩) 4 4, .int .i64 0, .string ⟨#[55, 97]⟩] (W.alloc (.cells #[.int .u8 61, .int .u8 48, .int .u8 62, .int .u8 1] 5)) fun e w' => e = .returned (.bool true) ∧ Below W.heap.size W w' :=
  (reads_true _ [61, 48, 62, 1] 0 ⟨#[55, 97]⟩ [⟨0, 55⟩, ⟨0, 97⟩] _ (bys_lit W [61, 48, 62, 1] (by decide) (by decide)) (by decide) sm_read5 rfl (by decide) (by decide +kernel) (by unfold SymOk; decide) (by decide) sm_is5).mono fun _ _ ⟨h1, h2⟩ => ⟨h1, below_lit h2⟩
theorem reads6 (W : World) : Calls Try.prog 26 #[.slice (some ⟨W.heap.size, 0, none⟩) 2 2, .int .i64 1, .string ⟨#[97]⟩] (W.alloc (.cells #[.int .u8 63, .int .u8 1] 5)) fun e w' => e = .returned (.bool true) ∧ Below W.heap.size W w' :=
  (reads_true _ [63, 1] 1 ⟨#[97]⟩ [⟨1, 97⟩] _ (bys_lit W [63, 1] (by decide) (by decide)) (by decide) sm_read6 rfl (by decide) (by decide +kernel) (by unfold SymOk; decide) (by decide) sm_is6).mono fun _ _ ⟨h1, h2⟩ => ⟨h1, below_lit h2⟩
theorem read7 (V : TabV) (W : World) (hT : TabIn W V smallT) : Calls Try.prog 27 #[.agg #[V.a, V.b, V.d, V.c, V.n, V.e, V.s], .slice (some ⟨W.heap.size, 0, none⟩) 2 2] (W.alloc (.cells #[.int .u8 31, .int .u8 20] 5)) fun e w' => ∃ v, e = .returned (.tuple #[v, .int .i64 2]) ∧ Below W.heap.size W w' :=
  (readC_any V smallT _ [31, 20] _ (hT.below ((Below.refl _ _).alloc (Nat.le_refl _) _)) sm_ok (bys_lit W [31, 20] (by decide) (by decide))).mono fun _ _ ⟨v, h1, _, h2⟩ => ⟨v, by rw [h1, sm_read7], below_lit h2⟩
theorem all8 (V : TabV) (W : World) (hT : TabIn W V smallT) : Calls Try.prog 12 #[.agg #[V.a, V.b, V.d, V.c, V.n, V.e, V.s], .slice (some ⟨W.heap.size, 0, none⟩) 3 3, .int .i64 3] (W.alloc (.cells #[.int .u8 61, .int .u8 48, .int .u8 1] 5)) fun e w' => ∃ a c, e = .returned (.tuple #[.slice a 0 c, .int .i64 0]) ∧ Below W.heap.size W w' :=
  (allC_any V smallT _ [61, 48, 1] 3 _ (hT.below ((Below.refl _ _).alloc (Nat.le_refl _) _)) sm_ok (bys_lit W [61, 48, 1] (by decide) (by decide))).mono fun _ _ ⟨v, h1, hs, h2⟩ => by
    rw [sm_all] at h1 hs
    obtain ⟨a, c, rfl, _, _⟩ := hs.form
    exact ⟨a, c, h1, below_lit h2⟩
theorem good9 (V : TabV) (W : World) (hT : TabIn W V smallT) : Calls Try.prog 10 #[.agg #[V.a, V.b, V.d, V.c, V.n, V.e, V.s], .slice (some ⟨W.heap.size, 0, none⟩) 3 3] (W.alloc (.cells #[.int .u8 61, .int .u8 48, .int .u8 1] 5)) fun e w' => e = .returned (.tuple #[.int .i64 2, .int .i64 0]) ∧ Below W.heap.size W w' :=
  (goodC_any V smallT _ [61, 48, 1] _ (hT.below ((Below.refl _ _).alloc (Nat.le_refl _) _)) sm_ok (bys_lit W [61, 48, 1] (by decide) (by decide))).mono fun _ _ ⟨h1, h2⟩ => ⟨by
    rw [h1, sm_check _ (by decide), sm_good]
    rfl, below_lit h2⟩
set_option maxHeartbeats 4000000 in
theorem lives_any (w : World) : Calls Try.prog 13 #[] w fun e w' => e = .returned (.bool true) ∧ Below w.heap.size w w' := by
  have HSM := hidep (fun W => small_any W)
  have H1 := hidep (fun W => reads1 W)
  have H2 := hidep (fun W => reads2 W)
  have H3 := hidep (fun W => reads3 W)
  have H4 := hidep (fun W => reads4 W)
  have H5 := hidep (fun W => reads5 W)
  have H6 := hidep (fun W => reads6 W)
  have H7 := hidep (fun V W (h : TabIn W V smallT) => read7 V W h)
  have H8 := hidep (fun V W (h : TabIn W V smallT) => all8 V W h)
  have H9 := hidep (fun V W (h : TabIn W V smallT) => good9 V W h)
  go_enter Try.func13, Try.ntmps13
  go_upto_region 2 with (go_at_call 26; first
    | ((with_reducible refine (H1.out _).mono ?_); rintro e x1 ⟨rfl, hb1⟩)
    | ((with_reducible refine (H2.out _).mono ?_); rintro e x2 ⟨rfl, hb2⟩)
    | ((with_reducible refine (H3.out _).mono ?_); rintro e x3 ⟨rfl, hb3⟩)
    | ((with_reducible refine (H4.out _).mono ?_); rintro e x4 ⟨rfl, hb4⟩)
    | ((with_reducible refine (H5.out _).mono ?_); rintro e x5 ⟨rfl, hb5⟩)
    | ((with_reducible refine (H6.out _).mono ?_); rintro e x6 ⟨rfl, hb6⟩))
  have hb6' : Below w.heap.size w x6 := hb1.trans ((hb2.trans ((hb3.trans ((hb4.trans ((hb5.trans (hb6.mono hb5.size)).mono hb4.size)).mono hb3.size)).mono hb2.size)).mono hb1.size)
  have HB6 := hidep hb6'
  clear hb1 hb2 hb3 hb4 hb5 hb6 hb6' H1 H2 H3 H4 H5 H6
  go_upto_region 3 with (first
    | (go_at_call 28; refine (HSM.out _).mono ?_; rintro e y1 ⟨V, rfl, hT, hb⟩; unfold TabV.v)
    | (go_at_call 27; refine (H7.out V _ hT).mono ?_; rintro e y2 ⟨v2, rfl, hb2⟩))
  have HB7 := hidep (HB6.out.trans ((hb.trans (hb2.mono hb.size)).mono HB6.out.size))
  clear hb hb2 hT
  go_upto_region 4 with (first
    | (go_at_call 28; refine (HSM.out _).mono ?_; rintro e y3 ⟨V, rfl, hT, hb⟩; unfold TabV.v)
    | (go_at_call 12; refine (H8.out V _ hT).mono ?_; rintro e y4 ⟨a4, c4, rfl, hb2⟩))
  have HB8 := hidep (HB7.out.trans ((hb.trans (hb2.mono hb.size)).mono HB7.out.size))
  clear hb hb2 hT
  go_wp2_with (first
    | (go_at_call 28; refine (HSM.out _).mono ?_; rintro e y5 ⟨V, rfl, hT, hb⟩; unfold TabV.v)
    | (go_at_call 10; refine (H9.out V _ hT).mono ?_; rintro e y6 ⟨rfl, hb2⟩))
  go_ret
  exact ⟨rfl, HB8.out.trans ((hb.trans (hb2.mono hb.size)).mono HB8.out.size)⟩
end Go.Proofs.Ytcfjepcflanjbaa
