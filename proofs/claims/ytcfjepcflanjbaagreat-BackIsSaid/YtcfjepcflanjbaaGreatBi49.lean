/- Contract: the examples of Back. -/
import Derived.Test.YtcfjepcflanjbaaGreatBi41
namespace Go.Proofs.YtcfjepcflanjbaaGreat
open Go.RowKit Go.Lab Go.Shelf
set_option maxRecDepth 100000
theorem bys_lit (W : World) (l : List Int) (hl : l.length ≤ 1000) (hr : ∀ x ∈ l, 1 ≤ x ∧ x ≤ 63) : BysAt (W.alloc (.cells (byC l).toArray 5)) (.slice (some ⟨W.heap.size, 0, none⟩) l.length l.length) l := (byT_lit l (heap_alloc_new _ _) hl hr).at
theorem below_lit {W w' : World} {o : Obj} (h : Below (W.alloc o).heap.size (W.alloc o) w') : Below W.heap.size W w' := ((Below.refl _ _).alloc (Nat.le_refl _) o).trans (h.mono (by rw [World.size_alloc]; omega))
theorem sm_check (C : List Int) (h : C.length ≤ 8192) : checkZ smallT C = 0 := by
  unfold checkZ
  rw [if_neg (fun e => e sm_valid), if_neg (by omega)]
theorem reads1 (W : World) : Calls Tryz.prog 47 #[.slice (some ⟨W.heap.size, 0, none⟩) 2 2, .int .i64 0, .string ⟨#[65, 110]⟩] (W.alloc (.cells #[.int .u8 60, .int .u8 30] 5)) fun e w' => e = .returned (.bool true) ∧ Below W.heap.size W w' :=
  (reads_true _ [60, 30] 0 ⟨#[65, 110]⟩ [⟨0, 65⟩, ⟨0, 110⟩] _ (bys_lit W [60, 30] (by decide) (by decide)) (by decide) sm_read1 rfl (by decide) (by decide +kernel) (by unfold SymOk; decide) (by decide) sm_is1).mono fun _ _ ⟨h1, h2⟩ => ⟨h1, below_lit h2⟩
theorem reads2 (W : World) : Calls Tryz.prog 47 #[.slice (some ⟨W.heap.size, 0, none⟩) 1 1, .int .i64 0, .string ⟨#[97, 110]⟩] (W.alloc (.cells #[.int .u8 31] 5)) fun e w' => e = .returned (.bool true) ∧ Below W.heap.size W w' :=
  (reads_true _ [31] 0 ⟨#[97, 110]⟩ [⟨0, 97⟩, ⟨0, 110⟩] _ (bys_lit W [31] (by decide) (by decide)) (by decide) sm_read2 rfl (by decide) (by decide +kernel) (by unfold SymOk; decide) (by decide) sm_is2).mono fun _ _ ⟨h1, h2⟩ => ⟨h1, below_lit h2⟩
theorem reads3 (W : World) : Calls Tryz.prog 47 #[.slice (some ⟨W.heap.size, 0, none⟩) 2 2, .int .i64 0, .string ⟨#[97, 110, 46]⟩] (W.alloc (.cells #[.int .u8 31, .int .u8 33] 5)) fun e w' => e = .returned (.bool true) ∧ Below W.heap.size W w' :=
  (reads_true _ [31, 33] 0 ⟨#[97, 110, 46]⟩ [⟨0, 97⟩, ⟨0, 110⟩, ⟨0, 46⟩] _ (bys_lit W [31, 33] (by decide) (by decide)) (by decide) sm_read3 rfl (by decide) (by decide +kernel) (by unfold SymOk; decide) (by decide) sm_is3).mono fun _ _ ⟨h1, h2⟩ => ⟨h1, below_lit h2⟩
theorem reads4 (W : World) : Calls Tryz.prog 47 #[.slice (some ⟨W.heap.size, 0, none⟩) 3 3, .int .i64 0, .string ⟨#[98, 97, 110]⟩] (W.alloc (.cells #[.int .u8 2, .int .u8 1, .int .u8 32] 5)) fun e w' => e = .returned (.bool true) ∧ Below W.heap.size W w' :=
  (reads_true _ [2, 1, 32] 0 ⟨#[98, 97, 110]⟩ [⟨0, 98⟩, ⟨0, 97⟩, ⟨0, 110⟩] _ (bys_lit W [2, 1, 32] (by decide) (by decide)) (by decide) sm_read4 rfl (by decide) (by decide +kernel) (by unfold SymOk; decide) (by decide) sm_is4).mono fun _ _ ⟨h1, h2⟩ => ⟨h1, below_lit h2⟩
theorem reads5 (W : World) : Calls Tryz.prog 47 #[.slice (some ⟨W.heap.size, 0, none⟩) 4 4, .int .i64 0, .string ⟨#[55, 97]⟩] (W.alloc (.cells #[.int .u8 61, .int .u8 48, .int .u8 62, .int .u8 1] 5)) fun e w' => e = .returned (.bool true) ∧ Below W.heap.size W w' :=
  (reads_true _ [61, 48, 62, 1] 0 ⟨#[55, 97]⟩ [⟨0, 55⟩, ⟨0, 97⟩] _ (bys_lit W [61, 48, 62, 1] (by decide) (by decide)) (by decide) sm_read5 rfl (by decide) (by decide +kernel) (by unfold SymOk; decide) (by decide) sm_is5).mono fun _ _ ⟨h1, h2⟩ => ⟨h1, below_lit h2⟩
theorem reads6 (W : World) : Calls Tryz.prog 47 #[.slice (some ⟨W.heap.size, 0, none⟩) 2 2, .int .i64 1, .string ⟨#[97]⟩] (W.alloc (.cells #[.int .u8 63, .int .u8 1] 5)) fun e w' => e = .returned (.bool true) ∧ Below W.heap.size W w' :=
  (reads_true _ [63, 1] 1 ⟨#[97]⟩ [⟨1, 97⟩] _ (bys_lit W [63, 1] (by decide) (by decide)) (by decide) sm_read6 rfl (by decide) (by decide +kernel) (by unfold SymOk; decide) (by decide) sm_is6).mono fun _ _ ⟨h1, h2⟩ => ⟨h1, below_lit h2⟩
theorem read7 (V : TabV) (W : World) (hT : TabIn W V smallT) : Calls Tryz.prog 30 #[.agg #[V.a, V.b, V.d, V.c, V.n, V.e, V.s], .slice (some ⟨W.heap.size, 0, none⟩) 2 2] (W.alloc (.cells #[.int .u8 31, .int .u8 20] 5)) fun e w' => ∃ v, e = .returned (.tuple #[v, .int .i64 2]) ∧ Below W.heap.size W w' :=
  (readC_any V smallT _ [31, 20] _ (hT.below ((Below.refl _ _).alloc (Nat.le_refl _) _)) sm_ok (bys_lit W [31, 20] (by decide) (by decide))).mono fun _ _ ⟨v, h1, _, h2⟩ => ⟨v, by rw [h1, sm_read7], below_lit h2⟩
theorem all8 (V : TabV) (W : World) (hT : TabIn W V smallT) : Calls Tryz.prog 42 #[.agg #[V.a, V.b, V.d, V.c, V.n, V.e, V.s], .slice (some ⟨W.heap.size, 0, none⟩) 3 3, .int .i64 3] (W.alloc (.cells #[.int .u8 61, .int .u8 48, .int .u8 1] 5)) fun e w' => ∃ a c, e = .returned (.tuple #[.slice a 0 c, .int .i64 0]) ∧ Below W.heap.size W w' :=
  (allC_any V smallT _ [61, 48, 1] 3 _ (hT.below ((Below.refl _ _).alloc (Nat.le_refl _) _)) sm_ok (bys_lit W [61, 48, 1] (by decide) (by decide))).mono fun _ _ ⟨v, h1, hs, h2⟩ => by
    rw [sm_all] at h1 hs
    obtain ⟨a, c, rfl, _, _⟩ := hs.form
    exact ⟨a, c, h1, below_lit h2⟩
theorem good9 (V : TabV) (W : World) (hT : TabIn W V smallT) : Calls Tryz.prog 44 #[.agg #[V.a, V.b, V.d, V.c, V.n, V.e, V.s], .slice (some ⟨W.heap.size, 0, none⟩) 3 3] (W.alloc (.cells #[.int .u8 61, .int .u8 48, .int .u8 1] 5)) fun e w' => e = .returned (.tuple #[.int .i64 2, .int .i64 0]) ∧ Below W.heap.size W w' :=
  (goodC_any V smallT _ [61, 48, 1] _ (hT.below ((Below.refl _ _).alloc (Nat.le_refl _) _)) sm_ok (bys_lit W [61, 48, 1] (by decide) (by decide))).mono fun _ _ ⟨h1, h2⟩ => ⟨by
    rw [h1, sm_check _ (by decide), sm_good]
    rfl, below_lit h2⟩
set_option maxHeartbeats 4000000 in
theorem lives_any (w : World) : Calls Tryz.prog 19 #[] w fun e w' => e = .returned (.bool true) ∧ Below w.heap.size w w' := by
  have HSM := hidep (fun W => small_any W)
  have H1 := hidep (fun W => reads1 W)
  have H2 := hidep (fun W => reads2 W)
  have H3 := hidep (fun W => reads3 W)
  have H4 := hidep (fun W => reads4 W)
  have H5 := hidep (fun W => reads5 W)
  have H6 := hidep (fun W => reads6 W)
  have H7 := hidep (fun V W (h : TabIn W V smallT) => read7 V W h)
  have H8 := hidep (fun V W (h : TabIn W V smallT) => all8 V W h)
  have H9 := hidep (fun V W (h : TabIn W V smallT) => good9 V W h)
  go_enter Tryz.func19, Tryz.ntmps19
  go_upto_region 2 with (go_at_call 47; first
    | ((with_reducible refine (H1.out _).mono ?_); rintro e x1 ⟨rfl, hb1⟩)
    | ((with_reducible refine (H2.out _).mono ?_); rintro e x2 ⟨rfl, hb2⟩)
    | ((with_reducible refine (H3.out _).mono ?_); rintro e x3 ⟨rfl, hb3⟩)
    | ((with_reducible refine (H4.out _).mono ?_); rintro e x4 ⟨rfl, hb4⟩)
    | ((with_reducible refine (H5.out _).mono ?_); rintro e x5 ⟨rfl, hb5⟩)
    | ((with_reducible refine (H6.out _).mono ?_); rintro e x6 ⟨rfl, hb6⟩))
  have hb6' : Below w.heap.size w x6 := hb1.trans ((hb2.trans ((hb3.trans ((hb4.trans ((hb5.trans (hb6.mono hb5.size)).mono hb4.size)).mono hb3.size)).mono hb2.size)).mono hb1.size)
  have HB6 := hidep hb6'
  clear hb1 hb2 hb3 hb4 hb5 hb6 hb6' H1 H2 H3 H4 H5 H6
  go_upto_region 3 with (first
    | (go_at_call 48; refine (HSM.out _).mono ?_; rintro e y1 ⟨V, rfl, hT, hb⟩; unfold TabV.v)
    | (go_at_call 30; refine (H7.out V _ hT).mono ?_; rintro e y2 ⟨v2, rfl, hb2⟩))
  have HB7 := hidep (HB6.out.trans ((hb.trans (hb2.mono hb.size)).mono HB6.out.size))
  clear hb hb2 hT
  go_upto_region 4 with (first
    | (go_at_call 48; refine (HSM.out _).mono ?_; rintro e y3 ⟨V, rfl, hT, hb⟩; unfold TabV.v)
    | (go_at_call 42; refine (H8.out V _ hT).mono ?_; rintro e y4 ⟨a4, c4, rfl, hb2⟩))
  have HB8 := hidep (HB7.out.trans ((hb.trans (hb2.mono hb.size)).mono HB7.out.size))
  clear hb hb2 hT
  go_wp2_with (first
    | (go_at_call 48; refine (HSM.out _).mono ?_; rintro e y5 ⟨V, rfl, hT, hb⟩; unfold TabV.v)
    | (go_at_call 44; refine (H9.out V _ hT).mono ?_; rintro e y6 ⟨rfl, hb2⟩))
  go_ret
  exact ⟨rfl, HB8.out.trans ((hb.trans (hb2.mono hb.size)).mono HB8.out.size)⟩
end Go.Proofs.YtcfjepcflanjbaaGreat
