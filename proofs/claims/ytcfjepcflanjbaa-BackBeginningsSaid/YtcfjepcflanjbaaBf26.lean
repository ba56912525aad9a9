/- Contracts: cmp.Compare of ints and bytes, cmp.Or, the order of characters and of texts. -/
import Derived.Test.YtcfjepcflanjbaaBf15
import Derived.Lib.QuietBelow
namespace Go.Proofs.Ytcfjepcflanjbaa
open Go.RowKit Go.Lab Go.Shelf
set_option maxRecDepth 100000
def cmpI (x y : Int) : Int := if x < y then -1 else if y < x then 1 else 0
set_option maxHeartbeats 400000 in
theorem nanI_any (x : Int) (w : World) : Calls Try.prog 90 #[.int .i64 x] w fun e w' => e = .returned (.bool false) ∧ w' = w := by
  have h : (x != x) = false := by simp
  go_enter Try.func90, Try.ntmps90
  go_wp2
  go_ret
  exact ⟨rfl, rfl⟩
set_option maxHeartbeats 400000 in
theorem nanB_any (x : Int) (w : World) : Calls Try.prog 91 #[.int .u8 x] w fun e w' => e = .returned (.bool false) ∧ w' = w := by
  have h : (x != x) = false := by simp
  go_enter Try.func91, Try.ntmps91
  go_wp2
  go_ret
  exact ⟨rfl, rfl⟩
set_option maxHeartbeats 1000000 in
theorem cmpI_any (x y : Int) (w : World) : Calls Try.prog 75 #[.int .i64 x, .int .i64 y] w fun e w' => e = .returned (.int .i64 (cmpI x y)) ∧ w' = w := by
  have HN := hidep (fun x W => nanI_any x W)
  by_cases h1 : x < y
  · have HC := hidep (show cmpI x y = -1 from by unfold cmpI; rw [if_pos h1])
    go_enter Try.func75, Try.ntmps75
    go_wp2_with (go_at_call 90; refine (HN.out _ _).mono ?_; rintro e w1 ⟨rfl, rfl⟩)
    go_ret
    exact ⟨ret_val (congrArg (Value.int .i64) HC.out.symm), rfl⟩
  · by_cases h2 : x > y
    · have HC := hidep (show cmpI x y = 1 from by unfold cmpI; rw [if_neg h1, if_pos h2])
      go_enter Try.func75, Try.ntmps75
      go_wp2_with (go_at_call 90; refine (HN.out _ _).mono ?_; rintro e w1 ⟨rfl, rfl⟩)
      go_ret
      exact ⟨ret_val (congrArg (Value.int .i64) HC.out.symm), rfl⟩
    · have HC := hidep (show cmpI x y = 0 from by unfold cmpI; rw [if_neg h1, if_neg h2])
      go_enter Try.func75, Try.ntmps75
      go_wp2_with (go_at_call 90; refine (HN.out _ _).mono ?_; rintro e w1 ⟨rfl, rfl⟩)
      go_ret
      exact ⟨ret_val (congrArg (Value.int .i64) HC.out.symm), rfl⟩
set_option maxHeartbeats 1000000 in
theorem cmpB_any (x y : Int) (w : World) : Calls Try.prog 76 #[.int .u8 x, .int .u8 y] w fun e w' => e = .returned (.int .i64 (cmpI x y)) ∧ w' = w := by
  have HN := hidep (fun x W => nanB_any x W)
  by_cases h1 : x < y
  · have HC := hidep (show cmpI x y = -1 from by unfold cmpI; rw [if_pos h1])
    go_enter Try.func76, Try.ntmps76
    go_wp2_with (go_at_call 91; refine (HN.out _ _).mono ?_; rintro e w1 ⟨rfl, rfl⟩)
    go_ret
    exact ⟨ret_val (congrArg (Value.int .i64) HC.out.symm), rfl⟩
  · by_cases h2 : x > y
    · have HC := hidep (show cmpI x y = 1 from by unfold cmpI; rw [if_neg h1, if_pos h2])
      go_enter Try.func76, Try.ntmps76
      go_wp2_with (go_at_call 91; refine (HN.out _ _).mono ?_; rintro e w1 ⟨rfl, rfl⟩)
      go_ret
      exact ⟨ret_val (congrArg (Value.int .i64) HC.out.symm), rfl⟩
    · have HC := hidep (show cmpI x y = 0 from by unfold cmpI; rw [if_neg h1, if_neg h2])
      go_enter Try.func76, Try.ntmps76
      go_wp2_with (go_at_call 91; refine (HN.out _ _).mono ?_; rintro e w1 ⟨rfl, rfl⟩)
      go_ret
      exact ⟨ret_val (congrArg (Value.int .i64) HC.out.symm), rfl⟩
/-- Or of two. -/
def orZ (a b : Int) : Int := if a ≠ 0 then a else b
set_option maxHeartbeats 2000000 in
theorem orI_any (a b : Int) (g : Nat) (w : World) (h : w.heap[g]? = some (.cells #[.int .i64 a, .int .i64 b] 3)) : Calls Try.prog 74 #[.slice (some ⟨g, 0, none⟩) 2 2] w fun e w' => e = .returned (.int .i64 (orZ a b)) ∧ w' = w := by
  have c0 : w.cell? ⟨g, 0, none⟩ = some (.int .i64 a) := by simp [World.cell?, h]
  have c1 : w.cell? ⟨g, 1, none⟩ = some (.int .i64 b) := by simp [World.cell?, h]
  go_enter Try.func74, Try.ntmps74
  go_upto_region 3 with (fail)
  go_loopw [8] (fun i wr => ∃ k : Nat, k ≤ 2 ∧ i = .int .i64 k ∧ (0 < k → Hid (a = 0)) ∧ (1 < k → Hid (b = 0)) ∧ wr = w) (fun i _ => 2 - (intOf i).toNat)
  case atStart => exact ⟨0, by omega, rfl, fun h => by omega, fun h => by omega, rfl⟩
  case round =>
    obtain ⟨k, hk, rfl, h0, h1, rfl⟩ := hrel
    rcases (by omega : k = 0 ∨ k = 1 ∨ k = 2) with rfl | rfl | rfl
    · by_cases ha : a = 0
      · have hn : (a != 0) = false := by simp [ha]
        have HA := hidep ha
        clear ha
        go_wp2
        go_roundw
        case rel => exact ⟨1, by omega, rfl, fun _ => HA, fun h => by omega, trivial⟩
        case measure => simp [intOf]
      · have hn : (a != 0) = true := by simp [ha]
        have HO := hidep (show orZ a b = a from if_pos ha)
        clear ha
        go_wp2
        go_ret
        exact ⟨ret_val (congrArg (Value.int .i64) HO.out.symm), rfl⟩
    · have HA := h0 (by omega)
      by_cases hb : b = 0
      · have hn : (b != 0) = false := by simp [hb]
        have HB := hidep hb
        clear hb
        go_wp2
        go_roundw
        case rel => exact ⟨2, by omega, rfl, fun _ => HA, fun _ => HB, trivial⟩
        case measure => simp [intOf]
      · have hn : (b != 0) = true := by simp [hb]
        have HO := hidep (show orZ a b = b from if_neg (fun h => h HA.out))
        clear hb
        go_wp2
        go_ret
        exact ⟨ret_val (congrArg (Value.int .i64) HO.out.symm), rfl⟩
    · have HA := h0 (by omega)
      have HB := h1 (by omega)
      have HO := hidep (show orZ a b = 0 from by unfold orZ; rw [if_neg (fun h => h HA.out)]; exact HB.out)
      go_wp2
      go_ret
      exact ⟨ret_val (congrArg (Value.int .i64) HO.out.symm), rfl⟩
/-- As Below, and no draw is undone. -/
structure BelD (B : Nat) (w w' : World) : Prop where
  b : Below B w w'
  d : w.drawn ≤ w'.drawn
theorem BelD.refl (B : Nat) (w : World) : BelD B w w := ⟨Below.refl _ _, Nat.le_refl _⟩
theorem BelD.trans {B : Nat} {a b c : World} (h : BelD B a b) (k : BelD B b c) : BelD B a c := ⟨h.b.trans k.b, Nat.le_trans h.d k.d⟩
theorem BelD.mono {B B' : Nat} {w w' : World} (h : BelD B w w') (hB : B' ≤ B) : BelD B' w w' := ⟨h.b.mono hB, h.d⟩
theorem BelD.drew {B : Nat} {a w : World} (h : BelD B a w) : BelD B a w.drew := ⟨h.b.drew, Nat.le_trans h.d (Nat.le_succ _)⟩
theorem BelD.alloc {B : Nat} {a w : World} (h : BelD B a w) (hB : B ≤ w.heap.size) (o : Obj) : BelD B a (w.alloc o) := ⟨h.b.alloc hB o, h.d⟩
theorem BelD.size {B : Nat} {a w : World} (h : BelD B a w) : a.heap.size ≤ w.heap.size := h.b.size
theorem intro_allocD {K : Act → World → Prop} {a : Act} {W : World} {o : Obj} (h : ∀ X, BelD W.heap.size W X → X.heap[W.heap.size]? = some o → K a X) : K a (W.alloc o) :=
  h _ ((BelD.refl _ _).alloc (Nat.le_refl _) o) (heap_alloc_new _ _)
theorem intro_alloc_drewD {K : Act → World → Prop} {a : Act} {W : World} {o : Obj} (h : ∀ X, BelD W.heap.size W X → X.heap[W.heap.size]? = some o → K a X) : K a (W.alloc o).drew :=
  h _ (((BelD.refl _ _).alloc (Nat.le_refl _) o).drew) (heap_alloc_new _ _)
/-- Then the world is the old one after some draws, with some blocks behind it. -/
theorem BelD.grown {w w' : World} (h : BelD w.heap.size w w') : ∃ q os', w' = Go.Sort.grow (w.drewN q) os' := by
  obtain ⟨⟨d, os⟩, rfl⟩ := regrown_of_below h.b
  have hd : w.drawn ≤ d := h.d
  refine ⟨d - w.drawn, os, ?_⟩
  unfold redrawn World.drewN
  rw [Nat.add_sub_cancel' hd]
/-- The order of characters. -/
def symCmp (x y : Sym) : Int := orZ (cmpI x.lang y.lang) (cmpI x.c y.c)
set_option maxHeartbeats 2000000 in
theorem cmp1D_any (x y : Sym) (w : World) : Calls Try.prog 73 #[.agg #[.int .i64 x.lang, .int .u8 x.c], .agg #[.int .i64 y.lang, .int .u8 y.c]] w fun e w' => e = .returned (.int .i64 (symCmp x y)) ∧ BelD w.heap.size w w' := by
  obtain ⟨xl, xc⟩ := x
  obtain ⟨yl, yc⟩ := y
  simp only
  have HS := hidep (show symCmp ⟨xl, xc⟩ ⟨yl, yc⟩ = orZ (cmpI xl yl) (cmpI xc yc) from rfl)
  have HC1 := hidep (fun W => cmpI_any xl yl W)
  have HC2 := hidep (fun W => cmpB_any xc yc W)
  obtain ⟨c1, hc1⟩ : ∃ c, c = cmpI xl yl := ⟨_, rfl⟩
  obtain ⟨c2, hc2⟩ : ∃ c, c = cmpI xc yc := ⟨_, rfl⟩
  rw [← hc1] at HC1 HS
  rw [← hc2] at HC2 HS
  clear hc1 hc2
  go_enter Try.func73, Try.ntmps73
  go_upto_region 1 with (fail)
  obtain ⟨B, hB⟩ : ∃ B, B = w.heap.size := ⟨_, rfl⟩
  refine wp_abs (fun X => BelD w.heap.size w X ∧ X.heap[B]? = some (.cells #[.int .i64 xl, .int .u8 xc] 49) ∧ X.heap[B + 1]? = some (.cells #[.int .i64 yl, .int .u8 yc] 49)) ⟨((BelD.refl _ _).alloc (Nat.le_refl _) _).alloc (by rw [World.size_alloc]; omega) _, by rw [hB]; exact (heap2 _ _ _).1, by rw [hB]; exact (heap2 _ _ _).2⟩ ?_
  rintro X ⟨hbX, h0, h1⟩
  rw [show w.heap.size + 1 = B + 1 from by rw [hB], ← hB]
  have HX := hidep (And.intro hbX (And.intro h0 h1))
  have HSEE := hidep (fun (Z : World) (hZ : Below X.heap.size X Z) => by
    have a0 := below_push hZ HX.out.2.1
    have a1 := below_push hZ HX.out.2.2
    exact (⟨by simp [World.cell?, a0], by simp [World.cell?, a0], by simp [World.cell?, a1], by simp [World.cell?, a1]⟩ : Z.cell? ⟨B, 0, none⟩ = some (.int .i64 xl) ∧ Z.cell? ⟨B, 1, none⟩ = some (.int .u8 xc) ∧ Z.cell? ⟨B + 1, 0, none⟩ = some (.int .i64 yl) ∧ Z.cell? ⟨B + 1, 1, none⟩ = some (.int .u8 yc)))
  clear hbX h0 h1 hB
  refine wp_region_noPanic (wp_region_held_drew (S := (fun Z => BelD X.heap.size X Z)) (by kernel_rfl) ?hS73r1n0 (fun hHeld => ?hR73r1n0))
  case hS73r1n0 => ((try dsimp only); (exact (BelD.refl _ _).drew))
  refine wpAnyH_take (i := 0) (v := ?v73r1n0q1) rfl (by kernel_rfl) (by kernel_rfl) (by kernel_rfl) (fun _ _ _ h => h) (Or.inl ⟨by kernel_rfl, ?hy73r1n0q1⟩) (by assumption) ?hr73r1n0q1
  case hy73r1n0q1 => (intro w hSw; (try dsimp only at hSw); (obtain ⟨p0, p1, p2, p3⟩ := HSEE.out _ hSw.b); first | (go_simp; done) | (go_simp; with_reducible rfl))
  refine wpAnyH_take (i := 1) (v := ?v73r1n0q2) rfl (by kernel_rfl) (by kernel_rfl) (by kernel_rfl) (fun _ _ _ h => h) (Or.inl ⟨by kernel_rfl, ?hy73r1n0q2⟩) (by assumption) ?hr73r1n0q2
  case hy73r1n0q2 => (intro w hSw; (try dsimp only at hSw); (obtain ⟨p0, p1, p2, p3⟩ := HSEE.out _ hSw.b); first | (go_simp; done) | (go_simp; with_reducible rfl))
  refine wpAnyH_take (i := 2) (v := ?v73r1n0q3) rfl (by kernel_rfl) (by kernel_rfl) (by kernel_rfl) (fun _ _ _ h => h) (Or.inl ⟨by kernel_rfl, ?hy73r1n0q3⟩) (by assumption) ?hr73r1n0q3
  case hy73r1n0q3 => (intro w hSw; (try dsimp only at hSw); (obtain ⟨p0, p1, p2, p3⟩ := HSEE.out _ hSw.b); first | (go_simp; done) | (go_simp; with_reducible rfl))
  refine wpAnyH_take (i := 3) (v := ?v73r1n0q4) rfl (by kernel_rfl) (by kernel_rfl) (by kernel_rfl) (fun _ _ _ h => h) (Or.inl ⟨by kernel_rfl, ?hy73r1n0q4⟩) (by assumption) ?hr73r1n0q4
  case hy73r1n0q4 => (intro w hSw; (try dsimp only at hSw); (obtain ⟨p0, p1, p2, p3⟩ := HSEE.out _ hSw.b); first | (go_simp; done) | (go_simp; with_reducible rfl))
  refine wpAnyH_take (i := 5) (v := ?v73r1n0q5) rfl (by kernel_rfl) (by kernel_rfl) (by kernel_rfl) (fun _ _ _ h => h) (Or.inl ⟨by kernel_rfl, ?hy73r1n0q5⟩) (by assumption) ?hr73r1n0q5
  case hy73r1n0q5 => (intro w hSw; (try dsimp only at hSw); (obtain ⟨p0, p1, p2, p3⟩ := HSEE.out _ hSw.b); first | (go_simp; done) | (go_simp; with_reducible rfl))
  refine wpAnyH_take (i := 6) (v := ?v73r1n0q6) rfl (by kernel_rfl) (by kernel_rfl) (by kernel_rfl) (fun _ _ _ h => h) (Or.inl ⟨by kernel_rfl, ?hy73r1n0q6⟩) (by assumption) ?hr73r1n0q6
  case hy73r1n0q6 => (intro w hSw; (try dsimp only at hSw); (obtain ⟨p0, p1, p2, p3⟩ := HSEE.out _ hSw.b); first | (go_simp; done) | (go_simp; with_reducible rfl))
  refine wpAnyH_take (i := 7) (v := ?v73r1n0q7) rfl (by kernel_rfl) (by kernel_rfl) (by kernel_rfl) (fun _ _ _ h => h) (Or.inl ⟨by kernel_rfl, ?hy73r1n0q7⟩) (by assumption) ?hr73r1n0q7
  case hy73r1n0q7 => (intro w hSw; (try dsimp only at hSw); (obtain ⟨p0, p1, p2, p3⟩ := HSEE.out _ hSw.b); first | (go_simp; done) | (go_simp; with_reducible rfl))
  refine wpAnyH_take (i := 8) (v := ?v73r1n0q8) rfl (by kernel_rfl) (by kernel_rfl) (by kernel_rfl) (fun _ _ _ h => h) (Or.inl ⟨by kernel_rfl, ?hy73r1n0q8⟩) (by assumption) ?hr73r1n0q8
  case hy73r1n0q8 => (intro w hSw; (try dsimp only at hSw); (obtain ⟨p0, p1, p2, p3⟩ := HSEE.out _ hSw.b); first | (go_simp; done) | (go_simp; with_reducible rfl))
  refine wpAnyH_ready (rs := [4]) (by kernel_rfl) (by simp) (AllReadyH.cons rfl (fun K hK => ?hc73r1n0q9) AllReadyH.nil)
  go_simp
  (go_at_call 75; refine (HC1.out _).mono ?_; rintro e' w9 ⟨rfl, rfl⟩; have hk := hHeld; (try dsimp only))
  refine hK.out _ _ ?hs73r1n0q9 (fun hHeld73r1n0q9 => ?ht73r1n0q9)
  case hs73r1n0q9 => ((try dsimp only); (exact hk))
  clear hHeld hK
  have hHeld := hHeld73r1n0q9
  clear hHeld73r1n0q9
  refine wpAnyH_ready (rs := [9]) (by kernel_rfl) (by simp) (AllReadyH.cons rfl (fun K hK => ?hc73r1n0q10) AllReadyH.nil)
  go_simp
  (go_at_call 76; refine (HC2.out _).mono ?_; rintro e' w9 ⟨rfl, rfl⟩; have hk := hHeld; (try dsimp only))
  refine hK.out _ _ ?hs73r1n0q10 (fun hHeld73r1n0q10 => ?ht73r1n0q10)
  case hs73r1n0q10 => ((try dsimp only); (exact hk))
  clear hHeld hK
  have hHeld := hHeld73r1n0q10
  clear hHeld73r1n0q10
  refine wpAnyH_ready (rs := [10]) (by kernel_rfl) (by simp) (AllReadyH.cons rfl (fun K hK => ?hc73r1n0q11) AllReadyH.nil)
  go_simp
  ((first | refine intro_allocD (fun X5 hBX hL => ?_) | refine intro_alloc_drewD (fun X5 hBX hL => ?_)); have hk := (by first | exact hHeld.trans (hBX.mono hHeld.size) | exact hBX : BelD X.heap.size X X5); (try dsimp only))
  refine hK.out _ _ ?hs73r1n0q11 (fun hHeld73r1n0q11 => ?ht73r1n0q11)
  case hs73r1n0q11 => ((try dsimp only); (exact hk))
  clear hHeld hK
  have hHeld := hHeld73r1n0q11
  clear hHeld73r1n0q11
  refine wpAnyH_ready (rs := [11]) (by kernel_rfl) (by simp) (AllReadyH.cons rfl (fun K hK => ?hc73r1n0q12) AllReadyH.nil)
  go_simp
  (go_at_call 74; refine (orI_any c1 c2 _ _ hL).mono ?_; rintro e' w9 ⟨rfl, rfl⟩; (try dsimp only))
  refine hK.out _ _ ?hs73r1n0q12 (fun hHeld73r1n0q12 => ?ht73r1n0q12)
  case hs73r1n0q12 => ((try dsimp only); (exact hk))
  clear hHeld hK
  have hHeld := hHeld73r1n0q12
  clear hHeld73r1n0q12
  refine wpAnyH_take (i := 12) (v := ?v73r1n0q13) rfl (by kernel_rfl) (by kernel_rfl) (by kernel_rfl) (fun _ _ _ h => h) (Or.inl ⟨by kernel_rfl, ?hy73r1n0q13⟩) (by assumption) ?hr73r1n0q13
  case hy73r1n0q13 => (intro w hSw; (try dsimp only at hSw); (obtain ⟨p0, p1, p2, p3⟩ := HSEE.out _ hSw.b); first | (go_simp; done) | (go_simp; with_reducible rfl))
  refine wpAnyH_done (by kernel_rfl) ?_ _
  clear hHeld
  refine NoPanic.normal ?_
  all_goals
    go_wp2
    go_ret
    exact ⟨ret_val (congrArg (Value.int .i64) HS.out.symm), HX.out.1.trans (hk.mono HX.out.1.size)⟩
theorem cmp1_any (x y : Sym) (w : World) : Calls Try.prog 73 #[.agg #[.int .i64 x.lang, .int .u8 x.c], .agg #[.int .i64 y.lang, .int .u8 y.c]] w fun e w' => e = .returned (.int .i64 (symCmp x y)) ∧ Below w.heap.size w w' := (cmp1D_any x y w).mono fun _ _ ⟨h, k⟩ => ⟨h, k.b⟩
/-- The order of texts. -/
def textCmp : List Sym → List Sym → Int
  | [], [] => 0
  | [], _ :: _ => -1
  | _ :: _, [] => 1
  | x :: a, y :: b => if symCmp x y ≠ 0 then symCmp x y else textCmp a b
theorem textCmp_at {a b : List Sym} {k : Nat} (ha : k < a.length) (hb : k < b.length) : textCmp (a.drop k) (b.drop k) = if symCmp a[k] b[k] ≠ 0 then symCmp a[k] b[k] else textCmp (a.drop (k + 1)) (b.drop (k + 1)) := by
  rw [List.drop_eq_getElem_cons ha, List.drop_eq_getElem_cons hb]
  rfl
theorem textCmp_more {a b : List Sym} {k : Nat} (ha : k < a.length) (hb : b.length ≤ k) : textCmp (a.drop k) (b.drop k) = 1 := by
  rw [List.drop_eq_getElem_cons ha, List.drop_eq_nil_of_le hb]
  rfl
theorem textCmp_end {a b : List Sym} {k : Nat} (ha : a.length ≤ k) (hk : k ≤ a.length) : textCmp (a.drop k) (b.drop k) = if a.length < b.length then -1 else 0 := by
  rw [List.drop_eq_nil_of_le ha]
  cases h : b.drop k with
  | nil =>
    have := List.drop_eq_nil_iff.1 h
    rw [if_neg (by omega)]
    rfl
  | cons y c =>
    have : (b.drop k).length ≠ 0 := by rw [h]; simp
    rw [List.length_drop] at this
    rw [if_pos (by omega)]
    rfl
set_option maxHeartbeats 2000000 in
theorem cmpFuncD_any (va vb : Value) (a b : List Sym) (w : World) (ha : SymsAt w va a) (hb : SymsAt w vb b) : Calls Try.prog 72 #[va, vb, .func (.func 73) #[] #[]] w fun e w' => e = .returned (.int .i64 (textCmp a b)) ∧ BelD w.heap.size w w' := by
  obtain ⟨aa, ac, rfl, hac, ham⟩ := ha.form
  obtain ⟨ba, bc, rfl, hbc, hbm⟩ := hb.form
  unfold maxLen at ham hbm
  have HA := hidep ha
  have HB := hidep hb
  clear ha hb
  go_enter Try.func72, Try.ntmps72
  go_upto_region 2 with (fail)
  go_loopw [13] (fun i wr => ∃ k : Nat, k ≤ a.length ∧ i = .int .i64 k ∧ Hid (textCmp a b = textCmp (a.drop k) (b.drop k)) ∧ BelD w.heap.size w wr) (fun i _ => a.length - (intOf i).toNat)
  case atStart => exact ⟨0, Nat.zero_le _, rfl, hidep rfl, BelD.refl _ _⟩
  case round =>
    obtain ⟨k, hk, rfl, HE, hbw⟩ := hrel
    have HBW := hidep hbw
    by_cases hka : k < a.length
    · obtain ⟨ab, ao, rfl, hab, x0, x1⟩ := (HA.out.below hbw.b).at hka
      have hki : (k : Int) < (a.length : Int) := by omega
      have hk0 : (0 : Int) ≤ (k : Int) := by omega
      by_cases hkb : k < b.length
      · obtain ⟨bb, bo, rfl, hbb, y0, y1⟩ := (HB.out.below hbw.b).at hkb
        have hkbi : ¬ (k : Int) ≥ (b.length : Int) := by omega
        have hkbj : (k : Int) < (b.length : Int) := by omega
        have HT := hidep (textCmp_at hka hkb)
        obtain ⟨x, hx⟩ : ∃ x, x = a[k] := ⟨_, rfl⟩
        obtain ⟨y, hy⟩ : ∃ y, y = b[k] := ⟨_, rfl⟩
        rw [← hx] at x0 x1 HT
        rw [← hy] at y0 y1 HT
        have HY := hidep (And.intro hbb (And.intro y0 y1))
        clear hx hy hbw y0 y1
        go_upto_region 4 with (fail)
        obtain ⟨Bx, hBx⟩ : ∃ B, B = wr.heap.size := ⟨_, rfl⟩
        refine wp_abs (fun X => BelD wr.heap.size wr X ∧ X.heap[Bx]? = some (.cells #[.int .i64 x.lang, .int .u8 x.c] 49)) ⟨(BelD.refl _ _).alloc (Nat.le_refl _) _, by rw [hBx]; exact heap_alloc_new _ _⟩ ?_
        rintro X1 ⟨hb1, hx1⟩
        rw [← hBx]
        have HX1 := hidep (And.intro hb1 hx1)
        have y0 := (hb1.b.cell (p := ⟨bb, bo + k * 2, none⟩) HY.out.1).trans HY.out.2.1
        have y1 := (hb1.b.cell (p := ⟨bb, bo + k * 2 + 1, none⟩) HY.out.1).trans HY.out.2.2
        clear hb1 hx1 hBx x0 x1
        go_upto_region 7 with (fail)
        obtain ⟨By, hBy⟩ : ∃ B, B = X1.heap.size := ⟨_, rfl⟩
        refine wp_abs (fun X => BelD X1.heap.size X1 X ∧ X.heap[By]? = some (.cells #[.int .i64 y.lang, .int .u8 y.c] 49)) ⟨(BelD.refl _ _).alloc (Nat.le_refl _) _, by rw [hBy]; exact heap_alloc_new _ _⟩ ?_
        rintro X2 ⟨hb2, hy2⟩
        rw [← hBy]
        have hx2 := below_push hb2.b HX1.out.2
        have p0 : X2.cell? ⟨Bx, 0, none⟩ = some (.int .i64 x.lang) := by simp [World.cell?, hx2]
        have p1 : X2.cell? ⟨Bx, 1, none⟩ = some (.int .u8 x.c) := by simp [World.cell?, hx2]
        have p2 : X2.cell? ⟨By, 0, none⟩ = some (.int .i64 y.lang) := by simp [World.cell?, hy2]
        have p3 : X2.cell? ⟨By, 1, none⟩ = some (.int .u8 y.c) := by simp [World.cell?, hy2]
        have HC := hidep (cmp1D_any x y X2)
        have HB2 := hidep (HBW.out.trans ((HX1.out.1.trans (hb2.mono HX1.out.1.size)).mono HBW.out.size))
        obtain ⟨c, hc⟩ : ∃ c, c = symCmp x y := ⟨_, rfl⟩
        rw [← hc] at HC HT
        clear hb2 hy2 hx2 y0 y1 hBy hc
        by_cases hc0 : c = 0
        · have hcn : (c != 0) = false := by simp [hc0]
          have HE2 := hidep (HE.out.trans (HT.out.trans (if_neg (fun h => h hc0))))
          clear hc0
          go_wp2_with (go_at_call 73; refine HC.out.mono ?_; rintro e w4 ⟨rfl, hb4⟩)
          go_roundw
          case rel => exact ⟨k + 1, by omega, by go_num, HE2, HB2.out.trans (hb4.mono HB2.out.size)⟩
          case measure => simp [intOf]; omega
        · have hcn : (c != 0) = true := by simp [hc0]
          have HE2 := hidep (HE.out.trans (HT.out.trans (if_pos hc0)))
          clear hc0
          go_wp2_with (go_at_call 73; refine HC.out.mono ?_; rintro e w4 ⟨rfl, hb4⟩)
          go_ret
          exact ⟨ret_val (congrArg (Value.int .i64) HE2.out.symm), HB2.out.trans (hb4.mono HB2.out.size)⟩
      · have hkbi : (k : Int) ≥ (b.length : Int) := by omega
        have HR := hidep (HE.out.trans (textCmp_more hka (by omega)))
        clear hbw
        go_wp2
        go_ret
        exact ⟨ret_val (congrArg (Value.int .i64) HR.out.symm), HBW.out.alloc HBW.out.size _⟩
    · have hki : ¬ (k : Int) < (a.length : Int) := by omega
      have HR := hidep (HE.out.trans (textCmp_end (by omega) hk))
      clear hbw
      by_cases hab : (a.length : Int) < (b.length : Int)
      · have HR2 := hidep (HR.out.trans (if_pos (by omega)))
        go_wp2
        go_ret
        exact ⟨ret_val (congrArg (Value.int .i64) HR2.out.symm), HBW.out⟩
      · have HR2 := hidep (HR.out.trans (if_neg (by omega)))
        go_wp2
        go_ret
        exact ⟨ret_val (congrArg (Value.int .i64) HR2.out.symm), HBW.out⟩
set_option maxHeartbeats 400000 in
theorem compareD_any (va vb : Value) (a b : List Sym) (w : World) (ha : SymsAt w va a) (hb : SymsAt w vb b) : Calls Try.prog 49 #[va, vb] w fun e w' => e = .returned (.int .i64 (textCmp a b)) ∧ BelD w.heap.size w w' := by
  have HC := hidep (cmpFuncD_any va vb a b w ha hb)
  clear ha hb
  go_enter Try.func49, Try.ntmps49
  go_wp2_with (go_at_call 72; refine HC.out.mono ?_; rintro e w1 ⟨rfl, hb1⟩)
  go_ret
  exact ⟨rfl, hb1⟩
theorem compare_any (va vb : Value) (a b : List Sym) (w : World) (ha : SymsAt w va a) (hb : SymsAt w vb b) : Calls Try.prog 49 #[va, vb] w fun e w' => e = .returned (.int .i64 (textCmp a b)) ∧ Below w.heap.size w w' := (compareD_any va vb a b w ha hb).mono fun _ _ ⟨h, k⟩ => ⟨h, k.b⟩
end Go.Proofs.Ytcfjepcflanjbaa
