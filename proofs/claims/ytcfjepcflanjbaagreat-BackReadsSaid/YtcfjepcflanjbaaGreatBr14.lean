/- Contracts: cmp.Compare of ints and bytes, cmp.Or, the order of characters and of texts. -/
import Derived.Test.YtcfjepcflanjbaaGreatBr02
import Derived.Test.YtcfjepcflanjbaaGreatBr13
import Derived.Lib.QuietBelow
namespace Go.Proofs.YtcfjepcflanjbaaGreat
open Go.RowKit Go.Lab Go.Shelf
set_option maxRecDepth 100000
def cmpI (x y : Int) : Int := if x < y then -1 else if y < x then 1 else 0
set_option maxHeartbeats 400000 in
theorem nanI_any (x : Int) (w : World) : Calls Tryz.prog 148 #[.int .i64 x] w fun e w' => e = .returned (.bool false) /\ w' = w := by
  have h : (x != x) = false := by simp
  go_enter Tryz.func148, Tryz.ntmps148
  go_wp2
  go_ret
  exact ⟨rfl, rfl⟩
set_option maxHeartbeats 400000 in
theorem nanB_any (x : Int) (w : World) : Calls Tryz.prog 149 #[.int .u8 x] w fun e w' => e = .returned (.bool false) /\ w' = w := by
  have h : (x != x) = false := by simp
  go_enter Tryz.func149, Tryz.ntmps149
  go_wp2
  go_ret
  exact ⟨rfl, rfl⟩
set_option maxHeartbeats 1000000 in
theorem cmpI_any (x y : Int) (w : World) : Calls Tryz.prog 132 #[.int .i64 x, .int .i64 y] w fun e w' => e = .returned (.int .i64 (cmpI x y)) /\ w' = w := by
  have HN := hidep (fun x W => nanI_any x W)
  by_cases h1 : x < y
  · have HC := hidep (show cmpI x y = -1 from by unfold cmpI; rw [if_pos h1])
    go_enter Tryz.func132, Tryz.ntmps132
    go_wp2_with (go_at_call 148; refine (HN.out _ _).mono ?_; rintro e w1 ⟨rfl, rfl⟩)
    go_ret
    exact ⟨zqb (congrArg (Value.int .i64) HC.out.symm), rfl⟩
  · by_cases h2 : x > y
    · have HC := hidep (show cmpI x y = 1 from by unfold cmpI; rw [if_neg h1, if_pos h2])
      go_enter Tryz.func132, Tryz.ntmps132
      go_wp2_with (go_at_call 148; refine (HN.out _ _).mono ?_; rintro e w1 ⟨rfl, rfl⟩)
      go_ret
      exact ⟨zqb (congrArg (Value.int .i64) HC.out.symm), rfl⟩
    · have HC := hidep (show cmpI x y = 0 from by unfold cmpI; rw [if_neg h1, if_neg h2])
      go_enter Tryz.func132, Tryz.ntmps132
      go_wp2_with (go_at_call 148; refine (HN.out _ _).mono ?_; rintro e w1 ⟨rfl, rfl⟩)
      go_ret
      exact ⟨zqb (congrArg (Value.int .i64) HC.out.symm), rfl⟩
set_option maxHeartbeats 1000000 in
theorem cmpB_any (x y : Int) (w : World) : Calls Tryz.prog 133 #[.int .u8 x, .int .u8 y] w fun e w' => e = .returned (.int .i64 (cmpI x y)) /\ w' = w := by
  have HN := hidep (fun x W => nanB_any x W)
  by_cases h1 : x < y
  · have HC := hidep (show cmpI x y = -1 from by unfold cmpI; rw [if_pos h1])
    go_enter Tryz.func133, Tryz.ntmps133
    go_wp2_with (go_at_call 149; refine (HN.out _ _).mono ?_; rintro e w1 ⟨rfl, rfl⟩)
    go_ret
    exact ⟨zqb (congrArg (Value.int .i64) HC.out.symm), rfl⟩
  · by_cases h2 : x > y
    · have HC := hidep (show cmpI x y = 1 from by unfold cmpI; rw [if_neg h1, if_pos h2])
      go_enter Tryz.func133, Tryz.ntmps133
      go_wp2_with (go_at_call 149; refine (HN.out _ _).mono ?_; rintro e w1 ⟨rfl, rfl⟩)
      go_ret
      exact ⟨zqb (congrArg (Value.int .i64) HC.out.symm), rfl⟩
    · have HC := hidep (show cmpI x y = 0 from by unfold cmpI; rw [if_neg h1, if_neg h2])
      go_enter Tryz.func133, Tryz.ntmps133
      go_wp2_with (go_at_call 149; refine (HN.out _ _).mono ?_; rintro e w1 ⟨rfl, rfl⟩)
      go_ret
      exact ⟨zqb (congrArg (Value.int .i64) HC.out.symm), rfl⟩
def orZ (a b : Int) : Int := if a ≠ 0 then a else b
set_option maxHeartbeats 2000000 in
theorem orI_any (a b : Int) (g : Nat) (w : World) (h : w.heap[g]? = some (.cells #[.int .i64 a, .int .i64 b] 3)) : Calls Tryz.prog 131 #[.slice (some ⟨g, 0, none⟩) 2 2] w fun e w' => e = .returned (.int .i64 (orZ a b)) /\ w' = w := by
  have c0 : w.cell? ⟨g, 0, none⟩ = some (.int .i64 a) := by simp [World.cell?, h]
  have c1 : w.cell? ⟨g, 1, none⟩ = some (.int .i64 b) := by simp [World.cell?, h]
  go_enter Tryz.func131, Tryz.ntmps131
  go_upto_region 3 with (fail)
  go_loopw [8] (fun i wr => ∃ k : Nat, k <= 2 /\ i = .int .i64 k /\ (0 < k -> Hid (a = 0)) /\ (1 < k -> Hid (b = 0)) /\ wr = w) (fun i _ => 2 - (intOf i).toNat)
  case atStart => exact ⟨0, by omega, rfl, fun h => by omega, fun h => by omega, rfl⟩
  case round =>
    obtain ⟨k, hk, rfl, h0, h1, rfl⟩ := hrel
    rcases (by omega : k = 0 \/ k = 1 \/ k = 2) with rfl | rfl | rfl
    · by_cases ha : a = 0
      · have hn : (a != 0) = false := by simp [ha]
        have HA := hidep ha
        clear ha
        go_wp2
        go_roundw
        case rel => exact ⟨1, by omega, rfl, fun _ => HA, fun h => by omega, trivial⟩
        case measure => simp [intOf]
      · have hn : (a != 0) = true := by simp [ha]
        have HO := hidep (show orZ a b = a from if_pos ha)
        clear ha
        go_wp2
        go_ret
        exact ⟨zqb (congrArg (Value.int .i64) HO.out.symm), rfl⟩
    · have HA := h0 (by omega)
      by_cases hb : b = 0
      · have hn : (b != 0) = false := by simp [hb]
        have HB := hidep hb
        clear hb
        go_wp2
        go_roundw
        case rel => exact ⟨2, by omega, rfl, fun _ => HA, fun _ => HB, trivial⟩
        case measure => simp [intOf]
      · have hn : (b != 0) = true := by simp [hb]
        have HO := hidep (show orZ a b = b from if_neg (fun h => h HA.out))
        clear hb
        go_wp2
        go_ret
        exact ⟨zqb (congrArg (Value.int .i64) HO.out.symm), rfl⟩
    · have HA := h0 (by omega)
      have HB := h1 (by omega)
      have HO := hidep (show orZ a b = 0 from by unfold orZ; rw [if_neg (fun h => h HA.out)]; exact HB.out)
      go_wp2
      go_ret
      exact ⟨zqb (congrArg (Value.int .i64) HO.out.symm), rfl⟩
structure BelD (B : Nat) (w w' : World) : Prop where
  b : Below B w w'
  d : w.drawn <= w'.drawn
theorem BelD.refl (B : Nat) (w : World) : BelD B w w := ⟨Below.refl _ _, Nat.le_refl _⟩
theorem BelD.trans {B : Nat} {a b c : World} (h : BelD B a b) (k : BelD B b c) : BelD B a c := ⟨h.b.trans k.b, Nat.le_trans h.d k.d⟩
theorem BelD.mono {B B' : Nat} {w w' : World} (h : BelD B w w') (hB : B' <= B) : BelD B' w w' := ⟨h.b.mono hB, h.d⟩
theorem BelD.drew {B : Nat} {a w : World} (h : BelD B a w) : BelD B a w.drew := ⟨h.b.drew, Nat.le_trans h.d (Nat.le_succ _)⟩
theorem BelD.alloc {B : Nat} {a w : World} (h : BelD B a w) (hB : B <= w.heap.size) (o : Obj) : BelD B a (w.alloc o) := ⟨h.b.alloc hB o, h.d⟩
theorem BelD.size {B : Nat} {a w : World} (h : BelD B a w) : a.heap.size <= w.heap.size := h.b.size
theorem intro_allocD {K : Act -> World -> Prop} {a : Act} {W : World} {o : Obj} (h : ∀ X, BelD W.heap.size W X -> X.heap[W.heap.size]? = some o -> K a X) : K a (W.alloc o) :=
  h _ ((BelD.refl _ _).alloc (Nat.le_refl _) o) (heap_alloc_new _ _)
theorem intro_alloc_drewD {K : Act -> World -> Prop} {a : Act} {W : World} {o : Obj} (h : ∀ X, BelD W.heap.size W X -> X.heap[W.heap.size]? = some o -> K a X) : K a (W.alloc o).drew :=
  h _ (((BelD.refl _ _).alloc (Nat.le_refl _) o).drew) (heap_alloc_new _ _)
theorem BelD.grown {w w' : World} (h : BelD w.heap.size w w') : ∃ q os', w' = Go.Sort.grow (w.drewN q) os' := by
  obtain ⟨⟨d, os⟩, rfl⟩ := regrown_of_below h.b
  have hd : w.drawn <= d := h.d
  refine ⟨d - w.drawn, os, ?_⟩
  unfold redrawn World.drewN
  rw [Nat.add_sub_cancel' hd]
def zq35 (x y : Sym) : Int := orZ (cmpI x.lang y.lang) (cmpI x.c y.c)
set_option maxHeartbeats 2000000 in
theorem cmp1D_any (x y : Sym) (w : World) : Calls Tryz.prog 130 #[.agg #[.int .i64 x.lang, .int .u8 x.c], .agg #[.int .i64 y.lang, .int .u8 y.c]] w fun e w' => e = .returned (.int .i64 (zq35 x y)) /\ BelD w.heap.size w w' := by
  obtain ⟨xl, xc⟩ := x
  obtain ⟨yl, yc⟩ := y
  simp only
  have HS := hidep (show zq35 ⟨xl, xc⟩ ⟨yl, yc⟩ = orZ (cmpI xl yl) (cmpI xc yc) from rfl)
  have HC1 := hidep (fun W => cmpI_any xl yl W)
  have HC2 := hidep (fun W => cmpB_any xc yc W)
  obtain ⟨c1, hc1⟩ : ∃ c, c = cmpI xl yl := ⟨_, rfl⟩
  obtain ⟨c2, hc2⟩ : ∃ c, c = cmpI xc yc := ⟨_, rfl⟩
  rw [<- hc1] at HC1 HS
  rw [<- hc2] at HC2 HS
  clear hc1 hc2
  go_enter Tryz.func130, Tryz.ntmps130
  go_upto_region 1 with (fail)
  obtain ⟨B, hB⟩ : ∃ B, B = w.heap.size := ⟨_, rfl⟩
  refine zq9 (fun X => BelD w.heap.size w X /\ X.heap[B]? = some (.cells #[.int .i64 xl, .int .u8 xc] 39) /\ X.heap[B + 1]? = some (.cells #[.int .i64 yl, .int .u8 yc] 39)) ⟨((BelD.refl _ _).alloc (Nat.le_refl _) _).alloc (by rw [World.size_alloc]; omega) _, by rw [hB]; exact (heap2 _ _ _).1, by rw [hB]; exact (heap2 _ _ _).2⟩ ?_
  rintro X ⟨hbX, h0, h1⟩
  rw [show w.heap.size + 1 = B + 1 from by rw [hB], <- hB]
  have HX := hidep (And.intro hbX (And.intro h0 h1))
  have HSEE := hidep (fun (Z : World) (hZ : Below X.heap.size X Z) => by
    have a0 := zq0 hZ HX.out.2.1
    have a1 := zq0 hZ HX.out.2.2
    exact (⟨by simp [World.cell?, a0], by simp [World.cell?, a0], by simp [World.cell?, a1], by simp [World.cell?, a1]⟩ : Z.cell? ⟨B, 0, none⟩ = some (.int .i64 xl) /\ Z.cell? ⟨B, 1, none⟩ = some (.int .u8 xc) /\ Z.cell? ⟨B + 1, 0, none⟩ = some (.int .i64 yl) /\ Z.cell? ⟨B + 1, 1, none⟩ = some (.int .u8 yc)))
  clear hbX h0 h1 hB
  refine wp_region_noPanic (wp_region_held_drew (S := (fun Z => BelD X.heap.size X Z)) (by kernel_rfl) ?hSz0 (fun hHeld => ?hRz0))
  case hSz0 => ((try dsimp only); (exact (BelD.refl _ _).drew))
  refine tkC 0 rfl ?_
  refine tkB 1 rfl (.inl ⟨by kernel_rfl, fun w hSw => by (obtain ⟨p0, p1, p2, p3⟩ := HSEE.out _ hSw.b); go_simp; first | done | with_reducible rfl⟩) ?_
  refine tkC 2 rfl ?_
  refine tkB 3 rfl (.inl ⟨by kernel_rfl, fun w hSw => by (obtain ⟨p0, p1, p2, p3⟩ := HSEE.out _ hSw.b); go_simp; first | done | with_reducible rfl⟩) ?_
  refine tkC 5 rfl ?_
  refine tkB 6 rfl (.inl ⟨by kernel_rfl, fun w hSw => by (obtain ⟨p0, p1, p2, p3⟩ := HSEE.out _ hSw.b); go_simp; first | done | with_reducible rfl⟩) ?_
  refine tkC 7 rfl ?_
  refine tkB 8 rfl (.inl ⟨by kernel_rfl, fun w hSw => by (obtain ⟨p0, p1, p2, p3⟩ := HSEE.out _ hSw.b); go_simp; first | done | with_reducible rfl⟩) ?_
  refine wpAnyH_ready (rs := [4]) (by kernel_rfl) (by simp) (AllReadyH.cons rfl (fun K hK => ?hcz1) AllReadyH.nil)
  go_simp
  (go_at_call 132; refine (HC1.out _).mono ?_; rintro e' w9 ⟨rfl, rfl⟩; have hk := hHeld; (try dsimp only))
  refine hK.out _ _ (by (try dsimp only); (exact hk)) ?_
  clear hHeld hK; intro hHeld
  refine wpAnyH_ready (rs := [9]) (by kernel_rfl) (by simp) (AllReadyH.cons rfl (fun K hK => ?hcz2) AllReadyH.nil)
  go_simp
  (go_at_call 133; refine (HC2.out _).mono ?_; rintro e' w9 ⟨rfl, rfl⟩; have hk := hHeld; (try dsimp only))
  refine hK.out _ _ (by (try dsimp only); (exact hk)) ?_
  clear hHeld hK; intro hHeld
  refine wpAnyH_ready (rs := [10]) (by kernel_rfl) (by simp) (AllReadyH.cons rfl (fun K hK => ?hcz3) AllReadyH.nil)
  go_simp
  ((first | refine intro_allocD (fun X5 hBX hL => ?_) | refine intro_alloc_drewD (fun X5 hBX hL => ?_)); have hk := (by first | exact hHeld.trans (hBX.mono hHeld.size) | exact hBX : BelD X.heap.size X X5); (try dsimp only))
  refine hK.out _ _ (by (try dsimp only); (exact hk)) ?_
  clear hHeld hK; intro hHeld
  refine wpAnyH_ready (rs := [11]) (by kernel_rfl) (by simp) (AllReadyH.cons rfl (fun K hK => ?hcz4) AllReadyH.nil)
  go_simp
  (go_at_call 131; refine (orI_any c1 c2 _ _ hL).mono ?_; rintro e' w9 ⟨rfl, rfl⟩; (try dsimp only))
  refine hK.out _ _ (by (try dsimp only); (exact hk)) ?_
  clear hHeld hK; intro hHeld
  refine tkC 12 rfl ?_
  refine wpAnyH_done (by kernel_rfl) ?_ _
  clear hHeld
  refine NoPanic.normal ?_
  all_goals
    go_wp2
    go_ret
    exact ⟨zqb (congrArg (Value.int .i64) HS.out.symm), HX.out.1.trans (hk.mono HX.out.1.size)⟩
def zq13 : List Sym -> List Sym -> Int
  | [], [] => 0
  | [], _ :: _ => -1
  | _ :: _, [] => 1
  | x :: a, y :: b => if zq35 x y ≠ 0 then zq35 x y else zq13 a b
theorem textCmp_at {a b : List Sym} {k : Nat} (ha : k < a.length) (hb : k < b.length) : zq13 (a.drop k) (b.drop k) = if zq35 a[k] b[k] ≠ 0 then zq35 a[k] b[k] else zq13 (a.drop (k + 1)) (b.drop (k + 1)) := by
  rw [List.drop_eq_getElem_cons ha, List.drop_eq_getElem_cons hb]
  rfl
theorem textCmp_more {a b : List Sym} {k : Nat} (ha : k < a.length) (hb : b.length <= k) : zq13 (a.drop k) (b.drop k) = 1 := by
  rw [List.drop_eq_getElem_cons ha, List.drop_eq_nil_of_le hb]
  rfl
theorem textCmp_end {a b : List Sym} {k : Nat} (ha : a.length <= k) (hk : k <= a.length) : zq13 (a.drop k) (b.drop k) = if a.length < b.length then -1 else 0 := by
  rw [List.drop_eq_nil_of_le ha]
  cases h : b.drop k with
  | nil =>
    have := List.drop_eq_nil_iff.1 h
    rw [if_neg (by omega)]
    rfl
  | cons y c =>
    have : (b.drop k).length ≠ 0 := by rw [h]; simp
    rw [List.length_drop] at this
    rw [if_pos (by omega)]
    rfl
set_option maxHeartbeats 2000000 in
theorem cmpFuncD_any (va vb : Value) (a b : List Sym) (w : World) (ha : SymsAt w va a) (hb : SymsAt w vb b) : Calls Tryz.prog 129 #[va, vb, .func (.func 130) #[] #[]] w fun e w' => e = .returned (.int .i64 (zq13 a b)) /\ BelD w.heap.size w w' := by
  obtain ⟨aa, ac, rfl, hac, ham⟩ := ha.form
  obtain ⟨ba, bc, rfl, hbc, hbm⟩ := hb.form
  unfold maxLen at ham hbm
  have HA := hidep ha
  have HB := hidep hb
  clear ha hb
  go_enter Tryz.func129, Tryz.ntmps129
  go_upto_region 2 with (fail)
  go_loopw [13] (fun i wr => ∃ k : Nat, k <= a.length /\ i = .int .i64 k /\ Hid (zq13 a b = zq13 (a.drop k) (b.drop k)) /\ BelD w.heap.size w wr) (fun i _ => a.length - (intOf i).toNat)
  case atStart => exact ⟨0, Nat.zero_le _, rfl, hidep rfl, BelD.refl _ _⟩
  case round =>
    obtain ⟨k, hk, rfl, HE, hbw⟩ := hrel
    have HBW := hidep hbw
    by_cases hka : k < a.length
    · obtain ⟨ab, ao, rfl, hab, x0, x1⟩ := (HA.out.below hbw.b).at hka
      have hki : (k : Int) < (a.length : Int) := by omega
      have hk0 : (0 : Int) <= (k : Int) := by omega
      by_cases hkb : k < b.length
      · obtain ⟨bb, bo, rfl, hbb, y0, y1⟩ := (HB.out.below hbw.b).at hkb
        have hkbi : ¬ (k : Int) >= (b.length : Int) := by omega
        have hkbj : (k : Int) < (b.length : Int) := by omega
        have HT := hidep (textCmp_at hka hkb)
        obtain ⟨x, hx⟩ : ∃ x, x = a[k] := ⟨_, rfl⟩
        obtain ⟨y, hy⟩ : ∃ y, y = b[k] := ⟨_, rfl⟩
        rw [<- hx] at x0 x1 HT
        rw [<- hy] at y0 y1 HT
        have HY := hidep (And.intro hbb (And.intro y0 y1))
        clear hx hy hbw y0 y1
        go_upto_region 4 with (fail)
        obtain ⟨Bx, hBx⟩ : ∃ B, B = wr.heap.size := ⟨_, rfl⟩
        refine zq9 (fun X => BelD wr.heap.size wr X /\ X.heap[Bx]? = some (.cells #[.int .i64 x.lang, .int .u8 x.c] 39)) ⟨(BelD.refl _ _).alloc (Nat.le_refl _) _, by rw [hBx]; exact heap_alloc_new _ _⟩ ?_
        rintro X1 ⟨hb1, hx1⟩
        rw [<- hBx]
        have HX1 := hidep (And.intro hb1 hx1)
        have y0 := (hb1.b.cell (p := ⟨bb, bo + k * 2, none⟩) HY.out.1).trans HY.out.2.1
        have y1 := (hb1.b.cell (p := ⟨bb, bo + k * 2 + 1, none⟩) HY.out.1).trans HY.out.2.2
        clear hb1 hx1 hBx x0 x1
        go_upto_region 7 with (fail)
        obtain ⟨By, hBy⟩ : ∃ B, B = X1.heap.size := ⟨_, rfl⟩
        refine zq9 (fun X => BelD X1.heap.size X1 X /\ X.heap[By]? = some (.cells #[.int .i64 y.lang, .int .u8 y.c] 39)) ⟨(BelD.refl _ _).alloc (Nat.le_refl _) _, by rw [hBy]; exact heap_alloc_new _ _⟩ ?_
        rintro X2 ⟨hb2, hy2⟩
        rw [<- hBy]
        have hx2 := zq0 hb2.b HX1.out.2
        have p0 : X2.cell? ⟨Bx, 0, none⟩ = some (.int .i64 x.lang) := by simp [World.cell?, hx2]
        have p1 : X2.cell? ⟨Bx, 1, none⟩ = some (.int .u8 x.c) := by simp [World.cell?, hx2]
        have p2 : X2.cell? ⟨By, 0, none⟩ = some (.int .i64 y.lang) := by simp [World.cell?, hy2]
        have p3 : X2.cell? ⟨By, 1, none⟩ = some (.int .u8 y.c) := by simp [World.cell?, hy2]
        have HC := hidep (cmp1D_any x y X2)
        have HB2 := hidep (HBW.out.trans ((HX1.out.1.trans (hb2.mono HX1.out.1.size)).mono HBW.out.size))
        obtain ⟨c, hc⟩ : ∃ c, c = zq35 x y := ⟨_, rfl⟩
        rw [<- hc] at HC HT
        clear hb2 hy2 hx2 y0 y1 hBy hc
        by_cases hc0 : c = 0
        · have hcn : (c != 0) = false := by simp [hc0]
          have HE2 := hidep (HE.out.trans (HT.out.trans (if_neg (fun h => h hc0))))
          clear hc0
          go_wp2_with (go_at_call 130; refine HC.out.mono ?_; rintro e w4 ⟨rfl, hb4⟩)
          go_roundw
          case rel => exact ⟨k + 1, by omega, by go_num, HE2, HB2.out.trans (hb4.mono HB2.out.size)⟩
          case measure => simp [intOf]; omega
        · have hcn : (c != 0) = true := by simp [hc0]
          have HE2 := hidep (HE.out.trans (HT.out.trans (if_pos hc0)))
          clear hc0
          go_wp2_with (go_at_call 130; refine HC.out.mono ?_; rintro e w4 ⟨rfl, hb4⟩)
          go_ret
          exact ⟨zqb (congrArg (Value.int .i64) HE2.out.symm), HB2.out.trans (hb4.mono HB2.out.size)⟩
      · have hkbi : (k : Int) >= (b.length : Int) := by omega
        have HR := hidep (HE.out.trans (textCmp_more hka (by omega)))
        clear hbw
        go_wp2
        go_ret
        exact ⟨zqb (congrArg (Value.int .i64) HR.out.symm), HBW.out.alloc HBW.out.size _⟩
    · have hki : ¬ (k : Int) < (a.length : Int) := by omega
      have HR := hidep (HE.out.trans (textCmp_end (by omega) hk))
      clear hbw
      by_cases hab : (a.length : Int) < (b.length : Int)
      · have HR2 := hidep (HR.out.trans (if_pos (by omega)))
        go_wp2
        go_ret
        exact ⟨zqb (congrArg (Value.int .i64) HR2.out.symm), HBW.out⟩
      · have HR2 := hidep (HR.out.trans (if_neg (by omega)))
        go_wp2
        go_ret
        exact ⟨zqb (congrArg (Value.int .i64) HR2.out.symm), HBW.out⟩
set_option maxHeartbeats 400000 in
theorem compareD_any (va vb : Value) (a b : List Sym) (w : World) (ha : SymsAt w va a) (hb : SymsAt w vb b) : Calls Tryz.prog 108 #[va, vb] w fun e w' => e = .returned (.int .i64 (zq13 a b)) /\ BelD w.heap.size w w' := by
  have HC := hidep (cmpFuncD_any va vb a b w ha hb)
  clear ha hb
  go_enter Tryz.func108, Tryz.ntmps108
  go_wp2_with (go_at_call 129; refine HC.out.mono ?_; rintro e w1 ⟨rfl, hb1⟩)
  go_ret
  exact ⟨rfl, hb1⟩
theorem compare_any (va vb : Value) (a b : List Sym) (w : World) (ha : SymsAt w va a) (hb : SymsAt w vb b) : Calls Tryz.prog 108 #[va, vb] w fun e w' => e = .returned (.int .i64 (zq13 a b)) /\ Below w.heap.size w w' := (compareD_any va vb a b w ha hb).mono fun _ _ ⟨h, k⟩ => ⟨h, k.b⟩
end Go.Proofs.YtcfjepcflanjbaaGreat
/- Plain: the order of texts; the first ones of a set. -/
namespace Go.Proofs.YtcfjepcflanjbaaGreat
open Go.RowKit Go.Lab Go.Shelf
theorem zq30 (x y : Sym) : (zq35 x y = -1 /\ (x.lang < y.lang \/ (x.lang = y.lang /\ x.c < y.c))) \/ (zq35 x y = 0 /\ x = y) \/ (zq35 x y = 1 /\ (y.lang < x.lang \/ (x.lang = y.lang /\ y.c < x.c))) := by
  obtain ⟨a, b⟩ := x
  obtain ⟨c, d⟩ := y
  unfold zq35 orZ cmpI
  simp only [Sym.mk.injEq]
  by_cases h1 : a < c
  · left; simp [h1]
  · by_cases h2 : c < a
    · right; right; simp [h1, h2]
    · have e : a = c := by omega
      subst e
      by_cases h3 : b < d
      · left; simp [h3]
      · by_cases h4 : d < b
        · right; right; simp [h3, h4]
        · right; left; simp [h3, h4]; omega
theorem zq8d : ∀ a : List Sym, zq13 a a = 0
  | [] => rfl
  | x :: a => by
    rcases zq30 x x with ⟨_, h⟩ | ⟨h, _⟩ | ⟨_, h⟩
    · omega
    · unfold zq13; rw [if_neg (by simp [h])]; exact zq8d a
    · omega
theorem zq58 : ∀ a b : List Sym, zq13 a b = -1 \/ (zq13 a b = 0 /\ a = b) \/ zq13 a b = 1
  | [], [] => .inr (.inl ⟨rfl, rfl⟩)
  | [], _ :: _ => .inl rfl
  | _ :: _, [] => .inr (.inr rfl)
  | x :: a, y :: b => by
    unfold zq13
    rcases zq30 x y with ⟨h, _⟩ | ⟨h, e⟩ | ⟨h, _⟩
    · left; rw [if_pos (by omega)]; exact h
    · rw [if_neg (by simp [h])]
      rcases zq58 a b with g | ⟨g, f⟩ | g
      · exact .inl g
      · exact .inr (.inl ⟨g, by rw [e, f]⟩)
      · exact .inr (.inr g)
    · right; right; rw [if_pos (by omega)]; exact h
theorem zq4c {a b : List Sym} : zq13 a b = 0 ↔ a = b := by
  constructor
  · intro h
    rcases zq58 a b with g | ⟨_, g⟩ | g
    · omega
    · exact g
    · omega
  · rintro rfl; exact zq8d a
theorem symCmp_neg (x y : Sym) : zq35 y x = - zq35 x y := by
  rcases zq30 x y with ⟨h, g⟩ | ⟨h, e⟩ | ⟨h, g⟩ <;> rcases zq30 y x with ⟨h', g'⟩ | ⟨h', e'⟩ | ⟨h', g'⟩ <;> first | omega | (subst e; omega) | (subst e'; omega)
theorem zq99 : ∀ a b : List Sym, zq13 b a = - zq13 a b
  | [], [] => rfl
  | [], _ :: _ => rfl
  | _ :: _, [] => rfl
  | x :: a, y :: b => by
    unfold zq13
    rw [symCmp_neg x y]
    by_cases h : zq35 x y = 0
    · rw [if_neg (by simp [h]), if_neg (by simp [h])]; exact zq99 a b
    · rw [if_pos (by omega), if_pos h]
def LtT (a b : List Sym) : Prop := zq13 a b = -1
theorem symLt_trans {x y z : Sym} (h : zq35 x y = -1) (g : zq35 y z = -1) : zq35 x z = -1 := by
  rcases zq30 x y with ⟨_, h1⟩ | ⟨h1, _⟩ | ⟨h1, _⟩ <;> rcases zq30 y z with ⟨_, h2⟩ | ⟨h2, _⟩ | ⟨h2, _⟩ <;> rcases zq30 x z with ⟨h3, h4⟩ | ⟨h3, h4⟩ | ⟨h3, h4⟩ <;> first | exact h3 | omega | (subst h4; omega)
theorem LtT.trans : ∀ {a b c : List Sym}, LtT a b -> LtT b c -> LtT a c
  | [], [], c => fun h _ => by simp [LtT, zq13] at h
  | [], _ :: _, [] => fun _ g => by simp [LtT, zq13] at g
  | [], _ :: _, _ :: _ => fun _ _ => rfl
  | _ :: _, [], c => fun h _ => by simp [LtT, zq13] at h
  | _ :: _, _ :: _, [] => fun _ g => by simp [LtT, zq13] at g
  | x :: a, y :: b, z :: c => fun h g => by
    unfold LtT zq13 at h g ⊢
    rcases zq30 x y with ⟨e, _⟩ | ⟨e, rfl⟩ | ⟨e, _⟩
    · rcases zq30 y z with ⟨f, _⟩ | ⟨f, rfl⟩ | ⟨f, _⟩
      · rw [if_pos (by rw [symLt_trans e f]; omega)]; exact symLt_trans e f
      · rw [if_pos (by omega)]; exact e
      · rw [if_pos (by omega)] at g; omega
    · rw [if_neg (by omega)] at h
      by_cases f : zq35 x z = 0
      · rw [if_neg (by omega)] at g ⊢; exact LtT.trans h g
      · rw [if_pos f] at g ⊢; exact g
    · rw [if_pos (by omega)] at h; omega
theorem LtT.irrefl {a : List Sym} (h : LtT a a) : False := by
  unfold LtT at h
  rw [zq8d] at h
  omega
theorem LtT.asymm {a b : List Sym} (h : LtT a b) (g : LtT b a) : False := (h.trans g).irrefl
theorem LtT.total (a b : List Sym) : LtT a b \/ a = b \/ LtT b a := by
  rcases zq58 a b with h | ⟨_, h⟩ | h
  · exact .inl h
  · exact .inr (.inl h)
  · refine .inr (.inr ?_)
    unfold LtT
    rw [zq99 a b, h]
structure FirstN (most : Nat) (P : List Sym -> Prop) (L : List (List Sym)) : Prop where
  asc : L.Pairwise LtT
  sub : ∀ x ∈ L, P x
  len : L.length <= most
  all : ∀ x, P x -> x ∈ L \/ (L.length = most /\ ∀ y ∈ L, LtT y x)
theorem zq9f {most n : Nat} {P : List Sym -> Prop} {L : List (List Sym)} (h : FirstN most P L) (hn : n <= most) : FirstN n P (L.take n) where
  asc := h.asc.sublist (List.take_sublist _ _)
  sub := fun x hx => h.sub x (List.mem_of_mem_take hx)
  len := by rw [List.length_take]; omega
  all := fun x hx => by
    rcases h.all x hx with g | ⟨g, f⟩
    · obtain ⟨i, hi, rfl⟩ := List.getElem_of_mem g
      by_cases hin : i < n
      · left
        exact List.mem_of_getElem? (by rw [List.getElem?_take, if_pos hin, List.getElem?_eq_getElem hi])
      · right
        refine ⟨by rw [List.length_take]; omega, fun y hy => ?_⟩
        obtain ⟨j, hj, rfl⟩ := List.getElem_of_mem hy
        rw [List.length_take] at hj
        rw [List.getElem_take]
        exact List.pairwise_iff_getElem.1 h.asc j i (by omega) hi (by omega)
    · right
      exact ⟨by rw [List.length_take]; omega, fun y hy => f y (List.mem_of_mem_take hy)⟩
theorem asc_one : ∀ {L M : List (List Sym)}, L.Pairwise LtT -> M.Pairwise LtT -> (∀ x, x ∈ L ↔ x ∈ M) -> L = M
  | [], [], _, _, _ => rfl
  | [], y :: M, _, _, h => by have := (h y).2 (by simp); cases this
  | x :: L, [], _, _, h => by have := (h x).1 (by simp); cases this
  | x :: L, y :: M, hL, hM, h => by
    rw [List.pairwise_cons] at hL hM
    have e : x = y := by
      rcases List.mem_cons.1 ((h x).1 (by simp)) with e | e
      · exact e
      · rcases List.mem_cons.1 ((h y).2 (by simp)) with f | f
        · exact f.symm
        · exact ((hM.1 x e).asymm (hL.1 y f)).elim
    subst e
    refine congrArg (x :: ·) (asc_one hL.2 hM.2 fun z => ⟨fun hz => ?_, fun hz => ?_⟩)
    · rcases List.mem_cons.1 ((h z).1 (by simp [hz])) with f | f
      · subst f; exact ((hL.1 _ hz).irrefl).elim
      · exact f
    · rcases List.mem_cons.1 ((h z).2 (by simp [hz])) with f | f
      · subst f; exact ((hM.1 _ hz).irrefl).elim
      · exact f
theorem pair_nodup {L : List (List Sym)} (h : L.Pairwise LtT) : L.Nodup := h.imp fun hab e => by subst e; exact hab.irrefl
theorem zq84 : ∀ {A B : List (List Sym)}, A.Nodup -> (∀ x ∈ A, x ∈ B) -> A.length <= B.length
  | [], _, _, _ => Nat.zero_le _
  | a :: A, B, hn, hs => by
    rw [List.nodup_cons] at hn
    have ha := hs a (by simp)
    have h := zq84 (A := A) (B := B.erase a) hn.2 (fun x hx => (List.mem_erase_of_ne (show x ≠ a from fun e => hn.1 (by rw [<- e]; exact hx))).2 (hs x (by simp [hx])))
    rw [List.length_erase_of_mem ha] at h
    have := List.length_pos_of_mem ha
    simp only [List.length_cons]
    omega
theorem FirstN.sub_of {most : Nat} {P : List Sym -> Prop} {L M : List (List Sym)} (hL : FirstN most P L) (hM : FirstN most P M) : ∀ x ∈ L, x ∈ M := by
  intro x hx
  rcases hM.all x (hL.sub x hx) with h | ⟨h1, h2⟩
  · exact h
  · exfalso
    have hs : ∀ y ∈ M, y ∈ L := fun y hy => by
      rcases hL.all y (hM.sub y hy) with g | ⟨_, g⟩
      · exact g
      · exact ((h2 y hy).asymm (g x hx)).elim
    have hx2 : x ∉ M := fun e => (h2 x e).irrefl
    have hn : (x :: M).Nodup := List.nodup_cons.2 ⟨hx2, pair_nodup hM.asc⟩
    have hle := zq84 hn (B := L) (fun y hy => by
      rcases List.mem_cons.1 hy with rfl | hy
      · exact hx
      · exact hs y hy)
    have := hL.len
    simp only [List.length_cons] at hle
    omega
theorem FirstN.one {most : Nat} {P : List Sym -> Prop} {L M : List (List Sym)} (hL : FirstN most P L) (hM : FirstN most P M) : L = M :=
  asc_one hL.asc hM.asc fun x => ⟨hL.sub_of hM x, hM.sub_of hL x⟩
theorem FirstN.congr {most : Nat} {P Q : List Sym -> Prop} {L : List (List Sym)} (h : FirstN most P L) (e : ∀ x, P x ↔ Q x) : FirstN most Q L :=
  ⟨h.asc, fun x hx => (e x).1 (h.sub x hx), h.len, fun x hx => h.all x ((e x).2 hx)⟩
end Go.Proofs.YtcfjepcflanjbaaGreat
