/- For all tables, texts and cells, All, Read and Good of both packages answer the same. -/
import Derived.Test.YtcfjepcflanjbaaGreatBr02
import Derived.Test.YtcfjepcflanjbaaGreatBr40
import Derived.Test.YtcfjepcflanjbaaGreatBr41
import Derived.Test.YtcfjepcflanjbaaGreatBr44
import Derived.Test.YtcfjepcflanjbaaGreatBr45
import Derived.Test.YtcfjepcflanjbaaGreatBr53
namespace Go.Proofs.YtcfjepcflanjbaaGreat
open Go.RowKit Go.Lab Go.Shelf
set_option maxRecDepth 100000
theorem tdiv3_in {x : Int} (h1 : -9223372036854775808 <= x) (h2 : x <= 9223372036854775807) : -9223372036854775808 <= Int.tdiv x 3 /\ Int.tdiv x 3 <= 9223372036854775807 := by
  rcases Int.le_total 0 x with h0 | h0
  · rw [Int.tdiv_eq_ediv_of_nonneg h0]
    omega
  · have e : Int.tdiv x 3 = -((-x) / 3) := by
      rw [<- Int.tdiv_eq_ediv_of_nonneg (by omega : (0 : Int) <= -x), Int.neg_tdiv, Int.neg_neg]
    rw [e]
    omega
structure BrD (W : World) (Lb : Nat) (X : World) : Prop where
  low : Below W.heap.size W X
  ll : Lb < X.heap.size
  cl : ∀ k, k < 5 -> ∃ a n c C, X.cell? ⟨Lb, k, none⟩ = some (.slice a n c) /\ BysAt X (.slice a n c) C
theorem BrD.below {W X Z : World} {Lb : Nat} (h : BrD W Lb X) (hb : Below X.heap.size X Z) : BrD W Lb Z := by
  refine ⟨h.low.trans (hb.mono h.low.size), Nat.lt_of_lt_of_le h.ll hb.size, fun k hk => ?_⟩
  obtain ⟨a, n, c, C, h1, h2⟩ := h.cl k hk
  exact ⟨a, n, c, C, (hb.cell (p := ⟨Lb, k, none⟩) h.ll).trans h1, h2.below hb⟩
theorem brd_of {w2 X : World} {Lb : Nat} {b1 b2 b3 b4 : Option Addr} {m1 m2 m3 m4 k1 k2 k3 k4 : Nat} {C1 C2 C3 C4 : List Int} (hb : Below w2.heap.size w2 X)
    (hl : X.heap[Lb]? = some (.cells #[.slice b1 m1 k1, .slice b2 m2 k2, .slice b3 m3 k3, .slice b4 m4 k4, .slice none 0 0] 23))
    (y1 : BysAt X (.slice b1 m1 k1) C1) (y2 : BysAt X (.slice b2 m2 k2) C2) (y3 : BysAt X (.slice b3 m3 k3) C3) (y4 : BysAt X (.slice b4 m4 k4) C4) : BrD w2 Lb X := by
  refine ⟨hb, lt_of_block hl, fun k hk => ?_⟩
  rcases (by omega : k = 0 \/ k = 1 \/ k = 2 \/ k = 3 \/ k = 4) with rfl | rfl | rfl | rfl | rfl
  · exact ⟨_, _, _, C1, by simp [World.cell?, hl], y1⟩
  · exact ⟨_, _, _, C2, by simp [World.cell?, hl], y2⟩
  · exact ⟨_, _, _, C3, by simp [World.cell?, hl], y3⟩
  · exact ⟨_, _, _, C4, by simp [World.cell?, hl], y4⟩
  · exact ⟨_, _, _, [], by simp [World.cell?, hl], BysAt.nil _⟩
theorem BrD.rebase {W X : World} {Lb : Nat} (h : BrD W Lb X) : BrD X Lb X := ⟨Below.refl _ _, h.ll, h.cl⟩
def BrL (W : World) (Lb : Nat) (u : Value) (X : World) : Prop := ∃ i : Nat, i <= 5 /\ u = .int .i64 (i : Nat) /\ BrD W Lb X
def BrA (W0 : World) (v3 v4 v5 v6 v15 : Value) : Act -> World -> Prop := fun a W => ∃ (xa : Option Addr) (xn : Nat) (xc : Nat) (C : List Int), a.tmps.size = 88 /\ a.defers = [] /\ slot a.tmps 3 = v3 /\ slot a.tmps 4 = v4 /\ slot a.tmps 5 = v5 /\ slot a.tmps 6 = v6 /\ slot a.tmps 14 = .bool false /\ slot a.tmps 15 = v15 /\ slot a.tmps 16 = .slice xa xn xc /\ BysAt W (.slice xa xn xc) C /\ xn = C.length /\ C.length <= 99999 /\ Below W0.heap.size W0 W
set_option maxHeartbeats 4000000 in
theorem backReads_any (v1 v2 v6 : Value) (l ch raw : List Int) (n p q r : Int) (W : World) (hl : IntsAt W v1 l) (hch : IntsAt W v2 ch) (hraw : BysAt W v6 raw) (hn : -9223372036854775808 <= n /\ n <= 9223372036854775807) (hp : -9223372036854775808 <= p /\ p <= 9223372036854775807) (hq : -9223372036854775808 <= q /\ q <= 9223372036854775807) (hr : -9223372036854775808 <= r /\ r <= 9223372036854775807) :
    Calls Tryz.prog 4 #[.int .i64 n, v1, v2, .int .i64 p, .int .i64 q, .int .i64 r, v6] W fun e W' => e = .returned (.bool true) /\ Below W.heap.size W W' := by
  obtain ⟨ra, rc, hv6, hrc, hrm⟩ := hraw.1.form
  subst hv6
  unfold maxLen at hrm
  have HA := hidep (And.intro hl (And.intro hch hraw))
  have HR := hidep (And.intro hn (And.intro hp (And.intro hq hr)))
  obtain ⟨rl, hrl⟩ : ∃ x, x = raw.length := ⟨_, rfl⟩
  have HRL := hidep hrl
  rw [<- hrl] at hrc ⊢
  clear hl hch hraw hrl
  go_enter Tryz.func4, Tryz.ntmps4
  go_upto_region 2 with (go_at_call 6; refine (tables_any n _ HR.out.1.1 HR.out.1.2).mono ?_; rintro e w1 ⟨⟨va, vb, vd, vc, vn, ve, vs⟩, T, rfl, hT, hG, hb1⟩; obtain ⟨aa, ac, e0, -, -⟩ := hT.r0.form; obtain ⟨ba, bc, e1, -, -⟩ := hT.r1.form; obtain ⟨da2, dc2, e2, -, -⟩ := hT.dg.1.form; obtain ⟨ca, cc, e3, -, -⟩ := hT.cp.1.form; obtain ⟨na, nc, e4, -, -⟩ := hT.nm.1.form; obtain ⟨ea, ec, e5, -, -⟩ := hT.en.1.form; obtain ⟨sa, sc, e6, -, -⟩ := hT.sw.1.form; unfold TabV.v; dsimp only at e0 e1 e2 e3 e4 e5 e6 ⊢; subst e0 e1 e2 e3 e4 e5 e6)
  obtain ⟨Bt, hBt⟩ : ∃ B, B = w1.heap.size := ⟨_, rfl⟩
  refine zq9 (fun X => Below w1.heap.size w1 X /\ X.heap[Bt]? = some (.cells #[.slice aa T.l0.length ac, .slice ba T.l1.length bc, .slice da2 T.dg.length dc2, .slice ca T.cp.length cc, .slice na T.nm.length nc, .slice ea T.en.length ec, .slice sa T.sw.length sc] 29)) ⟨(Below.refl _ _).alloc (Nat.le_refl _) _, by rw [hBt]; exact heap_alloc_new _ _⟩ ?_
  rintro w2 ⟨hb2, hx2⟩
  rw [<- hBt]
  have hT2 := hT.below hb2
  have hbw2 := hb1.trans (hb2.mono hb1.size)
  clear hT hb1 hb2 hBt
  have HA2 := hidep (And.intro (HA.out.1.below hbw2) (And.intro (HA.out.2.1.below hbw2) (And.intro (HA.out.2.2.below hbw2) hbw2)))
  obtain ⟨V, hVe⟩ : ∃ V : TabV, V = ⟨.slice aa T.l0.length ac, .slice ba T.l1.length bc, .slice da2 T.dg.length dc2, .slice ca T.cp.length cc, .slice na T.nm.length nc, .slice ea T.en.length ec, .slice sa T.sw.length sc⟩ := ⟨_, rfl⟩
  rw [<- hVe] at hT2
  have HVv := hidep (show V.v = .agg #[.slice aa T.l0.length ac, .slice ba T.l1.length bc, .slice da2 T.dg.length dc2, .slice ca T.cp.length cc, .slice na T.nm.length nc, .slice ea T.en.length ec, .slice sa T.sw.length sc] by rw [hVe]; rfl)
  have HT2 := hidep (And.intro hT2 (And.intro hG (And.intro (tabG_ok hG) (valid_made hG))))
  have HX2 := hidep hx2
  have HVE := hidep hVe
  clear hbw2 hT2 hG hx2 hVe HA
  have HSEE := hidep (fun (Z : World) (hZ : Below w2.heap.size w2 Z) => tb7 (zq0 hZ HX2.out))
  have HSY := hidep (fun (Z : World) (hZ : Below w2.heap.size w2 Z) => syms_any v1 l Z (HA2.out.1.below hZ))
  have HWR := hidep (fun (Z : World) (hZ : Below w2.heap.size w2 Z) (u : Value) (hs : SymsAt Z u (symsZ l)) => HVv.out ▸ writtenC_any V T u v2 (symsZ l) ch Z (HT2.out.1.below hZ) HT2.out.2.2.1 HT2.out.2.2.2 hs (symsZ_SymOk l) (by have := symsZ_len l; omega) (symsZ_lang l) (HA2.out.2.1.below hZ))
  refine zq17 (BrA w2 (.int .i64 p) (.int .i64 q) (.int .i64 r) (.slice ra rl rc) (.pointer (some ⟨Bt, 0, none⟩))) ?r2 ?_
  case r2 =>
    intro K' hMK
    go_upto_region 2 with (fail)
    refine wp_region_noPanic (wp_region_held_drew (S := (fun Z => Below w2.heap.size w2 Z)) (by kernel_rfl) ?hSz0 (fun hHeld => ?hRz0))
    case hSz0 => ((try dsimp only); (exact (Below.refl _ _).drew))
    refine tkB 0 rfl (.inl ⟨by kernel_rfl, fun w hSw => by (obtain ⟨g0, g1, g2, g3, g4, g5, g6⟩ := HSEE.out _ hSw); go_simp; first | done | with_reducible rfl⟩) ?_
    refine tkC 1 rfl ?_
    refine tkC 3 rfl ?_
    refine wpAnyH_ready (rs := [2]) (by kernel_rfl) (by simp) (AllReadyH.cons rfl (fun K hK => ?hcz1) AllReadyH.nil)
    go_simp
    (go_at_call 17; (with_reducible refine (HSY.out _ hHeld).mono ?_); rintro e' w33 ⟨u33, rfl, ha33, hb33⟩; have hk9 := hHeld.trans (hb33.mono hHeld.size); have hs33 := SymsAt.of_own ha33; obtain ⟨a33, c33, e33, -, -⟩ := hs33.form; subst e33; (try dsimp only))
    refine hK.out _ _ (by (try dsimp only); (exact hk9)) ?_
    clear hHeld hK; intro hHeld
    refine wpAnyH_ready (rs := [4]) (by kernel_rfl) (by simp) (AllReadyH.cons rfl (fun K hK => ?hcz2) AllReadyH.nil)
    go_simp
    (go_at_call 8; refine (HWR.out _ hHeld _ hs33).mono ?_; rintro e' w35 ⟨v35, C, okw, rfl, hcl, hCl, hok1, hok2, hb35⟩; have hk9 := hHeld.trans (hb35.mono hHeld.size); obtain ⟨xl, xlc, hxl, -, -⟩ := hcl.1.form; subst hxl; (try dsimp only))
    refine hK.out _ _ (by (try dsimp only); (exact hk9)) ?_
    clear hHeld hK; intro hHeld
    refine tkC 5 rfl ?_
    refine tkC 6 rfl ?_
    refine tkC 7 rfl ?_
    refine tkC 8 rfl ?_
    refine tkC 9 rfl ?_
    refine wpAnyH_done (by kernel_rfl) ?_ _
    clear hHeld
    refine NoPanic.normal ?_
    all_goals
      (try dsimp only [Exit.then])
      have HBK := hidep (And.intro hcl (And.intro hCl hk9))
      clear hcl hok1 hok2
      go_wp2
      first
        | exact ⟨_, _, _, C, by kernel_rfl, by kernel_rfl, by kernel_rfl, by kernel_rfl, by kernel_rfl, by kernel_rfl, by kernel_rfl, by kernel_rfl, by kernel_rfl, HBK.out.1, rfl, HBK.out.2.1, HBK.out.2.2⟩
        | exact hMK _ _ ⟨_, _, _, C, by kernel_rfl, by kernel_rfl, by kernel_rfl, by kernel_rfl, by kernel_rfl, by kernel_rfl, by kernel_rfl, by kernel_rfl, by kernel_rfl, HBK.out.1, rfl, HBK.out.2.1, HBK.out.2.2⟩
  rintro ⟨tm, ds⟩ X ⟨xl, cn, xlc, C, hts, hds, e3, e4, e5, e6, e14, e15, e16, hcl, hcn, hCl, hbx⟩
  dsimp only at hts hds e3 e4 e5 e6 e14 e15 e16
  subst hds
  rw [zq6a tm _ hts, e3, e4, e5, e6, e14, e15, e16]
  clear e3 e4 e5 e6 e14 e15 e16 hts HSY HWR
  (try apply_assumption)
  have H3 := hidep (And.intro hbx (And.intro hcl (HA2.out.2.2.1.below hbx)))
  have HCN := hidep hcn
  clear hcl hbx hcn
  have HFEW := hidep (show ∀ Z : World, Below X.heap.size X Z -> Calls Tryz.prog 12 #[.slice ra rl rc, .int .i64 24] Z (fun e w' => ∃ u, e = .returned u /\ BysAt w' u (raw.take 24) /\ Below Z.heap.size Z w') from fun Z hZ => few_any (.slice ra rl rc) raw 24 Z (by rw [HRL.out]; exact H3.out.2.2.below hZ) (by rw [<- HRL.out]; omega) (by decide))
  go_upto_region 4 with (go_at_call 11; refine (bentC_any (.slice xl cn xlc) C p q r _ H3.out.2.1 (by omega) HR.out.2.1.1 HR.out.2.1.2 HR.out.2.2.1.1 HR.out.2.2.1.2 HR.out.2.2.2.1 HR.out.2.2.2.2).mono ?_; rintro e w5 ⟨v5, c5, rfl, hc5, hl5, hb5⟩; obtain ⟨x5, k5, e5, -, -⟩ := hc5.1.form; subst e5)
  have H5 := hidep (And.intro hc5 hb5)
  obtain ⟨n5, hn5⟩ : ∃ x, x = c5.length := ⟨_, rfl⟩
  have HN5 := hidep hn5
  rw [<- hn5] at hl5 ⊢
  obtain ⟨q3, hq3⟩ : ∃ x, Int.tdiv q 3 = x := ⟨_, rfl⟩
  have hq3r : -9223372036854775808 <= q3 /\ q3 <= 9223372036854775807 := by
    rw [<- hq3]
    exact tdiv3_in HR.out.2.2.1.1 HR.out.2.2.1.2
  have HB6 := hidep (show Calls Tryz.prog 11 #[.slice x5 n5 k5, .int .i64 r, .int .i64 q3, .int .i64 p] w5 (fun e w' => BcP c5.length w5 e w') from by
    rw [HN5.out]
    exact bentC_any (.slice x5 c5.length k5) c5 r q3 p w5 H5.out.1 (by rw [<- HN5.out]; omega) HR.out.2.2.2.1 HR.out.2.2.2.2 hq3r.1 hq3r.2 HR.out.2.1.1 HR.out.2.1.2)
  clear hc5 hb5 hn5
  go_upto_region 5 with (first
    | (go_at_call 11; refine HB6.out.mono ?_; rintro e w6 ⟨v6, c6, rfl, hc6, hl6, hb6⟩; obtain ⟨x6, k6, e6, -, -⟩ := hc6.1.form; subst e6; have H6 := hidep (And.intro hc6 hb6); have HB56 := hidep (H5.out.2.trans (hb6.mono H5.out.2.size)); obtain ⟨n6, hn6⟩ : ∃ x, x = c6.length := ⟨_, rfl⟩; have HN6 := hidep hn6; rw [<- hn6]; clear hn6 hc6 hb6)
    | (go_at_call 12; refine (HFEW.out _ HB56.out).mono ?_; rintro e w7 ⟨v7, rfl, hc7, hb7⟩; obtain ⟨x7, k7, e7, -, -⟩ := hc7.1.form; subst e7; obtain ⟨rn, hrn⟩ : ∃ x, x = (raw.take 24).length := ⟨_, rfl⟩; rw [<- hrn] at hc7 ⊢; have HRN := hidep hrn; clear hrn))
  have hb57 := hb7
  have hbX7 : Below X.heap.size X w7 := HB56.out.trans (hb7.mono HB56.out.size)
  have H7 := hidep (And.intro hc7 (And.intro (H6.out.1.below hb7) (And.intro (H5.out.1.below (H6.out.2.trans (hb7.mono H6.out.2.size))) (And.intro (H3.out.2.1.below hbX7) hbX7))))
  clear hc7 hb7 hb57 hbX7 HFEW HB6
  obtain ⟨Lb, hLb⟩ : ∃ B, B = w7.heap.size := ⟨_, rfl⟩
  refine zq9 (fun Z => Below w7.heap.size w7 Z /\ Z.heap[Lb]? = some (.cells #[.slice xl cn xlc, .slice x5 n5 k5, .slice x6 n6 k6, .slice x7 rn k7, .slice none 0 0] 23)) ⟨(Below.refl _ _).alloc (Nat.le_refl _) _, by rw [hLb]; exact heap_alloc_new _ _⟩ ?_
  rintro w8 ⟨hb8, hx8⟩
  rw [<- hLb]
  have hbX8 : Below X.heap.size X w8 := H7.out.2.2.2.2.trans (hb8.mono H7.out.2.2.2.2.size)
  have hD : BrD w2 Lb w8 := by
    have h5 := H7.out.2.2.1
    rw [<- HN5.out] at h5
    have h6 := H7.out.2.1
    rw [<- HN6.out] at h6
    exact brd_of (H3.out.1.trans (hbX8.mono H3.out.1.size)) hx8 (H7.out.2.2.2.1.below hb8) (h5.below hb8) (h6.below hb8) (H7.out.1.below hb8)
  have HD := hidep hD
  have HCX := hidep (fun (Z : World) (hZ : Below w8.heap.size w8 Z) => H3.out.2.1.below (hbX8.trans (hZ.mono hbX8.size)))
  have HBX := hidep (fun (Z : World) (hZ : Below w8.heap.size w8 Z) => (H3.out.1.trans (hbX8.mono H3.out.1.size)).trans (hZ.mono (H3.out.1.trans (hbX8.mono H3.out.1.size)).size))
  clear hb8 hx8 hbX8 hD hLb H5 H6 H7 HB56
  have HAR := hidep (fun (Z : World) => zq14 r 6 Z HR.out.2.2.2.1 HR.out.2.2.2.2)
  obtain ⟨z6, hz6⟩ : ∃ z, z = zqd r 6 := ⟨_, rfl⟩
  rw [<- hz6] at HAR
  obtain ⟨mst, hmst⟩ : ∃ x, IntKind.i64.wrap (1 + z6) = x := ⟨_, rfl⟩
  clear hz6
  go_upto_region 7 with (go_at_call 9; (with_reducible refine (HAR.out _).mono ?_); rintro e w9 ⟨rfl, rfl⟩)
  clear hmst HAR
  refine wp_loop (LoopI 88 (fun tm ds wr => (slot tm 3) = .int .i64 p /\ (slot tm 4) = .int .i64 q /\ (slot tm 5) = .int .i64 r /\ (slot tm 14) = .bool false /\ (slot tm 15) = .pointer (some ⟨Bt, 0, none⟩) /\ (slot tm 16) = .slice xl cn xlc /\ (slot tm 19) = .slice (some ⟨Lb, 0, none⟩) 5 5 /\ (slot tm 20) = .int .i64 mst /\ ds = [] /\ BrL w8 Lb (slot tm 21) wr)) (fun a' wr => 5 - natI (a'.tmps.getD 21 undef)) ?liStart ?liRound
  case' liStart => refine LoopI.mk rfl ?_
  case' liRound => (rintro ⟨t, ds⟩ wr ⟨hts, hrel⟩; dsimp only at hts hrel; rw [zq6a t ds hts])
  case liStart => exact ⟨rfl, rfl, rfl, rfl, rfl, rfl, rfl, rfl, rfl, 0, by decide, rfl, HD.out.rebase⟩
  obtain ⟨e3, e4, e5, e14, e15, e16, e19, e20, hds, i, hi, e21, hD⟩ := hrel
  subst hds
  rw [e3, e4, e5, e14, e15, e16, e19, e20, e21]
  clear e3 e4 e5 e14 e15 e16 e19 e20 e21 hts HD
  obtain ⟨wi, hwi⟩ : ∃ wo : World, wo = wr := ⟨_, rfl⟩
  rw [<- hwi] at hD ⊢
  clear hwi
  have HDI := hidep hD
  have hiw : IntKind.i64.wrap ((i : Int) + 1) = (i : Int) + 1 := IntWalk.i64_in _ (by omega)
  by_cases hi5 : i < 5
  case pos =>
    have hiI : (i : Int) < 5 := by omega
    obtain ⟨da, dn, dc, D, hx0, hd⟩ := hD.cl i hi5
    have hll := hD.ll
    have HTS := hidep (show ∀ Z : World, Below wi.heap.size wi Z -> (Z.cell? ⟨Bt, 0, none⟩ = some (.slice aa T.l0.length ac) /\ Z.cell? ⟨Bt, 1, none⟩ = some (.slice ba T.l1.length bc) /\ Z.cell? ⟨Bt, 2, none⟩ = some (.slice da2 T.dg.length dc2) /\ Z.cell? ⟨Bt, 3, none⟩ = some (.slice ca T.cp.length cc) /\ Z.cell? ⟨Bt, 4, none⟩ = some (.slice na T.nm.length nc) /\ Z.cell? ⟨Bt, 5, none⟩ = some (.slice ea T.en.length ec) /\ Z.cell? ⟨Bt, 6, none⟩ = some (.slice sa T.sw.length sc)) /\ Z.cell? ⟨Lb, i, none⟩ = some (.slice da dn dc) from fun Z hZ => ⟨HSEE.out Z (HBX.out Z (hD.low.trans (hZ.mono hD.low.size))), (hZ.cell (p := ⟨Lb, i, none⟩) hll).trans hx0⟩)
    have HSM := hidep (show ∀ Z : World, Below wi.heap.size wi Z -> Calls Tryz.prog 18 #[.agg #[.slice aa T.l0.length ac, .slice ba T.l1.length bc, .slice da2 T.dg.length dc2, .slice ca T.cp.length cc, .slice na T.nm.length nc, .slice ea T.en.length ec, .slice sa T.sw.length sc], .slice da dn dc, .int .i64 mst] Z (fun e w' => e = .returned (.bool true) /\ Below Z.heap.size Z w') from fun Z hZ => HVv.out ▸ zq87 V T (.slice da dn dc) D mst Z (HT2.out.1.below (HBX.out Z (hD.low.trans (hZ.mono hD.low.size)))) HT2.out.2.2.1 (hd.below hZ))
    clear hD hx0 hd hll
    go_upto_region 9 with (fail)
    refine wp_region_noPanic (wp_region_held_drew (S := (fun Z => Below wi.heap.size wi Z)) (by kernel_rfl) ?hSz3 (fun hHeld => ?hRz3))
    case hSz3 => ((try dsimp only); (exact (Below.refl _ _).drew))
    refine tkB 0 rfl (.inl ⟨by kernel_rfl, fun w hSw => by (obtain ⟨⟨g0, g1, g2, g3, g4, g5, g6⟩, hx0⟩ := HTS.out _ hSw); go_simp; first | done | with_reducible rfl⟩) ?_
    refine tkC 1 rfl ?_
    refine tkC 2 rfl ?_
    refine tkC 3 rfl ?_
    refine tkB 4 rfl (.inl ⟨by kernel_rfl, fun w hSw => by (obtain ⟨⟨g0, g1, g2, g3, g4, g5, g6⟩, hx0⟩ := HTS.out _ hSw); go_simp; first | done | with_reducible rfl⟩) ?_
    refine tkC 5 rfl ?_
    refine wpAnyH_ready (rs := [6]) (by kernel_rfl) (by simp) (AllReadyH.cons rfl (fun K hK => ?hcz4) AllReadyH.nil)
    go_simp
    (go_at_call 18; (with_reducible refine (HSM.out _ hHeld).mono ?_); rintro e' w64 ⟨rfl, hb64⟩; have hk9 := hHeld.trans (hb64.mono hHeld.size); (try dsimp only))
    refine hK.out _ _ (by (try dsimp only); (exact hk9)) ?_
    clear hHeld hK; intro hHeld
    refine tkC 7 rfl ?_
    refine wpAnyH_done (by kernel_rfl) ?_ _
    clear hHeld
    refine NoPanic.normal ?_
    all_goals
      (try dsimp only [Exit.then])
      have HE := hidep (HDI.out.below hk9)
      clear hk9
      go_wp2
      refine ⟨LoopI.mk (by kernel_rfl) ⟨by kernel_rfl, by kernel_rfl, by kernel_rfl, by kernel_rfl, by kernel_rfl, by kernel_rfl, by kernel_rfl, by kernel_rfl, rfl, i + 1, by omega, by kernel_rfl, HE.out⟩, ?_⟩
      show 5 - _ < 5 - _
      simp [natI]; omega
  have hiI : ¬ (i : Int) < 5 := by omega
  have hb2i := HBX.out _ hD.low
  have HBI := hidep (fun (Z : World) (hZ : Below wi.heap.size wi Z) => HBX.out Z (hD.low.trans (hZ.mono hD.low.size)))
  have HCI := hidep (fun (Z : World) (hZ : Below wi.heap.size wi Z) => HCX.out Z (hD.low.trans (hZ.mono hD.low.size)))
  clear hD hb2i HDI
  have hlen := And.intro (zq78 HT2.out.2.1.l0) (zq78 HT2.out.2.1.l1)
  have HBT := hidep (show ∀ Z : World, Below wi.heap.size wi Z -> Calls Tryz.prog 10 #[.agg #[.slice aa T.l0.length ac, .slice ba T.l1.length bc, .slice da2 T.dg.length dc2, .slice ca T.cp.length cc, .slice na T.nm.length nc, .slice ea T.en.length ec, .slice sa T.sw.length sc], .int .i64 p, .int .i64 q, .int .i64 r] Z (fun e w' => BtP Z e w') from fun Z hZ => HVv.out ▸ bentT_any V T p q r Z (HT2.out.1.below (HBI.out Z hZ)) HT2.out.2.2.1 (by omega) (by omega) (tabG_dg HT2.out.2.1) HR.out.2.1.1 HR.out.2.1.2 HR.out.2.2.1.1 HR.out.2.2.1.2 HR.out.2.2.2.1 HR.out.2.2.2.2)
  clear hlen
  obtain ⟨g0, g1, g2, g3, g4, g5, g6⟩ := HSEE.out wi (HBI.out wi (Below.refl _ _))
  go_upto_region 12 with (go_at_call 10; refine (HBT.out _ (Below.refl _ _)).mono ?_; rintro e wb ⟨⟨va, vb, vd, vc, vn, ve, vs⟩, T3, rfl, hT3, hok3, hb3⟩; obtain ⟨ya, yac, o0, -, -⟩ := hT3.r0.form; obtain ⟨yb, ybc, o1, -, -⟩ := hT3.r1.form; obtain ⟨yd, ydc, o2, -, -⟩ := hT3.dg.1.form; obtain ⟨yc, ycc, o3, -, -⟩ := hT3.cp.1.form; obtain ⟨yn, ync, o4, -, -⟩ := hT3.nm.1.form; obtain ⟨ye, yec, o5, -, -⟩ := hT3.en.1.form; obtain ⟨ys, ysc, o6, -, -⟩ := hT3.sw.1.form; unfold TabV.v; dsimp only at o0 o1 o2 o3 o4 o5 o6 ⊢; subst o0 o1 o2 o3 o4 o5 o6)
  have HB3 := hidep (And.intro hT3 (And.intro hok3 hb3))
  obtain ⟨Bb, hBb⟩ : ∃ B, B = wb.heap.size := ⟨_, rfl⟩
  refine zq9 (fun Z => Below wb.heap.size wb Z /\ Z.heap[Bb]? = some (.cells #[.slice ya T3.l0.length yac, .slice yb T3.l1.length ybc, .slice yd T3.dg.length ydc, .slice yc T3.cp.length ycc, .slice yn T3.nm.length ync, .slice ye T3.en.length yec, .slice ys T3.sw.length ysc] 29)) ⟨(Below.refl _ _).alloc (Nat.le_refl _) _, by rw [hBb]; exact heap_alloc_new _ _⟩ ?_
  rintro wc ⟨hbc, hxc⟩
  rw [<- hBb]
  have hbic : Below wi.heap.size wi wc := HB3.out.2.2.trans (hbc.mono HB3.out.2.2.size)
  have HTB := hidep (fun (Z : World) (hZ : Below wc.heap.size wc Z) => HSEE.out Z (HBI.out Z (hbic.trans (hZ.mono hbic.size))))
  have HS1 := hidep (show ∀ Z : World, Below wc.heap.size wc Z -> Calls Tryz.prog 18 #[.agg #[.slice ya T3.l0.length yac, .slice yb T3.l1.length ybc, .slice yd T3.dg.length ydc, .slice yc T3.cp.length ycc, .slice yn T3.nm.length ync, .slice ye T3.en.length yec, .slice ys T3.sw.length ysc], .slice xl cn xlc, .int .i64 mst] Z (fun e w' => e = .returned (.bool true) /\ Below Z.heap.size Z w') from fun Z hZ => zq87 ⟨_, _, _, _, _, _, _⟩ T3 (.slice xl cn xlc) C mst Z ((HB3.out.1.below hbc).below hZ) HB3.out.2.1 (HCI.out Z (hbic.trans (hZ.mono hbic.size))))
  have HS2 := hidep (show ∀ Z : World, Below wc.heap.size wc Z -> Calls Tryz.prog 18 #[.agg #[.slice aa T.l0.length ac, .slice ba T.l1.length bc, .slice da2 T.dg.length dc2, .slice ca T.cp.length cc, .slice na T.nm.length nc, .slice ea T.en.length ec, .slice sa T.sw.length sc], .slice xl cn xlc, .int .i64 0] Z (fun e w' => e = .returned (.bool true) /\ Below Z.heap.size Z w') from fun Z hZ => HVv.out ▸ zq87 V T (.slice xl cn xlc) C 0 Z (HT2.out.1.below (HBI.out Z (hbic.trans (hZ.mono hbic.size)))) HT2.out.2.2.1 (HCI.out Z (hbic.trans (hZ.mono hbic.size))))
  have HS3 := hidep (show ∀ Z : World, Below wc.heap.size wc Z -> Calls Tryz.prog 18 #[.agg #[.slice aa T.l0.length ac, .slice ba T.l1.length bc, .slice da2 T.dg.length dc2, .slice ca T.cp.length cc, .slice na T.nm.length nc, .slice ea T.en.length ec, .slice sa T.sw.length sc], .slice xl cn xlc, .int .i64 65] Z (fun e w' => e = .returned (.bool true) /\ Below Z.heap.size Z w') from fun Z hZ => HVv.out ▸ zq87 V T (.slice xl cn xlc) C 65 Z (HT2.out.1.below (HBI.out Z (hbic.trans (hZ.mono hbic.size)))) HT2.out.2.2.1 (HCI.out Z (hbic.trans (hZ.mono hbic.size))))
  have HWC := hidep (HA2.out.2.2.2.trans ((HBI.out wc hbic).mono HA2.out.2.2.2.size))
  obtain ⟨y0, y1, y2, y3, y4, y5, y6⟩ := tb7 hxc
  clear g0 g1 g2 g3 g4 g5 g6 hT3 hok3 hb3 hBb hbc hxc hbic HBT
  go_wp2_with (first
    | (go_at_call 18; (with_reducible refine (HS1.out _ (Below.refl _ _)).mono ?_); rintro e s1 ⟨rfl, hs1⟩; obtain ⟨g0, g1, g2, g3, g4, g5, g6⟩ := HTB.out s1 hs1)
    | (go_at_call 18; (with_reducible refine (HS2.out _ hs1).mono ?_); rintro e s2 ⟨rfl, hs2⟩; have hs12 := hs1.trans (hs2.mono hs1.size); obtain ⟨k0, k1, k2, k3, k4, k5, k6⟩ := HTB.out s2 hs12)
    | (go_at_call 18; (with_reducible refine (HS3.out _ hs12).mono ?_); rintro e s3 ⟨rfl, hs3⟩; have hs13 := hs12.trans (hs3.mono hs12.size))
    | (go_at_call 19; refine (lives_any _).mono ?_; rintro e s4 ⟨rfl, hs4⟩; have hs14 := hs13.trans (hs4.mono hs13.size)))
  go_ret
  exact ⟨rfl, HWC.out.trans (hs14.mono HWC.out.size)⟩
end Go.Proofs.YtcfjepcflanjbaaGreat
