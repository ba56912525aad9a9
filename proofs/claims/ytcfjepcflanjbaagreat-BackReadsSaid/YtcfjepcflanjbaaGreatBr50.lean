/- The reference: the first texts from each place. -/
import Derived.Test.YtcfjepcflanjbaaGreatBr02
import Derived.Test.YtcfjepcflanjbaaGreatBr47
import Derived.Test.YtcfjepcflanjbaaGreatBr48
import Derived.Test.YtcfjepcflanjbaaGreatBr49
import Derived.Test.YtcfjepcflanjbaaGreatBr32
namespace Go.Proofs.YtcfjepcflanjbaaGreat
open Go.RowKit Go.Lab Go.Shelf
set_option maxRecDepth 100000
/-! ### plain -/
def lfZ (T : TabZ) (C : List Int) (most e : Nat) (p : PlZ) (i : Nat) : List (List Sym) := (((zqa T p).take i).flatMap (rawM C e p (txtZ T C most))).foldl (putZ most) ((raw0 C.length e p).foldl (putZ most) [])
theorem zqb0 {most : Nat} : ∀ (X L : List (List Sym)), L.length <= most -> (X.foldl (putZ most) L).length <= most
  | [], _, h => h
  | t :: X, L, _ => zqb0 X _ (by unfold putZ; rw [List.length_take]; omega)
theorem lfZ_len (T : TabZ) (C : List Int) (most e : Nat) (p : PlZ) (i : Nat) : (lfZ T C most e p i).length <= most := zqb0 _ _ (zqb0 _ _ (Nat.zero_le _))
theorem lfZ_succ (T : TabZ) (C : List Int) (most e : Nat) (p : PlZ) {i : Nat} (h : i < (zqa T p).length) : lfZ T C most e p (i + 1) = (rawM C e p (txtZ T C most) (zqa T p)[i]).foldl (putZ most) (lfZ T C most e p i) := by
  unfold lfZ
  rw [List.take_succ_eq_append_getElem h, List.flatMap_append, List.foldl_append]
  simp only [List.flatMap_cons, List.flatMap_nil, List.append_nil]
theorem lfZ_all {T : TabZ} {C : List Int} {most e : Nat} {p : PlZ} (hv : zq8 T = 0) (hp : PlOk p) (he : e <= C.length) : lfZ T C most e p (zqa T p).length = txtZ T C most e p := by
  rw [txtZ_eq hv hp he]
  unfold lfZ rawZ
  rw [List.take_length, List.foldl_append]
theorem lfZ_zero (T : TabZ) (C : List Int) (most e : Nat) (p : PlZ) (hm : 1 <= most) : lfZ T C most e p 0 = if e = C.length /\ p.sw = false /\ p.need ≠ 2 then [[]] else [] := by
  unfold lfZ raw0
  rw [List.take_zero]
  split
  · show putZ most [] [] = [[]]
    unfold putZ insZ
    rw [List.take_of_length_le (by simpa using hm)]
  · rfl
def lgZ (T : TabZ) (C : List Int) (most e : Nat) (p : PlZ) (i : Nat) (m : MvZ) (R : List (List Sym)) (j : Nat) : List (List Sym) := ((R.take j).map (zq1b p.st.lang m.text m.cap ++ ·)).foldl (putZ most) (lfZ T C most e p i)
theorem lgZ_len (T : TabZ) (C : List Int) (most e : Nat) (p : PlZ) (i : Nat) (m : MvZ) (R : List (List Sym)) (j : Nat) : (lgZ T C most e p i m R j).length <= most := zqb0 _ _ (lfZ_len ..)
theorem lgZ_succ (T : TabZ) (C : List Int) (most e : Nat) (p : PlZ) (i : Nat) (m : MvZ) (R : List (List Sym)) {j : Nat} (h : j < R.length) : lgZ T C most e p i m R (j + 1) = putZ most (lgZ T C most e p i m R j) (zq1b p.st.lang m.text m.cap ++ R[j]) := by
  unfold lgZ
  rw [List.take_succ_eq_append_getElem h, List.map_append, List.foldl_append]
  rfl
theorem symssNil (w : World) : SymssAt w (.slice none 0 0) [] := ⟨[], rfl, Rd.nil _ _ _, fun i h => by simp at h⟩
theorem movesX_len {T : TabZ} {p : PlZ} (hv : zq8 T = 0) : (zqa T p).length <= 300 := by
  have h1 := zqac hv
  have h2 := zq54 hv
  have h3 := zqae T p (T.rules p.st.lang)
  have h4 : (T.rules p.st.lang).length <= 96 := by
    unfold TabZ.rules
    split
    · exact h1.1
    · exact h1.2
  have h5 : (swMv T p).length <= 1 := by
    unfold swMv
    split <;> simp
  unfold zqa
  rw [List.length_append]
  split
  · simp only [List.length_nil]; omega
  · rw [List.length_append, zq52]; omega
/-! ### the walk -/
def XrO (X0 : World) (T : TabZ) (C : List Int) (most Kb n : Nat) (u : Value) (W : World) : Prop := ∃ d : Nat, d <= n + 1 /\ u = .int .i64 ((d : Int) - 1) /\ KAll T C most Kb n d W /\ Below X0.heap.size X0 W
def XrK (X0 : World) (T : TabZ) (C : List Int) (most Kb n e R : Nat) (u : Value) (W : World) : Prop := ∃ k : Nat, k <= 48 /\ u = .int .i64 (k : Nat) /\ KMid T C most Kb n e R W /\ KRow T C most e k R W /\ Below X0.heap.size X0 W
def XrI (Y : World) (T : TabZ) (C : List Int) (most e : Nat) (p : PlZ) (mn : Nat) (u v : Value) (W : World) : Prop := ∃ i : Nat, i <= mn /\ v = .int .i64 (i : Nat) /\ SymssAt W u (lfZ T C most e p i) /\ Below Y.heap.size Y W
def XrJ (Y : World) (T : TabZ) (C : List Int) (most e : Nat) (p : PlZ) (i : Nat) (m : MvZ) (R : List (List Sym)) (u v : Value) (W : World) : Prop := ∃ j : Nat, j <= R.length /\ v = .int .i64 (j : Nat) /\ SymssAt W u (lgZ T C most e p i m R j) /\ Below Y.heap.size Y W
def Xr1 (X : World) (v1 v2 v3 v7 v8 v9 v10 v11 : Value) : Act -> World -> Prop := fun a W => a.tmps.size = 121 /\ a.defers = [] /\ slot a.tmps 1 = v1 /\ slot a.tmps 2 = v2 /\ slot a.tmps 3 = v3 /\ slot a.tmps 7 = v7 /\ slot a.tmps 8 = v8 /\ slot a.tmps 9 = v9 /\ slot a.tmps 10 = v10 /\ slot a.tmps 11 = v11 /\ slot a.tmps 44 = .bool false /\ W = X
def Xr2 (X : World) (v1 v2 v3 v7 v8 v9 v10 v11 : Value) (b : Bool) : Act -> World -> Prop := fun a W => a.tmps.size = 121 /\ a.defers = [] /\ slot a.tmps 1 = v1 /\ slot a.tmps 2 = v2 /\ slot a.tmps 3 = v3 /\ slot a.tmps 7 = v7 /\ slot a.tmps 8 = v8 /\ slot a.tmps 9 = v9 /\ slot a.tmps 10 = v10 /\ slot a.tmps 11 = v11 /\ slot a.tmps 12 = .slice none 0 0 /\ slot a.tmps 57 = .bool b /\ W = X
def Xr3 (X : World) (v1 v2 v3 v7 v8 v9 v10 v11 : Value) (L : List (List Sym)) : Act -> World -> Prop := fun a W => ∃ (v : Value), a.tmps.size = 121 /\ a.defers = [] /\ slot a.tmps 1 = v1 /\ slot a.tmps 2 = v2 /\ slot a.tmps 3 = v3 /\ slot a.tmps 7 = v7 /\ slot a.tmps 8 = v8 /\ slot a.tmps 9 = v9 /\ slot a.tmps 10 = v10 /\ slot a.tmps 11 = v11 /\ slot a.tmps 12 = v /\ SymssAt W v L /\ Below X.heap.size X W
def Xr5 (X : World) (v1 v2 v3 v7 v8 v9 v10 v11 v12 v13 v14 v15 v16 : Value) : Act -> World -> Prop := fun a W => a.tmps.size = 121 /\ a.defers = [] /\ slot a.tmps 1 = v1 /\ slot a.tmps 2 = v2 /\ slot a.tmps 3 = v3 /\ slot a.tmps 7 = v7 /\ slot a.tmps 8 = v8 /\ slot a.tmps 9 = v9 /\ slot a.tmps 10 = v10 /\ slot a.tmps 11 = v11 /\ slot a.tmps 12 = v12 /\ slot a.tmps 13 = v13 /\ slot a.tmps 14 = v14 /\ slot a.tmps 15 = v15 /\ slot a.tmps 16 = v16 /\ Below X.heap.size X W
theorem KAll.of_made {T : TabZ} {C : List Int} {most Kb n : Nat} {W : World} (h : W.heap[Kb]? = some (.cells (List.replicate (n + 1) (Value.slice none 0 0)).toArray 161)) : KAll T C most Kb n (n + 1) W := ⟨_, h, by simp, fun a h1 h2 => by omega⟩
theorem plR_pl0 : zq15 0 = pl0 := by decide
set_option maxHeartbeats 8000000 in
theorem textsR_any (V : TabV) (T : TabZ) (cv : Value) (C : List Int) (most : Nat) (w : World) (hT : TabIn w V T) (hok : TabOk T) (hv : zq8 T = 0) (hC : BysAt w cv C) (hCl : C.length <= 8192) (hm1 : 1 <= most) (hm2 : most <= 64) :
    Calls Tryz.prog 72 #[V.v, cv, .int .i64 (most : Nat)] w fun e w' => ∃ v, e = .returned v /\ SymssAt w' v (txtZ T C most 0 pl0) /\ Below w.heap.size w w' := by
  obtain ⟨ca, cc, rfl, hcc, hcm⟩ := hC.1.form
  unfold maxLen at hcm
  have HT := hidep (And.intro hT (And.intro hok hv))
  have HC := hidep hC
  obtain ⟨n, hn⟩ : ∃ n, n = C.length := ⟨_, rfl⟩
  have HN := hidep hn
  have HCL := hidep hCl
  rw [<- hn] at hCl hcc ⊢
  have HVv := hidep (show V.v = .agg #[V.a, V.b, V.d, V.c, V.n, V.e, V.s] from rfl)
  rw [HVv.out]
  have hmk4 := fun W => run_make_row' (P := Tryz.prog) 160 161 (.slice none 0 0) 24 Tryz.underlying160 slT4.2.1 rfl .i64 .i64 (n + 1) (by omega) (by omega) W
  simp only [Int.natCast_add, Int.cast_ofNat_Int] at hmk4
  have hwn : IntKind.i64.wrap ((n : Int) + 1) = (n : Int) + 1 := IntWalk.i64_in _ (by omega)
  clear hT hok hv hC hn
  go_enter Tryz.func72, Tryz.ntmps72
  go_upto_region 1 with (fail)
  obtain ⟨Bt, hBt⟩ : ∃ B, B = w.heap.size := ⟨_, rfl⟩
  refine zq9 (fun X => Below w.heap.size w X /\ X.heap[Bt]? = some (.cells #[V.a, V.b, V.d, V.c, V.n, V.e, V.s] 29)) ⟨(Below.refl _ _).alloc (Nat.le_refl _) _, by rw [hBt]; exact heap_alloc_new _ _⟩ ?_
  rintro X0 ⟨hb0, hx0⟩
  rw [<- hBt]
  have HX0 := hidep (And.intro hb0 hx0)
  clear hb0 hx0 hBt
  go_upto_region 3 with (fail)
  obtain ⟨Kb, hKb⟩ : ∃ B, B = X0.heap.size := ⟨_, rfl⟩
  refine zq9 (fun X => Below X0.heap.size X0 X /\ KAll T C most Kb n (n + 1) X) ⟨(Below.refl _ _).alloc (Nat.le_refl _) _, KAll.of_made (by rw [hKb, <- zqc8]; exact heap_alloc_new _ _)⟩ ?_
  rintro X1 ⟨hb1, hk1⟩
  rw [<- hKb]
  have HKB := hidep (show X0.heap.size <= Kb by omega)
  have HX1 := hidep (And.intro hb1 hk1)
  have hmk3 : ∀ W : World, (Instr.makeSlice 161 (.int .i64 48) (.int .i64 48)).run Tryz.prog W = .ok (.slice (some ⟨W.heap.size, 0, none⟩) 48 48) (W.alloc (.cells (madeCells #[.slice none 0 0] 48) 42)) := fun W => run_make_row' (P := Tryz.prog) 161 42 (.slice none 0 0) 24 Tryz.underlying161 slT3.2.1 rfl .i64 .i64 48 (by omega) (by omega) W
  clear hb1 hk1 hKb hmk4 hwn
  go_upto_region 4 with (fail)
  refine wp_loop (LoopI 121 (fun tm ds wr => (slot tm 1) = .slice ca n cc /\ (slot tm 2) = .int .i64 (most : Nat) /\ (slot tm 3) = .pointer (some ⟨Bt, 0, none⟩) /\ (slot tm 7) = .int .i64 (n : Nat) /\ (slot tm 8) = .slice (some ⟨Kb, 0, none⟩) (n + 1) (n + 1) /\ ds = [] /\ XrO X0 T C most Kb n (slot tm 9) wr)) (fun a' wr => (intOf (a'.tmps.getD 9 undef) + 1).toNat) ?loStart ?loRound
  case' loStart => refine LoopI.mk rfl ?_
  case' loRound => (rintro ⟨t, ds⟩ wr ⟨hts, hrel⟩; dsimp only at hts hrel; rw [zq3d t ds hts])
  case loStart => exact ⟨rfl, rfl, rfl, rfl, rfl, rfl, n + 1, Nat.le_refl _, (by show Value.int _ _ = _; congr 1; omega), HX1.out.2, HX1.out.1⟩
  obtain ⟨e1, e2, e3, e7, e8, hds, d, hd, e9, hK, hbw⟩ := hrel
  subst hds
  rw [e1, e2, e3, e7, e8, e9]
  clear e1 e2 e3 e7 e8 e9 hts HX1
  have HK := hidep (And.intro hK hbw)
  clear hK hbw
  rcases Nat.eq_zero_or_pos d with hd0 | hd0
  · subst hd0
    have hge : ¬ ((0 : Nat) : Int) - 1 >= 0 := by omega
    obtain ⟨cur, h1, h2, h3⟩ := HK.out.1
    obtain ⟨R, h4, ⟨c2, h5, h6, h7⟩⟩ := h3 0 (Nat.le_refl _) (Nat.zero_le _)
    obtain ⟨u, h8, hu⟩ := h7 0 (by decide)
    obtain ⟨ua, uc, hue, -, -⟩ := hu.form
    subst hue
    have q0 : wr.cell? ⟨Kb, 0, none⟩ = some (.slice (some ⟨R, 0, none⟩) 48 48) := by simp [World.cell?, h1, h4]
    have HU := hidep hu
    obtain ⟨un, hun⟩ : ∃ x, x = (txtZ T C most 0 (zq15 0)).length := ⟨_, rfl⟩
    rw [<- hun] at h8
    have q1 : wr.cell? ⟨R, 0, none⟩ = some (.slice ua un uc) := by simp [World.cell?, h5, h8]
    have HUN := hidep hun
    have hn0 : (0 : Int) < (n : Int) + 1 := by omega
    clear h1 h2 h3 h4 h5 h6 h7 h8 hu hun hmk3
    go_wp2
    go_ret
    refine ⟨_, rfl, ?_, HX0.out.1.trans (HK.out.2.mono HX0.out.1.size)⟩
    rw [HUN.out, <- plR_pl0]
    exact HU.out
  obtain ⟨e, rfl⟩ : ∃ e, d = e + 1 := ⟨d - 1, by omega⟩
  have hde : (((e + 1 : Nat) : Int) - 1) = (e : Int) := by omega
  rw [hde]
  clear hde hd0
  have heI : (e : Int) >= 0 := by omega
  have hen : e <= n := by omega
  have henI : (e : Int) < (n : Int) + 1 := by omega
  have hew : IntKind.i64.wrap ((e : Int) - 1) = (e : Int) - 1 := IntWalk.i64_in _ (by omega)
  obtain ⟨wo, hwo⟩ : ∃ wo : World, wo = wr := ⟨_, rfl⟩
  rw [<- hwo] at HK ⊢
  clear hwo
  obtain ⟨R, hR⟩ : ∃ B, B = wo.heap.size := ⟨_, rfl⟩
  obtain ⟨kcur, hkc1, hkc2, -⟩ := HK.out.1
  have hkl : Kb < wo.heap.size := lt_of_block hkc1
  obtain ⟨kv0, hkv0⟩ : ∃ x, kcur[e]? = some x := ⟨_, Array.getElem?_eq_getElem (show e < kcur.size by omega)⟩
  have hcK : wo.cell? ⟨Kb, e, none⟩ = some kv0 := by simp [World.cell?, hkc1, hkv0]
  have hfK : wo.frozen? ⟨Kb, e, none⟩ = false := zq31 hkc1 e
  have HKL := hidep (And.intro hkl hR)
  clear hkc1 hkc2 hkv0
  go_upto_region 7 with (fail)
  refine zq9 (fun Z => KMid T C most Kb n e R Z /\ KRow T C most e 0 R Z /\ Below X0.heap.size X0 Z) ?kx ?_
  case kx =>
    have hsz : (wo.setCell ⟨Kb, e, none⟩ (.slice (some ⟨wo.heap.size, 0, none⟩) 48 48)).heap.size = wo.heap.size := by simp [World.setCell]
    have h1 : KMid T C most Kb n e R (wo.setCell ⟨Kb, e, none⟩ (.slice (some ⟨wo.heap.size, 0, none⟩) 48 48)) := by
      rw [<- hR]
      exact KMid.start HK.out.1 hen (by omega)
    have h2 : Below X0.heap.size X0 (wo.setCell ⟨Kb, e, none⟩ (.slice (some ⟨wo.heap.size, 0, none⟩) 48 48)) := HK.out.2.setCell HKB.out _
    have h3 := heap_alloc_new (wo.setCell ⟨Kb, e, none⟩ (.slice (some ⟨wo.heap.size, 0, none⟩) 48 48)) (.cells (madeCells #[.slice none 0 0] 48) 42)
    rw [hsz, <- hR] at h3
    refine ⟨h1.below ((Below.refl _ _).alloc (Nat.le_refl _) _), ⟨_, by rw [<- hR]; exact h3, by rw [zqc8]; simp, fun k hk => by omega⟩, h2.alloc h2.size _⟩
  rintro X6 ⟨hm6, hr6, hb6⟩
  have HM6 := hidep (And.intro hm6 (And.intro hr6 hb6))
  clear hm6 hr6 hb6 hcK hfK hmk3 hR hkl
  go_upto_region 8 with (fail)
  refine wp_loop (LoopI 121 (fun tm ds wr => (slot tm 1) = .slice ca n cc /\ (slot tm 2) = .int .i64 (most : Nat) /\ (slot tm 3) = .pointer (some ⟨Bt, 0, none⟩) /\ (slot tm 7) = .int .i64 (n : Nat) /\ (slot tm 8) = .slice (some ⟨Kb, 0, none⟩) (n + 1) (n + 1) /\ (slot tm 9) = .int .i64 (e : Nat) /\ ds = [] /\ XrK X0 T C most Kb n e R (slot tm 10) wr)) (fun a' wr => 48 - natI (a'.tmps.getD 10 undef)) ?lkStart ?lkRound
  case' lkStart => refine LoopI.mk rfl ?_
  case' lkRound => (rintro ⟨t, ds⟩ wr ⟨hts, hrel⟩; dsimp only at hts hrel; rw [zq3d t ds hts])
  case lkStart => exact ⟨rfl, rfl, rfl, rfl, rfl, rfl, rfl, 0, Nat.zero_le _, rfl, HM6.out.1, HM6.out.2.1, HM6.out.2.2⟩
  obtain ⟨e1, e2, e3, e7, e8, e9, hds, k, hk, e10, hM, hr, hbw⟩ := hrel
  subst hds
  rw [e1, e2, e3, e7, e8, e9, e10]
  clear e1 e2 e3 e7 e8 e9 e10 hts HM6
  have HK2 := hidep (And.intro hM (And.intro hr hbw))
  clear hM hr hbw
  have hkw : IntKind.i64.wrap ((k : Int) + 1) = (k : Int) + 1 := IntWalk.i64_in _ (by omega)
  obtain ⟨wk, hwk⟩ : ∃ wo : World, wo = wr := ⟨_, rfl⟩
  rw [<- hwk] at HK2 ⊢
  clear hwk
  by_cases hk48 : k < 48
  case neg =>
    have hkI : ¬ (k : Int) < 48 := by omega
    have HKA := hidep (show KAll T C most Kb n e wk /\ Below X0.heap.size X0 wk from ⟨HK2.out.1.done (HK2.out.2.1.low (by split <;> omega)), HK2.out.2.2⟩)
    go_wp2
    refine ⟨LoopI.mk (by kernel_rfl) ⟨by kernel_rfl, by kernel_rfl, by kernel_rfl, by kernel_rfl, by kernel_rfl, rfl, e, by omega, by kernel_rfl, HKA.out.1, HKA.out.2⟩, ?_⟩
    first | (simp [intOf]; done) | (simp [intOf]; omega)
  have hkI : (k : Int) < 48 := by omega
  obtain ⟨p, hp⟩ : ∃ p, p = zq15 k := ⟨_, rfl⟩
  have hpok : PlOk p := by rw [hp]; exact zq95 hk48
  have HPL := hidep (show ∀ Z : World, Calls Tryz.prog 82 #[.int .i64 (k : Nat)] Z (fun e w' => e = .returned (.agg #[.int .i64 p.st.lang, .bool p.st.num, .bool p.st.word, .int .i64 (p.need : Nat), .bool p.sw]) /\ Below Z.heap.size Z w') from fun Z => by rw [hp]; exact placeR_any k hk48 Z)
  have HPK := hidep (And.intro hp hpok)
  clear hp hpok
  go_upto_region 11 with (go_at_call 82; refine (HPL.out _).mono ?_; rintro e' w1 ⟨rfl, hb1⟩)
  obtain ⟨Pb, hPb⟩ : ∃ B, B = w1.heap.size := ⟨_, rfl⟩
  refine zq9 (fun Z => Below wk.heap.size wk Z /\ Z.heap[Pb]? = some (.cells #[.int .i64 p.st.lang, .bool p.st.num, .bool p.st.word, .int .i64 (p.need : Nat), .bool p.sw] 141)) ⟨hb1.alloc hb1.size _, by rw [hPb]; exact heap_alloc_new _ _⟩ ?_
  rintro X2 ⟨hb2, hp2⟩
  rw [<- hPb]
  have HX2 := hidep (And.intro hb2 hp2)
  clear hb1 hb2 hp2 hPb HPL
  by_cases hbk : e = 0 /\ 0 < k
  · have heq : ((e : Int) == 0) = true := by simp [hbk.1]
    have hkg : (k : Int) > 0 := by omega
    have HKA := hidep (show KAll T C most Kb n e X2 /\ Below X0.heap.size X0 X2 from ⟨(HK2.out.1.below HX2.out.1).done ((HK2.out.2.1.below HX2.out.1).low (by rw [if_pos hbk.1]; omega)), HK2.out.2.2.trans (HX2.out.1.mono HK2.out.2.2.size)⟩)
    clear hbk
    obtain ⟨ei, hei⟩ : ∃ x : Int, x = (e : Int) := ⟨_, rfl⟩
    go_wp2
    refine ⟨LoopI.mk (by kernel_rfl) ⟨by kernel_rfl, by kernel_rfl, by kernel_rfl, by kernel_rfl, by kernel_rfl, rfl, e, by omega, by kernel_rfl, HKA.out.1, HKA.out.2⟩, ?_⟩
    first | (simp [intOf]; done) | (simp [intOf]; omega)
  refine zq17 (Xr1 X2 (.slice ca n cc) (.int .i64 (most : Nat)) (.pointer (some ⟨Bt, 0, none⟩)) (.int .i64 (n : Nat)) (.slice (some ⟨Kb, 0, none⟩) (n + 1) (n + 1)) (.int .i64 (e : Nat)) (.int .i64 (k : Nat)) (.pointer (some ⟨Pb, 0, none⟩))) ?r11 ?_
  case r11 =>
    intro K' hMK
    by_cases he0 : e = 0
    · have heq : ((e : Int) == 0) = true := by simp [he0]
      obtain rfl : k = 0 := by omega
      clear hbk he0
      go_wp2
      first
        | (refine ⟨?_, ?_, ?_, ?_, ?_, ?_, ?_, ?_, ?_, ?_, ?_, rfl⟩ <;> kernel_rfl)
        | (refine hMK _ _ ⟨?_, ?_, ?_, ?_, ?_, ?_, ?_, ?_, ?_, ?_, ?_, rfl⟩ <;> kernel_rfl)
    · have heq : ((e : Int) == 0) = false := by rw [beq_eq_false_iff_ne]; omega
      clear hbk
      go_wp2
      first
        | (refine ⟨?_, ?_, ?_, ?_, ?_, ?_, ?_, ?_, ?_, ?_, ?_, rfl⟩ <;> kernel_rfl)
        | (refine hMK _ _ ⟨?_, ?_, ?_, ?_, ?_, ?_, ?_, ?_, ?_, ?_, ?_, rfl⟩ <;> kernel_rfl)
  rintro ⟨tm, ds⟩ X ⟨hts, hds, e1, e2, e3, e7, e8, e9, e10, e11, e44, eX⟩
  dsimp only at hts hds e1 e2 e3 e7 e8 e9 e10 e11 e44 eX
  subst hds eX
  rw [zq3d tm _ hts, e1, e2, e3, e7, e8, e9, e10, e11, e44]
  clear e1 e2 e3 e7 e8 e9 e10 e11 e44 hts hbk
  (try apply_assumption)
  obtain ⟨p0, p1, p2, p3, p4⟩ : X.cell? ⟨Pb, 0, none⟩ = some (.int .i64 p.st.lang) /\ X.cell? ⟨Pb, 1, none⟩ = some (.bool p.st.num) /\ X.cell? ⟨Pb, 2, none⟩ = some (.bool p.st.word) /\ X.cell? ⟨Pb, 3, none⟩ = some (.int .i64 (p.need : Nat)) /\ X.cell? ⟨Pb, 4, none⟩ = some (.bool p.sw) := by
    refine ⟨?_, ?_, ?_, ?_, ?_⟩ <;> simp [World.cell?, HX2.out.2]
  obtain ⟨sq, hsq⟩ : ∃ x, x = p.sw := ⟨_, rfl⟩
  rw [<- hsq] at p4
  obtain ⟨nd, hnd⟩ : ∃ x, x = p.need := ⟨_, rfl⟩
  rw [<- hnd] at p3
  obtain ⟨cb, hcb⟩ : ∃ x, x = (decide (e = n) && (!sq && decide (nd ≠ 2))) := ⟨_, rfl⟩
  have HCB := hidep (And.intro hcb (And.intro hsq hnd))
  clear hcb hsq hnd
  go_upto_region 13 with (fail)
  refine zq17 (Xr2 X (.slice ca n cc) (.int .i64 (most : Nat)) (.pointer (some ⟨Bt, 0, none⟩)) (.int .i64 (n : Nat)) (.slice (some ⟨Kb, 0, none⟩) (n + 1) (n + 1)) (.int .i64 (e : Nat)) (.int .i64 (k : Nat)) (.pointer (some ⟨Pb, 0, none⟩)) cb) ?r13 ?_
  case r13 =>
    intro K' hMK
    by_cases h1 : e = n
    · have heq : ((e : Int) == (n : Int)) = true := by simp [h1]
      cases sq with
      | true =>
        obtain rfl : cb = false := by rw [HCB.out.1]; simp
        clear h1
        go_wp2
        first
          | (refine ⟨?_, ?_, ?_, ?_, ?_, ?_, ?_, ?_, ?_, ?_, ?_, ?_, rfl⟩ <;> kernel_rfl)
          | (refine hMK _ _ ⟨?_, ?_, ?_, ?_, ?_, ?_, ?_, ?_, ?_, ?_, ?_, ?_, rfl⟩ <;> kernel_rfl)
      | false =>
        by_cases h2 : nd = 2
        · have hne : ((nd : Int) != 2) = false := by simp [h2]
          obtain rfl : cb = false := by rw [HCB.out.1, h2]; simp
          clear h1 h2
          go_wp2
          first
            | (refine ⟨?_, ?_, ?_, ?_, ?_, ?_, ?_, ?_, ?_, ?_, ?_, ?_, rfl⟩ <;> kernel_rfl)
            | (refine hMK _ _ ⟨?_, ?_, ?_, ?_, ?_, ?_, ?_, ?_, ?_, ?_, ?_, ?_, rfl⟩ <;> kernel_rfl)
        · have hne : ((nd : Int) != 2) = true := by rw [bne_iff_ne]; omega
          obtain rfl : cb = true := by rw [HCB.out.1, decide_eq_true h1, decide_eq_true h2]; rfl
          clear h1 h2
          go_wp2
          first
            | (refine ⟨?_, ?_, ?_, ?_, ?_, ?_, ?_, ?_, ?_, ?_, ?_, ?_, rfl⟩ <;> kernel_rfl)
            | (refine hMK _ _ ⟨?_, ?_, ?_, ?_, ?_, ?_, ?_, ?_, ?_, ?_, ?_, ?_, rfl⟩ <;> kernel_rfl)
    · have heq : ((e : Int) == (n : Int)) = false := by rw [beq_eq_false_iff_ne]; omega
      obtain rfl : cb = false := by rw [HCB.out.1, decide_eq_false h1]; rfl
      clear h1
      go_wp2
      first
        | (refine ⟨?_, ?_, ?_, ?_, ?_, ?_, ?_, ?_, ?_, ?_, ?_, ?_, rfl⟩ <;> kernel_rfl)
        | (refine hMK _ _ ⟨?_, ?_, ?_, ?_, ?_, ?_, ?_, ?_, ?_, ?_, ?_, ?_, rfl⟩ <;> kernel_rfl)
  clear p0 p1 p2 p3 p4
  rintro ⟨tm2, ds⟩ X' ⟨hts, hds, e1, e2, e3, e7, e8, e9, e10, e11, e12, e57, eX⟩
  dsimp only at hts hds e1 e2 e3 e7 e8 e9 e10 e11 e12 e57 eX
  subst hds eX
  rw [zq3d tm2 _ hts, e1, e2, e3, e7, e8, e9, e10, e11, e12, e57]
  clear e1 e2 e3 e7 e8 e9 e10 e11 e12 e57 hts
  (try apply_assumption)
  have HL0 := hidep (show lfZ T C most e p 0 = if cb = true then [[]] else [] from by
    rw [lfZ_zero T C most e p hm1, HCB.out.1, <- HCB.out.2.1, <- HCB.out.2.2, <- HN.out]
    by_cases h1 : e = n
    · by_cases h2 : nd = 2
      · simp [h2]
      · cases sq <;> simp [h1, h2]
    · simp [h1])
  go_upto_if 57 with (fail)
  refine zq17 (Xr3 X' (.slice ca n cc) (.int .i64 (most : Nat)) (.pointer (some ⟨Bt, 0, none⟩)) (.int .i64 (n : Nat)) (.slice (some ⟨Kb, 0, none⟩) (n + 1) (n + 1)) (.int .i64 (e : Nat)) (.int .i64 (k : Nat)) (.pointer (some ⟨Pb, 0, none⟩)) (lfZ T C most e p 0)) ?r14 ?_
  case r14 =>
    intro K' hMK
    cases cb with
    | true =>
      have hba := (Below.refl X'.heap.size X').alloc (Nat.le_refl _) (.cells #[.slice none 0 0] 31)
      have hgl := heap_alloc_new X' (.cells #[.slice none 0 0] 31)
      have HS := hidep (show SymssAt (X'.alloc (.cells #[.slice none 0 0] 31)) (.slice (some ⟨X'.heap.size, 0, none⟩) 1 1) (lfZ T C most e p 0) /\ Below X'.heap.size X' (X'.alloc (.cells #[.slice none 0 0] 31)) from ⟨by
        rw [HL0.out, if_pos rfl]
        exact ⟨[.slice none 0 0], rfl, zq28 hgl, fun i h1 h2 => by
          obtain rfl : i = 0 := by simp at h1; omega
          exact SymsAt.nil _⟩, hba⟩)
      clear hba hgl
      go_wp2
      first
        | exact ⟨_, by kernel_rfl, by kernel_rfl, by kernel_rfl, by kernel_rfl, by kernel_rfl, by kernel_rfl, by kernel_rfl, by kernel_rfl, by kernel_rfl, by kernel_rfl, by kernel_rfl, HS.out⟩
        | exact hMK _ _ ⟨_, by kernel_rfl, by kernel_rfl, by kernel_rfl, by kernel_rfl, by kernel_rfl, by kernel_rfl, by kernel_rfl, by kernel_rfl, by kernel_rfl, by kernel_rfl, by kernel_rfl, HS.out⟩
    | false =>
      have HS := hidep (show SymssAt X' (.slice none 0 0) (lfZ T C most e p 0) /\ Below X'.heap.size X' X' from ⟨by
        rw [HL0.out, if_neg (by decide)]
        exact symssNil _, Below.refl _ _⟩)
      go_wp2
      first
        | exact ⟨_, by kernel_rfl, by kernel_rfl, by kernel_rfl, by kernel_rfl, by kernel_rfl, by kernel_rfl, by kernel_rfl, by kernel_rfl, by kernel_rfl, by kernel_rfl, by kernel_rfl, HS.out⟩
        | exact hMK _ _ ⟨_, by kernel_rfl, by kernel_rfl, by kernel_rfl, by kernel_rfl, by kernel_rfl, by kernel_rfl, by kernel_rfl, by kernel_rfl, by kernel_rfl, by kernel_rfl, by kernel_rfl, HS.out⟩
  rintro ⟨tm3, ds⟩ X3 ⟨v12, hts, hds, e1, e2, e3, e7, e8, e9, e10, e11, e12, hs3, hb3⟩
  dsimp only at hts hds e1 e2 e3 e7 e8 e9 e10 e11 e12
  subst hds
  rw [zq3d tm3 _ hts, e1, e2, e3, e7, e8, e9, e10, e11, e12]
  clear e1 e2 e3 e7 e8 e9 e10 e11 e12 hts
  (try apply_assumption)
  have hbk3 : Below wk.heap.size wk X3 := HX2.out.1.trans (hb3.mono HX2.out.1.size)
  have hb03 : Below X0.heap.size X0 X3 := HK2.out.2.2.trans (hbk3.mono HK2.out.2.2.size)
  have hbw3 : Below w.heap.size w X3 := HX0.out.1.trans (hb03.mono HX0.out.1.size)
  have H3 := hidep (And.intro hs3 (And.intro hbk3 (And.intro hb03 (And.intro hbw3 (zq0 hb3 HX2.out.2)))))
  have HSE := hidep (show ∀ Z : World, Below X3.heap.size X3 Z -> (Z.cell? ⟨Pb, 0, none⟩ = some (.int .i64 p.st.lang) /\ Z.cell? ⟨Pb, 1, none⟩ = some (.bool p.st.num) /\ Z.cell? ⟨Pb, 2, none⟩ = some (.bool p.st.word) /\ Z.cell? ⟨Pb, 3, none⟩ = some (.int .i64 (p.need : Nat)) /\ Z.cell? ⟨Pb, 4, none⟩ = some (.bool p.sw)) /\ (Z.cell? ⟨Bt, 0, none⟩ = some V.a /\ Z.cell? ⟨Bt, 1, none⟩ = some V.b /\ Z.cell? ⟨Bt, 2, none⟩ = some V.d /\ Z.cell? ⟨Bt, 3, none⟩ = some V.c /\ Z.cell? ⟨Bt, 4, none⟩ = some V.n /\ Z.cell? ⟨Bt, 5, none⟩ = some V.e /\ Z.cell? ⟨Bt, 6, none⟩ = some V.s) from fun Z hZ => by
    have hP := zq0 hZ H3.out.2.2.2.2
    refine ⟨⟨?_, ?_, ?_, ?_, ?_⟩, tb7 (zq0 (H3.out.2.2.1.trans (hZ.mono H3.out.2.2.1.size)) HX0.out.2)⟩ <;> simp [World.cell?, hP])
  have HMO := hidep (show ∀ Z : World, Below X3.heap.size X3 Z -> Calls Tryz.prog 81 #[.agg #[V.a, V.b, V.d, V.c, V.n, V.e, V.s], .agg #[.int .i64 p.st.lang, .bool p.st.num, .bool p.st.word, .int .i64 (p.need : Nat), .bool p.sw]] Z (fun e w' => ∃ v, e = .returned v /\ MvR Z.heap.size Z.heap.size p.st.lang w' v (zqa T p) /\ Below Z.heap.size Z w') from fun Z hZ => movesR_any V T p Z Z (Below.refl _ _) (HT.out.1.below (H3.out.2.2.2.1.trans (hZ.mono H3.out.2.2.2.1.size))) HT.out.2.1 HT.out.2.2 HPK.out.2.1)
  clear hs3 hb3 hbk3 hb03 hbw3
  obtain ⟨⟨p0, p1, p2, p3, p4⟩, ⟨g0, g1, g2, g3, g4, g5, g6⟩⟩ := HSE.out X3 (Below.refl _ _)
  go_upto_region 16 with (go_at_call 81; refine (HMO.out _ (Below.refl _ _)).mono ?_; rintro e' X4 ⟨v13, rfl, hmv, hb4⟩; obtain ⟨us4, hmv1, hmv2, hmv3⟩ := hmv; obtain ⟨ma, mc, hve, hmc, hmm⟩ := (Rd.of_own hmv2).form; subst hve)
  have HMV := hidep (show MvR X3.heap.size X3.heap.size p.st.lang X4 (.slice ma (zqa T p).length mc) (zqa T p) from ⟨us4, hmv1, hmv2, hmv3⟩)
  have H4 := hidep (And.intro hb4 (H3.out.1.below hb4))
  obtain ⟨mn, hmn⟩ : ∃ x, x = (zqa T p).length := ⟨_, rfl⟩
  have HMN := hidep hmn
  have hmn3 : mn <= 300 := by rw [hmn]; exact movesX_len HT.out.2.2
  rw [<- hmn] at hmc ⊢
  unfold maxLen at hmm
  clear p0 p1 p2 p3 p4 g0 g1 g2 g3 g4 g5 g6 hmv1 hmv2 hmv3 hb4 hmn HMO
  go_upto_region 17 with (fail)
  refine wp_loop (LoopI 121 (fun tm ds wr => (slot tm 1) = .slice ca n cc /\ (slot tm 2) = .int .i64 (most : Nat) /\ (slot tm 3) = .pointer (some ⟨Bt, 0, none⟩) /\ (slot tm 7) = .int .i64 (n : Nat) /\ (slot tm 8) = .slice (some ⟨Kb, 0, none⟩) (n + 1) (n + 1) /\ (slot tm 9) = .int .i64 (e : Nat) /\ (slot tm 10) = .int .i64 (k : Nat) /\ (slot tm 11) = .pointer (some ⟨Pb, 0, none⟩) /\ (slot tm 13) = .slice ma mn mc /\ ds = [] /\ XrI X4 T C most e p mn (slot tm 12) (slot tm 14) wr)) (fun a' wr => mn - natI (a'.tmps.getD 14 undef)) ?lmStart ?lmRound
  case' lmStart => refine LoopI.mk rfl ?_
  case' lmRound => (rintro ⟨t, ds⟩ wr ⟨hts, hrel⟩; dsimp only at hts hrel; rw [zq3d t ds hts])
  case lmStart => exact ⟨rfl, rfl, rfl, rfl, rfl, rfl, rfl, rfl, rfl, rfl, 0, Nat.zero_le _, rfl, H4.out.2, Below.refl _ _⟩
  obtain ⟨e1, e2, e3, e7, e8, e9, e10, e11, e13, hds, i, hi, e14, hS, hbw⟩ := hrel
  obtain ⟨v12, hv12⟩ : ∃ v, v = slot t 12 := ⟨_, rfl⟩
  rw [<- hv12] at hS
  subst hds
  rw [e1, e2, e3, e7, e8, e9, e10, e11, e13, e14, <- hv12]
  clear e1 e2 e3 e7 e8 e9 e10 e11 e13 e14 hts hv12
  have HS := hidep (And.intro hS hbw)
  obtain ⟨la, lc, hle, -, -⟩ := hS.form
  subst hle
  clear hS hbw
  have hiw : IntKind.i64.wrap ((i : Int) + 1) = (i : Int) + 1 := IntWalk.i64_in _ (by omega)
  obtain ⟨wi, hwi⟩ : ∃ wo : World, wo = wr := ⟨_, rfl⟩
  rw [<- hwi] at HS ⊢
  clear hwi
  have hbk4 : Below wk.heap.size wk wi := H3.out.2.1.trans ((H4.out.1.trans (HS.out.2.mono H4.out.1.size)).mono H3.out.2.1.size)
  have HBK := hidep hbk4
  clear hbk4
  by_cases him : i < mn
  case neg =>
    have hiI : ¬ (i : Int) < (mn : Int) := by omega
    have hall : lfZ T C most e p i = txtZ T C most e (zq15 k) := by
      rw [show i = (zqa T p).length by rw [<- HMN.out]; omega, <- HPK.out.1]
      exact lfZ_all HT.out.2.2 HPK.out.2 (by rw [<- HN.out]; exact hen)
    obtain ⟨lln, hlln⟩ : ∃ x, x = (lfZ T C most e p i).length := ⟨_, rfl⟩
    have hS2 := HS.out.1
    rw [<- hlln] at hS2 ⊢
    rw [hall] at hS2
    have hKM := HK2.out.1.below HBK.out
    have hKR := HK2.out.2.1.below HBK.out
    obtain ⟨kc, q1, q2, q3, q4⟩ := hKM
    obtain ⟨rc, r1, r2, r3⟩ := hKR
    have x0 : wi.cell? ⟨Kb, e, none⟩ = some (.slice (some ⟨R, 0, none⟩) 48 48) := by simp [World.cell?, q1, q3]
    obtain ⟨kv1, hkv1⟩ : ∃ x, rc[k]? = some x := ⟨_, Array.getElem?_eq_getElem (show k < rc.size by omega)⟩
    have x1 : wi.cell? ⟨R, k, none⟩ = some kv1 := by simp [World.cell?, r1, hkv1]
    have x2 : wi.frozen? ⟨R, k, none⟩ = false := zq31 r1 k
    have hRl : X0.heap.size <= R := by have := HK.out.2.size; have := HKL.out.2; omega
    have HEND := hidep (show KMid T C most Kb n e R (wi.setCell ⟨R, k, none⟩ (.slice la lln lc)) /\ KRow T C most e (k + 1) R (wi.setCell ⟨R, k, none⟩ (.slice la lln lc)) /\ Below X0.heap.size X0 (wi.setCell ⟨R, k, none⟩ (.slice la lln lc)) from
      ⟨(HK2.out.1.below HBK.out).set r1 _, (HK2.out.2.1.below HBK.out).set hk48 hS2, (HK2.out.2.2.trans (HBK.out.mono HK2.out.2.2.size)).setCell hRl _⟩)
    clear hall hS2 hlln q1 q2 q3 q4 r1 r2 r3 hRl hkv1
    go_wp2
    refine ⟨LoopI.mk (by kernel_rfl) ⟨by kernel_rfl, by kernel_rfl, by kernel_rfl, by kernel_rfl, by kernel_rfl, by kernel_rfl, rfl, k + 1, by omega, by kernel_rfl, HEND.out.1, HEND.out.2.1, HEND.out.2.2⟩, ?_⟩
    show 48 - _ < 48 - _
    simp [natI]; omega
  have hiI : (i : Int) < (mn : Int) := by omega
  have himm : i < (zqa T p).length := by rw [<- HMN.out]; exact him
  obtain ⟨mb, mo, c1, n1, k1, c2, n2, k2, hma, hmbl, hmr, hmy, hms⟩ := mv_at (HMV.out.below HS.out.2) himm
  subst hma
  have hmem := zq2f HT.out.2.2 HPK.out.2 (List.getElem_mem himm)
  have HLS := hidep (lfZ_succ T C most e p himm)
  obtain ⟨m, hm⟩ : ∃ m, m = (zqa T p)[i] := ⟨_, rfl⟩
  rw [<- hm] at hmr hmy hms hmem HLS
  have x0 := hmr 0 _ rfl
  have x1 := hmr 1 _ rfl
  have x2 := hmr 2 _ rfl
  have x3 := hmr 3 _ rfl
  have x4 := hmr 4 _ rfl
  have x5 := hmr 5 _ rfl
  have x6 := hmr 6 _ rfl
  have hn1 : n1 = m.cells.length := by obtain ⟨_, _, e', -, -⟩ := hmy.1.form; injection e'
  have hn2 : n2 = (zq1b p.st.lang m.text m.cap).length := by obtain ⟨_, _, e', -, -⟩ := hms.form; injection e'
  have HMD := hidep (And.intro hmy (And.intro hms (And.intro hmem (And.intro hn1 hn2))))
  rw [Nat.add_zero] at x0
  have hn12 : n1 <= 12 /\ n2 <= 8 := by rw [hn1, hn2, zq49]; exact ⟨hmem.2.2.1, hmem.2.2.2⟩
  clear hmr hmy hms hm hmem hn1 hn2 hmbl
  go_upto_region 20 with (fail)
  obtain ⟨Mb, hMb⟩ : ∃ B, B = wi.heap.size := ⟨_, rfl⟩
  refine zq9 (fun Z => Below wi.heap.size wi Z /\ Z.heap[Mb]? = some (.cells #[.slice c1 n1 k1, .slice c2 n2 k2, .int .i64 m.dst.st.lang, .bool m.dst.st.num, .bool m.dst.st.word, .int .i64 (m.dst.need : Nat), .bool m.dst.sw] 144)) ⟨(Below.refl _ _).alloc (Nat.le_refl _) _, by rw [hMb]; exact heap_alloc_new _ _⟩ ?_
  rintro X5 ⟨hb5, hx5⟩
  rw [<- hMb]
  have HX5 := hidep (And.intro hb5 hx5)
  have y0 : X5.cell? ⟨Mb, 0, none⟩ = some (.slice c1 n1 k1) := by simp [World.cell?, hx5]
  have hC5 := HC.out.below (H3.out.2.2.2.1.trans ((H4.out.1.trans (HS.out.2.mono H4.out.1.size)).trans (hb5.mono (H4.out.1.trans (HS.out.2.mono H4.out.1.size)).size) |>.mono H3.out.2.2.2.1.size))
  rw [<- HN.out] at hC5
  have HBG := hidep (beginsR_any (.slice ca n cc) (.slice c1 n1 k1) C m.cells e X5 hC5 (HMD.out.1.below hb5) (by rw [<- HN.out]; exact hen) (by rw [<- HN.out]; omega) (by rw [<- HMD.out.2.2.2.1]; omega))
  obtain ⟨bg, hbg⟩ : ∃ x, x = begB (C.drop e) m.cells := ⟨_, rfl⟩
  rw [<- hbg] at HBG
  have HBGE := hidep hbg
  clear x0 x1 x2 x3 x4 x5 x6 hb5 hx5 hMb hC5 hbg
  cases bg with
  | false =>
    have HNX := hidep (show lfZ T C most e p (i + 1) = lfZ T C most e p i from by
      rw [HLS.out]
      unfold rawM
      rw [<- HBGE.out, if_neg (by decide)]
      rfl)
    go_wp2_with (go_at_call 95; refine HBG.out.mono ?_; rintro e' w6 ⟨rfl, hb6⟩)
    have HEND := hidep (show SymssAt w6 (.slice la (lfZ T C most e p i).length lc) (lfZ T C most e p (i + 1)) /\ Below X4.heap.size X4 w6 from by
      rw [HNX.out]
      have hb := HX5.out.1.trans (hb6.mono HX5.out.1.size)
      exact ⟨HS.out.1.below hb, HS.out.2.trans (hb.mono HS.out.2.size)⟩)
    refine ⟨LoopI.mk (by kernel_rfl) ⟨by kernel_rfl, by kernel_rfl, by kernel_rfl, by kernel_rfl, by kernel_rfl, by kernel_rfl, by kernel_rfl, by kernel_rfl, by kernel_rfl, rfl, i + 1, by omega, by kernel_rfl, HEND.out.1, HEND.out.2⟩, ?_⟩
    show mn - _ < mn - _
    simp [natI]; omega
  | true =>
    have hbl := zq4b (C := C) (c := m.cells) (k := e) (by rw [<- HN.out]; exact hen) HBGE.out.symm
    rw [<- HN.out, <- HMD.out.2.2.2.1] at hbl
    obtain ⟨q, hq⟩ : ∃ q, q = e + n1 := ⟨_, rfl⟩
    obtain ⟨RL, hRL⟩ : ∃ x, x = txtZ T C most q m.dst := ⟨_, rfl⟩
    have HLN := hidep (show lfZ T C most e p (i + 1) = lgZ T C most e p i m RL RL.length from by
      rw [HLS.out]
      unfold rawM lgZ
      rw [<- HBGE.out, if_pos rfl, List.take_length, hRL, hq, HMD.out.2.2.2.1])
    have hRLs : ∀ x ∈ RL, x.length <= 100000 := fun x hx => by
      rw [hRL] at hx
      have := txtZ_size HT.out.2.2 HMD.out.2.2.1.1 (by rw [<- HN.out]; omega) x hx
      have := HCL.out
      omega
    have hrl64 : RL.length <= 64 := by
      rw [hRL]
      exact Nat.le_trans (zqaf HT.out.2.2 HMD.out.2.2.1.1 (by rw [<- HN.out]; omega)) hm2
    have hn1p : 1 <= n1 := by rw [HMD.out.2.2.2.1]; exact HMD.out.2.2.1.2.1
    obtain ⟨kc, q1, -, -, q4⟩ := (HK2.out.1.below HBK.out).below HX5.out.1
    obtain ⟨R', q5, -, ⟨rc, r1, r2, r3⟩⟩ := q4 q (by omega) (by omega)
    obtain ⟨cd, hcd⟩ : ∃ x, x = codeN m.dst := ⟨_, rfl⟩
    have hcd48 : cd < 48 := by rw [hcd]; exact zqa5 HMD.out.2.2.1.1
    obtain ⟨u, r4, hu⟩ := r3 cd hcd48
    rw [hcd, zq72 HMD.out.2.2.1.1, <- hRL] at hu
    obtain ⟨ua, uc, hue, -, -⟩ := hu.form
    subst hue
    obtain ⟨rn, hrn⟩ : ∃ x, x = RL.length := ⟨_, rfl⟩
    have HRN := hidep hrn
    rw [<- hrn] at hu r4 hrl64
    have z0 : X5.cell? ⟨Kb, q, none⟩ = some (.slice (some ⟨R', 0, none⟩) 48 48) := by simp [World.cell?, q1, q5]
    have z1 : X5.cell? ⟨R', cd, none⟩ = some (.slice ua rn uc) := by simp [World.cell?, r1, r4]
    have hKl := lt_of_block q1
    have hRl := lt_of_block r1
    have HSZ := hidep (show ∀ Z : World, Below X5.heap.size X5 Z -> Z.cell? ⟨Kb, q, none⟩ = some (.slice (some ⟨R', 0, none⟩) 48 48) /\ Z.cell? ⟨R', cd, none⟩ = some (.slice ua rn uc) /\ Z.cell? ⟨Mb, 0, none⟩ = some (.slice c1 n1 k1) /\ Z.cell? ⟨Mb, 1, none⟩ = some (.slice c2 n2 k2) /\ Z.cell? ⟨Mb, 2, none⟩ = some (.int .i64 m.dst.st.lang) /\ Z.cell? ⟨Mb, 3, none⟩ = some (.bool m.dst.st.num) /\ Z.cell? ⟨Mb, 4, none⟩ = some (.bool m.dst.st.word) /\ Z.cell? ⟨Mb, 5, none⟩ = some (.int .i64 (m.dst.need : Nat)) /\ Z.cell? ⟨Mb, 6, none⟩ = some (.bool m.dst.sw) from fun Z hZ => by
      have hM := zq0 hZ HX5.out.2
      refine ⟨(hZ.cell (p := ⟨Kb, q, none⟩) hKl).trans z0, (hZ.cell (p := ⟨R', cd, none⟩) hRl).trans z1, ?_, ?_, ?_, ?_, ?_, ?_, ?_⟩ <;> simp [World.cell?, hM])
    have HCD := hidep (show ∀ Z : World, Calls Tryz.prog 84 #[.agg #[.int .i64 m.dst.st.lang, .bool m.dst.st.num, .bool m.dst.st.word, .int .i64 (m.dst.need : Nat), .bool m.dst.sw]] Z (fun e w' => e = .returned (.int .i64 (cd : Nat)) /\ Below Z.heap.size Z w') from fun Z => by rw [hcd]; exact codeR_any m.dst HMD.out.2.2.1.1 Z)
    have HU := hidep hu
    have hqw : IntKind.i64.wrap ((e : Int) + (n1 : Int)) = (q : Int) := by rw [IntWalk.i64_in _ (by omega)]; omega
    have hqI : (q : Int) < (n : Int) + 1 := by omega
    have hcI : (cd : Int) < 48 := by omega
    clear hbl hq hRL hn1p q1 q4 q5 r1 r2 r3 r4 hcd hu hrn z0 z1 hKl hRl
    go_upto_region 21 with (go_at_call 95; refine HBG.out.mono ?_; rintro e' w6 ⟨rfl, hb6⟩)
    have HB6 := hidep hb6
    clear hb6 y0 HBG
    refine zq17 (Xr5 w6 (.slice ca n cc) (.int .i64 (most : Nat)) (.pointer (some ⟨Bt, 0, none⟩)) (.int .i64 (n : Nat)) (.slice (some ⟨Kb, 0, none⟩) (n + 1) (n + 1)) (.int .i64 (e : Nat)) (.int .i64 (k : Nat)) (.pointer (some ⟨Pb, 0, none⟩)) (.slice la (lfZ T C most e p i).length lc) (.slice (some ⟨mb, mo, none⟩) mn mc) (.int .i64 (i : Nat)) (.pointer (some ⟨Mb, 0, none⟩)) (.slice ua rn uc)) ?r21 ?_
    case r21 =>
      intro K' hMK
      go_upto_region 21 with (fail)
      refine wp_region_noPanic (wp_region_held_drew (S := (fun Z => Below w6.heap.size w6 Z)) (by kernel_rfl) ?hSz0 (fun hHeld => ?hRz0))
      case hSz0 => ((try dsimp only); (exact (Below.refl _ _).drew))
      refine tkC 0 rfl ?_
      refine tkC 1 rfl ?_
      refine tkC 2 rfl ?_
      refine tkB 3 rfl (.inl ⟨by kernel_rfl, fun w hSw => by (obtain ⟨z0, z1, y0, y1, y2, y3, y4, y5, y6⟩ := HSZ.out _ (HB6.out.trans (hSw.mono HB6.out.size))); go_simp; first | done | with_reducible rfl⟩) ?_
      refine tkC 4 rfl ?_
      refine tkC 5 rfl ?_
      refine tkC 6 rfl ?_
      refine tkB 7 rfl (.inl ⟨by kernel_rfl, fun w hSw => by (obtain ⟨z0, z1, y0, y1, y2, y3, y4, y5, y6⟩ := HSZ.out _ (HB6.out.trans (hSw.mono HB6.out.size))); go_simp; first | done | with_reducible rfl⟩) ?_
      refine tkC 8 rfl ?_
      refine tkB 9 rfl (.inl ⟨by kernel_rfl, fun w hSw => by (obtain ⟨z0, z1, y0, y1, y2, y3, y4, y5, y6⟩ := HSZ.out _ (HB6.out.trans (hSw.mono HB6.out.size))); go_simp; first | done | with_reducible rfl⟩) ?_
      refine wpAnyH_ready (rs := [10]) (by kernel_rfl) (by simp) (AllReadyH.cons rfl (fun K hK => ?hcz1) AllReadyH.nil)
      go_simp
      (go_at_call 84; (with_reducible refine (HCD.out _).mono ?_); rintro e' w88 ⟨rfl, hb88⟩; have hk9 := hHeld.trans (hb88.mono hHeld.size); (try dsimp only))
      refine hK.out _ _ (by (try dsimp only); (exact hk9)) ?_
      clear hHeld hK; intro hHeld
      refine tkC 11 rfl ?_
      refine tkB 12 rfl (.inl ⟨by kernel_rfl, fun w hSw => by (obtain ⟨z0, z1, y0, y1, y2, y3, y4, y5, y6⟩ := HSZ.out _ (HB6.out.trans (hSw.mono HB6.out.size))); go_simp; first | done | with_reducible rfl⟩) ?_
      refine tkC 13 rfl ?_
      refine wpAnyH_done (by kernel_rfl) ?_ _
      clear hHeld
      refine NoPanic.normal ?_
      all_goals
        (try dsimp only [Exit.then])
        have HK9 := hidep hk9
        clear hk9
        go_wp2
        first
          | (refine ⟨?_, ?_, ?_, ?_, ?_, ?_, ?_, ?_, ?_, ?_, ?_, ?_, ?_, ?_, ?_, HK9.out⟩ <;> kernel_rfl)
          | (refine hMK _ _ ⟨?_, ?_, ?_, ?_, ?_, ?_, ?_, ?_, ?_, ?_, ?_, ?_, ?_, ?_, ?_, HK9.out⟩ <;> kernel_rfl)
    rintro ⟨tm5, ds⟩ X7 ⟨hts, hds, e1, e2, e3, e7, e8, e9, e10, e11, e12, e13, e14, e15, e16, hb7⟩
    dsimp only at hts hds e1 e2 e3 e7 e8 e9 e10 e11 e12 e13 e14 e15 e16
    subst hds
    rw [zq3d tm5 _ hts, e1, e2, e3, e7, e8, e9, e10, e11, e12, e13, e14, e15, e16]
    clear e1 e2 e3 e7 e8 e9 e10 e11 e12 e13 e14 e15 e16 hts HCD
    (try apply_assumption)
    have hb57 : Below X5.heap.size X5 X7 := HB6.out.trans (hb7.mono HB6.out.size)
    have HB57 := hidep hb57
    have hS7 := HS.out.1.below (HX5.out.1.trans (hb57.mono HX5.out.1.size))
    have hb47 : Below X4.heap.size X4 X7 := HS.out.2.trans ((HX5.out.1.trans (hb57.mono HX5.out.1.size)).mono HS.out.2.size)
    have H7 := hidep (And.intro hS7 hb47)
    clear hb7 hb57 hS7 hb47
    go_upto_region 23 with (fail)
    refine wp_loop (LoopI 121 (fun tm ds wr => (slot tm 1) = .slice ca n cc /\ (slot tm 2) = .int .i64 (most : Nat) /\ (slot tm 3) = .pointer (some ⟨Bt, 0, none⟩) /\ (slot tm 7) = .int .i64 (n : Nat) /\ (slot tm 8) = .slice (some ⟨Kb, 0, none⟩) (n + 1) (n + 1) /\ (slot tm 9) = .int .i64 (e : Nat) /\ (slot tm 10) = .int .i64 (k : Nat) /\ (slot tm 11) = .pointer (some ⟨Pb, 0, none⟩) /\ (slot tm 13) = .slice (some ⟨mb, mo, none⟩) mn mc /\ (slot tm 14) = .int .i64 (i : Nat) /\ (slot tm 15) = .pointer (some ⟨Mb, 0, none⟩) /\ (slot tm 16) = .slice ua rn uc /\ ds = [] /\ XrJ X7 T C most e p i m RL (slot tm 12) (slot tm 17) wr)) (fun a' wr => rn - natI (a'.tmps.getD 17 undef)) ?ljStart ?ljRound
    case' ljStart => refine LoopI.mk rfl ?_
    case' ljRound => (rintro ⟨t, ds⟩ wr ⟨hts, hrel⟩; dsimp only at hts hrel; rw [zq3d t ds hts])
    case ljStart => exact ⟨rfl, rfl, rfl, rfl, rfl, rfl, rfl, rfl, rfl, rfl, rfl, rfl, rfl, 0, Nat.zero_le _, rfl, H7.out.1, Below.refl _ _⟩
    obtain ⟨e1, e2, e3, e7, e8, e9, e10, e11, e13, e14, e15, e16, hds, j, hj, e17, hS, hbw⟩ := hrel
    obtain ⟨v12, hv12⟩ : ∃ v, v = slot t 12 := ⟨_, rfl⟩
    rw [<- hv12] at hS
    subst hds
    rw [e1, e2, e3, e7, e8, e9, e10, e11, e13, e14, e15, e16, e17, <- hv12]
    clear e1 e2 e3 e7 e8 e9 e10 e11 e13 e14 e15 e16 e17 hts hv12
    have HSJ := hidep (And.intro hS hbw)
    obtain ⟨lb, lcc, hle, -, -⟩ := hS.form
    subst hle
    clear hS hbw
    obtain ⟨wj, hwj⟩ : ∃ wo : World, wo = wr := ⟨_, rfl⟩
    rw [<- hwj] at HSJ ⊢
    clear hwj
    rw [<- HRN.out] at hj
    have hjw : IntKind.i64.wrap ((j : Int) + 1) = (j : Int) + 1 := IntWalk.i64_in _ (by omega)
    by_cases hjr : j < rn
    case neg =>
      have hjI : ¬ (j : Int) < (rn : Int) := by omega
      have HEND := hidep (show SymssAt wj (.slice lb (lgZ T C most e p i m RL j).length lcc) (lfZ T C most e p (i + 1)) /\ Below X4.heap.size X4 wj from ⟨by
        have h := HSJ.out.1
        rw [HLN.out]
        rw [show j = RL.length by rw [<- HRN.out]; omega] at h ⊢
        exact h, H7.out.2.trans (HSJ.out.2.mono H7.out.2.size)⟩)
      go_wp2
      refine ⟨LoopI.mk (by kernel_rfl) ⟨by kernel_rfl, by kernel_rfl, by kernel_rfl, by kernel_rfl, by kernel_rfl, by kernel_rfl, by kernel_rfl, by kernel_rfl, by kernel_rfl, rfl, i + 1, by omega, by kernel_rfl, HEND.out.1, HEND.out.2⟩, ?_⟩
      show mn - _ < mn - _
      simp [natI]; omega
    have hjI : (j : Int) < (rn : Int) := by omega
    have hjR : j < RL.length := by rw [<- HRN.out]; exact hjr
    have hU7 := HU.out.below HB57.out
    rw [HRN.out] at hU7
    have hU8 := hU7.below HSJ.out.2
    obtain ⟨ub, uo, x, hua, hubl, x0, hx⟩ := hU8.at hjR
    subst hua
    obtain ⟨xa, xc, hxe, hxc, hxm⟩ := hx.form
    subst hxe
    have HLS2 := hidep (lgZ_succ T C most e p i m RL hjR)
    obtain ⟨t, ht⟩ : ∃ t, t = RL[j] := ⟨_, rfl⟩
    rw [<- ht] at hx x0 hxc HLS2
    have htl : t.length <= 100000 := by rw [ht]; exact hRLs _ (List.getElem_mem hjR)
    obtain ⟨tn, htn⟩ : ∃ x, x = t.length := ⟨_, rfl⟩
    rw [<- htn] at hx x0 hxc htl
    have HTN := hidep htn
    obtain ⟨pc, hpc⟩ : ∃ x, x = zq1b p.st.lang m.text m.cap := ⟨_, rfl⟩
    have hpn : n2 = pc.length := by rw [hpc]; exact HMD.out.2.2.2.2
    rw [<- hpc] at HLS2
    have HPC := hidep (And.intro hpc hpn)
    have HXJ := hidep (show ∀ Z : World, Below wj.heap.size wj Z -> Z.cell? ⟨ub, uo + j, none⟩ = some (.slice xa tn xc) /\ Z.cell? ⟨Mb, 1, none⟩ = some (.slice c2 n2 k2) from fun Z hZ =>
      ⟨(hZ.cell (p := ⟨ub, uo + j, none⟩) hubl).trans x0, (HSZ.out Z (HB57.out.trans ((HSJ.out.2.trans (hZ.mono HSJ.out.2.size)).mono HB57.out.size))).2.2.2.1⟩)
    have HXS := hidep (show ∀ Z : World, Below wj.heap.size wj Z -> Rd Z (· = 39) 2 (.slice xa tn xc) tn (symsC t) from fun Z hZ => by
      have h := hx.below hZ
      unfold SymsAt at h
      rw [<- HTN.out] at h
      exact h)
    have HPS := hidep (show ∀ Z : World, Below wj.heap.size wj Z -> Rd Z (· = 39) 2 (.slice c2 n2 k2) n2 (symsC pc) from fun Z hZ => by
      have h := HMD.out.2.1.below (HX5.out.1.trans ((HB57.out.trans ((HSJ.out.2.trans (hZ.mono HSJ.out.2.size)).mono HB57.out.size)).mono HX5.out.1.size))
      unfold SymsAt at h
      rw [<- HMD.out.2.2.2.2, <- HPC.out.1] at h
      exact h)
    have HPT := hidep (fun (Z : World) (hZ : Below wj.heap.size wj Z) (uu : Value) (hs : SymsAt Z uu (pc ++ t)) => putR_any (.slice lb (lgZ T C most e p i m RL j).length lcc) uu (lgZ T C most e p i m RL j) (pc ++ t) most Z (HSJ.out.1.below hZ) hs (by have := lgZ_len T C most e p i m RL j; omega) (lgZ_len T C most e p i m RL j) (by omega))
    have hoP : ∀ u ∈ symsC pc, u.oneCell' = true := zqbe _
    have hoT : ∀ u ∈ symsC t, u.oneCell' = true := zqbe _
    clear hU7 hU8 hx x0 ht htn hpc hpn
    go_upto_region 26 with (fail)
    refine wp_region_noPanic (wp_region_held_drew (S := (fun Z => Below wj.heap.size wj Z)) (by kernel_rfl) ?hSz2 (fun hHeld => ?hRz2))
    case hSz2 => ((try dsimp only); (exact (Below.refl _ _).drew))
    refine tkC 0 rfl ?_
    refine tkC 1 rfl ?_
    refine tkC 2 rfl ?_
    refine tkB 3 rfl (.inl ⟨by kernel_rfl, fun w hSw => by (obtain ⟨x0, y1⟩ := HXJ.out _ hSw); go_simp; first | done | with_reducible rfl⟩) ?_
    refine tkC 5 rfl ?_
    refine tkC 6 rfl ?_
    refine tkC 7 rfl ?_
    refine tkB 8 rfl (.inl ⟨by kernel_rfl, fun w hSw => by (obtain ⟨x0, y1⟩ := HXJ.out _ hSw); go_simp; first | done | with_reducible rfl⟩) ?_
    refine tkC 10 rfl ?_
    refine wpAnyH_ready (rs := [4]) (by kernel_rfl) (by simp) (AllReadyH.cons rfl (fun K hK => ?hcz3) AllReadyH.nil)
    (refine zq11 _ rfl (.tmp 98) (.tmp 100) rfl zq48 wj.heap.size (.slice none 0 0) 0 [] (by kernel_rfl) (World.ownsRow_nil _ _ _ _) _ _ _ _ (by kernel_rfl) (HPS.out _ hHeld) hoP (by unfold maxLen; omega) (by omega) hHeld.size ?_; intro v101 w101 ho101 hg101 hat101 hnl; clear hnl; simp only [Nat.zero_add, List.nil_append] at ho101; obtain ⟨a101, c101, hv101, -, -⟩ := (Rd.of_own ho101).form; subst hv101; have hk9 := hHeld.grown hg101 hHeld.size (fun x hx => by cases (show none = some x from hx)); (try dsimp only))
    refine hK.out _ _ (by (try dsimp only); (exact hk9)) ?_
    clear hHeld hK; intro hHeld
    refine wpAnyH_ready (rs := [9]) (by kernel_rfl) (by simp) (AllReadyH.cons rfl (fun K hK => ?hcz4) AllReadyH.nil)
    (refine zq11 _ rfl (.tmp 101) (.tmp 105) rfl zq48 wj.heap.size (.slice a101 n2 c101) n2 (symsC pc) (by kernel_rfl) ho101 _ _ _ _ (by kernel_rfl) (HXS.out _ hHeld) hoT (by unfold maxLen; omega) (by omega) hHeld.size ?_; intro v106 w106 ho106 hg106 hat106 hnl; clear hnl; obtain ⟨a106, c106, hv106, -, -⟩ := (Rd.of_own ho106).form; subst hv106; have hk9 := hHeld.grown hg106 hHeld.size (fun x hx => (ho101.lt x hx).1); (try dsimp only))
    refine hK.out _ _ (by (try dsimp only); (exact hk9)) ?_
    clear hHeld hK; intro hHeld
    refine wpAnyH_ready (rs := [11]) (by kernel_rfl) (by simp) (AllReadyH.cons rfl (fun K hK => ?hcz5) AllReadyH.nil)
    go_simp
    (have hs106 : SymsAt w106 (.slice a106 (n2 + tn) c106) (pc ++ t) := (SymsAt.of_own (base := wj.heap.size) (by rw [List.length_append, <- HPC.out.2, <- HTN.out, zq2c]; exact ho106)); go_at_call 112; (with_reducible refine (HPT.out _ hHeld _ hs106).mono ?_); rintro e' w108 ⟨v108, rfl, hs108, hb108⟩; have hk9 := hHeld.trans (hb108.mono hHeld.size); (try dsimp only))
    refine hK.out _ _ (by (try dsimp only); (exact hk9)) ?_
    clear hHeld hK; intro hHeld
    refine tkC 12 rfl ?_
    refine wpAnyH_done (by kernel_rfl) ?_ _
    clear hHeld
    refine NoPanic.normal ?_
    all_goals
      (try dsimp only [Exit.then])
      have HNW := hidep (show SymssAt w108 v108 (lgZ T C most e p i m RL (j + 1)) /\ Below X7.heap.size X7 w108 from ⟨by rw [HLS2.out]; exact hs108, HSJ.out.2.trans (hk9.mono HSJ.out.2.size)⟩)
      clear hs108 hs106 hk9
      go_wp2
      refine ⟨LoopI.mk (by kernel_rfl) ⟨by kernel_rfl, by kernel_rfl, by kernel_rfl, by kernel_rfl, by kernel_rfl, by kernel_rfl, by kernel_rfl, by kernel_rfl, by kernel_rfl, by kernel_rfl, by kernel_rfl, by kernel_rfl, rfl, j + 1, by rw [<- HRN.out]; omega, by kernel_rfl, HNW.out.1, HNW.out.2⟩, ?_⟩
      show rn - _ < rn - _
      simp [natI]; omega
end Go.Proofs.YtcfjepcflanjbaaGreat
