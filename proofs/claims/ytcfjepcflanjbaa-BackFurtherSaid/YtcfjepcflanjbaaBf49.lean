/- For all tables and texts, the cells of a translation, followed by those of a rule for the blank, are cells of the text with a blank behind it. -/
import Derived.Test.YtcfjepcflanjbaaBf48
import Derived.Test.YtcfjepcflanjbaaBf22
import Derived.Test.YtcfjepcflanjbaaBf20
import Derived.Test.YtcfjepcflanjbaaBf13
import Derived.Test.YtcfjepcflanjbaaBf21
namespace Go.Proofs.Ytcfjepcflanjbaa
open Go.RowKit Go.Lab Go.Shelf
set_option maxRecDepth 100000
theorem range_map117 (f : Nat → Value) : (List.range 117).map f = [f 0, f 1, f 2, f 3, f 4, f 5, f 6, f 7, f 8, f 9, f 10, f 11, f 12, f 13, f 14, f 15, f 16, f 17, f 18, f 19, f 20, f 21, f 22, f 23, f 24, f 25, f 26, f 27, f 28, f 29, f 30, f 31, f 32, f 33, f 34, f 35, f 36, f 37, f 38, f 39, f 40, f 41, f 42, f 43, f 44, f 45, f 46, f 47, f 48, f 49, f 50, f 51, f 52, f 53, f 54, f 55, f 56, f 57, f 58, f 59, f 60, f 61, f 62, f 63, f 64, f 65, f 66, f 67, f 68, f 69, f 70, f 71, f 72, f 73, f 74, f 75, f 76, f 77, f 78, f 79, f 80, f 81, f 82, f 83, f 84, f 85, f 86, f 87, f 88, f 89, f 90, f 91, f 92, f 93, f 94, f 95, f 96, f 97, f 98, f 99, f 100, f 101, f 102, f 103, f 104, f 105, f 106, f 107, f 108, f 109, f 110, f 111, f 112, f 113, f 114, f 115, f 116] := rfl
theorem frame117 (t : Array Value) (ds : List Deferred) (h : t.size = 117) : ({ tmps := t, defers := ds } : Act) = { tmps := #[slot t 0, slot t 1, slot t 2, slot t 3, slot t 4, slot t 5, slot t 6, slot t 7, slot t 8, slot t 9, slot t 10, slot t 11, slot t 12, slot t 13, slot t 14, slot t 15, slot t 16, slot t 17, slot t 18, slot t 19, slot t 20, slot t 21, slot t 22, slot t 23, slot t 24, slot t 25, slot t 26, slot t 27, slot t 28, slot t 29, slot t 30, slot t 31, slot t 32, slot t 33, slot t 34, slot t 35, slot t 36, slot t 37, slot t 38, slot t 39, slot t 40, slot t 41, slot t 42, slot t 43, slot t 44, slot t 45, slot t 46, slot t 47, slot t 48, slot t 49, slot t 50, slot t 51, slot t 52, slot t 53, slot t 54, slot t 55, slot t 56, slot t 57, slot t 58, slot t 59, slot t 60, slot t 61, slot t 62, slot t 63, slot t 64, slot t 65, slot t 66, slot t 67, slot t 68, slot t 69, slot t 70, slot t 71, slot t 72, slot t 73, slot t 74, slot t 75, slot t 76, slot t 77, slot t 78, slot t 79, slot t 80, slot t 81, slot t 82, slot t 83, slot t 84, slot t 85, slot t 86, slot t 87, slot t 88, slot t 89, slot t 90, slot t 91, slot t 92, slot t 93, slot t 94, slot t 95, slot t 96, slot t 97, slot t 98, slot t 99, slot t 100, slot t 101, slot t 102, slot t 103, slot t 104, slot t 105, slot t 106, slot t 107, slot t 108, slot t 109, slot t 110, slot t 111, slot t 112, slot t 113, slot t 114, slot t 115, slot t 116], defers := ds } := by
  have e : t = ((List.range 117).map (slot t)).toArray := by
    apply Array.ext
    · simp [h]
    · intro i h1 h2
      simp [slot, Array.getD, h1]
  rw [range_map117] at e
  exact congrArg (fun x => ({ tmps := x, defers := ds } : Act)) e
theorem any_take_succF {α : Type} (p : α → Bool) (l : List α) (k : Nat) (h : k < l.length) : (l.take (k + 1)).any p = ((l.take k).any p || p l[k]) := by
  rw [List.take_succ_eq_append_getElem h, List.any_append]; simp only [List.any_cons, List.any_nil, Bool.or_false]
theorem blankB_iff (s : ByteArray) : s = ⟨#[32]⟩ ∨ ¬ s = ⟨#[32]⟩ := Classical.em _
/-- The language of the last character. -/
def FuA (u7 u8 u9 : Value) (lg : Int) (X : World) : Act → World → Prop := fun a W => a.tmps.size = 117 ∧ a.defers = [] ∧ slot a.tmps 6 = .bool false ∧ slot a.tmps 7 = u7 ∧ slot a.tmps 8 = u8 ∧ slot a.tmps 9 = u9 ∧ slot a.tmps 11 = .int .i64 lg ∧ W = X
def FuL (W : World) (n : Nat) (u : Value) (X : World) : Prop := ∃ i : Nat, i ≤ n ∧ u = .int .i64 (i : Nat) ∧ Below W.heap.size W X
def FuK (W : World) (A : List (List Sym)) (lon : List Sym) (f : Bool) (n : Nat) (u v : Value) (X : World) : Prop := ∃ k : Nat, k ≤ n ∧ u = .bool (f || (A.take k).any (fun x => decide (x = lon))) ∧ v = .int .i64 (k : Nat) ∧ Below W.heap.size W X
def FuM (W0 : World) (u7 u9 u12 u13 u14 : Value) (C : List Int) : Act → World → Prop := fun a W => ∃ (xa : Option Addr) (xc : Nat), a.tmps.size = 117 ∧ a.defers = [] ∧ slot a.tmps 6 = .bool false ∧ slot a.tmps 7 = u7 ∧ slot a.tmps 9 = u9 ∧ slot a.tmps 12 = u12 ∧ slot a.tmps 13 = u13 ∧ slot a.tmps 14 = u14 ∧ slot a.tmps 15 = .slice xa C.length xc ∧ BysAt W (.slice xa C.length xc) C ∧ Below W0.heap.size W0 W
set_option maxHeartbeats 4000000 in
theorem backFurther_any (v1 v2 : Value) (l ch : List Int) (n : Int) (W : World) (hl : IntsAt W v1 l) (hch : IntsAt W v2 ch) (hn : -9223372036854775808 ≤ n ∧ n ≤ 9223372036854775807) :
    Calls Try.prog 4 #[.int .i64 n, v1, v2] W fun e W' => e = .returned (.bool true) ∧ Below W.heap.size W W' := by
  have HA := hidep (And.intro hl hch)
  have HR := hidep hn
  clear hl hch
  go_enter Try.func4, Try.ntmps4
  go_upto_region 2 with (go_at_call 5; refine (tables_any n _ HR.out.1 HR.out.2).mono ?_; rintro e w1 ⟨⟨va, vb, vd, vc, vn, ve, vs⟩, T, rfl, hT, hG, hb1⟩; obtain ⟨aa, ac, e0, -, -⟩ := hT.r0.form; obtain ⟨ba, bc, e1, -, -⟩ := hT.r1.form; obtain ⟨da, dc, e2, -, -⟩ := hT.dg.1.form; obtain ⟨ca, cc, e3, -, -⟩ := hT.cp.1.form; obtain ⟨na, nc, e4, -, -⟩ := hT.nm.1.form; obtain ⟨ea, ec, e5, -, -⟩ := hT.en.1.form; obtain ⟨sa, sc, e6, -, -⟩ := hT.sw.1.form; unfold TabV.v; dsimp only at e0 e1 e2 e3 e4 e5 e6 ⊢; subst e0 e1 e2 e3 e4 e5 e6)
  obtain ⟨Bt, hBt⟩ : ∃ B, B = w1.heap.size := ⟨_, rfl⟩
  refine wp_abs (fun X => Below w1.heap.size w1 X ∧ X.heap[Bt]? = some (.cells #[.slice aa T.l0.length ac, .slice ba T.l1.length bc, .slice da T.dg.length dc, .slice ca T.cp.length cc, .slice na T.nm.length nc, .slice ea T.en.length ec, .slice sa T.sw.length sc] 29)) ⟨(Below.refl _ _).alloc (Nat.le_refl _) _, by rw [hBt]; exact heap_alloc_new _ _⟩ ?_
  rintro w2 ⟨hb2, hx2⟩
  rw [← hBt]
  have hT2 := hT.below hb2
  have hbw2 := hb1.trans (hb2.mono hb1.size)
  clear hT hb1 hb2 hBt
  have HA2 := hidep (And.intro (HA.out.1.below hbw2) (And.intro (HA.out.2.below hbw2) hbw2))
  obtain ⟨V, hVe⟩ : ∃ V : TabV, V = ⟨.slice aa T.l0.length ac, .slice ba T.l1.length bc, .slice da T.dg.length dc, .slice ca T.cp.length cc, .slice na T.nm.length nc, .slice ea T.en.length ec, .slice sa T.sw.length sc⟩ := ⟨_, rfl⟩
  rw [← hVe] at hT2
  have HVv := hidep (show V.v = .agg #[.slice aa T.l0.length ac, .slice ba T.l1.length bc, .slice da T.dg.length dc, .slice ca T.cp.length cc, .slice na T.nm.length nc, .slice ea T.en.length ec, .slice sa T.sw.length sc] by rw [hVe]; rfl)
  have HT2 := hidep (And.intro hT2 (And.intro hG (And.intro (tabG_ok hG) (valid_made hG))))
  have HX2 := hidep hx2
  have HVE := hidep hVe
  clear hbw2 hT2 hG hx2 hVe HA
  go_upto_region 3 with (go_at_call 7; refine (syms_any v1 l _ HA2.out.1).mono ?_; rintro e w3 ⟨ua, rfl, ha3, hb3⟩)
  have hsa := SymsAt.of_own ha3
  obtain ⟨xa, xac, rfl, hxc, hxm⟩ := (Rd.of_own ha3).form
  obtain ⟨f0, f1, f2, f3, f4, f5, f6⟩ := tb7 (below_push hb3 HX2.out)
  have hWR := writtenC_any V T (.slice xa (symsZ l).length xac) v2 (symsZ l) ch w3 (HT2.out.1.below hb3) HT2.out.2.2.1 HT2.out.2.2.2 hsa (symsZ_SymOk l) (by have := symsZ_len l; omega) (symsZ_lang l) (HA2.out.2.1.below hb3)
  rw [HVv.out] at hWR
  have HWR := hidep hWR
  have H3 := hidep (And.intro hb3 hsa)
  clear ha3 hb3 hsa hWR
  go_upto_region 4 with (go_at_call 6; refine HWR.out.mono ?_; rintro e w4 ⟨vcl, C, okw, rfl, hcl, hCl, hok1, hok2, hb4⟩; have hokw := hok2 (written_ok HT2.out.2.1 l); subst hokw)
  have hisz := hok1 trivial
  obtain ⟨xl, xlc, hxl, hzc, hzm⟩ := hcl.1.form
  subst hxl
  have hClen := isZ_len HT2.out.2.2.2 (symsZ_lang l) hisz
  have hLn := symsZ_len l
  have hb24 : Below w2.heap.size w2 w4 := H3.out.1.trans (hb4.mono H3.out.1.size)
  have H4 := hidep (And.intro hb24 (And.intro (H3.out.2.below hb4) (And.intro hcl hisz)))
  have hCs : C.length ≤ 588 := by omega
  have HVT := hidep (HVv.out ▸ validT_any V T w4 (HT2.out.1.below hb24) HT2.out.2.2.1)
  rw [HT2.out.2.2.2] at HVT
  obtain ⟨g0, g1, g2, g3, g4, g5, g6⟩ := tb7 (below_push hb24 HX2.out)
  clear hok1 hok2 hb4 hcl hisz hClen hb24 f0 f1 f2 f3 f4 f5 f6 HWR H3
  go_upto_region 6 with (go_at_call 14; refine HVT.out.mono ?_; rintro e w5 ⟨rfl, hb5⟩)
  have hb25 : Below w2.heap.size w2 w5 := H4.out.1.trans (hb5.mono H4.out.1.size)
  have H5 := hidep (And.intro hb25 (And.intro (H4.out.2.1.below hb5) (And.intro (H4.out.2.2.1.below hb5) H4.out.2.2.2)))
  clear hb5 hb25 H4 HVT g0 g1 g2 g3 g4 g5 g6
  have hlgo := lastLg_or (symsZ_lang l)
  obtain ⟨lg, hlgk⟩ : ∃ k : Nat, (k : Int) = lastLg (symsZ l) := ⟨(lastLg (symsZ l)).toNat, by omega⟩
  have hlg2 : lg < 2 := by omega
  have HLG := hidep hlgk
  obtain ⟨m, hm⟩ : ∃ m, m = (symsZ l).length := ⟨_, rfl⟩
  have HM := hidep hm
  rw [← hm] at hLn hxc ⊢
  obtain ⟨cn, hcn⟩ : ∃ x, x = C.length := ⟨_, rfl⟩
  have HCN := hidep hcn
  rw [← hcn] at hCs hCl hzc ⊢
  clear hlgo hlgk hm hcn
  go_upto_if 40 with (fail)
  refine wp_join (FuA (.pointer (some ⟨Bt, 0, none⟩)) (.slice xa m xac) (.slice xl cn xlc) (lg : Nat) w5) ?r6 ?_
  case r6 =>
    intro K' hMK
    by_cases hm0 : 0 < m
    · have hmI : (m : Int) > 0 := by omega
      have hsl := H5.out.2.1
      obtain ⟨b, off, hxa, hbl, x0, -⟩ := hsl.at (k := m - 1) (by rw [← HM.out]; omega)
      subst hxa
      have hxl : (symsZ l)[m - 1]'(by rw [← HM.out]; omega) = symAt (symsZ l) (m - 1) := (symAt_get _).symm
      rw [hxl] at x0
      have hll : (symAt (symsZ l) (m - 1)).lang = (lg : Int) := by
        rw [HLG.out]
        unfold lastLg
        rw [← HM.out, if_neg (by omega)]
      rw [hll] at x0
      obtain ⟨m1, hm1⟩ : ∃ k, k = m - 1 := ⟨_, rfl⟩
      rw [← hm1] at x0
      have hmw : IntKind.i64.wrap ((m : Int) - 1) = (m1 : Int) := by rw [IntWalk.i64_in _ (by omega)]; omega
      have hm1I : (m1 : Int) < (m : Int) := by omega
      have hm10 : (0 : Int) ≤ (m1 : Int) := by omega
      clear hsl hxl hll hm1
      go_wp2
      first
        | exact ⟨by kernel_rfl, by kernel_rfl, by kernel_rfl, by kernel_rfl, by kernel_rfl, by kernel_rfl, by kernel_rfl, rfl⟩
        | exact hMK _ _ ⟨by kernel_rfl, by kernel_rfl, by kernel_rfl, by kernel_rfl, by kernel_rfl, by kernel_rfl, by kernel_rfl, rfl⟩
    · have hmI : ¬ (m : Int) > 0 := by omega
      have hl0 : lg = 0 := by
        have h := HLG.out
        unfold lastLg at h
        rw [← HM.out, if_pos (by omega)] at h
        omega
      subst hl0
      go_wp2
      first
        | exact ⟨by kernel_rfl, by kernel_rfl, by kernel_rfl, by kernel_rfl, by kernel_rfl, by kernel_rfl, by kernel_rfl, rfl⟩
        | exact hMK _ _ ⟨by kernel_rfl, by kernel_rfl, by kernel_rfl, by kernel_rfl, by kernel_rfl, by kernel_rfl, by kernel_rfl, rfl⟩
  rintro ⟨tm, ds⟩ X ⟨hts, hds, e6, e7, e8, e9, e11, eX⟩
  dsimp only at hts hds e6 e7 e8 e9 e11 eX
  subst hds eX
  rw [frame117 tm _ hts, e6, e7, e8, e9, e11]
  clear e6 e7 e8 e9 e11 hts
  (try apply_assumption)
  have hsx := H5.out.2.1
  rw [← HM.out] at hsx
  have HRA := hidep (show Rd (X.alloc (.cells #[] 49)) (· = 49) 2 (.slice xa m xac) m (symsC (symsZ l)) from by
    have := Rd.below (show Rd X (· = 49) 2 (.slice xa m xac) (symsZ l).length (symsC (symsZ l)) from hsx) ((Below.refl X.heap.size X).alloc (Nat.le_refl _) (.cells #[] 49))
    rw [← HM.out] at this
    exact this)
  have HOE := hidep (show (X.alloc (.cells #[] 49)).ownsRow X.heap.size 49 2 (.slice (some ⟨X.heap.size, 0, none⟩) 0 0) 0 [] from World.ownsRow_lit X #[] 0 (Nat.le_refl _) (by decide) rfl)
  have hoA : ∀ u ∈ symsC (symsZ l), u.oneCell' = true := symsC_one _
  clear hsx
  go_upto_region 10 with (at_builtin; first
      | (refine wpList_append_rd _ rfl (.tmp 48) (.tmp 49) rfl slSyms X.heap.size (.slice (some ⟨X.heap.size, 0, none⟩) 0 0) 0 [] (by kernel_rfl) HOE.out _ _ _ _ rfl HRA.out hoA (by unfold maxLen; omega) (by omega) (by rw [World.size_alloc]; omega) ?_; intro v6 w6 ho6 hg6 hat6 hnl; clear hnl; simp only [Nat.zero_add, List.nil_append] at ho6; have hk6 : X.heap.size + 1 ≤ w6.heap.size := (by have := hg6.size; rw [World.size_alloc] at this; exact this))
      | (refine wpList_append_rd _ rfl (.tmp 50) (.tmp 53) rfl slSyms X.heap.size v6 m (symsC (symsZ l)) (by kernel_rfl) (ho6.alloc _) _ _ _ _ rfl (Rd.fresh w6 #[.int .i64 (lg : Nat), .int .u8 32] 49 2 1 rfl (by decide)) (by intro u hu; simp at hu; rcases hu with rfl | rfl <;> rfl) (by unfold maxLen; omega) (by omega) (by rw [World.size_alloc]; omega) ?_; intro v7 w7 ho7 hg7 hat7 hnl; clear hnl))
  have hb57 : Below X.heap.size X w7 := (((Below.refl _ _).alloc (Nat.le_refl _) (.cells #[] 49)).grown hg6 (by rw [World.size_alloc]; omega) (fun k hk => Nat.le_of_eq (Option.some.inj hk))).trans ((((Below.refl X.heap.size w6).alloc (by omega) _).grown hg7 (by rw [World.size_alloc]; omega) (fun k hk => (ho6.lt k hk).1)))
  obtain ⟨lon, hlon⟩ : ∃ x, x = symsZ l ++ [(⟨lastLg (symsZ l), 32⟩ : Sym)] := ⟨_, rfl⟩
  have hlonl : lon.length = m + 1 := by rw [hlon, List.length_append, ← HM.out]; rfl
  have hsc : SymsAt w7 v7 lon := by
    refine SymsAt.of_own (base := X.heap.size) ?_
    rw [hlonl, hlon, symsC_append, ← HLG.out]
    exact ho7
  obtain ⟨xo, xoc, hxo, -, -⟩ := hsc.form
  subst hxo
  have hb27 : Below w2.heap.size w2 w7 := H5.out.1.trans (hb57.mono H5.out.1.size)
  have H7 := hidep (And.intro hb27 (And.intro hsc (And.intro (H5.out.2.2.1.below hb57) (And.intro hlon H5.out.2.2.2))))
  have hlon25 : lon.length ≤ 25 := by omega
  obtain ⟨ln, hln⟩ : ∃ x, x = lon.length := ⟨_, rfl⟩
  have HLN := hidep hln
  rw [← hln] at hlon25 ⊢
  obtain ⟨L, hL⟩ : ∃ L, L = T.rules (lastLg (symsZ l)) := ⟨_, rfl⟩
  obtain ⟨ra, rc, hcell, hLr, hLn2⟩ : ∃ ra rc, w7.cell? ⟨Bt, lg, none⟩ = some (.slice ra L.length rc) ∧ RulesAt w2 (.slice ra L.length rc) L ∧ L.length ≤ 1000 := by
    obtain ⟨g0, g1, -⟩ := tb7 (below_push hb27 HX2.out)
    rw [hL]
    unfold TabZ.rules
    have h0 := HT2.out.1.r0
    have h1 := HT2.out.1.r1
    rw [HVE.out] at h0 h1
    have k0 := made_len HT2.out.2.1.l0
    have k1 := made_len HT2.out.2.1.l1
    rw [← HLG.out]
    rcases (by omega : lg = 0 ∨ lg = 1) with rfl | rfl
    · rw [if_pos (by omega)]
      exact ⟨_, _, g0, h0, by omega⟩
    · rw [if_neg (by omega)]
      exact ⟨_, _, g1, h1, by omega⟩
  have hlgI : (lg : Int) < 2 := by omega
  have hlgI0 : (0 : Int) ≤ (lg : Int) := by omega
  have HLL := hidep (And.intro hL hLr)
  clear hsc hlon hlonl ho6 hg6 hat6 ho7 hg7 hat7 hk6 hb57 hb27 hln hL hLr H5 hoA HRA HOE
  obtain ⟨rn, hrn⟩ : ∃ x, x = L.length := ⟨_, rfl⟩
  have HRN := hidep hrn
  rw [← hrn] at hcell hLn2 HLL
  clear hrn
  go_upto_region 12 with (fail)
  refine wp_loop (LoopI 117 (fun tm ds wr => (slot tm 6) = .bool false ∧ (slot tm 7) = .pointer (some ⟨Bt, 0, none⟩) ∧ (slot tm 9) = .slice xl cn xlc ∧ (slot tm 12) = .slice xo ln xoc ∧ (slot tm 13) = .slice ra rn rc ∧ ds = [] ∧ FuL w7 rn (slot tm 14) wr)) (fun a' wr => rn - natI (a'.tmps.getD 14 undef)) ?liStart ?liRound
  case' liStart => refine LoopI.mk rfl ?_
  case' liRound => (rintro ⟨t, ds⟩ wr ⟨hts, hrel⟩; dsimp only at hts hrel; rw [frame117 t ds hts])
  case liStart => exact ⟨rfl, rfl, rfl, rfl, rfl, rfl, 0, Nat.zero_le _, rfl, Below.refl _ _⟩
  obtain ⟨e6, e7, e9, e12, e13, hds, i, hi, e14, hbw⟩ := hrel
  subst hds
  rw [e6, e7, e9, e12, e13, e14]
  clear e6 e7 e9 e12 e13 e14 hts hcell hlgI hlgI0
  have HBW := hidep hbw
  clear hbw
  have hiw : IntKind.i64.wrap ((i : Int) + 1) = (i : Int) + 1 := IntWalk.i64_in _ (by omega)
  by_cases hil : i < rn
  · have hiI : (i : Int) < (rn : Int) := by omega
    have hilL : i < L.length := by rw [← HRN.out]; exact hil
    have hRw := HLL.out.2.below (H7.out.1.trans (HBW.out.mono H7.out.1.size))
    rw [HRN.out] at hRw
    obtain ⟨b, off, ya, yn, yc, hra, hbl, x0, -, x2, hy⟩ := rule_at hRw hilL
    subst hra
    have hrm : L[i] ∈ T.rules (lastLg (symsZ l)) := by rw [← HLL.out.1]; exact List.getElem_mem _
    obtain ⟨r, hr⟩ : ∃ r, r = L[i] := ⟨_, rfl⟩
    rw [← hr] at x0 hy hrm
    have HY := hidep (And.intro hy hrm)
    clear hRw hr hy hrm
    obtain ⟨s, hs⟩ : ∃ s, s = r.text := ⟨_, rfl⟩
    rw [← hs] at x0
    have HS := hidep hs
    clear hs
    obtain ⟨wi, hwi⟩ : ∃ wo : World, wo = wr := ⟨_, rfl⟩
    rw [← hwi] at x0 x2 hbl HY HBW ⊢
    clear hwi
    by_cases ht : s = ⟨#[32]⟩
    case neg =>
      have g1 : (s.toList == [32]) = false := by
        rw [beq_eq_false_iff_ne]
        intro h
        exact ht (bytes_toList (h.trans (show ([32] : List UInt8) = (⟨#[32]⟩ : ByteArray).toList from by decide +kernel)))
      go_wp2
      refine ⟨LoopI.mk (by kernel_rfl) ⟨by kernel_rfl, by kernel_rfl, by kernel_rfl, by kernel_rfl, by kernel_rfl, rfl, i + 1, by omega, by kernel_rfl, HBW.out⟩, ?_⟩
      show rn - _ < rn - _
      simp [natI]; omega
    subst ht
    have hyn : yn = r.cells.length := by
      obtain ⟨a', c', e', -, -⟩ := HY.out.1.1.form
      injection e'
    subst hyn
    have hy4 : r.cells.length ≤ 4 := by
      rcases lastLg_or (symsZ_lang l) with h | h
      · have := HY.out.2
        rw [h] at this
        exact (valid_rule HT2.out.2.2.2 (k := 0) (by decide) r this).2.2
      · have := HY.out.2
        rw [h] at this
        exact (valid_rule HT2.out.2.2.2 (k := 1) (by decide) r this).2.2
    have hmore : isZ T lon (C ++ r.cells) = true := by
      rw [H7.out.2.2.2.1]
      exact further HT2.out.2.1 HY.out.2 HS.out.symm H7.out.2.2.2.2
    obtain ⟨M, hM⟩ : ∃ M, M = C ++ r.cells := ⟨_, rfl⟩
    have hMl : M.length ≤ 592 := by rw [hM, List.length_append]; have := HCN.out; omega
    rw [← hM] at hmore
    have HM2 := hidep (And.intro hM hmore)
    clear hM hmore
    have HSEE := hidep (show ∀ Z : World, Below wi.heap.size wi Z → Z.cell? ⟨b, off + i * 3 + 2, none⟩ = some (.slice ya r.cells.length yc) from fun Z hZ => (hZ.cell (p := ⟨b, off + i * 3 + 2, none⟩) hbl).trans x2)
    have HCL := hidep (show ∀ Z : World, Below wi.heap.size wi Z → BysAt Z (.slice xl cn xlc) C from fun Z hZ => by rw [HCN.out]; exact (H7.out.2.2.1.below HBW.out).below hZ)
    have HYC := hidep (fun (Z : World) (hZ : Below wi.heap.size wi Z) => HY.out.1.below hZ)
    have hoC : ∀ u ∈ byC C, u.oneCell' = true := byC_one C
    have hC2 : C.length ≤ 588 := by rw [← HCN.out]; exact hCs
    have hoY : ∀ u ∈ byC r.cells, u.oneCell' = true := byC_one r.cells
    clear x2
    go_upto_region 15 with (fail)
    refine wp_join (FuM wi (.pointer (some ⟨Bt, 0, none⟩)) (.slice xl cn xlc) (.slice xo ln xoc) (.slice (some ⟨b, off, none⟩) rn rc) (.int .i64 (i : Nat)) M) ?r15 ?_
    case r15 =>
      intro K' hMK
      go_upto_region 15 with (fail)
      refine wp_region_noPanic (wp_region_held_drew (S := (fun Z => Below wi.heap.size wi Z)) (by kernel_rfl) ?hS4r15n0 (fun hHeld => ?hR4r15n0))
      case hS4r15n0 => ((try dsimp only); (exact (Below.refl _ _).drew))
      refine wpAnyH_take (i := 1) (v := ?v4r15n0q1) rfl (by kernel_rfl) (by kernel_rfl) (by kernel_rfl) (fun _ _ _ h => h) (Or.inl ⟨by kernel_rfl, ?hy4r15n0q1⟩) (by assumption) ?hr4r15n0q1
      case hy4r15n0q1 => (intro w hSw; (try dsimp only at hSw); (have x2 := HSEE.out _ hSw); first | (go_simp; done) | (go_simp; with_reducible rfl))
      refine wpAnyH_take (i := 3) (v := ?v4r15n0q2) rfl (by kernel_rfl) (by kernel_rfl) (by kernel_rfl) (fun _ _ _ h => h) (Or.inl ⟨by kernel_rfl, ?hy4r15n0q2⟩) (by assumption) ?hr4r15n0q2
      case hy4r15n0q2 => (intro w hSw; (try dsimp only at hSw); (have x2 := HSEE.out _ hSw); first | (go_simp; done) | (go_simp; with_reducible rfl))
      refine wpAnyH_take (i := 4) (v := ?v4r15n0q3) rfl (by kernel_rfl) (by kernel_rfl) (by kernel_rfl) (fun _ _ _ h => h) (Or.inl ⟨by kernel_rfl, ?hy4r15n0q3⟩) (by assumption) ?hr4r15n0q3
      case hy4r15n0q3 => (intro w hSw; (try dsimp only at hSw); (have x2 := HSEE.out _ hSw); first | (go_simp; done) | (go_simp; with_reducible rfl))
      refine wpAnyH_take (i := 5) (v := ?v4r15n0q4) rfl (by kernel_rfl) (by kernel_rfl) (by kernel_rfl) (fun _ _ _ h => h) (Or.inl ⟨by kernel_rfl, ?hy4r15n0q4⟩) (by assumption) ?hr4r15n0q4
      case hy4r15n0q4 => (intro w hSw; (try dsimp only at hSw); (have x2 := HSEE.out _ hSw); first | (go_simp; done) | (go_simp; with_reducible rfl))
      refine wpAnyH_take (i := 6) (v := ?v4r15n0q5) rfl (by kernel_rfl) (by kernel_rfl) (by kernel_rfl) (fun _ _ _ h => h) (Or.inl ⟨by kernel_rfl, ?hy4r15n0q5⟩) (by assumption) ?hr4r15n0q5
      case hy4r15n0q5 => (intro w hSw; (try dsimp only at hSw); (have x2 := HSEE.out _ hSw); first | (go_simp; done) | (go_simp; with_reducible rfl))
      refine wpAnyH_take (i := 7) (v := ?v4r15n0q6) rfl (by kernel_rfl) (by kernel_rfl) (by kernel_rfl) (fun _ _ _ h => h) (Or.inl ⟨by kernel_rfl, ?hy4r15n0q6⟩) (by assumption) ?hr4r15n0q6
      case hy4r15n0q6 => (intro w hSw; (try dsimp only at hSw); (have x2 := HSEE.out _ hSw); first | (go_simp; done) | (go_simp; with_reducible rfl))
      refine wpAnyH_ready (rs := [0]) (by kernel_rfl) (by simp) (AllReadyH.cons rfl (fun K hK => ?hc4r15n0q7) AllReadyH.nil)
      go_simp
      ((first | refine intro_alloc (fun X72 hBX hL72 => ?_) | refine intro_alloc_drew (fun X72 hBX hL72 => ?_)); have hk9 : Below wi.heap.size wi X72 := (by first | exact hBX | exact hHeld.trans (hBX.mono hHeld.size) | exact ((Below.refl _ _).drew).trans hBX); have ho72 := lit_own (B := wi.heap.size) (k := 1) hL72 hHeld.size; (try dsimp only))
      refine hK.out _ _ ?hs4r15n0q7 (fun hHeld4r15n0q7 => ?ht4r15n0q7)
      case hs4r15n0q7 => ((try dsimp only); (exact hk9))
      clear hHeld hK
      have hHeld := hHeld4r15n0q7
      clear hHeld4r15n0q7
      refine wpAnyH_ready (rs := [2]) (by kernel_rfl) (by simp) (AllReadyH.cons rfl (fun K hK => ?hc4r15n0q8) AllReadyH.nil)
      (refine step_append_rd _ rfl (.tmp 72) (.tmp 73) rfl slByt wi.heap.size (.slice (some ⟨_, 0, none⟩) 0 0) 0 [] (by kernel_rfl) ho72 _ _ _ _ (by kernel_rfl) (HCL.out _ hHeld).1 hoC (by unfold maxLen; omega) (by omega) hHeld.size ?_; intro v74 w74 ho74 hg74 hat74 hnl; clear hnl; simp only [Nat.zero_add, List.nil_append] at ho74; obtain ⟨a74, c74, hv74, -, -⟩ := (Rd.of_own ho74).form; subst hv74; have hk9 := hHeld.grown hg74 hHeld.size (fun x hx => (ho72.lt x hx).1); (try dsimp only))
      refine hK.out _ _ ?hs4r15n0q8 (fun hHeld4r15n0q8 => ?ht4r15n0q8)
      case hs4r15n0q8 => ((try dsimp only); (exact hk9))
      clear hHeld hK
      have hHeld := hHeld4r15n0q8
      clear hHeld4r15n0q8
      refine wpAnyH_ready (rs := [8]) (by kernel_rfl) (by simp) (AllReadyH.cons rfl (fun K hK => ?hc4r15n0q9) AllReadyH.nil)
      (refine step_append_rd _ rfl (.tmp 74) (.tmp 79) rfl slByt wi.heap.size (.slice a74 C.length c74) C.length (byC C) (by kernel_rfl) ho74 _ _ _ _ (by kernel_rfl) (HYC.out _ hHeld).1 hoY (by unfold maxLen; omega) (by omega) hHeld.size ?_; intro v80 w80 ho80 hg80 hat80 hnl; clear hnl; obtain ⟨a80, c80, hv80, -, -⟩ := (Rd.of_own ho80).form; subst hv80; have hk9 := hHeld.grown hg80 hHeld.size (fun x hx => (ho74.lt x hx).1); (try dsimp only))
      refine hK.out _ _ ?hs4r15n0q9 (fun hHeld4r15n0q9 => ?ht4r15n0q9)
      case hs4r15n0q9 => ((try dsimp only); (exact hk9))
      clear hHeld hK
      have hHeld := hHeld4r15n0q9
      clear hHeld4r15n0q9
      refine wpAnyH_take (i := 9) (v := ?v4r15n0q10) rfl (by kernel_rfl) (by kernel_rfl) (by kernel_rfl) (fun _ _ _ h => h) (Or.inl ⟨by kernel_rfl, ?hy4r15n0q10⟩) (by assumption) ?hr4r15n0q10
      case hy4r15n0q10 => (intro w hSw; (try dsimp only at hSw); (have x2 := HSEE.out _ hSw); first | (go_simp; done) | (go_simp; with_reducible rfl))
      refine wpAnyH_done (by kernel_rfl) ?_ _
      clear hHeld
      refine NoPanic.normal ?_
      all_goals
        (try dsimp only [Exit.then])
        have hMe : M.length = C.length + r.cells.length := by rw [HM2.out.1, List.length_append]
        have hby : BysAt w80 (.slice a80 M.length c80) M := by
          refine BysAt.of_own (base := wi.heap.size) (e := 5) ?_ ?_
          · rw [hMe, HM2.out.1, byC_append]
            exact ho80
          · intro x hx
            rw [HM2.out.1] at hx
            rcases List.mem_append.1 hx with hx | hx
            · exact H7.out.2.2.1.2 x hx
            · exact HY.out.1.2 x hx
        have HBY := hidep (And.intro hby hk9)
        have hme := hidep hMe
        clear hby hMe
        go_wp2
        first
          | exact ⟨a80, c80, by kernel_rfl, by kernel_rfl, by kernel_rfl, by kernel_rfl, by kernel_rfl, by kernel_rfl, by kernel_rfl, by kernel_rfl, (by rw [hme.out]; kernel_rfl), HBY.out⟩
          | exact hMK _ _ ⟨a80, c80, by kernel_rfl, by kernel_rfl, by kernel_rfl, by kernel_rfl, by kernel_rfl, by kernel_rfl, by kernel_rfl, by kernel_rfl, (by rw [hme.out]; kernel_rfl), HBY.out⟩
    rintro ⟨tm, ds⟩ X2 ⟨ma, mc, hts, hds, e6, e7, e9, e12, e13, e14, e15, hby, hb2⟩
    dsimp only at hts hds e6 e7 e9 e12 e13 e14 e15
    subst hds
    rw [frame117 tm _ hts, e6, e7, e9, e12, e13, e14, e15]
    clear e6 e7 e9 e12 e13 e14 e15 hts HSEE HCL HYC hoC hoY
    (try apply_assumption)
    have hb7 : Below w7.heap.size w7 X2 := HBW.out.trans (hb2.mono HBW.out.size)
    have hb27 : Below w2.heap.size w2 X2 := H7.out.1.trans (hb7.mono H7.out.1.size)
    have HTW := hidep (fun (Z : World) (hZ : Below X2.heap.size X2 Z) => HT2.out.1.below (hb27.trans (hZ.mono hb27.size)))
    have HTC := hidep (fun (Z : World) (hZ : Below X2.heap.size X2 Z) => tb7 (below_push (hb27.trans (hZ.mono hb27.size)) HX2.out))
    have hlo : SymsAt X2 (.slice xo ln xoc) lon := by
      have h := H7.out.2.1.below hb7
      rw [← HLN.out] at h
      exact h
    have hlok : SymOk lon := by rw [H7.out.2.2.2.1]; exact blank_ok (symsZ_SymOk l) (lastLg_or (symsZ_lang l))
    have hIs : (decide (validE T = 0) && (lon.all goodB && (decide (lon.length ≤ 2048) && (decide (M.length ≤ 8192) && isZ T lon M)))) = true := by
      rw [decide_eq_true HT2.out.2.2.2, decide_eq_true (by rw [← HLN.out]; omega), decide_eq_true (by omega), HM2.out.2, H7.out.2.2.2.1, blank_good l (lastLg_or (symsZ_lang l))]
      rfl
    have HIS := hidep (fun (Z : World) (hZ : Below X2.heap.size X2 Z) => HVv.out ▸ isTopC_any V T (.slice xo ln xoc) (.slice ma M.length mc) lon M Z (HTW.out Z hZ) HT2.out.2.2.1 (hlo.below hZ) hlok (hby.below hZ))
    rw [hIs] at HIS
    have HAL := hidep (fun (Z : World) (hZ : Below X2.heap.size X2 Z) => HVv.out ▸ allC_any V T (.slice ma M.length mc) M 64 Z (HTW.out Z hZ) HT2.out.2.2.1 (hby.below hZ))
    have haf := all_found (l := lon) HT2.out.2.2.2 (by rw [H7.out.2.2.2.1]; exact blank_lang (symsZ_lang l) (lastLg_or (symsZ_lang l))) (by rw [H7.out.2.2.2.1]; exact blank_c (symsZ_SymOk l)) HM2.out.2 (by omega)
    obtain ⟨A, hA⟩ : ∃ A, A = (allZ T M 64).1 := ⟨_, rfl⟩
    rw [haf.1, ← hA] at HAL
    rw [← hA] at haf
    have HAF := hidep haf.2
    have HLO := hidep hlo
    have HB2 := hidep hb2
    clear haf hA hIs hlok hlo hby hb7 hb27 hb2
    obtain ⟨mn, hmn⟩ : ∃ x, x = M.length := ⟨_, rfl⟩
    rw [← hmn] at HIS HAL ⊢
    clear hmn hMl
    obtain ⟨g0, g1, g2, g3, g4, g5, g6⟩ := HTC.out X2 (Below.refl _ _)
    go_upto_region 18 with (go_at_call 15; refine (HIS.out _ (Below.refl _ _)).mono ?_; rintro e w3 ⟨rfl, hb3⟩)
    clear g0 g1 g2 g3 g4 g5 g6
    have HB3 := hidep hb3
    obtain ⟨g0, g1, g2, g3, g4, g5, g6⟩ := HTC.out w3 hb3
    clear hb3 HIS
    go_upto_region 19 with (go_at_call 12; refine (HAL.out _ HB3.out).mono ?_; rintro e w4 ⟨v4, rfl, hs4, hb4⟩; obtain ⟨a4, c4, hv4, hc4, hm4⟩ := hs4.form; subst hv4)
    clear g0 g1 g2 g3 g4 g5 g6 HAL HTC HTW
    have hb24 : Below X2.heap.size X2 w4 := HB3.out.trans (hb4.mono HB3.out.size)
    have H44 := hidep (And.intro hs4 hb24)
    obtain ⟨an, han⟩ : ∃ x, x = A.length := ⟨_, rfl⟩
    have HAN := hidep han
    rw [← han] at hc4 ⊢
    unfold maxLen at hm4
    obtain ⟨f, hf⟩ : ∃ f : Bool, f = decide (an = 64) := ⟨_, rfl⟩
    have hfe : ((an : Int) == 64) = f := by
      rw [hf, Bool.eq_iff_iff]
      simp only [beq_iff_eq, decide_eq_true_eq]
      omega
    have HF := hidep hf
    have han64 : an ≤ 64 := by rw [han]; exact HAF.out.1
    clear hs4 hb4 hb24 hf han
    go_upto_region 21 with (fail)
    refine wp_loop (LoopI 117 (fun tm ds wr => (slot tm 6) = .bool false ∧ (slot tm 7) = .pointer (some ⟨Bt, 0, none⟩) ∧ (slot tm 9) = .slice xl cn xlc ∧ (slot tm 12) = .slice xo ln xoc ∧ (slot tm 13) = .slice (some ⟨b, off, none⟩) rn rc ∧ (slot tm 14) = .int .i64 (i : Nat) ∧ (slot tm 16) = .slice a4 an c4 ∧ (slot tm 17) = .int .i64 0 ∧ ds = [] ∧ FuK w4 A lon f an (slot tm 18) (slot tm 19) wr)) (fun a' wr => an - natI (a'.tmps.getD 19 undef)) ?lkStart ?lkRound
    case' lkStart => refine LoopI.mk rfl ?_
    case' lkRound => (rintro ⟨t, ds⟩ wr ⟨hts, hrel⟩; dsimp only at hts hrel; rw [frame117 t ds hts])
    case lkStart => exact ⟨rfl, rfl, rfl, rfl, rfl, rfl, rfl, rfl, rfl, 0, Nat.zero_le _, (by rw [List.take_zero, List.any_nil, Bool.or_false]; rfl), rfl, Below.refl _ _⟩
    obtain ⟨e6, e7, e9, e12, e13, e14, e16, e17, hds, k, hk, e18, e19, hbw⟩ := hrel
    subst hds
    rw [e6, e7, e9, e12, e13, e14, e16, e17, e18, e19]
    clear e6 e7 e9 e12 e13 e14 e16 e17 e18 e19 hts hfe
    have HBW4 := hidep hbw
    clear hbw
    have hkw : IntKind.i64.wrap ((k : Int) + 1) = (k : Int) + 1 := IntWalk.i64_in _ (by omega)
    obtain ⟨fd, hfd⟩ : ∃ x, x = (f || (A.take k).any (fun x => decide (x = lon))) := ⟨_, rfl⟩
    rw [← hfd]
    have HFD := hidep hfd
    clear hfd
    by_cases hka : k < an
    · have hkI : (k : Int) < (an : Int) := by omega
      have hkA : k < A.length := by rw [← HAN.out]; exact hka
      have HTS := hidep (any_take_succF (fun x => decide (x = lon)) A k hkA)
      cases fd with
      | true =>
        have HN := hidep (show (true : Bool) = (f || (A.take (k + 1)).any (fun x => decide (x = lon))) by rw [HTS.out, ← Bool.or_assoc, ← HFD.out]; rfl)
        go_wp2
        refine ⟨LoopI.mk (by kernel_rfl) ⟨by kernel_rfl, by kernel_rfl, by kernel_rfl, by kernel_rfl, by kernel_rfl, by kernel_rfl, by kernel_rfl, by kernel_rfl, rfl, k + 1, by omega, (by rw [← HN.out]; kernel_rfl), by kernel_rfl, HBW4.out⟩, ?_⟩
        show an - _ < an - _
        simp [natI]; omega
      | false =>
        have hsw := H44.out.1.below HBW4.out
        obtain ⟨ab, ao, u, ha4, hbl2, hc5, hu5⟩ := hsw.at hkA
        subst ha4
        obtain ⟨ua, uc, hu6, -, -⟩ := hu5.form
        subst hu6
        obtain ⟨wk, hwk⟩ : ∃ wo : World, wo = wr := ⟨_, rfl⟩
        rw [← hwk] at hc5 hu5 HBW4 hbl2 ⊢
        clear hwk hsw
        have HSS := hidep (sameSyms_any _ (.slice xo ln xoc) A[k] lon wk hu5 ((HLO.out.below H44.out.2).below HBW4.out))
        obtain ⟨y, hy⟩ : ∃ y, y = decide (A[k] = lon) := ⟨_, rfl⟩
        rw [← hy] at HSS
        have HY2 := hidep (show y = (f || (A.take (k + 1)).any (fun x => decide (x = lon))) by rw [HTS.out, ← Bool.or_assoc, ← HFD.out, hy]; rfl)
        obtain ⟨un, hun⟩ : ∃ x, x = A[k].length := ⟨_, rfl⟩
        rw [← hun] at hc5 HSS
        clear hy hu5 hun
        go_wp2_with (go_at_call 16; refine HSS.out.mono ?_; rintro e w6 ⟨rfl, n6, rfl⟩)
        refine ⟨LoopI.mk (by kernel_rfl) ⟨by kernel_rfl, by kernel_rfl, by kernel_rfl, by kernel_rfl, by kernel_rfl, by kernel_rfl, by kernel_rfl, by kernel_rfl, rfl, k + 1, by omega, (by rw [← HY2.out]; kernel_rfl), by kernel_rfl, HBW4.out.trans ((below_drewN (Below.refl _ _) _).mono HBW4.out.size)⟩, ?_⟩
        show an - _ < an - _
        simp [natI]; omega
    · have hkI : ¬ (k : Int) < (an : Int) := by omega
      have hke : fd = true := by
        rw [HFD.out]
        have h1 : A.take k = A := by rw [List.take_of_length_le (by have := HAN.out; omega)]
        rw [h1, HF.out]
        rcases HAF.out.2 with h | h
        · rw [decide_eq_true (by rw [HAN.out]; exact h)]
          rfl
        · rw [List.any_eq_true.2 ⟨lon, h, by simp⟩, Bool.or_true]
      subst hke
      have hbf : Below w7.heap.size w7 wr := HBW.out.trans ((HB2.out.trans ((H44.out.2.trans (HBW4.out.mono H44.out.2.size)).mono HB2.out.size)).mono HBW.out.size)
      have HBF := hidep hbf
      clear hbf
      go_wp2
      refine ⟨LoopI.mk (by kernel_rfl) ⟨by kernel_rfl, by kernel_rfl, by kernel_rfl, by kernel_rfl, by kernel_rfl, rfl, i + 1, by omega, by kernel_rfl, HBF.out⟩, ?_⟩
      show rn - _ < rn - _
      simp [natI]; omega
  · have hiI : ¬ (i : Int) < (rn : Int) := by omega
    have HW2 := hidep (HA2.out.2.2.trans ((H7.out.1.trans (HBW.out.mono H7.out.1.size)).mono HA2.out.2.2.size))
    go_wp2_with (go_at_call 13; refine (lives_any _).mono ?_; rintro e w9 ⟨rfl, hb9⟩)
    go_ret
    exact ⟨rfl, HW2.out.trans (hb9.mono HW2.out.size)⟩
end Go.Proofs.Ytcfjepcflanjbaa
