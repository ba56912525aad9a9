/- For all tables, texts and cells, changed ones too, Is of both packages report the same. -/
import Derived.Test.YtcfjepcflanjbaaGreatBi43
import Derived.Test.YtcfjepcflanjbaaGreatBi46
import Derived.Test.YtcfjepcflanjbaaGreatBi47
import Derived.Test.YtcfjepcflanjbaaGreatBi48
import Derived.Test.YtcfjepcflanjbaaGreatBi49
import Derived.Test.YtcfjepcflanjbaaGreatBi26
import Derived.Test.YtcfjepcflanjbaaGreatBi22
import Derived.Test.YtcfjepcflanjbaaGreatBi28
namespace Go.Proofs.YtcfjepcflanjbaaGreat
open Go.RowKit Go.Lab Go.Shelf
set_option maxRecDepth 100000
theorem i64w_rng (x : Int) : -9223372036854775808 ≤ IntKind.i64.wrap x ∧ IntKind.i64.wrap x ≤ 9223372036854775807 := by
  rw [IntWalk.i64_left]
  unfold wrap64
  omega
def TabC (X : World) (Tb j : Nat) (V : TabV) : Prop := X.cell? ⟨Tb, j * 7, none⟩ = some V.a ∧ X.cell? ⟨Tb, j * 7 + 1, none⟩ = some V.b ∧ X.cell? ⟨Tb, j * 7 + 2, none⟩ = some V.d ∧ X.cell? ⟨Tb, j * 7 + 3, none⟩ = some V.c ∧ X.cell? ⟨Tb, j * 7 + 4, none⟩ = some V.n ∧ X.cell? ⟨Tb, j * 7 + 5, none⟩ = some V.e ∧ X.cell? ⟨Tb, j * 7 + 6, none⟩ = some V.s
structure BkD (W : World) (Xb Lb Tb : Nat) (X : World) : Prop where
  low : Below W.heap.size W X
  lx : Xb < X.heap.size
  ll : Lb < X.heap.size
  lt : Tb < X.heap.size
  tx : ∀ i, i < 4 → ∃ a n c l, X.cell? ⟨Xb, i, none⟩ = some (.slice a n c) ∧ SymsAt X (.slice a n c) l ∧ SymOk l ∧ l.length ≤ 1000000
  cl : ∀ k, k < 3 → ∃ a n c C, X.cell? ⟨Lb, k, none⟩ = some (.slice a n c) ∧ BysAt X (.slice a n c) C ∧ C.length ≤ 100000
  tb : ∀ j, j < 3 → ∃ V T, TabC X Tb j V ∧ TabIn X V T ∧ TabOk T
theorem BkD.below {W X Z : World} {Xb Lb Tb : Nat} (h : BkD W Xb Lb Tb X) (hb : Below X.heap.size X Z) : BkD W Xb Lb Tb Z := by
  have hc : ∀ (b o : Nat) v, b < X.heap.size → X.cell? ⟨b, o, none⟩ = some v → Z.cell? ⟨b, o, none⟩ = some v := fun b o v hl e => (hb.cell (p := ⟨b, o, none⟩) hl).trans e
  refine ⟨h.low.trans (hb.mono h.low.size), Nat.lt_of_lt_of_le h.lx hb.size, Nat.lt_of_lt_of_le h.ll hb.size, Nat.lt_of_lt_of_le h.lt hb.size, fun i hi => ?_, fun k hk => ?_, fun j hj => ?_⟩
  · obtain ⟨a, n, c, l, h1, h2, h3, h4⟩ := h.tx i hi
    exact ⟨a, n, c, l, hc _ _ _ h.lx h1, h2.below hb, h3, h4⟩
  · obtain ⟨a, n, c, C, h1, h2, h3⟩ := h.cl k hk
    exact ⟨a, n, c, C, hc _ _ _ h.ll h1, h2.below hb, h3⟩
  · obtain ⟨V, T, ⟨h0, h1, h2, h3, h4, h5, h6⟩, hT, hok⟩ := h.tb j hj
    exact ⟨V, T, ⟨hc _ _ _ h.lt h0, hc _ _ _ h.lt h1, hc _ _ _ h.lt h2, hc _ _ _ h.lt h3, hc _ _ _ h.lt h4, hc _ _ _ h.lt h5, hc _ _ _ h.lt h6⟩, hT.below hb, hok⟩
theorem bkd_of {w2 X : World} {Xb Lb Tb : Nat} {a1 a2 a3 b1 b2 : Option Addr} {n1 n2 n3 c1 c2 c3 m1 m2 k1 k2 : Nat} {l1 l2 l3 : List Sym} {C1 C2 : List Int} {V1 V2 V3 : TabV} {T1 T2 T3 : TabZ} (hb : Below w2.heap.size w2 X)
    (hx : X.heap[Xb]? = some (.cells #[.slice a1 n1 c1, .slice a2 n2 c2, .slice a3 n3 c3, .slice none 0 0] 31)) (hl : X.heap[Lb]? = some (.cells #[.slice b1 m1 k1, .slice b2 m2 k2, .slice none 0 0] 23))
    (ht : X.heap[Tb]? = some (.cells #[V1.a, V1.b, V1.d, V1.c, V1.n, V1.e, V1.s, V2.a, V2.b, V2.d, V2.c, V2.n, V2.e, V2.s, V3.a, V3.b, V3.d, V3.c, V3.n, V3.e, V3.s] 29))
    (s1 : SymsAt X (.slice a1 n1 c1) l1) (s2 : SymsAt X (.slice a2 n2 c2) l2) (s3 : SymsAt X (.slice a3 n3 c3) l3) (o1 : SymOk l1) (o2 : SymOk l2) (o3 : SymOk l3) (e1 : l1.length ≤ 1000000) (e2 : l2.length ≤ 1000000) (e3 : l3.length ≤ 1000000)
    (y1 : BysAt X (.slice b1 m1 k1) C1) (y2 : BysAt X (.slice b2 m2 k2) C2) (z1 : C1.length ≤ 100000) (z2 : C2.length ≤ 100000)
    (t1 : TabIn X V1 T1) (t2 : TabIn X V2 T2) (t3 : TabIn X V3 T3) (k1' : TabOk T1) (k2' : TabOk T2) (k3' : TabOk T3) : BkD w2 Xb Lb Tb X := by
  refine ⟨hb, lt_of_block hx, lt_of_block hl, lt_of_block ht, fun i hi => ?_, fun k hk => ?_, fun j hj => ?_⟩
  · rcases (by omega : i = 0 ∨ i = 1 ∨ i = 2 ∨ i = 3) with rfl | rfl | rfl | rfl
    · exact ⟨_, _, _, l1, by simp [World.cell?, hx], s1, o1, e1⟩
    · exact ⟨_, _, _, l2, by simp [World.cell?, hx], s2, o2, e2⟩
    · exact ⟨_, _, _, l3, by simp [World.cell?, hx], s3, o3, e3⟩
    · exact ⟨_, _, _, [], by simp [World.cell?, hx], Rd.nil _ _ _, fun x hx => by (cases hx), by decide⟩
  · rcases (by omega : k = 0 ∨ k = 1 ∨ k = 2) with rfl | rfl | rfl
    · exact ⟨_, _, _, C1, by simp [World.cell?, hl], y1, z1⟩
    · exact ⟨_, _, _, C2, by simp [World.cell?, hl], y2, z2⟩
    · exact ⟨_, _, _, [], by simp [World.cell?, hl], ⟨Rd.nil _ _ _, fun x hx => by (cases hx)⟩, by decide⟩
  · rcases (by omega : j = 0 ∨ j = 1 ∨ j = 2) with rfl | rfl | rfl
    · exact ⟨V1, T1, by unfold TabC; simp [World.cell?, ht], t1, k1'⟩
    · exact ⟨V2, T2, by unfold TabC; simp [World.cell?, ht], t2, k2'⟩
    · exact ⟨V3, T3, by unfold TabC; simp [World.cell?, ht], t3, k3'⟩
def LpI (W : World) (Xb Lb Tb n : Nat) (u : Value) (X : World) : Prop := ∃ i : Nat, i ≤ n ∧ u = .int .i64 (i : Nat) ∧ BkD W Xb Lb Tb X
theorem range_map121 (f : Nat → Value) : (List.range 121).map f = [f 0, f 1, f 2, f 3, f 4, f 5, f 6, f 7, f 8, f 9, f 10, f 11, f 12, f 13, f 14, f 15, f 16, f 17, f 18, f 19, f 20, f 21, f 22, f 23, f 24, f 25, f 26, f 27, f 28, f 29, f 30, f 31, f 32, f 33, f 34, f 35, f 36, f 37, f 38, f 39, f 40, f 41, f 42, f 43, f 44, f 45, f 46, f 47, f 48, f 49, f 50, f 51, f 52, f 53, f 54, f 55, f 56, f 57, f 58, f 59, f 60, f 61, f 62, f 63, f 64, f 65, f 66, f 67, f 68, f 69, f 70, f 71, f 72, f 73, f 74, f 75, f 76, f 77, f 78, f 79, f 80, f 81, f 82, f 83, f 84, f 85, f 86, f 87, f 88, f 89, f 90, f 91, f 92, f 93, f 94, f 95, f 96, f 97, f 98, f 99, f 100, f 101, f 102, f 103, f 104, f 105, f 106, f 107, f 108, f 109, f 110, f 111, f 112, f 113, f 114, f 115, f 116, f 117, f 118, f 119, f 120] := rfl
theorem frame121 (t : Array Value) (ds : List Deferred) (h : t.size = 121) : ({ tmps := t, defers := ds } : Act) = { tmps := #[slot t 0, slot t 1, slot t 2, slot t 3, slot t 4, slot t 5, slot t 6, slot t 7, slot t 8, slot t 9, slot t 10, slot t 11, slot t 12, slot t 13, slot t 14, slot t 15, slot t 16, slot t 17, slot t 18, slot t 19, slot t 20, slot t 21, slot t 22, slot t 23, slot t 24, slot t 25, slot t 26, slot t 27, slot t 28, slot t 29, slot t 30, slot t 31, slot t 32, slot t 33, slot t 34, slot t 35, slot t 36, slot t 37, slot t 38, slot t 39, slot t 40, slot t 41, slot t 42, slot t 43, slot t 44, slot t 45, slot t 46, slot t 47, slot t 48, slot t 49, slot t 50, slot t 51, slot t 52, slot t 53, slot t 54, slot t 55, slot t 56, slot t 57, slot t 58, slot t 59, slot t 60, slot t 61, slot t 62, slot t 63, slot t 64, slot t 65, slot t 66, slot t 67, slot t 68, slot t 69, slot t 70, slot t 71, slot t 72, slot t 73, slot t 74, slot t 75, slot t 76, slot t 77, slot t 78, slot t 79, slot t 80, slot t 81, slot t 82, slot t 83, slot t 84, slot t 85, slot t 86, slot t 87, slot t 88, slot t 89, slot t 90, slot t 91, slot t 92, slot t 93, slot t 94, slot t 95, slot t 96, slot t 97, slot t 98, slot t 99, slot t 100, slot t 101, slot t 102, slot t 103, slot t 104, slot t 105, slot t 106, slot t 107, slot t 108, slot t 109, slot t 110, slot t 111, slot t 112, slot t 113, slot t 114, slot t 115, slot t 116, slot t 117, slot t 118, slot t 119, slot t 120], defers := ds } := by
  have e : t = ((List.range 121).map (slot t)).toArray := by
    apply Array.ext
    · simp [h]
    · intro i h1 h2
      simp [slot, Array.getD, h1]
  rw [range_map121] at e
  exact congrArg (fun x => ({ tmps := x, defers := ds } : Act)) e
def BkM (W0 : World) (Xb Lb Tb : Nat) : Act → World → Prop := fun a W => a.tmps.size = 121 ∧ a.defers = [] ∧ slot a.tmps 14 = .bool false ∧ slot a.tmps 21 = .slice (some ⟨Xb, 0, none⟩) 4 4 ∧ slot a.tmps 22 = .slice (some ⟨Lb, 0, none⟩) 3 3 ∧ slot a.tmps 23 = .slice (some ⟨Tb, 0, none⟩) 3 3 ∧ BkD W0 Xb Lb Tb W
set_option maxHeartbeats 4000000 in
theorem backIs_any (v1 v2 v3 : Value) (n : Int) (l m ch : List Int) (p q r : Int) (W : World) (hn : -9223372036854775808 ≤ n ∧ n ≤ 9223372036854775807) (hl : IntsAt W v1 l) (hm : IntsAt W v2 m) (hch : IntsAt W v3 ch) (hp : -9223372036854775808 ≤ p ∧ p ≤ 9223372036854775807) (hq : -9223372036854775808 ≤ q ∧ q ≤ 9223372036854775807) (hr : -9223372036854775808 ≤ r ∧ r ≤ 9223372036854775807) :
    Calls Tryz.prog 5 #[.int .i64 n, v1, v2, v3, .int .i64 p, .int .i64 q, .int .i64 r] W fun e W' => e = .returned (.bool true) ∧ Below W.heap.size W W' := by
  have HA := hidep (And.intro hl (And.intro hm hch))
  have HR := hidep (And.intro hn (And.intro hp (And.intro hq hr)))
  clear hl hm hch
  go_enter Tryz.func5, Tryz.ntmps5
  go_upto_region 2 with (go_at_call 6; refine (tables_any n _ HR.out.1.1 HR.out.1.2).mono ?_; rintro e w1 ⟨⟨va, vb, vd, vc, vn, ve, vs⟩, T, rfl, hT, hG, hb1⟩; obtain ⟨aa, ac, e0, -, -⟩ := hT.r0.form; obtain ⟨ba, bc, e1, -, -⟩ := hT.r1.form; obtain ⟨da, dc, e2, -, -⟩ := hT.dg.1.form; obtain ⟨ca, cc, e3, -, -⟩ := hT.cp.1.form; obtain ⟨na, nc, e4, -, -⟩ := hT.nm.1.form; obtain ⟨ea, ec, e5, -, -⟩ := hT.en.1.form; obtain ⟨sa, sc, e6, -, -⟩ := hT.sw.1.form; unfold TabV.v; dsimp only at e0 e1 e2 e3 e4 e5 e6 ⊢; subst e0 e1 e2 e3 e4 e5 e6)
  obtain ⟨Bt, hBt⟩ : ∃ B, B = w1.heap.size := ⟨_, rfl⟩
  refine wp_abs (fun X => Below w1.heap.size w1 X ∧ X.heap[Bt]? = some (.cells #[.slice aa T.l0.length ac, .slice ba T.l1.length bc, .slice da T.dg.length dc, .slice ca T.cp.length cc, .slice na T.nm.length nc, .slice ea T.en.length ec, .slice sa T.sw.length sc] 29)) ⟨(Below.refl _ _).alloc (Nat.le_refl _) _, by rw [hBt]; exact heap_alloc_new _ _⟩ ?_
  rintro w2 ⟨hb2, hx2⟩
  rw [← hBt]
  have hT2 := hT.below hb2
  have hbw2 := hb1.trans (hb2.mono hb1.size)
  clear hT hb1 hb2 hBt
  have HA2 := hidep (And.intro (HA.out.1.below hbw2) (And.intro (HA.out.2.1.below hbw2) (And.intro (HA.out.2.2.below hbw2) hbw2)))
  obtain ⟨V, hVe⟩ : ∃ V : TabV, V = ⟨.slice aa T.l0.length ac, .slice ba T.l1.length bc, .slice da T.dg.length dc, .slice ca T.cp.length cc, .slice na T.nm.length nc, .slice ea T.en.length ec, .slice sa T.sw.length sc⟩ := ⟨_, rfl⟩
  rw [← hVe] at hT2
  have HVv := hidep (show V.v = .agg #[.slice aa T.l0.length ac, .slice ba T.l1.length bc, .slice da T.dg.length dc, .slice ca T.cp.length cc, .slice na T.nm.length nc, .slice ea T.en.length ec, .slice sa T.sw.length sc] by rw [hVe]; rfl)
  have HT2 := hidep (And.intro hT2 (And.intro hG (And.intro (tabG_ok hG) (valid_made hG))))
  have HX2 := hidep hx2
  have HVE := hidep hVe
  clear hbw2 hT2 hG hx2 hVe HA
  go_upto_region 3 with (go_at_call 17; refine (syms_any v1 l _ HA2.out.1).mono ?_; rintro e w3 ⟨ua, rfl, ha3, hb3⟩)
  go_upto_region 4 with (go_at_call 17; refine (syms_any v2 m _ (HA2.out.2.1.below hb3)).mono ?_; rintro e w4 ⟨ub, rfl, ha4, hb4⟩)
  have hb24 : Below w2.heap.size w2 w4 := hb3.trans (hb4.mono hb3.size)
  have hsa := (SymsAt.of_own ha3).below hb4
  have hsb := SymsAt.of_own ha4
  obtain ⟨xa, xac, rfl, hxc, hxm⟩ := (Rd.of_own ha3).form
  obtain ⟨xb, xbc, rfl, hyc, hym⟩ := (Rd.of_own ha4).form
  obtain ⟨f0, f1, f2, f3, f4, f5, f6⟩ := tb7 (below_push hb24 HX2.out)
  have hWR := writtenC_any V T (.slice xa (symsZ l).length xac) v3 (symsZ l) ch w4 (HT2.out.1.below hb24) HT2.out.2.2.1 HT2.out.2.2.2 hsa (symsZ_SymOk l) (by have := symsZ_len l; omega) (symsZ_lang l) (HA2.out.2.2.1.below hb24)
  rw [HVv.out] at hWR
  have HWR := hidep hWR
  have H4 := hidep (And.intro hb24 (And.intro hsa hsb))
  clear ha3 hb3 ha4 hb4 hb24 hsa hsb hWR
  go_upto_region 5 with (go_at_call 8; refine HWR.out.mono ?_; rintro e w5 ⟨vcl, C, okw, rfl, hcl, hCl, -, -, hb5⟩)
  have HC5 := hidep (And.intro hcl (And.intro hCl hb5))
  obtain ⟨xl, xlc, hxl, hzc, hzm⟩ := hcl.1.form
  subst hxl
  have hb25 : Below w2.heap.size w2 w5 := H4.out.1.trans (hb5.mono H4.out.1.size)
  have hsa5 := H4.out.2.1.below hb5
  have hsb5 := H4.out.2.2.below hb5
  have hrdA : Rd (w5.alloc (.cells #[] 39)) (· = 39) 2 (.slice xa (symsZ l).length xac) (symsZ l).length (symsC (symsZ l)) := Rd.below hsa5 ((Below.refl _ _).alloc (Nat.le_refl _) _)
  have HRA := hidep hrdA
  have hoE : (w5.alloc (.cells #[] 39)).ownsRow w5.heap.size 39 2 (.slice (some ⟨w5.heap.size, 0, none⟩) 0 0) 0 [] := World.ownsRow_lit w5 #[] 0 (Nat.le_refl _) (by decide) rfl
  have HOE := hidep hoE
  have hzr := aroundZ_rng q 4 (by decide)
  have HAZ := hidep (fun (W : World) => around_any q 4 W HR.out.2.2.1.1 HR.out.2.2.1.2)
  obtain ⟨z, hz⟩ : ∃ z, z = aroundZ q 4 := ⟨_, rfl⟩
  rw [← hz] at hzr HAZ
  have hzw : IntKind.i64.wrap (z - 1) = z - 1 := IntWalk.i64_in _ (by omega)
  obtain ⟨cb, hcb⟩ : ∃ x, x = IntKind.u8.wrap r := ⟨_, rfl⟩
  have hcbr : 0 ≤ cb ∧ cb < 256 := by rw [hcb]; show 0 ≤ r % 256 ∧ r % 256 < 256; omega
  have hcb2 := hcb.symm
  have hoA : ∀ u ∈ symsC (symsZ l), u.oneCell' = true := symsC_one _
  have hlA := symsZ_len l
  clear hrdA hoE hz hcb
  go_upto_region 6 with (first
    | (go_at_call 9; (with_reducible refine (HAZ.out _).mono ?_); rintro e w9 ⟨rfl, rfl⟩)
    | (at_builtin; first
      | (refine wpList_append_rd _ rfl (.tmp 40) (.tmp 41) rfl slSyms w5.heap.size (.slice (some ⟨w5.heap.size, 0, none⟩) 0 0) 0 [] (by kernel_rfl) HOE.out _ _ _ _ rfl HRA.out hoA (by unfold maxLen; omega) (by omega) (by rw [World.size_alloc]; omega) ?_; intro v6 w6 ho6 hg6 hat6 hnl; clear hnl; simp only [Nat.zero_add, List.nil_append] at ho6; have hk6 : w5.heap.size + 1 ≤ w6.heap.size := (by have := hg6.size; rw [World.size_alloc] at this; exact this))
      | (refine wpList_append_rd _ rfl (.tmp 42) (.tmp 49) rfl slSyms w5.heap.size v6 (symsZ l).length (symsC (symsZ l)) (by kernel_rfl) (ho6.alloc _) _ _ _ _ rfl (Rd.fresh w6 #[.int .i64 (z - 1), .int .u8 cb] 39 2 1 rfl (by decide)) (by intro u hu; simp at hu; rcases hu with rfl | rfl <;> rfl) (by unfold maxLen; omega) (by omega) (by rw [World.size_alloc]; omega) ?_; intro v7 w7 ho7 hg7 hat7 hnl; clear hnl)))
  have hb57 : Below w5.heap.size w5 w7 := (((Below.refl _ _).alloc (Nat.le_refl _) (.cells #[] 39)).grown hg6 (by rw [World.size_alloc]; omega) (fun k hk => Nat.le_of_eq (Option.some.inj hk))).trans ((((Below.refl w5.heap.size w6).alloc (by omega) _).grown hg7 (by rw [World.size_alloc]; omega) (fun k hk => (ho6.lt k hk).1)))
  obtain ⟨odd, hodd⟩ : ∃ x, x = symsZ l ++ [(⟨z - 1, cb⟩ : Sym)] := ⟨_, rfl⟩
  have hoddl : odd.length = (symsZ l).length + 1 := by rw [hodd, List.length_append]; rfl
  have hsc : SymsAt w7 v7 odd := by
    refine SymsAt.of_own (base := w5.heap.size) ?_
    rw [hoddl, hodd, symsC_append]
    exact ho7
  have hoddk : SymOk odd := fun x hx => by
    rw [hodd] at hx
    rcases List.mem_append.1 hx with hx | hx
    · exact symsZ_SymOk l x hx
    · rw [List.mem_singleton] at hx
      subst hx
      exact ⟨hcbr.1, hcbr.2, by simp only; omega, by simp only; omega⟩
  obtain ⟨xo, xoc, hxo, -, -⟩ := hsc.form
  subst hxo
  have hlB : (symsZ m).length ≤ 24 := symsZ_len m
  have H7 := hidep (And.intro hb57 (And.intro (hsa5.below hb57) (And.intro (hsb5.below hb57) (And.intro hsc (And.intro hoddk hoddl)))))
  have hb27 : Below w2.heap.size w2 w7 := hb25.trans (hb57.mono hb25.size)
  have HB27 := hidep hb27
  have hcl7 := hcl.below hb57
  have HCL7 := hidep hcl7
  clear hb57 hsc hodd hoddl hoddk ho6 hg6 hat6 ho7 hg7 hat7 hsa5 hsb5 hb25 hcl hb5 hb27 hcl7 hk6
  go_upto_region 7 with (fail)
  obtain ⟨Xb, hXb⟩ : ∃ B, B = w7.heap.size := ⟨_, rfl⟩
  refine wp_abs (fun X => Below w7.heap.size w7 X ∧ X.heap[Xb]? = some (.cells #[.slice xa (symsZ l).length xac, .slice xb (symsZ m).length xbc, .slice xo odd.length xoc, .slice none 0 0] 31)) ⟨(Below.refl _ _).alloc (Nat.le_refl _) _, by rw [hXb]; exact heap_alloc_new _ _⟩ ?_
  rintro w8 ⟨hb8, hx8⟩
  rw [← hXb]
  have H8 := hidep (And.intro hb8 hx8)
  have hl99 : C.length ≤ 1000000 := by omega
  clear hb8 hx8 hXb
  go_upto_region 8 with (go_at_call 11; refine (bentC_any (.slice xl C.length xlc) C p q r _ (HCL7.out.below H8.out.1) hl99 HR.out.2.1.1 HR.out.2.1.2 HR.out.2.2.1.1 HR.out.2.2.1.2 HR.out.2.2.2.1 HR.out.2.2.2.2).mono ?_; rintro e w9 ⟨v9, c9, rfl, hc9, hl9, hb9⟩; obtain ⟨x9, k9, e9, -, -⟩ := hc9.1.form; subst e9)
  obtain ⟨Lb, hLb⟩ : ∃ B, B = w9.heap.size := ⟨_, rfl⟩
  refine wp_abs (fun X => Below w9.heap.size w9 X ∧ X.heap[Lb]? = some (.cells #[.slice xl C.length xlc, .slice x9 c9.length k9, .slice none 0 0] 23)) ⟨(Below.refl _ _).alloc (Nat.le_refl _) _, by rw [hLb]; exact heap_alloc_new _ _⟩ ?_
  rintro wa ⟨hba, hxa⟩
  subst hLb
  have hb7a : Below w7.heap.size w7 wa := H8.out.1.trans ((hb9.trans (hba.mono hb9.size)).mono H8.out.1.size)
  have hb2a : Below w2.heap.size w2 wa := HB27.out.trans (hb7a.mono HB27.out.size)
  have hxXa := below_push (hb9.trans (hba.mono hb9.size)) H8.out.2
  have HD := hidep (And.intro hb2a (And.intro hxXa (And.intro hxa (And.intro (H7.out.2.1.below hb7a) (And.intro (H7.out.2.2.1.below hb7a) (And.intro (H7.out.2.2.2.1.below hb7a) (And.intro (HCL7.out.below hb7a) (hc9.below hba))))))))
  have HSEE := hidep (fun (Z : World) (hZ : Below wa.heap.size wa Z) => tb7 (below_push (hb2a.trans (hZ.mono hb2a.size)) HX2.out))
  have HTW := hidep (fun (Z : World) (hZ : Below wa.heap.size wa Z) => HT2.out.1.below (hb2a.trans (hZ.mono hb2a.size)))
  have HA9 := hidep (fun (W : World) => around_any r 9 W HR.out.2.2.2.1 HR.out.2.2.2.2)
  obtain ⟨z9, hz9⟩ : ∃ z, z = aroundZ r 9 := ⟨_, rfl⟩
  rw [← hz9] at HA9
  obtain ⟨n1, hn1⟩ : ∃ x, IntKind.i64.wrap (n + 1) = x := ⟨_, rfl⟩
  obtain ⟨n2, hn2⟩ : ∃ x, IntKind.i64.wrap (n1 + z9) = x := ⟨_, rfl⟩
  have HTB := hidep (fun (W : World) => tables_any n2 W (by rw [← hn2]; exact (i64w_rng _).1) (by rw [← hn2]; exact (i64w_rng _).2))
  have hlen := And.intro (made_len HT2.out.2.1.l0) (made_len HT2.out.2.1.l1)
  have HBT := hidep (fun (Z : World) (hZ : Below wa.heap.size wa Z) => HVv.out ▸ bentT_any V T p q r Z (HTW.out Z hZ) HT2.out.2.2.1 (by omega) (by omega) (tabG_dg HT2.out.2.1) HR.out.2.1.1 HR.out.2.1.2 HR.out.2.2.1.1 HR.out.2.2.1.2 HR.out.2.2.2.1 HR.out.2.2.2.2)
  have HL := hidep (And.intro hl9 hCl)
  clear hb9 hc9 hba hxa hb7a hb2a hxXa hz9 hlen
  refine wp_join (fun a X => ∃ Lb Tb, BkM w2 Xb Lb Tb a X) ?r8 ?_
  case r8 =>
    intro K' hMK
    go_upto_region 8 with (fail)
    refine wp_region_noPanic (wp_region_held_drew (S := (fun Z => Below wa.heap.size wa Z)) (by kernel_rfl) ?hSz0 (fun hHeld => ?hRz0))
    case hSz0 => ((try dsimp only); (exact (Below.refl _ _).drew))
    refine wpAnyH_take (i := 0) (v := ?vz1) rfl (by kernel_rfl) (by kernel_rfl) (by kernel_rfl) (fun _ _ _ h => h) (Or.inl ⟨by kernel_rfl, ?hyz1⟩) (by assumption) ?hrz1
    case hyz1 => (intro w hSw; (try dsimp only at hSw); (obtain ⟨g0, g1, g2, g3, g4, g5, g6⟩ := HSEE.out _ hSw); first | (go_simp; done) | (go_simp; with_reducible rfl))
    refine wpAnyH_take (i := 1) (v := ?vz2) rfl (by kernel_rfl) (by kernel_rfl) (by kernel_rfl) (fun _ _ _ h => h) (Or.inl ⟨by kernel_rfl, ?hyz2⟩) (by assumption) ?hrz2
    case hyz2 => (intro w hSw; (try dsimp only at hSw); (obtain ⟨g0, g1, g2, g3, g4, g5, g6⟩ := HSEE.out _ hSw); first | (go_simp; done) | (go_simp; with_reducible rfl))
    refine wpAnyH_take (i := 2) (v := ?vz3) rfl (by kernel_rfl) (by kernel_rfl) (by kernel_rfl) (fun _ _ _ h => h) (Or.inl ⟨by kernel_rfl, ?hyz3⟩) (by assumption) ?hrz3
    case hyz3 => (intro w hSw; (try dsimp only at hSw); (obtain ⟨g0, g1, g2, g3, g4, g5, g6⟩ := HSEE.out _ hSw); first | (go_simp; done) | (go_simp; with_reducible rfl))
    refine wpAnyH_take (i := 3) (v := ?vz4) rfl (by kernel_rfl) (by kernel_rfl) (by kernel_rfl) (fun _ _ _ h => h) (Or.inl ⟨by kernel_rfl, ?hyz4⟩) (by assumption) ?hrz4
    case hyz4 => (intro w hSw; (try dsimp only at hSw); (obtain ⟨g0, g1, g2, g3, g4, g5, g6⟩ := HSEE.out _ hSw); first | (go_simp; done) | (go_simp; with_reducible rfl))
    refine wpAnyH_take (i := 7) (v := ?vz5) rfl (by kernel_rfl) (by kernel_rfl) (by kernel_rfl) (fun _ _ _ h => h) (Or.inl ⟨by kernel_rfl, ?hyz5⟩) (by assumption) ?hrz5
    case hyz5 => (intro w hSw; (try dsimp only at hSw); (obtain ⟨g0, g1, g2, g3, g4, g5, g6⟩ := HSEE.out _ hSw); first | (go_simp; done) | (go_simp; with_reducible rfl))
    refine wpAnyH_take (i := 8) (v := ?vz6) rfl (by kernel_rfl) (by kernel_rfl) (by kernel_rfl) (fun _ _ _ h => h) (Or.inl ⟨by kernel_rfl, ?hyz6⟩) (by assumption) ?hrz6
    case hyz6 => (intro w hSw; (try dsimp only at hSw); (obtain ⟨g0, g1, g2, g3, g4, g5, g6⟩ := HSEE.out _ hSw); first | (go_simp; done) | (go_simp; with_reducible rfl))
    refine wpAnyH_take (i := 9) (v := ?vz7) rfl (by kernel_rfl) (by kernel_rfl) (by kernel_rfl) (fun _ _ _ h => h) (Or.inl ⟨by kernel_rfl, ?hyz7⟩) (by assumption) ?hrz7
    case hyz7 => (intro w hSw; (try dsimp only at hSw); (obtain ⟨g0, g1, g2, g3, g4, g5, g6⟩ := HSEE.out _ hSw); first | (go_simp; done) | (go_simp; with_reducible rfl))
    refine wpAnyH_take (i := 10) (v := ?vz8) rfl (by kernel_rfl) (by kernel_rfl) (by kernel_rfl) (fun _ _ _ h => h) (Or.inl ⟨by kernel_rfl, ?hyz8⟩) (by assumption) ?hrz8
    case hyz8 => (intro w hSw; (try dsimp only at hSw); (obtain ⟨g0, g1, g2, g3, g4, g5, g6⟩ := HSEE.out _ hSw); first | (go_simp; done) | (go_simp; with_reducible rfl))
    refine wpAnyH_ready (rs := [4]) (by kernel_rfl) (by simp) (AllReadyH.cons rfl (fun K hK => ?hcz9) AllReadyH.nil)
    go_simp
    (go_at_call 9; (with_reducible refine (HA9.out _).mono ?_); rintro e' w66 ⟨rfl, rfl⟩; have hk9 := hHeld; (try dsimp only))
    refine hK.out _ _ ?hsz9 (fun hHeldz9 => ?htz9)
    case hsz9 => ((try dsimp only); (exact hk9))
    clear hHeld hK
    have hHeld := hHeldz9
    clear hHeldz9
    refine wpAnyH_take (i := 5) (v := ?vz10) rfl (by kernel_rfl) (by kernel_rfl) (by kernel_rfl) (fun _ _ _ h => h) (Or.inl ⟨by kernel_rfl, ?hyz10⟩) (by assumption) ?hrz10
    case hyz10 => (intro w hSw; (try dsimp only at hSw); (obtain ⟨g0, g1, g2, g3, g4, g5, g6⟩ := HSEE.out _ hSw); first | (go_simp; done) | (go_simp; with_reducible rfl))
    refine wpAnyH_ready (rs := [6]) (by kernel_rfl) (by simp) (AllReadyH.cons rfl (fun K hK => ?hcz11) AllReadyH.nil)
    go_simp
    (go_at_call 6; (with_reducible refine (HTB.out _).mono ?_); rintro e' w68 ⟨⟨va, vb, vd, vc, vn, ve, vs⟩, T2, rfl, hT68, hG68, hb68⟩; have hk9 := hHeld.trans (hb68.mono hHeld.size); (first | (have hT73 := hT73.below hb68) | skip); obtain ⟨ya, yac, q0, -, -⟩ := hT68.r0.form; obtain ⟨yb, ybc, q1, -, -⟩ := hT68.r1.form; obtain ⟨yd, ydc, q2, -, -⟩ := hT68.dg.1.form; obtain ⟨yc, ycc, q3, -, -⟩ := hT68.cp.1.form; obtain ⟨yn, ync, q4, -, -⟩ := hT68.nm.1.form; obtain ⟨ye, yec, q5, -, -⟩ := hT68.en.1.form; obtain ⟨ys, ysc, q6, -, -⟩ := hT68.sw.1.form; unfold TabV.v; dsimp only at q0 q1 q2 q3 q4 q5 q6 ⊢; subst q0 q1 q2 q3 q4 q5 q6; (try dsimp only))
    refine hK.out _ _ ?hsz11 (fun hHeldz11 => ?htz11)
    case hsz11 => ((try dsimp only); (exact hk9))
    clear hHeld hK
    have hHeld := hHeldz11
    clear hHeldz11
    refine wpAnyH_ready (rs := [11]) (by kernel_rfl) (by simp) (AllReadyH.cons rfl (fun K hK => ?hcz12) AllReadyH.nil)
    go_simp
    (go_at_call 10; refine (HBT.out _ hHeld).mono ?_; rintro e' w73 ⟨⟨va, vb, vd, vc, vn, ve, vs⟩, T3, rfl, hT73, hok73, hb73⟩; have hk9 := hHeld.trans (hb73.mono hHeld.size); (first | (have hT68 := hT68.below hb73) | skip); obtain ⟨xa, xac, q0, -, -⟩ := hT73.r0.form; obtain ⟨xb, xbc, q1, -, -⟩ := hT73.r1.form; obtain ⟨xd, xdc, q2, -, -⟩ := hT73.dg.1.form; obtain ⟨xc, xcc, q3, -, -⟩ := hT73.cp.1.form; obtain ⟨xn, xnc, q4, -, -⟩ := hT73.nm.1.form; obtain ⟨xe, xec, q5, -, -⟩ := hT73.en.1.form; obtain ⟨xs, xsc, q6, -, -⟩ := hT73.sw.1.form; unfold TabV.v; dsimp only at q0 q1 q2 q3 q4 q5 q6 ⊢; subst q0 q1 q2 q3 q4 q5 q6; (try dsimp only))
    refine hK.out _ _ ?hsz12 (fun hHeldz12 => ?htz12)
    case hsz12 => ((try dsimp only); (exact hk9))
    clear hHeld hK
    have hHeld := hHeldz12
    clear hHeldz12
    refine wpAnyH_ready (rs := [12]) (by kernel_rfl) (by simp) (AllReadyH.cons rfl (fun K hK => ?hcz13) AllReadyH.nil)
    go_simp
    ((first | refine intro_alloc (fun X74 hBX hL74 => ?_) | refine intro_alloc_drew (fun X74 hBX hL74 => ?_)); have hk9 := hHeld.trans (hBX.mono hHeld.size); have hT68 := hT68.below hBX; have hT73 := hT73.below hBX; (try dsimp only))
    refine hK.out _ _ ?hsz13 (fun hHeldz13 => ?htz13)
    case hsz13 => ((try dsimp only); (exact hk9))
    clear hHeld hK
    have hHeld := hHeldz13
    clear hHeldz13
    refine wpAnyH_take (i := 13) (v := ?vz14) rfl (by kernel_rfl) (by kernel_rfl) (by kernel_rfl) (fun _ _ _ h => h) (Or.inl ⟨by kernel_rfl, ?hyz14⟩) (by assumption) ?hrz14
    case hyz14 => (intro w hSw; (try dsimp only at hSw); (obtain ⟨g0, g1, g2, g3, g4, g5, g6⟩ := HSEE.out _ hSw); first | (go_simp; done) | (go_simp; with_reducible rfl))
    refine wpAnyH_done (by kernel_rfl) ?_ _
    clear hHeld
    refine NoPanic.normal ?_
    all_goals
      (try dsimp only [Exit.then])
      have hVe := HVE.out
      have hTf := HTW.out _ hk9
      have hd := HD.out.1.trans (hk9.mono HD.out.1.size)
      have hbk : BkD w2 Xb w9.heap.size _ X74 := bkd_of (V1 := V) (V2 := ⟨_, _, _, _, _, _, _⟩) (V3 := ⟨_, _, _, _, _, _, _⟩) hd (below_push hk9 HD.out.2.1) (below_push hk9 HD.out.2.2.1) (by rw [hVe]; exact hL74) (HD.out.2.2.2.1.below hk9) (HD.out.2.2.2.2.1.below hk9) (HD.out.2.2.2.2.2.1.below hk9) (symsZ_SymOk l) (symsZ_SymOk m) H7.out.2.2.2.2.1 (by omega) (by omega) (by rw [H7.out.2.2.2.2.2]; omega) (HD.out.2.2.2.2.2.2.1.below hk9) (HD.out.2.2.2.2.2.2.2.below hk9) (by have := HL.out.2; omega) (by have := HL.out; omega) hTf hT68 hT73 HT2.out.2.2.1 (tabG_ok hG68) hok73
      have HBK := hidep hbk
      first
        | exact ⟨_, _, by kernel_rfl, by kernel_rfl, by kernel_rfl, by kernel_rfl, by kernel_rfl, by kernel_rfl, HBK.out⟩
        | exact hMK _ _ ⟨_, _, by kernel_rfl, by kernel_rfl, by kernel_rfl, by kernel_rfl, by kernel_rfl, by kernel_rfl, HBK.out⟩
  rintro ⟨tm, ds⟩ X ⟨Lb, Tb, hts, hds, e14, e21, e22, e23, hD⟩
  dsimp only at hts hds e14 e21 e22 e23
  subst hds
  rw [frame121 tm _ hts, e14, e21, e22, e23]
  have HDX := hidep hD
  clear e14 e21 e22 e23 hts hD HA9 HTB HBT HTW HSEE HL hn1 hn2 hlA hlB hxc hxm hyc hym hzc hzm hcb2 hcbr hzr hzw f0 f1 f2 f3 f4 f5 f6 hl99 HWR HAZ
  (try apply_assumption)
  go_upto_region 10 with (fail)
  refine wp_loop (LoopI 121 (fun tm ds wr => (slot tm 14) = .bool false ∧ (slot tm 21) = .slice (some ⟨Xb, 0, none⟩) 4 4 ∧ (slot tm 22) = .slice (some ⟨Lb, 0, none⟩) 3 3 ∧ (slot tm 23) = .slice (some ⟨Tb, 0, none⟩) 3 3 ∧ ds = [] ∧ LpI w2 Xb Lb Tb 4 (slot tm 24) wr)) (fun a' wr => 4 - natI (a'.tmps.getD 24 undef)) ?liStart ?liRound
  case' liStart => refine LoopI.mk rfl ?_
  case' liRound => (rintro ⟨t, ds⟩ wr ⟨hts, hrel⟩; dsimp only at hts hrel; rw [frame121 t ds hts])
  case liStart => exact ⟨rfl, rfl, rfl, rfl, rfl, 0, by decide, rfl, HDX.out⟩
  obtain ⟨e14, e21, e22, e23, hds, i, hi, e24, hD⟩ := hrel
  subst hds
  rw [e14, e21, e22, e23, e24]
  clear e14 e21 e22 e23 e24 hts HDX
  have HDI := hidep hD
  clear hD
  have hiw : IntKind.i64.wrap ((i : Int) + 1) = (i : Int) + 1 := IntWalk.i64_in _ (by omega)
  by_cases hi4 : i < 4
  · have hiI : (i : Int) < 4 := by omega
    obtain ⟨wi, hwi⟩ : ∃ wo : World, wo = wr := ⟨_, rfl⟩
    rw [← hwi] at HDI ⊢
    clear hwi
    go_upto_region 13 with (fail)
    refine wp_loop (LoopI 121 (fun tm ds wr => (slot tm 14) = .bool false ∧ (slot tm 21) = .slice (some ⟨Xb, 0, none⟩) 4 4 ∧ (slot tm 22) = .slice (some ⟨Lb, 0, none⟩) 3 3 ∧ (slot tm 23) = .slice (some ⟨Tb, 0, none⟩) 3 3 ∧ (slot tm 24) = .int .i64 (i : Nat) ∧ ds = [] ∧ LpI w2 Xb Lb Tb 3 (slot tm 25) wr)) (fun a' wr => 3 - natI (a'.tmps.getD 25 undef)) ?lkStart ?lkRound
    case' lkStart => refine LoopI.mk rfl ?_
    case' lkRound => (rintro ⟨t, ds⟩ wr ⟨hts, hrel⟩; dsimp only at hts hrel; rw [frame121 t ds hts])
    case lkStart => exact ⟨rfl, rfl, rfl, rfl, rfl, rfl, 0, by decide, rfl, HDI.out⟩
    obtain ⟨e14, e21, e22, e23, e24, hds, k, hk, e25, hD⟩ := hrel
    subst hds
    rw [e14, e21, e22, e23, e24, e25]
    clear e14 e21 e22 e23 e24 e25 hts HDI
    have HDK := hidep hD
    clear hD
    have hkw : IntKind.i64.wrap ((k : Int) + 1) = (k : Int) + 1 := IntWalk.i64_in _ (by omega)
    by_cases hk3 : k < 3
    · have hkI : (k : Int) < 3 := by omega
      obtain ⟨wk, hwk⟩ : ∃ wo : World, wo = wr := ⟨_, rfl⟩
      rw [← hwk] at HDK ⊢
      clear hwk
      go_upto_region 16 with (fail)
      refine wp_loop (LoopI 121 (fun tm ds wr => (slot tm 14) = .bool false ∧ (slot tm 21) = .slice (some ⟨Xb, 0, none⟩) 4 4 ∧ (slot tm 22) = .slice (some ⟨Lb, 0, none⟩) 3 3 ∧ (slot tm 23) = .slice (some ⟨Tb, 0, none⟩) 3 3 ∧ (slot tm 24) = .int .i64 (i : Nat) ∧ (slot tm 25) = .int .i64 (k : Nat) ∧ ds = [] ∧ LpI w2 Xb Lb Tb 3 (slot tm 26) wr)) (fun a' wr => 3 - natI (a'.tmps.getD 26 undef)) ?ljStart ?ljRound
      case' ljStart => refine LoopI.mk rfl ?_
      case' ljRound => (rintro ⟨t, ds⟩ wr ⟨hts, hrel⟩; dsimp only at hts hrel; rw [frame121 t ds hts])
      case ljStart => exact ⟨rfl, rfl, rfl, rfl, rfl, rfl, rfl, 0, by decide, rfl, HDK.out⟩
      obtain ⟨e14, e21, e22, e23, e24, e25, hds, j, hj, e26, hD⟩ := hrel
      subst hds
      rw [e14, e21, e22, e23, e24, e25, e26]
      clear e14 e21 e22 e23 e24 e25 e26 hts HDK
      have HDJ := hidep hD
      have hjw : IntKind.i64.wrap ((j : Int) + 1) = (j : Int) + 1 := IntWalk.i64_in _ (by omega)
      by_cases hj3 : j < 3
      · have hjI : (j : Int) < 3 := by omega
        obtain ⟨xa1, xn1, xc1, tl, hx1, hx2, hx3, hx4⟩ := hD.tx i hi4
        obtain ⟨ya1, yn1, yc1, tc, hy1, hy2, hy3⟩ := hD.cl k hk3
        obtain ⟨V2, T2, ⟨g0, g1, g2, g3, g4, g5, g6⟩, hT2, hok2⟩ := hD.tb j hj3
        obtain ⟨B, hB⟩ : ∃ B : Bool, B = (decide (validE T2 = 0) && (tl.all goodB && (decide (tl.length ≤ 2048) && (decide (tc.length ≤ 8192) && isZ T2 tl tc)))) := ⟨_, rfl⟩
        have HIC := hidep (show ∀ Z : World, Below wr.heap.size wr Z → Calls Tryz.prog 20 #[.agg #[V2.a, V2.b, V2.d, V2.c, V2.n, V2.e, V2.s], .slice xa1 xn1 xc1, .slice ya1 yn1 yc1] Z (fun e w' => e = .returned (.bool B) ∧ Below Z.heap.size Z w') from fun Z hZ => hB ▸ isTopC_any V2 T2 _ _ tl tc Z (hT2.below hZ) hok2 (hx2.below hZ) hx3 (hy2.below hZ))
        have HIR := hidep (show ∀ Z : World, Below wr.heap.size wr Z → Calls Tryz.prog 21 #[.agg #[V2.a, V2.b, V2.d, V2.c, V2.n, V2.e, V2.s], .slice xa1 xn1 xc1, .slice ya1 yn1 yc1] Z (fun e w' => e = .returned (.bool B) ∧ Below Z.heap.size Z w') from fun Z hZ => hB ▸ isTop_any V2 T2 _ _ tl tc Z (hT2.below hZ) hok2 (hx2.below hZ) hx3 hx4 (hy2.below hZ) hy3)
        have hlx := hD.lx
        have hll := hD.ll
        have hlt := hD.lt
        have HSEE := hidep (show ∀ Z : World, Below wr.heap.size wr Z → Z.cell? ⟨Xb, i, none⟩ = some (.slice xa1 xn1 xc1) ∧ Z.cell? ⟨Lb, k, none⟩ = some (.slice ya1 yn1 yc1) ∧ Z.cell? ⟨Tb, j * 7, none⟩ = some V2.a ∧ Z.cell? ⟨Tb, j * 7 + 1, none⟩ = some V2.b ∧ Z.cell? ⟨Tb, j * 7 + 2, none⟩ = some V2.d ∧ Z.cell? ⟨Tb, j * 7 + 3, none⟩ = some V2.c ∧ Z.cell? ⟨Tb, j * 7 + 4, none⟩ = some V2.n ∧ Z.cell? ⟨Tb, j * 7 + 5, none⟩ = some V2.e ∧ Z.cell? ⟨Tb, j * 7 + 6, none⟩ = some V2.s from fun Z hZ => ⟨(hZ.cell (p := ⟨Xb, i, none⟩) hlx).trans hx1, (hZ.cell (p := ⟨Lb, k, none⟩) hll).trans hy1, (hZ.cell (p := ⟨Tb, _, none⟩) hlt).trans g0, (hZ.cell (p := ⟨Tb, _, none⟩) hlt).trans g1, (hZ.cell (p := ⟨Tb, _, none⟩) hlt).trans g2, (hZ.cell (p := ⟨Tb, _, none⟩) hlt).trans g3, (hZ.cell (p := ⟨Tb, _, none⟩) hlt).trans g4, (hZ.cell (p := ⟨Tb, _, none⟩) hlt).trans g5, (hZ.cell (p := ⟨Tb, _, none⟩) hlt).trans g6⟩)
        clear hD hx1 hx2 hx3 hx4 hy1 hy2 hy3 g0 g1 g2 g3 g4 g5 g6 hT2 hok2 hB hlx hll hlt
        go_upto_region 18 with (fail)
        refine wp_region_noPanic (wp_region_held_drew (S := (fun Z => Below wr.heap.size wr Z)) (by kernel_rfl) ?hSz15 (fun hHeld => ?hRz15))
        case hSz15 => ((try dsimp only); (exact (Below.refl _ _).drew))
        refine wpAnyH_take (i := 0) (v := ?vz16) rfl (by kernel_rfl) (by kernel_rfl) (by kernel_rfl) (fun _ _ _ h => h) (Or.inl ⟨by kernel_rfl, ?hyz16⟩) (by assumption) ?hrz16
        case hyz16 => (intro w hSw; (try dsimp only at hSw); (obtain ⟨hx1, hy1, g0, g1, g2, g3, g4, g5, g6⟩ := HSEE.out _ hSw); first | (go_simp; done) | (go_simp; with_reducible rfl))
        refine wpAnyH_take (i := 1) (v := ?vz17) rfl (by kernel_rfl) (by kernel_rfl) (by kernel_rfl) (fun _ _ _ h => h) (Or.inl ⟨by kernel_rfl, ?hyz17⟩) (by assumption) ?hrz17
        case hyz17 => (intro w hSw; (try dsimp only at hSw); (obtain ⟨hx1, hy1, g0, g1, g2, g3, g4, g5, g6⟩ := HSEE.out _ hSw); first | (go_simp; done) | (go_simp; with_reducible rfl))
        refine wpAnyH_take (i := 2) (v := ?vz18) rfl (by kernel_rfl) (by kernel_rfl) (by kernel_rfl) (fun _ _ _ h => h) (Or.inl ⟨by kernel_rfl, ?hyz18⟩) (by assumption) ?hrz18
        case hyz18 => (intro w hSw; (try dsimp only at hSw); (obtain ⟨hx1, hy1, g0, g1, g2, g3, g4, g5, g6⟩ := HSEE.out _ hSw); first | (go_simp; done) | (go_simp; with_reducible rfl))
        refine wpAnyH_take (i := 3) (v := ?vz19) rfl (by kernel_rfl) (by kernel_rfl) (by kernel_rfl) (fun _ _ _ h => h) (Or.inl ⟨by kernel_rfl, ?hyz19⟩) (by assumption) ?hrz19
        case hyz19 => (intro w hSw; (try dsimp only at hSw); (obtain ⟨hx1, hy1, g0, g1, g2, g3, g4, g5, g6⟩ := HSEE.out _ hSw); first | (go_simp; done) | (go_simp; with_reducible rfl))
        refine wpAnyH_take (i := 4) (v := ?vz20) rfl (by kernel_rfl) (by kernel_rfl) (by kernel_rfl) (fun _ _ _ h => h) (Or.inl ⟨by kernel_rfl, ?hyz20⟩) (by assumption) ?hrz20
        case hyz20 => (intro w hSw; (try dsimp only at hSw); (obtain ⟨hx1, hy1, g0, g1, g2, g3, g4, g5, g6⟩ := HSEE.out _ hSw); first | (go_simp; done) | (go_simp; with_reducible rfl))
        refine wpAnyH_take (i := 5) (v := ?vz21) rfl (by kernel_rfl) (by kernel_rfl) (by kernel_rfl) (fun _ _ _ h => h) (Or.inl ⟨by kernel_rfl, ?hyz21⟩) (by assumption) ?hrz21
        case hyz21 => (intro w hSw; (try dsimp only at hSw); (obtain ⟨hx1, hy1, g0, g1, g2, g3, g4, g5, g6⟩ := HSEE.out _ hSw); first | (go_simp; done) | (go_simp; with_reducible rfl))
        refine wpAnyH_take (i := 6) (v := ?vz22) rfl (by kernel_rfl) (by kernel_rfl) (by kernel_rfl) (fun _ _ _ h => h) (Or.inl ⟨by kernel_rfl, ?hyz22⟩) (by assumption) ?hrz22
        case hyz22 => (intro w hSw; (try dsimp only at hSw); (obtain ⟨hx1, hy1, g0, g1, g2, g3, g4, g5, g6⟩ := HSEE.out _ hSw); first | (go_simp; done) | (go_simp; with_reducible rfl))
        refine wpAnyH_take (i := 7) (v := ?vz23) rfl (by kernel_rfl) (by kernel_rfl) (by kernel_rfl) (fun _ _ _ h => h) (Or.inl ⟨by kernel_rfl, ?hyz23⟩) (by assumption) ?hrz23
        case hyz23 => (intro w hSw; (try dsimp only at hSw); (obtain ⟨hx1, hy1, g0, g1, g2, g3, g4, g5, g6⟩ := HSEE.out _ hSw); first | (go_simp; done) | (go_simp; with_reducible rfl))
        refine wpAnyH_take (i := 8) (v := ?vz24) rfl (by kernel_rfl) (by kernel_rfl) (by kernel_rfl) (fun _ _ _ h => h) (Or.inl ⟨by kernel_rfl, ?hyz24⟩) (by assumption) ?hrz24
        case hyz24 => (intro w hSw; (try dsimp only at hSw); (obtain ⟨hx1, hy1, g0, g1, g2, g3, g4, g5, g6⟩ := HSEE.out _ hSw); first | (go_simp; done) | (go_simp; with_reducible rfl))
        refine wpAnyH_take (i := 9) (v := ?vz25) rfl (by kernel_rfl) (by kernel_rfl) (by kernel_rfl) (fun _ _ _ h => h) (Or.inl ⟨by kernel_rfl, ?hyz25⟩) (by assumption) ?hrz25
        case hyz25 => (intro w hSw; (try dsimp only at hSw); (obtain ⟨hx1, hy1, g0, g1, g2, g3, g4, g5, g6⟩ := HSEE.out _ hSw); first | (go_simp; done) | (go_simp; with_reducible rfl))
        refine wpAnyH_take (i := 10) (v := ?vz26) rfl (by kernel_rfl) (by kernel_rfl) (by kernel_rfl) (fun _ _ _ h => h) (Or.inl ⟨by kernel_rfl, ?hyz26⟩) (by assumption) ?hrz26
        case hyz26 => (intro w hSw; (try dsimp only at hSw); (obtain ⟨hx1, hy1, g0, g1, g2, g3, g4, g5, g6⟩ := HSEE.out _ hSw); first | (go_simp; done) | (go_simp; with_reducible rfl))
        refine wpAnyH_take (i := 11) (v := ?vz27) rfl (by kernel_rfl) (by kernel_rfl) (by kernel_rfl) (fun _ _ _ h => h) (Or.inl ⟨by kernel_rfl, ?hyz27⟩) (by assumption) ?hrz27
        case hyz27 => (intro w hSw; (try dsimp only at hSw); (obtain ⟨hx1, hy1, g0, g1, g2, g3, g4, g5, g6⟩ := HSEE.out _ hSw); first | (go_simp; done) | (go_simp; with_reducible rfl))
        refine wpAnyH_take (i := 13) (v := ?vz28) rfl (by kernel_rfl) (by kernel_rfl) (by kernel_rfl) (fun _ _ _ h => h) (Or.inl ⟨by kernel_rfl, ?hyz28⟩) (by assumption) ?hrz28
        case hyz28 => (intro w hSw; (try dsimp only at hSw); (obtain ⟨hx1, hy1, g0, g1, g2, g3, g4, g5, g6⟩ := HSEE.out _ hSw); first | (go_simp; done) | (go_simp; with_reducible rfl))
        refine wpAnyH_take (i := 14) (v := ?vz29) rfl (by kernel_rfl) (by kernel_rfl) (by kernel_rfl) (fun _ _ _ h => h) (Or.inl ⟨by kernel_rfl, ?hyz29⟩) (by assumption) ?hrz29
        case hyz29 => (intro w hSw; (try dsimp only at hSw); (obtain ⟨hx1, hy1, g0, g1, g2, g3, g4, g5, g6⟩ := HSEE.out _ hSw); first | (go_simp; done) | (go_simp; with_reducible rfl))
        refine wpAnyH_take (i := 15) (v := ?vz30) rfl (by kernel_rfl) (by kernel_rfl) (by kernel_rfl) (fun _ _ _ h => h) (Or.inl ⟨by kernel_rfl, ?hyz30⟩) (by assumption) ?hrz30
        case hyz30 => (intro w hSw; (try dsimp only at hSw); (obtain ⟨hx1, hy1, g0, g1, g2, g3, g4, g5, g6⟩ := HSEE.out _ hSw); first | (go_simp; done) | (go_simp; with_reducible rfl))
        refine wpAnyH_take (i := 16) (v := ?vz31) rfl (by kernel_rfl) (by kernel_rfl) (by kernel_rfl) (fun _ _ _ h => h) (Or.inl ⟨by kernel_rfl, ?hyz31⟩) (by assumption) ?hrz31
        case hyz31 => (intro w hSw; (try dsimp only at hSw); (obtain ⟨hx1, hy1, g0, g1, g2, g3, g4, g5, g6⟩ := HSEE.out _ hSw); first | (go_simp; done) | (go_simp; with_reducible rfl))
        refine wpAnyH_take (i := 17) (v := ?vz32) rfl (by kernel_rfl) (by kernel_rfl) (by kernel_rfl) (fun _ _ _ h => h) (Or.inl ⟨by kernel_rfl, ?hyz32⟩) (by assumption) ?hrz32
        case hyz32 => (intro w hSw; (try dsimp only at hSw); (obtain ⟨hx1, hy1, g0, g1, g2, g3, g4, g5, g6⟩ := HSEE.out _ hSw); first | (go_simp; done) | (go_simp; with_reducible rfl))
        refine wpAnyH_take (i := 18) (v := ?vz33) rfl (by kernel_rfl) (by kernel_rfl) (by kernel_rfl) (fun _ _ _ h => h) (Or.inl ⟨by kernel_rfl, ?hyz33⟩) (by assumption) ?hrz33
        case hyz33 => (intro w hSw; (try dsimp only at hSw); (obtain ⟨hx1, hy1, g0, g1, g2, g3, g4, g5, g6⟩ := HSEE.out _ hSw); first | (go_simp; done) | (go_simp; with_reducible rfl))
        refine wpAnyH_take (i := 19) (v := ?vz34) rfl (by kernel_rfl) (by kernel_rfl) (by kernel_rfl) (fun _ _ _ h => h) (Or.inl ⟨by kernel_rfl, ?hyz34⟩) (by assumption) ?hrz34
        case hyz34 => (intro w hSw; (try dsimp only at hSw); (obtain ⟨hx1, hy1, g0, g1, g2, g3, g4, g5, g6⟩ := HSEE.out _ hSw); first | (go_simp; done) | (go_simp; with_reducible rfl))
        refine wpAnyH_take (i := 20) (v := ?vz35) rfl (by kernel_rfl) (by kernel_rfl) (by kernel_rfl) (fun _ _ _ h => h) (Or.inl ⟨by kernel_rfl, ?hyz35⟩) (by assumption) ?hrz35
        case hyz35 => (intro w hSw; (try dsimp only at hSw); (obtain ⟨hx1, hy1, g0, g1, g2, g3, g4, g5, g6⟩ := HSEE.out _ hSw); first | (go_simp; done) | (go_simp; with_reducible rfl))
        refine wpAnyH_take (i := 21) (v := ?vz36) rfl (by kernel_rfl) (by kernel_rfl) (by kernel_rfl) (fun _ _ _ h => h) (Or.inl ⟨by kernel_rfl, ?hyz36⟩) (by assumption) ?hrz36
        case hyz36 => (intro w hSw; (try dsimp only at hSw); (obtain ⟨hx1, hy1, g0, g1, g2, g3, g4, g5, g6⟩ := HSEE.out _ hSw); first | (go_simp; done) | (go_simp; with_reducible rfl))
        refine wpAnyH_take (i := 22) (v := ?vz37) rfl (by kernel_rfl) (by kernel_rfl) (by kernel_rfl) (fun _ _ _ h => h) (Or.inl ⟨by kernel_rfl, ?hyz37⟩) (by assumption) ?hrz37
        case hyz37 => (intro w hSw; (try dsimp only at hSw); (obtain ⟨hx1, hy1, g0, g1, g2, g3, g4, g5, g6⟩ := HSEE.out _ hSw); first | (go_simp; done) | (go_simp; with_reducible rfl))
        refine wpAnyH_take (i := 23) (v := ?vz38) rfl (by kernel_rfl) (by kernel_rfl) (by kernel_rfl) (fun _ _ _ h => h) (Or.inl ⟨by kernel_rfl, ?hyz38⟩) (by assumption) ?hrz38
        case hyz38 => (intro w hSw; (try dsimp only at hSw); (obtain ⟨hx1, hy1, g0, g1, g2, g3, g4, g5, g6⟩ := HSEE.out _ hSw); first | (go_simp; done) | (go_simp; with_reducible rfl))
        refine wpAnyH_take (i := 24) (v := ?vz39) rfl (by kernel_rfl) (by kernel_rfl) (by kernel_rfl) (fun _ _ _ h => h) (Or.inl ⟨by kernel_rfl, ?hyz39⟩) (by assumption) ?hrz39
        case hyz39 => (intro w hSw; (try dsimp only at hSw); (obtain ⟨hx1, hy1, g0, g1, g2, g3, g4, g5, g6⟩ := HSEE.out _ hSw); first | (go_simp; done) | (go_simp; with_reducible rfl))
        refine wpAnyH_ready (rs := [12]) (by kernel_rfl) (by simp) (AllReadyH.cons rfl (fun K hK => ?hcz40) AllReadyH.nil)
        go_simp
        (go_at_call 20; (with_reducible refine (HIC.out _ hHeld).mono ?_); rintro e' w9 ⟨rfl, hb9⟩; have hk9 := hHeld.trans (hb9.mono hHeld.size); (try dsimp only))
        refine hK.out _ _ ?hsz40 (fun hHeldz40 => ?htz40)
        case hsz40 => ((try dsimp only); (exact hk9))
        clear hHeld hK
        have hHeld := hHeldz40
        clear hHeldz40
        refine wpAnyH_ready (rs := [25]) (by kernel_rfl) (by simp) (AllReadyH.cons rfl (fun K hK => ?hcz41) AllReadyH.nil)
        go_simp
        (go_at_call 21; (with_reducible refine (HIR.out _ hHeld).mono ?_); rintro e' w9 ⟨rfl, hb9⟩; have hk9 := hHeld.trans (hb9.mono hHeld.size); (try dsimp only))
        refine hK.out _ _ ?hsz41 (fun hHeldz41 => ?htz41)
        case hsz41 => ((try dsimp only); (exact hk9))
        clear hHeld hK
        have hHeld := hHeldz41
        clear hHeldz41
        refine wpAnyH_take (i := 26) (v := ?vz42) rfl (by kernel_rfl) (by kernel_rfl) (by kernel_rfl) (fun _ _ _ h => h) (Or.inl ⟨by kernel_rfl, ?hyz42⟩) (by assumption) ?hrz42
        case hyz42 => (intro w hSw; (try dsimp only at hSw); (obtain ⟨hx1, hy1, g0, g1, g2, g3, g4, g5, g6⟩ := HSEE.out _ hSw); first | (go_simp; done) | (go_simp; with_reducible rfl))
        refine wpAnyH_done (by kernel_rfl) ?_ _
        clear hHeld
        refine NoPanic.normal ?_
        all_goals
          (try dsimp only [Exit.then])
          have HBK := hidep (HDJ.out.below hk9)
          clear HSEE HIC HIR HDJ
          go_wp2
          refine ⟨LoopI.mk (by kernel_rfl) ⟨by kernel_rfl, by kernel_rfl, by kernel_rfl, by kernel_rfl, by kernel_rfl, by kernel_rfl, rfl, j + 1, by omega, by kernel_rfl, HBK.out⟩, ?_⟩
          show 3 - _ < 3 - _
          simp [natI]; omega
      · have hjI : ¬ (j : Int) < 3 := by omega
        clear hD
        go_wp2
        refine ⟨LoopI.mk (by kernel_rfl) ⟨by kernel_rfl, by kernel_rfl, by kernel_rfl, by kernel_rfl, by kernel_rfl, rfl, k + 1, by omega, by kernel_rfl, HDJ.out⟩, ?_⟩
        show 3 - _ < 3 - _
        simp [natI]; omega
    · have hkI : ¬ (k : Int) < 3 := by omega
      go_wp2
      refine ⟨LoopI.mk (by kernel_rfl) ⟨by kernel_rfl, by kernel_rfl, by kernel_rfl, by kernel_rfl, rfl, i + 1, by omega, by kernel_rfl, HDK.out⟩, ?_⟩
      show 4 - _ < 4 - _
      simp [natI]; omega
  · have hiI : ¬ (i : Int) < 4 := by omega
    have HW2 := hidep (HA2.out.2.2.2.trans (HDI.out.low.mono HA2.out.2.2.2.size))
    go_wp2_with (go_at_call 19; refine (lives_any _).mono ?_; rintro e w9 ⟨rfl, hb9⟩)
    go_ret
    exact ⟨rfl, HW2.out.trans (hb9.mono HW2.out.size)⟩
end Go.Proofs.YtcfjepcflanjbaaGreat
