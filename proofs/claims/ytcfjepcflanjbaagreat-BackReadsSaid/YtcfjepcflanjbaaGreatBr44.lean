/- Contract: the maker of changed tables. -/
import Derived.Test.YtcfjepcflanjbaaGreatBr02
import Derived.Test.YtcfjepcflanjbaaGreatBr11
import Derived.Test.YtcfjepcflanjbaaGreatBr24
import Derived.Test.YtcfjepcflanjbaaGreatBr25
import Derived.Test.YtcfjepcflanjbaaGreatBr43
namespace Go.Proofs.YtcfjepcflanjbaaGreat
open Go.RowKit Go.Lab Go.Shelf
set_option maxRecDepth 100000
def BtM (w : World) (Bt Br B k : Nat) (v : Value) : Act -> World -> Prop := fun a W => a.tmps.size = 179 /\ a.defers = [] /\ slot a.tmps 4 = .pointer (some ⟨Bt, 0, none⟩) /\ slot a.tmps 8 = .pointer (some ⟨Br, 0, none⟩) /\ slot a.tmps 9 = .int .i64 (k : Nat) /\ slot a.tmps 10 = v /\ MdT w Bt Br B v W
def Bt8 (b m y : Int) (Bt Br k i : Nat) (v : Value) (w1 : World) : Act -> World -> Prop := fun a W => a.tmps.size = 179 /\ a.defers = [] /\ slot a.tmps 3 = .int .i64 b /\ slot a.tmps 4 = .pointer (some ⟨Bt, 0, none⟩) /\ slot a.tmps 8 = .pointer (some ⟨Br, 0, none⟩) /\ slot a.tmps 9 = .int .i64 (k : Nat) /\ slot a.tmps 10 = v /\ slot a.tmps 11 = .int .i64 (i : Nat) /\ slot a.tmps 12 = .int .u8 y /\ slot a.tmps 36 = .int .i64 m /\ W = w1
set_option maxHeartbeats 4000000 in
theorem bentT_any (V : TabV) (T : TabZ) (a h b : Int) (w : World) (hT : TabIn w V T) (hok : TabOk T) (hs0 : T.l0.length <= 1000) (hs1 : T.l1.length <= 1000) (hdg : 0 < T.dg.length /\ T.dg.length <= 1000) (ha1 : -9223372036854775808 <= a) (ha2 : a <= 9223372036854775807) (hh1 : -9223372036854775808 <= h) (hh2 : h <= 9223372036854775807) (hb1 : -9223372036854775808 <= b) (hb2 : b <= 9223372036854775807) :
    Calls Tryz.prog 10 #[V.v, .int .i64 a, .int .i64 h, .int .i64 b] w fun e w' => BtP w e w' := by
  have HT := hidep hT
  have HOK := hidep hok
  obtain ⟨da, dc, hd, _, _⟩ := hT.dg.1.form
  obtain ⟨ca, cc, hc, _, _⟩ := hT.cp.1.form
  obtain ⟨na, nc, hn, _, _⟩ := hT.nm.1.form
  obtain ⟨ea, ec, he, _, _⟩ := hT.en.1.form
  obtain ⟨sa, sc, hs, _, _⟩ := hT.sw.1.form
  have HVF := hidep (And.intro hd (And.intro hc (And.intro hn (And.intro he hs))))
  obtain ⟨k, hk⟩ : ∃ k : Nat, (k : Int) = zqd a 2 := ⟨(zqd a 2).toNat, by have := zqe a 2 (by omega); omega⟩
  have hk2 : k < 2 := by have := zqe a 2 (by omega); omega
  have HAK := hidep (fun (W : World) => zq14 a 2 W ha1 ha2)
  rw [<- hk] at HAK
  have HL := hidep (And.intro hs0 (And.intro hs1 hdg))
  have hkI : (k : Int) < 2 := by omega
  have hkI0 : (0 : Int) <= (k : Int) := by omega
  clear hT hok hd hc hn he hs hs0 hs1 hk hdg
  go_enter Tryz.func10, Tryz.ntmps10
  go_upto_region 1 with (fail)
  have hab : BtB w V w.heap.size (w.heap.size + 1) ((w.alloc (.cells #[V.a, V.b, V.d, V.c, V.n, V.e, V.s] 29)).alloc (.cells #[.slice none 0 0, .slice none 0 0, .slice none 0 0, .slice none 0 0, .slice none 0 0, .slice none 0 0, .slice none 0 0] 29)) := by
    refine ⟨((Below.refl _ _).alloc (Nat.le_refl _) _).alloc (by rw [World.size_alloc]; omega) _, zq0 ((Below.refl _ _).alloc (Nat.le_refl _) _) (heap_alloc_new _ _), ?_⟩
    have := heap_alloc_new (w.alloc (.cells #[V.a, V.b, V.d, V.c, V.n, V.e, V.s] 29)) (.cells #[.slice none 0 0, .slice none 0 0, .slice none 0 0, .slice none 0 0, .slice none 0 0, .slice none 0 0, .slice none 0 0] 29)
    rw [World.size_alloc] at this
    exact this
  refine zq9 (fun X => BtB w V w.heap.size (w.heap.size + 1) X) hab ?_
  clear hab
  obtain ⟨Br, hBr⟩ : ∃ B, B = w.heap.size + 1 := ⟨_, rfl⟩
  obtain ⟨Bt, hBt⟩ : ∃ B, B = w.heap.size := ⟨_, rfl⟩
  rw [<- hBr, <- hBt]
  have HB := hidep (And.intro hBt hBr)
  clear hBt hBr
  intro X hX
  obtain ⟨va, vc, hcell, hL, hLc, hLm, hok, hn⟩ : ∃ va vc, X.cell? ⟨Bt, k, none⟩ = some (.slice va (T.at k).length vc) /\ RulesAt w (.slice va (T.at k).length vc) (T.at k) /\ (T.at k).length <= vc /\ vc <= maxLen /\ (∀ r ∈ T.at k, zq3e r) /\ (T.at k).length <= 1000 := by
    have hd : X.cell? ⟨Bt, k, none⟩ = #[V.a, V.b, V.d, V.c, V.n, V.e, V.s][k]? := by simp [World.cell?, hX.2.1]
    rw [hd]
    rcases (by omega : k = 0 \/ k = 1) with rfl | rfl
    · obtain ⟨a', c', e, h1, h2⟩ := HT.out.r0.form
      refine ⟨a', c', by rw [<- show V.a = Value.slice a' (T.at 0).length c' from e]; rfl, by rw [<- show V.a = Value.slice a' (T.at 0).length c' from e]; exact HT.out.r0, h1, h2, HOK.out.r0, HL.out.1⟩
    · obtain ⟨a', c', e, h1, h2⟩ := HT.out.r1.form
      refine ⟨a', c', by rw [<- show V.b = Value.slice a' (T.at 1).length c' from e]; rfl, by rw [<- show V.b = Value.slice a' (T.at 1).length c' from e]; exact HT.out.r1, h1, h2, HOK.out.r1, HL.out.2.1⟩
  obtain ⟨L, hLe⟩ : ∃ L, L = T.at k := ⟨_, rfl⟩
  rw [<- hLe] at hcell hL hLc hok hn
  obtain ⟨n, hne⟩ : ∃ n, n = L.length := ⟨_, rfl⟩
  rw [<- hne] at hcell hLc hn
  obtain ⟨us, hus, hrd, hbys⟩ := hL
  rw [<- hne] at hus hrd
  have hone := zqb1 L us (fun u hu => by
    obtain ⟨i, hi, rfl⟩ := List.getElem_of_mem hu
    obtain ⟨a', c', e, _⟩ := (hbys i (by omega) hi).1.form
    rw [e]
    rfl)
  have hrdX := hrd.below hX.1
  have HRDX := hidep hrdX
  have HXX := hidep hX
  have HE := hidep (And.intro hLe (And.intro hne (And.intro hus (And.intro hbys hok))))
  unfold maxLen at hLm
  clear hrd hrdX hbys hus hX hLe hne hok
  go_upto_region 3 with (go_at_call 9; refine (HAK.out _).mono ?_; rintro e w5 ⟨rfl, rfl⟩)
  go_upto_region 4 with (at_builtin; go_loud (refine zq4 _ rfl _ _ rfl zq36 X.heap.size (.slice none 0 0) 0 [] rfl (World.ownsRow_nil _ _ _ _) _ _ _ _ rfl HRDX.out hone (by unfold maxLen; omega) (by omega) (Nat.le_refl _) ?_; intro v1 w1 ho1 hg1 hat hnl; clear hnl; simp only [Nat.zero_add, List.nil_append] at ho1; obtain ⟨a1, c1, hv1, h1c, h1m⟩ := (Rd.of_own ho1).form; subst hv1))
  have hX1 : BtB w V Bt Br w1 := ⟨HXX.out.1.grown hg1 HXX.out.1.size (fun x hx => by cases (show none = some x from hx)), (hg1.block _ (lt_of_block HXX.out.2.1) (fun e => by cases e)).trans HXX.out.2.1, (hg1.block _ (lt_of_block HXX.out.2.2) (fun e => by cases e)).trans HXX.out.2.2⟩
  have hru : RuM (fun b => b = Bt \/ b = Br) X.heap.size (.slice a1 n c1) L w1 := by
    refine ⟨us, HE.out.2.2.1.trans HE.out.2.1, by rw [<- HE.out.2.1]; exact ho1, fun i hi hi' => ?_, HE.out.2.2.2.2⟩
    refine ByN.old (HE.out.2.2.2.1 i hi hi') hX1.1 (fun x hx => ?_) (fun x hx => by have := HB.out; omega)
    rcases hat with e | e
    · rw [e] at hx
      cases hx
    · rw [e] at hx
      injection hx with hx
      rw [<- hx]
      exact HXX.out.1.size
  have HX1 := hidep (And.intro hX1 hru)
  clear hX1 hru ho1 hg1 hat HRDX hone hcell
  by_cases hn0 : n = 0
  · subst hn0
    obtain ⟨f0, f1, f2, f3, f4, f5, f6⟩ := tb7 HX1.out.1.2.1
    obtain ⟨r0, r1, r2, r3, r4, r5, r6⟩ := tb7 HX1.out.1.2.2
    have z0 : w1.frozen? ⟨Br, 0, none⟩ = false := zq1 HX1.out.1.2.2 0
    have z1 : w1.frozen? ⟨Br, 1, none⟩ = false := zq1 HX1.out.1.2.2 1
    have z2 : w1.frozen? ⟨Br, 2, none⟩ = false := zq1 HX1.out.1.2.2 2
    have z3 : w1.frozen? ⟨Br, 3, none⟩ = false := zq1 HX1.out.1.2.2 3
    have z4 : w1.frozen? ⟨Br, 4, none⟩ = false := zq1 HX1.out.1.2.2 4
    have z5 : w1.frozen? ⟨Br, 5, none⟩ = false := zq1 HX1.out.1.2.2 5
    have z6 : w1.frozen? ⟨Br, 6, none⟩ = false := zq1 HX1.out.1.2.2 6
    obtain ⟨aa, ac, ea', -, -⟩ := HT.out.r0.form
    obtain ⟨ba, bc, eb', -, -⟩ := HT.out.r1.form
    obtain ⟨hd, hc, hn', he, hs⟩ := HVF.out
    have HVS := hidep (And.intro ea' (And.intro eb' HVF.out))
    rw [ea'] at f0
    rw [eb'] at f1
    rw [hd] at f2
    rw [hc] at f3
    rw [hn'] at f4
    rw [he] at f5
    rw [hs] at f6
    clear ea' eb' hd hc hn' he hs HAK
    go_wp2
    have hset := zq7d HX1.out.1.2.2 (.slice aa T.l0.length ac) (.slice ba T.l1.length bc) (.slice da T.dg.length dc) (.slice ca T.cp.length cc) (.slice na T.nm.length nc) (.slice ea T.en.length ec) (.slice sa T.sw.length sc)
    have htu := zq65 w1 Br (.slice aa T.l0.length ac) (.slice ba T.l1.length bc) (.slice da T.dg.length dc) (.slice ca T.cp.length cc) (.slice na T.nm.length nc) (.slice ea T.en.length ec) (.slice sa T.sw.length sc)
    unfold set7 at hset htu
    refine bodyPost_ret (zq44 rfl _ _ _ rfl (run_loadVar_row (P := Tryz.prog) _ Br 29 29 _ _ _ hset zq39.1.choose_spec rfl zq39.2)) rfl ?_
    have hbw := zq19 HX1.out.1.1 (Nat.le_refl _) htu (fun b hb => by rw [hb]; have := HB.out; omega)
    refine ⟨V, T, ?_, HT.out.below hbw, HOK.out, hbw⟩
    unfold TabV.v
    rw [HVS.out.1, HVS.out.2.1, HVS.out.2.2.1, HVS.out.2.2.2.1, HVS.out.2.2.2.2.1, HVS.out.2.2.2.2.2.1, HVS.out.2.2.2.2.2.2]
  · obtain ⟨g, hg⟩ : ∃ g, a1 = some ⟨g, 0, none⟩ := by
      obtain ⟨g, c, e, _⟩ := HX1.out.2.form (by rw [<- HE.out.2.1]; omega)
      injection e with e1 _ _
      exact ⟨g, e1⟩
    subst hg
    have hnI : ¬ (n : Int) = 0 := by omega
    go_upto_region 6 with (fail)
    obtain ⟨q, hq⟩ : ∃ q, Int.tdiv a 2 = q := ⟨_, rfl⟩
    have hqr : -9223372036854775808 <= q /\ q <= 9223372036854775807 := by
      rcases Int.le_total 0 a with h0 | h0
      · rw [Int.tdiv_eq_ediv_of_nonneg h0] at hq
        omega
      · have e : Int.tdiv a 2 = -((-a) / 2) := by
          rw [<- Int.tdiv_eq_ediv_of_nonneg (by omega : (0 : Int) <= -a), Int.neg_tdiv, Int.neg_neg]
        rw [e] at hq
        omega
    have hq1 := hqr.1
    have hq2 := hqr.2
    have hi : ∃ i : Nat, (i : Int) = zqd q n := ⟨(zqd q n).toNat, by have := zqe q n (by omega); omega⟩
    obtain ⟨i, hi⟩ := hi
    have hin : i < n := by have := zqe q n (by omega); omega
    have HAI := hidep (fun (W : World) => zq14 q n W hqr.1 hqr.2)
    rw [<- hi] at HAI
    obtain ⟨y, hy⟩ : ∃ y, y = zqd b 66 := ⟨_, rfl⟩
    have hyr := zqe b 66 (by decide)
    have HAY := hidep (fun (W : World) => zq14 b 66 W hb1 hb2)
    rw [<- hy] at hyr HAY
    have hyw : IntKind.u8.wrap y = y := by show y % 256 = y; omega
    obtain ⟨m, hm⟩ : ∃ m, m = zqd h 11 := ⟨_, rfl⟩
    have hmr := zqe h 11 (by decide)
    have HAM := hidep (fun (W : World) => zq14 h 11 W hh1 hh2)
    rw [<- hm] at hmr HAM
    clear hqr hi hy hm
    go_upto_region 7 with (go_at_call 9; refine (HAI.out _).mono ?_; rintro e w5 ⟨rfl, rfl⟩)
    clear hq hq1 hq2 HAI
    go_upto_region 8 with (go_at_call 9; refine (HAY.out _).mono ?_; rintro e w5 ⟨rfl, rfl⟩)
    have HY := hidep (And.intro hyr (And.intro hmr hin))
    have HNI := hidep (And.intro hnI hn0)
    refine zq17 (Bt8 b m y Bt Br k i (.slice (some ⟨g, 0, none⟩) n c1) w1) ?r8 ?_
    case r8 =>
      intro K' hMK
      go_wp2_with (go_at_call 9; refine (HAM.out _).mono ?_; rintro e w5 ⟨rfl, rfl⟩)
      first
        | exact ⟨by kernel_rfl, rfl, rfl, rfl, rfl, rfl, rfl, rfl, rfl, rfl, rfl⟩
        | exact hMK _ _ ⟨by kernel_rfl, rfl, rfl, rfl, rfl, rfl, rfl, rfl, rfl, rfl, rfl⟩
    rintro ⟨tm, ds⟩ W ⟨hts, hds, e3, e4, e8, e9, e10, e11, e12, e36, eW⟩
    dsimp only at hts hds e3 e4 e8 e9 e10 e11 e12 e36 eW
    subst hds eW
    rw [zq38 tm _ hts, e3, e4, e8, e9, e10, e11, e12, e36]
    clear e3 e4 e8 e9 e10 e11 e12 e36 hts
    (try apply_assumption)
    refine zq17 (fun a W => ∃ v, BtM w Bt Br X.heap.size k v a W) ?sw ?_
    case sw =>
      intro K' hMK
      clear hyr hmr
      have hM0 : MdW w V T Bt Br X.heap.size (.slice (some ⟨g, 0, none⟩) n c1) L W := ⟨HX1.out.1, HX1.out.2, HT.out, HOK.out, by have := HB.out; omega, by have := HB.out; omega, lt_of_block HXX.out.2.1, lt_of_block HXX.out.2.2, by have := HB.out; omega⟩
      have HM0 := hidep hM0
      have hiL : i < L.length := by have := HE.out.2.1; have := HY.out.2.2; omega
      obtain ⟨d0, d1, ⟨xa, xm, xc, d2, d3, d4⟩, hfz⟩ := hM0.ru.cells hiL
      have hgX := hM0.ru.base
      have hgW : g < W.heap.size := hgX.2.1
      have hgX0 : X.heap.size <= g := hgX.1
      have hlL : L.length <= 1000 := by have := HE.out.2.1; omega
      have HLI := hidep (And.intro hiL hlL)
      generalize L[i].text = xt at d0
      generalize L[i].wh = xw at d1
      clear hM0 hgX d3 d4 hiL hlL
      have z0 : W.frozen? ⟨g, i * 3, none⟩ = false := hfz _
      have z1 : W.frozen? ⟨g, i * 3 + 1, none⟩ = false := hfz _
      have z2 : W.frozen? ⟨g, i * 3 + 2, none⟩ = false := hfz _
      have HFZ := hidep hfz
      clear hfz
      have hm11 : m = 0 \/ 0 < m := by have := HY.out.2.1; omega
      rcases hm11 with rfl | hm0
      · obtain ⟨z, hz⟩ : ∃ z, z = zqd b 6 := ⟨_, rfl⟩
        have hzr := zqe b 6 (by decide)
        have HA6 := hidep (fun (W : World) => zq14 b 6 W hb1 hb2)
        rw [<- hz] at hzr HA6
        have hzw : IntKind.i64.wrap (z - 1) = z - 1 := IntWalk.i64_in _ (by omega)
        have HMD := hidep (HM0.out.wh HLI.out.1 (by have := HLI.out.2; omega) (z - 1) (by omega))
        clear hz d0 d2 z0 z2
        go_wp2_with (go_at_call 9; refine (HA6.out _).mono ?_; rintro e w5 ⟨rfl, rfl⟩)
        first
          | exact ⟨_, by kernel_rfl, rfl, rfl, rfl, rfl, rfl, HMD.out⟩
          | exact hMK _ _ ⟨_, by kernel_rfl, rfl, rfl, rfl, rfl, rfl, HMD.out⟩
      rcases (by omega : m = 1 \/ 1 < m) with rfl | hm1
      · have HMD := hidep (HM0.out.cel (xs := [.int .u8 y]) (C := [y]) (q := 1) (m := 1) HLI.out.1 (by have := HLI.out.2; omega) rfl (by decide) rfl (by decide) (fun x hx => by rw [List.mem_singleton] at hx; have := HY.out.1; omega))
        clear d0 d1 z0 z1
        go_wp2
        first
          | (refine ⟨.slice (some ⟨g, 0, none⟩) n c1, ?_, ?_, ?_, ?_, ?_, ?_, HMD.out⟩ <;> kernel_rfl)
          | (refine hMK _ _ ⟨.slice (some ⟨g, 0, none⟩) n c1, ?_, ?_, ?_, ?_, ?_, ?_, HMD.out⟩ <;> kernel_rfl)
      rcases (by omega : m = 2 \/ 2 < m) with rfl | hm2
      · obtain ⟨q2, hq2⟩ : ∃ q2, Int.tdiv b 66 = q2 := ⟨_, rfl⟩
        have hq2r := zqc0 hb1 hb2
        rw [hq2] at hq2r
        have hq3 := hq2r.1
        have hq4 := hq2r.2
        obtain ⟨z, hz⟩ : ∃ z : Nat, (z : Int) = zqd q2 6 := ⟨(zqd q2 6).toNat, by have := zqe q2 6 (by decide); omega⟩
        have hzn : z < 6 := by have := zqe q2 6 (by decide); omega
        have HAZ := hidep (fun (W : World) => zq14 q2 6 W hq2r.1 hq2r.2)
        rw [<- hz] at HAZ
        have hzI : (z : Int) <= 5 := by omega
        have HMD := hidep (HM0.out.cel (xs := [.int .u8 y, .int .u8 y, .int .u8 1, .int .u8 2, .int .u8 3]) (C := [y, y, 1, 2, 3].take z) (q := z) (m := 5) HLI.out.1 (by have := HLI.out.2; omega) (by unfold byC; rw [List.map_take]; rfl) (by omega) rfl (by decide) (fun x hx => by
          have hx := List.mem_of_mem_take hx
          have := HY.out.1
          simp only [List.mem_cons, List.not_mem_nil, or_false] at hx
          omega))
        clear hz d0 d1 z0 z1 hq2r
        go_wp2_with (go_at_call 9; refine (HAZ.out _).mono ?_; rintro e w5 ⟨rfl, rfl⟩)
        first
          | (refine ⟨.slice (some ⟨g, 0, none⟩) n c1, ?_, ?_, ?_, ?_, ?_, ?_, HMD.out⟩ <;> kernel_rfl)
          | (refine hMK _ _ ⟨.slice (some ⟨g, 0, none⟩) n c1, ?_, ?_, ?_, ?_, ?_, ?_, HMD.out⟩ <;> kernel_rfl)
      rcases (by omega : m = 3 \/ 3 < m) with rfl | hm3
      · obtain ⟨z, hz⟩ : ∃ z : Nat, (z : Int) = zqd b 9 := ⟨(zqd b 9).toNat, by have := zqe b 9 (by decide); omega⟩
        have hzn : z < 9 := by have := zqe b 9 (by decide); omega
        have HAZ := hidep (fun (W : World) => zq14 b 9 W hb1 hb2)
        rw [<- hz] at HAZ
        have HTX := hidep (fun (x : ByteArray) (hx : x.size <= 100000) (o : Obj) => HM0.out.txtA HLI.out.1 (by have := HLI.out.2; omega) x hx o)
        clear hz d1 d2 z1 z2
        rcases (by omega : z = 0 \/ z = 1 \/ z = 2 \/ z = 3 \/ z = 4 \/ z = 5 \/ z = 6 \/ z = 7 \/ z = 8) with rfl | rfl | rfl | rfl | rfl | rfl | rfl | rfl | rfl
        all_goals
          go_wp2_with (go_at_call 9; refine (HAZ.out _).mono ?_; rintro e w5 ⟨rfl, rfl⟩)
          first
            | (refine ⟨.slice (some ⟨g, 0, none⟩) n c1, ?_, ?_, ?_, ?_, ?_, ?_, HTX.out _ (by decide) _⟩ <;> kernel_rfl)
            | (refine hMK _ _ ⟨.slice (some ⟨g, 0, none⟩) n c1, ?_, ?_, ?_, ?_, ?_, ?_, HTX.out _ (by decide) _⟩ <;> kernel_rfl)
      rcases (by omega : m = 4 \/ 4 < m) with rfl | hm4
      · have hiw : IntKind.i64.wrap ((i : Int) + 1) = (i : Int) + 1 := IntWalk.i64_in _ (by omega)
        have hi1 : (i : Int) + 1 <= (n : Int) := by have := HY.out.2.2; omega
        have hi2 : (i : Int) <= (c1 : Int) := by omega
        have hi3 : (n : Int) <= (c1 : Int) := by omega
        have hi4 : (i : Int) <= (n : Int) := by omega
        have hi5 : (i : Int) + 1 <= (c1 : Int) := by omega
        have hi6 : (0 : Int) <= (i : Int) + 1 := by omega
        have hsum : i + (n - (i + 1)) <= 1000 := by omega
        clear d0 d1 d2 z0 z1 z2
        by_cases hci : c1 = i + 1
        · subst hci
          have hi7 : (i : Int) <= (i : Int) + 1 := by omega
          have hi8 : (i : Int) + 1 <= (i : Int) + 1 := by omega
          have hi9 : (n : Int) <= (i : Int) + 1 := by omega
          go_upto_region 19 with (fail)
          refine wp_region_noPanic (wp_region_held_drew (S := (fun Z => Below w.heap.size w Z)) (by kernel_rfl) ?hSz0 (fun hHeld => ?hRz0))
          case hSz0 => ((try dsimp only); (exact (HM0.out.below ((Below.refl _ _).drew)).tb.1))
          refine tkC 0 rfl ?_
          refine tkC 1 rfl ?_
          refine tkC 2 rfl ?_
          refine tkC 3 rfl ?_
          refine tkC 4 rfl ?_
          refine tkC 5 rfl ?_
          refine tkC 6 rfl ?_
          refine wpAnyH_ready (rs := [7]) (by kernel_rfl) (by simp) (AllReadyH.cons rfl (fun K hK => ?hcz1) AllReadyH.nil)
          (obtain ⟨xs, ys, ho4, hr4, hy1, hg4⟩ := (HM0.out.below ((Below.refl _ _).drew)).cut HLI.out.1 h1c; refine zq11 _ rfl (.tmp 91) (.tmp 95) rfl zq36 X.heap.size (.slice (some ⟨g, 0, none⟩) i (i + 1)) i xs (by kernel_rfl) ho4 _ (.slice (some ⟨g, 0, none⟩) 0 0) _ _ (by kernel_rfl) (hr4 _ (by rw [if_pos rfl, Nat.sub_eq_zero_of_le h1c, Nat.sub_self])) hy1 (by unfold maxLen; omega) (by omega) (Nat.le_trans hgX0 (Nat.le_of_lt hgW)) ?_; intro v3 w3 ho3 hg3 hat3 hnl; clear hnl; obtain ⟨L9, hl9, hm9⟩ := hg4 _ _ ho3 hg3 hat3; have hk9 := hm9.tb.1; (try dsimp only))
          refine hK.out _ _ (by (try dsimp only); (exact hk9)) ?_
          clear hHeld hK; intro hHeld
          refine tkC 8 rfl ?_
          refine wpAnyH_done (by kernel_rfl) ?_ _
          clear hHeld
          refine NoPanic.normal ?_
          (try dsimp only [Exit.then])
          have HMD := hidep (hm9.out (by have := HLI.out; omega))
          first
            | (refine ⟨v3, ?_, ?_, ?_, ?_, ?_, ?_, HMD.out⟩ <;> kernel_rfl)
            | (refine hMK _ _ ⟨v3, ?_, ?_, ?_, ?_, ?_, ?_, HMD.out⟩ <;> kernel_rfl)
        · have HCI := hidep hci
          go_upto_region 19 with (fail)
          refine wp_region_noPanic (wp_region_held_drew (S := (fun Z => Below w.heap.size w Z)) (by kernel_rfl) ?hSz2 (fun hHeld => ?hRz2))
          case hSz2 => ((try dsimp only); (exact (HM0.out.below ((Below.refl _ _).drew)).tb.1))
          refine tkC 0 rfl ?_
          refine tkC 1 rfl ?_
          refine tkC 2 rfl ?_
          refine tkC 3 rfl ?_
          refine tkC 4 rfl ?_
          refine tkC 5 rfl ?_
          refine tkC 6 rfl ?_
          refine wpAnyH_ready (rs := [7]) (by kernel_rfl) (by simp) (AllReadyH.cons rfl (fun K hK => ?hcz3) AllReadyH.nil)
          (obtain ⟨xs, ys, ho4, hr4, hy1, hg4⟩ := (HM0.out.below ((Below.refl _ _).drew)).cut HLI.out.1 h1c; refine zq11 _ rfl (.tmp 91) (.tmp 95) rfl zq36 X.heap.size (.slice (some ⟨g, 0, none⟩) i c1) i xs (by kernel_rfl) ho4 _ (.slice (some ⟨g, (i + 1) * 3, none⟩) (n - (i + 1)) (c1 - (i + 1))) _ _ (by kernel_rfl) (hr4 _ (by rw [if_neg HCI.out]; simp [Addr.add])) hy1 (by unfold maxLen; omega) (by omega) (Nat.le_trans hgX0 (Nat.le_of_lt hgW)) ?_; intro v3 w3 ho3 hg3 hat3 hnl; clear hnl; obtain ⟨L9, hl9, hm9⟩ := hg4 _ _ ho3 hg3 hat3; have hk9 := hm9.tb.1; (try dsimp only))
          refine hK.out _ _ (by (try dsimp only); (exact hk9)) ?_
          clear hHeld hK; intro hHeld
          refine tkC 8 rfl ?_
          refine wpAnyH_done (by kernel_rfl) ?_ _
          clear hHeld
          refine NoPanic.normal ?_
          (try dsimp only [Exit.then])
          have HMD := hidep (hm9.out (by have := HLI.out; omega))
          first
            | (refine ⟨v3, ?_, ?_, ?_, ?_, ?_, ?_, HMD.out⟩ <;> kernel_rfl)
            | (refine hMK _ _ ⟨v3, ?_, ?_, ?_, ?_, ?_, ?_, HMD.out⟩ <;> kernel_rfl)
      rcases (by omega : m = 5 \/ 5 < m) with rfl | hm5
      · have hba : Below W.heap.size W (W.alloc (.cells #[.string xt, .int .i64 xw, .slice xa xm xc] 59)) := (Below.refl _ _).alloc (Nat.le_refl _) _
        have HBA := hidep hba
        have hnL := HE.out.2.1
        have HNL := hidep hnL
        obtain ⟨C, hC, hok⟩ : ∃ C, ByN (fun b => b = Bt \/ b = Br) (some g) W (.slice xa xm xc) C /\ zq3e ⟨xt, xw, C⟩ := by
          obtain ⟨e0, e1, ⟨a', m', c', e2, e3, _⟩, _⟩ := HM0.out.ru.cells HLI.out.1
          rw [d0] at e0
          rw [d1] at e1
          rw [d2] at e2
          injection e0 with e0
          injection e0 with e0
          injection e1 with e1
          injection e1 with _ e1
          injection e2 with e2
          refine ⟨_, e2 ▸ e3, ?_⟩
          obtain ⟨_, _, _, _, h4⟩ := HM0.out.ru
          rw [e0, e1]
          exact h4 _ (List.getElem_mem HLI.out.1)
        obtain ⟨xs, ho5, hg5⟩ := (HM0.out.below hba).push1 xt xw (.slice xa xm xc) C (hC.below hba) hok
        rw [<- hnL] at ho5 hg5
        have HG := hidep hg5
        have HO := hidep ho5
        clear hba hnL hC hok ho5 hg5 z0 z1 z2
        go_wp2_with (at_builtin; go_loud (refine zq4 _ rfl (.tmp 99) (.tmp 104) rfl zq36 X.heap.size (.slice (some ⟨g, 0, none⟩) n c1) n xs (by kernel_rfl) HO.out _ _ _ _ rfl (Rd.fresh W #[.string xt, .int .i64 xw, .slice xa xm xc] 59 3 1 rfl (by decide)) (by intro u hu; simp at hu; rcases hu with rfl | rfl | rfl <;> rfl) (by unfold maxLen; omega) (by omega) (by rw [World.size_alloc]; omega) ?_; intro v3 w3 ho3 hg3 hat3 hnl; clear hnl))
        have HMD := hidep ((HG.out _ _ ho3 hg3 hat3).out (by rw [List.length_append]; simp; have := HLI.out; omega))
        first
          | (refine ⟨v3, ?_, ?_, ?_, ?_, ?_, ?_, HMD.out⟩ <;> kernel_rfl)
          | (refine hMK _ _ ⟨v3, ?_, ?_, ?_, ?_, ?_, ?_, HMD.out⟩ <;> kernel_rfl)
      rcases (by omega : m = 6 \/ 6 < m) with rfl | hm6
      · have HNL := hidep HE.out.2.1
        clear d0 d1 d2 z0 z1 z2
        go_upto_region 24 with (fail)
        refine wp_loop (LoopI 179 (fun tm ds wr => (slot tm 3) = .int .i64 b /\ (slot tm 4) = .pointer (some ⟨Bt, 0, none⟩) /\ (slot tm 8) = .pointer (some ⟨Br, 0, none⟩) /\ (slot tm 9) = .int .i64 (k : Nat) /\ ds = [] /\ LpT w V T Bt Br X.heap.size n (slot tm 13) (slot tm 10) wr)) (fun a' wr => 97 - natI (a'.tmps.getD 13 undef)) ?l6Start ?l6Round
        case' l6Start => refine LoopI.mk rfl ?_
        case' l6Round => (rintro ⟨t, ds⟩ wr ⟨hts, hrel⟩; dsimp only at hts hrel; rw [zq38 t ds hts])
        case l6Start => exact ⟨rfl, rfl, rfl, rfl, rfl, 0, L, by decide, rfl, HM0.out, by rw [HNL.out]; rfl⟩
        obtain ⟨e3, e4, e8, e9, hds, j, L2, hj, e13, hM2, hL2⟩ := hrel
        obtain ⟨v, hv⟩ : ∃ v, v = slot t 10 := ⟨_, rfl⟩
        rw [<- hv] at hM2
        subst hds
        rw [e3, e4, e8, e9, e13, <- hv]
        clear e3 e4 e8 e9 e13 hts hv HM0 HX1 hgW hgX0 hin
        obtain ⟨m2, hm2⟩ : ∃ x, x = L2.length := ⟨_, rfl⟩
        have HL2 := hidep (And.intro hL2 hm2)
        obtain ⟨g2, c2, hv2, h2c, h2m, hgB, hgW2⟩ := hM2.form (by omega)
        rw [<- hm2] at hv2 h2c
        subst hv2
        have HM2 := hidep hM2
        have hm2a : m2 <= 1100 := by omega
        have hm2b : 97 - j + m2 = n + 97 := by omega
        have hXW : X.heap.size <= wr.heap.size := Nat.le_trans hgB (Nat.le_of_lt hgW2)
        unfold maxLen at h2m
        clear hM2 hL2 hm2
        by_cases hj97 : j < 97
        · have hjI : (j : Int) < 97 := by omega
          have hjw : IntKind.i64.wrap ((j : Int) + 1) = (j : Int) + 1 := IntWalk.i64_in _ (by omega)
          obtain ⟨rx, hrx⟩ : ∃ x, (j : Int).tmod 26 = x := ⟨_, rfl⟩
          obtain ⟨qx, hqx⟩ : ∃ x, (j : Int).tdiv 26 = x := ⟨_, rfl⟩
          have hrx1 : 0 <= rx /\ rx < 26 := by rw [<- hrx, Int.tmod_eq_emod_of_nonneg (by omega)]; omega
          have hqx1 : 0 <= qx /\ qx <= 3 := by rw [<- hqx, Int.tdiv_eq_ediv_of_nonneg (by omega)]; omega
          have hrw : IntKind.i64.wrap (97 + rx) = 97 + rx := IntWalk.i64_in _ (by omega)
          have hqw : IntKind.i64.wrap (97 + qx) = 97 + qx := IntWalk.i64_in _ (by omega)
          have hqi : IntKind.i64.wrap qx = qx := IntWalk.i64_in _ (by omega)
          have hru : IntKind.u8.wrap (97 + rx) = 97 + rx := by show (97 + rx) % 256 = _; omega
          have hqu : IntKind.u8.wrap (97 + qx) = 97 + qx := by show (97 + qx) % 256 = _; omega
          have hcv := conv3 (97 + rx) (97 + qx) 113 (wr.alloc (.cells #[.int .u8 (97 + rx), .int .u8 (97 + qx), .int .u8 113] 5)) wr.heap.size (World.cell?_alloc_new _ _ _ _) (World.cell?_alloc_new _ _ _ _) (World.cell?_alloc_new _ _ _ _)
          obtain ⟨bx, hbx⟩ : ∃ x, x = ([97 + rx, 97 + qx, 113].foldl (fun r n => r.push (UInt8.ofNat (Int.toNat n))) ByteArray.empty) := ⟨_, rfl⟩
          rw [<- hbx] at hcv
          have hbs : bx.size <= 100000 := by rw [hbx, size3]; decide
          obtain ⟨xs, ho6, hg6⟩ := HM2.out.push2 (.cells #[.int .u8 (97 + rx), .int .u8 (97 + qx), .int .u8 113] 5) bx hbs
          rw [<- HL2.out.2] at ho6 hg6
          have HO := hidep ho6
          have HG := hidep hg6
          have hrf := Rd.fresh ((wr.alloc (.cells #[.int .u8 (97 + rx), .int .u8 (97 + qx), .int .u8 113] 5)).alloc (.cells #[.int .u8 7] 5)) #[.string bx, .int .i64 0, .slice (some ⟨wr.heap.size + 1, 0, none⟩) 1 1] 59 3 1 rfl (by decide)
          simp only [World.size_alloc] at hrf
          have HRF := hidep hrf
          clear hrf hbx hbs ho6 hg6 hrx1 hqx1
          go_wp2_with (at_builtin; go_loud (refine zq4 _ rfl (.tmp 112) (.tmp 125) rfl zq36 X.heap.size (.slice (some ⟨g2, 0, none⟩) m2 c2) m2 xs (by kernel_rfl) HO.out _ _ _ _ rfl HRF.out (by intro u hu; simp at hu; rcases hu with rfl | rfl | rfl <;> rfl) (by unfold maxLen; omega) (by omega) (by simp only [World.size_alloc]; omega) ?_; intro v3 w3 ho3 hg3 hat3 hnl; clear hnl))
          have HMD := hidep (HG.out _ _ ho3 hg3 hat3)
          refine ⟨LoopI.mk (by kernel_rfl) ⟨by kernel_rfl, by kernel_rfl, by kernel_rfl, by kernel_rfl, rfl, j + 1, _, by omega, by kernel_rfl, HMD.out, by rw [List.length_append, HL2.out.1]; rfl⟩, ?_⟩
          show 97 - _ < 97 - _
          simp [natI]; omega
        · have hjI : ¬ (j : Int) < 97 := by omega
          obtain ⟨z, hz⟩ : ∃ z : Nat, (z : Int) = zqd b 4 := ⟨(zqd b 4).toNat, by have := zqe b 4 (by decide); omega⟩
          have hzn : z < 4 := by have := zqe b 4 (by decide); omega
          have HAZ := hidep (fun (W : World) => zq14 b 4 W hb1 hb2)
          rw [<- hz] at HAZ
          obtain ⟨q, hq⟩ : ∃ q : Nat, q = 95 + z := ⟨_, rfl⟩
          have hqw : IntKind.i64.wrap (95 + (z : Int)) = (q : Int) := by rw [IntWalk.i64_in _ (by omega)]; omega
          have hn1 : 1 <= n := by have := HNI.out; omega
          have hqm2 : (q : Int) <= (m2 : Int) := by omega
          have hqc : (q : Int) <= (c2 : Int) := by omega
          have hmin : min (m2 : Int) (q : Int) = (q : Int) := by omega
          have hm2c : (m2 : Int) <= (c2 : Int) := by omega
          have hq4 : q <= m2 := by omega
          have HMD := hidep ((HM2.out.take hq4).out (by rw [List.length_take]; omega))
          have hq5 : q = m2 \/ (q : Int) < (m2 : Int) := by omega
          clear hz hq hn1 hm2b hzn hq4
          rcases hq5 with hqe | hqm
          · subst hqe
            go_wp2_with (go_at_call 9; refine (HAZ.out _).mono ?_; rintro e w5 ⟨rfl, rfl⟩)
            first
              | (refine ⟨.slice (some ⟨g2, 0, none⟩) q c2, ?_, ?_, ?_, ?_, ?_, ?_, HMD.out⟩ <;> kernel_rfl)
              | (refine hMK _ _ ⟨.slice (some ⟨g2, 0, none⟩) q c2, ?_, ?_, ?_, ?_, ?_, ?_, HMD.out⟩ <;> kernel_rfl)
          · go_wp2_with (go_at_call 9; refine (HAZ.out _).mono ?_; rintro e w5 ⟨rfl, rfl⟩)
            first
              | (refine ⟨.slice (some ⟨g2, 0, none⟩) q c2, ?_, ?_, ?_, ?_, ?_, ?_, HMD.out⟩ <;> kernel_rfl)
              | (refine hMK _ _ ⟨.slice (some ⟨g2, 0, none⟩) q c2, ?_, ?_, ?_, ?_, ?_, ?_, HMD.out⟩ <;> kernel_rfl)
      rcases (by omega : m = 7 \/ 7 < m) with rfl | hm7
      · obtain ⟨q2, hq2⟩ : ∃ q2, Int.tdiv b 66 = q2 := ⟨_, rfl⟩
        have hq2r := zqc0 hb1 hb2
        rw [hq2] at hq2r
        have hq3 := hq2r.1
        have hq4 := hq2r.2
        have hqw2 : IntKind.i64.wrap q2 = q2 := IntWalk.i64_in _ hq2r
        obtain ⟨z, hz⟩ : ∃ z : Nat, (z : Int) = zqd q2 11 := ⟨(zqd q2 11).toNat, by have := zqe q2 11 (by decide); omega⟩
        have HAZ := hidep (fun (W : World) => zq14 q2 11 W hq2r.1 hq2r.2)
        rw [<- hz] at HAZ
        have hzn : z < 11 := by have := zqe q2 11 (by decide); omega
        obtain ⟨f0, f1, f2, f3, f4, f5, f6⟩ := tb7 HX1.out.1.2.1
        have y2 : W.frozen? ⟨Bt, 2, none⟩ = false := zq1 HX1.out.1.2.1 2
        have hBtW : Bt < W.heap.size := lt_of_block HX1.out.1.2.1
        obtain ⟨nd, hnd⟩ : ∃ x, x = T.dg.length := ⟨_, rfl⟩
        have hnd1 : 0 < nd /\ nd <= 1000 := by rw [hnd]; exact HL.out.2.2
        have hdv := HVF.out.1
        rw [<- hnd] at hdv
        rw [hdv] at f2
        have hrdD : Rd (W.alloc (.cells #[] 5)) (fun _ => True) 1 (.slice da nd dc) nd (byC T.dg) := by
          rw [<- hdv, hnd]
          exact HT.out.dg.1.below (HX1.out.1.1.trans (((Below.refl _ _).alloc (Nat.le_refl _) _).mono HX1.out.1.1.size))
        have HRD := hidep hrdD
        have hoE : (W.alloc (.cells #[] 5)).ownsRow W.heap.size 5 1 (.slice (some ⟨W.heap.size, 0, none⟩) 0 0) 0 [] := World.ownsRow_lit W #[] 0 (Nat.le_refl _) (by decide) rfl
        have HOE := hidep hoE
        have HND := hidep (And.intro hnd hdv)
        have hoD := zq33 T.dg
        have hb7 : Below W.heap.size W (W.alloc (.cells #[] 5)) := (Below.refl _ _).alloc (Nat.le_refl _) _
        have HB7 := hidep hb7
        have hnd2 : nd <= 1000 := hnd1.2
        have hnd3 : ¬ (nd : Int) = 0 := by omega
        have hnd4 : ¬ nd = 0 := by omega
        clear hz d0 d1 d2 z0 z1 z2 f0 f1 f3 f4 f5 f6 hrdD hoE hnd hdv hb7 hq2r
        go_upto_region 30 with (at_builtin; go_loud (refine zq4 _ rfl (.tmp 137) (.tmp 139) rfl slByt W.heap.size (.slice (some ⟨W.heap.size, 0, none⟩) 0 0) 0 [] (by kernel_rfl) HOE.out _ _ _ _ rfl HRD.out hoD (by unfold maxLen; omega) (by omega) (by rw [World.size_alloc]; omega) ?_; intro v3 w3 ho3 hg3 hat3 hnl; clear hnl; simp only [Nat.zero_add, List.nil_append] at ho3; obtain ⟨gd, cd, hv3, h3c, h3m, h3b, h3l⟩ := zqab ho3 hnd1.1; subst hv3; have hs3 := (hg3.block _ (by rw [World.size_alloc]; omega) (fun e => absurd (Option.some.inj e) (Nat.ne_of_lt hBtW))).trans (zq0 HB7.out HX1.out.1.2.1); have hc3 := (tb7 hs3).2.2.1; have hfz3 : w3.frozen? ⟨Bt, 2, none⟩ = false := zq1 hs3 2; rw [HND.out.2] at hc3))
        have hset3 := zq12 hs3 2 (.slice (some ⟨gd, 0, none⟩) nd cd)
        have ht3 : Turned (fun b => b = Bt) W (w3.setCell ⟨Bt, 2, none⟩ (.slice (some ⟨gd, 0, none⟩) nd cd)) := ((Turned.of_below HB7.out).own hg3 (fun r hr => Nat.le_of_eq (Option.some.inj hr))).setCell ⟨Bt, 2, none⟩ _ (.inr rfl)
        have ho4 := ownsRow_setCell_below ho3 (a := ⟨Bt, 2, none⟩) hBtW (.slice (some ⟨gd, 0, none⟩) nd cd)
        clear hs3 hc3 hfz3 hg3 ho3 hat3 f2 y2
        generalize w3.setCell ⟨Bt, 2, none⟩ (.slice (some ⟨gd, 0, none⟩) nd cd) = w4 at hset3 ht3 ho4 ⊢
        have HW4 := hidep (And.intro hset3 (And.intro ht3 ho4))
        have HSEE := hidep (fun (Z : World) (hZ : Z.heap[Bt]? = some (.cells #[V.a, V.b, .slice (some ⟨gd, 0, none⟩) nd cd, V.c, V.n, V.e, V.s] 29)) => (tb7 hZ).2.2.1)
        have hws4 : W.heap.size <= w4.heap.size := ht3.size
        obtain ⟨q, hq⟩ : ∃ q : Nat, q = z % nd := ⟨_, rfl⟩
        have hqn : q < nd := by rw [hq]; exact Nat.mod_lt _ hnd1.1
        have hqt : Int.tmod (z : Int) (nd : Int) = (q : Int) := by rw [hq, Int.tmod_eq_emod_of_nonneg (by omega)]; rfl
        have hqw : IntKind.i64.wrap (q : Int) = (q : Int) := IntWalk.i64_in _ (by omega)
        have hqI : (q : Int) <= (nd : Int) := by omega
        have hqc : (q : Int) <= (cd : Int) := by omega
        have hndc : (nd : Int) <= (cd : Int) := by omega
        have hone1 : ∀ u ∈ [Value.int .u8 y], u.oneCell' = true := by intro u hu; simp at hu; subst hu; rfl
        have hgdne : some gd ≠ some Bt := fun e => by have := Option.some.inj e; omega
        clear hset3 ht3 ho4 hq
        go_upto_region 30 with (fail)
        refine wp_region_noPanic (zq3c (S := (fun Z => Z.heap[Bt]? = some (.cells #[V.a, V.b, .slice (some ⟨gd, 0, none⟩) nd cd, V.c, V.n, V.e, V.s] 29))) [14] (by kernel_rfl) ?hSz4 (fun hHeld => ?hRz4))
        case hSz4 => ((try dsimp only); (exact HW4.out.1))
        refine tkD 0 rfl (.inl ⟨by kernel_rfl, fun w hSw => by (have hlb := HSEE.out _ hSw); go_simp; first | done | with_reducible rfl⟩) ?_
        refine tkD 1 rfl (.inl ⟨by kernel_rfl, fun w hSw => by (have hlb := HSEE.out _ hSw); go_simp; first | done | with_reducible rfl⟩) ?_
        refine tkD 2 rfl (.inl ⟨by kernel_rfl, fun w hSw => by (have hlb := HSEE.out _ hSw); go_simp; first | done | with_reducible rfl⟩) ?_
        refine tkD 3 rfl (.inl ⟨by kernel_rfl, fun w hSw => by (have hlb := HSEE.out _ hSw); go_simp; first | done | with_reducible rfl⟩) ?_
        refine tkD 5 rfl (.inl ⟨by kernel_rfl, fun w hSw => by (have hlb := HSEE.out _ hSw); go_simp; first | done | with_reducible rfl⟩) ?_
        refine tkD 6 rfl (.inl ⟨by kernel_rfl, fun w hSw => by (have hlb := HSEE.out _ hSw); go_simp; first | done | with_reducible rfl⟩) ?_
        refine tkD 7 rfl (.inl ⟨by kernel_rfl, fun w hSw => by (have hlb := HSEE.out _ hSw); go_simp; first | done | with_reducible rfl⟩) ?_
        refine tkD 10 rfl (.inl ⟨by kernel_rfl, fun w hSw => by (have hlb := HSEE.out _ hSw); go_simp; first | done | with_reducible rfl⟩) ?_
        refine zq16 (rs := [4, 11]) (by kernel_rfl) (by simp) (AllReadyD.cons rfl (by kernel_rfl) (fun K hK => ?hcz5) (AllReadyD.cons rfl (by kernel_rfl) (fun K hK => ?hcz6) AllReadyD.nil))
        case' hcz5 =>
          go_simp
          (go_at_call 9; (with_reducible refine (HAZ.out _).mono ?_); rintro e' w9 ⟨rfl, rfl⟩; have hs := hHeld; (try dsimp only))
          refine hK.out _ _ (by (try dsimp only); (exact hs)) ?_
          clear hHeld hK; intro hHeld
          refine tkD 8 rfl (.inl ⟨by kernel_rfl, fun w hSw => by (have hlb := HSEE.out _ hSw); go_simp; first | done | with_reducible rfl⟩) ?_
          refine tkD 9 rfl (.inl ⟨by kernel_rfl, fun w hSw => by (have hlb := HSEE.out _ hSw); go_simp; first | done | with_reducible rfl⟩) ?_
          refine zq16 (rs := [11]) (by kernel_rfl) (by simp) (AllReadyD.cons rfl (by kernel_rfl) (fun K hK => ?hcz7) AllReadyD.nil)
          go_simp
          ((first | refine zq7 (fun X6 hBX hL6 => ?_) | refine zq3 (fun X6 hBX hL6 => ?_)); have hk9 : Below w4.heap.size w4 X6 := (by first | exact ((Below.refl _ _).drew).trans hBX | exact hBX); have hs := zq0 hk9 HW4.out.1; (try dsimp only))
          refine hK.out _ _ (by (try dsimp only); (exact hs)) ?_
          clear hHeld hK; intro hHeld
          refine zq16 (rs := [12]) (by kernel_rfl) (by simp) (AllReadyD.cons rfl (by kernel_rfl) (fun K hK => ?hcz8) AllReadyD.nil)
          (refine zq11 _ rfl (.tmp 151) (.tmp 153) rfl slByt W.heap.size (.slice (some ⟨gd, 0, none⟩) q cd) q (List.take (q * 1) (byC T.dg)) (by kernel_rfl) (zq91 (zq2 HW4.out.2.2 hk9) (Nat.le_of_lt hqn)) _ _ _ _ (by kernel_rfl) (zq28 hL6) hone1 (by unfold maxLen; omega) (by omega) (Nat.le_trans hws4 hk9.size) ?_; intro v7 w7 ho7 hg7 hown7 hnl7; clear hnl7; have hs6 := hs; have hs := (hg7.block _ (lt_of_block hs6) (fun e => hgdne e.symm)).trans hs6; have hfz : w7.frozen? ⟨Bt, 2, none⟩ = false := zq1 hs 2; have hc7 := (tb7 hs).2.2.1; obtain ⟨a7, c7, hv7, _, _⟩ := (Rd.of_own ho7).form; subst hv7; (try dsimp only))
          refine hK.out _ _ (by (try dsimp only); (exact hs)) ?_
          clear hHeld hK; intro hHeld
          refine tkD 13 rfl (.inl ⟨by kernel_rfl, fun w hSw => by (have hlb := HSEE.out _ hSw); go_simp; first | done | with_reducible rfl⟩) ?_
          refine zq16 (rs := [14]) (by kernel_rfl) (by simp) (AllReadyD.last rfl (by kernel_rfl) (fun K hK => ?hcz9) AllReadyD.nil)
          go_simp
          (skip)
          refine hK.out _ _ ?_
          clear hHeld hK
          have hHeld := True.intro
          refine wpAnyH_done (by kernel_rfl) ?_ _
          clear hHeld
          refine NoPanic.normal ?_
        case' hcz6 =>
          go_simp
          ((first | refine zq7 (fun X6 hBX hL6 => ?_) | refine zq3 (fun X6 hBX hL6 => ?_)); have hk9 : Below w4.heap.size w4 X6 := (by first | exact ((Below.refl _ _).drew).trans hBX | exact hBX); have hs := zq0 hk9 HW4.out.1; (try dsimp only))
          refine hK.out _ _ (by (try dsimp only); (exact hs)) ?_
          clear hHeld hK; intro hHeld
          refine zq16 (rs := [4]) (by kernel_rfl) (by simp) (AllReadyD.cons rfl (by kernel_rfl) (fun K hK => ?hcz10) AllReadyD.nil)
          go_simp
          (go_at_call 9; (with_reducible refine (HAZ.out _).mono ?_); rintro e' w9 ⟨rfl, rfl⟩; have hs := hHeld; (try dsimp only))
          refine hK.out _ _ (by (try dsimp only); (exact hs)) ?_
          clear hHeld hK; intro hHeld
          refine tkD 8 rfl (.inl ⟨by kernel_rfl, fun w hSw => by (have hlb := HSEE.out _ hSw); go_simp; first | done | with_reducible rfl⟩) ?_
          refine tkD 9 rfl (.inl ⟨by kernel_rfl, fun w hSw => by (have hlb := HSEE.out _ hSw); go_simp; first | done | with_reducible rfl⟩) ?_
          refine zq16 (rs := [12]) (by kernel_rfl) (by simp) (AllReadyD.cons rfl (by kernel_rfl) (fun K hK => ?hcz11) AllReadyD.nil)
          (refine zq11 _ rfl (.tmp 151) (.tmp 153) rfl slByt W.heap.size (.slice (some ⟨gd, 0, none⟩) q cd) q (List.take (q * 1) (byC T.dg)) (by kernel_rfl) (zq91 (zq2 HW4.out.2.2 hk9) (Nat.le_of_lt hqn)) _ _ _ _ (by kernel_rfl) (zq28 hL6) hone1 (by unfold maxLen; omega) (by omega) (Nat.le_trans hws4 hk9.size) ?_; intro v7 w7 ho7 hg7 hown7 hnl7; clear hnl7; have hs6 := hs; have hs := (hg7.block _ (lt_of_block hs6) (fun e => hgdne e.symm)).trans hs6; have hfz : w7.frozen? ⟨Bt, 2, none⟩ = false := zq1 hs 2; have hc7 := (tb7 hs).2.2.1; obtain ⟨a7, c7, hv7, _, _⟩ := (Rd.of_own ho7).form; subst hv7; (try dsimp only))
          refine hK.out _ _ (by (try dsimp only); (exact hs)) ?_
          clear hHeld hK; intro hHeld
          refine tkD 13 rfl (.inl ⟨by kernel_rfl, fun w hSw => by (have hlb := HSEE.out _ hSw); go_simp; first | done | with_reducible rfl⟩) ?_
          refine zq16 (rs := [14]) (by kernel_rfl) (by simp) (AllReadyD.last rfl (by kernel_rfl) (fun K hK => ?hcz12) AllReadyD.nil)
          go_simp
          (skip)
          refine hK.out _ _ ?_
          clear hHeld hK
          have hHeld := True.intro
          refine wpAnyH_done (by kernel_rfl) ?_ _
          clear hHeld
          refine NoPanic.normal ?_
        all_goals
          (try dsimp only [Exit.then])
          have hT7 : Turned (fun b => b = Bt) W (w7.setCell ⟨Bt, 2, none⟩ (.slice a7 (q + 1) c7)) := ((HW4.out.2.1.below hk9).own hg7 (fun r hr => by have e : gd = r := Option.some.inj hr; omega)).setCell ⟨Bt, 2, none⟩ _ (.inr rfl)
          have hset := zq12 hs 2 (.slice a7 (q + 1) c7)
          have ho8 := ownsRow_setCell_below ho7 (a := ⟨Bt, 2, none⟩) hBtW (.slice a7 (q + 1) c7)
          have hCl : (T.dg.take q ++ [y]).length = q + 1 := by rw [List.length_append, List.length_take, <- HND.out.1]; simp; omega
          have hCb : List.take (q * 1) (byC T.dg) ++ [Value.int .u8 y] = byC (T.dg.take q ++ [y]) := by
            unfold byC
            rw [Nat.mul_one, List.map_append, List.map_take]
            rfl
          rw [hCb, <- hCl] at ho8
          have HMD := hidep (HM0.out.digits hT7 hset (by have := HLI.out; omega) (by rw [hCl] at ho8 ⊢; exact ho8) (fun x hx => by
            rcases List.mem_append.1 hx with hx | hx
            · exact HT.out.dg.2 x (List.mem_of_mem_take hx)
            · rw [List.mem_singleton] at hx
              have := HY.out.1
              omega))
          first
            | (refine ⟨.slice (some ⟨g, 0, none⟩) n c1, ?_, ?_, ?_, ?_, ?_, ?_, HMD.out⟩ <;> kernel_rfl)
            | (refine hMK _ _ ⟨.slice (some ⟨g, 0, none⟩) n c1, ?_, ?_, ?_, ?_, ?_, ?_, HMD.out⟩ <;> kernel_rfl)
      rcases (by omega : m = 8 \/ 8 < m) with rfl | hm8
      · obtain ⟨q2, hq2⟩ : ∃ q2, Int.tdiv b 66 = q2 := ⟨_, rfl⟩
        have hq2r := zqc0 hb1 hb2
        rw [hq2] at hq2r
        have hq3 := hq2r.1
        have hq4 := hq2r.2
        obtain ⟨z, hz⟩ : ∃ z : Nat, (z : Int) = zqd q2 3 := ⟨(zqd q2 3).toNat, by have := zqe q2 3 (by decide); omega⟩
        have hzn : z < 3 := by have := zqe q2 3 (by decide); omega
        have HAZ := hidep (fun (W : World) => zq14 q2 3 W hq2r.1 hq2r.2)
        rw [<- hz] at HAZ
        have hzI : (z : Int) <= 2 := by omega
        have HMD := hidep (HM0.out.tabA (j := 3) (V' := ⟨V.a, V.b, V.d, .slice (some ⟨W.heap.size, 0, none⟩) z 2, V.n, V.e, V.s⟩) (T' := ⟨T.l0, T.l1, T.dg, [y, y].take z, T.nm, T.en, T.sw⟩) (by have := HLI.out.2; omega) (xs := [.int .u8 y, .int .u8 y]) (C := [y, y].take z) (q := z) (m := 2) (by unfold byC; rw [List.map_take]; rfl) (by omega) rfl (by decide) (fun x hx => by
          have hx := List.mem_of_mem_take hx
          have := HY.out.1
          simp only [List.mem_cons, List.not_mem_nil, or_false] at hx
          omega) rfl (fun X h1 h2 => ⟨h1.r0, h1.r1, h1.dg, h2, h1.nm, h1.en, h1.sw⟩) ⟨HOK.out.r0, HOK.out.r1, HOK.out.n0, HOK.out.n1⟩)
        obtain ⟨f0, f1, f2, f3, f4, f5, f6⟩ := tb7 HX1.out.1.2.1
        have y3 : W.frozen? ⟨Bt, 3, none⟩ = false := zq1 HX1.out.1.2.1 3
        have hBtW : Bt < W.heap.size := lt_of_block HX1.out.1.2.1
        obtain ⟨hd, hc, hn', he, hs⟩ := HVF.out
        rw [hc] at f3
        clear hz d0 d1 d2 z0 z1 z2 hd hc hn' he hs f0 f1 f2 f4 f5 f6
        go_wp2_with (go_at_call 9; refine (HAZ.out _).mono ?_; rintro e w5 ⟨rfl, rfl⟩)
        first
          | (refine ⟨.slice (some ⟨g, 0, none⟩) n c1, ?_, ?_, ?_, ?_, ?_, ?_, HMD.out⟩ <;> kernel_rfl)
          | (refine hMK _ _ ⟨.slice (some ⟨g, 0, none⟩) n c1, ?_, ?_, ?_, ?_, ?_, ?_, HMD.out⟩ <;> kernel_rfl)
      rcases (by omega : m = 9 \/ 9 < m) with rfl | hm9
      · obtain ⟨z, hz⟩ : ∃ z : Nat, (z : Int) = zqd b 6 := ⟨(zqd b 6).toNat, by have := zqe b 6 (by decide); omega⟩
        have hzn : z < 6 := by have := zqe b 6 (by decide); omega
        have HAZ := hidep (fun (W : World) => zq14 b 6 W hb1 hb2)
        rw [<- hz] at HAZ
        have hzI : (z : Int) <= 5 := by omega
        have HMD := hidep (HM0.out.tabA (j := 6) (V' := ⟨V.a, V.b, V.d, V.c, V.n, V.e, .slice (some ⟨W.heap.size, 0, none⟩) z 5⟩) (T' := ⟨T.l0, T.l1, T.dg, T.cp, T.nm, T.en, [1, 2, 3, 4, 5].take z⟩) (by have := HLI.out.2; omega) (xs := [.int .u8 1, .int .u8 2, .int .u8 3, .int .u8 4, .int .u8 5]) (C := [1, 2, 3, 4, 5].take z) (q := z) (m := 5) (by unfold byC; rw [List.map_take]; rfl) (by omega) rfl (by decide) (fun x hx => by
          have hx := List.mem_of_mem_take hx
          have := HY.out.1
          simp only [List.mem_cons, List.not_mem_nil, or_false] at hx
          omega) rfl (fun X h1 h2 => ⟨h1.r0, h1.r1, h1.dg, h1.cp, h1.nm, h1.en, h2⟩) ⟨HOK.out.r0, HOK.out.r1, HOK.out.n0, HOK.out.n1⟩)
        obtain ⟨f0, f1, f2, f3, f4, f5, f6⟩ := tb7 HX1.out.1.2.1
        have y6 : W.frozen? ⟨Bt, 6, none⟩ = false := zq1 HX1.out.1.2.1 6
        have hBtW : Bt < W.heap.size := lt_of_block HX1.out.1.2.1
        obtain ⟨hd, hc, hn', he, hs⟩ := HVF.out
        rw [hs] at f6
        clear hz d0 d1 d2 z0 z1 z2 hd hc hn' he hs f0 f1 f2 f3 f4 f5
        go_wp2_with (go_at_call 9; refine (HAZ.out _).mono ?_; rintro e w5 ⟨rfl, rfl⟩)
        first
          | (refine ⟨.slice (some ⟨g, 0, none⟩) n c1, ?_, ?_, ?_, ?_, ?_, ?_, HMD.out⟩ <;> kernel_rfl)
          | (refine hMK _ _ ⟨.slice (some ⟨g, 0, none⟩) n c1, ?_, ?_, ?_, ?_, ?_, ?_, HMD.out⟩ <;> kernel_rfl)
      obtain rfl : m = 10 := by have := HY.out.2.1; omega
      · obtain ⟨z, hz⟩ : ∃ z : Nat, (z : Int) = zqd b 4 := ⟨(zqd b 4).toNat, by have := zqe b 4 (by decide); omega⟩
        have hzn : z < 4 := by have := zqe b 4 (by decide); omega
        have HAZ := hidep (fun (W : World) => zq14 b 4 W hb1 hb2)
        rw [<- hz] at HAZ
        have HTX := hidep (fun (x : ByteArray) (hx : x.size <= 100000) (o : Obj) => HM0.out.txtA HLI.out.1 (by have := HLI.out.2; omega) x hx o)
        clear hz d1 d2 z1 z2
        rcases (by omega : z = 0 \/ z = 1 \/ z = 2 \/ z = 3) with rfl | rfl | rfl | rfl
        all_goals
          go_wp2_with (go_at_call 9; refine (HAZ.out _).mono ?_; rintro e w5 ⟨rfl, rfl⟩)
          first
            | (refine ⟨.slice (some ⟨g, 0, none⟩) n c1, ?_, ?_, ?_, ?_, ?_, ?_, HTX.out _ (by decide) _⟩ <;> kernel_rfl)
            | (refine hMK _ _ ⟨.slice (some ⟨g, 0, none⟩) n c1, ?_, ?_, ?_, ?_, ?_, ?_, HTX.out _ (by decide) _⟩ <;> kernel_rfl)
    rintro ⟨tm, ds⟩ W ⟨v, hts, hds, e4, e8, e9, e10, hM⟩
    dsimp only at hts hds e4 e8 e9 e10
    subst hds
    rw [zq38 tm _ hts, e4, e8, e9, e10]
    clear e4 e8 e9 e10 hts HAY HAM
    (try apply_assumption)
    obtain ⟨V2, T2, L2, hbl, htb, hrb, hru, hL2, hti, hok2⟩ := hM
    have hTW := hti W (Nat.le_refl _) (fun _ _ _ => rfl)
    obtain ⟨aa, ac, ea', -, -⟩ := hTW.r0.form
    obtain ⟨ba, bc, eb', -, -⟩ := hTW.r1.form
    obtain ⟨da2, dc2, ed', -, -⟩ := hTW.dg.1.form
    obtain ⟨ca2, cc2, ec', -, -⟩ := hTW.cp.1.form
    obtain ⟨na2, nc2, en', -, -⟩ := hTW.nm.1.form
    obtain ⟨ea2, ec2, ee', -, -⟩ := hTW.en.1.form
    obtain ⟨sa2, sc2, es', -, -⟩ := hTW.sw.1.form
    have hXs : ∀ b, (b = Bt \/ b = Br) -> b < X.heap.size := by
      rintro b (rfl | rfl)
      · exact lt_of_block HXX.out.2.1
      · exact lt_of_block HXX.out.2.2
    have HRU := hidep (fun (W' : World) h1 h2 => hru.stable (W' := W') hXs h1 h2)
    obtain ⟨va2, vc2, rfl, -, -⟩ := hru.rules.form
    rw [ea', eb', ed', ec', en', ee', es'] at htb
    obtain ⟨us2, -, -, -, hro⟩ := hru
    have HM := hidep (And.intro hbl (And.intro hok2 (And.intro (And.intro htb hrb) (And.intro hro hL2))))
    have HTI := hidep hti
    have HF := hidep (And.intro ea' (And.intro eb' (And.intro ed' (And.intro ec' (And.intro en' (And.intro ee' es'))))))
    clear hTW ea' eb' ed' ec' en' ee' es' hXs htb hrb hro hL2 hbl hok2 hti
    rcases (by omega : k = 0 \/ k = 1) with rfl | rfl
    · have c0 := (tb7 HM.out.2.2.1.1).1
      have z0 : W.frozen? ⟨Bt, 0, none⟩ = false := zq1 HM.out.2.2.1.1 0
      go_upto_region 36 with (fail)
      have hw2 : (W.setCell ⟨Bt, 0, none⟩ (.slice va2 L2.length vc2)).heap[Bt]? = some (.cells #[.slice va2 L2.length vc2, .slice ba T2.l1.length bc, .slice da2 T2.dg.length dc2, .slice ca2 T2.cp.length cc2, .slice na2 T2.nm.length nc2, .slice ea2 T2.en.length ec2, .slice sa2 T2.sw.length sc2] 29) := zq12 HM.out.2.2.1.1 0 (.slice va2 L2.length vc2)
      have htu2 := (Turned.refl (fun x => x = Bt) W).setCell ⟨Bt, 0, none⟩ (.slice va2 L2.length vc2) (.inr rfl)
      have hr2 := htu2.cells HM.out.2.2.1.2 (fun e => by have := HB.out; omega)
      generalize W.setCell ⟨Bt, 0, none⟩ (.slice va2 L2.length vc2) = W2 at hw2 htu2 hr2 ⊢
      have HR2 := hidep hr2
      have HTU2 := hidep htu2
      obtain ⟨f0, f1, f2, f3, f4, f5, f6⟩ := tb7 hw2
      obtain ⟨r0, r1, r2, r3, r4, r5, r6⟩ := tb7 hr2
      have z0 : W2.frozen? ⟨Br, 0, none⟩ = false := zq1 hr2 0
      have z1 : W2.frozen? ⟨Br, 1, none⟩ = false := zq1 hr2 1
      have z2 : W2.frozen? ⟨Br, 2, none⟩ = false := zq1 hr2 2
      have z3 : W2.frozen? ⟨Br, 3, none⟩ = false := zq1 hr2 3
      have z4 : W2.frozen? ⟨Br, 4, none⟩ = false := zq1 hr2 4
      have z5 : W2.frozen? ⟨Br, 5, none⟩ = false := zq1 hr2 5
      have z6 : W2.frozen? ⟨Br, 6, none⟩ = false := zq1 hr2 6
      clear hw2 htu2 hr2 c0
      go_wp2
      have hset := zq7d HR2.out (.slice va2 L2.length vc2) (.slice ba T2.l1.length bc) (.slice da2 T2.dg.length dc2) (.slice ca2 T2.cp.length cc2) (.slice na2 T2.nm.length nc2) (.slice ea2 T2.en.length ec2) (.slice sa2 T2.sw.length sc2)
      have htu := zq65 W2 Br (.slice va2 L2.length vc2) (.slice ba T2.l1.length bc) (.slice da2 T2.dg.length dc2) (.slice ca2 T2.cp.length cc2) (.slice na2 T2.nm.length nc2) (.slice ea2 T2.en.length ec2) (.slice sa2 T2.sw.length sc2)
      unfold set7 at hset htu
      refine bodyPost_ret (zq44 rfl _ _ _ rfl (run_loadVar_row (P := Tryz.prog) _ Br 29 29 _ _ _ hset zq39.1.choose_spec rfl zq39.2)) rfl ?_
      have hbw := zq19 (zq19 HM.out.1 (Nat.le_refl _) HTU2.out (fun b hb => by rw [hb]; have := HB.out; omega)) (Nat.le_refl _) htu (fun b hb => by rw [hb]; have := HB.out; omega)
      have hsz := Nat.le_trans HTU2.out.size htu.size
      have hag : ∀ b, b < W.heap.size -> ¬ (b = Bt \/ b = Br) -> _ := fun b hb hn => (htu.block b (Nat.lt_of_lt_of_le hb HTU2.out.size) (fun e => hn (.inr e))).trans (HTU2.out.block b hb (fun e => hn (.inl e)))
      have hT3 := HTI.out _ hsz hag
      have hR3 := HRU.out _ hsz hag
      have q0 := hT3.r0
      rw [HF.out.1] at q0
      have q1 := hT3.r1
      rw [HF.out.2.1] at q1
      have q2 := hT3.dg
      rw [HF.out.2.2.1] at q2
      have q3 := hT3.cp
      rw [HF.out.2.2.2.1] at q3
      have q4 := hT3.nm
      rw [HF.out.2.2.2.2.1] at q4
      have q5 := hT3.en
      rw [HF.out.2.2.2.2.2.1] at q5
      have q6 := hT3.sw
      rw [HF.out.2.2.2.2.2.2] at q6
      refine ⟨⟨(.slice va2 L2.length vc2), (.slice ba T2.l1.length bc), (.slice da2 T2.dg.length dc2), (.slice ca2 T2.cp.length cc2), (.slice na2 T2.nm.length nc2), (.slice ea2 T2.en.length ec2), (.slice sa2 T2.sw.length sc2)⟩, ⟨L2, T2.l1, T2.dg, T2.cp, T2.nm, T2.en, T2.sw⟩, (by kernel_rfl), ⟨hR3, q1, q2, q3, q4, q5, q6⟩, ⟨HM.out.2.2.2.1, HM.out.2.1.r1, by have := HM.out.2.2.2.2; simp only; omega, HM.out.2.1.n1⟩, hbw⟩
    · have c1 := (tb7 HM.out.2.2.1.1).2.1
      have z1 : W.frozen? ⟨Bt, 1, none⟩ = false := zq1 HM.out.2.2.1.1 1
      go_upto_region 36 with (fail)
      have hw2 : (W.setCell ⟨Bt, 1, none⟩ (.slice va2 L2.length vc2)).heap[Bt]? = some (.cells #[.slice aa T2.l0.length ac, .slice va2 L2.length vc2, .slice da2 T2.dg.length dc2, .slice ca2 T2.cp.length cc2, .slice na2 T2.nm.length nc2, .slice ea2 T2.en.length ec2, .slice sa2 T2.sw.length sc2] 29) := zq12 HM.out.2.2.1.1 1 (.slice va2 L2.length vc2)
      have htu2 := (Turned.refl (fun x => x = Bt) W).setCell ⟨Bt, 1, none⟩ (.slice va2 L2.length vc2) (.inr rfl)
      have hr2 := htu2.cells HM.out.2.2.1.2 (fun e => by have := HB.out; omega)
      generalize W.setCell ⟨Bt, 1, none⟩ (.slice va2 L2.length vc2) = W2 at hw2 htu2 hr2 ⊢
      have HR2 := hidep hr2
      have HTU2 := hidep htu2
      obtain ⟨f0, f1, f2, f3, f4, f5, f6⟩ := tb7 hw2
      obtain ⟨r0, r1, r2, r3, r4, r5, r6⟩ := tb7 hr2
      have z0 : W2.frozen? ⟨Br, 0, none⟩ = false := zq1 hr2 0
      have z1 : W2.frozen? ⟨Br, 1, none⟩ = false := zq1 hr2 1
      have z2 : W2.frozen? ⟨Br, 2, none⟩ = false := zq1 hr2 2
      have z3 : W2.frozen? ⟨Br, 3, none⟩ = false := zq1 hr2 3
      have z4 : W2.frozen? ⟨Br, 4, none⟩ = false := zq1 hr2 4
      have z5 : W2.frozen? ⟨Br, 5, none⟩ = false := zq1 hr2 5
      have z6 : W2.frozen? ⟨Br, 6, none⟩ = false := zq1 hr2 6
      clear hw2 htu2 hr2 c1
      go_wp2
      have hset := zq7d HR2.out (.slice aa T2.l0.length ac) (.slice va2 L2.length vc2) (.slice da2 T2.dg.length dc2) (.slice ca2 T2.cp.length cc2) (.slice na2 T2.nm.length nc2) (.slice ea2 T2.en.length ec2) (.slice sa2 T2.sw.length sc2)
      have htu := zq65 W2 Br (.slice aa T2.l0.length ac) (.slice va2 L2.length vc2) (.slice da2 T2.dg.length dc2) (.slice ca2 T2.cp.length cc2) (.slice na2 T2.nm.length nc2) (.slice ea2 T2.en.length ec2) (.slice sa2 T2.sw.length sc2)
      unfold set7 at hset htu
      refine bodyPost_ret (zq44 rfl _ _ _ rfl (run_loadVar_row (P := Tryz.prog) _ Br 29 29 _ _ _ hset zq39.1.choose_spec rfl zq39.2)) rfl ?_
      have hbw := zq19 (zq19 HM.out.1 (Nat.le_refl _) HTU2.out (fun b hb => by rw [hb]; have := HB.out; omega)) (Nat.le_refl _) htu (fun b hb => by rw [hb]; have := HB.out; omega)
      have hsz := Nat.le_trans HTU2.out.size htu.size
      have hag : ∀ b, b < W.heap.size -> ¬ (b = Bt \/ b = Br) -> _ := fun b hb hn => (htu.block b (Nat.lt_of_lt_of_le hb HTU2.out.size) (fun e => hn (.inr e))).trans (HTU2.out.block b hb (fun e => hn (.inl e)))
      have hT3 := HTI.out _ hsz hag
      have hR3 := HRU.out _ hsz hag
      have q0 := hT3.r0
      rw [HF.out.1] at q0
      have q1 := hT3.r1
      rw [HF.out.2.1] at q1
      have q2 := hT3.dg
      rw [HF.out.2.2.1] at q2
      have q3 := hT3.cp
      rw [HF.out.2.2.2.1] at q3
      have q4 := hT3.nm
      rw [HF.out.2.2.2.2.1] at q4
      have q5 := hT3.en
      rw [HF.out.2.2.2.2.2.1] at q5
      have q6 := hT3.sw
      rw [HF.out.2.2.2.2.2.2] at q6
      refine ⟨⟨(.slice aa T2.l0.length ac), (.slice va2 L2.length vc2), (.slice da2 T2.dg.length dc2), (.slice ca2 T2.cp.length cc2), (.slice na2 T2.nm.length nc2), (.slice ea2 T2.en.length ec2), (.slice sa2 T2.sw.length sc2)⟩, ⟨T2.l0, L2, T2.dg, T2.cp, T2.nm, T2.en, T2.sw⟩, (by kernel_rfl), ⟨q0, hR3, q2, q3, q4, q5, q6⟩, ⟨HM.out.2.1.r0, HM.out.2.2.2.1, HM.out.2.1.n0, by have := HM.out.2.2.2.2; simp only; omega⟩, hbw⟩
end Go.Proofs.YtcfjepcflanjbaaGreat
