/- Contracts: the reference's All, Read and SameAll; the law's helper same. -/
import Derived.Test.YtcfjepcflanjbaaGreatBr02
import Derived.Test.YtcfjepcflanjbaaGreatBr50
import Derived.Test.YtcfjepcflanjbaaGreatBr52
import Derived.Test.YtcfjepcflanjbaaGreatBr36
import Derived.Test.YtcfjepcflanjbaaGreatBr34
import Derived.Test.YtcfjepcflanjbaaGreatBr11
import Derived.Test.YtcfjepcflanjbaaGreatBr38
namespace Go.Proofs.YtcfjepcflanjbaaGreat
open Go.RowKit Go.Lab Go.Shelf
set_option maxRecDepth 100000
set_option maxHeartbeats 4000000 in
theorem allR_any (V : TabV) (T : TabZ) (cv : Value) (C : List Int) (most : Int) (w : World) (hT : TabIn w V T) (hok : TabOk T) (hC : BysAt w cv C) :
    Calls Tryz.prog 43 #[V.v, cv, .int .i64 most] w fun e w' => ∃ v, e = .returned (.tuple #[v, .int .i64 (allZ T C most).2]) /\ SymssAt w' v (allZ T C most).1 /\ Below w.heap.size w w' := by
  have HCK := hidep (fun W (hW : Below w.heap.size w W) => zq93 V T cv C W (hT.below hW) hok (hC.below hW))
  obtain ⟨ca, cc, rfl, hcc, hcm⟩ := hC.1.form
  unfold maxLen at hcm
  have HT := hidep (And.intro hT (And.intro hok hC))
  obtain ⟨E, hE⟩ : ∃ E, E = zq29 T C := ⟨_, rfl⟩
  have HE := hidep hE
  have HAZ := hidep (show allZ T C most = if E ≠ 0 then ([], E) else if most < 1 \/ 64 < most then ([], 1) else (txtZ T C most.toNat 0 pl0, 0) from by rw [hE]; rfl)
  rw [<- hE] at HCK
  obtain ⟨R, hR⟩ : ∃ R, R = allZ T C most := ⟨_, rfl⟩
  rw [<- hR] at HAZ ⊢
  obtain ⟨n, hn⟩ : ∃ n, n = C.length := ⟨_, rfl⟩
  have HN := hidep hn
  rw [<- hn] at hcc HCK ⊢
  unfold TabV.v at HCK ⊢
  clear hT hok hC hE hn hR
  go_enter Tryz.func43, Tryz.ntmps43
  go_upto_region 1 with (fail)
  obtain ⟨Bt, hBt⟩ : ∃ B, B = w.heap.size := ⟨_, rfl⟩
  refine zq9 (fun X => TbX w V Bt X) ⟨(Below.refl _ _).alloc (Nat.le_refl _) _, by rw [hBt]; exact heap_alloc_new _ _⟩ ?_
  intro X hX
  rw [<- hBt]
  have HX := hidep hX
  obtain ⟨q0, q1, q2, q3, q4, q5, q6⟩ := tab7 hX
  clear hX hBt
  by_cases hE0 : E = 0
  case neg =>
    have hne : (E != 0) = true := by simp [hE0]
    have HF := hidep (HAZ.out.trans (if_pos hE0))
    clear hE0
    go_wp2_with (go_at_call 71; refine (HCK.out _ HX.out.1).mono ?_; rintro e w1 ⟨rfl, hb1⟩)
    go_ret2
    exact ⟨_, by rw [HF.out]; rfl, by rw [HF.out]; exact SymssAt.nil _, HX.out.1.trans (hb1.mono HX.out.1.size)⟩
  have hne : (E != 0) = false := by simp [hE0]
  have hz := HE.out
  rw [hE0] at hz
  have HVZ := hidep (zq7e hz.symm)
  have HA2 := hidep (HAZ.out.trans (if_neg (fun h => h hE0)))
  clear hE0 hz
  go_upto_region 4 with (go_at_call 71; refine (HCK.out _ HX.out.1).mono ?_; rintro e w1 ⟨rfl, hb1⟩)
  have hX1 := HX.out.below hb1
  have HX1 := hidep hX1
  obtain ⟨q0, q1, q2, q3, q4, q5, q6⟩ := tab7 hX1
  clear hX1 hb1
  by_cases hm1 : most < 1
  · have HF := hidep (HA2.out.trans (if_pos (.inl hm1)))
    go_wp2
    go_ret2
    exact ⟨_, by rw [HF.out]; rfl, by rw [HF.out]; exact SymssAt.nil _, HX1.out.1⟩
  by_cases hm2 : most > 64
  · have HF := hidep (HA2.out.trans (if_pos (.inr (by omega))))
    go_wp2
    go_ret2
    exact ⟨_, by rw [HF.out]; rfl, by rw [HF.out]; exact SymssAt.nil _, HX1.out.1⟩
  have HF := hidep (HA2.out.trans (if_neg (by omega)))
  obtain ⟨m, rfl⟩ : ∃ m : Nat, most = (m : Int) := ⟨most.toNat, by omega⟩
  rw [Int.toNat_natCast] at HF
  have HTX := hidep (show Calls Tryz.prog 72 #[.agg #[V.a, V.b, V.d, V.c, V.n, V.e, V.s], .slice ca n cc, .int .i64 (m : Nat)] w1 (fun e w' => ∃ v, e = .returned v /\ SymssAt w' v (txtZ T C m 0 pl0) /\ Below w1.heap.size w1 w') from by
    rw [HN.out]
    exact textsR_any V T (.slice ca C.length cc) C m w1 (HT.out.1.below HX1.out.1) HT.out.2.1 HVZ.out.1 (HT.out.2.2.below HX1.out.1) HVZ.out.2 (by omega) (by omega))
  go_wp2_with (go_at_call 72; refine HTX.out.mono ?_; rintro e w5 ⟨v5, rfl, hs5, hb5⟩; obtain ⟨a5, c5, rfl, -, -⟩ := hs5.form)
  go_ret2
  exact ⟨_, by rw [HF.out]; rfl, by rw [HF.out]; exact hs5, HX1.out.1.trans (hb5.mono HX1.out.1.size)⟩
set_option maxHeartbeats 4000000 in
theorem readR_any (V : TabV) (T : TabZ) (cv : Value) (C : List Int) (w : World) (hT : TabIn w V T) (hok : TabOk T) (hC : BysAt w cv C) :
    Calls Tryz.prog 35 #[V.v, cv] w fun e w' => ∃ v, e = .returned (.tuple #[v, .int .i64 (readZ T C).2]) /\ SymsAt w' v (readZ T C).1 /\ Below w.heap.size w w' := by
  have HCK := hidep (fun W (hW : Below w.heap.size w W) => zq93 V T cv C W (hT.below hW) hok (hC.below hW))
  obtain ⟨ca, cc, rfl, hcc, hcm⟩ := hC.1.form
  unfold maxLen at hcm
  have HT := hidep (And.intro hT (And.intro hok hC))
  obtain ⟨E, hE⟩ : ∃ E, E = zq29 T C := ⟨_, rfl⟩
  have HE := hidep hE
  obtain ⟨L, hL⟩ : ∃ L, L = txtZ T C 2 0 pl0 := ⟨_, rfl⟩
  have HAZ := hidep (show readZ T C = if E ≠ 0 then ([], E) else if L.length = 0 then ([], 2) else if L.length = 1 then (L.getD 0 [], 0) else ([], 17) from by rw [hE, hL]; rfl)
  have HLL := hidep hL
  rw [<- hE] at HCK
  obtain ⟨R, hR⟩ : ∃ R, R = readZ T C := ⟨_, rfl⟩
  rw [<- hR] at HAZ ⊢
  obtain ⟨n, hn⟩ : ∃ n, n = C.length := ⟨_, rfl⟩
  have HN := hidep hn
  rw [<- hn] at hcc HCK ⊢
  unfold TabV.v at HCK ⊢
  clear hT hok hC hE hn hR hL
  go_enter Tryz.func35, Tryz.ntmps35
  go_upto_region 1 with (fail)
  obtain ⟨Bt, hBt⟩ : ∃ B, B = w.heap.size := ⟨_, rfl⟩
  refine zq9 (fun X => TbX w V Bt X) ⟨(Below.refl _ _).alloc (Nat.le_refl _) _, by rw [hBt]; exact heap_alloc_new _ _⟩ ?_
  intro X hX
  rw [<- hBt]
  have HX := hidep hX
  obtain ⟨q0, q1, q2, q3, q4, q5, q6⟩ := tab7 hX
  clear hX hBt
  by_cases hE0 : E = 0
  case neg =>
    have hne : (E != 0) = true := by simp [hE0]
    have HF := hidep (HAZ.out.trans (if_pos hE0))
    clear hE0
    go_wp2_with (go_at_call 71; refine (HCK.out _ HX.out.1).mono ?_; rintro e w1 ⟨rfl, hb1⟩)
    go_ret2
    exact ⟨_, by rw [HF.out]; rfl, by rw [HF.out]; exact SymsAt.nil _, HX.out.1.trans (hb1.mono HX.out.1.size)⟩
  have hne : (E != 0) = false := by simp [hE0]
  have hz := HE.out
  rw [hE0] at hz
  have HVZ := hidep (zq7e hz.symm)
  have HA2 := hidep (HAZ.out.trans (if_neg (fun h => h hE0)))
  clear hE0 hz
  go_upto_region 4 with (go_at_call 71; refine (HCK.out _ HX.out.1).mono ?_; rintro e w1 ⟨rfl, hb1⟩)
  have hX1 := HX.out.below hb1
  have HX1 := hidep hX1
  obtain ⟨q0, q1, q2, q3, q4, q5, q6⟩ := tab7 hX1
  clear hX1 hb1
  have HTX := hidep (show Calls Tryz.prog 72 #[.agg #[V.a, V.b, V.d, V.c, V.n, V.e, V.s], .slice ca n cc, .int .i64 2] w1 (fun e w' => ∃ v, e = .returned v /\ SymssAt w' v L /\ Below w1.heap.size w1 w') from by
    rw [HN.out, HLL.out]
    exact textsR_any V T (.slice ca C.length cc) C 2 w1 (HT.out.1.below HX1.out.1) HT.out.2.1 HVZ.out.1 (HT.out.2.2.below HX1.out.1) HVZ.out.2 (by omega) (by omega))
  go_upto_region 5 with (go_at_call 72; refine HTX.out.mono ?_; rintro e w5 ⟨v5, rfl, hs5, hb5⟩; obtain ⟨a5, c5, rfl, -, -⟩ := hs5.form)
  have HB5 := hidep (HX1.out.1.trans (hb5.mono HX1.out.1.size))
  have HS5 := hidep hs5
  clear hb5 HTX q0 q1 q2 q3 q4 q5 q6
  by_cases hl0 : L.length = 0
  · have HF := hidep (HA2.out.trans (if_pos hl0))
    have hle : ((L.length : Int) == 0) = true := by simp [hl0]
    clear hs5
    obtain ⟨ln, hln⟩ : ∃ x, x = L.length := ⟨_, rfl⟩
    rw [<- hln] at hle HS5 ⊢
    clear hln hl0
    go_wp2
    go_ret2
    exact ⟨_, by rw [HF.out]; rfl, by rw [HF.out]; exact SymsAt.nil _, HB5.out⟩
  · have HA3 := hidep (HA2.out.trans (if_neg hl0))
    have hle : ((L.length : Int) == 0) = false := by rw [beq_eq_false_iff_ne]; omega
    by_cases hl1 : L.length = 1
    · have HF := hidep (HA3.out.trans (if_pos hl1))
      have hle1 : ¬ (L.length : Int) > 1 := by omega
      obtain ⟨b, off, u, rfl, hb, hc, hu⟩ := hs5.at (k := 0) (by omega)
      obtain ⟨ua, uc, rfl, -, -⟩ := hu.form
      have HU := hidep (show SymsAt w5 (.slice ua L[0].length uc) (L.getD 0 []) from by rw [zq45 L [] (by omega)]; exact hu)
      obtain ⟨ul, hul⟩ : ∃ x, x = L[0].length := ⟨_, rfl⟩
      rw [<- hul] at hc HU
      rw [Nat.add_zero] at hc
      have hlp : (0 : Int) < (L.length : Int) := by omega
      clear hs5 hu hul
      obtain ⟨ln, hln⟩ : ∃ x, x = L.length := ⟨_, rfl⟩
      rw [<- hln] at hle hle1 hlp HS5 ⊢
      clear hln hl0 hl1
      go_wp2
      go_ret2
      exact ⟨_, by rw [HF.out]; rfl, by rw [HF.out]; exact HU.out, HB5.out⟩
    · have HF := hidep (HA3.out.trans (if_neg hl1))
      have hle1 : (L.length : Int) > 1 := by omega
      clear hs5
      obtain ⟨ln, hln⟩ : ∃ x, x = L.length := ⟨_, rfl⟩
      rw [<- hln] at hle hle1 HS5 ⊢
      clear hln hl0 hl1
      go_wp2
      go_ret2
      exact ⟨_, by rw [HF.out]; rfl, by rw [HF.out]; exact SymsAt.nil _, HB5.out⟩
def SaI (w : World) (n : Nat) (u : Value) (W : World) : Prop := ∃ i : Nat, i <= n /\ u = .int .i64 (i : Nat) /\ Below w.heap.size w W
theorem frame27 (t : Array Value) (ds : List Deferred) (h : t.size = 27) : ({ tmps := t, defers := ds } : Act) = { tmps := #[slot t 0, slot t 1, slot t 2, slot t 3, slot t 4, slot t 5, slot t 6, slot t 7, slot t 8, slot t 9, slot t 10, slot t 11, slot t 12, slot t 13, slot t 14, slot t 15, slot t 16, slot t 17, slot t 18, slot t 19, slot t 20, slot t 21, slot t 22, slot t 23, slot t 24, slot t 25, slot t 26], defers := ds } :=
  (congrArg (fun x => ({ tmps := x, defers := ds } : Act)) (zq1e h)).trans (by kernel_rfl)
set_option maxHeartbeats 2000000 in
theorem sameAll_true (v u : Value) (L : List (List Sym)) (w : World) (hv : SymssAt w v L) (hu : SymssAt w u L) (hL : L.length <= 100000) :
    Calls Tryz.prog 46 #[v, u] w fun e w' => e = .returned (.bool true) /\ Below w.heap.size w w' := by
  obtain ⟨a, c, rfl, -, -⟩ := hv.form
  obtain ⟨b, d, rfl, -, -⟩ := hu.form
  have HV := hidep (And.intro hv hu)
  obtain ⟨n, hn⟩ : ∃ n, n = L.length := ⟨_, rfl⟩
  have HN := hidep hn
  rw [<- hn] at hL ⊢
  have hnn : ((n : Int) != (n : Int)) = false := by simp
  clear hv hu hn
  go_enter Tryz.func46, Tryz.ntmps46
  go_upto_region 4 with (fail)
  refine wp_loop (LoopI 27 (fun tm ds wr => (slot tm 0) = .slice a n c /\ (slot tm 1) = .slice b n d /\ ds = [] /\ SaI w n (slot tm 5) wr)) (fun a' wr => n - natI (a'.tmps.getD 5 undef)) ?liStart ?liRound
  case' liStart => refine LoopI.mk rfl ?_
  case' liRound => (rintro ⟨t, ds⟩ wr ⟨hts, hrel⟩; dsimp only at hts hrel; rw [frame27 t ds hts])
  case liStart => exact ⟨rfl, rfl, rfl, 0, Nat.zero_le _, rfl, Below.refl _ _⟩
  obtain ⟨e0, e1, hds, i, hi, e5, hbw⟩ := hrel
  subst hds
  rw [e0, e1, e5]
  clear e0 e1 e5 hts
  have HBW := hidep hbw
  have hiw : IntKind.i64.wrap ((i : Int) + 1) = (i : Int) + 1 := IntWalk.i64_in _ (by omega)
  by_cases hin : i < n
  · have hiI : (i : Int) < (n : Int) := by omega
    have hiL : i < L.length := by rw [<- HN.out]; exact hin
    have h1 := HV.out.1.below hbw
    have h2 := HV.out.2.below hbw
    obtain ⟨b1, o1, x1, ha1, -, hc1, hs1⟩ := h1.at hiL
    obtain ⟨b2, o2, x2, ha2, -, hc2, hs2⟩ := h2.at hiL
    subst ha1 ha2
    obtain ⟨y1, z1, hx1, -, -⟩ := hs1.form
    obtain ⟨y2, z2, hx2, -, -⟩ := hs2.form
    subst hx1 hx2
    have HSS := hidep (fun (k : Nat) => sameSyms_any _ _ L[i] L[i] (wr.drewN k) (hs1.below (zq6 (Below.refl _ _) _)) (hs2.below (zq6 (Below.refl _ _) _)))
    rw [decide_eq_true rfl] at HSS
    obtain ⟨ln, hln⟩ : ∃ x, x = L[i].length := ⟨_, rfl⟩
    rw [<- hln] at hc1 hc2 HSS
    clear h1 h2 hs1 hs2 hln hbw
    go_upto_region 6 with (fail)
    go_quiet ((go_at_call 38; refine (HSS.out _).mono ?_; rintro e w' ⟨rfl, n1, rfl⟩; exact ⟨rfl, _, World.drewN_drewN ..⟩))
    (try dsimp only [Exit.inBlock, Exit.then])
    try apply_assumption
    go_wp2
    refine ⟨LoopI.mk (by kernel_rfl) ⟨by kernel_rfl, by kernel_rfl, rfl, i + 1, by omega, by kernel_rfl, HBW.out.trans ((zq6 (Below.refl _ _) _).mono HBW.out.size)⟩, ?_⟩
    show n - _ < n - _
    simp [natI]; omega
  · have hiI : ¬ (i : Int) < (n : Int) := by omega
    go_wp2
    go_ret
    exact ⟨rfl, HBW.out⟩
end Go.Proofs.YtcfjepcflanjbaaGreat
/- Contract: the law's helper same: both packages answer the same. -/
namespace Go.Proofs.YtcfjepcflanjbaaGreat
open Go.RowKit Go.Lab Go.Shelf
set_option maxRecDepth 100000
theorem allZ_len (T : TabZ) (C : List Int) (most : Int) : (allZ T C most).1.length <= 64 := by
  unfold allZ
  split
  · exact Nat.zero_le _
  · rename_i h1
    split
    · exact Nat.zero_le _
    · rename_i h2
      have hz := zq7e (T := T) (C := C) (by omega)
      have := zqaf (T := T) (C := C) (most := most.toNat) hz.1 zqa2 (Nat.zero_le _)
      show (txtZ T C most.toNat 0 pl0).length <= 64
      omega
set_option maxHeartbeats 4000000 in
theorem zq87 (V : TabV) (T : TabZ) (cv : Value) (C : List Int) (most : Int) (w : World) (hT : TabIn w V T) (hok : TabOk T) (hC : BysAt w cv C) :
    Calls Tryz.prog 18 #[V.v, cv, .int .i64 most] w fun e w' => e = .returned (.bool true) /\ Below w.heap.size w w' := by
  obtain ⟨ca, cc, rfl, hcc, hcm⟩ := hC.1.form
  have HA1 := hidep (show ∀ Z : World, Below w.heap.size w Z -> Calls Tryz.prog 42 #[.agg #[V.a, V.b, V.d, V.c, V.n, V.e, V.s], .slice ca C.length cc, .int .i64 most] Z _ from fun Z hZ => allC_any V T (.slice ca C.length cc) C most Z (hT.below hZ) hok (hC.below hZ))
  have HA2 := hidep (show ∀ Z : World, Below w.heap.size w Z -> Calls Tryz.prog 43 #[.agg #[V.a, V.b, V.d, V.c, V.n, V.e, V.s], .slice ca C.length cc, .int .i64 most] Z _ from fun Z hZ => allR_any V T (.slice ca C.length cc) C most Z (hT.below hZ) hok (hC.below hZ))
  have HR1 := hidep (show ∀ Z : World, Below w.heap.size w Z -> Calls Tryz.prog 30 #[.agg #[V.a, V.b, V.d, V.c, V.n, V.e, V.s], .slice ca C.length cc] Z _ from fun Z hZ => zqc3 V T (.slice ca C.length cc) C Z (hT.below hZ) hok (hC.below hZ))
  have HR2 := hidep (show ∀ Z : World, Below w.heap.size w Z -> Calls Tryz.prog 35 #[.agg #[V.a, V.b, V.d, V.c, V.n, V.e, V.s], .slice ca C.length cc] Z _ from fun Z hZ => readR_any V T (.slice ca C.length cc) C Z (hT.below hZ) hok (hC.below hZ))
  have HG1 := hidep (show ∀ Z : World, Below w.heap.size w Z -> Calls Tryz.prog 44 #[.agg #[V.a, V.b, V.d, V.c, V.n, V.e, V.s], .slice ca C.length cc] Z _ from fun Z hZ => goodC_any V T (.slice ca C.length cc) C Z (hT.below hZ) hok (hC.below hZ))
  have HG2 := hidep (show ∀ Z : World, Below w.heap.size w Z -> Calls Tryz.prog 45 #[.agg #[V.a, V.b, V.d, V.c, V.n, V.e, V.s], .slice ca C.length cc] Z _ from fun Z hZ => goodR_any V T (.slice ca C.length cc) C Z (hT.below hZ) hok (hC.below hZ))
  have HAL := hidep (allZ_len T C most)
  obtain ⟨A, hA⟩ : ∃ A, A = allZ T C most := ⟨_, rfl⟩
  obtain ⟨R, hR⟩ : ∃ R, R = readZ T C := ⟨_, rfl⟩
  obtain ⟨G, hG⟩ : ∃ G : Int, G = if zq29 T C = 0 then (goodZ T C : Int) else 0 := ⟨_, rfl⟩
  obtain ⟨E, hE⟩ : ∃ E, E = zq29 T C := ⟨_, rfl⟩
  rw [<- hA] at HA1 HA2 HAL
  rw [<- hR] at HR1 HR2
  rw [<- hG, <- hE] at HG1 HG2
  clear hA hR hG hE
  obtain ⟨AL, AE⟩ := A
  obtain ⟨RL, RE⟩ := R
  simp only at HA1 HA2 HR1 HR2 HAL
  obtain ⟨n, hn⟩ : ∃ n, n = C.length := ⟨_, rfl⟩
  rw [<- hn] at HA1 HA2 HR1 HR2 HG1 HG2 ⊢
  unfold TabV.v
  clear hT hok hC hn hcc hcm
  go_enter Tryz.func18, Tryz.ntmps18
  go_upto_region 1 with (fail)
  obtain ⟨Bt, hBt⟩ : ∃ B, B = w.heap.size := ⟨_, rfl⟩
  refine zq9 (fun X => Below w.heap.size w X /\ X.heap[Bt]? = some (.cells #[V.a, V.b, V.d, V.c, V.n, V.e, V.s] 29)) ⟨(Below.refl _ _).alloc (Nat.le_refl _) _, by rw [hBt]; exact heap_alloc_new _ _⟩ ?_
  rintro X ⟨hbx, hxx⟩
  rw [<- hBt]
  have HX := hidep (And.intro hbx hxx)
  have HTC := hidep (fun (Z : World) (hZ : Below X.heap.size X Z) => tb7 (zq0 hZ HX.out.2))
  have HWX := hidep (fun (Z : World) (hZ : Below X.heap.size X Z) => hbx.trans (hZ.mono hbx.size))
  clear hbx hxx hBt
  obtain ⟨q0, q1, q2, q3, q4, q5, q6⟩ := HTC.out X (Below.refl _ _)
  go_upto_region 2 with (go_at_call 42; refine (HA1.out _ (HWX.out _ (Below.refl _ _))).mono ?_; rintro e w1 ⟨v1, rfl, hs1, hb1⟩; obtain ⟨a1, c1, e1, -, -⟩ := hs1.form; subst e1)
  clear q0 q1 q2 q3 q4 q5 q6 HA1
  have H1 := hidep (And.intro hs1 hb1)
  obtain ⟨q0, q1, q2, q3, q4, q5, q6⟩ := HTC.out w1 hb1
  clear hs1 hb1
  go_upto_region 3 with (go_at_call 43; refine (HA2.out _ (HWX.out _ H1.out.2)).mono ?_; rintro e w2 ⟨v2, rfl, hs2, hb2⟩; obtain ⟨a2, c2, e2, -, -⟩ := hs2.form; subst e2)
  clear q0 q1 q2 q3 q4 q5 q6 HA2
  have hb := H1.out.2.trans (hb2.mono H1.out.2.size)
  have H2 := hidep (And.intro (H1.out.1.below hb2) (And.intro hs2 hb))
  obtain ⟨q0, q1, q2, q3, q4, q5, q6⟩ := HTC.out w2 hb
  clear hs2 hb2 hb H1
  go_upto_region 4 with (go_at_call 30; refine (HR1.out _ (HWX.out _ H2.out.2.2)).mono ?_; rintro e w3 ⟨v3, rfl, hs3, hb3⟩; obtain ⟨a3, c3, e3, -, -⟩ := hs3.form; subst e3)
  clear q0 q1 q2 q3 q4 q5 q6 HR1
  have hb := H2.out.2.2.trans (hb3.mono H2.out.2.2.size)
  have H3 := hidep (And.intro (H2.out.1.below hb3) (And.intro (H2.out.2.1.below hb3) (And.intro hs3 hb)))
  obtain ⟨q0, q1, q2, q3, q4, q5, q6⟩ := HTC.out w3 hb
  clear hs3 hb3 hb H2
  go_upto_region 5 with (go_at_call 35; refine (HR2.out _ (HWX.out _ H3.out.2.2.2)).mono ?_; rintro e w4 ⟨v4, rfl, hs4, hb4⟩; obtain ⟨a4, c4, e4, -, -⟩ := hs4.form; subst e4)
  clear q0 q1 q2 q3 q4 q5 q6 HR2
  have hb := H3.out.2.2.2.trans (hb4.mono H3.out.2.2.2.size)
  have H4 := hidep (And.intro (H3.out.1.below hb4) (And.intro (H3.out.2.1.below hb4) (And.intro (H3.out.2.2.1.below hb4) (And.intro hs4 hb))))
  obtain ⟨q0, q1, q2, q3, q4, q5, q6⟩ := HTC.out w4 hb
  clear hs4 hb4 hb H3
  go_upto_region 6 with (go_at_call 44; refine (HG1.out _ (HWX.out _ H4.out.2.2.2.2)).mono ?_; rintro e w5 ⟨rfl, hb5⟩)
  clear q0 q1 q2 q3 q4 q5 q6 HG1
  have hb := H4.out.2.2.2.2.trans (hb5.mono H4.out.2.2.2.2.size)
  have H5 := hidep (And.intro (H4.out.1.below hb5) (And.intro (H4.out.2.1.below hb5) (And.intro (H4.out.2.2.1.below hb5) (And.intro (H4.out.2.2.2.1.below hb5) hb))))
  obtain ⟨q0, q1, q2, q3, q4, q5, q6⟩ := HTC.out w5 hb
  clear hb5 hb H4
  go_upto_region 7 with (go_at_call 45; refine (HG2.out _ (HWX.out _ H5.out.2.2.2.2)).mono ?_; rintro e w6 ⟨rfl, hb6⟩)
  clear q0 q1 q2 q3 q4 q5 q6 HG2
  have hb := H5.out.2.2.2.2.trans (hb6.mono H5.out.2.2.2.2.size)
  have HS := hidep (sameAll_true (.slice a1 AL.length c1) (.slice a2 AL.length c2) AL w6 (H5.out.1.below hb6) (H5.out.2.1.below hb6) (by have := HAL.out; omega))
  have HSS := hidep (fun (Z : World) (hZ : Below w6.heap.size w6 Z) => sameSyms_any (.slice a3 RL.length c3) (.slice a4 RL.length c4) RL RL Z ((H5.out.2.2.1.below hb6).below hZ) ((H5.out.2.2.2.1.below hb6).below hZ))
  rw [decide_eq_true rfl] at HSS
  have HB := hidep (HWX.out _ hb)
  have g1 : ((AE : Int) == AE) = true := by simp
  have g2 : ((RE : Int) == RE) = true := by simp
  have g3 : ((G : Int) == G) = true := by simp
  have g4 : ((E : Int) == E) = true := by simp
  obtain ⟨an, han⟩ : ∃ x, x = AL.length := ⟨_, rfl⟩
  obtain ⟨rn, hrn⟩ : ∃ x, x = RL.length := ⟨_, rfl⟩
  rw [<- han] at HS ⊢
  rw [<- hrn] at HSS ⊢
  clear hb6 hb H5 han hrn
  go_wp2_with (first
    | (go_at_call 46; refine HS.out.mono ?_; rintro e w7 ⟨rfl, hb7⟩)
    | (go_at_call 38; refine (HSS.out _ hb7).mono ?_; rintro e w8 ⟨rfl, n8, rfl⟩))
  go_ret
  exact ⟨rfl, HB.out.trans ((zq6 hb7 _).mono HB.out.size)⟩
end Go.Proofs.YtcfjepcflanjbaaGreat
/- Contract: the examples of Back. -/
namespace Go.Proofs.YtcfjepcflanjbaaGreat
open Go.RowKit Go.Lab Go.Shelf
set_option maxRecDepth 100000
theorem zq64 (W : World) (l : List Int) (hl : l.length <= 1000) (hr : ∀ x ∈ l, 1 <= x /\ x <= 63) : BysAt (W.alloc (.cells (byC l).toArray 5)) (.slice (some ⟨W.heap.size, 0, none⟩) l.length l.length) l := (zq6b l (heap_alloc_new _ _) hl hr).at
theorem zq47 {W w' : World} {o : Obj} (h : Below (W.alloc o).heap.size (W.alloc o) w') : Below W.heap.size W w' := ((Below.refl _ _).alloc (Nat.le_refl _) o).trans (h.mono (by rw [World.size_alloc]; omega))
theorem sm_check (C : List Int) (h : C.length <= 8192) : zq29 zq1c C = 0 := by
  unfold zq29
  rw [if_neg (fun e => e zqd3), if_neg (by omega)]
theorem reads1 (W : World) : Calls Tryz.prog 47 #[.slice (some ⟨W.heap.size, 0, none⟩) 2 2, .int .i64 0, .string ⟨#[65, 110]⟩] (W.alloc (.cells #[.int .u8 60, .int .u8 30] 5)) fun e w' => e = .returned (.bool true) /\ Below W.heap.size W w' :=
  (zq62 _ [60, 30] 0 ⟨#[65, 110]⟩ [⟨0, 65⟩, ⟨0, 110⟩] _ (zq64 W [60, 30] (by decide) (by decide)) (by decide) sm_read1 rfl (by decide) (by decide +kernel) (by unfold SymOk; decide) (by decide) sm_is1).mono fun _ _ ⟨h1, h2⟩ => ⟨h1, zq47 h2⟩
theorem reads2 (W : World) : Calls Tryz.prog 47 #[.slice (some ⟨W.heap.size, 0, none⟩) 1 1, .int .i64 0, .string ⟨#[97, 110]⟩] (W.alloc (.cells #[.int .u8 31] 5)) fun e w' => e = .returned (.bool true) /\ Below W.heap.size W w' :=
  (zq62 _ [31] 0 ⟨#[97, 110]⟩ [⟨0, 97⟩, ⟨0, 110⟩] _ (zq64 W [31] (by decide) (by decide)) (by decide) sm_read2 rfl (by decide) (by decide +kernel) (by unfold SymOk; decide) (by decide) sm_is2).mono fun _ _ ⟨h1, h2⟩ => ⟨h1, zq47 h2⟩
theorem reads3 (W : World) : Calls Tryz.prog 47 #[.slice (some ⟨W.heap.size, 0, none⟩) 2 2, .int .i64 0, .string ⟨#[97, 110, 46]⟩] (W.alloc (.cells #[.int .u8 31, .int .u8 33] 5)) fun e w' => e = .returned (.bool true) /\ Below W.heap.size W w' :=
  (zq62 _ [31, 33] 0 ⟨#[97, 110, 46]⟩ [⟨0, 97⟩, ⟨0, 110⟩, ⟨0, 46⟩] _ (zq64 W [31, 33] (by decide) (by decide)) (by decide) sm_read3 rfl (by decide) (by decide +kernel) (by unfold SymOk; decide) (by decide) sm_is3).mono fun _ _ ⟨h1, h2⟩ => ⟨h1, zq47 h2⟩
theorem reads4 (W : World) : Calls Tryz.prog 47 #[.slice (some ⟨W.heap.size, 0, none⟩) 3 3, .int .i64 0, .string ⟨#[98, 97, 110]⟩] (W.alloc (.cells #[.int .u8 2, .int .u8 1, .int .u8 32] 5)) fun e w' => e = .returned (.bool true) /\ Below W.heap.size W w' :=
  (zq62 _ [2, 1, 32] 0 ⟨#[98, 97, 110]⟩ [⟨0, 98⟩, ⟨0, 97⟩, ⟨0, 110⟩] _ (zq64 W [2, 1, 32] (by decide) (by decide)) (by decide) sm_read4 rfl (by decide) (by decide +kernel) (by unfold SymOk; decide) (by decide) sm_is4).mono fun _ _ ⟨h1, h2⟩ => ⟨h1, zq47 h2⟩
theorem reads5 (W : World) : Calls Tryz.prog 47 #[.slice (some ⟨W.heap.size, 0, none⟩) 4 4, .int .i64 0, .string ⟨#[55, 97]⟩] (W.alloc (.cells #[.int .u8 61, .int .u8 48, .int .u8 62, .int .u8 1] 5)) fun e w' => e = .returned (.bool true) /\ Below W.heap.size W w' :=
  (zq62 _ [61, 48, 62, 1] 0 ⟨#[55, 97]⟩ [⟨0, 55⟩, ⟨0, 97⟩] _ (zq64 W [61, 48, 62, 1] (by decide) (by decide)) (by decide) sm_read5 rfl (by decide) (by decide +kernel) (by unfold SymOk; decide) (by decide) sm_is5).mono fun _ _ ⟨h1, h2⟩ => ⟨h1, zq47 h2⟩
theorem reads6 (W : World) : Calls Tryz.prog 47 #[.slice (some ⟨W.heap.size, 0, none⟩) 2 2, .int .i64 1, .string ⟨#[97]⟩] (W.alloc (.cells #[.int .u8 63, .int .u8 1] 5)) fun e w' => e = .returned (.bool true) /\ Below W.heap.size W w' :=
  (zq62 _ [63, 1] 1 ⟨#[97]⟩ [⟨1, 97⟩] _ (zq64 W [63, 1] (by decide) (by decide)) (by decide) sm_read6 rfl (by decide) (by decide +kernel) (by unfold SymOk; decide) (by decide) sm_is6).mono fun _ _ ⟨h1, h2⟩ => ⟨h1, zq47 h2⟩
theorem read7 (V : TabV) (W : World) (hT : TabIn W V zq1c) : Calls Tryz.prog 30 #[.agg #[V.a, V.b, V.d, V.c, V.n, V.e, V.s], .slice (some ⟨W.heap.size, 0, none⟩) 2 2] (W.alloc (.cells #[.int .u8 31, .int .u8 20] 5)) fun e w' => ∃ v, e = .returned (.tuple #[v, .int .i64 2]) /\ Below W.heap.size W w' :=
  (zqc3 V zq1c _ [31, 20] _ (hT.below ((Below.refl _ _).alloc (Nat.le_refl _) _)) sm_ok (zq64 W [31, 20] (by decide) (by decide))).mono fun _ _ ⟨v, h1, _, h2⟩ => ⟨v, by rw [h1, sm_read7], zq47 h2⟩
theorem all8 (V : TabV) (W : World) (hT : TabIn W V zq1c) : Calls Tryz.prog 42 #[.agg #[V.a, V.b, V.d, V.c, V.n, V.e, V.s], .slice (some ⟨W.heap.size, 0, none⟩) 3 3, .int .i64 3] (W.alloc (.cells #[.int .u8 61, .int .u8 48, .int .u8 1] 5)) fun e w' => ∃ a c, e = .returned (.tuple #[.slice a 0 c, .int .i64 0]) /\ Below W.heap.size W w' :=
  (allC_any V zq1c _ [61, 48, 1] 3 _ (hT.below ((Below.refl _ _).alloc (Nat.le_refl _) _)) sm_ok (zq64 W [61, 48, 1] (by decide) (by decide))).mono fun _ _ ⟨v, h1, hs, h2⟩ => by
    rw [sm_all] at h1 hs
    obtain ⟨a, c, rfl, _, _⟩ := hs.form
    exact ⟨a, c, h1, zq47 h2⟩
theorem good9 (V : TabV) (W : World) (hT : TabIn W V zq1c) : Calls Tryz.prog 44 #[.agg #[V.a, V.b, V.d, V.c, V.n, V.e, V.s], .slice (some ⟨W.heap.size, 0, none⟩) 3 3] (W.alloc (.cells #[.int .u8 61, .int .u8 48, .int .u8 1] 5)) fun e w' => e = .returned (.tuple #[.int .i64 2, .int .i64 0]) /\ Below W.heap.size W w' :=
  (goodC_any V zq1c _ [61, 48, 1] _ (hT.below ((Below.refl _ _).alloc (Nat.le_refl _) _)) sm_ok (zq64 W [61, 48, 1] (by decide) (by decide))).mono fun _ _ ⟨h1, h2⟩ => ⟨by
    rw [h1, sm_check _ (by decide), sm_good]
    rfl, zq47 h2⟩
set_option maxHeartbeats 4000000 in
theorem lives_any (w : World) : Calls Tryz.prog 19 #[] w fun e w' => e = .returned (.bool true) /\ Below w.heap.size w w' := by
  have HSM := hidep (fun W => small_any W)
  have H1 := hidep (fun W => reads1 W)
  have H2 := hidep (fun W => reads2 W)
  have H3 := hidep (fun W => reads3 W)
  have H4 := hidep (fun W => reads4 W)
  have H5 := hidep (fun W => reads5 W)
  have H6 := hidep (fun W => reads6 W)
  have H7 := hidep (fun V W (h : TabIn W V zq1c) => read7 V W h)
  have H8 := hidep (fun V W (h : TabIn W V zq1c) => all8 V W h)
  have H9 := hidep (fun V W (h : TabIn W V zq1c) => good9 V W h)
  go_enter Tryz.func19, Tryz.ntmps19
  go_upto_region 2 with (go_at_call 47; first
    | ((with_reducible refine (H1.out _).mono ?_); rintro e x1 ⟨rfl, hb1⟩)
    | ((with_reducible refine (H2.out _).mono ?_); rintro e x2 ⟨rfl, hb2⟩)
    | ((with_reducible refine (H3.out _).mono ?_); rintro e x3 ⟨rfl, hb3⟩)
    | ((with_reducible refine (H4.out _).mono ?_); rintro e x4 ⟨rfl, hb4⟩)
    | ((with_reducible refine (H5.out _).mono ?_); rintro e x5 ⟨rfl, hb5⟩)
    | ((with_reducible refine (H6.out _).mono ?_); rintro e x6 ⟨rfl, hb6⟩))
  have hb6' : Below w.heap.size w x6 := hb1.trans ((hb2.trans ((hb3.trans ((hb4.trans ((hb5.trans (hb6.mono hb5.size)).mono hb4.size)).mono hb3.size)).mono hb2.size)).mono hb1.size)
  have HB6 := hidep hb6'
  clear hb1 hb2 hb3 hb4 hb5 hb6 hb6' H1 H2 H3 H4 H5 H6
  go_upto_region 3 with (first
    | (go_at_call 48; refine (HSM.out _).mono ?_; rintro e y1 ⟨V, rfl, hT, hb⟩; unfold TabV.v)
    | (go_at_call 30; refine (H7.out V _ hT).mono ?_; rintro e y2 ⟨v2, rfl, hb2⟩))
  have HB7 := hidep (HB6.out.trans ((hb.trans (hb2.mono hb.size)).mono HB6.out.size))
  clear hb hb2 hT
  go_upto_region 4 with (first
    | (go_at_call 48; refine (HSM.out _).mono ?_; rintro e y3 ⟨V, rfl, hT, hb⟩; unfold TabV.v)
    | (go_at_call 42; refine (H8.out V _ hT).mono ?_; rintro e y4 ⟨a4, c4, rfl, hb2⟩))
  have HB8 := hidep (HB7.out.trans ((hb.trans (hb2.mono hb.size)).mono HB7.out.size))
  clear hb hb2 hT
  go_wp2_with (first
    | (go_at_call 48; refine (HSM.out _).mono ?_; rintro e y5 ⟨V, rfl, hT, hb⟩; unfold TabV.v)
    | (go_at_call 44; refine (H9.out V _ hT).mono ?_; rintro e y6 ⟨rfl, hb2⟩))
  go_ret
  exact ⟨rfl, HB8.out.trans ((hb.trans (hb2.mono hb.size)).mono HB8.out.size)⟩
end Go.Proofs.YtcfjepcflanjbaaGreat
