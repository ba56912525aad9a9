/- The reference: how many cells at the beginning can begin a translation. -/
import Derived.Test.YtcfjepcflanjbaaGreatBr02
import Derived.Test.YtcfjepcflanjbaaGreatBr47
import Derived.Test.YtcfjepcflanjbaaGreatBr48
import Derived.Test.YtcfjepcflanjbaaGreatBr51
import Derived.Test.YtcfjepcflanjbaaGreatBr49
import Derived.Test.YtcfjepcflanjbaaGreatBr33
namespace Go.Proofs.YtcfjepcflanjbaaGreat
open Go.RowKit Go.Lab Go.Shelf
set_option maxRecDepth 100000
theorem zq77 (t : Array Value) (ds : List Deferred) (h : t.size = 100) : ({ tmps := t, defers := ds } : Act) = { tmps := #[slot t 0, slot t 1, slot t 2, slot t 3, slot t 4, slot t 5, slot t 6, slot t 7, slot t 8, slot t 9, slot t 10, slot t 11, slot t 12, slot t 13, slot t 14, slot t 15, slot t 16, slot t 17, slot t 18, slot t 19, slot t 20, slot t 21, slot t 22, slot t 23, slot t 24, slot t 25, slot t 26, slot t 27, slot t 28, slot t 29, slot t 30, slot t 31, slot t 32, slot t 33, slot t 34, slot t 35, slot t 36, slot t 37, slot t 38, slot t 39, slot t 40, slot t 41, slot t 42, slot t 43, slot t 44, slot t 45, slot t 46, slot t 47, slot t 48, slot t 49, slot t 50, slot t 51, slot t 52, slot t 53, slot t 54, slot t 55, slot t 56, slot t 57, slot t 58, slot t 59, slot t 60, slot t 61, slot t 62, slot t 63, slot t 64, slot t 65, slot t 66, slot t 67, slot t 68, slot t 69, slot t 70, slot t 71, slot t 72, slot t 73, slot t 74, slot t 75, slot t 76, slot t 77, slot t 78, slot t 79, slot t 80, slot t 81, slot t 82, slot t 83, slot t 84, slot t 85, slot t 86, slot t 87, slot t 88, slot t 89, slot t 90, slot t 91, slot t 92, slot t 93, slot t 94, slot t 95, slot t 96, slot t 97, slot t 98, slot t 99], defers := ds } :=
  (congrArg (fun x => ({ tmps := x, defers := ds } : Act)) (zq1e h)).trans (by kernel_rfl)
def GrM (X0 : World) (Kb n : Nat) (u : Value) (W : World) : Prop := ∃ i : Nat, i <= n + 1 /\ u = .int .i64 (i : Nat) /\ (∃ Rf, MetMk X0.heap.size Kb n i Rf W) /\ Below X0.heap.size X0 W
def GrO (X0 : World) (T : TabZ) (C : List Int) (Kb n : Nat) (Rf : Nat -> Nat) (u v : Value) (W : World) : Prop := ∃ (pos g : Nat) (met : MetF), pos <= n + 1 /\ u = .int .i64 (g : Nat) /\ v = .int .i64 (pos : Nat) /\ g <= n /\ MetAt X0.heap.size Kb n Rf met W /\ GdI T C pos 0 0 met g /\ Below X0.heap.size X0 W
def GrK (X0 : World) (T : TabZ) (C : List Int) (Kb n : Nat) (Rf : Nat -> Nat) (pos : Nat) (u v : Value) (W : World) : Prop := ∃ (k g : Nat) (met : MetF), k <= 48 /\ u = .int .i64 (g : Nat) /\ v = .int .i64 (k : Nat) /\ g <= n /\ MetAt X0.heap.size Kb n Rf met W /\ GdI T C pos k 0 met g /\ Below X0.heap.size X0 W
def GrI (X0 : World) (T : TabZ) (C : List Int) (Kb n : Nat) (Rf : Nat -> Nat) (pos k mn bm : Nat) (vm : Value) (u v : Value) (W : World) : Prop := ∃ (i g : Nat) (met : MetF), i <= mn /\ u = .int .i64 (g : Nat) /\ v = .int .i64 (i : Nat) /\ g <= n /\ MetAt X0.heap.size Kb n Rf met W /\ GdI T C pos k i met g /\ met pos k = true /\ MvR bm X0.heap.size (zq15 k).st.lang W vm (zqa T (zq15 k)) /\ Below X0.heap.size X0 W
def Gr1 (X0 : World) (T : TabZ) (k bm : Nat) (v1 v2 v7 v9 v10 v11 : Value) (W0 : World) : Act -> World -> Prop := fun a W => ∃ (xa : Option Addr) (xc : Nat), a.tmps.size = 100 /\ a.defers = [] /\ slot a.tmps 1 = v1 /\ slot a.tmps 2 = v2 /\ slot a.tmps 7 = v7 /\ slot a.tmps 9 = v9 /\ slot a.tmps 10 = v10 /\ slot a.tmps 11 = v11 /\ slot a.tmps 12 = .slice xa (zqa T (zq15 k)).length xc /\ MvR bm X0.heap.size (zq15 k).st.lang W (.slice xa (zqa T (zq15 k)).length xc) (zqa T (zq15 k)) /\ Below W0.heap.size W0 W
def Gr2 (X0 : World) (T : TabZ) (Kb n : Nat) (Rf : Nat -> Nat) (met : MetF) (k bm : Nat) (vm v1 v2 v7 v9 v10 v11 v13 : Value) : Act -> World -> Prop := fun a W => a.tmps.size = 100 /\ a.defers = [] /\ slot a.tmps 1 = v1 /\ slot a.tmps 2 = v2 /\ slot a.tmps 7 = v7 /\ slot a.tmps 9 = v9 /\ slot a.tmps 10 = v10 /\ slot a.tmps 11 = v11 /\ slot a.tmps 12 = vm /\ slot a.tmps 13 = v13 /\ MetAt X0.heap.size Kb n Rf met W /\ MvR bm X0.heap.size (zq15 k).st.lang W vm (zqa T (zq15 k)) /\ Below X0.heap.size X0 W
theorem movesG_len {T : TabZ} {p : PlZ} (hv : zq8 T = 0) : (zqa T p).length <= 300 := by
  have h1 := zqac hv
  have h2 := zq54 hv
  have h3 := zqae T p (T.rules p.st.lang)
  have h4 : (T.rules p.st.lang).length <= 96 := by
    unfold TabZ.rules
    split
    · exact h1.1
    · exact h1.2
  have h5 : (swMv T p).length <= 1 := by
    unfold swMv
    split <;> simp
  unfold zqa
  rw [List.length_append]
  split
  · simp only [List.length_nil]; omega
  · rw [List.length_append, zq52]; omega
set_option maxHeartbeats 8000000 in
theorem goodR_any (V : TabV) (T : TabZ) (cv : Value) (C : List Int) (w : World) (hT : TabIn w V T) (hok : TabOk T) (hC : BysAt w cv C) :
    Calls Tryz.prog 45 #[V.v, cv] w fun e w' => e = .returned (.tuple #[.int .i64 (if zq29 T C = 0 then (goodZ T C : Int) else 0), .int .i64 (zq29 T C)]) /\ Below w.heap.size w w' := by
  have HCK := hidep (fun W (hW : Below w.heap.size w W) => zq93 V T cv C W (hT.below hW) hok (hC.below hW))
  obtain ⟨ca, cc, rfl, hcc, hcm⟩ := hC.1.form
  unfold maxLen at hcm
  have HT := hidep (And.intro hT hok)
  have HC := hidep hC
  obtain ⟨E, hE⟩ : ∃ E, E = zq29 T C := ⟨_, rfl⟩
  have HE := hidep hE
  rw [<- hE] at HCK ⊢
  obtain ⟨n, hn⟩ : ∃ n, n = C.length := ⟨_, rfl⟩
  have HN := hidep hn
  rw [<- hn] at hcc HCK ⊢
  obtain ⟨G, hG⟩ : ∃ G : Int, G = if E = 0 then (goodZ T C : Int) else 0 := ⟨_, rfl⟩
  rw [<- hG]
  have HG := hidep hG
  unfold TabV.v at HCK ⊢
  clear hT hok hC hE hn hG
  go_enter Tryz.func45, Tryz.ntmps45
  go_upto_region 1 with (fail)
  obtain ⟨Bt, hBt⟩ : ∃ B, B = w.heap.size := ⟨_, rfl⟩
  refine zq9 (fun X => Below w.heap.size w X /\ X.heap[Bt]? = some (.cells #[V.a, V.b, V.d, V.c, V.n, V.e, V.s] 29)) ⟨(Below.refl _ _).alloc (Nat.le_refl _) _, by rw [hBt]; exact heap_alloc_new _ _⟩ ?_
  rintro X ⟨hbx, hxx⟩
  rw [<- hBt]
  have HX := hidep (And.intro hbx hxx)
  obtain ⟨q0, q1, q2, q3, q4, q5, q6⟩ := tb7 hxx
  clear hbx hxx hBt
  by_cases hE0 : E = 0
  case neg =>
    have hne : (E != 0) = true := by simp [hE0]
    have HF := hidep (HG.out.trans (if_neg hE0))
    clear hE0
    go_wp2_with (go_at_call 71; refine (HCK.out _ HX.out.1).mono ?_; rintro e w1 ⟨rfl, hb1⟩)
    go_ret2
    exact ⟨by rw [HF.out]; rfl, HX.out.1.trans (hb1.mono HX.out.1.size)⟩
  have hne : (E != 0) = false := by simp [hE0]
  have hz := HE.out
  rw [hE0] at hz
  have hvz : zq8 T = 0 /\ C.length <= 8192 := by
    unfold zq29 at hz
    split at hz
    · rename_i h; exact absurd hz.symm h
    · split at hz
      · cases hz
      · rename_i h1 h2; exact ⟨by omega, by omega⟩
  have HVZ := hidep hvz
  have HF := hidep (HG.out.trans (if_pos hE0))
  have hn8 : n <= 8192 := by rw [HN.out]; exact hvz.2
  have HE0 := hidep hE0
  clear hE0 hz hvz
  have hmk := fun W => run_make_row' (P := Tryz.prog) 136 137 (.slice none 0 0) 24 Tryz.underlying136 slBoolss.2.1 rfl .i64 .i64 (n + 1) (by omega) (by omega) W
  simp only [Int.natCast_add, Int.cast_ofNat_Int] at hmk
  have hwn : IntKind.i64.wrap ((n : Int) + 1) = (n : Int) + 1 := IntWalk.i64_in _ (by omega)
  go_upto_region 5 with (go_at_call 71; refine (HCK.out _ HX.out.1).mono ?_; rintro e X0 ⟨rfl, hb0⟩)
  have hbw0 : Below w.heap.size w X0 := HX.out.1.trans (hb0.mono HX.out.1.size)
  have HX0 := hidep (And.intro hbw0 (zq0 hb0 HX.out.2))
  obtain ⟨Kb, hKb⟩ : ∃ B, B = X0.heap.size := ⟨_, rfl⟩
  refine zq9 (fun Z => Below X0.heap.size X0 Z /\ ∃ Rf, MetMk X0.heap.size Kb n 0 Rf Z) ⟨(Below.refl _ _).alloc (Nat.le_refl _) _, ⟨fun _ => 0, ⟨(List.replicate (n + 1) (Value.slice none 0 0)).toArray, by rw [hKb, <- zqc8]; exact heap_alloc_new _ _, by simp, fun a h => by omega⟩, fun a h => by omega, fun a b h => by omega⟩⟩ ?_
  rintro X1 ⟨hb1, hk1⟩
  rw [<- hKb]
  have HKB := hidep (show X0.heap.size <= Kb by omega)
  have HX1 := hidep (And.intro hb1 hk1)
  have hmk3 : ∀ W : World, (Instr.makeSlice 137 (.int .i64 48) (.int .i64 48)).run Tryz.prog W = .ok (.slice (some ⟨W.heap.size, 0, none⟩) 48 48) (W.alloc (.cells (madeCells #[.bool false] 48) 4)) := fun W => run_make_row' (P := Tryz.prog) 137 4 (.bool false) 1 Tryz.underlying137 slBools.2.1 rfl .i64 .i64 48 (by omega) (by omega) W
  clear hb1 hk1 hKb hmk hwn hb0 hbw0 q0 q1 q2 q3 q4 q5 q6
  go_upto_region 6 with (fail)
  refine wp_loop (LoopI 100 (fun tm ds wr => (slot tm 1) = .slice ca n cc /\ (slot tm 2) = .pointer (some ⟨Bt, 0, none⟩) /\ (slot tm 7) = .slice (some ⟨Kb, 0, none⟩) (n + 1) (n + 1) /\ ds = [] /\ GrM X0 Kb n (slot tm 8) wr)) (fun a' wr => n + 1 - natI (a'.tmps.getD 8 undef)) ?lrStart ?lrRound
  case' lrStart => refine LoopI.mk rfl ?_
  case' lrRound => (rintro ⟨t, ds⟩ wr ⟨hts, hrel⟩; dsimp only at hts hrel; rw [zq77 t ds hts])
  case lrStart => exact ⟨rfl, rfl, rfl, rfl, 0, Nat.zero_le _, rfl, HX1.out.2, HX1.out.1⟩
  obtain ⟨e1, e2, e7, hds, i, hi, e8, hMk, hbw⟩ := hrel
  subst hds
  rw [e1, e2, e7, e8]
  clear e1 e2 e7 e8 hts HX1
  have HM := hidep (And.intro hMk hbw)
  have hiw : IntKind.i64.wrap ((i : Int) + 1) = (i : Int) + 1 := IntWalk.i64_in _ (by omega)
  obtain ⟨wo, hwo⟩ : ∃ wo : World, wo = wr := ⟨_, rfl⟩
  rw [<- hwo] at HM hMk hbw ⊢
  clear hwo
  by_cases hin : i < n + 1
  case pos =>
    have hiI : (i : Int) < (n : Int) + 1 := by omega
    obtain ⟨Rf, ⟨cur, hc1, hc2, hc3⟩, h4, h5⟩ := hMk
    obtain ⟨kv0, hkv0⟩ : ∃ x, cur[i]? = some x := ⟨_, Array.getElem?_eq_getElem (show i < cur.size by omega)⟩
    have hcK : wo.cell? ⟨Kb, i, none⟩ = some kv0 := by simp [World.cell?, hc1, hkv0]
    have hfK : wo.frozen? ⟨Kb, i, none⟩ = false := zq31 hc1 i
    have hkl : Kb < wo.heap.size := lt_of_block hc1
    have HRf := hidep (show MetMk X0.heap.size Kb n i Rf wo from ⟨⟨cur, hc1, hc2, hc3⟩, h4, h5⟩)
    have HB := hidep hbw
    clear hc1 hc2 hc3 h4 h5 hkv0 hbw
    have HEND := hidep (show (∃ Rf', MetMk X0.heap.size Kb n (i + 1) Rf' ((wo.setCell ⟨Kb, i, none⟩ (.slice (some ⟨wo.heap.size, 0, none⟩) 48 48)).alloc (.cells (madeCells #[.bool false] 48) 4))) /\ Below X0.heap.size X0 ((wo.setCell ⟨Kb, i, none⟩ (.slice (some ⟨wo.heap.size, 0, none⟩) 48 48)).alloc (.cells (madeCells #[.bool false] 48) 4)) from by
      refine ⟨?_, (HB.out.setCell HKB.out _).alloc (HB.out.setCell HKB.out _).size _⟩
      rw [madeB]
      exact HRf.out.push (by omega) rfl HB.out.size)
    go_wp2
    refine ⟨LoopI.mk (by kernel_rfl) ⟨by kernel_rfl, by kernel_rfl, by kernel_rfl, rfl, i + 1, by omega, by kernel_rfl, HEND.out.1, HEND.out.2⟩, ?_⟩
    show n + 1 - _ < n + 1 - _
    simp [natI]; omega
  have hiI : ¬ (i : Int) < (n : Int) + 1 := by omega
  have hie : i = n + 1 := by omega
  obtain ⟨Rf, hRf⟩ := hMk
  rw [hie] at hRf
  have hAt := hRf.all
  obtain ⟨⟨cur, hc1, hc2, hc3⟩, h4, -⟩ := id hAt
  obtain ⟨h40, rc, h41, h42, h43⟩ := h4 0 (Nat.zero_le _)
  have x0 : wo.cell? ⟨Kb, 0, none⟩ = some (.slice (some ⟨Rf 0, 0, none⟩) 48 48) := by simp [World.cell?, hc1, hc3 0 (Nat.zero_le _)]
  have x1 : wo.cell? ⟨Rf 0, 0, none⟩ = some (.bool false) := by simp [World.cell?, h41, h43 0 (by decide)]
  have x2 : wo.frozen? ⟨Rf 0, 0, none⟩ = false := zq31 h41 0
  have HAT := hidep (And.intro hAt hbw)
  have hn0 : (0 : Int) < (n : Int) + 1 := by omega
  clear hAt hRf hbw HM hc1 hc2 hc3 h4 h40 h41 h42 h43 hie hiw hmk3
  obtain ⟨R0, hR0⟩ : ∃ x, x = Rf 0 := ⟨_, rfl⟩
  rw [<- hR0] at x0 x1 x2
  have HR0 := hidep hR0
  clear hR0
  go_upto_region 10 with (fail)
  refine zq9 (fun Z => MetAt X0.heap.size Kb n Rf met0 Z /\ Below X0.heap.size X0 Z) ?mx ?_
  case mx =>
    have h := HAT.out.1.set (a := 0) (c := 0) (Nat.zero_le _) (by decide)
    rw [<- HR0.out] at h
    have hme : updM (fun _ _ => false) 0 0 = met0 := by
      funext a c
      unfold updM met0
      by_cases e : a = 0 /\ c = 0
      · rw [if_pos e, decide_eq_true e]
      · rw [if_neg e, decide_eq_false e]
    rw [hme] at h
    exact ⟨h, HAT.out.2.setCell (by have := (HAT.out.1.2.1 0 (Nat.zero_le _)).1; rw [<- HR0.out] at this; exact this) _⟩
  rintro X2 ⟨hm2, hb2⟩
  have HM2 := hidep (And.intro hm2 hb2)
  clear hm2 hb2 x0 x1 x2
  go_upto_region 12 with (fail)
  refine wp_loop (LoopI 100 (fun tm ds wr => (slot tm 1) = .slice ca n cc /\ (slot tm 2) = .pointer (some ⟨Bt, 0, none⟩) /\ (slot tm 7) = .slice (some ⟨Kb, 0, none⟩) (n + 1) (n + 1) /\ ds = [] /\ GrO X0 T C Kb n Rf (slot tm 9) (slot tm 10) wr)) (fun a' wr => n + 1 - natI (a'.tmps.getD 10 undef)) ?loStart ?loRound
  case' loStart => refine LoopI.mk rfl ?_
  case' loRound => (rintro ⟨t, ds⟩ wr ⟨hts, hrel⟩; dsimp only at hts hrel; rw [zq77 t ds hts])
  case loStart => exact ⟨rfl, rfl, rfl, rfl, 0, 0, met0, Nat.zero_le _, rfl, rfl, Nat.zero_le _, HM2.out.1, gdI_start T C, HM2.out.2⟩
  obtain ⟨e1, e2, e7, hds, pos, g, met, hpos, e9, e10, hgn, hMt, hGd, hbw⟩ := hrel
  subst hds
  rw [e1, e2, e7, e9, e10]
  clear e1 e2 e7 e9 e10 hts HM2
  have HO := hidep (And.intro hMt (And.intro hGd hbw))
  clear hMt hGd hbw
  have hpw : IntKind.i64.wrap ((pos : Int) + 1) = (pos : Int) + 1 := IntWalk.i64_in _ (by omega)
  obtain ⟨w4, hw4⟩ : ∃ wo : World, wo = wr := ⟨_, rfl⟩
  rw [<- hw4] at HO ⊢
  clear hw4
  by_cases hpn : pos < n + 1
  case neg =>
    have hpI : ¬ (pos : Int) < (n : Int) + 1 := by omega
    have hfin : (g : Int) = G := by
      have h := HO.out.2.1
      rw [show pos = C.length + 1 by rw [<- HN.out]; omega] at h
      rw [HF.out, h.good HVZ.out.1]
    have HFIN := hidep hfin
    clear hfin
    go_wp2
    go_ret2
    exact ⟨by rw [HE0.out, <- HFIN.out]; rfl, HX0.out.1.trans (HO.out.2.2.mono HX0.out.1.size)⟩
  have hpI : (pos : Int) < (n : Int) + 1 := by omega
  go_upto_region 15 with (fail)
  refine wp_loop (LoopI 100 (fun tm ds wr => (slot tm 1) = .slice ca n cc /\ (slot tm 2) = .pointer (some ⟨Bt, 0, none⟩) /\ (slot tm 7) = .slice (some ⟨Kb, 0, none⟩) (n + 1) (n + 1) /\ (slot tm 10) = .int .i64 (pos : Nat) /\ ds = [] /\ GrK X0 T C Kb n Rf pos (slot tm 9) (slot tm 11) wr)) (fun a' wr => 48 - natI (a'.tmps.getD 11 undef)) ?lkStart ?lkRound
  case' lkStart => refine LoopI.mk rfl ?_
  case' lkRound => (rintro ⟨t, ds⟩ wr ⟨hts, hrel⟩; dsimp only at hts hrel; rw [zq77 t ds hts])
  case lkStart => exact ⟨rfl, rfl, rfl, rfl, rfl, 0, g, met, Nat.zero_le _, rfl, rfl, hgn, HO.out.1, HO.out.2.1, HO.out.2.2⟩
  clear HO hgn
  obtain ⟨e1, e2, e7, e10, hds, k, g, met, hk, e9, e11, hgn, hMt, hGd, hbw⟩ := hrel
  subst hds
  rw [e1, e2, e7, e9, e10, e11]
  clear e1 e2 e7 e9 e10 e11 hts
  have HK := hidep (And.intro hMt (And.intro hGd hbw))
  clear hGd hbw
  have hkw : IntKind.i64.wrap ((k : Int) + 1) = (k : Int) + 1 := IntWalk.i64_in _ (by omega)
  obtain ⟨wk, hwk⟩ : ∃ wo : World, wo = wr := ⟨_, rfl⟩
  rw [<- hwk] at HK hMt ⊢
  clear hwk
  by_cases hk48 : k < 48
  case neg =>
    have hkI : ¬ (k : Int) < 48 := by omega
    have hke : k = 48 := by omega
    have HG2 := hidep (show GdI T C (pos + 1) 0 0 met g from (hke ▸ HK.out.2.1).row)
    clear hke hMt
    go_wp2
    refine ⟨LoopI.mk (by kernel_rfl) ⟨by kernel_rfl, by kernel_rfl, by kernel_rfl, rfl, pos + 1, g, met, by omega, by kernel_rfl, by kernel_rfl, hgn, HK.out.1, HG2.out, HK.out.2.2⟩, ?_⟩
    show n + 1 - _ < n + 1 - _
    simp [natI]; omega
  have hkI : (k : Int) < 48 := by omega
  obtain ⟨⟨cur, hc1, hc2, hc3⟩, h4, -⟩ := hMt
  obtain ⟨-, rc, h41, h42, h43⟩ := h4 pos (by omega)
  obtain ⟨RP, hRP⟩ : ∃ x, x = Rf pos := ⟨_, rfl⟩
  obtain ⟨mb, hmb⟩ : ∃ x, x = met pos k := ⟨_, rfl⟩
  have x0 : wk.cell? ⟨Kb, pos, none⟩ = some (.slice (some ⟨RP, 0, none⟩) 48 48) := by simp [World.cell?, hc1, hc3 pos (by omega), hRP]
  have x1 : wk.cell? ⟨RP, k, none⟩ = some (.bool mb) := by rw [hRP]; simp [World.cell?, h41, h43 k hk48, hmb]
  have HMB := hidep hmb
  clear hc1 hc2 hc3 h4 h41 h42 h43 hRP hmb
  cases mb with
  | false =>
    have HG2 := hidep (HK.out.2.1.next (.inl HMB.out.symm))
    go_wp2
    refine ⟨LoopI.mk (by kernel_rfl) ⟨by kernel_rfl, by kernel_rfl, by kernel_rfl, by kernel_rfl, rfl, k + 1, g, met, by omega, by kernel_rfl, by kernel_rfl, hgn, HK.out.1, HG2.out, HK.out.2.2⟩, ?_⟩
    show 48 - _ < 48 - _
    simp [natI]; omega
  | true =>
  have hpok : PlOk (zq15 k) := zq95 hk48
  have HTC := hidep (fun (Z : World) (hZ : Below wk.heap.size wk Z) => tb7 (zq0 (HK.out.2.2.trans (hZ.mono HK.out.2.2.size)) HX0.out.2))
  have HPL := hidep (show ∀ Z : World, Calls Tryz.prog 82 #[.int .i64 (k : Nat)] Z (fun e w' => e = .returned (.agg #[.int .i64 (zq15 k).st.lang, .bool (zq15 k).st.num, .bool (zq15 k).st.word, .int .i64 ((zq15 k).need : Nat), .bool (zq15 k).sw]) /\ Below Z.heap.size Z w') from fun Z => placeR_any k hk48 Z)
  have HMO := hidep (show ∀ Z : World, Below wk.heap.size wk Z -> Calls Tryz.prog 81 #[.agg #[V.a, V.b, V.d, V.c, V.n, V.e, V.s], .agg #[.int .i64 (zq15 k).st.lang, .bool (zq15 k).st.num, .bool (zq15 k).st.word, .int .i64 ((zq15 k).need : Nat), .bool (zq15 k).sw]] Z (fun e w' => ∃ v, e = .returned v /\ MvR Z.heap.size X0.heap.size (zq15 k).st.lang w' v (zqa T (zq15 k)) /\ Below Z.heap.size Z w') from fun Z hZ => movesR_any V T (zq15 k) X0 Z (HK.out.2.2.trans (hZ.mono HK.out.2.2.size)) (HT.out.1.below HX0.out.1) HT.out.2 HVZ.out.1 hpok.1)
  obtain ⟨p, hp⟩ : ∃ p, p = zq15 k := ⟨_, rfl⟩
  have HP := hidep (And.intro hp hpok)
  rw [<- hp] at HPL HMO
  clear hp hpok
  go_upto_region 18 with (fail)
  clear x0 x1
  refine zq17 (fun a W => ∃ bm, X0.heap.size <= bm /\ Gr1 X0 T k bm (.slice ca n cc) (.pointer (some ⟨Bt, 0, none⟩)) (.slice (some ⟨Kb, 0, none⟩) (n + 1) (n + 1)) (.int .i64 (g : Nat)) (.int .i64 (pos : Nat)) (.int .i64 (k : Nat)) wk a W) ?r18 ?_
  case r18 =>
    intro K' hMK
    go_upto_region 18 with (fail)
    refine wp_region_noPanic (wp_region_held_drew (S := (fun Z => Below wk.heap.size wk Z)) (by kernel_rfl) ?hSz0 (fun hHeld => ?hRz0))
    case hSz0 => ((try dsimp only); (exact (Below.refl _ _).drew))
    refine tkB 0 rfl (.inl ⟨by kernel_rfl, fun w hSw => by (obtain ⟨g0, g1, g2, g3, g4, g5, g6⟩ := HTC.out _ hSw); go_simp; first | done | with_reducible rfl⟩) ?_
    refine tkC 1 rfl ?_
    refine wpAnyH_ready (rs := [2]) (by kernel_rfl) (by simp) (AllReadyH.cons rfl (fun K hK => ?hcz1) AllReadyH.nil)
    go_simp
    (go_at_call 82; (with_reducible refine (HPL.out _).mono ?_); rintro e' w60 ⟨rfl, hb60⟩; have hk9 := hHeld.trans (hb60.mono hHeld.size); (try dsimp only))
    refine hK.out _ _ (by (try dsimp only); (exact hk9)) ?_
    clear hHeld hK; intro hHeld
    refine wpAnyH_ready (rs := [3]) (by kernel_rfl) (by simp) (AllReadyH.cons rfl (fun K hK => ?hcz2) AllReadyH.nil)
    go_simp
    (go_at_call 81; (with_reducible refine (HMO.out _ hHeld).mono ?_); rintro e' w61 ⟨v61, rfl, hmv, hb61⟩; have hbm := (HK.out.2.2.trans (hHeld.mono HK.out.2.2.size)).size; have hk9 := hHeld.trans (hb61.mono hHeld.size); obtain ⟨us4, hmv1, hmv2, hmv3⟩ := hmv; obtain ⟨ma, mc, hve, -, -⟩ := (Rd.of_own hmv2).form; subst hve; (try dsimp only))
    refine hK.out _ _ (by (try dsimp only); (exact hk9)) ?_
    clear hHeld hK; intro hHeld
    refine tkC 4 rfl ?_
    refine wpAnyH_done (by kernel_rfl) ?_ _
    clear hHeld
    refine NoPanic.normal ?_
    all_goals
      (try dsimp only [Exit.then])
      have HMV := hidep (show MvR _ X0.heap.size p.st.lang w61 (.slice ma (zqa T p).length mc) (zqa T p) /\ Below wk.heap.size wk w61 from ⟨⟨us4, hmv1, hmv2, hmv3⟩, hk9⟩)
      rw [HP.out.1] at HMV ⊢
      clear hmv1 hmv2 hmv3 hk9
      obtain ⟨mn, hmn⟩ : ∃ x, x = (zqa T (zq15 k)).length := ⟨_, rfl⟩
      have HMN := hidep hmn
      rw [<- hmn] at HMV ⊢
      clear hmn
      go_wp2
      first
        | exact ⟨_, hbm, ma, mc, by kernel_rfl, by kernel_rfl, by kernel_rfl, by kernel_rfl, by kernel_rfl, by kernel_rfl, by kernel_rfl, by kernel_rfl, (by rw [<- HMN.out]; kernel_rfl), by rw [<- HMN.out]; exact HMV.out⟩
        | exact hMK _ _ ⟨_, hbm, ma, mc, by kernel_rfl, by kernel_rfl, by kernel_rfl, by kernel_rfl, by kernel_rfl, by kernel_rfl, by kernel_rfl, by kernel_rfl, (by rw [<- HMN.out]; kernel_rfl), by rw [<- HMN.out]; exact HMV.out⟩
  rintro ⟨tm, ds⟩ X5 ⟨bm, hbm, xa, xc, hts, hds, e1, e2, e7, e9, e10, e11, e12, hmv, hb5⟩
  dsimp only at hts hds e1 e2 e7 e9 e10 e11 e12
  subst hds
  rw [zq77 tm _ hts, e1, e2, e7, e9, e10, e11, e12]
  clear e1 e2 e7 e9 e10 e11 e12 hts HPL HMO HTC HP
  (try apply_assumption)
  obtain ⟨mn, hmn⟩ : ∃ x, x = (zqa T (zq15 k)).length := ⟨_, rfl⟩
  rw [<- hmn] at hmv ⊢
  have HMN := hidep hmn
  have hmn3 : mn <= 300 := by rw [hmn]; exact movesG_len HVZ.out.1
  have HMV := hidep (And.intro hmv hb5)
  clear hmn hmv hb5
  go_upto_region 20 with (fail)
  refine wp_loop (LoopI 100 (fun tm ds wr => (slot tm 1) = .slice ca n cc /\ (slot tm 2) = .pointer (some ⟨Bt, 0, none⟩) /\ (slot tm 7) = .slice (some ⟨Kb, 0, none⟩) (n + 1) (n + 1) /\ (slot tm 10) = .int .i64 (pos : Nat) /\ (slot tm 11) = .int .i64 (k : Nat) /\ (slot tm 12) = .slice xa mn xc /\ ds = [] /\ GrI X0 T C Kb n Rf pos k mn bm (.slice xa mn xc) (slot tm 9) (slot tm 13) wr)) (fun a' wr => mn - natI (a'.tmps.getD 13 undef)) ?liStart ?liRound
  case' liStart => refine LoopI.mk rfl ?_
  case' liRound => (rintro ⟨t, ds⟩ wr ⟨hts, hrel⟩; dsimp only at hts hrel; rw [zq77 t ds hts])
  case liStart => exact ⟨rfl, rfl, rfl, rfl, rfl, rfl, rfl, 0, g, met, Nat.zero_le _, rfl, rfl, hgn, HK.out.1.below HMV.out.2, HK.out.2.1, HMB.out.symm, HMV.out.1, HK.out.2.2.trans (HMV.out.2.mono HK.out.2.2.size)⟩
  clear HMV HK hgn HMB
  obtain ⟨e1, e2, e7, e10, e11, e12, hds, i, g, met, hi, e9, e13, hgn, hMt, hGd, hmp, hmv, hbw⟩ := hrel
  subst hds
  rw [e1, e2, e7, e9, e10, e11, e12, e13]
  clear e1 e2 e7 e9 e10 e11 e12 e13 hts
  have hiw : IntKind.i64.wrap ((i : Int) + 1) = (i : Int) + 1 := IntWalk.i64_in _ (by omega)
  obtain ⟨wi, hwi⟩ : ∃ wo : World, wo = wr := ⟨_, rfl⟩
  rw [<- hwi] at hMt hmv hbw ⊢
  have HI := hidep (And.intro hMt (And.intro hGd (And.intro hmp (And.intro hmv hbw))))
  clear hwi hGd hmp hmv hbw
  by_cases him : i < mn
  case neg =>
    have hiI : ¬ (i : Int) < (mn : Int) := by omega
    have HG2 := hidep (HI.out.2.1.next (.inr (by rw [<- HMN.out]; omega)))
    clear hMt
    go_wp2
    refine ⟨LoopI.mk (by kernel_rfl) ⟨by kernel_rfl, by kernel_rfl, by kernel_rfl, by kernel_rfl, rfl, k + 1, g, met, by omega, by kernel_rfl, by kernel_rfl, hgn, HI.out.1, HG2.out, HI.out.2.2.2.2⟩, ?_⟩
    show 48 - _ < 48 - _
    simp [natI]; omega
  have hiI : (i : Int) < (mn : Int) := by omega
  have himm : i < (zqa T (zq15 k)).length := by rw [<- HMN.out]; exact him
  have hmv := HI.out.2.2.2.1
  rw [HMN.out] at hmv
  obtain ⟨mb, mo, c1, n1, k1, c2, n2, k2, hxa, hmbl, hmr, hmy, -⟩ := mv_at hmv himm
  subst hxa
  have hmem := zq2f HVZ.out.1 (zq95 hk48) (List.getElem_mem himm)
  have hstep := fun g' (hg : g' = max g (pos + comm (C.drop pos) (zqa T (zq15 k))[i].cells)) => HI.out.2.1.step HVZ.out.1 hk48 (by rw [<- HN.out]; omega) HI.out.2.2.1 himm rfl hg
  obtain ⟨m, hm⟩ : ∃ m, m = (zqa T (zq15 k))[i] := ⟨_, rfl⟩
  rw [<- hm] at hmr hmy hmem hstep
  have x0 := hmr 0 _ rfl
  have x2 := hmr 2 _ rfl
  have x3 := hmr 3 _ rfl
  have x4 := hmr 4 _ rfl
  have x5 := hmr 5 _ rfl
  have x6 := hmr 6 _ rfl
  rw [Nat.add_zero] at x0
  have hmt : ∃ cur fz, wi.heap[mb]? = some (.cells cur 144 fz) := by
    obtain ⟨us, _, h2, _⟩ := hmv
    exact ⟨_, _, (zq1d h2 rfl).choose_spec⟩
  have hn1 : n1 = m.cells.length := by obtain ⟨_, _, e', -, -⟩ := hmy.1.form; injection e'
  have HSTEP := hidep hstep
  have HMD := hidep (And.intro hmem (And.intro hn1 (And.intro hmbl hmt)))
  have HMX := hidep (And.intro x2 (And.intro x3 (And.intro x4 (And.intro x5 x6))))
  obtain ⟨cm, hcm'⟩ : ∃ x, x = comm (C.drop pos) m.cells := ⟨_, rfl⟩
  have hcle := zqc7 (C.drop pos) m.cells
  rw [<- hcm', <- hn1, List.length_drop, <- HN.out] at hcle
  have hbge := comm_beg (C.drop pos) m.cells
  rw [<- hcm', <- hn1] at hbge
  have HCO := hidep (show Calls Tryz.prog 83 #[.slice ca n cc, .int .i64 (pos : Nat), .slice c1 n1 k1] wi (fun e w' => e = .returned (.int .i64 ((cm : Nat) : Int)) /\ Below wi.heap.size wi w') from by
    rw [hcm']
    have hC := HC.out.below (HX0.out.1.trans (HI.out.2.2.2.2.mono HX0.out.1.size))
    rw [<- HN.out] at hC
    exact common_any (.slice ca n cc) (.slice c1 n1 k1) C m.cells wi hC (by rw [<- HN.out]; omega) pos (by rw [<- HN.out]; omega) hmy (by have := hmem.2.2.1; omega))
  obtain ⟨q, hq⟩ : ∃ q, q = pos + cm := ⟨_, rfl⟩
  obtain ⟨g2, hg2⟩ : ∃ x, x = max g q := ⟨_, rfl⟩
  have hqw : IntKind.i64.wrap ((pos : Int) + (cm : Int)) = (q : Int) := by rw [IntWalk.i64_in _ (by omega)]; omega
  have hmx : (if g < q then (q : Int) else (g : Int)) = (g2 : Int) := by split <;> omega
  have hg2n : g2 <= n := by omega
  obtain ⟨bg, hbg⟩ : ∃ x, x = begB (C.drop pos) m.cells := ⟨_, rfl⟩
  have hce : ((cm : Int) == (n1 : Int)) = bg := by
    rw [hbg, <- hbge, Bool.eq_iff_iff]
    simp only [beq_iff_eq, decide_eq_true_eq]
    omega
  have HGE := hidep (show GdI T C pos k (i + 1) (if bg = true then updM met (pos + m.cells.length) (codeN m.dst) else met) g2 from by
    rw [hbg]
    exact HSTEP.out g2 (by rw [<- hcm', hg2, hq]))
  have HBG := hidep (And.intro hbg (And.intro hcm' (And.intro hq hbge)))
  have HMP := hidep (show (if bg = true then updM met (pos + m.cells.length) (codeN m.dst) else met) pos k = true from by
    split
    · exact updM_mono HI.out.2.2.1
    · exact HI.out.2.2.1)
  clear hmr hmy hm hmem hmv hstep hcm' hcle hbge hq hg2 hbg hn1 hmbl hmt x2 x3 x4 x5 x6
  go_upto_if 85 with (go_at_call 83; refine HCO.out.mono ?_; rintro e' w6 ⟨rfl, hb6⟩)
  have hbi6 := HI.out.2.2.2.2.trans (hb6.mono HI.out.2.2.2.2.size)
  have H6 := hidep (And.intro (HI.out.1.below hb6) (And.intro (HI.out.2.2.2.1.below hb6) (And.intro hbi6 hb6)))
  clear hb6 hbi6 HCO x0 hMt
  refine zqad (Gr2 X0 T Kb n Rf (if bg = true then updM met (pos + m.cells.length) (codeN m.dst) else met) k bm (.slice (some ⟨mb, mo, none⟩) mn xc) (.slice ca n cc) (.pointer (some ⟨Bt, 0, none⟩)) (.slice (some ⟨Kb, 0, none⟩) (n + 1) (n + 1)) (.int .i64 (g2 : Nat)) (.int .i64 (pos : Nat)) (.int .i64 (k : Nat)) (.int .i64 (i : Nat))) ?r26 ?_
  case r26 =>
    intro K' hMK
    cases bg with
    | false =>
      simp only [Bool.false_eq_true, if_false] at hMK
      go_wp2
      first
        | (refine ⟨?_, ?_, ?_, ?_, ?_, ?_, ?_, ?_, ?_, ?_, H6.out.1, H6.out.2.1, H6.out.2.2.1⟩ <;> kernel_rfl)
        | (refine hMK _ _ ⟨?_, ?_, ?_, ?_, ?_, ?_, ?_, ?_, ?_, ?_, H6.out.1, H6.out.2.1, H6.out.2.2.1⟩ <;> kernel_rfl)
    | true =>
      simp only [if_true] at hMK
      have hcn : cm = n1 := by have := HBG.out.2.2.2; rw [<- HBG.out.1] at this; exact of_decide_eq_true this
      have hqn : q <= n := by
        have := zq4b (C := C) (c := m.cells) (k := pos) (by rw [<- HN.out]; omega) HBG.out.1.symm
        rw [<- HN.out, <- HMD.out.2.1, <- hcn, <- HBG.out.2.2.1] at this
        exact this
      have hqe : q = pos + m.cells.length := by rw [HBG.out.2.2.1, hcn, HMD.out.2.1]
      obtain ⟨⟨cur, hc1, hc2, hc3⟩, h4, -⟩ := id H6.out.1
      obtain ⟨hRB, rc, h41, h42, h43⟩ := h4 q hqn
      obtain ⟨cd, hcd⟩ : ∃ x, x = codeN m.dst := ⟨_, rfl⟩
      have hcd48 : cd < 48 := by rw [hcd]; exact zqa5 HMD.out.1.1
      have hset := H6.out.1.set hqn hcd48
      obtain ⟨R', hR'⟩ : ∃ x, x = Rf q := ⟨_, rfl⟩
      rw [<- hR'] at hRB h41 hset
      have z0 : w6.cell? ⟨Kb, q, none⟩ = some (.slice (some ⟨R', 0, none⟩) 48 48) := by rw [hR']; simp [World.cell?, hc1, hc3 q hqn]
      have hKR : Kb ≠ R' := fun e' => by
        rw [<- e', hc1] at h41
        injection h41 with h41
        injection h41 with _ h41 _
        exact absurd h41 (by decide)
      have hmR : mb ≠ R' := fun e' => by
        obtain ⟨cu, fz, hh⟩ := HMD.out.2.2.2
        have hh2 := zq0 H6.out.2.2.2 hh
        rw [e', h41] at hh2
        injection hh2 with hh2
        injection hh2 with _ hh2 _
        exact absurd hh2 (by decide)
      obtain ⟨bv, hbv⟩ : ∃ bv, rc[cd]? = some bv := ⟨_, Array.getElem?_eq_getElem (show cd < rc.size by omega)⟩
      have HRW := hidep (And.intro h41 (And.intro hbv hRB))
      have HSZ := hidep (show ∀ Z : World, Turned (fun b => b = R') w6 Z -> Z.cell? ⟨Kb, q, none⟩ = some (.slice (some ⟨R', 0, none⟩) 48 48) /\ Z.cell? ⟨mb, mo + i * 7 + 2, none⟩ = some (.int .i64 m.dst.st.lang) /\ Z.cell? ⟨mb, mo + i * 7 + 3, none⟩ = some (.bool m.dst.st.num) /\ Z.cell? ⟨mb, mo + i * 7 + 4, none⟩ = some (.bool m.dst.st.word) /\ Z.cell? ⟨mb, mo + i * 7 + 5, none⟩ = some (.int .i64 (m.dst.need : Nat)) /\ Z.cell? ⟨mb, mo + i * 7 + 6, none⟩ = some (.bool m.dst.sw) from fun Z hZ =>
        ⟨hZ.cell z0 hKR, hZ.cell ((H6.out.2.2.2.cell (p := ⟨mb, _, none⟩) HMD.out.2.2.1).trans HMX.out.1) hmR, hZ.cell ((H6.out.2.2.2.cell (p := ⟨mb, _, none⟩) HMD.out.2.2.1).trans HMX.out.2.1) hmR, hZ.cell ((H6.out.2.2.2.cell (p := ⟨mb, _, none⟩) HMD.out.2.2.1).trans HMX.out.2.2.1) hmR, hZ.cell ((H6.out.2.2.2.cell (p := ⟨mb, _, none⟩) HMD.out.2.2.1).trans HMX.out.2.2.2.1) hmR, hZ.cell ((H6.out.2.2.2.cell (p := ⟨mb, _, none⟩) HMD.out.2.2.1).trans HMX.out.2.2.2.2) hmR⟩)
      have HCD := hidep (show ∀ Z : World, Calls Tryz.prog 84 #[.agg #[.int .i64 m.dst.st.lang, .bool m.dst.st.num, .bool m.dst.st.word, .int .i64 (m.dst.need : Nat), .bool m.dst.sw]] Z (fun e w' => e = .returned (.int .i64 (cd : Nat)) /\ Below Z.heap.size Z w') from fun Z => by rw [hcd]; exact codeR_any m.dst HMD.out.1.1 Z)
      have hqI : (q : Int) < (n : Int) + 1 := by omega
      have hcI : (cd : Int) < 48 := by omega
      have HQE := hidep (And.intro hqe (And.intro hcd (And.intro hR' (And.intro hqn hcd48))))
      clear hset hc1 hc2 hc3 h4 h41 h42 h43 hbv hcn hqn hqe hcd hR' z0 hKR hmR hRB
      go_upto_region 26 with (fail)
      refine wp_region_noPanic (wp_region_held_drew (S := (fun Z => Turned (fun b => b = R') w6 Z)) (by kernel_rfl) ?hSz3 (fun hHeld => ?hRz3))
      case hSz3 => ((try dsimp only); (exact (Turned.refl _ _).drew))
      refine tkC 0 rfl ?_
      refine tkC 1 rfl ?_
      refine tkC 2 rfl ?_
      refine tkC 3 rfl ?_
      refine tkC 4 rfl ?_
      refine tkB 5 rfl (.inl ⟨by kernel_rfl, fun w hSw => by (obtain ⟨z0, y2, y3, y4, y5, y6⟩ := HSZ.out _ hSw); go_simp; first | done | with_reducible rfl⟩) ?_
      refine tkC 6 rfl ?_
      refine tkC 7 rfl ?_
      refine tkC 8 rfl ?_
      refine tkC 9 rfl ?_
      refine tkB 10 rfl (.inl ⟨by kernel_rfl, fun w hSw => by (obtain ⟨z0, y2, y3, y4, y5, y6⟩ := HSZ.out _ hSw); go_simp; first | done | with_reducible rfl⟩) ?_
      refine wpAnyH_ready (rs := [11]) (by kernel_rfl) (by simp) (AllReadyH.cons rfl (fun K hK => ?hcz4) AllReadyH.nil)
      go_simp
      (go_at_call 84; (with_reducible refine (HCD.out _).mono ?_); rintro e' w97 ⟨rfl, hb97⟩; have hkw : Below w6.heap.size w6 w97 := ((Below.refl _ _).drew).trans hb97; have hs1 : w97.cell? ⟨R', cd, none⟩ = some bv := (by have h := zq0 hkw HRW.out.1; simp [World.cell?, h, HRW.out.2.1]); have hs2 : w97.frozen? ⟨R', cd, none⟩ = false := zq31 (zq0 hkw HRW.out.1) cd; have hk9 := hHeld.below hb97; (try dsimp only))
      refine hK.out _ _ (by (try dsimp only); (first | exact hk9 | exact hk9.setCell ⟨R', cd, none⟩ _ (.inr rfl) | exact (hk9.setCell ⟨R', cd, none⟩ _ (.inr rfl)).drew)) ?_
      clear hHeld hK; intro hHeld
      refine tkC 12 rfl ?_
      refine wpAnyH_ready (rs := [13]) (by kernel_rfl) (by simp) (AllReadyH.cons rfl (fun K hK => ?hcz5) AllReadyH.nil)
      go_simp
      refine hK.out _ _ (by (try dsimp only); (first | exact hk9 | exact hk9.setCell ⟨R', cd, none⟩ _ (.inr rfl) | exact (hk9.setCell ⟨R', cd, none⟩ _ (.inr rfl)).drew)) ?_
      clear hHeld hK; intro hHeld
      refine wpAnyH_done (by kernel_rfl) ?_ _
      clear hHeld
      refine NoPanic.normal ?_
      all_goals
        (try dsimp only [Exit.then])
        have HEND := hidep (show MetAt X0.heap.size Kb n Rf (updM met (pos + m.cells.length) (codeN m.dst)) (w97.setCell ⟨R', cd, none⟩ (.bool true)) /\ MvR bm X0.heap.size (zq15 k).st.lang (w97.setCell ⟨R', cd, none⟩ (.bool true)) (.slice (some ⟨mb, mo, none⟩) mn xc) (zqa T (zq15 k)) /\ Below X0.heap.size X0 (w97.setCell ⟨R', cd, none⟩ (.bool true)) from by
          refine ⟨?_, (H6.out.2.1.below hkw).setB (ad := ⟨R', cd, none⟩) (zq0 hkw HRW.out.1) HRW.out.2.2 _, (H6.out.2.2.1.trans (hkw.mono H6.out.2.2.1.size)).setCell HRW.out.2.2 _⟩
          have h := (H6.out.1.below hkw).set HQE.out.2.2.2.1 HQE.out.2.2.2.2
          rw [<- HQE.out.2.2.1, HQE.out.1, HQE.out.2.1] at h
          rw [HQE.out.2.1]
          exact h)
        clear hs1 hs2 hk9 hkw
        first
          | (refine ⟨?_, ?_, ?_, ?_, ?_, ?_, ?_, ?_, ?_, ?_, HEND.out⟩ <;> kernel_rfl)
          | (refine hMK _ _ ⟨?_, ?_, ?_, ?_, ?_, ?_, ?_, ?_, ?_, ?_, HEND.out⟩ <;> kernel_rfl)
  rintro ⟨tm2, ds⟩ X7 ⟨hts, hds, e1, e2, e7, e9, e10, e11, e12, e13, hE1, hE2, hE3⟩
  dsimp only at hts hds e1 e2 e7 e9 e10 e11 e12 e13
  subst hds
  rw [zq77 tm2 _ hts, e1, e2, e7, e9, e10, e11, e12, e13]
  clear e1 e2 e7 e9 e10 e11 e12 e13 hts hce hqw hmx
  (try dsimp only [Exit.inBlock, Exit.then])
  (try apply_assumption)
  have HE7 := hidep (And.intro hE1 (And.intro hE2 hE3))
  clear hE1 hE2 hE3
  go_wp2
  refine ⟨LoopI.mk (by kernel_rfl) ⟨by kernel_rfl, by kernel_rfl, by kernel_rfl, by kernel_rfl, by kernel_rfl, by kernel_rfl, rfl, i + 1, g2, _, by omega, by kernel_rfl, by kernel_rfl, hg2n, HE7.out.1, HGE.out, HMP.out, HE7.out.2.1, HE7.out.2.2⟩, ?_⟩
  show mn - _ < mn - _
  simp [natI]; omega
end Go.Proofs.YtcfjepcflanjbaaGreat
