/- Journal: the reference's words. -/
import Derived.Test.YtipbkdlekanlmaaGreatDoorZr06
import Derived.Test.YtipbkdlekanlmaaGreatDoorZr05
namespace Go.Proofs.YtipbkdlekanlmaaGreatDoor
open Go.RowKit Go.Lab
attribute [local go_sem] Oper.semAt_some
set_option maxRecDepth 100000
theorem range_map101 (f : Nat → Value) : (List.range 101).map f = [f 0, f 1, f 2, f 3, f 4, f 5, f 6, f 7, f 8, f 9, f 10, f 11, f 12, f 13, f 14, f 15, f 16, f 17, f 18, f 19, f 20, f 21, f 22, f 23, f 24, f 25, f 26, f 27, f 28, f 29, f 30, f 31, f 32, f 33, f 34, f 35, f 36, f 37, f 38, f 39, f 40, f 41, f 42, f 43, f 44, f 45, f 46, f 47, f 48, f 49, f 50, f 51, f 52, f 53, f 54, f 55, f 56, f 57, f 58, f 59, f 60, f 61, f 62, f 63, f 64, f 65, f 66, f 67, f 68, f 69, f 70, f 71, f 72, f 73, f 74, f 75, f 76, f 77, f 78, f 79, f 80, f 81, f 82, f 83, f 84, f 85, f 86, f 87, f 88, f 89, f 90, f 91, f 92, f 93, f 94, f 95, f 96, f 97, f 98, f 99, f 100] := rfl
theorem frame101 (t : Array Value) (ds : List Deferred) (h : t.size = 101) : ({ tmps := t, defers := ds } : Act) = { tmps := #[slot t 0, slot t 1, slot t 2, slot t 3, slot t 4, slot t 5, slot t 6, slot t 7, slot t 8, slot t 9, slot t 10, slot t 11, slot t 12, slot t 13, slot t 14, slot t 15, slot t 16, slot t 17, slot t 18, slot t 19, slot t 20, slot t 21, slot t 22, slot t 23, slot t 24, slot t 25, slot t 26, slot t 27, slot t 28, slot t 29, slot t 30, slot t 31, slot t 32, slot t 33, slot t 34, slot t 35, slot t 36, slot t 37, slot t 38, slot t 39, slot t 40, slot t 41, slot t 42, slot t 43, slot t 44, slot t 45, slot t 46, slot t 47, slot t 48, slot t 49, slot t 50, slot t 51, slot t 52, slot t 53, slot t 54, slot t 55, slot t 56, slot t 57, slot t 58, slot t 59, slot t 60, slot t 61, slot t 62, slot t 63, slot t 64, slot t 65, slot t 66, slot t 67, slot t 68, slot t 69, slot t 70, slot t 71, slot t 72, slot t 73, slot t 74, slot t 75, slot t 76, slot t 77, slot t 78, slot t 79, slot t 80, slot t 81, slot t 82, slot t 83, slot t 84, slot t 85, slot t 86, slot t 87, slot t 88, slot t 89, slot t 90, slot t 91, slot t 92, slot t 93, slot t 94, slot t 95, slot t 96, slot t 97, slot t 98, slot t 99, slot t 100], defers := ds } := by
  have e : t = ((List.range 101).map (slot t)).toArray := by
    apply Array.ext
    · simp [h]
    · intro i h1 h2
      simp [slot, Array.getD, h1]
  rw [range_map101] at e
  exact congrArg (fun x => ({ tmps := x, defers := ds } : Act)) e
def WdJ (l : List Int) (w : World) (B2 B3 : Nat) (s : Value) (wr : World) : Prop := ∃ t : Nat, t ≤ 64 ∧ 16 ≤ t ∧ s = .int .i64 (t : Nat) ∧ ArrW wr B3 161 (halfW (schedTo l t) t) ∧ ArrW wr B2 161 (List.replicate 64 0) ∧ Below w.heap.size w wr
def WdI (l : List Int) (w : World) (B2 B3 most : Nat) (s : Value) (wr : World) : Prop := ∃ t : Nat, t ≤ most ∧ s = .int .i64 (t : Nat) ∧ ArrW wr B3 161 (halfW (schedTo l t) t) ∧ ArrW wr B2 161 (List.replicate 64 0) ∧ Below w.heap.size w wr
set_option maxHeartbeats 20000000 in
theorem words_any (v : Value) (l : List Int) (w : World) (hl : BytR w v l) (h64 : l.length = 64) :
    Calls Tryz.prog 105 #[v] w fun e w' => e = .returned (.agg (u32C (schedTo l 64)).toArray) ∧ Below w.heap.size w w' := by
  obtain ⟨a, c, rfl, hc, hm⟩ := hl.1.form
  obtain ⟨b, off, rfl, hb, hcell⟩ := Rd.at hl.1 (by omega)
  unfold maxLen at hm
  rw [h64] at hc ⊢
  have HB := hidep (show ∀ X, Below w.heap.size w X → ∀ j, j < 64 → X.cell? ⟨b, off + j, none⟩ = some (.int .u8 (l.getD j 0)) from fun X hX j hj => (hX.cell (p := ⟨b, off + j, none⟩) hb).trans (hcell j _ (byC_get l j (by omega))))
  have HR8 := hidep (show ∀ j, j < 64 → l.getD j 0 = wz (byW (l.getD j 0)) from fun j hj => by
    have hm2 : l.getD j 0 ∈ l := by
      rw [List.getD_eq_getElem?_getD, List.getElem?_eq_getElem (show j < l.length by omega)]
      exact List.getElem_mem _
    have := hl.2 _ hm2
    exact byW_wz _ this.1 this.2)
  have HBY := hidep (show ∀ j, j < 64 → 0 ≤ l.getD j 0 ∧ l.getD j 0 < 256 from fun j hj => by
    have hm2 : l.getD j 0 ∈ l := by
      rw [List.getD_eq_getElem?_getD, List.getElem?_eq_getElem (show j < l.length by omega)]
      exact List.getElem_mem _
    exact hl.2 _ hm2)
  clear hl hcell h64
  go_enter Tryz.func105, Tryz.ntmps105
  go_upto_region 2 with (first
    | (refine wpList_alloc_row (o := ⟨some 2, _, _, _, _, _⟩) zero_u32x64 _ rfl rfl ?_)
    | (refine wpList_alloc_row (o := ⟨some 3, _, _, _, _, _⟩) zero_u32x64 _ rfl rfl ?_)
    | fail)
  simp only [World.size_alloc]
  refine wp_abs (fun X => ArrW X w.heap.size 161 (List.replicate 64 0) ∧ ArrW X (w.heap.size + 1) 161 (List.replicate 64 0) ∧ Below w.heap.size w X)
    ⟨allocs_get [(.cells (u32C (List.replicate 64 0)).toArray 161), (.cells (u32C (List.replicate 64 0)).toArray 161)] w 0 _ rfl, allocs_get [(.cells (u32C (List.replicate 64 0)).toArray 161), (.cells (u32C (List.replicate 64 0)).toArray 161)] w 1 _ rfl, ((Below.refl _ _).alloc (Nat.le_refl _) _).alloc (by simp) _⟩ ?_
  rintro X ⟨hq2, hq3, hbX⟩
  obtain ⟨B2, hB2⟩ : ∃ B2, B2 = w.heap.size := ⟨_, rfl⟩
  obtain ⟨B3, hB3⟩ : ∃ B3, B3 = w.heap.size + 1 := ⟨_, rfl⟩
  rw [← hB3] at hq3
  rw [← hB2] at hq2
  rw [← hB3, ← hB2]
  have HBB := hidep (show w.heap.size ≤ B2 ∧ w.heap.size ≤ B3 ∧ B2 ≠ B3 from by omega)
  clear hB2 hB3
  go_upto_region 3 with (fail)
  refine wp_loop (LoopI 101 (fun tm ds wr => (slot tm 0) = .slice (some ⟨b, off, none⟩) 64 c ∧ (slot tm 2) = .pointer (some ⟨B2, 0, none⟩) ∧ (slot tm 3) = .pointer (some ⟨B3, 0, none⟩) ∧ ds = [] ∧ WdI l w B2 B3 16 (slot tm 4) wr)) (fun a' wr => 16 - (intOf (a'.tmps.getD 4 undef)).toNat) ?lowStart ?lowRound
  case' lowStart => refine LoopI.mk rfl ?_
  case' lowRound => (rintro ⟨t, ds⟩ wr ⟨hts, hrel⟩; dsimp only at hts hrel; rw [frame101 t ds hts])
  case lowStart => exact ⟨rfl, rfl, rfl, rfl, 0, Nat.zero_le _, rfl, hq3, hq2, hbX⟩
  clear hq3 hq2 hbX
  obtain ⟨h0, h2, h3, hds, t', ht, h4, hq3, hq2, hbw⟩ := hrel
  subst hds
  rw [h0, h2, h3, h4]
  clear h0 h2 h3 h4 hts
  by_cases h16 : t' < 16
  · have h16i : (t' : Int) < 16 := by omega
    have hlt : t' < 64 := by omega
    have hw4 : IntKind.i64.wrap (4 * (t' : Int)) = ((4 * t' : Nat) : Int) := by rw [IntWalk.i64_in _ (by omega)]; omega
    have hw1 : IntKind.i64.wrap (((4 * t' : Nat) : Int) + 1) = ((4 * t' + 1 : Nat) : Int) := by rw [IntWalk.i64_in _ (by omega)]; omega
    have hw2 : IntKind.i64.wrap (((4 * t' : Nat) : Int) + 2) = ((4 * t' + 2 : Nat) : Int) := by rw [IntWalk.i64_in _ (by omega)]; omega
    have hw3 : IntKind.i64.wrap (((4 * t' : Nat) : Int) + 3) = ((4 * t' + 3 : Nat) : Int) := by rw [IntWalk.i64_in _ (by omega)]; omega
    have hb0 : ((4 * t' : Nat) : Int) < 64 ∧ ((4 * t' + 1 : Nat) : Int) < 64 ∧ ((4 * t' + 2 : Nat) : Int) < 64 ∧ ((4 * t' + 3 : Nat) : Int) < 64 := by omega
    obtain ⟨hb0, hb1, hb2, hb3⟩ := hb0
    have x0 := HB.out _ hbw (4 * t') (by omega)
    have x1 := HB.out _ hbw (4 * t' + 1) (by omega)
    have x2 := HB.out _ hbw (4 * t' + 2) (by omega)
    have x3 := HB.out _ hbw (4 * t' + 3) (by omega)
    rw [HR8.out _ (by omega)] at x0 x1 x2 x3
    have r0 := HBY.out (4 * t') (by omega)
    have r1 := HBY.out (4 * t' + 1) (by omega)
    have r2 := HBY.out (4 * t' + 2) (by omega)
    have r3 := HBY.out (4 * t' + 3) (by omega)
    rw [HR8.out _ (by omega)] at r0 r1 r2 r3
    have hlen := halfW_len (schedTo_len l t') (show t' ≤ 64 by omega)
    have y0 := hq3.get (i := t') (by omega)
    have f0 := hq3.free t'
    have hq3n := hq3.set t' (wordAt l t')
    rw [halfW_set (schedTo_len l t') hlt, ← sched_low l t' h16] at hq3n
    have HW := hidep (show wordAt l t' = ((byW (l.getD (4 * t') 0) <<< 24 ||| byW (l.getD (4 * t' + 1) 0) <<< 16) ||| byW (l.getD (4 * t' + 2) 0) <<< 8) ||| byW (l.getD (4 * t' + 3) 0) from word_flat _ _ _ _)
    obtain ⟨p0, hp0⟩ : ∃ p, p = byW (l.getD (4 * t') 0) := ⟨_, rfl⟩
    obtain ⟨p1, hp1⟩ : ∃ p, p = byW (l.getD (4 * t' + 1) 0) := ⟨_, rfl⟩
    obtain ⟨p2, hp2⟩ : ∃ p, p = byW (l.getD (4 * t' + 2) 0) := ⟨_, rfl⟩
    obtain ⟨p3, hp3⟩ : ∃ p, p = byW (l.getD (4 * t' + 3) 0) := ⟨_, rfl⟩
    rw [← hp0] at x0 r0 HW
    rw [← hp1] at x1 r1 HW
    rw [← hp2] at x2 r2 HW
    rw [← hp3] at x3 r3 HW
    have HRW := hidep (And.intro hq3n (And.intro (hq2.other (o := t') HBB.out.2.2 (.int .u32 (wz (wordAt l t')))) (below_set hbw ⟨B3, t', none⟩ (.int .u32 (wz (wordAt l t'))) HBB.out.2.1)))
    have m0 : wz p0 * (16777216 : Int) = wz (p0 <<< 24) := by rw [← w_shl24]; omega
    have m1 : wz p1 * (65536 : Int) = wz (p1 <<< 16) := by rw [← w_shl16]; omega
    have m2 : wz p2 * (256 : Int) = wz (p2 <<< 8) := by rw [← w_shl8]; omega
    have e0 : bits .or .u32 (bits .or .u32 (bits .or .u32 (wz p0 * (16777216 : Int)) (wz p1 * (65536 : Int))) (wz p2 * (256 : Int))) (wz p3) = wz (wordAt l t') := by
      rw [m0, m1, m2, w_or, w_or, w_or, HW.out]
    clear m0 m1 m2
    rw [← e0] at HRW
    clear e0 hq3n hq3 hq2 hbw hlen hp0 hp1 hp2 hp3
    go_upto_region 5 with (fail)
    go_region
    all_goals
      (try dsimp only [Exit.inBlock, Exit.then])
      go_wp2
      refine ⟨LoopI.mk rfl ⟨rfl, rfl, rfl, rfl, t' + 1, by omega, by show Value.int _ _ = _; go_num, HRW.out.1, HRW.out.2.1, by first | exact HRW.out.2.2 | exact HRW.out.2.2.drew⟩, ?_⟩
      show 16 - _ < 16 - _
      simp [intOf]; omega
  · have h16i : ¬ (t' : Int) < 16 := by omega
    have ht16 : t' = 16 := by omega
    subst ht16
    go_upto_region 7 with (fail)
    refine wp_loop (LoopI 101 (fun tm ds wr => (slot tm 2) = .pointer (some ⟨B2, 0, none⟩) ∧ (slot tm 3) = .pointer (some ⟨B3, 0, none⟩) ∧ ds = [] ∧ WdJ l w B2 B3 (slot tm 5) wr)) (fun a' wr => 64 - (intOf (a'.tmps.getD 5 undef)).toNat) ?highStart ?highRound
    case' highStart => refine LoopI.mk rfl ?_
    case' highRound => (rintro ⟨t, ds⟩ wr ⟨hts, hrel⟩; dsimp only at hts hrel; rw [frame101 t ds hts])
    case highStart => exact ⟨rfl, rfl, rfl, 16, by omega, Nat.le_refl _, rfl, hq3, hq2, hbw⟩
    clear hq3 hq2 hbw
    obtain ⟨h2, h3, hds, t', ht, h16, h5, hq3, hq2, hbw⟩ := hrel
    subst hds
    rw [h2, h3, h5]
    clear h2 h3 h5 hts
    have hlen := halfW_len (schedTo_len l t') ht
    by_cases hlt : t' < 64
    · have hlti : (t' : Int) < 64 := by omega
      have hw15 : IntKind.i64.wrap ((t' : Int) - 15) = ((t' - 15 : Nat) : Int) := by rw [IntWalk.i64_in _ (by omega)]; omega
      have hw2 : IntKind.i64.wrap ((t' : Int) - 2) = ((t' - 2 : Nat) : Int) := by rw [IntWalk.i64_in _ (by omega)]; omega
      have hw16 : IntKind.i64.wrap ((t' : Int) - 16) = ((t' - 16 : Nat) : Int) := by rw [IntWalk.i64_in _ (by omega)]; omega
      have hw7 : IntKind.i64.wrap ((t' : Int) - 7) = ((t' - 7 : Nat) : Int) := by rw [IntWalk.i64_in _ (by omega)]; omega
      have hb15 : ((t' - 15 : Nat) : Int) < 64 ∧ ((t' - 2 : Nat) : Int) < 64 ∧ ((t' - 16 : Nat) : Int) < 64 ∧ ((t' - 7 : Nat) : Int) < 64 := by omega
      obtain ⟨hb15, hb2, hb16, hb7⟩ := hb15
      obtain ⟨ws, hws⟩ : ∃ ws, ws = schedTo l t' := ⟨_, rfl⟩
      have hwl : ws.length = t' := by rw [hws]; exact schedTo_len l t'
      rw [← hws] at hq3
      have y15 := hq3.get (i := t' - 15) (by rw [halfW_len hwl ht]; omega)
      have y2 := hq3.get (i := t' - 2) (by rw [halfW_len hwl ht]; omega)
      rw [halfW_get hwl (by omega)] at y15 y2
      have HNW := hidep (show nextW ws t' = ws.getD (t' - 16) 0 + sg0 (ws.getD (t' - 15) 0) + ws.getD (t' - 7) 0 + sg1 (ws.getD (t' - 2) 0) from rfl)
      obtain ⟨p15, h15⟩ : ∃ p, p = ws.getD (t' - 15) 0 := ⟨_, rfl⟩
      obtain ⟨p2, h2p⟩ : ∃ p, p = ws.getD (t' - 2) 0 := ⟨_, rfl⟩
      rw [← h15] at y15 HNW
      rw [← h2p] at y2 HNW
      have HR7 := hidep (show ∀ W, Calls Tryz.prog 106 #[.int .u32 (wz p15), .int .i64 7] W fun e w' => e = .returned (.int .u32 (wz (rotr p15 7))) ∧ ∃ d, w' = W.drewN d from fun W => rotr_any p15 7 (by omega) (by omega) W)
      have HR18 := hidep (show ∀ W, Calls Tryz.prog 106 #[.int .u32 (wz p15), .int .i64 18] W fun e w' => e = .returned (.int .u32 (wz (rotr p15 18))) ∧ ∃ d, w' = W.drewN d from fun W => rotr_any p15 18 (by omega) (by omega) W)
      have HR17 := hidep (show ∀ W, Calls Tryz.prog 106 #[.int .u32 (wz p2), .int .i64 17] W fun e w' => e = .returned (.int .u32 (wz (rotr p2 17))) ∧ ∃ d, w' = W.drewN d from fun W => rotr_any p2 17 (by omega) (by omega) W)
      have HR19 := hidep (show ∀ W, Calls Tryz.prog 106 #[.int .u32 (wz p2), .int .i64 19] W fun e w' => e = .returned (.int .u32 (wz (rotr p2 19))) ∧ ∃ d, w' = W.drewN d from fun W => rotr_any p2 19 (by omega) (by omega) W)
      have H2P := hidep h2p.symm
      clear h15 h2p
      go_upto_region 9 with (fail)
      go_quiet ((go_at_call 106; first | ((with_reducible refine (HR7.out _).mono ?_); rintro e w' ⟨rfl, d, rfl⟩; exact ⟨rfl, _, World.drewN_drewN ..⟩) | ((with_reducible refine (HR18.out _).mono ?_); rintro e w' ⟨rfl, d, rfl⟩; exact ⟨rfl, _, World.drewN_drewN ..⟩)))
      apply_assumption
      refine wp_abs (fun X => ArrW X B3 161 (halfW ws t') ∧ ArrW X B2 161 (List.replicate 64 0) ∧ Below w.heap.size w X) (by first | exact ⟨hq3, hq2, below_drewN hbw _⟩ | exact ⟨hq3, hq2, below_drewN (below_drewN hbw _) _⟩ | exact ⟨hq3, hq2, hbw⟩) ?_
      clear hq3 hq2 hbw y15 y2
      rintro X0 ⟨hq3, hq2, hbw⟩
      have y2 := hq3.get (i := t' - 2) (by rw [halfW_len hwl ht]; omega)
      rw [halfW_get hwl (by omega), H2P.out] at y2
      go_upto_region 10 with (fail)
      go_quiet ((go_at_call 106; first | ((with_reducible refine (HR17.out _).mono ?_); rintro e w' ⟨rfl, d, rfl⟩; exact ⟨rfl, _, World.drewN_drewN ..⟩) | ((with_reducible refine (HR19.out _).mono ?_); rintro e w' ⟨rfl, d, rfl⟩; exact ⟨rfl, _, World.drewN_drewN ..⟩)))
      apply_assumption
      refine wp_abs (fun X => ArrW X B3 161 (halfW ws t') ∧ ArrW X B2 161 (List.replicate 64 0) ∧ Below w.heap.size w X) (by first | exact ⟨hq3, hq2, below_drewN (below_drewN hbw _) _⟩ | exact ⟨hq3, hq2, below_drewN hbw _⟩ | exact ⟨hq3, hq2, hbw⟩) ?_
      clear hq3 hq2 hbw y2 HR7 HR18 HR17 HR19
      rintro X1 ⟨hq3, hq2, hbw⟩
      have e0 : bits .xor .u32 (bits .xor .u32 (wz (rotr p15 7)) (wz (rotr p15 18))) (wz p15 / 8) = wz (sg0 p15) := by rw [w_shr3, w_xor, w_xor]; rfl
      have e1 : bits .xor .u32 (bits .xor .u32 (wz (rotr p2 17)) (wz (rotr p2 19))) (wz p2 / 1024) = wz (sg1 p2) := by rw [w_shr10, w_xor, w_xor]; rfl
      have y16 := hq3.get (i := t' - 16) (by rw [halfW_len hwl ht]; omega)
      have y7 := hq3.get (i := t' - 7) (by rw [halfW_len hwl ht]; omega)
      have yt := hq3.get (i := t') (by rw [halfW_len hwl ht]; omega)
      rw [halfW_get hwl (by omega)] at y16 y7
      have ft := hq3.free t'
      obtain ⟨p16, h16p⟩ : ∃ p, p = ws.getD (t' - 16) 0 := ⟨_, rfl⟩
      obtain ⟨p7, h7p⟩ : ∃ p, p = ws.getD (t' - 7) 0 := ⟨_, rfl⟩
      rw [← h16p] at y16 HNW
      rw [← h7p] at y7 HNW
      rw [e0, e1]
      have ha1 : IntKind.u32.wrap (wz p16 + wz (sg0 p15)) = wz (p16 + sg0 p15) := w_add _ _
      have ha2 : IntKind.u32.wrap (wz (p16 + sg0 p15) + wz p7) = wz (p16 + sg0 p15 + p7) := w_add _ _
      have ha3 : IntKind.u32.wrap (wz (p16 + sg0 p15 + p7) + wz (sg1 p2)) = wz (p16 + sg0 p15 + p7 + sg1 p2) := w_add _ _
      have hq3n := hq3.set t' (nextW ws t')
      rw [halfW_set hwl hlt, show ws ++ [nextW ws t'] = schedTo l (t' + 1) from by rw [hws, sched_high l t' (by omega)], HNW.out] at hq3n
      have HQ3 := hidep hq3n
      have HQ2 := hidep (hq2.other (o := t') HBB.out.2.2 (.int .u32 (wz (nextW ws t'))))
      have HBW := hidep (below_set hbw ⟨B3, t', none⟩ (.int .u32 (wz (nextW ws t'))) HBB.out.2.1)
      rw [HNW.out] at HQ2 HBW
      clear e0 e1 h16p h7p hq3 hq2 hq3n hbw hws
      go_region
      all_goals
        go_wp2
        refine ⟨LoopI.mk rfl ⟨rfl, rfl, rfl, t' + 1, by omega, by omega, by show Value.int _ _ = _; go_num, HQ3.out, HQ2.out, by first | exact HBW.out.drew | exact HBW.out⟩, ?_⟩
        show 64 - _ < 64 - _
        simp [intOf]; omega
    · have hlti : ¬ (t' : Int) < 64 := by omega
      have ht64 : t' = 64 := by omega
      obtain ⟨ws, hws⟩ : ∃ ws, ws = schedTo l t' := ⟨_, rfl⟩
      have hwl : ws.length = 64 := by rw [hws, schedTo_len, ht64]
      rw [← hws] at hq3
      have HWS := hidep (show ws = schedTo l 64 from by rw [hws, ht64])
      have e64 : halfW ws t' = ws := by
        unfold halfW
        rw [ht64, Nat.sub_self, List.replicate_zero, List.append_nil]
      rw [e64] at hq3
      clear hws
      subst ht64
      obtain ⟨W2, hW2⟩ : ∃ W2, W2 = wr.setCells B2 0 (u32C ws) := ⟨_, rfl⟩
      have HL := hidep (show wr.rangeAt B3 0 (u32C ws) from range_of_arr hq3)
      have HTH := hidep (show wr.there B2 0 (u32C ws).toArray.size from there_of_arr hq2 (by simp [u32C_len, hwl]))
      have HI := hidep (show (Tryz.prog.info? 161).map (·.size) = some (u32C ws).toArray.size ∧ (Tryz.prog.info? 161).map (·.size) = some (u32C ws).length from ⟨by rw [List.size_toArray, u32C_len, hwl]; exact row_u32x64.2, by rw [u32C_len, hwl]; exact row_u32x64.2⟩)
      have HONE := hidep (all_oneCell_toArray (u32C_one ws))
      have HEND := hidep (show W2.rangeAt B2 0 (u32C ws) ∧ Below w.heap.size w W2 from by
        rw [hW2]
        refine ⟨World.rangeAt_setCells_same _ _ _ _ ?_, below_setCells B2 HBB.out.1 _ _ _ hbw⟩
        have := HTH.out
        rwa [List.size_toArray] at this)
      have HW2 := hidep hW2
      clear hq3 hq2 hbw hW2 e64 hlen hwl
      go_upto_region 12 with (fail)
      refine wp_region_lit ?_
      refine wpList_load_mid (op := ⟨some 100, _, _, _, _, _⟩) rfl 161 _ rfl B3 0 rfl _ _ HL.out row_u32x64.1.choose_spec.1 row_u32x64.1.choose_spec.2 HI.out.2 ?_
      refine wpList_store_to (op := ⟨none, _, _, _, _, _⟩) rfl 161 _ _ rfl B2 0 (u32C ws).toArray rfl rfl HTH.out HI.out.1 HONE.out W2 HW2.out.symm ?_
      go_wp2
      refine bodyPost_ret (results_cell1 rfl _ _ _ rfl (run_loadVar_mid (P := Tryz.prog) W2 B2 0 161 (u32C ws) _ HEND.out.1 row_u32x64.1.choose_spec.1 row_u32x64.1.choose_spec.2 HI.out.2)) rfl ?_
      exact ⟨by rw [HWS.out], HEND.out.2⟩
end Go.Proofs.YtipbkdlekanlmaaGreatDoor
/- Journal: the reference's padding of 56 bytes. -/
namespace Go.Proofs.YtipbkdlekanlmaaGreatDoor
open Go.RowKit Go.Lab
attribute [local go_sem] Oper.semAt_some
set_option maxRecDepth 100000
theorem range_map37 (f : Nat → Value) : (List.range 37).map f = [f 0, f 1, f 2, f 3, f 4, f 5, f 6, f 7, f 8, f 9, f 10, f 11, f 12, f 13, f 14, f 15, f 16, f 17, f 18, f 19, f 20, f 21, f 22, f 23, f 24, f 25, f 26, f 27, f 28, f 29, f 30, f 31, f 32, f 33, f 34, f 35, f 36] := rfl
theorem frame37 (t : Array Value) (ds : List Deferred) (h : t.size = 37) : ({ tmps := t, defers := ds } : Act) = { tmps := #[slot t 0, slot t 1, slot t 2, slot t 3, slot t 4, slot t 5, slot t 6, slot t 7, slot t 8, slot t 9, slot t 10, slot t 11, slot t 12, slot t 13, slot t 14, slot t 15, slot t 16, slot t 17, slot t 18, slot t 19, slot t 20, slot t 21, slot t 22, slot t 23, slot t 24, slot t 25, slot t 26, slot t 27, slot t 28, slot t 29, slot t 30, slot t 31, slot t 32, slot t 33, slot t 34, slot t 35, slot t 36], defers := ds } := by
  have e : t = ((List.range 37).map (slot t)).toArray := by
    apply Array.ext
    · simp [h]
    · intro i h1 h2
      simp [slot, Array.getD, h1]
  rw [range_map37] at e
  exact congrArg (fun x => ({ tmps := x, defers := ds } : Act)) e
theorem slByteR : SlT Tryz.prog 81 5 (.int .u8 0) 1 1 := ⟨by kernel_rfl, by kernel_rfl, rfl, by decide⟩
theorem byC_one (l : List Int) : ∀ u ∈ byC l, u.oneCell' = true := by
  intro u hu
  obtain ⟨x, _, rfl⟩ := List.mem_map.1 hu
  rfl
theorem byC_snoc (l : List Int) (x : Int) : byC (l ++ [x]) = byC l ++ [.int .u8 x] := by simp [byC]
theorem own_below {W X : World} {base k n : Nat} {e : TypeId} {v : Value} {xs : List Value} (h : W.ownsRow base e k v n xs) (hb : Below W.heap.size W X) : X.ownsRow base e k v n xs := ownsRow_turned h (Turned.of_below (T := fun _ => False) hb) (fun _ _ h => h)
def lenV : Value → Nat
  | .slice _ n _ => n
  | _ => 0
def v448 : Value := .int .u64 448
/-- Zeros follow: z of them. -/
def PadI (l : List Int) (w : World) (v : Value) (wr : World) : Prop := ∃ z : Nat, z ≤ 63 ∧ wr.ownsRow w.heap.size 5 1 v (57 + z) (byC (l ++ [128] ++ List.replicate z 0)) ∧ Below w.heap.size w wr
def PadJ (l : List Int) (w : World) (s v : Value) (wr : World) : Prop := ∃ i : Nat, i ≤ 8 ∧ s = .int .i64 (i : Nat) ∧ wr.ownsRow w.heap.size 5 1 v (120 + i) (byC (l ++ [128] ++ List.replicate 63 0 ++ ([0, 0, 0, 0, 0, 0, 1, 192] : List Int).take i)) ∧ Below w.heap.size w wr
set_option maxHeartbeats 20000000 in
theorem padded_any (v : Value) (l : List Int) (w : World) (hl : BytR w v l) (h56 : l.length = 56) :
    Calls Tryz.prog 104 #[v] w fun e w' => ∃ (a : Option Addr) (c : Nat), e = .returned (.slice a 128 c) ∧ w'.ownsRow w.heap.size 5 1 (.slice a 128 c) 128 (byC (l ++ tail56)) ∧ Below w.heap.size w w' := by
  obtain ⟨a, c, rfl, hc, hm⟩ := hl.1.form
  unfold maxLen at hm
  have hrd := hl.1
  rw [h56] at hrd
  rw [h56]
  have hrA := fun o => Rd.below hrd (Below.alloc (Below.refl w.heap.size w) (Nat.le_refl _) o)
  have hlit : (w.alloc (.cells #[] 5)).ownsRow w.heap.size 5 1 (.slice (some ⟨w.heap.size, 0, none⟩) 0 0) 0 [] := lit_own (heap_alloc_new _ _) (Nat.le_refl _)
  clear hl hrd hc
  go_enter Tryz.func104, Tryz.ntmps104
  go_upto_region 2 with (first
    | (at_builtin; refine wpList_append_rd _ rfl (.tmp 6) (.tmp 7) rfl slByteR w.heap.size _ _ _ rfl hlit _ _ _ _ rfl (hrA _) (by intro u hu; exact byC_one l u hu) (by unfold maxLen; omega) (by omega) (by simp) ?_; intro v2 w2 hown2 hgr2 hat2 hnl2; clear hat2 hnl2; have hb2 : Below w.heap.size w w2 := ((Below.refl _ _).alloc (Nat.le_refl _) _).grown hgr2 (by simp) (fun g hg => by cases hg; exact Nat.le_refl _))
    | fail)
  obtain ⟨a2, c2, rfl, _, _⟩ := (Rd.of_own hown2).form
  simp only [Nat.zero_add, List.nil_append] at hown2
  have hs2 := hb2.size
  have hownA := fun o => own_below hown2 (Below.alloc (Below.refl w2.heap.size w2) (Nat.le_refl _) o)
  go_upto_region 3 with (first
    | (at_builtin; refine wpList_append_rd _ rfl (.tmp 9) (.tmp 10) rfl slByteR w.heap.size _ _ _ rfl (hownA _) _ _ _ _ rfl (Rd.fresh w2 #[.int .u8 128] 5 1 1 rfl (by decide)) (by intro u hu; simp at hu; subst hu; rfl) (by unfold maxLen; omega) (by omega) (by simp; omega) ?_; intro v3 w3 hown3 hgr3 hat3 hnl3; clear hat3 hnl3; have hb3 : Below w.heap.size w w3 := (hb2.alloc hs2 _).grown hgr3 (by simp; omega) (fun g hg => ((hownA (.cells #[] 0)).lt g hg).1))
    | fail)
  have e3 : byC l ++ [Value.int .u8 128] = byC (l ++ [128] ++ List.replicate 0 0) := by simp [byC]
  clear hownA hown2 hgr2 hb2 hs2 hrA hlit
  refine wp_loop (LoopI 37 (fun tm ds wr => (slot tm 0) = .slice a 56 c ∧ ds = [] ∧ PadI l w (slot tm 3) wr)) (fun a' wr => 200 - lenV (a'.tmps.getD 3 undef)) ?zerosStart ?zerosRound
  case' zerosStart => refine LoopI.mk rfl ?_
  case' zerosRound => (rintro ⟨t, ds⟩ wr ⟨hts, hrel⟩; dsimp only at hts hrel; rw [frame37 t ds hts])
  case zerosStart => exact ⟨rfl, rfl, 0, Nat.zero_le _, by rw [← e3]; exact hown3, hb3⟩
  clear hown3 hgr3 hb3 e3
  obtain ⟨h0, hds, z, hz, hown, hbw⟩ := hrel
  subst hds
  obtain ⟨za, zc, hv, _, _⟩ := (Rd.of_own hown).form
  rw [hv] at hown
  rw [h0, hv]
  clear h0 hv hts
  have hsw := hbw.size
  by_cases hz63 : z < 63
  · have hm64 : ¬ ((57 + z : Nat) : Int) % 64 = 56 := by omega
    have hownA := fun o => own_below hown (Below.alloc (Below.refl wr.heap.size wr) (Nat.le_refl _) o)
    go_wp2_with (first
      | (at_builtin; refine wpList_append_rd _ rfl (.tmp 16) (.tmp 17) rfl slByteR w.heap.size _ _ _ rfl (hownA _) _ _ _ _ rfl (Rd.fresh wr #[.int .u8 0] 5 1 1 rfl (by decide)) (by intro u hu; simp at hu; subst hu; rfl) (by unfold maxLen; omega) (by omega) (by simp; omega) ?_; intro v3 w3 hown3 hgr3 hat3 hnl3; clear hat3 hnl3; have hb3 : Below w.heap.size w w3 := (hbw.alloc hsw _).grown hgr3 (by simp; omega) (fun g hg => ((hownA (.cells #[] 0)).lt g hg).1))
      | fail)
    have e4 : byC (l ++ [128] ++ List.replicate z 0) ++ [Value.int .u8 0] = byC (l ++ [128] ++ List.replicate (z + 1) 0) := by
      rw [List.replicate_succ', ← List.append_assoc, byC_snoc]
    refine ⟨LoopI.mk rfl ⟨rfl, rfl, z + 1, by omega, by rw [← e4]; exact hown3, hb3⟩, ?_⟩
    obtain ⟨ya, yc, hv3, _, _⟩ := (Rd.of_own hown3).form
    rw [hv3]
    show 200 - _ < 200 - _
    simp [lenV]; omega
  · have hz64 : z = 63 := by omega
    subst hz64
    have hm64 : ((57 + 63 : Nat) : Int) % 64 = 56 := by decide
    go_upto_region 7 with (fail)
    have e5 : byC (l ++ [128] ++ List.replicate 63 0) = byC (l ++ [128] ++ List.replicate 63 0 ++ ([0, 0, 0, 0, 0, 0, 1, 192] : List Int).take 0) := by rw [List.take_zero, List.append_nil]
    obtain ⟨pre, hpre⟩ : ∃ pre : List Int, pre = l ++ [128] ++ List.replicate 63 0 := ⟨_, rfl⟩
    rw [e5] at hown
    clear e5
    refine wp_loop (LoopI 37 (fun tm ds wr => (slot tm 4) = v448 ∧ ds = [] ∧ PadJ l w (slot tm 5) (slot tm 3) wr)) (fun a' wr => 8 - (intOf (a'.tmps.getD 5 undef)).toNat) ?tailStart ?tailRound
    case' tailStart => refine LoopI.mk rfl ?_
    case' tailRound => (rintro ⟨t, ds⟩ wr ⟨hts, hrel⟩; dsimp only at hts hrel; rw [frame37 t ds hts])
    case tailStart => exact ⟨rfl, rfl, 0, Nat.zero_le _, rfl, hown, hbw⟩
    clear hown hbw hsw
    obtain ⟨h4, hds, i, hi, h5, hown, hbw⟩ := hrel
    subst hds
    obtain ⟨ya, yc, hv, _, _⟩ := (Rd.of_own hown).form
    rw [hv, ← hpre] at hown
    rw [h4, h5, hv]
    unfold v448
    clear h4 h5 hv hts
    have hsw := hbw.size
    have hownA := fun o => own_below hown (Below.alloc (Below.refl wr.heap.size wr) (Nat.le_refl _) o)
    have HPRE := hidep hpre
    clear hpre
    by_cases hi8 : i < 8
    · clear hi
      rcases (by omega : i = 0 ∨ i = 1 ∨ i = 2 ∨ i = 3 ∨ i = 4 ∨ i = 5 ∨ i = 6 ∨ i = 7) with rfl | rfl | rfl | rfl | rfl | rfl | rfl | rfl
      · go_wp2_with (first
          | (at_builtin; refine wpList_append_rd _ rfl (.tmp 27) (.tmp 34) rfl slByteR w.heap.size _ _ _ rfl (hownA _) _ _ _ _ rfl (Rd.fresh wr _ 5 1 1 rfl (by decide)) (by intro u hu; simp at hu; subst hu; rfl) (by unfold maxLen; omega) (by omega) (by simp; omega) ?_; intro v3 w3 hown3 hgr3 hat3 hnl3; clear hat3 hnl3; have hb3 : Below w.heap.size w w3 := (hbw.alloc hsw _).grown hgr3 (by simp; omega) (fun g hg => ((hownA (.cells #[] 0)).lt g hg).1))
          | fail)
        refine ⟨LoopI.mk rfl ⟨rfl, rfl, 1, by omega, rfl, by rw [← HPRE.out, show byC (pre ++ ([0, 0, 0, 0, 0, 0, 1, 192] : List Int).take 1) = byC (pre ++ ([0, 0, 0, 0, 0, 0, 1, 192] : List Int).take 0) ++ [.int .u8 0] from by simp [byC]]; exact hown3, hb3⟩, ?_⟩
        show 8 - _ < 8 - _
        simp [intOf]
      · go_wp2_with (first
          | (at_builtin; refine wpList_append_rd _ rfl (.tmp 27) (.tmp 34) rfl slByteR w.heap.size _ _ _ rfl (hownA _) _ _ _ _ rfl (Rd.fresh wr _ 5 1 1 rfl (by decide)) (by intro u hu; simp at hu; subst hu; rfl) (by unfold maxLen; omega) (by omega) (by simp; omega) ?_; intro v3 w3 hown3 hgr3 hat3 hnl3; clear hat3 hnl3; have hb3 : Below w.heap.size w w3 := (hbw.alloc hsw _).grown hgr3 (by simp; omega) (fun g hg => ((hownA (.cells #[] 0)).lt g hg).1))
          | fail)
        refine ⟨LoopI.mk rfl ⟨rfl, rfl, 2, by omega, rfl, by rw [← HPRE.out, show byC (pre ++ ([0, 0, 0, 0, 0, 0, 1, 192] : List Int).take 2) = byC (pre ++ ([0, 0, 0, 0, 0, 0, 1, 192] : List Int).take 1) ++ [.int .u8 0] from by simp [byC]]; exact hown3, hb3⟩, ?_⟩
        show 8 - _ < 8 - _
        simp [intOf]
      · go_wp2_with (first
          | (at_builtin; refine wpList_append_rd _ rfl (.tmp 27) (.tmp 34) rfl slByteR w.heap.size _ _ _ rfl (hownA _) _ _ _ _ rfl (Rd.fresh wr _ 5 1 1 rfl (by decide)) (by intro u hu; simp at hu; subst hu; rfl) (by unfold maxLen; omega) (by omega) (by simp; omega) ?_; intro v3 w3 hown3 hgr3 hat3 hnl3; clear hat3 hnl3; have hb3 : Below w.heap.size w w3 := (hbw.alloc hsw _).grown hgr3 (by simp; omega) (fun g hg => ((hownA (.cells #[] 0)).lt g hg).1))
          | fail)
        refine ⟨LoopI.mk rfl ⟨rfl, rfl, 3, by omega, rfl, by rw [← HPRE.out, show byC (pre ++ ([0, 0, 0, 0, 0, 0, 1, 192] : List Int).take 3) = byC (pre ++ ([0, 0, 0, 0, 0, 0, 1, 192] : List Int).take 2) ++ [.int .u8 0] from by simp [byC]]; exact hown3, hb3⟩, ?_⟩
        show 8 - _ < 8 - _
        simp [intOf]
      · go_wp2_with (first
          | (at_builtin; refine wpList_append_rd _ rfl (.tmp 27) (.tmp 34) rfl slByteR w.heap.size _ _ _ rfl (hownA _) _ _ _ _ rfl (Rd.fresh wr _ 5 1 1 rfl (by decide)) (by intro u hu; simp at hu; subst hu; rfl) (by unfold maxLen; omega) (by omega) (by simp; omega) ?_; intro v3 w3 hown3 hgr3 hat3 hnl3; clear hat3 hnl3; have hb3 : Below w.heap.size w w3 := (hbw.alloc hsw _).grown hgr3 (by simp; omega) (fun g hg => ((hownA (.cells #[] 0)).lt g hg).1))
          | fail)
        refine ⟨LoopI.mk rfl ⟨rfl, rfl, 4, by omega, rfl, by rw [← HPRE.out, show byC (pre ++ ([0, 0, 0, 0, 0, 0, 1, 192] : List Int).take 4) = byC (pre ++ ([0, 0, 0, 0, 0, 0, 1, 192] : List Int).take 3) ++ [.int .u8 0] from by simp [byC]]; exact hown3, hb3⟩, ?_⟩
        show 8 - _ < 8 - _
        simp [intOf]
      · go_wp2_with (first
          | (at_builtin; refine wpList_append_rd _ rfl (.tmp 27) (.tmp 34) rfl slByteR w.heap.size _ _ _ rfl (hownA _) _ _ _ _ rfl (Rd.fresh wr _ 5 1 1 rfl (by decide)) (by intro u hu; simp at hu; subst hu; rfl) (by unfold maxLen; omega) (by omega) (by simp; omega) ?_; intro v3 w3 hown3 hgr3 hat3 hnl3; clear hat3 hnl3; have hb3 : Below w.heap.size w w3 := (hbw.alloc hsw _).grown hgr3 (by simp; omega) (fun g hg => ((hownA (.cells #[] 0)).lt g hg).1))
          | fail)
        refine ⟨LoopI.mk rfl ⟨rfl, rfl, 5, by omega, rfl, by rw [← HPRE.out, show byC (pre ++ ([0, 0, 0, 0, 0, 0, 1, 192] : List Int).take 5) = byC (pre ++ ([0, 0, 0, 0, 0, 0, 1, 192] : List Int).take 4) ++ [.int .u8 0] from by simp [byC]]; exact hown3, hb3⟩, ?_⟩
        show 8 - _ < 8 - _
        simp [intOf]
      · go_wp2_with (first
          | (at_builtin; refine wpList_append_rd _ rfl (.tmp 27) (.tmp 34) rfl slByteR w.heap.size _ _ _ rfl (hownA _) _ _ _ _ rfl (Rd.fresh wr _ 5 1 1 rfl (by decide)) (by intro u hu; simp at hu; subst hu; rfl) (by unfold maxLen; omega) (by omega) (by simp; omega) ?_; intro v3 w3 hown3 hgr3 hat3 hnl3; clear hat3 hnl3; have hb3 : Below w.heap.size w w3 := (hbw.alloc hsw _).grown hgr3 (by simp; omega) (fun g hg => ((hownA (.cells #[] 0)).lt g hg).1))
          | fail)
        refine ⟨LoopI.mk rfl ⟨rfl, rfl, 6, by omega, rfl, by rw [← HPRE.out, show byC (pre ++ ([0, 0, 0, 0, 0, 0, 1, 192] : List Int).take 6) = byC (pre ++ ([0, 0, 0, 0, 0, 0, 1, 192] : List Int).take 5) ++ [.int .u8 0] from by simp [byC]]; exact hown3, hb3⟩, ?_⟩
        show 8 - _ < 8 - _
        simp [intOf]
      · go_wp2_with (first
          | (at_builtin; refine wpList_append_rd _ rfl (.tmp 27) (.tmp 34) rfl slByteR w.heap.size _ _ _ rfl (hownA _) _ _ _ _ rfl (Rd.fresh wr _ 5 1 1 rfl (by decide)) (by intro u hu; simp at hu; subst hu; rfl) (by unfold maxLen; omega) (by omega) (by simp; omega) ?_; intro v3 w3 hown3 hgr3 hat3 hnl3; clear hat3 hnl3; have hb3 : Below w.heap.size w w3 := (hbw.alloc hsw _).grown hgr3 (by simp; omega) (fun g hg => ((hownA (.cells #[] 0)).lt g hg).1))
          | fail)
        refine ⟨LoopI.mk rfl ⟨rfl, rfl, 7, by omega, rfl, by rw [← HPRE.out, show byC (pre ++ ([0, 0, 0, 0, 0, 0, 1, 192] : List Int).take 7) = byC (pre ++ ([0, 0, 0, 0, 0, 0, 1, 192] : List Int).take 6) ++ [.int .u8 1] from by simp [byC]]; exact hown3, hb3⟩, ?_⟩
        show 8 - _ < 8 - _
        simp [intOf]
      · go_wp2_with (first
          | (at_builtin; refine wpList_append_rd _ rfl (.tmp 27) (.tmp 34) rfl slByteR w.heap.size _ _ _ rfl (hownA _) _ _ _ _ rfl (Rd.fresh wr _ 5 1 1 rfl (by decide)) (by intro u hu; simp at hu; subst hu; rfl) (by unfold maxLen; omega) (by omega) (by simp; omega) ?_; intro v3 w3 hown3 hgr3 hat3 hnl3; clear hat3 hnl3; have hb3 : Below w.heap.size w w3 := (hbw.alloc hsw _).grown hgr3 (by simp; omega) (fun g hg => ((hownA (.cells #[] 0)).lt g hg).1))
          | fail)
        refine ⟨LoopI.mk rfl ⟨rfl, rfl, 8, by omega, rfl, by rw [← HPRE.out, show byC (pre ++ ([0, 0, 0, 0, 0, 0, 1, 192] : List Int).take 8) = byC (pre ++ ([0, 0, 0, 0, 0, 0, 1, 192] : List Int).take 7) ++ [.int .u8 192] from by simp [byC]]; exact hown3, hb3⟩, ?_⟩
        show 8 - _ < 8 - _
        simp [intOf]
    · have hi9 : i = 8 := by omega
      subst hi9
      go_wp2
      go_ret
      refine ⟨_, _, rfl, ?_, hbw⟩
      have e6 : l ++ tail56 = pre ++ ([0, 0, 0, 0, 0, 0, 1, 192] : List Int).take 8 := by
        rw [HPRE.out]
        simp [tail56]
      rw [e6]
      exact hown
end Go.Proofs.YtipbkdlekanlmaaGreatDoor
