/- Journal: the code's message schedule. -/
import Derived.Test.YtipbkdlekanlmaaGreatDoorZr05
namespace Go.Proofs.YtipbkdlekanlmaaGreatDoor
open Go.RowKit Go.Lab
attribute [local go_sem] Oper.semAt_some
set_option maxRecDepth 100000
theorem range_map79 (f : Nat → Value) : (List.range 79).map f = [f 0, f 1, f 2, f 3, f 4, f 5, f 6, f 7, f 8, f 9, f 10, f 11, f 12, f 13, f 14, f 15, f 16, f 17, f 18, f 19, f 20, f 21, f 22, f 23, f 24, f 25, f 26, f 27, f 28, f 29, f 30, f 31, f 32, f 33, f 34, f 35, f 36, f 37, f 38, f 39, f 40, f 41, f 42, f 43, f 44, f 45, f 46, f 47, f 48, f 49, f 50, f 51, f 52, f 53, f 54, f 55, f 56, f 57, f 58, f 59, f 60, f 61, f 62, f 63, f 64, f 65, f 66, f 67, f 68, f 69, f 70, f 71, f 72, f 73, f 74, f 75, f 76, f 77, f 78] := rfl
theorem frame79 (t : Array Value) (ds : List Deferred) (h : t.size = 79) : ({ tmps := t, defers := ds } : Act) = { tmps := #[slot t 0, slot t 1, slot t 2, slot t 3, slot t 4, slot t 5, slot t 6, slot t 7, slot t 8, slot t 9, slot t 10, slot t 11, slot t 12, slot t 13, slot t 14, slot t 15, slot t 16, slot t 17, slot t 18, slot t 19, slot t 20, slot t 21, slot t 22, slot t 23, slot t 24, slot t 25, slot t 26, slot t 27, slot t 28, slot t 29, slot t 30, slot t 31, slot t 32, slot t 33, slot t 34, slot t 35, slot t 36, slot t 37, slot t 38, slot t 39, slot t 40, slot t 41, slot t 42, slot t 43, slot t 44, slot t 45, slot t 46, slot t 47, slot t 48, slot t 49, slot t 50, slot t 51, slot t 52, slot t 53, slot t 54, slot t 55, slot t 56, slot t 57, slot t 58, slot t 59, slot t 60, slot t 61, slot t 62, slot t 63, slot t 64, slot t 65, slot t 66, slot t 67, slot t 68, slot t 69, slot t 70, slot t 71, slot t 72, slot t 73, slot t 74, slot t 75, slot t 76, slot t 77, slot t 78], defers := ds } := by
  have e : t = ((List.range 79).map (slot t)).toArray := by
    apply Array.ext
    · simp [h]
    · intro i h1 h2
      simp [slot, Array.getD, h1]
  rw [range_map79] at e
  exact congrArg (fun x => ({ tmps := x, defers := ds } : Act)) e
/-- A word of which j bytes are read. -/
def partW (l : List Int) (t : Nat) : Nat → BitVec 32
  | 0 => 0
  | j + 1 => partW l t j <<< 8 ||| byW (l.getD (4 * t + j) 0)
theorem partW_four (l : List Int) (t : Nat) : partW l t 4 = wordAt l t := by
  unfold wordAt
  simp only [partW, Nat.add_zero, word_zero]
theorem sched_low (l : List Int) (t : Nat) (h : t < 16) : schedTo l (t + 1) = schedTo l t ++ [wordAt l t] := by
  show schedTo l t ++ [if t < 16 then wordAt l t else nextW (schedTo l t) t] = _
  rw [if_pos h]
theorem sched_high (l : List Int) (t : Nat) (h : ¬ t < 16) : schedTo l (t + 1) = schedTo l t ++ [nextW (schedTo l t) t] := by
  show schedTo l t ++ [if t < 16 then wordAt l t else nextW (schedTo l t) t] = _
  rw [if_neg h]
/-- t words are there, the others are zero. -/
def halfW (ws : List (BitVec 32)) (t : Nat) : List (BitVec 32) := ws ++ List.replicate (64 - t) 0
theorem halfW_set {ws : List (BitVec 32)} {t : Nat} (hl : ws.length = t) (ht : t < 64) (x : BitVec 32) : (halfW ws t).set t x = halfW (ws ++ [x]) (t + 1) := by
  unfold halfW
  obtain ⟨k, hk⟩ : ∃ k, 64 - t = k + 1 := ⟨63 - t, by omega⟩
  rw [hk, show 64 - (t + 1) = k from by omega, List.replicate_succ, List.set_append_right _ _ (by omega), hl, Nat.sub_self, List.set_cons_zero, List.append_assoc]
  rfl
theorem halfW_get {ws : List (BitVec 32)} {t i : Nat} (hl : ws.length = t) (hi : i < t) : (halfW ws t).getD i 0 = ws.getD i 0 := by
  unfold halfW
  rw [List.getD_eq_getElem?_getD, List.getD_eq_getElem?_getD, List.getElem?_append_left (by omega)]
theorem halfW_len {ws : List (BitVec 32)} {t : Nat} (hl : ws.length = t) (ht : t ≤ 64) : (halfW ws t).length = 64 := by
  unfold halfW
  simp
  omega
def SchI (l : List Int) (w : World) (B2 B3 : Nat) (s : Value) (wr : World) : Prop := ∃ t : Nat, t ≤ 64 ∧ s = .int .i64 (t : Nat) ∧ ArrW wr B3 161 (halfW (schedTo l t) t) ∧ ArrW wr B2 161 (List.replicate 64 0) ∧ Below w.heap.size w wr
def SchJ (l : List Int) (w : World) (B2 B3 t : Nat) (s : Value) (wr : World) : Prop := ∃ j : Nat, j ≤ 4 ∧ s = .int .i64 (j : Nat) ∧ ArrW wr B3 161 ((halfW (schedTo l t) t).set t (partW l t j)) ∧ ArrW wr B2 161 (List.replicate 64 0) ∧ Below w.heap.size w wr
theorem rotlZ (x : BitVec 32) (n : Int) (i : Nat) (hn : n = -(i : Int)) (h0 : 0 < i) (h1 : i < 32) (w : World) : Calls Tryz.prog 123 #[.int .u32 (wz x), .int .i64 n] w fun e w' => e = .returned (.int .u32 (wz (rotr x i))) ∧ w = w' := by
  subst hn
  exact rotl_any x i h0 h1 w
set_option maxHeartbeats 20000000 in
theorem schedule_any (v : Value) (l : List Int) (w : World) (hl : BytR w v l) (h64 : l.length = 64) :
    Calls Tryz.prog 110 #[v] w fun e w' => e = .returned (.agg (u32C (schedTo l 64)).toArray) ∧ Below w.heap.size w w' := by
  obtain ⟨a, c, rfl, hc, hm⟩ := hl.1.form
  obtain ⟨b, off, rfl, hb, hcell⟩ := Rd.at hl.1 (by omega)
  unfold maxLen at hm
  rw [h64] at hc ⊢
  have HB := hidep (show ∀ X, Below w.heap.size w X → ∀ j, j < 64 → X.cell? ⟨b, off + j, none⟩ = some (.int .u8 (l.getD j 0)) from fun X hX j hj => (hX.cell (p := ⟨b, off + j, none⟩) hb).trans (hcell j _ (byC_get l j (by omega))))
  have HR8 := hidep (show ∀ j, j < 64 → l.getD j 0 = wz (byW (l.getD j 0)) from fun j hj => by
    have hm2 : l.getD j 0 ∈ l := by
      rw [List.getD_eq_getElem?_getD, List.getElem?_eq_getElem (show j < l.length by omega)]
      exact List.getElem_mem _
    have := hl.2 _ hm2
    exact byW_wz _ this.1 this.2)
  have HBY := hidep (show ∀ j, j < 64 → 0 ≤ l.getD j 0 ∧ l.getD j 0 < 256 from fun j hj => by
    have hm2 : l.getD j 0 ∈ l := by
      rw [List.getD_eq_getElem?_getD, List.getElem?_eq_getElem (show j < l.length by omega)]
      exact List.getElem_mem _
    exact hl.2 _ hm2)
  clear hl hcell h64
  go_enter Tryz.func110, Tryz.ntmps110
  go_upto_region 2 with (first
    | (refine wpList_alloc_row (o := ⟨some 2, _, _, _, _, _⟩) zero_u32x64 _ rfl rfl ?_)
    | (refine wpList_alloc_row (o := ⟨some 3, _, _, _, _, _⟩) zero_u32x64 _ rfl rfl ?_)
    | fail)
  simp only [World.size_alloc]
  refine wp_abs (fun X => ArrW X w.heap.size 161 (List.replicate 64 0) ∧ ArrW X (w.heap.size + 1) 161 (List.replicate 64 0) ∧ Below w.heap.size w X)
    ⟨allocs_get [(.cells (u32C (List.replicate 64 0)).toArray 161), (.cells (u32C (List.replicate 64 0)).toArray 161)] w 0 _ rfl, allocs_get [(.cells (u32C (List.replicate 64 0)).toArray 161), (.cells (u32C (List.replicate 64 0)).toArray 161)] w 1 _ rfl, ((Below.refl _ _).alloc (Nat.le_refl _) _).alloc (by simp) _⟩ ?_
  rintro X ⟨hq2, hq3, hbX⟩
  obtain ⟨B2, hB2⟩ : ∃ B2, B2 = w.heap.size := ⟨_, rfl⟩
  obtain ⟨B3, hB3⟩ : ∃ B3, B3 = w.heap.size + 1 := ⟨_, rfl⟩
  rw [← hB3] at hq3
  rw [← hB2] at hq2
  rw [← hB3, ← hB2]
  have HBB := hidep (show w.heap.size ≤ B2 ∧ w.heap.size ≤ B3 ∧ B2 ≠ B3 from by omega)
  clear hB2 hB3
  go_upto_region 3 with (fail)
  refine wp_loop (LoopI 79 (fun tm ds wr => (slot tm 0) = .slice (some ⟨b, off, none⟩) 64 c ∧ (slot tm 2) = .pointer (some ⟨B2, 0, none⟩) ∧ (slot tm 3) = .pointer (some ⟨B3, 0, none⟩) ∧ ds = [] ∧ SchI l w B2 B3 (slot tm 11) wr)) (fun a' wr => 64 - (intOf (a'.tmps.getD 11 undef)).toNat) ?mainStart ?mainRound
  case' mainStart => refine LoopI.mk rfl ?_
  case' mainRound => (rintro ⟨t, ds⟩ wr ⟨hts, hrel⟩; dsimp only at hts hrel; rw [frame79 t ds hts])
  case mainStart => exact ⟨rfl, rfl, rfl, rfl, 0, Nat.zero_le _, rfl, hq3, hq2, hbX⟩
  clear hq3 hq2 hbX
  obtain ⟨h0, h2, h3, hds, t', ht, h11, hq3, hq2, hbw⟩ := hrel
  subst hds
  rw [h0, h2, h3, h11]
  clear h0 h2 h3 h11 hts
  have hlen := halfW_len (schedTo_len l t') ht
  by_cases hlt : t' < 64
  · have hlti : (t' : Int) < 64 := by omega
    by_cases h16 : t' < 16
    · have h16i : (t' : Int) < 16 := by omega
      have hw4 : IntKind.i64.wrap (4 * (t' : Int)) = ((4 * t' : Nat) : Int) := by rw [IntWalk.i64_in _ (by omega)]; omega
      have hw8 : IntKind.i64.wrap (((4 * t' : Nat) : Int) + 4) = ((4 * t' + 4 : Nat) : Int) := by rw [IntWalk.i64_in _ (by omega)]; omega
      have hcne : ¬ c = 4 * t' := by omega
      go_upto_region 7 with (fail)
      rw [show 4 * t' + 4 - 4 * t' = 4 by omega]
      have HX4 := hidep (show ∀ X, Below w.heap.size w X → ∀ j, j < 4 → X.cell? ⟨b, off + 4 * t' + j, none⟩ = some (.int .u8 (wz (byW (l.getD (4 * t' + j) 0)))) from fun X hX j hj => by
        rw [← HR8.out (4 * t' + j) (by omega), Nat.add_assoc]
        exact HB.out X hX _ (by omega))
      have hset : (halfW (schedTo l t') t').set t' (partW l t' 0) = halfW (schedTo l t') t' := by
        rw [halfW_set (schedTo_len l t') hlt]
        unfold halfW
        show (schedTo l t' ++ [0]) ++ List.replicate (64 - (t' + 1)) 0 = _
        obtain ⟨k, hk⟩ : ∃ k, 64 - t' = k + 1 := ⟨63 - t', by omega⟩
        rw [hk, show 64 - (t' + 1) = k from by omega, List.replicate_succ, List.append_assoc]
        rfl
      have hq3' : ArrW wr B3 161 ((halfW (schedTo l t') t').set t' (partW l t' 0)) := by rw [hset]; exact hq3
      have HLEN := hidep hlen
      clear hset hq3 hlen hw4 hw8 hcne
      refine wp_loop (LoopI 79 (fun tm ds wr => (slot tm 0) = .slice (some ⟨b, off, none⟩) 64 c ∧ (slot tm 2) = .pointer (some ⟨B2, 0, none⟩) ∧ (slot tm 3) = .pointer (some ⟨B3, 0, none⟩) ∧ (slot tm 4) = .int .i64 (t' : Nat) ∧ (slot tm 11) = .int .i64 (t' : Nat) ∧ (slot tm 22) = .slice (some ⟨b, off + 4 * t', none⟩) 4 (c - 4 * t') ∧ (slot tm 23) = .int .i64 4 ∧ ds = [] ∧ SchJ l w B2 B3 t' (slot tm 24) wr)) (fun a' wr => 4 - (intOf (a'.tmps.getD 24 undef)).toNat) ?innerStart ?innerRound
      case' innerStart => refine LoopI.mk rfl ?_
      case' innerRound => (rintro ⟨t, ds⟩ wr ⟨hts, hrel⟩; dsimp only at hts hrel; rw [frame79 t ds hts])
      case innerStart => exact ⟨rfl, rfl, rfl, rfl, rfl, rfl, rfl, rfl, 0, Nat.zero_le _, rfl, hq3', hq2, hbw⟩
      clear hq3' hq2 hbw
      obtain ⟨h0, h2, h3, h4, h11, h22, h23, hds, j, hj, h24, hq3, hq2, hbw⟩ := hrel
      subst hds
      rw [h0, h2, h3, h4, h11, h22, h23, h24]
      clear h0 h2 h3 h4 h11 h22 h23 h24 hts
      by_cases hj4 : j < 4
      · have hji : (j : Int) < 4 := by omega
        have hl2 : t' < ((halfW (schedTo l t') t').set t' (partW l t' j)).length := by rw [List.length_set, HLEN.out]; exact hlt
        have y0 := hq3.get hl2
        have hgd : ((halfW (schedTo l t') t').set t' (partW l t' j)).getD t' 0 = partW l t' j := by
          rw [List.getD_eq_getElem?_getD, List.getElem?_set_self (by rw [HLEN.out]; exact hlt)]
          rfl
        rw [hgd] at y0
        have f0 := hq3.free t'
        have x0 := HX4.out _ hbw j hj4
        have HN := hidep (show wz (partW l t' (j + 1)) = bits .or .u32 (wz (partW l t' j) * 256 % 4294967296) (wz (byW (l.getD (4 * t' + j) 0))) from by
          rw [w_shl8, w_or]
          rfl)
        have hq3n := hq3.set t' (partW l t' (j + 1))
        rw [List.set_set] at hq3n
        have HQ3 := hidep hq3n
        have HQ2 := hidep (hq2.other (o := t') HBB.out.2.2 (.int .u32 (wz (partW l t' (j + 1)))))
        have HBW := hidep (below_set hbw ⟨B3, t', none⟩ (.int .u32 (wz (partW l t' (j + 1)))) HBB.out.2.1)
        clear hq3n hq3 hq2 hgd hl2
        obtain ⟨yb, hyb⟩ : ∃ yb, yb = wz (byW (l.getD (4 * t' + j) 0)) := ⟨_, rfl⟩
        rw [← hyb] at x0 HN
        have hyb0 : 0 ≤ yb ∧ yb < 256 := by
          rw [hyb, ← HR8.out (4 * t' + j) (by omega)]
          exact HBY.out _ (by omega)
        clear hyb
        go_wp2
        rw [← HN.out]
        refine ⟨LoopI.mk rfl ⟨rfl, rfl, rfl, rfl, rfl, rfl, rfl, rfl, j + 1, by omega, by show Value.int _ _ = _; go_num, HQ3.out, HQ2.out, HBW.out⟩, ?_⟩
        show 4 - _ < 4 - _
        simp [intOf]; omega
      · have hji : ¬ (j : Int) < 4 := by omega
        have hj5 : j = 4 := by omega
        subst hj5
        rw [partW_four, halfW_set (schedTo_len l t') hlt, ← sched_low l t' h16] at hq3
        go_wp2
        refine ⟨LoopI.mk rfl ⟨rfl, rfl, rfl, rfl, t' + 1, by omega, by show Value.int _ _ = _; go_num, hq3, hq2, hbw⟩, ?_⟩
        show 64 - _ < 64 - _
        simp [intOf]; omega
    · have h16i : ¬ (t' : Int) < 16 := by omega
      have hw15 : IntKind.i64.wrap ((t' : Int) - 15) = ((t' - 15 : Nat) : Int) := by rw [IntWalk.i64_in _ (by omega)]; omega
      have hw2 : IntKind.i64.wrap ((t' : Int) - 2) = ((t' - 2 : Nat) : Int) := by rw [IntWalk.i64_in _ (by omega)]; omega
      have hw16 : IntKind.i64.wrap ((t' : Int) - 16) = ((t' - 16 : Nat) : Int) := by rw [IntWalk.i64_in _ (by omega)]; omega
      have hw7 : IntKind.i64.wrap ((t' : Int) - 7) = ((t' - 7 : Nat) : Int) := by rw [IntWalk.i64_in _ (by omega)]; omega
      have hb15 : ((t' - 15 : Nat) : Int) < 64 ∧ ((t' - 2 : Nat) : Int) < 64 ∧ ((t' - 16 : Nat) : Int) < 64 ∧ ((t' - 7 : Nat) : Int) < 64 := by omega
      obtain ⟨hb15, hb2, hb16, hb7⟩ := hb15
      obtain ⟨ws, hws⟩ : ∃ ws, ws = schedTo l t' := ⟨_, rfl⟩
      have hwl : ws.length = t' := by rw [hws]; exact schedTo_len l t'
      rw [← hws] at hq3
      have y15 := hq3.get (i := t' - 15) (by rw [halfW_len hwl ht]; omega)
      have y2 := hq3.get (i := t' - 2) (by rw [halfW_len hwl ht]; omega)
      rw [halfW_get hwl (by omega)] at y15 y2
      have HNW := hidep (show nextW ws t' = ws.getD (t' - 16) 0 + sg0 (ws.getD (t' - 15) 0) + ws.getD (t' - 7) 0 + sg1 (ws.getD (t' - 2) 0) from rfl)
      obtain ⟨p15, h15⟩ : ∃ p, p = ws.getD (t' - 15) 0 := ⟨_, rfl⟩
      obtain ⟨p2, h2p⟩ : ∃ p, p = ws.getD (t' - 2) 0 := ⟨_, rfl⟩
      rw [← h15] at y15 HNW
      rw [← h2p] at y2 HNW
      clear h15 h2p
      go_upto_region 11 with (fail)
      go_quiet (fail)
      apply_assumption
      refine wp_abs (fun X => ArrW X B3 161 (halfW ws t') ∧ ArrW X B2 161 (List.replicate 64 0) ∧ Below w.heap.size w X) ⟨hq3, hq2, below_drewN hbw _⟩ ?_
      clear hq3 hq2 hbw y15 y2
      rintro X1 ⟨hq3, hq2, hbw⟩
      go_upto_region 14 with (first
        | (go_at_call 123; first | (refine (rotlZ _ _ 7 (by decide) (by omega) (by omega) _).mono ?_; rintro e w1 ⟨rfl, rfl⟩) | (refine (rotlZ _ _ 18 (by decide) (by omega) (by omega) _).mono ?_; rintro e w1 ⟨rfl, rfl⟩) | (refine (rotlZ _ _ 17 (by decide) (by omega) (by omega) _).mono ?_; rintro e w1 ⟨rfl, rfl⟩) | (refine (rotlZ _ _ 19 (by decide) (by omega) (by omega) _).mono ?_; rintro e w1 ⟨rfl, rfl⟩))
        | fail)
      have e0 : bits .xor .u32 (bits .xor .u32 (wz (rotr p15 7)) (wz (rotr p15 18))) (wz p15 / 8) = wz (sg0 p15) := by rw [w_shr3, w_xor, w_xor]; rfl
      have e1 : bits .xor .u32 (bits .xor .u32 (wz (rotr p2 17)) (wz (rotr p2 19))) (wz p2 / 1024) = wz (sg1 p2) := by rw [w_shr10, w_xor, w_xor]; rfl
      have y16 := hq3.get (i := t' - 16) (by rw [halfW_len hwl ht]; omega)
      have y7 := hq3.get (i := t' - 7) (by rw [halfW_len hwl ht]; omega)
      have yt := hq3.get (i := t') (by rw [halfW_len hwl ht]; omega)
      rw [halfW_get hwl (by omega)] at y16 y7
      have ft := hq3.free t'
      obtain ⟨p16, h16p⟩ : ∃ p, p = ws.getD (t' - 16) 0 := ⟨_, rfl⟩
      obtain ⟨p7, h7p⟩ : ∃ p, p = ws.getD (t' - 7) 0 := ⟨_, rfl⟩
      rw [← h16p] at y16 HNW
      rw [← h7p] at y7 HNW
      rw [e0, e1]
      have ha1 : IntKind.u32.wrap (wz p16 + wz (sg0 p15)) = wz (p16 + sg0 p15) := w_add _ _
      have ha2 : IntKind.u32.wrap (wz (p16 + sg0 p15) + wz p7) = wz (p16 + sg0 p15 + p7) := w_add _ _
      have ha3 : IntKind.u32.wrap (wz (p16 + sg0 p15 + p7) + wz (sg1 p2)) = wz (p16 + sg0 p15 + p7 + sg1 p2) := w_add _ _
      have hq3n := hq3.set t' (nextW ws t')
      rw [halfW_set hwl hlt, show ws ++ [nextW ws t'] = schedTo l (t' + 1) from by rw [hws, sched_high l t' h16], HNW.out] at hq3n
      have HQ3 := hidep hq3n
      have HQ2 := hidep (hq2.other (o := t') HBB.out.2.2 (.int .u32 (wz (nextW ws t'))))
      have HBW := hidep (below_set hbw ⟨B3, t', none⟩ (.int .u32 (wz (nextW ws t'))) HBB.out.2.1)
      rw [HNW.out] at HQ2 HBW
      clear e0 e1 h16p h7p hq3 hq2 hq3n hbw hws
      go_region
      all_goals
        go_wp2
        refine ⟨LoopI.mk rfl ⟨rfl, rfl, rfl, rfl, t' + 1, by omega, by show Value.int _ _ = _; go_num, HQ3.out, HQ2.out, HBW.out.drew⟩, ?_⟩
        show 64 - _ < 64 - _
        simp [intOf]; omega
  · have hlti : ¬ (t' : Int) < 64 := by omega
    have ht64 : t' = 64 := by omega
    obtain ⟨ws, hws⟩ : ∃ ws, ws = schedTo l t' := ⟨_, rfl⟩
    have hwl : ws.length = 64 := by rw [hws, schedTo_len, ht64]
    rw [← hws] at hq3
    have HWS := hidep (show ws = schedTo l 64 from by rw [hws, ht64])
    have e64 : halfW ws t' = ws := by
      unfold halfW
      rw [ht64, Nat.sub_self, List.replicate_zero, List.append_nil]
    rw [e64] at hq3
    clear hws
    subst ht64
    obtain ⟨W2, hW2⟩ : ∃ W2, W2 = wr.setCells B2 0 (u32C ws) := ⟨_, rfl⟩
    have HL := hidep (show wr.rangeAt B3 0 (u32C ws) from range_of_arr hq3)
    have HTH := hidep (show wr.there B2 0 (u32C ws).toArray.size from there_of_arr hq2 (by simp [u32C_len, hwl]))
    have HI := hidep (show (Tryz.prog.info? 161).map (·.size) = some (u32C ws).toArray.size ∧ (Tryz.prog.info? 161).map (·.size) = some (u32C ws).length from ⟨by rw [List.size_toArray, u32C_len, hwl]; exact row_u32x64.2, by rw [u32C_len, hwl]; exact row_u32x64.2⟩)
    have HONE := hidep (all_oneCell_toArray (u32C_one ws))
    have HEND := hidep (show W2.rangeAt B2 0 (u32C ws) ∧ Below w.heap.size w W2 from by
      rw [hW2]
      refine ⟨World.rangeAt_setCells_same _ _ _ _ ?_, below_setCells B2 HBB.out.1 _ _ _ hbw⟩
      have := HTH.out
      rwa [List.size_toArray] at this)
    have HW2 := hidep hW2
    clear hq3 hq2 hbw hW2 e64 hlen hwl
    go_upto_region 16 with (fail)
    refine wp_region_lit ?_
    refine wpList_load_mid (op := ⟨some 78, _, _, _, _, _⟩) rfl 161 _ rfl B3 0 rfl _ _ HL.out row_u32x64.1.choose_spec.1 row_u32x64.1.choose_spec.2 HI.out.2 ?_
    refine wpList_store_to (op := ⟨none, _, _, _, _, _⟩) rfl 161 _ _ rfl B2 0 (u32C ws).toArray rfl rfl HTH.out HI.out.1 HONE.out W2 HW2.out.symm ?_
    go_wp2
    refine bodyPost_ret (results_cell1 rfl _ _ _ rfl (run_loadVar_mid (P := Tryz.prog) W2 B2 0 161 (u32C ws) _ HEND.out.1 row_u32x64.1.choose_spec.1 row_u32x64.1.choose_spec.2 HI.out.2)) rfl ?_
    exact ⟨by rw [HWS.out], HEND.out.2⟩
end Go.Proofs.YtipbkdlekanlmaaGreatDoor
