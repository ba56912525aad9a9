/- Journal: the code's compression. -/
import Derived.Test.YtipbkdlekanlmaaGreatDoorZr06
namespace Go.Proofs.YtipbkdlekanlmaaGreatDoor
open Go.RowKit Go.Lab
attribute [local go_sem] Oper.semAt_some
set_option maxRecDepth 100000
theorem range_map116 (f : Nat → Value) : (List.range 116).map f = [f 0, f 1, f 2, f 3, f 4, f 5, f 6, f 7, f 8, f 9, f 10, f 11, f 12, f 13, f 14, f 15, f 16, f 17, f 18, f 19, f 20, f 21, f 22, f 23, f 24, f 25, f 26, f 27, f 28, f 29, f 30, f 31, f 32, f 33, f 34, f 35, f 36, f 37, f 38, f 39, f 40, f 41, f 42, f 43, f 44, f 45, f 46, f 47, f 48, f 49, f 50, f 51, f 52, f 53, f 54, f 55, f 56, f 57, f 58, f 59, f 60, f 61, f 62, f 63, f 64, f 65, f 66, f 67, f 68, f 69, f 70, f 71, f 72, f 73, f 74, f 75, f 76, f 77, f 78, f 79, f 80, f 81, f 82, f 83, f 84, f 85, f 86, f 87, f 88, f 89, f 90, f 91, f 92, f 93, f 94, f 95, f 96, f 97, f 98, f 99, f 100, f 101, f 102, f 103, f 104, f 105, f 106, f 107, f 108, f 109, f 110, f 111, f 112, f 113, f 114, f 115] := rfl
theorem frame116 (t : Array Value) (ds : List Deferred) (h : t.size = 116) : ({ tmps := t, defers := ds } : Act) = { tmps := #[slot t 0, slot t 1, slot t 2, slot t 3, slot t 4, slot t 5, slot t 6, slot t 7, slot t 8, slot t 9, slot t 10, slot t 11, slot t 12, slot t 13, slot t 14, slot t 15, slot t 16, slot t 17, slot t 18, slot t 19, slot t 20, slot t 21, slot t 22, slot t 23, slot t 24, slot t 25, slot t 26, slot t 27, slot t 28, slot t 29, slot t 30, slot t 31, slot t 32, slot t 33, slot t 34, slot t 35, slot t 36, slot t 37, slot t 38, slot t 39, slot t 40, slot t 41, slot t 42, slot t 43, slot t 44, slot t 45, slot t 46, slot t 47, slot t 48, slot t 49, slot t 50, slot t 51, slot t 52, slot t 53, slot t 54, slot t 55, slot t 56, slot t 57, slot t 58, slot t 59, slot t 60, slot t 61, slot t 62, slot t 63, slot t 64, slot t 65, slot t 66, slot t 67, slot t 68, slot t 69, slot t 70, slot t 71, slot t 72, slot t 73, slot t 74, slot t 75, slot t 76, slot t 77, slot t 78, slot t 79, slot t 80, slot t 81, slot t 82, slot t 83, slot t 84, slot t 85, slot t 86, slot t 87, slot t 88, slot t 89, slot t 90, slot t 91, slot t 92, slot t 93, slot t 94, slot t 95, slot t 96, slot t 97, slot t 98, slot t 99, slot t 100, slot t 101, slot t 102, slot t 103, slot t 104, slot t 105, slot t 106, slot t 107, slot t 108, slot t 109, slot t 110, slot t 111, slot t 112, slot t 113, slot t 114, slot t 115], defers := ds } := by
  have e : t = ((List.range 116).map (slot t)).toArray := by
    apply Array.ext
    · simp [h]
    · intro i h1 h2
      simp [slot, Array.getD, h1]
  rw [range_map116] at e
  exact congrArg (fun x => ({ tmps := x, defers := ds } : Act)) e
theorem idx_arr (ks : List (BitVec 32)) (i : Nat) (k : BitVec 32) (hl : i < 64) (hix : (u32C ks).toArray[i]? = some (.int .u32 (wz k))) (W : World) :
    (Instr.index 161 (.agg (u32C ks).toArray) (.int .i64 (i : Nat))).run Tryz.prog W = .ok (.int .u32 (wz k)) W := by
  have hu : Tryz.prog.underlying 161 = some (.array 64 137) := by kernel_rfl
  unfold Instr.index
  simp only [asIntOf, Sem.run_bind, Sem.run_pure, Result.andThen_ok, run_underlying hu W]
  simp [part, Sem.run_bind]
  simp at hix
  rw [hix, if_pos (show (i : Int) < 64 by omega)]
  rfl
theorem w_add3 (a b c : BitVec 32) : (wz a + wz b + wz c) % (4294967296 : Int) = wz (a + b + c) := by
  unfold wz
  rw [BitVec.toNat_add, BitVec.toNat_add]
  omega
theorem w_add4 (a b c d : BitVec 32) : (wz a + wz b + wz c + wz d) % (4294967296 : Int) = wz (a + b + c + d) := by
  unfold wz
  rw [BitVec.toNat_add, BitVec.toNat_add, BitVec.toNat_add]
  omega
theorem w_neg (x : BitVec 32) : bits .xor .u32 (if IntKind.u32.signed = true then -1 else IntKind.u32.max) (wz x) = wz (~~~ x) := by
  have h : (if IntKind.u32.signed = true then (-1 : Int) else IntKind.u32.max) = wz (BitVec.allOnes 32) := by decide
  rw [h, w_xor, BitVec.xor_comm, BitVec.xor_allOnes]
theorem x_eq (v : Sv) (k w : BitVec 32) : ((wz v.h + wz (rotr v.e 6 ^^^ rotr v.e 11 ^^^ rotr v.e 25) + bits BinOp.xor IntKind.u32 (bits BinOp.and IntKind.u32 (wz v.e) (wz v.f)) (bits BinOp.and IntKind.u32 (bits BinOp.xor IntKind.u32 (if IntKind.u32.signed = true then -1 else IntKind.u32.max) (wz v.e)) (wz v.g)) + wz k) % (4294967296 : Int) + wz w) % (4294967296 : Int) = wz (tmpX v k w) := by
  rw [w_neg, w_and, w_and, w_xor, w_add4, w_addm]
  rfl
theorem y_eq (v : Sv) : (wz (rotr v.a 2 ^^^ rotr v.a 13 ^^^ rotr v.a 22) + bits BinOp.xor IntKind.u32 (bits BinOp.xor IntKind.u32 (bits BinOp.and IntKind.u32 (wz v.a) (wz v.b)) (bits BinOp.and IntKind.u32 (wz v.a) (wz v.c))) (bits BinOp.and IntKind.u32 (wz v.b) (wz v.c))) % (4294967296 : Int) = wz (tmpY v) := by
  rw [w_and, w_and, w_and, w_xor, w_xor, w_addm]
  rfl
theorem four_cells {w : World} {b : Nat} {x0 x1 x2 x3 : Value} {t : TypeId} {fz : Nat × Nat} (h : w.heap[b]? = some (.cells #[x0, x1, x2, x3] t fz)) :
    w.cell? ⟨b, 0, none⟩ = some x0 ∧ w.cell? ⟨b, 1, none⟩ = some x1 ∧ w.cell? ⟨b, 2, none⟩ = some x2 ∧ w.cell? ⟨b, 3, none⟩ = some x3 := by
  simp [World.cell?, h]
theorem four_set {W : World} {b : Nat} {x0 x1 x2 x3 : Value} {t : TypeId} (h : W.heap[b]? = some (.cells #[x0, x1, x2, x3] t)) (y0 y1 y2 y3 : Value) : ((((W.setCell ⟨b, 0, none⟩ y0).setCell ⟨b, 1, none⟩ y1).setCell ⟨b, 2, none⟩ y2).setCell ⟨b, 3, none⟩ y3).heap[b]? = some (.cells #[y0, y1, y2, y3] t) := by
  have q0 : (W.setCell ⟨b, 0, none⟩ y0).heap[b]? = some (.cells #[y0, x1, x2, x3] t) := heap_set h 0 y0
  have q1 : ((W.setCell ⟨b, 0, none⟩ y0).setCell ⟨b, 1, none⟩ y1).heap[b]? = some (.cells #[y0, y1, x2, x3] t) := heap_set q0 1 y1
  have q2 : (((W.setCell ⟨b, 0, none⟩ y0).setCell ⟨b, 1, none⟩ y1).setCell ⟨b, 2, none⟩ y2).heap[b]? = some (.cells #[y0, y1, y2, x3] t) := heap_set q1 2 y2
  exact heap_set q2 3 y3
theorem four_other {W : World} {b c : Nat} {o : Obj} (h : W.heap[b]? = some o) (hne : b ≠ c) (y0 y1 y2 y3 : Value) : ((((W.setCell ⟨c, 0, none⟩ y0).setCell ⟨c, 1, none⟩ y1).setCell ⟨c, 2, none⟩ y2).setCell ⟨c, 3, none⟩ y3).heap[b]? = some o :=
  (Below.heap_setCell _ ⟨c, 3, none⟩ y3 b hne).trans ((Below.heap_setCell _ ⟨c, 2, none⟩ y2 b hne).trans ((Below.heap_setCell _ ⟨c, 1, none⟩ y1 b hne).trans ((Below.heap_setCell W ⟨c, 0, none⟩ y0 b hne).trans h)))
theorem four_below {B : Nat} {a W : World} {c : Nat} (h : Below B a W) (hc : B ≤ c) (y0 y1 y2 y3 : Value) : Below B a ((((W.setCell ⟨c, 0, none⟩ y0).setCell ⟨c, 1, none⟩ y1).setCell ⟨c, 2, none⟩ y2).setCell ⟨c, 3, none⟩ y3) :=
  below_set (below_set (below_set (below_set h ⟨c, 0, none⟩ y0 hc) ⟨c, 1, none⟩ y1 hc) ⟨c, 2, none⟩ y2 hc) ⟨c, 3, none⟩ y3 hc
theorem lower_drew {B : Nat} {a W : World} (h : Below B a W.drew) : Below B a W := ⟨h.os, h.tape, h.output, h.size, h.block⟩
theorem below_step {a W X : World} (h : Below a.heap.size a W) (hb : Below W.heap.size W X) : Below a.heap.size a X := h.trans (hb.mono h.size)
def CompM (X2 : World) (B2 B4 B5 : Nat) (s : Sv) (a : Act) (W : World) : Prop :=
  a.tmps.size = 116 ∧ a.defers = [] ∧ slot a.tmps 2 = .pointer (some ⟨B2, 0, none⟩) ∧ slot a.tmps 4 = .pointer (some ⟨B4, 0, none⟩) ∧ slot a.tmps 5 = .pointer (some ⟨B5, 0, none⟩) ∧ Below X2.heap.size X2 W ∧
    ∃ B6 B7 : Nat, slot a.tmps 6 = .pointer (some ⟨B6, 0, none⟩) ∧ slot a.tmps 7 = .pointer (some ⟨B7, 0, none⟩) ∧ X2.heap.size ≤ B6 ∧ X2.heap.size ≤ B7 ∧ B6 ≠ B7 ∧ ArrW W B6 167 [s.a, s.b, s.c, s.d] ∧ ArrW W B7 167 [s.e, s.f, s.g, s.h]
/-- The sum of two states, of which i words each half are done. -/
def sumL (s v : Sv) (i : Nat) : List (BitVec 32) := [if 0 < i then s.a + v.a else s.a, if 1 < i then s.b + v.b else s.b, if 2 < i then s.c + v.c else s.c, if 3 < i then s.d + v.d else s.d, if 0 < i then s.e + v.e else s.e, if 1 < i then s.f + v.f else s.f, if 2 < i then s.g + v.g else s.g, if 3 < i then s.h + v.h else s.h]
def AddI (w : World) (B2 B4 B6 B7 : Nat) (s v : Sv) (sv : Value) (wr : World) : Prop := ∃ i : Nat, i ≤ 4 ∧ sv = .int .i64 (i : Nat) ∧ ArrW wr B2 146 (sumL s v i) ∧ ArrW wr B4 146 (List.replicate 8 0) ∧ ArrW wr B6 167 [v.a, v.b, v.c, v.d] ∧ ArrW wr B7 167 [v.e, v.f, v.g, v.h] ∧ Below w.heap.size w wr
/-- The rounds: t of them are done. -/
def CmpI (ks ws : List (BitVec 32)) (X2 : World) (B6 B7 : Nat) (s : Sv) (sv : Value) (wr : World) : Prop := ∃ t : Nat, t ≤ 64 ∧ sv = .int .i64 (t : Nat) ∧ ArrW wr B6 167 [(roundsTo ks ws s t).a, (roundsTo ks ws s t).b, (roundsTo ks ws s t).c, (roundsTo ks ws s t).d] ∧ ArrW wr B7 167 [(roundsTo ks ws s t).e, (roundsTo ks ws s t).f, (roundsTo ks ws s t).g, (roundsTo ks ws s t).h] ∧ Below X2.heap.size X2 wr
set_option maxHeartbeats 20000000 in
theorem compress_any (s : Sv) (v : Value) (l : List Int) (w : World) (hl : BytR w v l) (h64 : l.length = 64) (hk : w.rangeAt 2 0 (u32C ks0)) :
    Calls Tryz.prog 102 #[.agg (u32C s.toList).toArray, v] w fun e w' => e = .returned (.agg (u32C (compZ' ks0 s l).toList).toArray) ∧ Below w.heap.size w w' := by
  have HS := hidep (fun W (hW : Below w.heap.size w W) => schedule_any v l W (hl.below hW) h64)
  obtain ⟨ws, hws⟩ : ∃ ws, ws = schedTo l 64 := ⟨_, rfl⟩
  have hwl : ws.length = 64 := by rw [hws]; exact schedTo_len l 64
  rw [← hws] at HS
  have HK := hidep hk
  have HWS := hidep hws
  have hn : w.heap.size ≤ w.heap.size := Nat.le_refl _
  clear hl h64 hk hws
  go_enter Tryz.func102, Tryz.ntmps102
  go_upto_region 1 with (fail)
  refine wp_abs (fun X => ArrW X w.heap.size 146 s.toList ∧ ArrW X (w.heap.size + 1) 146 (List.replicate 8 0) ∧ Below w.heap.size w X)
    ⟨allocs_get [.cells (u32C s.toList).toArray 146, .cells (u32C (List.replicate 8 0)).toArray 146] w 0 _ rfl, allocs_get [.cells (u32C s.toList).toArray 146, .cells (u32C (List.replicate 8 0)).toArray 146] w 1 _ rfl, ((Below.refl _ _).alloc (Nat.le_refl _) _).alloc (by simp) _⟩ ?_
  rintro X ⟨hq2, hq4, hbX⟩
  obtain ⟨B2, hB2⟩ : ∃ B2, B2 = w.heap.size := ⟨_, rfl⟩
  obtain ⟨B4, hB4⟩ : ∃ B4, B4 = w.heap.size + 1 := ⟨_, rfl⟩
  rw [← hB4] at hq4
  rw [← hB2] at hq2
  rw [← hB4, ← hB2]
  have HBB := hidep (show w.heap.size ≤ B2 ∧ w.heap.size ≤ B4 ∧ B2 ≠ B4 from by omega)
  clear hB2 hB4 hn
  have hi64 : (Tryz.prog.info? 161).map (·.size) = some (u32C ws).toArray.size := by rw [List.size_toArray, u32C_len, hwl]; exact row_u32x64.2
  have HI := hidep hi64
  have HSZ := hidep (show (u32C (List.replicate 64 0)).toArray.size = (u32C ws).toArray.size from by rw [List.size_toArray, List.size_toArray, u32C_len, u32C_len, hwl, List.length_replicate])
  have HONE := hidep (all_oneCell_toArray (u32C_one ws))
  clear hi64
  go_upto_region 2 with (first
    | (go_at_call 110; refine (HS.out _ hbX).mono ?_; rintro e w1 ⟨rfl, hb1⟩)
    | (refine wpList_alloc_row (o := ⟨some 5, _, _, _, _, _⟩) zero_u32x64 _ rfl rfl ?_)
    | (refine wpList_store_last (o := ⟨none, _, _, _, _, _⟩) _ HI.out HSZ.out HONE.out rfl _ _ rfl rfl rfl ?_)
    | fail)
  refine wp_abs (fun X => ArrW X w1.heap.size 161 ws ∧ ArrW X B2 146 s.toList ∧ ArrW X B4 146 (List.replicate 8 0) ∧ Below w.heap.size w X)
    ⟨heap_alloc_new _ _, (hq2.below hb1).below ((Below.refl _ _).alloc (Nat.le_refl _) _), (hq4.below hb1).below ((Below.refl _ _).alloc (Nat.le_refl _) _), (hbX.trans (hb1.mono hbX.size)).alloc (Nat.le_trans hbX.size hb1.size) _⟩ ?_
  have hl2 := lt_of_block (hq2.below hb1)
  have hl4 := lt_of_block (hq4.below hb1)
  obtain ⟨B5, hB5⟩ : ∃ B5, B5 = w1.heap.size := ⟨_, rfl⟩
  rw [← hB5]
  have HB5 := hidep (show w.heap.size ≤ B5 ∧ B2 < B5 ∧ B4 < B5 from by have := HBB.out; omega)
  clear hB5 hl2 hl4 hq2 hq4 hbX hb1
  rintro X2 ⟨hq5, hq2, hq4, hbX⟩
  have y0 := hq2.get (i := 0) (by show 0 < 8; decide)
  have y1 := hq2.get (i := 1) (by show 1 < 8; decide)
  have y2 := hq2.get (i := 2) (by show 2 < 8; decide)
  have y3 := hq2.get (i := 3) (by show 3 < 8; decide)
  have y4 := hq2.get (i := 4) (by show 4 < 8; decide)
  have y5 := hq2.get (i := 5) (by show 5 < 8; decide)
  have y6 := hq2.get (i := 6) (by show 6 < 8; decide)
  have y7 := hq2.get (i := 7) (by show 7 < 8; decide)
  simp only [Sv.toList, List.getD_cons_zero, List.getD_cons_succ] at y0 y1 y2 y3 y4 y5 y6 y7
  have hl2 := lt_of_block hq2
  have HQ := hidep (And.intro hq5 (And.intro hq2 (And.intro hq4 hbX)))
  clear hq5 hq2 hq4 hbX
  have u4 : Tryz.prog.underlying 167 = some (.array 4 137) := by kernel_rfl
  have ha0 := fun W => run_arrayAt (P := Tryz.prog) (w := W) 167 137 4 (some ⟨B2, 0, none⟩) 4 8 u4 (by decide)
  have ha4 := fun W => run_arrayAt (P := Tryz.prog) (w := W) 167 137 4 (some ⟨B2, 4, none⟩) 4 4 u4 (by decide)
  refine wp_cutA 116 (fun tm ds => ds = [] ∧ slot tm 2 = .pointer (some ⟨B2, 0, none⟩) ∧ slot tm 4 = .pointer (some ⟨B4, 0, none⟩) ∧ slot tm 5 = .pointer (some ⟨B5, 0, none⟩)) (by kernel_rfl) (by exact ⟨by kernel_rfl, by kernel_rfl, by kernel_rfl, by kernel_rfl⟩) ?_
  rintro t0 ds0 h116 ⟨rfl, e2, e4, e5⟩
  rw [frame116 t0 [] h116, e2, e4, e5]
  clear h116 e2 e4 e5 u4
  have HY := hidep (show ∀ Y, Below X2.heap.size X2 Y → Y.cell? ⟨B2, 0, none⟩ = some (.int .u32 (wz s.a)) ∧ Y.cell? ⟨B2, 1, none⟩ = some (.int .u32 (wz s.b)) ∧ Y.cell? ⟨B2, 2, none⟩ = some (.int .u32 (wz s.c)) ∧ Y.cell? ⟨B2, 3, none⟩ = some (.int .u32 (wz s.d)) ∧ Y.cell? ⟨B2, 4, none⟩ = some (.int .u32 (wz s.e)) ∧ Y.cell? ⟨B2, 5, none⟩ = some (.int .u32 (wz s.f)) ∧ Y.cell? ⟨B2, 6, none⟩ = some (.int .u32 (wz s.g)) ∧ Y.cell? ⟨B2, 7, none⟩ = some (.int .u32 (wz s.h)) from fun Y hY =>
    ⟨(hY.cell (p := ⟨B2, 0, none⟩) hl2).trans y0, (hY.cell (p := ⟨B2, 1, none⟩) hl2).trans y1, (hY.cell (p := ⟨B2, 2, none⟩) hl2).trans y2, (hY.cell (p := ⟨B2, 3, none⟩) hl2).trans y3, (hY.cell (p := ⟨B2, 4, none⟩) hl2).trans y4, (hY.cell (p := ⟨B2, 5, none⟩) hl2).trans y5, (hY.cell (p := ⟨B2, 6, none⟩) hl2).trans y6, (hY.cell (p := ⟨B2, 7, none⟩) hl2).trans y7⟩)
  have hk0 := Below.refl X2.heap.size X2
  clear y0 y1 y2 y3 y4 y5 y6 y7 hl2
  refine wp_join (CompM X2 B2 B4 B5 s) ?parts ?_
  case parts =>
    intro K' hMK
    refine wp_region_noPanic (wp_region_held_drew (S := (fun Y => Below X2.heap.size X2 Y)) (by kernel_rfl) ?hS102r2n0 (fun hHeld => ?hR102r2n0))
    case hS102r2n0 => ((try dsimp only); (first | exact hk0 | exact hk0.drew))
    refine wpAnyH_take (i := 0) (v := ?v102r2n0q1) rfl (by kernel_rfl) (by kernel_rfl) (by kernel_rfl) (fun _ _ _ h => h) (Or.inl ⟨by kernel_rfl, ?hy102r2n0q1⟩) (by assumption) ?hr102r2n0q1
    case hy102r2n0q1 => (intro w hSw; (try dsimp only at hSw); (obtain ⟨c0, c1, c2, c3, c4, c5, c6, c7⟩ := HY.out _ hSw); first | (go_simp; done) | (go_simp; with_reducible rfl))
    refine wpAnyH_take (i := 1) (v := ?v102r2n0q2) rfl (by kernel_rfl) (by kernel_rfl) (by kernel_rfl) (fun _ _ _ h => h) (Or.inl ⟨by kernel_rfl, ?hy102r2n0q2⟩) (by assumption) ?hr102r2n0q2
    case hy102r2n0q2 => (intro w hSw; (try dsimp only at hSw); (obtain ⟨c0, c1, c2, c3, c4, c5, c6, c7⟩ := HY.out _ hSw); first | (go_simp; done) | (go_simp; with_reducible rfl))
    refine wpAnyH_take (i := 2) (v := ?v102r2n0q3) rfl (by kernel_rfl) (by kernel_rfl) (by kernel_rfl) (fun _ _ _ h => h) (Or.inl ⟨by kernel_rfl, ?hy102r2n0q3⟩) (by assumption) ?hr102r2n0q3
    case hy102r2n0q3 => (intro w hSw; (try dsimp only at hSw); (obtain ⟨c0, c1, c2, c3, c4, c5, c6, c7⟩ := HY.out _ hSw); first | (go_simp; done) | (go_simp; with_reducible rfl))
    refine wpAnyH_take (i := 3) (v := ?v102r2n0q4) rfl (by kernel_rfl) (by kernel_rfl) (by kernel_rfl) (fun _ _ _ h => h) (Or.inl ⟨by kernel_rfl, ?hy102r2n0q4⟩) (by assumption) ?hr102r2n0q4
    case hy102r2n0q4 => (intro w hSw; (try dsimp only at hSw); (obtain ⟨c0, c1, c2, c3, c4, c5, c6, c7⟩ := HY.out _ hSw); first | (go_simp; done) | (go_simp; with_reducible rfl))
    refine wpAnyH_take (i := 4) (v := ?v102r2n0q5) rfl (by kernel_rfl) (by kernel_rfl) (by kernel_rfl) (fun _ _ _ h => h) (Or.inl ⟨by kernel_rfl, ?hy102r2n0q5⟩) (by assumption) ?hr102r2n0q5
    case hy102r2n0q5 => (intro w hSw; (try dsimp only at hSw); (obtain ⟨c0, c1, c2, c3, c4, c5, c6, c7⟩ := HY.out _ hSw); first | (go_simp; done) | (go_simp; with_reducible rfl))
    refine wpAnyH_take (i := 5) (v := ?v102r2n0q6) rfl (by kernel_rfl) (by kernel_rfl) (by kernel_rfl) (fun _ _ _ h => h) (Or.inl ⟨by kernel_rfl, ?hy102r2n0q6⟩) (by assumption) ?hr102r2n0q6
    case hy102r2n0q6 => (intro w hSw; (try dsimp only at hSw); (obtain ⟨c0, c1, c2, c3, c4, c5, c6, c7⟩ := HY.out _ hSw); first | (go_simp; done) | (go_simp; with_reducible rfl))
    refine wpAnyH_ready (rs := [6, 7]) (by kernel_rfl) (by simp) (AllReadyH.cons rfl (fun K hK => ?hc102r2n0q7) (AllReadyH.cons rfl (fun K hK => ?hc102r2n0q8) AllReadyH.nil))
    case' hc102r2n0q7 =>
      go_simp
      ((first | (have hltB := lt_of_block hLB) | skip); (first | refine intro_alloc (fun XA hBX hLA => ?_) | refine intro_alloc_drew (fun XA hBX hLA => ?_)); have hgA := hHeld.size; have hk := below_step (by first | exact hHeld | exact lower_drew hHeld) hBX; (first | (have hLB := below_push hBX hLB) | skip); (first | (obtain ⟨z0, z1, z2, z3⟩ := four_cells hLA; have f0 := box_frozen hLA 0; have f1 := box_frozen hLA 1; have f2 := box_frozen hLA 2; have f3 := box_frozen hLA 3) | skip); (first | (obtain ⟨v0, v1, v2, v3⟩ := four_cells hLB; have k0 := box_frozen hLB 0; have k1 := box_frozen hLB 1; have k2 := box_frozen hLB 2; have k3 := box_frozen hLB 3) | skip); (try dsimp only))
      refine hK.out _ _ ?hs102r2n0q7 (fun hHeld102r2n0q7 => ?ht102r2n0q7)
      case hs102r2n0q7 => ((try dsimp only); (first | (with_reducible exact hHeld) | exact hk | exact hk.drew))
      clear hHeld hK
      have hHeld := hHeld102r2n0q7
      clear hHeld102r2n0q7
      refine wpAnyH_ready (rs := [7]) (by kernel_rfl) (by simp) (AllReadyH.cons rfl (fun K hK => ?hc102r2n0q9) AllReadyH.nil)
      go_simp
      ((first | (have hltA := lt_of_block hLA) | skip); (first | refine intro_alloc (fun XB hBX hLB => ?_) | refine intro_alloc_drew (fun XB hBX hLB => ?_)); have hgB := hHeld.size; have hk := below_step (by first | exact hHeld | exact lower_drew hHeld) hBX; (first | (have hLA := below_push hBX hLA) | skip); (first | (obtain ⟨z0, z1, z2, z3⟩ := four_cells hLA; have f0 := box_frozen hLA 0; have f1 := box_frozen hLA 1; have f2 := box_frozen hLA 2; have f3 := box_frozen hLA 3) | skip); (first | (obtain ⟨v0, v1, v2, v3⟩ := four_cells hLB; have k0 := box_frozen hLB 0; have k1 := box_frozen hLB 1; have k2 := box_frozen hLB 2; have k3 := box_frozen hLB 3) | skip); (try dsimp only))
      refine hK.out _ _ ?hs102r2n0q9 (fun hHeld102r2n0q9 => ?ht102r2n0q9)
      case hs102r2n0q9 => ((try dsimp only); (first | (with_reducible exact hHeld) | exact hk | exact hk.drew))
      clear hHeld hK
      have hHeld := hHeld102r2n0q9
      clear hHeld102r2n0q9
      refine wpAnyH_ready (rs := [8]) (by kernel_rfl) (by simp) (AllReadyH.cons rfl (fun K hK => ?hc102r2n0q10) AllReadyH.nil)
      go_simp
      (have hk := four_below hk hgA (.int .u32 (wz s.a)) (.int .u32 (wz s.b)) (.int .u32 (wz s.c)) (.int .u32 (wz s.d)); have hne := (by first | exact Nat.ne_of_gt hltA | exact Nat.ne_of_lt hltB); have hLB := four_other hLB hne (.int .u32 (wz s.a)) (.int .u32 (wz s.b)) (.int .u32 (wz s.c)) (.int .u32 (wz s.d)); have hLA := four_set hLA (.int .u32 (wz s.a)) (.int .u32 (wz s.b)) (.int .u32 (wz s.c)) (.int .u32 (wz s.d)); (first | (obtain ⟨z0, z1, z2, z3⟩ := four_cells hLA; have f0 := box_frozen hLA 0; have f1 := box_frozen hLA 1; have f2 := box_frozen hLA 2; have f3 := box_frozen hLA 3) | skip); (first | (obtain ⟨v0, v1, v2, v3⟩ := four_cells hLB; have k0 := box_frozen hLB 0; have k1 := box_frozen hLB 1; have k2 := box_frozen hLB 2; have k3 := box_frozen hLB 3) | skip); (try dsimp only))
      refine hK.out _ _ ?hs102r2n0q10 (fun hHeld102r2n0q10 => ?ht102r2n0q10)
      case hs102r2n0q10 => ((try dsimp only); (first | (with_reducible exact hHeld) | exact hk | exact hk.drew))
      clear hHeld hK
      have hHeld := hHeld102r2n0q10
      clear hHeld102r2n0q10
      refine wpAnyH_ready (rs := [9]) (by kernel_rfl) (by simp) (AllReadyH.cons rfl (fun K hK => ?hc102r2n0q11) AllReadyH.nil)
      go_simp
      (have hk := four_below hk hgB (.int .u32 (wz s.e)) (.int .u32 (wz s.f)) (.int .u32 (wz s.g)) (.int .u32 (wz s.h)); have hne2 := (by first | exact Nat.ne_of_lt hltA | exact Nat.ne_of_gt hltB); have hLA := four_other hLA hne2 (.int .u32 (wz s.e)) (.int .u32 (wz s.f)) (.int .u32 (wz s.g)) (.int .u32 (wz s.h)); have hLB := four_set hLB (.int .u32 (wz s.e)) (.int .u32 (wz s.f)) (.int .u32 (wz s.g)) (.int .u32 (wz s.h)); (first | (obtain ⟨z0, z1, z2, z3⟩ := four_cells hLA; have f0 := box_frozen hLA 0; have f1 := box_frozen hLA 1; have f2 := box_frozen hLA 2; have f3 := box_frozen hLA 3) | skip); (first | (obtain ⟨v0, v1, v2, v3⟩ := four_cells hLB; have k0 := box_frozen hLB 0; have k1 := box_frozen hLB 1; have k2 := box_frozen hLB 2; have k3 := box_frozen hLB 3) | skip); (try dsimp only))
      refine hK.out _ _ ?hs102r2n0q11 (fun hHeld102r2n0q11 => ?ht102r2n0q11)
      case hs102r2n0q11 => ((try dsimp only); (first | (with_reducible exact hHeld) | exact hk | exact hk.drew))
      clear hHeld hK
      have hHeld := hHeld102r2n0q11
      clear hHeld102r2n0q11
      refine wpAnyH_done (by kernel_rfl) ?_ _
      clear hHeld
      refine NoPanic.normal ?_
    case' hc102r2n0q8 =>
      go_simp
      ((first | (have hltA := lt_of_block hLA) | skip); (first | refine intro_alloc (fun XB hBX hLB => ?_) | refine intro_alloc_drew (fun XB hBX hLB => ?_)); have hgB := hHeld.size; have hk := below_step (by first | exact hHeld | exact lower_drew hHeld) hBX; (first | (have hLA := below_push hBX hLA) | skip); (first | (obtain ⟨z0, z1, z2, z3⟩ := four_cells hLA; have f0 := box_frozen hLA 0; have f1 := box_frozen hLA 1; have f2 := box_frozen hLA 2; have f3 := box_frozen hLA 3) | skip); (first | (obtain ⟨v0, v1, v2, v3⟩ := four_cells hLB; have k0 := box_frozen hLB 0; have k1 := box_frozen hLB 1; have k2 := box_frozen hLB 2; have k3 := box_frozen hLB 3) | skip); (try dsimp only))
      refine hK.out _ _ ?hs102r2n0q8 (fun hHeld102r2n0q8 => ?ht102r2n0q8)
      case hs102r2n0q8 => ((try dsimp only); (first | (with_reducible exact hHeld) | exact hk | exact hk.drew))
      clear hHeld hK
      have hHeld := hHeld102r2n0q8
      clear hHeld102r2n0q8
      refine wpAnyH_ready (rs := [6]) (by kernel_rfl) (by simp) (AllReadyH.cons rfl (fun K hK => ?hc102r2n0q12) AllReadyH.nil)
      go_simp
      ((first | (have hltB := lt_of_block hLB) | skip); (first | refine intro_alloc (fun XA hBX hLA => ?_) | refine intro_alloc_drew (fun XA hBX hLA => ?_)); have hgA := hHeld.size; have hk := below_step (by first | exact hHeld | exact lower_drew hHeld) hBX; (first | (have hLB := below_push hBX hLB) | skip); (first | (obtain ⟨z0, z1, z2, z3⟩ := four_cells hLA; have f0 := box_frozen hLA 0; have f1 := box_frozen hLA 1; have f2 := box_frozen hLA 2; have f3 := box_frozen hLA 3) | skip); (first | (obtain ⟨v0, v1, v2, v3⟩ := four_cells hLB; have k0 := box_frozen hLB 0; have k1 := box_frozen hLB 1; have k2 := box_frozen hLB 2; have k3 := box_frozen hLB 3) | skip); (try dsimp only))
      refine hK.out _ _ ?hs102r2n0q12 (fun hHeld102r2n0q12 => ?ht102r2n0q12)
      case hs102r2n0q12 => ((try dsimp only); (first | (with_reducible exact hHeld) | exact hk | exact hk.drew))
      clear hHeld hK
      have hHeld := hHeld102r2n0q12
      clear hHeld102r2n0q12
      refine wpAnyH_ready (rs := [8]) (by kernel_rfl) (by simp) (AllReadyH.cons rfl (fun K hK => ?hc102r2n0q13) AllReadyH.nil)
      go_simp
      (have hk := four_below hk hgA (.int .u32 (wz s.a)) (.int .u32 (wz s.b)) (.int .u32 (wz s.c)) (.int .u32 (wz s.d)); have hne := (by first | exact Nat.ne_of_gt hltA | exact Nat.ne_of_lt hltB); have hLB := four_other hLB hne (.int .u32 (wz s.a)) (.int .u32 (wz s.b)) (.int .u32 (wz s.c)) (.int .u32 (wz s.d)); have hLA := four_set hLA (.int .u32 (wz s.a)) (.int .u32 (wz s.b)) (.int .u32 (wz s.c)) (.int .u32 (wz s.d)); (first | (obtain ⟨z0, z1, z2, z3⟩ := four_cells hLA; have f0 := box_frozen hLA 0; have f1 := box_frozen hLA 1; have f2 := box_frozen hLA 2; have f3 := box_frozen hLA 3) | skip); (first | (obtain ⟨v0, v1, v2, v3⟩ := four_cells hLB; have k0 := box_frozen hLB 0; have k1 := box_frozen hLB 1; have k2 := box_frozen hLB 2; have k3 := box_frozen hLB 3) | skip); (try dsimp only))
      refine hK.out _ _ ?hs102r2n0q13 (fun hHeld102r2n0q13 => ?ht102r2n0q13)
      case hs102r2n0q13 => ((try dsimp only); (first | (with_reducible exact hHeld) | exact hk | exact hk.drew))
      clear hHeld hK
      have hHeld := hHeld102r2n0q13
      clear hHeld102r2n0q13
      refine wpAnyH_ready (rs := [9]) (by kernel_rfl) (by simp) (AllReadyH.cons rfl (fun K hK => ?hc102r2n0q14) AllReadyH.nil)
      go_simp
      (have hk := four_below hk hgB (.int .u32 (wz s.e)) (.int .u32 (wz s.f)) (.int .u32 (wz s.g)) (.int .u32 (wz s.h)); have hne2 := (by first | exact Nat.ne_of_lt hltA | exact Nat.ne_of_gt hltB); have hLA := four_other hLA hne2 (.int .u32 (wz s.e)) (.int .u32 (wz s.f)) (.int .u32 (wz s.g)) (.int .u32 (wz s.h)); have hLB := four_set hLB (.int .u32 (wz s.e)) (.int .u32 (wz s.f)) (.int .u32 (wz s.g)) (.int .u32 (wz s.h)); (first | (obtain ⟨z0, z1, z2, z3⟩ := four_cells hLA; have f0 := box_frozen hLA 0; have f1 := box_frozen hLA 1; have f2 := box_frozen hLA 2; have f3 := box_frozen hLA 3) | skip); (first | (obtain ⟨v0, v1, v2, v3⟩ := four_cells hLB; have k0 := box_frozen hLB 0; have k1 := box_frozen hLB 1; have k2 := box_frozen hLB 2; have k3 := box_frozen hLB 3) | skip); (try dsimp only))
      refine hK.out _ _ ?hs102r2n0q14 (fun hHeld102r2n0q14 => ?ht102r2n0q14)
      case hs102r2n0q14 => ((try dsimp only); (first | (with_reducible exact hHeld) | exact hk | exact hk.drew))
      clear hHeld hK
      have hHeld := hHeld102r2n0q14
      clear hHeld102r2n0q14
      refine wpAnyH_done (by kernel_rfl) ?_ _
      clear hHeld
      refine NoPanic.normal ?_
    all_goals
      (try dsimp only [Exit.inBlock, Exit.then])
      exact hMK _ _ ⟨rfl, rfl, by kernel_rfl, by kernel_rfl, by kernel_rfl, by first | exact hk | exact hk.drew, _, _, rfl, rfl, hgA, hgB, by first | exact Nat.ne_of_lt hltA | exact Nat.ne_of_gt hltB, hLA, hLB⟩
  rintro ⟨tm1, ds1⟩ W ⟨h116, hds, e2, e4, e5, hbW, B6, B7, e6, e7, h6s, h7s, h67, hq6, hq7⟩
  simp only at h116 hds e2 e4 e5 e6 e7
  subst hds
  apply_assumption
  rw [frame116 tm1 [] h116, e2, e4, e5, e6, e7]
  clear h116 e2 e4 e5 e6 e7
  obtain ⟨ks, hks⟩ : ∃ ks, ks = ks0 := ⟨_, rfl⟩
  have hkl : ks.length = 64 := by rw [hks]; rfl
  have HKS := hidep hks
  have hkr : W.rangeAt 2 0 (u32C ks) := by
    rw [hks]
    intro j v hv
    have h0 := HK.out j v hv
    have hlt : (2 : Nat) < w.heap.size := by
      by_cases h : (2 : Nat) < w.heap.size
      · exact h
      · have : w.heap[(2 : Nat)]? = none := Array.getElem?_eq_none (by omega)
        simp [World.cell?, this] at h0
    exact ((HQ.out.2.2.2.trans (hbW.mono HQ.out.2.2.2.size)).cell (p := ⟨2, 0 + j, none⟩) hlt).trans h0
  have hki : (Tryz.prog.info? 161).map (·.size) = some (u32C ks).length := by rw [u32C_len, hkl]; exact row_u32x64.2
  clear hks
  have HKR := hidep (And.intro hkr hki)
  clear hkr hki
  go_upto_region 3 with (fail)
  refine wp_region_lit ?_
  refine wpList_load_mid (op := ⟨some 21, _, _, _, _, _⟩) rfl 161 _ rfl 2 0 rfl _ _ HKR.out.1 row_u32x64.1.choose_spec.1 row_u32x64.1.choose_spec.2 HKR.out.2 ?_
  go_upto_region 4 with (fail)
  refine wp_loop (LoopI 116 (fun tm ds wr => (slot tm 2) = .pointer (some ⟨B2, 0, none⟩) ∧ (slot tm 4) = .pointer (some ⟨B4, 0, none⟩) ∧ (slot tm 5) = .pointer (some ⟨B5, 0, none⟩) ∧ (slot tm 6) = .pointer (some ⟨B6, 0, none⟩) ∧ (slot tm 7) = .pointer (some ⟨B7, 0, none⟩) ∧ (slot tm 21) = .agg (u32C ks).toArray ∧ ds = [] ∧ CmpI ks ws X2 B6 B7 s (slot tm 22) wr)) (fun a' wr => 64 - (intOf (a'.tmps.getD 22 undef)).toNat) ?mainStart ?mainRound
  case' mainStart => refine LoopI.mk rfl ?_
  case' mainRound => (rintro ⟨t, ds⟩ wr ⟨hts, hrel⟩; dsimp only at hts hrel; rw [frame116 t ds hts])
  case mainStart => exact ⟨rfl, rfl, rfl, rfl, rfl, rfl, rfl, 0, Nat.zero_le _, rfl, hq6, hq7, hbW⟩
  clear hq6 hq7 hbW
  obtain ⟨h2, h4, h5, h6, h7, h21, hds, t', ht, h22, hq6, hq7, hbw⟩ := hrel
  subst hds
  rw [h2, h4, h5, h6, h7, h21, h22]
  clear h2 h4 h5 h6 h7 h21 h22 hts
  by_cases hlt : t' < 64
  · have hlti : (t' : Int) < 64 := by omega
    obtain ⟨v, hv⟩ : ∃ v, v = roundsTo ks ws s t' := ⟨_, rfl⟩
    obtain ⟨kt, hkt⟩ : ∃ k, k = ks.getD t' 0 := ⟨_, rfl⟩
    obtain ⟨wt, hwt⟩ : ∃ k, k = ws.getD t' 0 := ⟨_, rfl⟩
    rw [← hv] at hq6 hq7
    have HV := hidep (show roundsTo ks ws s (t' + 1) = roundZ v kt wt from by rw [hv, hkt, hwt]; rfl)
    have hix : (u32C ks).toArray[t']? = some (.int .u32 (wz kt)) := by
      rw [hkt]
      simp [u32C, List.getD, show t' < ks.length by omega]
    have hid := fun W => idx_arr ks t' kt hlt hix W
    have hc5 : wr.cell? ⟨B5, t', none⟩ = some (.int .u32 (wz wt)) := by
      rw [hwt]
      exact (HQ.out.1.below hbw).get (by omega)
    clear hv hkt hwt
    have a0 := hq6.get (i := 0) (by show 0 < 4; decide)
    have a1 := hq6.get (i := 1) (by show 1 < 4; decide)
    have a2 := hq6.get (i := 2) (by show 2 < 4; decide)
    have a3 := hq6.get (i := 3) (by show 3 < 4; decide)
    have b0 := hq7.get (i := 0) (by show 0 < 4; decide)
    have b1 := hq7.get (i := 1) (by show 1 < 4; decide)
    have b2 := hq7.get (i := 2) (by show 2 < 4; decide)
    have b3 := hq7.get (i := 3) (by show 3 < 4; decide)
    simp only [List.getD_cons_zero, List.getD_cons_succ] at a0 a1 a2 a3 b0 b1 b2 b3
    have HM1 := hidep (show ∀ W, Calls Tryz.prog 111 #[.int .u32 (wz v.e), .int .i64 6, .int .i64 11, .int .i64 25] W fun e w' => e = .returned (.int .u32 (wz (rotr v.e 6 ^^^ rotr v.e 11 ^^^ rotr v.e 25))) ∧ W = w' from fun W => mix_any v.e 6 11 25 (by decide) (by decide) (by decide) W)
    have HM2 := hidep (show ∀ W, Calls Tryz.prog 111 #[.int .u32 (wz v.a), .int .i64 2, .int .i64 13, .int .i64 22] W fun e w' => e = .returned (.int .u32 (wz (rotr v.a 2 ^^^ rotr v.a 13 ^^^ rotr v.a 22))) ∧ W = w' from fun W => mix_any v.a 2 13 22 (by decide) (by decide) (by decide) W)
    go_upto_region 6 with (fail)
    clear hid hix
    go_quiet ((go_at_call 111; refine (HM1.out _).mono ?_; rintro e w' ⟨rfl, rfl⟩; exact ⟨rfl, _, rfl⟩))
    apply_assumption
    rw [x_eq]
    go_upto_region 7 with (fail)
    go_quiet ((go_at_call 111; refine (HM2.out _).mono ?_; rintro e w' ⟨rfl, rfl⟩; exact ⟨rfl, _, rfl⟩))
    apply_assumption
    rw [y_eq]
    obtain ⟨x, hx⟩ : ∃ x, x = tmpX v kt wt := ⟨_, rfl⟩
    obtain ⟨y, hy⟩ : ∃ y, y = tmpY v := ⟨_, rfl⟩
    rw [← hx, ← hy]
    have HV2 := hidep (show roundsTo ks ws s (t' + 1) = ⟨x + y, v.a, v.b, v.c, v.d + x, v.e, v.f, v.g⟩ from by rw [HV.out, hx, hy]; rfl)
    refine wp_abs (fun X => ArrW X B6 167 [v.a, v.b, v.c, v.d] ∧ ArrW X B7 167 [v.e, v.f, v.g, v.h] ∧ Below X2.heap.size X2 X) (by first | exact ⟨hq6, hq7, below_drewN (below_drewN hbw _) _⟩ | exact ⟨hq6, hq7, below_drewN hbw _⟩ | exact ⟨hq6, hq7, hbw.drew⟩ | exact ⟨hq6, hq7, hbw.drew.drew⟩) ?_
    clear a0 a1 a2 a3 b0 b1 b2 b3 hq6 hq7 hbw hc5 HM1 HM2 HV hx hy
    rintro X3 ⟨hq6, hq7, hbw⟩
    have s1 : (wz v.d + wz x) % (4294967296 : Int) = wz (v.d + x) := w_addm _ _
    have s2 : (wz x + wz y) % (4294967296 : Int) = wz (x + y) := w_addm _ _
    obtain ⟨a0, a1, a2, a3⟩ := four_cells hq6
    obtain ⟨b0, b1, b2, b3⟩ := four_cells hq7
    have f0 := box_frozen hq6 0
    have f1 := box_frozen hq6 1
    have f2 := box_frozen hq6 2
    have f3 := box_frozen hq6 3
    have k0 := box_frozen hq7 0
    have k1 := box_frozen hq7 1
    have k2 := box_frozen hq7 2
    have k3 := box_frozen hq7 3
    have HFA := hidep (And.intro hq6 (And.intro hq7 hbw))
    clear hq6 hq7 hbw
    go_upto_region 9 with (fail)
    obtain ⟨hq6, hq7, hbw⟩ := HFA.out
    have hq7n := four_set hq7 (.int .u32 (wz (v.d + x))) (.int .u32 (wz v.e)) (.int .u32 (wz v.f)) (.int .u32 (wz v.g))
    have hq6n := four_other hq6 h67 (.int .u32 (wz (v.d + x))) (.int .u32 (wz v.e)) (.int .u32 (wz v.f)) (.int .u32 (wz v.g))
    have hbwn := four_below hbw h7s (.int .u32 (wz (v.d + x))) (.int .u32 (wz v.e)) (.int .u32 (wz v.f)) (.int .u32 (wz v.g))
    refine wp_abs (fun X => ArrW X B6 167 [v.a, v.b, v.c, v.d] ∧ ArrW X B7 167 [v.d + x, v.e, v.f, v.g] ∧ Below X2.heap.size X2 X) ⟨hq6n, hq7n, hbwn⟩ ?_
    clear HFA hq6 hq7 hbw hq7n hq6n hbwn a0 a1 a2 a3 b0 b1 b2 b3 f0 f1 f2 f3 k0 k1 k2 k3
    rintro X4 ⟨hq6, hq7, hbw⟩
    obtain ⟨a0, a1, a2, a3⟩ := four_cells hq6
    have f0 := box_frozen hq6 0
    have f1 := box_frozen hq6 1
    have f2 := box_frozen hq6 2
    have f3 := box_frozen hq6 3
    have HFA := hidep (And.intro hq6 (And.intro hq7 hbw))
    clear hq6 hq7 hbw
    go_wp2
    obtain ⟨hq6, hq7, hbw⟩ := HFA.out
    have hq6n := four_set hq6 (.int .u32 (wz (x + y))) (.int .u32 (wz v.a)) (.int .u32 (wz v.b)) (.int .u32 (wz v.c))
    have hq7n := four_other hq7 (Ne.symm h67) (.int .u32 (wz (x + y))) (.int .u32 (wz v.a)) (.int .u32 (wz v.b)) (.int .u32 (wz v.c))
    have hbwn := four_below hbw h6s (.int .u32 (wz (x + y))) (.int .u32 (wz v.a)) (.int .u32 (wz v.b)) (.int .u32 (wz v.c))
    refine ⟨LoopI.mk rfl ⟨rfl, rfl, rfl, rfl, rfl, rfl, rfl, t' + 1, by omega, by show Value.int _ _ = _; go_num, by rw [HV2.out]; exact hq6n, by rw [HV2.out]; exact hq7n, hbwn⟩, ?_⟩
    show 64 - _ < 64 - _
    simp [intOf]; omega
  · have hlti : ¬ (t' : Int) < 64 := by omega
    have ht64 : t' = 64 := by omega
    obtain ⟨v, hv⟩ : ∃ v, v = roundsTo ks ws s t' := ⟨_, rfl⟩
    rw [← hv] at hq6 hq7
    have HV := hidep (show v = roundsTo ks ws s 64 from by rw [hv, ht64])
    clear hv
    subst ht64
    have hbx := HQ.out.2.2.2.trans (hbw.mono HQ.out.2.2.2.size)
    have hq2 := HQ.out.2.1.below hbw
    have hq4 := HQ.out.2.2.1.below hbw
    have hne26 : B2 ≠ B6 ∧ B2 ≠ B7 ∧ B2 ≠ B4 := by
      have := lt_of_block HQ.out.2.1
      have := HBB.out
      omega
    have HNE := hidep hne26
    obtain ⟨W1, hW1⟩ : ∃ W1 : World, W1 = wr := ⟨_, rfl⟩
    rw [← hW1] at hq2 hq4 hq6 hq7 hbx hbw
    rw [← hW1]
    clear hW1 hne26 hbw
    go_upto_region 12 with (fail)
    refine wp_loop (LoopI 116 (fun tm ds wr => (slot tm 2) = .pointer (some ⟨B2, 0, none⟩) ∧ (slot tm 4) = .pointer (some ⟨B4, 0, none⟩) ∧ (slot tm 6) = .pointer (some ⟨B6, 0, none⟩) ∧ (slot tm 7) = .pointer (some ⟨B7, 0, none⟩) ∧ ds = [] ∧ AddI w B2 B4 B6 B7 s v (slot tm 94) wr)) (fun a' wr => 4 - (intOf (a'.tmps.getD 94 undef)).toNat) ?addsStart ?addsRound
    case' addsStart => refine LoopI.mk rfl ?_
    case' addsRound => (rintro ⟨t, ds⟩ wr ⟨hts, hrel⟩; dsimp only at hts hrel; rw [frame116 t ds hts])
    case addsStart => exact ⟨rfl, rfl, rfl, rfl, rfl, 0, Nat.zero_le _, rfl, hq2, hq4, hq6, hq7, hbx⟩
    clear hq2 hq4 hq6 hq7 hbx
    obtain ⟨h2, h4, h6, h7, hds, i, hi, h94, hq2, hq4, hq6, hq7, hbx⟩ := hrel
    subst hds
    rw [h2, h4, h6, h7, h94]
    clear h2 h4 h6 h7 h94 hts
    by_cases hi4 : i < 4
    · have hii : (i : Int) < 4 := by omega
      have hwi : IntKind.i64.wrap ((i : Int) + 4) = ((i + 4 : Nat) : Int) := by rw [IntWalk.i64_in _ (by omega)]; omega
      have hw8 : ((i + 4 : Nat) : Int) < 8 := by omega
      obtain ⟨p, hp⟩ : ∃ p, p = s.toList.getD i 0 := ⟨_, rfl⟩
      obtain ⟨q, hq⟩ : ∃ p, p = s.toList.getD (i + 4) 0 := ⟨_, rfl⟩
      obtain ⟨vp, hvp⟩ : ∃ p, p = [v.a, v.b, v.c, v.d].getD i 0 := ⟨_, rfl⟩
      obtain ⟨vq, hvq⟩ : ∃ p, p = [v.e, v.f, v.g, v.h].getD i 0 := ⟨_, rfl⟩
      have y0 := hq2.get (i := i) (by show i < 8; omega)
      have y1 := hq2.get (i := i + 4) (by show i + 4 < 8; omega)
      have e0 : (sumL s v i).getD i 0 = p := by rw [hp]; rcases (by omega : i = 0 ∨ i = 1 ∨ i = 2 ∨ i = 3) with rfl | rfl | rfl | rfl <;> rfl
      have e1 : (sumL s v i).getD (i + 4) 0 = q := by rw [hq]; rcases (by omega : i = 0 ∨ i = 1 ∨ i = 2 ∨ i = 3) with rfl | rfl | rfl | rfl <;> rfl
      have z0 := hq6.get (i := i) (by show i < 4; omega)
      have z1 := hq7.get (i := i) (by show i < 4; omega)
      rw [e0] at y0
      rw [e1] at y1
      rw [← hvp] at z0
      rw [← hvq] at z1
      have HE := hidep (show ((sumL s v i).set i (p + vp)).set (i + 4) (q + vq) = sumL s v (i + 1) from by rw [hp, hq, hvp, hvq]; rcases (by omega : i = 0 ∨ i = 1 ∨ i = 2 ∨ i = 3) with rfl | rfl | rfl | rfl <;> rfl)
      have s0 : (wz p + wz vp) % (4294967296 : Int) = wz (p + vp) := w_addm _ _
      have s1 : (wz q + wz vq) % (4294967296 : Int) = wz (q + vq) := w_addm _ _
      have f0 := hq2.free i
      have hl26 : B2 ≠ B6 := HNE.out.1
      have HR1 := hidep (And.intro (hq2.set i (p + vp)) (And.intro (hq4.other (o := i) (Ne.symm HNE.out.2.2) (.int .u32 (wz (p + vp)))) (And.intro (hq6.other (o := i) (Ne.symm HNE.out.1) (.int .u32 (wz (p + vp)))) (And.intro (hq7.other (o := i) (Ne.symm HNE.out.2.1) (.int .u32 (wz (p + vp)))) (below_set hbx ⟨B2, i, none⟩ (.int .u32 (wz (p + vp))) HBB.out.1)))))
      have HVQ := hidep hvq
      have HQQ := hidep hq
      clear e0 e1 hp hq hvp hvq hq2 hq4 hq6 hq7 hbx
      go_upto_region 14 with (fail)
      go_region
      all_goals
        (try dsimp only [Exit.inBlock, Exit.then])
        apply_assumption
        refine wp_abs (fun X => ArrW X B2 146 ((sumL s v i).set i (p + vp)) ∧ ArrW X B4 146 (List.replicate 8 0) ∧ ArrW X B6 167 [v.a, v.b, v.c, v.d] ∧ ArrW X B7 167 [v.e, v.f, v.g, v.h] ∧ Below w.heap.size w X) (by first | exact HR1.out | exact ⟨HR1.out.1, HR1.out.2.1, HR1.out.2.2.1, HR1.out.2.2.2.1, HR1.out.2.2.2.2.drew⟩) ?_
        clear y0 y1 z0 z1 f0 HR1
        rintro X5 ⟨hq2, hq4, hq6, hq7, hbx⟩
        have y1 := hq2.get (i := i + 4) (by rw [List.length_set]; show i + 4 < 8; omega)
        have e1 : ((sumL s v i).set i (p + vp)).getD (i + 4) 0 = q := by rw [HQQ.out]; rcases (by omega : i = 0 ∨ i = 1 ∨ i = 2 ∨ i = 3) with rfl | rfl | rfl | rfl <;> rfl
        rw [e1] at y1
        have z1 := hq7.get (i := i) (by show i < 4; omega)
        have e2 : [v.e, v.f, v.g, v.h].getD i 0 = vq := HVQ.out.symm
        rw [e2] at z1
        have f1 := hq2.free (i + 4)
        have hq2n := hq2.set (i + 4) (q + vq)
        rw [HE.out] at hq2n
        have HR2 := hidep (And.intro hq2n (And.intro (hq4.other (o := i + 4) (Ne.symm HNE.out.2.2) (.int .u32 (wz (q + vq)))) (And.intro (hq6.other (o := i + 4) (Ne.symm HNE.out.1) (.int .u32 (wz (q + vq)))) (And.intro (hq7.other (o := i + 4) (Ne.symm HNE.out.2.1) (.int .u32 (wz (q + vq)))) (below_set hbx ⟨B2, i + 4, none⟩ (.int .u32 (wz (q + vq))) HBB.out.1)))))
        clear e1 e2 hq2n hq2 hq4 hq6 hq7 hbx
        go_upto_region 15 with (fail)
        go_region
        all_goals
          go_wp2
          refine ⟨LoopI.mk rfl ⟨rfl, rfl, rfl, rfl, rfl, i + 1, by omega, by show Value.int _ _ = _; go_num, HR2.out.1, HR2.out.2.1, HR2.out.2.2.1, HR2.out.2.2.2.1, by first | exact HR2.out.2.2.2.2 | exact HR2.out.2.2.2.2.drew⟩, ?_⟩
          show 4 - _ < 4 - _
          simp [intOf]; omega
    · have hii : ¬ (i : Int) < 4 := by omega
      have hi5 : i = 4 := by omega
      have e8 : sumL s v i = (addS s v).toList := by rw [hi5]; rfl
      rw [e8] at hq2
      obtain ⟨rs, hrs⟩ : ∃ rs, rs = (addS s v).toList := ⟨_, rfl⟩
      have hrl : rs.length = 8 := by rw [hrs]; rfl
      rw [← hrs] at hq2
      have HRS := hidep (show rs = (compZ' ks0 s l).toList from by
        rw [hrs, HV.out, HKS.out, HWS.out]
        rfl)
      obtain ⟨W2, hW2⟩ : ∃ W2, W2 = wr.setCells B4 0 (u32C rs) := ⟨_, rfl⟩
      have HL := hidep (show wr.rangeAt B2 0 (u32C rs) from range_of_arr hq2)
      have HTH := hidep (show wr.there B4 0 (u32C rs).toArray.size from there_of_arr hq4 (by simp [u32C_len, hrl]))
      have HI8 := hidep (show (Tryz.prog.info? 146).map (·.size) = some (u32C rs).toArray.size ∧ (Tryz.prog.info? 146).map (·.size) = some (u32C rs).length from ⟨by rw [List.size_toArray, u32C_len, hrl]; exact row_u32x8.2, by rw [u32C_len, hrl]; exact row_u32x8.2⟩)
      have HONE8 := hidep (all_oneCell_toArray (u32C_one rs))
      have HEND := hidep (show W2.rangeAt B4 0 (u32C rs) ∧ Below w.heap.size w W2 from by
        rw [hW2]
        refine ⟨World.rangeAt_setCells_same _ _ _ _ ?_, below_setCells B4 HBB.out.2.1 _ _ _ hbx⟩
        have := HTH.out
        rwa [List.size_toArray] at this)
      have HW2 := hidep hW2
      clear hq2 hq4 hq6 hq7 hbx hW2 e8 hrl hrs
      go_upto_region 17 with (fail)
      refine wp_region_lit ?_
      refine wpList_load_mid (op := ⟨some 115, _, _, _, _, _⟩) rfl 146 _ rfl B2 0 rfl _ _ HL.out row_u32x8.1.choose_spec.1 row_u32x8.1.choose_spec.2 HI8.out.2 ?_
      refine wpList_store_to (op := ⟨none, _, _, _, _, _⟩) rfl 146 _ _ rfl B4 0 (u32C rs).toArray rfl rfl HTH.out HI8.out.1 HONE8.out W2 HW2.out.symm ?_
      go_wp2
      refine bodyPost_ret (results_cell1 rfl _ _ _ rfl (run_loadVar_mid (P := Tryz.prog) W2 B4 0 146 (u32C rs) _ HEND.out.1 row_u32x8.1.choose_spec.1 row_u32x8.1.choose_spec.2 HI8.out.2)) rfl ?_
      exact ⟨by rw [HRS.out], HEND.out.2⟩
end Go.Proofs.YtipbkdlekanlmaaGreatDoor
