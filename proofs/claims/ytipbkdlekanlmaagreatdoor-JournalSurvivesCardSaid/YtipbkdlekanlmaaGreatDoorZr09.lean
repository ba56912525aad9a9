/- Journal: the reference's Sum of 56 bytes. -/
import Derived.Test.YtipbkdlekanlmaaGreatDoorZr07
import Derived.Test.YtipbkdlekanlmaaGreatDoorZr08
import Derived.Test.YtipbkdlekanlmaaGreatDoorZr05
namespace Go.Proofs.YtipbkdlekanlmaaGreatDoor
open Go.RowKit Go.Lab
attribute [local go_sem] Oper.semAt_some
set_option maxRecDepth 100000
theorem range_map164 (f : Nat → Value) : (List.range 164).map f = [f 0, f 1, f 2, f 3, f 4, f 5, f 6, f 7, f 8, f 9, f 10, f 11, f 12, f 13, f 14, f 15, f 16, f 17, f 18, f 19, f 20, f 21, f 22, f 23, f 24, f 25, f 26, f 27, f 28, f 29, f 30, f 31, f 32, f 33, f 34, f 35, f 36, f 37, f 38, f 39, f 40, f 41, f 42, f 43, f 44, f 45, f 46, f 47, f 48, f 49, f 50, f 51, f 52, f 53, f 54, f 55, f 56, f 57, f 58, f 59, f 60, f 61, f 62, f 63, f 64, f 65, f 66, f 67, f 68, f 69, f 70, f 71, f 72, f 73, f 74, f 75, f 76, f 77, f 78, f 79, f 80, f 81, f 82, f 83, f 84, f 85, f 86, f 87, f 88, f 89, f 90, f 91, f 92, f 93, f 94, f 95, f 96, f 97, f 98, f 99, f 100, f 101, f 102, f 103, f 104, f 105, f 106, f 107, f 108, f 109, f 110, f 111, f 112, f 113, f 114, f 115, f 116, f 117, f 118, f 119, f 120, f 121, f 122, f 123, f 124, f 125, f 126, f 127, f 128, f 129, f 130, f 131, f 132, f 133, f 134, f 135, f 136, f 137, f 138, f 139, f 140, f 141, f 142, f 143, f 144, f 145, f 146, f 147, f 148, f 149, f 150, f 151, f 152, f 153, f 154, f 155, f 156, f 157, f 158, f 159, f 160, f 161, f 162, f 163] := rfl
theorem frame164 (t : Array Value) (ds : List Deferred) (h : t.size = 164) : ({ tmps := t, defers := ds } : Act) = { tmps := #[slot t 0, slot t 1, slot t 2, slot t 3, slot t 4, slot t 5, slot t 6, slot t 7, slot t 8, slot t 9, slot t 10, slot t 11, slot t 12, slot t 13, slot t 14, slot t 15, slot t 16, slot t 17, slot t 18, slot t 19, slot t 20, slot t 21, slot t 22, slot t 23, slot t 24, slot t 25, slot t 26, slot t 27, slot t 28, slot t 29, slot t 30, slot t 31, slot t 32, slot t 33, slot t 34, slot t 35, slot t 36, slot t 37, slot t 38, slot t 39, slot t 40, slot t 41, slot t 42, slot t 43, slot t 44, slot t 45, slot t 46, slot t 47, slot t 48, slot t 49, slot t 50, slot t 51, slot t 52, slot t 53, slot t 54, slot t 55, slot t 56, slot t 57, slot t 58, slot t 59, slot t 60, slot t 61, slot t 62, slot t 63, slot t 64, slot t 65, slot t 66, slot t 67, slot t 68, slot t 69, slot t 70, slot t 71, slot t 72, slot t 73, slot t 74, slot t 75, slot t 76, slot t 77, slot t 78, slot t 79, slot t 80, slot t 81, slot t 82, slot t 83, slot t 84, slot t 85, slot t 86, slot t 87, slot t 88, slot t 89, slot t 90, slot t 91, slot t 92, slot t 93, slot t 94, slot t 95, slot t 96, slot t 97, slot t 98, slot t 99, slot t 100, slot t 101, slot t 102, slot t 103, slot t 104, slot t 105, slot t 106, slot t 107, slot t 108, slot t 109, slot t 110, slot t 111, slot t 112, slot t 113, slot t 114, slot t 115, slot t 116, slot t 117, slot t 118, slot t 119, slot t 120, slot t 121, slot t 122, slot t 123, slot t 124, slot t 125, slot t 126, slot t 127, slot t 128, slot t 129, slot t 130, slot t 131, slot t 132, slot t 133, slot t 134, slot t 135, slot t 136, slot t 137, slot t 138, slot t 139, slot t 140, slot t 141, slot t 142, slot t 143, slot t 144, slot t 145, slot t 146, slot t 147, slot t 148, slot t 149, slot t 150, slot t 151, slot t 152, slot t 153, slot t 154, slot t 155, slot t 156, slot t 157, slot t 158, slot t 159, slot t 160, slot t 161, slot t 162, slot t 163], defers := ds } := by
  have e : t = ((List.range 164).map (slot t)).toArray := by
    apply Array.ext
    · simp [h]
    · intro i h1 h2
      simp [slot, Array.getD, h1]
  rw [range_map164] at e
  exact congrArg (fun x => ({ tmps := x, defers := ds } : Act)) e
theorem zero_u8x32 (w : World) : (zeroValue 125).run Tryz.prog w = .ok (.agg (byC (List.replicate 32 0)).toArray) w := by kernel_rfl
theorem row_u8x32 : (∃ d, Tryz.prog.underlying 125 = some d ∧ d.isRow = true) ∧ (Tryz.prog.info? 125).map (·.size) = some 32 := ⟨under_row (by kernel_rfl), by kernel_rfl⟩
/-- A word as a value. -/
def wv (x : BitVec 32) : Value := .int .u32 (wz x)
/-- Block k of a message of 128 bytes. -/
def blkZ (m : List Int) (k : Nat) : List Int := (m.drop (64 * k)).take 64
/-- The state behind k blocks. -/
def stZ (m : List Int) : Nat → Sv
  | 0 => iv0
  | k + 1 => compZ' ks0 (stZ m k) (blkZ m k)
def SumI (m : List Int) (w : World) (B2 B3 : Nat) (a : Option Addr) (c : Nat) (s : Value) (wr : World) : Prop := ∃ k : Nat, k ≤ 2 ∧ s = .int .i64 ((64 * k : Nat) : Int) ∧ ArrW wr B3 146 (stZ m k).toList ∧ wr.heap[B2]? = some (.cells (byC (List.replicate 32 0)).toArray 125) ∧ Rd wr (· = 5) 1 (.slice a 128 c) 128 (byC m) ∧ Below w.heap.size w wr
theorem eight_set {W : World} {b : Nat} {x0 x1 x2 x3 x4 x5 x6 x7 : Value} {t : TypeId} (h : W.heap[b]? = some (.cells #[x0, x1, x2, x3, x4, x5, x6, x7] t)) (y0 y1 y2 y3 y4 y5 y6 y7 : Value) : ((((((((W.setCell ⟨b, 0, none⟩ y0).setCell ⟨b, 1, none⟩ y1).setCell ⟨b, 2, none⟩ y2).setCell ⟨b, 3, none⟩ y3).setCell ⟨b, 4, none⟩ y4).setCell ⟨b, 5, none⟩ y5).setCell ⟨b, 6, none⟩ y6).setCell ⟨b, 7, none⟩ y7).heap[b]? = some (.cells #[y0, y1, y2, y3, y4, y5, y6, y7] t) ∧ Turned (fun c => c = b) W ((((((((W.setCell ⟨b, 0, none⟩ y0).setCell ⟨b, 1, none⟩ y1).setCell ⟨b, 2, none⟩ y2).setCell ⟨b, 3, none⟩ y3).setCell ⟨b, 4, none⟩ y4).setCell ⟨b, 5, none⟩ y5).setCell ⟨b, 6, none⟩ y6).setCell ⟨b, 7, none⟩ y7) := by
  have q0 : (W.setCell ⟨b, 0, none⟩ y0).heap[b]? = some (.cells #[y0, x1, x2, x3, x4, x5, x6, x7] t) := heap_set h 0 y0
  have q1 : ((W.setCell ⟨b, 0, none⟩ y0).setCell ⟨b, 1, none⟩ y1).heap[b]? = some (.cells #[y0, y1, x2, x3, x4, x5, x6, x7] t) := heap_set q0 1 y1
  have q2 : (((W.setCell ⟨b, 0, none⟩ y0).setCell ⟨b, 1, none⟩ y1).setCell ⟨b, 2, none⟩ y2).heap[b]? = some (.cells #[y0, y1, y2, x3, x4, x5, x6, x7] t) := heap_set q1 2 y2
  have q3 : ((((W.setCell ⟨b, 0, none⟩ y0).setCell ⟨b, 1, none⟩ y1).setCell ⟨b, 2, none⟩ y2).setCell ⟨b, 3, none⟩ y3).heap[b]? = some (.cells #[y0, y1, y2, y3, x4, x5, x6, x7] t) := heap_set q2 3 y3
  have q4 : (((((W.setCell ⟨b, 0, none⟩ y0).setCell ⟨b, 1, none⟩ y1).setCell ⟨b, 2, none⟩ y2).setCell ⟨b, 3, none⟩ y3).setCell ⟨b, 4, none⟩ y4).heap[b]? = some (.cells #[y0, y1, y2, y3, y4, x5, x6, x7] t) := heap_set q3 4 y4
  have q5 : ((((((W.setCell ⟨b, 0, none⟩ y0).setCell ⟨b, 1, none⟩ y1).setCell ⟨b, 2, none⟩ y2).setCell ⟨b, 3, none⟩ y3).setCell ⟨b, 4, none⟩ y4).setCell ⟨b, 5, none⟩ y5).heap[b]? = some (.cells #[y0, y1, y2, y3, y4, y5, x6, x7] t) := heap_set q4 5 y5
  have q6 : (((((((W.setCell ⟨b, 0, none⟩ y0).setCell ⟨b, 1, none⟩ y1).setCell ⟨b, 2, none⟩ y2).setCell ⟨b, 3, none⟩ y3).setCell ⟨b, 4, none⟩ y4).setCell ⟨b, 5, none⟩ y5).setCell ⟨b, 6, none⟩ y6).heap[b]? = some (.cells #[y0, y1, y2, y3, y4, y5, y6, x7] t) := heap_set q5 6 y6
  have q7 : ((((((((W.setCell ⟨b, 0, none⟩ y0).setCell ⟨b, 1, none⟩ y1).setCell ⟨b, 2, none⟩ y2).setCell ⟨b, 3, none⟩ y3).setCell ⟨b, 4, none⟩ y4).setCell ⟨b, 5, none⟩ y5).setCell ⟨b, 6, none⟩ y6).setCell ⟨b, 7, none⟩ y7).heap[b]? = some (.cells #[y0, y1, y2, y3, y4, y5, y6, y7] t) := heap_set q6 7 y7
  exact ⟨q7, ((((((((Turned.refl (fun c => c = b) W).setCell ⟨b, 0, none⟩ y0 (.inr rfl)).setCell ⟨b, 1, none⟩ y1 (.inr rfl)).setCell ⟨b, 2, none⟩ y2 (.inr rfl)).setCell ⟨b, 3, none⟩ y3 (.inr rfl)).setCell ⟨b, 4, none⟩ y4 (.inr rfl)).setCell ⟨b, 5, none⟩ y5 (.inr rfl)).setCell ⟨b, 6, none⟩ y6 (.inr rfl)).setCell ⟨b, 7, none⟩ y7 (.inr rfl)⟩
theorem keeps_turned {T : TypeId → Prop} {W X : World} {B : Nat} {cur : Array Value} {t : TypeId} {fz : Nat × Nat} (hT : Turned (fun c => c = B) W X) (h : W.heap[B]? = some (.cells cur t fz)) (hne : ∀ u, T u → u ≠ t) : Keeps T W X := by
  refine ⟨hT.size, fun b cur' u fz' hu hx => hT.cells hx (fun e => ?_)⟩
  subst e
  rw [h] at hx
  injection hx with hx
  injection hx with _ h2 _
  exact hne u hu h2.symm
theorem below_turned {B b : Nat} {a W X : World} (h : Below B a W) (hT : Turned (fun c => c = b) W X) (hb : B ≤ b) (hB : B ≤ W.heap.size) : Below B a X :=
  h.trans ⟨hT.os, hT.tape, hT.output, hT.size, fun k hk => hT.block k (Nat.lt_of_lt_of_le hk hB) (by show ¬ k = b; omega)⟩
theorem xr_eq (v : Sv) (k w : BitVec 32) : ((wz v.h + bits BinOp.xor IntKind.u32 (bits BinOp.xor IntKind.u32 (wz (rotr v.e 6)) (wz (rotr v.e 11))) (wz (rotr v.e 25)) + bits BinOp.xor IntKind.u32 (bits BinOp.and IntKind.u32 (wz v.e) (wz v.f)) (bits BinOp.and IntKind.u32 (bits BinOp.xor IntKind.u32 (wz v.e) 4294967295) (wz v.g)) + wz k) % (4294967296 : Int) + wz w) % (4294967296 : Int) = wz (tmpX v k w) := by
  rw [w_not, w_and, w_and, w_xor, w_xor, w_xor, w_add4, w_addm]
  rfl
theorem yr_eq (v : Sv) : (bits BinOp.xor IntKind.u32 (bits BinOp.xor IntKind.u32 (wz (rotr v.a 2)) (wz (rotr v.a 13))) (wz (rotr v.a 22)) + bits BinOp.xor IntKind.u32 (bits BinOp.xor IntKind.u32 (bits BinOp.and IntKind.u32 (wz v.a) (wz v.b)) (bits BinOp.and IntKind.u32 (wz v.a) (wz v.c))) (bits BinOp.and IntKind.u32 (wz v.b) (wz v.c))) % (4294967296 : Int) = wz (tmpY v) := by
  rw [w_and, w_and, w_and, w_xor, w_xor, w_xor, w_xor, w_addm]
  rfl
/-- i bytes of the sum are there. -/
def halfB (s : Sv) (i : Nat) : List Int := (List.range i).map (outB s) ++ List.replicate (32 - i) 0
theorem halfB_set (s : Sv) {i : Nat} (hi : i < 32) : (halfB s i).set i (outB s i) = halfB s (i + 1) := by
  unfold halfB
  obtain ⟨k, hk⟩ : ∃ k, 32 - i = k + 1 := ⟨31 - i, by omega⟩
  rw [hk, show 32 - (i + 1) = k from by omega, List.replicate_succ, List.set_append_right _ _ (by simp), List.length_map, List.length_range, Nat.sub_self, List.set_cons_zero, List.range_succ, List.map_append, List.append_assoc]
  rfl
theorem byArr_set {W : World} {B : Nat} {t : TypeId} {L : List Int} (h : W.heap[B]? = some (.cells (byC L).toArray t)) (i : Nat) (x : Int) : (W.setCell ⟨B, i, none⟩ (.int .u8 x)).heap[B]? = some (.cells (byC (L.set i x)).toArray t) := by
  rw [heap_set h i (.int .u8 x)]
  have : (byC L).toArray.setIfInBounds i (.int .u8 x) = (byC (L.set i x)).toArray := by simp [byC, List.map_set]
  rw [this]
theorem half_sha (l : List Int) (h : l.length = 56) : halfB (stZ (l ++ tail56) 2) 32 = sha56 l := by
  have b0 : blkZ (l ++ tail56) 0 = l ++ tail56.take 8 := by
    unfold blkZ
    rw [Nat.mul_zero, List.drop_zero, List.take_append, h, List.take_of_length_le (by omega)]
  have b1 : blkZ (l ++ tail56) 1 = tail56.drop 8 := by
    unfold blkZ
    rw [Nat.mul_one, List.drop_append, h, List.drop_eq_nil_of_le (by omega), List.nil_append]
    rfl
  have e : stZ (l ++ tail56) 2 = compZ' ks0 (compZ' ks0 iv0 (l ++ tail56.take 8)) (tail56.drop 8) := by
    rw [show stZ (l ++ tail56) 2 = compZ' ks0 (compZ' ks0 iv0 (blkZ (l ++ tail56) 0)) (blkZ (l ++ tail56) 1) from rfl, b0, b1]
  rw [e]
  unfold halfB sha56
  rw [Nat.sub_self, List.replicate_zero, List.append_nil]
def OutI (s : Sv) (w : World) (B2 B3 B18 : Nat) (sv : Value) (wr : World) : Prop := ∃ i : Nat, i ≤ 32 ∧ sv = .int .i64 (i : Nat) ∧ wr.heap[B18]? = some (.cells (byC (halfB s i)).toArray 125) ∧ ArrW wr B3 146 s.toList ∧ wr.heap[B2]? = some (.cells (byC (List.replicate 32 0)).toArray 125) ∧ Below w.heap.size w wr
/-- The rounds of the reference: t of them are done. -/
def RdsI (ws : List (BitVec 32)) (s : Sv) (X2 : World) (a b c d e f g h i : Value) (wr : World) : Prop := ∃ t : Nat, t ≤ 64 ∧ i = .int .i64 (t : Nat) ∧ a = wv (roundsTo ks0 ws s t).a ∧ b = wv (roundsTo ks0 ws s t).b ∧ c = wv (roundsTo ks0 ws s t).c ∧ d = wv (roundsTo ks0 ws s t).d ∧ e = wv (roundsTo ks0 ws s t).e ∧ f = wv (roundsTo ks0 ws s t).f ∧ g = wv (roundsTo ks0 ws s t).g ∧ h = wv (roundsTo ks0 ws s t).h ∧ Below X2.heap.size X2 wr
set_option maxHeartbeats 20000000 in
theorem sumR_any (v : Value) (l : List Int) (w : World) (hl : BytR w v l) (h56 : l.length = 56) (hk : w.rangeAt 0 0 (u32C ks0)) :
    Calls Tryz.prog 96 #[v] w fun e w' => e = .returned (.agg (byC (sha56 l)).toArray) ∧ Below w.heap.size w w' := by
  have HPD := hidep (fun W (hW : Below w.heap.size w W) => padded_any v l W (hl.below hW) h56)
  obtain ⟨m, hm⟩ : ∃ m : List Int, m = l ++ tail56 := ⟨_, rfl⟩
  have hml : m.length = 128 := by rw [hm, List.length_append, h56]; rfl
  have hmr : ∀ x ∈ m, 0 ≤ x ∧ x < 256 := by
    intro x hx
    rw [hm] at hx
    rcases List.mem_append.1 hx with h | h
    · exact hl.2 x h
    · exact (show ∀ x ∈ tail56, 0 ≤ x ∧ x < 256 from by decide) x h
  rw [← hm] at HPD
  have HM := hidep hm
  have HK := hidep hk
  have HMR := hidep hmr
  clear hl hk hm hmr
  go_enter Tryz.func96, Tryz.ntmps96
  go_upto_region 2 with (first
    | (refine wpList_alloc_row (o := ⟨some 2, _, _, _, _, _⟩) zero_u8x32 _ rfl rfl ?_)
    | fail)
  refine wp_abs (fun X => X.heap[w.heap.size]? = some (.cells (byC (List.replicate 32 0)).toArray 125) ∧ ArrW X (w.heap.size + 1) 146 iv0.toList ∧ Below w.heap.size w X)
    ⟨allocs_get [.cells (byC (List.replicate 32 0)).toArray 125, .cells (u32C iv0.toList).toArray 146] w 0 _ rfl, allocs_get [.cells (byC (List.replicate 32 0)).toArray 125, .cells (u32C iv0.toList).toArray 146] w 1 _ rfl, ((Below.refl _ _).alloc (Nat.le_refl _) _).alloc (by simp) _⟩ ?_
  rintro X ⟨hq2, hq3, hbX⟩
  obtain ⟨B2, hB2⟩ : ∃ B2, B2 = w.heap.size := ⟨_, rfl⟩
  obtain ⟨B3, hB3⟩ : ∃ B3, B3 = w.heap.size + 1 := ⟨_, rfl⟩
  rw [← hB3] at hq3
  rw [← hB2] at hq2
  rw [← hB3, ← hB2]
  have HBB := hidep (show w.heap.size ≤ B2 ∧ w.heap.size ≤ B3 ∧ B2 ≠ B3 from by omega)
  clear hB2 hB3
  go_upto_region 4 with (first
    | (go_at_call 104; refine (HPD.out _ hbX).mono ?_; rintro e w1 ⟨a, c, rfl, hown, hb1⟩)
    | fail)
  have hq2 := below_push hb1 hq2
  have hq3 := hq3.below hb1
  have hrd := Rd.of_own hown
  have hb1 := hbX.trans (hb1.mono hbX.size)
  clear hown hbX
  refine wp_loop (LoopI 164 (fun tm ds wr => (slot tm 2) = .pointer (some ⟨B2, 0, none⟩) ∧ (slot tm 3) = .pointer (some ⟨B3, 0, none⟩) ∧ (slot tm 4) = .slice a 128 c ∧ ds = [] ∧ SumI m w B2 B3 a c (slot tm 5) wr)) (fun a' wr => 128 - (intOf (a'.tmps.getD 5 undef)).toNat) ?blocksStart ?blocksRound
  case' blocksStart => refine LoopI.mk rfl ?_
  case' blocksRound => (rintro ⟨t, ds⟩ wr ⟨hts, hrel⟩; dsimp only at hts hrel; rw [frame164 t ds hts])
  case blocksStart => exact ⟨rfl, rfl, rfl, rfl, 0, Nat.zero_le _, rfl, hq3, hq2, hrd, hb1⟩
  clear hq2 hq3 hrd hb1
  obtain ⟨h2, h3, h4, hds, k, hk, h5, hq3, hq2, hrd, hbw⟩ := hrel
  subst hds
  rw [h2, h3, h4, h5]
  clear h2 h3 h4 h5 hts
  obtain ⟨_, _, hcc, hc128, hcm⟩ := hrd.form
  injection hcc with hca _ hcc
  rw [← hcc] at hc128 hcm
  clear hca hcc
  unfold maxLen at hcm
  obtain ⟨b, off, rfl, hb, hcell⟩ := Rd.at hrd (by decide)
  by_cases hk2 : k < 2
  · have hki : ((64 * k : Nat) : Int) < 128 := by omega
    have hw64 : IntKind.i64.wrap (((64 * k : Nat) : Int) + 64) = ((64 * k + 64 : Nat) : Int) := by rw [IntWalk.i64_in _ (by omega)]; omega
    have hbl : (blkZ m k).length = 64 := by
      unfold blkZ
      rw [List.length_take, List.length_drop, hml]
      omega
    have hne : ¬ (64 * k + 64 = 64 * k) := by omega
    have hcne : ¬ c = 64 * k := by omega
    have hpart : BytR wr (.slice (some ⟨b, off + 64 * k, none⟩) 64 (c - 64 * k)) (blkZ m k) := by
      have h1 := Rd.part hrd (l := 64 * k) (hh := 64 * k + 64) (m := c) (by omega) (by omega) (by omega) (Nat.le_refl _)
      rw [if_neg hcne, show 64 * k + 64 - 64 * k = 64 by omega, Nat.mul_one, Nat.mul_one] at h1
      have e1 : (some (⟨b, off, none⟩ : Addr)).map (·.add (64 * k)) = some ⟨b, off + 64 * k, none⟩ := by
        simp [Addr.add]
      rw [e1] at h1
      have e2 : ((byC m).drop (64 * k)).take 64 = byC (blkZ m k) := by
        unfold byC blkZ
        rw [List.map_take, List.map_drop]
      rw [e2] at h1
      refine ⟨by rw [hbl]; exact h1.mono (fun _ _ => trivial), fun x hx => HMR.out x (List.mem_of_mem_drop (List.mem_of_mem_take hx))⟩
    have HWD := hidep (words_any _ _ wr hpart hbl)
    obtain ⟨ws, hws⟩ : ∃ ws, ws = schedTo (blkZ m k) 64 := ⟨_, rfl⟩
    have hwl : ws.length = 64 := by rw [hws]; exact schedTo_len _ 64
    rw [← hws] at HWD
    have HWS := hidep hws
    have HI := hidep (show (Tryz.prog.info? 161).map (·.size) = some (u32C ws).toArray.size from by rw [List.size_toArray, u32C_len, hwl]; exact row_u32x64.2)
    have HSZ := hidep (show (u32C (List.replicate 64 0)).toArray.size = (u32C ws).toArray.size from by rw [List.size_toArray, List.size_toArray, u32C_len, u32C_len, hwl, List.length_replicate])
    have HONE := hidep (all_oneCell_toArray (u32C_one ws))
    clear hws hpart hbl hne
    go_upto_region 7 with (first
      | (go_at_call 105; refine HWD.out.mono ?_; rintro e w2 ⟨rfl, hb2⟩)
      | (refine wpList_alloc_row (o := ⟨some 6, _, _, _, _, _⟩) zero_u32x64 _ rfl rfl ?_)
      | (refine wpList_store_last (o := ⟨none, _, _, _, _, _⟩) _ HI.out HSZ.out HONE.out rfl _ _ rfl rfl rfl ?_)
      | fail)
    refine wp_abs (fun X => ArrW X w2.heap.size 161 ws ∧ ArrW X B3 146 (stZ m k).toList ∧ X.heap[B2]? = some (.cells (byC (List.replicate 32 0)).toArray 125) ∧ Rd X (· = 5) 1 (.slice (some ⟨b, off, none⟩) 128 c) 128 (byC m) ∧ Below w.heap.size w X)
      ⟨heap_alloc_new _ _, (hq3.below hb2).below ((Below.refl _ _).alloc (Nat.le_refl _) _), below_push ((Below.refl _ _).alloc (Nat.le_refl _) _) (below_push hb2 hq2), Rd.below (Rd.below hrd hb2) ((Below.refl _ _).alloc (Nat.le_refl _) _), (hbw.trans (hb2.mono hbw.size)).alloc (Nat.le_trans hbw.size hb2.size) _⟩ ?_
    have hl3 := lt_of_block (hq3.below hb2)
    have hl2 := lt_of_block (below_push hb2 hq2)
    obtain ⟨B6, hB6⟩ : ∃ B6, B6 = w2.heap.size := ⟨_, rfl⟩
    rw [← hB6]
    have HB6 := hidep (show B2 ≠ B6 ∧ B3 ≠ B6 from by omega)
    clear hB6 hl2 hl3 hq2 hq3 hrd hbw hb2 hcell hb
    rintro X2 ⟨hq6, hq3, hq2, hrd, hbw⟩
    refine wp_cutA 164 (fun tm ds => ds = [] ∧ slot tm 2 = .pointer (some ⟨B2, 0, none⟩) ∧ slot tm 3 = .pointer (some ⟨B3, 0, none⟩) ∧ slot tm 4 = .slice (some ⟨b, off, none⟩) 128 c ∧ slot tm 5 = .int .i64 ((64 * k : Nat) : Int) ∧ slot tm 6 = .pointer (some ⟨B6, 0, none⟩)) (by kernel_rfl) (by exact ⟨by kernel_rfl, by kernel_rfl, by kernel_rfl, by kernel_rfl, by kernel_rfl, by kernel_rfl⟩) ?_
    rintro t0 ds0 h164 ⟨rfl, e2, e3, e4, e5, e6⟩
    rw [frame164 t0 [] h164, e2, e3, e4, e5, e6]
    clear h164 e2 e3 e4 e5 e6
    obtain ⟨s, hs⟩ : ∃ s, s = stZ m k := ⟨_, rfl⟩
    rw [← hs] at hq3
    have HSV := hidep hs
    clear hs
    have y0 := hq3.get (i := 0) (by show 0 < 8; decide)
    have y1 := hq3.get (i := 1) (by show 1 < 8; decide)
    have y2 := hq3.get (i := 2) (by show 2 < 8; decide)
    have y3 := hq3.get (i := 3) (by show 3 < 8; decide)
    have y4 := hq3.get (i := 4) (by show 4 < 8; decide)
    have y5 := hq3.get (i := 5) (by show 5 < 8; decide)
    have y6 := hq3.get (i := 6) (by show 6 < 8; decide)
    have y7 := hq3.get (i := 7) (by show 7 < 8; decide)
    simp only [Sv.toList, List.getD_cons_zero, List.getD_cons_succ] at y0 y1 y2 y3 y4 y5 y6 y7
    have HQ := hidep (And.intro hq6 (And.intro hq3 (And.intro hq2 (And.intro hrd hbw))))
    have hbx := Below.refl X2.heap.size X2
    clear hq6 hq3 hq2 hrd hbw
    go_upto_region 7 with (fail)
    go_quiet (fail)
    apply_assumption
    refine wp_abs (fun X => Below X2.heap.size X2 X) (by first | exact below_drewN hbx _ | exact hbx) ?_
    clear y0 y1 y2 y3 y4 y5 y6 y7 hbx
    rintro X3 hbx
    go_upto_region 9 with (fail)
    refine wp_loop (LoopI 164 (fun tm ds wr => (slot tm 2) = .pointer (some ⟨B2, 0, none⟩) ∧ (slot tm 3) = .pointer (some ⟨B3, 0, none⟩) ∧ (slot tm 4) = .slice (some ⟨b, off, none⟩) 128 c ∧ (slot tm 5) = .int .i64 ((64 * k : Nat) : Int) ∧ (slot tm 6) = .pointer (some ⟨B6, 0, none⟩) ∧ ds = [] ∧ RdsI ws s X2 (slot tm 7) (slot tm 8) (slot tm 9) (slot tm 10) (slot tm 11) (slot tm 12) (slot tm 13) (slot tm 14) (slot tm 15) wr)) (fun a' wr => 64 - (intOf (a'.tmps.getD 15 undef)).toNat) ?roundsStart ?roundsRound
    case' roundsStart => refine LoopI.mk rfl ?_
    case' roundsRound => (rintro ⟨t, ds⟩ wr ⟨hts, hrel⟩; dsimp only at hts hrel; rw [frame164 t ds hts])
    case roundsStart => exact ⟨rfl, rfl, rfl, rfl, rfl, rfl, 0, Nat.zero_le _, rfl, rfl, rfl, rfl, rfl, rfl, rfl, rfl, rfl, hbx⟩
    clear hbx
    obtain ⟨h2, h3, h4, h5, h6, hds, t', ht, h15, h7, h8, h9, h10, h11, h12, h13, h14, hbx⟩ := hrel
    subst hds
    obtain ⟨v, hv⟩ : ∃ v, v = roundsTo ks0 ws s t' := ⟨_, rfl⟩
    rw [← hv] at h7 h8 h9 h10 h11 h12 h13 h14
    rw [h2, h3, h4, h5, h6, h7, h8, h9, h10, h11, h12, h13, h14, h15]
    unfold wv
    clear h2 h3 h4 h5 h6 h7 h8 h9 h10 h11 h12 h13 h14 h15 hts
    by_cases hlt : t' < 64
    · have hlti : (t' : Int) < 64 := by omega
      obtain ⟨kt, hkt⟩ : ∃ k, k = ks0.getD t' 0 := ⟨_, rfl⟩
      obtain ⟨wt, hwt⟩ : ∃ k, k = ws.getD t' 0 := ⟨_, rfl⟩
      have HV := hidep (show roundsTo ks0 ws s (t' + 1) = roundZ v kt wt from by rw [hv, hkt, hwt]; rfl)
      have hc6 : wr.cell? ⟨B6, t', none⟩ = some (.int .u32 (wz wt)) := by
        rw [hwt]
        exact (HQ.out.1.below hbx).get (by omega)
      have hck : wr.cell? ⟨0, t', none⟩ = some (.int .u32 (wz kt)) := by
        have h0 := HK.out t' (.int .u32 (wz kt)) (by rw [hkt]; simp [u32C, List.getD, show t' < ks0.length from hlt])
        rw [Nat.zero_add] at h0
        have hlt0 : (0 : Nat) < w.heap.size := by
          by_cases h : (0 : Nat) < w.heap.size
          · exact h
          · have : w.heap[(0 : Nat)]? = none := Array.getElem?_eq_none (by omega)
            simp [World.cell?, this] at h0
        exact ((HQ.out.2.2.2.2.trans (hbx.mono HQ.out.2.2.2.2.size)).cell (p := ⟨0, t', none⟩) hlt0).trans h0
      clear hv hkt hwt
      have HA := hidep (show ∀ W, Calls Tryz.prog 106 #[.int .u32 (wz v.e), .int .i64 6] W fun e w' => e = .returned (.int .u32 (wz (rotr v.e 6))) ∧ ∃ d, w' = W.drewN d from fun W => rotr_any v.e 6 (by omega) (by omega) W)
      have HB := hidep (show ∀ W, Calls Tryz.prog 106 #[.int .u32 (wz v.e), .int .i64 11] W fun e w' => e = .returned (.int .u32 (wz (rotr v.e 11))) ∧ ∃ d, w' = W.drewN d from fun W => rotr_any v.e 11 (by omega) (by omega) W)
      have HC := hidep (show ∀ W, Calls Tryz.prog 106 #[.int .u32 (wz v.e), .int .i64 25] W fun e w' => e = .returned (.int .u32 (wz (rotr v.e 25))) ∧ ∃ d, w' = W.drewN d from fun W => rotr_any v.e 25 (by omega) (by omega) W)
      have HD := hidep (show ∀ W, Calls Tryz.prog 106 #[.int .u32 (wz v.a), .int .i64 2] W fun e w' => e = .returned (.int .u32 (wz (rotr v.a 2))) ∧ ∃ d, w' = W.drewN d from fun W => rotr_any v.a 2 (by omega) (by omega) W)
      have HE := hidep (show ∀ W, Calls Tryz.prog 106 #[.int .u32 (wz v.a), .int .i64 13] W fun e w' => e = .returned (.int .u32 (wz (rotr v.a 13))) ∧ ∃ d, w' = W.drewN d from fun W => rotr_any v.a 13 (by omega) (by omega) W)
      have HF := hidep (show ∀ W, Calls Tryz.prog 106 #[.int .u32 (wz v.a), .int .i64 22] W fun e w' => e = .returned (.int .u32 (wz (rotr v.a 22))) ∧ ∃ d, w' = W.drewN d from fun W => rotr_any v.a 22 (by omega) (by omega) W)
      go_upto_region 11 with (fail)
      go_quiet ((go_at_call 106; first | ((with_reducible refine (HA.out _).mono ?_); rintro e w' ⟨rfl, d, rfl⟩; exact ⟨rfl, _, World.drewN_drewN ..⟩) | ((with_reducible refine (HB.out _).mono ?_); rintro e w' ⟨rfl, d, rfl⟩; exact ⟨rfl, _, World.drewN_drewN ..⟩) | ((with_reducible refine (HC.out _).mono ?_); rintro e w' ⟨rfl, d, rfl⟩; exact ⟨rfl, _, World.drewN_drewN ..⟩)))
      apply_assumption
      refine wp_abs (fun X => Below X2.heap.size X2 X) (by first | exact below_drewN hbx _ | exact below_drewN (below_drewN hbx _) _ | exact hbx) ?_
      clear hbx hc6 hck
      rintro X4 hbx
      rw [xr_eq]
      go_upto_region 13 with (first
        | (go_at_call 106; first | ((with_reducible refine (HD.out _).mono ?_); rintro e w' ⟨rfl, d, rfl⟩) | ((with_reducible refine (HE.out _).mono ?_); rintro e w' ⟨rfl, d, rfl⟩) | ((with_reducible refine (HF.out _).mono ?_); rintro e w' ⟨rfl, d, rfl⟩))
        | fail)
      rw [yr_eq]
      obtain ⟨x, hx⟩ : ∃ x, x = tmpX v kt wt := ⟨_, rfl⟩
      obtain ⟨y, hy⟩ : ∃ y, y = tmpY v := ⟨_, rfl⟩
      rw [← hx, ← hy]
      have HV2 := hidep (show roundsTo ks0 ws s (t' + 1) = ⟨x + y, v.a, v.b, v.c, v.d + x, v.e, v.f, v.g⟩ from by rw [HV.out, hx, hy]; rfl)
      have s1 : (wz v.d + wz x) % (4294967296 : Int) = wz (v.d + x) := w_addm _ _
      have s2 : (wz x + wz y) % (4294967296 : Int) = wz (x + y) := w_addm _ _
      clear hx hy HV HA HB HC HD HE HF
      refine wp_abs (fun X => Below X2.heap.size X2 X) (by first | exact below_drewN (below_drewN (below_drewN hbx _) _) _ | exact below_drewN hbx _ | exact below_drewN (below_drewN hbx _) _ | exact hbx) ?_
      clear hbx
      rintro X5 hbx
      go_wp2
      refine ⟨LoopI.mk rfl ⟨rfl, rfl, rfl, rfl, rfl, rfl, t' + 1, by omega, by show Value.int _ _ = _; go_num, by rw [HV2.out]; rfl, by rw [HV2.out]; rfl, by rw [HV2.out]; rfl, by rw [HV2.out]; rfl, by rw [HV2.out]; rfl, by rw [HV2.out]; rfl, by rw [HV2.out]; rfl, by rw [HV2.out]; rfl, hbx⟩, ?_⟩
      show 64 - _ < 64 - _
      simp [intOf]; omega
    · have hlti : ¬ (t' : Int) < 64 := by omega
      have ht64 : t' = 64 := by omega
      have HV := hidep (show v = roundsTo ks0 ws s 64 from by rw [hv, ht64])
      clear hv
      subst ht64
      have hq3 := HQ.out.2.1.below hbx
      have hq2 := below_push hbx HQ.out.2.2.1
      have hrd := Rd.below HQ.out.2.2.2.1 hbx
      have hbw := HQ.out.2.2.2.2.trans (hbx.mono HQ.out.2.2.2.2.size)
      go_upto_region 21 with (fail)
      have y0 := hq3.get (i := 0) (by show 0 < 8; decide)
      have f0 := hq3.free 0
      have s0 : (wz s.a + wz v.a) % (4294967296 : Int) = wz (s.a + v.a) := w_addm _ _
      have y1 := hq3.get (i := 1) (by show 1 < 8; decide)
      have f1 := hq3.free 1
      have s1 : (wz s.b + wz v.b) % (4294967296 : Int) = wz (s.b + v.b) := w_addm _ _
      have y2 := hq3.get (i := 2) (by show 2 < 8; decide)
      have f2 := hq3.free 2
      have s2 : (wz s.c + wz v.c) % (4294967296 : Int) = wz (s.c + v.c) := w_addm _ _
      have y3 := hq3.get (i := 3) (by show 3 < 8; decide)
      have f3 := hq3.free 3
      have s3 : (wz s.d + wz v.d) % (4294967296 : Int) = wz (s.d + v.d) := w_addm _ _
      have y4 := hq3.get (i := 4) (by show 4 < 8; decide)
      have f4 := hq3.free 4
      have s4 : (wz s.e + wz v.e) % (4294967296 : Int) = wz (s.e + v.e) := w_addm _ _
      have y5 := hq3.get (i := 5) (by show 5 < 8; decide)
      have f5 := hq3.free 5
      have s5 : (wz s.f + wz v.f) % (4294967296 : Int) = wz (s.f + v.f) := w_addm _ _
      have y6 := hq3.get (i := 6) (by show 6 < 8; decide)
      have f6 := hq3.free 6
      have s6 : (wz s.g + wz v.g) % (4294967296 : Int) = wz (s.g + v.g) := w_addm _ _
      have y7 := hq3.get (i := 7) (by show 7 < 8; decide)
      have f7 := hq3.free 7
      have s7 : (wz s.h + wz v.h) % (4294967296 : Int) = wz (s.h + v.h) := w_addm _ _
      simp only [Sv.toList, List.getD_cons_zero, List.getD_cons_succ] at y0 y1 y2 y3 y4 y5 y6 y7
      obtain ⟨hE, hT⟩ := eight_set (show wr.heap[B3]? = some (.cells #[.int .u32 (wz s.a), .int .u32 (wz s.b), .int .u32 (wz s.c), .int .u32 (wz s.d), .int .u32 (wz s.e), .int .u32 (wz s.f), .int .u32 (wz s.g), .int .u32 (wz s.h)] 146) from hq3) (.int .u32 (wz (s.a + v.a))) (.int .u32 (wz (s.b + v.b))) (.int .u32 (wz (s.c + v.c))) (.int .u32 (wz (s.d + v.d))) (.int .u32 (wz (s.e + v.e))) (.int .u32 (wz (s.f + v.f))) (.int .u32 (wz (s.g + v.g))) (.int .u32 (wz (s.h + v.h)))
      have HFIN := hidep (And.intro (show ArrW _ B3 146 (addS s v).toList from hE) (And.intro (hT.cells hq2 HBB.out.2.2) (And.intro (hrd.keeps (keeps_turned hT hq3 (fun u hu => by rw [hu]; decide))) (below_turned hbw hT HBB.out.2.1 hbw.size))))
      have HAS := hidep (show addS s v = stZ m (k + 1) from by
        rw [show stZ m (k + 1) = compZ' ks0 (stZ m k) (blkZ m k) from rfl, ← HSV.out]
        unfold compZ'
        rw [← HWS.out, ← HV.out])
      clear hE hT hq3 hq2 hrd hbw hbx
      go_wp2
      refine ⟨LoopI.mk rfl ⟨rfl, rfl, rfl, rfl, k + 1, by omega, by show Value.int _ _ = Value.int _ _; congr 1, by rw [← HAS.out]; exact HFIN.out.1, HFIN.out.2.1, HFIN.out.2.2.1, HFIN.out.2.2.2⟩, ?_⟩
      show 128 - _ < 128 - _
      simp [intOf]; omega
  · have hki : ¬ ((64 * k : Nat) : Int) < 128 := by omega
    have hk3 : k = 2 := by omega
    obtain ⟨s, hs⟩ : ∃ s, s = stZ m k := ⟨_, rfl⟩
    rw [← hs] at hq3
    have HS := hidep (show s = stZ m 2 from by rw [hs, hk3])
    clear hs
    subst hk3
    go_upto_region 23 with (first
      | (refine wpList_alloc_row (o := ⟨some 18, _, _, _, _, _⟩) zero_u8x32 _ rfl rfl ?_)
      | fail)
    refine wp_abs (fun X => X.heap[wr.heap.size]? = some (.cells (byC (halfB s 0)).toArray 125) ∧ ArrW X B3 146 s.toList ∧ X.heap[B2]? = some (.cells (byC (List.replicate 32 0)).toArray 125) ∧ Below w.heap.size w X)
      ⟨heap_alloc_new _ _, hq3.below ((Below.refl _ _).alloc (Nat.le_refl _) _), below_push ((Below.refl _ _).alloc (Nat.le_refl _) _) hq2, hbw.alloc hbw.size _⟩ ?_
    have hl3 := lt_of_block hq3
    have hl2 := lt_of_block hq2
    have hsw := hbw.size
    obtain ⟨B18, hB18⟩ : ∃ B18, B18 = wr.heap.size := ⟨_, rfl⟩
    rw [← hB18]
    have HB18 := hidep (show B2 ≠ B18 ∧ B3 ≠ B18 ∧ w.heap.size ≤ B18 from by omega)
    clear hB18 hl2 hl3 hsw hq3 hq2 hrd hbw hcell hb
    rintro X2 ⟨hq18, hq3, hq2, hbw⟩
    refine wp_cutA 164 (fun tm ds => ds = [] ∧ slot tm 2 = .pointer (some ⟨B2, 0, none⟩) ∧ slot tm 3 = .pointer (some ⟨B3, 0, none⟩) ∧ slot tm 18 = .pointer (some ⟨B18, 0, none⟩)) (by kernel_rfl) (by exact ⟨by kernel_rfl, by kernel_rfl, by kernel_rfl, by kernel_rfl⟩) ?_
    rintro t0 ds0 h164 ⟨rfl, e2, e3, e18⟩
    rw [frame164 t0 [] h164, e2, e3, e18]
    clear h164 e2 e3 e18
    go_upto_region 24 with (fail)
    refine wp_loop (LoopI 164 (fun tm ds wr => (slot tm 2) = .pointer (some ⟨B2, 0, none⟩) ∧ (slot tm 3) = .pointer (some ⟨B3, 0, none⟩) ∧ (slot tm 18) = .pointer (some ⟨B18, 0, none⟩) ∧ ds = [] ∧ OutI s w B2 B3 B18 (slot tm 19) wr)) (fun a' wr => 32 - (intOf (a'.tmps.getD 19 undef)).toNat) ?outsStart ?outsRound
    case' outsStart => refine LoopI.mk rfl ?_
    case' outsRound => (rintro ⟨t, ds⟩ wr ⟨hts, hrel⟩; dsimp only at hts hrel; rw [frame164 t ds hts])
    case outsStart => exact ⟨rfl, rfl, rfl, rfl, 0, Nat.zero_le _, rfl, hq18, hq3, hq2, hbw⟩
    clear hq18 hq3 hq2 hbw
    obtain ⟨h2, h3, h18, hds, i, hi, h19, hq18, hq3, hq2, hbw⟩ := hrel
    subst hds
    rw [h2, h3, h18, h19]
    clear h2 h3 h18 h19 hts
    by_cases hi32 : i < 32
    · have hii : (i : Int) < 32 := by omega
      obtain ⟨q, hq⟩ : ∃ q : Nat, q = i / 4 := ⟨_, rfl⟩
      obtain ⟨r, hr⟩ : ∃ r : Nat, r = i % 4 := ⟨_, rfl⟩
      have hqi : (i : Int) / 4 = (q : Int) := by omega
      have hri : (i : Int) % 4 = (r : Int) := by omega
      have hqt : Int.tdiv (i : Int) 4 = (q : Int) := by rw [Int.tdiv_eq_ediv_of_nonneg (by omega)]; exact hqi
      have hrt : Int.tmod (i : Int) 4 = (r : Int) := by rw [Int.tmod_eq_emod_of_nonneg (by omega)]; exact hri
      have hq8 : (q : Int) < 8 := by omega
      have hr4 : r < 4 := by omega
      have hw8 : IntKind.i64.wrap (8 * (r : Int)) = ((8 * r : Nat) : Int) := by rw [IntWalk.i64_in _ (by omega)]; omega
      have hw24 : IntKind.i64.wrap (24 - ((8 * r : Nat) : Int)) = ((24 - 8 * r : Nat) : Int) := by rw [IntWalk.i64_in _ (by omega)]; omega
      have hmin : min (24 - 8 * r) 32 = 24 - 8 * r := by omega
      have y0 := hq3.get (i := q) (by show q < 8; omega)
      obtain ⟨sw, hsw⟩ : ∃ x, x = s.toList.getD q 0 := ⟨_, rfl⟩
      rw [← hsw] at y0
      have HQR := hidep (And.intro hq (And.intro hr hsw))
      clear hq hr hsw hqi hri
      have hdz : ¬ ((4 : Int) = 0) := by decide
      have hhl : (halfB s i).length = 32 := by simp [halfB]; omega
      have y18 : wr.cell? ⟨B18, i, none⟩ = some (.int .u8 ((halfB s i).getD i 0)) := by
        have e := byC_get (halfB s i) i (by omega)
        simp only [World.cell?, hq18]
        simpa using e
      have f18 := box_frozen hq18 i
      have hov : outB s i = wz sw / 2 ^ (24 - 8 * r) % 256 := by
        rw [w_shrm, HQR.out.2.2, HQR.out.1, HQR.out.2.1]
        rfl
      have hq18n := byArr_set hq18 i (outB s i)
      rw [halfB_set s hi32, hov] at hq18n
      have HN := hidep (And.intro hq18n (And.intro (hq3.other (o := i) HB18.out.2.1 (.int .u8 (wz sw / 2 ^ (24 - 8 * r) % 256))) (And.intro ((Below.heap_setCell wr ⟨B18, i, none⟩ (.int .u8 (wz sw / 2 ^ (24 - 8 * r) % 256)) B2 HB18.out.1).trans hq2) (below_set hbw ⟨B18, i, none⟩ (.int .u8 (wz sw / 2 ^ (24 - 8 * r) % 256)) HB18.out.2.2))))
      clear hq18n hov hhl hq18 hq3 hq2 hbw
      go_wp2
      refine ⟨LoopI.mk rfl ⟨rfl, rfl, rfl, rfl, i + 1, by omega, by show Value.int _ _ = _; go_num, HN.out.1, HN.out.2.1, HN.out.2.2.1, HN.out.2.2.2⟩, ?_⟩
      show 32 - _ < 32 - _
      simp [intOf]; omega
    · have hii : ¬ (i : Int) < 32 := by omega
      have hi3 : i = 32 := by omega
      have e32 : halfB s i = sha56 l := by
        rw [hi3, HS.out, HM.out]
        exact half_sha l h56
      rw [e32] at hq18
      obtain ⟨o, ho⟩ : ∃ o, o = sha56 l := ⟨_, rfl⟩
      have hol : o.length = 32 := by rw [ho]; simp [sha56]
      rw [← ho] at hq18
      have HOO := hidep ho
      obtain ⟨W2, hW2⟩ : ∃ W2, W2 = wr.setCells B2 0 (byC o) := ⟨_, rfl⟩
      have hbo : (byC o).length = 32 := by simp [byC, hol]
      have HL := hidep (show wr.rangeAt B18 0 (byC o) from range_of_arr hq18)
      have HTH := hidep (show wr.there B2 0 (byC o).toArray.size from there_of_arr hq2 (by simp [byC, hol]))
      have HI8 := hidep (show (Tryz.prog.info? 125).map (·.size) = some (byC o).toArray.size ∧ (Tryz.prog.info? 125).map (·.size) = some (byC o).length from ⟨by rw [List.size_toArray, hbo]; exact row_u8x32.2, by rw [hbo]; exact row_u8x32.2⟩)
      have HONE8 := hidep (all_oneCell_toArray (byC_one o))
      have HEND := hidep (show W2.rangeAt B2 0 (byC o) ∧ Below w.heap.size w W2 from by
        rw [hW2]
        refine ⟨World.rangeAt_setCells_same _ _ _ _ ?_, below_setCells B2 HBB.out.1 _ _ _ hbw⟩
        have := HTH.out
        rwa [List.size_toArray] at this)
      have HW2 := hidep hW2
      clear hq2 hq18 hq3 hbw hW2 e32 hol hbo ho
      go_upto_region 27 with (fail)
      refine wp_region_lit ?_
      refine wpList_load_mid (op := ⟨some 163, _, _, _, _, _⟩) rfl 125 _ rfl B18 0 rfl _ _ HL.out row_u8x32.1.choose_spec.1 row_u8x32.1.choose_spec.2 HI8.out.2 ?_
      refine wpList_store_to (op := ⟨none, _, _, _, _, _⟩) rfl 125 _ _ rfl B2 0 (byC o).toArray rfl rfl HTH.out HI8.out.1 HONE8.out W2 HW2.out.symm ?_
      go_wp2
      refine bodyPost_ret (results_cell1 rfl _ _ _ rfl (run_loadVar_mid (P := Tryz.prog) W2 B2 0 125 (byC o) _ HEND.out.1 row_u8x32.1.choose_spec.1 row_u8x32.1.choose_spec.2 HI8.out.2)) rfl ?_
      exact ⟨by rw [HOO.out], HEND.out.2⟩
end Go.Proofs.YtipbkdlekanlmaaGreatDoor
/- Journal: the code's streams: Begin, Add, Sum. -/
namespace Go.Proofs.YtipbkdlekanlmaaGreatDoor
open Go.RowKit Go.Lab
attribute [local go_sem] Oper.semAt_some
set_option maxRecDepth 100000
/-- The cells of a stream: the state, the bytes of the block, the length. -/
def strC (s : Sv) (bl : List Int) (n : Int) : List Value := u32C s.toList ++ byC bl ++ [.int .u64 n]
theorem zero_stream (w : World) : (zeroValue 148).run Tryz.prog w = .ok (.agg (strC ⟨0, 0, 0, 0, 0, 0, 0, 0⟩ (List.replicate 64 0) 0).toArray) w := by kernel_rfl
theorem row_stream : (∃ d, Tryz.prog.underlying 148 = some d ∧ d.isRow = true) ∧ (Tryz.prog.info? 148).map (·.size) = some 73 := ⟨under_row (by kernel_rfl), by kernel_rfl⟩
theorem strC_one (s : Sv) (bl : List Int) (n : Int) : ∀ u ∈ strC s bl n, u.oneCell' = true := by
  intro u hu
  rcases List.mem_append.1 hu with h | h
  · rcases List.mem_append.1 h with h | h
    · exact u32C_one _ u h
    · exact byC_one _ u h
  · simp at h
    subst h
    rfl
theorem strC_len (s : Sv) (bl : List Int) (n : Int) (h : bl.length = 64) : (strC s bl n).length = 73 := by
  simp [strC, u32C, byC, Sv.toList, h]
set_option maxHeartbeats 8000000 in
theorem begin_any (w : World) : Calls Tryz.prog 92 #[] w fun e w' => e = .returned (.agg (strC iv0 (List.replicate 64 0) 0).toArray) ∧ Below w.heap.size w w' := by
  have hb0 := (Below.refl w.heap.size w).alloc (Nat.le_refl _) (.cells (strC iv0 (List.replicate 64 0) 0).toArray 148)
  have HB := hidep hb0
  have HI := hidep (show (Tryz.prog.info? 148).map (·.size) = some (strC iv0 (List.replicate 64 0) 0).toArray.size from by rw [List.size_toArray, strC_len _ _ _ (by simp)]; exact row_stream.2)
  have HSZ := hidep (show (strC ⟨0, 0, 0, 0, 0, 0, 0, 0⟩ (List.replicate 64 0) 0).toArray.size = (strC iv0 (List.replicate 64 0) 0).toArray.size from by rw [List.size_toArray, List.size_toArray, strC_len _ _ _ (by simp), strC_len _ _ _ (by simp)])
  have HONE := hidep (all_oneCell_toArray (strC_one iv0 (List.replicate 64 0) 0))
  clear hb0
  go_enter Tryz.func92, Tryz.ntmps92
  go_upto_region 1 with (first
    | (refine wpList_alloc_row (o := ⟨some 0, _, _, _, _, _⟩) zero_stream _ rfl rfl ?_)
    | fail)
  go_wp2_with (first
    | (refine wpList_store_last (o := ⟨none, _, _, _, _, _⟩) (c' := (strC iv0 (List.replicate 64 0) 0).toArray) _ HI.out HSZ.out HONE.out rfl _ _ rfl rfl rfl ?_)
    | fail)
  refine bodyPost_ret (results_cell1 rfl _ _ _ rfl (run_loadVar_mid (P := Tryz.prog) (w.alloc (.cells (strC iv0 (List.replicate 64 0) 0).toArray 148)) w.heap.size 0 148 (strC iv0 (List.replicate 64 0) 0) _ (range_of_arr (heap_alloc_new _ _)) row_stream.1.choose_spec.1 row_stream.1.choose_spec.2 (by rw [strC_len _ _ _ (by simp)]; exact row_stream.2))) rfl ?_
  exact ⟨rfl, HB.out⟩
end Go.Proofs.YtipbkdlekanlmaaGreatDoor
/- Journal: a whole row loaded or stored as one operation of a region that draws its order (an arm of genreg, '!'). -/
namespace Go.Proofs.YtipbkdlekanlmaaGreatDoor
open Go.RowKit Go.Lab
theorem step_load_mid {P : Program} {ops : Array Oper} {o : Oper} {a : Act} {w : World} {K : Act → World → Prop} {Q : Exit → Act → World → Prop} {E : Prop} (hg : o.guard = none) (ty : TypeId) (x : Operand) (ho : o.op = .load ty x)
    (b off : Nat) (hx : a.eval x = .pointer (some ⟨b, off, none⟩)) (cs : List Value) (d : TypeDesc) (hc : w.rangeAt b off cs) (hu : P.underlying ty = some d) (hd : d.isRow = true) (hi : (P.info? ty).map (·.size) = some cs.length)
    (h : K (a.put o.dst (.agg cs.toArray)) w) : if Region.wanted o (yielded ops a.tmps) = true then Oper.wp P o a w K Q else E := by
  have hw : Region.wanted o (yielded ops a.tmps) = true := by simp [Region.wanted, hg]
  rw [if_pos hw]
  exact wp_load_mid ty x ho b off hx cs d hc hu hd hi h
theorem step_store_mid {P : Program} {ops : Array Oper} {o : Oper} {a : Act} {w : World} {K : Act → World → Prop} {Q : Exit → Act → World → Prop} {E : Prop} (hg : o.guard = none) (ty : TypeId) (x y : Operand) (ho : o.op = .store ty x y)
    (b off : Nat) (cells : Array Value) (hx : a.eval x = .pointer (some ⟨b, off, none⟩)) (hy : a.eval y = .agg cells) (ht : w.there b off cells.size) (hi : (P.info? ty).map (·.size) = some cells.size) (h1 : cells.all (·.oneCell') = true) (W2 : World) (hW : w.setCells b off cells.toList = W2)
    (h : K (a.put o.dst undef) W2) : if Region.wanted o (yielded ops a.tmps) = true then Oper.wp P o a w K Q else E := by
  have hw : Region.wanted o (yielded ops a.tmps) = true := by simp [Region.wanted, hg]
  rw [if_pos hw]
  subst hW
  exact wp_store_mid ty x y ho b off cells hx hy ht hi h1 h
theorem turned_setCells {T : Nat → Prop} {a : World} (b : Nat) (hb : T b) : ∀ (vs : List Value) (o : Nat) (w : World), Turned T a w → Turned T a (w.setCells b o vs)
  | [], _, _, h => h
  | v :: r, o, _, h => turned_setCells b hb r (o + 1) _ (h.setCell ⟨b, o, none⟩ v (.inr hb))
theorem there_at {W : World} {b o n : Nat} {cs : Array Value} {t : TypeId} (h : W.heap[b]? = some (.cells cs t)) (hn : o + n ≤ cs.size) : W.there b o n := fun j hj => by
  constructor
  · have : o + j < cs.size := by omega
    simp [World.cell?, h, this]
  · simp [World.frozen?, h]
end Go.Proofs.YtipbkdlekanlmaaGreatDoor
