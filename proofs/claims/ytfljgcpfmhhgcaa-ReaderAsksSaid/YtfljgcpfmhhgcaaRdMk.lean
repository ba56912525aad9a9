/- The maker of examinations: blocks. -/
import Derived.Test.YtfljgcpfmhhgcaaRdMh
import Derived.Deep.MidRow
namespace Go.Proofs.Ytfljgcpfmhhgcaa
open Go.RowKit Go.Lab
attribute [local go_sem] Oper.semAt_some
set_option maxRecDepth 100000
/-- The cells of a block. -/
def blkC (k e0 e1 s0 f0 f1 : Int) (r e2 s1 g f2 m l : Value) : Array Value := #[.int .i64 k, r, .int .i64 e0, .int .i64 e1, e2, .int .i64 s0, s1, g, .int .i64 f0, .int .i64 f1, f2, m, l]
/-- A block that Fact can be asked about. -/
def BlockV (w : World) (P : Nat) (v : Value) : Prop := ∃ (k e0 e1 s0 f0 f1 : Int) (ra ea sa ga fa ma ia : Option Addr) (rn rc en ec sn sc gn gc fn fc mn mc ln lc : Nat), v = .agg (blkC k e0 e1 s0 f0 f1 (.slice ra rn rc) (.slice ea en ec) (.slice sa sn sc) (.slice ga gn gc) (.slice fa fn fc) (.slice ma mn mc) (.slice ia ln lc)) ∧
  (k = 4 → 2 ≤ fn) ∧ (k = 3 → 0 < gn ∧ FirstIs w P ga) ∧ (k = 5 → 0 < mn ∧ FirstIs w P ma)
theorem blk_cells {w : World} {b : Nat} {x0 x1 x2 x3 x4 x5 x6 x7 x8 x9 x10 x11 x12 : Value} {t : TypeId} {fz : Nat × Nat} (h : w.heap[b]? = some (.cells #[x0, x1, x2, x3, x4, x5, x6, x7, x8, x9, x10, x11, x12] t fz)) :
    w.cell? ⟨b, 0, none⟩ = some x0 ∧ w.cell? ⟨b, 1, none⟩ = some x1 ∧ w.cell? ⟨b, 2, none⟩ = some x2 ∧ w.cell? ⟨b, 3, none⟩ = some x3 ∧ w.cell? ⟨b, 4, none⟩ = some x4 ∧ w.cell? ⟨b, 5, none⟩ = some x5 ∧ w.cell? ⟨b, 6, none⟩ = some x6 ∧ w.cell? ⟨b, 7, none⟩ = some x7 ∧ w.cell? ⟨b, 8, none⟩ = some x8 ∧ w.cell? ⟨b, 9, none⟩ = some x9 ∧ w.cell? ⟨b, 10, none⟩ = some x10 ∧ w.cell? ⟨b, 11, none⟩ = some x11 ∧ w.cell? ⟨b, 12, none⟩ = some x12 := by
  simp [World.cell?, h]
/-- The cells of a box, as a range; they may be written. -/
theorem range_of_box {w : World} {b : Nat} {cs : Array Value} {t : TypeId} {fz : Nat × Nat} (h : w.heap[b]? = some (.cells cs t fz)) : w.rangeAt b 0 cs.toList := fun j v hv => by
  rw [Nat.zero_add]
  simp only [World.cell?, h]
  simpa using hv
theorem there_of_box {w : World} {b n : Nat} {cs : Array Value} {t : TypeId} (h : w.heap[b]? = some (.cells cs t)) (hn : n ≤ cs.size) : w.there b 0 n := fun j hj => by
  constructor
  · have : j < cs.size := by omega
    simp [World.cell?, h, this]
  · simp [World.frozen?, h]
theorem undrew_mkr {P : Nat} {la : Option Addr} {lc : Nat} {l : List Int} {w X : World} (h : MkR P la lc l w X.drew) : MkR P la lc l w X := ⟨h.1, h.2.os, h.2.tape, h.2.output, h.2.size, h.2.block⟩
theorem undrew_turned {T : Nat → Prop} {w X : World} (h : Turned T w X.drew) : Turned T w X := ⟨h.os, h.tape, h.output, h.size, h.block⟩
theorem mkr_alloc {P : Nat} {la : Option Addr} {lc : Nat} {l : List Int} {w X Y : World} (h : MkR P la lc l w X) (hb : Below X.heap.size X Y) : MkR P la lc l w Y := h.below hb
theorem turned_alloc {T : Nat → Prop} {w X Y : World} (h : Turned T w X) (hb : Below X.heap.size X Y) : Turned T w Y := h.below hb
theorem setCells13 (w : World) (b : Nat) (v0 v1 v2 v3 v4 v5 v6 v7 v8 v9 v10 v11 v12 : Value) : w.setCells b 0 [v0, v1, v2, v3, v4, v5, v6, v7, v8, v9, v10, v11, v12] = (((((((((((((w.setCell ⟨b, 0, none⟩ v0).setCell ⟨b, 1, none⟩ v1).setCell ⟨b, 2, none⟩ v2).setCell ⟨b, 3, none⟩ v3).setCell ⟨b, 4, none⟩ v4).setCell ⟨b, 5, none⟩ v5).setCell ⟨b, 6, none⟩ v6).setCell ⟨b, 7, none⟩ v7).setCell ⟨b, 8, none⟩ v8).setCell ⟨b, 9, none⟩ v9).setCell ⟨b, 10, none⟩ v10).setCell ⟨b, 11, none⟩ v11).setCell ⟨b, 12, none⟩ v12) := by
  simp only [World.setCells, Nat.reduceAdd, Nat.zero_add]
theorem setCells7 (w : World) (b : Nat) (v0 v1 v2 v3 v4 v5 v6 : Value) : w.setCells b 0 [v0, v1, v2, v3, v4, v5, v6] = (((((((w.setCell ⟨b, 0, none⟩ v0).setCell ⟨b, 1, none⟩ v1).setCell ⟨b, 2, none⟩ v2).setCell ⟨b, 3, none⟩ v3).setCell ⟨b, 4, none⟩ v4).setCell ⟨b, 5, none⟩ v5).setCell ⟨b, 6, none⟩ v6) := by
  simp only [World.setCells, Nat.reduceAdd, Nat.zero_add]
theorem setCells4 (w : World) (b : Nat) (v0 v1 v2 v3 : Value) : w.setCells b 0 [v0, v1, v2, v3] = ((((w.setCell ⟨b, 0, none⟩ v0).setCell ⟨b, 1, none⟩ v1).setCell ⟨b, 2, none⟩ v2).setCell ⟨b, 3, none⟩ v3) := by
  simp only [World.setCells, Nat.reduceAdd, Nat.zero_add]
theorem heap_set13 {W : World} {b : Nat} {x0 x1 x2 x3 x4 x5 x6 x7 x8 x9 x10 x11 x12 : Value} {t : TypeId} (h : W.heap[b]? = some (.cells #[x0, x1, x2, x3, x4, x5, x6, x7, x8, x9, x10, x11, x12] t)) (y0 y1 y2 y3 y4 y5 y6 y7 y8 y9 y10 y11 y12 : Value) : (((((((((((((W.setCell ⟨b, 0, none⟩ y0).setCell ⟨b, 1, none⟩ y1).setCell ⟨b, 2, none⟩ y2).setCell ⟨b, 3, none⟩ y3).setCell ⟨b, 4, none⟩ y4).setCell ⟨b, 5, none⟩ y5).setCell ⟨b, 6, none⟩ y6).setCell ⟨b, 7, none⟩ y7).setCell ⟨b, 8, none⟩ y8).setCell ⟨b, 9, none⟩ y9).setCell ⟨b, 10, none⟩ y10).setCell ⟨b, 11, none⟩ y11).setCell ⟨b, 12, none⟩ y12).heap[b]? = some (.cells #[y0, y1, y2, y3, y4, y5, y6, y7, y8, y9, y10, y11, y12] t) := by
  have q0 : (W.setCell ⟨b, 0, none⟩ y0).heap[b]? = some (.cells #[y0, x1, x2, x3, x4, x5, x6, x7, x8, x9, x10, x11, x12] t) := heap_set h 0 y0
  have q1 : ((W.setCell ⟨b, 0, none⟩ y0).setCell ⟨b, 1, none⟩ y1).heap[b]? = some (.cells #[y0, y1, x2, x3, x4, x5, x6, x7, x8, x9, x10, x11, x12] t) := heap_set q0 1 y1
  have q2 : (((W.setCell ⟨b, 0, none⟩ y0).setCell ⟨b, 1, none⟩ y1).setCell ⟨b, 2, none⟩ y2).heap[b]? = some (.cells #[y0, y1, y2, x3, x4, x5, x6, x7, x8, x9, x10, x11, x12] t) := heap_set q1 2 y2
  have q3 : ((((W.setCell ⟨b, 0, none⟩ y0).setCell ⟨b, 1, none⟩ y1).setCell ⟨b, 2, none⟩ y2).setCell ⟨b, 3, none⟩ y3).heap[b]? = some (.cells #[y0, y1, y2, y3, x4, x5, x6, x7, x8, x9, x10, x11, x12] t) := heap_set q2 3 y3
  have q4 : (((((W.setCell ⟨b, 0, none⟩ y0).setCell ⟨b, 1, none⟩ y1).setCell ⟨b, 2, none⟩ y2).setCell ⟨b, 3, none⟩ y3).setCell ⟨b, 4, none⟩ y4).heap[b]? = some (.cells #[y0, y1, y2, y3, y4, x5, x6, x7, x8, x9, x10, x11, x12] t) := heap_set q3 4 y4
  have q5 : ((((((W.setCell ⟨b, 0, none⟩ y0).setCell ⟨b, 1, none⟩ y1).setCell ⟨b, 2, none⟩ y2).setCell ⟨b, 3, none⟩ y3).setCell ⟨b, 4, none⟩ y4).setCell ⟨b, 5, none⟩ y5).heap[b]? = some (.cells #[y0, y1, y2, y3, y4, y5, x6, x7, x8, x9, x10, x11, x12] t) := heap_set q4 5 y5
  have q6 : (((((((W.setCell ⟨b, 0, none⟩ y0).setCell ⟨b, 1, none⟩ y1).setCell ⟨b, 2, none⟩ y2).setCell ⟨b, 3, none⟩ y3).setCell ⟨b, 4, none⟩ y4).setCell ⟨b, 5, none⟩ y5).setCell ⟨b, 6, none⟩ y6).heap[b]? = some (.cells #[y0, y1, y2, y3, y4, y5, y6, x7, x8, x9, x10, x11, x12] t) := heap_set q5 6 y6
  have q7 : ((((((((W.setCell ⟨b, 0, none⟩ y0).setCell ⟨b, 1, none⟩ y1).setCell ⟨b, 2, none⟩ y2).setCell ⟨b, 3, none⟩ y3).setCell ⟨b, 4, none⟩ y4).setCell ⟨b, 5, none⟩ y5).setCell ⟨b, 6, none⟩ y6).setCell ⟨b, 7, none⟩ y7).heap[b]? = some (.cells #[y0, y1, y2, y3, y4, y5, y6, y7, x8, x9, x10, x11, x12] t) := heap_set q6 7 y7
  have q8 : (((((((((W.setCell ⟨b, 0, none⟩ y0).setCell ⟨b, 1, none⟩ y1).setCell ⟨b, 2, none⟩ y2).setCell ⟨b, 3, none⟩ y3).setCell ⟨b, 4, none⟩ y4).setCell ⟨b, 5, none⟩ y5).setCell ⟨b, 6, none⟩ y6).setCell ⟨b, 7, none⟩ y7).setCell ⟨b, 8, none⟩ y8).heap[b]? = some (.cells #[y0, y1, y2, y3, y4, y5, y6, y7, y8, x9, x10, x11, x12] t) := heap_set q7 8 y8
  have q9 : ((((((((((W.setCell ⟨b, 0, none⟩ y0).setCell ⟨b, 1, none⟩ y1).setCell ⟨b, 2, none⟩ y2).setCell ⟨b, 3, none⟩ y3).setCell ⟨b, 4, none⟩ y4).setCell ⟨b, 5, none⟩ y5).setCell ⟨b, 6, none⟩ y6).setCell ⟨b, 7, none⟩ y7).setCell ⟨b, 8, none⟩ y8).setCell ⟨b, 9, none⟩ y9).heap[b]? = some (.cells #[y0, y1, y2, y3, y4, y5, y6, y7, y8, y9, x10, x11, x12] t) := heap_set q8 9 y9
  have q10 : (((((((((((W.setCell ⟨b, 0, none⟩ y0).setCell ⟨b, 1, none⟩ y1).setCell ⟨b, 2, none⟩ y2).setCell ⟨b, 3, none⟩ y3).setCell ⟨b, 4, none⟩ y4).setCell ⟨b, 5, none⟩ y5).setCell ⟨b, 6, none⟩ y6).setCell ⟨b, 7, none⟩ y7).setCell ⟨b, 8, none⟩ y8).setCell ⟨b, 9, none⟩ y9).setCell ⟨b, 10, none⟩ y10).heap[b]? = some (.cells #[y0, y1, y2, y3, y4, y5, y6, y7, y8, y9, y10, x11, x12] t) := heap_set q9 10 y10
  have q11 : ((((((((((((W.setCell ⟨b, 0, none⟩ y0).setCell ⟨b, 1, none⟩ y1).setCell ⟨b, 2, none⟩ y2).setCell ⟨b, 3, none⟩ y3).setCell ⟨b, 4, none⟩ y4).setCell ⟨b, 5, none⟩ y5).setCell ⟨b, 6, none⟩ y6).setCell ⟨b, 7, none⟩ y7).setCell ⟨b, 8, none⟩ y8).setCell ⟨b, 9, none⟩ y9).setCell ⟨b, 10, none⟩ y10).setCell ⟨b, 11, none⟩ y11).heap[b]? = some (.cells #[y0, y1, y2, y3, y4, y5, y6, y7, y8, y9, y10, y11, x12] t) := heap_set q10 11 y11
  have q12 : (((((((((((((W.setCell ⟨b, 0, none⟩ y0).setCell ⟨b, 1, none⟩ y1).setCell ⟨b, 2, none⟩ y2).setCell ⟨b, 3, none⟩ y3).setCell ⟨b, 4, none⟩ y4).setCell ⟨b, 5, none⟩ y5).setCell ⟨b, 6, none⟩ y6).setCell ⟨b, 7, none⟩ y7).setCell ⟨b, 8, none⟩ y8).setCell ⟨b, 9, none⟩ y9).setCell ⟨b, 10, none⟩ y10).setCell ⟨b, 11, none⟩ y11).setCell ⟨b, 12, none⟩ y12).heap[b]? = some (.cells #[y0, y1, y2, y3, y4, y5, y6, y7, y8, y9, y10, y11, y12] t) := heap_set q11 12 y12
  exact q12
theorem heap_set7 {W : World} {b : Nat} {x0 x1 x2 x3 x4 x5 x6 : Value} {t : TypeId} (h : W.heap[b]? = some (.cells #[x0, x1, x2, x3, x4, x5, x6] t)) (y0 y1 y2 y3 y4 y5 y6 : Value) : (((((((W.setCell ⟨b, 0, none⟩ y0).setCell ⟨b, 1, none⟩ y1).setCell ⟨b, 2, none⟩ y2).setCell ⟨b, 3, none⟩ y3).setCell ⟨b, 4, none⟩ y4).setCell ⟨b, 5, none⟩ y5).setCell ⟨b, 6, none⟩ y6).heap[b]? = some (.cells #[y0, y1, y2, y3, y4, y5, y6] t) := by
  have q0 : (W.setCell ⟨b, 0, none⟩ y0).heap[b]? = some (.cells #[y0, x1, x2, x3, x4, x5, x6] t) := heap_set h 0 y0
  have q1 : ((W.setCell ⟨b, 0, none⟩ y0).setCell ⟨b, 1, none⟩ y1).heap[b]? = some (.cells #[y0, y1, x2, x3, x4, x5, x6] t) := heap_set q0 1 y1
  have q2 : (((W.setCell ⟨b, 0, none⟩ y0).setCell ⟨b, 1, none⟩ y1).setCell ⟨b, 2, none⟩ y2).heap[b]? = some (.cells #[y0, y1, y2, x3, x4, x5, x6] t) := heap_set q1 2 y2
  have q3 : ((((W.setCell ⟨b, 0, none⟩ y0).setCell ⟨b, 1, none⟩ y1).setCell ⟨b, 2, none⟩ y2).setCell ⟨b, 3, none⟩ y3).heap[b]? = some (.cells #[y0, y1, y2, y3, x4, x5, x6] t) := heap_set q2 3 y3
  have q4 : (((((W.setCell ⟨b, 0, none⟩ y0).setCell ⟨b, 1, none⟩ y1).setCell ⟨b, 2, none⟩ y2).setCell ⟨b, 3, none⟩ y3).setCell ⟨b, 4, none⟩ y4).heap[b]? = some (.cells #[y0, y1, y2, y3, y4, x5, x6] t) := heap_set q3 4 y4
  have q5 : ((((((W.setCell ⟨b, 0, none⟩ y0).setCell ⟨b, 1, none⟩ y1).setCell ⟨b, 2, none⟩ y2).setCell ⟨b, 3, none⟩ y3).setCell ⟨b, 4, none⟩ y4).setCell ⟨b, 5, none⟩ y5).heap[b]? = some (.cells #[y0, y1, y2, y3, y4, y5, x6] t) := heap_set q4 5 y5
  have q6 : (((((((W.setCell ⟨b, 0, none⟩ y0).setCell ⟨b, 1, none⟩ y1).setCell ⟨b, 2, none⟩ y2).setCell ⟨b, 3, none⟩ y3).setCell ⟨b, 4, none⟩ y4).setCell ⟨b, 5, none⟩ y5).setCell ⟨b, 6, none⟩ y6).heap[b]? = some (.cells #[y0, y1, y2, y3, y4, y5, y6] t) := heap_set q5 6 y6
  exact q6
theorem under_row {t : TypeId} (h : (Try.prog.underlying t).map TypeDesc.isRow = some true) : ∃ d, Try.prog.underlying t = some d ∧ d.isRow = true := by
  cases hq : Try.prog.underlying t with
  | none => rw [hq] at h; cases h
  | some d => rw [hq] at h; injection h with h; exact ⟨d, rfl, h⟩
/-- A whole block is stored. -/
theorem wpList_store_to {P : Program} {w : World} {ops : Array Oper} {rest : List Oper} {op : Oper} {a : Act} {Q : Exit → Act → World → Prop} (hgd : op.guard = none) (ty : TypeId) (x y : Operand) (ho : op.op = .store ty x y)
    (b o : Nat) (cells : Array Value) (hx : a.eval x = .pointer (some ⟨b, o, none⟩)) (hy : a.eval y = .agg cells)
    (ht : w.there b o cells.size) (hi : (P.info? ty).map (·.size) = some cells.size) (h1 : cells.all (·.oneCell') = true) (W2 : World) (hW : w.setCells b o cells.toList = W2)
    (h : wpList P ops Q rest (a.put op.dst undef) W2) : wpList P ops Q (op :: rest) a w := by
  subst hW
  exact wpList_store_mid hgd ty x y ho b o cells hx hy ht hi h1 h
/-- What holds behind the choice of the kind. -/
def BlkM (P : Nat) (la : Option Addr) (lc : Nat) (l : List Int) (w : World) (B4 B5 : Nat) (a : Act) (W : World) : Prop :=
  a.tmps.size = 43 ∧ a.defers = [] ∧ slot a.tmps 4 = .pointer (some ⟨B4, 0, none⟩) ∧ slot a.tmps 5 = .pointer (some ⟨B5, 0, none⟩) ∧ W.heap[B4]? = some (.cells (blkC 0 0 0 0 0 0 (.slice none 0 0) (.slice none 0 0) (.slice none 0 0) (.slice none 0 0) (.slice none 0 0) (.slice none 0 0) (.slice none 0 0)) 106) ∧ MkR P la lc l w W ∧
    ∃ v : Array Value, W.heap[B5]? = some (.cells v 106) ∧ BlockV W P (.agg v)
theorem load_block (w : World) (g : Nat) (x0 x1 x2 x3 x4 x5 x6 x7 x8 x9 x10 x11 x12 : Value) (c0 : w.cell? ⟨g, 0, none⟩ = some x0) (c1 : w.cell? ⟨g, 1, none⟩ = some x1) (c2 : w.cell? ⟨g, 2, none⟩ = some x2) (c3 : w.cell? ⟨g, 3, none⟩ = some x3) (c4 : w.cell? ⟨g, 4, none⟩ = some x4) (c5 : w.cell? ⟨g, 5, none⟩ = some x5) (c6 : w.cell? ⟨g, 6, none⟩ = some x6) (c7 : w.cell? ⟨g, 7, none⟩ = some x7) (c8 : w.cell? ⟨g, 8, none⟩ = some x8) (c9 : w.cell? ⟨g, 9, none⟩ = some x9) (c10 : w.cell? ⟨g, 10, none⟩ = some x10) (c11 : w.cell? ⟨g, 11, none⟩ = some x11) (c12 : w.cell? ⟨g, 12, none⟩ = some x12) : (loadVar 106 ⟨g, 0, none⟩).run Try.prog w = .ok (.agg #[x0, x1, x2, x3, x4, x5, x6, x7, x8, x9, x10, x11, x12]) w := by
  go_simp
theorem range_map43 (f : Nat → Value) : (List.range 43).map f = [f 0, f 1, f 2, f 3, f 4, f 5, f 6, f 7, f 8, f 9, f 10, f 11, f 12, f 13, f 14, f 15, f 16, f 17, f 18, f 19, f 20, f 21, f 22, f 23, f 24, f 25, f 26, f 27, f 28, f 29, f 30, f 31, f 32, f 33, f 34, f 35, f 36, f 37, f 38, f 39, f 40, f 41, f 42] := rfl
theorem frame43 (t : Array Value) (ds : List Deferred) (h : t.size = 43) : ({ tmps := t, defers := ds } : Act) = { tmps := #[slot t 0, slot t 1, slot t 2, slot t 3, slot t 4, slot t 5, slot t 6, slot t 7, slot t 8, slot t 9, slot t 10, slot t 11, slot t 12, slot t 13, slot t 14, slot t 15, slot t 16, slot t 17, slot t 18, slot t 19, slot t 20, slot t 21, slot t 22, slot t 23, slot t 24, slot t 25, slot t 26, slot t 27, slot t 28, slot t 29, slot t 30, slot t 31, slot t 32, slot t 33, slot t 34, slot t 35, slot t 36, slot t 37, slot t 38, slot t 39, slot t 40, slot t 41, slot t 42], defers := ds } := by
  have e : t = ((List.range 43).map (slot t)).toArray := by
    apply Array.ext
    · simp [h]
    · intro i h1 h2
      simp [slot, Array.getD, h1]
  rw [range_map43] at e
  exact congrArg (fun x => ({ tmps := x, defers := ds } : Act)) e
theorem first_turned {W X : World} {P b : Nat} {a : Option Addr} {z : Int} (h : FirstIs W P a) (hT : Turned (fun c => c = b) W X) (hq : W.cell? ⟨b, 0, none⟩ = some (.int .i64 z)) : FirstIs X P a := by
  obtain ⟨gb, rfl, h1, h2, ra, rn, rc, h3⟩ := h
  have hne : gb ≠ b := fun e => by
    subst e
    rw [h3] at hq
    injection hq with hq
    cases hq
  exact ⟨gb, rfl, h1, Nat.lt_of_lt_of_le h2 hT.size, ra, rn, rc, hT.cell h3 hne⟩
theorem BlockV.turned {W X : World} {P b : Nat} {v : Value} {z : Int} (h : BlockV W P v) (hT : Turned (fun c => c = b) W X) (hq : W.cell? ⟨b, 0, none⟩ = some (.int .i64 z)) : BlockV X P v := by
  obtain ⟨k, e0, e1, s0, f0, f1, ra, ea, sa, ga, fa, ma, ia, rn, rc, en, ec, sn, sc, gn, gc, fn, fc, mn, mc, ln, lc, hv, h4, h3, h5⟩ := h
  exact ⟨k, e0, e1, s0, f0, f1, ra, ea, sa, ga, fa, ma, ia, rn, rc, en, ec, sn, sc, gn, gc, fn, fc, mn, mc, ln, lc, hv, h4, fun e => ⟨(h3 e).1, first_turned (h3 e).2 hT hq⟩, fun e => ⟨(h5 e).1, first_turned (h5 e).2 hT hq⟩⟩
set_option maxHeartbeats 8000000 in
theorem block_any {P : Nat} {la : Option Addr} {lc : Nat} {l : List Int} (k : Int) (w : World) (h : Mk P la lc l w) :
    Calls Try.prog 53 #[.pointer (some ⟨P, 0, none⟩), .int .i64 k] w fun e w' => (∃ v, e = .returned v ∧ BlockV w' P v) ∧ MkR P la lc l w w' := by
  have HM := hidep h
  have hr0 := MkR.refl h
  have hP := h.lt
  clear h
  go_enter Try.func53, Try.ntmps53
  go_upto_region 2 with (fail)
  refine wp_abs (fun X => X.heap[w.heap.size]? = some (.cells (blkC 0 0 0 0 0 0 (.slice none 0 0) (.slice none 0 0) (.slice none 0 0) (.slice none 0 0) (.slice none 0 0) (.slice none 0 0) (.slice none 0 0)) 106) ∧ X.heap[w.heap.size + 1]? = some (.cells (blkC k 0 0 0 0 0 (.slice none 0 0) (.slice none 0 0) (.slice none 0 0) (.slice none 0 0) (.slice none 0 0) (.slice none 0 0) (.slice none 0 0)) 106) ∧ MkR P la lc l w X)
    ⟨allocs_get [.cells (blkC 0 0 0 0 0 0 (.slice none 0 0) (.slice none 0 0) (.slice none 0 0) (.slice none 0 0) (.slice none 0 0) (.slice none 0 0) (.slice none 0 0)) 106, .cells (blkC k 0 0 0 0 0 (.slice none 0 0) (.slice none 0 0) (.slice none 0 0) (.slice none 0 0) (.slice none 0 0) (.slice none 0 0) (.slice none 0 0)) 106] w 0 _ rfl, allocs_get [.cells (blkC 0 0 0 0 0 0 (.slice none 0 0) (.slice none 0 0) (.slice none 0 0) (.slice none 0 0) (.slice none 0 0) (.slice none 0 0) (.slice none 0 0)) 106, .cells (blkC k 0 0 0 0 0 (.slice none 0 0) (.slice none 0 0) (.slice none 0 0) (.slice none 0 0) (.slice none 0 0) (.slice none 0 0) (.slice none 0 0)) 106] w 1 _ rfl, (hr0.alloc _).alloc _⟩ ?_
  rintro X ⟨hq4, hq5, hrX⟩
  obtain ⟨B4, hB4⟩ : ∃ B4, B4 = w.heap.size := ⟨_, rfl⟩
  obtain ⟨B5, hB5⟩ : ∃ B5, B5 = w.heap.size + 1 := ⟨_, rfl⟩
  rw [← hB5] at hq5
  rw [← hB4] at hq4
  rw [← hB5, ← hB4]
  have HBB := hidep (show w.heap.size ≤ B4 ∧ w.heap.size ≤ B5 ∧ B4 ≠ B5 from by omega)
  have hB4P : B4 ≠ P := by omega
  have hB5P : B5 ≠ P := by omega
  clear hB4 hB5 hr0
  go_upto_block 0 with (fail)
  refine wp_join (BlkM P la lc l w B4 B5) ?first ?_
  case first =>
    intro K' hMK
    by_cases c0 : k = 0
    · have b0 : (k == 0) = true := by simp [c0]
      have HR := hidep (runs_any X (hrX.mk HM.out))
      go_wp2_with (first
        | (go_at_call 68; refine HR.out.mono ?_; rintro e w3 ⟨⟨xa, xn, xc, rfl⟩, hr3⟩; have hq5 := hr3.box hq5 hB5P; have hq4 := hr3.box hq4 hB4P; obtain ⟨y0, y1, y2, y3, y4, y5, y6, y7, y8, y9, y10, y11, y12⟩ := blk_cells hq5; have g1 := box_frozen hq5 1; have hr3 := hrX.trans hr3)
        | fail)
      exact ⟨rfl, rfl, rfl, rfl, (Below.heap_setCell w3 ⟨B5, 1, none⟩ _ B4 HBB.out.2.2).trans hq4, hr3.set HM.out HBB.out.2.1, _, heap_set hq5 1 _, ⟨k, 0, 0, 0, 0, 0, xa, none, none, none, none, none, none, xn, xc, 0, 0, 0, 0, 0, 0, 0, 0, 0, 0, 0, 0, rfl, fun e => by omega, fun e => by omega, fun e => by omega⟩⟩
    · have b0 : (k == 0) = false := beq_false_of_ne c0
      by_cases c1 : k = 1
      · have b1 : (k == 1) = true := by simp [c1]
        have HR := hidep (expr_any X (hrX.mk HM.out))
        go_wp2_with (first
          | (go_at_call 69; refine HR.out.mono ?_; rintro e w3 ⟨⟨op, en, ea, ekn, ekc, rfl⟩, hr3⟩; have hq5 := hr3.box hq5 hB5P; have hq4 := hr3.box hq4 hB4P; obtain ⟨y0, y1, y2, y3, y4, y5, y6, y7, y8, y9, y10, y11, y12⟩ := blk_cells hq5; have g2 := box_frozen hq5 2; have g3 := box_frozen hq5 3; have g4 := box_frozen hq5 4; have hr3 := hrX.trans hr3)
          | fail)
        exact ⟨rfl, rfl, rfl, rfl, (Below.heap_setCell _ ⟨B5, 4, none⟩ _ B4 HBB.out.2.2).trans ((Below.heap_setCell _ ⟨B5, 3, none⟩ _ B4 HBB.out.2.2).trans ((Below.heap_setCell _ ⟨B5, 2, none⟩ _ B4 HBB.out.2.2).trans (hq4))), (((hr3.set HM.out HBB.out.2.1).set HM.out HBB.out.2.1).set HM.out HBB.out.2.1), _, (heap_set (heap_set (heap_set hq5 2 _) 3 _) 4 _), ⟨k, op, en, 0, 0, 0, none, ea, none, none, none, none, none, 0, 0, ekn, ekc, 0, 0, 0, 0, 0, 0, 0, 0, 0, 0, rfl, fun e => by omega, fun e => by omega, fun e => by omega⟩⟩
      · have b1 : (k == 1) = false := beq_false_of_ne c1
        by_cases c2 : k = 2
        · have b2 : (k == 2) = true := by simp [c2]
          have HR := hidep (sum_any X (hrX.mk HM.out))
          go_wp2_with (first
            | (go_at_call 70; refine HR.out.mono ?_; rintro e w3 ⟨⟨so, sa, sn, sc, rfl⟩, hr3⟩; have hq5 := hr3.box hq5 hB5P; have hq4 := hr3.box hq4 hB4P; obtain ⟨y0, y1, y2, y3, y4, y5, y6, y7, y8, y9, y10, y11, y12⟩ := blk_cells hq5; have g5 := box_frozen hq5 5; have g6 := box_frozen hq5 6; have hr3 := hrX.trans hr3)
            | fail)
          exact ⟨rfl, rfl, rfl, rfl, (Below.heap_setCell _ ⟨B5, 6, none⟩ _ B4 HBB.out.2.2).trans ((Below.heap_setCell _ ⟨B5, 5, none⟩ _ B4 HBB.out.2.2).trans (hq4)), ((hr3.set HM.out HBB.out.2.1).set HM.out HBB.out.2.1), _, (heap_set (heap_set hq5 5 _) 6 _), ⟨k, 0, 0, so, 0, 0, none, none, sa, none, none, none, none, 0, 0, 0, 0, sn, sc, 0, 0, 0, 0, 0, 0, 0, 0, rfl, fun e => by omega, fun e => by omega, fun e => by omega⟩⟩
        · have b2 : (k == 2) = false := beq_false_of_ne c2
          by_cases c3 : k = 3
          · have b3 : (k == 3) = true := by simp [c3]
            have HR := hidep (grid_any X (hrX.mk HM.out))
            go_wp2_with (first
              | (go_at_call 71; refine HR.out.mono ?_; rintro e w3 ⟨⟨ga, gn, gc, rfl, hgn, hgf⟩, hr3⟩; have hq5 := hr3.box hq5 hB5P; have hq4 := hr3.box hq4 hB4P; obtain ⟨y0, y1, y2, y3, y4, y5, y6, y7, y8, y9, y10, y11, y12⟩ := blk_cells hq5; have g7 := box_frozen hq5 7; have hr3 := hrX.trans hr3)
              | fail)
            exact ⟨rfl, rfl, rfl, rfl, (Below.heap_setCell _ ⟨B5, 7, none⟩ _ B4 HBB.out.2.2).trans (hq4), (hr3.set HM.out HBB.out.2.1), _, (heap_set hq5 7 _), ⟨k, 0, 0, 0, 0, 0, none, none, none, ga, none, none, none, 0, 0, 0, 0, 0, 0, gn, gc, 0, 0, 0, 0, 0, 0, rfl, fun e => by omega, fun _ => ⟨hgn, first_turned hgf ((Turned.refl (fun c => c = B5) w3).setCell ⟨B5, 7, none⟩ _ (.inr rfl)) y0⟩, fun e => by omega⟩⟩
          · have b3 : (k == 3) = false := beq_false_of_ne c3
            by_cases c4 : k = 4
            · have b4 : (k == 4) = true := by simp [c4]
              have HR := hidep (figure_any X (hrX.mk HM.out))
              go_wp2_with (first
                | (go_at_call 72; refine HR.out.mono ?_; rintro e w3 ⟨⟨fp, fq, fa, fn, fc, rfl, hfn⟩, hr3⟩; have hq5 := hr3.box hq5 hB5P; have hq4 := hr3.box hq4 hB4P; obtain ⟨y0, y1, y2, y3, y4, y5, y6, y7, y8, y9, y10, y11, y12⟩ := blk_cells hq5; have g8 := box_frozen hq5 8; have g9 := box_frozen hq5 9; have g10 := box_frozen hq5 10; have hr3 := hrX.trans hr3)
                | fail)
              exact ⟨rfl, rfl, rfl, rfl, (Below.heap_setCell _ ⟨B5, 10, none⟩ _ B4 HBB.out.2.2).trans ((Below.heap_setCell _ ⟨B5, 9, none⟩ _ B4 HBB.out.2.2).trans ((Below.heap_setCell _ ⟨B5, 8, none⟩ _ B4 HBB.out.2.2).trans (hq4))), (((hr3.set HM.out HBB.out.2.1).set HM.out HBB.out.2.1).set HM.out HBB.out.2.1), _, (heap_set (heap_set (heap_set hq5 8 _) 9 _) 10 _), ⟨k, 0, 0, 0, fp, fq, none, none, none, none, fa, none, none, 0, 0, 0, 0, 0, 0, 0, 0, fn, fc, 0, 0, 0, 0, rfl, fun _ => hfn, fun e => by omega, fun e => by omega⟩⟩
            · have b4 : (k == 4) = false := beq_false_of_ne c4
              by_cases c5 : k = 5
              · have b5 : (k == 5) = true := by simp [c5]
                have HR := hidep (melody_any X (hrX.mk HM.out))
                go_wp2_with (first
                  | (go_at_call 73; refine HR.out.mono ?_; rintro e w3 ⟨⟨ma, mn, mc, rfl, hmn, hmf⟩, hr3⟩; have hq5 := hr3.box hq5 hB5P; have hq4 := hr3.box hq4 hB4P; obtain ⟨y0, y1, y2, y3, y4, y5, y6, y7, y8, y9, y10, y11, y12⟩ := blk_cells hq5; have g11 := box_frozen hq5 11; have hr3 := hrX.trans hr3)
                  | fail)
                exact ⟨rfl, rfl, rfl, rfl, (Below.heap_setCell _ ⟨B5, 11, none⟩ _ B4 HBB.out.2.2).trans (hq4), (hr3.set HM.out HBB.out.2.1), _, (heap_set hq5 11 _), ⟨k, 0, 0, 0, 0, 0, none, none, none, none, none, ma, none, 0, 0, 0, 0, 0, 0, 0, 0, 0, 0, mn, mc, 0, 0, rfl, fun e => by omega, fun e => by omega, fun _ => ⟨hmn, first_turned hmf ((Turned.refl (fun c => c = B5) w3).setCell ⟨B5, 11, none⟩ _ (.inr rfl)) y0⟩⟩⟩
              · have b5 : (k == 5) = false := beq_false_of_ne c5
                have HR := hidep (lines_any X (hrX.mk HM.out))
                go_wp2_with (first
                  | (go_at_call 74; refine HR.out.mono ?_; rintro e w3 ⟨⟨ia, ln, lc2, rfl⟩, hr3⟩; have hq5 := hr3.box hq5 hB5P; have hq4 := hr3.box hq4 hB4P; obtain ⟨y0, y1, y2, y3, y4, y5, y6, y7, y8, y9, y10, y11, y12⟩ := blk_cells hq5; have g12 := box_frozen hq5 12; have hr3 := hrX.trans hr3)
                  | fail)
                exact ⟨rfl, rfl, rfl, rfl, (Below.heap_setCell _ ⟨B5, 12, none⟩ _ B4 HBB.out.2.2).trans hq4, hr3.set HM.out HBB.out.2.1, _, heap_set hq5 12 _, ⟨k, 0, 0, 0, 0, 0, none, none, none, none, none, none, ia, 0, 0, 0, 0, 0, 0, 0, 0, 0, 0, 0, 0, ln, lc2, rfl, fun e => by omega, fun e => by omega, fun e => by omega⟩⟩
  rintro ⟨tm1, ds1⟩ W ⟨h43, hds, e4, e5, hq4, hrw, v, hqv, hbv⟩
  simp only at h43 hds e4 e5
  subst hds
  apply_assumption
  rw [frame43 tm1 [] h43, e4, e5]
  clear h43 e4 e5
  obtain ⟨kk, e0, e1, s0, f0, f1, ra, ea, sa, ga, fa, ma, ia, rn, rc, en, ec, sn, sc, gn, gc, fn, fc, mn, mc, ln, lc2, hv, h4, h3, h5⟩ := hbv
  injection hv with hv
  have HBV := hidep (show BlockV W P (.agg v) from ⟨kk, e0, e1, s0, f0, f1, ra, ea, sa, ga, fa, ma, ia, rn, rc, en, ec, sn, sc, gn, gc, fn, fc, mn, mc, ln, lc2, by rw [hv], h4, h3, h5⟩)
  subst hv
  obtain ⟨y0, y1, y2, y3, y4, y5, y6, y7, y8, y9, y10, y11, y12⟩ := blk_cells hqv
  obtain ⟨z0, z1, z2, z3, z4, z5, z6, z7, z8, z9, z10, z11, z12⟩ := blk_cells hq4
  have HR0 := hidep hrw
  obtain ⟨d, hu, hd⟩ : ∃ d, Try.prog.underlying 106 = some d ∧ d.isRow = true := under_row (by kernel_rfl)
  obtain ⟨W2, hW2⟩ : ∃ W2, W2 = W.setCells B4 0 [.int .i64 kk, .slice ra rn rc, .int .i64 e0, .int .i64 e1, .slice ea en ec, .int .i64 s0, .slice sa sn sc, .slice ga gn gc, .int .i64 f0, .int .i64 f1, .slice fa fn fc, .slice ma mn mc, .slice ia ln lc2] := ⟨_, rfl⟩
  have HQ := hidep (heap_set13 hq4 (.int .i64 kk) (.slice ra rn rc) (.int .i64 e0) (.int .i64 e1) (.slice ea en ec) (.int .i64 s0) (.slice sa sn sc) (.slice ga gn gc) (.int .i64 f0) (.int .i64 f1) (.slice fa fn fc) (.slice ma mn mc) (.slice ia ln lc2))
  have HMK := hidep (MkR.set (MkR.set (MkR.set (MkR.set (MkR.set (MkR.set (MkR.set (MkR.set (MkR.set (MkR.set (MkR.set (MkR.set (MkR.set hrw HM.out HBB.out.1 (o := 0) (v := (.int .i64 kk))) HM.out HBB.out.1 (o := 1) (v := (.slice ra rn rc))) HM.out HBB.out.1 (o := 2) (v := (.int .i64 e0))) HM.out HBB.out.1 (o := 3) (v := (.int .i64 e1))) HM.out HBB.out.1 (o := 4) (v := (.slice ea en ec))) HM.out HBB.out.1 (o := 5) (v := (.int .i64 s0))) HM.out HBB.out.1 (o := 6) (v := (.slice sa sn sc))) HM.out HBB.out.1 (o := 7) (v := (.slice ga gn gc))) HM.out HBB.out.1 (o := 8) (v := (.int .i64 f0))) HM.out HBB.out.1 (o := 9) (v := (.int .i64 f1))) HM.out HBB.out.1 (o := 10) (v := (.slice fa fn fc))) HM.out HBB.out.1 (o := 11) (v := (.slice ma mn mc))) HM.out HBB.out.1 (o := 12) (v := (.slice ia ln lc2)))
  have HTU := hidep (HBV.out.turned (Turned.setCell (Turned.setCell (Turned.setCell (Turned.setCell (Turned.setCell (Turned.setCell (Turned.setCell (Turned.setCell (Turned.setCell (Turned.setCell (Turned.setCell (Turned.setCell (Turned.setCell (Turned.refl (fun c => c = B4) W) ⟨B4, 0, none⟩ (.int .i64 kk) (.inr rfl)) ⟨B4, 1, none⟩ (.slice ra rn rc) (.inr rfl)) ⟨B4, 2, none⟩ (.int .i64 e0) (.inr rfl)) ⟨B4, 3, none⟩ (.int .i64 e1) (.inr rfl)) ⟨B4, 4, none⟩ (.slice ea en ec) (.inr rfl)) ⟨B4, 5, none⟩ (.int .i64 s0) (.inr rfl)) ⟨B4, 6, none⟩ (.slice sa sn sc) (.inr rfl)) ⟨B4, 7, none⟩ (.slice ga gn gc) (.inr rfl)) ⟨B4, 8, none⟩ (.int .i64 f0) (.inr rfl)) ⟨B4, 9, none⟩ (.int .i64 f1) (.inr rfl)) ⟨B4, 10, none⟩ (.slice fa fn fc) (.inr rfl)) ⟨B4, 11, none⟩ (.slice ma mn mc) (.inr rfl)) ⟨B4, 12, none⟩ (.slice ia ln lc2) (.inr rfl)) z0)
  have HE := hidep (show W2.heap[B4]? = some (.cells (blkC kk e0 e1 s0 f0 f1 (.slice ra rn rc) (.slice ea en ec) (.slice sa sn sc) (.slice ga gn gc) (.slice fa fn fc) (.slice ma mn mc) (.slice ia ln lc2)) 106) ∧ MkR P la lc l w W2 ∧ BlockV W2 P (.agg (blkC kk e0 e1 s0 f0 f1 (.slice ra rn rc) (.slice ea en ec) (.slice sa sn sc) (.slice ga gn gc) (.slice fa fn fc) (.slice ma mn mc) (.slice ia ln lc2))) from by
    rw [hW2, setCells13]
    exact ⟨HQ.out, HMK.out, HTU.out⟩)
  have HL := hidep (show W.rangeAt B5 0 [.int .i64 kk, .slice ra rn rc, .int .i64 e0, .int .i64 e1, .slice ea en ec, .int .i64 s0, .slice sa sn sc, .slice ga gn gc, .int .i64 f0, .int .i64 f1, .slice fa fn fc, .slice ma mn mc, .slice ia ln lc2] from range_of_box hqv)
  have HTH := hidep (there_of_box (n := 13) hq4 (Nat.le_refl _))
  have hsz : (Try.prog.info? 106).map (·.size) = some 13 := by kernel_rfl
  have HD := hidep (show (∃ d, Try.prog.underlying 106 = some d ∧ d.isRow = true) ∧ (Try.prog.info? 106).map (·.size) = some 13 from ⟨⟨d, hu, hd⟩, hsz⟩)
  clear h4 h3 h5 hq5 hqv y0 y1 y2 y3 y4 y5 y6 y7 y8 y9 y10 y11 y12 z0 z1 z2 z3 z4 z5 z6 z7 z8 z9 z10 z11 z12 HQ HMK HTU hrw hu hd hsz hq4
  clear d
  have HW2 := hidep hW2
  clear hW2
  have HONE := hidep (show Array.all (α := Value) #[.int .i64 kk, .slice ra rn rc, .int .i64 e0, .int .i64 e1, .slice ea en ec, .int .i64 s0, .slice sa sn sc, .slice ga gn gc, .int .i64 f0, .int .i64 f1, .slice fa fn fc, .slice ma mn mc, .slice ia ln lc2] (·.oneCell') = true from by simp [Value.oneCell'])
  go_wp2_with (first
    | (refine wpList_load_mid (op := ⟨some 42, _, _, _, _, _⟩) rfl 106 _ rfl B5 0 rfl _ _ HL.out HD.out.1.choose_spec.1 HD.out.1.choose_spec.2 HD.out.2 ?_)
    | (refine wpList_store_to (op := ⟨none, _, _, _, _, _⟩) rfl 106 _ _ rfl B4 0 #[.int .i64 kk, .slice ra rn rc, .int .i64 e0, .int .i64 e1, .slice ea en ec, .int .i64 s0, .slice sa sn sc, .slice ga gn gc, .int .i64 f0, .int .i64 f1, .slice fa fn fc, .slice ma mn mc, .slice ia ln lc2] rfl rfl HTH.out HD.out.2 HONE.out W2 HW2.out.symm ?_)
    | fail)
  refine bodyPost_ret (results_cell1 rfl _ _ _ rfl (run_loadVar_mid (P := Try.prog) W2 B4 0 106 [.int .i64 kk, .slice ra rn rc, .int .i64 e0, .int .i64 e1, .slice ea en ec, .int .i64 s0, .slice sa sn sc, .slice ga gn gc, .int .i64 f0, .int .i64 f1, .slice fa fn fc, .slice ma mn mc, .slice ia ln lc2] _ (range_of_box HE.out.1) HD.out.1.choose_spec.1 HD.out.1.choose_spec.2 HD.out.2)) rfl ?_
  exact ⟨⟨_, rfl, HE.out.2.2⟩, HE.out.2.1⟩
end Go.Proofs.Ytfljgcpfmhhgcaa
