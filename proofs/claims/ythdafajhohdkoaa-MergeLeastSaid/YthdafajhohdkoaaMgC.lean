/- Contract: the iterator over the pairs of edits that clash (package merge), for every loop body that leaves edits, texts and slices of edits alone. -/
import Derived.RangeFuncNested
import Derived.RangeFuncBound
import Derived.RangeFuncCalls
import Derived.RangeFuncLeaves
import Derived.RangeFuncWrites
import Derived.RangeFuncBox
import Derived.Shelf.Abstract
import Derived.Shelf.RegionOpen
import Derived.OwnWalkIn
import Derived.TacticsInMore
import Derived.LoopNIn
import Derived.LoopIn
import Derived.Test.YthdafajhohdkoaaMgB
import Derived.Test.YthdafajhohdkoaaMgEw
import Derived.Test.YthdafajhohdkoaaPairA
namespace Go.Proofs.Ythdafajhohdkoaa
open Go.RowKit Go.Lab
attribute [local go_sem] Oper.semAt_some
def clashRow (x : Edit) (i : Nat) : List Edit → Nat → List (Nat × Nat)
  | [], _ => []
  | y :: ys, k => (if clashB x y then [(i, k)] else []) ++ clashRow x i ys (k + 1)
def clashGo (b : List Edit) : List Edit → Nat → List (Nat × Nat)
  | [], _ => []
  | x :: xs, i => clashRow x i b 0 ++ clashGo b xs (i + 1)
def clashP (a b : List Edit) : List (Nat × Nat) := clashGo b a 0
theorem clashRow_step {x : Edit} {i : Nat} {b : List Edit} {k : Nat} (h : k < b.length) :
    clashRow x i (b.drop k) k = (if clashB x b[k] then [(i, k)] else []) ++ clashRow x i (b.drop (k + 1)) (k + 1) := by
  rw [List.drop_eq_getElem_cons h, clashRow]
theorem clashGo_step {a b : List Edit} {i : Nat} (h : i < a.length) : clashGo b (a.drop i) i = clashRow a[i] i b 0 ++ clashGo b (a.drop (i + 1)) (i + 1) := by
  rw [List.drop_eq_getElem_cons h, clashGo]
/-- What the iterator reads: edits, their texts, the slices of edits. -/
def Tk (t : TypeId) : Prop := t = 36 ∨ t = 34 ∨ t = 25
theorem tkE : Tk 36 := .inl rfl
theorem tkS : Tk 34 := .inr (.inl rfl)
theorem tkL : Tk 25 := .inr (.inr rfl)
theorem keepsTk_t {A B C : World} (h : Keeps Tk A B) (k : Keeps Tk B C) : Keeps Tk A C := h.trans k
theorem keepsTk_b {n : Nat} (W : World) (l : Nat) (o o' : Obj) (_ : n ≤ l) (h : W.heap[l]? = some o) (ho : o.isCells = false) (_ : o.isWalk = false) : Keeps Tk W (W.putObj l o') := by
  refine ⟨by simp, fun b cur t fz _ hb => ?_⟩
  by_cases e : b = l
  · subst e
    rw [h] at hb
    injection hb with hb
    subst hb
    cases ho
  · exact (World.putObj_heap_other e).trans hb
theorem abides_below {β : Type} {B : Nat} {J : β → World → Prop} (h : AbidesFrom B J) {s : β} {W W' : World} (hs : J s W) (hb : Below W.heap.size W W') : J s W' :=
  h s W W' none hs ⟨hb.os, hb.tape, hb.output, hb.size, fun k hk _ => hb.block k hk⟩ (fun r e => by cases e)
theorem box_cell {w : World} {b : Nat} {x : Value} {t : TypeId} {fz : Nat × Nat} (h : w.heap[b]? = some (.cells #[x] t fz)) : w.cell? ⟨b, 0, none⟩ = some x := by simp [World.cell?, h]
theorem list_snoc_lt {α : Type} {pre rest tot : List α} {x : α} (h : pre ++ (x :: rest) = tot) : pre.length < tot.length := by rw [← h]; simp
set_option maxRecDepth 100000 in
set_option maxHeartbeats 4000000 in
theorem clashes1_in (n : Nat) (hn : 1 ≤ n) (l Ba Bb : Nat) (a b : List Edit) (va vb : Value) (fa fb : Nat × Nat) (ha : ∀ e ∈ a, EdOk e) (hb : ∀ e ∈ b, EdOk e) (J Jx : List (Nat × Nat) → World → Prop)
    (hJb : ∀ {s : List (Nat × Nat)} {A B : World}, J s A → Below A.heap.size A B → J s B)
    (hY : ∀ pre x W, J pre W → pre.length < (clashP a b).length → YieldAt Fence.wide (n - 1) Try.prog l #[.agg #[.int .i64 (x.1 : Nat), .int .i64 (x.2 : Nat)]] W fun e W' =>
      (e = .returned (.bool true) ∧ J (pre ++ [x]) W' ∧ Keeps Tk W W') ∨ (e = .returned (.bool false) ∧ Jx (pre ++ [x]) W'))
    (W : World) (hA : W.heap[Ba]? = some (.cells #[va] 25 fa)) (hB : W.heap[Bb]? = some (.cells #[vb] 25 fb)) (hEa : EditsAt W va a) (hEb : EditsAt W vb b) (h0 : J [] W) :
    CallsIn Fence.wide n Try.prog 58 #[.func (.yield l) #[] #[], .pointer (some ⟨Ba, 0, none⟩), .pointer (some ⟨Bb, 0, none⟩)] W fun e W' => (∃ v, e = .returned v) ∧
      ((∃ ys, ys = clashP a b ∧ J ys W') ∨ (∃ pre, (pre <+: clashP a b ∧ pre ≠ []) ∧ Jx pre W')) := by
  obtain ⟨aa, ca, rfl, hca, hma⟩ := hEa.form
  obtain ⟨ab, cb, rfl, hcb, hmb⟩ := hEb.form
  unfold maxLen at hma hmb
  have hcA := box_cell hA
  have hfw : Fence.wide.fn 58 := trivial
  refine callsIn_of_wp Try.func58 rfl hfw ?_ rfl
  simp only [Try.ntmps58, List.size_toArray, List.length_cons, List.length_nil, Nat.reduceAdd, Nat.reduceSub, Array.replicate_succ, Array.replicate_zero, List.push_toArray, List.append_toArray, List.nil_append, List.cons_append]
  gi_wp2
  gi_loopw [10] (fun i wr => ∃ (k : Nat) (pre : List (Nat × Nat)), k ≤ a.length ∧ i = .int .i64 k ∧ Hid (pre ++ clashGo b (a.drop k) k = clashP a b) ∧ J pre wr ∧ Keeps Tk W wr) (fun i _ => a.length - (intOf i).toNat)
  case atStart => exact ⟨0, [], Nat.zero_le _, rfl, hidep rfl, h0, Keeps.refl _ _⟩
  case round =>
    obtain ⟨k, pre, hk, rfl, HP, hJ0, hkp⟩ := hrel
    by_cases hlt : k < a.length
    · obtain ⟨bx, ox, u, rfl, hbx, hc0, hc1, hc2, hu⟩ := (hEa.keeps hkp tkS tkE).at hlt
      have hokx := ha _ (List.getElem_mem hlt)
      have HG := hidep (HP.out.symm.trans (congrArg (pre ++ ·) (clashGo_step (b := b) hlt)))
      clear HP
      generalize a[k] = x at *
      have hEo := hkp.2 _ _ _ _ tkL hB
      obtain ⟨p, d, ins⟩ := x
      simp only at hc0 hc1 hu
      obtain ⟨au, cu, rfl, _, _⟩ := hu.form
      obtain ⟨wo, hwo⟩ : ∃ wo : World, wo = wr := ⟨_, rfl⟩
      subst hwo
      have hcB := box_cell hEo
      have hBl := lt_of_block hEo
      have hn5 := heap_alloc_new wo (.cells #[.int .i64 p, .int .i64 d, .slice au ins.length cu] 36)
      have hJ5 := hJb hJ0 (show Below wo.heap.size wo (wo.alloc (.cells #[.int .i64 p, .int .i64 d, .slice au ins.length cu] 36)) from (Below.refl _ _).alloc (Nat.le_refl _) _)
      have hk5 := (Keeps.alloc Tk wo (.cells #[.int .i64 p, .int .i64 d, .slice au ins.length cu] 36))
      clear hJ0
      gi_wp2
      gi_loopw [17] (fun i wi => ∃ (j : Nat) (pre' : List (Nat × Nat)), j ≤ b.length ∧ i = .int .i64 j ∧ Hid (pre' ++ (clashRow ⟨p, d, ins⟩ k (b.drop j) j ++ clashGo b (a.drop (k + 1)) (k + 1)) = clashP a b) ∧ J pre' wi ∧ Keeps Tk wo wi ∧ wi.heap[wo.heap.size]? = some (.cells #[.int .i64 p, .int .i64 d, .slice au ins.length cu] 36 (0, 0))) (fun i _ => b.length - (intOf i).toNat)
      case atStart => exact ⟨0, pre, Nat.zero_le _, rfl, hidep HG.out.symm, hJ5, hk5, hn5⟩
      case round =>
        obtain ⟨j, pre', hj, rfl, HP, hJ1, hk1, h5⟩ := hrel
        clear hJ5 hk5 hn5
        by_cases hlj : j < b.length
        · obtain ⟨by_, oy, u', rfl, hby, hd0, hd1, hd2, hu'⟩ := (hEb.keeps (hkp.trans hk1) tkS tkE).at hlj
          have hoky := hb _ (List.getElem_mem hlj)
          have HG1 := hidep (HP.out.symm.trans (congrArg (fun q => pre' ++ (q ++ clashGo b (a.drop (k + 1)) (k + 1))) (clashRow_step (x := ⟨p, d, ins⟩) (i := k) hlj)))
          clear HP
          generalize b[j] = y at *
          obtain ⟨p', d', ins'⟩ := y
          simp only at hd0 hd1 hu'
          obtain ⟨h50, h51, h52⟩ := box3_cell h5
          have h5l := lt_of_block h5
          have hux := hu.keeps hk1 tkS
          have hBa : ∀ o, Below wr.heap.size wr (wr.alloc o) := fun o => (Below.refl _ _).alloc (Nat.le_refl _) o
          have HC := hidep (fun o => mclash_any ⟨p, d, ins⟩ ⟨p', d', ins'⟩ _ _ (wr.alloc o) (hux.below (hBa o)) (hu'.below (hBa o)) hokx hoky)
          obtain ⟨_, _, rfl, _, _⟩ := hu'.form
          clear hux hu' hoky
          by_cases hcl : clashB ⟨p, d, ins⟩ ⟨p', d', ins'⟩ = true
          · simp only [hcl] at HC HG1
            clear hcl
            have hlen : pre'.length < (clashP a b).length := list_snoc_lt (HG1.out.symm.trans rfl)
            gi_wp2_with (refine ⟨trivial, ?_⟩; gi_at_call 59; refine (callsIn_wide.2 (HC.out _)).mono ?_; rintro e w1 ⟨rfl, hb1⟩; have hJ2 := hJb hJ1 ((hBa _).trans (hb1.mono (by simp))); have hh5 := (hb1.block _ (by simp; have := lt_of_block h5; omega)).trans ((Below.heap_alloc wr _ _ (lt_of_block h5)).trans h5); have hk2 := hk1.trans (Keeps.below Tk ((hBa _).trans (hb1.mono (by simp)))); obtain ⟨fn, tmps, assign, body, hy, hR⟩ := hY pre' (k, j) w1 hJ2 hlen; dsimp only at hy)
            refine hR.mono ?_
            rintro e W3 (⟨rfl, hJ3, hk3⟩ | ⟨rfl, hJx3⟩)
            · gi_wp2
              go_roundw
              case rel => exact ⟨j + 1, pre' ++ [(k, j)], by omega, by go_num, hidep (by rw [HG1.out]; simp), hJ3, hk2.trans hk3, hk3.2 _ _ _ _ tkE hh5⟩
              case measure => simp [intOf]; omega
            · gi_wp2
              refine bodyPost_ret (results_none rfl _ _ _) rfl ?_
              exact ⟨⟨_, rfl⟩, .inr ⟨pre' ++ [(k, j)], ⟨⟨clashRow ⟨p, d, ins⟩ k (b.drop (j + 1)) (j + 1) ++ clashGo b (a.drop (k + 1)) (k + 1), by rw [HG1.out]; simp⟩, by simp⟩, hJx3⟩⟩
          · have hcf : clashB ⟨p, d, ins⟩ ⟨p', d', ins'⟩ = false := by simpa using hcl
            clear hcl
            simp only [hcf] at HC HG1
            clear hcf
            gi_wp2_with (refine ⟨trivial, ?_⟩; gi_at_call 59; refine (callsIn_wide.2 (HC.out _)).mono ?_; rintro e w1 ⟨rfl, hb1⟩; have hJ2 := hJb hJ1 ((hBa _).trans (hb1.mono (by simp))); have hh5 := (hb1.block _ (by simp; have := lt_of_block h5; omega)).trans ((Below.heap_alloc wr _ _ (lt_of_block h5)).trans h5); have hk2 := hk1.trans (Keeps.below Tk ((hBa _).trans (hb1.mono (by simp)))))
            refine ⟨fun _ h => (by cases h), ?_⟩
            gi_wp2
            go_roundw
            case rel => exact ⟨j + 1, pre', by omega, by go_num, hidep (by rw [HG1.out]; simp), hJ2, hk2, hh5⟩
            case measure => simp [intOf]; omega
        · gi_wp2
          have hjl : j = b.length := by omega
          go_roundw
          case rel => exact ⟨k + 1, pre', by omega, by go_num, hidep (by have := HP.out; rw [hjl, List.drop_length, clashRow, List.nil_append] at this; exact this), hJ1, hkp.trans hk1⟩
          case measure => simp [intOf]; omega
    · gi_wp2
      go_end0
      have hkl : k = a.length := by omega
      have := HP.out
      rw [hkl, List.drop_length, clashGo, List.append_nil] at this
      exact ⟨⟨_, rfl⟩, .inl ⟨pre, this, hJ0⟩⟩
theorem clashes_stops (n : Nat) (hn : 1 ≤ n) (Ba Bb : Nat) (a b : List Edit) (va vb : Value) (fa fb : Nat × Nat) (ha : ∀ e ∈ a, EdOk e) (hb : ∀ e ∈ b, EdOk e)
    (w : World) (hA : w.heap[Ba]? = some (.cells #[va] 25 fa)) (hB : w.heap[Bb]? = some (.cells #[vb] 25 fb)) (hEa : EditsAt w va a) (hEb : EditsAt w vb b) :
    SeqStopsK Fence.wide n Try.prog 58 #[.pointer (some ⟨Ba, 0, none⟩), .pointer (some ⟨Bb, 0, none⟩)] (fun x : Nat × Nat => #[Value.agg #[.int .i64 (x.1 : Nat), .int .i64 (x.2 : Nat)]]) (Keeps Tk) (fun ys => ys = clashP a b) (fun pre => pre <+: clashP a b ∧ pre ≠ []) (clashP a b).length w :=
  fun l J Jx W hW hJ _ hY h0 => clashes1_in n hn l Ba Bb a b va vb fa fb ha hb J Jx (fun hs hb => abides_below hJ hs hb) hY W ((hW.block _ (lt_of_block hA)).trans hA) ((hW.block _ (lt_of_block hB)).trans hB) (hEa.below hW) (hEb.below hW) h0
set_option maxHeartbeats 1000000 in
theorem clashes_any (aa ab : Option Addr) (la ca lb cb : Nat) (w : World) :
    Calls Try.prog 42 #[.slice aa la ca, .slice ab lb cb] w fun e w' => e = .returned (.func (.func 58) #[] #[.pointer (some ⟨w.heap.size, 0, none⟩), .pointer (some ⟨w.heap.size + 1, 0, none⟩)]) ∧ w' = (w.alloc (.cells #[.slice aa la ca] 25)).alloc (.cells #[.slice ab lb cb] 25) := by
  go_enter Try.func42, Try.ntmps42
  go_wp2
  go_ret
  exact ⟨rfl, rfl⟩
end Go.Proofs.Ythdafajhohdkoaa
