/- Reader: sets of numbers as bits; the reference's Bit; the iterator over a set's other elements. -/
import Derived.RangeFuncNested
import Derived.RangeFuncBound
import Derived.RangeFuncCalls
import Derived.RangeFuncLeaves
import Derived.RangeFuncWrites
import Derived.RangeFuncBox
import Derived.Shelf.Abstract
import Derived.Shelf.RegionOpen
import Derived.OwnWalkIn
import Derived.TacticsInMore
import Derived.LoopNIn
import Derived.LoopIn
import Derived.Lib.RabinKarpLaws
import Derived.Test.YtfljgcpfmhhgcaaRdW
namespace Go.Proofs.Ytfljgcpfmhhgcaa
open Go.RowKit Go.Lab
attribute [local go_sem] Oper.semAt_some
theorem testBit_int (s k : Nat) : (((s : Int) / 2 ^ k).tmod 2 == 1) = s.testBit k := by
  have h1 : ((s : Int) / 2 ^ k) = ((s / 2 ^ k : Nat) : Int) := by simp
  rw [h1, Int.tmod_eq_emod_of_nonneg (Int.natCast_nonneg _), Nat.testBit_eq_decide_div_mod_eq]
  have h2 : ((s / 2 ^ k : Nat) : Int) % 2 = ((s / 2 ^ k % 2 : Nat) : Int) := by simp
  rw [h2]
  rcases Nat.mod_two_eq_zero_or_one (s / 2 ^ k) with h | h <;> simp [h]
set_option maxHeartbeats 400000 in
theorem bit_any (s k : Nat) (w : World) (hk : k < 16) : Calls Try.prog 36 #[.int .i64 (s : Nat), .int .i64 (k : Nat)] w fun e w' => e = .returned (.bool (s.testBit k)) ∧ w = w' := by
  go_enter Try.func36, Try.ntmps36
  go_wp2
  all_goals
    go_ret
    exact ⟨ret_val (congrArg Value.bool (testBit_int s k)), rfl⟩
/-- The elements of a set among the first n, other than k. -/
def othersL (s n : Nat) (k : Int) : List Nat := (List.range n).filter fun j => decide ((j : Int) ≠ k) && s.testBit j
def othersFrom (s n : Nat) (k : Int) (i : Nat) : List Nat := ((List.range n).drop i).filter fun j => decide ((j : Int) ≠ k) && s.testBit j
theorem othersFrom_step {s n : Nat} {k : Int} {i : Nat} (h : i < n) : othersFrom s n k i = (if decide ((i : Int) ≠ k) && s.testBit i then [i] else []) ++ othersFrom s n k (i + 1) := by
  unfold othersFrom
  rw [List.drop_eq_getElem_cons (by simpa using h), List.filter_cons]
  simp only [List.getElem_range]
  split <;> simp
theorem othersL_from (s n : Nat) (k : Int) : othersL s n k = othersFrom s n k 0 := by simp [othersL, othersFrom]
theorem othersL_mem {s n : Nat} {k : Int} {j : Nat} : j ∈ othersL s n k ↔ j < n ∧ (j : Int) ≠ k ∧ s.testBit j = true := by simp [othersL]
theorem othersL_len (s n : Nat) (k : Int) : (othersL s n k).length ≤ n := Nat.le_trans (List.length_filter_le _ _) (by simp)
theorem and_bit (s j : Nat) (hs : s < 512) : (bits BinOp.and IntKind.i64 ((s : Int) / 2 ^ j) 1 == 1) = s.testBit j := by
  have h1 : ((s : Int) / 2 ^ j) = ((s / 2 ^ j : Nat) : Int) := by simp
  rw [h1, Go.Proofs.and_one _ (Nat.lt_of_le_of_lt (Nat.div_le_self ..) (by omega)), Nat.testBit_eq_decide_div_mod_eq]
  rcases Nat.mod_two_eq_zero_or_one (s / 2 ^ j) with h | h <;> simp [h]
theorem and_bit0 (s j : Nat) (hs : s < 512) : (bits BinOp.and IntKind.i64 ((s : Int) / 2 ^ j) 1 == 0) = !s.testBit j := by
  have h1 : ((s : Int) / 2 ^ j) = ((s / 2 ^ j : Nat) : Int) := by simp
  rw [h1, Go.Proofs.and_one _ (Nat.lt_of_le_of_lt (Nat.div_le_self ..) (by omega)), Nat.testBit_eq_decide_div_mod_eq]
  rcases Nat.mod_two_eq_zero_or_one (s / 2 ^ j) with h | h <;> simp [h]
/-- The three boxes of an iterator lie as they lay. -/
def Kp3 (B : Nat) (W W' : World) : Prop := ∀ b, B ≤ b → b < B + 3 → W'.heap[b]? = W.heap[b]?
theorem Kp3.trans {B : Nat} {a b c : World} (h : Kp3 B a b) (k : Kp3 B b c) : Kp3 B a c := fun x h1 h2 => (k x h1 h2).trans (h x h1 h2)
theorem Kp3.refl (B : Nat) (w : World) : Kp3 B w w := fun _ _ _ => rfl
theorem Kp3.putObj {B n : Nat} (hn : B + 3 ≤ n) (W : World) (l : Nat) (o o' : Obj) (h : n ≤ l) (_ : W.heap[l]? = some o) (_ : o.isCells = false) (_ : o.isWalk = false) : Kp3 B W (W.putObj l o') := fun b _ h2 => World.putObj_heap_other (by omega)
theorem box1_cell {w : World} {b : Nat} {x : Value} {t : TypeId} {fz : Nat × Nat} (h : w.heap[b]? = some (.cells #[x] t fz)) : w.cell? ⟨b, 0, none⟩ = some x := by simp [World.cell?, h]
theorem abides_below {β : Type} {B : Nat} {J : β → World → Prop} (h : AbidesFrom B J) {s : β} {W W' : World} (hs : J s W) (hb : Below W.heap.size W W') : J s W' :=
  h s W W' none hs ⟨hb.os, hb.tape, hb.output, hb.size, fun k hk _ => hb.block k hk⟩ (fun r e => by cases e)
/-- The boxes of the iterator: the set, how many, the element that is left out. -/
def OBox (w : World) (B s n : Nat) (k : Int) : Prop := w.heap[B]? = some (.cells #[.int .i64 (s : Nat)] 3) ∧ w.heap[B + 1]? = some (.cells #[.int .i64 (n : Nat)] 3) ∧ w.heap[B + 2]? = some (.cells #[.int .i64 k] 3)
theorem OBox.kp {w w' : World} {B s n : Nat} {k : Int} (h : OBox w B s n k) (hk : Kp3 B w w') : OBox w' B s n k :=
  ⟨(hk B (Nat.le_refl _) (by omega)).trans h.1, (hk (B + 1) (by omega) (by omega)).trans h.2.1, (hk (B + 2) (by omega) (by omega)).trans h.2.2⟩
theorem OBox.below {w w' : World} {B s n : Nat} {k : Int} (h : OBox w B s n k) (hb : Below w.heap.size w w') : OBox w' B s n k :=
  ⟨(hb.block _ (lt_of_block h.1)).trans h.1, (hb.block _ (lt_of_block h.2.1)).trans h.2.1, (hb.block _ (lt_of_block h.2.2)).trans h.2.2⟩
set_option maxRecDepth 100000 in
set_option maxHeartbeats 2000000 in
theorem others1_in (d : Nat) (hd : 1 ≤ d) (l B s n : Nat) (k : Int) (hs : s < 512) (hn : n ≤ 8) (hk0 : -1 ≤ k) (hk8 : k ≤ 8) (J Jx : List Nat → World → Prop)
    (hY : ∀ pre x W, x ∈ othersL s n k → J pre W → pre.length < (othersL s n k).length → YieldAt Fence.wide (d - 1) Try.prog l #[.int .i64 (x : Nat)] W fun e W' =>
      (e = .returned (.bool true) ∧ J (pre ++ [x]) W' ∧ Kp3 B W W') ∨ (e = .returned (.bool false) ∧ Jx (pre ++ [x]) W'))
    (W : World) (hO : OBox W B s n k) (h0 : J [] W) :
    CallsIn Fence.wide d Try.prog 61 #[.func (.yield l) #[] #[], .pointer (some ⟨B + 1, 0, none⟩), .pointer (some ⟨B + 2, 0, none⟩), .pointer (some ⟨B, 0, none⟩)] W fun e W' => (∃ v, e = .returned v) ∧
      ((∃ ys, ys = othersL s n k ∧ J ys W') ∨ (∃ pre, (pre <+: othersL s n k ∧ pre ≠ []) ∧ Jx pre W')) := by
  have hc1 := box1_cell hO.2.1
  have hfw : Fence.wide.fn 61 := trivial
  refine callsIn_of_wp Try.func61 rfl hfw ?_ rfl
  simp only [Try.ntmps61, List.size_toArray, List.length_cons, List.length_nil, Nat.reduceAdd, Nat.reduceSub, Array.replicate_succ, Array.replicate_zero, List.push_toArray, List.append_toArray, List.nil_append, List.cons_append]
  gi_wp2
  clear hc1
  gi_loopw [7] (fun i wr => ∃ (j : Nat) (pre : List Nat), j ≤ n ∧ i = .int .i64 j ∧ Hid (pre ++ othersFrom s n k j = othersL s n k) ∧ J pre wr ∧ Kp3 B W wr) (fun i _ => n - (intOf i).toNat)
  case atStart => exact ⟨0, [], Nat.zero_le _, rfl, hidep (othersL_from s n k).symm, h0, Kp3.refl _ _⟩
  case round =>
    obtain ⟨j, pre, hj, rfl, HP, hJ0, hkp⟩ := hrel
    have hOr := hO.kp hkp
    have hc0 := box1_cell hOr.1
    have hc1 := box1_cell hOr.2.1
    have hc2 := box1_cell hOr.2.2
    by_cases hlt : j < n
    · have HG := hidep (HP.out.symm.trans (congrArg (pre ++ ·) (othersFrom_step (s := s) (k := k) hlt)))
      clear HP
      have hab := and_bit s j hs
      have hj9 : (j : Int) < 9 := by omega
      have hj0 : (0 : Int) ≤ j := by omega
      by_cases hjk : (j : Int) = k
      · have HN : Hid (pre ++ othersFrom s n k (j + 1) = othersL s n k) := hidep (by rw [HG.out, hjk]; simp)
        clear HG
        subst hjk
        gi_wp2
        refine ⟨fun _ h => (by cases h), ?_⟩
        gi_wp2
        go_roundw
        case rel => exact ⟨j + 1, pre, by omega, by go_num, HN, hJ0, hkp⟩
        case measure => simp [intOf]; omega
      · have hdk : decide ((j : Int) ≠ k) = true := by simp [hjk]
        rw [hdk, Bool.true_and] at HG
        clear hdk
        cases hb : s.testBit j with
        | true =>
          rw [hb] at hab HG
          have hlen : pre.length < (othersL s n k).length := by rw [HG.out]; simp
          clear hb
          have hmem : j ∈ othersL s n k := by rw [HG.out]; simp
          obtain ⟨fn, tmps, assign, body, hy, hR⟩ := hY pre j wr hmem hJ0 hlen
          clear hmem
          gi_wp2
          refine hR.mono ?_
          rintro e W3 (⟨rfl, hJ3, hk3⟩ | ⟨rfl, hJx3⟩)
          · gi_wp2
            go_roundw
            case rel => exact ⟨j + 1, pre ++ [j], by omega, by go_num, hidep (by rw [HG.out]; simp), hJ3, hkp.trans hk3⟩
            case measure => simp [intOf]; omega
          · gi_wp2
            refine bodyPost_ret (results_none rfl _ _ _) rfl ?_
            exact ⟨⟨_, rfl⟩, .inr ⟨pre ++ [j], ⟨⟨othersFrom s n k (j + 1), by rw [HG.out]; simp⟩, by simp⟩, hJx3⟩⟩
        | false =>
          rw [hb] at hab HG
          clear hb
          gi_wp2
          refine ⟨fun _ h => (by cases h), ?_⟩
          gi_wp2
          go_roundw
          case rel => exact ⟨j + 1, pre, by omega, by go_num, hidep (by rw [HG.out]; simp), hJ0, hkp⟩
          case measure => simp [intOf]; omega
    · gi_wp2
      go_end0
      have hkl : j = n := by omega
      have := HP.out
      have h0 : othersFrom s n k n = [] := by unfold othersFrom; rw [List.drop_of_length_le (by simp)]; rfl
      rw [hkl, h0, List.append_nil] at this
      exact ⟨⟨_, rfl⟩, .inl ⟨pre, this, hJ0⟩⟩
/-- An element of the set other than k. -/
abbrev OthE (s n : Nat) (k : Int) : Type := {x : Nat // x ∈ othersL s n k}
def othV {s n : Nat} {k : Int} (l : List (OthE s n k)) : List Nat := l.map (·.1)
theorem othV_snoc {s n : Nat} {k : Int} (l : List (OthE s n k)) (x : OthE s n k) : othV (l ++ [x]) = othV l ++ [x.1] := by simp [othV]
theorem others_stops (d : Nat) (hd : 1 ≤ d) (B s n : Nat) (k : Int) (hs : s < 512) (hn : n ≤ 8) (hk0 : -1 ≤ k) (hk8 : k ≤ 8) (w : World) (hO : OBox w B s n k) :
    SeqStopsK Fence.wide d Try.prog 61 #[.pointer (some ⟨B + 1, 0, none⟩), .pointer (some ⟨B + 2, 0, none⟩), .pointer (some ⟨B, 0, none⟩)] (fun x : OthE s n k => #[Value.int .i64 (x.1 : Nat)]) (Kp3 B) (fun ys => othV ys = othersL s n k) (fun pre => othV pre <+: othersL s n k ∧ pre ≠ []) (othersL s n k).length w := by
  intro l J Jx W hW _ _ hY h0
  have H := others1_in d hd l B s n k hs hn hk0 hk8 (fun p W => ∃ p' : List (OthE s n k), othV p' = p ∧ J p' W) (fun p W => ∃ p' : List (OthE s n k), othV p' = p ∧ Jx p' W) (by
    rintro pre x W1 hx ⟨p', rfl, hJ⟩ hlen
    obtain ⟨fn, tmps, assign, body, hy, hR⟩ := hY p' ⟨x, hx⟩ W1 hJ (by simpa [othV] using hlen)
    refine ⟨fn, tmps, assign, body, hy, hR.mono ?_⟩
    rintro e W' (⟨rfl, hJ', hk⟩ | ⟨rfl, hJx⟩)
    · exact .inl ⟨rfl, ⟨_, othV_snoc p' ⟨x, hx⟩, hJ'⟩, hk⟩
    · exact .inr ⟨rfl, ⟨_, othV_snoc p' ⟨x, hx⟩, hJx⟩⟩) W (hO.below hW) ⟨[], rfl, h0⟩
  refine H.mono ?_
  rintro e W' ⟨hv, (⟨ys, rfl, p', hp', hJ⟩ | ⟨pre, ⟨hp, hne⟩, p', rfl, hJ⟩)⟩
  · exact ⟨hv, .inl ⟨p', hp', hJ⟩⟩
  · exact ⟨hv, .inr ⟨p', ⟨hp, fun e => hne (by rw [e]; rfl)⟩, hJ⟩⟩
set_option maxHeartbeats 1000000 in
theorem others_any (s n : Nat) (k : Int) (w : World) :
    Calls Try.prog 40 #[.int .i64 (s : Nat), .int .i64 (n : Nat), .int .i64 k] w fun e w' => e = .returned (.func (.func 61) #[] #[.pointer (some ⟨w.heap.size + 1, 0, none⟩), .pointer (some ⟨w.heap.size + 2, 0, none⟩), .pointer (some ⟨w.heap.size, 0, none⟩)]) ∧ OBox w' w.heap.size s n k ∧ w'.heap.size = w.heap.size + 3 ∧ Below w.heap.size w w' := by
  have HB : Hid (Below w.heap.size w (((w.alloc (.cells #[.int .i64 (s : Nat)] 3)).alloc (.cells #[.int .i64 (n : Nat)] 3)).alloc (.cells #[.int .i64 k] 3))) := hidep ((((Below.refl _ _).alloc (Nat.le_refl _) _).alloc (by simp) _).alloc (by simp; omega) _)
  have HO : Hid (OBox (((w.alloc (.cells #[.int .i64 (s : Nat)] 3)).alloc (.cells #[.int .i64 (n : Nat)] 3)).alloc (.cells #[.int .i64 k] 3)) w.heap.size s n k) := hidep (by
    refine ⟨?_, ?_, ?_⟩
    · rw [Below.heap_alloc _ _ _ (by simp; omega), Below.heap_alloc _ _ _ (by simp)]; exact heap_alloc_new _ _
    · rw [Below.heap_alloc _ _ _ (by simp)]; have := heap_alloc_new (w.alloc (.cells #[.int .i64 (s : Nat)] 3)) (.cells #[.int .i64 (n : Nat)] 3); simpa using this
    · have := heap_alloc_new ((w.alloc (.cells #[.int .i64 (s : Nat)] 3)).alloc (.cells #[.int .i64 (n : Nat)] 3)) (.cells #[.int .i64 k] 3); simpa using this)
  go_enter Try.func40, Try.ntmps40
  go_wp2
  go_ret
  exact ⟨rfl, HO.out, by simp, HB.out⟩
end Go.Proofs.Ytfljgcpfmhhgcaa
