/- Contracts of the library at this use: slices.Values of ints, slices.Collect of it, slices.Sorted of it, slices.Equal. -/
import Derived.Test.YtfljgcpfmhhgcaaRdX
import Derived.Test.YtfljgcpfmhhgcaaRdY
import Derived.Test.YtfljgcpfmhhgcaaRdSh
import Derived.RangeFuncWrites
namespace Go.Proofs.Ytfljgcpfmhhgcaa
open Go.RowKit Go.Lab Go.Maps Go.Sort Go.Shelf
attribute [local go_sem] Oper.semAt_some
/-- The blocks below n lie as they lay. -/
def KpB (n : Nat) (W W' : World) : Prop := W.heap.size ≤ W'.heap.size ∧ ∀ b, b < n → W'.heap[b]? = W.heap[b]?
theorem KpB.refl (n : Nat) (W : World) : KpB n W W := ⟨Nat.le_refl _, fun _ _ => rfl⟩
theorem KpB.trans {n : Nat} {a b c : World} (h : KpB n a b) (k : KpB n b c) : KpB n a c := ⟨Nat.le_trans h.1 k.1, fun x hx => (k.2 x hx).trans (h.2 x hx)⟩
theorem KpB.of_below {n : Nat} {a b : World} (h : Below n a b) : KpB n a b := ⟨h.size, fun x hx => h.block x hx⟩
theorem KpB.putObj {n m : Nat} (hn : n ≤ m) (W : World) (l : Nat) (o o' : Obj) (h : m ≤ l) (_ : W.heap[l]? = some o) (_ : o.isCells = false) (_ : o.isWalk = false) : KpB n W (W.putObj l o') := ⟨by simp, fun b hb => World.putObj_heap_other (by omega)⟩
theorem KpB.keeps {w W : World} (h : KpB w.heap.size w W) : Keeps (fun _ => True) w W := ⟨h.1, fun b _ _ _ _ hb => (h.2 b (lt_of_block hb)).trans hb⟩
set_option maxRecDepth 100000 in
set_option maxHeartbeats 4000000 in
theorem values1_in (d : Nat) (hd : 1 ≤ d) (l B : Nat) (a : List Int) (va : Value) (w0 : World) (hA : w0.heap[B]? = some (.cells #[va] 22 (0, 0))) (hE : IntsAt w0 va a) (J Jx : List Int → World → Prop)
    (hY : ∀ pre x W, J pre W → pre.length < a.length → YieldAt Fence.wide (d - 1) Try.prog l #[Value.int .i64 x] W fun e W' =>
      (e = .returned (.bool true) ∧ J (pre ++ [x]) W' ∧ KpB w0.heap.size W W') ∨ (e = .returned (.bool false) ∧ Jx (pre ++ [x]) W'))
    (W : World) (hW : KpB w0.heap.size w0 W) (h0 : J [] W) :
    CallsIn Fence.wide d Try.prog 64 #[.func (.yield l) #[] #[], .pointer (some ⟨B, 0, none⟩)] W fun e W' => (∃ v, e = .returned v) ∧
      ((∃ ys, ys = a ∧ J ys W') ∨ (∃ pre, pre <+: a ∧ Jx pre W')) := by
  obtain ⟨aa, ca, rfl, hca, hma⟩ := hE.1.form
  unfold maxLen at hma
  have hcA := box1_cell ((hW.2 _ (lt_of_block hA)).trans hA)
  have hfw : Fence.wide.fn 64 := trivial
  refine callsIn_of_wp Try.func64 rfl hfw ?_ rfl
  simp only [Try.ntmps64, List.size_toArray, List.length_cons, List.length_nil, Nat.reduceAdd, Nat.reduceSub, Array.replicate_succ, Array.replicate_zero, List.push_toArray, List.append_toArray, List.nil_append, List.cons_append]
  gi_wp2
  gi_loopw [7] (fun i wr => ∃ k : Nat, k ≤ a.length ∧ i = .int .i64 k ∧ J (a.take k) wr ∧ KpB w0.heap.size w0 wr) (fun i _ => a.length - (intOf i).toNat)
  case atStart => exact ⟨0, Nat.zero_le _, rfl, h0, hW⟩
  case round =>
    obtain ⟨k, hk, rfl, hJ0, hkp⟩ := hrel
    by_cases hlt : k < a.length
    · obtain ⟨bx, ox, rfl, hbx, hc0⟩ := ints_get (l := a) (a := aa) (c := ca) (k := k) ⟨hE.1.keeps hkp.keeps, hE.2⟩ hlt
      have HT : Hid (a.take (k + 1) = a.take k ++ [a[k]] ∧ (a.take k).length < a.length) := hidep ⟨List.take_succ_eq_append_getElem hlt, by simp; omega⟩
      generalize a[k] = x at *
      obtain ⟨fn, tmps, assign, body, hy, hR⟩ := hY _ x _ hJ0 HT.out.2
      gi_wp2
      refine hR.mono ?_
      rintro e W3 (⟨rfl, hJ3, hk3⟩ | ⟨rfl, hJx3⟩)
      · gi_wp2
        go_roundw
        case rel => exact ⟨k + 1, by omega, by go_num, by rw [HT.out.1]; exact hJ3, hkp.trans hk3⟩
        case measure => simp [intOf]; omega
      · gi_wp2
        refine bodyPost_ret (results_none rfl _ _ _) rfl ?_
        exact ⟨⟨_, rfl⟩, .inr ⟨_, by rw [← HT.out.1]; exact List.take_prefix _ _, hJx3⟩⟩
    · gi_wp2
      go_end0
      have hkl : k = a.length := by omega
      rw [hkl, List.take_length] at hJ0
      exact ⟨⟨_, rfl⟩, .inl ⟨_, rfl, hJ0⟩⟩
theorem values_stops (d : Nat) (hd : 1 ≤ d) (B : Nat) (a : List Int) (va : Value) (w : World) (hA : w.heap[B]? = some (.cells #[va] 22 (0, 0))) (hE : IntsAt w va a) :
    SeqStopsK Fence.wide d Try.prog 64 #[.pointer (some ⟨B, 0, none⟩)] (fun x : Int => #[Value.int .i64 x]) (KpB w.heap.size) (fun ys => ys = a) (fun pre => pre <+: a) a.length w :=
  fun l J Jx W hW _ _ hY h0 => values1_in d hd l B a va w hA hE J Jx hY W (KpB.of_below hW) h0
set_option maxHeartbeats 1000000 in
theorem values_any (aa : Option Addr) (la ca : Nat) (w : World) :
    Calls Try.prog 45 #[.slice aa la ca] w fun e w' => e = .returned (.func (.func 64) #[] #[.pointer (some ⟨w.heap.size, 0, none⟩)]) ∧ w' = w.alloc (.cells #[.slice aa la ca] 22) := by
  go_enter Try.func45, Try.ntmps45
  go_wp2
  go_ret
  exact ⟨rfl, rfl⟩
theorem wpListIn_append_rd {F : Fence} {nf : Nat} {P : Program} (w : World) {ops : Array Oper} {rest : List Oper} {o : Oper} {a : Act} {Q : Exit → Act → World → Prop} (hgd : o.guard = none) (s x : Operand) {t e : TypeId} {z : Value} {size bytes : Nat}
    (ho : o.op = .call { callee := .builtin .append, args := #[s, x], argTypes := #[t, t] })
    (hT : SlT P t e z size bytes) (base : Nat) (v : Value) (n : Nat) (xs : List Value) (hs : a.eval s = v) (hown : w.ownsRow base e size v n xs)
    (T : TypeId → Prop) (y : Value) (m : Nat) (news : List Value) (hx : a.eval x = y) (hr : Rd w T size y m news) (h1 : ∀ u ∈ news, u.oneCell' = true)
    (h63 : n + m ≤ maxLen) (hbytes : (n + m) * bytes ≤ 140737488355328) (hbase : base ≤ w.heap.size)
    (h : ∀ v' w', w'.ownsRow base e size v' (n + m) (xs ++ news) → w.grownBy w' v.ownBlock → (v'.ownBlock = v.ownBlock ∨ v'.ownBlock = some w.heap.size) → (v' = .slice none 0 0 ↔ v = .slice none 0 0 ∧ m = 0) → wpListIn F nf P ops Q rest (a.put o.dst v') w') : wpListIn F nf P ops Q (o :: rest) a w := by
  refine wpListIn_plain hgd fun K hK => ?_
  obtain ⟨v', w', hrun, h2, h3, h4, h5⟩ := run_append_rd (P := P) w hT o.type base v n xs hown T y m news hr h1 h63 hbytes hbase
  unfold Oper.wpIn
  refine ⟨by simp [Oper.about, ho, resolve, Target.leads, Sem.run_pure], ?_⟩
  rw [Oper.semAt_plain F _ _ (by rw [ho]; intro c hc'; cases hc')]
  simp [execOp, ho, resolve, invoke, builtin, hs, hx, hrun, Result.andThen]
  exact hK _ _ (h v' w' h2 h3 h4 h5)
theorem intsC_snoc (pre : List Int) (x : Int) : intsC (pre ++ [x]) = intsC pre ++ [.int .i64 x] := by simp [intsC]
/-- The box of the slice that grows, and what it holds. -/
def GrowS (w : World) (pre : List Int) (W : World) : Prop := ∃ v, Boxed W w.heap.size 22 v ∧ W.ownsRow w.heap.size 3 1 v pre.length (intsC pre) ∧ True
set_option maxRecDepth 100000 in
set_option maxHeartbeats 4000000 in
theorem appendSeq_any (B : Nat) (a : List Int) (va : Value) (w : World) (hA : w.heap[B]? = some (.cells #[va] 22 (0, 0))) (hE : IntsAt w va a) (hN : a.length ≤ 1048576) :
    Calls Try.prog 81 #[.slice none 0 0, .func (.func 64) #[] #[.pointer (some ⟨B, 0, none⟩)]] w fun e w' => ∃ v, e = .returned v ∧ w'.ownsRow w.heap.size 3 1 v a.length (intsC a) ∧ Below w.heap.size w w' := by
  have hfw : Fence.wide.fn 81 := trivial
  have hfc : Fence.wide.fn 64 := trivial
  refine (callsIn_wide (n := 6)).1 ?_
  refine callsIn_of_wp_marks Try.func81 rfl hfw ?_ rfl
  simp only [Try.ntmps81, List.size_toArray, List.length_cons, List.length_nil, Nat.reduceAdd, Nat.reduceSub, Array.replicate_succ, Array.replicate_zero, List.push_toArray, List.append_toArray, List.nil_append, List.cons_append]
  have hb0 : ∀ o, Below w.heap.size w (w.alloc o) := fun o => (Below.refl _ _).alloc (Nat.le_refl _) o
  gi_wp2
  have bO := Boxed.new w 22 (.slice none 0 0)
  obtain ⟨W0, hW0⟩ : ∃ W0, w.alloc (.cells #[.slice none 0 0] 22) = W0 := ⟨_, rfl⟩
  have hB0 : Below w.heap.size w W0 := by rw [← hW0]; exact hb0 _
  have hsz : w.heap.size + 1 = W0.heap.size := by rw [← hW0]; simp
  rw [hW0] at bO ⊢
  clear hW0 hb0
  refine wpIn_rangeFunc_ownG rfl (by omega) (gf := 64) (lb := #[.pointer (some ⟨B, 0, none⟩)]) rfl hfc (enters_of Try.func64 (by kernel_rfl) rfl)
    (values_stops (6 - 1) (by omega) B a va w hA hE)
    (fun h k => KpB.trans h k) (KpB.putObj (n := w.heap.size) (m := W0.heap.size) (by omega)) hB0 (fun _ => rfl)
    (fun pre W => GrowS w pre W ∧ Below w.heap.size w W)
    (fun _ _ _ => False)
    (OwnFrom.and (Own.from (holdsRow_own w.heap.size w.heap.size 22 3 1 (fun pre => pre.length) (fun pre => intsC pre) (fun _ _ => True)) _) (ownFrom_below (Nat.le_refl _) (by omega)))
    (fun _ _ _ _ _ hs _ _ => hs)
    ⟨⟨_, bO, World.ownsRow_nil _ _ _ _, trivial⟩, hB0⟩
    ?a1 ?assign ?body ?done ?stop
  case assign =>
    intro l x W K hK
    gi_wp2
    exact hK
  case body =>
    rintro l pre x W ⟨⟨v, hv, hrow, _⟩, hBW⟩ hlt
    obtain ⟨ad, cp, rfl, _, _⟩ := (Rd.of_own hrow).form
    have hc := hv.cell
    have hfr := Rd.fresh W #[.int .i64 x] 3 1 1 rfl (by decide)
    have hpl : pre.length + 1 ≤ 1048576 := by omega
    gi_wp2_with (gi_at_builtin; refine wpListIn_append_rd _ rfl (.tmp 8) (.tmp 10) rfl slIntsR w.heap.size _ _ _ rfl (hrow.alloc _) _ _ _ _ rfl hfr (by intro u hu; simp at hu; rw [hu]; rfl) (by unfold maxLen; omega) (by omega) (by have := hBW.size; simp; omega) ?_; intro v' w1 hown' hgrow _ _; clear hfr; obtain ⟨hv1, hv2, hr2, hk2, hb2⟩ := hv.appended (by decide) hrow hBW.size (Nat.le_refl _) hown' hgrow; obtain ⟨ad', cp', rfl, _, _⟩ := (Rd.of_own hown').form; have hc1 := hv1.cell; have hf1 := hv1.frozen)
    have hBX := hBW.trans hb2
    exact ⟨hk2.from _, ⟨hb2.size, fun b hb => hb2.block b hb⟩, ⟨_, hv2, by rw [intsC_snoc, List.length_append]; exact hr2, trivial⟩, hBX⟩
  case done =>
    rintro D ys W hD rfl ⟨⟨v, hv, hrow, _⟩, hBW⟩ hK
    have hc := hv.cell
    obtain ⟨ad', cp', rfl, _, _⟩ := (Rd.of_own hrow).form
    gi_wp2
    refine ⟨by simp, .inl ⟨_, _, rfl, run_takeDeferred hK, ?_⟩⟩
    exact ⟨_, results_tmp rfl _ _ _, _, rfl, ownsRow_putObj hrow _ hK rfl, hBW.trans (belowK_b (w := w) (Nat.le_refl _) W D _ _ (by omega) hK rfl rfl)⟩
  case stop =>
    rintro D c pre W _ _ h _
    exact h.elim
set_option maxHeartbeats 1000000 in
theorem collect_any (B : Nat) (a : List Int) (va : Value) (w : World) (hA : w.heap[B]? = some (.cells #[va] 22 (0, 0))) (hE : IntsAt w va a) (hN : a.length ≤ 1048576) :
    Calls Try.prog 62 #[.func (.func 64) #[] #[.pointer (some ⟨B, 0, none⟩)]] w fun e w' => ∃ v, e = .returned v ∧ w'.ownsRow w.heap.size 3 1 v a.length (intsC a) ∧ Below w.heap.size w w' := by
  have H := hidep (appendSeq_any B a va w hA hE hN)
  clear hA hE
  go_enter Try.func62, Try.ntmps62
  go_wp2_with fail
  refine H.out.mono ?_
  rintro e w1 ⟨v, rfl, ho, hb1⟩
  go_wp2
  go_ret
  exact ⟨_, rfl, ho, hb1⟩
def sortZ (l : List Int) : List Int := l.mergeSort fun x y => decide (x ≤ y)
theorem sorts_in (m : Nat) : AnyZI.SortsIn Try.prog shSortedA_ren Fence.wide m :=
  ⟨fun blk off cap ss W hH hblk hsz => callsIn_wide.2 (AnyM.slices_Sort_int shSortA blk off cap ss W hH hblk hsz), fun p cap W => callsIn_wide.2 (AnyM.slices_Sort_int_none shSortA p cap W)⟩
set_option maxHeartbeats 1000000 in
theorem sorted_any (B : Nat) (a : List Int) (va : Value) (w : World) (hA : w.heap[B]? = some (.cells #[va] 22 (0, 0))) (hE : IntsAt w va a) (hN : a.length ≤ 1048576) :
    Calls Try.prog 44 #[.func (.func 64) #[] #[.pointer (some ⟨B, 0, none⟩)]] w fun e w' => ∃ v, e = .returned v ∧ w'.ownsRow w.heap.size 3 1 v a.length (intsC (sortZ a)) ∧ Below w.heap.size w w' := by
  have H := hidep (collect_any B a va w hA hE hN)
  clear hA hE
  go_enter Try.func44, Try.ntmps44
  go_wp2_with fail
  refine H.out.mono ?_
  rintro e W ⟨v, rfl, hrow, hb⟩
  rcases hrow.2 with ⟨rfl, hz⟩ | ⟨gb, cap, cur, rfl, hbase, hgb, r1, r2, r3, r4⟩
  · have hnil : a = [] := List.eq_nil_of_length_eq_zero hz
    subst hnil
    have HS := hidep ((callsIn_wide (n := 6)).1 ((sorts_in 6).2 none 0 W))
    go_wp2_with fail
    refine (show Calls Try.prog 63 #[.slice none 0 0] W _ from HS.out).mono ?_
    rintro e w' ⟨rfl, rfl⟩
    go_wp2
    go_ret
    exact ⟨_, rfl, by simpa [sortZ] using hrow, hb⟩
  · have hH : Holds encZ W gb 0 a.toArray := holds_of_block_i hgb (by simpa [intsC, encZ] using r4)
    have hgl : gb < W.heap.size := (Array.getElem?_eq_some_iff.1 hgb).1
    have HS := hidep ((callsIn_wide (n := 6)).1 ((sorts_in 6).1 gb 0 cap a W hH hgl (by omega)))
    go_wp2_with fail
    refine (show Calls Try.prog 63 #[.slice (some ⟨gb, 0, none⟩) a.length cap] W _ from HS.out).mono ?_
    rintro e w' ⟨rfl, nn, os, rfl⟩
    go_wp2
    go_ret
    exact ⟨_, rfl, ownsRow_sorted_i (by simp) hbase hgb r1 r2 r3, hb.grown (grownBy_sorted_i _) hb.size (fun j hj => by cases hj; exact hbase)⟩
end Go.Proofs.Ytfljgcpfmhhgcaa
