/- Contracts: slices.Collect of the pairs of edits that clash; merge.Clash. -/
import Derived.Test.YthdafajhohdkoaaMgC
import Derived.Test.YthdafajhohdkoaaMgA
namespace Go.Proofs.Ythdafajhohdkoaa
open Go.RowKit Go.Lab
attribute [local go_sem] Oper.semAt_some
theorem wpListIn_append_rd {F : Fence} {nf : Nat} {P : Program} (w : World) {ops : Array Oper} {rest : List Oper} {o : Oper} {a : Act} {Q : Exit → Act → World → Prop} (hgd : o.guard = none) (s x : Operand) {t e : TypeId} {z : Value} {size bytes : Nat}
    (ho : o.op = .call { callee := .builtin .append, args := #[s, x], argTypes := #[t, t] })
    (hT : SlT P t e z size bytes) (base : Nat) (v : Value) (n : Nat) (xs : List Value) (hs : a.eval s = v) (hown : w.ownsRow base e size v n xs)
    (T : TypeId → Prop) (y : Value) (m : Nat) (news : List Value) (hx : a.eval x = y) (hr : Rd w T size y m news) (h1 : ∀ u ∈ news, u.oneCell' = true)
    (h63 : n + m ≤ maxLen) (hbytes : (n + m) * bytes ≤ 140737488355328) (hbase : base ≤ w.heap.size)
    (h : ∀ v' w', w'.ownsRow base e size v' (n + m) (xs ++ news) → w.grownBy w' v.ownBlock → (v'.ownBlock = v.ownBlock ∨ v'.ownBlock = some w.heap.size) → (v' = .slice none 0 0 ↔ v = .slice none 0 0 ∧ m = 0) → wpListIn F nf P ops Q rest (a.put o.dst v') w') : wpListIn F nf P ops Q (o :: rest) a w := by
  refine wpListIn_plain hgd fun K hK => ?_
  obtain ⟨v', w', hrun, h2, h3, h4, h5⟩ := run_append_rd (P := P) w hT o.type base v n xs hown T y m news hr h1 h63 hbytes hbase
  unfold Oper.wpIn
  refine ⟨by simp [Oper.about, ho, resolve, Target.leads, Sem.run_pure], ?_⟩
  rw [Oper.semAt_plain F _ _ (by rw [ho]; intro c hc'; cases hc')]
  simp [execOp, ho, resolve, invoke, builtin, hs, hx, hrun, Result.andThen]
  exact hK _ _ (h v' w' h2 h3 h4 h5)
theorem ownR_base0 {w : World} {base base' : Nat} {e : TypeId} {k n : Nat} {v : Value} {xs : List Value} (h : w.ownsRow base e k v n xs) (hb : base' ≤ base) : w.ownsRow base' e k v n xs := by
  refine ⟨h.1, ?_⟩
  rcases h.2 with h2 | ⟨g, cap, cur, hv, hg, r⟩
  · exact .inl h2
  · exact .inr ⟨g, cap, cur, hv, Nat.le_trans hb hg, r⟩
theorem tk_pair : ¬ Tk 45 := by rintro (h | h | h) <;> exact absurd h (by decide)
theorem tk_pairs : ¬ Tk 42 := by rintro (h | h | h) <;> exact absurd h (by decide)
theorem keepsTk_push {W w1 : World} {n₀ B size n : Nat} {e t : TypeId} {v v' u : Value} {xs : List Value} {o : Obj} (hrow : W.ownsRow n₀ e size v n xs) (hgrow : (W.alloc o).grownBy w1 v.ownBlock) (hv1 : Boxed w1 B t u) (he : ¬ Tk e) (ht : ¬ Tk t) : Keeps Tk W (w1.setCell ⟨B, 0, none⟩ v') :=
  ((Keeps.alloc Tk W o).trans (Keeps.grown (hrow.alloc _) hgrow (fun _ ht e => he (e ▸ ht)))).trans (Keeps.setCell (a := ⟨B, 0, none⟩) hv1 (fun _ hs e => ht (e ▸ hs)) v')
theorem prefix_len {α : Type} {a b : List α} (h : a <+: b) : a.length ≤ b.length := h.length_le
set_option maxRecDepth 100000 in
set_option maxHeartbeats 4000000 in
theorem appendSeq_any (Ba Bb : Nat) (a b : List Edit) (va vb : Value) (fa fb : Nat × Nat) (ha : ∀ e ∈ a, EdOk e) (hb : ∀ e ∈ b, EdOk e) (hN : (clashP a b).length ≤ 1048576)
    (w : World) (hA : w.heap[Ba]? = some (.cells #[va] 25 fa)) (hB : w.heap[Bb]? = some (.cells #[vb] 25 fb)) (hEa : EditsAt w va a) (hEb : EditsAt w vb b) :
    Calls Try.prog 57 #[.slice none 0 0, .func (.func 58) #[] #[.pointer (some ⟨Ba, 0, none⟩), .pointer (some ⟨Bb, 0, none⟩)]] w fun e w' => ∃ v, e = .returned v ∧ w'.ownsRow w.heap.size 45 2 v (clashP a b).length (pairsC (clashP a b)) ∧ Below w.heap.size w w' := by
  have hfw : Fence.wide.fn 57 := trivial
  have hfc : Fence.wide.fn 58 := trivial
  refine (callsIn_wide (n := 6)).1 ?_
  refine callsIn_of_wp_marks Try.func57 rfl hfw ?_ rfl
  simp only [Try.ntmps57, List.size_toArray, List.length_cons, List.length_nil, Nat.reduceAdd, Nat.reduceSub, Array.replicate_succ, Array.replicate_zero, List.push_toArray, List.append_toArray, List.nil_append, List.cons_append]
  have hb0 : ∀ o, Below w.heap.size w (w.alloc o) := fun o => (Below.refl _ _).alloc (Nat.le_refl _) o
  gi_wp2
  have bO := Boxed.new w 42 (.slice none 0 0)
  obtain ⟨W0, hW0⟩ : ∃ W0, w.alloc (.cells #[.slice none 0 0] 42) = W0 := ⟨_, rfl⟩
  have hB0 : Below w.heap.size w W0 := by rw [← hW0]; exact hb0 _
  have hsz : w.heap.size + 1 = W0.heap.size := by rw [← hW0]; simp
  rw [hW0] at bO ⊢
  clear hW0 hb0
  refine wpIn_rangeFunc_ownH rfl (by omega) (gf := 58) (lb := #[.pointer (some ⟨Ba, 0, none⟩), .pointer (some ⟨Bb, 0, none⟩)]) rfl hfc (enters_of Try.func58 (by kernel_rfl) rfl)
    (clashes_stops (6 - 1) (by omega) Ba Bb a b va vb fa fb ha hb W0 ((hB0.block _ (lt_of_block hA)).trans hA) ((hB0.block _ (lt_of_block hB)).trans hB) (hEa.below hB0) (hEb.below hB0))
    keepsTk_t (keepsTk_b (n := W0.heap.size)) (Below.refl _ _) (fun _ => rfl)
    (fun pre W => (∃ v, Boxed W w.heap.size 42 v ∧ W.ownsRow w.heap.size 45 2 v pre.length (pairsC pre) ∧ True) ∧ Below w.heap.size w W)
    (fun _ _ _ => False)
    (OwnFrom.and (Own.from (holdsRow_own w.heap.size w.heap.size 42 45 2 (fun pre => pre.length) (fun pre => pairsC pre) (fun _ _ => True)) _) (ownFrom_below (Nat.le_refl _) (by omega)))
    (fun _ _ _ _ _ hs _ _ => hs)
    ⟨⟨_, bO, World.ownsRow_nil _ _ _ _, trivial⟩, hB0⟩
    (fun x a' W => ∃ Bx, w.heap.size < Bx ∧ W.heap[Bx]? = some (.cells #[.int .i64 (x.1 : Nat), .int .i64 (x.2 : Nat)] 45) ∧ a' = { tmps := #[.slice none 0 0, .func (.func 58) #[] #[.pointer (some ⟨Ba, 0, none⟩), .pointer (some ⟨Bb, 0, none⟩)], .pointer (some ⟨w.heap.size, 0, none⟩), undef, .slice none 0 0, .pointer (some ⟨Bx, 0, none⟩), .func (.func 58) #[] #[.pointer (some ⟨Ba, 0, none⟩), .pointer (some ⟨Bb, 0, none⟩)], .agg #[.int .i64 (x.1 : Nat), .int .i64 (x.2 : Nat)], undef, undef, undef, undef, undef], defers := [] })
    (fun x a' _ X Y row hs hg hr => by
      obtain ⟨Bx, h1, h2, h3⟩ := hs
      refine ⟨Bx, h1, (hg.block Bx (lt_of_block h2) (fun e => ?_)).trans h2, h3⟩
      obtain ⟨_, o, ho, hoc⟩ := hr Bx e.symm
      rw [h2] at ho
      injection ho with ho
      subst ho
      cases hoc)
    ?assign ?body ?done ?stop
  case assign =>
    rintro l pre x W K ⟨⟨v, hv, hrow, _⟩, hBW⟩ hK
    gi_wp2
    exact hK _ _ ((KeepsOthers.alloc _ _).from _) (Keeps.alloc _ _ _) ⟨⟨v, hv.alloc _, hrow.alloc _, trivial⟩, hBW.alloc hBW.size _⟩ ⟨W.heap.size, hv.lt, heap_alloc_new W _, rfl⟩
  case body =>
    rintro l pre x a' W hl ⟨r, hr⟩ ⟨⟨v, hv, hrow, _⟩, hBW⟩ ⟨Bx, hBx, bX, rfl⟩ hlt
    obtain ⟨x1, x2⟩ := x
    obtain ⟨ad, cp, rfl, _, _⟩ := (Rd.of_own hrow).form
    have hc := hv.cell
    have hx2 : W.cell? ⟨Bx, 0, none⟩ = some (.int .i64 (x1 : Nat)) ∧ W.cell? ⟨Bx, 1, none⟩ = some (.int .i64 (x2 : Nat)) := by simp [World.cell?, bX]
    obtain ⟨hx20, hx21⟩ := hx2
    have hxl := lt_of_block bX
    have hfr := Rd.fresh W #[.int .i64 (x1 : Nat), .int .i64 (x2 : Nat)] 45 2 1 rfl (by decide)
    have hpl : pre.length + 1 ≤ 1048576 := by omega
    gi_wp2_with (gi_at_builtin; refine wpListIn_append_rd _ rfl (.tmp 8) (.tmp 10) rfl slPair w.heap.size _ _ _ rfl (hrow.alloc _) _ _ _ _ rfl hfr (by intro u hu; simp at hu; rcases hu with rfl | rfl <;> rfl) (by unfold maxLen; omega) (by omega) (by have := hBW.size; simp; omega) ?_; intro v' w1 hown' hgrow _ _; clear hfr; obtain ⟨hv1, hv2, hr2, hk2, hb2⟩ := hv.appended (by decide) hrow hBW.size (Nat.le_refl _) hown' hgrow; have hKs : Keeps Tk W (w1.setCell ⟨w.heap.size, 0, none⟩ v') := keepsTk_push hrow hgrow hv1 tk_pair tk_pairs; obtain ⟨ad', cp', rfl, _, _⟩ := (Rd.of_own hown').form; have hc1 := hv1.cell; have hf1 := hv1.frozen)
    exact ⟨hk2.from _, hKs, ⟨_, hv2, by rw [pairsC_append, List.length_append]; exact hr2⟩, hBW.trans hb2⟩
  case done =>
    rintro D ys W hD rfl ⟨⟨v, hv, hrow, _⟩, hBW⟩ hK
    have hc := hv.cell
    obtain ⟨ad', cp', rfl, _, _⟩ := (Rd.of_own hrow).form
    gi_wp2
    refine ⟨by simp, .inl ⟨_, _, rfl, run_takeDeferred hK, ?_⟩⟩
    exact ⟨_, results_tmp rfl _ _ _, _, rfl, ownsRow_putObj hrow _ hK rfl, hBW.trans (belowK_b (w := w) (Nat.le_refl _) W D _ _ (by omega) hK rfl rfl)⟩
  case stop =>
    rintro D c pre W _ _ h _
    exact h.elim
set_option maxHeartbeats 1000000 in
theorem collect_any (Ba Bb : Nat) (a b : List Edit) (va vb : Value) (fa fb : Nat × Nat) (ha : ∀ e ∈ a, EdOk e) (hb : ∀ e ∈ b, EdOk e) (hN : (clashP a b).length ≤ 1048576)
    (w : World) (hA : w.heap[Ba]? = some (.cells #[va] 25 fa)) (hB : w.heap[Bb]? = some (.cells #[vb] 25 fb)) (hEa : EditsAt w va a) (hEb : EditsAt w vb b) :
    Calls Try.prog 41 #[.func (.func 58) #[] #[.pointer (some ⟨Ba, 0, none⟩), .pointer (some ⟨Bb, 0, none⟩)]] w fun e w' => ∃ v, e = .returned v ∧ w'.ownsRow w.heap.size 45 2 v (clashP a b).length (pairsC (clashP a b)) ∧ Below w.heap.size w w' := by
  have H := hidep (appendSeq_any Ba Bb a b va vb fa fb ha hb hN w hA hB hEa hEb)
  clear hA hB hEa hEb
  go_enter Try.func41, Try.ntmps41
  go_wp2_with fail
  refine H.out.mono ?_
  rintro e w1 ⟨v, rfl, ho, hb1⟩
  go_wp2
  go_ret
  exact ⟨_, rfl, ho, hb1⟩
theorem clashRow_len (x : Edit) (i : Nat) : ∀ (b : List Edit) (k : Nat), (clashRow x i b k).length ≤ b.length
  | [], _ => by simp [clashRow]
  | y :: ys, k => by
    have := clashRow_len x i ys (k + 1)
    rw [clashRow, List.length_append, List.length_cons]
    split <;> simp <;> omega
theorem clashGo_len (b : List Edit) : ∀ (a : List Edit) (i : Nat), (clashGo b a i).length ≤ a.length * b.length
  | [], _ => by simp [clashGo]
  | x :: xs, i => by
    have h1 := clashRow_len x i b 0
    have h2 := clashGo_len b xs (i + 1)
    rw [clashGo, List.length_append, List.length_cons, Nat.add_mul]
    omega
theorem validGo_ok {n : Int} (hn : n ≤ 1099511627776) : ∀ (l : List Edit) (last : Int), -1 ≤ last → validGo n last l = true → ∀ e ∈ l, EdOk e
  | [], _, _, _ => fun _ h => by cases h
  | x :: l, last, hl, h => by
    rw [validGo] at h
    split at h
    · cases h
    · rename_i hb
      simp only [badE, Bool.not_eq_true, Bool.or_eq_false_iff, decide_eq_false_iff_not, Bool.and_eq_false_iff] at hb
      obtain ⟨⟨⟨⟨⟨⟨h1, h2⟩, h3⟩, h4⟩, _⟩, _⟩, _⟩ := hb
      intro e he
      rcases List.mem_cons.1 he with rfl | he
      · exact ⟨by omega, by omega, by omega, by omega⟩
      · exact validGo_ok hn l _ (by omega) h e he
theorem validZ_len {n : Int} {l : List Edit} (h : validZ n l = true) : l.length ≤ 32 := by
  unfold validZ at h
  simp only [Bool.and_eq_true, decide_eq_true_eq] at h
  exact h.1
theorem validZ_ok {n : Int} {l : List Edit} (hn : n ≤ 1099511627776) (h : validZ n l = true) : ∀ e ∈ l, EdOk e := by
  unfold validZ at h
  simp only [Bool.and_eq_true] at h
  exact validGo_ok hn l _ (by omega) h.2
theorem clashP_len {n m : Int} {a b : List Edit} (ha : validZ n a = true) (hb : validZ m b = true) : (clashP a b).length ≤ 1048576 := by
  have h1 := validZ_len ha
  have h2 := validZ_len hb
  have h3 := clashGo_len b a 0
  have h4 : a.length * b.length ≤ 32 * 32 := Nat.mul_le_mul h1 h2
  unfold clashP
  omega
def clashZ (a b : List Edit) : List (Nat × Nat) := if validZ 2048 a && validZ 2048 b then clashP a b else []
set_option maxHeartbeats 1000000 in
theorem mClash_any (va vb : Value) (a b : List Edit) (w : World) (ha : EditsAt w va a) (hb : EditsAt w vb b) :
    Calls Try.prog 21 #[va, vb] w fun e w' => ∃ v, e = .returned v ∧ w'.ownsRow w.heap.size 45 2 v (clashZ a b).length (pairsC (clashZ a b)) ∧ Below w.heap.size w w' := by
  obtain ⟨aa, ca, rfl, _, _⟩ := ha.form
  obtain ⟨ab, cb, rfl, _, _⟩ := hb.form
  have HA := hidep (fun W (h : Below w.heap.size w W) => mvalid_any _ 2048 a W (ha.below h) (by omega) (by omega))
  have HB := hidep (fun W (h : Below w.heap.size w W) => mvalid_any _ 2048 b W (hb.below h) (by omega) (by omega))
  have HC := hidep (fun W (h : Below w.heap.size w W) hva hvb => collect_any W.heap.size (W.heap.size + 1) a b _ _ (0, 0) (0, 0) (validZ_ok (by omega) hva) (validZ_ok (by omega) hvb) (clashP_len (n := 2048) (m := 2048) hva hvb) ((W.alloc (.cells #[.slice aa a.length ca] 25)).alloc (.cells #[.slice ab b.length cb] 25))
    ((Below.heap_alloc _ _ _ (by simp)).trans (heap_alloc_new W _)) (by have := heap_alloc_new (W.alloc (.cells #[.slice aa a.length ca] 25)) (.cells #[.slice ab b.length cb] 25); simpa using this)
    (ha.below ((h.alloc h.size _).alloc (by have := h.size; simp; omega) _)) (hb.below ((h.alloc h.size _).alloc (by have := h.size; simp; omega) _)))
  have HZ := hidep (show clashZ a b = if validZ 2048 a && validZ 2048 b then clashP a b else [] from rfl)
  clear ha hb
  cases hva : validZ 2048 a <;> cases hvb : validZ 2048 b
  all_goals
    have HVA := hidep hva
    have HVB := hidep hvb
    simp only [hva, hvb] at HA HB HZ
    clear hva hvb
    go_enter Try.func21, Try.ntmps21
    go_wp2_with (first
      | (go_at_call 40; (with_reducible refine (HA.out _ (Below.refl _ _)).mono ?_); clear HA; rintro e w1 ⟨rfl, hb1⟩)
      | (go_at_call 40; (with_reducible refine (HB.out _ hb1).mono ?_); rintro e w2 ⟨rfl, hb2⟩; have hb12 := hb1.trans (hb2.mono hb1.size))
      | (go_at_call 42; refine (clashes_any _ _ _ _ _ _ _).mono ?_; rintro e w3 ⟨rfl, rfl⟩)
      | (go_at_call 41; refine (HC.out _ hb12 HVA.out HVB.out).mono ?_; rintro e w4 ⟨v, rfl, ho, hb4⟩)
      | fail)
    go_ret
    first
      | exact ⟨_, rfl, by rw [HZ.out]; exact World.ownsRow_nil _ _ _ _, by first | exact hb12 | exact hb1⟩
      | exact ⟨_, rfl, by rw [HZ.out]; exact ownR_base0 ho (by have := hb12.size; simp; omega), ((hb12.alloc hb12.size _).alloc (by have := hb12.size; simp; omega) _).trans (hb4.mono (by have := hb12.size; simp; omega))⟩
end Go.Proofs.Ythdafajhohdkoaa
