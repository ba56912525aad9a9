/- The maker of examinations: has (a row of facts) and Decimal. -/
import Derived.Test.YtfljgcpfmhhgcaaRdMb
namespace Go.Proofs.Ytfljgcpfmhhgcaa
open Go.RowKit Go.Lab
attribute [local go_sem] Oper.semAt_some
set_option maxRecDepth 100000
theorem range_map18 (f : Nat → Value) : (List.range 18).map f = [f 0, f 1, f 2, f 3, f 4, f 5, f 6, f 7, f 8, f 9, f 10, f 11, f 12, f 13, f 14, f 15, f 16, f 17] := rfl
theorem frame18 (t : Array Value) (ds : List Deferred) (h : t.size = 18) : ({ tmps := t, defers := ds } : Act) = { tmps := #[slot t 0, slot t 1, slot t 2, slot t 3, slot t 4, slot t 5, slot t 6, slot t 7, slot t 8, slot t 9, slot t 10, slot t 11, slot t 12, slot t 13, slot t 14, slot t 15, slot t 16, slot t 17], defers := ds } := by
  have e : t = ((List.range 18).map (slot t)).toArray := by
    apply Array.ext
    · simp [h]
    · intro i h1 h2
      simp [slot, Array.getD, h1]
  rw [range_map18] at e
  exact congrArg (fun x => ({ tmps := x, defers := ds } : Act)) e
theorem fields_fact : (Try.prog.fieldsOf 109).toList.map (fun f => (f.name == "_", f.type, f.offset)) = [(false, 3, 0), (false, 3, 1), (false, 3, 2), (false, 3, 3)] := by kernel_rfl
/-- Two facts compare as some Bool. -/
theorem run_eqIn_fact (d : Nat) (x0 x1 x2 x3 y0 y1 y2 y3 : Int) (w : World) : (Op.equalIn (d + 2) 109 (.agg #[.int .i64 x0, .int .i64 x1, .int .i64 x2, .int .i64 x3]) (.agg #[.int .i64 y0, .int .i64 y1, .int .i64 y2, .int .i64 y3])).run Try.prog w = .ok ((x0 == y0) && (x1 == y1) && (x2 == y2) && (x3 == y3)) w := by
  rw [show d + 2 = (d + 1) + 1 from rfl, run_equalIn_struct w (d + 1) 109 _ _ (by kernel_rfl) (by kernel_rfl)]
  have hf := fields_fact
  generalize (Try.prog.fieldsOf 109).toList = L at hf ⊢
  obtain ⟨f0, f1, f2, f3, rfl⟩ : ∃ f0 f1 f2 f3, L = [f0, f1, f2, f3] := by
    have hl := congrArg List.length hf
    simp only [List.length_map, List.length_cons, List.length_nil] at hl
    match L, hl with
    | [f0, f1, f2, f3], _ => exact ⟨f0, f1, f2, f3, rfl⟩
  simp only [List.map_cons, List.map_nil, List.cons.injEq, Prod.mk.injEq, beq_eq_false_iff_ne, ne_eq, and_true] at hf
  obtain ⟨⟨n0, t0, o0⟩, ⟨n1, t1, o1⟩, ⟨n2, t2, o2⟩, n3, t3, o3⟩ := hf
  simp only [Op.eqFields, n0, n1, n2, n3, t0, t1, t2, t3, o0, o1, o2, o3, ne_eq, not_false_eq_true, if_true, Sem.run_bind]
  have p0 : ∀ (a b c d : Int) (w : World), (part 3 #[.int .i64 a, .int .i64 b, .int .i64 c, .int .i64 d] 0).run Try.prog w = .ok (.int .i64 a) w := fun _ _ _ _ _ => by kernel_rfl
  have p1 : ∀ (a b c d : Int) (w : World), (part 3 #[.int .i64 a, .int .i64 b, .int .i64 c, .int .i64 d] 1).run Try.prog w = .ok (.int .i64 b) w := fun _ _ _ _ _ => by kernel_rfl
  have p2 : ∀ (a b c d : Int) (w : World), (part 3 #[.int .i64 a, .int .i64 b, .int .i64 c, .int .i64 d] 2).run Try.prog w = .ok (.int .i64 c) w := fun _ _ _ _ _ => by kernel_rfl
  have p3 : ∀ (a b c d : Int) (w : World), (part 3 #[.int .i64 a, .int .i64 b, .int .i64 c, .int .i64 d] 3).run Try.prog w = .ok (.int .i64 d) w := fun _ _ _ _ _ => by kernel_rfl
  have q := fun x y => run_equalIn_int (P := Try.prog) w d 3 .i64 .i64 x y Try.underlying3
  simp only [p0, Result.andThen_ok, q]
  by_cases h : x0 = y0
  · subst h
    by_cases h1 : x1 = y1
    · subst h1
      by_cases h2 : x2 = y2
      · subst h2
        by_cases h3 : x3 = y3 <;> simp [p1, p2, p3, q, h3]
      · have : (x2 == y2) = false := by simpa using h2
        simp [this, p1, p2, q]
    · have : (x1 == y1) = false := by simpa using h1
      simp [this, p1, q]
  · have : (x0 == y0) = false := by simpa using h
    simp [this]
theorem run_eql_fact (x0 x1 x2 x3 y0 y1 y2 y3 : Int) (w : World) : (binOp .eql 109 (.agg #[.int .i64 x0, .int .i64 x1, .int .i64 x2, .int .i64 x3]) (.agg #[.int .i64 y0, .int .i64 y1, .int .i64 y2, .int .i64 y3])).run Try.prog w = .ok (.bool ((x0 == y0) && (x1 == y1) && (x2 == y2) && (x3 == y3))) w := by
  rw [run_eql_struct, show (10000 : Nat) = 9998 + 2 from rfl, run_eqIn_fact]
  rfl
theorem run_guard_fact (op : BinOp) (x y : Operand) (xs ys : Array Value) (w : World) : (eqGuard op 109 x y (.agg xs) (.agg ys)).run Try.prog w = .ok () w :=
  run_eqGuard_agg w op 109 x y xs ys (by kernel_rfl)
def HasI (w : World) (n : Nat) (s5 : Value) (wr : World) : Prop := ∃ i : Nat, i ≤ n ∧ s5 = .int .i64 (i : Nat) ∧ Below w.heap.size w wr
set_option maxHeartbeats 4000000 in
theorem hasF_any (v : Value) (n : Nat) (xs : List Value) (T : TypeId → Prop) (y0 y1 y2 y3 : Int) (w : World) (h : Rd w T 4 v n xs) (hx : ∀ x ∈ xs, ∃ m : Int, x = .int .i64 m) :
    Calls Try.prog 55 #[v, .agg #[.int .i64 y0, .int .i64 y1, .int .i64 y2, .int .i64 y3]] w fun e w' => (∃ b, e = .returned (.bool b)) ∧ Below w.heap.size w w' := by
  obtain ⟨a, c, rfl, hc, hm⟩ := h.form
  unfold maxLen at hm
  have hH := hidep h
  obtain ⟨W0, hW0⟩ : ∃ W0, W0 = w.alloc (.cells #[.int .i64 y0, .int .i64 y1, .int .i64 y2, .int .i64 y3] 109) := ⟨_, rfl⟩
  have hb0 : Below w.heap.size w W0 := by rw [hW0]; exact (Below.refl _ _).alloc (Nat.le_refl _) _
  have hq0 : W0.heap[w.heap.size]? = some (.cells #[.int .i64 y0, .int .i64 y1, .int .i64 y2, .int .i64 y3] 109) := by rw [hW0]; exact heap_alloc_new _ _
  obtain ⟨B, hB⟩ : ∃ B, B = w.heap.size := ⟨_, rfl⟩
  rw [← hB] at hq0
  have HB0 := hidep hb0
  have HQ := hidep hq0
  have HE := hidep (fun x0 x1 x2 x3 => run_eql_fact x0 x1 x2 x3 y0 y1 y2 y3)
  clear h
  go_enter Try.func55, Try.ntmps55
  go_upto_region 1 with (fail)
  rw [← hW0, ← hB]
  clear hW0 hB hb0 hq0
  go_upto_region 2 with (fail)
  refine wp_loop (LoopI 18 (fun tm ds wr => (slot tm 0) = .slice a n c ∧ (slot tm 3) = .pointer (some ⟨B, 0, none⟩) ∧ ds = [] ∧ HasI W0 n (slot tm 5) wr)) (fun a' wr => n - (intOf (a'.tmps.getD 5 undef)).toNat) ?mainStart ?mainRound
  case' mainStart => refine LoopI.mk rfl ?_
  case' mainRound => (rintro ⟨t, ds⟩ wr ⟨hts, hrel⟩; dsimp only at hts hrel; rw [frame18 t ds hts])
  case mainStart => exact ⟨rfl, rfl, rfl, 0, Nat.zero_le _, rfl, Below.refl _ _⟩
  obtain ⟨h0, h3, hds, i, hi, h5, hbw⟩ := hrel
  subst hds
  rw [h0, h3, h5]
  clear h0 h3 h5 hts
  have hend := HB0.out.trans (hbw.mono HB0.out.size)
  by_cases hlt : i < n
  · have hi0 : (0 : Int) ≤ (i : Int) := by omega
    have hi1 : (i : Int) < (n : Int) := by omega
    obtain ⟨rb, ro, rfl, hrb, hcell⟩ := Rd.at (hH.out.below hend) (by omega)
    have hxl := hH.out.1
    have hg : ∀ j, j < 4 → ∃ m : Int, wr.cell? ⟨rb, ro + (i * 4 + j), none⟩ = some (.int .i64 m) := fun j hj => by
      have hjl : i * 4 + j < xs.length := by omega
      obtain ⟨m, hm⟩ := hx xs[i * 4 + j] (List.getElem_mem hjl)
      exact ⟨m, by rw [hcell _ _ (List.getElem?_eq_getElem hjl), hm]⟩
    obtain ⟨x0, c0⟩ := hg 0 (by omega)
    obtain ⟨x1, c1⟩ := hg 1 (by omega)
    obtain ⟨x2, c2⟩ := hg 2 (by omega)
    obtain ⟨x3, c3⟩ := hg 3 (by omega)
    rw [← Nat.add_assoc] at c0 c1 c2 c3
    rw [Nat.add_zero] at c0
    have hq := below_push hbw HQ.out
    have d0 : wr.cell? ⟨B, 0, none⟩ = some (.int .i64 y0) := by simp [World.cell?, hq]
    have d1 : wr.cell? ⟨B, 1, none⟩ = some (.int .i64 y1) := by simp [World.cell?, hq]
    have d2 : wr.cell? ⟨B, 2, none⟩ = some (.int .i64 y2) := by simp [World.cell?, hq]
    have d3 : wr.cell? ⟨B, 3, none⟩ = some (.int .i64 y3) := by simp [World.cell?, hq]
    have he := HE.out x0 x1 x2 x3
    have hgd := run_guard_fact .eql
    obtain ⟨bq, hbq⟩ : ∃ b, b = ((x0 == y0) && (x1 == y1) && (x2 == y2) && (x3 == y3)) := ⟨_, rfl⟩
    simp only [← hbq] at he
    clear hbq HE hg hcell
    go_upto_region 4 with (fail)
    go_quiet (fail)
    apply_assumption
    refine wp_abs (fun X => Below W0.heap.size W0 X) (hbw.trans ((below_drewN (Below.refl _ _) _).mono hbw.size)) ?_
    intro X hX
    have hend2 := HB0.out.trans (hX.mono HB0.out.size)
    cases bq with
    | true =>
      go_wp2
      go_ret
      exact ⟨⟨_, rfl⟩, hend2⟩
    | false =>
      go_wp2
      refine ⟨LoopI.mk rfl ⟨rfl, rfl, rfl, i + 1, by omega, by show Value.int _ _ = _; go_num, hX⟩, ?_⟩
      show n - _ < n - _
      simp [intOf]; omega
  · go_wp2
    go_ret
    exact ⟨⟨_, rfl⟩, hend⟩
end Go.Proofs.Ytfljgcpfmhhgcaa
