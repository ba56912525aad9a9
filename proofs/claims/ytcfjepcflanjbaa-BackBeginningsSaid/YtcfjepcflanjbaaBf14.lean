/- Contracts: slices.Grow of nothing, slices.Concat of texts. -/
import Derived.Test.YtcfjepcflanjbaaBf13
namespace Go.Proofs.Ytcfjepcflanjbaa
open Go.RowKit Go.Lab
section
variable {P : Program} (w : World)
theorem run_append_zeros {t e tn : TypeId} {z : Value} {size bytes : Nat} (hT : SlT P t e z size bytes) (hn : P.underlying tn = some (.int .i64)) (ty : TypeId) (n : Nat) (h0 : 0 < n) (hb : n * bytes ≤ 140737488355328) (h63 : n ≤ 140737488355328) :
    (Builtin.append_ #[t, tn] ty #[.slice none 0 0, .int .i64 n]).run P w =
      .ok (.slice (some ⟨w.heap.size, 0, none⟩) n (grownCap w n 0 e)) (w.drew.alloc (.cells (Builtin.zeroCells z.cells n ++ Builtin.zeroCells z.cells (grownCap w n 0 e - n)) e)) := by
  obtain ⟨ht, hinfo, hzs, hsz⟩ := hT
  obtain ⟨i, hi, hz, hsize, hby⟩ := info_parts hinfo
  have h1 : IntKind.i64.wrap (n : Int) = n := IntWalk.i64_in _ (by omega)
  have h2 : ¬ ((n : Int) < 0) := by omega
  have h3 : ¬ ((281474976710656 : Int) < (n : Int) * (i.bytes : Int)) := by
    rw [hby]
    have : ((n * bytes : Nat) : Int) ≤ 140737488355328 := by omega
    rw [Int.natCast_mul] at this
    omega
  have h4 : n ≠ 0 := by omega
  have h5 : ¬ (9223372036854775807 < (n : Int)) := by omega
  have h6 : ¬ (281474976710656 < Builtin.nextslicecap n 0 * i.bytes) := by rw [nextslicecap_zero h0, hby]; omega
  simp [Builtin.append_, run_underlying ht, run_underlying hn, sizeOf, typeInfo, zeroValue, hi, hz, asInt, asIntOf, h1, h2, h3, h4, h5, h6, hsize, Question.forced, Builtin.firstCells, newRow, grownCap]
  intro h8
  rcases Nat.mul_eq_zero.1 h8 with h | h <;> omega
theorem wpList_append_zeros {ops : Array Oper} {rest : List Oper} {o : Oper} {a : Act} {Q : Exit → Act → World → Prop} (hgd : o.guard = none) (s x : Operand) {t e tn : TypeId} {z : Value} {size bytes : Nat}
    (ho : o.op = .call { callee := .builtin .append, args := #[s, x], argTypes := #[t, tn] })
    (hT : SlT P t e z size bytes) (hn : P.underlying tn = some (.int .i64)) (n : Nat) (hs : a.eval s = .slice none 0 0) (hx : a.eval x = .int .i64 n) (h0 : 0 < n) (hb : n * bytes ≤ 140737488355328) (h63 : n ≤ 140737488355328)
    (h : ∀ c w', n ≤ c → w'.ownsRow w.heap.size e size (.slice (some ⟨w.heap.size, 0, none⟩) 0 c) 0 [] → Below w.heap.size w w' → wpList P ops Q rest (a.put o.dst (.slice (some ⟨w.heap.size, 0, none⟩) n c)) w') : wpList P ops Q (o :: rest) a w := by
  refine wpList_plain hgd fun K hK => ?_
  have hrun := run_append_zeros (P := P) w hT hn o.type n h0 hb h63
  unfold Oper.wp execOp
  simp only [ho, resolve, invoke, builtin, Sem.run_bind, Sem.run_pure, Result.andThen_ok, List.map_toArray, List.map_cons, List.map_nil, hs, hx, hrun]
  refine hK _ _ (h (grownCap w n 0 e) _ (grownCap_ge _ _ _ _) ?_ ?_)
  · have := World.ownsRow_made (base := w.heap.size) (e := e) (size := size) w.drew (Builtin.zeroCells z.cells n ++ Builtin.zeroCells z.cells (grownCap w n 0 e - n)) (grownCap w n 0 e) (Nat.le_refl _) (grownCap_le_maxLen _ _ _ _ (by unfold maxLen; omega)) (by
      rw [Array.size_append, size_zeroCells, size_zeroCells, hT.2.2.1, ← Nat.add_mul]
      congr 1
      have := grownCap_ge w n 0 e
      omega)
    exact this
  · exact ((Below.refl _ _).drew).alloc (Nat.le_refl _) _
end
set_option maxHeartbeats 1000000 in
theorem grow_any (n : Nat) (w : World) (hn : n ≤ 1099511627776) :
    Calls Try.prog 69 #[.slice none 0 0, .int .i64 n] w fun e w' => ∃ v, e = .returned v ∧ w'.ownsRow w.heap.size 49 2 v 0 [] ∧ Below w.heap.size w w' := by
  by_cases h0 : 0 < n
  · go_enter Try.func69, Try.ntmps69
    go_wp2_with (at_builtin; refine wpList_append_zeros _ rfl (.tmp 20) (.tmp 21) rfl slSyms Try.underlying3 n rfl rfl h0 (by omega) (by omega) ?_; intro c w1 hc hown hb)
    go_ret
    exact ⟨_, rfl, hown, hb⟩
  · obtain rfl : n = 0 := by omega
    go_enter Try.func69, Try.ntmps69
    go_wp2
    go_ret
    exact ⟨_, rfl, World.ownsRow_nil _ _ _ _, Below.refl _ _⟩
/-- A slice of texts. -/
def SymssAt (w : World) (v : Value) (l : List (List Sym)) : Prop :=
  ∃ us : List Value, us.length = l.length ∧ Rd w (· = 33) 1 v l.length us ∧ ∀ i (h : i < l.length) (h' : i < us.length), SymsAt w us[i] l[i]
theorem SymssAt.below {w w' : World} {v : Value} {l : List (List Sym)} (h : SymssAt w v l) (hb : Below w.heap.size w w') : SymssAt w' v l := by
  obtain ⟨us, hl, hr, hs⟩ := h
  exact ⟨us, hl, hr.below hb, fun i a b => (hs i a b).below hb⟩
theorem SymssAt.form {w : World} {v : Value} {l : List (List Sym)} (h : SymssAt w v l) : ∃ a cap, v = .slice a l.length cap ∧ l.length ≤ cap ∧ cap ≤ maxLen := by
  obtain ⟨_, _, hr, _⟩ := h
  exact hr.form
theorem SymssAt.at {w : World} {a : Option Addr} {c : Nat} {l : List (List Sym)} (h : SymssAt w (.slice a l.length c) l) {k : Nat} (hk : k < l.length) :
    ∃ b off u, a = some ⟨b, off, none⟩ ∧ b < w.heap.size ∧ w.cell? ⟨b, off + k, none⟩ = some u ∧ SymsAt w u l[k] := by
  obtain ⟨us, hl, hr, hs⟩ := h
  obtain ⟨b, off, e, hb, hc⟩ := hr.at (by omega)
  exact ⟨b, off, us[k], e, hb, hc k _ (List.getElem?_eq_getElem (by omega)), hs k hk (by omega)⟩
def total (l : List (List Sym)) : Nat := l.flatten.length
theorem total_take_succ {l : List (List Sym)} {k : Nat} (h : k < l.length) : total (l.take (k + 1)) = total (l.take k) + l[k].length ∧ (l.take (k + 1)).flatten = (l.take k).flatten ++ l[k] := by
  unfold total
  rw [List.take_succ_eq_append_getElem h, List.flatten_append, List.length_append]
  simp
theorem total_take_le (l : List (List Sym)) (k : Nat) : total (l.take k) ≤ total l := by
  unfold total
  conv => rhs; rw [← List.take_append_drop k l, List.flatten_append, List.length_append]
  omega
set_option maxHeartbeats 1000000 in
theorem concat_any (v : Value) (l : List (List Sym)) (w : World) (h : SymssAt w v l) (hn : total l ≤ 1099511627776) :
    Calls Try.prog 46 #[v] w fun e w' => ∃ u, e = .returned u ∧ w'.ownsRow w.heap.size 49 2 u l.flatten.length (symsC l.flatten) ∧ Below w.heap.size w w' := by
  obtain ⟨a, cap, rfl, h2, h3⟩ := h.form
  unfold maxLen at h3
  go_enter Try.func46, Try.ntmps46
  go_wp2
  go_loop [3, 11] (fun s i => ∃ k : Nat, k ≤ l.length ∧ i = .int .i64 k ∧ s = .int .i64 (total (l.take k) : Nat)) (fun _ i => l.length - (intOf i).toNat)
  case atStart => exact ⟨0, Nat.zero_le _, rfl, rfl⟩
  case round =>
    obtain ⟨k, hk, rfl, rfl⟩ := hrel
    have ht0 := total_take_le l k
    by_cases hlt : k < l.length
    · obtain ⟨b, off, u, rfl, hb, hc, hu⟩ := h.at hlt
      have ht := (total_take_succ hlt).1
      have ht1 := total_take_le l (k + 1)
      have HT := hidep ht
      have hle : total (l.take k) + l[k].length ≤ total l := by omega
      clear ht
      obtain ⟨a', cap', hv, hu2, hu3⟩ := hu.form
      clear hu h
      generalize l[k].length = m at *
      subst hv
      go_wp2
      go_round
      case rel => exact ⟨k + 1, by omega, by go_num, congrArg _ (by rw [HT.out]; omega)⟩
      case measure => simp [intOf]; omega
    · have hkl : k = l.length := by omega
      have HK := hidep hkl
      have htl : Hid (l.take k = l) := hidep (by rw [hkl, List.take_length])
      clear hkl
      rw [htl.out]
      generalize hN : total l = N at *
      have HN := hidep hN
      clear hN ht0
      go_wp2_with (go_at_call 69; refine (grow_any N _ (by omega)).mono ?_; rintro e w1 ⟨v1, rfl, hown1, hb1⟩)
      go_loopw [6, 27] (fun o i wr => ∃ k : Nat, k ≤ l.length ∧ i = .int .i64 k ∧ wr.ownsRow w.heap.size 49 2 o (l.take k).flatten.length (symsC (l.take k).flatten) ∧ Below w.heap.size w wr) (fun _ i _ => l.length - (intOf i).toNat)
      case atStart => exact ⟨0, Nat.zero_le _, rfl, hown1, hb1⟩
      case round =>
        obtain ⟨k, hk, rfl, hown, hbw⟩ := hrel
        by_cases hlt : k < l.length
        · obtain ⟨b, off, u, rfl, hb, hc, hu⟩ := (h.below hbw).at hlt
          have ht := (total_take_succ hlt)
          have ht1 := total_take_le l (k + 1)
          have HT := hidep ht.2
          have hle : (l.take k).flatten.length + l[k].length ≤ N := by have := HN.out; have := ht.1; unfold total at *; omega
          clear ht
          have hone := symsC_one l[k]
          go_wp2_with (at_builtin; refine wpList_append_rd _ rfl (.tmp 31) (.tmp 32) rfl slSyms w.heap.size _ _ _ rfl hown _ _ _ _ rfl hu hone (by unfold maxLen; omega) (by omega) hbw.size ?_; intro v2 w2 hown2 hgr2 _ _)
          go_roundw
          case rel => exact ⟨k + 1, by omega, by go_num, by rw [HT.out, symsC_append, List.length_append]; exact hown2, hbw.grown hgr2 hbw.size (fun g hg => (hown.lt g hg).1)⟩
          case measure => simp [intOf]; omega
        · have hkl : k = l.length := by omega
          have htl : Hid (l.take k = l) := hidep (by rw [hkl, List.take_length])
          clear hkl
          rw [htl.out] at hown
          go_wp2
          go_ret
          exact ⟨_, rfl, hown, hbw⟩
end Go.Proofs.Ytcfjepcflanjbaa
