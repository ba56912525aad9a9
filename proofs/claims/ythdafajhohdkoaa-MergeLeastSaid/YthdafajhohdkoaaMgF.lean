/- Contracts of package merge: the edits of one list that are not in another (without). -/
import Derived.Laws.EntriesVeiled
import Derived.Test.YthdafajhohdkoaaMgE
namespace Go.Proofs.Ythdafajhohdkoaa
open Go.RowKit Go.Lab Go.Shelf
set_option maxHeartbeats 1000000 in
theorem without11_any (x y : Edit) (u u' : Value) (B : Nat) (fz : Nat × Nat) (w : World) (hB : w.heap[B]? = some (.cells #[.int .i64 x.pos, .int .i64 x.del, u] 36 fz)) (hu : SymsAt w u x.ins) (hu' : SymsAt w u' y.ins) :
    Calls Try.prog 64 #[editV y u', .pointer (some ⟨B, 0, none⟩)] w fun e w' => e = .returned (.bool (decide (x = y))) ∧ Below w.heap.size w w' := by
  obtain ⟨p, d, i⟩ := x
  obtain ⟨p', d', i'⟩ := y
  simp only at hB hu hu'
  unfold editV
  simp only
  have HS := hidep (fun W (hb : Below w.heap.size w W) => msame_any p d p' d' i i' u u' W (hu.below hb) (hu'.below hb))
  obtain ⟨a, c, rfl, _, _⟩ := hu.form
  obtain ⟨a', c', rfl, _, _⟩ := hu'.form
  clear hu hu'
  have hBl := lt_of_block hB
  have h3 : w.cell? ⟨B, 0, none⟩ = some (.int .i64 p) ∧ w.cell? ⟨B, 1, none⟩ = some (.int .i64 d) ∧ w.cell? ⟨B, 2, none⟩ = some (.slice a i.length c) := by simp [World.cell?, hB]
  obtain ⟨h0, h1, h2⟩ := h3
  clear hB
  have HB : Hid (∀ o, Below w.heap.size w (w.alloc o)) := hidep (fun o => (Below.refl _ _).alloc (Nat.le_refl _) o)
  generalize decide ((⟨p, d, i⟩ : Edit) = ⟨p', d', i'⟩) = r at *
  go_enter Try.func64, Try.ntmps64
  go_wp2_with (go_at_call 65; refine (HS.out _ (HB.out _)).mono ?_; rintro e w1 ⟨rfl, hb1⟩)
  go_ret
  exact ⟨rfl, (HB.out _).trans (hb1.mono (by simp))⟩
def memB (b : List Edit) (x : Edit) : Bool := b.any fun y => decide (x = y)
set_option maxHeartbeats 1000000 in
theorem without1_any (x : Edit) (u : Value) (Bb : Nat) (vb : Value) (b : List EV) (fz : Nat × Nat) (w : World) (hB : w.heap[Bb]? = some (.cells #[vb] 25 fz)) (hu : SymsAt w u x.ins) (hb : EvAt w vb b) :
    Calls Try.prog 62 #[editV x u, .pointer (some ⟨Bb, 0, none⟩)] w fun e w' => e = .returned (.bool (memB (b.map (·.1)) x)) ∧ Below w.heap.size w w' := by
  have HM : Hid (memB (b.map (·.1)) x = b.any fun y => decide (x = y.1)) := hidep (by unfold memB; rw [List.any_map]; rfl)
  obtain ⟨p, d, i⟩ := x
  simp only at hu
  unfold editV
  simp only
  obtain ⟨a, c, rfl, _, _⟩ := hu.form
  obtain ⟨a', c', rfl, _, _⟩ := hb.form
  have hBl := lt_of_block hB
  have h0 : w.cell? ⟨Bb, 0, none⟩ = some (.slice a' b.length c') := by simp [World.cell?, hB]
  clear hB
  have HC := hidep (show Calls Try.prog 63 #[.slice a' b.length c', .func (.func 64) #[] #[.pointer (some ⟨w.heap.size, 0, none⟩)]] (w.alloc (.cells #[.int .i64 p, .int .i64 d, .slice a i.length c] 36)) fun e w' => e = .returned (.bool (b.any fun y => decide ((⟨p, d, i⟩ : Edit) = y.1))) ∧ Below (w.alloc (.cells #[.int .i64 p, .int .i64 d, .slice a i.length c] 36)).heap.size (w.alloc (.cells #[.int .i64 p, .int .i64 d, .slice a i.length c] 36)) w' from
    have hbw : Below w.heap.size w (w.alloc (.cells #[.int .i64 p, .int .i64 d, .slice a i.length c] 36)) := (Below.refl _ _).alloc (Nat.le_refl _) _
    containsFuncE_any _ 64 w.heap.size (fun y => decide ((⟨p, d, i⟩ : Edit) = y)) b (enters_of Try.func64 (by kernel_rfl) rfl) (fun y hy => ((hb.2 y hy).below hbw))
      (fun W y hy hW => without11_any ⟨p, d, i⟩ y.1 _ y.2 w.heap.size (0, 0) W ((hW.block _ (by simp)).trans (heap_alloc_new w _)) ((hu.below hbw).below hW) (((hb.2 y hy).below hbw).below hW))
      _ _ (Below.refl _ _) (hb.1.below hbw))
  clear hb hu
  go_enter Try.func62, Try.ntmps62
  go_wp2_with (go_at_call 63; refine HC.out.mono ?_; rintro e w1 ⟨rfl, hb1⟩)
  go_ret
  exact ⟨ret_val (congrArg Value.bool HM.out.symm), ((Below.refl _ _).alloc (Nat.le_refl _) _).trans (hb1.mono (by simp))⟩
set_option maxRecDepth 100000 in
set_option maxHeartbeats 1000000 in
/-- A copy of a slice of edits, in a row of its own. -/
theorem cloneE_any (v : Value) (ev : List EV) (w : World) (h : EvAt w v ev) (hl : ev.length ≤ 1048576) :
    Calls Try.prog 61 #[v] w fun e w' => ∃ u, e = .returned u ∧ w'.ownsRow w.heap.size 36 3 u ev.length (evC ev) ∧ Below w.heap.size w w' := by
  have hone := evC_one w ev h.2
  have hq : ∀ (W : World) (a : Option Addr) (n c n' c' : Nat), (binOp .eql 25 (.slice a n c) (.slice none n' c')).run Try.prog W = .ok (.bool a.isNone) W := fun W a n c n' c' => Lib.run_eql_slice_nil W 25 36 a n c n' c' Try.underlying25
  obtain ⟨a, c, rfl, hc1, hc2⟩ := h.form
  unfold maxLen at hc2
  cases a with
  | none =>
    have h0 : ev = [] := by
      obtain ⟨_, a, cap, e, _, _, h0, _⟩ := h.1
      injection e with e1 e2 e3
      subst e1 e3
      have := h0 rfl
      exact List.eq_nil_of_length_eq_zero (by omega)
    subst h0
    go_enter Try.func61, Try.ntmps61
    go_wp2
    go_ret
    exact ⟨_, rfl, World.ownsRow_nil _ _ _ _, Below.refl _ _⟩
  | some ad =>
    have hrd := h.1.below ((Below.refl _ w).alloc (Nat.le_refl _) (.cells #[] 36))
    have hrow := World.ownsRow_made (base := w.heap.size) (e := 36) (size := 3) w #[] 0 (Nat.le_refl _) (by decide) (by simp)
    clear h
    go_enter Try.func61, Try.ntmps61
    go_wp2_with (at_builtin; refine wpList_append_rd _ rfl (.tmp 5) (.tmp 6) rfl slEdits w.heap.size (.slice (some ⟨w.heap.size, 0, none⟩) 0 0) 0 [] rfl hrow _ _ _ _ rfl hrd hone (by unfold maxLen; omega) (by omega) (by simp) ?_; intro v1 w1 hown hgr _ _)
    go_ret
    exact ⟨_, rfl, by simpa using hown, ((Below.refl _ w).alloc (Nat.le_refl _) _).grown hgr (by simp) (by intro k hk; simp [Value.ownBlock] at hk; omega)⟩
theorem run_clear_edits (w : World) (ty : TypeId) (b o n c : Nat) (hn : 0 < n) (hc : ∀ j, j < n * 3 → (w.cell? ⟨b, o + j, none⟩).isSome = true) (hf : ∀ j, j < n * 3 → w.frozen? ⟨b, o + j, none⟩ = false) :
    (Builtin.clear_ #[25] ty #[.slice (some ⟨b, o, none⟩) n c]).run Try.prog w = .ok (.tuple #[]) (w.setCells b o (Builtin.zeroCells #[.int .i64 0, .int .i64 0, .slice none 0 0] n).toList) := by
  have hlen : (Builtin.zeroCells #[.int .i64 0, .int .i64 0, .slice none 0 0] n).toList.length = n * 3 := by simp [Builtin.zeroCells]
  have hone : ∀ v ∈ (Builtin.zeroCells #[.int .i64 0, .int .i64 0, .slice none 0 0] n).toList, v.oneCell' = true := by
    intro v hv
    simp only [Builtin.zeroCells, Array.toList_map, List.mem_map] at hv
    obtain ⟨k, _, rfl⟩ := hv
    have : k % 3 = 0 ∨ k % 3 = 1 ∨ k % 3 = 2 := by omega
    rcases this with h | h | h <;> simp [h] <;> rfl
  have hst := run_storeCells_cells (P := Try.prog) b o (Builtin.zeroCells #[.int .i64 0, .int .i64 0, .slice none 0 0] n).toList 0 w (by simpa [hlen] using hc) (by simpa [hlen] using hf) hone
  simp only [Nat.add_zero] at hst
  obtain ⟨m, rfl⟩ : ∃ m, n = m + 1 := ⟨n - 1, by omega⟩
  have hz : ∀ w, (zeroValue 36).run Try.prog w = .ok (.agg #[.int .i64 0, .int .i64 0, .slice none 0 0]) w := fun w => by kernel_rfl
  simp [Builtin.clear_, run_underlying slEdits.und, hz, Value.cells, hst]
/-- Where the filter stands: the first i elements are those kept of the first j; from j on all is as it was. -/
structure FiltSt (q : Edit → Bool) (ev : List EV) (i j : Nat) (L : List EV) : Prop where
  len : L.length = ev.length
  le : i ≤ j
  top : j ≤ ev.length
  fst : L.take i = (ev.take j).filter (fun x => q x.1)
  rest : L.drop j = ev.drop j
theorem FiltSt.get {q : Edit → Bool} {ev : List EV} {i j : Nat} {L : List EV} (h : FiltSt q ev i j L) (hj : j < ev.length) : L[j]? = some ev[j] := by
  have := congrArg (·[0]?) h.rest
  simp only [List.getElem?_drop, Nat.add_zero] at this
  rw [this, List.getElem?_eq_getElem hj]
theorem FiltSt.skip {q : Edit → Bool} {ev : List EV} {i j : Nat} {L : List EV} (h : FiltSt q ev i j L) (hj : j < ev.length) (hq : q ev[j].1 = false) : FiltSt q ev i (j + 1) L := by
  refine ⟨h.len, Nat.le_succ_of_le h.le, hj, ?_, ?_⟩
  · rw [h.fst, List.take_succ_eq_append_getElem hj, List.filter_append]
    simp [hq]
  · have := congrArg (List.drop 1) h.rest
    simpa [List.drop_drop] using this
theorem FiltSt.keep {q : Edit → Bool} {ev : List EV} {i j : Nat} {L : List EV} (h : FiltSt q ev i j L) (hj : j < ev.length) (hq : q ev[j].1 = true) : FiltSt q ev (i + 1) (j + 1) (L.set i ev[j]) := by
  have hi : i < L.length := by have := h.le; have := h.len; omega
  refine ⟨by simpa using h.len, Nat.succ_le_succ h.le, hj, ?_, ?_⟩
  · rw [List.take_succ_eq_append_getElem (by simpa using hi), List.take_set_of_le (Nat.le_refl _), h.fst, List.take_succ_eq_append_getElem hj, List.filter_append]
    simp [hq]
  · have := congrArg (List.drop 1) h.rest
    rw [List.drop_set_of_lt (by have := h.le; omega)]
    simpa [List.drop_drop] using this
theorem FiltSt.done {q : Edit → Bool} {ev : List EV} {i : Nat} {L : List EV} (h : FiltSt q ev i ev.length L) : L.take i = ev.filter (fun x => q x.1) := by
  rw [h.fst, List.take_length]
theorem FiltSt.start {q : Edit → Bool} {ev : List EV} {j : Nat} (hj : j < ev.length) (h1 : ∀ x ∈ ev.take j, q x.1 = true) (h2 : q ev[j].1 = false) : FiltSt q ev j (j + 1) ev := by
  refine ⟨rfl, Nat.le_succ _, hj, ?_, rfl⟩
  rw [List.take_succ_eq_append_getElem hj, List.filter_append, List.filter_eq_self.2 (fun x hx => h1 x hx)]
  simp [h2]
end Go.Proofs.Ythdafajhohdkoaa
