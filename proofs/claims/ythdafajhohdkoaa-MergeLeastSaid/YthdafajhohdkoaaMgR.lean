/- Contracts of the reference of package merge: equal lists of pairs; a list has an edit. -/
import Derived.ChangeKeysEq
import Derived.Test.YthdafajhohdkoaaMgQ
import Derived.Test.YthdafajhohdkoaaMgN
namespace Go.Proofs.Ythdafajhohdkoaa
open Go.RowKit Go.Lab
theorem run_eqIn_pair (d : Nat) (x1 x2 y1 y2 : Int) (w : World) : (Op.equalIn (d + 2) 45 (.agg #[.int .i64 x1, .int .i64 x2]) (.agg #[.int .i64 y1, .int .i64 y2])).run Try.prog w = .ok ((x1 == y1) && (x2 == y2)) w := by
  obtain ⟨i, hi, _⟩ := info_parts slInts.2.1
  have hu : Try.prog.underlying 45 = some (.array 2 3) := by kernel_rfl
  have hc : Try.prog.cellsOf 3 = 1 := by kernel_rfl
  rw [show d + 2 = (d + 1) + 1 from rfl, run_equalIn_array w (d + 1) _ _ hu hi, hc]
  have p0 : ∀ (a b : Int) (w : World), (part 3 #[.int .i64 a, .int .i64 b] 0).run Try.prog w = .ok (.int .i64 a) w := fun _ _ _ => by kernel_rfl
  have p1 : ∀ (a b : Int) (w : World), (part 3 #[.int .i64 a, .int .i64 b] 1).run Try.prog w = .ok (.int .i64 b) w := fun _ _ _ => by kernel_rfl
  have q0 := run_equalIn_int (P := Try.prog) w d 3 .i64 .i64 x1 y1 Try.underlying3
  have q1 := run_equalIn_int (P := Try.prog) w d 3 .i64 .i64 x2 y2 Try.underlying3
  simp only [List.range_succ, List.range_zero, List.nil_append, List.cons_append, Op.eqItems, Nat.zero_mul, Nat.one_mul, Sem.run_bind, p0, Result.andThen_ok, q0]
  by_cases h : x1 = y1
  · subst h
    by_cases h2 : x2 = y2
    · subst h2; simp [p1, q1]
    · have : (x2 == y2) = false := by simpa using h2
      simp [this, p1, q1]
  · have : (x1 == y1) = false := by simpa using h
    simp [this]
theorem run_neq_pair (x1 x2 y1 y2 : Int) (w : World) : (binOp .neq 45 (.agg #[.int .i64 x1, .int .i64 x2]) (.agg #[.int .i64 y1, .int .i64 y2])).run Try.prog w = .ok (.bool (!((x1 == y1) && (x2 == y2)))) w := by
  rw [run_neq_struct, show (10000 : Nat) = 9998 + 2 from rfl, run_eqIn_pair]; rfl
theorem run_guard_pair (op : BinOp) (x y : Operand) (xs ys : Array Value) (w : World) : (eqGuard op 45 x y (.agg xs) (.agg ys)).run Try.prog w = .ok () w :=
  run_eqGuard_agg w op 45 x y xs ys (by kernel_rfl)
set_option maxRecDepth 100000 in
set_option maxHeartbeats 1000000 in
theorem samePairs_any (v u : Value) (l m : List (Nat × Nat)) (w : World) (h : PairsAt w v l) (h' : PairsAt w u m) :
    Calls Try.prog 30 #[v, u] w fun e w' => e = .returned (.bool (decide (l = m))) ∧ ∃ n, w' = w.drewN n := by
  obtain ⟨a, cap, rfl, h2, h3⟩ := h.form
  obtain ⟨a', cap', rfl, h2', h3'⟩ := h'.form
  unfold maxLen at h3 h3'
  by_cases hne : l.length = m.length
  · have HL := hidep hne
    have HB : Hid ((((l.length : Int)) != (m.length : Int)) = false) := hidep (by simp [hne])
    clear hne
    have hb := HB.out
    go_enter Try.func30, Try.ntmps30
    go_wp2
    clear hb
    go_loopw [5] (fun i wr => ∃ k n : Nat, k ≤ l.length ∧ i = .int .i64 k ∧ Hid (wr = w.drewN n) ∧ Hid (l.take k = m.take k)) (fun i _ => l.length - (intOf i).toNat)
    case atStart => exact ⟨0, 0, Nat.zero_le _, rfl, hidep rfl, hidep rfl⟩
    case round =>
      obtain ⟨k, n, hk, rfl, hw, he⟩ := hrel
      by_cases hlt : k < l.length
      · have hlt' : k < m.length := by have := HL.out; omega
        obtain ⟨b, off, rfl, hb, hc1, hc2⟩ := h.at hlt
        obtain ⟨b', off', rfl, hb', hc1', hc2'⟩ := h'.at hlt'
        have hw' := hw.out
        clear hw
        subst hw'
        have HB : Hid (∀ x y, l[k] = x → m[k] = y → (x = y → l.take (k + 1) = m.take (k + 1)) ∧ (x ≠ y → l ≠ m)) := by
          rintro x y rfl rfl
          exact ⟨eq_take_succ hlt hlt' he.out, fun hxy e => hxy (by subst e; rfl)⟩
        have HB := hidep (HB.out _ _ rfl rfl)
        clear h h'
        generalize l[k] = x at *
        generalize m[k] = y at *
        obtain ⟨x1, x2⟩ := x
        obtain ⟨y1, y2⟩ := y
        simp only at hc1 hc2 hc1' hc2'
        have hI : 0 ≤ (k : Int) := by omega
        have hI1 : (k : Int) < (l.length : Int) := by omega
        have hI2 : (k : Int) < (m.length : Int) := by omega
        have hG := run_guard_pair
        by_cases hxy : ((x1, x2) : Nat × Nat) = (y1, y2)
        · have HXY := hidep (HB.out.1 hxy)
          have hE : ∀ w : World, (binOp .neq 45 (.agg #[.int .i64 (x1 : Nat), .int .i64 (x2 : Nat)]) (.agg #[.int .i64 (y1 : Nat), .int .i64 (y2 : Nat)])).run Try.prog w = .ok (.bool false) w := fun w => by
            injection hxy with h1 h2
            rw [run_neq_pair, h1, h2]; simp
          clear hxy
          go_wp2
          go_quiet (fail)
          go_wp2
          go_roundw
          case rel => exact ⟨k + 1, _, by omega, by go_num, hidep rfl, hidep HXY.out⟩
          case measure => simp [intOf]; omega
        · have HXY := hidep (HB.out.2 hxy)
          have hE : ∀ w : World, (binOp .neq 45 (.agg #[.int .i64 (x1 : Nat), .int .i64 (x2 : Nat)]) (.agg #[.int .i64 (y1 : Nat), .int .i64 (y2 : Nat)])).run Try.prog w = .ok (.bool true) w := fun w => by
            rw [run_neq_pair]
            have : ¬ (x1 = y1 ∧ x2 = y2) := fun h => hxy (by rw [h.1, h.2])
            simp
            by_cases h1 : x1 = y1
            · right; intro h2; exact this ⟨h1, by omega⟩
            · left; omega
          clear hxy
          go_wp2
          go_quiet (fail)
          go_wp2
          go_ret
          exact ⟨ret_val (congrArg _ (decide_eq_false HXY.out).symm), _, World.drewN_drewN ..⟩
      · go_wp2
        have hkl : k = l.length := by omega
        subst hkl
        have hlm : l = m := by
          have := he.out
          rw [List.take_length, HL.out, List.take_length] at this
          exact this
        go_ret
        exact ⟨ret_val (congrArg _ (decide_eq_true hlm).symm), n, hw.out⟩
  · have HB : Hid ((((l.length : Int)) != (m.length : Int)) = true) := hidep (by simp; omega)
    have HN : Hid (l ≠ m) := hidep (fun e => hne (by rw [e]))
    clear hne
    have hb := HB.out
    go_enter Try.func30, Try.ntmps30
    go_wp2
    go_ret
    exact ⟨ret_val (congrArg _ (decide_eq_false HN.out).symm), 0, rfl⟩
theorem memB_take {l : List Edit} {x : Edit} {k : Nat} (h : k < l.length) : memB (l.take (k + 1)) x = (memB (l.take k) x || decide (l[k] = x)) := by
  unfold memB
  rw [List.take_succ_eq_append_getElem h, List.any_append]
  simp [eq_comm]
set_option maxHeartbeats 2000000 in
theorem has_any (v u : Value) (l : List Edit) (x : Edit) (w : World) (h : EditsAt w v l) (h' : SymsAt w u x.ins) :
    Calls Try.prog 18 #[v, editV x u] w fun e w' => e = .returned (.bool (memB l x)) ∧ Below w.heap.size w w' := by
  obtain ⟨a, cap, rfl, h2, h3⟩ := h.form
  unfold maxLen at h3
  obtain ⟨p', d', ins'⟩ := x
  simp only at h'
  unfold editV
  simp only
  obtain ⟨u2, c2, rfl, _, _⟩ := h'.form
  have hbo : Below w.heap.size w (w.alloc (.cells #[.int .i64 p', .int .i64 d', .slice u2 ins'.length c2] 36)) := (Below.refl _ _).alloc (Nat.le_refl _) _
  have hn0 := heap_alloc_new w (.cells #[.int .i64 p', .int .i64 d', .slice u2 ins'.length c2] 36)
  have HN := hidep hn0
  have HBO := hidep hbo
  clear hn0 hbo
  go_enter Try.func18, Try.ntmps18
  go_wp2
  go_loopw [5] (fun i wr => ∃ k : Nat, k ≤ l.length ∧ i = .int .i64 k ∧ Hid (memB (l.take k) ⟨p', d', ins'⟩ = false) ∧ Below (w.alloc (.cells #[.int .i64 p', .int .i64 d', .slice u2 ins'.length c2] 36)).heap.size (w.alloc (.cells #[.int .i64 p', .int .i64 d', .slice u2 ins'.length c2] 36)) wr) (fun i _ => l.length - (intOf i).toNat)
  case atStart => exact ⟨0, Nat.zero_le _, rfl, hidep rfl, Below.refl _ _⟩
  case round =>
    obtain ⟨k, hk, rfl, he, hbi⟩ := hrel
    have hbw := HBO.out.trans (hbi.mono (by simp))
    have h8 := (hbi.block _ (by simp)).trans HN.out
    have hb' := lt_of_block h8
    obtain ⟨hd0, hd1, hd2⟩ := box3_cell h8
    have hs' := h'.below hbw
    by_cases hlt : k < l.length
    · obtain ⟨b, off, u1, n1, c1, rfl, hb, hc0, hc1, hc2, hs⟩ := edits_get (h.below hbw) hlt
      have HB : Hid (∀ y, l[k] = y → memB (l.take (k + 1)) ⟨p', d', ins'⟩ = decide (y = ⟨p', d', ins'⟩) ∧ (y = ⟨p', d', ins'⟩ → memB l ⟨p', d', ins'⟩ = true)) := hidep (by
        rintro y rfl
        refine ⟨by rw [memB_take hlt, he.out]; rfl, fun hy => memB_iff.2 (by rw [← hy]; exact List.getElem_mem hlt)⟩)
      have HB' := hidep (HB.out _ rfl)
      clear h HB
      generalize l[k] = y at *
      obtain ⟨p, d, ins⟩ := y
      simp only at hc0 hc1 hs HB'
      have HS := hidep (fun X (hX : Below wr.heap.size wr X) => same34_any p d p' d' ins ins' _ _ X (hs.below hX) (hs'.below hX))
      have hI : 0 ≤ (k : Int) := by omega
      have hI1 : (k : Int) < (l.length : Int) := by omega
      have HD := hidep (Below.refl wr.heap.size wr).drew
      have HBI := hidep hbi
      have HBW := hidep hbw
      clear hs hs' he h8 hbi hbw
      generalize hB8 : w.heap.size = b8 at hb' hd0 hd1 hd2 ⊢
      by_cases hxy : (⟨p, d, ins⟩ : Edit) = ⟨p', d', ins'⟩
      · have HXY := hidep (HB'.out.2 hxy)
        have hdt : decide ((⟨p, d, ins⟩ : Edit) = ⟨p', d', ins'⟩) = true := decide_eq_true hxy
        rw [hdt] at HS
        clear hxy hdt
        have HB8 := hidep hB8
        clear hB8
        go_upto_region 4 with (fail)
        go_region_held3 (fun w' => w'.cell? ⟨b, off + k * 3, none⟩ = some (.int .i64 p) ∧ w'.cell? ⟨b, off + k * 3 + 1, none⟩ = some (.int .i64 d) ∧ w'.cell? ⟨b, off + k * 3 + 2, none⟩ = some (.slice u1 n1 c1) ∧ w'.cell? ⟨b8, 0, none⟩ = some (.int .i64 p') ∧ w'.cell? ⟨b8, 1, none⟩ = some (.int .i64 d') ∧ w'.cell? ⟨b8, 2, none⟩ = some (.slice u2 ins'.length c2))
          (first | exact ⟨hc0, hc1, hc2, hd0, hd1, hd2⟩ | exact hall | go_keep)
          (first
            | (go_at_call 36; refine (HS.out _ (by exact HD.out)).mono ?_; rintro e w1 ⟨rfl, hb1⟩; have hall := (show w1.cell? ⟨b, off + k * 3, none⟩ = some (.int .i64 p) ∧ w1.cell? ⟨b, off + k * 3 + 1, none⟩ = some (.int .i64 d) ∧ w1.cell? ⟨b, off + k * 3 + 2, none⟩ = some (.slice u1 n1 c1) ∧ w1.cell? ⟨b8, 0, none⟩ = some (.int .i64 p') ∧ w1.cell? ⟨b8, 1, none⟩ = some (.int .i64 d') ∧ w1.cell? ⟨b8, 2, none⟩ = some (.slice u2 ins'.length c2) from ⟨(hb1.cell (p := ⟨b, off + k * 3, none⟩) hb).trans hc0, (hb1.cell (p := ⟨b, off + k * 3 + 1, none⟩) hb).trans hc1, (hb1.cell (p := ⟨b, off + k * 3 + 2, none⟩) hb).trans hc2, (hb1.cell (p := ⟨b8, 0, none⟩) hb').trans hd0, (hb1.cell (p := ⟨b8, 1, none⟩) hb').trans hd1, (hb1.cell (p := ⟨b8, 2, none⟩) hb').trans hd2⟩); dsimp only)
            | fail)
        all_goals
          go_wp2
          go_ret
          have := HB8.out
          subst this
          exact ⟨ret_val (congrArg _ HXY.out.symm), HBW.out.trans ((HD.out.trans hb1).mono HBW.out.size)⟩
      · have HXY := hidep (HB'.out.1.trans (decide_eq_false hxy))
        have hdt : decide ((⟨p, d, ins⟩ : Edit) = ⟨p', d', ins'⟩) = false := decide_eq_false hxy
        rw [hdt] at HS
        clear hxy hdt
        have HB8 := hidep hB8
        clear hB8
        go_upto_region 4 with (fail)
        go_region_held3 (fun w' => w'.cell? ⟨b, off + k * 3, none⟩ = some (.int .i64 p) ∧ w'.cell? ⟨b, off + k * 3 + 1, none⟩ = some (.int .i64 d) ∧ w'.cell? ⟨b, off + k * 3 + 2, none⟩ = some (.slice u1 n1 c1) ∧ w'.cell? ⟨b8, 0, none⟩ = some (.int .i64 p') ∧ w'.cell? ⟨b8, 1, none⟩ = some (.int .i64 d') ∧ w'.cell? ⟨b8, 2, none⟩ = some (.slice u2 ins'.length c2))
          (first | exact ⟨hc0, hc1, hc2, hd0, hd1, hd2⟩ | exact hall | go_keep)
          (first
            | (go_at_call 36; refine (HS.out _ (by exact HD.out)).mono ?_; rintro e w1 ⟨rfl, hb1⟩; have hall := (show w1.cell? ⟨b, off + k * 3, none⟩ = some (.int .i64 p) ∧ w1.cell? ⟨b, off + k * 3 + 1, none⟩ = some (.int .i64 d) ∧ w1.cell? ⟨b, off + k * 3 + 2, none⟩ = some (.slice u1 n1 c1) ∧ w1.cell? ⟨b8, 0, none⟩ = some (.int .i64 p') ∧ w1.cell? ⟨b8, 1, none⟩ = some (.int .i64 d') ∧ w1.cell? ⟨b8, 2, none⟩ = some (.slice u2 ins'.length c2) from ⟨(hb1.cell (p := ⟨b, off + k * 3, none⟩) hb).trans hc0, (hb1.cell (p := ⟨b, off + k * 3 + 1, none⟩) hb).trans hc1, (hb1.cell (p := ⟨b, off + k * 3 + 2, none⟩) hb).trans hc2, (hb1.cell (p := ⟨b8, 0, none⟩) hb').trans hd0, (hb1.cell (p := ⟨b8, 1, none⟩) hb').trans hd1, (hb1.cell (p := ⟨b8, 2, none⟩) hb').trans hd2⟩); dsimp only)
            | fail)
        all_goals
          go_wp2
          have := HB8.out
          subst this
          go_roundw
          case rel => exact ⟨k + 1, by omega, by go_num, hidep HXY.out, HBI.out.trans ((HD.out.trans hb1).mono HBI.out.size)⟩
          case measure => simp [intOf]; omega
    · go_wp2
      go_ret
      have hkl : k = l.length := by omega
      subst hkl
      have := he.out
      rw [List.take_length] at this
      exact ⟨ret_val (congrArg _ this.symm), hbw⟩
end Go.Proofs.Ythdafajhohdkoaa
