/- Contracts of package merge: equal edits, edits that clash. -/
import Derived.Test.YthdafajhohdkoaaRefB0
namespace Go.Proofs.Ythdafajhohdkoaa
open Go.RowKit Go.Lab
set_option maxHeartbeats 400000 in
theorem equalSyms_any (v u : Value) (l m : List Sym) (w : World) (h : SymsAt w v l) (h' : SymsAt w u m) :
    Calls Try.prog 78 #[v, u] w fun e w' => e = .returned (.bool (decide (l = m))) ∧ ∃ n, w' = w.drewN n := by
  obtain ⟨a, cap, rfl, h2, h3⟩ := h.form
  obtain ⟨a', cap', rfl, h2', h3'⟩ := h'.form
  unfold maxLen at h3 h3'
  by_cases hne : l.length = m.length
  · have HL := hidep hne
    have HB : Hid ((((l.length : Int)) != (m.length : Int)) = false) := hidep (by simp [hne])
    clear hne
    have hb := HB.out
    go_enter Try.func78, Try.ntmps78
    go_wp2
    clear hb
    go_loopw [13] (fun i wr => ∃ k n : Nat, k ≤ l.length ∧ i = .int .i64 k ∧ Hid (wr = w.drewN n) ∧ Hid (l.take k = m.take k)) (fun i _ => l.length - (intOf i).toNat)
    case atStart => exact ⟨0, 0, Nat.zero_le _, rfl, hidep rfl, hidep rfl⟩
    case round =>
      obtain ⟨k, n, hk, rfl, hw, he⟩ := hrel
      by_cases hlt : k < l.length
      · have hlt' : k < m.length := by have := HL.out; omega
        obtain ⟨b, off, rfl, hb, hc1, hc2⟩ := h.at hlt
        obtain ⟨b', off', rfl, hb', hc1', hc2'⟩ := h'.at hlt'
        have hw' := hw.out
        clear hw
        subst hw'
        have HB : Hid (∀ x y, l[k] = x → m[k] = y → (x = y → l.take (k + 1) = m.take (k + 1)) ∧ (x ≠ y → l ≠ m)) := by
          rintro x y rfl rfl
          exact ⟨eq_take_succ hlt hlt' he.out, fun hxy e => hxy (by subst e; rfl)⟩
        have HB := hidep (HB.out _ _ rfl rfl)
        clear h h'
        generalize l[k] = x at *
        generalize m[k] = y at *
        obtain ⟨x1, x2⟩ := x
        obtain ⟨y1, y2⟩ := y
        simp only at hc1 hc2 hc1' hc2'
        have hI : 0 ≤ (k : Int) := by omega
        have hI1 : (k : Int) < (l.length : Int) := by omega
        have hI2 : (k : Int) < (m.length : Int) := by omega
        have hE := run_neq_sym x1 x2 y1 y2
        have hG := run_guard_sym
        go_wp2
        go_quiet (fail)
        go_wp2
        · have ht : (!x1 == y1) = true ∨ (!x2 == y2) = true := by assumption
          have hne : (⟨x1, x2⟩ : Sym) ≠ ⟨y1, y2⟩ := by
            intro e; injection e with e1 e2; subst e1 e2; simp at ht
          go_ret
          exact ⟨ret_val (congrArg _ (decide_eq_false (HB.out.2 hne)).symm), _, World.drewN_drewN ..⟩
        · have ht : (!x1 == y1) = false ∧ (!x2 == y2) = false := by assumption
          have he : (⟨x1, x2⟩ : Sym) = ⟨y1, y2⟩ := by
            simp at ht; rw [ht.1, ht.2]
          go_roundw
          case rel => exact ⟨k + 1, _, by omega, by go_num, hidep rfl, hidep (HB.out.1 he)⟩
          case measure => simp [intOf]; omega
      · go_wp2
        have hkl : k = l.length := by omega
        subst hkl
        have hlm : l = m := by
          have := he.out
          rw [List.take_length, HL.out, List.take_length] at this
          exact this
        go_ret
        exact ⟨ret_val (congrArg _ (decide_eq_true hlm).symm), n, hw.out⟩
  · have HB : Hid ((((l.length : Int)) != (m.length : Int)) = true) := hidep (by simp; omega)
    have HN : Hid (l ≠ m) := hidep (fun e => hne (by rw [e]))
    clear hne
    have hb := HB.out
    go_enter Try.func78, Try.ntmps78
    go_wp2
    go_ret
    exact ⟨ret_val (congrArg _ (decide_eq_false HN.out).symm), 0, rfl⟩
def editV (e : Edit) (u : Value) : Value := .agg #[.int .i64 e.pos, .int .i64 e.del, u]
theorem edit_eq {p d p' d' : Int} {i i' : List Sym} (b : Bool) (h : b = true ↔ (p = p' ∧ d = d' ∧ i = i')) : b = decide ((⟨p, d, i⟩ : Edit) = ⟨p', d', i'⟩) := by
  rw [Bool.eq_iff_iff, h, decide_eq_true_eq, Edit.mk.injEq]
set_option maxHeartbeats 1000000 in
theorem msame_any (p d p' d' : Int) (i i' : List Sym) (u u' : Value) (w : World) (h : SymsAt w u i) (h' : SymsAt w u' i') :
    Calls Try.prog 65 #[.agg #[.int .i64 p, .int .i64 d, u], .agg #[.int .i64 p', .int .i64 d', u']] w fun e w' => e = .returned (.bool (decide ((⟨p, d, i⟩ : Edit) = ⟨p', d', i'⟩))) ∧ Below w.heap.size w w' := by
  have HE : Hid (∀ b : Bool, (b = true ↔ (p = p' ∧ d = d' ∧ i = i')) → b = decide ((⟨p, d, i⟩ : Edit) = ⟨p', d', i'⟩)) := hidep (fun b hb => edit_eq b hb)
  obtain ⟨a, c, rfl, _, _⟩ := h.form
  obtain ⟨a', c', rfl, _, _⟩ := h'.form
  have HQ := hidep (fun W (hb : Below w.heap.size w W) => equalSyms_any _ _ i i' W (h.below hb) (h'.below hb))
  clear h h'
  have HB : Hid (∀ o o', Below w.heap.size w ((w.alloc o).alloc o')) := hidep (fun o o' => ((Below.refl _ _).alloc (Nat.le_refl _) o).alloc (by simp) o')
  by_cases hp : p = p'
  · by_cases hd : d = d'
    · have hpb : (p == p') = true := by simpa using hp
      have hdb : (d == d') = true := by simpa using hd
      have HP := hidep hp
      have HD := hidep hd
      clear hp hd
      go_enter Try.func65, Try.ntmps65
      go_wp2_with (go_at_call 78; refine (HQ.out _ (HB.out _ _)).mono ?_; rintro e w1 ⟨rfl, n1, rfl⟩)
      go_ret
      exact ⟨ret_val (congrArg Value.bool (HE.out _ (by simp [HP.out, HD.out]))), below_drewN (HB.out _ _) _⟩
    · have hpb : (p == p') = true := by simpa using hp
      have hdb : (d == d') = false := by simpa using hd
      have HD := hidep hd
      clear hp hd
      go_enter Try.func65, Try.ntmps65
      go_wp2
      go_ret
      exact ⟨ret_val (congrArg Value.bool (HE.out _ (by simp [HD.out]))), HB.out _ _⟩
  · have hpb : (p == p') = false := by simpa using hp
    have HP := hidep hp
    clear hp
    go_enter Try.func65, Try.ntmps65
    go_wp2
    go_ret
    exact ⟨ret_val (congrArg Value.bool (HE.out _ (by simp [HP.out]))), HB.out _ _⟩
def clashB (x y : Edit) : Bool := !decide (x = y) && decide (x.pos ≤ y.pos + y.del) && decide (y.pos ≤ x.pos + x.del)
/-- Places and numbers that no sum of two carries out of an int. -/
def EdOk (e : Edit) : Prop := 0 ≤ e.pos ∧ e.pos ≤ 1099511627776 ∧ 0 ≤ e.del ∧ e.del ≤ 1099511627776
set_option maxHeartbeats 1000000 in
theorem mclash_any (x y : Edit) (u u' : Value) (w : World) (h : SymsAt w u x.ins) (h' : SymsAt w u' y.ins) (hx : EdOk x) (hy : EdOk y) :
    Calls Try.prog 59 #[editV x u, editV y u'] w fun e w' => e = .returned (.bool (clashB x y)) ∧ Below w.heap.size w w' := by
  obtain ⟨p, d, i⟩ := x
  obtain ⟨p', d', i'⟩ := y
  obtain ⟨hx0, hx1, hx2, hx3⟩ := hx
  obtain ⟨hy0, hy1, hy2, hy3⟩ := hy
  simp only at *
  unfold editV
  simp only
  have HQ := hidep (fun W (hb : Below w.heap.size w W) => msame_any p d p' d' i i' _ _ W (h.below hb) (h'.below hb))
  obtain ⟨a, c, rfl, _, _⟩ := h.form
  obtain ⟨a', c', rfl, _, _⟩ := h'.form
  clear h h'
  have HB : Hid (∀ o o', Below w.heap.size w ((w.alloc o).alloc o')) := hidep (fun o o' => ((Below.refl _ _).alloc (Nat.le_refl _) o).alloc (by simp) o')
  have HC : Hid (clashB ⟨p, d, i⟩ ⟨p', d', i'⟩ = (!decide ((⟨p, d, i⟩ : Edit) = ⟨p', d', i'⟩) && decide (p ≤ p' + d') && decide (p' ≤ p + d))) := hidep rfl
  rw [HC.out]
  generalize hE : decide ((⟨p, d, i⟩ : Edit) = ⟨p', d', i'⟩) = eq at *
  clear hE HC
  cases eq
  all_goals
    go_enter Try.func59, Try.ntmps59
    go_wp2_with (go_at_call 65; refine (HQ.out _ (HB.out _ _)).mono ?_; rintro e w1 ⟨rfl, hb1⟩; obtain ⟨hq1, hq2⟩ := bcell hb1; have hz : w.heap.size + 2 ≤ w1.heap.size := by (have := hb1.size; simp at this; omega))
    all_goals
      go_ret
      exact ⟨ret_val (congrArg Value.bool (by simp; try omega)), (HB.out _ _).trans (hb1.mono (by simp; omega))⟩
end Go.Proofs.Ythdafajhohdkoaa
