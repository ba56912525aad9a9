/- Contracts: two texts are equal. -/
import Derived.Test.YthdafajhohdkoaaRefA
namespace Go.Proofs.Ythdafajhohdkoaa
open Go.RowKit Go.Lab
theorem eq_take_succ {α : Type} [DecidableEq α] {l m : List α} {k : Nat} (h : k < l.length) (h' : k < m.length) (e : l.take k = m.take k) (he : l[k] = m[k]) : l.take (k + 1) = m.take (k + 1) := by
  rw [List.take_succ_eq_append_getElem h, List.take_succ_eq_append_getElem h', e, he]
set_option maxHeartbeats 400000 in
theorem sameSyms_any (v u : Value) (l m : List Sym) (w : World) (h : SymsAt w v l) (h' : SymsAt w u m) :
    Calls Try.prog 20 #[v, u] w fun e w' => e = .returned (.bool (decide (l = m))) ∧ ∃ n, w' = w.drewN n := by
  obtain ⟨a, cap, rfl, h2, h3⟩ := h.form
  obtain ⟨a', cap', rfl, h2', h3'⟩ := h'.form
  unfold maxLen at h3 h3'
  by_cases hne : l.length = m.length
  · have HL := hidep hne
    have HB : Hid ((((l.length : Int)) != (m.length : Int)) = false) := hidep (by simp [hne])
    clear hne
    have hb := HB.out
    go_enter Try.func20, Try.ntmps20
    go_wp2
    clear hb
    go_loopw [5] (fun i wr => ∃ k n : Nat, k ≤ l.length ∧ i = .int .i64 k ∧ Hid (wr = w.drewN n) ∧ Hid (l.take k = m.take k)) (fun i _ => l.length - (intOf i).toNat)
    case atStart => exact ⟨0, 0, Nat.zero_le _, rfl, hidep rfl, hidep rfl⟩
    case round =>
      obtain ⟨k, n, hk, rfl, hw, he⟩ := hrel
      by_cases hlt : k < l.length
      · have hlt' : k < m.length := by have := HL.out; omega
        obtain ⟨b, off, rfl, hb, hc1, hc2⟩ := h.at hlt
        obtain ⟨b', off', rfl, hb', hc1', hc2'⟩ := h'.at hlt'
        have hw' := hw.out
        clear hw
        subst hw'
        have HB : Hid (∀ x y, l[k] = x → m[k] = y → (x = y → l.take (k + 1) = m.take (k + 1)) ∧ (x ≠ y → l ≠ m)) := by
          rintro x y rfl rfl
          exact ⟨eq_take_succ hlt hlt' he.out, fun hxy e => hxy (by subst e; rfl)⟩
        have HB := hidep (HB.out _ _ rfl rfl)
        clear h h'
        generalize l[k] = x at *
        generalize m[k] = y at *
        obtain ⟨x1, x2⟩ := x
        obtain ⟨y1, y2⟩ := y
        simp only at hc1 hc2 hc1' hc2'
        have hI : 0 ≤ (k : Int) := by omega
        have hI1 : (k : Int) < (l.length : Int) := by omega
        have hI2 : (k : Int) < (m.length : Int) := by omega
        have hE := run_neq_sym x1 x2 y1 y2
        have hG := run_guard_sym
        go_wp2
        go_quiet (fail)
        go_wp2
        · have ht : (!x1 == y1) = true ∨ (!x2 == y2) = true := by assumption
          have hne : (⟨x1, x2⟩ : Sym) ≠ ⟨y1, y2⟩ := by
            intro e; injection e with e1 e2; subst e1 e2; simp at ht
          go_ret
          exact ⟨ret_val (congrArg _ (decide_eq_false (HB.out.2 hne)).symm), _, World.drewN_drewN ..⟩
        · have ht : (!x1 == y1) = false ∧ (!x2 == y2) = false := by assumption
          have he : (⟨x1, x2⟩ : Sym) = ⟨y1, y2⟩ := by
            simp at ht; rw [ht.1, ht.2]
          go_roundw
          case rel => exact ⟨k + 1, _, by omega, by go_num, hidep rfl, hidep (HB.out.1 he)⟩
          case measure => simp [intOf]; omega
      · go_wp2
        have hkl : k = l.length := by omega
        subst hkl
        have hlm : l = m := by
          have := he.out
          rw [List.take_length, HL.out, List.take_length] at this
          exact this
        go_ret
        exact ⟨ret_val (congrArg _ (decide_eq_true hlm).symm), n, hw.out⟩
  · have HB : Hid ((((l.length : Int)) != (m.length : Int)) = true) := hidep (by simp; omega)
    have HN : Hid (l ≠ m) := hidep (fun e => hne (by rw [e]))
    clear hne
    have hb := HB.out
    go_enter Try.func20, Try.ntmps20
    go_wp2
    go_ret
    exact ⟨ret_val (congrArg _ (decide_eq_false HN.out).symm), 0, rfl⟩
end Go.Proofs.Ythdafajhohdkoaa
