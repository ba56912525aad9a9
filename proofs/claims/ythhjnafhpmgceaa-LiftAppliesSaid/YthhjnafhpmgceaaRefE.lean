/- Contracts: size and equality of edits (reference). -/
import Derived.Test.YthhjnafhpmgceaaRefB
namespace Go.Proofs.Ythhjnafhpmgceaa
open Go.RowKit Go.Lab
def sizeZ (l : List Edit) : Int := (l.map fun e => e.del + (e.ins.length : Int)).sum
def szOk (l : List Edit) : Prop := l.length ≤ 1048576 ∧ ∀ e ∈ l, 0 ≤ e.del ∧ e.del ≤ 1099511627776 ∧ e.ins.length ≤ 1099511627776
theorem sizeZ_take_succ {l : List Edit} {k : Nat} (h : k < l.length) : sizeZ (l.take (k + 1)) = sizeZ (l.take k) + l[k].del + (l[k].ins.length : Int) := by
  unfold sizeZ
  rw [List.take_succ_eq_append_getElem h, List.map_append, List.sum_append]
  simp only [List.map_cons, List.map_nil, List.sum_cons, List.sum_nil]
  omega
theorem sizeZ_bd {l : List Edit} (h : szOk l) : ∀ k : Nat, k ≤ l.length → 0 ≤ sizeZ (l.take k) ∧ sizeZ (l.take k) ≤ (k : Int) * 2199023255552
  | 0, _ => by simp [sizeZ]
  | k + 1, hk => by
    have ih := sizeZ_bd h k (by omega)
    rw [sizeZ_take_succ (by omega)]
    have := h.2 l[k] (List.getElem_mem (by omega))
    omega
set_option maxHeartbeats 1000000 in
theorem size_any (v : Value) (l : List Edit) (w : World) (h : EditsAt w v l) (hs : szOk l) :
    Calls Try.prog 18 #[v] w fun e w' => e = .returned (.int .i64 (sizeZ l)) ∧ ∃ n, w' = w.drewN n := by
  obtain ⟨a, cap, rfl, h2, h3⟩ := h.form
  unfold maxLen at h3
  have hl := hs.1
  have HB := hidep (fun k hk => sizeZ_bd hs k hk)
  go_enter Try.func18, Try.ntmps18
  go_wp2
  go_loopw [3, 4] (fun s i wr => ∃ k n : Nat, k ≤ l.length ∧ i = .int .i64 k ∧ s = .int .i64 (sizeZ (l.take k)) ∧ Hid (wr = w.drewN n)) (fun _ i _ => l.length - (intOf i).toNat)
  case atStart => exact ⟨0, 0, Nat.zero_le _, rfl, rfl, hidep rfl⟩
  case round =>
    obtain ⟨k, n, hk, rfl, rfl, hw⟩ := hrel
    by_cases hlt : k < l.length
    · obtain ⟨b, off, u, rfl, hb, hc0, hc1, hc2, hu⟩ := h.at hlt
      obtain ⟨a', cap', rfl, hu2, hu3⟩ := hu.form
      unfold maxLen at hu3
      have hb0 := HB.out k hk
      have hst := sizeZ_take_succ hlt
      have hxs := hs.2 l[k] (List.getElem_mem hlt)
      have HS := hidep hst
      clear hst hs h hu
      generalize l[k] = x at *
      obtain ⟨pos, del, ins⟩ := x
      simp only at hc0 hc1 hc2 hxs HS
      obtain ⟨hx1, hx2, hx3⟩ := hxs
      obtain ⟨hb1, hb2⟩ := hb0
      have hb3 : (k : Int) * 2199023255552 ≤ 1048576 * 2199023255552 := by omega
      generalize sizeZ (l.take k) = s at *
      have hw' := hw.out
      clear hw
      subst hw'
      have hI : 0 ≤ (k : Int) := by omega
      have hI1 : (k : Int) < (l.length : Int) := by omega
      go_wp2
      go_quiet (fail)
      go_wp2
      go_roundw
      case rel => exact ⟨k + 1, _, by omega, by go_num, by rw [HS.out], hidep rfl⟩
      case measure => simp [intOf]; omega
    · go_wp2
      have hkl : k = l.length := by omega
      subst hkl
      go_ret
      exact ⟨ret_val (congrArg (Value.int .i64) (congrArg sizeZ (List.take_length (l := l)))), n, hw.out⟩
set_option maxHeartbeats 2000000 in
theorem sameEdits_any (v u : Value) (l m : List Edit) (w : World) (h : EditsAt w v l) (h' : EditsAt w u m) :
    Calls Try.prog 19 #[v, u] w fun e w' => e = .returned (.bool (decide (l = m))) ∧ ∃ n, w' = w.drewN n := by
  obtain ⟨a, cap, rfl, h2, h3⟩ := h.form
  obtain ⟨a', cap', rfl, h2', h3'⟩ := h'.form
  unfold maxLen at h3 h3'
  by_cases hne : l.length = m.length
  · have HL := hidep hne
    have HB : Hid ((((l.length : Int)) != (m.length : Int)) = false) := hidep (by simp [hne])
    clear hne
    have hb := HB.out
    go_enter Try.func19, Try.ntmps19
    go_wp2
    clear hb
    go_loopw [5] (fun i wr => ∃ k n : Nat, k ≤ l.length ∧ i = .int .i64 k ∧ Hid (wr = w.drewN n) ∧ Hid (l.take k = m.take k)) (fun i _ => l.length - (intOf i).toNat)
    case atStart => exact ⟨0, 0, Nat.zero_le _, rfl, hidep rfl, hidep rfl⟩
    case round =>
      obtain ⟨k, n, hk, rfl, hw, he⟩ := hrel
      by_cases hlt : k < l.length
      · have hlt' : k < m.length := by have := HL.out; omega
        obtain ⟨b, off, u, rfl, hb, hc0, hc1, hc2, hu⟩ := h.at hlt
        obtain ⟨b', off', u', rfl, hb', hc0', hc1', hc2', hu'⟩ := h'.at hlt'
        have hw' := hw.out
        clear hw
        subst hw'
        have HB : Hid (∀ x y, l[k] = x → m[k] = y → (x = y → l.take (k + 1) = m.take (k + 1)) ∧ (x ≠ y → l ≠ m)) := by
          rintro x y rfl rfl
          exact ⟨eq_take_succ hlt hlt' he.out, fun hxy e => hxy (by subst e; rfl)⟩
        have HB := hidep (HB.out _ _ rfl rfl)
        clear h h'
        generalize l[k] = x at *
        generalize m[k] = y at *
        obtain ⟨x1, x2, x3⟩ := x
        obtain ⟨y1, y2, y3⟩ := y
        simp only at hc0 hc1 hc0' hc1' hu hu'
        have HS := hidep (fun W : World => fun (n : Nat) (e : W = w.drewN n) => sameSyms_any u u' x3 y3 W (by rw [e]; exact hu) (by rw [e]; exact hu'))
        obtain ⟨ax, capx, rfl, hx2, hx3⟩ := hu.form
        obtain ⟨ay, capy, rfl, hy2, hy3⟩ := hu'.form
        clear hu hu'
        have hI : 0 ≤ (k : Int) := by omega
        have hI1 : (k : Int) < (l.length : Int) := by omega
        have hI2 : (k : Int) < (m.length : Int) := by omega
        by_cases e1 : x1 = y1
        · have t1 : (x1 != y1) = false := by simp [e1]
          have E1 := hidep e1
          clear e1
          by_cases e2 : x2 = y2
          · have t2 : (x2 != y2) = false := by simp [e2]
            have E2 := hidep e2
            clear e2
            by_cases e3 : x3 = y3
            · have HF : Hid ((⟨x1, x2, x3⟩ : Edit) = ⟨y1, y2, y3⟩) := hidep (by rw [E1.out, E2.out, e3])
              simp only [decide_eq_true e3] at HS
              clear e3
              go_wp2
              go_quiet ((go_at_call 15; refine (HS.out _ _ (by go_simp; rfl)).mono ?_; rintro e w' ⟨rfl, n1, rfl⟩; exact ⟨rfl, _, by rw [World.drewN_drewN, Nat.add_assoc]⟩))
              go_wp2
              go_roundw
              case rel => exact ⟨k + 1, _, by omega, by go_num, hidep rfl, hidep (HB.out.1 HF.out)⟩
              case measure => simp [intOf]; omega
            · have HG : Hid ((⟨x1, x2, x3⟩ : Edit) ≠ ⟨y1, y2, y3⟩) := hidep (fun e => e3 (by injection e))
              simp only [decide_eq_false e3] at HS
              clear e3
              go_wp2
              go_quiet ((go_at_call 15; refine (HS.out _ _ (by go_simp; rfl)).mono ?_; rintro e w' ⟨rfl, n1, rfl⟩; exact ⟨rfl, _, by rw [World.drewN_drewN, Nat.add_assoc]⟩))
              go_wp2
              go_ret
              exact ⟨ret_val (congrArg _ (decide_eq_false (HB.out.2 HG.out)).symm), _, World.drewN_drewN ..⟩
          · have t2 : (x2 != y2) = true := by simp [e2]
            have HG : Hid ((⟨x1, x2, x3⟩ : Edit) ≠ ⟨y1, y2, y3⟩) := hidep (fun e => e2 (by injection e))
            clear e2
            go_wp2
            go_quiet (fail)
            go_wp2
            go_ret
            exact ⟨ret_val (congrArg _ (decide_eq_false (HB.out.2 HG.out)).symm), _, World.drewN_drewN ..⟩
        · have t1 : (x1 != y1) = true := by simp [e1]
          have HG : Hid ((⟨x1, x2, x3⟩ : Edit) ≠ ⟨y1, y2, y3⟩) := hidep (fun e => e1 (by injection e))
          clear e1
          go_wp2
          go_quiet (fail)
          go_wp2
          go_ret
          exact ⟨ret_val (congrArg _ (decide_eq_false (HB.out.2 HG.out)).symm), _, World.drewN_drewN ..⟩
      · go_wp2
        have hkl : k = l.length := by omega
        subst hkl
        have hlm : l = m := by
          have := he.out
          rw [List.take_length, HL.out, List.take_length] at this
          exact this
        go_ret
        exact ⟨ret_val (congrArg _ (decide_eq_true hlm).symm), n, hw.out⟩
  · have HB : Hid ((((l.length : Int)) != (m.length : Int)) = true) := hidep (by simp; omega)
    have HN : Hid (l ≠ m) := hidep (fun e => hne (by rw [e]))
    clear hne
    have hb := HB.out
    go_enter Try.func19, Try.ntmps19
    go_wp2
    go_ret
    exact ⟨ret_val (congrArg _ (decide_eq_false HN.out).symm), 0, rfl⟩
end Go.Proofs.Ythhjnafhpmgceaa
