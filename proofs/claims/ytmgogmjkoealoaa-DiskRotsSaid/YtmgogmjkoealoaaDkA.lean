/- Contracts of the program's disk: Len, Up, check, step, Trip. -/
import Derived.Test.YtmgogmjkoealoaaDkAt
namespace Go.Proofs.Ytmgogmjkoealoaa
open Go.RowKit Go.Lab Go.Disk Go.Maps
section
variable {lo hi b g mb wb c : Nat} {l : Int} {P W : DataW Unit} {D : Dk} {w : World}
theorem DiskIn.c0 (h : DiskIn w lo hi b g mb wb c l P W D) : w.cell? ⟨b, 0, none⟩ = some (.slice (some ⟨g, 0, none⟩) D.s.length c) := h.top.cell rfl
theorem DiskIn.c1 (h : DiskIn w lo hi b g mb wb c l P W D) : w.cell? ⟨b, 1, none⟩ = some (.map (some mb)) := h.top.cell rfl
theorem DiskIn.c2 (h : DiskIn w lo hi b g mb wb c l P W D) : w.cell? ⟨b, 2, none⟩ = some (.map (some wb)) := h.top.cell rfl
theorem DiskIn.c3 (h : DiskIn w lo hi b g mb wb c l P W D) : w.cell? ⟨b, 3, none⟩ = some (.bool D.off) := h.top.cell rfl
theorem DiskIn.c4 (h : DiskIn w lo hi b g mb wb c l P W D) : w.cell? ⟨b, 4, none⟩ = some (.int .i64 l) := h.top.cell rfl
theorem DiskIn.fr (h : DiskIn w lo hi b g mb wb c l P W D) (j : Nat) : w.frozen? ⟨b, j, none⟩ = false := h.top.free j
theorem DiskIn.other (h : DiskIn w lo hi b g mb wb c l P W D) {w' : World} {l' : Int} {D' : Dk} (hs : D'.s = D.s) (hT : Turn b (b + 1) w w')
    (htop : RowAt w' b 71 [.slice (some ⟨g, 0, none⟩) D.s.length c, .map (some mb), .map (some wb), .bool D'.off, .int .i64 l']) (hl : Lft l' D'.left) (hok : D'.Ok) : DiskIn w' lo hi b g mb wb c l' P W D' := by
  have hgb := row_ne h.row h.top (by decide)
  have hmb := ownsMap_ne h.pend h.top
  have hwb := ownsMap_ne h.worn h.top
  have hz := h.hi
  have hg := h.hg
  have hm := h.hm
  have hw := h.hw
  refine ⟨h.hb, h.hg, h.hm, h.hw, Nat.le_trans h.hi hT.size, h.ne, by rw [hs]; exact h.cap, by rw [hs]; exact htop, by rw [hs]; exact h.row.of_turn hT (by omega), ownsMap_block h.pend (hT.block _ (by omega) (by omega)), ownsMap_block h.worn (hT.block _ (by omega) (by omega)), by rw [hs]; exact h.pv, by rw [hs]; exact h.wv, hl, hok⟩
theorem DiskIn.setLeft (h : DiskIn w lo hi b g mb wb c l P W D) {l' left' : Int} (hl : Lft l' left') (hr : -1 ≤ left' ∧ left' ≤ 9223372036854775807) : DiskIn (w.setCell ⟨b, 4, none⟩ (.int .i64 l')) lo hi b g mb wb c l' P W { D with left := left' } :=
  h.other rfl (Turn.setCell (a := ⟨b, 4, none⟩) (Nat.le_refl b) (Nat.lt_succ_self b) _) (h.top.setCell (o := 4) (by simp) _) hl ⟨h.ok.1, hr⟩
theorem DiskIn.setOff (h : DiskIn w lo hi b g mb wb c l P W D) (o : Bool) : DiskIn (w.setCell ⟨b, 3, none⟩ (.bool o)) lo hi b g mb wb c l P W { D with off := o } :=
  h.other rfl (Turn.setCell (a := ⟨b, 3, none⟩) (Nat.le_refl b) (Nat.lt_succ_self b) _) (h.top.setCell (o := 3) (by simp) _) h.lft h.ok
theorem DiskIn.turn (h : DiskIn w lo hi b g mb wb c l P W D) (j : Nat) (v : Value) : Turn lo hi w (w.setCell ⟨b, j, none⟩ v) := Turn.setCell h.hb.1 h.hb.2 v
end
set_option maxHeartbeats 400000 in
theorem len_any (p : Value) (D : Dk) (w : World) (lo hi : Nat) (h : DiskAt w lo hi p D) :
    Calls Try.prog 31 #[p] w fun e w' => e = .returned (.int .i64 D.s.length) ∧ w = w' := by
  obtain ⟨b, g, mb, wb, c, l, P, W, rfl, h⟩ := h
  have c0 := h.c0
  clear h
  go_enter Try.func31, Try.ntmps31
  go_wp2
  go_ret
  exact ⟨rfl, rfl⟩
set_option maxHeartbeats 400000 in
theorem up_any (p : Value) (D : Dk) (w : World) (lo hi : Nat) (h : DiskAt w lo hi p D) :
    Calls Try.prog 27 #[p] w fun e w' => e = .returned (.bool (!D.off)) ∧ w = w' := by
  obtain ⟨b, g, mb, wb, c, l, P, W, rfl, h⟩ := h
  have c3 := h.c3
  clear h
  go_enter Try.func27, Try.ntmps27
  go_wp2
  go_ret
  exact ⟨rfl, rfl⟩
theorem checkZ_off {D : Dk} (i : Int) (h : D.off = true) : checkZ D i = 25 := if_pos h
theorem checkZ_out {D : Dk} {i : Int} (h : D.off = false) (hi : D.isIn i = false) : checkZ D i = 1 := by unfold checkZ; rw [if_neg (by rw [h]; simp), if_pos hi]
theorem checkZ_in {D : Dk} {i : Int} (h : D.off = false) (hi : D.isIn i = true) : checkZ D i = 0 := by unfold checkZ; rw [if_neg (by rw [h]; simp), if_neg (by rw [hi]; simp)]
set_option maxHeartbeats 400000 in
theorem check_any (p : Value) (D : Dk) (i : Int) (w : World) (lo hi : Nat) (h : DiskAt w lo hi p D) :
    Calls Try.prog 46 #[p, .int .i64 i] w fun e w' => e = .returned (.int .i64 (checkZ D i)) ∧ w = w' := by
  obtain ⟨b, g, mb, wb, c, l, P, W, rfl, h⟩ := h
  have c0 := h.c0
  have c3 := h.c3
  have hok := h.ok.1.2.1
  clear h
  cases hoff : D.off with
  | true =>
    rw [hoff] at c3
    have HZ := hidep (checkZ_off i hoff)
    clear hoff
    go_enter Try.func46, Try.ntmps46
    go_wp2
    go_ret
    exact ⟨ret_val (congrArg _ HZ.out.symm), rfl⟩
  | false =>
    rw [hoff] at c3
    cases hin : D.isIn i with
    | true =>
      have HZ := hidep (checkZ_in hoff hin)
      have := isIn_lt hin
      have h1 : 0 ≤ i := this.1
      have h2 : i < (D.s.length : Int) := by omega
      clear hoff hin this
      generalize D.s.length = n at *
      go_enter Try.func46, Try.ntmps46
      go_wp2
      go_ret
      exact ⟨ret_val (congrArg _ HZ.out.symm), rfl⟩
    | false =>
      have HZ := hidep (checkZ_out hoff hin)
      have := isIn_out hin
      clear hoff hin
      generalize D.s.length = n at *
      rcases this with h1 | ⟨h1, h2⟩
      all_goals
        go_enter Try.func46, Try.ntmps46
        go_wp2
        go_ret
        exact ⟨ret_val (congrArg _ HZ.out.symm), rfl⟩
set_option maxHeartbeats 400000 in
theorem trip_any (p : Value) (D : Dk) (n : Int) (w : World) (lo hi : Nat) (h : DiskAt w lo hi p D) (hn : -9223372036854775808 ≤ n ∧ n ≤ 9223372036854775807) :
    Calls Try.prog 30 #[p, .int .i64 n] w fun e w' => e = .returned (.tuple #[]) ∧ DiskAt w' lo hi p (tripD D n) ∧ Turn lo hi w w' := by
  obtain ⟨b, g, mb, wb, c, l, P, W, rfl, h⟩ := h
  have c4 := h.c4
  have f4 := h.fr 4
  have H := hidep h
  clear h
  go_enter Try.func30, Try.ntmps30
  go_wp2
  go_end0
  have HH := H.out.setLeft (l' := n) (left' := max (-1) n) ⟨by split <;> omega, hn⟩ (by omega)
  exact ⟨rfl, ⟨b, g, mb, wb, c, n, P, W, rfl, HH⟩, H.out.turn 4 _⟩
theorem stepE_0 {D : Dk} (h : D.left = 0) : stepE D = 25 := if_pos h
theorem stepE_1 {D : Dk} (h : D.left ≠ 0) : stepE D = 0 := if_neg h
theorem stepD_0 {D : Dk} (h : D.left = 0) : stepD D = { D with off := true } := if_pos h
theorem stepD_1 {D : Dk} (h : 0 < D.left) : stepD D = { D with left := D.left - 1 } := by unfold stepD; rw [if_neg (by omega), if_pos h]
theorem stepD_2 {D : Dk} (h : D.left < 0) : stepD D = D := by unfold stepD; rw [if_neg (by omega), if_neg (by omega)]
set_option maxHeartbeats 400000 in
theorem step_any (p : Value) (D : Dk) (w : World) (lo hi : Nat) (h : DiskAt w lo hi p D) :
    Calls Try.prog 47 #[p] w fun e w' => e = .returned (.int .i64 (stepE D)) ∧ DiskAt w' lo hi p (stepD D) ∧ Turn lo hi w w' := by
  obtain ⟨b, g, mb, wb, c, l, P, W, rfl, h⟩ := h
  have c4 := h.c4
  have f4 := h.fr 4
  have f3 := h.fr 3
  have c3 := h.c3
  have hl := h.lft
  have hlo := h.ok.2
  have H := hidep h
  clear h
  obtain ⟨hl1, hl2, hl3⟩ := hl
  have hcase : (l = 0 ∧ D.left = 0) ∨ (0 < l ∧ D.left = l) ∨ (l < 0 ∧ D.left = -1) := by
    split at hl1 <;> omega
  clear hl1
  rcases hcase with ⟨rfl, h2⟩ | ⟨h1, h2⟩ | ⟨h1, h2⟩
  · have HE := hidep (stepE_0 h2)
    have HD := hidep (stepD_0 h2)
    clear h2 hlo
    go_enter Try.func47, Try.ntmps47
    go_wp2
    go_ret
    exact ⟨ret_val (congrArg _ HE.out.symm), by rw [HD.out]; exact ⟨b, g, mb, wb, c, 0, P, W, rfl, H.out.setOff true⟩, H.out.turn 3 _⟩
  · have HE := hidep (stepE_1 (D := D) (by omega))
    have HD := hidep (stepD_1 (D := D) (by omega))
    have HL := hidep h2
    clear h2 hlo
    go_enter Try.func47, Try.ntmps47
    go_wp2
    go_ret
    have HH := H.out.setLeft (l' := l - 1) (left' := D.left - 1) ⟨by rw [if_neg (by omega), HL.out], by omega⟩ (by have := HL.out; omega)
    exact ⟨ret_val (congrArg _ HE.out.symm), by rw [HD.out]; exact ⟨b, g, mb, wb, c, _, P, W, rfl, HH⟩, H.out.turn 4 _⟩
  · have HE := hidep (stepE_1 (D := D) (by omega))
    have HD := hidep (stepD_2 (D := D) (by omega))
    clear h2 hlo
    go_enter Try.func47, Try.ntmps47
    go_wp2
    go_ret
    exact ⟨ret_val (congrArg _ HE.out.symm), by rw [HD.out]; exact ⟨b, g, mb, wb, c, _, P, W, rfl, H.out⟩, Turn.refl _ _ _⟩
end Go.Proofs.Ytmgogmjkoealoaa
