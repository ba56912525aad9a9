/- Contracts of the reference's disk: Len, Up, is, step, Trip, Read, Write, Wear. -/
import Derived.Test.YtmgogmjkoealoaaDkA
namespace Go.Proofs.Ytmgogmjkoealoaa
open Go.RowKit Go.Lab Go.Disk Go.Maps
theorem secC_len (x : Sec) : (secC x).length = 4 := rfl
section
variable {lo hi b g c : Nat} {D : Dk} {w : World}
theorem RDiskIn.c0 (h : RDiskIn w lo hi b g c D) : w.cell? ⟨b, 0, none⟩ = some (.slice (some ⟨g, 0, none⟩) D.s.length c) := h.top.cell rfl
theorem RDiskIn.c1 (h : RDiskIn w lo hi b g c D) : w.cell? ⟨b, 1, none⟩ = some (.bool D.off) := h.top.cell rfl
theorem RDiskIn.c2 (h : RDiskIn w lo hi b g c D) : w.cell? ⟨b, 2, none⟩ = some (.int .i64 D.left) := h.top.cell rfl
theorem RDiskIn.fr (h : RDiskIn w lo hi b g c D) (j : Nat) : w.frozen? ⟨b, j, none⟩ = false := h.top.free j
theorem RDiskIn.frS (h : RDiskIn w lo hi b g c D) (j : Nat) : w.frozen? ⟨g, j, none⟩ = false := h.row.free j
theorem RDiskIn.at (h : RDiskIn w lo hi b g c D) {k : Nat} (hk : k < D.s.length) : w.cell? ⟨g, k * 4, none⟩ = some (.string (atS D.s k).text) ∧ w.cell? ⟨g, k * 4 + 1, none⟩ = some (.string (atS D.s k).next) ∧
    w.cell? ⟨g, k * 4 + 2, none⟩ = some (.bool (atS D.s k).dirty) ∧ w.cell? ⟨g, k * 4 + 3, none⟩ = some (.bool (atS D.s k).worn) := by
  rw [atS_get hk]
  have e : ∀ j, j < 4 → (secsC D.s)[k * 4 + j]? = (secC D.s[k])[j]? := fun j hj => chunk_get secC_len D.s hk hj
  exact ⟨h.row.cell (j := k * 4) (by rw [show (secsC D.s)[k * 4]? = (secsC D.s)[k * 4 + 0]? from rfl, e 0 (by omega)]; rfl), h.row.cell (by rw [e 1 (by omega)]; rfl), h.row.cell (by rw [e 2 (by omega)]; rfl), h.row.cell (by rw [e 3 (by omega)]; rfl)⟩
theorem RDiskIn.ne (h : RDiskIn w lo hi b g c D) : g ≠ b := row_ne h.row h.top (by decide)
theorem RDiskIn.other (h : RDiskIn w lo hi b g c D) {w' : World} {D' : Dk} (hs : D'.s = D.s) (hT : Turn b (b + 1) w w')
    (htop : RowAt w' b 57 [.slice (some ⟨g, 0, none⟩) D.s.length c, .bool D'.off, .int .i64 D'.left]) (hok : D'.Ok) : RDiskIn w' lo hi b g c D' := by
  have hgb := h.ne
  have hz := h.hi
  have hg := h.hg
  exact ⟨h.hb, h.hg, Nat.le_trans h.hi hT.size, by rw [hs]; exact h.cap, by rw [hs]; exact htop, by rw [hs]; exact h.row.of_turn hT (by omega), hok, by rw [hs]; exact h.clean⟩
theorem RDiskIn.setLeft (h : RDiskIn w lo hi b g c D) {l : Int} (hr : -1 ≤ l ∧ l ≤ 9223372036854775807) : RDiskIn (w.setCell ⟨b, 2, none⟩ (.int .i64 l)) lo hi b g c { D with left := l } :=
  h.other rfl (Turn.setCell (a := ⟨b, 2, none⟩) (Nat.le_refl b) (Nat.lt_succ_self b) _) (h.top.setCell (o := 2) (by simp) _) ⟨h.ok.1, hr⟩
theorem RDiskIn.setOff (h : RDiskIn w lo hi b g c D) (o : Bool) : RDiskIn (w.setCell ⟨b, 1, none⟩ (.bool o)) lo hi b g c { D with off := o } :=
  h.other rfl (Turn.setCell (a := ⟨b, 1, none⟩) (Nat.le_refl b) (Nat.lt_succ_self b) _) (h.top.setCell (o := 1) (by simp) _) h.ok
theorem RDiskIn.turn (h : RDiskIn w lo hi b g c D) (j : Nat) (v : Value) : Turn lo hi w (w.setCell ⟨b, j, none⟩ v) := Turn.setCell h.hb.1 h.hb.2 v
theorem RDiskIn.turnS (h : RDiskIn w lo hi b g c D) (j : Nat) (v : Value) : Turn lo hi w (w.setCell ⟨g, j, none⟩ v) := Turn.setCell h.hg.1 h.hg.2 v
/-- The sector k turns into x. -/
theorem RDiskIn.row_set (h : RDiskIn w lo hi b g c D) {w' : World} {k : Nat} {x : Sec} (hT : Turn g (g + 1) w w')
    (hrow : RowAt w' g 54 (secsC (D.s.set k x))) (hx : x.Ok) (hc : x.dirty = false → x.next = ByteArray.empty) : RDiskIn w' lo hi b g c { D with s := D.s.set k x } := by
  have hgb := h.ne
  have hz := h.hi
  have hb := h.hb
  exact ⟨h.hb, h.hg, Nat.le_trans h.hi hT.size, by simpa using h.cap, by simpa using h.top.of_turn hT (by omega), hrow, ⟨h.ok.1.set k hx, h.ok.2⟩, fun y hy => by
    rcases List.mem_or_eq_of_mem_set hy with h1 | rfl
    · exact h.clean y h1
    · exact hc⟩
end
theorem secs_set {S : List Sec} {k : Nat} (hk : k < S.length) (j : Nat) (v : Value) (x : Sec) (hj : j < 4) (hx : secC x = (secC (atS S k)).set j v) : (secsC S).set (k * 4 + j) v = secsC (S.set k x) :=
  chunk_set secC_len S k j v x hk hj (by rw [← atS_get hk]; exact hx)
theorem secsC_len (S : List Sec) : (secsC S).length = S.length * 4 := chunk_len secC_len S
set_option maxHeartbeats 400000 in
theorem rlen_any (p : Value) (D : Dk) (w : World) (lo hi : Nat) (h : RDiskAt w lo hi p D) :
    Calls Try.prog 44 #[p] w fun e w' => e = .returned (.int .i64 D.s.length) ∧ w = w' := by
  obtain ⟨b, g, c, rfl, h⟩ := h
  have c0 := h.c0
  clear h
  go_enter Try.func44, Try.ntmps44
  go_wp2
  go_ret
  exact ⟨rfl, rfl⟩
set_option maxHeartbeats 400000 in
theorem rup_any (p : Value) (D : Dk) (w : World) (lo hi : Nat) (h : RDiskAt w lo hi p D) :
    Calls Try.prog 45 #[p] w fun e w' => e = .returned (.bool (!D.off)) ∧ w = w' := by
  obtain ⟨b, g, c, rfl, h⟩ := h
  have c1 := h.c1
  clear h
  go_enter Try.func45, Try.ntmps45
  go_wp2
  go_ret
  exact ⟨rfl, rfl⟩
set_option maxHeartbeats 400000 in
theorem is_any (p : Value) (D : Dk) (i : Int) (w : World) (lo hi : Nat) (h : RDiskAt w lo hi p D) :
    Calls Try.prog 55 #[p, .int .i64 i] w fun e w' => e = .returned (.bool (D.isIn i)) ∧ w = w' := by
  obtain ⟨b, g, c, rfl, h⟩ := h
  have c0 := h.c0
  have hok := h.ok.1.2.1
  clear h
  cases hin : D.isIn i with
  | true =>
    have := isIn_lt hin
    have h1 : 0 ≤ i := this.1
    have h2 : i < (D.s.length : Int) := by omega
    clear hin this
    generalize D.s.length = n at *
    go_enter Try.func55, Try.ntmps55
    go_wp2
    go_ret
    exact ⟨rfl, rfl⟩
  | false =>
    have := isIn_out hin
    clear hin
    generalize D.s.length = n at *
    rcases this with h1 | ⟨h1, h2⟩
    all_goals
      go_enter Try.func55, Try.ntmps55
      go_wp2
      go_ret
      exact ⟨ret_val (congrArg Value.bool (by first | rfl | (simp; omega))), rfl⟩
set_option maxHeartbeats 400000 in
theorem rtrip_any (p : Value) (D : Dk) (n : Int) (w : World) (lo hi : Nat) (h : RDiskAt w lo hi p D) (hn : -9223372036854775808 ≤ n ∧ n ≤ 9223372036854775807) :
    Calls Try.prog 36 #[p, .int .i64 n] w fun e w' => e = .returned (.tuple #[]) ∧ RDiskAt w' lo hi p (tripD D n) ∧ Turn lo hi w w' := by
  obtain ⟨b, g, c, rfl, h⟩ := h
  have f2 := h.fr 2
  have c2 := h.c2
  have H := hidep h
  clear h
  obtain ⟨m, hm⟩ : ∃ m : Int, max (-1) n = m := ⟨_, rfl⟩
  have HM := hidep hm
  clear hm
  by_cases hneg : n ≤ -1
  · go_enter Try.func36, Try.ntmps36
    go_wp2
    go_end0
    have e : m = -1 := by have := HM.out; omega
    have HH := H.out.setLeft (l := -1) (by omega)
    exact ⟨rfl, ⟨b, g, c, rfl, by unfold tripD; rw [HM.out, e]; exact HH⟩, H.out.turn 2 _⟩
  · go_enter Try.func36, Try.ntmps36
    go_wp2
    go_end0
    have e : m = n := by have := HM.out; omega
    have HH := H.out.setLeft (l := n) (by omega)
    exact ⟨rfl, ⟨b, g, c, rfl, by unfold tripD; rw [HM.out, e]; exact HH⟩, H.out.turn 2 _⟩
set_option maxHeartbeats 400000 in
theorem rstep_any (p : Value) (D : Dk) (w : World) (lo hi : Nat) (h : RDiskAt w lo hi p D) :
    Calls Try.prog 56 #[p] w fun e w' => e = .returned (.int .i64 (stepE D)) ∧ RDiskAt w' lo hi p (stepD D) ∧ Turn lo hi w w' := by
  obtain ⟨b, g, c, rfl, h⟩ := h
  have c2 := h.c2
  have f2 := h.fr 2
  have f1 := h.fr 1
  have c1 := h.c1
  have hlo := h.ok.2
  have H := hidep h
  clear h
  obtain ⟨l, hl⟩ : ∃ l, D.left = l := ⟨_, rfl⟩
  rw [hl] at c2 hlo
  have HL := hidep hl
  have hcase : l = 0 ∨ 0 < l ∨ l < 0 := by omega
  rcases hcase with rfl | h1 | h1
  · have HE := hidep (stepE_0 hl)
    have HD := hidep (stepD_0 hl)
    clear hl hlo
    go_enter Try.func56, Try.ntmps56
    go_wp2
    go_ret
    exact ⟨ret_val (congrArg _ HE.out.symm), by rw [HD.out]; exact ⟨b, g, c, rfl, H.out.setOff true⟩, H.out.turn 1 _⟩
  · have HE := hidep (stepE_1 (D := D) (by omega))
    have HD := hidep (stepD_1 (D := D) (by omega))
    clear hl
    go_enter Try.func56, Try.ntmps56
    go_wp2
    go_ret
    have HH := H.out.setLeft (l := l - 1) (by omega)
    exact ⟨ret_val (congrArg _ HE.out.symm), by rw [HD.out, HL.out]; exact ⟨b, g, c, rfl, HH⟩, H.out.turn 2 _⟩
  · have HE := hidep (stepE_1 (D := D) (by omega))
    have HD := hidep (stepD_2 (D := D) (by omega))
    clear hl
    go_enter Try.func56, Try.ntmps56
    go_wp2
    go_ret
    exact ⟨ret_val (congrArg _ HE.out.symm), by rw [HD.out]; exact ⟨b, g, c, rfl, H.out⟩, Turn.refl _ _ _⟩
theorem readZ_off {D : Dk} (i : Int) (h : D.off = true) : readZ D i = (ByteArray.empty, 25) := if_pos h
theorem readZ_out {D : Dk} {i : Int} (h : D.off = false) (hi : D.isIn i = false) : readZ D i = (ByteArray.empty, 1) := by unfold readZ; rw [if_neg (by rw [h]; simp), if_pos hi]
theorem readZ_dirty {D : Dk} {k : Nat} (h : D.off = false) (hk : k < D.s.length) (hd : (atS D.s k).dirty = true) : readZ D (k : Int) = ((atS D.s k).next, 0) := by
  unfold readZ
  rw [if_neg (by rw [h]; simp), if_neg (by rw [isIn_mk hk]; simp), Int.toNat_natCast, if_pos hd]
theorem readZ_clean {D : Dk} {k : Nat} (h : D.off = false) (hk : k < D.s.length) (hd : (atS D.s k).dirty = false) : readZ D (k : Int) = ((atS D.s k).text, 0) := by
  unfold readZ
  rw [if_neg (by rw [h]; simp), if_neg (by rw [isIn_mk hk]; simp), Int.toNat_natCast, if_neg (by rw [hd]; simp)]
theorem ret_two {a b : ByteArray × Int} (h : a = b) : Ending.returned (.tuple #[.string a.1, .int .i64 a.2]) = .returned (.tuple #[.string b.1, .int .i64 b.2]) := by rw [h]
set_option maxHeartbeats 400000 in
theorem rread_any (p : Value) (D : Dk) (i : Int) (w : World) (lo hi : Nat) (h : RDiskAt w lo hi p D) :
    Calls Try.prog 34 #[p, .int .i64 i] w fun e w' => e = .returned (.tuple #[.string (readZ D i).1, .int .i64 (readZ D i).2]) ∧ w = w' := by
  have HI := hidep (fun W hW => is_any p D i W lo hi (hW : RDiskAt W lo hi p D))
  obtain ⟨b, g, c, rfl, h⟩ := h
  have c0 := h.c0
  have c1 := h.c1
  have hok := h.ok.1.2.1
  have H : Hid (RDiskAt w lo hi (.pointer (some ⟨b, 0, none⟩)) D) := hidep ⟨b, g, c, rfl, h⟩
  cases hoff : D.off with
  | true =>
    rw [hoff] at c1
    have HZ := hidep (readZ_off i hoff)
    clear hoff h
    go_enter Try.func34, Try.ntmps34
    go_wp2
    go_ret2
    exact ⟨ret_two HZ.out.symm, rfl⟩
  | false =>
    rw [hoff] at c1
    cases hin : D.isIn i with
    | false =>
      have HZ := hidep (readZ_out hoff hin)
      have HN := hidep hin
      clear hoff hin h
      go_enter Try.func34, Try.ntmps34
      go_wp2_with (go_at_call 55; refine (HI.out _ H.out).mono ?_; rintro e w' ⟨rfl, rfl⟩; rw [HN.out])
      go_ret2
      exact ⟨ret_two HZ.out.symm, rfl⟩
    | true =>
      have HN := hidep hin
      obtain ⟨h0, hk⟩ := isIn_lt hin
      obtain ⟨k, rfl⟩ : ∃ k : Nat, i = (k : Int) := ⟨i.toNat, by omega⟩
      rw [Int.toNat_natCast] at hk
      clear hin h0
      obtain ⟨d0, d1, d2, d3⟩ := h.at hk
      clear h
      cases hd : (atS D.s k).dirty with
      | true =>
        have HZ := hidep (readZ_dirty hoff hk hd)
        rw [hd] at d2
        clear hd hoff
        generalize atS D.s k = x at *
        obtain ⟨x1, x2, x3, x4⟩ := x
        simp only at d0 d1 d3 HZ
        generalize D.s.length = n at *
        go_enter Try.func34, Try.ntmps34
        go_wp2_with (go_at_call 55; refine (HI.out _ H.out).mono ?_; rintro e w' ⟨rfl, rfl⟩; rw [HN.out])
        go_ret2
        exact ⟨ret_two HZ.out.symm, rfl⟩
      | false =>
        have HZ := hidep (readZ_clean hoff hk hd)
        rw [hd] at d2
        clear hd hoff
        generalize atS D.s k = x at *
        obtain ⟨x1, x2, x3, x4⟩ := x
        simp only at d0 d1 d3 HZ
        generalize D.s.length = n at *
        go_enter Try.func34, Try.ntmps34
        go_wp2_with (go_at_call 55; refine (HI.out _ H.out).mono ?_; rintro e w' ⟨rfl, rfl⟩; rw [HN.out])
        go_ret2
        exact ⟨ret_two HZ.out.symm, rfl⟩
end Go.Proofs.Ytmgogmjkoealoaa
