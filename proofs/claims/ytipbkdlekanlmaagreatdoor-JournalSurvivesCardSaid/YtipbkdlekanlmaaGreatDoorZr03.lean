/- Contracts of the reference's disk: Len, Up, is, step, Trip, Read, Write, Wear. -/
import Derived.Test.YtipbkdlekanlmaaGreatDoorZr02
namespace Go.Proofs.YtipbkdlekanlmaaGreatDoor
open Go.RowKit Go.Lab Go.Disk Go.Maps
theorem secC_len (x : Sec) : (secC x).length = 4 := rfl
section
variable {lo hi b g c : Nat} {D : Dk} {w : World}
theorem RDiskIn.c0 (h : RDiskIn w lo hi b g c D) : w.cell? ⟨b, 0, none⟩ = some (.slice (some ⟨g, 0, none⟩) D.s.length c) := h.top.cell rfl
theorem RDiskIn.c1 (h : RDiskIn w lo hi b g c D) : w.cell? ⟨b, 1, none⟩ = some (.bool D.off) := h.top.cell rfl
theorem RDiskIn.c2 (h : RDiskIn w lo hi b g c D) : w.cell? ⟨b, 2, none⟩ = some (.int .i64 D.left) := h.top.cell rfl
theorem RDiskIn.fr (h : RDiskIn w lo hi b g c D) (j : Nat) : w.frozen? ⟨b, j, none⟩ = false := h.top.free j
theorem RDiskIn.frS (h : RDiskIn w lo hi b g c D) (j : Nat) : w.frozen? ⟨g, j, none⟩ = false := h.row.free j
theorem RDiskIn.at (h : RDiskIn w lo hi b g c D) {k : Nat} (hk : k < D.s.length) : w.cell? ⟨g, k * 4, none⟩ = some (.string (atS D.s k).text) ∧ w.cell? ⟨g, k * 4 + 1, none⟩ = some (.string (atS D.s k).next) ∧
    w.cell? ⟨g, k * 4 + 2, none⟩ = some (.bool (atS D.s k).dirty) ∧ w.cell? ⟨g, k * 4 + 3, none⟩ = some (.bool (atS D.s k).worn) := by
  rw [atS_get hk]
  have e : ∀ j, j < 4 → (secsC D.s)[k * 4 + j]? = (secC D.s[k])[j]? := fun j hj => chunk_get secC_len D.s hk hj
  exact ⟨h.row.cell (j := k * 4) (by rw [show (secsC D.s)[k * 4]? = (secsC D.s)[k * 4 + 0]? from rfl, e 0 (by omega)]; rfl), h.row.cell (by rw [e 1 (by omega)]; rfl), h.row.cell (by rw [e 2 (by omega)]; rfl), h.row.cell (by rw [e 3 (by omega)]; rfl)⟩
theorem RDiskIn.ne (h : RDiskIn w lo hi b g c D) : g ≠ b := row_ne h.row h.top (by decide)
theorem RDiskIn.other (h : RDiskIn w lo hi b g c D) {w' : World} {D' : Dk} (hs : D'.s = D.s) (hT : Turn b (b + 1) w w')
    (htop : RowAt w' b 80 [.slice (some ⟨g, 0, none⟩) D.s.length c, .bool D'.off, .int .i64 D'.left]) (hok : D'.Ok) : RDiskIn w' lo hi b g c D' := by
  have hgb := h.ne
  have hz := h.hi
  have hg := h.hg
  exact ⟨h.hb, h.hg, Nat.le_trans h.hi hT.size, by rw [hs]; exact h.cap, by rw [hs]; exact htop, by rw [hs]; exact h.row.of_turn hT (by omega), hok, by rw [hs]; exact h.clean⟩
theorem RDiskIn.setLeft (h : RDiskIn w lo hi b g c D) {l : Int} (hr : -1 ≤ l ∧ l ≤ 9223372036854775807) : RDiskIn (w.setCell ⟨b, 2, none⟩ (.int .i64 l)) lo hi b g c { D with left := l } :=
  h.other rfl (Turn.setCell (a := ⟨b, 2, none⟩) (Nat.le_refl b) (Nat.lt_succ_self b) _) (h.top.setCell (o := 2) (by simp) _) ⟨h.ok.1, hr⟩
theorem RDiskIn.setOff (h : RDiskIn w lo hi b g c D) (o : Bool) : RDiskIn (w.setCell ⟨b, 1, none⟩ (.bool o)) lo hi b g c { D with off := o } :=
  h.other rfl (Turn.setCell (a := ⟨b, 1, none⟩) (Nat.le_refl b) (Nat.lt_succ_self b) _) (h.top.setCell (o := 1) (by simp) _) h.ok
theorem RDiskIn.turn (h : RDiskIn w lo hi b g c D) (j : Nat) (v : Value) : Turn lo hi w (w.setCell ⟨b, j, none⟩ v) := Turn.setCell h.hb.1 h.hb.2 v
theorem RDiskIn.turnS (h : RDiskIn w lo hi b g c D) (j : Nat) (v : Value) : Turn lo hi w (w.setCell ⟨g, j, none⟩ v) := Turn.setCell h.hg.1 h.hg.2 v
/-- The sector k turns into x. -/
theorem RDiskIn.row_set (h : RDiskIn w lo hi b g c D) {w' : World} {k : Nat} {x : Sec} (hT : Turn g (g + 1) w w')
    (hrow : RowAt w' g 83 (secsC (D.s.set k x))) (hx : x.Ok) (hc : x.dirty = false → x.next = ByteArray.empty) : RDiskIn w' lo hi b g c { D with s := D.s.set k x } := by
  have hgb := h.ne
  have hz := h.hi
  have hb := h.hb
  exact ⟨h.hb, h.hg, Nat.le_trans h.hi hT.size, by simpa using h.cap, by simpa using h.top.of_turn hT (by omega), hrow, ⟨h.ok.1.set k hx, h.ok.2⟩, fun y hy => by
    rcases List.mem_or_eq_of_mem_set hy with h1 | rfl
    · exact h.clean y h1
    · exact hc⟩
end
theorem secs_set {S : List Sec} {k : Nat} (hk : k < S.length) (j : Nat) (v : Value) (x : Sec) (hj : j < 4) (hx : secC x = (secC (atS S k)).set j v) : (secsC S).set (k * 4 + j) v = secsC (S.set k x) :=
  chunk_set secC_len S k j v x hk hj (by rw [← atS_get hk]; exact hx)
theorem secsC_len (S : List Sec) : (secsC S).length = S.length * 4 := chunk_len secC_len S
set_option maxHeartbeats 400000 in
theorem rlen_any (p : Value) (D : Dk) (w : World) (lo hi : Nat) (h : RDiskAt w lo hi p D) :
    Calls Tryz.prog 52 #[p] w fun e w' => e = .returned (.int .i64 D.s.length) ∧ w = w' := by
  obtain ⟨b, g, c, rfl, h⟩ := h
  have c0 := h.c0
  clear h
  go_enter Tryz.func52, Tryz.ntmps52
  go_wp2
  go_ret
  exact ⟨rfl, rfl⟩
set_option maxHeartbeats 400000 in
theorem is_any (p : Value) (D : Dk) (i : Int) (w : World) (lo hi : Nat) (h : RDiskAt w lo hi p D) :
    Calls Tryz.prog 45 #[p, .int .i64 i] w fun e w' => e = .returned (.bool (D.isIn i)) ∧ w = w' := by
  obtain ⟨b, g, c, rfl, h⟩ := h
  have c0 := h.c0
  have hok := h.ok.1.2.1
  clear h
  cases hin : D.isIn i with
  | true =>
    have := isIn_lt hin
    have h1 : 0 ≤ i := this.1
    have h2 : i < (D.s.length : Int) := by omega
    clear hin this
    generalize D.s.length = n at *
    go_enter Tryz.func45, Tryz.ntmps45
    go_wp2
    go_ret
    exact ⟨rfl, rfl⟩
  | false =>
    have := isIn_out hin
    clear hin
    generalize D.s.length = n at *
    rcases this with h1 | ⟨h1, h2⟩
    all_goals
      go_enter Tryz.func45, Tryz.ntmps45
      go_wp2
      go_ret
      exact ⟨ret_val (congrArg Value.bool (by first | rfl | (simp; omega))), rfl⟩
set_option maxHeartbeats 400000 in
theorem rtrip_any (p : Value) (D : Dk) (n : Int) (w : World) (lo hi : Nat) (h : RDiskAt w lo hi p D) (hn : -9223372036854775808 ≤ n ∧ n ≤ 9223372036854775807) :
    Calls Tryz.prog 31 #[p, .int .i64 n] w fun e w' => e = .returned (.tuple #[]) ∧ RDiskAt w' lo hi p (tripD D n) ∧ Turn lo hi w w' := by
  obtain ⟨b, g, c, rfl, h⟩ := h
  have f2 := h.fr 2
  have c2 := h.c2
  have H := hidep h
  clear h
  obtain ⟨m, hm⟩ : ∃ m : Int, max (-1) n = m := ⟨_, rfl⟩
  have HM := hidep hm
  clear hm
  by_cases hneg : n ≤ -1
  · go_enter Tryz.func31, Tryz.ntmps31
    go_wp2
    go_end0
    have e : m = -1 := by have := HM.out; omega
    have HH := H.out.setLeft (l := -1) (by omega)
    exact ⟨rfl, ⟨b, g, c, rfl, by unfold tripD; rw [HM.out, e]; exact HH⟩, H.out.turn 2 _⟩
  · go_enter Tryz.func31, Tryz.ntmps31
    go_wp2
    go_end0
    have e : m = n := by have := HM.out; omega
    have HH := H.out.setLeft (l := n) (by omega)
    exact ⟨rfl, ⟨b, g, c, rfl, by unfold tripD; rw [HM.out, e]; exact HH⟩, H.out.turn 2 _⟩
set_option maxHeartbeats 400000 in
theorem rstep_any (p : Value) (D : Dk) (w : World) (lo hi : Nat) (h : RDiskAt w lo hi p D) :
    Calls Tryz.prog 46 #[p] w fun e w' => e = .returned (.int .i64 (stepE D)) ∧ RDiskAt w' lo hi p (stepD D) ∧ Turn lo hi w w' := by
  obtain ⟨b, g, c, rfl, h⟩ := h
  have c2 := h.c2
  have f2 := h.fr 2
  have f1 := h.fr 1
  have c1 := h.c1
  have hlo := h.ok.2
  have H := hidep h
  clear h
  obtain ⟨l, hl⟩ : ∃ l, D.left = l := ⟨_, rfl⟩
  rw [hl] at c2 hlo
  have HL := hidep hl
  have hcase : l = 0 ∨ 0 < l ∨ l < 0 := by omega
  rcases hcase with rfl | h1 | h1
  · have HE := hidep (stepE_0 hl)
    have HD := hidep (stepD_0 hl)
    clear hl hlo
    go_enter Tryz.func46, Tryz.ntmps46
    go_wp2
    go_ret
    exact ⟨ret_val (congrArg _ HE.out.symm), by rw [HD.out]; exact ⟨b, g, c, rfl, H.out.setOff true⟩, H.out.turn 1 _⟩
  · have HE := hidep (stepE_1 (D := D) (by omega))
    have HD := hidep (stepD_1 (D := D) (by omega))
    clear hl
    go_enter Tryz.func46, Tryz.ntmps46
    go_wp2
    go_ret
    have HH := H.out.setLeft (l := l - 1) (by omega)
    exact ⟨ret_val (congrArg _ HE.out.symm), by rw [HD.out, HL.out]; exact ⟨b, g, c, rfl, HH⟩, H.out.turn 2 _⟩
  · have HE := hidep (stepE_1 (D := D) (by omega))
    have HD := hidep (stepD_2 (D := D) (by omega))
    clear hl
    go_enter Tryz.func46, Tryz.ntmps46
    go_wp2
    go_ret
    exact ⟨ret_val (congrArg _ HE.out.symm), by rw [HD.out]; exact ⟨b, g, c, rfl, H.out⟩, Turn.refl _ _ _⟩
theorem readZ_off {D : Dk} (i : Int) (h : D.off = true) : readZ D i = (ByteArray.empty, 25) := if_pos h
theorem readZ_out {D : Dk} {i : Int} (h : D.off = false) (hi : D.isIn i = false) : readZ D i = (ByteArray.empty, 1) := by unfold readZ; rw [if_neg (by rw [h]; simp), if_pos hi]
theorem readZ_dirty {D : Dk} {k : Nat} (h : D.off = false) (hk : k < D.s.length) (hd : (atS D.s k).dirty = true) : readZ D (k : Int) = ((atS D.s k).next, 0) := by
  unfold readZ
  rw [if_neg (by rw [h]; simp), if_neg (by rw [isIn_mk hk]; simp), Int.toNat_natCast, if_pos hd]
theorem readZ_clean {D : Dk} {k : Nat} (h : D.off = false) (hk : k < D.s.length) (hd : (atS D.s k).dirty = false) : readZ D (k : Int) = ((atS D.s k).text, 0) := by
  unfold readZ
  rw [if_neg (by rw [h]; simp), if_neg (by rw [isIn_mk hk]; simp), Int.toNat_natCast, if_neg (by rw [hd]; simp)]
theorem ret_two {a b : ByteArray × Int} (h : a = b) : Ending.returned (.tuple #[.string a.1, .int .i64 a.2]) = .returned (.tuple #[.string b.1, .int .i64 b.2]) := by rw [h]
set_option maxHeartbeats 400000 in
theorem rread_any (p : Value) (D : Dk) (i : Int) (w : World) (lo hi : Nat) (h : RDiskAt w lo hi p D) :
    Calls Tryz.prog 53 #[p, .int .i64 i] w fun e w' => e = .returned (.tuple #[.string (readZ D i).1, .int .i64 (readZ D i).2]) ∧ w = w' := by
  have HI := hidep (fun W hW => is_any p D i W lo hi (hW : RDiskAt W lo hi p D))
  obtain ⟨b, g, c, rfl, h⟩ := h
  have c0 := h.c0
  have c1 := h.c1
  have hok := h.ok.1.2.1
  have H : Hid (RDiskAt w lo hi (.pointer (some ⟨b, 0, none⟩)) D) := hidep ⟨b, g, c, rfl, h⟩
  cases hoff : D.off with
  | true =>
    rw [hoff] at c1
    have HZ := hidep (readZ_off i hoff)
    clear hoff h
    go_enter Tryz.func53, Tryz.ntmps53
    go_wp2
    go_ret2
    exact ⟨ret_two HZ.out.symm, rfl⟩
  | false =>
    rw [hoff] at c1
    cases hin : D.isIn i with
    | false =>
      have HZ := hidep (readZ_out hoff hin)
      have HN := hidep hin
      clear hoff hin h
      go_enter Tryz.func53, Tryz.ntmps53
      go_wp2_with (go_at_call 45; refine (HI.out _ H.out).mono ?_; rintro e w' ⟨rfl, rfl⟩; rw [HN.out])
      go_ret2
      exact ⟨ret_two HZ.out.symm, rfl⟩
    | true =>
      have HN := hidep hin
      obtain ⟨h0, hk⟩ := isIn_lt hin
      obtain ⟨k, rfl⟩ : ∃ k : Nat, i = (k : Int) := ⟨i.toNat, by omega⟩
      rw [Int.toNat_natCast] at hk
      clear hin h0
      obtain ⟨d0, d1, d2, d3⟩ := h.at hk
      clear h
      cases hd : (atS D.s k).dirty with
      | true =>
        have HZ := hidep (readZ_dirty hoff hk hd)
        rw [hd] at d2
        clear hd hoff
        generalize atS D.s k = x at *
        obtain ⟨x1, x2, x3, x4⟩ := x
        simp only at d0 d1 d3 HZ
        generalize D.s.length = n at *
        go_enter Tryz.func53, Tryz.ntmps53
        go_wp2_with (go_at_call 45; refine (HI.out _ H.out).mono ?_; rintro e w' ⟨rfl, rfl⟩; rw [HN.out])
        go_ret2
        exact ⟨ret_two HZ.out.symm, rfl⟩
      | false =>
        have HZ := hidep (readZ_clean hoff hk hd)
        rw [hd] at d2
        clear hd hoff
        generalize atS D.s k = x at *
        obtain ⟨x1, x2, x3, x4⟩ := x
        simp only at d0 d1 d3 HZ
        generalize D.s.length = n at *
        go_enter Tryz.func53, Tryz.ntmps53
        go_wp2_with (go_at_call 45; refine (HI.out _ H.out).mono ?_; rintro e w' ⟨rfl, rfl⟩; rw [HN.out])
        go_ret2
        exact ⟨ret_two HZ.out.symm, rfl⟩
end Go.Proofs.YtipbkdlekanlmaaGreatDoor
/- Contracts of the reference's disk: Write, Wear, settle, Flush, Mount. -/
namespace Go.Proofs.YtipbkdlekanlmaaGreatDoor
open Go.RowKit Go.Lab Go.Disk Go.Maps
theorem writeE_off {D : Dk} (i : Int) (s : ByteArray) (h : D.off = true) : writeE D i s = 25 ∧ writeD D i s = D := ⟨if_pos h, if_pos h⟩
theorem writeE_out {D : Dk} {i : Int} (s : ByteArray) (h : D.off = false) (hi : D.isIn i = false) : writeE D i s = 1 ∧ writeD D i s = D := by
  unfold writeE writeD
  simp [h, hi]
theorem writeE_size {D : Dk} {i : Int} {s : ByteArray} (h : D.off = false) (hs : s.size ≠ 64) : writeE D i s = 1 ∧ writeD D i s = D := by
  unfold writeE writeD
  cases D.isIn i <;> simp [h, hs]
theorem writeE_down {D : Dk} {i : Int} {s : ByteArray} (h : D.off = false) (hi : D.isIn i = true) (hs : s.size = 64) (hl : D.left = 0) : writeE D i s = 25 ∧ writeD D i s = stepD D := by
  unfold writeE writeD
  simp [h, hi, hs, stepE_0 hl]
theorem writeE_ok {D : Dk} {k : Nat} {s : ByteArray} (h : D.off = false) (hk : k < D.s.length) (hs : s.size = 64) (hl : D.left ≠ 0) : writeE D (k : Int) s = 0 ∧ writeD D (k : Int) s = { stepD D with s := writeS D.s k s } := by
  unfold writeE writeD
  simp [h, isIn_mk hk, hs, stepE_1 hl]
theorem ptr_inj {b b' : Nat} (h : (Value.pointer (some ⟨b, 0, none⟩)) = .pointer (some ⟨b', 0, none⟩)) : b = b' := by
  injection h with h
  injection h with h
  injection h with h _ _
theorem RDiskIn.write {lo hi b g c : Nat} {D : Dk} {w : World} (h : RDiskIn w lo hi b g c D) {k : Nat} (hk : k < D.s.length) {s : ByteArray} (hs : s.size = 64) :
    RDiskIn ((w.setCell ⟨g, k * 4 + 1, none⟩ (.string s)).setCell ⟨g, k * 4 + 2, none⟩ (.bool true)) lo hi b g c { D with s := writeS D.s k s } ∧ Turn lo hi w ((w.setCell ⟨g, k * 4 + 1, none⟩ (.string s)).setCell ⟨g, k * 4 + 2, none⟩ (.bool true)) := by
  have hl := secsC_len D.s
  have r1 := h.row.setCell (o := k * 4 + 1) (by omega) (.string s)
  rw [secs_set hk 1 _ { atS D.s k with next := s } (by omega) rfl] at r1
  have r2 := r1.setCell (o := k * 4 + 2) (by rw [secsC_len, List.length_set]; omega) (.bool true)
  rw [secs_set (by simpa using hk) 2 _ { atS D.s k with next := s, dirty := true } (by omega) (by rw [atS_set hk, if_pos rfl]; rfl), List.set_set] at r2
  refine ⟨h.row_set (Turn.trans (Turn.setCell (a := ⟨g, k * 4 + 1, none⟩) (Nat.le_refl g) (Nat.lt_succ_self g) _) (Turn.setCell (a := ⟨g, k * 4 + 2, none⟩) (Nat.le_refl g) (Nat.lt_succ_self g) _)) r2 ⟨(h.ok.1.at hk).1, fun _ => hs⟩ (fun e => by cases e), Turn.trans (h.turnS _ _) (Turn.setCell (a := ⟨g, k * 4 + 2, none⟩) h.hg.1 h.hg.2 _)⟩
theorem RDiskIn.wear {lo hi b g c : Nat} {D : Dk} {w : World} (h : RDiskIn w lo hi b g c D) {k : Nat} (hk : k < D.s.length) :
    RDiskIn (w.setCell ⟨g, k * 4 + 3, none⟩ (.bool true)) lo hi b g c { D with s := wearS D.s k } := by
  have hl := secsC_len D.s
  have r1 := h.row.setCell (o := k * 4 + 3) (by omega) (.bool true)
  rw [secs_set hk 3 _ { atS D.s k with worn := true } (by omega) rfl] at r1
  refine h.row_set (Turn.setCell (a := ⟨g, k * 4 + 3, none⟩) (Nat.le_refl g) (Nat.lt_succ_self g) _) r1 ⟨(h.ok.1.at hk).1, (h.ok.1.at hk).2⟩ (fun e => h.clean (atS D.s k) (by rw [atS_get hk]; exact List.getElem_mem hk) e)
set_option maxHeartbeats 400000 in
theorem rwrite_any (p : Value) (D : Dk) (i : Int) (s : ByteArray) (w : World) (lo hi : Nat) (h : RDiskAt w lo hi p D) (hmax : s.size ≤ maxLen) :
    Calls Tryz.prog 11 #[p, .int .i64 i, .string s] w fun e w' => e = .returned (.int .i64 (writeE D i s)) ∧ RDiskAt w' lo hi p (writeD D i s) ∧ Turn lo hi w w' := by
  have HI := hidep (fun W hW => is_any p D i W lo hi (hW : RDiskAt W lo hi p D))
  have HS := hidep (fun W hW => rstep_any p D W lo hi (hW : RDiskAt W lo hi p D))
  unfold maxLen at hmax
  obtain ⟨b, g, c, rfl, h⟩ := h
  have c0 := h.c0
  have c1 := h.c1
  have hok := h.ok.1.2.1
  have H : Hid (RDiskAt w lo hi (.pointer (some ⟨b, 0, none⟩)) D) := hidep ⟨b, g, c, rfl, h⟩
  clear h
  cases hoff : D.off with
  | true =>
    rw [hoff] at c1
    have HZ := hidep (writeE_off i s hoff)
    clear hoff
    go_enter Tryz.func11, Tryz.ntmps11
    go_wp2
    go_ret
    exact ⟨ret_val (congrArg _ HZ.out.1.symm), by rw [HZ.out.2]; exact H.out, Turn.refl _ _ _⟩
  | false =>
    rw [hoff] at c1
    cases hin : D.isIn i with
    | false =>
      have HZ := hidep (writeE_out s hoff hin)
      have HN := hidep hin
      clear hoff hin
      go_enter Tryz.func11, Tryz.ntmps11
      go_wp2_with (go_at_call 45; refine (HI.out _ H.out).mono ?_; rintro e w' ⟨rfl, rfl⟩; rw [HN.out])
      go_ret
      exact ⟨ret_val (congrArg _ HZ.out.1.symm), by rw [HZ.out.2]; exact H.out, Turn.refl _ _ _⟩
    | true =>
      have HN := hidep hin
      by_cases hs : s.size = 64
      · by_cases hl : D.left = 0
        · have HZ := hidep (writeE_down hoff hin hs hl)
          have HE := hidep (stepE_0 hl)
          clear hoff hin hl
          go_enter Tryz.func11, Tryz.ntmps11
          go_wp2_with (first
            | (go_at_call 45; refine (HI.out _ H.out).mono ?_; rintro e w' ⟨rfl, rfl⟩; rw [HN.out])
            | (go_at_call 46; refine (HS.out _ H.out).mono ?_; rintro e w' ⟨rfl, hD, hT⟩; rw [HE.out]))
          go_ret
          exact ⟨ret_val (congrArg _ HZ.out.1.symm), by rw [HZ.out.2]; exact hD, hT⟩
        · obtain ⟨h0, hk⟩ := isIn_lt hin
          obtain ⟨k, rfl⟩ : ∃ k : Nat, i = (k : Int) := ⟨i.toNat, by omega⟩
          rw [Int.toNat_natCast] at hk
          have HZ := hidep (writeE_ok hoff hk hs hl)
          have HE := hidep (stepE_1 hl)
          have HK : Hid (k < (stepD D).s.length) := hidep (by rw [stepD_s]; exact hk)
          have hsle : s.size ≤ 64 := Nat.le_of_eq hs
          clear hoff hin hl h0 c0
          go_enter Tryz.func11, Tryz.ntmps11
          go_upto_region 8 with (first
            | (go_at_call 45; refine (HI.out _ H.out).mono ?_; rintro e w' ⟨rfl, rfl⟩; rw [HN.out])
            | (go_at_call 46; refine (HS.out _ H.out).mono ?_; rintro e w1 ⟨rfl, hD, hT⟩; rw [HE.out]))
          obtain ⟨b1, g1, k1, hbb, h1⟩ := hD
          obtain rfl := ptr_inj hbb
          have c0 := h1.c0
          have hk1 := HK.out
          obtain ⟨d0, d1, d2, d3⟩ := h1.at hk1
          have f1 := h1.frS (k * 4 + 1)
          have f2 := h1.frS (k * 4 + 2)
          have hmx := h1.ok.1.2.1
          have HW := hidep (h1.write hk1 hs)
          have HT := hidep hT
          clear h1 hT hbb HI HS HN HE hs hk
          generalize hn : (stepD D).s.length = n at *
          generalize hx : atS (stepD D).s k = x at *
          clear hn hx
          go_wp2
          go_ret
          have hw := HW.out
          refine ⟨ret_val (congrArg _ HZ.out.1.symm), ?_, HT.out.trans hw.2⟩
          rw [HZ.out.2]
          have e := stepD_s D
          exact ⟨b, g1, k1, rfl, by rw [← e]; exact hw.1⟩
      · have HZ := hidep (writeE_size (i := i) hoff hs)
        clear hoff hin
        have hs1 : s.size < 64 ∨ 64 < s.size := by omega
        clear hs
        rcases hs1 with hs1 | hs1
        all_goals
          go_enter Tryz.func11, Tryz.ntmps11
          go_wp2_with (go_at_call 45; refine (HI.out _ H.out).mono ?_; rintro e w' ⟨rfl, rfl⟩; rw [HN.out])
          go_ret
          exact ⟨ret_val (congrArg _ HZ.out.1.symm), by rw [HZ.out.2]; exact H.out, Turn.refl _ _ _⟩
set_option maxHeartbeats 400000 in
theorem rwear_any (p : Value) (D : Dk) (i : Int) (w : World) (lo hi : Nat) (h : RDiskAt w lo hi p D) :
    Calls Tryz.prog 35 #[p, .int .i64 i] w fun e w' => e = .returned (.int .i64 (if D.isIn i = true then 0 else 1)) ∧ RDiskAt w' lo hi p (wearD D i) ∧ Turn lo hi w w' := by
  have HI := hidep (fun W hW => is_any p D i W lo hi (hW : RDiskAt W lo hi p D))
  obtain ⟨b, g, c, rfl, h⟩ := h
  have H : Hid (RDiskAt w lo hi (.pointer (some ⟨b, 0, none⟩)) D) := hidep ⟨b, g, c, rfl, h⟩
  cases hin : D.isIn i with
  | false =>
    have HN := hidep hin
    have HW : Hid (wearD D i = D) := hidep (by unfold wearD; rw [if_neg (by rw [hin]; simp)])
    clear hin h
    go_enter Tryz.func35, Tryz.ntmps35
    go_wp2_with (go_at_call 45; refine (HI.out _ H.out).mono ?_; rintro e w' ⟨rfl, rfl⟩; rw [HN.out])
    go_ret
    exact ⟨rfl, by rw [HW.out]; exact H.out, Turn.refl _ _ _⟩
  | true =>
    have HN := hidep hin
    obtain ⟨h0, hk⟩ := isIn_lt hin
    obtain ⟨k, rfl⟩ : ∃ k : Nat, i = (k : Int) := ⟨i.toNat, by omega⟩
    rw [Int.toNat_natCast] at hk
    have HW : Hid (wearD D (k : Int) = { D with s := wearS D.s k }) := hidep (by unfold wearD; rw [if_pos hin]; rfl)
    have HR := hidep (h.wear hk)
    have HT := hidep (h.turnS (k * 4 + 3) (.bool true))
    have c0 := h.c0
    obtain ⟨d0, d1, d2, d3⟩ := h.at hk
    have f3 := h.frS (k * 4 + 3)
    have hmx := h.ok.1.2.1
    clear hin h h0
    generalize D.s.length = n at *
    generalize atS D.s k = x at *
    go_enter Tryz.func35, Tryz.ntmps35
    go_wp2_with (go_at_call 45; refine (HI.out _ H.out).mono ?_; rintro e w' ⟨rfl, rfl⟩; rw [HN.out])
    go_ret
    exact ⟨rfl, by rw [HW.out]; exact ⟨b, g, c, rfl, HR.out⟩, HT.out⟩
end Go.Proofs.YtipbkdlekanlmaaGreatDoor
/- Contract of the reference's disk: settle. -/
namespace Go.Proofs.YtipbkdlekanlmaaGreatDoor
open Go.RowKit Go.Lab Go.Disk Go.Maps
theorem clampP_cases (p : Int) : (p < 0 ∧ clampP p = 0) ∨ (0 ≤ p ∧ p < 64 ∧ (clampP p : Int) = p) ∨ (64 ≤ p ∧ clampP p = 64) := by unfold clampP; omega
theorem RDiskIn.set4 {lo hi b g c : Nat} {D : Dk} {w : World} (h : RDiskIn w lo hi b g c D) {k : Nat} (hk : k < D.s.length) {x : Sec} (hx : x.Ok) (hc : x.dirty = false → x.next = ByteArray.empty) :
    RDiskIn ((((w.setCell ⟨g, k * 4, none⟩ (.string x.text)).setCell ⟨g, k * 4 + 1, none⟩ (.string x.next)).setCell ⟨g, k * 4 + 2, none⟩ (.bool x.dirty)).setCell ⟨g, k * 4 + 3, none⟩ (.bool x.worn)) lo hi b g c { D with s := D.s.set k x } ∧
    Turn lo hi w ((((w.setCell ⟨g, k * 4, none⟩ (.string x.text)).setCell ⟨g, k * 4 + 1, none⟩ (.string x.next)).setCell ⟨g, k * 4 + 2, none⟩ (.bool x.dirty)).setCell ⟨g, k * 4 + 3, none⟩ (.bool x.worn)) := by
  have hl := secsC_len D.s
  have r1 := h.row.setCell (o := k * 4 + 0) (by omega) (.string x.text)
  rw [secs_set hk 0 _ { atS D.s k with text := x.text } (by omega) rfl, Nat.add_zero] at r1
  have r2 := r1.setCell (o := k * 4 + 1) (by rw [secsC_len, List.length_set]; omega) (.string x.next)
  rw [secs_set (by simpa using hk) 1 _ { atS D.s k with text := x.text, next := x.next } (by omega) (by rw [atS_set hk, if_pos rfl]; rfl), List.set_set] at r2
  have r3 := r2.setCell (o := k * 4 + 2) (by rw [secsC_len, List.length_set]; omega) (.bool x.dirty)
  rw [secs_set (by simpa using hk) 2 _ { atS D.s k with text := x.text, next := x.next, dirty := x.dirty } (by omega) (by rw [atS_set hk, if_pos rfl]; rfl), List.set_set] at r3
  have r4 := r3.setCell (o := k * 4 + 3) (by rw [secsC_len, List.length_set]; omega) (.bool x.worn)
  rw [secs_set (by simpa using hk) 3 _ x (by omega) (by rw [atS_set hk, if_pos rfl]; rfl), List.set_set] at r4
  have T : ∀ (l2 h2 : Nat), l2 ≤ g → g < h2 → Turn l2 h2 w ((((w.setCell ⟨g, k * 4, none⟩ (.string x.text)).setCell ⟨g, k * 4 + 1, none⟩ (.string x.next)).setCell ⟨g, k * 4 + 2, none⟩ (.bool x.dirty)).setCell ⟨g, k * 4 + 3, none⟩ (.bool x.worn)) := fun l2 h2 e1 e2 =>
    ((Turn.setCell (a := ⟨g, k * 4, none⟩) e1 e2 _).trans (Turn.setCell (a := ⟨g, k * 4 + 1, none⟩) e1 e2 _)).trans ((Turn.setCell (a := ⟨g, k * 4 + 2, none⟩) e1 e2 _).trans (Turn.setCell (a := ⟨g, k * 4 + 3, none⟩) e1 e2 _))
  exact ⟨h.row_set (T g (g + 1) (Nat.le_refl g) (Nat.lt_succ_self g)) r4 hx hc, T lo hi h.hg.1 h.hg.2⟩
theorem settleAt_at {S : List Sec} {k m : Nat} {p : Int} {x1 x2 : ByteArray} {x4 : Bool} (hx : atS S k = ⟨x1, x2, true, x4⟩) (hm : clampP p = m) (h1 : x1.size ≤ 64) (h2 : 64 ≤ x1.size) :
    settleAt S k p = S.set k ⟨if x4 = true then x1 else x2.extract 0 m ++ x1.extract m x1.size, ByteArray.empty, false, x4⟩ := by
  unfold settleAt settleS
  rw [hx, hm]
  have e : x1.size = 64 := by omega
  rw [e]
set_option maxHeartbeats 1000000 in
theorem rsettle_any (q : Value) (D : Dk) (k : Nat) (p : Int) (w : World) (lo hi : Nat) (h : RDiskAt w lo hi q D) (hk : k < D.s.length) (hd : (atS D.s k).dirty = true) :
    Calls Tryz.prog 67 #[q, .int .i64 k, .int .i64 p] w fun e w' => e = .returned (.tuple #[]) ∧ RDiskAt w' lo hi q { D with s := settleAt D.s k p } ∧ Turn lo hi w w' := by
  obtain ⟨b, g, c, rfl, h⟩ := h
  have c0 := h.c0
  obtain ⟨d0, d1, d2, d3⟩ := h.at hk
  have f0 := h.frS (k * 4)
  have f1 := h.frS (k * 4 + 1)
  have f2 := h.frS (k * 4 + 2)
  have f3 := h.frS (k * 4 + 3)
  have hmx := h.ok.1.2.1
  have hsz := h.ok.1.at hk
  have hs1 := hsz.1
  have hs2 := hsz.2 hd
  have hgl := h.row.lt
  have hbl := h.top.lt
  have H := hidep h
  have HK := hidep hk
  have HDD := hidep hd
  clear h hsz
  have HX : Hid (∃ x, atS D.s k = x) := hidep ⟨_, rfl⟩
  obtain ⟨x, hx⟩ := HX.out
  have hx' := hidep hx
  rw [hx] at d0 d1 d2 d3 hs1 hs2 hd
  clear hx HX
  obtain ⟨x1, x2, x3, x4⟩ := x
  simp only at d0 d1 d2 d3 hs1 hs2 hd
  subst hd
  have a1 : x1.size ≤ 64 := Nat.le_of_eq hs1
  have a2 : 64 ≤ x1.size := Nat.le_of_eq hs1.symm
  have a3 : x2.size ≤ 64 := Nat.le_of_eq hs2
  have a4 : 64 ≤ x2.size := Nat.le_of_eq hs2.symm
  have hcs := clampP_cases p
  obtain ⟨m, hm⟩ : ∃ m, clampP p = m := ⟨_, rfl⟩
  have HM := hidep hm
  rw [hm] at hcs
  have hm64 : m ≤ 64 := by rw [← hm]; exact clampP_le p
  have HCS := hidep hcs
  clear hm hs1 hs2 hcs
  generalize D.s.length = n at c0 hk hmx
  go_enter Tryz.func67, Tryz.ntmps67
  go_upto_region 1 with (fail)
  go_cut [2] (fun s2 wc => s2 = .int .i64 m ∧ wc = w.alloc (.cells #[.string x1, .string x2, .bool true, .bool x4] 83))
  case first =>
    rcases HCS.out with ⟨h1, h2⟩ | ⟨h1, h2, h3⟩ | ⟨h1, h2⟩
    · have e : (0 : Int) = (m : Int) := by omega
      have HE := hidep e
      clear e h2
      go_wp2
      go_meet
      exact ⟨congrArg _ HE.out, rfl⟩
    · have HE := hidep h3
      clear h3
      rcases Int.lt_or_eq_of_le h1 with h0 | h0
      · go_wp2
        go_meet
        exact ⟨congrArg _ HE.out.symm, rfl⟩
      · subst h0
        go_wp2
        go_meet
        exact ⟨congrArg _ HE.out.symm, rfl⟩
    · have e : (64 : Int) = (m : Int) := by omega
      have HE := hidep e
      clear e h2
      rcases Int.lt_or_eq_of_le h1 with h0 | h0
      · go_wp2
        go_meet
        exact ⟨congrArg _ HE.out, rfl⟩
      · subst h0
        go_wp2
        go_meet
        exact ⟨congrArg _ HE.out, rfl⟩
  case rest =>
    obtain ⟨rfl, rfl⟩ := hcut
    have HE := hidep (settleAt_at hx'.out HM.out a1 a2)
    cases x4 with
    | true =>
      go_wp2
      go_region
      go_end0
      have e : settleAt D.s k p = D.s.set k ⟨x1, ByteArray.empty, false, true⟩ := HE.out
      have hx : Sec.Ok ⟨x1, ByteArray.empty, false, true⟩ := ⟨by show x1.size = 64; omega, fun e => by cases e⟩
      obtain ⟨q1, q2⟩ := H.out.set4 HK.out hx (fun _ => rfl)
      rw [e]
      exact ⟨rfl, ⟨b, g, c, rfl, q1.keep (lo' := hi) (hi' := hi) ((Turn.alloc _).trans (Turn.drewN 1)) (.inl (Nat.le_refl _))⟩, q2.trans ((Turn.alloc _).trans (Turn.drewN 1))⟩
    | false =>
      go_wp2
      go_region
      go_wp2
      go_region
      go_end0
      have e : settleAt D.s k p = D.s.set k ⟨x2.extract 0 m ++ x1.extract m x1.size, ByteArray.empty, false, false⟩ := HE.out
      have hx : Sec.Ok ⟨x2.extract 0 m ++ x1.extract m x1.size, ByteArray.empty, false, false⟩ := ⟨by show (_ ++ _ : ByteArray).size = 64; rw [ByteArray.size_append, extract_size, extract_size]; omega, fun e => by cases e⟩
      obtain ⟨q1, q2⟩ := H.out.set4 HK.out hx (fun _ => rfl)
      rw [e]
      exact ⟨rfl, ⟨b, g, c, rfl, q1.keep (lo' := hi) (hi' := hi) ((Turn.alloc _).trans (Turn.drewN 2)) (.inl (Nat.le_refl _))⟩, q2.trans ((Turn.alloc _).trans (Turn.drewN 2))⟩
end Go.Proofs.YtipbkdlekanlmaaGreatDoor
/- Contracts of the reference's disk: Flush, Mount. -/
namespace Go.Proofs.YtipbkdlekanlmaaGreatDoor
open Go.RowKit Go.Lab Go.Disk Go.Maps
theorem RDiskAt.ok {w : World} {lo hi : Nat} {p : Value} {D : Dk} (h : RDiskAt w lo hi p D) : D.Ok := by
  obtain ⟨b, g, c, hp, h⟩ := h
  exact h.ok
theorem flushE_off {D : Dk} (h : D.off = true) : flushE D = 25 ∧ flushD D = D := ⟨if_pos h, if_pos h⟩
theorem flushE_down {D : Dk} (h : D.off = false) (hl : D.left = 0) : flushE D = 25 ∧ flushD D = stepD D := by
  unfold flushE flushD
  simp [h, stepE_0 hl]
theorem flushE_ok {D : Dk} (h : D.off = false) (hl : D.left ≠ 0) : flushE D = 0 ∧ flushD D = { stepD D with s := mountS D.s [] } := by
  unfold flushE flushD
  simp [h, stepE_1 hl]
theorem cntD_le (S : List Sec) (k : Nat) : cntD S k ≤ k := by
  unfold cntD
  have h1 := List.length_filter_le (fun x : Sec => x.dirty) (S.take k)
  rw [List.length_take] at h1
  omega
theorem getD_nil (k : Nat) : ([] : List Int).getD k 64 = 64 := by simp
set_option maxHeartbeats 1000000 in
theorem rflush_any (p : Value) (D : Dk) (w : World) (lo hi : Nat) (h : RDiskAt w lo hi p D) :
    Calls Tryz.prog 66 #[p] w fun e w' => e = .returned (.int .i64 (flushE D)) ∧ RDiskAt w' lo hi p (flushD D) ∧ Turn lo hi w w' := by
  have HS := hidep (fun W hW => rstep_any p D W lo hi (hW : RDiskAt W lo hi p D))
  obtain ⟨b, g, c, rfl, h⟩ := h
  have c1 := h.c1
  have H : Hid (RDiskAt w lo hi (.pointer (some ⟨b, 0, none⟩)) D) := hidep ⟨b, g, c, rfl, h⟩
  clear h
  cases hoff : D.off with
  | true =>
    rw [hoff] at c1
    have HZ := hidep (flushE_off hoff)
    clear hoff
    go_enter Tryz.func66, Tryz.ntmps66
    go_wp2
    go_ret
    exact ⟨ret_val (congrArg _ HZ.out.1.symm), by rw [HZ.out.2]; exact H.out, Turn.refl _ _ _⟩
  | false =>
    rw [hoff] at c1
    by_cases hl : D.left = 0
    · have HZ := hidep (flushE_down hoff hl)
      have HE := hidep (stepE_0 hl)
      clear hoff hl
      go_enter Tryz.func66, Tryz.ntmps66
      go_wp2_with (go_at_call 46; refine (HS.out _ H.out).mono ?_; rintro e w' ⟨rfl, hD, hT⟩; rw [HE.out])
      go_ret
      exact ⟨ret_val (congrArg _ HZ.out.1.symm), by rw [HZ.out.2]; exact hD, hT⟩
    · have HZ := hidep (flushE_ok hoff hl)
      have HE := hidep (stepE_1 hl)
      have hn := H.out
      clear hn hoff hl
      obtain ⟨n, hn⟩ : ∃ n, D.s.length = n := ⟨_, rfl⟩
      have HN := hidep hn
      clear hn
      go_enter Tryz.func66, Tryz.ntmps66
      go_wp2_with (go_at_call 46; refine (HS.out _ H.out).mono ?_; rintro e w1 ⟨rfl, hD, hT⟩; rw [HE.out])
      have hn4 : n ≤ 4096 := by have := hD.ok.1.2.1; rw [stepD_s, HN.out] at this; exact this
      have HT := hidep hT
      have HD : Hid (RDiskAt w1 lo hi (.pointer (some ⟨b, 0, none⟩)) { stepD D with s := mid D.s [] 0 }) := hidep (by
        have e : ({ stepD D with s := mid D.s [] 0 } : Dk) = stepD D := by rw [mid_zero, ← stepD_s D]
        rw [e]; exact hD)
      clear hD hT
      go_loopw [4] (fun i wr => ∃ j : Nat, j ≤ n ∧ i = .int .i64 j ∧ Hid (RDiskAt wr lo hi (.pointer (some ⟨b, 0, none⟩)) { stepD D with s := mid D.s [] j }) ∧ Hid (Turn lo hi w wr)) (fun i _ => n - (RowKit.intOf i).toNat)
      case atStart => exact ⟨0, Nat.zero_le _, rfl, HD, HT⟩
      case round =>
        obtain ⟨j, hj, rfl, HR, HT2⟩ := hrel
        obtain ⟨b1, g1, cc, hbb, h1⟩ := HR.out
        obtain rfl := ptr_inj hbb
        clear hbb
        have c0 := h1.c0
        rw [show ({ stepD D with s := mid D.s [] j } : Dk).s.length = n by show (mid D.s [] j).length = n; rw [mid_len, HN.out]] at c0
        by_cases hlt : j < n
        · have hjl : j < D.s.length := by rw [HN.out]; exact hlt
          obtain ⟨d0, d1, d2, d3⟩ := h1.at (k := j) (by show j < (mid D.s [] j).length; rw [mid_len]; exact hjl)
          rw [show ({ stepD D with s := mid D.s [] j } : Dk).s = mid D.s [] j from rfl, mid_at [] (Nat.le_refl j) hjl] at d2
          clear d0 d1 d3 h1
          cases hd : (D.s[j]).dirty with
          | true =>
            rw [hd] at d2
            have HM : Hid (settleAt (mid D.s [] j) j 64 = mid D.s [] (j + 1)) := hidep (by rw [← mid_succ_dirty [] hjl hd, getD_nil])
            have HC := hidep (rsettle_any _ _ j 64 wr lo hi HR.out (by show j < (mid D.s [] j).length; rw [mid_len]; exact hjl) (by show (atS (mid D.s [] j) j).dirty = true; rw [mid_at [] (Nat.le_refl j) hjl]; exact hd))
            clear hd hjl
            go_wp2_with (go_at_call 67; refine HC.out.mono ?_; rintro e w2 ⟨rfl, hD2, hT2⟩)
            have HD2 := hidep hD2
            have HT3 := hidep (HT2.out.trans hT2)
            clear hD2 hT2
            go_roundw
            case rel => exact ⟨j + 1, by omega, by go_num, hidep (by have := HD2.out; rw [HM.out] at this; exact this), HT3⟩
            case measure => simp [RowKit.intOf]; omega
          | false =>
            rw [hd] at d2
            have HM := hidep (mid_succ_clean [] hjl hd)
            clear hd hjl
            go_wp2
            go_roundw
            case rel => exact ⟨j + 1, by omega, by go_num, hidep (by rw [HM.out]; exact HR.out), HT2⟩
            case measure => simp [RowKit.intOf]; omega
        · clear h1
          go_wp2
          go_ret
          have e : mid D.s [] j = mountS D.s [] := mid_all _ _ (by rw [HN.out]; omega)
          exact ⟨ret_val (congrArg _ HZ.out.1.symm), by rw [HZ.out.2, ← e]; exact HR.out, HT2.out⟩
set_option maxHeartbeats 1000000 in
theorem rmount_any (p v : Value) (ps : List Int) (D : Dk) (w : World) (lo hi : Nat) (h : RDiskAt w lo hi p D) (hp : ∀ X, Turn lo hi w X → IntsAt X v ps) :
    Calls Tryz.prog 32 #[p, v] w fun e w' => e = .returned (.tuple #[]) ∧ RDiskAt w' lo hi p (mountD D ps) ∧ Turn lo hi w w' := by
  have HP := hidep hp
  have hp0 := hp w (Turn.refl _ _ _)
  obtain ⟨a, cap, rfl, hlc, hmc⟩ := hp0.1.form
  unfold maxLen at hmc
  clear hp hp0
  obtain ⟨b, g, c, rfl, h⟩ := h
  have hn4 := h.ok.1.2.1
  have H : Hid (RDiskAt w lo hi (.pointer (some ⟨b, 0, none⟩)) { D with s := mid D.s ps 0 }) := hidep (by rw [mid_zero]; exact ⟨b, g, c, rfl, h⟩)
  clear h
  obtain ⟨n, hn⟩ : ∃ n, D.s.length = n := ⟨_, rfl⟩
  have HN := hidep hn
  rw [hn] at hn4
  clear hn
  go_enter Tryz.func32, Tryz.ntmps32
  go_wp2
  go_loopw [4, 5] (fun k i wr => ∃ j : Nat, j ≤ n ∧ i = .int .i64 j ∧ k = .int .i64 (cntD D.s j) ∧ Hid (RDiskAt wr lo hi (.pointer (some ⟨b, 0, none⟩)) { D with s := mid D.s ps j }) ∧ Hid (Turn lo hi w wr)) (fun _ i _ => n - (RowKit.intOf i).toNat)
  case atStart => exact ⟨0, Nat.zero_le _, rfl, by simp [cntD], H, hidep (Turn.refl _ _ _)⟩
  case round =>
    obtain ⟨j, hj, rfl, rfl, HR, HT2⟩ := hrel
    obtain ⟨b1, g1, cc, hbb, h1⟩ := HR.out
    obtain rfl := ptr_inj hbb
    clear hbb
    have c0 := h1.c0
    rw [show ({ D with s := mid D.s ps j } : Dk).s.length = n by show (mid D.s ps j).length = n; rw [mid_len, HN.out]] at c0
    by_cases hlt : j < n
    · have hjl : j < D.s.length := by rw [HN.out]; exact hlt
      obtain ⟨d0, d1, d2, d3⟩ := h1.at (k := j) (by show j < (mid D.s ps j).length; rw [mid_len]; exact hjl)
      rw [show ({ D with s := mid D.s ps j } : Dk).s = mid D.s ps j from rfl, mid_at ps (Nat.le_refl j) hjl] at d2
      clear d0 d1 d3 h1
      cases hd : (D.s[j]).dirty with
      | true =>
        rw [hd] at d2
        have HM := hidep (mid_succ_dirty ps hjl hd)
        have HCN : Hid (cntD D.s (j + 1) = cntD D.s j + 1) := hidep (by rw [cntD_succ hjl, hd]; rfl)
        have hcl := cntD_le D.s j
        have HC := hidep (fun (q : Int) => rsettle_any _ _ j q wr lo hi HR.out (by show j < (mid D.s ps j).length; rw [mid_len]; exact hjl) (by show (atS (mid D.s ps j) j).dirty = true; rw [mid_at ps (Nat.le_refl j) hjl]; exact hd))
        clear hd hjl
        generalize cntD D.s j = k at *
        by_cases hk : k < ps.length
        · have HG : Hid (ps.getD k 64 = ps[k]) := hidep (by simp [hk])
          obtain ⟨pb, po, rfl, _, hcell⟩ := (HP.out wr HT2.out).1.at (by omega)
          have hx := hcell k _ (intsC_get ps k hk)
          clear hcell
          generalize ps[k] = x at *
          generalize ps.length = pn at *
          go_wp2_with (go_at_call 67; refine (HC.out _).mono ?_; rintro e w2 ⟨rfl, hD2, hT2⟩)
          have HD2 := hidep hD2
          have HT3 := hidep (HT2.out.trans hT2)
          clear hD2 hT2
          go_roundw
          case rel => exact ⟨j + 1, by omega, by go_num, by rw [HCN.out]; go_num, hidep (by have := HD2.out; rw [← HG.out, HM.out] at this; exact this), HT3⟩
          case measure => simp [RowKit.intOf]; omega
        · have HG : Hid (ps.getD k 64 = 64) := hidep (by rw [List.getD_eq_getElem?_getD, List.getElem?_eq_none (by omega)]; rfl)
          generalize ps.length = pn at *
          go_wp2_with (go_at_call 67; refine (HC.out _).mono ?_; rintro e w2 ⟨rfl, hD2, hT2⟩)
          have HD2 := hidep hD2
          have HT3 := hidep (HT2.out.trans hT2)
          clear hD2 hT2
          go_roundw
          case rel => exact ⟨j + 1, by omega, by go_num, by rw [HCN.out]; go_num, hidep (by have := HD2.out; rw [← HG.out, HM.out] at this; exact this), HT3⟩
          case measure => simp [RowKit.intOf]; omega
      | false =>
        rw [hd] at d2
        have HM := hidep (mid_succ_clean ps hjl hd)
        have HCN : Hid (cntD D.s (j + 1) = cntD D.s j) := hidep (by rw [cntD_succ hjl, hd]; rfl)
        clear hd hjl
        generalize cntD D.s j = k at *
        go_wp2
        go_roundw
        case rel => exact ⟨j + 1, by omega, by go_num, by rw [HCN.out], hidep (by rw [HM.out]; exact HR.out), HT2⟩
        case measure => simp [RowKit.intOf]; omega
    · have e : mid D.s ps j = mountS D.s ps := mid_all _ _ (by rw [HN.out]; omega)
      rw [e] at h1 HR
      have c1 := h1.c1
      have c2 := h1.c2
      have f1 := h1.fr 1
      have f2 := h1.fr 2
      have HF := hidep ((h1.setOff false).setLeft (l := -1) (by omega))
      have HTF := hidep ((HT2.out.trans (h1.turn 1 (.bool false))).trans ((h1.setOff false).turn 2 (.int .i64 (-1))))
      clear h1 e
      go_wp2
      go_end0
      exact ⟨rfl, ⟨b, g1, cc, rfl, HF.out⟩, HTF.out⟩
end Go.Proofs.YtipbkdlekanlmaaGreatDoor
/- Contracts of the reference: equal lists of texts and of numbers; the image, the pending and the worn sectors. -/
namespace Go.Proofs.YtipbkdlekanlmaaGreatDoor
open Go.RowKit Go.Lab Go.Disk
def strsC (l : List ByteArray) : List Value := l.map Value.string
abbrev StrsAt (w : World) (v : Value) (l : List ByteArray) : Prop := Rd w (fun _ => True) 1 v l.length (strsC l)
abbrev NumsAt (w : World) (v : Value) (l : List Int) : Prop := Rd w (fun _ => True) 1 v l.length (intsC l)
theorem strsC_get (l : List ByteArray) (i : Nat) (h : i < l.length) : (strsC l)[i]? = some (.string l[i]) := by simp [strsC, h]
theorem slStrs : SlT Tryz.prog 22 9 (.string ByteArray.empty) 1 16 := ⟨by kernel_rfl, by kernel_rfl, rfl, by decide⟩
theorem slInts : SlT Tryz.prog 51 3 (.int .i64 0) 1 8 := ⟨by kernel_rfl, by kernel_rfl, rfl, by decide⟩
theorem bytes_eq_of {x y : ByteArray} (h : x.toList = y.toList) : x = y := by
  rw [ByteArray.toList_eq, ByteArray.toList_eq] at h
  exact ByteArray.ext (Array.toList_inj.1 h)
theorem eq_take_succ {α : Type} {l m : List α} {k : Nat} (h : k < l.length) (h' : k < m.length) (e : l.take k = m.take k) (he : l[k] = m[k]) : l.take (k + 1) = m.take (k + 1) := by
  rw [List.take_succ_eq_append_getElem h, List.take_succ_eq_append_getElem h', e, he]
end Go.Proofs.YtipbkdlekanlmaaGreatDoor
