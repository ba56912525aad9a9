/- Contracts of the reference's disk: Write, Wear, settle, Flush, Mount. -/
import Derived.Test.YtmgogmjkoealoaaDkR
namespace Go.Proofs.Ytmgogmjkoealoaa
open Go.RowKit Go.Lab Go.Disk Go.Maps
theorem writeE_off {D : Dk} (i : Int) (s : ByteArray) (h : D.off = true) : writeE D i s = 25 ∧ writeD D i s = D := ⟨if_pos h, if_pos h⟩
theorem writeE_out {D : Dk} {i : Int} (s : ByteArray) (h : D.off = false) (hi : D.isIn i = false) : writeE D i s = 1 ∧ writeD D i s = D := by
  unfold writeE writeD
  simp [h, hi]
theorem writeE_size {D : Dk} {i : Int} {s : ByteArray} (h : D.off = false) (hs : s.size ≠ 64) : writeE D i s = 1 ∧ writeD D i s = D := by
  unfold writeE writeD
  cases D.isIn i <;> simp [h, hs]
theorem writeE_down {D : Dk} {i : Int} {s : ByteArray} (h : D.off = false) (hi : D.isIn i = true) (hs : s.size = 64) (hl : D.left = 0) : writeE D i s = 25 ∧ writeD D i s = stepD D := by
  unfold writeE writeD
  simp [h, hi, hs, stepE_0 hl]
theorem writeE_ok {D : Dk} {k : Nat} {s : ByteArray} (h : D.off = false) (hk : k < D.s.length) (hs : s.size = 64) (hl : D.left ≠ 0) : writeE D (k : Int) s = 0 ∧ writeD D (k : Int) s = { stepD D with s := writeS D.s k s } := by
  unfold writeE writeD
  simp [h, isIn_mk hk, hs, stepE_1 hl]
theorem ptr_inj {b b' : Nat} (h : (Value.pointer (some ⟨b, 0, none⟩)) = .pointer (some ⟨b', 0, none⟩)) : b = b' := by
  injection h with h
  injection h with h
  injection h with h _ _
theorem RDiskIn.write {lo hi b g c : Nat} {D : Dk} {w : World} (h : RDiskIn w lo hi b g c D) {k : Nat} (hk : k < D.s.length) {s : ByteArray} (hs : s.size = 64) :
    RDiskIn ((w.setCell ⟨g, k * 4 + 1, none⟩ (.string s)).setCell ⟨g, k * 4 + 2, none⟩ (.bool true)) lo hi b g c { D with s := writeS D.s k s } ∧ Turn lo hi w ((w.setCell ⟨g, k * 4 + 1, none⟩ (.string s)).setCell ⟨g, k * 4 + 2, none⟩ (.bool true)) := by
  have hl := secsC_len D.s
  have r1 := h.row.setCell (o := k * 4 + 1) (by omega) (.string s)
  rw [secs_set hk 1 _ { atS D.s k with next := s } (by omega) rfl] at r1
  have r2 := r1.setCell (o := k * 4 + 2) (by rw [secsC_len, List.length_set]; omega) (.bool true)
  rw [secs_set (by simpa using hk) 2 _ { atS D.s k with next := s, dirty := true } (by omega) (by rw [atS_set hk, if_pos rfl]; rfl), List.set_set] at r2
  refine ⟨h.row_set (Turn.trans (Turn.setCell (a := ⟨g, k * 4 + 1, none⟩) (Nat.le_refl g) (Nat.lt_succ_self g) _) (Turn.setCell (a := ⟨g, k * 4 + 2, none⟩) (Nat.le_refl g) (Nat.lt_succ_self g) _)) r2 ⟨(h.ok.1.at hk).1, fun _ => hs⟩ (fun e => by cases e), Turn.trans (h.turnS _ _) (Turn.setCell (a := ⟨g, k * 4 + 2, none⟩) h.hg.1 h.hg.2 _)⟩
theorem RDiskIn.wear {lo hi b g c : Nat} {D : Dk} {w : World} (h : RDiskIn w lo hi b g c D) {k : Nat} (hk : k < D.s.length) :
    RDiskIn (w.setCell ⟨g, k * 4 + 3, none⟩ (.bool true)) lo hi b g c { D with s := wearS D.s k } := by
  have hl := secsC_len D.s
  have r1 := h.row.setCell (o := k * 4 + 3) (by omega) (.bool true)
  rw [secs_set hk 3 _ { atS D.s k with worn := true } (by omega) rfl] at r1
  refine h.row_set (Turn.setCell (a := ⟨g, k * 4 + 3, none⟩) (Nat.le_refl g) (Nat.lt_succ_self g) _) r1 ⟨(h.ok.1.at hk).1, (h.ok.1.at hk).2⟩ (fun e => h.clean (atS D.s k) (by rw [atS_get hk]; exact List.getElem_mem hk) e)
set_option maxHeartbeats 400000 in
theorem rwrite_any (p : Value) (D : Dk) (i : Int) (s : ByteArray) (w : World) (lo hi : Nat) (h : RDiskAt w lo hi p D) (hmax : s.size ≤ maxLen) :
    Calls Try.prog 33 #[p, .int .i64 i, .string s] w fun e w' => e = .returned (.int .i64 (writeE D i s)) ∧ RDiskAt w' lo hi p (writeD D i s) ∧ Turn lo hi w w' := by
  have HI := hidep (fun W hW => is_any p D i W lo hi (hW : RDiskAt W lo hi p D))
  have HS := hidep (fun W hW => rstep_any p D W lo hi (hW : RDiskAt W lo hi p D))
  unfold maxLen at hmax
  obtain ⟨b, g, c, rfl, h⟩ := h
  have c0 := h.c0
  have c1 := h.c1
  have hok := h.ok.1.2.1
  have H : Hid (RDiskAt w lo hi (.pointer (some ⟨b, 0, none⟩)) D) := hidep ⟨b, g, c, rfl, h⟩
  clear h
  cases hoff : D.off with
  | true =>
    rw [hoff] at c1
    have HZ := hidep (writeE_off i s hoff)
    clear hoff
    go_enter Try.func33, Try.ntmps33
    go_wp2
    go_ret
    exact ⟨ret_val (congrArg _ HZ.out.1.symm), by rw [HZ.out.2]; exact H.out, Turn.refl _ _ _⟩
  | false =>
    rw [hoff] at c1
    cases hin : D.isIn i with
    | false =>
      have HZ := hidep (writeE_out s hoff hin)
      have HN := hidep hin
      clear hoff hin
      go_enter Try.func33, Try.ntmps33
      go_wp2_with (go_at_call 55; refine (HI.out _ H.out).mono ?_; rintro e w' ⟨rfl, rfl⟩; rw [HN.out])
      go_ret
      exact ⟨ret_val (congrArg _ HZ.out.1.symm), by rw [HZ.out.2]; exact H.out, Turn.refl _ _ _⟩
    | true =>
      have HN := hidep hin
      by_cases hs : s.size = 64
      · by_cases hl : D.left = 0
        · have HZ := hidep (writeE_down hoff hin hs hl)
          have HE := hidep (stepE_0 hl)
          clear hoff hin hl
          go_enter Try.func33, Try.ntmps33
          go_wp2_with (first
            | (go_at_call 55; refine (HI.out _ H.out).mono ?_; rintro e w' ⟨rfl, rfl⟩; rw [HN.out])
            | (go_at_call 56; refine (HS.out _ H.out).mono ?_; rintro e w' ⟨rfl, hD, hT⟩; rw [HE.out]))
          go_ret
          exact ⟨ret_val (congrArg _ HZ.out.1.symm), by rw [HZ.out.2]; exact hD, hT⟩
        · obtain ⟨h0, hk⟩ := isIn_lt hin
          obtain ⟨k, rfl⟩ : ∃ k : Nat, i = (k : Int) := ⟨i.toNat, by omega⟩
          rw [Int.toNat_natCast] at hk
          have HZ := hidep (writeE_ok hoff hk hs hl)
          have HE := hidep (stepE_1 hl)
          have HK : Hid (k < (stepD D).s.length) := hidep (by rw [stepD_s]; exact hk)
          have hsle : s.size ≤ 64 := Nat.le_of_eq hs
          clear hoff hin hl h0 c0
          go_enter Try.func33, Try.ntmps33
          go_upto_region 8 with (first
            | (go_at_call 55; refine (HI.out _ H.out).mono ?_; rintro e w' ⟨rfl, rfl⟩; rw [HN.out])
            | (go_at_call 56; refine (HS.out _ H.out).mono ?_; rintro e w1 ⟨rfl, hD, hT⟩; rw [HE.out]))
          obtain ⟨b1, g1, k1, hbb, h1⟩ := hD
          obtain rfl := ptr_inj hbb
          have c0 := h1.c0
          have hk1 := HK.out
          obtain ⟨d0, d1, d2, d3⟩ := h1.at hk1
          have f1 := h1.frS (k * 4 + 1)
          have f2 := h1.frS (k * 4 + 2)
          have hmx := h1.ok.1.2.1
          have HW := hidep (h1.write hk1 hs)
          have HT := hidep hT
          clear h1 hT hbb HI HS HN HE hs hk
          generalize hn : (stepD D).s.length = n at *
          generalize hx : atS (stepD D).s k = x at *
          clear hn hx
          go_wp2
          go_ret
          have hw := HW.out
          refine ⟨ret_val (congrArg _ HZ.out.1.symm), ?_, HT.out.trans hw.2⟩
          rw [HZ.out.2]
          have e := stepD_s D
          exact ⟨b, g1, k1, rfl, by rw [← e]; exact hw.1⟩
      · have HZ := hidep (writeE_size (i := i) hoff hs)
        clear hoff hin
        have hs1 : s.size < 64 ∨ 64 < s.size := by omega
        clear hs
        rcases hs1 with hs1 | hs1
        all_goals
          go_enter Try.func33, Try.ntmps33
          go_wp2_with (go_at_call 55; refine (HI.out _ H.out).mono ?_; rintro e w' ⟨rfl, rfl⟩; rw [HN.out])
          go_ret
          exact ⟨ret_val (congrArg _ HZ.out.1.symm), by rw [HZ.out.2]; exact H.out, Turn.refl _ _ _⟩
set_option maxHeartbeats 400000 in
theorem rwear_any (p : Value) (D : Dk) (i : Int) (w : World) (lo hi : Nat) (h : RDiskAt w lo hi p D) :
    Calls Try.prog 39 #[p, .int .i64 i] w fun e w' => e = .returned (.int .i64 (if D.isIn i = true then 0 else 1)) ∧ RDiskAt w' lo hi p (wearD D i) ∧ Turn lo hi w w' := by
  have HI := hidep (fun W hW => is_any p D i W lo hi (hW : RDiskAt W lo hi p D))
  obtain ⟨b, g, c, rfl, h⟩ := h
  have H : Hid (RDiskAt w lo hi (.pointer (some ⟨b, 0, none⟩)) D) := hidep ⟨b, g, c, rfl, h⟩
  cases hin : D.isIn i with
  | false =>
    have HN := hidep hin
    have HW : Hid (wearD D i = D) := hidep (by unfold wearD; rw [if_neg (by rw [hin]; simp)])
    clear hin h
    go_enter Try.func39, Try.ntmps39
    go_wp2_with (go_at_call 55; refine (HI.out _ H.out).mono ?_; rintro e w' ⟨rfl, rfl⟩; rw [HN.out])
    go_ret
    exact ⟨rfl, by rw [HW.out]; exact H.out, Turn.refl _ _ _⟩
  | true =>
    have HN := hidep hin
    obtain ⟨h0, hk⟩ := isIn_lt hin
    obtain ⟨k, rfl⟩ : ∃ k : Nat, i = (k : Int) := ⟨i.toNat, by omega⟩
    rw [Int.toNat_natCast] at hk
    have HW : Hid (wearD D (k : Int) = { D with s := wearS D.s k }) := hidep (by unfold wearD; rw [if_pos hin]; rfl)
    have HR := hidep (h.wear hk)
    have HT := hidep (h.turnS (k * 4 + 3) (.bool true))
    have c0 := h.c0
    obtain ⟨d0, d1, d2, d3⟩ := h.at hk
    have f3 := h.frS (k * 4 + 3)
    have hmx := h.ok.1.2.1
    clear hin h h0
    generalize D.s.length = n at *
    generalize atS D.s k = x at *
    go_enter Try.func39, Try.ntmps39
    go_wp2_with (go_at_call 55; refine (HI.out _ H.out).mono ?_; rintro e w' ⟨rfl, rfl⟩; rw [HN.out])
    go_ret
    exact ⟨rfl, by rw [HW.out]; exact ⟨b, g, c, rfl, HR.out⟩, HT.out⟩
end Go.Proofs.Ytmgogmjkoealoaa
