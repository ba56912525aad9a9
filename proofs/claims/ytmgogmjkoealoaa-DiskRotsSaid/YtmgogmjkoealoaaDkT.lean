/- Contract of the reference's disk: settle. -/
import Derived.Test.YtmgogmjkoealoaaDkS
namespace Go.Proofs.Ytmgogmjkoealoaa
open Go.RowKit Go.Lab Go.Disk Go.Maps
theorem clampP_cases (p : Int) : (p < 0 ∧ clampP p = 0) ∨ (0 ≤ p ∧ p < 64 ∧ (clampP p : Int) = p) ∨ (64 ≤ p ∧ clampP p = 64) := by unfold clampP; omega
theorem RDiskIn.set4 {lo hi b g c : Nat} {D : Dk} {w : World} (h : RDiskIn w lo hi b g c D) {k : Nat} (hk : k < D.s.length) {x : Sec} (hx : x.Ok) (hc : x.dirty = false → x.next = ByteArray.empty) :
    RDiskIn ((((w.setCell ⟨g, k * 4, none⟩ (.string x.text)).setCell ⟨g, k * 4 + 1, none⟩ (.string x.next)).setCell ⟨g, k * 4 + 2, none⟩ (.bool x.dirty)).setCell ⟨g, k * 4 + 3, none⟩ (.bool x.worn)) lo hi b g c { D with s := D.s.set k x } ∧
    Turn lo hi w ((((w.setCell ⟨g, k * 4, none⟩ (.string x.text)).setCell ⟨g, k * 4 + 1, none⟩ (.string x.next)).setCell ⟨g, k * 4 + 2, none⟩ (.bool x.dirty)).setCell ⟨g, k * 4 + 3, none⟩ (.bool x.worn)) := by
  have hl := secsC_len D.s
  have r1 := h.row.setCell (o := k * 4 + 0) (by omega) (.string x.text)
  rw [secs_set hk 0 _ { atS D.s k with text := x.text } (by omega) rfl, Nat.add_zero] at r1
  have r2 := r1.setCell (o := k * 4 + 1) (by rw [secsC_len, List.length_set]; omega) (.string x.next)
  rw [secs_set (by simpa using hk) 1 _ { atS D.s k with text := x.text, next := x.next } (by omega) (by rw [atS_set hk, if_pos rfl]; rfl), List.set_set] at r2
  have r3 := r2.setCell (o := k * 4 + 2) (by rw [secsC_len, List.length_set]; omega) (.bool x.dirty)
  rw [secs_set (by simpa using hk) 2 _ { atS D.s k with text := x.text, next := x.next, dirty := x.dirty } (by omega) (by rw [atS_set hk, if_pos rfl]; rfl), List.set_set] at r3
  have r4 := r3.setCell (o := k * 4 + 3) (by rw [secsC_len, List.length_set]; omega) (.bool x.worn)
  rw [secs_set (by simpa using hk) 3 _ x (by omega) (by rw [atS_set hk, if_pos rfl]; rfl), List.set_set] at r4
  have T : ∀ (l2 h2 : Nat), l2 ≤ g → g < h2 → Turn l2 h2 w ((((w.setCell ⟨g, k * 4, none⟩ (.string x.text)).setCell ⟨g, k * 4 + 1, none⟩ (.string x.next)).setCell ⟨g, k * 4 + 2, none⟩ (.bool x.dirty)).setCell ⟨g, k * 4 + 3, none⟩ (.bool x.worn)) := fun l2 h2 e1 e2 =>
    ((Turn.setCell (a := ⟨g, k * 4, none⟩) e1 e2 _).trans (Turn.setCell (a := ⟨g, k * 4 + 1, none⟩) e1 e2 _)).trans ((Turn.setCell (a := ⟨g, k * 4 + 2, none⟩) e1 e2 _).trans (Turn.setCell (a := ⟨g, k * 4 + 3, none⟩) e1 e2 _))
  exact ⟨h.row_set (T g (g + 1) (Nat.le_refl g) (Nat.lt_succ_self g)) r4 hx hc, T lo hi h.hg.1 h.hg.2⟩
theorem settleAt_at {S : List Sec} {k m : Nat} {p : Int} {x1 x2 : ByteArray} {x4 : Bool} (hx : atS S k = ⟨x1, x2, true, x4⟩) (hm : clampP p = m) (h1 : x1.size ≤ 64) (h2 : 64 ≤ x1.size) :
    settleAt S k p = S.set k ⟨if x4 = true then x1 else x2.extract 0 m ++ x1.extract m x1.size, ByteArray.empty, false, x4⟩ := by
  unfold settleAt settleS
  rw [hx, hm]
  have e : x1.size = 64 := by omega
  rw [e]
set_option maxHeartbeats 1000000 in
theorem rsettle_any (q : Value) (D : Dk) (k : Nat) (p : Int) (w : World) (lo hi : Nat) (h : RDiskAt w lo hi q D) (hk : k < D.s.length) (hd : (atS D.s k).dirty = true) :
    Calls Try.prog 57 #[q, .int .i64 k, .int .i64 p] w fun e w' => e = .returned (.tuple #[]) ∧ RDiskAt w' lo hi q { D with s := settleAt D.s k p } ∧ Turn lo hi w w' := by
  obtain ⟨b, g, c, rfl, h⟩ := h
  have c0 := h.c0
  obtain ⟨d0, d1, d2, d3⟩ := h.at hk
  have f0 := h.frS (k * 4)
  have f1 := h.frS (k * 4 + 1)
  have f2 := h.frS (k * 4 + 2)
  have f3 := h.frS (k * 4 + 3)
  have hmx := h.ok.1.2.1
  have hsz := h.ok.1.at hk
  have hs1 := hsz.1
  have hs2 := hsz.2 hd
  have hgl := h.row.lt
  have hbl := h.top.lt
  have H := hidep h
  have HK := hidep hk
  have HDD := hidep hd
  clear h hsz
  have HX : Hid (∃ x, atS D.s k = x) := hidep ⟨_, rfl⟩
  obtain ⟨x, hx⟩ := HX.out
  have hx' := hidep hx
  rw [hx] at d0 d1 d2 d3 hs1 hs2 hd
  clear hx HX
  obtain ⟨x1, x2, x3, x4⟩ := x
  simp only at d0 d1 d2 d3 hs1 hs2 hd
  subst hd
  have a1 : x1.size ≤ 64 := Nat.le_of_eq hs1
  have a2 : 64 ≤ x1.size := Nat.le_of_eq hs1.symm
  have a3 : x2.size ≤ 64 := Nat.le_of_eq hs2
  have a4 : 64 ≤ x2.size := Nat.le_of_eq hs2.symm
  have hcs := clampP_cases p
  obtain ⟨m, hm⟩ : ∃ m, clampP p = m := ⟨_, rfl⟩
  have HM := hidep hm
  rw [hm] at hcs
  have hm64 : m ≤ 64 := by rw [← hm]; exact clampP_le p
  have HCS := hidep hcs
  clear hm hs1 hs2 hcs
  generalize D.s.length = n at c0 hk hmx
  go_enter Try.func57, Try.ntmps57
  go_upto_region 1 with (fail)
  go_cut [2] (fun s2 wc => s2 = .int .i64 m ∧ wc = w.alloc (.cells #[.string x1, .string x2, .bool true, .bool x4] 54))
  case first =>
    rcases HCS.out with ⟨h1, h2⟩ | ⟨h1, h2, h3⟩ | ⟨h1, h2⟩
    · have e : (0 : Int) = (m : Int) := by omega
      have HE := hidep e
      clear e h2
      go_wp2
      go_meet
      exact ⟨congrArg _ HE.out, rfl⟩
    · have HE := hidep h3
      clear h3
      rcases Int.lt_or_eq_of_le h1 with h0 | h0
      · go_wp2
        go_meet
        exact ⟨congrArg _ HE.out.symm, rfl⟩
      · subst h0
        go_wp2
        go_meet
        exact ⟨congrArg _ HE.out.symm, rfl⟩
    · have e : (64 : Int) = (m : Int) := by omega
      have HE := hidep e
      clear e h2
      rcases Int.lt_or_eq_of_le h1 with h0 | h0
      · go_wp2
        go_meet
        exact ⟨congrArg _ HE.out, rfl⟩
      · subst h0
        go_wp2
        go_meet
        exact ⟨congrArg _ HE.out, rfl⟩
  case rest =>
    obtain ⟨rfl, rfl⟩ := hcut
    have HE := hidep (settleAt_at hx'.out HM.out a1 a2)
    cases x4 with
    | true =>
      go_wp2
      go_region
      go_end0
      have e : settleAt D.s k p = D.s.set k ⟨x1, ByteArray.empty, false, true⟩ := HE.out
      have hx : Sec.Ok ⟨x1, ByteArray.empty, false, true⟩ := ⟨by show x1.size = 64; omega, fun e => by cases e⟩
      obtain ⟨q1, q2⟩ := H.out.set4 HK.out hx (fun _ => rfl)
      rw [e]
      exact ⟨rfl, ⟨b, g, c, rfl, q1.keep (lo' := hi) (hi' := hi) ((Turn.alloc _).trans (Turn.drewN 1)) (.inl (Nat.le_refl _))⟩, q2.trans ((Turn.alloc _).trans (Turn.drewN 1))⟩
    | false =>
      go_wp2
      go_region
      go_wp2
      go_region
      go_end0
      have e : settleAt D.s k p = D.s.set k ⟨x2.extract 0 m ++ x1.extract m x1.size, ByteArray.empty, false, false⟩ := HE.out
      have hx : Sec.Ok ⟨x2.extract 0 m ++ x1.extract m x1.size, ByteArray.empty, false, false⟩ := ⟨by show (_ ++ _ : ByteArray).size = 64; rw [ByteArray.size_append, extract_size, extract_size]; omega, fun e => by cases e⟩
      obtain ⟨q1, q2⟩ := H.out.set4 HK.out hx (fun _ => rfl)
      rw [e]
      exact ⟨rfl, ⟨b, g, c, rfl, q1.keep (lo' := hi) (hi' := hi) ((Turn.alloc _).trans (Turn.drewN 2)) (.inl (Nat.le_refl _))⟩, q2.trans ((Turn.alloc _).trans (Turn.drewN 2))⟩
end Go.Proofs.Ytmgogmjkoealoaa
