/- Contract of the program's disk: Rot. -/
import Derived.Test.YtmgogmjkoealoaaDkD
namespace Go.Proofs.Ytmgogmjkoealoaa
open Go.RowKit Go.Lab Go.Disk Go.Maps
theorem nums_str : ∀ {xs : List Int}, (∀ x ∈ xs, 0 ≤ x ∧ x < 256) → nums (strOfNums xs) = xs
  | [], _ => rfl
  | x :: xs, h => by
    have ih := nums_str (xs := xs) (fun y hy => h y (by simp [hy]))
    have hx := h x (by simp)
    unfold nums strOfNums at ih ⊢
    simp only [List.map_cons] at ih ⊢
    rw [ih]
    congr 1
    simp
    omega
theorem rotN_lt {x k : Nat} (hx : x < 256) (hk : k < 8) : rotN x k < 256 := by
  unfold rotN
  exact Nat.xor_lt_two_pow (n := 8) hx (Nat.pow_lt_pow_right (by omega) hk)
theorem cellsB_rot {s : ByteArray} {m : Nat} : cellsB (rotB s m) = (cellsB s).set (m / 8) (.int .u8 ((rotN (s.data.toList.getD (m / 8) 0).toNat (m % 8) : Nat) : Int)) := by
  have hb : rotN (s.data.toList.getD (m / 8) 0).toNat (m % 8) < 256 := rotN_lt (UInt8.toNat_lt _) (Nat.mod_lt _ (by omega))
  unfold cellsB
  rw [← rotB_nums (s := s) (m := m) rfl, nums_str, List.map_set]
  intro x hx
  rcases List.mem_or_eq_of_mem_set hx with h1 | rfl
  · exact nums_rng s x h1
  · omega
theorem DiskIn.setRow {lo hi b g mb wb c : Nat} {l : Int} {P W : DataW Unit} {D : Dk} {w w' : World} (h : DiskIn w lo hi b g mb wb c l P W D) {k : Nat} {x : Sec} (hk : k < D.s.length) (hx : x.Ok) (hd : x.dirty = (atS D.s k).dirty) (hn : x.next = (atS D.s k).next) (hw : x.worn = (atS D.s k).worn)
    (hT : Turn g (g + 1) w w') (hrow : RowAt w' g 74 (blocksC (D.s.set k x))) : DiskIn w' lo hi b g mb wb c l P W { D with s := D.s.set k x } ∧ Turn lo hi w w' := by
  have hz := h.hi
  have hg := h.hg
  have hm := h.hm
  have hww := h.hw
  have hbb := h.hb
  have n1 := row_ne h.row h.top (by decide)
  have n2 := ownsMap_ne h.pend h.row
  have n3 := ownsMap_ne h.worn h.row
  refine ⟨⟨h.hb, h.hg, h.hm, h.hw, Nat.le_trans hz hT.size, h.ne, by simpa using h.cap, by simpa using h.top.of_turn hT (by omega), hrow, ownsMap_block h.pend (hT.block _ (by omega) (by omega)), ownsMap_block h.worn (hT.block _ (by omega) (by omega)), h.pv.same hk hd hn, h.wv.same hk hw, h.lft, ⟨h.ok.1.set k hx, h.ok.2⟩⟩, ⟨hT.os, hT.tape, hT.output, hT.size, fun j hj hn => hT.block j hj (by omega)⟩⟩
theorem blocks_rot {S : List Sec} (hok : SOk S) {k m : Nat} (hk : k < S.length) (hm : m / 8 < 64) : (blocksC S).set (k * 64 + m / 8) (.int .u8 ((rotN ((atS S k).text.data.toList.getD (m / 8) 0).toNat (m % 8) : Nat) : Int)) = blocksC (rotS S k m) :=
  chunkm_spl (f := fun x : Sec => cellsB x.text) S (blocks_each hok) k (m / 8) [.int .u8 ((rotN ((atS S k).text.data.toList.getD (m / 8) 0).toNat (m % 8) : Nat) : Int)] { atS S k with text := rotB (atS S k).text m } hk (by simp; omega) (by rw [← atS_get hk]; exact cellsB_rot)
set_option maxHeartbeats 1000000 in
set_option maxRecDepth 100000 in
theorem rot_any (p : Value) (D : Dk) (i bit : Int) (w : World) (lo hi : Nat) (h : DiskAt w lo hi p D) :
    Calls Try.prog 19 #[p, .int .i64 i, .int .i64 bit] w fun e w' => e = .returned (.int .i64 (if rotOk D i bit = true then 0 else 1)) ∧ DiskAt w' lo hi p (rotD D i bit) ∧ Turn lo hi w w' := by
  obtain ⟨b, g, mb, wb, c, l, P, W, rfl, h⟩ := h
  have H : Hid (DiskAt w lo hi (.pointer (some ⟨b, 0, none⟩)) D) := hidep ⟨b, g, mb, wb, c, l, P, W, rfl, h⟩
  have c0 := h.c0
  have hmx := h.ok.1.2.1
  cases hr : rotOk D i bit with
  | false =>
    have HW : Hid (rotD D i bit = D) := hidep (by unfold rotD; rw [if_neg (by rw [hr]; simp)])
    have hc := rotOk_cases hr
    clear hr h
    have hc2 : (i < 0) ∨ (0 ≤ i ∧ (D.s.length : Int) ≤ i) ∨ (0 ≤ i ∧ i < (D.s.length : Int) ∧ bit < 0) ∨ (0 ≤ i ∧ i < (D.s.length : Int) ∧ 0 ≤ bit ∧ 511 < bit) := by
      rcases hc with h1 | ⟨h1, h2⟩ | ⟨h1, h2, h3⟩
      · rcases isIn_out h1 with h1 | h1
        · exact .inl h1
        · exact .inr (.inl h1)
      · have := isIn_lt h1
        exact .inr (.inr (.inl ⟨this.1, by omega, h2⟩))
      · have := isIn_lt h1
        exact .inr (.inr (.inr ⟨this.1, by omega, h2, h3⟩))
    clear hc
    generalize D.s.length = n at *
    rcases hc2 with h1 | ⟨h1, h2⟩ | ⟨h1, h2, h3⟩ | ⟨h1, h2, h3, h4⟩
    all_goals
      go_enter Try.func19, Try.ntmps19
      go_wp2
      go_ret
      exact ⟨rfl, by rw [HW.out]; exact H.out, Turn.refl _ _ _⟩
  | true =>
    have HW : Hid (rotD D i bit = { D with s := rotS D.s i.toNat bit.toNat }) := hidep (by unfold rotD; rw [if_pos hr])
    obtain ⟨hin, h1, h2⟩ := rotOk_true hr
    obtain ⟨h0, hk⟩ := isIn_lt hin
    obtain ⟨k, rfl⟩ : ∃ k : Nat, i = (k : Int) := ⟨i.toNat, by omega⟩
    obtain ⟨m, rfl⟩ : ∃ m : Nat, bit = (m : Int) := ⟨bit.toNat, by omega⟩
    rw [Int.toNat_natCast] at hk HW
    rw [Int.toNat_natCast] at HW
    have hm8 : m / 8 < 64 := by omega
    have d0 := h.row.cell (blocksC_get h.ok.1 hk hm8)
    have f0 := h.row.free (k * 64 + m / 8)
    rw [nums_getD] at d0
    have hxb := UInt8.toNat_lt ((atS D.s k).text.data.toList.getD (m / 8) 0)
    have HB : Hid (∀ y : Int, y = ((rotN ((atS D.s k).text.data.toList.getD (m / 8) 0).toNat (m % 8) : Nat) : Int) → DiskIn (w.setCell ⟨g, k * 64 + m / 8, none⟩ (.int .u8 y)) lo hi b g mb wb c l P W { D with s := rotS D.s k m } ∧ Turn lo hi w (w.setCell ⟨g, k * 64 + m / 8, none⟩ (.int .u8 y))) := hidep (fun y hy => by
      subst hy
      have hrow := h.row.setCell (o := k * 64 + m / 8) (by rw [blocksC_len h.ok.1]; omega) (.int .u8 ((rotN ((atS D.s k).text.data.toList.getD (m / 8) 0).toNat (m % 8) : Nat) : Int))
      rw [blocks_rot h.ok.1 hk hm8] at hrow
      exact h.setRow (x := { atS D.s k with text := rotB (atS D.s k).text m }) hk ⟨by rw [rotB_size]; exact (h.ok.1.at hk).1, (h.ok.1.at hk).2⟩ rfl rfl rfl (Turn.setCell (a := ⟨g, k * 64 + m / 8, none⟩) (Nat.le_refl g) (Nat.lt_succ_self g) _) hrow)
    clear hin h0 hr h
    generalize hxx : ((atS D.s k).text.data.toList.getD (m / 8) 0).toNat = xb at *
    clear hxx
    have hI0 : 0 ≤ (k : Int) := by omega
    have hI1 : (k : Int) < (D.s.length : Int) := by omega
    have hI2 : (m : Int) / 8 < 64 := by omega
    generalize D.s.length = n at *
    go_enter Try.func19, Try.ntmps19
    go_wp2
    go_region
    go_wp2
    go_ret
    have hfin := HB.out _ (xor_pow xb m (by simpa using hxb))
    refine ⟨rfl, ?_, ?_⟩
    · rw [HW.out]
      exact ⟨b, g, mb, wb, c, l, P, W, rfl, hfin.1.keep (lo' := hi) (hi' := hi) (Turn.drewN 1) (.inl (Nat.le_refl _))⟩
    · exact hfin.2.trans (Turn.drewN 1)
end Go.Proofs.Ytmgogmjkoealoaa
