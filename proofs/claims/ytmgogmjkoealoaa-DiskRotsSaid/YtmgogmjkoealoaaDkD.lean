/- Contracts of the program's disk: Wear, Image. -/
import Derived.Test.YtmgogmjkoealoaaDkC
import Derived.Test.YtmgogmjkoealoaaDkW
import Derived.Deep.OwnRows
namespace Go.Proofs.Ytmgogmjkoealoaa
open Go.RowKit Go.Lab Go.Disk Go.Maps
theorem DiskIn.putWorn {lo hi b g mb wb c : Nat} {l : Int} {P W : DataW Unit} {D : Dk} {w w' : World} (h : DiskIn w lo hi b g mb wb c l P W D) {k : Nat} (hk : k < D.s.length) {m : Nat}
    (hm : w'.ownsMap Try.prog 3 (plainElem Try.prog 4) wb m (W.put (kI (k : Int)) (.lit (.bool true)))) (hg : w.grownBy w' (some wb)) :
    DiskIn w' lo hi b g mb wb c l P (W.put (kI (k : Int)) (.lit (.bool true))) { D with s := wearS D.s k } ∧ Turn lo hi w w' := by
  have n1 := ownsMap_ne h.worn h.top
  have n2 := ownsMap_ne h.worn h.row
  have n3 := h.ne
  refine ⟨h.setMaps hk ⟨(h.ok.1.at hk).1, (h.ok.1.at hk).2⟩ rfl hg.size (keep_of_grown hg h.top.lt (Ne.symm n1)) (keep_of_grown hg h.row.lt (Ne.symm n2)) (ownsMap_block h.pend (keep_of_grown hg h.pend.lt n3)) (ownsMap_size hm) (h.pv.same hk rfl rfl) (h.wv.put (x := { atS D.s k with worn := true }) h.worn.isMap hk rfl), Turn.grown hg (fun q e => by injection e with e; subst e; exact h.hw)⟩
set_option maxHeartbeats 1000000 in
set_option maxRecDepth 100000 in
theorem wear_any (p : Value) (D : Dk) (i : Int) (w : World) (lo hi : Nat) (h : DiskAt w lo hi p D) (hi64 : -9223372036854775808 ≤ i ∧ i ≤ 9223372036854775807) :
    Calls Try.prog 20 #[p, .int .i64 i] w fun e w' => e = .returned (.int .i64 (if D.isIn i = true then 0 else 1)) ∧ DiskAt w' lo hi p (wearD D i) ∧ Turn lo hi w w' := by
  obtain ⟨b, g, mb, wb, c, l, P, W, rfl, h⟩ := h
  have H : Hid (DiskAt w lo hi (.pointer (some ⟨b, 0, none⟩)) D) := hidep ⟨b, g, mb, wb, c, l, P, W, rfl, h⟩
  have c0 := h.c0
  have c2 := h.c2
  have hmx := h.ok.1.2.1
  cases hin : D.isIn i with
  | false =>
    have HW : Hid (wearD D i = D) := hidep (by unfold wearD; rw [if_neg (by rw [hin]; simp)])
    have hc := isIn_out hin
    clear hin h
    generalize D.s.length = n at *
    rcases hc with h1 | ⟨h1, h2⟩
    all_goals
      go_enter Try.func20, Try.ntmps20
      go_wp2
      go_ret
      exact ⟨rfl, by rw [HW.out]; exact H.out, Turn.refl _ _ _⟩
  | true =>
    obtain ⟨h0, hk⟩ := isIn_lt hin
    obtain ⟨k, rfl⟩ : ∃ k : Nat, i = (k : Int) := ⟨i.toNat, by omega⟩
    rw [Int.toNat_natCast] at hk
    have HW : Hid (wearD D (k : Int) = { D with s := wearS D.s k }) := hidep (by unfold wearD; rw [if_pos hin]; rfl)
    have hws := worn_size h.worn h.wv
    obtain ⟨w3, hr3, ho3, hg3⟩ := h.worn.update (P := Try.prog) keyedInt Try.underlying69 (by unfold maxLen; omega) (keyI (i64ok_mk hi64)) (plainElem_bool Try.underlying4 true)
    have HF := hidep (h.putWorn hk ho3 hg3)
    have hI0 : 0 ≤ (k : Int) := by omega
    have hI1 : (k : Int) < (D.s.length : Int) := by omega
    clear hin h h0 hws ho3 hg3 hi64
    generalize D.s.length = n at *
    go_enter Try.func20, Try.ntmps20
    go_wp2
    go_ret
    exact ⟨rfl, by rw [HW.out]; exact ⟨b, g, mb, wb, c, l, P, _, rfl, HF.out.1⟩, HF.out.2⟩
theorem imageZ_len (D : Dk) : (imageZ D).length = D.s.length := by simp [imageZ]
theorem mk_strs (n : Nat) (h : n ≤ 4096) (W : World) : (Instr.makeSlice 39 (.int .i64 n) (.int .i64 n)).run Try.prog W = .ok (.slice (some ⟨W.heap.size, 0, none⟩) n n) (W.alloc (.cells (madeCells #[.string ByteArray.empty] n) 9)) :=
  run_make_row' 39 9 (.string ByteArray.empty) 16 Try.underlying39 (by kernel_rfl) rfl .i64 .i64 n (by omega) (by omega) W
theorem strsC_len (L : List ByteArray) : (strsC L).length = L.length := by simp [strsC]
/-- the image in the making: the first j texts, the rest empty -/
def imgRow (L : List ByteArray) (j n : Nat) : List Value := strsC (L.take j) ++ List.replicate (n - j) (.string ByteArray.empty)
theorem imgRow_set {L : List ByteArray} {j n : Nat} (hj : j < L.length) (hn : L.length = n) : (imgRow L j n).set j (.string L[j]) = imgRow L (j + 1) n := by
  unfold imgRow
  have hl : (strsC (L.take j)).length = j := by simp [strsC]; omega
  rw [List.set_append_right _ _ (by omega), hl, Nat.sub_self, List.take_succ_eq_append_getElem hj]
  have e : n - j = (n - (j + 1)) + 1 := by omega
  rw [e, List.replicate_succ, List.set_cons_zero]
  unfold strsC
  rw [List.map_append, List.append_assoc]
  rfl
theorem imgRow_len (L : List ByteArray) (j n : Nat) (hn : L.length = n) (hj : j ≤ n) : (imgRow L j n).length = n := by
  simp [imgRow, strsC]; omega
set_option maxHeartbeats 1000000 in
set_option maxRecDepth 100000 in
theorem image_any (p : Value) (D : Dk) (w : World) (lo hi : Nat) (h : DiskAt w lo hi p D) :
    Calls Try.prog 15 #[p] w fun e w' => ∃ v, e = .returned (.slice (some ⟨v, 0, none⟩) D.s.length D.s.length) ∧ w.heap.size ≤ v ∧ RowAt w' v 9 (strsC (imageZ D)) ∧ Below w.heap.size w w' := by
  obtain ⟨b, g, mb, wb, c, l, P, W, rfl, h⟩ := h
  have c0 := h.c0
  have hmx := h.ok.1.2.1
  have hm1 := h.ok.1.1
  have hbl := h.top.lt
  have hcv : ∀ W', Below w.heap.size w W' → ∀ k, k < D.s.length → (convert 72 9 (.slice (some ⟨g, k * 64, none⟩) 64 64)).run Try.prog W' = .ok (.string (atS D.s k).text) W' := fun W' hW k hk => cv_sector (h.row.of_block (hW.block _ h.row.lt)) h.ok.1 hk 64
  have HCV := hidep hcv
  clear hcv h
  obtain ⟨n, hn⟩ : ∃ n, D.s.length = n := ⟨_, rfl⟩
  rw [hn] at c0 hmx hm1
  have HN := hidep hn
  have hmk := mk_strs n hmx
  clear hn
  go_enter Try.func15, Try.ntmps15
  go_wp2
  have hr0 : RowAt (w.alloc (.cells (madeCells #[.string ByteArray.empty] n) 9)) w.heap.size 9 (imgRow (imageZ D) 0 n) := by
    have := RowAt.new w (madeCells #[.string ByteArray.empty] n) 9
    rw [toList_madeCells_one] at this
    simpa [imgRow, strsC] using this
  have HR0 := hidep hr0
  clear hr0
  go_loopw [4, 16] (fun _ i wr => ∃ j : Nat, j ≤ n ∧ i = .int .i64 j ∧ Hid (RowAt wr w.heap.size 9 (imgRow (imageZ D) j n)) ∧ Hid (Below w.heap.size w wr)) (fun _ i _ => n - (RowKit.intOf i).toNat)
  case atStart => exact ⟨0, Nat.zero_le _, rfl, HR0, hidep ((Below.refl _ _).alloc (Nat.le_refl _) _)⟩
  case round =>
    obtain ⟨j, hj, rfl, HR, HB⟩ := hrel
    have hL : (imageZ D).length = n := by rw [imageZ_len]; exact HN.out
    by_cases hlt : j < n
    · have c0r := (HB.out.cell (p := ⟨b, 0, none⟩) hbl).trans c0
      have hz := HB.out.size
      have hjl : j < D.s.length := by rw [HN.out]; exact hlt
      have hcv := HCV.out wr HB.out j hjl
      have hcell := HR.out.cell (j := j) (List.getElem?_eq_getElem (by rw [imgRow_len _ _ _ hL hj]; exact hlt))
      have hfree := HR.out.free j
      have HS : Hid (RowAt (wr.setCell ⟨w.heap.size, j, none⟩ (.string (atS D.s j).text)) w.heap.size 9 (imgRow (imageZ D) (j + 1) n)) := hidep (by
        have := HR.out.setCell (o := j) (by rw [imgRow_len _ _ _ hL hj]; exact hlt) (.string (atS D.s j).text)
        have e : (atS D.s j).text = (imageZ D)[j]'(by omega) := by simp [imageZ, atS_get hjl]
        rw [e, imgRow_set (by omega) hL] at this
        rw [e]; exact this)
      generalize (imgRow (imageZ D) j n)[j]'_ = old at *
      generalize (atS D.s j).text = x at *
      clear hL hjl
      go_wp2
      go_roundw
      case rel => exact ⟨j + 1, by omega, by go_num, HS, hidep (HB.out.setCell (Nat.le_refl _) _)⟩
      case measure => simp [RowKit.intOf]; omega
    · go_wp2
      go_ret
      have hjn : j = n := by omega
      have hr := HR.out
      have e : imgRow (imageZ D) j n = strsC (imageZ D) := by
        unfold imgRow
        rw [List.take_of_length_le (by omega), hjn, Nat.sub_self]
        simp
      rw [e] at hr
      refine ⟨w.heap.size, ?_, Nat.le_refl _, hr, HB.out⟩
      rw [HN.out]; rfl
theorem image_strs {w : World} {v : Nat} {D : Dk} (h : RowAt w v 9 (strsC (imageZ D))) (hok : D.Ok) : StrsAt w (.slice (some ⟨v, 0, none⟩) D.s.length D.s.length) (imageZ D) := by
  have hm := hok.1.2.1
  have hrd := (h.rd (n := D.s.length) (k := 1) (c := D.s.length) (by rw [strsC_len, imageZ_len]; omega) (Nat.le_refl _) (by unfold maxLen; omega)).mono (T' := fun _ => True) (fun _ _ => trivial)
  unfold StrsAt
  rw [imageZ_len]
  exact hrd
end Go.Proofs.Ytmgogmjkoealoaa
