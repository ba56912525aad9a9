/- Contract: a sector of equal bytes (the laws' helper). -/
import Derived.Test.YtmgogmjkoealoaaDkI
namespace Go.Proofs.Ytmgogmjkoealoaa
open Go.RowKit Go.Lab Go.Disk
def fullZ (c : Nat) : ByteArray := ⟨(List.replicate 64 (UInt8.ofNat c)).toArray⟩
def fullRow (c j : Nat) : List Value := List.replicate j (.int .u8 (c : Int)) ++ List.replicate (64 - j) (.int .u8 0)
theorem fullRow_len (c j : Nat) (h : j ≤ 64) : (fullRow c j).length = 64 := by simp [fullRow]; omega
theorem fullRow_set (c j : Nat) (h : j < 64) : (fullRow c j).set j (.int .u8 (c : Int)) = fullRow c (j + 1) := by
  unfold fullRow
  rw [List.set_append_right _ _ (by simp), List.length_replicate, Nat.sub_self]
  have e : 64 - j = (64 - (j + 1)) + 1 := by omega
  rw [e, List.replicate_succ, List.set_cons_zero, List.replicate_succ', List.append_assoc]
  rfl
theorem fullZ_size (c : Nat) : (fullZ c).size = 64 := by
  show (List.toArray _).size = 64
  simp
theorem fullZ_nums (c : Nat) (h : c < 256) : nums (fullZ c) = List.replicate 64 (c : Int) := by
  unfold nums fullZ
  simp only [List.map_replicate]
  congr 1
  simp
  omega
theorem fullRow_in {w : World} {g c : Nat} (hc : c < 256) (h : RowAt w g 5 (fullRow c 64)) : BytesIn w g (nums (fullZ c)) := by
  rw [fullZ_nums c hc]
  refine ⟨h.lt, fun j hj => ?_, fun j _ => h.free j⟩
  have hj2 : j < 64 := by simpa using hj
  refine h.cell ?_
  unfold fullRow
  rw [List.getElem?_append_left (by simpa using hj2), List.getElem?_replicate, if_pos hj2]
  rw [List.getD_eq_getElem?_getD, List.getElem?_replicate, if_pos hj2]
  rfl
set_option maxHeartbeats 1000000 in
set_option maxRecDepth 100000 in
theorem full_any (c : Nat) (w : World) (hc : c < 256) :
    Calls Try.prog 18 #[.int .u8 c] w fun e w' => e = .returned (.string (fullZ c)) ∧ Below w.heap.size w w' := by
  have hmk := mk_bytes
  have hr0 : RowAt (w.alloc (.cells zrow 5)) w.heap.size 5 (fullRow c 0) := by
    have := RowAt.new w zrow 5
    rw [zrow_list] at this
    simpa [fullRow] using this
  have HR0 := hidep hr0
  clear hr0
  go_enter Try.func18, Try.ntmps18
  go_wp2
  go_loopw [4] (fun i wr => ∃ j : Nat, j ≤ 64 ∧ i = .int .i64 j ∧ Hid (RowAt wr w.heap.size 5 (fullRow c j)) ∧ Hid (Below w.heap.size w wr)) (fun i _ => 64 - (RowKit.intOf i).toNat)
  case atStart => exact ⟨0, Nat.zero_le _, rfl, HR0, hidep ((Below.refl _ _).alloc (Nat.le_refl _) _)⟩
  case round =>
    obtain ⟨j, hj, rfl, HR, HB⟩ := hrel
    by_cases hlt : j < 64
    · have hcell := HR.out.cell (j := j) (List.getElem?_eq_getElem (by rw [fullRow_len c j hj]; exact hlt))
      have hfree := HR.out.free j
      have HS : Hid (RowAt (wr.setCell ⟨w.heap.size, j, none⟩ (.int .u8 c)) w.heap.size 5 (fullRow c (j + 1))) := hidep (by
        have := HR.out.setCell (o := j) (by rw [fullRow_len c j hj]; exact hlt) (.int .u8 (c : Int))
        rw [fullRow_set c j hlt] at this
        exact this)
      generalize (fullRow c j)[j]'_ = old at *
      go_wp2
      go_roundw
      case rel => exact ⟨j + 1, by omega, by go_num, HS, hidep (HB.out.setCell (Nat.le_refl _) _)⟩
      case measure => simp [RowKit.intOf]; omega
    · have hj64 : j = 64 := by omega
      subst hj64
      have hcv := run_str_of (fullRow_in hc HR.out) 64 64 (by rw [nums_len, fullZ_size])
      rw [str_nums] at hcv
      go_wp2
      go_ret
      exact ⟨rfl, HB.out⟩
end Go.Proofs.Ytmgogmjkoealoaa
