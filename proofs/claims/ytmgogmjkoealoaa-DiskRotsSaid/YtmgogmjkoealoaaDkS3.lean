/- What a mount leaves of each sector: the law on plain data. No program in sight. -/
import Derived.Test.YtmgogmjkoealoaaDkS1
namespace Go.Disk
open Go Go.Proofs.Ytmgogmjkoealoaa
theorem writeD_len (D : Dk) (i : Int) (s : ByteArray) : (writeD D i s).s.length = D.s.length := by
  unfold writeD
  split
  · rfl
  split
  · rfl
  split
  · rfl
  split
  · rw [stepD_s]
  · simp [writeS]
theorem flushD_len (D : Dk) : (flushD D).s.length = D.s.length := by
  unfold flushD
  split
  · rfl
  split
  · rw [stepD_s]
  · exact mountS_len _ _
theorem rotD_len (D : Dk) (i bit : Int) : (rotD D i bit).s.length = D.s.length := by
  unfold rotD
  split
  · simp [rotS]
  · rfl
theorem wearD_len (D : Dk) (i : Int) : (wearD D i).s.length = D.s.length := by
  unfold wearD
  split
  · simp [wearS]
  · rfl
theorem mountD_len (D : Dk) (ps : List Int) : (mountD D ps).s.length = D.s.length := mountS_len _ _
theorem doD_len (D : Dk) (o : Op) : (doD D o).s.length = D.s.length := by
  unfold doD
  split
  · exact writeD_len _ _ _
  split
  · rfl
  split
  · exact flushD_len _
  split
  · rfl
  split
  · exact mountD_len _ _
  split
  · exact rotD_len _ _ _
  split
  · exact wearD_len _ _
  · rfl
theorem cntD_cons (x : Sec) (r : List Sec) (k : Nat) : cntD (x :: r) (k + 1) = (if x.dirty = true then 1 else 0) + cntD r k := by
  unfold cntD
  rw [List.take_succ_cons, List.filter_cons]
  split
  · rw [List.length_cons]; omega
  · omega
theorem mount_get : ∀ (S : List Sec) (ps : List Int) (k : Nat), k < S.length → atS (mountS S ps) k = if (atS S k).dirty = true then settleS (atS S k) (clampP (ps.getD (cntD S k) 64)) else atS S k
  | [], _, _, h => by simp at h
  | x :: r, ps, 0, _ => by
    have e0 : atS (x :: r) 0 = x := rfl
    have e1 : cntD (x :: r) 0 = 0 := rfl
    have e2 : ps.getD 0 64 = ps.headD 64 := by cases ps <;> rfl
    rw [e0, e1, e2, mountS]
    split <;> rfl
  | x :: r, ps, k + 1, h => by
    have e0 : ∀ y (q : List Sec), atS (y :: q) (k + 1) = atS q k := fun _ _ => rfl
    rw [e0, cntD_cons]
    have hk : k < r.length := by simpa using h
    by_cases hd : x.dirty = true
    · have e : mountS (x :: r) ps = settleS x (clampP (ps.headD 64)) :: mountS r ps.tail := by rw [mountS, if_pos hd]
      have e2 : ps.tail.getD (cntD r k) 64 = ps.getD (1 + cntD r k) 64 := by
        cases ps with
        | nil => rfl
        | cons a l => rw [Nat.add_comm]; rfl
      rw [e, e0, mount_get r ps.tail k hk, e2, if_pos hd]
    · have e : mountS (x :: r) ps = x :: mountS r ps := by rw [mountS, if_neg hd]
      rw [e, e0, mount_get r ps k hk, if_neg hd, Nat.zero_add]
theorem image_get {D : Dk} {k : Nat} (h : k < D.s.length) : (imageZ D)[k]? = some (atS D.s k).text := by
  simp [imageZ, atS_get h, h]
theorem mount_clean {D : Dk} {ps : List Int} {k : Nat} (h : k < D.s.length) (hd : (atS D.s k).dirty = false) : (imageZ (mountD D ps))[k]? = some (atS D.s k).text := by
  rw [image_get (by rw [mountD_len]; exact h)]
  show some (atS (mountS D.s ps) k).text = _
  rw [mount_get _ _ _ h, if_neg (by rw [hd]; simp)]
theorem mount_worn {D : Dk} {ps : List Int} {k : Nat} (h : k < D.s.length) (hd : (atS D.s k).dirty = true) (hw : (atS D.s k).worn = true) : (imageZ (mountD D ps))[k]? = some (atS D.s k).text := by
  rw [image_get (by rw [mountD_len]; exact h)]
  show some (atS (mountS D.s ps) k).text = _
  rw [mount_get _ _ _ h, if_pos hd]
  show some (if (atS D.s k).worn = true then (atS D.s k).text else _) = _
  rw [if_pos hw]
theorem mount_torn {D : Dk} {ps : List Int} {k : Nat} (hok : D.Ok) (h : k < D.s.length) (hd : (atS D.s k).dirty = true) (hw : (atS D.s k).worn = false) {m : Nat} (hm : clampP (ps.getD (cntD D.s k) 64) = m) :
    (imageZ (mountD D ps))[k]? = some ((atS D.s k).next.extract 0 m ++ (atS D.s k).text.extract m (atS D.s k).text.size) := by
  rw [image_get (by rw [mountD_len]; exact h)]
  show some (atS (mountS D.s ps) k).text = _
  rw [mount_get _ _ _ h, if_pos hd, hm, (hok.1.at h).1]
  show some (if (atS D.s k).worn = true then (atS D.s k).text else _) = _
  rw [if_neg (by rw [hw]; simp)]
theorem mount_pend (D : Dk) (ps : List Int) : pendZ (mountD D ps).s 0 = [] := pend_none _ _ (mount_done _ _)
end Go.Disk
