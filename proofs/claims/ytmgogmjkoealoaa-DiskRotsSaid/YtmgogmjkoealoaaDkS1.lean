/- What was flushed stays: the law on plain data. No program in sight. -/
import Derived.Test.YtmgogmjkoealoaaDkK
namespace Go.Disk
open Go Go.Proofs.Ytmgogmjkoealoaa
/-- what a read of the sector gives -/
def viewT (x : Sec) : ByteArray := if x.dirty = true then x.next else x.text
theorem bytes_all (s : ByteArray) (n : Nat) (h : s.size ≤ n) : s.extract 0 n = s := by
  apply ByteArray.ext
  rw [ByteArray.data_extract]
  apply Array.extract_eq_self_of_le
  exact h
theorem bytes_none (s : ByteArray) (n m : Nat) (h : m ≤ n) : s.extract n m = ByteArray.empty := by
  apply ByteArray.ext
  rw [ByteArray.data_extract]
  have : (s.data.extract n m).size = 0 := by simp; omega
  exact Array.eq_empty_of_size_eq_zero this
theorem bytes_app (s : ByteArray) : s ++ ByteArray.empty = s := by
  apply ByteArray.ext
  rw [ByteArray.data_append]
  simp
theorem settle_all {x : Sec} (h : x.Ok) (hd : x.dirty = true) (hw : x.worn = false) : (settleS x 64).text = x.next := by
  show (if x.worn = true then x.text else x.next.extract 0 64 ++ x.text.extract 64 64) = x.next
  rw [if_neg (by rw [hw]; simp), bytes_all _ _ (by rw [h.2 hd]; exact Nat.le_refl _), bytes_none _ _ _ (Nat.le_refl _), bytes_app]
theorem clamp64 : clampP 64 = 64 := by decide
theorem mount_view : ∀ (S : List Sec), (∀ x ∈ S, x.Ok) → (∀ x ∈ S, x.worn = false) → (mountS S []).map (·.text) = S.map viewT ∧ (mountS S []).map viewT = S.map viewT ∧ ∀ x ∈ mountS S [], x.worn = false
  | [], _, _ => ⟨rfl, rfl, fun x hx => by cases hx⟩
  | x :: r, h, hw => by
    obtain ⟨h1, h2, h3⟩ := mount_view r (fun y hy => h y (by simp [hy])) (fun y hy => hw y (by simp [hy]))
    by_cases hd : x.dirty = true
    · have e : mountS (x :: r) [] = settleS x 64 :: mountS r [] := by
        rw [mountS, if_pos hd]
        rfl
      have hs := settle_all (h x (by simp)) hd (hw x (by simp))
      have hv : viewT x = x.next := if_pos hd
      have hv2 : viewT (settleS x 64) = (settleS x 64).text := rfl
      refine ⟨by rw [e, List.map_cons, List.map_cons, h1, hs, hv], by rw [e, List.map_cons, List.map_cons, h2, hv2, hs, hv], ?_⟩
      rw [e]
      intro y hy
      rcases List.mem_cons.1 hy with rfl | hy
      · exact hw x (by simp)
      · exact h3 y hy
    · have e : mountS (x :: r) [] = x :: mountS r [] := by rw [mountS, if_neg hd]
      have hv : viewT x = x.text := if_neg hd
      refine ⟨by rw [e, List.map_cons, List.map_cons, h1, hv], by rw [e, List.map_cons, List.map_cons, h2], ?_⟩
      rw [e]
      intro y hy
      rcases List.mem_cons.1 hy with rfl | hy
      · exact hw _ (by simp)
      · exact h3 y hy
theorem mount_done : ∀ (S : List Sec) (ps : List Int), ∀ x ∈ mountS S ps, x.dirty = false
  | [], _, x, hx => by cases hx
  | y :: r, ps, x, hx => by
    rw [mountS] at hx
    split at hx
    · rcases List.mem_cons.1 hx with rfl | hx
      · rfl
      · exact mount_done r _ x hx
    · rename_i hd
      rcases List.mem_cons.1 hx with rfl | hx
      · simpa using hd
      · exact mount_done r _ x hx
theorem pend_none : ∀ (S : List Sec) (o : Nat), (∀ x ∈ S, x.dirty = false) → pendZ S o = []
  | [], _, _ => rfl
  | x :: r, o, h => by
    rw [pendZ, if_neg (by rw [h x (by simp)]; simp), pend_none r _ (fun y hy => h y (by simp [hy]))]
/-- The disk holds the texts T, once it is flushed; nothing of it is worn, and it is on. -/
structure Kept (D : Dk) (T : List ByteArray) : Prop where
  off : D.off = false
  left : D.left = -1
  worn : ∀ x ∈ D.s, x.worn = false
  view : T = D.s.map viewT
theorem Kept.len {D : Dk} {T : List ByteArray} (h : Kept D T) : T.length = D.s.length := by rw [h.view]; simp
theorem kept_new (n : Nat) : Kept (newD n) (List.replicate n zeros) :=
  ⟨rfl, rfl, fun x hx => by rw [(List.mem_replicate.1 hx).2]; rfl, by show _ = (List.replicate n secZ).map viewT; rw [List.map_replicate]; rfl⟩
theorem Kept.step {D : Dk} {T : List ByteArray} (h : Kept D T) : stepE D = 0 ∧ stepD D = D := by
  unfold stepE stepD
  rw [if_neg (by rw [h.left]; omega), if_neg (by rw [h.left]; omega), if_neg (by rw [h.left]; omega)]
  exact ⟨rfl, rfl⟩
theorem Kept.flush {D : Dk} {T : List ByteArray} (h : Kept D T) (hok : D.Ok) : flushE D = 0 ∧ Kept (flushD D) T ∧ imageZ (flushD D) = T ∧ ∀ ps, imageZ (mountD (flushD D) ps) = T := by
  have hs := h.step
  obtain ⟨h1, h2, h3⟩ := mount_view D.s hok.1.2.2 h.worn
  have e : flushD D = { D with s := mountS D.s [] } := by
    unfold flushD
    rw [if_neg (by rw [h.off]; simp), if_neg (by rw [hs.1]; decide), hs.2]
  refine ⟨by unfold flushE; rw [if_neg (by rw [h.off]; simp)]; exact hs.1, ?_, ?_, fun ps => ?_⟩
  · rw [e]
    exact ⟨h.off, h.left, h3, by rw [h.view]; exact h2.symm⟩
  · rw [e, h.view]
    exact h1
  · rw [e, h.view]
    show ((mountS (mountS D.s []) ps).map (·.text)) = _
    rw [mountS_clean _ _ (mount_done D.s [])]
    exact h1
theorem set_view {S : List Sec} {k : Nat} (s : ByteArray) : (writeS S k s).map viewT = (S.map viewT).set k s := by
  unfold writeS
  rw [List.map_set]
  rfl
theorem Kept.write {D : Dk} {T : List ByteArray} (h : Kept D T) (i : Int) (s : ByteArray) :
    (writeE D i s = 0 ∧ 0 ≤ i ∧ i.toNat < D.s.length ∧ Kept (writeD D i s) (T.set i.toNat s)) ∨ (writeE D i s ≠ 0 ∧ writeD D i s = D) := by
  have hs := h.step
  have h0 : ¬ D.off = true := by rw [h.off]; simp
  by_cases hin : D.isIn i = false
  · have e1 : writeE D i s = 1 := by unfold writeE; rw [if_neg h0, if_pos hin]
    have e2 : writeD D i s = D := by unfold writeD; rw [if_neg h0, if_pos hin]
    exact .inr ⟨by rw [e1]; decide, e2⟩
  by_cases hz : s.size ≠ 64
  · have e1 : writeE D i s = 1 := by unfold writeE; rw [if_neg h0, if_neg hin, if_pos hz]
    have e2 : writeD D i s = D := by unfold writeD; rw [if_neg h0, if_neg hin, if_pos hz]
    exact .inr ⟨by rw [e1]; decide, e2⟩
  have e1 : writeE D i s = 0 := by unfold writeE; rw [if_neg h0, if_neg hin, if_neg hz]; exact hs.1
  have e2 : writeD D i s = { D with s := writeS D.s i.toNat s } := by unfold writeD; rw [if_neg h0, if_neg hin, if_neg hz, if_neg (by rw [hs.1]; decide), hs.2]
  rw [e1, e2]
  have hl := isIn_lt (by simpa using hin : D.isIn i = true)
  refine .inl ⟨rfl, hl.1, hl.2, h.off, h.left, ?_, by rw [h.view]; exact (set_view s).symm⟩
  intro x hx
  rcases List.mem_or_eq_of_mem_set hx with hx | rfl
  · exact h.worn x hx
  · show (atS D.s i.toNat).worn = false
    rw [atS_get hl.2]
    exact h.worn _ (List.getElem_mem _)
theorem Kept.do {D : Dk} {T : List ByteArray} (h : Kept D T) (hok : D.Ok) {o : Op} (h1 : o.kind ≠ 1) (h4 : o.kind ≠ 4) (h5 : o.kind ≠ 5) (h6 : o.kind ≠ 6) (h7 : o.kind ≠ 7) : Kept (doD D o) T := by
  unfold doD
  rw [if_neg h1]
  by_cases h2 : o.kind = 2
  · rw [if_pos h2]; exact h
  rw [if_neg h2]
  by_cases h3 : o.kind = 3
  · rw [if_pos h3]; exact (h.flush hok).2.1
  rw [if_neg h3, if_neg h4, if_neg h5, if_neg h6, if_neg h7]
  exact h
end Go.Disk
