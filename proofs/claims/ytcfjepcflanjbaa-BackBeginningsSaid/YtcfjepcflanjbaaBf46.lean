/- Plain: the texts that are read from a place; the first ones; a text's cells are good as a whole; the beginning of cells. -/
import Derived.Test.YtcfjepcflanjbaaBf29
import Derived.Test.YtcfjepcflanjbaaBf45
namespace Go.Proofs.Ytcfjepcflanjbaa
open Go.RowKit Go.Lab Go.Shelf
/-- A text is read from a place on. -/
inductive Acc (T : TabZ) (C : List Int) : Nat → PlZ → List Sym → Prop
  | done {k : Nat} {p : PlZ} : k = C.length → p.sw = false → p.need ≠ 2 → Acc T C k p []
  | move {k : Nat} {p : PlZ} {m : MvZ} {t x : List Sym} : k ≤ C.length → m ∈ movesZ T p → begB (C.drop k) m.cells = true → Acc T C (k + m.cells.length) m.dst t → x = pieceZ p.st.lang m.text m.cap ++ t → Acc T C k p x
theorem symCmp_self (x : Sym) : symCmp x x = 0 := by
  rcases symCmp_cases x x with ⟨_, h⟩ | ⟨h, _⟩ | ⟨_, h⟩
  · rcases h with h | h
    · exact absurd h (by omega)
    · exact absurd h.2 (by omega)
  · exact h
  · rcases h with h | h
    · exact absurd h (by omega)
    · exact absurd h.2 (by omega)
theorem textCmp_pre (a b : List Sym) : ∀ p : List Sym, textCmp (p ++ a) (p ++ b) = textCmp a b
  | [] => rfl
  | x :: p => by
    show (if symCmp x x ≠ 0 then symCmp x x else textCmp (p ++ a) (p ++ b)) = _
    rw [symCmp_self, if_neg (fun h => h rfl)]
    exact textCmp_pre a b p
theorem LtT.pre {a b : List Sym} (h : LtT a b) (p : List Sym) : LtT (p ++ a) (p ++ b) := by
  unfold LtT at *
  rw [textCmp_pre]
  exact h
theorem FirstN.acc_step {most : Nat} {P : List Sym → Prop} {L M : List (List Sym)} (h : FirstN most P L) (pre t : List Sym) (hMn : M.Nodup) (hM : M.length = most) (hlt : ∀ y ∈ M, LtT y t) (hP : ∀ y ∈ M, P (pre ++ y)) : (L.length = most ∧ ∀ y ∈ L, LtT y (pre ++ t)) := by
  by_cases hf : ∃ y ∈ M, pre ++ y ∉ L
  · obtain ⟨y, hy, hn⟩ := hf
    rcases h.all _ (hP y hy) with g | ⟨g, f⟩
    · exact absurd g hn
    · exact ⟨g, fun z hz => (f z hz).trans ((hlt y hy).pre pre)⟩
  · have hall : ∀ y ∈ M, pre ++ y ∈ L := fun y hy => Decidable.byContradiction fun hn => hf ⟨y, hy, hn⟩
    have hnd : (M.map (pre ++ ·)).Nodup := by
      clear hP hlt hf hall hM
      induction M with
      | nil => simp
      | cons a l ih =>
        rw [List.nodup_cons] at hMn
        rw [List.map_cons, List.nodup_cons]
        refine ⟨fun hc => ?_, ih hMn.2⟩
        obtain ⟨y, hy, he⟩ := List.mem_map.1 hc
        have := List.append_cancel_left he
        subst this
        exact hMn.1 hy
    have hsub : ∀ x ∈ M.map (pre ++ ·), x ∈ L := fun x hx => by
      obtain ⟨y, hy, rfl⟩ := List.mem_map.1 hx
      exact hall y hy
    have h1 := nodup_sub_len hnd hsub
    rw [List.length_map] at h1
    have h2 := h.len
    have hLl : L.length = most := by omega
    refine ⟨hLl, fun z hz => ?_⟩
    by_cases hzM : z ∈ M.map (pre ++ ·)
    · obtain ⟨y, hy, rfl⟩ := List.mem_map.1 hzM
      exact (hlt y hy).pre pre
    · exfalso
      have hf2 : ∀ x ∈ z :: M.map (pre ++ ·), x ∈ L := fun x hx => by
        rcases List.mem_cons.1 hx with rfl | hx
        · exact hz
        · exact hsub x hx
      have h3 := nodup_sub_len (List.nodup_cons.2 ⟨hzM, hnd⟩) hf2
      rw [List.length_cons, List.length_map] at h3
      omega
theorem rawZ_mem {T : TabZ} {C : List Int} {k : Nat} {p : PlZ} {g : TxG} {x : List Sym} : x ∈ rawZ T C k p g ↔ (k = C.length ∧ p.sw = false ∧ p.need ≠ 2 ∧ x = []) ∨ ∃ m ∈ movesZ T p, begB (C.drop k) m.cells = true ∧ ∃ y ∈ g (k + m.cells.length) m.dst, x = pieceZ p.st.lang m.text m.cap ++ y := by
  unfold rawZ
  rw [List.mem_append, List.mem_flatMap]
  constructor
  · rintro (h | ⟨m, hm, h⟩)
    · left
      unfold raw0 at h
      split at h
      · rename_i hc
        simp only [List.mem_cons, List.not_mem_nil, or_false] at h
        exact ⟨hc.1, hc.2.1, hc.2.2, h⟩
      · cases h
    · right
      unfold rawM at h
      split at h
      · rename_i hb
        obtain ⟨y, hy, rfl⟩ := List.mem_map.1 h
        exact ⟨m, hm, hb, y, hy, rfl⟩
      · cases h
  · rintro (⟨h1, h2, h3, rfl⟩ | ⟨m, hm, hb, y, hy, rfl⟩)
    · left
      unfold raw0
      rw [if_pos ⟨h1, h2, h3⟩]
      simp
    · right
      refine ⟨m, hm, ?_⟩
      unfold rawM
      rw [if_pos hb]
      exact List.mem_map.2 ⟨y, hy, rfl⟩
/-- The first ones of the texts that are read. -/
theorem txtZ_acc {T : TabZ} {C : List Int} {most : Nat} (hv : validE T = 0) : ∀ (d k : Nat) (p : PlZ), C.length - k < d → PlOk p → k ≤ C.length → FirstN most (Acc T C k p) (txtZ T C most k p)
  | 0, _, _, hd, _, _ => by omega
  | d + 1, k, p, hd, hp, hk => by
    have h := txtZ_first (most := most) hv hp hk
    have IH : ∀ m ∈ movesZ T p, begB (C.drop k) m.cells = true → FirstN most (Acc T C (k + m.cells.length) m.dst) (txtZ T C most (k + m.cells.length) m.dst) := fun m hm hb => by
      have hmm := movesZ_mem hv hp hm
      have hbb := begB_at hk hb
      exact txtZ_acc hv d _ _ (by omega) hmm.1 hbb
    refine ⟨h.asc, fun x hx => ?_, h.len, fun x hx => ?_⟩
    · rcases rawZ_mem.1 (h.sub x hx) with ⟨h1, h2, h3, rfl⟩ | ⟨m, hm, hb, y, hy, rfl⟩
      · exact .done h1 h2 h3
      · exact .move hk hm hb ((IH m hm hb).sub y hy) rfl
    · cases hx with
      | done h1 h2 h3 => exact h.all [] (rawZ_mem.2 (.inl ⟨h1, h2, h3, rfl⟩))
      | @move _ _ m t _ _ hm hb ht he =>
        subst he
        have hM := IH m hm hb
        rcases hM.all t ht with g | ⟨g, f⟩
        · exact h.all _ (rawZ_mem.2 (.inr ⟨m, hm, hb, t, g, rfl⟩))
        · exact .inr (h.acc_step _ _ (pair_nodup hM.asc) g f (fun y hy => rawZ_mem.2 (.inr ⟨m, hm, hb, y, hy, rfl⟩)))
theorem txtZ_accZ {T : TabZ} {C : List Int} {most : Nat} (hv : validE T = 0) : FirstN most (Acc T C 0 pl0) (txtZ T C most 0 pl0) := txtZ_acc hv _ 0 pl0 (Nat.lt_succ_self _) pl0_ok (Nat.zero_le _)
/-! ### cells in common -/
theorem comm_of_begB : ∀ {X c : List Int}, begB X c = true → comm X c = c.length
  | [], [], _ => rfl
  | [], _ :: _, h => by simp [begB] at h
  | _ :: _, [], _ => by simp [comm]
  | x :: X, y :: c, h => by
    have h1 : (x :: X).take (y :: c).length = y :: c := of_decide_eq_true h
    simp only [List.length_cons, List.take_succ_cons] at h1
    injection h1 with e1 e2
    have := comm_of_begB (X := X) (c := c) (decide_eq_true e2)
    unfold comm
    rw [if_pos e1, this]
    rfl
theorem comm_take : ∀ (X c : List Int) (j : Nat), comm (X.take j) c = min (comm X c) j
  | [], c, j => by simp [comm]
  | x :: X, c, 0 => by simp [comm]
  | x :: X, [], j + 1 => by simp [comm]
  | x :: X, y :: c, j + 1 => by
    have h := comm_take X c j
    simp only [List.take_succ_cons]
    unfold comm
    split
    · rw [h]; omega
    · omega
theorem begB_take {C c : List Int} {k j : Nat} (h : k + c.length ≤ j) : begB ((C.take j).drop k) c = begB (C.drop k) c := by
  unfold begB
  rw [List.drop_take, List.take_take, Nat.min_eq_left (by omega)]
theorem reach_le {T : TabZ} {C : List Int} {k : Nat} {p : PlZ} (h : Reach T C k p) : k ≤ C.length := by
  cases h with
  | start => exact Nat.zero_le _
  | move h1 h2 h3 h4 => exact begB_at h2 h4
theorem reach_of_take {T : TabZ} {C : List Int} {j k : Nat} {p : PlZ} (hj : j ≤ C.length) (h : Reach T (C.take j) k p) : Reach T C k p ∧ k ≤ j := by
  have hl : (C.take j).length = j := by rw [List.length_take]; omega
  refine ⟨?_, by have := reach_le h; omega⟩
  induction h with
  | start => exact .start
  | @move k p m h1 h2 h3 h4 ih =>
    have := begB_at h2 h4
    exact .move ih (by omega) h3 (by rw [← h4]; exact (begB_take (by omega)).symm)
theorem reach_take {T : TabZ} {C : List Int} {j k : Nat} {p : PlZ} (hj : j ≤ C.length) (h : Reach T C k p) (hk : k ≤ j) : Reach T (C.take j) k p := by
  have hl : (C.take j).length = j := by rw [List.length_take]; omega
  induction h with
  | start => exact .start
  | @move k p m h1 h2 h3 h4 ih => exact .move (ih (by omega)) (by omega) h3 (by rw [begB_take hk]; exact h4)
/-- A way beyond j crosses it. -/
theorem reach_cross {T : TabZ} {C : List Int} {j k : Nat} {p : PlZ} (h : Reach T C k p) (hk : j < k) : ∃ k' p' m, k' ≤ j ∧ Reach T C k' p' ∧ m ∈ movesZ T p' ∧ begB (C.drop k') m.cells = true ∧ j < k' + m.cells.length := by
  induction h with
  | start => omega
  | @move k p m h1 h2 h3 h4 ih =>
    by_cases hkj : j < k
    · exact ih hkj
    · exact ⟨k, p, m, by omega, h1, h3, h4, hk⟩
theorem good_le {T : TabZ} {C : List Int} (hv : validE T = 0) : goodZ T C ≤ C.length := by
  rcases (goodZ_is (C := C) hv).at_ with h | ⟨k, p, m, hk, _, _, h⟩
  · omega
  · have := (comm_le (C.drop k) m.cells).1
    rw [List.length_drop] at this
    omega
theorem good_take {T : TabZ} {C : List Int} {j : Nat} (hv : validE T = 0) (hj : j ≤ C.length) : goodZ T (C.take j) = min (goodZ T C) j := by
  have hl : (C.take j).length = j := by rw [List.length_take]; omega
  have hG := goodZ_is (C := C) hv
  refine (goodZ_is (C := C.take j) hv).one ⟨fun k p m hk hr hm => ?_, ?_⟩
  · obtain ⟨hr2, hkj⟩ := reach_of_take hj hr
    have := hG.ge k p m (by omega) hr2 hm
    rw [List.drop_take, comm_take]
    omega
  · rcases hG.at_ with h | ⟨k, p, m, hk, hr, hm, h⟩
    · left; omega
    · by_cases hkj : k ≤ j
      · right
        refine ⟨k, p, m, by omega, reach_take hj hr hkj, hm, ?_⟩
        rw [List.drop_take, comm_take]
        omega
      · right
        obtain ⟨k', p', m', h1, h2, h3, h4, h5⟩ := reach_cross hr (show j < k by omega)
        refine ⟨k', p', m', by omega, reach_take hj h2 h1, h3, ?_⟩
        rw [List.drop_take, comm_take, comm_of_begB h4]
        omega
theorem acc_reach {T : TabZ} {C : List Int} {k : Nat} {p : PlZ} {t : List Sym} (h : Acc T C k p t) (hr : Reach T C k p) : k = C.length ∨ ∃ k' p' m, k' ≤ C.length ∧ Reach T C k' p' ∧ m ∈ movesZ T p' ∧ begB (C.drop k') m.cells = true ∧ k' + m.cells.length = C.length := by
  induction h with
  | done h1 => exact .inl h1
  | @move k p m t x h1 h2 h3 h4 he ih =>
    rcases ih (.move hr h1 h2 h3) with h | h
    · exact .inr ⟨k, p, m, h1, hr, h2, h3, h⟩
    · exact .inr h
/-- Cells that have a text are good as a whole. -/
theorem good_acc {T : TabZ} {C : List Int} {t : List Sym} (hv : validE T = 0) (h : Acc T C 0 pl0 t) : goodZ T C = C.length := by
  refine Nat.le_antisymm (good_le hv) ?_
  rcases acc_reach h .start with e | ⟨k, p, m, hk, hr, hm, hb, e⟩
  · omega
  · have := (goodZ_is (C := C) hv).ge k p m hk hr hm
    rw [comm_of_begB hb] at this
    omega
end Go.Proofs.Ytcfjepcflanjbaa
