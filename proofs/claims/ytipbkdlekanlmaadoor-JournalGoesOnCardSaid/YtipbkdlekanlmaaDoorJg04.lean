/- Journal, plain: writing sectors on a disk whose power does not fail, and reading them back. No program in sight. -/
import Derived.Test.YtipbkdlekanlmaaDoorJg03
namespace Go.Jn
open Go Go.Lab Go.Disk Go.Proofs.YtipbkdlekanlmaaDoor
/-- The power is on, and does not fail. -/
def Dk.Fine (D : Dk) : Prop := D.off = false ∧ D.left = -1
def dirt (x : Sec) (s : ByteArray) : Sec := { x with next := s, dirty := true }
/-- What a sector contains behind a write and a flush. -/
def setl (x : Sec) (s : ByteArray) : Sec := ⟨if x.worn = true then x.text else s, ByteArray.empty, false, x.worn⟩
def zipS (f : Sec → ByteArray → Sec) : List Sec → List ByteArray → List Sec
  | x :: M, s :: r => f x s :: zipS f M r
  | _, _ => []
theorem zipS_len (f : Sec → ByteArray → Sec) : ∀ (M : List Sec) (l : List ByteArray), M.length = l.length → (zipS f M l).length = l.length
  | [], [], _ => rfl
  | [], _ :: _, h => by simp at h
  | _ :: _, [], h => by simp at h
  | x :: M, s :: r, h => by rw [zipS, List.length_cons, List.length_cons, zipS_len f M r (by simpa using h)]
theorem step_fine {D : Dk} (h : Dk.Fine D) : stepE D = 0 ∧ stepD D = D := by
  unfold stepE stepD
  rw [h.2]
  exact ⟨by rw [if_neg (by decide)], by rw [if_neg (by decide), if_neg (by decide)]⟩
theorem isIn_app {A M C : List Sec} {x : Sec} {D : Dk} (hs : D.s = A ++ (x :: (M ++ C))) : D.isIn (A.length : Int) = true := isIn_mk (by rw [hs]; simp)
theorem atS_app (A M : List Sec) (x : Sec) : atS (A ++ (x :: M)) A.length = x := by
  unfold atS
  rw [List.getD_eq_getElem?_getD, List.getElem?_append_right (Nat.le_refl _), Nat.sub_self]
  rfl
theorem writes_fine : ∀ (l : List ByteArray) (A M C : List Sec) (D : Dk), Dk.Fine D → D.s = A ++ (M ++ C) → M.length = l.length → (∀ s ∈ l, s.size = 64) →
    writesZ D (A.length : Int) l = (0, { D with s := A ++ (zipS dirt M l ++ C) })
  | [], A, [], C, D, h, hs, _, _ => by
    rw [writesZ]
    have : D = { D with s := A ++ (zipS dirt [] [] ++ C) } := by
      cases D
      simp only [Dk.mk.injEq, and_true]
      exact hs
    exact Prod.ext rfl this
  | [], _, _ :: _, _, _, _, _, h, _ => by simp at h
  | _ :: _, _, [], _, _, _, _, h, _ => by simp at h
  | s :: r, A, x :: M, C, D, h, hs, hl, hz => by
    have hs' : D.s = A ++ (x :: (M ++ C)) := hs
    have hin := isIn_app (M := M) (C := C) hs
    have hsz := hz s (by simp)
    have hE : writeE D (A.length : Int) s = 0 := by
      unfold writeE
      rw [if_neg (by rw [h.1]; decide), if_neg (by rw [hin]; decide), if_neg (by rw [hsz]; decide), (step_fine h).1]
    have hD : writeD D (A.length : Int) s = { D with s := (A ++ [dirt x s]) ++ (M ++ C) } := by
      unfold writeD
      rw [if_neg (by rw [h.1]; decide), if_neg (by rw [hin]; decide), if_neg (by rw [hsz]; decide), if_neg (by rw [(step_fine h).1]; decide), (step_fine h).2, Int.toNat_natCast]
      have e : writeS D.s A.length s = (A ++ [dirt x s]) ++ (M ++ C) := by
        unfold writeS
        rw [hs', atS_app, List.set_append_right _ _ (Nat.le_refl _), Nat.sub_self, List.set_cons_zero, List.append_assoc]
        rfl
      show ({ D with s := writeS D.s A.length s } : Dk) = _
      rw [e]
    rw [writesZ, if_pos hE, hD]
    have ih := writes_fine r (A ++ [dirt x s]) M C { D with s := (A ++ [dirt x s]) ++ (M ++ C) } h rfl (by simpa using hl) (fun y hy => hz y (by simp [hy]))
    rw [List.length_append, List.length_singleton] at ih
    rw [show (A.length : Int) + 1 = ((A.length + 1 : Nat) : Int) from by omega, ih]
    simp [zipS]
theorem mount_dirt : ∀ (M : List Sec) (l : List ByteArray), M.length = l.length → (∀ s ∈ l, s.size = 64) → (∀ x ∈ M, x.text.size = 64) → mountS (zipS dirt M l) [] = zipS setl M l
  | [], [], _, _, _ => rfl
  | [], _ :: _, h, _, _ => by simp at h
  | _ :: _, [], h, _, _ => by simp at h
  | x :: M, s :: r, h, hz, hx => by
    have ih := mount_dirt M r (by simpa using h) (fun y hy => hz y (by simp [hy])) (fun y hy => hx y (by simp [hy]))
    rw [zipS, zipS, mountS, if_pos (show (dirt x s).dirty = true from rfl)]
    show settleS (dirt x s) (clampP 64) :: mountS (zipS dirt M r) [] = _
    rw [ih]
    congr 1
    have hs := hz s (by simp)
    have ht := hx x (by simp)
    have e : (s.extract 0 64 ++ x.text.extract 64 64) = s := by
      apply nums_inj
      rw [nums_append, nums_extract, nums_extract, List.drop_zero, Nat.sub_zero, Nat.sub_self, List.take_zero, List.append_nil, List.take_of_length_le (by rw [nums_len, hs]; exact Nat.le_refl _)]
    show (⟨if x.worn = true then x.text else s.extract 0 64 ++ x.text.extract 64 64, _, _, _⟩ : Sec) = _
    rw [e]
    rfl
theorem checks_fine : ∀ (l : List ByteArray) (A M C : List Sec) (D : Dk) (b : Bool), D.off = false → D.s = A ++ (M ++ C) → M.length = l.length → (∀ x ∈ M, x.dirty = false) →
    checksZ D (A.length : Int) l b = (0, b && decide (M.map (·.text) = l))
  | [], _, [], _, _, b, _, _, _, _ => by simp [checksZ]
  | [], _, _ :: _, _, _, _, _, _, h, _ => by simp at h
  | _ :: _, _, [], _, _, _, _, _, h, _ => by simp at h
  | s :: r, A, x :: M, C, D, b, h, hs, hl, hd => by
    have hs' : D.s = A ++ (x :: (M ++ C)) := hs
    have hin := isIn_app (M := M) (C := C) hs
    have hr : readZ D (A.length : Int) = (x.text, 0) := by
      unfold readZ
      rw [if_neg (by rw [h]; decide), if_neg (by rw [hin]; decide), Int.toNat_natCast, hs', atS_app, if_neg (by rw [hd x (by simp)]; decide)]
    rw [checksZ, hr, if_pos rfl]
    have ih := checks_fine r (A ++ [x]) M C D (b && decide (s = x.text)) h (by rw [hs]; simp) (by simpa using hl) (fun y hy => hd y (by simp [hy]))
    rw [List.length_append, List.length_singleton] at ih
    rw [show (A.length : Int) + 1 = ((A.length + 1 : Nat) : Int) from by omega, ih]
    congr 1
    rw [List.map_cons]
    by_cases h1 : s = x.text
    · by_cases h2 : M.map (·.text) = r
      · simp [h1, h2]
      · simp [h1, h2]
    · have : ¬ x.text = s := fun e => h1 e.symm
      simp [h1, this]
/-- write, on a disk that is clean and whose power does not fail. -/
theorem put_fine (l : List ByteArray) (A M C : List Sec) (D : Dk) (h : Dk.Fine D) (hs : D.s = A ++ (M ++ C)) (hl : M.length = l.length) (hz : ∀ s ∈ l, s.size = 64) (hx : ∀ x ∈ D.s, x.text.size = 64 ∧ x.dirty = false) :
    putZ D (A.length : Int) l = (0, decide ((zipS setl M l).map (·.text) = l), { D with s := A ++ (zipS setl M l ++ C) }) := by
  have hw := writes_fine l A M C D h hs hl hz
  have hf : flushE { D with s := A ++ (zipS dirt M l ++ C) } = 0 := by
    unfold flushE
    rw [if_neg (by show ¬ D.off = true; rw [h.1]; decide)]
    exact (step_fine (D := { D with s := A ++ (zipS dirt M l ++ C) }) h).1
  have hA : ∀ x ∈ A, x.dirty = false := fun x hx' => (hx x (by rw [hs]; simp [hx'])).2
  have hC : ∀ x ∈ C, x.dirty = false := fun x hx' => (hx x (by rw [hs]; simp [hx'])).2
  have hM : ∀ x ∈ M, x.text.size = 64 := fun x hx' => (hx x (by rw [hs]; simp [hx'])).1
  have hfd : flushD { D with s := A ++ (zipS dirt M l ++ C) } = { D with s := A ++ (zipS setl M l ++ C) } := by
    unfold flushD
    rw [if_neg (by show ¬ D.off = true; rw [h.1]; decide)]
    rw [(step_fine (D := { D with s := A ++ (zipS dirt M l ++ C) }) h).1, (step_fine (D := { D with s := A ++ (zipS dirt M l ++ C) }) h).2, if_neg (by decide)]
    show ({ D with s := mountS (A ++ (zipS dirt M l ++ C)) [] } : Dk) = _
    rw [mountS_append, mountS_clean A _ hA, mountS_append, mountS_clean C _ hC, List.drop_nil, mount_dirt M l hl hz hM]
  have hcl : ∀ x ∈ zipS setl M l, x.dirty = false := by
    have key : ∀ (M : List Sec) (l : List ByteArray), ∀ x ∈ zipS setl M l, x.dirty = false := by
      intro M
      induction M with
      | nil => intro l x hx; cases l <;> simp [zipS] at hx
      | cons y M ih =>
        intro l x hx
        cases l with
        | nil => simp [zipS] at hx
        | cons s r =>
          rw [zipS] at hx
          rcases List.mem_cons.1 hx with rfl | hx
          · rfl
          · exact ih r x hx
    exact key M l
  have hc := checks_fine l A (zipS setl M l) C { D with s := A ++ (zipS setl M l ++ C) } true h.1 rfl (zipS_len _ _ _ hl) hcl
  unfold putZ
  rw [hw]
  simp only
  rw [if_neg (by simp), hf, if_neg (by simp), hfd, hc, Bool.true_and]
end Go.Jn
