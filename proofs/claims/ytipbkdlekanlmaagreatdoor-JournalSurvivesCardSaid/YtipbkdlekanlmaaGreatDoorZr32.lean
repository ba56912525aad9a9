/- Journal, plain: what a sector of a record reads as; what a whole record reads as. No program in sight. -/
import Derived.Test.YtipbkdlekanlmaaGreatDoorZr28
namespace Go.Jn
open Go Go.Lab Go.Disk Go.Proofs.YtipbkdlekanlmaaGreatDoor
theorem getN_leN : ∀ (m n : Nat), n < 256 ^ m → getN (leN n m) = (n : Int)
  | 0, n, h => by
    have : n = 0 := by simpa using h
    rw [this]; rfl
  | m + 1, n, h => by
    rw [leN, getN, getN_leN m (n / 256) (by rw [Nat.pow_succ] at h; omega)]
    omega
/-- The parts of a sector's bytes. -/
theorem cut4 {A B C E S : List Int} (hA : A.length = 4) (hB : B.length = 2) (hC : C.length = 2) (hE : E.length = 48) :
    ((A ++ (B ++ (C ++ E))) ++ S).take 56 = A ++ (B ++ (C ++ E)) ∧ ((A ++ (B ++ (C ++ E))) ++ S).drop 56 = S ∧ ((A ++ (B ++ (C ++ E))) ++ S).take 4 = A ∧ (((A ++ (B ++ (C ++ E))) ++ S).drop 4).take 2 = B ∧ (((A ++ (B ++ (C ++ E))) ++ S).drop 6).take 2 = C ∧ ∀ k, (A ++ (B ++ (C ++ E))).drop (8 + k) = E.drop k := by
  have h56 : (A ++ (B ++ (C ++ E))).length = 56 := by simp [hA, hB, hC, hE]
  refine ⟨by rw [List.take_left' h56], by rw [List.drop_left' h56], ?_, ?_, ?_, ?_⟩
  · rw [List.append_assoc, List.take_left' hA]
  · rw [List.append_assoc, List.drop_left' hA, List.append_assoc, List.take_left' hB]
  · rw [show (6 : Nat) = 4 + 2 from rfl, ← List.drop_drop, List.append_assoc, List.drop_left' hA, List.append_assoc, List.drop_left' hB, List.append_assoc, List.take_left' hC]
  · intro k
    rw [show 8 + k = 4 + (2 + (2 + k)) from by omega, ← List.drop_drop, List.drop_left' hA, ← List.drop_drop, List.drop_left' hB, ← List.drop_drop, List.drop_left' hC]
theorem nums_secS (num : Nat) (t : ByteArray) (k : Nat) : nums (secS num t k) = secB num (nums t) k := nums_str' (secB_rng _ _ _ (nums_rng t))
theorem size_secS (num : Nat) (t : ByteArray) (k : Nat) : (secS num t k).size = 64 := by rw [← nums_len, nums_secS, secB_len]
/-- What a sector of a record reads as. -/
theorem unp_sec (num : Nat) (t : ByteArray) (k : Nat) (hn : 1 ≤ num ∧ num ≤ 4096) (ht : t.size ≤ 8000) (hk : 48 * k ≤ t.size) (hk0 : 48 * k = t.size → k = 0) :
    unpZ (secS num t k) = ⟨(num : Int), (k : Int), (t.size : Int) - 48 * (k : Int), t.extract (48 * k) (48 * k + min (t.size - 48 * k) 48), true⟩ := by
  have hrl : ((nums t).drop (48 * k)).length = t.size - 48 * k := by rw [List.length_drop, nums_len]
  obtain ⟨R, hR⟩ : ∃ R, R = (nums t).drop (48 * k) := ⟨_, rfl⟩
  rw [← hR] at hrl
  have hE : (R.take 48 ++ List.replicate (48 - R.length) (0 : Int)).length = 48 := by
    rw [List.length_append, List.length_take, List.length_replicate]
    omega
  obtain ⟨c1, c2, c3, c4, c5, c6⟩ := cut4 (A := leN num 4) (B := leN k 2) (C := leN R.length 2) (E := R.take 48 ++ List.replicate (48 - R.length) 0) (S := (sha56 (headB num k R)).take 8) (leN_len _ _) (leN_len _ _) (leN_len _ _) hE
  have hs : secB num (nums t) k = (leN num 4 ++ (leN k 2 ++ (leN R.length 2 ++ (R.take 48 ++ List.replicate (48 - R.length) 0)))) ++ (sha56 (headB num k R)).take 8 := by
    unfold secB sealB
    rw [← hR]
    rfl
  have e1 : numZ (secB num (nums t) k) = (num : Int) := by unfold numZ; rw [hs, c3, getN_leN 4 num (by omega)]
  have e2 : partNo (secB num (nums t) k) = (k : Int) := by unfold partNo; rw [hs, c4, getN_leN 2 k (by omega)]
  have e3 : leftZ (secB num (nums t) k) = (R.length : Int) := by unfold leftZ; rw [hs, c5, getN_leN 2 R.length (by omega)]
  have e4 : payN (secB num (nums t) k) = min R.length 48 := by unfold payN; rw [e3]; omega
  have hb : ¬ badZ (secB num (nums t) k) := by
    unfold badZ
    rw [e1, e2, e3, e4]
    rintro (h | h | h | h | h | h)
    · rw [hs, c1, c2] at h
      exact h rfl
    · omega
    · omega
    · omega
    · omega
    · rw [hs, c1, c6] at h
      apply h
      by_cases hl : R.length ≤ 48
      · rw [Nat.min_eq_left hl, List.take_of_length_le hl, List.drop_left' rfl]
      · rw [Nat.min_eq_right (by omega), show 48 - R.length = 0 from by omega, List.replicate_zero, List.append_nil, List.drop_of_length_le (by rw [List.length_take]; omega)]
  have hpay : (secS num t k).extract 8 (8 + min R.length 48) = t.extract (48 * k) (48 * k + min (t.size - 48 * k) 48) := by
    apply nums_inj
    rw [nums_extract, nums_extract, nums_secS, hs, Nat.add_sub_cancel_left, Nat.add_sub_cancel_left, ← hR, hrl]
    rw [show (8 : Nat) = 4 + (2 + 2) from rfl, ← List.drop_drop, ← List.drop_drop, List.append_assoc, List.drop_left' (leN_len _ _), List.append_assoc, List.drop_left' (leN_len _ _), List.append_assoc, List.drop_left' (leN_len _ _), List.append_assoc]
    rw [List.take_append_of_le_length (by rw [List.length_take, hrl]; omega), List.take_take]
    congr 1
    omega
  unfold unpZ
  rw [if_neg (by rw [size_secS]; simp), nums_secS, if_neg hb, e1, e2, e3, e4, hpay, hrl]
  congr 1
  omega
theorem unp_zeros : unpZ zeros = part0 := by
  unfold unpZ
  rw [if_neg (by decide), if_pos]
  unfold badZ
  right; left
  decide
theorem sec_ne (num : Nat) (t : ByteArray) (k : Nat) (hn : 1 ≤ num ∧ num ≤ 4096) (ht : t.size ≤ 8000) (hk : 48 * k ≤ t.size) (hk0 : 48 * k = t.size → k = 0) : secS num t k ≠ zeros := by
  intro e
  have h := unp_sec num t k hn ht hk hk0
  rw [e, unp_zeros] at h
  have := congrArg PartZ.ok h
  cases this
/-- The sectors of a record. -/
theorem packL_eq (num : Int) (t : ByteArray) (h1 : 1 ≤ num ∧ num ≤ 4096) (h2 : t.size ≤ 8000) : packL num t = (List.range (cntZ t.size).toNat).map (secS num.toNat t) := by
  have he : packE num t = 0 := by
    unfold packE
    rw [if_neg (by omega), if_neg (by omega)]
  unfold packL
  rw [if_pos he]
  unfold packB
  rw [List.map_map, nums_len]
  rfl
theorem cnt_bounds (t : ByteArray) (h : t.size ≤ 8000) (k : Nat) (hk : k < (cntZ t.size).toNat) : 48 * k ≤ t.size ∧ (48 * k = t.size → k = 0) := by
  unfold cntZ at hk
  rw [if_neg (by omega)] at hk
  omega
theorem cnt_pos (t : ByteArray) (h : t.size ≤ 8000) : 1 ≤ (cntZ t.size).toNat ∧ t.size ≤ 48 * (cntZ t.size).toNat := by
  unfold cntZ
  rw [if_neg (by omega)]
  omega
/-- Part k of a record, as it reads. -/
def partK (num : Nat) (t : ByteArray) (k : Nat) : PartZ := ⟨(num : Int), (k : Int), (t.size : Int) - 48 * (k : Int), t.extract (48 * k) (48 * k + min (t.size - 48 * k) 48), true⟩
theorem recAll_own (num : Nat) (t : ByteArray) : ∀ (m k : Nat), recAll (partK num t 0) k ((List.range' k m).map (partK num t)) = true
  | 0, _ => rfl
  | m + 1, k => by
    rw [List.range'_succ, List.map_cons, recAll, recAll_own num t m (k + 1), Bool.and_true]
    simp [recOk, partK]
theorem pay_own (num : Nat) (t : ByteArray) : ∀ m, payAll ((List.range m).map (partK num t)) = t.extract 0 (min t.size (48 * m))
  | 0 => by
    apply nums_inj
    rw [nums_extract]
    simp [payAll, nums]
  | m + 1 => by
    rw [List.range_succ, List.map_append, List.map_singleton, payAll_snoc, pay_own num t m]
    apply nums_inj
    rw [nums_append, nums_extract, nums_extract]
    show _ ++ nums (t.extract _ _) = _
    rw [nums_extract]
    have hl := nums_len t
    generalize nums t = L at hl ⊢
    rw [← hl]
    simp only [List.drop_zero, Nat.sub_zero, Nat.add_sub_cancel_left]
    by_cases h : L.length ≤ 48 * m
    · rw [Nat.min_eq_left h, Nat.min_eq_left (show L.length - 48 * m ≤ 48 from by omega), show L.length - 48 * m = 0 from by omega, List.take_zero, List.append_nil, Nat.min_eq_left (show L.length ≤ 48 * (m + 1) from by omega)]
    · rw [Nat.min_eq_right (by omega)]
      have e : min L.length (48 * (m + 1)) = 48 * m + min (L.length - 48 * m) 48 := by omega
      rw [e, List.take_add]
/-- A whole record reads as its text. -/
theorem rec_whole (num : Nat) (t : ByteArray) (rest : List PartZ) (ht : t.size ≤ 8000) : recordZ ((List.range (cntZ t.size).toNat).map (partK num t) ++ rest) = (t, cntZ t.size, true) := by
  have hc := cnt_pos t ht
  obtain ⟨n, hn⟩ : ∃ n, n = (cntZ t.size).toNat := ⟨_, rfl⟩
  have hcn : cntZ t.size = (n : Int) := by rw [hn]; have := cntZ_rng t.size; omega
  rw [← hn] at hc ⊢
  have hhd : ((List.range n).map (partK num t) ++ rest).headD part0 = partK num t 0 := by
    obtain ⟨m, rfl⟩ : ∃ m, n = m + 1 := ⟨n - 1, by omega⟩
    rw [List.range_succ_eq_map]
    rfl
  unfold recordZ
  simp only [hhd]
  have hl : (partK num t 0).left = (t.size : Int) := by show (t.size : Int) - 48 * ((0 : Nat) : Int) = _; omega
  rw [hl, hcn, if_neg, Int.toNat_natCast, List.take_left' (by simp), List.range_eq_range', if_pos (recAll_own num t n 0), ← List.range_eq_range', pay_own, Nat.min_eq_left hc.2]
  · congr 1
    apply nums_inj
    rw [nums_extract, List.drop_zero, Nat.sub_zero, List.take_of_length_le (by rw [nums_len]; omega)]
  · rintro (h | h | h)
    · cases h
    · exact h rfl
    · rw [List.length_append, List.length_map, List.length_range] at h
      omega
end Go.Jn
/- Journal, plain: writing sectors on a disk whose power does not fail, and reading them back. No program in sight. -/
namespace Go.Jn
open Go Go.Lab Go.Disk Go.Proofs.YtipbkdlekanlmaaGreatDoor
/-- The power is on, and does not fail. -/
def Dk.Fine (D : Dk) : Prop := D.off = false ∧ D.left = -1
def dirt (x : Sec) (s : ByteArray) : Sec := { x with next := s, dirty := true }
/-- What a sector contains behind a write and a flush. -/
def setl (x : Sec) (s : ByteArray) : Sec := ⟨if x.worn = true then x.text else s, ByteArray.empty, false, x.worn⟩
def zipS (f : Sec → ByteArray → Sec) : List Sec → List ByteArray → List Sec
  | x :: M, s :: r => f x s :: zipS f M r
  | _, _ => []
theorem zipS_len (f : Sec → ByteArray → Sec) : ∀ (M : List Sec) (l : List ByteArray), M.length = l.length → (zipS f M l).length = l.length
  | [], [], _ => rfl
  | [], _ :: _, h => by simp at h
  | _ :: _, [], h => by simp at h
  | x :: M, s :: r, h => by rw [zipS, List.length_cons, List.length_cons, zipS_len f M r (by simpa using h)]
theorem step_fine {D : Dk} (h : Dk.Fine D) : stepE D = 0 ∧ stepD D = D := by
  unfold stepE stepD
  rw [h.2]
  exact ⟨by rw [if_neg (by decide)], by rw [if_neg (by decide), if_neg (by decide)]⟩
theorem isIn_app {A M C : List Sec} {x : Sec} {D : Dk} (hs : D.s = A ++ (x :: (M ++ C))) : D.isIn (A.length : Int) = true := isIn_mk (by rw [hs]; simp)
theorem atS_app (A M : List Sec) (x : Sec) : atS (A ++ (x :: M)) A.length = x := by
  unfold atS
  rw [List.getD_eq_getElem?_getD, List.getElem?_append_right (Nat.le_refl _), Nat.sub_self]
  rfl
theorem writes_fine : ∀ (l : List ByteArray) (A M C : List Sec) (D : Dk), Dk.Fine D → D.s = A ++ (M ++ C) → M.length = l.length → (∀ s ∈ l, s.size = 64) →
    writesZ D (A.length : Int) l = (0, { D with s := A ++ (zipS dirt M l ++ C) })
  | [], A, [], C, D, h, hs, _, _ => by
    rw [writesZ]
    have : D = { D with s := A ++ (zipS dirt [] [] ++ C) } := by
      cases D
      simp only [Dk.mk.injEq, and_true]
      exact hs
    exact Prod.ext rfl this
  | [], _, _ :: _, _, _, _, _, h, _ => by simp at h
  | _ :: _, _, [], _, _, _, _, h, _ => by simp at h
  | s :: r, A, x :: M, C, D, h, hs, hl, hz => by
    have hs' : D.s = A ++ (x :: (M ++ C)) := hs
    have hin := isIn_app (M := M) (C := C) hs
    have hsz := hz s (by simp)
    have hE : writeE D (A.length : Int) s = 0 := by
      unfold writeE
      rw [if_neg (by rw [h.1]; decide), if_neg (by rw [hin]; decide), if_neg (by rw [hsz]; decide), (step_fine h).1]
    have hD : writeD D (A.length : Int) s = { D with s := (A ++ [dirt x s]) ++ (M ++ C) } := by
      unfold writeD
      rw [if_neg (by rw [h.1]; decide), if_neg (by rw [hin]; decide), if_neg (by rw [hsz]; decide), if_neg (by rw [(step_fine h).1]; decide), (step_fine h).2, Int.toNat_natCast]
      have e : writeS D.s A.length s = (A ++ [dirt x s]) ++ (M ++ C) := by
        unfold writeS
        rw [hs', atS_app, List.set_append_right _ _ (Nat.le_refl _), Nat.sub_self, List.set_cons_zero, List.append_assoc]
        rfl
      show ({ D with s := writeS D.s A.length s } : Dk) = _
      rw [e]
    rw [writesZ, if_pos hE, hD]
    have ih := writes_fine r (A ++ [dirt x s]) M C { D with s := (A ++ [dirt x s]) ++ (M ++ C) } h rfl (by simpa using hl) (fun y hy => hz y (by simp [hy]))
    rw [List.length_append, List.length_singleton] at ih
    rw [show (A.length : Int) + 1 = ((A.length + 1 : Nat) : Int) from by omega, ih]
    simp [zipS]
theorem mount_dirt : ∀ (M : List Sec) (l : List ByteArray), M.length = l.length → (∀ s ∈ l, s.size = 64) → (∀ x ∈ M, x.text.size = 64) → mountS (zipS dirt M l) [] = zipS setl M l
  | [], [], _, _, _ => rfl
  | [], _ :: _, h, _, _ => by simp at h
  | _ :: _, [], h, _, _ => by simp at h
  | x :: M, s :: r, h, hz, hx => by
    have ih := mount_dirt M r (by simpa using h) (fun y hy => hz y (by simp [hy])) (fun y hy => hx y (by simp [hy]))
    rw [zipS, zipS, mountS, if_pos (show (dirt x s).dirty = true from rfl)]
    show settleS (dirt x s) (clampP 64) :: mountS (zipS dirt M r) [] = _
    rw [ih]
    congr 1
    have hs := hz s (by simp)
    have ht := hx x (by simp)
    have e : (s.extract 0 64 ++ x.text.extract 64 64) = s := by
      apply nums_inj
      rw [nums_append, nums_extract, nums_extract, List.drop_zero, Nat.sub_zero, Nat.sub_self, List.take_zero, List.append_nil, List.take_of_length_le (by rw [nums_len, hs]; exact Nat.le_refl _)]
    show (⟨if x.worn = true then x.text else s.extract 0 64 ++ x.text.extract 64 64, _, _, _⟩ : Sec) = _
    rw [e]
    rfl
theorem checks_fine : ∀ (l : List ByteArray) (A M C : List Sec) (D : Dk) (b : Bool), D.off = false → D.s = A ++ (M ++ C) → M.length = l.length → (∀ x ∈ M, x.dirty = false) →
    checksZ D (A.length : Int) l b = (0, b && decide (M.map (·.text) = l))
  | [], _, [], _, _, b, _, _, _, _ => by simp [checksZ]
  | [], _, _ :: _, _, _, _, _, _, h, _ => by simp at h
  | _ :: _, _, [], _, _, _, _, _, h, _ => by simp at h
  | s :: r, A, x :: M, C, D, b, h, hs, hl, hd => by
    have hs' : D.s = A ++ (x :: (M ++ C)) := hs
    have hin := isIn_app (M := M) (C := C) hs
    have hr : readZ D (A.length : Int) = (x.text, 0) := by
      unfold readZ
      rw [if_neg (by rw [h]; decide), if_neg (by rw [hin]; decide), Int.toNat_natCast, hs', atS_app, if_neg (by rw [hd x (by simp)]; decide)]
    rw [checksZ, hr, if_pos rfl]
    have ih := checks_fine r (A ++ [x]) M C D (b && decide (s = x.text)) h (by rw [hs]; simp) (by simpa using hl) (fun y hy => hd y (by simp [hy]))
    rw [List.length_append, List.length_singleton] at ih
    rw [show (A.length : Int) + 1 = ((A.length + 1 : Nat) : Int) from by omega, ih]
    congr 1
    rw [List.map_cons]
    by_cases h1 : s = x.text
    · by_cases h2 : M.map (·.text) = r
      · simp [h1, h2]
      · simp [h1, h2]
    · have : ¬ x.text = s := fun e => h1 e.symm
      simp [h1, this]
/-- write, on a disk that is clean and whose power does not fail. -/
theorem put_fine (l : List ByteArray) (A M C : List Sec) (D : Dk) (h : Dk.Fine D) (hs : D.s = A ++ (M ++ C)) (hl : M.length = l.length) (hz : ∀ s ∈ l, s.size = 64) (hx : ∀ x ∈ D.s, x.text.size = 64 ∧ x.dirty = false) :
    putZ D (A.length : Int) l = (0, decide ((zipS setl M l).map (·.text) = l), { D with s := A ++ (zipS setl M l ++ C) }) := by
  have hw := writes_fine l A M C D h hs hl hz
  have hf : flushE { D with s := A ++ (zipS dirt M l ++ C) } = 0 := by
    unfold flushE
    rw [if_neg (by show ¬ D.off = true; rw [h.1]; decide)]
    exact (step_fine (D := { D with s := A ++ (zipS dirt M l ++ C) }) h).1
  have hA : ∀ x ∈ A, x.dirty = false := fun x hx' => (hx x (by rw [hs]; simp [hx'])).2
  have hC : ∀ x ∈ C, x.dirty = false := fun x hx' => (hx x (by rw [hs]; simp [hx'])).2
  have hM : ∀ x ∈ M, x.text.size = 64 := fun x hx' => (hx x (by rw [hs]; simp [hx'])).1
  have hfd : flushD { D with s := A ++ (zipS dirt M l ++ C) } = { D with s := A ++ (zipS setl M l ++ C) } := by
    unfold flushD
    rw [if_neg (by show ¬ D.off = true; rw [h.1]; decide)]
    rw [(step_fine (D := { D with s := A ++ (zipS dirt M l ++ C) }) h).1, (step_fine (D := { D with s := A ++ (zipS dirt M l ++ C) }) h).2, if_neg (by decide)]
    show ({ D with s := mountS (A ++ (zipS dirt M l ++ C)) [] } : Dk) = _
    rw [mountS_append, mountS_clean A _ hA, mountS_append, mountS_clean C _ hC, List.drop_nil, mount_dirt M l hl hz hM]
  have hcl : ∀ x ∈ zipS setl M l, x.dirty = false := by
    have key : ∀ (M : List Sec) (l : List ByteArray), ∀ x ∈ zipS setl M l, x.dirty = false := by
      intro M
      induction M with
      | nil => intro l x hx; cases l <;> simp [zipS] at hx
      | cons y M ih =>
        intro l x hx
        cases l with
        | nil => simp [zipS] at hx
        | cons s r =>
          rw [zipS] at hx
          rcases List.mem_cons.1 hx with rfl | hx
          · rfl
          · exact ih r x hx
    exact key M l
  have hc := checks_fine l A (zipS setl M l) C { D with s := A ++ (zipS setl M l ++ C) } true h.1 rfl (zipS_len _ _ _ hl) hcl
  unfold putZ
  rw [hw]
  simp only
  rw [if_neg (by simp), hf, if_neg (by simp), hfd, hc, Bool.true_and]
end Go.Jn
/- Journal, plain: what is found on a disk whose sectors are records one behind the other, some of them with sectors that are not good. No program in sight. -/
namespace Go.Jn
open Go Go.Lab Go.Disk Go.Proofs.YtipbkdlekanlmaaGreatDoor
/-- The sectors of one record, as they are on the disk. -/
structure Seg where
  num : Nat
  t : ByteArray
  c : List ByteArray
def Seg.n (g : Seg) : Nat := (cntZ g.t.size).toNat
def Seg.full (g : Seg) : List ByteArray := (List.range g.n).map (secS g.num g.t)
structure Seg.Ok (g : Seg) : Prop where
  n1 : 1 ≤ g.num ∧ g.num ≤ 4096
  sz : g.t.size ≤ 8000
  len : g.c.length = g.n
  each : ∀ (k : Nat) (h : k < g.c.length), g.c[k] = secS g.num g.t k ∨ (unpZ g.c[k]).ok = false
def Seg.whole (g : Seg) : Bool := decide (g.c = g.full)
theorem Seg.Ok.sec {g : Seg} (h : g.Ok) (k : Nat) (hk : k < g.n) : unpZ (secS g.num g.t k) = partK g.num g.t k := by
  have hb := cnt_bounds g.t h.sz k hk
  exact unp_sec g.num g.t k h.n1 h.sz hb.1 hb.2
def addSegs : JZ → List Seg → JZ
  | j, [] => j
  | j, g :: r => addSegs (if g.whole = true then foundZ j (g.num : Int) g.t else j) r
/-- The records of l, found from j on, lead to j'. -/
def Ends (j : JZ) (l : List PartZ) (j' : JZ) : Prop := ∀ f, l.length < f → recsZ f j l = j'
theorem ends_nil (j : JZ) : Ends j [] j := by
  intro f hf
  cases f with
  | zero => omega
  | succ f => rfl
theorem ends_skip {j j' : JZ} {p : PartZ} {r : List PartZ} (h : (recordZ (p :: r)).2.2 = false) (hr : Ends j r j') : Ends j (p :: r) j' := by
  intro f hf
  cases f with
  | zero => omega
  | succ f =>
    rw [recsZ, if_neg (by rw [h]; decide)]
    exact hr f (by rw [List.length_cons] at hf; omega)
theorem ends_found {j j' : JZ} {p : PartZ} {r : List PartZ} {t : ByteArray} {n : Int} (h : recordZ (p :: r) = (t, n, true)) (hn : 1 ≤ n) (hr : Ends (foundZ j p.num t) ((p :: r).drop n.toNat) j') : Ends j (p :: r) j' := by
  intro f hf
  cases f with
  | zero => omega
  | succ f =>
    rw [recsZ, h, if_pos rfl]
    exact hr f (by rw [List.length_drop]; rw [List.length_cons] at hf ⊢; omega)
theorem rec_bad (p : PartZ) (r : List PartZ) (h : p.ok = false ∨ p.part ≠ 0) : (recordZ (p :: r)).2.2 = false := by
  have e : recordZ (p :: r) = if p.ok = false ∨ p.part ≠ 0 ∨ ((p :: r).length : Int) < cntZ p.left then (ByteArray.empty, 0, false) else if recAll p 0 ((p :: r).take (cntZ p.left).toNat) = true then (payAll ((p :: r).take (cntZ p.left).toNat), cntZ p.left, true) else (ByteArray.empty, 0, false) := rfl
  rw [e, if_pos (by
    rcases h with h | h
    · exact .inl h
    · exact .inr (.inl h))]
theorem ends_blanks (j : JZ) : ∀ B : List PartZ, (∀ p ∈ B, p.ok = false) → Ends j B j
  | [], _ => ends_nil j
  | p :: r, h => ends_skip (rec_bad p r (.inl (h p (by simp)))) (ends_blanks j r (fun q hq => h q (by simp [hq])))
theorem ends_whole {j j' : JZ} (num : Nat) (t : ByteArray) (rest : List PartZ) (ht : t.size ≤ 8000) (h : Ends (foundZ j (num : Int) t) rest j') : Ends j ((List.range (cntZ t.size).toNat).map (partK num t) ++ rest) j' := by
  have hc := cnt_pos t ht
  have hr := rec_whole num t rest ht
  obtain ⟨n, hn⟩ : ∃ n, n = (cntZ t.size).toNat := ⟨_, rfl⟩
  have hcn : cntZ t.size = (n : Int) := by rw [hn]; have := cntZ_rng t.size; omega
  rw [← hn] at hc hr ⊢
  rw [hcn] at hr
  obtain ⟨m, rfl⟩ : ∃ m, n = m + 1 := ⟨n - 1, by omega⟩
  have hd : ((List.range (m + 1)).map (partK num t) ++ rest).drop (((m + 1 : Nat) : Int)).toNat = rest := by
    rw [Int.toNat_natCast, List.drop_left' (by simp)]
  rw [List.range_succ_eq_map] at hr hd ⊢
  exact ends_found hr (by omega) (show Ends _ (((0 :: List.map Nat.succ (List.range m)).map (partK num t) ++ rest).drop (((m + 1 : Nat) : Int)).toNat) j' from by rw [hd]; exact h)
theorem recAll_mem (f : PartZ) : ∀ (l : List PartZ) (k : Nat), recAll f k l = true → ∀ p ∈ l, p.ok = true
  | [], _, _, p, hp => by cases hp
  | q :: r, k, h, p, hp => by
    rw [recAll, Bool.and_eq_true] at h
    rcases List.mem_cons.1 hp with rfl | hp
    · unfold recOk at h
      simp only [Bool.and_eq_true] at h
      exact h.1.1
    · exact recAll_mem f r (k + 1) h.2 p hp
theorem Seg.Ok.bad {g : Seg} (h : g.Ok) (hw : g.whole = false) : ∃ (k : Nat) (hk : k < g.c.length), (unpZ g.c[k]).ok = false := by
  by_cases hx : ∃ (k : Nat) (hk : k < g.c.length), (unpZ g.c[k]).ok = false
  · exact hx
  · exfalso
    have hf : g.c = g.full := by
      apply List.ext_getElem
      · unfold Seg.full; rw [h.len, List.length_map, List.length_range]
      · intro k h1 h2
        rcases h.each k h1 with h3 | h3
        · rw [h3]; simp [Seg.full]
        · exact absurd ⟨k, h1, h3⟩ hx
    unfold Seg.whole at hw
    rw [decide_eq_true hf] at hw
    cases hw
theorem ends_broken {j j' : JZ} {g : Seg} (h : g.Ok) (hw : g.whole = false) (rest : List PartZ) (hr : Ends j rest j') : ∀ (d i : Nat), i + d = g.c.length → Ends j ((g.c.drop i).map unpZ ++ rest) j'
  | 0, i, hi => by rw [List.drop_of_length_le (by omega)]; exact hr
  | d + 1, i, hi => by
    have hil : i < g.c.length := by omega
    have ih := ends_broken h hw rest hr d (i + 1) (by omega)
    rw [List.drop_eq_getElem_cons hil, List.map_cons, List.cons_append]
    refine ends_skip ?_ ih
    rcases h.each i hil with h1 | h1
    · rw [h1, h.sec i (by rw [← h.len]; exact hil)]
      by_cases hi0 : i = 0
      · subst hi0
        obtain ⟨k, hk, hbad⟩ := h.bad hw
        have e : ∀ (p : PartZ) (r : List PartZ), recordZ (p :: r) = if p.ok = false ∨ p.part ≠ 0 ∨ ((p :: r).length : Int) < cntZ p.left then (ByteArray.empty, 0, false) else if recAll p 0 ((p :: r).take (cntZ p.left).toNat) = true then (payAll ((p :: r).take (cntZ p.left).toNat), cntZ p.left, true) else (ByteArray.empty, 0, false) := fun _ _ => rfl
        rw [e]
        split
        · rfl
        · rw [if_neg]
          intro hA
          have hlf : (partK g.num g.t 0).left = (g.t.size : Int) := by show (g.t.size : Int) - 48 * ((0 : Nat) : Int) = _; omega
          rw [hlf] at hA
          have hmem : unpZ g.c[k] ∈ (partK g.num g.t 0 :: ((g.c.drop (0 + 1)).map unpZ ++ rest)).take (cntZ (g.t.size : Int)).toNat := by
            have e2 : partK g.num g.t 0 :: ((g.c.drop (0 + 1)).map unpZ ++ rest) = g.c.map unpZ ++ rest := by
              rw [← h.sec 0 (by rw [← h.len]; exact hil), ← h1, ← List.cons_append, ← List.map_cons, ← List.drop_eq_getElem_cons hil, List.drop_zero]
            rw [e2, List.take_left' (by rw [List.length_map, h.len]; rfl)]
            exact List.mem_map_of_mem (List.getElem_mem hk)
          have := recAll_mem _ _ _ hA _ hmem
          rw [hbad] at this
          cases this
      · exact rec_bad _ _ (.inr (by show ((i : Nat) : Int) ≠ 0; omega))
    · exact rec_bad _ _ (.inl h1)
theorem Seg.Ok.parts {g : Seg} (h : g.Ok) (hw : g.whole = true) : g.c.map unpZ = (List.range (cntZ g.t.size).toNat).map (partK g.num g.t) := by
  have hc : g.c = g.full := of_decide_eq_true hw
  rw [hc]
  unfold Seg.full
  rw [List.map_map]
  refine List.map_congr_left fun k hk => ?_
  exact h.sec k (List.mem_range.1 hk)
theorem ends_segs : ∀ (segs : List Seg) (j : JZ) (B : List ByteArray), (∀ g ∈ segs, g.Ok) → (∀ s ∈ B, (unpZ s).ok = false) → Ends j ((segs.flatMap (·.c) ++ B).map unpZ) (addSegs j segs)
  | [], j, B, _, hB => by
    rw [List.flatMap_nil, List.nil_append]
    refine ends_blanks j _ (fun p hp => ?_)
    obtain ⟨s, hs, rfl⟩ := List.mem_map.1 hp
    exact hB s hs
  | g :: r, j, B, hg, hB => by
    have h := hg g (by simp)
    rw [List.flatMap_cons, List.append_assoc, List.map_append, addSegs]
    cases hw : g.whole with
    | true =>
      rw [h.parts hw, if_pos rfl]
      exact ends_whole g.num g.t _ h.sz (ends_segs r _ B (fun q hq => hg q (by simp [hq])) hB)
    | false =>
      rw [if_neg (by decide)]
      have := ends_broken h hw _ (ends_segs r j B (fun q hq => hg q (by simp [hq])) hB) g.c.length 0 (by omega)
      rw [List.drop_zero] at this
      exact this
theorem addSegs_nums : ∀ (segs : List Seg) (j : JZ), (segs.map (fun g => (g.num : Int))).Pairwise (· < ·) → (∀ g ∈ segs, ∀ x ∈ j.nums, x < (g.num : Int)) →
    (addSegs j segs).nums = j.nums ++ (segs.filter (·.whole)).map (fun g => (g.num : Int)) ∧ (addSegs j segs).texts = j.texts ++ (segs.filter (·.whole)).map (·.t)
  | [], j, _, _ => by simp [addSegs]
  | g :: r, j, hp, hj => by
    rw [List.map_cons, List.pairwise_cons] at hp
    rw [addSegs, List.filter_cons]
    cases hw : g.whole with
    | true =>
      have hn : (g.num : Int) ∉ j.nums := fun h => by
        have := hj g (by simp) _ h
        omega
      have hf : foundZ j (g.num : Int) g.t = { j with nums := j.nums ++ [(g.num : Int)], texts := j.texts ++ [g.t] } := by unfold foundZ; rw [if_neg hn]
      rw [if_pos rfl, if_pos rfl, hf]
      obtain ⟨h1, h2⟩ := addSegs_nums r { j with nums := j.nums ++ [(g.num : Int)], texts := j.texts ++ [g.t] } hp.2 (fun q hq x hx => by
        rcases List.mem_append.1 hx with hx | hx
        · exact hj q (by simp [hq]) x hx
        · rw [List.mem_singleton.1 hx]
          exact hp.1 _ (List.mem_map_of_mem hq))
      rw [h1, h2]
      simp
    | false =>
      rw [if_neg (by decide), if_neg (by decide)]
      exact addSegs_nums r j hp.2 (fun q hq x hx => hj q (by simp [hq]) x hx)
theorem scan_keeps : ∀ (l : List ByteArray) (j : JZ) (k : Nat), (scanAll j k l).nums = j.nums ∧ (scanAll j k l).texts = j.texts
  | [], _, _ => ⟨rfl, rfl⟩
  | s :: r, j, k => by
    rw [scanAll]
    exact scan_keeps r (scanZ j k s) (k + 1)
/-- The journal of such sectors. -/
theorem journal_segs (segs : List Seg) (B : List ByteArray) (hg : ∀ g ∈ segs, g.Ok) (hB : ∀ s ∈ B, (unpZ s).ok = false) (hp : (segs.map (fun g => (g.num : Int))).Pairwise (· < ·)) :
    (journalZ (segs.flatMap (·.c) ++ B)).nums = (segs.filter (·.whole)).map (fun g => (g.num : Int)) ∧ (journalZ (segs.flatMap (·.c) ++ B)).texts = (segs.filter (·.whole)).map (·.t) := by
  have hs := scan_keeps (segs.flatMap (·.c) ++ B) jz0 0
  have he := ends_segs segs (scanAll jz0 0 (segs.flatMap (·.c) ++ B)) B hg hB ((segs.flatMap (·.c) ++ B).length + 1) (by rw [List.length_map]; omega)
  unfold journalZ
  rw [he]
  have hn : (scanAll jz0 0 (segs.flatMap (·.c) ++ B)).nums = [] := hs.1
  have ht : (scanAll jz0 0 (segs.flatMap (·.c) ++ B)).texts = [] := hs.2
  have h := addSegs_nums segs (scanAll jz0 0 (segs.flatMap (·.c) ++ B)) hp (fun g _ x hx => by rw [hn] at hx; cases hx)
  rw [hn, ht] at h
  exact h
end Go.Jn
/- Journal, plain: what Append does to a disk of records; the law GoesOn on plain data. No program in sight. -/
namespace Go.Jn
open Go Go.Lab Go.Disk Go.Proofs.YtipbkdlekanlmaaGreatDoor
/-- A journal and the records on its disk, in order; no power fails. -/
structure GInv (j : JZ) (D : Dk) (segs : List Seg) : Prop where
  fine : Dk.Fine D
  ok : D.Ok
  clean : ∀ x ∈ D.s, x.dirty = false
  txt : ∃ k, D.s.map (·.text) = segs.flatMap (·.c) ++ List.replicate k zeros
  stop : j.stop = ((segs.flatMap (·.c)).length : Int)
  shut : j.closed = false
  nx : 1 ≤ j.next
  lt : ∀ g ∈ segs, (g.num : Int) < j.next
  inc : (segs.map (fun g => (g.num : Int))).Pairwise (· < ·)
  segOk : ∀ g ∈ segs, g.Ok
  nums : j.nums = (segs.filter (·.whole)).map (fun g => (g.num : Int))
  texts : j.texts = (segs.filter (·.whole)).map (·.t)
theorem writes_ok : ∀ (l : List ByteArray) (D : Dk) (a : Int), D.Ok → (writesZ D a l).2.Ok
  | [], _, _, h => h
  | s :: r, D, a, h => by
    rw [writesZ]
    split
    · exact writes_ok r _ _ (writeD_ok h a s)
    · exact writeD_ok h a s
theorem put_ok (D : Dk) (a : Int) (l : List ByteArray) (h : D.Ok) : (putZ D a l).2.2.Ok := by
  unfold putZ
  split
  · exact writes_ok l D a h
  split
  · exact flushD_ok (writes_ok l D a h)
  · exact flushD_ok (writes_ok l D a h)
theorem reads_clean (D : Dk) (h : D.off = false) (hc : ∀ x ∈ D.s, x.dirty = false) : readsZ D = D.s.map (·.text) := by
  apply List.ext_getElem
  · simp [readsZ]
  · intro k h1 h2
    have hk : k < D.s.length := by simpa using h2
    have hin : D.isIn (k : Int) = true := isIn_mk hk
    simp only [readsZ, List.getElem_map, List.getElem_range]
    unfold readZ
    rw [if_neg (by rw [h]; decide), if_neg (by rw [hin]; decide), Int.toNat_natCast, atS_get hk, if_neg (by rw [hc _ (List.getElem_mem hk)]; decide)]
theorem scan_blanks : ∀ (n : Nat) (j : JZ) (k : Nat), 1 ≤ j.next → scanAll j k (List.replicate n zeros) = j
  | 0, _, _, _ => rfl
  | n + 1, j, k, h => by
    have hs : scanZ j k zeros = j := by
      have hb : blankZ zeros = true := decide_eq_true rfl
      unfold scanZ
      rw [hb, unp_zeros]
      have e : max j.next (part0.num + 1) = j.next := by show max j.next (0 + 1) = j.next; omega
      rw [e]
      cases j
      simp
    rw [List.replicate_succ, scanAll, hs]
    exact scan_blanks n j (k + 1) h
theorem journal_blank (n : Nat) : journalZ (List.replicate n zeros) = jz0 := by
  unfold journalZ
  rw [scan_blanks n jz0 0 (by decide)]
  exact ends_blanks jz0 _ (fun p hp => by
    obtain ⟨s, hs, rfl⟩ := List.mem_map.1 hp
    rw [(List.mem_replicate.1 hs).2, unp_zeros]
    rfl) _ (by simp)
/-- Append on a disk of records. -/
theorem app_inv {j : JZ} {D : Dk} {segs : List Seg} (h : GInv j D segs) (t : ByteArray) :
    (appendZ j D t = (0, 4, j, D) ∨ appendZ j D t = (0, 24, j, D)) ∨ ∃ g : Seg, g.t = t ∧ (g.num : Int) = j.next ∧ GInv (appendZ j D t).2.2.1 (appendZ j D t).2.2.2 (segs ++ [g]) ∧
      ((g.whole = true ∧ (appendZ j D t).1 = j.next ∧ (appendZ j D t).2.1 = 0 ∧ (appendZ j D t).2.2.1.nums = j.nums ++ [j.next] ∧ (appendZ j D t).2.2.1.texts = j.texts ++ [t]) ∨ (g.whole = false ∧ (appendZ j D t).2.1 = 26 ∧ (appendZ j D t).2.2.1.nums = j.nums ∧ (appendZ j D t).2.2.1.texts = j.texts)) ∧ (appendZ j D t).2.2.1.next = j.next + 1 := by
  by_cases h1 : 8000 < t.size ∨ 4096 < j.next
  · left; left
    unfold appendZ
    rw [if_neg (by rw [h.shut]; decide), if_pos h1]
  by_cases h2 : roomZ j D < cntZ t.size
  · left; right
    unfold appendZ
    rw [if_neg (by rw [h.shut]; decide), if_neg h1, if_pos h2]
  right
  have hsz : t.size ≤ 8000 := by omega
  have hnx : 1 ≤ j.next ∧ j.next ≤ 4096 := ⟨h.nx, by omega⟩
  obtain ⟨num, hnum⟩ : ∃ num : Nat, j.next = (num : Int) := ⟨j.next.toNat, by omega⟩
  have hpl := packL_eq j.next t hnx hsz
  rw [hnum, Int.toNat_natCast] at hpl
  obtain ⟨n, hn⟩ : ∃ n, n = (cntZ t.size).toNat := ⟨_, rfl⟩
  have hcn : cntZ t.size = (n : Int) := by rw [hn]; have := cntZ_rng t.size; omega
  rw [← hn] at hpl
  obtain ⟨k, hk⟩ := h.txt
  obtain ⟨F, hF⟩ : ∃ F, F = segs.flatMap (·.c) := ⟨_, rfl⟩
  have hst := h.stop
  rw [← hF] at hk hst
  have hlen : D.s.length = F.length + k := by
    have := congrArg List.length hk
    simpa using this
  have hnk : n ≤ k := by
    unfold roomZ at h2
    rw [hcn, hst] at h2
    omega
  obtain ⟨A, hA⟩ : ∃ A, A = D.s.take F.length := ⟨_, rfl⟩
  obtain ⟨M, hM⟩ : ∃ M, M = (D.s.drop F.length).take n := ⟨_, rfl⟩
  obtain ⟨C, hC⟩ : ∃ C, C = D.s.drop (F.length + n) := ⟨_, rfl⟩
  have hs : D.s = A ++ (M ++ C) := by
    rw [hA, hM, hC, ← List.drop_drop, List.take_append_drop, List.take_append_drop]
  have hAl : A.length = F.length := by rw [hA, List.length_take]; omega
  have hMl : M.length = n := by rw [hM, List.length_take, List.length_drop]; omega
  have hAt : A.map (·.text) = F := by rw [hA, List.map_take, hk, List.take_left' rfl]
  have hMt : ∀ x ∈ M, x.text = zeros := by
    intro x hx
    have : x.text ∈ M.map (·.text) := List.mem_map_of_mem hx
    rw [hM, List.map_take, List.map_drop, hk, List.drop_left' rfl, List.take_replicate] at this
    exact (List.mem_replicate.1 this).2
  have hCt : C.map (·.text) = List.replicate (k - n) zeros := by
    rw [hC, List.map_drop, hk, ← List.drop_drop, List.drop_left' rfl, List.drop_replicate]
  obtain ⟨l, hl⟩ : ∃ l, l = packL j.next t := ⟨_, rfl⟩
  have hll : l.length = n := by rw [hl, hnum, hpl]; simp
  have hlz : ∀ s ∈ l, s.size = 64 := by
    intro s hs'
    rw [hl, hnum, hpl] at hs'
    obtain ⟨i, _, rfl⟩ := List.mem_map.1 hs'
    exact size_secS _ _ _
  have hx : ∀ x ∈ D.s, x.text.size = 64 ∧ x.dirty = false := fun x hx => ⟨(h.ok.1.2.2 x hx).1, h.clean x hx⟩
  have hput := put_fine l A M C D h.fine hs (by rw [hMl, hll]) hlz hx
  rw [hAl] at hput
  have hpok := put_ok D (F.length : Int) l h.ok
  rw [hput] at hpok
  obtain ⟨c, hc⟩ : ∃ c, c = (zipS setl M l).map (·.text) := ⟨_, rfl⟩
  have hcl : c.length = n := by rw [hc, List.length_map, zipS_len _ _ _ (by rw [hMl, hll]), hll]
  have heach : ∀ (i : Nat) (hi : i < c.length) (hi2 : i < l.length), c[i] = l[i] ∨ c[i] = zeros := by
    have key : ∀ (M : List Sec) (l : List ByteArray), (∀ x ∈ M, x.text = zeros) → ∀ (i : Nat) (hi : i < ((zipS setl M l).map (·.text)).length) (hi2 : i < l.length), ((zipS setl M l).map (·.text))[i] = l[i] ∨ ((zipS setl M l).map (·.text))[i] = zeros := by
      intro M
      induction M with
      | nil => intro l _ i hi _; cases l <;> simp [zipS] at hi
      | cons x M ih =>
        intro l hM i hi hi2
        cases l with
        | nil => simp at hi2
        | cons s r =>
          cases i with
          | zero =>
            simp only [zipS, List.map_cons, List.getElem_cons_zero]
            show (if x.worn = true then x.text else s) = s ∨ (if x.worn = true then x.text else s) = zeros
            split
            · exact .inr (hM x (by simp))
            · exact .inl rfl
          | succ i =>
            simp only [zipS, List.map_cons, List.getElem_cons_succ]
            exact ih r (fun y hy => hM y (by simp [hy])) i (by simpa [zipS] using hi) (by simpa using hi2)
    intro i hi hi2
    subst hc
    exact key M l hMt i hi hi2
  have hlg : ∀ (i : Nat) (hi : i < l.length), l[i] = secS num t i := by
    intro i hi
    have e : l = (List.range n).map (secS num t) := by rw [hl, hnum, hpl]
    subst e
    simp
  have hgok : Seg.Ok ⟨num, t, c⟩ := by
    refine ⟨⟨by show 1 ≤ num; omega, by show num ≤ 4096; omega⟩, hsz, by rw [hcl, hn]; rfl, fun i hi => ?_⟩
    have hi2 : i < l.length := by rw [hll, ← hcl]; exact hi
    rcases heach i hi hi2 with h3 | h3
    · exact .inl (h3.trans (hlg i hi2))
    · exact .inr (by rw [h3, unp_zeros]; rfl)
  have hfull : (⟨num, t, c⟩ : Seg).full = l := by
    rw [hl, hnum, hpl, hn]
    rfl
  have hwh : (⟨num, t, c⟩ : Seg).whole = decide (c = l) := by
    unfold Seg.whole
    rw [hfull]
  have hcl2 : ∀ x ∈ zipS setl M l, x.dirty = false := by
    have key : ∀ (M : List Sec) (l : List ByteArray), ∀ x ∈ zipS setl M l, x.dirty = false := by
      intro M
      induction M with
      | nil => intro l x hx; cases l <;> simp [zipS] at hx
      | cons y M ih =>
        intro l x hx
        cases l with
        | nil => simp [zipS] at hx
        | cons s r =>
          rw [zipS] at hx
          rcases List.mem_cons.1 hx with rfl | hx
          · rfl
          · exact ih r x hx
    exact key M l
  have happ : appendZ j D t = if decide (c = l) = false then (0, 26, { j with next := j.next + 1, stop := j.stop + (l.length : Int) }, { D with s := A ++ (zipS setl M l ++ C) }) else (j.next, 0, { j with next := j.next + 1, stop := j.stop + (l.length : Int), nums := j.nums ++ [j.next], texts := j.texts ++ [t] }, { D with s := A ++ (zipS setl M l ++ C) }) := by
    unfold appendZ
    rw [if_neg (by rw [h.shut]; decide), if_neg h1, if_neg h2]
    simp only
    rw [← hl, hst, hput, if_neg (by simp), ← hc]
  have hdirty : ∀ x ∈ A ++ (zipS setl M l ++ C), x.dirty = false := by
    intro x hx'
    rcases List.mem_append.1 hx' with h3 | h3
    · exact h.clean x (by rw [hs]; simp [h3])
    · rcases List.mem_append.1 h3 with h4 | h4
      · exact hcl2 x h4
      · exact h.clean x (by rw [hs]; simp [h4])
  have htxt : (A ++ (zipS setl M l ++ C)).map (·.text) = (segs ++ [(⟨num, t, c⟩ : Seg)]).flatMap (·.c) ++ List.replicate (k - n) zeros := by
    rw [List.map_append, List.map_append, hAt, hCt, ← hc, List.flatMap_append, ← hF]
    simp
  have hstop : j.stop + (l.length : Int) = (((segs ++ [(⟨num, t, c⟩ : Seg)]).flatMap (·.c)).length : Int) := by
    rw [List.flatMap_append, ← hF, hst, hll]
    simp [hcl]
  have hinc : ((segs ++ [(⟨num, t, c⟩ : Seg)]).map (fun g => (g.num : Int))).Pairwise (· < ·) := by
    rw [List.map_append, List.pairwise_append]
    refine ⟨h.inc, by simp, fun a ha b hb => ?_⟩
    obtain ⟨g, hg, rfl⟩ := List.mem_map.1 ha
    have hb2 : b = (num : Int) := by simpa using hb
    rw [hb2, ← hnum]
    exact h.lt g hg
  have hlt : ∀ g ∈ segs ++ [(⟨num, t, c⟩ : Seg)], (g.num : Int) < j.next + 1 := by
    intro g hg
    rcases List.mem_append.1 hg with hg | hg
    · have := h.lt g hg; omega
    · rw [List.mem_singleton.1 hg]
      show (num : Int) < _
      omega
  have hso : ∀ g ∈ segs ++ [(⟨num, t, c⟩ : Seg)], g.Ok := by
    intro g hg
    rcases List.mem_append.1 hg with hg | hg
    · exact h.segOk g hg
    · rw [List.mem_singleton.1 hg]; exact hgok
  refine ⟨⟨num, t, c⟩, rfl, hnum.symm, ?_⟩
  rw [happ]
  cases hcd : decide (c = l) with
  | false =>
    rw [hcd] at hwh
    rw [if_pos rfl]
    have hff : (segs ++ [(⟨num, t, c⟩ : Seg)]).filter (·.whole) = segs.filter (·.whole) := by
      rw [List.filter_append]
      simp [hwh]
    exact ⟨⟨h.fine, hpok, hdirty, ⟨_, htxt⟩, hstop, h.shut, by show 1 ≤ j.next + 1; omega, hlt, hinc, hso, by rw [hff]; exact h.nums, by rw [hff]; exact h.texts⟩, .inr ⟨hwh, rfl, rfl, rfl⟩, rfl⟩
  | true =>
    rw [hcd] at hwh
    rw [if_neg (by decide)]
    have hff : (segs ++ [(⟨num, t, c⟩ : Seg)]).filter (·.whole) = segs.filter (·.whole) ++ [(⟨num, t, c⟩ : Seg)] := by
      rw [List.filter_append]
      simp [hwh]
    refine ⟨⟨h.fine, hpok, hdirty, ⟨_, htxt⟩, hstop, h.shut, by show 1 ≤ j.next + 1; omega, hlt, hinc, hso, ?_, ?_⟩, .inl ⟨hwh, rfl, rfl, rfl, rfl⟩, rfl⟩
    · rw [hff, List.map_append, ← h.nums, hnum]
      rfl
    · rw [hff, List.map_append, ← h.texts]
      rfl
/-- Open of such a disk. -/
theorem open_inv {j : JZ} {D : Dk} {segs : List Seg} (h : GInv j D segs) : (openZ D).nums = j.nums ∧ (openZ D).texts = j.texts := by
  obtain ⟨k, hk⟩ := h.txt
  unfold openZ
  rw [reads_clean D h.fine.1 h.clean, hk, h.nums, h.texts]
  exact journal_segs segs _ h.segOk (fun s hs => by rw [(List.mem_replicate.1 hs).2, unp_zeros]; rfl) h.inc
/-- A disk that was never written. -/
def Fresh (D : Dk) : Prop := Dk.Fine D ∧ D.Ok ∧ ∀ x ∈ D.s, x.dirty = false ∧ x.text = zeros
theorem fresh_new (n : Nat) (h1 : 1 ≤ n) (h2 : n ≤ 4096) : Fresh (newD n) := ⟨⟨rfl, rfl⟩, newD_ok h1 h2, fun x hx => by
  rw [(List.mem_replicate.1 (show x ∈ List.replicate n secZ from hx)).2]
  exact ⟨rfl, rfl⟩⟩
theorem fresh_wear {D : Dk} (h : Fresh D) (i : Int) : Fresh (wearD D i) := by
  refine ⟨?_, wearD_ok h.2.1 i, ?_⟩
  · unfold wearD
    split
    · exact h.1
    · exact h.1
  · unfold wearD
    split
    · rename_i hin
      intro x hx
      have hx : x ∈ wearS D.s i.toNat := hx
      rcases List.mem_or_eq_of_mem_set hx with h1 | rfl
      · exact h.2.2 x h1
      · have hk := (isIn_lt hin).2
        have h3 := h.2.2 _ (List.getElem_mem hk)
        rw [atS_get hk]
        exact ⟨h3.1, h3.2⟩
    · exact h.2.2
theorem fresh_reads {D : Dk} (h : Fresh D) : D.s.map (·.text) = List.replicate D.s.length zeros := by
  apply List.ext_getElem
  · simp
  · intro k h1 h2
    have hk : k < D.s.length := by simpa using h2
    simp only [List.getElem_map, List.getElem_replicate]
    exact (h.2.2 _ (List.getElem_mem hk)).2
theorem fresh_open {D : Dk} (h : Fresh D) : openZ D = jz0 := by
  unfold openZ
  rw [reads_clean D h.1.1 (fun x hx => (h.2.2 x hx).1), fresh_reads h, journal_blank]
theorem fresh_inv {D : Dk} (h : Fresh D) : GInv jz0 D [] :=
  ⟨h.1, h.2.1, fun x hx => (h.2.2 x hx).1, ⟨D.s.length, by rw [fresh_reads h]; rfl⟩, rfl, rfl, by decide, fun g hg => (by cases hg), List.Pairwise.nil, fun g hg => (by cases hg), rfl, rfl⟩
end Go.Jn
