/- Journal, plain: a record during which the power fails: torn sectors; what is found afterwards. No program in sight. -/
import Derived.Test.YtipbkdlekanlmaaGreatDoorZr32
import Derived.Test.YtipbkdlekanlmaaGreatDoorZr29
namespace Go.Jn
open Go Go.Lab Go.Disk Go.Proofs.YtipbkdlekanlmaaGreatDoor
/-- The beginning of a sector, the rest never written. -/
def torn (s : ByteArray) (p : Nat) : ByteArray := s.extract 0 p ++ zeros.extract p 64
theorem nums_torn (s : ByteArray) (p : Nat) : nums (torn s p) = (nums s).take p ++ List.replicate (64 - p) 0 := by
  unfold torn
  have hz : nums zeros = List.replicate 64 0 := by decide
  rw [nums_append, nums_extract, nums_extract, List.drop_zero, Nat.sub_zero, hz, List.drop_replicate, List.take_replicate, Nat.min_self]
theorem torn_zero (s : ByteArray) : torn s 0 = zeros := by
  apply nums_inj
  have hz : nums zeros = List.replicate 64 0 := by decide
  rw [nums_torn, hz]
  rfl
theorem torn_all (s : ByteArray) (hs : s.size = 64) : torn s 64 = s := by
  apply nums_inj
  rw [nums_torn, List.take_of_length_le (by rw [nums_len]; omega)]
  simp
theorem torn_take (L : List Int) (p q : Nat) (hL : L.length = 64) (_hp : p ≤ 64) (hq : q ≤ 64) :
    L.take p ++ ((L.take q ++ List.replicate (64 - q) (0 : Int)).drop p).take (64 - p) = L.take (max p q) ++ List.replicate (64 - max p q) 0 := by
  have hl : (L.take q ++ List.replicate (64 - q) (0 : Int)).length = 64 := by
    rw [List.length_append, List.length_take, List.length_replicate, hL]; omega
  have e0 : ((L.take q ++ List.replicate (64 - q) (0 : Int)).drop p).take (64 - p) = (L.take q ++ List.replicate (64 - q) (0 : Int)).drop p := List.take_of_length_le (by rw [List.length_drop, hl]; exact Nat.le_refl _)
  rw [e0]
  rcases Nat.le_total p q with h | h
  · rw [Nat.max_eq_right h]
    have e : L.take p = (L.take q ++ List.replicate (64 - q) (0 : Int)).take p := by
      rw [List.take_append_of_le_length (by rw [List.length_take, hL]; omega), List.take_take, Nat.min_eq_left h]
    rw [e, List.take_append_drop]
  · rw [Nat.max_eq_left h, List.drop_append, List.drop_eq_nil_of_le (by rw [List.length_take]; omega), List.nil_append, List.drop_replicate, List.length_take, hL]
    rw [Nat.min_eq_left (by omega), Nat.sub_sub, Nat.add_comm q, Nat.sub_add_cancel h]
theorem torn_more (s : ByteArray) (p q : Nat) (hs : s.size = 64) (hp : p ≤ 64) (hq : q ≤ 64) : s.extract 0 p ++ (torn s q).extract p 64 = torn s (max p q) := by
  apply nums_inj
  rw [nums_append, nums_extract, nums_extract, List.drop_zero, Nat.sub_zero, nums_torn, nums_torn]
  exact torn_take (nums s) p q (by rw [nums_len, hs]) hp hq
/-- A sector that was blank, and into which s is or was to be written. -/
structure TSec (x : Sec) (s : ByteArray) : Prop where
  worn : x.worn = false
  tx : ∃ p, p ≤ 64 ∧ x.text = torn s p
  nx : x.dirty = true → x.next = s
theorem TSec.settle {x : Sec} {s : ByteArray} (h : TSec x s) (hs : s.size = 64) (hd : x.dirty = true) (p : Nat) (hp : p ≤ 64) : TSec (settleS x p) s := by
  obtain ⟨q, hq, ht⟩ := h.tx
  refine ⟨h.worn, ⟨max p q, by omega, ?_⟩, fun hx => by cases hx⟩
  show (if x.worn = true then x.text else x.next.extract 0 p ++ x.text.extract p 64) = _
  rw [if_neg (by rw [h.worn]; decide), h.nx hd, ht, torn_more s p q hs hp hq]
theorem TSec.write {x : Sec} {s : ByteArray} (h : TSec x s) : TSec (dirt x s) s := ⟨h.worn, h.tx, fun _ => rfl⟩
def TAll : List Sec → List ByteArray → Prop
  | [], [] => True
  | x :: M, s :: r => TSec x s ∧ TAll M r
  | [], _ :: _ => False
  | _ :: _, [] => False
theorem tall_len : ∀ {M : List Sec} {l : List ByteArray}, TAll M l → M.length = l.length
  | [], [], _ => rfl
  | _ :: _, _ :: _, h => by rw [List.length_cons, List.length_cons, tall_len h.2]
  | [], _ :: _, h => h.elim
  | _ :: _, [], h => h.elim
theorem tall_blank : ∀ (M : List Sec) (l : List ByteArray), M.length = l.length → (∀ x ∈ M, x.worn = false ∧ x.text = zeros ∧ x.dirty = false) → TAll M l
  | [], [], _, _ => trivial
  | [], _ :: _, h, _ => by simp at h
  | _ :: _, [], h, _ => by simp at h
  | x :: M, s :: r, h, hx => by
    have h0 := hx x (by simp)
    refine ⟨⟨h0.1, ⟨0, by omega, by rw [torn_zero]; exact h0.2.1⟩, fun hd => by rw [h0.2.2] at hd; cases hd⟩, tall_blank M r (by simpa using h) (fun y hy => hx y (by simp [hy]))⟩
theorem tall_each : ∀ (M : List Sec) (l : List ByteArray), TAll M l → ∀ (i : Nat) (h1 : i < (M.map (·.text)).length) (h2 : i < l.length), ∃ p, p ≤ 64 ∧ (M.map (·.text))[i] = torn l[i] p
  | [], [], _, i, h1, _ => by simp at h1
  | x :: M, s :: r, h, 0, _, _ => h.1.tx
  | x :: M, s :: r, h, i + 1, h1, h2 => tall_each M r h.2 i (by simpa using h1) (by simpa using h2)
  | [], _ :: _, h, _, _, _ => h.elim
  | _ :: _, [], h, _, _, _ => h.elim
theorem tall_mount : ∀ (M : List Sec) (l : List ByteArray) (ps : List Int), TAll M l → (∀ s ∈ l, s.size = 64) → TAll (mountS M ps) l
  | [], [], _, _, _ => trivial
  | x :: M, s :: r, ps, h, hz => by
    rw [mountS]
    split
    · rename_i hd
      exact ⟨h.1.settle (hz s (by simp)) hd _ (clampP_le _), tall_mount M r _ h.2 (fun y hy => hz y (by simp [hy]))⟩
    · exact ⟨h.1, tall_mount M r _ h.2 (fun y hy => hz y (by simp [hy]))⟩
  | [], _ :: _, _, h, _ => h.elim
  | _ :: _, [], _, h, _ => h.elim
theorem mount_mid (A M C : List Sec) (ps : List Int) (hA : ∀ x ∈ A, x.dirty = false) (hC : ∀ x ∈ C, x.dirty = false) : mountS (A ++ (M ++ C)) ps = A ++ (mountS M ps ++ C) := by
  have hf : A.filter (·.dirty) = [] := List.filter_eq_nil_iff.2 (fun x hx => by rw [hA x hx]; decide)
  rw [mountS_append, mountS_clean A _ hA, mountS_append, mountS_clean C _ hC, hf]
  rfl
theorem mount_nodirt : ∀ (S : List Sec) (ps : List Int), ∀ x ∈ mountS S ps, x.dirty = false
  | [], _, x, hx => by cases hx
  | y :: r, ps, x, hx => by
    rw [mountS] at hx
    split at hx
    · rcases List.mem_cons.1 hx with rfl | hx
      · rfl
      · exact mount_nodirt r _ x hx
    · rename_i hd
      rcases List.mem_cons.1 hx with rfl | hx
      · simpa using hd
      · exact mount_nodirt r _ x hx
theorem write_s (D : Dk) (A M C : List Sec) (x : Sec) (s : ByteArray) (hs : D.s = A ++ (x :: (M ++ C))) : (writeD D (A.length : Int) s).s = A ++ (x :: (M ++ C)) ∨ (writeD D (A.length : Int) s).s = A ++ (dirt x s :: (M ++ C)) := by
  unfold writeD
  split
  · exact .inl hs
  split
  · exact .inl hs
  split
  · exact .inl hs
  split
  · rw [stepD_s]; exact .inl hs
  · refine .inr ?_
    show writeS D.s ((A.length : Int)).toNat s = _
    rw [Int.toNat_natCast]
    unfold writeS
    rw [hs, atS_app, List.set_append_right _ _ (Nat.le_refl _), Nat.sub_self, List.set_cons_zero]
    rfl
theorem writes_tall : ∀ (l : List ByteArray) (A M C : List Sec) (D : Dk), D.s = A ++ (M ++ C) → TAll M l → ∃ M', (writesZ D (A.length : Int) l).2.s = A ++ (M' ++ C) ∧ TAll M' l
  | [], A, M, C, D, hs, hT => ⟨M, hs, hT⟩
  | s :: r, A, [], C, D, hs, hT => hT.elim
  | s :: r, A, x :: M, C, D, hs, hT => by
    have hw := write_s D A M C x s hs
    obtain ⟨x', hx', hw'⟩ : ∃ x', TSec x' s ∧ (writeD D (A.length : Int) s).s = A ++ (x' :: (M ++ C)) := by
      rcases hw with hw | hw
      · exact ⟨x, hT.1, hw⟩
      · exact ⟨_, hT.1.write, hw⟩
    rw [writesZ]
    split
    · have ih := writes_tall r (A ++ [x']) M C (writeD D (A.length : Int) s) (by rw [hw']; simp) hT.2
      rw [List.length_append, List.length_singleton] at ih
      rw [show (A.length : Int) + 1 = ((A.length + 1 : Nat) : Int) from by omega]
      obtain ⟨M', h1, h2⟩ := ih
      exact ⟨x' :: M', by rw [h1]; simp, hx', h2⟩
    · exact ⟨x' :: M, hw', hx', hT.2⟩
theorem flush_tall (l : List ByteArray) (A M C : List Sec) (D : Dk) (hs : D.s = A ++ (M ++ C)) (hT : TAll M l) (hz : ∀ s ∈ l, s.size = 64) (hA : ∀ x ∈ A, x.dirty = false) (hC : ∀ x ∈ C, x.dirty = false) : ∃ M', (flushD D).s = A ++ (M' ++ C) ∧ TAll M' l := by
  unfold flushD
  split
  · exact ⟨M, hs, hT⟩
  split
  · exact ⟨M, by rw [stepD_s]; exact hs, hT⟩
  · exact ⟨mountS M [], by
      show mountS D.s [] = _
      rw [hs, mount_mid A M C [] hA hC], tall_mount M l [] hT hz⟩
theorem put_tall (l : List ByteArray) (A M C : List Sec) (D : Dk) (hs : D.s = A ++ (M ++ C)) (hT : TAll M l) (hz : ∀ s ∈ l, s.size = 64) (hA : ∀ x ∈ A, x.dirty = false) (hC : ∀ x ∈ C, x.dirty = false) : ∃ M', (putZ D (A.length : Int) l).2.2.s = A ++ (M' ++ C) ∧ TAll M' l := by
  obtain ⟨M1, h1, hT1⟩ := writes_tall l A M C D hs hT
  unfold putZ
  split
  · exact ⟨M1, h1, hT1⟩
  split
  · exact flush_tall l A M1 C _ h1 hT1 hz hA hC
  · exact flush_tall l A M1 C _ h1 hT1 hz hA hC
/-- write has answered OK, and the same: the sectors are there. -/
theorem put_there (l : List ByteArray) (A M' C : List Sec) (D : Dk) (h0 : (putZ D (A.length : Int) l).1 = 0) (h1 : (putZ D (A.length : Int) l).2.1 = true) (hs : (putZ D (A.length : Int) l).2.2.s = A ++ (M' ++ C)) (hl : M'.length = l.length) :
    M'.map (·.text) = l ∧ ∀ x ∈ M', x.dirty = false := by
  unfold putZ at h0 h1 hs
  obtain ⟨W, hW⟩ : ∃ W, W = writesZ D (A.length : Int) l := ⟨_, rfl⟩
  rw [← hW] at h0 h1 hs
  clear hW
  by_cases hw : W.1 ≠ 0
  · rw [if_pos hw] at h0
    exact absurd h0 hw
  rw [if_neg hw] at h0 h1 hs
  by_cases hf : flushE W.2 ≠ 0
  · rw [if_pos hf] at h0
    exact absurd h0 hf
  rw [if_neg hf] at h0 h1 hs
  have hf0 : flushE W.2 = 0 := by
    by_cases h : flushE W.2 = 0
    · exact h
    · exact absurd h hf
  have hoff : ¬ W.2.off = true := by
    intro h
    unfold flushE at hf0
    rw [if_pos h] at hf0
    cases hf0
  have hst : stepE W.2 = 0 := by
    unfold flushE at hf0
    rw [if_neg hoff] at hf0
    exact hf0
  have hlf : ¬ W.2.left = 0 := by
    intro h
    unfold stepE at hst
    rw [if_pos h] at hst
    cases hst
  have hfd : flushD W.2 = { stepD W.2 with s := mountS W.2.s [] } := by
    unfold flushD
    rw [if_neg hoff, if_neg (by rw [hst]; decide)]
  have hoff2 : (flushD W.2).off = false := by
    rw [hfd]
    show (stepD W.2).off = false
    unfold stepD
    rw [if_neg hlf]
    split
    · simpa using hoff
    · simpa using hoff
  have hnd : ∀ x ∈ (flushD W.2).s, x.dirty = false := by
    rw [hfd]
    exact mount_nodirt W.2.s []
  have hs' : (flushD W.2).s = A ++ (M' ++ C) := hs
  have hM : ∀ x ∈ M', x.dirty = false := fun x hx => hnd x (by rw [hs']; simp [hx])
  have hc := checks_fine l A M' C (flushD W.2) true hoff2 hs' hl hM
  have h2 : (checksZ (flushD W.2) (A.length : Int) l true).2 = true := h1
  rw [hc] at h2
  exact ⟨by simpa using h2, hM⟩
/-- Is a good sector one of the records with these texts, numbered from 1 on? -/
def genZ (ts : List ByteArray) (s : ByteArray) : Bool := !(unpZ s).ok || (decide ((unpZ s).num ≤ (ts.length : Int)) && decide ((packL (unpZ s).num (ts.getD ((unpZ s).num - 1).toNat ByteArray.empty))[(unpZ s).part.toNat]? = some s))
def genAll (ts : List ByteArray) (im : List ByteArray) : Bool := im.all (genZ ts)
theorem unp_good {s : ByteArray} (h : (unpZ s).ok = true) : (unpZ s).num = numZ (nums s) ∧ (unpZ s).part = partNo (nums s) ∧ (unpZ s).left = leftZ (nums s) ∧ 1 ≤ numZ (nums s) := by
  unfold unpZ at h ⊢
  split at h
  · cases h
  split at h
  · cases h
  rename_i h1 h2
  rw [if_neg h1, if_neg h2]
  refine ⟨rfl, rfl, rfl, ?_⟩
  have h3 : ¬ numZ (nums s) = 0 := fun e => h2 (.inr (.inl e))
  have h4 := getN_rng ((nums s).take 4) (fun x hx => nums_rng s x (List.mem_of_mem_take hx))
  have : 0 ≤ numZ (nums s) := h4.1
  omega
theorem sec_form (num i : Nat) (T : List Int) (hn : num < 256) (hi : i < 256) : ∃ R : List Int, secB num T i = (num : Int) :: 0 :: 0 :: 0 :: (i : Int) :: 0 :: R := by
  unfold secB sealB headB
  have e1 : leN num 4 = [(num : Int), 0, 0, 0] := by
    simp only [leN]
    rw [Nat.mod_eq_of_lt hn, Nat.div_eq_of_lt hn]
    rfl
  have e2 : leN i 2 = [(i : Int), 0] := by
    simp only [leN]
    rw [Nat.mod_eq_of_lt hi, Nat.div_eq_of_lt hi]
    rfl
  rw [e1, e2]
  exact ⟨_, rfl⟩
theorem rep_split (m n : Nat) (h : m ≤ n) : List.replicate n (0 : Int) = List.replicate m 0 ++ List.replicate (n - m) 0 := by
  rw [List.replicate_append_replicate, Nat.add_sub_cancel' h]
theorem torn_forms (a b : Int) (R : List Int) (p : Nat) : (∃ Z, (a :: 0 :: 0 :: 0 :: b :: 0 :: R).take p ++ List.replicate (64 - p) 0 = 0 :: 0 :: 0 :: 0 :: Z) ∨ (∃ Z, (a :: 0 :: 0 :: 0 :: b :: 0 :: R).take p ++ List.replicate (64 - p) 0 = a :: 0 :: 0 :: 0 :: 0 :: 0 :: 0 :: 0 :: Z) ∨
    ∃ Z, (a :: 0 :: 0 :: 0 :: b :: 0 :: R).take p ++ List.replicate (64 - p) 0 = a :: 0 :: 0 :: 0 :: b :: 0 :: Z := by
  rcases p with _ | _ | _ | _ | _ | _ | p
  · rw [rep_split 8 _ (by omega)]
    exact .inl ⟨_, rfl⟩
  · rw [rep_split 8 _ (by omega)]
    exact .inr (.inl ⟨_, rfl⟩)
  · rw [rep_split 8 _ (by omega)]
    exact .inr (.inl ⟨_, rfl⟩)
  · rw [rep_split 8 _ (by omega)]
    exact .inr (.inl ⟨_, rfl⟩)
  · rw [rep_split 8 _ (by omega)]
    exact .inr (.inl ⟨_, rfl⟩)
  · rw [rep_split 8 _ (by omega)]
    exact .inr (.inr ⟨_, rfl⟩)
  · exact .inr (.inr ⟨_, rfl⟩)
/-- A torn sector that is good, and one of the records, is whole. -/
theorem torn_gen (num i : Nat) (t : ByteArray) (p : Nat) (ts : List ByteArray) (hn : 1 ≤ num ∧ num < 256) (ht : t.size ≤ 8000) (hi : i < (cntZ t.size).toNat) (hts : ts.getD (num - 1) ByteArray.empty = t)
    (hok : (unpZ (torn (secS num t i) p)).ok = true) (hg : genZ ts (torn (secS num t i) p) = true) : torn (secS num t i) p = secS num t i := by
  obtain ⟨s, hs⟩ : ∃ s, s = torn (secS num t i) p := ⟨_, rfl⟩
  rw [← hs] at hok hg ⊢
  obtain ⟨u1, u2, u3, u4⟩ := unp_good hok
  have hi2 : i < 256 := by have := cntZ_rng (t.size : Int); omega
  obtain ⟨R, hR⟩ := sec_form num i (nums t) hn.2 hi2
  have hns : nums s = ((num : Int) :: 0 :: 0 :: 0 :: (i : Int) :: 0 :: R).take p ++ List.replicate (64 - p) 0 := by
    rw [hs, nums_torn, nums_secS, hR]
  have hform : (∃ Z, nums s = 0 :: 0 :: 0 :: 0 :: Z) ∨ (∃ Z, nums s = (num : Int) :: 0 :: 0 :: 0 :: 0 :: 0 :: 0 :: 0 :: Z) ∨ ∃ Z, nums s = (num : Int) :: 0 :: 0 :: 0 :: (i : Int) :: 0 :: Z := by
    rw [hns]
    exact torn_forms (num : Int) (i : Int) R p
  clear hns
  have hnum : numZ (nums s) = (num : Int) := by
    rcases hform with ⟨Z, hz⟩ | ⟨Z, hz⟩ | ⟨Z, hz⟩
    · rw [hz] at u4
      simp [numZ, getN] at u4
    · rw [hz]
      simp [numZ, getN]
    · rw [hz]
      simp [numZ, getN]
  unfold genZ at hg
  rw [hok, u1, hnum] at hg
  simp only [Bool.not_true, Bool.false_or, Bool.and_eq_true, decide_eq_true_eq] at hg
  have hget := hg.2
  rw [show ((num : Int) - 1).toNat = num - 1 from by omega, hts, packL_eq (num : Int) t (by omega) ht, Int.toNat_natCast] at hget
  rw [List.getElem?_map, Option.map_eq_some_iff] at hget
  obtain ⟨k, hk, hsk⟩ := hget
  obtain ⟨_, hk⟩ := List.getElem?_eq_some_iff.1 hk
  rw [List.getElem_range, u2] at hk
  rcases hform with ⟨Z, hz⟩ | ⟨Z, hz⟩ | ⟨Z, hz⟩
  · rw [hz] at u4
    simp [numZ, getN] at u4
  rotate_left
  · have hpart : partNo (nums s) = (i : Int) := by
      rw [hz]
      simp [partNo, getN]
    rw [hpart, Int.toNat_natCast] at hk
    rw [← hsk, hk]
  · have hpart : partNo (nums s) = 0 ∧ leftZ (nums s) = 0 := by
      rw [hz]
      simp [partNo, leftZ, getN]
    rw [hpart.1] at hk
    have hk0 : k = 0 := by rw [← hk]; rfl
    rw [hk0] at hsk
    have hu := unp_sec num t 0 (by omega) ht (by omega) (fun _ => rfl)
    have hl : (unpZ s).left = (t.size : Int) := by
      rw [← hsk, hu]
      show (t.size : Int) - 48 * ((0 : Nat) : Int) = _
      omega
    rw [u3, hpart.2] at hl
    have hi0 : i = 0 := by
      have h0 : t.size = 0 := by omega
      rw [h0] at hi
      have : (cntZ ((0 : Nat) : Int)).toNat = 1 := by decide
      omega
    rw [hi0]
    exact hsk.symm
end Go.Jn
/- Journal, plain: the law Survives on plain data. No program in sight. -/
namespace Go.Jn
open Go Go.Lab Go.Disk Go.Proofs.YtipbkdlekanlmaaGreatDoor
/-- A journal all of whose records are whole, numbered from 1 on; no sector is worn. -/
structure SInv (j : JZ) (D : Dk) (segs : List Seg) : Prop where
  inv : GInv j D segs
  whole : ∀ g ∈ segs, g.whole = true
  cons : segs.map (·.num) = List.range' 1 segs.length
  next : j.next = (segs.length : Int) + 1
  bad : j.bad = []
  worn : ∀ x ∈ D.s, x.worn = false
theorem slots {j : JZ} {D : Dk} {segs : List Seg} (h : GInv j D segs) (t : ByteArray) (h1 : ¬ (8000 < t.size ∨ 4096 < j.next)) (h2 : ¬ roomZ j D < cntZ t.size) :
    ∃ (A M C : List Sec) (num n k : Nat), j.next = (num : Int) ∧ 1 ≤ num ∧ num ≤ 4096 ∧ n = (cntZ t.size).toNat ∧ packL j.next t = (List.range n).map (secS num t) ∧ D.s = A ++ (M ++ C) ∧ j.stop = (A.length : Int) ∧ M.length = n ∧
      A.map (·.text) = segs.flatMap (·.c) ∧ (∀ x ∈ M, x.text = zeros) ∧ C.map (·.text) = List.replicate k zeros := by
  have hsz : t.size ≤ 8000 := by omega
  have hnx : 1 ≤ j.next ∧ j.next ≤ 4096 := ⟨h.nx, by omega⟩
  obtain ⟨num, hnum⟩ : ∃ num : Nat, j.next = (num : Int) := ⟨j.next.toNat, by omega⟩
  have hpl := packL_eq j.next t hnx hsz
  have hpl2 : packL j.next t = (List.range (cntZ t.size).toNat).map (secS num t) := by rw [hpl, hnum, Int.toNat_natCast]
  obtain ⟨n, hn⟩ : ∃ n, n = (cntZ t.size).toNat := ⟨_, rfl⟩
  have hcn : cntZ t.size = (n : Int) := by rw [hn]; have := cntZ_rng t.size; omega
  rw [← hn] at hpl2
  obtain ⟨k, hk⟩ := h.txt
  obtain ⟨F, hF⟩ : ∃ F, F = segs.flatMap (·.c) := ⟨_, rfl⟩
  have hst := h.stop
  rw [← hF] at hk hst
  have hlen : D.s.length = F.length + k := by
    have := congrArg List.length hk
    simpa using this
  have hnk : n ≤ k := by
    unfold roomZ at h2
    rw [hcn, hst] at h2
    omega
  obtain ⟨A, hA⟩ : ∃ A, A = D.s.take F.length := ⟨_, rfl⟩
  obtain ⟨M, hM⟩ : ∃ M, M = (D.s.drop F.length).take n := ⟨_, rfl⟩
  obtain ⟨C, hC⟩ : ∃ C, C = D.s.drop (F.length + n) := ⟨_, rfl⟩
  have hs : D.s = A ++ (M ++ C) := by
    rw [hA, hM, hC, ← List.drop_drop, List.take_append_drop, List.take_append_drop]
  have hAl : A.length = F.length := by rw [hA, List.length_take]; omega
  have hMl : M.length = n := by rw [hM, List.length_take, List.length_drop]; omega
  have hAt : A.map (·.text) = F := by rw [hA, List.map_take, hk, List.take_left' rfl]
  have hMt : ∀ x ∈ M, x.text = zeros := by
    intro x hx
    have : x.text ∈ M.map (·.text) := List.mem_map_of_mem hx
    rw [hM, List.map_take, List.map_drop, hk, List.drop_left' rfl, List.take_replicate] at this
    exact (List.mem_replicate.1 this).2
  have hCt : C.map (·.text) = List.replicate (k - n) zeros := by
    rw [hC, List.map_drop, hk, ← List.drop_drop, List.drop_left' rfl, List.drop_replicate]
  exact ⟨A, M, C, num, n, k - n, hnum, by omega, by omega, hn, hpl2, hs, by rw [hst, hAl], hMl, by rw [hAt, hF], hMt, hCt⟩
theorem zip_setl : ∀ (M : List Sec) (l : List ByteArray), M.length = l.length → (∀ x ∈ M, x.worn = false) → (zipS setl M l).map (·.text) = l
  | [], [], _, _ => rfl
  | [], _ :: _, h, _ => by simp at h
  | _ :: _, [], h, _ => by simp at h
  | x :: M, s :: r, h, hx => by
    rw [zipS, List.map_cons, zip_setl M r (by simpa using h) (fun y hy => hx y (by simp [hy]))]
    show (if x.worn = true then x.text else s) :: r = _
    rw [if_neg (by rw [hx x (by simp)]; decide)]
/-! ### no sector gets worn -/
def NoWorn (D : Dk) : Prop := ∀ x ∈ D.s, x.worn = false
theorem write_worn {D : Dk} (h : NoWorn D) (i : Int) (s : ByteArray) : NoWorn (writeD D i s) := by
  unfold writeD
  split
  · exact h
  split
  · exact h
  rename_i hin
  split
  · exact h
  split
  · intro x hx
    rw [stepD_s] at hx
    exact h x hx
  · intro x hx
    have hx : x ∈ writeS D.s i.toNat s := hx
    have hk := (isIn_lt (by simpa using hin)).2
    rcases List.mem_or_eq_of_mem_set hx with h1 | rfl
    · exact h x h1
    · show (atS D.s i.toNat).worn = false
      rw [atS_get hk]
      exact h _ (List.getElem_mem hk)
theorem writes_worn : ∀ (l : List ByteArray) (D : Dk) (a : Int), NoWorn D → NoWorn (writesZ D a l).2
  | [], _, _, h => h
  | s :: r, D, a, h => by
    rw [writesZ]
    split
    · exact writes_worn r _ _ (write_worn h a s)
    · exact write_worn h a s
theorem mount_worn : ∀ (S : List Sec) (ps : List Int), (∀ x ∈ S, x.worn = false) → ∀ x ∈ mountS S ps, x.worn = false
  | [], _, _, x, hx => by cases hx
  | y :: r, ps, h, x, hx => by
    rw [mountS] at hx
    split at hx
    · rcases List.mem_cons.1 hx with rfl | hx
      · exact h y (by simp)
      · exact mount_worn r _ (fun z hz => h z (by simp [hz])) x hx
    · rcases List.mem_cons.1 hx with rfl | hx
      · exact h x (by simp)
      · exact mount_worn r _ (fun z hz => h z (by simp [hz])) x hx
theorem flush_worn {D : Dk} (h : NoWorn D) : NoWorn (flushD D) := by
  unfold flushD
  split
  · exact h
  split
  · intro x hx
    rw [stepD_s] at hx
    exact h x hx
  · exact mount_worn D.s [] h
theorem put_worn {D : Dk} (h : NoWorn D) (a : Int) (l : List ByteArray) : NoWorn (putZ D a l).2.2 := by
  unfold putZ
  split
  · exact writes_worn l D a h
  split
  · exact flush_worn (writes_worn l D a h)
  · exact flush_worn (writes_worn l D a h)
theorem app_form (j : JZ) (D : Dk) (t : ByteArray) (hc : j.closed = false) (h1 : ¬ (8000 < t.size ∨ 4096 < j.next)) (h2 : ¬ roomZ j D < cntZ t.size) :
    (appendZ j D t).2.2.2 = (putZ D j.stop (packL j.next t)).2.2 ∧ ((appendZ j D t).2.1 = 0 → (putZ D j.stop (packL j.next t)).1 = 0 ∧ (putZ D j.stop (packL j.next t)).2.1 = true) ∧
      ((putZ D j.stop (packL j.next t)).1 = 0 → (putZ D j.stop (packL j.next t)).2.1 = true → (appendZ j D t).2.1 = 0) := by
  have e : appendZ j D t = if (putZ D j.stop (packL j.next t)).1 ≠ 0 then (0, (putZ D j.stop (packL j.next t)).1, { j with next := j.next + 1, stop := j.stop + ((packL j.next t).length : Int), closed := true }, (putZ D j.stop (packL j.next t)).2.2)
      else if (putZ D j.stop (packL j.next t)).2.1 = false then (0, 26, { j with next := j.next + 1, stop := j.stop + ((packL j.next t).length : Int) }, (putZ D j.stop (packL j.next t)).2.2)
      else (j.next, 0, { j with next := j.next + 1, stop := j.stop + ((packL j.next t).length : Int), nums := j.nums ++ [j.next], texts := j.texts ++ [t] }, (putZ D j.stop (packL j.next t)).2.2) := by
    unfold appendZ
    rw [if_neg (by rw [hc]; decide), if_neg h1, if_neg h2]
  rw [e]
  by_cases h3 : (putZ D j.stop (packL j.next t)).1 ≠ 0
  · rw [if_pos h3]
    exact ⟨rfl, fun h => absurd h h3, fun h => absurd h h3⟩
  rw [if_neg h3]
  have h30 : (putZ D j.stop (packL j.next t)).1 = 0 := by
    by_cases h : (putZ D j.stop (packL j.next t)).1 = 0
    · exact h
    · exact absurd h h3
  by_cases h4 : (putZ D j.stop (packL j.next t)).2.1 = false
  · rw [if_pos h4]
    exact ⟨rfl, fun h => (by cases h), fun _ h => (by rw [h4] at h; cases h)⟩
  · rw [if_neg h4]
    exact ⟨rfl, fun _ => ⟨h30, by simpa using h4⟩, fun _ _ => rfl⟩
theorem app_bad (j : JZ) (D : Dk) (t : ByteArray) : (appendZ j D t).2.2.1.bad = j.bad := by
  unfold appendZ
  split
  · rfl
  split
  · rfl
  split
  · rfl
  simp only
  split
  · rfl
  split
  · rfl
  · rfl
/-- Append on a disk without worn sectors whose power does not fail. -/
theorem app_sinv {j : JZ} {D : Dk} {segs : List Seg} (h : SInv j D segs) (t : ByteArray) :
    ((appendZ j D t).2.1 ≠ 0 ∧ (appendZ j D t).2.2.1 = j ∧ (appendZ j D t).2.2.2 = D) ∨ ((appendZ j D t).2.1 = 0 ∧ (∃ g, SInv (appendZ j D t).2.2.1 (appendZ j D t).2.2.2 (segs ++ [g])) ∧ (appendZ j D t).2.2.1.texts = j.texts ++ [t]) := by
  by_cases h1 : 8000 < t.size ∨ 4096 < j.next
  · left
    have e : appendZ j D t = (0, 4, j, D) := by
      unfold appendZ
      rw [if_neg (by rw [h.inv.shut]; decide), if_pos h1]
    rw [e]
    exact ⟨(show (4 : Int) ≠ 0 by decide), rfl, rfl⟩
  by_cases h2 : roomZ j D < cntZ t.size
  · left
    have e : appendZ j D t = (0, 24, j, D) := by
      unfold appendZ
      rw [if_neg (by rw [h.inv.shut]; decide), if_neg h1, if_pos h2]
    rw [e]
    exact ⟨(show (24 : Int) ≠ 0 by decide), rfl, rfl⟩
  rcases app_inv h.inv t with (e | e) | ⟨g, hgt, hgn, hgi, hcase, hnx⟩
  · left
    rw [e]
    exact ⟨(show (4 : Int) ≠ 0 by decide), rfl, rfl⟩
  · left
    rw [e]
    exact ⟨(show (24 : Int) ≠ 0 by decide), rfl, rfl⟩
  right
  have hform := app_form j D t h.inv.shut h1 h2
  obtain ⟨A, M, C, num, n, k, hnum, hn1, hn2, hn, hpl, hs, hst, hMl, hAt, hMt, hCt⟩ := slots h.inv t h1 h2
  have hlz : ∀ s ∈ packL j.next t, s.size = 64 := by
    intro s hs'
    rw [hpl] at hs'
    obtain ⟨i, _, rfl⟩ := List.mem_map.1 hs'
    exact size_secS _ _ _
  have hll : M.length = (packL j.next t).length := by rw [hpl, hMl]; simp
  have hput := put_fine (packL j.next t) A M C D h.inv.fine hs hll hlz (fun x hx => ⟨(h.inv.ok.1.2.2 x hx).1, h.inv.clean x hx⟩)
  rw [← hst, zip_setl M _ hll (fun x hx => h.worn x (by rw [hs]; simp [hx])), decide_eq_true rfl] at hput
  have h0 : (appendZ j D t).2.1 = 0 := hform.2.2 (by rw [hput]) (by rw [hput])
  rcases hcase with ⟨hw, _, _, _, htx⟩ | ⟨_, h26, _⟩
  · refine ⟨h0, ⟨g, hgi, ?_, ?_, ?_, ?_, ?_⟩, htx⟩
    · intro q hq
      rcases List.mem_append.1 hq with hq | hq
      · exact h.whole q hq
      · rw [List.mem_singleton.1 hq]; exact hw
    · rw [List.map_append, h.cons, List.length_append, List.length_singleton, List.range'_1_concat]
      congr 1
      have := h.next
      show [g.num] = [1 + segs.length]
      rw [show g.num = 1 + segs.length from by omega]
    · rw [hnx, h.next, List.length_append, List.length_singleton]
      omega
    · rw [app_bad]; exact h.bad
    · have := put_worn (D := D) h.worn j.stop (packL j.next t)
      rw [hform.1]
      exact this
  · rw [h0] at h26
    cases h26
/-! ### a disk of whole records, opened -/
theorem scan_app : ∀ (a b : List ByteArray) (j : JZ) (k : Nat), scanAll j k (a ++ b) = scanAll (scanAll j k a) (k + a.length) b
  | [], b, j, k => by simp [scanAll]
  | s :: a, b, j, k => by
    rw [List.cons_append, scanAll, scanAll, scan_app a b, List.length_cons, show k + 1 + a.length = k + (a.length + 1) from by omega]
theorem scan_good : ∀ (l : List ByteArray) (j : JZ) (k : Nat) (N : Int), (∀ s ∈ l, (unpZ s).ok = true ∧ s ≠ zeros ∧ (unpZ s).num = N) → l ≠ [] → j.next ≤ N + 1 → scanAll j k l = { j with stop := (k : Int) + (l.length : Int), next := N + 1 }
  | [], _, _, _, _, h, _ => absurd rfl h
  | s :: r, j, k, N, hl, _, hj => by
    obtain ⟨h1, h2, h3⟩ := hl s (by simp)
    have hb : blankZ s = false := decide_eq_false h2
    have hs : scanZ j k s = { j with stop := (k : Int) + 1, next := N + 1 } := by
      unfold scanZ
      rw [hb, h1, h3, show max j.next (N + 1) = N + 1 from by omega]
      simp
    rw [scanAll, hs]
    by_cases hr : r = []
    · subst hr
      rfl
    · rw [scan_good r _ (k + 1) N (fun y hy => hl y (by simp [hy])) hr (Int.le_refl _), List.length_cons]
      rw [show ((k + 1 : Nat) : Int) + (r.length : Int) = (k : Int) + ((r.length + 1 : Nat) : Int) from by omega]
theorem seg_good {g : Seg} (h : g.Ok) (hw : g.whole = true) : (∀ s ∈ g.c, (unpZ s).ok = true ∧ s ≠ zeros ∧ (unpZ s).num = (g.num : Int)) ∧ g.c ≠ [] := by
  have hc : g.c = g.full := of_decide_eq_true hw
  refine ⟨fun s hs => ?_, fun e => ?_⟩
  · rw [hc] at hs
    unfold Seg.full at hs
    obtain ⟨k, hk, rfl⟩ := List.mem_map.1 hs
    have hk := List.mem_range.1 hk
    have hb := cnt_bounds g.t h.sz k hk
    rw [h.sec k hk]
    exact ⟨rfl, sec_ne g.num g.t k h.n1 h.sz hb.1 hb.2, rfl⟩
  · have := h.len
    rw [e] at this
    have hp := cnt_pos g.t h.sz
    unfold Seg.n at this
    rw [List.length_nil] at this
    omega
theorem scan_segs : ∀ (segs : List Seg) (j : JZ) (m k : Nat), (∀ g ∈ segs, g.Ok ∧ g.whole = true) → segs.map (·.num) = List.range' (m + 1) segs.length → j.next = (m : Int) + 1 → j.stop = (k : Int) →
    scanAll j k (segs.flatMap (·.c)) = { j with stop := (k : Int) + ((segs.flatMap (·.c)).length : Int), next := (m : Int) + 1 + (segs.length : Int) }
  | [], j, m, k, _, _, hn, hs => by
    rw [List.flatMap_nil, scanAll]
    have e1 : (k : Int) + (([] : List ByteArray).length : Int) = j.stop := by rw [hs]; simp
    have e2 : (m : Int) + 1 + (([] : List Seg).length : Int) = j.next := by rw [hn]; simp
    rw [e1, e2]
  | g :: r, j, m, k, hg, hm, hn, hs => by
    obtain ⟨h1, h2⟩ := hg g (by simp)
    rw [List.map_cons, List.length_cons, List.range'_succ] at hm
    injection hm with hm1 hm2
    have hgood := seg_good h1 h2
    rw [List.flatMap_cons, scan_app, scan_good g.c j k (g.num : Int) hgood.1 hgood.2 (by rw [hn, hm1]; omega)]
    rw [show (k : Int) + (g.c.length : Int) = ((k + g.c.length : Nat) : Int) from by omega]
    rw [scan_segs r _ (m + 1) (k + g.c.length) (fun q hq => hg q (by simp [hq])) hm2 (by show (g.num : Int) + 1 = _; rw [hm1]) rfl]
    rw [List.length_append, List.length_cons]
    rw [show ((k + g.c.length : Nat) : Int) + ((r.flatMap (·.c)).length : Int) = (k : Int) + ((g.c.length + (r.flatMap (·.c)).length : Nat) : Int) from by omega]
    rw [show ((m + 1 : Nat) : Int) + 1 + (r.length : Int) = (m : Int) + 1 + ((r.length + 1 : Nat) : Int) from by omega]
theorem add_keeps : ∀ (segs : List Seg) (j : JZ), (addSegs j segs).bad = j.bad ∧ (addSegs j segs).next = j.next ∧ (addSegs j segs).stop = j.stop ∧ (addSegs j segs).closed = j.closed
  | [], _ => ⟨rfl, rfl, rfl, rfl⟩
  | g :: r, j => by
    rw [addSegs]
    have ih := add_keeps r (if g.whole = true then foundZ j (g.num : Int) g.t else j)
    have e : (if g.whole = true then foundZ j (g.num : Int) g.t else j).bad = j.bad ∧ (if g.whole = true then foundZ j (g.num : Int) g.t else j).next = j.next ∧ (if g.whole = true then foundZ j (g.num : Int) g.t else j).stop = j.stop ∧ (if g.whole = true then foundZ j (g.num : Int) g.t else j).closed = j.closed := by
      split
      · unfold foundZ
        split
        · exact ⟨rfl, rfl, rfl, rfl⟩
        · exact ⟨rfl, rfl, rfl, rfl⟩
      · exact ⟨rfl, rfl, rfl, rfl⟩
    exact ⟨ih.1.trans e.1, ih.2.1.trans e.2.1, ih.2.2.1.trans e.2.2.1, ih.2.2.2.trans e.2.2.2⟩
theorem jz_ext {a b : JZ} (h1 : a.nums = b.nums) (h2 : a.texts = b.texts) (h3 : a.bad = b.bad) (h4 : a.next = b.next) (h5 : a.stop = b.stop) (h6 : a.closed = b.closed) : a = b := by
  cases a
  cases b
  simp only at h1 h2 h3 h4 h5 h6
  subst h1 h2 h3 h4 h5 h6
  rfl
/-- Open of a disk of whole records gives the journal that wrote it. -/
theorem open_sinv {j : JZ} {D : Dk} {segs : List Seg} (h : SInv j D segs) : openZ D = j := by
  have ho := open_inv h.inv
  obtain ⟨k, hk⟩ := h.inv.txt
  have he : openZ D = addSegs (scanAll jz0 0 (segs.flatMap (·.c) ++ List.replicate k zeros)) segs := by
    unfold openZ
    rw [reads_clean D h.inv.fine.1 h.inv.clean, hk]
    unfold journalZ
    exact ends_segs segs _ _ h.inv.segOk (fun s hs => by rw [(List.mem_replicate.1 hs).2, unp_zeros]; rfl) _ (by rw [List.length_map]; omega)
  have hsc : scanAll jz0 0 (segs.flatMap (·.c) ++ List.replicate k zeros) = { jz0 with stop := ((0 : Nat) : Int) + ((segs.flatMap (·.c)).length : Int), next := ((0 : Nat) : Int) + 1 + (segs.length : Int) } := by
    rw [scan_app, scan_segs segs jz0 0 0 (fun g hg => ⟨h.inv.segOk g hg, h.whole g hg⟩) h.cons rfl rfl]
    rw [scan_blanks]
    show 1 ≤ ((0 : Nat) : Int) + 1 + (segs.length : Int)
    omega
  have hk2 := add_keeps segs (scanAll jz0 0 (segs.flatMap (·.c) ++ List.replicate k zeros))
  rw [← he, hsc] at hk2
  refine jz_ext ho.1 ho.2 ?_ ?_ ?_ ?_
  · rw [hk2.1, h.bad]; rfl
  · rw [hk2.2.1, h.next]
    show ((0 : Nat) : Int) + 1 + (segs.length : Int) = _
    omega
  · rw [hk2.2.2.1, h.inv.stop]
    show ((0 : Nat) : Int) + ((segs.flatMap (·.c)).length : Int) = _
    omega
  · rw [hk2.2.2.2, h.inv.shut]; rfl
theorem sinv_texts {j : JZ} {D : Dk} {segs : List Seg} (h : SInv j D segs) : j.texts = segs.map (·.t) ∧ segs.filter (·.whole) = segs ∧ j.nums = (List.range' 1 segs.length).map (fun k : Nat => (k : Int)) := by
  have hf : segs.filter (·.whole) = segs := List.filter_eq_self.2 (fun g hg => h.whole g hg)
  refine ⟨by rw [h.inv.texts, hf], hf, ?_⟩
  rw [h.inv.nums, hf, ← h.cons, List.map_map]
  rfl
theorem sinv_damaged {j : JZ} {D : Dk} {segs : List Seg} (h : SInv j D segs) : damagedZ j = [] := by
  unfold damagedZ
  rw [(sinv_texts h).2.2, h.next]
  rw [List.filter_eq_nil_iff]
  intro x hx
  obtain ⟨k, hk, rfl⟩ := List.mem_map.1 hx
  have hk := List.mem_range.1 hk
  simp only [Bool.and_eq_true, decide_eq_true_eq, not_and, Classical.not_not]
  intro h1
  refine List.mem_map.2 ⟨k, ?_, rfl⟩
  rw [List.mem_range'_1]
  omega
theorem sinv_new (n : Nat) (h1 : 1 ≤ n) (h2 : n ≤ 4096) : SInv jz0 (newD n) [] :=
  ⟨fresh_inv (fresh_new n h1 h2), fun g hg => (by cases hg), rfl, rfl, rfl, fun x hx => by
    rw [(List.mem_replicate.1 (show x ∈ List.replicate n secZ from hx)).2]
    rfl⟩
theorem mount_trip {j : JZ} {D : Dk} {segs : List Seg} (h : SInv j D segs) (n : Int) (ps : List Int) : mountD (tripD D n) ps = D := by
  have h1 := h.inv.fine
  have h2 := mountS_clean D.s ps h.inv.clean
  unfold mountD
  show (⟨mountS D.s ps, false, -1⟩ : Dk) = D
  rw [h2]
  cases D
  simp only [Dk.Fine] at h1
  rw [Dk.mk.injEq]
  exact ⟨rfl, h1.1.symm, h1.2.symm⟩
/-- The law Survives. -/
theorem survive {j : JZ} {D : Dk} {segs : List Seg} (h : SInv j D segs) (hlen : segs.length ≤ 200) (t : ByteArray) (n : Int) (ps : List Int) (hg : genAll (j.texts ++ [t]) (imageZ (mountD (appendZ j (tripD D n) t).2.2.2 ps)) = true) :
    (openZ (mountD (appendZ j (tripD D n) t).2.2.2 ps)).texts = j.texts ++ [t] ∨ ((appendZ j (tripD D n) t).2.1 ≠ 0 ∧ (openZ (mountD (appendZ j (tripD D n) t).2.2.2 ps)).texts = j.texts) := by
  by_cases h1 : 8000 < t.size ∨ 4096 < j.next
  · right
    have e : appendZ j (tripD D n) t = (0, 4, j, tripD D n) := by
      unfold appendZ
      rw [if_neg (by rw [h.inv.shut]; decide), if_pos h1]
    rw [e]
    exact ⟨(show (4 : Int) ≠ 0 by decide), by rw [mount_trip h, open_sinv h]⟩
  by_cases h2 : roomZ j (tripD D n) < cntZ t.size
  · right
    have e : appendZ j (tripD D n) t = (0, 24, j, tripD D n) := by
      unfold appendZ
      rw [if_neg (by rw [h.inv.shut]; decide), if_neg h1, if_pos h2]
    rw [e]
    exact ⟨(show (24 : Int) ≠ 0 by decide), by rw [mount_trip h, open_sinv h]⟩
  have hform := app_form j (tripD D n) t h.inv.shut h1 h2
  obtain ⟨A, M, C, num, m, k, hnum, hn1, hn2, hm, hpl, hs, hst, hMl, hAt, hMt, hCt⟩ := slots h.inv t h1 h2
  have hlz : ∀ s ∈ packL j.next t, s.size = 64 := by
    intro s hs'
    rw [hpl] at hs'
    obtain ⟨i, _, rfl⟩ := List.mem_map.1 hs'
    exact size_secS _ _ _
  have hll : M.length = (packL j.next t).length := by rw [hpl, hMl]; simp
  have hcl : ∀ x ∈ D.s, x.dirty = false := h.inv.clean
  have hAc : ∀ x ∈ A, x.dirty = false := fun x hx => hcl x (by rw [hs]; simp [hx])
  have hCc : ∀ x ∈ C, x.dirty = false := fun x hx => hcl x (by rw [hs]; simp [hx])
  have hT := tall_blank M (packL j.next t) hll (fun x hx => ⟨h.worn x (by rw [hs]; simp [hx]), hMt x hx, hcl x (by rw [hs]; simp [hx])⟩)
  have hs2 : (tripD D n).s = A ++ (M ++ C) := hs
  obtain ⟨M', hM', hT'⟩ := put_tall (packL j.next t) A M C (tripD D n) hs2 hT hlz hAc hCc
  have hthere := put_there (packL j.next t) A M' C (tripD D n)
  rw [← hst] at hM' hthere
  have hT2 := tall_mount M' (packL j.next t) ps hT' hlz
  obtain ⟨c, hc⟩ : ∃ c, c = (mountS M' ps).map (·.text) := ⟨_, rfl⟩
  obtain ⟨E, hE⟩ : ∃ E, E = mountD (appendZ j (tripD D n) t).2.2.2 ps := ⟨_, rfl⟩
  have hEs : E.s = A ++ (mountS M' ps ++ C) := by
    rw [hE, hform.1]
    show mountS (putZ (tripD D n) j.stop (packL j.next t)).2.2.s ps = _
    rw [hM', mount_mid A M' C ps hAc hCc]
  have hEt : E.s.map (·.text) = (segs ++ [(⟨num, t, c⟩ : Seg)]).flatMap (·.c) ++ List.replicate k zeros := by
    rw [hEs, List.map_append, List.map_append, hAt, ← hc, hCt, List.flatMap_append]
    simp
  have hEr : readsZ E = E.s.map (·.text) := reads_clean E (by rw [hE]; rfl) (by
    rw [hE]
    exact mount_nodirt _ ps)
  have hcl2 : c.length = m := by
    rw [hc, List.length_map, tall_len hT2, hpl]
    simp
  have htlen : j.texts.length = num - 1 := by
    rw [(sinv_texts h).1, List.length_map]
    have := h.next
    omega
  have hts : (j.texts ++ [t]).getD (num - 1) ByteArray.empty = t := by
    rw [List.getD_eq_getElem?_getD, List.getElem?_append_right (by omega), htlen, Nat.sub_self]
    rfl
  have hnum2 : num < 256 := by have := h.next; omega
  rw [← hE] at hg ⊢
  have hgok : Seg.Ok ⟨num, t, c⟩ := by
    refine ⟨⟨hn1, hn2⟩, by show t.size ≤ 8000; omega, by show c.length = _; rw [hcl2, hm]; rfl, fun i hi => ?_⟩
    have hi1 : i < c.length := hi
    have hi2 : i < (packL j.next t).length := by rw [hpl]; simpa [hcl2] using hi1
    have hcs : ∀ (i : Nat) (h1 : i < c.length) (h2 : i < (packL j.next t).length), ∃ p, p ≤ 64 ∧ c[i] = torn (packL j.next t)[i] p := by
      subst hc
      exact tall_each (mountS M' ps) (packL j.next t) hT2
    obtain ⟨p, hp, hcp⟩ := hcs i hi1 hi2
    have hli : (packL j.next t)[i] = secS num t i := by
      have e : (packL j.next t)[i]? = some (secS num t i) := by
        rw [hpl, List.getElem?_map, List.getElem?_range (by rw [← hcl2]; exact hi1)]
        rfl
      rw [List.getElem?_eq_getElem hi2] at e
      exact Option.some.inj e
    rw [hli] at hcp
    show c[i] = secS num t i ∨ (unpZ c[i]).ok = false
    cases hok : (unpZ c[i]).ok with
    | false => exact .inr rfl
    | true =>
      left
      have hmem : c[i] ∈ imageZ E := by
        show c[i] ∈ E.s.map (·.text)
        rw [hEt, List.flatMap_append]
        simp only [List.flatMap_cons, List.flatMap_nil, List.append_nil, List.mem_append]
        exact .inl (.inr (List.getElem_mem hi1))
      have hgi := List.all_eq_true.1 hg _ hmem
      rw [hcp] at hok hgi ⊢
      exact torn_gen num i t p _ ⟨hn1, hnum2⟩ (by omega) (by rw [← hm, ← hcl2]; exact hi1) hts hok hgi
  have hinc : ((segs ++ [(⟨num, t, c⟩ : Seg)]).map (fun g => (g.num : Int))).Pairwise (· < ·) := by
    rw [List.map_append, List.pairwise_append]
    refine ⟨h.inv.inc, by simp, fun a ha b hb => ?_⟩
    obtain ⟨g, hg, rfl⟩ := List.mem_map.1 ha
    have hb2 : b = (num : Int) := by simpa using hb
    rw [hb2, ← hnum]
    exact h.inv.lt g hg
  have hj := journal_segs (segs ++ [(⟨num, t, c⟩ : Seg)]) (List.replicate k zeros) (fun g hg => by
    rcases List.mem_append.1 hg with hg | hg
    · exact h.inv.segOk g hg
    · rw [List.mem_singleton.1 hg]; exact hgok) (fun s hs => by rw [(List.mem_replicate.1 hs).2, unp_zeros]; rfl) hinc
  have hop : (openZ E).texts = ((segs ++ [(⟨num, t, c⟩ : Seg)]).filter (·.whole)).map (·.t) := by
    unfold openZ
    rw [hEr, hEt]
    exact hj.2
  rw [List.filter_append, (sinv_texts h).2.1, List.map_append, ← (sinv_texts h).1] at hop
  cases hw : (⟨num, t, c⟩ : Seg).whole with
  | true =>
    left
    rw [hop]
    simp [hw]
  | false =>
    right
    refine ⟨fun h0 => ?_, by rw [hop]; simp [hw]⟩
    obtain ⟨p0, p1⟩ := hform.2.1 h0
    obtain ⟨q1, q2⟩ := hthere p0 p1 hM' (tall_len hT')
    have hc2 : c = packL j.next t := by rw [hc, mountS_clean M' ps q2, q1]
    have hfull : (⟨num, t, c⟩ : Seg).full = packL j.next t := by
      rw [hpl, hm]
      rfl
    unfold Seg.whole at hw
    rw [hfull] at hw
    rw [decide_eq_true hc2] at hw
    cases hw
end Go.Jn
/- Journal: genuine. -/
namespace Go.Proofs.YtipbkdlekanlmaaGreatDoor
open Go.RowKit Go.Lab Go.Disk Go.Jn
attribute [local go_sem] Oper.semAt_some
set_option maxRecDepth 100000
theorem range_map57 (f : Nat → Value) : (List.range 57).map f = [f 0, f 1, f 2, f 3, f 4, f 5, f 6, f 7, f 8, f 9, f 10, f 11, f 12, f 13, f 14, f 15, f 16, f 17, f 18, f 19, f 20, f 21, f 22, f 23, f 24, f 25, f 26, f 27, f 28, f 29, f 30, f 31, f 32, f 33, f 34, f 35, f 36, f 37, f 38, f 39, f 40, f 41, f 42, f 43, f 44, f 45, f 46, f 47, f 48, f 49, f 50, f 51, f 52, f 53, f 54, f 55, f 56] := rfl
theorem frame57 (t : Array Value) (ds : List Deferred) (h : t.size = 57) : ({ tmps := t, defers := ds } : Act) = { tmps := #[slot t 0, slot t 1, slot t 2, slot t 3, slot t 4, slot t 5, slot t 6, slot t 7, slot t 8, slot t 9, slot t 10, slot t 11, slot t 12, slot t 13, slot t 14, slot t 15, slot t 16, slot t 17, slot t 18, slot t 19, slot t 20, slot t 21, slot t 22, slot t 23, slot t 24, slot t 25, slot t 26, slot t 27, slot t 28, slot t 29, slot t 30, slot t 31, slot t 32, slot t 33, slot t 34, slot t 35, slot t 36, slot t 37, slot t 38, slot t 39, slot t 40, slot t 41, slot t 42, slot t 43, slot t 44, slot t 45, slot t 46, slot t 47, slot t 48, slot t 49, slot t 50, slot t 51, slot t 52, slot t 53, slot t 54, slot t 55, slot t 56], defers := ds } := by
  have e : t = ((List.range 57).map (slot t)).toArray := by
    apply Array.ext
    · simp [h]
    · intro i h1 h2
      simp [slot, Array.getD, h1]
  rw [range_map57] at e
  exact congrArg (fun x => ({ tmps := x, defers := ds } : Act)) e
def GenI (n : Nat) (TS IM : List ByteArray) (w : World) (iv : Value) (wr : World) : Prop := ∃ i : Nat, i ≤ n ∧ iv = .int .i64 (i : Nat) ∧ (∀ s ∈ IM.take i, genZ TS s = true) ∧ Below w.heap.size w wr
set_option maxHeartbeats 2000000 in
theorem genuine_any (iv tv : Value) (IM TS : List ByteArray) (w : World) (hI : StrsAt w iv IM) (hT : StrsAt w tv TS) (hl : TS.length ≤ 1000) (hz : ∀ s ∈ TS, s.size ≤ 9000) (hkr : w.rangeAt 0 0 (u32C ks0)) :
    Calls Tryz.prog 18 #[iv, tv] w fun e w' => e = .returned (.bool (genAll TS IM)) ∧ Below w.heap.size w w' := by
  obtain ⟨ia, ic, rfl, hil, hic⟩ := hI.form
  obtain ⟨ta, tc, rfl, htl, htc⟩ := hT.form
  unfold maxLen at hic htc
  have HI := hidep hI
  have HT := hidep hT
  have HK := hidep hkr
  have HZ := hidep hz
  clear hI hT hkr hz
  obtain ⟨n, hnd⟩ : ∃ n, n = IM.length := ⟨_, rfl⟩
  obtain ⟨m, hmd⟩ : ∃ m, m = TS.length := ⟨_, rfl⟩
  rw [← hnd] at hil ⊢
  rw [← hmd] at htl hl ⊢
  have HN := hidep (And.intro hnd hmd)
  clear hnd hmd
  go_enter Tryz.func18, Tryz.ntmps18
  go_upto_region 2 with (fail)
  refine wp_loop (LoopI 57 (fun tm ds wr => (slot tm 0) = .slice ia n ic ∧ (slot tm 1) = .slice ta m tc ∧ (slot tm 10) = .slice ia n ic ∧ (slot tm 11) = .int .i64 (n : Nat) ∧ ds = [] ∧ GenI n TS IM w (slot tm 12) wr)) (fun a' wr => n - natI (a'.tmps.getD 12 undef)) ?mainStart ?mainRound
  case' mainStart => refine LoopI.mk rfl ?_
  case' mainRound => (rintro ⟨t, ds⟩ wr ⟨hts, hrel⟩; dsimp only at hts hrel; rw [frame57 t ds hts])
  case mainStart => exact ⟨rfl, rfl, rfl, rfl, rfl, 0, Nat.zero_le _, rfl, by simp, Below.refl _ _⟩
  obtain ⟨e0, e1, e10, e11, hds, i, hi, e12, hall, hbw⟩ := hrel
  subst hds
  rw [e0, e1, e10, e11, e12]
  clear e0 e1 e10 e11 e12 hts
  by_cases hin : i < n
  · have hini : (i : Int) < (n : Int) := by omega
    have hi0 : (0 : Int) ≤ (i : Int) := by omega
    have hiL : i < IM.length := by rw [← HN.out.1]; exact hin
    have hir := HI.out.below hbw
    rw [← HN.out.1] at hir
    obtain ⟨g, o, rfl, hg, hcell⟩ := hir.at (by omega)
    have hci := hcell i (.string IM[i]) (strsC_get IM i hiL)
    obtain ⟨s, hs⟩ : ∃ s, s = IM[i] := ⟨_, rfl⟩
    rw [← hs] at hci
    have HEND := hidep (show (genZ TS s = true → ∀ x ∈ IM.take (i + 1), genZ TS x = true) ∧ (genZ TS s = false → genAll TS IM = false) from by
      refine ⟨fun h x hx => ?_, fun h => ?_⟩
      · rw [List.take_add_one, List.getElem?_eq_getElem hiL, List.mem_append] at hx
        rcases hx with hx | hx
        · exact hall x hx
        · have hx2 : x = IM[i] := by simpa using hx
          rw [hx2, ← hs]
          exact h
      · unfold genAll
        rw [List.all_eq_false]
        exact ⟨s, by rw [hs]; exact List.getElem_mem hiL, by rw [h]; decide⟩)
    have HBW := hidep hbw
    clear hs hall hcell hir
    go_upto_region 4 with (fail)
    obtain ⟨p, hp⟩ : ∃ p, p = unpZ s := ⟨_, rfl⟩
    have hU := unpackR_any s wr (HK.out.below hbw)
    rw [← hp] at hU
    have HU := hidep hU
    have hrg := unpZ_rng s
    rw [← hp] at hrg
    have hgood := unp_left0 s
    rw [← hp] at hgood
    have HG := hidep (show genZ TS s = (!p.ok || (decide (p.num ≤ (TS.length : Int)) && decide ((packL p.num (TS.getD (p.num - 1).toNat ByteArray.empty))[p.part.toNat]? = some s))) from by rw [hp]; rfl)
    have HGO := hidep hgood
    clear hU hp hci hgood
    refine wp_region_lit ?_
    refine wpList_value rfl (v := .string s) (w' := wr) (by kernel_rfl) ?_
    refine wpList_enter rfl 54 #[.string s] (by kernel_rfl) HU.out ?_
    intro w6 hb6
    refine wpList_alloc_row zero_partRo _ rfl rfl ?_
    refine wpList_store_last (t := 102) (c := partC part0) (c' := partC p) w6 row_partR.2 rfl (part_one p) rfl _ _ rfl (by kernel_rfl) (by kernel_rfl) ?_
    refine wpList_nil ?_
    apply_assumption
    refine wp_abs (fun X => X.heap[w6.heap.size]? = some (.cells (partC p) 102) ∧ Below wr.heap.size wr X) ⟨heap_alloc_new _ _, hb6.alloc hb6.size _⟩ ?_
    obtain ⟨E, hE⟩ : ∃ E, E = w6.heap.size := ⟨_, rfl⟩
    rw [← hE]
    rintro X ⟨hqE, hbX⟩
    refine wp_cutA 57 (fun tm ds => ds = [] ∧ slot tm 0 = .slice (some ⟨g, o, none⟩) n ic ∧ slot tm 1 = .slice ta m tc ∧ slot tm 6 = .string s ∧ slot tm 7 = .pointer (some ⟨E, 0, none⟩) ∧ slot tm 10 = .slice (some ⟨g, o, none⟩) n ic ∧ slot tm 11 = .int .i64 (n : Nat) ∧ slot tm 12 = .int .i64 (i : Nat)) (by kernel_rfl) (by exact ⟨by kernel_rfl, by kernel_rfl, by kernel_rfl, by kernel_rfl, by rw [hE]; kernel_rfl, by kernel_rfl, by kernel_rfl, by kernel_rfl⟩) ?_
    rintro tA dA h57 ⟨rfl, e0, e1, e6, e7, e10, e11, e12⟩
    rw [frame57 tA [] h57, e0, e1, e6, e7, e10, e11, e12]
    clear h57 e0 e1 e6 e7 e10 e11 e12 hE HU hb6 hg
    obtain ⟨num, part, left, pay, ok⟩ := p
    obtain ⟨c0, c1, c2, c3, c4⟩ := box5p hqE
    simp only at c0 c1 c2 c3 c4 hrg
    have hwX := HBW.out.trans (hbX.mono HBW.out.size)
    cases ok with
    | false =>
      have hgz : genZ TS s = true := by rw [HG.out]; rfl
      have HF := hidep (HEND.out.1 hgz)
      clear hgz
      go_wp2
      refine ⟨LoopI.mk rfl ⟨rfl, rfl, rfl, rfl, rfl, i + 1, by omega, by show Value.int _ _ = _; go_num, HF.out, hwX⟩, ?_⟩
      show n - _ < n - _
      simp [natI]; omega
    | true =>
      have hn1 := (HGO.out rfl).2
      simp only at hn1
      obtain ⟨k0, hk0⟩ : ∃ k0 : Nat, num = (k0 : Int) + 1 := ⟨(num - 1).toNat, by omega⟩
      by_cases hgt : (m : Int) < num
      · have g1 : num > (m : Int) := hgt
        have hgz : genZ TS s = false := by
          rw [HG.out]
          simp only [Bool.not_true, Bool.false_or]
          rw [← HN.out.2, decide_eq_false (by omega), Bool.false_and]
        have HF := hidep (HEND.out.2 hgz)
        clear hgz hgt hk0
        go_wp2
        go_ret
        exact ⟨by rw [HF.out]; rfl, hwX⟩
      · have g1 : ¬ num > (m : Int) := hgt
        have hk0m : k0 < m := by omega
        have hk0T : k0 < TS.length := by rw [← HN.out.2]; exact hk0m
        obtain ⟨tx, htx⟩ : ∃ tx, tx = TS[k0] := ⟨_, rfl⟩
        have htz := HZ.out TS[k0] (List.getElem_mem hk0T)
        rw [← htx] at htz
        have htr := HT.out.below hwX
        rw [← HN.out.2] at htr
        obtain ⟨g2, o2, rfl, hg2, hcell2⟩ := htr.at (by omega)
        have hct := hcell2 k0 (.string TS[k0]) (strsC_get TS k0 hk0T)
        rw [← htx] at hct
        have hgz : genZ TS s = decide ((packL num tx)[part.toNat]? = some s) := by
          rw [HG.out]
          simp only [Bool.not_true, Bool.false_or]
          have e1 : (num - 1).toNat = k0 := by omega
          have e2 : TS.getD k0 ByteArray.empty = tx := by rw [List.getD_eq_getElem?_getD, List.getElem?_eq_getElem hk0T, htx]; rfl
          rw [e1, e2, ← HN.out.2, decide_eq_true (by omega), Bool.true_and]
        have hk1 : (0 : Int) ≤ (k0 : Int) := by omega
        have hk2 : (k0 : Int) < (m : Int) := by omega
        have hw1 : IntKind.i64.wrap (num - 1) = (k0 : Int) := by rw [hk0, show (k0 : Int) + 1 - 1 = (k0 : Int) from by omega]; exact IntWalk.i64_in _ (by omega)
        have HPK := hidep (fun Y (hY : Below X.heap.size X Y) => packR_any num tx Y (by omega) (by omega) htz ((HK.out.below hwX).below hY))
        obtain ⟨l, hld⟩ : ∃ l, l = packL num tx := ⟨_, rfl⟩
        obtain ⟨pe, hpe⟩ : ∃ pe, pe = packE num tx := ⟨_, rfl⟩
        have hpl : pe ≠ 0 → l = [] := fun h => by rw [hld]; unfold packL; rw [if_neg (by rw [← hpe]; exact h)]
        rw [← hld, ← hpe] at HPK
        rw [← hld] at hgz
        have HGZ := hidep (And.intro hgz hpl)
        have HC := hidep (fun Y (hY : Below X.heap.size X Y) => And.intro (Turned.cell (Turned.of_below (T := fun _ => False) hY) c0 (fun h => h)) (Turned.cell (Turned.of_below (T := fun _ => False) hY) hct (fun h => h)))
        have HQE := hidep hqE
        have hpr : 0 ≤ part ∧ part < 65536 := ⟨hrg.2.2.1, hrg.2.2.2.1⟩
        clear hgz hpl htx htz htr hcell2 hct hld hpe hk0 hgt HG HGO hrg
        go_upto_region 8 with (fail)
        refine wp_region_noPanic (wp_region_held_drew (S := (fun Y => Below X.heap.size X Y)) (by kernel_rfl) ?hS18r8n0 (fun hHeld => ?hR18r8n0))
        case hS18r8n0 => ((try dsimp only); (exact (Below.refl _ _).drew))
        refine wpAnyH_take (i := 0) (v := ?v18r8n0q1) rfl (by kernel_rfl) (by kernel_rfl) (by kernel_rfl) (fun _ _ _ h => h) (Or.inl ⟨by kernel_rfl, ?hy18r8n0q1⟩) (by assumption) ?hr18r8n0q1
        case hy18r8n0q1 => (intro w hSw; (try dsimp only at hSw); (obtain ⟨d0, d1⟩ := HC.out w hSw); first | (go_simp; done) | (go_simp; with_reducible rfl))
        refine wpAnyH_take (i := 1) (v := ?v18r8n0q2) rfl (by kernel_rfl) (by kernel_rfl) (by kernel_rfl) (fun _ _ _ h => h) (Or.inl ⟨by kernel_rfl, ?hy18r8n0q2⟩) (by assumption) ?hr18r8n0q2
        case hy18r8n0q2 => (intro w hSw; (try dsimp only at hSw); (obtain ⟨d0, d1⟩ := HC.out w hSw); first | (go_simp; done) | (go_simp; with_reducible rfl))
        refine wpAnyH_take (i := 2) (v := ?v18r8n0q3) rfl (by kernel_rfl) (by kernel_rfl) (by kernel_rfl) (fun _ _ _ h => h) (Or.inl ⟨by kernel_rfl, ?hy18r8n0q3⟩) (by assumption) ?hr18r8n0q3
        case hy18r8n0q3 => (intro w hSw; (try dsimp only at hSw); (obtain ⟨d0, d1⟩ := HC.out w hSw); first | (go_simp; done) | (go_simp; with_reducible rfl))
        refine wpAnyH_take (i := 3) (v := ?v18r8n0q4) rfl (by kernel_rfl) (by kernel_rfl) (by kernel_rfl) (fun _ _ _ h => h) (Or.inl ⟨by kernel_rfl, ?hy18r8n0q4⟩) (by assumption) ?hr18r8n0q4
        case hy18r8n0q4 => (intro w hSw; (try dsimp only at hSw); (obtain ⟨d0, d1⟩ := HC.out w hSw); first | (go_simp; done) | (go_simp; with_reducible rfl))
        refine wpAnyH_take (i := 4) (v := ?v18r8n0q5) rfl (by kernel_rfl) (by kernel_rfl) (by kernel_rfl) (fun _ _ _ h => h) (Or.inl ⟨by kernel_rfl, ?hy18r8n0q5⟩) (by assumption) ?hr18r8n0q5
        case hy18r8n0q5 => (intro w hSw; (try dsimp only at hSw); (obtain ⟨d0, d1⟩ := HC.out w hSw); first | (go_simp; done) | (go_simp; with_reducible rfl))
        refine wpAnyH_take (i := 5) (v := ?v18r8n0q6) rfl (by kernel_rfl) (by kernel_rfl) (by kernel_rfl) (fun _ _ _ h => h) (Or.inl ⟨by kernel_rfl, ?hy18r8n0q6⟩) (by assumption) ?hr18r8n0q6
        case hy18r8n0q6 => (intro w hSw; (try dsimp only at hSw); (obtain ⟨d0, d1⟩ := HC.out w hSw); first | (go_simp; done) | (go_simp; with_reducible rfl))
        refine wpAnyH_take (i := 6) (v := ?v18r8n0q7) rfl (by kernel_rfl) (by kernel_rfl) (by kernel_rfl) (fun _ _ _ h => h) (Or.inl ⟨by kernel_rfl, ?hy18r8n0q7⟩) (by assumption) ?hr18r8n0q7
        case hy18r8n0q7 => (intro w hSw; (try dsimp only at hSw); (obtain ⟨d0, d1⟩ := HC.out w hSw); first | (go_simp; done) | (go_simp; with_reducible rfl))
        refine wpAnyH_take (i := 7) (v := ?v18r8n0q8) rfl (by kernel_rfl) (by kernel_rfl) (by kernel_rfl) (fun _ _ _ h => h) (Or.inl ⟨by kernel_rfl, ?hy18r8n0q8⟩) (by assumption) ?hr18r8n0q8
        case hy18r8n0q8 => (intro w hSw; (try dsimp only at hSw); (obtain ⟨d0, d1⟩ := HC.out w hSw); first | (go_simp; done) | (go_simp; with_reducible rfl))
        refine wpAnyH_ready (rs := [8]) (by kernel_rfl) (by simp) (AllReadyH.cons rfl (fun K hK => ?hc18r8n0q9) AllReadyH.nil)
        go_simp
        (go_at_call 60; refine (HPK.out _ hHeld).mono ?_; rintro e w35 ⟨v35, rfl, ho35, hb35⟩; have hk := hHeld.trans (hb35.mono hHeld.size); (try dsimp only))
        refine hK.out _ _ ?hs18r8n0q9 (fun hHeld18r8n0q9 => ?ht18r8n0q9)
        case hs18r8n0q9 => ((try dsimp only); (exact hk))
        clear hHeld hK
        have hHeld := hHeld18r8n0q9
        clear hHeld18r8n0q9
        refine wpAnyH_take (i := 9) (v := ?v18r8n0q10) rfl (by kernel_rfl) (by kernel_rfl) (by kernel_rfl) (fun _ _ _ h => h) (Or.inl ⟨by kernel_rfl, ?hy18r8n0q10⟩) (by assumption) ?hr18r8n0q10
        case hy18r8n0q10 => (intro w hSw; (try dsimp only at hSw); (obtain ⟨d0, d1⟩ := HC.out w hSw); first | (go_simp; done) | (go_simp; with_reducible rfl))
        refine wpAnyH_take (i := 10) (v := ?v18r8n0q11) rfl (by kernel_rfl) (by kernel_rfl) (by kernel_rfl) (fun _ _ _ h => h) (Or.inl ⟨by kernel_rfl, ?hy18r8n0q11⟩) (by assumption) ?hr18r8n0q11
        case hy18r8n0q11 => (intro w hSw; (try dsimp only at hSw); (obtain ⟨d0, d1⟩ := HC.out w hSw); first | (go_simp; done) | (go_simp; with_reducible rfl))
        refine wpAnyH_take (i := 11) (v := ?v18r8n0q12) rfl (by kernel_rfl) (by kernel_rfl) (by kernel_rfl) (fun _ _ _ h => h) (Or.inl ⟨by kernel_rfl, ?hy18r8n0q12⟩) (by assumption) ?hr18r8n0q12
        case hy18r8n0q12 => (intro w hSw; (try dsimp only at hSw); (obtain ⟨d0, d1⟩ := HC.out w hSw); first | (go_simp; done) | (go_simp; with_reducible rfl))
        refine wpAnyH_take (i := 12) (v := ?v18r8n0q13) rfl (by kernel_rfl) (by kernel_rfl) (by kernel_rfl) (fun _ _ _ h => h) (Or.inl ⟨by kernel_rfl, ?hy18r8n0q13⟩) (by assumption) ?hr18r8n0q13
        case hy18r8n0q13 => (intro w hSw; (try dsimp only at hSw); (obtain ⟨d0, d1⟩ := HC.out w hSw); first | (go_simp; done) | (go_simp; with_reducible rfl))
        refine wpAnyH_take (i := 13) (v := ?v18r8n0q14) rfl (by kernel_rfl) (by kernel_rfl) (by kernel_rfl) (fun _ _ _ h => h) (Or.inl ⟨by kernel_rfl, ?hy18r8n0q14⟩) (by assumption) ?hr18r8n0q14
        case hy18r8n0q14 => (intro w hSw; (try dsimp only at hSw); (obtain ⟨d0, d1⟩ := HC.out w hSw); first | (go_simp; done) | (go_simp; with_reducible rfl))
        refine wpAnyH_done (by kernel_rfl) ?_ _
        clear hHeld
        refine NoPanic.normal ?_
        apply_assumption
        have hv35 : StrsAt w35 v35 l := (Rd.of_own ho35).mono (fun _ _ => trivial)
        obtain ⟨va, vc, rfl, hvl, hvc⟩ := hv35.form
        refine wp_abs (fun Y => StrsAt Y (.slice va l.length vc) l ∧ Below X.heap.size X Y) ⟨hv35, hk⟩ ?_
        clear hv35 ho35 hb35 hk HPK HC c0 c1 c2 c3 c4 hqE
        rintro Y ⟨hv, hbY⟩
        refine wp_cutA 57 (fun tm ds => ds = [] ∧ slot tm 0 = .slice (some ⟨g, o, none⟩) n ic ∧ slot tm 1 = .slice (some ⟨g2, o2, none⟩) m tc ∧ slot tm 6 = .string s ∧ slot tm 7 = .pointer (some ⟨E, 0, none⟩) ∧ slot tm 8 = .slice va l.length vc ∧ slot tm 9 = .int .i64 pe ∧ slot tm 10 = .slice (some ⟨g, o, none⟩) n ic ∧ slot tm 11 = .int .i64 (n : Nat) ∧ slot tm 12 = .int .i64 (i : Nat)) (by kernel_rfl) (by exact ⟨by kernel_rfl, by kernel_rfl, by kernel_rfl, by kernel_rfl, by kernel_rfl, by kernel_rfl, by kernel_rfl, by kernel_rfl, by kernel_rfl, by kernel_rfl⟩) ?_
        rintro tB dB h57 ⟨rfl, e0, e1, e6, e7, e8, e9, e10, e11, e12⟩
        rw [frame57 tB [] h57, e0, e1, e6, e7, e8, e9, e10, e11, e12]
        obtain ⟨c0, c1, c2, c3, c4⟩ := box5p (below_push hbY HQE.out)
        simp only at c1
        have hwY := hwX.trans (hbY.mono hwX.size)
        have HWY := hidep hwY
        unfold maxLen at hvc
        clear h57 e0 e1 e6 e7 e8 e9 e10 e11 e12 c0 c2 c3 c4 hwX hwY hbX hg2 HT
        obtain ⟨le, hle⟩ : ∃ le, le = l.length := ⟨_, rfl⟩
        rw [← hle] at hv hvl ⊢
        have HLE := hidep hle
        clear hle
        by_cases he : pe = 0
        · have b1 : (pe != 0) = false := by simp [he]
          have b2 : (pe == 0) = true := by simp [he]
          by_cases hge : (le : Int) ≤ part
          · have b3 : part ≥ (le : Int) := hge
            have hgz : genZ TS s = false := by
              rw [HGZ.out.1]
              refine decide_eq_false ?_
              rw [List.getElem?_eq_none (by rw [← HLE.out]; omega)]
              intro h
              cases h
            have HF := hidep (HEND.out.2 hgz)
            clear hgz hge he
            go_wp2
            go_ret
            exact ⟨by rw [HF.out]; rfl, HWY.out⟩
          · have b3 : ¬ part ≥ (le : Int) := hge
            obtain ⟨kp, hkp⟩ : ∃ kp : Nat, part = (kp : Int) := ⟨part.toNat, by omega⟩
            subst hkp
            have hkl : kp < l.length := by rw [← HLE.out]; omega
            have hkp1 : (0 : Int) ≤ (kp : Int) := by omega
            have hkp2 : (kp : Int) < (le : Int) := by omega
            rw [show le = l.length from HLE.out] at hv b3 hkp2 hvl ⊢
            obtain ⟨g3, o3, rfl, hg3, hcell3⟩ := hv.at (by omega)
            have hcl := hcell3 kp (.string l[kp]) (strsC_get l kp hkl)
            obtain ⟨y, hy⟩ : ∃ y, y = l[kp] := ⟨_, rfl⟩
            rw [← hy] at hcl
            have hgz : genZ TS s = decide (y = s) := by
              rw [HGZ.out.1, Int.toNat_natCast, List.getElem?_eq_getElem hkl, ← hy]
              simp
            by_cases hys : y = s
            · have b4 : (y.toList != s.toList) = false := by rw [bne, str_beq, decide_eq_true hys]; rfl
              have b5 : (y.toList == s.toList) = true := by rw [str_beq, decide_eq_true hys]
              rw [decide_eq_true hys] at hgz
              have HF := hidep (HEND.out.1 hgz)
              clear hgz hge he hys hy hcell3 hv hg3
              go_wp2
              refine ⟨LoopI.mk rfl ⟨rfl, rfl, rfl, rfl, rfl, i + 1, by omega, by show Value.int _ _ = _; go_num, HF.out, HWY.out⟩, ?_⟩
              show n - _ < n - _
              simp [natI]; omega
            · have b4 : (y.toList != s.toList) = true := by rw [bne, str_beq, decide_eq_false hys]; rfl
              have b5 : (y.toList == s.toList) = false := by rw [str_beq, decide_eq_false hys]
              rw [decide_eq_false hys] at hgz
              have HF := hidep (HEND.out.2 hgz)
              clear hgz hge he hy hcell3 hv hg3
              go_wp2
              go_ret
              exact ⟨by rw [HF.out]; rfl, HWY.out⟩
        · have b1 : (pe != 0) = true := by simp [he]
          have b2 : (pe == 0) = false := by simp [he]
          have hgz : genZ TS s = false := by
            rw [HGZ.out.1, HGZ.out.2 he]
            exact decide_eq_false (by intro h; simp at h)
          have HF := hidep (HEND.out.2 hgz)
          clear hgz he
          go_wp2
          go_ret
          exact ⟨by rw [HF.out]; rfl, HWY.out⟩
  · have hini : ¬ (i : Int) < (n : Int) := by omega
    have hin2 : i = n := by omega
    have hA : genAll TS IM = true := by
      unfold genAll
      rw [List.all_eq_true]
      intro x hx
      exact hall x (by rw [hin2, HN.out.1, List.take_length]; exact hx)
    have HA := hidep hA
    clear hA hall hin2 hi
    go_wp2
    go_ret
    exact ⟨by rw [HA.out]; rfl, hbw⟩
end Go.Proofs.YtipbkdlekanlmaaGreatDoor
