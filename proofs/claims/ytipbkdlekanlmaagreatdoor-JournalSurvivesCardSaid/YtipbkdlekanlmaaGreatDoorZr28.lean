/- Journal, plain: bounds of a journal; the disk's size. -/
import Derived.Test.YtipbkdlekanlmaaGreatDoorZr18
namespace Go.Jn
open Go Go.Lab Go.Disk Go.Proofs.YtipbkdlekanlmaaGreatDoor
/-- A journal on n sectors with at most m records. -/
structure JOk (j : JZ) (n m : Nat) : Prop where
  s0 : 0 ≤ j.stop
  s1 : j.stop ≤ (n : Int)
  n0 : 1 ≤ j.next
  n1 : j.next ≤ 4097
  nl : j.nums.length ≤ m
  tl : j.texts.length ≤ m
  bl : j.bad.length ≤ n
  nr : ∀ x ∈ j.nums, 0 ≤ x ∧ x ≤ 4096
theorem JOk.mono {j : JZ} {n m m' : Nat} (h : JOk j n m) (hm : m ≤ m') : JOk j n m' := ⟨h.s0, h.s1, h.n0, h.n1, Nat.le_trans h.nl hm, Nat.le_trans h.tl hm, h.bl, h.nr⟩
theorem scanAll_ok : ∀ (l : List ByteArray) (j : JZ) (k n : Nat), k + l.length ≤ n → 0 ≤ j.stop → j.stop ≤ (k : Int) → 1 ≤ j.next → j.next ≤ 4097 → j.bad.length ≤ k → j.nums = [] → j.texts = [] → JOk (scanAll j k l) n 0
  | [], j, k, n, h, h0, h1, h2, h3, h4, h5, h6 => ⟨h0, by show j.stop ≤ _; simp at h; omega, h2, h3, by show j.nums.length ≤ 0; rw [h5]; simp, by show j.texts.length ≤ 0; rw [h6]; simp, by show j.bad.length ≤ n; simp at h; omega, by intro x hx; have : x ∈ j.nums := hx; rw [h5] at this; cases this⟩
  | s :: r, j, k, n, h, h0, h1, h2, h3, h4, h5, h6 => by
    have hu := unpZ_rng s
    rw [scanAll]
    rw [List.length_cons] at h
    refine scanAll_ok r (scanZ j k s) (k + 1) n (by omega) ?_ ?_ ?_ ?_ ?_ h5 h6
    · unfold scanZ; simp only; split <;> omega
    · unfold scanZ; simp only; split <;> omega
    · show 1 ≤ max j.next ((unpZ s).num + 1); omega
    · show max j.next ((unpZ s).num + 1) ≤ 4097; omega
    · unfold scanZ; simp only; split
      · rw [List.length_append]; exact Nat.add_le_add_right h4 1
      · omega
theorem found_ok {j : JZ} {n m : Nat} (h : JOk j n m) (num : Int) (t : ByteArray) (hn : 0 ≤ num ∧ num ≤ 4096) : JOk (foundZ j num t) n (m + 1) := by
  unfold foundZ
  split
  · exact h.mono (by omega)
  · refine ⟨h.s0, h.s1, h.n0, h.n1, ?_, ?_, h.bl, ?_⟩
    · show (j.nums ++ [num]).length ≤ _
      rw [List.length_append]; exact Nat.add_le_add_right h.nl 1
    · show (j.texts ++ [t]).length ≤ _
      rw [List.length_append]; exact Nat.add_le_add_right h.tl 1
    · intro x hx
      have hx : x ∈ j.nums ++ [num] := hx
      rcases List.mem_append.1 hx with hx | hx
      · exact h.nr x hx
      · rw [List.mem_singleton.1 hx]; exact hn
theorem recsZ_ok : ∀ (f : Nat) (j : JZ) (l : List PartZ) (n m : Nat), JOk j n m → (∀ p ∈ l, 0 ≤ p.num ∧ p.num ≤ 4096) → (∀ L : List PartZ, (∀ p ∈ L, p ∈ l) → (recordZ L).2.2 = true → 1 ≤ (recordZ L).2.1) → JOk (recsZ f j l) n (m + l.length)
  | 0, j, l, n, m, h, _, _ => h.mono (by omega)
  | f + 1, j, [], n, m, h, _, _ => h.mono (by omega)
  | f + 1, j, p :: r, n, m, h, hp, hr => by
    rw [recsZ]
    split
    · rename_i hk
      have h1 := hr (p :: r) (fun _ h => h) hk
      have h2 := recsZ_ok f (foundZ j p.num (recordZ (p :: r)).1) ((p :: r).drop (recordZ (p :: r)).2.1.toNat) n (m + 1) (found_ok h _ _ (hp p (by simp))) (fun q hq => hp q (List.mem_of_mem_drop hq)) (fun L hL => hr L (fun q hq => List.mem_of_mem_drop (hL q hq)))
      refine h2.mono ?_
      rw [List.length_drop, List.length_cons]
      omega
    · have h2 := recsZ_ok f j r n m h (fun q hq => hp q (by simp [hq])) (fun L hL => hr L (fun q hq => by simp [hL q hq]))
      refine h2.mono ?_
      rw [List.length_cons]
      omega
theorem rec_pos (L : List PartZ) (h : (recordZ L).2.2 = true) (hl : ∀ p ∈ L, p.ok = true → 0 ≤ p.left ∧ p.left ≤ 8000) : 1 ≤ (recordZ L).2.1 := by
  cases L with
  | nil => simp [recordZ, part0] at h
  | cons p r =>
    have e : recordZ (p :: r) = if p.ok = false ∨ p.part ≠ 0 ∨ ((p :: r).length : Int) < cntZ p.left then (ByteArray.empty, 0, false) else if recAll p 0 ((p :: r).take (cntZ p.left).toNat) = true then (payAll ((p :: r).take (cntZ p.left).toNat), cntZ p.left, true) else (ByteArray.empty, 0, false) := rfl
    rw [e] at h ⊢
    split at h
    · cases h
    · rename_i hc
      split at h
      · rename_i hA
        rw [if_neg hc, if_pos hA]
        have hok : p.ok = true := by
          cases hq : p.ok with
          | true => rfl
          | false => exact absurd (.inl hq) hc
        have h8 := hl p (by simp) hok
        show 1 ≤ cntZ p.left
        unfold cntZ
        rw [if_neg (by omega)]
        omega
      · cases h
theorem unp_left0 (s : ByteArray) (h : (unpZ s).ok = true) : (unpZ s).left ≤ 8000 ∧ 1 ≤ (unpZ s).num := by
  have hr := unpZ_rng s
  unfold unpZ at h hr ⊢
  split at h
  · cases h
  · rename_i h1
    rw [if_neg h1] at hr ⊢
    split at h
    · cases h
    · rename_i h2
      rw [if_neg h2] at hr ⊢
      have h3 : ¬ 8000 < 48 * partNo (nums s) + leftZ (nums s) := fun h => h2 (.inr (.inr (.inr (.inl h))))
      have h4 : ¬ numZ (nums s) = 0 := fun h => h2 (.inr (.inl h))
      simp only at hr ⊢
      omega
theorem journal_ok (l : List ByteArray) : JOk (journalZ l) l.length l.length := by
  have h1 := scanAll_ok l jz0 0 l.length (by omega) (by decide) (by decide) (by decide) (by decide) (by decide) rfl rfl
  have h2 := recsZ_ok (l.length + 1) (scanAll jz0 0 l) (l.map unpZ) l.length 0 h1 (fun p hp => by
    obtain ⟨s, _, rfl⟩ := List.mem_map.1 hp
    have := unpZ_rng s
    omega) (fun L hL hk => rec_pos L hk (fun p hp hok => by
    obtain ⟨s, _, rfl⟩ := List.mem_map.1 (hL p hp)
    have h1 := unpZ_rng s
    have h2 := unp_left0 s hok
    omega))
  rw [List.length_map, Nat.zero_add] at h2
  exact h2
theorem reads_lenZ (D : Dk) : (readsZ D).length = D.s.length := by simp [readsZ]
theorem open_ok (D : Dk) : JOk (openZ D) D.s.length D.s.length := by
  have := journal_ok (readsZ D)
  rw [reads_lenZ] at this
  exact this
/-! ### the size of the disk stays -/
theorem write_len (D : Dk) (i : Int) (s : ByteArray) : (writeD D i s).s.length = D.s.length := by
  unfold writeD
  repeat' split
  · rfl
  · rfl
  · rfl
  · rw [stepD_s]
  · show (writeS D.s i.toNat s).length = _
    unfold writeS
    rw [List.length_set]
theorem flush_len (D : Dk) : (flushD D).s.length = D.s.length := by
  unfold flushD
  repeat' split
  · rfl
  · rw [stepD_s]
  · exact mountS_len _ _
theorem writes_len : ∀ (l : List ByteArray) (D : Dk) (a : Int), (writesZ D a l).2.s.length = D.s.length
  | [], _, _ => rfl
  | s :: r, D, a => by
    rw [writesZ]
    split
    · rw [writes_len r, write_len]
    · exact write_len D a s
theorem put_len (D : Dk) (a : Int) (l : List ByteArray) : (putZ D a l).2.2.s.length = D.s.length := by
  unfold putZ
  repeat' split
  · exact writes_len l D a
  · show (flushD _).s.length = _
    rw [flush_len, writes_len]
  · show (flushD _).s.length = _
    rw [flush_len, writes_len]
theorem packL_len0 (num : Int) (t : ByteArray) (h1 : 1 ≤ num ∧ num ≤ 4096) (h2 : t.size ≤ 8000) : ((packL num t).length : Int) = cntZ t.size := by
  have he : packE num t = 0 := by
    unfold packE
    rw [if_neg (by omega), if_neg (by omega)]
  have hc := cntZ_rng ((nums t).length : Int)
  unfold packL
  rw [if_pos he, List.length_map]
  unfold packB
  rw [List.length_map, List.length_range, nums_len] at *
  omega
theorem append_ok {j : JZ} {D : Dk} {n m : Nat} (h : JOk j n m) (hn : D.s.length = n) (t : ByteArray) : JOk (appendZ j D t).2.2.1 n (m + 1) ∧ (appendZ j D t).2.2.2.s.length = n := by
  unfold appendZ
  split
  · exact ⟨h.mono (by omega), hn⟩
  split
  · exact ⟨h.mono (by omega), hn⟩
  split
  · exact ⟨h.mono (by omega), hn⟩
  rename_i h1 h2 h3
  have hl := packL_len0 j.next t ⟨h.n0, by omega⟩ (by omega)
  have hs := cntZ_rng (t.size : Int)
  have h3' : ¬ ((D.s.length : Int) - j.stop < cntZ t.size) := h3
  rw [hn] at h3'
  have s0 := h.s0
  have s1 := h.s1
  have n0 := h.n0
  simp only
  split
  · exact ⟨⟨by show 0 ≤ j.stop + _; omega, by show j.stop + _ ≤ _; omega, by show 1 ≤ j.next + 1; omega, by show j.next + 1 ≤ 4097; omega, Nat.le_succ_of_le h.nl, Nat.le_succ_of_le h.tl, h.bl, h.nr⟩, by show (putZ D j.stop _).2.2.s.length = n; rw [put_len, hn]⟩
  split
  · exact ⟨⟨by show 0 ≤ j.stop + _; omega, by show j.stop + _ ≤ _; omega, by show 1 ≤ j.next + 1; omega, by show j.next + 1 ≤ 4097; omega, Nat.le_succ_of_le h.nl, Nat.le_succ_of_le h.tl, h.bl, h.nr⟩, by show (putZ D j.stop _).2.2.s.length = n; rw [put_len, hn]⟩
  · refine ⟨⟨by show 0 ≤ j.stop + _; omega, by show j.stop + _ ≤ _; omega, by show 1 ≤ j.next + 1; omega, by show j.next + 1 ≤ 4097; omega, ?_, ?_, h.bl, ?_⟩, by show (putZ D j.stop _).2.2.s.length = n; rw [put_len, hn]⟩
    · show (j.nums ++ [j.next]).length ≤ _
      rw [List.length_append]; exact Nat.add_le_add_right h.nl 1
    · show (j.texts ++ [t]).length ≤ _
      rw [List.length_append]; exact Nat.add_le_add_right h.tl 1
    · intro x hx
      have hx : x ∈ j.nums ++ [j.next] := hx
      rcases List.mem_append.1 hx with hx | hx
      · exact h.nr x hx
      · rw [List.mem_singleton.1 hx]; omega
end Go.Jn
