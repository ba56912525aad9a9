/- Journal, plain: what Append does to a disk of records; the law GoesOn on plain data. No program in sight. -/
import Derived.Test.YtipbkdlekanlmaaDoorJg05
namespace Go.Jn
open Go Go.Lab Go.Disk Go.Proofs.YtipbkdlekanlmaaDoor
/-- A journal and the records on its disk, in order; no power fails. -/
structure GInv (j : JZ) (D : Dk) (segs : List Seg) : Prop where
  fine : Dk.Fine D
  ok : D.Ok
  clean : ∀ x ∈ D.s, x.dirty = false
  txt : ∃ k, D.s.map (·.text) = segs.flatMap (·.c) ++ List.replicate k zeros
  stop : j.stop = ((segs.flatMap (·.c)).length : Int)
  shut : j.closed = false
  nx : 1 ≤ j.next
  lt : ∀ g ∈ segs, (g.num : Int) < j.next
  inc : (segs.map (fun g => (g.num : Int))).Pairwise (· < ·)
  segOk : ∀ g ∈ segs, g.Ok
  nums : j.nums = (segs.filter (·.whole)).map (fun g => (g.num : Int))
  texts : j.texts = (segs.filter (·.whole)).map (·.t)
theorem writes_ok : ∀ (l : List ByteArray) (D : Dk) (a : Int), D.Ok → (writesZ D a l).2.Ok
  | [], _, _, h => h
  | s :: r, D, a, h => by
    rw [writesZ]
    split
    · exact writes_ok r _ _ (writeD_ok h a s)
    · exact writeD_ok h a s
theorem put_ok (D : Dk) (a : Int) (l : List ByteArray) (h : D.Ok) : (putZ D a l).2.2.Ok := by
  unfold putZ
  split
  · exact writes_ok l D a h
  split
  · exact flushD_ok (writes_ok l D a h)
  · exact flushD_ok (writes_ok l D a h)
theorem reads_clean (D : Dk) (h : D.off = false) (hc : ∀ x ∈ D.s, x.dirty = false) : readsZ D = D.s.map (·.text) := by
  apply List.ext_getElem
  · simp [readsZ]
  · intro k h1 h2
    have hk : k < D.s.length := by simpa using h2
    have hin : D.isIn (k : Int) = true := isIn_mk hk
    simp only [readsZ, List.getElem_map, List.getElem_range]
    unfold readZ
    rw [if_neg (by rw [h]; decide), if_neg (by rw [hin]; decide), Int.toNat_natCast, atS_get hk, if_neg (by rw [hc _ (List.getElem_mem hk)]; decide)]
theorem scan_blanks : ∀ (n : Nat) (j : JZ) (k : Nat), 1 ≤ j.next → scanAll j k (List.replicate n zeros) = j
  | 0, _, _, _ => rfl
  | n + 1, j, k, h => by
    have hs : scanZ j k zeros = j := by
      have hb : blankZ zeros = true := decide_eq_true rfl
      unfold scanZ
      rw [hb, unp_zeros]
      have e : max j.next (part0.num + 1) = j.next := by show max j.next (0 + 1) = j.next; omega
      rw [e]
      cases j
      simp
    rw [List.replicate_succ, scanAll, hs]
    exact scan_blanks n j (k + 1) h
theorem journal_blank (n : Nat) : journalZ (List.replicate n zeros) = jz0 := by
  unfold journalZ
  rw [scan_blanks n jz0 0 (by decide)]
  exact ends_blanks jz0 _ (fun p hp => by
    obtain ⟨s, hs, rfl⟩ := List.mem_map.1 hp
    rw [(List.mem_replicate.1 hs).2, unp_zeros]
    rfl) _ (by simp)
/-- Append on a disk of records. -/
theorem app_inv {j : JZ} {D : Dk} {segs : List Seg} (h : GInv j D segs) (t : ByteArray) :
    (appendZ j D t = (0, 4, j, D) ∨ appendZ j D t = (0, 24, j, D)) ∨ ∃ g : Seg, g.t = t ∧ (g.num : Int) = j.next ∧ GInv (appendZ j D t).2.2.1 (appendZ j D t).2.2.2 (segs ++ [g]) ∧
      ((g.whole = true ∧ (appendZ j D t).1 = j.next ∧ (appendZ j D t).2.1 = 0 ∧ (appendZ j D t).2.2.1.nums = j.nums ++ [j.next] ∧ (appendZ j D t).2.2.1.texts = j.texts ++ [t]) ∨ (g.whole = false ∧ (appendZ j D t).2.1 = 26 ∧ (appendZ j D t).2.2.1.nums = j.nums ∧ (appendZ j D t).2.2.1.texts = j.texts)) ∧ (appendZ j D t).2.2.1.next = j.next + 1 := by
  by_cases h1 : 8000 < t.size ∨ 4096 < j.next
  · left; left
    unfold appendZ
    rw [if_neg (by rw [h.shut]; decide), if_pos h1]
  by_cases h2 : roomZ j D < cntZ t.size
  · left; right
    unfold appendZ
    rw [if_neg (by rw [h.shut]; decide), if_neg h1, if_pos h2]
  right
  have hsz : t.size ≤ 8000 := by omega
  have hnx : 1 ≤ j.next ∧ j.next ≤ 4096 := ⟨h.nx, by omega⟩
  obtain ⟨num, hnum⟩ : ∃ num : Nat, j.next = (num : Int) := ⟨j.next.toNat, by omega⟩
  have hpl := packL_eq j.next t hnx hsz
  rw [hnum, Int.toNat_natCast] at hpl
  obtain ⟨n, hn⟩ : ∃ n, n = (cntZ t.size).toNat := ⟨_, rfl⟩
  have hcn : cntZ t.size = (n : Int) := by rw [hn]; have := cntZ_rng t.size; omega
  rw [← hn] at hpl
  obtain ⟨k, hk⟩ := h.txt
  obtain ⟨F, hF⟩ : ∃ F, F = segs.flatMap (·.c) := ⟨_, rfl⟩
  have hst := h.stop
  rw [← hF] at hk hst
  have hlen : D.s.length = F.length + k := by
    have := congrArg List.length hk
    simpa using this
  have hnk : n ≤ k := by
    unfold roomZ at h2
    rw [hcn, hst] at h2
    omega
  obtain ⟨A, hA⟩ : ∃ A, A = D.s.take F.length := ⟨_, rfl⟩
  obtain ⟨M, hM⟩ : ∃ M, M = (D.s.drop F.length).take n := ⟨_, rfl⟩
  obtain ⟨C, hC⟩ : ∃ C, C = D.s.drop (F.length + n) := ⟨_, rfl⟩
  have hs : D.s = A ++ (M ++ C) := by
    rw [hA, hM, hC, ← List.drop_drop, List.take_append_drop, List.take_append_drop]
  have hAl : A.length = F.length := by rw [hA, List.length_take]; omega
  have hMl : M.length = n := by rw [hM, List.length_take, List.length_drop]; omega
  have hAt : A.map (·.text) = F := by rw [hA, List.map_take, hk, List.take_left' rfl]
  have hMt : ∀ x ∈ M, x.text = zeros := by
    intro x hx
    have : x.text ∈ M.map (·.text) := List.mem_map_of_mem hx
    rw [hM, List.map_take, List.map_drop, hk, List.drop_left' rfl, List.take_replicate] at this
    exact (List.mem_replicate.1 this).2
  have hCt : C.map (·.text) = List.replicate (k - n) zeros := by
    rw [hC, List.map_drop, hk, ← List.drop_drop, List.drop_left' rfl, List.drop_replicate]
  obtain ⟨l, hl⟩ : ∃ l, l = packL j.next t := ⟨_, rfl⟩
  have hll : l.length = n := by rw [hl, hnum, hpl]; simp
  have hlz : ∀ s ∈ l, s.size = 64 := by
    intro s hs'
    rw [hl, hnum, hpl] at hs'
    obtain ⟨i, _, rfl⟩ := List.mem_map.1 hs'
    exact size_secS _ _ _
  have hx : ∀ x ∈ D.s, x.text.size = 64 ∧ x.dirty = false := fun x hx => ⟨(h.ok.1.2.2 x hx).1, h.clean x hx⟩
  have hput := put_fine l A M C D h.fine hs (by rw [hMl, hll]) hlz hx
  rw [hAl] at hput
  have hpok := put_ok D (F.length : Int) l h.ok
  rw [hput] at hpok
  obtain ⟨c, hc⟩ : ∃ c, c = (zipS setl M l).map (·.text) := ⟨_, rfl⟩
  have hcl : c.length = n := by rw [hc, List.length_map, zipS_len _ _ _ (by rw [hMl, hll]), hll]
  have heach : ∀ (i : Nat) (hi : i < c.length) (hi2 : i < l.length), c[i] = l[i] ∨ c[i] = zeros := by
    have key : ∀ (M : List Sec) (l : List ByteArray), (∀ x ∈ M, x.text = zeros) → ∀ (i : Nat) (hi : i < ((zipS setl M l).map (·.text)).length) (hi2 : i < l.length), ((zipS setl M l).map (·.text))[i] = l[i] ∨ ((zipS setl M l).map (·.text))[i] = zeros := by
      intro M
      induction M with
      | nil => intro l _ i hi _; cases l <;> simp [zipS] at hi
      | cons x M ih =>
        intro l hM i hi hi2
        cases l with
        | nil => simp at hi2
        | cons s r =>
          cases i with
          | zero =>
            simp only [zipS, List.map_cons, List.getElem_cons_zero]
            show (if x.worn = true then x.text else s) = s ∨ (if x.worn = true then x.text else s) = zeros
            split
            · exact .inr (hM x (by simp))
            · exact .inl rfl
          | succ i =>
            simp only [zipS, List.map_cons, List.getElem_cons_succ]
            exact ih r (fun y hy => hM y (by simp [hy])) i (by simpa [zipS] using hi) (by simpa using hi2)
    intro i hi hi2
    subst hc
    exact key M l hMt i hi hi2
  have hlg : ∀ (i : Nat) (hi : i < l.length), l[i] = secS num t i := by
    intro i hi
    have e : l = (List.range n).map (secS num t) := by rw [hl, hnum, hpl]
    subst e
    simp
  have hgok : Seg.Ok ⟨num, t, c⟩ := by
    refine ⟨⟨by show 1 ≤ num; omega, by show num ≤ 4096; omega⟩, hsz, by rw [hcl, hn]; rfl, fun i hi => ?_⟩
    have hi2 : i < l.length := by rw [hll, ← hcl]; exact hi
    rcases heach i hi hi2 with h3 | h3
    · exact .inl (h3.trans (hlg i hi2))
    · exact .inr (by rw [h3, unp_zeros]; rfl)
  have hfull : (⟨num, t, c⟩ : Seg).full = l := by
    rw [hl, hnum, hpl, hn]
    rfl
  have hwh : (⟨num, t, c⟩ : Seg).whole = decide (c = l) := by
    unfold Seg.whole
    rw [hfull]
  have hcl2 : ∀ x ∈ zipS setl M l, x.dirty = false := by
    have key : ∀ (M : List Sec) (l : List ByteArray), ∀ x ∈ zipS setl M l, x.dirty = false := by
      intro M
      induction M with
      | nil => intro l x hx; cases l <;> simp [zipS] at hx
      | cons y M ih =>
        intro l x hx
        cases l with
        | nil => simp [zipS] at hx
        | cons s r =>
          rw [zipS] at hx
          rcases List.mem_cons.1 hx with rfl | hx
          · rfl
          · exact ih r x hx
    exact key M l
  have happ : appendZ j D t = if decide (c = l) = false then (0, 26, { j with next := j.next + 1, stop := j.stop + (l.length : Int) }, { D with s := A ++ (zipS setl M l ++ C) }) else (j.next, 0, { j with next := j.next + 1, stop := j.stop + (l.length : Int), nums := j.nums ++ [j.next], texts := j.texts ++ [t] }, { D with s := A ++ (zipS setl M l ++ C) }) := by
    unfold appendZ
    rw [if_neg (by rw [h.shut]; decide), if_neg h1, if_neg h2]
    simp only
    rw [← hl, hst, hput, if_neg (by simp), ← hc]
  have hdirty : ∀ x ∈ A ++ (zipS setl M l ++ C), x.dirty = false := by
    intro x hx'
    rcases List.mem_append.1 hx' with h3 | h3
    · exact h.clean x (by rw [hs]; simp [h3])
    · rcases List.mem_append.1 h3 with h4 | h4
      · exact hcl2 x h4
      · exact h.clean x (by rw [hs]; simp [h4])
  have htxt : (A ++ (zipS setl M l ++ C)).map (·.text) = (segs ++ [(⟨num, t, c⟩ : Seg)]).flatMap (·.c) ++ List.replicate (k - n) zeros := by
    rw [List.map_append, List.map_append, hAt, hCt, ← hc, List.flatMap_append, ← hF]
    simp
  have hstop : j.stop + (l.length : Int) = (((segs ++ [(⟨num, t, c⟩ : Seg)]).flatMap (·.c)).length : Int) := by
    rw [List.flatMap_append, ← hF, hst, hll]
    simp [hcl]
  have hinc : ((segs ++ [(⟨num, t, c⟩ : Seg)]).map (fun g => (g.num : Int))).Pairwise (· < ·) := by
    rw [List.map_append, List.pairwise_append]
    refine ⟨h.inc, by simp, fun a ha b hb => ?_⟩
    obtain ⟨g, hg, rfl⟩ := List.mem_map.1 ha
    have hb2 : b = (num : Int) := by simpa using hb
    rw [hb2, ← hnum]
    exact h.lt g hg
  have hlt : ∀ g ∈ segs ++ [(⟨num, t, c⟩ : Seg)], (g.num : Int) < j.next + 1 := by
    intro g hg
    rcases List.mem_append.1 hg with hg | hg
    · have := h.lt g hg; omega
    · rw [List.mem_singleton.1 hg]
      show (num : Int) < _
      omega
  have hso : ∀ g ∈ segs ++ [(⟨num, t, c⟩ : Seg)], g.Ok := by
    intro g hg
    rcases List.mem_append.1 hg with hg | hg
    · exact h.segOk g hg
    · rw [List.mem_singleton.1 hg]; exact hgok
  refine ⟨⟨num, t, c⟩, rfl, hnum.symm, ?_⟩
  rw [happ]
  cases hcd : decide (c = l) with
  | false =>
    rw [hcd] at hwh
    rw [if_pos rfl]
    have hff : (segs ++ [(⟨num, t, c⟩ : Seg)]).filter (·.whole) = segs.filter (·.whole) := by
      rw [List.filter_append]
      simp [hwh]
    exact ⟨⟨h.fine, hpok, hdirty, ⟨_, htxt⟩, hstop, h.shut, by show 1 ≤ j.next + 1; omega, hlt, hinc, hso, by rw [hff]; exact h.nums, by rw [hff]; exact h.texts⟩, .inr ⟨hwh, rfl, rfl, rfl⟩, rfl⟩
  | true =>
    rw [hcd] at hwh
    rw [if_neg (by decide)]
    have hff : (segs ++ [(⟨num, t, c⟩ : Seg)]).filter (·.whole) = segs.filter (·.whole) ++ [(⟨num, t, c⟩ : Seg)] := by
      rw [List.filter_append]
      simp [hwh]
    refine ⟨⟨h.fine, hpok, hdirty, ⟨_, htxt⟩, hstop, h.shut, by show 1 ≤ j.next + 1; omega, hlt, hinc, hso, ?_, ?_⟩, .inl ⟨hwh, rfl, rfl, rfl, rfl⟩, rfl⟩
    · rw [hff, List.map_append, ← h.nums, hnum]
      rfl
    · rw [hff, List.map_append, ← h.texts]
      rfl
/-- Open of such a disk. -/
theorem open_inv {j : JZ} {D : Dk} {segs : List Seg} (h : GInv j D segs) : (openZ D).nums = j.nums ∧ (openZ D).texts = j.texts := by
  obtain ⟨k, hk⟩ := h.txt
  unfold openZ
  rw [reads_clean D h.fine.1 h.clean, hk, h.nums, h.texts]
  exact journal_segs segs _ h.segOk (fun s hs => by rw [(List.mem_replicate.1 hs).2, unp_zeros]; rfl) h.inc
/-- A disk that was never written. -/
def Fresh (D : Dk) : Prop := Dk.Fine D ∧ D.Ok ∧ ∀ x ∈ D.s, x.dirty = false ∧ x.text = zeros
theorem fresh_new (n : Nat) (h1 : 1 ≤ n) (h2 : n ≤ 4096) : Fresh (newD n) := ⟨⟨rfl, rfl⟩, newD_ok h1 h2, fun x hx => by
  rw [(List.mem_replicate.1 (show x ∈ List.replicate n secZ from hx)).2]
  exact ⟨rfl, rfl⟩⟩
theorem fresh_wear {D : Dk} (h : Fresh D) (i : Int) : Fresh (wearD D i) := by
  refine ⟨?_, wearD_ok h.2.1 i, ?_⟩
  · unfold wearD
    split
    · exact h.1
    · exact h.1
  · unfold wearD
    split
    · rename_i hin
      intro x hx
      have hx : x ∈ wearS D.s i.toNat := hx
      rcases List.mem_or_eq_of_mem_set hx with h1 | rfl
      · exact h.2.2 x h1
      · have hk := (isIn_lt hin).2
        have h3 := h.2.2 _ (List.getElem_mem hk)
        rw [atS_get hk]
        exact ⟨h3.1, h3.2⟩
    · exact h.2.2
theorem fresh_reads {D : Dk} (h : Fresh D) : D.s.map (·.text) = List.replicate D.s.length zeros := by
  apply List.ext_getElem
  · simp
  · intro k h1 h2
    have hk : k < D.s.length := by simpa using h2
    simp only [List.getElem_map, List.getElem_replicate]
    exact (h.2.2 _ (List.getElem_mem hk)).2
theorem fresh_open {D : Dk} (h : Fresh D) : openZ D = jz0 := by
  unfold openZ
  rw [reads_clean D h.1.1 (fun x hx => (h.2.2 x hx).1), fresh_reads h, journal_blank]
theorem fresh_inv {D : Dk} (h : Fresh D) : GInv jz0 D [] :=
  ⟨h.1, h.2.1, fun x hx => (h.2.2 x hx).1, ⟨D.s.length, by rw [fresh_reads h]; rfl⟩, rfl, rfl, by decide, fun g hg => (by cases hg), List.Pairwise.nil, fun g hg => (by cases hg), rfl, rfl⟩
end Go.Jn
