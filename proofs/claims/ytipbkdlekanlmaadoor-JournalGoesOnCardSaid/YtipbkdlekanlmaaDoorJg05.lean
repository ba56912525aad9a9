/- Journal, plain: what is found on a disk whose sectors are records one behind the other, some of them with sectors that are not good. No program in sight. -/
import Derived.Test.YtipbkdlekanlmaaDoorJg04
namespace Go.Jn
open Go Go.Lab Go.Disk Go.Proofs.YtipbkdlekanlmaaDoor
/-- The sectors of one record, as they are on the disk. -/
structure Seg where
  num : Nat
  t : ByteArray
  c : List ByteArray
def Seg.n (g : Seg) : Nat := (cntZ g.t.size).toNat
def Seg.full (g : Seg) : List ByteArray := (List.range g.n).map (secS g.num g.t)
structure Seg.Ok (g : Seg) : Prop where
  n1 : 1 ≤ g.num ∧ g.num ≤ 4096
  sz : g.t.size ≤ 8000
  len : g.c.length = g.n
  each : ∀ (k : Nat) (h : k < g.c.length), g.c[k] = secS g.num g.t k ∨ (unpZ g.c[k]).ok = false
def Seg.whole (g : Seg) : Bool := decide (g.c = g.full)
theorem Seg.Ok.sec {g : Seg} (h : g.Ok) (k : Nat) (hk : k < g.n) : unpZ (secS g.num g.t k) = partK g.num g.t k := by
  have hb := cnt_bounds g.t h.sz k hk
  exact unp_sec g.num g.t k h.n1 h.sz hb.1 hb.2
def addSegs : JZ → List Seg → JZ
  | j, [] => j
  | j, g :: r => addSegs (if g.whole = true then foundZ j (g.num : Int) g.t else j) r
/-- The records of l, found from j on, lead to j'. -/
def Ends (j : JZ) (l : List PartZ) (j' : JZ) : Prop := ∀ f, l.length < f → recsZ f j l = j'
theorem ends_nil (j : JZ) : Ends j [] j := by
  intro f hf
  cases f with
  | zero => omega
  | succ f => rfl
theorem ends_skip {j j' : JZ} {p : PartZ} {r : List PartZ} (h : (recordZ (p :: r)).2.2 = false) (hr : Ends j r j') : Ends j (p :: r) j' := by
  intro f hf
  cases f with
  | zero => omega
  | succ f =>
    rw [recsZ, if_neg (by rw [h]; decide)]
    exact hr f (by rw [List.length_cons] at hf; omega)
theorem ends_found {j j' : JZ} {p : PartZ} {r : List PartZ} {t : ByteArray} {n : Int} (h : recordZ (p :: r) = (t, n, true)) (hn : 1 ≤ n) (hr : Ends (foundZ j p.num t) ((p :: r).drop n.toNat) j') : Ends j (p :: r) j' := by
  intro f hf
  cases f with
  | zero => omega
  | succ f =>
    rw [recsZ, h, if_pos rfl]
    exact hr f (by rw [List.length_drop]; rw [List.length_cons] at hf ⊢; omega)
theorem rec_bad (p : PartZ) (r : List PartZ) (h : p.ok = false ∨ p.part ≠ 0) : (recordZ (p :: r)).2.2 = false := by
  have e : recordZ (p :: r) = if p.ok = false ∨ p.part ≠ 0 ∨ ((p :: r).length : Int) < cntZ p.left then (ByteArray.empty, 0, false) else if recAll p 0 ((p :: r).take (cntZ p.left).toNat) = true then (payAll ((p :: r).take (cntZ p.left).toNat), cntZ p.left, true) else (ByteArray.empty, 0, false) := rfl
  rw [e, if_pos (by
    rcases h with h | h
    · exact .inl h
    · exact .inr (.inl h))]
theorem ends_blanks (j : JZ) : ∀ B : List PartZ, (∀ p ∈ B, p.ok = false) → Ends j B j
  | [], _ => ends_nil j
  | p :: r, h => ends_skip (rec_bad p r (.inl (h p (by simp)))) (ends_blanks j r (fun q hq => h q (by simp [hq])))
theorem ends_whole {j j' : JZ} (num : Nat) (t : ByteArray) (rest : List PartZ) (ht : t.size ≤ 8000) (h : Ends (foundZ j (num : Int) t) rest j') : Ends j ((List.range (cntZ t.size).toNat).map (partK num t) ++ rest) j' := by
  have hc := cnt_pos t ht
  have hr := rec_whole num t rest ht
  obtain ⟨n, hn⟩ : ∃ n, n = (cntZ t.size).toNat := ⟨_, rfl⟩
  have hcn : cntZ t.size = (n : Int) := by rw [hn]; have := cntZ_rng t.size; omega
  rw [← hn] at hc hr ⊢
  rw [hcn] at hr
  obtain ⟨m, rfl⟩ : ∃ m, n = m + 1 := ⟨n - 1, by omega⟩
  have hd : ((List.range (m + 1)).map (partK num t) ++ rest).drop (((m + 1 : Nat) : Int)).toNat = rest := by
    rw [Int.toNat_natCast, List.drop_left' (by simp)]
  rw [List.range_succ_eq_map] at hr hd ⊢
  exact ends_found hr (by omega) (show Ends _ (((0 :: List.map Nat.succ (List.range m)).map (partK num t) ++ rest).drop (((m + 1 : Nat) : Int)).toNat) j' from by rw [hd]; exact h)
theorem recAll_mem (f : PartZ) : ∀ (l : List PartZ) (k : Nat), recAll f k l = true → ∀ p ∈ l, p.ok = true
  | [], _, _, p, hp => by cases hp
  | q :: r, k, h, p, hp => by
    rw [recAll, Bool.and_eq_true] at h
    rcases List.mem_cons.1 hp with rfl | hp
    · unfold recOk at h
      simp only [Bool.and_eq_true] at h
      exact h.1.1
    · exact recAll_mem f r (k + 1) h.2 p hp
theorem Seg.Ok.bad {g : Seg} (h : g.Ok) (hw : g.whole = false) : ∃ (k : Nat) (hk : k < g.c.length), (unpZ g.c[k]).ok = false := by
  by_cases hx : ∃ (k : Nat) (hk : k < g.c.length), (unpZ g.c[k]).ok = false
  · exact hx
  · exfalso
    have hf : g.c = g.full := by
      apply List.ext_getElem
      · unfold Seg.full; rw [h.len, List.length_map, List.length_range]
      · intro k h1 h2
        rcases h.each k h1 with h3 | h3
        · rw [h3]; simp [Seg.full]
        · exact absurd ⟨k, h1, h3⟩ hx
    unfold Seg.whole at hw
    rw [decide_eq_true hf] at hw
    cases hw
theorem ends_broken {j j' : JZ} {g : Seg} (h : g.Ok) (hw : g.whole = false) (rest : List PartZ) (hr : Ends j rest j') : ∀ (d i : Nat), i + d = g.c.length → Ends j ((g.c.drop i).map unpZ ++ rest) j'
  | 0, i, hi => by rw [List.drop_of_length_le (by omega)]; exact hr
  | d + 1, i, hi => by
    have hil : i < g.c.length := by omega
    have ih := ends_broken h hw rest hr d (i + 1) (by omega)
    rw [List.drop_eq_getElem_cons hil, List.map_cons, List.cons_append]
    refine ends_skip ?_ ih
    rcases h.each i hil with h1 | h1
    · rw [h1, h.sec i (by rw [← h.len]; exact hil)]
      by_cases hi0 : i = 0
      · subst hi0
        obtain ⟨k, hk, hbad⟩ := h.bad hw
        have e : ∀ (p : PartZ) (r : List PartZ), recordZ (p :: r) = if p.ok = false ∨ p.part ≠ 0 ∨ ((p :: r).length : Int) < cntZ p.left then (ByteArray.empty, 0, false) else if recAll p 0 ((p :: r).take (cntZ p.left).toNat) = true then (payAll ((p :: r).take (cntZ p.left).toNat), cntZ p.left, true) else (ByteArray.empty, 0, false) := fun _ _ => rfl
        rw [e]
        split
        · rfl
        · rw [if_neg]
          intro hA
          have hlf : (partK g.num g.t 0).left = (g.t.size : Int) := by show (g.t.size : Int) - 48 * ((0 : Nat) : Int) = _; omega
          rw [hlf] at hA
          have hmem : unpZ g.c[k] ∈ (partK g.num g.t 0 :: ((g.c.drop (0 + 1)).map unpZ ++ rest)).take (cntZ (g.t.size : Int)).toNat := by
            have e2 : partK g.num g.t 0 :: ((g.c.drop (0 + 1)).map unpZ ++ rest) = g.c.map unpZ ++ rest := by
              rw [← h.sec 0 (by rw [← h.len]; exact hil), ← h1, ← List.cons_append, ← List.map_cons, ← List.drop_eq_getElem_cons hil, List.drop_zero]
            rw [e2, List.take_left' (by rw [List.length_map, h.len]; rfl)]
            exact List.mem_map_of_mem (List.getElem_mem hk)
          have := recAll_mem _ _ _ hA _ hmem
          rw [hbad] at this
          cases this
      · exact rec_bad _ _ (.inr (by show ((i : Nat) : Int) ≠ 0; omega))
    · exact rec_bad _ _ (.inl h1)
theorem Seg.Ok.parts {g : Seg} (h : g.Ok) (hw : g.whole = true) : g.c.map unpZ = (List.range (cntZ g.t.size).toNat).map (partK g.num g.t) := by
  have hc : g.c = g.full := of_decide_eq_true hw
  rw [hc]
  unfold Seg.full
  rw [List.map_map]
  refine List.map_congr_left fun k hk => ?_
  exact h.sec k (List.mem_range.1 hk)
theorem ends_segs : ∀ (segs : List Seg) (j : JZ) (B : List ByteArray), (∀ g ∈ segs, g.Ok) → (∀ s ∈ B, (unpZ s).ok = false) → Ends j ((segs.flatMap (·.c) ++ B).map unpZ) (addSegs j segs)
  | [], j, B, _, hB => by
    rw [List.flatMap_nil, List.nil_append]
    refine ends_blanks j _ (fun p hp => ?_)
    obtain ⟨s, hs, rfl⟩ := List.mem_map.1 hp
    exact hB s hs
  | g :: r, j, B, hg, hB => by
    have h := hg g (by simp)
    rw [List.flatMap_cons, List.append_assoc, List.map_append, addSegs]
    cases hw : g.whole with
    | true =>
      rw [h.parts hw, if_pos rfl]
      exact ends_whole g.num g.t _ h.sz (ends_segs r _ B (fun q hq => hg q (by simp [hq])) hB)
    | false =>
      rw [if_neg (by decide)]
      have := ends_broken h hw _ (ends_segs r j B (fun q hq => hg q (by simp [hq])) hB) g.c.length 0 (by omega)
      rw [List.drop_zero] at this
      exact this
theorem addSegs_nums : ∀ (segs : List Seg) (j : JZ), (segs.map (fun g => (g.num : Int))).Pairwise (· < ·) → (∀ g ∈ segs, ∀ x ∈ j.nums, x < (g.num : Int)) →
    (addSegs j segs).nums = j.nums ++ (segs.filter (·.whole)).map (fun g => (g.num : Int)) ∧ (addSegs j segs).texts = j.texts ++ (segs.filter (·.whole)).map (·.t)
  | [], j, _, _ => by simp [addSegs]
  | g :: r, j, hp, hj => by
    rw [List.map_cons, List.pairwise_cons] at hp
    rw [addSegs, List.filter_cons]
    cases hw : g.whole with
    | true =>
      have hn : (g.num : Int) ∉ j.nums := fun h => by
        have := hj g (by simp) _ h
        omega
      have hf : foundZ j (g.num : Int) g.t = { j with nums := j.nums ++ [(g.num : Int)], texts := j.texts ++ [g.t] } := by unfold foundZ; rw [if_neg hn]
      rw [if_pos rfl, if_pos rfl, hf]
      obtain ⟨h1, h2⟩ := addSegs_nums r { j with nums := j.nums ++ [(g.num : Int)], texts := j.texts ++ [g.t] } hp.2 (fun q hq x hx => by
        rcases List.mem_append.1 hx with hx | hx
        · exact hj q (by simp [hq]) x hx
        · rw [List.mem_singleton.1 hx]
          exact hp.1 _ (List.mem_map_of_mem hq))
      rw [h1, h2]
      simp
    | false =>
      rw [if_neg (by decide), if_neg (by decide)]
      exact addSegs_nums r j hp.2 (fun q hq x hx => hj q (by simp [hq]) x hx)
theorem scan_keeps : ∀ (l : List ByteArray) (j : JZ) (k : Nat), (scanAll j k l).nums = j.nums ∧ (scanAll j k l).texts = j.texts
  | [], _, _ => ⟨rfl, rfl⟩
  | s :: r, j, k => by
    rw [scanAll]
    exact scan_keeps r (scanZ j k s) (k + 1)
/-- The journal of such sectors. -/
theorem journal_segs (segs : List Seg) (B : List ByteArray) (hg : ∀ g ∈ segs, g.Ok) (hB : ∀ s ∈ B, (unpZ s).ok = false) (hp : (segs.map (fun g => (g.num : Int))).Pairwise (· < ·)) :
    (journalZ (segs.flatMap (·.c) ++ B)).nums = (segs.filter (·.whole)).map (fun g => (g.num : Int)) ∧ (journalZ (segs.flatMap (·.c) ++ B)).texts = (segs.filter (·.whole)).map (·.t) := by
  have hs := scan_keeps (segs.flatMap (·.c) ++ B) jz0 0
  have he := ends_segs segs (scanAll jz0 0 (segs.flatMap (·.c) ++ B)) B hg hB ((segs.flatMap (·.c) ++ B).length + 1) (by rw [List.length_map]; omega)
  unfold journalZ
  rw [he]
  have hn : (scanAll jz0 0 (segs.flatMap (·.c) ++ B)).nums = [] := hs.1
  have ht : (scanAll jz0 0 (segs.flatMap (·.c) ++ B)).texts = [] := hs.2
  have h := addSegs_nums segs (scanAll jz0 0 (segs.flatMap (·.c) ++ B)) hp (fun g _ x hx => by rw [hn] at hx; cases hx)
  rw [hn, ht] at h
  exact h
end Go.Jn
