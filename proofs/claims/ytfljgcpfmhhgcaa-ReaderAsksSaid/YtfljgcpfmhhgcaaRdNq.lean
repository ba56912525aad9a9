/- Plain: the code's places and the reference's Needed say the same. -/
import Derived.Test.YtfljgcpfmhhgcaaRdPs
import Derived.Test.YtfljgcpfmhhgcaaRdNe
import Derived.Test.YtfljgcpfmhhgcaaRdPm
namespace Go.Proofs.Ytfljgcpfmhhgcaa
open Go.RowKit Go.Lab Go.Lib
theorem sortZ_sorted (l : List Int) : (sortZ l).Pairwise (· ≤ ·) := by
  have h := List.pairwise_mergeSort (le := fun x y : Int => decide (x ≤ y)) (fun a b c h1 h2 => by simp at *; omega) (fun a b => by simp; omega) l
  exact h.imp (fun h => by simpa using h)
theorem compUp {l : List Int} (hs : l.Pairwise (· ≤ ·)) : ∀ m, m ≤ l.length → (compactUpTo l.toArray m).Pairwise (· < ·) ∧ ∀ x, x ∈ compactUpTo l.toArray m ↔ ∃ j : Nat, j < m ∧ l[j]! = x := by
  have hle : ∀ i j : Nat, i ≤ j → j < l.length → l[i]! ≤ l[j]! := by
    intro i j hij hj
    rcases Nat.lt_or_ge i j with h | h
    · have := (List.pairwise_iff_getElem.1 hs) i j (by omega) hj h
      simpa [getElem!_pos, hj, show i < l.length by omega] using this
    · have : i = j := by omega
      subst this
      exact Int.le_refl _
  intro m
  induction m with
  | zero => intro _; exact ⟨by simp [compactUpTo], fun x => by simp [compactUpTo]⟩
  | succ m ih =>
    intro hm
    obtain ⟨h1, h2⟩ := ih (by omega)
    have hg : ∀ j : Nat, l.toArray[j]! = l[j]! := fun j => by first | simp | rfl
    rw [compactUpTo_succ]
    by_cases hk : keeps l.toArray m = true
    · rw [if_pos hk, hg]
      have hk2 : m = 0 ∨ l[m]! ≠ l[m - 1]! := by
        unfold keeps at hk
        rw [hg, hg] at hk
        exact of_decide_eq_true hk
      refine ⟨?_, fun x => ?_⟩
      · rw [List.pairwise_append]
        refine ⟨h1, by simp, fun a ha b hb => ?_⟩
        rw [List.mem_singleton.1 hb]
        obtain ⟨j, hj, rfl⟩ := (h2 a).1 ha
        have g1 := hle j (m - 1) (by omega) (by omega)
        have g2 := hle (m - 1) m (by omega) (by omega)
        rcases hk2 with hk2 | hk2
        · omega
        · omega
      · rw [List.mem_append, h2, List.mem_singleton]
        constructor
        · rintro (⟨j, hj, rfl⟩ | rfl)
          · exact ⟨j, by omega, rfl⟩
          · exact ⟨m, by omega, rfl⟩
        · rintro ⟨j, hj, rfl⟩
          by_cases hjm : j = m
          · subst hjm
            exact .inr rfl
          · exact .inl ⟨j, by omega, rfl⟩
    · rw [if_neg hk, List.append_nil]
      refine ⟨h1, fun x => ?_⟩
      have hk2 : ¬ (m = 0 ∨ l[m]! ≠ l[m - 1]!) := by
        intro h
        apply hk
        unfold keeps
        rw [hg, hg]
        exact decide_eq_true h
      rw [h2]
      constructor
      · rintro ⟨j, hj, rfl⟩
        exact ⟨j, by omega, rfl⟩
      · rintro ⟨j, hj, rfl⟩
        by_cases hjm : j = m
        · subst hjm
          refine ⟨j - 1, by omega, ?_⟩
          have : ¬ l[j]! ≠ l[j - 1]! := fun h => hk2 (.inr h)
          omega
        · exact ⟨j, by omega, rfl⟩
theorem comp_sorted (l : List Int) : (compZ (sortZ l)).Pairwise (· < ·) ∧ ∀ x, x ∈ compZ (sortZ l) ↔ x ∈ l := by
  obtain ⟨h1, h2⟩ := compUp (sortZ_sorted l) (sortZ l).length (Nat.le_refl _)
  refine ⟨h1, fun x => (h2 x).trans ?_⟩
  rw [← (sortZ_perm l).mem_iff]
  constructor
  · rintro ⟨j, hj, rfl⟩
    rw [getElem!_pos (sortZ l) j hj]
    exact List.getElem_mem hj
  · intro h
    obtain ⟨j, hj, rfl⟩ := List.getElem_of_mem h
    exact ⟨j, hj, getElem!_pos (sortZ l) j hj⟩
theorem nodup_lt2 {l : List Int} (h : l.Pairwise (· < ·)) : l.Nodup := h.imp (fun hlt e => by omega)
theorem perm_of_sub2 : ∀ {a b : List Int}, a.Nodup → (∀ x ∈ a, x ∈ b) → a.length = b.length → a.Perm b
  | [], b, _, _, hl => by rw [List.eq_nil_of_length_eq_zero hl.symm]
  | x :: xs, b, hn, hs, hl => by
    have hx := hs x (List.mem_cons_self ..)
    have h1 := List.perm_cons_erase hx
    have hlen := h1.length_eq
    have h2 := List.nodup_cons.1 hn
    have := perm_of_sub2 (a := xs) (b := b.erase x) h2.2 (fun y hy => (List.mem_erase_of_ne (fun e => h2.1 (by rw [← e]; exact hy))).2 (hs y (List.mem_cons_of_mem _ hy))) (by simp only [List.length_cons] at hl hlen; omega)
    exact (this.cons x).trans h1.symm
/-- Two lists of different numbers with the same members are one in another order. -/
theorem perm_of_same {a b : List Int} (ha : a.Nodup) (hb : b.Nodup) (h : ∀ x, x ∈ a ↔ x ∈ b) : a.Perm b := (List.perm_ext_iff_of_nodup ha hb).2 h
theorem facts_perm (needs : List Int) : (compZ (sortZ needs)).Perm (dedZ needs) :=
  perm_of_same (nodup_lt2 (comp_sorted needs).1) (dedZ_nodup needs) (fun x => ((comp_sorted needs).2 x).trans (dedZ_mem needs x).symm)
/-- The first place of a fact. -/
def FirstAt (L : List Pl) (item f : Int) (k : Nat) : Prop := k < L.length ∧ (lp L k).item = item ∧ (lp L k).fact = f ∧ ∀ j, j < k → ¬ ((lp L j).item = item ∧ (lp L j).fact = f)
theorem want_first {L : List Pl} {item : Int} {facts : List Int} {k : Nat} (hk : k < L.length) : wantZ L item facts k = true ↔ ((lp L k).fact ∈ facts ∧ FirstAt L item (lp L k).fact k) := by
  unfold wantZ newTo hasZ FirstAt
  rw [Bool.and_eq_true, Bool.and_eq_true, decide_eq_true_eq, List.any_eq_true, List.all_eq_true]
  constructor
  · rintro ⟨⟨h1, x, hx, h2⟩, h3⟩
    have : x = (lp L k).fact := by simpa using h2
    refine ⟨by rw [← this]; exact hx, hk, h1, rfl, fun j hj hh => ?_⟩
    have := h3 j (List.mem_range.2 hj)
    simp [hh.1, hh.2] at this
  · rintro ⟨h1, _, h2, _, h3⟩
    refine ⟨⟨h2, _, h1, by simp⟩, fun j hj => ?_⟩
    have := h3 j (List.mem_range.1 hj)
    by_cases hi : (lp L j).item = item
    · have : (lp L j).fact ≠ (lp L k).fact := fun e => this ⟨hi, e⟩
      simp [this]
    · simp [hi]
theorem first_uniq {L : List Pl} {item f : Int} {j k : Nat} (hj : FirstAt L item f j) (hk : FirstAt L item f k) : j = k := by
  rcases Nat.lt_trichotomy j k with h | h | h
  · exact absurd ⟨hj.2.1, hj.2.2.1⟩ (hk.2.2.2 j h)
  · exact h
  · exact absurd ⟨hk.2.1, hk.2.2.1⟩ (hj.2.2.2 k h)
theorem first_of_idx {L : List Pl} {item f : Int} {k : Nat} (h : IdxR (isP item f) L (k : Int)) : FirstAt L item f k := by
  rcases h with ⟨h, _⟩ | ⟨j, hj, hjk, hp, hb⟩
  · omega
  · have : j = k := by omega
    subst this
    have e : lp L j = L[j] := by simp [lp, List.getD, hj]
    unfold isP at hp
    rw [Bool.and_eq_true, decide_eq_true_eq, decide_eq_true_eq] at hp
    refine ⟨hj, by rw [e]; exact hp.1, by rw [e]; exact hp.2, fun i hi hh => ?_⟩
    have hil : i < L.length := by omega
    have e2 : lp L i = L[i] := by simp [lp, List.getD, hil]
    have := hb L[i] (List.mem_take_iff_getElem.2 ⟨i, by omega, rfl⟩)
    rw [e2] at hh
    unfold isP at this
    simp [hh.1, hh.2] at this
theorem needed_mem {L : List Pl} {item : Int} {facts : List Int} {x : Int} : x ∈ neededTo L item facts L.length ↔ ∃ k : Nat, x = (k : Int) ∧ ∃ f ∈ facts, FirstAt L item f k := by
  unfold neededTo
  rw [List.mem_map]
  constructor
  · rintro ⟨k, hk, rfl⟩
    obtain ⟨h1, h2⟩ := List.mem_filter.1 hk
    obtain ⟨h3, h4⟩ := (want_first (List.mem_range.1 h1)).1 h2
    exact ⟨k, rfl, _, h3, h4⟩
  · rintro ⟨k, rfl, f, hf, hk⟩
    refine ⟨k, List.mem_filter.2 ⟨List.mem_range.2 hk.1, (want_first hk.1).2 ?_⟩, rfl⟩
    rw [hk.2.2.1]
    exact ⟨hf, hk⟩
theorem needed_sorted (L : List Pl) (item : Int) (facts : List Int) (n : Nat) : (neededTo L item facts n).Pairwise (· < ·) := by
  unfold neededTo
  rw [List.pairwise_map]
  exact (List.pairwise_lt_range.filter _).imp (fun h => by omega)
/-- With a place for each fact there are as many wanted places as facts; without, fewer. -/
theorem needed_count {L : List Pl} {item : Int} {facts : List Int} (hn : facts.Nodup) : (neededTo L item facts L.length).length = facts.length ↔ ∀ f ∈ facts, ∃ k, FirstAt L item f k := by
  have hmap : ((neededTo L item facts L.length).map fun x => (lp L x.toNat).fact).Nodup := by
    rw [List.Nodup, List.pairwise_map]
    refine (needed_sorted L item facts L.length).imp_of_mem (fun {a b} ha hb hab he => ?_)
    obtain ⟨j, rfl, f, hf, hj⟩ := needed_mem.1 ha
    obtain ⟨k, rfl, g, hg, hk⟩ := needed_mem.1 hb
    simp only [Int.toNat_natCast] at he
    rw [hj.2.2.1, hk.2.2.1] at he
    subst he
    have := first_uniq hj hk
    omega
  have hsub : ∀ y ∈ ((neededTo L item facts L.length).map fun x => (lp L x.toNat).fact), y ∈ facts := by
    intro y hy
    obtain ⟨x, hx, rfl⟩ := List.mem_map.1 hy
    obtain ⟨k, rfl, f, hf, hk⟩ := needed_mem.1 hx
    simp only [Int.toNat_natCast]
    rw [hk.2.2.1]
    exact hf
  constructor
  · intro hl f hf
    have hp := perm_of_sub2 hmap hsub (by rw [List.length_map]; exact hl)
    obtain ⟨x, hx, rfl⟩ := List.mem_map.1 (hp.mem_iff.2 hf)
    obtain ⟨k, rfl, g, hg, hk⟩ := needed_mem.1 hx
    simp only [Int.toNat_natCast]
    rw [hk.2.2.1]
    exact ⟨k, hk⟩
  · intro h
    have hp : ((neededTo L item facts L.length).map fun x => (lp L x.toNat).fact).Perm facts := perm_of_same hmap hn (fun y => ⟨hsub y, fun hy => by
      obtain ⟨k, hk⟩ := h y hy
      refine List.mem_map.2 ⟨(k : Int), needed_mem.2 ⟨k, rfl, y, hy, hk⟩, ?_⟩
      simp only [Int.toNat_natCast]
      exact hk.2.2.1⟩)
    have := hp.length_eq
    rwa [List.length_map] at this
theorem first_exists {L : List Pl} {item f : Int} (h : ∃ x ∈ L, isP item f x = true) : ∃ k, FirstAt L item f k := by
  obtain ⟨x, hx, hp⟩ := h
  have hl : (List.findIdx (isP item f) L) < L.length := List.findIdx_lt_length_of_exists ⟨x, hx, hp⟩
  refine ⟨List.findIdx (isP item f) L, first_of_idx (.inr ⟨_, hl, rfl, List.findIdx_getElem (w := hl), fun y hy => ?_⟩)⟩
  obtain ⟨i, hi, rfl⟩ := List.mem_take_iff_getElem.1 hy
  have := List.not_of_lt_findIdx (xs := L) (p := isP item f) (i := i) (by omega)
  simpa using this
theorem places_needed {L : List Pl} {item : Int} {needs o o' : List Int} {ez ez' : Int} (h : PlacesR L item (compZ (sortZ needs)) o ez) (h' : NeededR L item (dedZ needs) o' ez') : o = o' ∧ ez = ez' := by
  have hp := facts_perm needs
  have hn := dedZ_nodup needs
  have hlen := hp.length_eq
  rcases h with ⟨h1, rfl, rfl⟩ | ⟨h1, rfl, rfl, f, hf, hno⟩ | ⟨h1, rfl, ks, hkl, hfl, rfl⟩
  · rcases h' with ⟨g1, rfl, rfl⟩ | ⟨g1, _, rfl, rfl⟩ | ⟨g1, _, rfl, rfl⟩
    · exact ⟨rfl, rfl⟩
    · omega
    · omega
  · have hbad : ¬ ∀ f ∈ dedZ needs, ∃ k, FirstAt L item f k := by
      intro hall
      obtain ⟨k, hk⟩ := hall f (hp.mem_iff.1 hf)
      have e : lp L k = L[k]'hk.1 := by simp [lp, List.getD, hk.1]
      have := hno (L[k]'hk.1) (List.getElem_mem _)
      unfold isP at this
      rw [← e] at this
      simp [hk.2.1, hk.2.2.1] at this
    rcases h' with ⟨g1, rfl, rfl⟩ | ⟨g1, _, rfl, rfl⟩ | ⟨g1, g2, rfl, rfl⟩
    · omega
    · exact ⟨rfl, rfl⟩
    · exact absurd ((needed_count hn).1 g2) hbad
  · have hks : ∀ (i : Nat) (h1 : i < ks.length) (h2 : i < (compZ (sortZ needs)).length), ∃ k : Nat, ks[i] = (k : Int) ∧ FirstAt L item (compZ (sortZ needs))[i] k := by
      intro i h1 h2
      obtain ⟨⟨g1, g2⟩, g3⟩ := hfl.2 i h1 h2
      obtain ⟨k, hk⟩ : ∃ k : Nat, ks[i] = (k : Int) := ⟨ks[i].toNat, by omega⟩
      rw [hk] at g3
      exact ⟨k, hk, first_of_idx g3⟩
    have hall : ∀ f ∈ dedZ needs, ∃ k, FirstAt L item f k := by
      intro f hf
      obtain ⟨i, hi, rfl⟩ := List.getElem_of_mem (hp.mem_iff.2 hf)
      obtain ⟨k, _, hk⟩ := hks i (by omega) hi
      exact ⟨k, hk⟩
    have hgood := (needed_count hn).2 hall
    rcases h' with ⟨g1, rfl, rfl⟩ | ⟨g1, g2, rfl, rfl⟩ | ⟨g1, g2, rfl, rfl⟩
    · omega
    · exact absurd hgood g2
    · refine ⟨sortZ_need (perm_of_same ?_ (nodup_lt2 (needed_sorted _ _ _ _)) (fun x => ?_)) (needed_sorted _ _ _ _), rfl⟩
      · rw [List.Nodup, List.pairwise_iff_getElem]
        intro i j hi hj hij he
        obtain ⟨k, hk, hk2⟩ := hks i hi (by omega)
        obtain ⟨m, hm, hm2⟩ := hks j hj (by omega)
        have hkm : k = m := by omega
        subst hkm
        have : (compZ (sortZ needs))[i]'(by omega) = (compZ (sortZ needs))[j]'(by omega) := by rw [← hk2.2.2.1, ← hm2.2.2.1]
        have h3 := (List.pairwise_iff_getElem.1 (comp_sorted needs).1) i j (by omega) (by omega) hij
        omega
      · rw [needed_mem]
        constructor
        · intro hx
          obtain ⟨i, hi, rfl⟩ := List.getElem_of_mem hx
          obtain ⟨k, hk, hk2⟩ := hks i hi (by omega)
          exact ⟨k, hk, _, hp.mem_iff.1 (List.getElem_mem _), hk2⟩
        · rintro ⟨k, rfl, f, hf, hk⟩
          obtain ⟨i, hi, rfl⟩ := List.getElem_of_mem (hp.mem_iff.2 hf)
          obtain ⟨m, hm, hm2⟩ := hks i (by omega) hi
          have := first_uniq hk hm2
          subst this
          rw [← hm]
          exact List.getElem_mem _
end Go.Proofs.Ytfljgcpfmhhgcaa
