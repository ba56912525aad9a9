/- Contracts: the edits of two lists in the order of their places (slices.SortFunc over edits); the edits of one list that are not in another. -/
import Derived.Test.YthdafajhohdkoaaMgShelf
import Derived.Test.YthdafajhohdkoaaMgG
namespace Go.Proofs.Ythdafajhohdkoaa
open Go.RowKit Go.Lab Go.Shelf Go.Sort
set_option maxRecDepth 100000 in
set_option maxHeartbeats 1000000 in
theorem without_any (va vb : Value) (av bv : List EV) (w : World) (ha : EvAt w va av) (hb : EvAt w vb bv) (hl : av.length ≤ 1048576) :
    Calls Try.prog 43 #[va, vb] w fun e w' => ∃ u, e = .returned u ∧ EvAt w' u (av.filter fun x => !memB (bv.map (·.1)) x.1) ∧ Below w.heap.size w w' := by
  obtain ⟨a, c, rfl, _, _⟩ := ha.form
  obtain ⟨b, cb, rfl, _, _⟩ := hb.form
  have hbw : Below w.heap.size w (w.alloc (.cells #[.slice b bv.length cb] 25)) := (Below.refl _ _).alloc (Nat.le_refl _) _
  have HC := hidep (cloneE_any _ av _ (ha.below hbw) hl)
  have HD := hidep (fun W u (hB : Below (w.alloc (.cells #[.slice b bv.length cb] 25)).heap.size (w.alloc (.cells #[.slice b bv.length cb] 25)) W) ho =>
    deleteFuncE_any (w.alloc (.cells #[.slice b bv.length cb] 25)) 62 w.heap.size (memB (bv.map (·.1))) av (enters_of Try.func62 (by kernel_rfl) rfl) (fun x hx => (ha.2 x hx).below hbw)
      (fun X x hx hX => without1_any x.1 x.2 w.heap.size _ bv (0, 0) X ((hX.block _ (by simp)).trans (heap_alloc_new w _)) (((ha.2 x hx).below hbw).below hX) ((hb.below hbw).below hX)) u W hB ho)
  have HB := hidep hbw
  clear ha hb hbw
  generalize av.filter (fun x => !memB (bv.map (·.1)) x.1) = r at *
  go_enter Try.func43, Try.ntmps43
  go_wp2_with (first
    | (go_at_call 61; refine HC.out.mono ?_; rintro e w1 ⟨u1, rfl, ho, hb1⟩)
    | (go_at_call 60; refine (HD.out _ _ hb1 ho).mono ?_; rintro e w2 ⟨u2, rfl, he, hb2⟩)
    | fail)
  go_ret
  exact ⟨_, rfl, he, HB.out.trans (hb2.mono (by simp))⟩
def okE (x : EV) : Prop := 0 ≤ x.1.pos ∧ x.1.pos ≤ 1099511627776 ∧ ∃ a n c, x.2 = .slice a n c
abbrev OE := { x : EV // okE x }
instance : Inhabited OE := ⟨⟨(⟨0, 0, []⟩, .slice none 0 0), by decide, by decide, none, 0, 0, rfl⟩⟩
def encE (x : OE) : List Value := editC x.1.1 x.1.2
def cfE (x y : OE) : Int := x.1.1.pos - y.1.1.pos
theorem ltE (x y : OE) : ltOf cfE x y = decide (x.1.1.pos < y.1.1.pos) := by
  unfold ltOf cfE
  rw [decide_eq_decide]
  omega
theorem swoE : SWO (ltOf cfE) where
  irrefl x := by rw [ltE]; simp
  trans x y z h1 h2 := by rw [ltE] at *; simp at *; omega
  ntrans x y z h1 h2 := by rw [ltE] at *; simp at *; omega
theorem both1_any (x y : OE) (W : World) : Calls Try.prog 74 #[.agg (encE x).toArray, .agg (encE y).toArray] W fun e w' => e = .returned (.int .i64 (cfE x y)) ∧ ∃ q os', w' = grow (W.drewN q) os' := by
  obtain ⟨⟨⟨p, d, i⟩, u⟩, h0, h1, a, n, c, h2⟩ := x
  obtain ⟨⟨⟨p', d', i'⟩, u'⟩, h0', h1', a', n', c', h2'⟩ := y
  simp only at h0 h1 h2 h0' h1' h2'
  subst h2 h2'
  unfold encE editC cfE
  simp only
  go_enter Try.func74, Try.ntmps74
  go_wp2
  go_ret
  exact ⟨rfl, 0, _, by rw [alloc_eq_grow, alloc_eq_grow, grow_grow]; rfl⟩
theorem evC_flat (d : Array OE) (j : Nat) (h : j < d.size * 3) : (evC (d.toList.map (·.1)))[j]? = some (flatK encE 3 d)[j]! := by
  rw [get_flatK encE 3 d j h]
  have hi : j / 3 < d.size := by omega
  have hg := evC_get (d.toList.map (·.1)) (j / 3) (by simpa using hi)
  have hx : d[j / 3]! = d[j / 3] := getElem!_pos d _ hi
  rw [hx]
  simp only [List.getElem_map, Array.getElem_toList] at hg
  obtain ⟨h0, h1, h2⟩ := hg
  have hm : j % 3 = 0 ∨ j % 3 = 1 ∨ j % 3 = 2 := by omega
  have hj : (evC (d.toList.map (·.1)))[j]? = (evC (d.toList.map (·.1)))[j / 3 * 3 + j % 3]? := by congr 1; omega
  rw [hj]
  rcases hm with hm | hm | hm
  · rw [hm, Nat.add_zero, h0]; simp [encE, editC]
  · rw [hm, h1]; simp [encE, editC]
  · rw [hm, h2]; simp [encE, editC]
/-- In the order of their places. -/
def Asc (L : List EV) : Prop := L.Pairwise fun x y => x.1.pos ≤ y.1.pos
theorem asc_of {d : Array OE} (h : SortedIn (ltOf cfE) 0 d.size d) : Asc (d.toList.map (·.1)) := by
  unfold Asc
  rw [List.pairwise_map, List.pairwise_iff_getElem]
  intro i j hi hj hij
  have := h i j (Nat.zero_le _) hij (by simpa using hj)
  rw [ltE] at this
  simp only [Array.getElem_toList]
  rw [getElem!_pos d i (by simpa using hi), getElem!_pos d j (by simpa using hj)] at this
  simp at this
  exact this
theorem perm_of {d d' : Array OE} (h : PermIn 0 d.size d d') : d'.toList.Perm d.toList := by
  obtain ⟨h1, _, h3⟩ := h
  have e1 : d.extract 0 d.size = d := by simp
  have e2 : d'.extract 0 d.size = d' := by rw [← h1]; simp
  rw [e1, e2] at h3
  exact h3
def oeOf : (L : List EV) → (∀ x ∈ L, okE x) → List OE
  | [], _ => []
  | x :: l, h => ⟨x, h x (List.mem_cons_self ..)⟩ :: oeOf l (fun y hy => h y (List.mem_cons_of_mem _ hy))
theorem oeOf_map : ∀ (L : List EV) (h : ∀ x ∈ L, okE x), (oeOf L h).map (·.1) = L
  | [], _ => rfl
  | x :: l, h => by rw [oeOf, List.map_cons, oeOf_map l]
theorem oeOf_len (L : List EV) (h : ∀ x ∈ L, okE x) : (oeOf L h).length = L.length := by
  conv => rhs; rw [← oeOf_map L h]
  rw [List.length_map]
set_option maxHeartbeats 1000000 in
/-- slices.SortFunc over a row of edits of the call's own: the same edits in the order of their places. -/
theorem sortE_any (L : List EV) (hok : ∀ x ∈ L, okE x) (base : Nat) (v : Value) (w : World) (ho : w.ownsRow base 36 3 v L.length (evC L)) (hl : L.length ≤ 1048576) :
    Calls Try.prog 73 #[v, .func (.func 74) #[] #[]] w fun e w' => e = .returned (.tuple #[]) ∧ ∃ L', L'.Perm L ∧ Asc L' ∧ w'.ownsRow base 36 3 v L'.length (evC L') ∧ w.grownBy w' v.ownBlock := by
  rcases Nat.eq_zero_or_pos L.length with h0 | h0
  · have : L = [] := List.eq_nil_of_length_eq_zero h0
    subst this
    obtain ⟨a, c, rfl, _, _⟩ := (Rd.of_own ho).form
    have hn := AnyF.slices_SortFunc_none shSort a c (.func (.func 74) #[] #[]) w
    change Calls Try.prog 73 _ _ _ at hn
    refine hn.mono ?_
    rintro e w' ⟨rfl, rfl⟩
    exact ⟨rfl, [], List.Perm.refl _, List.Pairwise.nil, ho, World.grownBy.refl _ _⟩
  · have ho2 := ho
    rcases ho2.2 with ⟨_, hz⟩ | ⟨g, cap, cur, rfl, hb, hg, hn, hc, hs, ht⟩
    · omega
    · obtain ⟨d, hd⟩ : ∃ d : Array OE, d.toList.map (·.1) = L := ⟨(oeOf L hok).toArray, by simpa using oeOf_map L hok⟩
      have hds : d.size = L.length := by rw [← hd]; simp
      have hcell : ∀ j u, (evC L)[j]? = some u → cur[j]? = some u := fun j u hu => by
        rw [← ht, List.getElem?_take] at hu
        split at hu
        · simpa using hu
        · cases hu
      have hH : HoldsK encE 3 w g 0 d := by
        intro j hj
        rw [size_flatK] at hj
        have := evC_flat d j hj
        rw [hd] at this
        refine ⟨?_, by simp [World.frozen?, hg]⟩
        simp only [World.cell?, hg, Nat.zero_add]
        simpa using hcell j _ this
      have hcon := AnyQ.slices_SortFunc shSort 3 Try.isAgg36 Try.sizeOf36 encE (fun _ => rfl) (fun x v hv => by
          obtain ⟨⟨⟨p, d, i⟩, u⟩, _, _, a, n, c, h2⟩ := x
          simp only at h2
          subst h2
          simp [encE, editC] at hv
          rcases hv with rfl | rfl | rfl <;> rfl) cfE swoE 74 #[] g 0 cap d w (enters_of Try.func74 (by kernel_rfl) rfl) (fun _ _ _ _ x y => both1_any x y _) hH (Go.lt_of_block hg) (by omega)
      change Calls Try.prog 73 _ _ _ at hcon
      rw [hds] at hcon
      refine hcon.mono ?_
      rintro e w' ⟨rfl, d', n, os, hp, hsrt, rfl⟩
      rw [← hds] at hp hsrt
      have hs' : d'.size = d.size := hp.1
      have hblk : (sortWorldK encE 3 w g 0 n d' os).heap[g]? = some (.cells (putCells id 0 (flatK encE 3 d') cur) 36 (0, 0)) := by
        unfold sortWorldK putRowK
        rw [heap_grow_old _ _ (by simpa using Go.lt_of_block hg)]
        simp [putRow, mapBlock, Sort.ahead, Array.getElem?_modify, hg, onCells]
      have hlen : (d'.toList.map (·.1)).length = L.length := by simp [hs', hds]
      refine ⟨rfl, d'.toList.map (·.1), ?_, asc_of (by rw [hs']; exact hsrt), ?_, ?_⟩
      · rw [← hd]; exact (perm_of hp).map _
      · rw [hlen]
        refine ⟨by rw [evC_len, hlen], .inr ⟨g, cap, _, rfl, hb, hblk, hn, hc, by simp [putCells, hs], ?_⟩⟩
        apply List.ext_getElem?
        intro j
        have hcs : cur.size = cap * 3 := hs
        by_cases hj : j < L.length * 3
        · rw [List.getElem?_take_of_lt hj, Array.getElem?_toList]
          have hj' : j < d'.size * 3 := by rw [hs', hds]; exact hj
          rw [evC_flat d' j hj']
          have : j < cap * 3 := Nat.lt_of_lt_of_le hj (Nat.mul_le_mul_right 3 hn)
          simp [putCells, hj', show j < cur.size by omega]
        · rw [List.getElem?_take_eq_none (by omega), List.getElem?_eq_none (by rw [evC_len, hlen]; omega)]
      · refine ⟨rfl, rfl, rfl, by simp [sortWorldK, putRowK], fun k hk hne => ?_⟩
        unfold sortWorldK putRowK
        rw [heap_grow_old _ _ (by simpa using hk)]
        have : g ≠ k := fun e => hne (by simp [Value.ownBlock, e])
        simp [putRow, mapBlock, Sort.ahead, Array.getElem?_modify, this]
end Go.Proofs.Ythdafajhohdkoaa
