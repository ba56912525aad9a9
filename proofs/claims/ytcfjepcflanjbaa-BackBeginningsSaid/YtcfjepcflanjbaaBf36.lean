/- The library's functions, as the shelf's contracts ask it: written by the kit's lay-plain, names turned. -/
import Derived.Shelf.SlSortCmp.NoneTotal
import Derived.Ground.SlsfProg
import Derived.Test.YtcfjepcflanjbaaRows
import Derived.Test.YtcfjepcflanjbaaBf27
import Derived.Test.YtcfjepcflanjbaaBf21
import Derived.Test.YtcfjepcflanjbaaBf18
namespace Go.Proofs.Ytcfjepcflanjbaa
open Go.Shelf
def shSortT_ren : Go.Shelf.Ren := ⟨fun | 6 => 48 | 15 => 71 | 14 => 70 | 28 => 88 | 29 => 89 | 20 => 80 | 21 => 81 | 22 => 82 | 23 => 83 | 24 => 84 | 25 => 85 | 26 => 86 | 27 => 87 | 46 => 93 | 47 => 94 | 48 => 95 | 49 => 96 | 50 => 97 | 57 => 98 | n => n, fun | 22 => 42 | 24 => 33 | 25 => 111 | 3 => 3 | 39 => 121 | 0 => 0 | 53 => 138 | 55 => 140 | 4 => 4 | 46 => 131 | 45 => 130 | 50 => 135 | 5 => 5 | 9 => 9 | 66 => 142 | 70 => 146 | 76 => 148 | 77 => 127 | n => n, fun | n => n⟩
theorem shSortT : Go.Proofs.SlLaysF.n6 Try.prog shSortT_ren := {
  mixed := by kernel_rfl
  f6 := ⟨Try.f48.name, by decide, Try.func48.trans (congrArg some (by kernel_rfl))⟩
  f14 := ⟨Try.f70.name, by decide, Try.func70.trans (congrArg some (by kernel_rfl))⟩
  f15 := Try.func71.trans (congrArg some (by kernel_rfl))
  f20 := ⟨Try.f80.name, by decide, Try.func80.trans (congrArg some (by kernel_rfl))⟩
  f21 := ⟨Try.f81.name, by decide, Try.func81.trans (congrArg some (by kernel_rfl))⟩
  f22 := ⟨Try.f82.name, by decide, Try.func82.trans (congrArg some (by kernel_rfl))⟩
  f23 := ⟨Try.f83.name, by decide, Try.func83.trans (congrArg some (by kernel_rfl))⟩
  f24 := ⟨Try.f84.name, by decide, Try.func84.trans (congrArg some (by kernel_rfl))⟩
  f25 := ⟨Try.f85.name, by decide, Try.func85.trans (congrArg some (by kernel_rfl))⟩
  f26 := ⟨Try.f86.name, by decide, Try.func86.trans (congrArg some (by kernel_rfl))⟩
  f27 := ⟨Try.f87.name, by decide, Try.func87.trans (congrArg some (by kernel_rfl))⟩
  f28 := Try.func88.trans (congrArg some (by kernel_rfl))
  f29 := Try.func89.trans (congrArg some (by kernel_rfl))
  f46 := ⟨Try.f93.name, by decide, Try.func93.trans (congrArg some (by kernel_rfl))⟩
  f47 := Try.func94.trans (congrArg some (by kernel_rfl))
  f48 := Try.func95.trans (congrArg some (by kernel_rfl))
  f49 := ⟨Try.f96.name, by decide, Try.func96.trans (congrArg some (by kernel_rfl))⟩
  f50 := ⟨Try.f97.name, by decide, Try.func97.trans (congrArg some (by kernel_rfl))⟩
  f57 := ⟨Try.f98.name, by decide, Try.func98.trans (congrArg some (by kernel_rfl))⟩
  t0 := Try.underlying0
  a0 := Try.isAgg0
  z0 := Try.sizeOf0
  v0 := Try.zeroValue0
  t3 := Try.underlying3
  a3 := Try.isAgg3
  z3 := Try.sizeOf3
  v3 := Try.zeroValue3
  t4 := Try.underlying4
  a4 := Try.isAgg4
  z4 := Try.sizeOf4
  v4 := Try.zeroValue4
  t5 := Try.underlying5
  a5 := Try.isAgg5
  z5 := Try.sizeOf5
  v5 := Try.zeroValue5
  t9 := Try.underlying9
  a9 := Try.isAgg9
  z9 := Try.sizeOf9
  v9 := Try.zeroValue9
  t22 := Try.underlying42
  a22 := Try.isAgg42
  z22 := Try.sizeOf42
  v22 := Try.zeroValue42
  a24 := Try.isAgg33
  z24 := Try.sizeOf33
  t25 := Try.underlying111
  a25 := Try.isAgg111
  z25 := Try.sizeOf111
  v25 := Try.zeroValue111
  t39 := Try.underlying121
  a39 := Try.isAgg121
  z39 := Try.sizeOf121
  v39 := Try.zeroValue121
  t45 := Try.underlying130
  a45 := Try.isAgg130
  z45 := Try.sizeOf130
  v45 := Try.zeroValue130
  t46 := Try.underlying131
  a46 := Try.isAgg131
  z46 := Try.sizeOf131
  v46 := Try.zeroValue131
  t50 := Try.underlying135
  a50 := Try.isAgg135
  z50 := Try.sizeOf135
  v50 := Try.zeroValue135
  t53 := Try.underlying138
  a53 := Try.isAgg138
  z53 := Try.sizeOf138
  v53 := Try.zeroValue138
  t55 := Try.underlying140
  a55 := Try.isAgg140
  z55 := Try.sizeOf140
  v55 := Try.zeroValue140
  t66 := Try.underlying142
  a66 := Try.isAgg142
  z66 := Try.sizeOf142
  v66 := Try.zeroValue142
  t70 := Try.underlying146
  a70 := Try.isAgg146
  z70 := Try.sizeOf146
  v70 := Try.zeroValue146
  t76 := Try.underlying148
  a76 := Try.isAgg148
  z76 := Try.sizeOf148
  v76 := Try.zeroValue148
  t77 := Try.underlying127
  a77 := Try.isAgg127
  z77 := Try.sizeOf127
  v77 := Try.zeroValue127 }
end Go.Proofs.Ytcfjepcflanjbaa
/- Contract: slices.SortFunc over texts with compare. -/
namespace Go.Proofs.Ytcfjepcflanjbaa
open Go.RowKit Go.Lab Go.Shelf Go.Sort
set_option maxRecDepth 100000
/-- Texts with their values in a world. -/
abbrev TxE (w : World) := { x : List Sym × Value // SymsAt w x.2 x.1 }
instance (w : World) : Inhabited (TxE w) := ⟨⟨([], .slice none 0 0), SymsAt.nil w⟩⟩
def encT {w : World} (x : TxE w) : Value := x.1.2
def cfT {w : World} (x y : TxE w) : Int := textCmp x.1.1 y.1.1
instance (a b : List Sym) : Decidable (LtT a b) := inferInstanceAs (Decidable (textCmp a b = -1))
theorem ltT {w : World} (x y : TxE w) : ltOf cfT x y = decide (LtT x.1.1 y.1.1) := by
  unfold ltOf cfT
  by_cases hlt : LtT x.1.1 y.1.1
  · rw [decide_eq_true hlt]
    have h : textCmp x.1.1 y.1.1 = -1 := hlt
    rw [h]
    rfl
  · rw [decide_eq_false hlt]
    rcases textCmp_cases x.1.1 y.1.1 with h | ⟨h, _⟩ | h
    · exact absurd h hlt
    · rw [h]; rfl
    · rw [h]; rfl
theorem swoT (w : World) : SWO (ltOf (cfT (w := w))) where
  irrefl x := by rw [ltT]; exact decide_eq_false (fun h => h.irrefl)
  trans x y z h1 h2 := by
    rw [ltT] at *
    exact decide_eq_true ((of_decide_eq_true h1).trans (of_decide_eq_true h2))
  ntrans x y z h1 h2 := by
    rw [ltT] at *
    refine decide_eq_false fun h => ?_
    have g1 := of_decide_eq_false h1
    have g2 := of_decide_eq_false h2
    rcases LtT.total x.1.1 y.1.1 with e | e | e
    · exact g1 e
    · rw [e] at h; exact g2 h
    · exact g2 (e.trans h)
theorem permT {α : Type} [Inhabited α] {d d' : Array α} (h : PermIn 0 d.size d d') : d'.toList.Perm d.toList := by
  obtain ⟨h1, _, h3⟩ := h
  have e1 : d.extract 0 d.size = d := by simp
  have e2 : d'.extract 0 d.size = d' := by rw [← h1]; simp
  rw [e1, e2] at h3
  exact h3
theorem ascT {w : World} {d : Array (TxE w)} (h : SortedIn (ltOf cfT) 0 d.size d) : (d.toList.map (·.1.1)).Pairwise LeT := by
  rw [List.pairwise_map, List.pairwise_iff_getElem]
  intro i j hi hj hij
  have := h i j (Nat.zero_le _) hij (by simpa using hj)
  rw [ltT] at this
  simp only [Array.getElem_toList]
  rw [getElem!_pos d i (by simpa using hi), getElem!_pos d j (by simpa using hj)] at this
  have g := of_decide_eq_false this
  intro e
  have h2 := textCmp_neg d[i].1.1 d[j].1.1
  rw [e] at h2
  exact g h2
theorem sortWorld_turned {α : Type} [Inhabited α] (enc : α → Value) (w : World) (g m : Nat) (d : Array α) (os : Array Obj) : Turned (fun b => b = g) w (sortWorld enc w g 0 m d os) := by
  refine ⟨rfl, rfl, rfl, by simp [sortWorld, putRow, mapBlock, Sort.ahead, grow], fun k hk hne => ?_⟩
  unfold sortWorld
  rw [heap_grow_old _ _ (by simpa using hk)]
  have : g ≠ k := fun e => hne e.symm
  simp [putRow, mapBlock, Sort.ahead, Array.getElem?_modify, this]
def txeOf (w : World) : (us : List Value) → (L : List (List Sym)) → (us.length = L.length) → (∀ i (h : i < us.length) (h' : i < L.length), SymsAt w us[i] L[i]) → List (TxE w)
  | u :: us, x :: L, hl, h => ⟨(x, u), h 0 (by simp) (by simp)⟩ :: txeOf w us L (by simpa using hl) (fun i a b => h (i + 1) (by simpa using a) (by simpa using b))
  | _, _, _, _ => []
theorem txeOf_map (w : World) : ∀ (us : List Value) (L : List (List Sym)) (hl : us.length = L.length) (h : ∀ i (h : i < us.length) (h' : i < L.length), SymsAt w us[i] L[i]), (txeOf w us L hl h).map (·.1.2) = us ∧ (txeOf w us L hl h).map (·.1.1) = L
  | [], [], _, _ => ⟨rfl, rfl⟩
  | [], _ :: _, hl, _ => by simp at hl
  | _ :: _, [], hl, _ => by simp at hl
  | u :: us, x :: L, hl, h => by
    have h2 := txeOf_map w us L (by simpa using hl) (fun i a b => h (i + 1) (by simpa using a) (by simpa using b))
    unfold txeOf
    rw [List.map_cons, List.map_cons, h2.1, h2.2]
    exact ⟨rfl, rfl⟩
set_option maxHeartbeats 2000000 in
/-- slices.SortFunc over a row of texts of the call's own: the same texts in their order. -/
theorem sortT_any (base : Nat) (v : Value) (us : List Value) (L : List (List Sym)) (w : World) (ho : w.ownsRow base 33 1 v us.length us) (hl : us.length = L.length) (hs : ∀ i (h : i < us.length) (h' : i < L.length), SymsAt w us[i] L[i]) (hn : us.length ≤ 1000000) :
    Calls Try.prog 48 #[v, .func (.func 49) #[] #[]] w fun e w' => e = .returned (.tuple #[]) ∧ ∃ (us' : List Value) (L' : List (List Sym)), L'.Perm L ∧ L'.Pairwise LeT ∧ us'.length = us.length ∧ us'.length = L'.length ∧ w'.ownsRow base 33 1 v us'.length us' ∧ (∀ i (h : i < us'.length) (h' : i < L'.length), SymsAt w' us'[i] L'[i]) ∧ Turned (fun b => v.ownBlock = some b) w w' := by
  rcases Nat.eq_zero_or_pos us.length with h0 | h0
  · have e1 : us = [] := List.eq_nil_of_length_eq_zero h0
    subst e1
    have e2 : L = [] := List.eq_nil_of_length_eq_zero (by rw [← hl]; rfl)
    subst e2
    obtain ⟨a, c, rfl, _, _⟩ := (Rd.of_own ho).form
    have hn := AnyF.slices_SortFunc_none (ρ := shSortT_ren) { shSortT with } a c (.func (.func 49) #[] #[]) w
    change Calls Try.prog 48 _ _ _ at hn
    refine hn.mono ?_
    rintro e w' ⟨rfl, rfl⟩
    exact ⟨rfl, [], [], List.Perm.refl _, List.Pairwise.nil, rfl, rfl, ho, fun i h => by simp at h, Turned.refl _ _⟩
  · have ho2 := ho
    rcases ho2.2 with ⟨_, hz⟩ | ⟨g, cap, cur, rfl, hb, hg, hnc, hc, hsz, ht⟩
    · omega
    · have hmap := txeOf_map w us L hl hs
      obtain ⟨d, hd⟩ : ∃ d : Array (TxE w), d = (txeOf w us L hl hs).toArray := ⟨_, rfl⟩
      have hd1 : d.toList.map (·.1.2) = us := by rw [hd]; exact hmap.1
      have hd2 : d.toList.map (·.1.1) = L := by rw [hd]; exact hmap.2
      have hds : d.size = us.length := by rw [← hd1]; simp
      have hcell : ∀ j u, us[j]? = some u → cur[j]? = some u := fun j u hu => by
        rw [← ht, List.getElem?_take] at hu
        split at hu
        · simpa using hu
        · cases hu
      have hT : ∀ (d2 : Array (TxE w)) m os, Keeps (fun t => t ≠ 33) w (sortWorld encT w g 0 m d2 os) := fun d2 m os => by
        have h := sortWorld_turned encT w g m d2 os
        exact ⟨h.size, fun b cur2 t fz ht hb2 => h.cells hb2 (fun e => by
          rw [e, hg] at hb2
          injection hb2 with hb2
          injection hb2 with _ h3 _
          exact ht h3.symm)⟩
      have hH : Holds encT w g 0 d := by
        intro j hj
        refine ⟨?_, by simp [World.frozen?, hg]⟩
        have h1 : us[j]? = some (encT d[j]!) := by
          rw [← hd1, List.getElem?_map, Array.getElem?_toList, getElem!_pos d j hj, Array.getElem?_eq_getElem hj]
          rfl
        simp only [World.cell?, hg, Nat.zero_add]
        simpa using hcell j _ h1
      have hcon := Any.slices_SortFunc shSortT encT (fun x => by
          obtain ⟨a, c, h, _, _⟩ := x.2.form
          show (x.1.2).oneCell' = true
          rw [h]
          rfl) cfT (swoT w) 49 #[] g 0 cap d w (enters_of Try.func49 (by kernel_rfl) rfl) (fun m os dk _ x y => by
          refine (compareD_any x.1.2 y.1.2 x.1.1 y.1.1 (sortWorld encT w g 0 m dk os) (x.2.keeps (hT dk m os) (by decide)) (y.2.keeps (hT dk m os) (by decide))).mono ?_
          rintro e w' ⟨rfl, hb⟩
          exact ⟨rfl, hb.grown⟩) hH (Go.lt_of_block hg) (by omega)
      change Calls Try.prog 48 _ _ _ at hcon
      rw [hds] at hcon
      refine hcon.mono ?_
      rintro e w' ⟨rfl, d', n, os, hp, hsrt, rfl⟩
      rw [← hds] at hp hsrt
      have hs' : d'.size = d.size := hp.1
      have hblk : (sortWorld encT w g 0 n d' os).heap[g]? = some (.cells (putCells encT 0 d' cur) 33 (0, 0)) := by
        unfold sortWorld
        rw [heap_grow_old _ _ (by simpa using Go.lt_of_block hg)]
        simp [putRow, mapBlock, Sort.ahead, Array.getElem?_modify, hg, onCells]
      have hl1 : (d'.toList.map (·.1.2)).length = us.length := by simp [hs', hds]
      have hl2 : (d'.toList.map (·.1.1)).length = us.length := by simp [hs', hds]
      refine ⟨rfl, d'.toList.map (·.1.2), d'.toList.map (·.1.1), ?_, ascT (by rw [hs']; exact hsrt), hl1, by rw [hl1, hl2], ?_, fun i h h' => ?_, (sortWorld_turned encT w g n d' os).mono (fun b _ hb => by subst hb; rfl)⟩
      · rw [← hd2]; exact (permT hp).map _
      · rw [hl1]
        refine ⟨by rw [hl1, Nat.mul_one], .inr ⟨g, cap, _, rfl, hb, hblk, hnc, hc, by simp [putCells, hsz], ?_⟩⟩
        apply List.ext_getElem?
        intro j
        have hcs : cur.size = cap * 1 := hsz
        by_cases hj : j < us.length * 1
        · have hj' : j < d'.size := by rw [hs', hds]; omega
          rw [List.getElem?_take_of_lt hj, Array.getElem?_toList, List.getElem?_map, Array.getElem?_toList, Array.getElem?_eq_getElem hj']
          simp [putCells, hj', show j < cur.size by omega, encT]
        · rw [List.getElem?_take_eq_none (by omega), List.getElem?_eq_none (by rw [hl1]; omega)]
      · rw [List.getElem_map, List.getElem_map]
        exact (d'.toList[i]'(by simpa using h)).2.keeps (hT d' n os) (by decide)
end Go.Proofs.Ytcfjepcflanjbaa
