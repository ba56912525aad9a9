/- The library's functions, as the shelf's contracts ask it: written by the kit's lay-plain, names turned. -/
import Derived.Shelf.SlSortCmp.NoneTotal
import Derived.Ground.SlsfProg
import Derived.Test.YtcfjepcflanjbaaGreatRows
import Derived.Test.YtcfjepcflanjbaaGreatBr15
import Derived.Test.YtcfjepcflanjbaaGreatBr02
import Derived.Test.YtcfjepcflanjbaaGreatBr07
namespace Go.Proofs.YtcfjepcflanjbaaGreat
open Go.Shelf
def shSortT_ren : Go.Shelf.Ren := ⟨fun | 6 => 107 | 15 => 128 | 14 => 127 | 28 => 146 | 29 => 147 | 20 => 138 | 21 => 139 | 22 => 140 | 23 => 141 | 24 => 142 | 25 => 143 | 26 => 144 | 27 => 145 | 46 => 150 | 47 => 151 | 48 => 152 | 49 => 153 | 50 => 154 | 57 => 155 | n => n, fun | 22 => 42 | 24 => 31 | 25 => 158 | 3 => 3 | 39 => 185 | 0 => 0 | 53 => 202 | 55 => 204 | 4 => 4 | 46 => 195 | 45 => 194 | 50 => 199 | 5 => 5 | 9 => 9 | 66 => 205 | 70 => 209 | 76 => 211 | 77 => 180 | n => n, fun | n => n⟩
theorem shSortT : Go.Proofs.SlLaysF.n6 Tryz.prog shSortT_ren := {
  mixed := by kernel_rfl
  f6 := ⟨Tryz.f107.name, by decide, Tryz.func107.trans (congrArg some (by kernel_rfl))⟩
  f14 := ⟨Tryz.f127.name, by decide, Tryz.func127.trans (congrArg some (by kernel_rfl))⟩
  f15 := Tryz.func128.trans (congrArg some (by kernel_rfl))
  f20 := ⟨Tryz.f138.name, by decide, Tryz.func138.trans (congrArg some (by kernel_rfl))⟩
  f21 := ⟨Tryz.f139.name, by decide, Tryz.func139.trans (congrArg some (by kernel_rfl))⟩
  f22 := ⟨Tryz.f140.name, by decide, Tryz.func140.trans (congrArg some (by kernel_rfl))⟩
  f23 := ⟨Tryz.f141.name, by decide, Tryz.func141.trans (congrArg some (by kernel_rfl))⟩
  f24 := ⟨Tryz.f142.name, by decide, Tryz.func142.trans (congrArg some (by kernel_rfl))⟩
  f25 := ⟨Tryz.f143.name, by decide, Tryz.func143.trans (congrArg some (by kernel_rfl))⟩
  f26 := ⟨Tryz.f144.name, by decide, Tryz.func144.trans (congrArg some (by kernel_rfl))⟩
  f27 := ⟨Tryz.f145.name, by decide, Tryz.func145.trans (congrArg some (by kernel_rfl))⟩
  f28 := Tryz.func146.trans (congrArg some (by kernel_rfl))
  f29 := Tryz.func147.trans (congrArg some (by kernel_rfl))
  f46 := ⟨Tryz.f150.name, by decide, Tryz.func150.trans (congrArg some (by kernel_rfl))⟩
  f47 := Tryz.func151.trans (congrArg some (by kernel_rfl))
  f48 := Tryz.func152.trans (congrArg some (by kernel_rfl))
  f49 := ⟨Tryz.f153.name, by decide, Tryz.func153.trans (congrArg some (by kernel_rfl))⟩
  f50 := ⟨Tryz.f154.name, by decide, Tryz.func154.trans (congrArg some (by kernel_rfl))⟩
  f57 := ⟨Tryz.f155.name, by decide, Tryz.func155.trans (congrArg some (by kernel_rfl))⟩
  t0 := Tryz.underlying0
  a0 := Tryz.isAgg0
  z0 := Tryz.sizeOf0
  v0 := Tryz.zeroValue0
  t3 := Tryz.underlying3
  a3 := Tryz.isAgg3
  z3 := Tryz.sizeOf3
  v3 := Tryz.zeroValue3
  t4 := Tryz.underlying4
  a4 := Tryz.isAgg4
  z4 := Tryz.sizeOf4
  v4 := Tryz.zeroValue4
  t5 := Tryz.underlying5
  a5 := Tryz.isAgg5
  z5 := Tryz.sizeOf5
  v5 := Tryz.zeroValue5
  t9 := Tryz.underlying9
  a9 := Tryz.isAgg9
  z9 := Tryz.sizeOf9
  v9 := Tryz.zeroValue9
  t22 := Tryz.underlying42
  a22 := Tryz.isAgg42
  z22 := Tryz.sizeOf42
  v22 := Tryz.zeroValue42
  a24 := Tryz.isAgg31
  z24 := Tryz.sizeOf31
  t25 := Tryz.underlying158
  a25 := Tryz.isAgg158
  z25 := Tryz.sizeOf158
  v25 := Tryz.zeroValue158
  t39 := Tryz.underlying185
  a39 := Tryz.isAgg185
  z39 := Tryz.sizeOf185
  v39 := Tryz.zeroValue185
  t45 := Tryz.underlying194
  a45 := Tryz.isAgg194
  z45 := Tryz.sizeOf194
  v45 := Tryz.zeroValue194
  t46 := Tryz.underlying195
  a46 := Tryz.isAgg195
  z46 := Tryz.sizeOf195
  v46 := Tryz.zeroValue195
  t50 := Tryz.underlying199
  a50 := Tryz.isAgg199
  z50 := Tryz.sizeOf199
  v50 := Tryz.zeroValue199
  t53 := Tryz.underlying202
  a53 := Tryz.isAgg202
  z53 := Tryz.sizeOf202
  v53 := Tryz.zeroValue202
  t55 := Tryz.underlying204
  a55 := Tryz.isAgg204
  z55 := Tryz.sizeOf204
  v55 := Tryz.zeroValue204
  t66 := Tryz.underlying205
  a66 := Tryz.isAgg205
  z66 := Tryz.sizeOf205
  v66 := Tryz.zeroValue205
  t70 := Tryz.underlying209
  a70 := Tryz.isAgg209
  z70 := Tryz.sizeOf209
  v70 := Tryz.zeroValue209
  t76 := Tryz.underlying211
  a76 := Tryz.isAgg211
  z76 := Tryz.sizeOf211
  v76 := Tryz.zeroValue211
  t77 := Tryz.underlying180
  a77 := Tryz.isAgg180
  z77 := Tryz.sizeOf180
  v77 := Tryz.zeroValue180 }
end Go.Proofs.YtcfjepcflanjbaaGreat
/- Contract: slices.SortFunc over texts with compare. -/
namespace Go.Proofs.YtcfjepcflanjbaaGreat
open Go.RowKit Go.Lab Go.Shelf Go.Sort
set_option maxRecDepth 100000
abbrev TxE (w : World) := { x : List Sym × Value // SymsAt w x.2 x.1 }
instance (w : World) : Inhabited (TxE w) := ⟨⟨([], .slice none 0 0), SymsAt.nil w⟩⟩
def encT {w : World} (x : TxE w) : Value := x.1.2
def cfT {w : World} (x y : TxE w) : Int := zq13 x.1.1 y.1.1
instance (a b : List Sym) : Decidable (LtT a b) := inferInstanceAs (Decidable (zq13 a b = -1))
theorem ltT {w : World} (x y : TxE w) : ltOf cfT x y = decide (LtT x.1.1 y.1.1) := by
  unfold ltOf cfT
  by_cases hlt : LtT x.1.1 y.1.1
  · rw [decide_eq_true hlt]
    have h : zq13 x.1.1 y.1.1 = -1 := hlt
    rw [h]
    rfl
  · rw [decide_eq_false hlt]
    rcases zq58 x.1.1 y.1.1 with h | ⟨h, _⟩ | h
    · exact absurd h hlt
    · rw [h]; rfl
    · rw [h]; rfl
theorem swoT (w : World) : SWO (ltOf (cfT (w := w))) where
  irrefl x := by rw [ltT]; exact decide_eq_false (fun h => h.irrefl)
  trans x y z h1 h2 := by
    rw [ltT] at *
    exact decide_eq_true ((of_decide_eq_true h1).trans (of_decide_eq_true h2))
  ntrans x y z h1 h2 := by
    rw [ltT] at *
    refine decide_eq_false fun h => ?_
    have g1 := of_decide_eq_false h1
    have g2 := of_decide_eq_false h2
    rcases LtT.total x.1.1 y.1.1 with e | e | e
    · exact g1 e
    · rw [e] at h; exact g2 h
    · exact g2 (e.trans h)
theorem permT {α : Type} [Inhabited α] {d d' : Array α} (h : PermIn 0 d.size d d') : d'.toList.Perm d.toList := by
  obtain ⟨h1, _, h3⟩ := h
  have e1 : d.extract 0 d.size = d := by simp
  have e2 : d'.extract 0 d.size = d' := by rw [<- h1]; simp
  rw [e1, e2] at h3
  exact h3
theorem ascT {w : World} {d : Array (TxE w)} (h : SortedIn (ltOf cfT) 0 d.size d) : (d.toList.map (·.1.1)).Pairwise LeT := by
  rw [List.pairwise_map, List.pairwise_iff_getElem]
  intro i j hi hj hij
  have := h i j (Nat.zero_le _) hij (by simpa using hj)
  rw [ltT] at this
  simp only [Array.getElem_toList]
  rw [getElem!_pos d i (by simpa using hi), getElem!_pos d j (by simpa using hj)] at this
  have g := of_decide_eq_false this
  intro e
  have h2 := zq99 d[i].1.1 d[j].1.1
  rw [e] at h2
  exact g h2
theorem sortWorld_turned {α : Type} [Inhabited α] (enc : α -> Value) (w : World) (g m : Nat) (d : Array α) (os : Array Obj) : Turned (fun b => b = g) w (sortWorld enc w g 0 m d os) := by
  refine ⟨rfl, rfl, rfl, by simp [sortWorld, putRow, mapBlock, Sort.ahead, grow], fun k hk hne => ?_⟩
  unfold sortWorld
  rw [heap_grow_old _ _ (by simpa using hk)]
  have : g ≠ k := fun e => hne e.symm
  simp [putRow, mapBlock, Sort.ahead, Array.getElem?_modify, this]
def txeOf (w : World) : (us : List Value) -> (L : List (List Sym)) -> (us.length = L.length) -> (∀ i (h : i < us.length) (h' : i < L.length), SymsAt w us[i] L[i]) -> List (TxE w)
  | u :: us, x :: L, hl, h => ⟨(x, u), h 0 (by simp) (by simp)⟩ :: txeOf w us L (by simpa using hl) (fun i a b => h (i + 1) (by simpa using a) (by simpa using b))
  | _, _, _, _ => []
theorem txeOf_map (w : World) : ∀ (us : List Value) (L : List (List Sym)) (hl : us.length = L.length) (h : ∀ i (h : i < us.length) (h' : i < L.length), SymsAt w us[i] L[i]), (txeOf w us L hl h).map (·.1.2) = us /\ (txeOf w us L hl h).map (·.1.1) = L
  | [], [], _, _ => ⟨rfl, rfl⟩
  | [], _ :: _, hl, _ => by simp at hl
  | _ :: _, [], hl, _ => by simp at hl
  | u :: us, x :: L, hl, h => by
    have h2 := txeOf_map w us L (by simpa using hl) (fun i a b => h (i + 1) (by simpa using a) (by simpa using b))
    unfold txeOf
    rw [List.map_cons, List.map_cons, h2.1, h2.2]
    exact ⟨rfl, rfl⟩
set_option maxHeartbeats 2000000 in
theorem sortT_any (base : Nat) (v : Value) (us : List Value) (L : List (List Sym)) (w : World) (ho : w.ownsRow base 31 1 v us.length us) (hl : us.length = L.length) (hs : ∀ i (h : i < us.length) (h' : i < L.length), SymsAt w us[i] L[i]) (hn : us.length <= 1000000) :
    Calls Tryz.prog 107 #[v, .func (.func 108) #[] #[]] w fun e w' => e = .returned (.tuple #[]) /\ ∃ (us' : List Value) (L' : List (List Sym)), L'.Perm L /\ L'.Pairwise LeT /\ us'.length = us.length /\ us'.length = L'.length /\ w'.ownsRow base 31 1 v us'.length us' /\ (∀ i (h : i < us'.length) (h' : i < L'.length), SymsAt w' us'[i] L'[i]) /\ Turned (fun b => v.ownBlock = some b) w w' := by
  rcases Nat.eq_zero_or_pos us.length with h0 | h0
  · have e1 : us = [] := List.eq_nil_of_length_eq_zero h0
    subst e1
    have e2 : L = [] := List.eq_nil_of_length_eq_zero (by rw [<- hl]; rfl)
    subst e2
    obtain ⟨a, c, rfl, _, _⟩ := (Rd.of_own ho).form
    have hn := AnyF.slices_SortFunc_none (ρ := shSortT_ren) { shSortT with } a c (.func (.func 108) #[] #[]) w
    change Calls Tryz.prog 107 _ _ _ at hn
    refine hn.mono ?_
    rintro e w' ⟨rfl, rfl⟩
    exact ⟨rfl, [], [], List.Perm.refl _, List.Pairwise.nil, rfl, rfl, ho, fun i h => by simp at h, Turned.refl _ _⟩
  · have ho2 := ho
    rcases ho2.2 with ⟨_, hz⟩ | ⟨g, cap, cur, rfl, hb, hg, hnc, hc, hsz, ht⟩
    · omega
    · have hmap := txeOf_map w us L hl hs
      obtain ⟨d, hd⟩ : ∃ d : Array (TxE w), d = (txeOf w us L hl hs).toArray := ⟨_, rfl⟩
      have hd1 : d.toList.map (·.1.2) = us := by rw [hd]; exact hmap.1
      have hd2 : d.toList.map (·.1.1) = L := by rw [hd]; exact hmap.2
      have hds : d.size = us.length := by rw [<- hd1]; simp
      have hcell : ∀ j u, us[j]? = some u -> cur[j]? = some u := fun j u hu => by
        rw [<- ht, List.getElem?_take] at hu
        split at hu
        · simpa using hu
        · cases hu
      have hT : ∀ (d2 : Array (TxE w)) m os, Keeps (fun t => t ≠ 31) w (sortWorld encT w g 0 m d2 os) := fun d2 m os => by
        have h := sortWorld_turned encT w g m d2 os
        exact ⟨h.size, fun b cur2 t fz ht hb2 => h.cells hb2 (fun e => by
          rw [e, hg] at hb2
          injection hb2 with hb2
          injection hb2 with _ h3 _
          exact ht h3.symm)⟩
      have hH : Holds encT w g 0 d := by
        intro j hj
        refine ⟨?_, by simp [World.frozen?, hg]⟩
        have h1 : us[j]? = some (encT d[j]!) := by
          rw [<- hd1, List.getElem?_map, Array.getElem?_toList, getElem!_pos d j hj, Array.getElem?_eq_getElem hj]
          rfl
        simp only [World.cell?, hg, Nat.zero_add]
        simpa using hcell j _ h1
      have hcon := Any.slices_SortFunc shSortT encT (fun x => by
          obtain ⟨a, c, h, _, _⟩ := x.2.form
          show (x.1.2).oneCell' = true
          rw [h]
          rfl) cfT (swoT w) 108 #[] g 0 cap d w (enters_of Tryz.func108 (by kernel_rfl) rfl) (fun m os dk _ x y => by
          refine (compareD_any x.1.2 y.1.2 x.1.1 y.1.1 (sortWorld encT w g 0 m dk os) (x.2.keeps (hT dk m os) (by decide)) (y.2.keeps (hT dk m os) (by decide))).mono ?_
          rintro e w' ⟨rfl, hb⟩
          exact ⟨rfl, hb.grown⟩) hH (Go.lt_of_block hg) (by omega)
      change Calls Tryz.prog 107 _ _ _ at hcon
      rw [hds] at hcon
      refine hcon.mono ?_
      rintro e w' ⟨rfl, d', n, os, hp, hsrt, rfl⟩
      rw [<- hds] at hp hsrt
      have hs' : d'.size = d.size := hp.1
      have hblk : (sortWorld encT w g 0 n d' os).heap[g]? = some (.cells (putCells encT 0 d' cur) 31 (0, 0)) := by
        unfold sortWorld
        rw [heap_grow_old _ _ (by simpa using Go.lt_of_block hg)]
        simp [putRow, mapBlock, Sort.ahead, Array.getElem?_modify, hg, onCells]
      have hl1 : (d'.toList.map (·.1.2)).length = us.length := by simp [hs', hds]
      have hl2 : (d'.toList.map (·.1.1)).length = us.length := by simp [hs', hds]
      refine ⟨rfl, d'.toList.map (·.1.2), d'.toList.map (·.1.1), ?_, ascT (by rw [hs']; exact hsrt), hl1, by rw [hl1, hl2], ?_, fun i h h' => ?_, (sortWorld_turned encT w g n d' os).mono (fun b _ hb => by subst hb; rfl)⟩
      · rw [<- hd2]; exact (permT hp).map _
      · rw [hl1]
        refine ⟨by rw [hl1, Nat.mul_one], .inr ⟨g, cap, _, rfl, hb, hblk, hnc, hc, by simp [putCells, hsz], ?_⟩⟩
        apply List.ext_getElem?
        intro j
        have hcs : cur.size = cap * 1 := hsz
        by_cases hj : j < us.length * 1
        · have hj' : j < d'.size := by rw [hs', hds]; omega
          rw [List.getElem?_take_of_lt hj, Array.getElem?_toList, List.getElem?_map, Array.getElem?_toList, Array.getElem?_eq_getElem hj']
          simp [putCells, hj', show j < cur.size by omega, encT]
        · rw [List.getElem?_take_eq_none (by omega), List.getElem?_eq_none (by rw [hl1]; omega)]
      · rw [List.getElem_map, List.getElem_map]
        exact (d'.toList[i]'(by simpa using h)).2.keeps (hT d' n os) (by decide)
end Go.Proofs.YtcfjepcflanjbaaGreat
