/- Contract: the reference's Bent: some plan in memory of its own, within bounds. -/
import Derived.Test.YtfljgcpfmhhgcaaRdA
import Derived.Test.YtfljgcpfmhhgcaaRdBr
namespace Go.Proofs.Ytfljgcpfmhhgcaa
open Go.RowKit Go.Lab
attribute [local go_sem] Oper.semAt_some
set_option maxRecDepth 100000
theorem range_map157 (f : Nat → Value) : (List.range 157).map f = [f 0, f 1, f 2, f 3, f 4, f 5, f 6, f 7, f 8, f 9, f 10, f 11, f 12, f 13, f 14, f 15, f 16, f 17, f 18, f 19, f 20, f 21, f 22, f 23, f 24, f 25, f 26, f 27, f 28, f 29, f 30, f 31, f 32, f 33, f 34, f 35, f 36, f 37, f 38, f 39, f 40, f 41, f 42, f 43, f 44, f 45, f 46, f 47, f 48, f 49, f 50, f 51, f 52, f 53, f 54, f 55, f 56, f 57, f 58, f 59, f 60, f 61, f 62, f 63, f 64, f 65, f 66, f 67, f 68, f 69, f 70, f 71, f 72, f 73, f 74, f 75, f 76, f 77, f 78, f 79, f 80, f 81, f 82, f 83, f 84, f 85, f 86, f 87, f 88, f 89, f 90, f 91, f 92, f 93, f 94, f 95, f 96, f 97, f 98, f 99, f 100, f 101, f 102, f 103, f 104, f 105, f 106, f 107, f 108, f 109, f 110, f 111, f 112, f 113, f 114, f 115, f 116, f 117, f 118, f 119, f 120, f 121, f 122, f 123, f 124, f 125, f 126, f 127, f 128, f 129, f 130, f 131, f 132, f 133, f 134, f 135, f 136, f 137, f 138, f 139, f 140, f 141, f 142, f 143, f 144, f 145, f 146, f 147, f 148, f 149, f 150, f 151, f 152, f 153, f 154, f 155, f 156] := rfl
theorem frame157 (t : Array Value) (ds : List Deferred) (h : t.size = 157) : ({ tmps := t, defers := ds } : Act) = { tmps := #[slot t 0, slot t 1, slot t 2, slot t 3, slot t 4, slot t 5, slot t 6, slot t 7, slot t 8, slot t 9, slot t 10, slot t 11, slot t 12, slot t 13, slot t 14, slot t 15, slot t 16, slot t 17, slot t 18, slot t 19, slot t 20, slot t 21, slot t 22, slot t 23, slot t 24, slot t 25, slot t 26, slot t 27, slot t 28, slot t 29, slot t 30, slot t 31, slot t 32, slot t 33, slot t 34, slot t 35, slot t 36, slot t 37, slot t 38, slot t 39, slot t 40, slot t 41, slot t 42, slot t 43, slot t 44, slot t 45, slot t 46, slot t 47, slot t 48, slot t 49, slot t 50, slot t 51, slot t 52, slot t 53, slot t 54, slot t 55, slot t 56, slot t 57, slot t 58, slot t 59, slot t 60, slot t 61, slot t 62, slot t 63, slot t 64, slot t 65, slot t 66, slot t 67, slot t 68, slot t 69, slot t 70, slot t 71, slot t 72, slot t 73, slot t 74, slot t 75, slot t 76, slot t 77, slot t 78, slot t 79, slot t 80, slot t 81, slot t 82, slot t 83, slot t 84, slot t 85, slot t 86, slot t 87, slot t 88, slot t 89, slot t 90, slot t 91, slot t 92, slot t 93, slot t 94, slot t 95, slot t 96, slot t 97, slot t 98, slot t 99, slot t 100, slot t 101, slot t 102, slot t 103, slot t 104, slot t 105, slot t 106, slot t 107, slot t 108, slot t 109, slot t 110, slot t 111, slot t 112, slot t 113, slot t 114, slot t 115, slot t 116, slot t 117, slot t 118, slot t 119, slot t 120, slot t 121, slot t 122, slot t 123, slot t 124, slot t 125, slot t 126, slot t 127, slot t 128, slot t 129, slot t 130, slot t 131, slot t 132, slot t 133, slot t 134, slot t 135, slot t 136, slot t 137, slot t 138, slot t 139, slot t 140, slot t 141, slot t 142, slot t 143, slot t 144, slot t 145, slot t 146, slot t 147, slot t 148, slot t 149, slot t 150, slot t 151, slot t 152, slot t 153, slot t 154, slot t 155, slot t 156], defers := ds } := by
  have e : t = ((List.range 157).map (slot t)).toArray := by
    apply Array.ext
    · simp [h]
    · intro i h1 h2
      simp [slot, Array.getD, h1]
  rw [range_map157] at e
  exact congrArg (fun x => ({ tmps := x, defers := ds } : Act)) e
theorem own_ne {w : World} {B B' : Nat} {e e' : TypeId} {k k' n n' : Nat} {v v' : Value} {xs xs' : List Value} (h : w.ownsRow B e k v n xs) (h' : w.ownsRow B' e' k' v' n' xs') (hne : e ≠ e') (hv : v.ownBlock ≠ none) : v.ownBlock ≠ v'.ownBlock := by
  rcases h.2 with ⟨rfl, _⟩ | ⟨g, c, cur, rfl, _, hg, _⟩
  · exact absurd rfl hv
  · rcases h'.2 with ⟨rfl, _⟩ | ⟨g', c', cur', rfl, _, hg', _⟩
    · simp [Value.ownBlock]
    · intro e
      have e1 : g = g' := by simpa [Value.ownBlock] using e
      subst e1
      rw [hg] at hg'
      injection hg' with h1
      injection h1 with _ h2 _
      exact hne h2
theorem own_box {W : World} {B P k n : Nat} {e t : TypeId} {v : Value} {xs : List Value} {cur : Array Value} {fz : Nat × Nat} (h : W.ownsRow B e k v n xs) (hP : W.heap[P]? = some (.cells cur t fz)) (hne : t ≠ e) : v.ownBlock ≠ some P := by
  rcases h.2 with ⟨rfl, _⟩ | ⟨g, c, cur', rfl, _, hg, _⟩
  · simp [Value.ownBlock]
  · intro e1
    have e2 : g = P := by simpa [Value.ownBlock] using e1
    subst e2
    rw [hg] at hP
    injection hP with h1
    injection h1 with _ h2 _
    exact hne h2.symm
theorem own_lt {W : World} {B k n : Nat} {e : TypeId} {v : Value} {xs : List Value} (h : W.ownsRow B e k v n xs) {P : Nat} (hP : W.heap.size ≤ P) : v.ownBlock ≠ some P := by
  intro e1
  have := (h.lt P e1).2
  omega
theorem bn_row2 {wr w17 : World} {B n k : Nat} {e e2 : TypeId} {v x : Value} {xs : List Value} {o : Obj} (h : wr.ownsRow B e k v n xs) (hg : (wr.alloc o).grownBy w17 (Value.slice (some ⟨wr.heap.size, 0, none⟩) 0 0).ownBlock) : (w17.alloc (.cells #[x] e2)).ownsRow B e k v n xs :=
  ((h.alloc _).kept hg (.inr (own_lt h (Nat.le_refl _)))).alloc _
theorem addr_add0 (g j : Nat) : (⟨g, 0, none⟩ : Addr).add j = ⟨g, j, none⟩ := by unfold Addr.add; split <;> simp_all
/-- Rows, each in a block of its own, none of them that of ov. -/
def BnRows (B : Nat) (W : World) (ov : Value) (us : List Value) (rows : List (List Int)) : Prop :=
  us.length = rows.length ∧ (∀ (k : Nat) (u : Value) (r : List Int), us[k]? = some u → rows[k]? = some r → W.ownsRow B 3 1 u r.length (intsC r) ∧ (∃ g c, u = .slice (some ⟨g, 0, none⟩) r.length c) ∧ u.ownBlock ≠ ov.ownBlock) ∧
    ∀ (j k : Nat) (u v : Value), j < k → us[j]? = some u → us[k]? = some v → u.ownBlock ≠ v.ownBlock
section
variable {B : Nat} {W W' : World} {ov : Value} {us : List Value} {rows : List (List Int)}
theorem BnRows.nil : BnRows B W ov [] [] := ⟨rfl, (fun k u r h => by simp at h), (fun j k u v _ h => by simp at h)⟩
theorem BnRows.mem (h : BnRows B W ov us rows) {u : Value} (hu : u ∈ us) : ∃ (k : Nat) (r : List Int), us[k]? = some u ∧ rows[k]? = some r := by
  obtain ⟨k, hk, rfl⟩ := List.getElem_of_mem hu
  exact ⟨k, rows[k]'(by rw [← h.1]; exact hk), List.getElem?_eq_getElem hk, List.getElem?_eq_getElem _⟩
theorem BnRows.kept {row : Option Nat} (h : BnRows B W ov us rows) (hg : W.grownBy W' row) (hr : ∀ u ∈ us, u.ownBlock ≠ row) : BnRows B W' ov us rows :=
  ⟨h.1, fun k u r hu hr' => by
    obtain ⟨h1, h2, h3⟩ := h.2.1 k u r hu hr'
    exact ⟨h1.kept hg (.inr (hr u (List.mem_of_getElem? hu))), h2, h3⟩, h.2.2⟩
theorem BnRows.snoc {v : Value} {r : List Int} (h : BnRows B W ov us rows) (hv : W.ownsRow B 3 1 v r.length (intsC r)) (hf : ∃ g c, v = .slice (some ⟨g, 0, none⟩) r.length c) (ho : v.ownBlock ≠ ov.ownBlock) (hd : ∀ u ∈ us, u.ownBlock ≠ v.ownBlock) : BnRows B W ov (us ++ [v]) (rows ++ [r]) := by
  refine ⟨by simp [h.1], fun k u r' hu hr => ?_, fun j k u v' hjk hu hv' => ?_⟩
  · rw [List.getElem?_append] at hu hr
    split at hu
    · rename_i hk
      rw [if_pos (by rw [← h.1]; exact hk)] at hr
      exact h.2.1 k u r' hu hr
    · rename_i hk
      rw [if_neg (by rw [← h.1]; exact hk)] at hr
      have e1 : v = u := by simpa using (List.mem_of_getElem? hu : u ∈ [v]) |> fun h => (List.mem_singleton.1 h).symm
      have e2 : r = r' := (List.mem_singleton.1 (List.mem_of_getElem? hr)).symm
      subst e1 e2
      exact ⟨hv, hf, ho⟩
  · rw [List.getElem?_append] at hu hv'
    split at hu
    · rename_i hj
      split at hv'
      · exact h.2.2 j k u v' hjk hu hv'
      · have e1 : v' = v := List.mem_singleton.1 (List.mem_of_getElem? hv')
        subst e1
        exact hd u (List.mem_of_getElem? hu)
    · rename_i hj
      rw [if_neg (by omega)] at hv'
      have h1 := (List.getElem?_eq_some_iff.1 hv').1
      simp at h1
      omega
theorem BnRows.tab {rv : Value} (h : BnRows B W ov us rows) (hr : W.ownsRow B 22 1 rv rows.length us) (hb : ∀ r ∈ rows, ∀ x ∈ r, -9223372036854775808 ≤ x ∧ x ≤ 9223372036854775807) : TabOf TkR W rv rows :=
  ⟨us, h.1, (Rd.of_own hr).mono (fun _ ht => .inl ht), fun i u r hu hr' => ⟨(Rd.of_own (h.2.1 i u r hu hr').1).mono (fun _ ht => .inr ht), hb r (List.mem_of_getElem? hr')⟩⟩
theorem BnRows.map (h : BnRows B W ov us rows) (hk : ∀ (u : Value) (n : Nat) (xs : List Value), u ∈ us → W.ownsRow B 3 1 u n xs → u.ownBlock ≠ none → W'.ownsRow B 3 1 u n xs) : BnRows B W' ov us rows :=
  ⟨h.1, fun k u r hu hr' => by
    obtain ⟨h1, ⟨g, c, h2⟩, h3⟩ := h.2.1 k u r hu hr'
    exact ⟨hk u _ _ (List.mem_of_getElem? hu) h1 (by rw [h2]; simp [Value.ownBlock]), ⟨g, c, h2⟩, h3⟩, h.2.2⟩
theorem bn_keep {w17 w37 : World} {o o2 : Obj} {u rv : Value} {n m : Nat} {xs us : List Value} (h : W.ownsRow B 3 1 u n xs) (hu : u.ownBlock ≠ none) (hg : (W.alloc o).grownBy w17 (Value.slice (some ⟨W.heap.size, 0, none⟩) 0 0).ownBlock)
    (hr : (w17.alloc o2).ownsRow B 22 1 rv m us) (hg2 : (w17.alloc o2).grownBy w37 rv.ownBlock) : w37.ownsRow B 3 1 u n xs :=
  have h1 := (((h.alloc _).kept hg (.inr (own_lt h (Nat.le_refl _)))).alloc o2)
  h1.kept hg2 (.inr (own_ne h1 hr (by decide) hu))
theorem bn_box {w17 w37 : World} {o o2 : Obj} {rv : Value} {m P : Nat} {us : List Value} {cur : Array Value} {t : TypeId} (hP : W.heap[P]? = some (.cells cur t)) (ht : t ≠ 22) (hg : (W.alloc o).grownBy w17 (Value.slice (some ⟨W.heap.size, 0, none⟩) 0 0).ownBlock)
    (hr : (w17.alloc o2).ownsRow B 22 1 rv m us) (hg2 : (w17.alloc o2).grownBy w37 rv.ownBlock) : w37.heap[P]? = some (.cells cur t) := by
  have hl := lt_of_block hP
  have h1 : w17.heap[P]? = some (.cells cur t) := (hg.block P (by simp; omega) (fun e => absurd (Option.some.inj (show some P = some W.heap.size from e)) (by omega))).trans ((heap_alloc_old W o P hl).trans hP)
  exact grown_other hr hg2 ((heap_alloc_old w17 o2 P (lt_of_block h1)).trans h1) ht
theorem bn_below {w0 w17 w37 : World} {o o2 : Obj} {rv : Value} {m : Nat} {us : List Value} (hb : Below w0.heap.size w0 W) (hB : w0.heap.size ≤ B) (hg : (W.alloc o).grownBy w17 (Value.slice (some ⟨W.heap.size, 0, none⟩) 0 0).ownBlock)
    (hr : (w17.alloc o2).ownsRow B 22 1 rv m us) (hg2 : (w17.alloc o2).grownBy w37 rv.ownBlock) : Below w0.heap.size w0 w37 := by
  have hs := hb.size
  have h1 : Below w0.heap.size w0 w17 := (hb.alloc hs _).grown hg (by simp; omega) (fun g hg' => by
    have : W.heap.size = g := by simpa [Value.ownBlock] using hg'
    omega)
  exact (h1.alloc h1.size _).grown hg2 (by have := h1.size; simp; omega) (fun g hg' => Nat.le_trans hB (hr.lt g hg').1)
end
theorem tab_take {w : World} {a : Option Addr} {c m : Nat} {rows : List (List Int)} (h : TabOf TkR w (.slice a rows.length c) rows) (hm : m ≤ rows.length) : TabOf TkR w (.slice a m c) (rows.take m) := by
  obtain ⟨vs, h1, h2, h3⟩ := h
  have hl : (rows.take m).length = m := by rw [List.length_take]; omega
  refine ⟨vs.take m, by rw [List.length_take, hl]; omega, ?_, fun i u r hu hr => h3 i u r ?_ ?_⟩
  · rw [hl]
    have := h2.pre hm
    rwa [Nat.mul_one] at this
  · rw [List.getElem?_take] at hu
    split at hu
    · exact hu
    · cases hu
  · rw [List.getElem?_take] at hr
    split at hr
    · exact hr
    · cases hr
/-- Bent's loop: i rows have been copied. -/
def BnI (w : World) (B P4 P8 : Nat) (ov : Value) (o : List Int) (s : Int) (gl : Value) (tb : List (List Int)) (s9 s10 : Value) (wr : World) : Prop :=
  ∃ (i : Nat) (us : List Value), i ≤ tb.length ∧ s10 = .int .i64 (i : Nat) ∧ wr.ownsRow B 22 1 s9 i us ∧ BnRows B wr ov us (tb.take i) ∧ wr.ownsRow B 3 1 ov o.length (intsC o) ∧
    wr.heap[P4]? = some (.cells #[ov, .int .i64 s, gl] 39) ∧ wr.heap[P8]? = some (.cells #[.slice none 0 0, .int .i64 0, .slice none 0 0] 39) ∧ Below w.heap.size w wr
/-- A plan in memory. -/
def BnP (w : World) (P4 : Nat) (M : Int) (n m : Nat) (W : World) : Prop :=
  ∃ (vo : Value) (o : List Int) (s : Int) (vl : Value) (tb : List (List Int)), W.heap[P4]? = some (.cells #[vo, .int .i64 s, vl] 39) ∧ IntsOf TkR W vo o ∧ TabOf TkR W vl tb ∧ o.length ≤ n + 1 ∧ tb.length ≤ m ∧ (∀ r ∈ tb, r.length ≤ 1000 ∧ ∀ x ∈ r, -(M + 4) ≤ x ∧ x ≤ M + 4) ∧ Below w.heap.size w W
/-- What holds behind Bent's choice. -/
def BnM (w : World) (P4 P8 : Nat) (M : Int) (n m : Nat) (a : Act) (W : World) : Prop :=
  a.tmps.size = 157 ∧ a.defers = [] ∧ slot a.tmps 4 = .pointer (some ⟨P4, 0, none⟩) ∧ slot a.tmps 8 = .pointer (some ⟨P8, 0, none⟩) ∧ W.heap[P8]? = some (.cells #[.slice none 0 0, .int .i64 0, .slice none 0 0] 39) ∧ BnP w P4 M n m W
set_option maxHeartbeats 40000000 in
theorem bent30_any (o : List Int) (s : Int) (tb : List (List Int)) (vo vl : Value) (at_ how by_ M : Int) (hM : 0 ≤ M ∧ M ≤ 1152921504606846000) (hT : ∀ r ∈ tb, r.length ≤ 1000 ∧ ∀ x ∈ r, -M ≤ x ∧ x ≤ M) (hol : o.length ≤ 1000) (htl : tb.length ≤ 1000)
    (hat : -9223372036854775808 ≤ at_ ∧ at_ ≤ 9223372036854775807) (hhow : -9223372036854775808 ≤ how ∧ how ≤ 9223372036854775807) (hby : -9223372036854775808 ≤ by_ ∧ by_ ≤ 9223372036854775807) (w : World) (ho : IntsAt w vo o) (hl : TabAt w vl tb) :
    Calls Try.prog 22 #[planV vo s vl, .int .i64 at_, .int .i64 how, .int .i64 by_] w fun e w' => ∃ (vo' : Value) (o' : List Int) (s' : Int) (vl' : Value) (tb' : List (List Int)), e = .returned (planV vo' s' vl') ∧ IntsOf TkR w' vo' o' ∧ TabOf TkR w' vl' tb' ∧ o'.length ≤ o.length + 1 ∧ tb'.length ≤ tb.length ∧ (∀ r ∈ tb', r.length ≤ 1000 ∧ ∀ x ∈ r, -(M + 4) ≤ x ∧ x ≤ M + 4) ∧ Below w.heap.size w w' := by
  obtain ⟨oa, oc, rfl, hco, hmo⟩ := ho.1.form
  obtain ⟨g, f, rfl, hcf, hmf⟩ := TabOf.form hl
  unfold maxLen at hmf hmo
  unfold planV
  have HO := hidep ho
  have HL := hidep hl
  have HT := hidep hT
  clear ho hl hT
  go_enter Try.func22, Try.ntmps22
  go_upto_region 1 with (fail)
  refine wp_abs (fun X => Below w.heap.size w X ∧ X.heap[w.heap.size]? = some (.cells #[.slice oa o.length oc, .int .i64 s, .slice g tb.length f] 39) ∧ X.heap[w.heap.size + 1]? = some (.cells #[.slice none 0 0, .int .i64 0, .slice none 0 0] 39) ∧ X.heap.size = w.heap.size + 2)
    ⟨allocs_below [.cells #[.slice oa o.length oc, .int .i64 s, .slice g tb.length f] 39, .cells #[.slice none 0 0, .int .i64 0, .slice none 0 0] 39] w, allocs_get [.cells #[.slice oa o.length oc, .int .i64 s, .slice g tb.length f] 39, .cells #[.slice none 0 0, .int .i64 0, .slice none 0 0] 39] w 0 _ rfl, allocs_get [.cells #[.slice oa o.length oc, .int .i64 s, .slice g tb.length f] 39, .cells #[.slice none 0 0, .int .i64 0, .slice none 0 0] 39] w 1 _ rfl, allocs_size [.cells #[.slice oa o.length oc, .int .i64 s, .slice g tb.length f] 39, .cells #[.slice none 0 0, .int .i64 0, .slice none 0 0] 39] w⟩ ?_
  rintro W0 ⟨hb0, hq4, hq8, hs0⟩
  obtain ⟨P4, hP4⟩ : ∃ P4, P4 = w.heap.size := ⟨_, rfl⟩
  obtain ⟨P8, hP8⟩ : ∃ P8, P8 = w.heap.size + 1 := ⟨_, rfl⟩
  rw [← hP8] at hq8
  rw [← hP4] at hq4
  rw [← hP8, ← hP4]
  have HP := hidep (show w.heap.size ≤ P4 ∧ w.heap.size ≤ P8 ∧ P4 ≠ P8 ∧ P4 < W0.heap.size ∧ P8 < W0.heap.size from by omega)
  clear hP4 hP8 hs0
  obtain ⟨y0, y1, y2⟩ := box3_cells hq4
  have hE : Below W0.heap.size W0 (W0.alloc (.cells #[] 3)) := (Below.refl _ _).alloc (Nat.le_refl _) _
  have k0 := (hE.cell (p := ⟨P4, 0, none⟩) (lt_of_block hq4)).trans y0
  have hfr0 : (W0.alloc (.cells #[] 3)).ownsRow W0.heap.size 3 1 (.slice (some ⟨W0.heap.size, 0, none⟩) 0 0) 0 [] := World.ownsRow_lit W0 #[] 0 (Nat.le_refl _) (by decide) rfl
  have hoe := (HO.out.below hb0).below hE
  have hb0s := hb0.size
  go_upto_region 2 with (first
    | (at_builtin; refine wpList_append_rd _ rfl (.tmp 16) (.tmp 18) rfl slIntsR W0.heap.size (.slice (some ⟨W0.heap.size, 0, none⟩) 0 0) 0 [] rfl hfr0 _ _ _ _ rfl hoe.1 (intsC_one o) (by unfold maxLen; omega) (by omega) (by simp) ?_; intro v17 w17 hown17 hgr17 hat17 hnl17; simp only [Nat.zero_add, List.nil_append] at hown17; obtain ⟨gb, gc, rfl, hgb1, hgb2⟩ := own_block hown17 (by rw [ne_eq, hnl17]; simp); have z0 := (hgr17.block P4 (by rw [World.size_alloc]; have := HP.out; omega) (fun e => absurd (Option.some.inj (show some P4 = some W0.heap.size from e)) (by have := HP.out; omega))).trans ((hE.block P4 (lt_of_block hq4)).trans hq4); have zf : w17.frozen? ⟨P4, 0, none⟩ = false := (by simp [World.frozen?, z0]); obtain ⟨z1, z2, z3⟩ := box3_cells z0)
    | fail)
  have hown1 : (w17.setCell ⟨P4, 0, none⟩ (.slice (some ⟨gb, 0, none⟩) o.length gc)).ownsRow W0.heap.size 3 1 (.slice (some ⟨gb, 0, none⟩) o.length gc) o.length (intsC o) := hown17.kept (grownBy_setC w17 P4 0 _) (.inr (by simp [Value.ownBlock]; have := HP.out; omega))
  have hq41 : (w17.setCell ⟨P4, 0, none⟩ (.slice (some ⟨gb, 0, none⟩) o.length gc)).heap[P4]? = some (.cells #[.slice (some ⟨gb, 0, none⟩) o.length gc, .int .i64 s, .slice g tb.length f] 39) := heap_set z0 0 _
  have hT1 : Turned (fun b => b = P4) W0 (w17.setCell ⟨P4, 0, none⟩ (.slice (some ⟨gb, 0, none⟩) o.length gc)) := Turned.setCell ⟨hgr17.os.trans hE.os, hgr17.tape.trans hE.tape, hgr17.output.trans hE.output, Nat.le_trans hE.size hgr17.size, fun b hb _ => (hgr17.block b (Nat.lt_of_lt_of_le hb hE.size) (fun e => absurd (Option.some.inj (show some b = some W0.heap.size from e)) (by omega))).trans (hE.block b hb)⟩ _ _ (.inr rfl)
  refine wp_abs (fun X => X.ownsRow W0.heap.size 3 1 (.slice (some ⟨gb, 0, none⟩) o.length gc) o.length (intsC o) ∧ X.heap[P4]? = some (.cells #[.slice (some ⟨gb, 0, none⟩) o.length gc, .int .i64 s, .slice g tb.length f] 39) ∧ Turned (fun b => b = P4) W0 X) ⟨hown1, hq41, hT1⟩ ?_
  rintro W1 ⟨hownO, hq41, hT1⟩
  have hq81 := hT1.cells hq8 (by have := HP.out; omega)
  have hb1 : Below w.heap.size w W1 := ⟨hT1.os.trans hb0.os, hT1.tape.trans hb0.tape, hT1.output.trans hb0.output, Nat.le_trans hb0.size hT1.size, fun b hb => (hT1.block b (Nat.lt_of_lt_of_le hb hb0.size) (by have := HP.out; omega)).trans (hb0.block b hb)⟩
  have HB0 := hidep (show w.heap.size ≤ W0.heap.size ∧ W0.heap.size ≤ W1.heap.size from ⟨hb0.size, hT1.size⟩)
  obtain ⟨B, hB⟩ : ∃ B, B = W0.heap.size := ⟨_, rfl⟩
  rw [← hB] at hownO HB0 HP
  clear hown1 hT1 hB hown17 hgr17 hat17 hnl17 z0 zf z1 z2 z3 hE k0 hfr0 hoe y0 y1 y2 hq4 hq8 hb0 hgb1 hgb2 hb0s
  go_upto_region 4 with (fail)
  refine wp_loop (LoopI 157 (fun tm ds wr => (slot tm 1) = .int .i64 at_ ∧ (slot tm 2) = .int .i64 how ∧ (slot tm 3) = .int .i64 by_ ∧ (slot tm 4) = .pointer (some ⟨P4, 0, none⟩) ∧ (slot tm 8) = .pointer (some ⟨P8, 0, none⟩) ∧ ds = [] ∧ BnI w B P4 P8 (.slice (some ⟨gb, 0, none⟩) o.length gc) o s (.slice g tb.length f) tb (slot tm 9) (slot tm 10) wr)) (fun a' wr => tb.length - (intOf (a'.tmps.getD 10 undef)).toNat) ?rowsStart ?rowsRound
  case' rowsStart => refine LoopI.mk rfl ?_
  case' rowsRound => (rintro ⟨t, ds⟩ wr ⟨hts, hrel⟩; dsimp only at hts hrel; rw [frame157 t ds hts])
  case rowsStart => exact ⟨rfl, rfl, rfl, rfl, rfl, rfl, 0, [], Nat.zero_le _, rfl, World.ownsRow_nil _ _ _ _, by rw [List.take_zero]; exact BnRows.nil, hownO, hq41, hq81, hb1⟩
  clear hb1 hq41 hq81 hownO
  obtain ⟨h1, h2, h3, h4, h8, hds, i, us, hi, h10, hro, hrows, hownO, hq4, hq8, hbw⟩ := hrel
  subst hds
  obtain ⟨ra, rc, hrv, _, _⟩ := (Rd.of_own hro).form
  rw [hrv] at hro
  rw [h1, h2, h3, h4, h8, hrv, h10]
  clear h1 h2 h3 h4 h8 h10 hts hrv
  obtain ⟨y0, y1, y2⟩ := box3_cells hq4
  have hBw : B ≤ wr.heap.size := by
    obtain ⟨_, h⟩ := hownO.lt gb rfl
    have h2 := (hownO.lt gb rfl).1
    omega
  by_cases hlt : i < tb.length
  · have hi0 : (0 : Int) ≤ (i : Int) := by omega
    have hi1 : (i : Int) < (tb.length : Int) := by omega
    obtain ⟨lb, lp, u, rfl, hlb, hlc, hui⟩ := tab_get (HL.out.below hbw) hlt
    obtain ⟨ua, uc, rfl, huc, hum⟩ := hui.1.form
    have hrl := (HT.out tb[i] (List.getElem_mem hlt)).1
    have hE : Below wr.heap.size wr (wr.alloc (.cells #[] 3)) := (Below.refl _ _).alloc (Nat.le_refl _) _
    have k2 := (hE.cell (p := ⟨P4, 2, none⟩) (lt_of_block hq4)).trans y2
    have kl := (hE.cell (p := ⟨lb, lp + i, none⟩) hlb).trans hlc
    have hfr0 : (wr.alloc (.cells #[] 3)).ownsRow B 3 1 (.slice (some ⟨wr.heap.size, 0, none⟩) 0 0) 0 [] := World.ownsRow_lit wr #[] 0 hBw (by decide) rfl
    have hue := (IntsOf.at hui).below hE
    have hbs := hbw.size
    obtain ⟨rw1, hrw1⟩ : ∃ r, r = tb[i] := ⟨_, rfl⟩
    have hsn : tb.take (i + 1) = tb.take i ++ [rw1] := by rw [hrw1]; exact List.take_succ_eq_append_getElem hlt
    rw [← hrw1] at hue hrl kl huc
    have HSN := hidep hsn
    have HROWS := hidep hrows
    have HOWNO := hidep hownO
    have HRO := hidep hro
    clear hsn hrw1 hrows hownO hro hlc hui
    go_wp2_with (first
      | (at_builtin; refine wpList_append_rd _ rfl (.tmp 29) (.tmp 34) rfl slIntsR B (.slice (some ⟨wr.heap.size, 0, none⟩) 0 0) 0 [] rfl hfr0 _ _ _ _ rfl hue.1 (intsC_one rw1) (by unfold maxLen; omega) (by omega) (by simp; omega) ?_; intro v17 w17 hown17 hgr17 hat17 hnl17; simp only [Nat.zero_add, List.nil_append] at hown17; obtain ⟨rb, rcc, rfl, hgb1, hgb2⟩ := own_block hown17 (by rw [ne_eq, hnl17]; simp))
      | (at_builtin; refine wpList_append_rd _ rfl (.tmp 28) (.tmp 36) rfl slTabR B _ _ _ rfl (bn_row2 HRO.out hgr17) _ _ _ _ rfl (Rd.fresh w17 #[.slice (some ⟨rb, 0, none⟩) rw1.length rcc] 22 1 1 rfl (by decide)) (by intro u hu; simp at hu; rw [hu]; rfl) (by unfold maxLen; omega) (by omega) (by have := hgr17.size; simp at this ⊢; omega) ?_; intro v37 w37 hown37 hgr37 hat37 hnl37; clear hat37 hnl37)
      | fail)
    have hrow18 := bn_row2 (e2 := 22) (x := .slice (some ⟨rb, 0, none⟩) rw1.length rcc) HRO.out hgr17
    have hrb : wr.heap.size ≤ rb := by
      rcases hat17 with h | h
      · have : rb = wr.heap.size := by simpa [Value.ownBlock] using h
        omega
      · have : rb = wr.heap.size + 1 := by simpa [Value.ownBlock] using h
        omega
    have hnew : w37.ownsRow B 3 1 (.slice (some ⟨rb, 0, none⟩) rw1.length rcc) rw1.length (intsC rw1) := (hown17.alloc _).kept hgr37 (.inr (own_ne (hown17.alloc _) hrow18 (by decide) (by simp [Value.ownBlock])))
    refine ⟨LoopI.mk rfl ⟨rfl, rfl, rfl, rfl, rfl, rfl, i + 1, us ++ [Value.slice (some ⟨rb, 0, none⟩) rw1.length rcc], by omega, by show Value.int _ _ = _; go_num, hown37, ?_, bn_keep HOWNO.out (by simp [Value.ownBlock]) hgr17 hrow18 hgr37, bn_box hq4 (by decide) hgr17 hrow18 hgr37, bn_box hq8 (by decide) hgr17 hrow18 hgr37, bn_below hbw (by have := HP.out; have := HB0.out; omega) hgr17 hrow18 hgr37⟩, ?_⟩
    · rw [HSN.out]
      have hro := HROWS.out
      refine (hro.map fun u n xs _ h hn => bn_keep h hn hgr17 hrow18 hgr37).snoc hnew ⟨_, _, rfl⟩ ?_ (fun u hu => ?_)
      · have := (HOWNO.out.lt gb rfl).2
        simp [Value.ownBlock]
        omega
      · obtain ⟨k, r, h1, h2⟩ := hro.mem hu
        obtain ⟨h3, ⟨g, c, rfl⟩, _⟩ := hro.2.1 k u r h1 h2
        have := (h3.lt g rfl).2
        simp [Value.ownBlock]
        omega
    · show tb.length - _ < tb.length - _
      simp [intOf]; omega
  · have hie : i = tb.length := by omega
    subst hie
    rw [List.take_length] at hrows
    have g0 := box_frozen hq4 2
    go_upto_region 8 with (fail)
    have hgbP : (Value.slice (some ⟨gb, 0, none⟩) o.length gc).ownBlock ≠ some P4 := own_box hownO hq4 (by decide)
    have hIO0 : ∀ x ∈ o, -9223372036854775808 ≤ x ∧ x ≤ 9223372036854775807 := HO.out.2
    have hTT := HT.out
    have hrowB : ∀ r ∈ tb, ∀ x ∈ r, -9223372036854775808 ≤ x ∧ x ≤ 9223372036854775807 := fun r hr x hx => by
      have := (hTT r hr).2 x hx
      omega
    refine wp_abs (fun X => X.ownsRow B 3 1 (.slice (some ⟨gb, 0, none⟩) o.length gc) o.length (intsC o) ∧ X.ownsRow B 22 1 (.slice ra tb.length rc) tb.length us ∧ BnRows B X (.slice (some ⟨gb, 0, none⟩) o.length gc) us tb ∧ X.heap[P4]? = some (.cells #[.slice (some ⟨gb, 0, none⟩) o.length gc, .int .i64 s, .slice ra tb.length rc] 39) ∧ X.heap[P8]? = some (.cells #[.slice none 0 0, .int .i64 0, .slice none 0 0] 39) ∧ Below w.heap.size w X)
      ⟨hownO.kept (grownBy_setC wr P4 2 _) (.inr hgbP), hro.kept (grownBy_setC wr P4 2 _) (.inr (own_box hro hq4 (by decide))), hrows.map (fun u n xs _ h _ => h.kept (grownBy_setC wr P4 2 _) (.inr (own_box h hq4 (by decide)))), heap_set hq4 2 _, (Below.heap_setCell wr ⟨P4, 2, none⟩ _ P8 (by have := HP.out; simp only; omega)).trans hq8, hbw.setCell (p := ⟨P4, 2, none⟩) (by have := HP.out; simp only; omega) _⟩ ?_
    clear hownO hro hrows hq4 hq8 hbw y0 y1 y2 g0 hBw
    rintro W2 ⟨hownO, hro, hrows, hq4, hq8, hbw⟩
    obtain ⟨y0, y1, y2⟩ := box3_cells hq4
    have hIO : IntsOf TkR W2 (.slice (some ⟨gb, 0, none⟩) o.length gc) o := ⟨(Rd.of_own hownO).mono (fun t ht => .inr ht), hIO0⟩
    have hTO : TabOf TkR W2 (.slice ra tb.length rc) tb := hrows.tab hro hrowB
    have HIO := hidep hIO
    have HTO := hidep hTO
    have HOWNO := hidep hownO
    have HRO := hidep hro
    have HROWS := hidep hrows
    have HBW := hidep hbw
    have HPC := hidep (show ∀ X, Turned (fun b => b = P4) W2 X → X.heap[P8]? = some (.cells #[.slice none 0 0, .int .i64 0, .slice none 0 0] 39) ∧ IntsOf TkR X (.slice (some ⟨gb, 0, none⟩) o.length gc) o ∧ TabOf TkR X (.slice ra tb.length rc) tb ∧ Below w.heap.size w X from fun X hX => by
      have hkp : Keeps TkR W2 X := ⟨hX.size, fun b cur t fz ht hx => hX.cells hx (fun e => by
        subst e
        rw [hq4] at hx
        injection hx with hx
        injection hx with _ h2 _
        rcases ht with ht | ht <;> rw [ht] at h2 <;> exact absurd h2 (by decide))⟩
      exact ⟨hX.cells hq8 (by have := HP.out; omega), HIO.out.keeps hkp, HTO.out.keeps hkp, ⟨hX.os.trans hbw.os, hX.tape.trans hbw.tape, hX.output.trans hbw.output, Nat.le_trans hbw.size hX.size, fun b hb => (hX.block b (Nat.lt_of_lt_of_le hb hbw.size) (by have := HP.out; omega)).trans (hbw.block b hb)⟩⟩)
    have hgP4 : gb ≠ P4 := fun e => own_box hownO hq4 (by decide) (by rw [e]; rfl)
    have hgP8 : gb ≠ P8 := fun e => own_box hownO hq8 (by decide) (by rw [e]; rfl)
    have hgw : w.heap.size ≤ gb := by
      have := (hownO.lt gb rfl).1
      have := HP.out
      have := HB0.out
      omega
    have hbM : ∀ r ∈ tb, r.length ≤ 1000 ∧ ∀ x ∈ r, -(M + 4) ≤ x ∧ x ≤ M + 4 := fun r hr => ⟨(hTT r hr).1, fun x hx => by
      have := (hTT r hr).2 x hx
      omega⟩
    have HBM := hidep hbM
    have HD0 := hidep (show ∀ (X : World) (s' : Int), Turned (fun b => b = P4) W2 X → X.heap[P4]? = some (.cells #[.slice (some ⟨gb, 0, none⟩) o.length gc, .int .i64 s', .slice ra tb.length rc] 39) → X.heap[P8]? = some (.cells #[.slice none 0 0, .int .i64 0, .slice none 0 0] 39) ∧ BnP w P4 M o.length tb.length X from fun X s' hX h4 =>
      have h := HPC.out X hX
      ⟨h.1, _, o, s', _, tb, h4, h.2.1, h.2.2.1, Nat.le_succ _, Nat.le_refl _, hbM, h.2.2.2⟩)
    have HD1 := hidep (show ∀ (X : World) (o2 : List Int), Turned (fun b => b = gb) W2 X → X.ownsRow B 3 1 (.slice (some ⟨gb, 0, none⟩) o.length gc) o.length (intsC o2) → o2.length = o.length → (∀ x ∈ o2, -9223372036854775808 ≤ x ∧ x ≤ 9223372036854775807) → X.heap[P8]? = some (.cells #[.slice none 0 0, .int .i64 0, .slice none 0 0] 39) ∧ BnP w P4 M o.length tb.length X from fun X o2 hX h1 hl hr =>
      have hbX : Below w.heap.size w X := ⟨hX.os.trans hbw.os, hX.tape.trans hbw.tape, hX.output.trans hbw.output, Nat.le_trans hbw.size hX.size, fun b hb => (hX.block b (Nat.lt_of_lt_of_le hb hbw.size) (by omega)).trans (hbw.block b hb)⟩
      have hrX : BnRows B X (.slice (some ⟨gb, 0, none⟩) o.length gc) us tb := hrows.kept (row := some gb) (hX.grown (fun b _ h => h)) (fun u hu => by
        obtain ⟨k, r, h1, h2⟩ := hrows.mem hu
        exact (hrows.2.1 k u r h1 h2).2.2)
      have hroX := hro.kept (row := some gb) (hX.grown (fun b _ h => h)) (.inr (fun e => own_ne hownO hro (by decide) (by simp [Value.ownBlock]) (by rw [e]; rfl)))
      ⟨hX.cells hq8 (fun e => hgP8 e.symm), _, o2, s, _, tb, hX.cells hq4 (fun e => hgP4 e.symm), ⟨by rw [hl]; exact (Rd.of_own h1).mono (fun _ ht => .inr ht), hr⟩, hrX.tab hroX hrowB, by omega, Nat.le_refl _, hbM, hbX⟩)
    have HIO0 := hidep hIO0
    have HROWB := hidep hrowB
    have HTT := hidep hTT
    clear hownO hro hrows hIO hTO hbw hIO0 hrowB hTT hgbP hlt hi hbM
    obtain ⟨hz, hhz⟩ : ∃ hz, hz = aroundZ how 6 := ⟨_, rfl⟩
    have hhr := aroundZ_rng how 6 (by decide)
    have HAR := hidep (fun X => around_any how 6 X hhow.1 hhow.2)
    rw [← hhz] at hhr HAR
    clear hhz
    go_upto_block 2 with (first
      | (go_at_call 15; refine (HAR.out _).mono ?_; rintro e w9 ⟨rfl, rfl⟩)
      | fail)
    clear HAR
    refine wp_join (BnM w P4 P8 M o.length tb.length) ?first ?_
    case first =>
      intro K' hMK
      by_cases c0 : hz = 0
      · have b0 : (hz == 0) = true := by simp [c0]
        clear c0 hhr
        obtain ⟨r5, hr5⟩ : ∃ r, r = aroundZ by_ 5 := ⟨_, rfl⟩
        have HA5 := hidep (fun X => around_any by_ 5 X hby.1 hby.2)
        rw [← hr5] at HA5
        clear hr5
        have g1 := box_frozen hq4 1
        go_upto_region 15 with (fail)
        refine wp_region_noPanic (wp_region_held_drew (S := (fun X => Turned (fun b => b = P4) W2 X)) (by kernel_rfl) ?hS22r15n0 (fun hHeld => ?hR22r15n0))
        case hS22r15n0 => ((try dsimp only); (exact (Turned.refl _ _).drew))
        refine wpAnyH_take (i := 0) (v := ?v22r15n0q1) rfl (by kernel_rfl) (by kernel_rfl) (by kernel_rfl) (fun _ _ _ h => h) (Or.inl ⟨by kernel_rfl, ?hy22r15n0q1⟩) (by assumption) ?hr22r15n0q1
        case hy22r15n0q1 => (intro w hSw; (try dsimp only at hSw); (skip); first | (go_simp; done) | (go_simp; with_reducible rfl))
        refine wpAnyH_take (i := 2) (v := ?v22r15n0q2) rfl (by kernel_rfl) (by kernel_rfl) (by kernel_rfl) (fun _ _ _ h => h) (Or.inl ⟨by kernel_rfl, ?hy22r15n0q2⟩) (by assumption) ?hr22r15n0q2
        case hy22r15n0q2 => (intro w hSw; (try dsimp only at hSw); (skip); first | (go_simp; done) | (go_simp; with_reducible rfl))
        refine wpAnyH_ready (rs := [1, 3]) (by kernel_rfl) (by simp) (AllReadyH.cons rfl (fun K hK => ?hc22r15n0q3) (AllReadyH.cons rfl (fun K hK => ?hc22r15n0q4) AllReadyH.nil))
        case' hc22r15n0q3 =>
          go_simp
          refine hK.out _ _ ?hs22r15n0q3 (fun hHeld22r15n0q3 => ?ht22r15n0q3)
          case hs22r15n0q3 => ((try dsimp only); (first | (with_reducible exact hHeld) | (refine Turned.drew ?_; exact (Turned.refl _ _).setCell ⟨P4, 1, none⟩ _ (.inr rfl))))
          clear hHeld hK
          have hHeld := hHeld22r15n0q3
          clear hHeld22r15n0q3
          refine wpAnyH_ready (rs := [3]) (by kernel_rfl) (by simp) (AllReadyH.cons rfl (fun K hK => ?hc22r15n0q5) AllReadyH.nil)
          go_simp
          (go_at_call 15; refine (HA5.out _).mono ?_; rintro e' w7 ⟨rfl, rfl⟩; (try dsimp only))
          refine hK.out _ _ ?hs22r15n0q5 (fun hHeld22r15n0q5 => ?ht22r15n0q5)
          case hs22r15n0q5 => ((try dsimp only); (first | (with_reducible exact hHeld) | (refine Turned.drew ?_; exact (Turned.refl _ _).setCell ⟨P4, 1, none⟩ _ (.inr rfl))))
          clear hHeld hK
          have hHeld := hHeld22r15n0q5
          clear hHeld22r15n0q5
          refine wpAnyH_take (i := 4) (v := ?v22r15n0q6) rfl (by kernel_rfl) (by kernel_rfl) (by kernel_rfl) (fun _ _ _ h => h) (Or.inl ⟨by kernel_rfl, ?hy22r15n0q6⟩) (by assumption) ?hr22r15n0q6
          case hy22r15n0q6 => (intro w hSw; (try dsimp only at hSw); (skip); first | (go_simp; done) | (go_simp; with_reducible rfl))
          refine wpAnyH_take (i := 5) (v := ?v22r15n0q7) rfl (by kernel_rfl) (by kernel_rfl) (by kernel_rfl) (fun _ _ _ h => h) (Or.inl ⟨by kernel_rfl, ?hy22r15n0q7⟩) (by assumption) ?hr22r15n0q7
          case hy22r15n0q7 => (intro w hSw; (try dsimp only at hSw); (skip); first | (go_simp; done) | (go_simp; with_reducible rfl))
          refine wpAnyH_take (i := 6) (v := ?v22r15n0q8) rfl (by kernel_rfl) (by kernel_rfl) (by kernel_rfl) (fun _ _ _ h => h) (Or.inl ⟨by kernel_rfl, ?hy22r15n0q8⟩) (by assumption) ?hr22r15n0q8
          case hy22r15n0q8 => (intro w hSw; (try dsimp only at hSw); (skip); first | (go_simp; done) | (go_simp; with_reducible rfl))
          refine wpAnyH_ready (rs := [7]) (by kernel_rfl) (by simp) (AllReadyH.cons rfl (fun K hK => ?hc22r15n0q9) AllReadyH.nil)
          go_simp
          refine hK.out _ _ ?hs22r15n0q9 (fun hHeld22r15n0q9 => ?ht22r15n0q9)
          case hs22r15n0q9 => ((try dsimp only); (first | (with_reducible exact hHeld) | (refine Turned.drew ?_; exact (Turned.refl _ _).setCell ⟨P4, 1, none⟩ _ (.inr rfl))))
          clear hHeld hK
          have hHeld := hHeld22r15n0q9
          clear hHeld22r15n0q9
          refine wpAnyH_done (by kernel_rfl) ?_ _
          clear hHeld
          refine NoPanic.normal ?_
        case' hc22r15n0q4 =>
          go_simp
          (go_at_call 15; refine (HA5.out _).mono ?_; rintro e' w7 ⟨rfl, rfl⟩; (try dsimp only))
          refine hK.out _ _ ?hs22r15n0q4 (fun hHeld22r15n0q4 => ?ht22r15n0q4)
          case hs22r15n0q4 => ((try dsimp only); (first | (with_reducible exact hHeld) | (refine Turned.drew ?_; exact (Turned.refl _ _).setCell ⟨P4, 1, none⟩ _ (.inr rfl))))
          clear hHeld hK
          have hHeld := hHeld22r15n0q4
          clear hHeld22r15n0q4
          refine wpAnyH_ready (rs := [1]) (by kernel_rfl) (by simp) (AllReadyH.cons rfl (fun K hK => ?hc22r15n0q10) AllReadyH.nil)
          go_simp
          refine hK.out _ _ ?hs22r15n0q10 (fun hHeld22r15n0q10 => ?ht22r15n0q10)
          case hs22r15n0q10 => ((try dsimp only); (first | (with_reducible exact hHeld) | (refine Turned.drew ?_; exact (Turned.refl _ _).setCell ⟨P4, 1, none⟩ _ (.inr rfl))))
          clear hHeld hK
          have hHeld := hHeld22r15n0q10
          clear hHeld22r15n0q10
          refine wpAnyH_take (i := 4) (v := ?v22r15n0q11) rfl (by kernel_rfl) (by kernel_rfl) (by kernel_rfl) (fun _ _ _ h => h) (Or.inl ⟨by kernel_rfl, ?hy22r15n0q11⟩) (by assumption) ?hr22r15n0q11
          case hy22r15n0q11 => (intro w hSw; (try dsimp only at hSw); (skip); first | (go_simp; done) | (go_simp; with_reducible rfl))
          refine wpAnyH_take (i := 5) (v := ?v22r15n0q12) rfl (by kernel_rfl) (by kernel_rfl) (by kernel_rfl) (fun _ _ _ h => h) (Or.inl ⟨by kernel_rfl, ?hy22r15n0q12⟩) (by assumption) ?hr22r15n0q12
          case hy22r15n0q12 => (intro w hSw; (try dsimp only at hSw); (skip); first | (go_simp; done) | (go_simp; with_reducible rfl))
          refine wpAnyH_take (i := 6) (v := ?v22r15n0q13) rfl (by kernel_rfl) (by kernel_rfl) (by kernel_rfl) (fun _ _ _ h => h) (Or.inl ⟨by kernel_rfl, ?hy22r15n0q13⟩) (by assumption) ?hr22r15n0q13
          case hy22r15n0q13 => (intro w hSw; (try dsimp only at hSw); (skip); first | (go_simp; done) | (go_simp; with_reducible rfl))
          refine wpAnyH_ready (rs := [7]) (by kernel_rfl) (by simp) (AllReadyH.cons rfl (fun K hK => ?hc22r15n0q14) AllReadyH.nil)
          go_simp
          refine hK.out _ _ ?hs22r15n0q14 (fun hHeld22r15n0q14 => ?ht22r15n0q14)
          case hs22r15n0q14 => ((try dsimp only); (first | (with_reducible exact hHeld) | (refine Turned.drew ?_; exact (Turned.refl _ _).setCell ⟨P4, 1, none⟩ _ (.inr rfl))))
          clear hHeld hK
          have hHeld := hHeld22r15n0q14
          clear hHeld22r15n0q14
          refine wpAnyH_done (by kernel_rfl) ?_ _
          clear hHeld
          refine NoPanic.normal ?_
        all_goals (dsimp only [Exit.inBlock, Exit.then]; exact hMK _ _ ⟨rfl, rfl, by kernel_rfl, by kernel_rfl, HD0.out _ (IntKind.i64.wrap (IntKind.i64.wrap (s + r5) - 2)) ((Turned.refl (fun b => b = P4) W2).setCell ⟨P4, 1, none⟩ _ (.inr rfl)).drew (heap_set hq4 1 _)⟩)
      · have b0 : (hz == 0) = false := beq_false_of_ne c0
        by_cases c1 : hz = 1
        · have b1 : (hz == 1) = true := by simp [c1]
          clear c0 c1 hhr HD0
          by_cases hn1 : 1 < o.length
          · obtain ⟨m, hm⟩ : ∃ m, m = o.length - 1 := ⟨_, rfl⟩
            have hwm : IntKind.i64.wrap ((o.length : Int) - 1) = ((m : Nat) : Int) := by rw [show (o.length : Int) - 1 = (m : Int) by omega]; exact IntWalk.i64_in _ (by omega)
            have hrg := aroundZ_rng at_ (m : Int) (by omega)
            have HA := hidep (fun X => around_any at_ (m : Int) X hat.1 hat.2)
            obtain ⟨i, hi⟩ : ∃ i : Nat, aroundZ at_ (m : Int) = (i : Int) := ⟨(aroundZ at_ (m : Int)).toNat, by omega⟩
            rw [hi] at HA hrg
            clear hi
            obtain ⟨k, hk⟩ : ∃ k, k = i + 1 := ⟨_, rfl⟩
            have hwk : IntKind.i64.wrap ((i : Int) + 1) = ((k : Nat) : Int) := by rw [show (i : Int) + 1 = (k : Int) by omega]; exact IntWalk.i64_in _ (by omega)
            have hil : i < o.length := by omega
            have hkl : k < o.length := by omega
            have hi0 : (0 : Int) ≤ (i : Int) := by omega
            have hi1 : (i : Int) < (o.length : Int) := by omega
            have hk0 : (0 : Int) ≤ (k : Int) := by omega
            have hk1 : (k : Int) < (o.length : Int) := by omega
            have hn1i : (1 : Int) < (o.length : Int) := by omega
            clear hk hm
            have hcl := (HOWNO.out.cells (g := gb) rfl)
            have hci := hcl i _ (intsC_get o i hil)
            have hck := hcl k _ (intsC_get o k hkl)
            rw [addr_add0] at hci hck
            obtain ⟨cur, hcur⟩ := ownsRow_cells HOWNO.out rfl
            have hfi : W2.frozen? ⟨gb, i, none⟩ = false := by simp [World.frozen?, hcur]
            have hui := HIO0.out _ (List.getElem_mem hil)
            have huk := HIO0.out _ (List.getElem_mem hkl)
            obtain ⟨ui, hue⟩ : ∃ u, u = o[i] := ⟨_, rfl⟩
            obtain ⟨uk, huk2⟩ : ∃ u, u = o[k] := ⟨_, rfl⟩
            rw [← hue] at hci hui
            rw [← huk2] at hck huk
            clear hue huk2 hcl hcur
            go_upto_region 20 with (first
              | (go_at_call 15; refine (HA.out _).mono ?_; rintro e w9 ⟨rfl, rfl⟩)
              | fail)
            have HQ4 := hidep (show ∀ X, Turned (fun b => b = gb) W2 X → X.heap[P4]? = some (.cells #[.slice (some ⟨gb, 0, none⟩) o.length gc, .int .i64 s, .slice ra tb.length rc] 39) from fun X hX => hX.cells hq4 (fun e => hgP4 e.symm))
            refine wp_region_noPanic (wp_region_held_drew (S := (fun X => Turned (fun b => b = gb) W2 X)) (by kernel_rfl) ?hS22r20n1 (fun hHeld => ?hR22r20n1))
            case hS22r20n1 => ((try dsimp only); (exact (Turned.refl _ _).drew))
            refine wpAnyH_take (i := 0) (v := ?v22r20n1q1) rfl (by kernel_rfl) (by kernel_rfl) (by kernel_rfl) (fun _ _ _ h => h) (Or.inl ⟨by kernel_rfl, ?hy22r20n1q1⟩) (by assumption) ?hr22r20n1q1
            case hy22r20n1q1 => (intro w hSw; (try dsimp only at hSw); (obtain ⟨c1, c2, c3⟩ := box3_cells (HQ4.out w hSw)); first | (go_simp; done) | (go_simp; with_reducible rfl))
            refine wpAnyH_take (i := 1) (v := ?v22r20n1q2) rfl (by kernel_rfl) (by kernel_rfl) (by kernel_rfl) (fun _ _ _ h => h) (Or.inl ⟨by kernel_rfl, ?hy22r20n1q2⟩) (by assumption) ?hr22r20n1q2
            case hy22r20n1q2 => (intro w hSw; (try dsimp only at hSw); (obtain ⟨c1, c2, c3⟩ := box3_cells (HQ4.out w hSw)); first | (go_simp; done) | (go_simp; with_reducible rfl))
            refine wpAnyH_take (i := 2) (v := ?v22r20n1q3) rfl (by kernel_rfl) (by kernel_rfl) (by kernel_rfl) (fun _ _ _ h => h) (Or.inl ⟨by kernel_rfl, ?hy22r20n1q3⟩) (by assumption) ?hr22r20n1q3
            case hy22r20n1q3 => (intro w hSw; (try dsimp only at hSw); (obtain ⟨c1, c2, c3⟩ := box3_cells (HQ4.out w hSw)); first | (go_simp; done) | (go_simp; with_reducible rfl))
            refine wpAnyH_take (i := 3) (v := ?v22r20n1q4) rfl (by kernel_rfl) (by kernel_rfl) (by kernel_rfl) (fun _ _ _ h => h) (Or.inl ⟨by kernel_rfl, ?hy22r20n1q4⟩) (by assumption) ?hr22r20n1q4
            case hy22r20n1q4 => (intro w hSw; (try dsimp only at hSw); (obtain ⟨c1, c2, c3⟩ := box3_cells (HQ4.out w hSw)); first | (go_simp; done) | (go_simp; with_reducible rfl))
            refine wpAnyH_take (i := 4) (v := ?v22r20n1q5) rfl (by kernel_rfl) (by kernel_rfl) (by kernel_rfl) (fun _ _ _ h => h) (Or.inl ⟨by kernel_rfl, ?hy22r20n1q5⟩) (by assumption) ?hr22r20n1q5
            case hy22r20n1q5 => (intro w hSw; (try dsimp only at hSw); (obtain ⟨c1, c2, c3⟩ := box3_cells (HQ4.out w hSw)); first | (go_simp; done) | (go_simp; with_reducible rfl))
            refine wpAnyH_take (i := 5) (v := ?v22r20n1q6) rfl (by kernel_rfl) (by kernel_rfl) (by kernel_rfl) (fun _ _ _ h => h) (Or.inl ⟨by kernel_rfl, ?hy22r20n1q6⟩) (by assumption) ?hr22r20n1q6
            case hy22r20n1q6 => (intro w hSw; (try dsimp only at hSw); (obtain ⟨c1, c2, c3⟩ := box3_cells (HQ4.out w hSw)); first | (go_simp; done) | (go_simp; with_reducible rfl))
            refine wpAnyH_take (i := 6) (v := ?v22r20n1q7) rfl (by kernel_rfl) (by kernel_rfl) (by kernel_rfl) (fun _ _ _ h => h) (Or.inl ⟨by kernel_rfl, ?hy22r20n1q7⟩) (by assumption) ?hr22r20n1q7
            case hy22r20n1q7 => (intro w hSw; (try dsimp only at hSw); (obtain ⟨c1, c2, c3⟩ := box3_cells (HQ4.out w hSw)); first | (go_simp; done) | (go_simp; with_reducible rfl))
            refine wpAnyH_take (i := 7) (v := ?v22r20n1q8) rfl (by kernel_rfl) (by kernel_rfl) (by kernel_rfl) (fun _ _ _ h => h) (Or.inl ⟨by kernel_rfl, ?hy22r20n1q8⟩) (by assumption) ?hr22r20n1q8
            case hy22r20n1q8 => (intro w hSw; (try dsimp only at hSw); (obtain ⟨c1, c2, c3⟩ := box3_cells (HQ4.out w hSw)); first | (go_simp; done) | (go_simp; with_reducible rfl))
            refine wpAnyH_ready (rs := [8]) (by kernel_rfl) (by simp) (AllReadyH.cons rfl (fun K hK => ?hc22r20n1q9) AllReadyH.nil)
            go_simp
            refine hK.out _ _ ?hs22r20n1q9 (fun hHeld22r20n1q9 => ?ht22r20n1q9)
            case hs22r20n1q9 => ((try dsimp only); (first | (with_reducible exact hHeld) | (refine Turned.drew ?_; exact (Turned.refl _ _).setCell ⟨gb, i, none⟩ _ (.inr rfl))))
            clear hHeld hK
            have hHeld := hHeld22r20n1q9
            clear hHeld22r20n1q9
            refine wpAnyH_take (i := 9) (v := ?v22r20n1q10) rfl (by kernel_rfl) (by kernel_rfl) (by kernel_rfl) (fun _ _ _ h => h) (Or.inl ⟨by kernel_rfl, ?hy22r20n1q10⟩) (by assumption) ?hr22r20n1q10
            case hy22r20n1q10 => (intro w hSw; (try dsimp only at hSw); (obtain ⟨c1, c2, c3⟩ := box3_cells (HQ4.out w hSw)); first | (go_simp; done) | (go_simp; with_reducible rfl))
            refine wpAnyH_ready (rs := [10]) (by kernel_rfl) (by simp) (AllReadyH.cons rfl (fun K hK => ?hc22r20n1q11) AllReadyH.nil)
            go_simp
            refine hK.out _ _ ?hs22r20n1q11 (fun hHeld22r20n1q11 => ?ht22r20n1q11)
            case hs22r20n1q11 => ((try dsimp only); (first | (with_reducible exact hHeld) | (refine Turned.drew ?_; exact (Turned.refl _ _).setCell ⟨gb, i, none⟩ _ (.inr rfl))))
            clear hHeld hK
            have hHeld := hHeld22r20n1q11
            clear hHeld22r20n1q11
            refine wpAnyH_done (by kernel_rfl) ?_ _
            clear hHeld
            refine NoPanic.normal ?_
            apply_assumption
            refine wp_cutA 157 (fun tm ds => ds = [] ∧ slot tm 4 = .pointer (some ⟨P4, 0, none⟩) ∧ slot tm 8 = .pointer (some ⟨P8, 0, none⟩) ∧ slot tm 12 = .int .i64 (i : Nat) ∧ slot tm 13 = .int .i64 ui) (by kernel_rfl) (by exact ⟨by kernel_rfl, by kernel_rfl, by kernel_rfl, by kernel_rfl, by kernel_rfl⟩) ?_
            rintro tm2 ds2 h157 ⟨rfl, e4, e8, e12, e13⟩
            rw [frame157 tm2 [] h157, e4, e8, e12, e13]
            clear h157 e4 e8 e12 e13
            refine wp_abs (fun X => Turned (fun b => b = gb) W2 X ∧ X.ownsRow B 3 1 (.slice (some ⟨gb, 0, none⟩) o.length gc) o.length ((intsC o).set i (.int .i64 uk))) ⟨((Turned.refl (fun b => b = gb) W2).setCell ⟨gb, i, none⟩ _ (.inr rfl)).drew, (World.ownsRow.stored HOWNO.out i (.int .i64 uk)).1⟩ ?_
            rintro W20 ⟨hT20, ho20⟩
            have hq20 := HQ4.out W20 hT20
            obtain ⟨z0, z1, z2⟩ := box3_cells hq20
            obtain ⟨cur20, hcur20⟩ := ownsRow_cells ho20 rfl
            have hfk : W20.frozen? ⟨gb, k, none⟩ = false := by simp [World.frozen?, hcur20]
            have hck2 : ∃ x, W20.cell? ⟨gb, k, none⟩ = some x := by
              have h := ho20.cells (g := gb) rfl k _ (List.getElem?_eq_getElem (by simp [intsC]; omega))
              rw [addr_add0] at h
              exact ⟨_, h⟩
            obtain ⟨xk, hck2⟩ := hck2
            clear hck hci hfi hcur20 hq20 HA
            go_wp2
            have hf : ((intsC o).set i (.int .i64 uk)).set k (.int .i64 ui) = intsC ((o.set i uk).set k ui) := by simp [intsC, List.map_set]
            have hro2 := (World.ownsRow.stored ho20 k (.int .i64 ui)).1
            rw [hf] at hro2
            refine ⟨rfl, rfl, by kernel_rfl, by kernel_rfl, HD1.out _ ((o.set i uk).set k ui) (hT20.setCell ⟨gb, k, none⟩ _ (.inr rfl)) hro2 (by simp) (fun x hx => ?_)⟩
            rcases List.mem_or_eq_of_mem_set hx with h | rfl
            · rcases List.mem_or_eq_of_mem_set h with h | rfl
              · exact HIO0.out x h
              · exact huk
            · exact hui
          · have hn1i : ¬ (1 : Int) < (o.length : Int) := by omega
            go_wp2
            exact ⟨rfl, rfl, by kernel_rfl, by kernel_rfl, HD1.out _ o (Turned.refl _ _) HOWNO.out rfl HIO0.out⟩
        · have b1 : (hz == 1) = false := beq_false_of_ne c1
          by_cases c2 : hz = 2
          · have b2 : (hz == 2) = true := by simp [c2]
            clear c0 c1 c2 hhr HD0
            by_cases hn1 : 0 < o.length
            · have hrg := aroundZ_rng at_ (o.length : Int) (by omega)
              have HA := hidep (fun X => around_any at_ (o.length : Int) X hat.1 hat.2)
              obtain ⟨i, hi⟩ : ∃ i : Nat, aroundZ at_ (o.length : Int) = (i : Int) := ⟨(aroundZ at_ (o.length : Int)).toNat, by omega⟩
              rw [hi] at HA hrg
              clear hi
              have hrb := aroundZ_rng by_ 10 (by decide)
              have HA10 := hidep (fun X => around_any by_ 10 X hby.1 hby.2)
              obtain ⟨rb, hrbe⟩ : ∃ r, r = aroundZ by_ 10 := ⟨_, rfl⟩
              rw [← hrbe] at hrb HA10
              clear hrbe
              have hil : i < o.length := by omega
              have hi0 : (0 : Int) ≤ (i : Int) := by omega
              have hi1 : (i : Int) < (o.length : Int) := by omega
              have hn1i : (0 : Int) < (o.length : Int) := by omega
              have hci := HOWNO.out.cells (g := gb) rfl i _ (intsC_get o i hil)
              rw [addr_add0] at hci
              obtain ⟨cur, hcur⟩ := ownsRow_cells HOWNO.out rfl
              have hfi : W2.frozen? ⟨gb, i, none⟩ = false := by simp [World.frozen?, hcur]
              have HQ4 := hidep (show ∀ X, Turned (fun b => b = gb) W2 X → X.heap[P4]? = some (.cells #[.slice (some ⟨gb, 0, none⟩) o.length gc, .int .i64 s, .slice ra tb.length rc] 39) from fun X hX => hX.cells hq4 (fun e => hgP4 e.symm))
              have hro2 := (World.ownsRow.stored HOWNO.out i (.int .i64 rb)).1
              rw [show (intsC o).set i (.int .i64 rb) = intsC (o.set i rb) by simp [intsC, List.map_set]] at hro2
              have HRO2 := hidep hro2
              have HRG := hidep (show ∀ x ∈ o.set i rb, -9223372036854775808 ≤ x ∧ x ≤ 9223372036854775807 from fun x hx => by
                rcases List.mem_or_eq_of_mem_set hx with h | rfl
                · exact HIO0.out x h
                · omega)
              clear hcur hro2
              go_upto_region 24 with (fail)
              refine wp_region_noPanic (wp_region_held_drew (S := (fun X => Turned (fun b => b = gb) W2 X)) (by kernel_rfl) ?hS22r24n2 (fun hHeld => ?hR22r24n2))
              case hS22r24n2 => ((try dsimp only); (exact (Turned.refl _ _).drew))
              refine wpAnyH_take (i := 0) (v := ?v22r24n2q1) rfl (by kernel_rfl) (by kernel_rfl) (by kernel_rfl) (fun _ _ _ h => h) (Or.inl ⟨by kernel_rfl, ?hy22r24n2q1⟩) (by assumption) ?hr22r24n2q1
              case hy22r24n2q1 => (intro w hSw; (try dsimp only at hSw); (obtain ⟨c1, c2, c3⟩ := box3_cells (HQ4.out w hSw)); first | (go_simp; done) | (go_simp; with_reducible rfl))
              refine wpAnyH_take (i := 1) (v := ?v22r24n2q2) rfl (by kernel_rfl) (by kernel_rfl) (by kernel_rfl) (fun _ _ _ h => h) (Or.inl ⟨by kernel_rfl, ?hy22r24n2q2⟩) (by assumption) ?hr22r24n2q2
              case hy22r24n2q2 => (intro w hSw; (try dsimp only at hSw); (obtain ⟨c1, c2, c3⟩ := box3_cells (HQ4.out w hSw)); first | (go_simp; done) | (go_simp; with_reducible rfl))
              refine wpAnyH_take (i := 2) (v := ?v22r24n2q3) rfl (by kernel_rfl) (by kernel_rfl) (by kernel_rfl) (fun _ _ _ h => h) (Or.inl ⟨by kernel_rfl, ?hy22r24n2q3⟩) (by assumption) ?hr22r24n2q3
              case hy22r24n2q3 => (intro w hSw; (try dsimp only at hSw); (obtain ⟨c1, c2, c3⟩ := box3_cells (HQ4.out w hSw)); first | (go_simp; done) | (go_simp; with_reducible rfl))
              refine wpAnyH_take (i := 3) (v := ?v22r24n2q4) rfl (by kernel_rfl) (by kernel_rfl) (by kernel_rfl) (fun _ _ _ h => h) (Or.inl ⟨by kernel_rfl, ?hy22r24n2q4⟩) (by assumption) ?hr22r24n2q4
              case hy22r24n2q4 => (intro w hSw; (try dsimp only at hSw); (obtain ⟨c1, c2, c3⟩ := box3_cells (HQ4.out w hSw)); first | (go_simp; done) | (go_simp; with_reducible rfl))
              refine wpAnyH_take (i := 5) (v := ?v22r24n2q5) rfl (by kernel_rfl) (by kernel_rfl) (by kernel_rfl) (fun _ _ _ h => h) (Or.inl ⟨by kernel_rfl, ?hy22r24n2q5⟩) (by assumption) ?hr22r24n2q5
              case hy22r24n2q5 => (intro w hSw; (try dsimp only at hSw); (obtain ⟨c1, c2, c3⟩ := box3_cells (HQ4.out w hSw)); first | (go_simp; done) | (go_simp; with_reducible rfl))
              refine wpAnyH_ready (rs := [4]) (by kernel_rfl) (by simp) (AllReadyH.cons rfl (fun K hK => ?hc22r24n2q6) AllReadyH.nil)
              go_simp
              (go_at_call 15; refine (HA.out _).mono ?_; rintro e' w7 ⟨rfl, rfl⟩; (try dsimp only))
              refine hK.out _ _ ?hs22r24n2q6 (fun hHeld22r24n2q6 => ?ht22r24n2q6)
              case hs22r24n2q6 => ((try dsimp only); (first | (with_reducible exact hHeld) | (refine Turned.drew ?_; exact (Turned.refl _ _).setCell ⟨gb, i, none⟩ _ (.inr rfl))))
              clear hHeld hK
              have hHeld := hHeld22r24n2q6
              clear hHeld22r24n2q6
              refine wpAnyH_ready (rs := [6]) (by kernel_rfl) (by simp) (AllReadyH.cons rfl (fun K hK => ?hc22r24n2q7) AllReadyH.nil)
              go_simp
              (go_at_call 15; refine (HA10.out _).mono ?_; rintro e' w7 ⟨rfl, rfl⟩; (try dsimp only))
              refine hK.out _ _ ?hs22r24n2q7 (fun hHeld22r24n2q7 => ?ht22r24n2q7)
              case hs22r24n2q7 => ((try dsimp only); (first | (with_reducible exact hHeld) | (refine Turned.drew ?_; exact (Turned.refl _ _).setCell ⟨gb, i, none⟩ _ (.inr rfl))))
              clear hHeld hK
              have hHeld := hHeld22r24n2q7
              clear hHeld22r24n2q7
              refine wpAnyH_take (i := 7) (v := ?v22r24n2q8) rfl (by kernel_rfl) (by kernel_rfl) (by kernel_rfl) (fun _ _ _ h => h) (Or.inl ⟨by kernel_rfl, ?hy22r24n2q8⟩) (by assumption) ?hr22r24n2q8
              case hy22r24n2q8 => (intro w hSw; (try dsimp only at hSw); (obtain ⟨c1, c2, c3⟩ := box3_cells (HQ4.out w hSw)); first | (go_simp; done) | (go_simp; with_reducible rfl))
              refine wpAnyH_ready (rs := [8]) (by kernel_rfl) (by simp) (AllReadyH.cons rfl (fun K hK => ?hc22r24n2q9) AllReadyH.nil)
              go_simp
              refine hK.out _ _ ?hs22r24n2q9 (fun hHeld22r24n2q9 => ?ht22r24n2q9)
              case hs22r24n2q9 => ((try dsimp only); (first | (with_reducible exact hHeld) | (refine Turned.drew ?_; exact (Turned.refl _ _).setCell ⟨gb, i, none⟩ _ (.inr rfl))))
              clear hHeld hK
              have hHeld := hHeld22r24n2q9
              clear hHeld22r24n2q9
              refine wpAnyH_done (by kernel_rfl) ?_ _
              clear hHeld
              refine NoPanic.normal ?_
              all_goals (dsimp only [Exit.inBlock, Exit.then]; exact hMK _ _ ⟨rfl, rfl, by kernel_rfl, by kernel_rfl, HD1.out _ (o.set i rb) ((Turned.refl (fun b => b = gb) W2).setCell ⟨gb, i, none⟩ _ (.inr rfl)).drew HRO2.out (by simp) HRG.out⟩)
            · have hn1i : ¬ (0 : Int) < (o.length : Int) := by omega
              go_wp2
              exact ⟨rfl, rfl, by kernel_rfl, by kernel_rfl, HD1.out _ o (Turned.refl _ _) HOWNO.out rfl HIO0.out⟩
          · have b2 : (hz == 2) = false := beq_false_of_ne c2
            by_cases c3 : hz = 3
            · have b3 : (hz == 3) = true := by simp [c3]
              clear c0 c1 c2 c3 hhr HD0 HD1
              have hE : Below W2.heap.size W2 (W2.alloc (.cells #[.int .i64 by_] 3)) := (Below.refl _ _).alloc (Nat.le_refl _) _
              have hfr := Rd.fresh W2 #[.int .i64 by_] 3 1 1 rfl (by decide)
              have hBs := (HOWNO.out.lt gb rfl).2
              have hBs2 := (HOWNO.out.lt gb rfl).1
              go_wp2_with (first
                | (at_builtin; refine wpList_append_rd _ rfl (.tmp 140) (.tmp 142) rfl slIntsR B _ _ _ rfl (HOWNO.out.alloc _) _ _ _ _ rfl hfr (by intro u hu; simp at hu; rw [hu]; rfl) (by unfold maxLen; omega) (by omega) (by simp; omega) ?_; intro v26 w26 hown26 hgr26 hat26 hnl26; obtain ⟨gb2, gc2, rfl, hgb1, hgb2⟩ := own_block hown26 (by rw [ne_eq, hnl26]; simp); have z0 := grown_other (HOWNO.out.alloc _) hgr26 ((heap_alloc_old W2 _ P4 (lt_of_block hq4)).trans hq4) (by decide); obtain ⟨z1, z2, z3⟩ := box3_cells z0; have zf := box_frozen z0 0)
                | fail)
              have hs26 := hgr26.size
              have z8 := grown_other (HOWNO.out.alloc (.cells #[.int .i64 by_] 3)) hgr26 ((heap_alloc_old W2 _ P8 (lt_of_block hq8)).trans hq8) (by decide)
              have hrw26 : BnRows B w26 (.slice (some ⟨gb, 0, none⟩) o.length gc) us tb := (HROWS.out.map (fun u n xs _ h _ => h.alloc _)).kept hgr26 (fun u hu => by
                obtain ⟨k, r, h1, h2⟩ := HROWS.out.mem hu
                exact (HROWS.out.2.1 k u r h1 h2).2.2)
              have hro26 := (HRO.out.alloc (.cells #[.int .i64 by_] 3)).kept hgr26 (.inr (fun e => own_ne HOWNO.out HRO.out (by decide) (by simp [Value.ownBlock]) e.symm))
              have hbe : Below w.heap.size w w26 := (HBW.out.alloc HBW.out.size _).grown hgr26 (by have := HBW.out.size; simp; omega) (fun g hg => by
                have : gb = g := Option.some.inj (show some gb = some g from hg)
                omega)
              have e26 : intsC o ++ [Value.int .i64 by_] = intsC (o ++ [by_]) := by simp [intsC]
              have hown26 : w26.ownsRow B 3 1 (.slice (some ⟨gb2, 0, none⟩) (o.length + 1) gc2) (o.length + 1) (intsC (o ++ [by_])) := by rw [← e26]; exact hown26
              refine ⟨rfl, rfl, by kernel_rfl, by kernel_rfl, (Below.heap_setCell w26 ⟨P4, 0, none⟩ _ P8 (by have := HP.out; simp only; omega)).trans z8, _, o ++ [by_], s, _, tb, heap_set z0 0 _, ⟨?_, fun x hx => ?_⟩, ?_, by simp, Nat.le_refl _, HBM.out, hbe.setCell (p := ⟨P4, 0, none⟩) (by have := HP.out; simp only; omega) _⟩
              · rw [List.length_append, List.length_singleton]
                exact (Rd.of_own (hown26.kept (grownBy_setC w26 P4 0 _) (.inr (own_box hown26 z0 (by decide))))).mono (fun _ ht => .inr ht)
              · rcases List.mem_append.1 hx with h | h
                · exact HIO0.out x h
                · rw [List.mem_singleton.1 h]
                  exact hby
              · exact (hrw26.map (fun u n xs _ h _ => h.kept (grownBy_setC w26 P4 0 _) (.inr (own_box h z0 (by decide))))).tab (hro26.kept (grownBy_setC w26 P4 0 _) (.inr (own_box hro26 z0 (by decide)))) HROWB.out
            · have b3 : (hz == 3) = false := beq_false_of_ne c3
              by_cases c4 : hz = 4
              · have b4 : (hz == 4) = true := by simp [c4]
                clear c0 c1 c2 c3 c4 hhr
                by_cases ht1 : 0 < tb.length
                · obtain ⟨m, hm⟩ : ∃ m, m = tb.length - 1 := ⟨_, rfl⟩
                  have hwm : IntKind.i64.wrap ((tb.length : Int) - 1) = ((m : Nat) : Int) := by rw [show (tb.length : Int) - 1 = (m : Int) by omega]; exact IntWalk.i64_in _ (by omega)
                  have hm0 : (0 : Int) ≤ (m : Int) := by omega
                  have hm1 : (m : Int) ≤ (tb.length : Int) := by omega
                  have hml : m ≤ tb.length := by omega
                  have ht1i : (0 : Int) < (tb.length : Int) := by omega
                  obtain ⟨y0, y1, y2⟩ := box3_cells hq4
                  have zf := box_frozen hq4 2
                  have hTm : Hid (∀ X, X.ownsRow B 22 1 (.slice ra tb.length rc) tb.length us → BnRows B X (.slice (some ⟨gb, 0, none⟩) o.length gc) us tb → TabOf TkR X (.slice ra m rc) (tb.take m)) := hidep (fun X h1 h2 => tab_take ((h2.tab h1 HROWB.out)) hml)
                  have hrcb : 0 < rc := by
                    obtain ⟨_, c, e, h1, _⟩ := (Rd.of_own HRO.out).form
                    injection e with _ _ e
                    omega
                  clear hm
                  go_wp2
                  have hTX : Turned (fun b => b = P4) W2 (W2.setCell ⟨P4, 2, none⟩ (.slice ra m rc)) := (Turned.refl (fun b => b = P4) W2).setCell ⟨P4, 2, none⟩ _ (.inr rfl)
                  have hpc := HPC.out _ hTX
                  have hr1 := HRO.out.kept (grownBy_setC W2 P4 2 (.slice ra m rc)) (.inr (own_box HRO.out hq4 (by decide)))
                  have hr2 := HROWS.out.map (W' := W2.setCell ⟨P4, 2, none⟩ (.slice ra m rc)) (fun u n xs _ h _ => h.kept (grownBy_setC W2 P4 2 _) (.inr (own_box h hq4 (by decide))))
                  exact ⟨rfl, rfl, by kernel_rfl, by kernel_rfl, hpc.1, _, o, s, _, tb.take m, heap_set hq4 2 _, hpc.2.1, hTm.out _ hr1 hr2, Nat.le_succ _, by rw [List.length_take]; omega, fun r hr => HBM.out r (List.mem_of_mem_take hr), hpc.2.2.2⟩
                · have ht1i : ¬ (0 : Int) < (tb.length : Int) := by omega
                  go_wp2
                  exact ⟨rfl, rfl, by kernel_rfl, by kernel_rfl, HD0.out _ s (Turned.refl _ _) hq4⟩
              · have b4 : (hz == 4) = false := beq_false_of_ne c4
                clear c0 c1 c2 c3 c4 hhr
                by_cases ht0 : tb.length = 0
                · have hmx : max (tb.length : Int) 1 = 1 := by omega
                  have hz1 : aroundZ at_ 1 = 0 := by have := aroundZ_rng at_ 1 (by decide); omega
                  have HA := hidep (fun X => around_any at_ 1 X hat.1 hat.2)
                  rw [hz1] at HA
                  have hlz : ¬ (0 : Int) < (tb.length : Int) := by omega
                  clear ht0 hz1
                  go_wp2_with (first
                    | (go_at_call 15; refine (HA.out _).mono ?_; rintro e w9 ⟨rfl, rfl⟩)
                    | fail)
                  exact ⟨rfl, rfl, by kernel_rfl, by kernel_rfl, HD0.out _ s (Turned.refl _ _) hq4⟩
                · have hmx : max (tb.length : Int) 1 = (tb.length : Int) := by omega
                  have hrg := aroundZ_rng at_ (tb.length : Int) (by omega)
                  have HA := hidep (fun X => around_any at_ (tb.length : Int) X hat.1 hat.2)
                  obtain ⟨i, hi⟩ : ∃ i : Nat, aroundZ at_ (tb.length : Int) = (i : Int) := ⟨(aroundZ at_ (tb.length : Int)).toNat, by omega⟩
                  rw [hi] at HA hrg
                  clear hi
                  have hil : i < tb.length := by omega
                  have hi0 : (0 : Int) ≤ (i : Int) := by omega
                  have hi1 : (i : Int) < (tb.length : Int) := by omega
                  obtain ⟨u, hu⟩ : ∃ u, us[i]? = some u := ⟨us[i]'(by rw [HROWS.out.1]; exact hil), List.getElem?_eq_getElem _⟩
                  obtain ⟨hur, ⟨ub, uc, rfl⟩, hun⟩ := HROWS.out.2.1 i u _ hu (List.getElem?_eq_getElem hil)
                  obtain ⟨rb2, rcc2, hre, _, _⟩ := own_block HRO.out (fun e => by injection e with _ e _; omega)
                  injection hre with hre1 _ hre2
                  subst hre1 hre2
                  have hcr := HRO.out.cells rfl i _ hu
                  rw [addr_add0] at hcr
                  obtain ⟨r, hr⟩ : ∃ r, r = tb[i] := ⟨_, rfl⟩
                  rw [← hr] at hur hcr
                  have hrM := HTT.out r (by rw [hr]; exact List.getElem_mem hil)
                  have hr1000 := hrM.1
                  have HUN := hidep hun
                  have HU := hidep hu
                  have HR := hidep hr
                  have HUR := hidep hur
                  clear hr hu hun hur ht0
                  by_cases hr0 : 0 < r.length
                  · have hr0i : (0 : Int) < (r.length : Int) := by omega
                    have hrg2 := aroundZ_rng by_ (r.length : Int) (by omega)
                    have HB := hidep (fun X => around_any by_ (r.length : Int) X hby.1 hby.2)
                    obtain ⟨k, hk⟩ : ∃ k : Nat, aroundZ by_ (r.length : Int) = (k : Int) := ⟨(aroundZ by_ (r.length : Int)).toNat, by omega⟩
                    rw [hk] at HB hrg2
                    clear hk
                    have hkl : k < r.length := by omega
                    have hk0 : (0 : Int) ≤ (k : Int) := by omega
                    have hk1 : (k : Int) < (r.length : Int) := by omega
                    have hck := HUR.out.cells (g := ub) rfl k _ (intsC_get r k hkl)
                    rw [addr_add0] at hck
                    have hxb := hrM.2 r[k] (List.getElem_mem hkl)
                    obtain ⟨x, hx⟩ : ∃ x, x = r[k] := ⟨_, rfl⟩
                    rw [← hx] at hck hxb
                    obtain ⟨cur, hcur⟩ := ownsRow_cells HUR.out rfl
                    have hfk : W2.frozen? ⟨ub, k, none⟩ = false := by simp [World.frozen?, hcur]
                    have hA5 : ∀ (n : Int) (X : World), -9223372036854775808 ≤ n → n ≤ 9223372036854775807 → Calls Try.prog 15 #[.int .i64 n, .int .i64 5] X fun e w' => (∃ r5, (0 ≤ r5 ∧ r5 < 5) ∧ e = .returned (.int .i64 r5)) ∧ X = w' := fun n X h1 h2 => (around_any n 5 X h1 h2).mono (fun e w' h => ⟨⟨_, aroundZ_rng n 5 (by decide), h.1⟩, h.2⟩)
                    have HA5 := hidep hA5
                    have huP4 : P4 ≠ ub := fun e => own_box HUR.out hq4 (by decide) (by rw [e]; rfl)
                    have huP8 : P8 ≠ ub := fun e => own_box HUR.out hq8 (by decide) (by rw [e]; rfl)
                    have hurb : rb2 ≠ ub := fun e => own_ne HUR.out HRO.out (by decide) (by simp [Value.ownBlock]) (by rw [e]; rfl)
                    have HD2 := hidep (show ∀ v : Int, -(M + 4) ≤ v → v ≤ M + 4 → (W2.setCell ⟨ub, k, none⟩ (.int .i64 v)).drew.heap[P8]? = some (.cells #[.slice none 0 0, .int .i64 0, .slice none 0 0] 39) ∧ BnP w P4 M o.length tb.length (W2.setCell ⟨ub, k, none⟩ (.int .i64 v)).drew from fun v hv1 hv2 => by
                      have hg := grownBy_setC W2 ub k (.int .i64 v)
                      have hT : Turned (fun b => b = ub) W2 (W2.setCell ⟨ub, k, none⟩ (.int .i64 v)) := (Turned.refl (fun b => b = ub) W2).setCell ⟨ub, k, none⟩ _ (.inr rfl)
                      refine ⟨hT.cells hq8 huP8, _, o, s, _, tb.set i (r.set k v), hT.cells hq4 huP4, ⟨(Rd.of_own (HOWNO.out.kept hg (.inr (fun e => HUN.out e.symm)))).mono (fun _ ht => .inr ht), HIO0.out⟩, ⟨us, by rw [List.length_set]; exact HROWS.out.1, ?_, fun j u' r' hu' hr' => ?_⟩, Nat.le_succ _, by simp, fun r' hr' => ?_, (HBW.out.setCell (p := ⟨ub, k, none⟩) (by have := (HUR.out.lt ub rfl).1; have := HP.out; have := HB0.out; simp only; omega) _).drew⟩
                      · rw [List.length_set]
                        exact (Rd.of_own (HRO.out.kept hg (.inr (fun e => hurb (Option.some.inj e))))).mono (fun _ ht => .inl ht)
                      · rw [List.getElem?_set] at hr'
                        split at hr'
                        · rename_i hij
                          subst hij
                          obtain rfl : r.set k v = r' := Option.some.inj hr'
                          obtain rfl : Value.slice (some ⟨ub, 0, none⟩) tb[i].length uc = u' := Option.some.inj (HU.out.symm.trans hu')
                          have h1 := (World.ownsRow.stored HUR.out k (.int .i64 v)).1
                          rw [show (intsC r).set k (.int .i64 v) = intsC (r.set k v) by simp [intsC, List.map_set]] at h1
                          refine ⟨?_, fun y hy => ?_⟩
                          · rw [List.length_set, ← HR.out]
                            exact (Rd.of_own h1).mono (fun _ ht => .inr ht)
                          · rcases List.mem_or_eq_of_mem_set hy with h | rfl
                            · have := hrM.2 y h
                              omega
                            · omega
                        · rename_i hij
                          obtain ⟨h1, ⟨ug, uc', rfl⟩, _⟩ := HROWS.out.2.1 j u' r' hu' hr'
                          refine ⟨(Rd.of_own (h1.kept hg (.inr (fun e => ?_)))).mono (fun _ ht => .inr ht), HROWB.out r' (List.mem_of_getElem? hr')⟩
                          rcases Nat.lt_or_gt_of_ne hij with h | h
                          · exact HROWS.out.2.2 i j _ _ h HU.out hu' e.symm
                          · exact HROWS.out.2.2 j i _ _ h hu' HU.out e
                      · rcases List.mem_or_eq_of_mem_set hr' with h | rfl
                        · exact HBM.out r' h
                        · refine ⟨by rw [List.length_set]; exact hr1000, fun y hy => ?_⟩
                          rcases List.mem_or_eq_of_mem_set hy with h | rfl
                          · have := hrM.2 y h
                            omega
                          · omega)
                    have HRC := hidep (show ∀ X, Turned (fun b => b = ub) W2 X → X.cell? ⟨rb2, i, none⟩ = some (.slice (some ⟨ub, 0, none⟩) r.length uc) from fun X hX => hX.cell hcr hurb)
                    clear hx hcur hA5
                    go_upto_region 13 with (first
                      | (go_at_call 15; (with_reducible refine (HA.out _).mono ?_); rintro e w9 ⟨rfl, rfl⟩)
                      | (go_at_call 15; (with_reducible refine (HB.out _).mono ?_); rintro e w9 ⟨rfl, rfl⟩)
                      | fail)
                    refine wp_region_noPanic (wp_region_held_drew (S := (fun X => Turned (fun b => b = ub) W2 X)) (by kernel_rfl) ?hS22r13n3 (fun hHeld => ?hR22r13n3))
                    case hS22r13n3 => ((try dsimp only); (exact (Turned.refl _ _).drew))
                    refine wpAnyH_take (i := 0) (v := ?v22r13n3q1) rfl (by kernel_rfl) (by kernel_rfl) (by kernel_rfl) (fun _ _ _ h => h) (Or.inl ⟨by kernel_rfl, ?hy22r13n3q1⟩) (by assumption) ?hr22r13n3q1
                    case hy22r13n3q1 => (intro w hSw; (try dsimp only at hSw); (have hcr2 := HRC.out w hSw); first | (go_simp; done) | (go_simp; with_reducible rfl))
                    refine wpAnyH_take (i := 1) (v := ?v22r13n3q2) rfl (by kernel_rfl) (by kernel_rfl) (by kernel_rfl) (fun _ _ _ h => h) (Or.inl ⟨by kernel_rfl, ?hy22r13n3q2⟩) (by assumption) ?hr22r13n3q2
                    case hy22r13n3q2 => (intro w hSw; (try dsimp only at hSw); (have hcr2 := HRC.out w hSw); first | (go_simp; done) | (go_simp; with_reducible rfl))
                    refine wpAnyH_take (i := 2) (v := ?v22r13n3q3) rfl (by kernel_rfl) (by kernel_rfl) (by kernel_rfl) (fun _ _ _ h => h) (Or.inl ⟨by kernel_rfl, ?hy22r13n3q3⟩) (by assumption) ?hr22r13n3q3
                    case hy22r13n3q3 => (intro w hSw; (try dsimp only at hSw); (have hcr2 := HRC.out w hSw); first | (go_simp; done) | (go_simp; with_reducible rfl))
                    refine wpAnyH_take (i := 3) (v := ?v22r13n3q4) rfl (by kernel_rfl) (by kernel_rfl) (by kernel_rfl) (fun _ _ _ h => h) (Or.inl ⟨by kernel_rfl, ?hy22r13n3q4⟩) (by assumption) ?hr22r13n3q4
                    case hy22r13n3q4 => (intro w hSw; (try dsimp only at hSw); (have hcr2 := HRC.out w hSw); first | (go_simp; done) | (go_simp; with_reducible rfl))
                    refine wpAnyH_take (i := 4) (v := ?v22r13n3q5) rfl (by kernel_rfl) (by kernel_rfl) (by kernel_rfl) (fun _ _ _ h => h) (Or.inl ⟨by kernel_rfl, ?hy22r13n3q5⟩) (by assumption) ?hr22r13n3q5
                    case hy22r13n3q5 => (intro w hSw; (try dsimp only at hSw); (have hcr2 := HRC.out w hSw); first | (go_simp; done) | (go_simp; with_reducible rfl))
                    refine wpAnyH_take (i := 5) (v := ?v22r13n3q6) rfl (by kernel_rfl) (by kernel_rfl) (by kernel_rfl) (fun _ _ _ h => h) (Or.inl ⟨by kernel_rfl, ?hy22r13n3q6⟩) (by assumption) ?hr22r13n3q6
                    case hy22r13n3q6 => (intro w hSw; (try dsimp only at hSw); (have hcr2 := HRC.out w hSw); first | (go_simp; done) | (go_simp; with_reducible rfl))
                    refine wpAnyH_take (i := 6) (v := ?v22r13n3q7) rfl (by kernel_rfl) (by kernel_rfl) (by kernel_rfl) (fun _ _ _ h => h) (Or.inl ⟨by kernel_rfl, ?hy22r13n3q7⟩) (by assumption) ?hr22r13n3q7
                    case hy22r13n3q7 => (intro w hSw; (try dsimp only at hSw); (have hcr2 := HRC.out w hSw); first | (go_simp; done) | (go_simp; with_reducible rfl))
                    refine wpAnyH_take (i := 7) (v := ?v22r13n3q8) rfl (by kernel_rfl) (by kernel_rfl) (by kernel_rfl) (fun _ _ _ h => h) (Or.inl ⟨by kernel_rfl, ?hy22r13n3q8⟩) (by assumption) ?hr22r13n3q8
                    case hy22r13n3q8 => (intro w hSw; (try dsimp only at hSw); (have hcr2 := HRC.out w hSw); first | (go_simp; done) | (go_simp; with_reducible rfl))
                    refine wpAnyH_take (i := 8) (v := ?v22r13n3q9) rfl (by kernel_rfl) (by kernel_rfl) (by kernel_rfl) (fun _ _ _ h => h) (Or.inl ⟨by kernel_rfl, ?hy22r13n3q9⟩) (by assumption) ?hr22r13n3q9
                    case hy22r13n3q9 => (intro w hSw; (try dsimp only at hSw); (have hcr2 := HRC.out w hSw); first | (go_simp; done) | (go_simp; with_reducible rfl))
                    refine wpAnyH_take (i := 9) (v := ?v22r13n3q10) rfl (by kernel_rfl) (by kernel_rfl) (by kernel_rfl) (fun _ _ _ h => h) (Or.inl ⟨by kernel_rfl, ?hy22r13n3q10⟩) (by assumption) ?hr22r13n3q10
                    case hy22r13n3q10 => (intro w hSw; (try dsimp only at hSw); (have hcr2 := HRC.out w hSw); first | (go_simp; done) | (go_simp; with_reducible rfl))
                    refine wpAnyH_take (i := 10) (v := ?v22r13n3q11) rfl (by kernel_rfl) (by kernel_rfl) (by kernel_rfl) (fun _ _ _ h => h) (Or.inl ⟨by kernel_rfl, ?hy22r13n3q11⟩) (by assumption) ?hr22r13n3q11
                    case hy22r13n3q11 => (intro w hSw; (try dsimp only at hSw); (have hcr2 := HRC.out w hSw); first | (go_simp; done) | (go_simp; with_reducible rfl))
                    refine wpAnyH_take (i := 12) (v := ?v22r13n3q12) rfl (by kernel_rfl) (by kernel_rfl) (by kernel_rfl) (fun _ _ _ h => h) (Or.inl ⟨by kernel_rfl, ?hy22r13n3q12⟩) (by assumption) ?hr22r13n3q12
                    case hy22r13n3q12 => (intro w hSw; (try dsimp only at hSw); (have hcr2 := HRC.out w hSw); first | (go_simp; done) | (go_simp; with_reducible rfl))
                    refine wpAnyH_take (i := 13) (v := ?v22r13n3q13) rfl (by kernel_rfl) (by kernel_rfl) (by kernel_rfl) (fun _ _ _ h => h) (Or.inl ⟨by kernel_rfl, ?hy22r13n3q13⟩) (by assumption) ?hr22r13n3q13
                    case hy22r13n3q13 => (intro w hSw; (try dsimp only at hSw); (have hcr2 := HRC.out w hSw); first | (go_simp; done) | (go_simp; with_reducible rfl))
                    refine wpAnyH_ready (rs := [11, 14]) (by kernel_rfl) (by simp) (AllReadyH.cons rfl (fun K hK => ?hc22r13n3q14) (AllReadyH.cons rfl (fun K hK => ?hc22r13n3q15) AllReadyH.nil))
                    case' hc22r13n3q14 =>
                      go_simp
                      refine hK.out _ _ ?hs22r13n3q14 (fun hHeld22r13n3q14 => ?ht22r13n3q14)
                      case hs22r13n3q14 => ((try dsimp only); (first | (with_reducible exact hHeld) | (refine Turned.drew ?_; exact (Turned.refl _ _).setCell ⟨ub, k, none⟩ _ (.inr rfl))))
                      clear hHeld hK
                      have hHeld := hHeld22r13n3q14
                      clear hHeld22r13n3q14
                      refine wpAnyH_ready (rs := [14]) (by kernel_rfl) (by simp) (AllReadyH.cons rfl (fun K hK => ?hc22r13n3q16) AllReadyH.nil)
                      go_simp
                      (go_at_call 15; refine (HA5.out _ _ ?_ ?_).mono ?_; rotate_left 2; rintro e' w7 ⟨⟨r5, hr5, rfl⟩, rfl⟩; (try dsimp only))
                      refine hK.out _ _ ?hs22r13n3q16 (fun hHeld22r13n3q16 => ?ht22r13n3q16)
                      case hs22r13n3q16 => ((try dsimp only); (first | (with_reducible exact hHeld) | (refine Turned.drew ?_; exact (Turned.refl _ _).setCell ⟨ub, k, none⟩ _ (.inr rfl))))
                      clear hHeld hK
                      have hHeld := hHeld22r13n3q16
                      clear hHeld22r13n3q16
                      refine wpAnyH_take (i := 15) (v := ?v22r13n3q17) rfl (by kernel_rfl) (by kernel_rfl) (by kernel_rfl) (fun _ _ _ h => h) (Or.inl ⟨by kernel_rfl, ?hy22r13n3q17⟩) (by assumption) ?hr22r13n3q17
                      case hy22r13n3q17 => (intro w hSw; (try dsimp only at hSw); (have hcr2 := HRC.out w hSw); first | (go_simp; done) | (go_simp; with_reducible rfl))
                      refine wpAnyH_take (i := 16) (v := ?v22r13n3q18) rfl (by kernel_rfl) (by kernel_rfl) (by kernel_rfl) (fun _ _ _ h => h) (Or.inl ⟨by kernel_rfl, ?hy22r13n3q18⟩) (by assumption) ?hr22r13n3q18
                      case hy22r13n3q18 => (intro w hSw; (try dsimp only at hSw); (have hcr2 := HRC.out w hSw); first | (go_simp; done) | (go_simp; with_reducible rfl))
                      refine wpAnyH_take (i := 17) (v := ?v22r13n3q19) rfl (by kernel_rfl) (by kernel_rfl) (by kernel_rfl) (fun _ _ _ h => h) (Or.inl ⟨by kernel_rfl, ?hy22r13n3q19⟩) (by assumption) ?hr22r13n3q19
                      case hy22r13n3q19 => (intro w hSw; (try dsimp only at hSw); (have hcr2 := HRC.out w hSw); first | (go_simp; done) | (go_simp; with_reducible rfl))
                      refine wpAnyH_ready (rs := [18]) (by kernel_rfl) (by simp) (AllReadyH.cons rfl (fun K hK => ?hc22r13n3q20) AllReadyH.nil)
                      go_simp
                      refine hK.out _ _ ?hs22r13n3q20 (fun hHeld22r13n3q20 => ?ht22r13n3q20)
                      case hs22r13n3q20 => ((try dsimp only); (first | (with_reducible exact hHeld) | (refine Turned.drew ?_; exact (Turned.refl _ _).setCell ⟨ub, k, none⟩ _ (.inr rfl))))
                      clear hHeld hK
                      have hHeld := hHeld22r13n3q20
                      clear hHeld22r13n3q20
                      refine wpAnyH_done (by kernel_rfl) ?_ _
                      clear hHeld
                      refine NoPanic.normal ?_
                    case' hc22r13n3q15 =>
                      go_simp
                      (go_at_call 15; refine (HA5.out _ _ ?_ ?_).mono ?_; rotate_left 2; rintro e' w7 ⟨⟨r5, hr5, rfl⟩, rfl⟩; (try dsimp only))
                      refine hK.out _ _ ?hs22r13n3q15 (fun hHeld22r13n3q15 => ?ht22r13n3q15)
                      case hs22r13n3q15 => ((try dsimp only); (first | (with_reducible exact hHeld) | (refine Turned.drew ?_; exact (Turned.refl _ _).setCell ⟨ub, k, none⟩ _ (.inr rfl))))
                      clear hHeld hK
                      have hHeld := hHeld22r13n3q15
                      clear hHeld22r13n3q15
                      refine wpAnyH_ready (rs := [11]) (by kernel_rfl) (by simp) (AllReadyH.cons rfl (fun K hK => ?hc22r13n3q21) AllReadyH.nil)
                      go_simp
                      refine hK.out _ _ ?hs22r13n3q21 (fun hHeld22r13n3q21 => ?ht22r13n3q21)
                      case hs22r13n3q21 => ((try dsimp only); (first | (with_reducible exact hHeld) | (refine Turned.drew ?_; exact (Turned.refl _ _).setCell ⟨ub, k, none⟩ _ (.inr rfl))))
                      clear hHeld hK
                      have hHeld := hHeld22r13n3q21
                      clear hHeld22r13n3q21
                      refine wpAnyH_take (i := 15) (v := ?v22r13n3q22) rfl (by kernel_rfl) (by kernel_rfl) (by kernel_rfl) (fun _ _ _ h => h) (Or.inl ⟨by kernel_rfl, ?hy22r13n3q22⟩) (by assumption) ?hr22r13n3q22
                      case hy22r13n3q22 => (intro w hSw; (try dsimp only at hSw); (have hcr2 := HRC.out w hSw); first | (go_simp; done) | (go_simp; with_reducible rfl))
                      refine wpAnyH_take (i := 16) (v := ?v22r13n3q23) rfl (by kernel_rfl) (by kernel_rfl) (by kernel_rfl) (fun _ _ _ h => h) (Or.inl ⟨by kernel_rfl, ?hy22r13n3q23⟩) (by assumption) ?hr22r13n3q23
                      case hy22r13n3q23 => (intro w hSw; (try dsimp only at hSw); (have hcr2 := HRC.out w hSw); first | (go_simp; done) | (go_simp; with_reducible rfl))
                      refine wpAnyH_take (i := 17) (v := ?v22r13n3q24) rfl (by kernel_rfl) (by kernel_rfl) (by kernel_rfl) (fun _ _ _ h => h) (Or.inl ⟨by kernel_rfl, ?hy22r13n3q24⟩) (by assumption) ?hr22r13n3q24
                      case hy22r13n3q24 => (intro w hSw; (try dsimp only at hSw); (have hcr2 := HRC.out w hSw); first | (go_simp; done) | (go_simp; with_reducible rfl))
                      refine wpAnyH_ready (rs := [18]) (by kernel_rfl) (by simp) (AllReadyH.cons rfl (fun K hK => ?hc22r13n3q25) AllReadyH.nil)
                      go_simp
                      refine hK.out _ _ ?hs22r13n3q25 (fun hHeld22r13n3q25 => ?ht22r13n3q25)
                      case hs22r13n3q25 => ((try dsimp only); (first | (with_reducible exact hHeld) | (refine Turned.drew ?_; exact (Turned.refl _ _).setCell ⟨ub, k, none⟩ _ (.inr rfl))))
                      clear hHeld hK
                      have hHeld := hHeld22r13n3q25
                      clear hHeld22r13n3q25
                      refine wpAnyH_done (by kernel_rfl) ?_ _
                      clear hHeld
                      refine NoPanic.normal ?_
                    all_goals first
                      | (dsimp only [Exit.inBlock, Exit.then]
                         have hv1 : IntKind.i64.wrap (x + r5) = x + r5 := IntWalk.i64_in _ (by omega)
                         have hv2 : IntKind.i64.wrap (x + r5 - 2) = x + r5 - 2 := IntWalk.i64_in _ (by omega)
                         rw [hv1, hv2]
                         exact hMK _ _ ⟨rfl, rfl, by kernel_rfl, by kernel_rfl, HD2.out (x + r5 - 2) (by omega) (by omega)⟩)
                      | (rw [IntKind.wrap_i64]; omega)
                  · have hr0i : ¬ (0 : Int) < (r.length : Int) := by omega
                    go_wp2_with (first
                      | (go_at_call 15; refine (HA.out _).mono ?_; rintro e w9 ⟨rfl, rfl⟩)
                      | fail)
                    exact ⟨rfl, rfl, by kernel_rfl, by kernel_rfl, HD0.out _ s (Turned.refl _ _) hq4⟩
    rintro ⟨tm1, ds1⟩ W3 ⟨h157, hds, e4, e8, hr8, vo', o', s', vl', tb', hp4, ho', hl', hol', htl', hrw', hb3⟩
    simp only at h157 hds e4 e8
    subst hds
    apply_assumption
    rw [frame157 tm1 [] h157, e4, e8]
    clear h157 e4 e8
    obtain ⟨z0, z1, z2⟩ := box3_cells hp4
    obtain ⟨r0, r1, r2⟩ := box3_cells hr8
    have g0 := box_frozen hr8 0
    have g1 := box_frozen hr8 1
    have g2 := box_frozen hr8 2
    have HO' := hidep ho'
    have HL' := hidep hl'
    have HB3 := hidep hb3
    have HRW := hidep hrw'
    obtain ⟨oa', oc', rfl, _, _⟩ := ho'.1.form
    obtain ⟨la', lc', rfl, _, _⟩ := TabOf.form hl'
    obtain ⟨ol', hol2⟩ : ∃ n, n = o'.length := ⟨_, rfl⟩
    obtain ⟨ll', hll2⟩ : ∃ n, n = tb'.length := ⟨_, rfl⟩
    rw [← hol2] at z0 HO' hp4
    rw [← hll2] at z2 HL' hp4
    clear ho' hl' hb3 hrw' hol2 hll2
    go_wp2
    have hke : Keeps TkR W3 (((W3.setCell ⟨P8, 0, none⟩ (.slice oa' ol' oc')).setCell ⟨P8, 1, none⟩ (.int .i64 s')).setCell ⟨P8, 2, none⟩ (.slice la' ll' lc')) := by
      have ht : ∀ t, TkR t → t ≠ 39 := by rintro t (h | h) <;> rw [h] <;> decide
      have k1 := heap_set hr8 0 (.slice oa' ol' oc')
      have k2 := heap_set k1 1 (.int .i64 s')
      exact ((Keeps.setCell (T := TkR) (a := ⟨P8, 0, none⟩) hr8 ht _).trans (Keeps.setCell (T := TkR) (a := ⟨P8, 1, none⟩) k1 ht _)).trans (Keeps.setCell (T := TkR) (a := ⟨P8, 2, none⟩) k2 ht _)
    obtain ⟨v0, v1, v2⟩ := box3_cells (heap_set (heap_set (heap_set hr8 0 (.slice oa' ol' oc')) 1 (.int .i64 s')) 2 (.slice la' ll' lc'))
    have h8w := HP.out.2.1
    have hbb := ((HB3.out.setCell (p := ⟨P8, 0, none⟩) h8w (.slice oa' ol' oc')).setCell (p := ⟨P8, 1, none⟩) h8w (.int .i64 s')).setCell (p := ⟨P8, 2, none⟩) h8w (.slice la' ll' lc')
    refine bodyPost_ret (results_cell1 rfl _ _ _ rfl (load_plan30 _ P8 _ _ _ v0 v1 v2)) rfl ?_
    exact ⟨_, o', s', _, tb', rfl, HO'.out.keeps hke, HL'.out.keeps hke, hol', htl', HRW.out, hbb⟩
end Go.Proofs.Ytfljgcpfmhhgcaa
