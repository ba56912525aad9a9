/- Contract of package merge: merged. -/
import Derived.Laws.EntriesVeiled
import Derived.Sort.CutIn
import Derived.Test.YthdafajhohdkoaaMgL
namespace Go.Proofs.Ythdafajhohdkoaa
open Go.RowKit Go.Lab Go.Shelf
attribute [local go_sem] Oper.semAt_some
/-- The boxes of the text and of the three results. -/
structure MBox (w : World) (vb : Value) (W : World) : Prop where
  b3 : Boxed W w.heap.size 23 vb
  b6 : Boxed W (w.heap.size + 1) 23 (.slice none 0 0)
  b7 : Boxed W (w.heap.size + 1 + 1) 42 (.slice none 0 0)
  b8 : Boxed W (w.heap.size + 1 + 1 + 1) 39 (.int .i64 0)
  bw : Below w.heap.size w W
theorem boxed_step {W W' : World} {B : Nat} {t : TypeId} {v : Value} (h : Boxed W B t v) (hb : Below W.heap.size W W') : Boxed W' B t v := (hb.block B h.lt).trans h
theorem MBox.step {w W W' : World} {vb : Value} (h : MBox w vb W) (hb : Below W.heap.size W W') : MBox w vb W' :=
  ⟨boxed_step h.b3 hb, boxed_step h.b6 hb, boxed_step h.b7 hb, boxed_step h.b8 hb, h.bw.trans (hb.mono h.bw.size)⟩
theorem MBox.start (w : World) (vb : Value) : MBox w vb ((((w.alloc (.cells #[vb] 23)).alloc (.cells #[.slice none 0 0] 23)).alloc (.cells #[.slice none 0 0] 42)).alloc (.cells #[.int .i64 0] 39)) := by
  refine ⟨?_, ?_, ?_, ?_, (((((Below.refl _ w).alloc (Nat.le_refl _) _).alloc (by simp) _).alloc (by simp; omega) _).alloc (by simp; omega) _)⟩
  · exact (((Boxed.new w _ _).alloc _).alloc _).alloc _
  · have := Boxed.new (w.alloc (.cells #[vb] 23)) 23 (.slice none 0 0)
    rw [World.size_alloc] at this
    exact (this.alloc _).alloc _
  · have := Boxed.new ((w.alloc (.cells #[vb] 23)).alloc (.cells #[.slice none 0 0] 23)) 42 (.slice none 0 0)
    rw [World.size_alloc, World.size_alloc] at this
    exact this.alloc _
  · have := Boxed.new (((w.alloc (.cells #[vb] 23)).alloc (.cells #[.slice none 0 0] 23)).alloc (.cells #[.slice none 0 0] 42)) 39 (.int .i64 0)
    rw [World.size_alloc, World.size_alloc, World.size_alloc] at this
    exact this
/-- .. with results in them. -/
structure MBoxR (w : World) (vo vk : Value) (er : Int) (W : World) : Prop where
  b6 : Boxed W (w.heap.size + 1) 23 vo
  b7 : Boxed W (w.heap.size + 1 + 1) 42 vk
  b8 : Boxed W (w.heap.size + 1 + 1 + 1) 39 (.int .i64 er)
  bw : Below w.heap.size w W
theorem boxed_own0 {A B : World} {b : Nat} {t : TypeId} {v : Value} {row : Option Nat} (h : Boxed A b t v) (hg : A.grownBy B row) (hr : ∀ r, row = some r → ∃ o : Obj, A.heap[r]? = some o ∧ o.isCells = false) : Boxed B b t v :=
  h.kept hg (fun e => by
    obtain ⟨o, ho, hc⟩ := hr b e.symm
    rw [show A.heap[b]? = _ from h] at ho
    cases ho
    cases hc)
theorem MBox.own {w A B : World} {vb : Value} {row : Option Nat} (h : MBox w vb A) (hg : A.grownBy B row) {n : Nat} (hn : w.heap.size ≤ n) (hr : ∀ r, row = some r → n ≤ r ∧ ∃ o : Obj, A.heap[r]? = some o ∧ o.isCells = false) : MBox w vb B :=
  ⟨boxed_own0 h.b3 hg (fun r e => (hr r e).2), boxed_own0 h.b6 hg (fun r e => (hr r e).2), boxed_own0 h.b7 hg (fun r e => (hr r e).2), boxed_own0 h.b8 hg (fun r e => (hr r e).2), h.bw.grown hg h.bw.size (fun k e => Nat.le_trans hn (hr k e).1)⟩
theorem MBoxR.own {w A B : World} {vo vk : Value} {er : Int} {row : Option Nat} (h : MBoxR w vo vk er A) (hg : A.grownBy B row) {n : Nat} (hn : w.heap.size ≤ n) (hr : ∀ r, row = some r → n ≤ r ∧ ∃ o : Obj, A.heap[r]? = some o ∧ o.isCells = false) : MBoxR w vo vk er B :=
  ⟨boxed_own0 h.b6 hg (fun r e => (hr r e).2), boxed_own0 h.b7 hg (fun r e => (hr r e).2), boxed_own0 h.b8 hg (fun r e => (hr r e).2), h.bw.grown hg h.bw.size (fun k e => Nat.le_trans hn (hr k e).1)⟩
theorem MBox.put {w W : World} {vb : Value} (h : MBox w vb W) (vo vk : Value) (er : Int) :
    MBoxR w vo vk er (((W.setCell ⟨w.heap.size + 1, 0, none⟩ vo).setCell ⟨w.heap.size + 1 + 1, 0, none⟩ vk).setCell ⟨w.heap.size + 1 + 1 + 1, 0, none⟩ (.int .i64 er)) ∧
    KeepsOthers W (((W.setCell ⟨w.heap.size + 1, 0, none⟩ vo).setCell ⟨w.heap.size + 1 + 1, 0, none⟩ vk).setCell ⟨w.heap.size + 1 + 1 + 1, 0, none⟩ (.int .i64 er)) := by
  refine ⟨⟨?_, ?_, ?_, ?_⟩, ((KeepsOthers.setCell _ _ _).trans (KeepsOthers.setCell _ _ _)).trans (KeepsOthers.setCell _ _ _)⟩
  · exact ((h.b6.set _).other (by omega) _).other (by omega) _
  · exact ((h.b7.other (by omega) _).set _).other (by omega) _
  · exact ((h.b8.other (by omega) _).other (by omega) _).set _
  · exact ((h.bw.setCell (p := ⟨w.heap.size + 1, 0, none⟩) (by simp) _).setCell (p := ⟨w.heap.size + 1 + 1, 0, none⟩) (by simp; omega) _).setCell (p := ⟨w.heap.size + 1 + 1 + 1, 0, none⟩) (by simp; omega) _
theorem row_put {w W : World} {base : Nat} {e : TypeId} {size n : Nat} {v : Value} {xs : List Value} (h : W.ownsRow base e size v n xs) (hb : w.heap.size + 1 + 1 + 1 < base) (vo vk : Value) (er : Int) :
    (((W.setCell ⟨w.heap.size + 1, 0, none⟩ vo).setCell ⟨w.heap.size + 1 + 1, 0, none⟩ vk).setCell ⟨w.heap.size + 1 + 1 + 1, 0, none⟩ (.int .i64 er)).ownsRow base e size v n xs :=
  ownsRow_setCell_below (ownsRow_setCell_below (ownsRow_setCell_below h (a := ⟨w.heap.size + 1, 0, none⟩) (by simp; omega) _) (a := ⟨w.heap.size + 1 + 1, 0, none⟩) (by simp; omega) _) (a := ⟨w.heap.size + 1 + 1 + 1, 0, none⟩) (by simp; omega) _
theorem results_cells3 {fn : Func} {p q r : Tmp} {t1 t2 t3 : TypeId} (h : fn.results = #[.cell p t1, .cell q t2, .cell r t3]) (tmps : Array Value) (P : Program) (w : World) {b1 b2 b3 : Addr} {v1 v2 v3 : Value}
    (e1 : tmps.getD p undef = .pointer (some b1)) (e2 : tmps.getD q undef = .pointer (some b2)) (e3 : tmps.getD r undef = .pointer (some b3))
    (l1 : (loadVar t1 b1).run P w = .ok v1 w) (l2 : (loadVar t2 b2).run P w = .ok v2 w) (l3 : (loadVar t3 b3).run P w = .ok v3 w) :
    (results fn tmps).run P w = .ok (.tuple #[v1, v2, v3]) w := by
  have e1' : tmps[p]?.getD undef = .pointer (some b1) := by simpa using e1
  have e2' : tmps[q]?.getD undef = .pointer (some b2) := by simpa using e2
  have e3' : tmps[r]?.getD undef = .pointer (some b3) := by simpa using e3
  simp only [results, h]
  simp [Sem.run_bind, Result.andThen, e1', e2', e3', l1, l2, l3, asAddr]
theorem kst_start (W : World) (fv : Value) :
    KSt W.heap.size (W.heap.size + 1 + 1) (W.heap.size + 1) W.heap.size ((((W.alloc (.cells #[.slice none 0 0] 23)).alloc (.cells #[.slice none 0 0] 42)).alloc (.cells #[.int .i64 0] 3)).alloc (.cells #[fv] 84)) 0 [] [] (.slice none 0 0) (.slice none 0 0) ∧
    Boxed ((((W.alloc (.cells #[.slice none 0 0] 23)).alloc (.cells #[.slice none 0 0] 42)).alloc (.cells #[.int .i64 0] 3)).alloc (.cells #[fv] 84)) (W.heap.size + 1 + 1 + 1) 84 fv ∧
    Below W.heap.size W ((((W.alloc (.cells #[.slice none 0 0] 23)).alloc (.cells #[.slice none 0 0] 42)).alloc (.cells #[.int .i64 0] 3)).alloc (.cells #[fv] 84)) := by
  refine ⟨⟨?_, ?_, World.ownsRow_nil _ _ _ _, ?_, World.ownsRow_nil _ _ _ _, by omega, by omega, by omega, by simp; omega⟩, ?_, (((((Below.refl _ W).alloc (Nat.le_refl _) _).alloc (by simp) _).alloc (by simp; omega) _).alloc (by simp; omega) _)⟩
  · have := Boxed.new ((W.alloc (.cells #[.slice none 0 0] 23)).alloc (.cells #[.slice none 0 0] 42)) 3 (.int .i64 0)
    rw [World.size_alloc, World.size_alloc] at this
    exact this.alloc _
  · have := Boxed.new (W.alloc (.cells #[.slice none 0 0] 23)) 42 (.slice none 0 0)
    rw [World.size_alloc] at this
    exact (this.alloc _).alloc _
  · exact (((Boxed.new W _ _).alloc _).alloc _).alloc _
  · have := Boxed.new (((W.alloc (.cells #[.slice none 0 0] 23)).alloc (.cells #[.slice none 0 0] 42)).alloc (.cells #[.int .i64 0] 3)) 84 fv
    rw [World.size_alloc, World.size_alloc, World.size_alloc] at this
    exact this
def subOf {G : EV → Prop} : (L : List EV) → (∀ x ∈ L, G x) → List { x : EV // G x }
  | [], _ => []
  | x :: l, h => ⟨x, h x (List.mem_cons_self ..)⟩ :: subOf l (fun y hy => h y (List.mem_cons_of_mem _ hy))
theorem subOf_map {G : EV → Prop} : ∀ (L : List EV) (h : ∀ x ∈ L, G x), (subOf L h).map (·.1) = L
  | [], _ => rfl
  | x :: l, h => by rw [subOf, List.map_cons, subOf_map l]
theorem subOf_len {G : EV → Prop} (L : List EV) (h : ∀ x ∈ L, G x) : (subOf L h).length = L.length := by
  conv => rhs; rw [← subOf_map L h]
  rw [List.length_map]
theorem validGo_in {n : Nat} : ∀ (l : List Edit) (last : Int), -1 ≤ last → validGo n last l = true → ∀ e ∈ l, InE n e
  | [], _, _, _ => fun _ h => by cases h
  | x :: l, last, hl, h => by
    rw [validGo] at h
    split at h
    · cases h
    · rename_i hb
      simp only [badE, Bool.not_eq_true, Bool.or_eq_false_iff, decide_eq_false_iff_not, Bool.and_eq_false_iff] at hb
      obtain ⟨⟨⟨⟨⟨⟨h1, h2⟩, h3⟩, h4⟩, h5⟩, _⟩, _⟩ := hb
      intro e he
      rcases List.mem_cons.1 he with rfl | he
      · exact ⟨by omega, by omega, by omega, by omega, by omega⟩
      · exact validGo_in l _ (by omega) h e he
theorem validZ_in {n : Nat} {l : List Edit} (h : validZ n l = true) : ∀ e ∈ l, InE n e := by
  unfold validZ at h
  simp only [Bool.and_eq_true] at h
  exact validGo_in l _ (by omega) h.2
theorem okE_of {w : World} {x : EV} (hs : SymsAt w x.2 x.1.ins) {n : Nat} (hn : n ≤ 2048) (h : InE n x.1) : okE x := by
  obtain ⟨a, c, e, _, _⟩ := hs.form
  exact ⟨h.1, by have := h.2.1; omega, a, _, c, e⟩
def MergedR (w : World) (base : List Sym) (av bv : List EV) (e : Ending) (w' : World) : Prop :=
  ∃ r : List Sym × List (Nat × Nat) × Int, (clashP (av.map (·.1)) (bv.map (·.1)) ≠ [] ∧ r = ([], [], 18) ∨ clashP (av.map (·.1)) (bv.map (·.1)) = [] ∧ ∃ L, L.Perm (bothL av bv) ∧ Asc L ∧ r = doneZ (endS base (L.map (·.1)))) ∧
    ∃ vo vk, e = .returned (.tuple #[vo, vk, .int .i64 r.2.2]) ∧ w'.ownsRow w.heap.size 34 2 vo r.1.length (symsC r.1) ∧ w'.ownsRow w.heap.size 45 2 vk r.2.1.length (pairsC r.2.1) ∧ Below w.heap.size w w'
set_option maxRecDepth 100000 in
set_option maxHeartbeats 4000000 in
theorem merged_run (v va vb : Value) (base : List Sym) (av bv : List EV) (w : World) (h : SymsAt w v base) (ha : EvAt w va av) (hb : EvAt w vb bv)
    (ht : isTextB base = true) (hva : validZ base.length (av.map (·.1)) = true) (hvb : validZ base.length (bv.map (·.1)) = true) :
    Calls Try.prog 35 #[v, va, vb] w (MergedR w base av bv) := by
  obtain ⟨a, c, rfl, hc1, hc2⟩ := h.form
  obtain ⟨aa, ca, rfl, _, _⟩ := ha.form
  obtain ⟨ab, cb, rfl, _, _⟩ := hb.form
  unfold maxLen at hc2
  have hl := isTextB_len0 ht
  have HT := hidep (fun W (hW : Below w.heap.size w W) => mtext_any _ base W (h.below hW))
  have HA := hidep (fun W (hW : Below w.heap.size w W) => mvalid_any _ base.length _ W ((ha.below hW).edits) (by omega) (by omega))
  have HB := hidep (fun W (hW : Below w.heap.size w W) => mvalid_any _ base.length _ W ((hb.below hW).edits) (by omega) (by omega))
  rw [ht] at HT
  rw [hva] at HA
  rw [hvb] at HB
  have hfw : Fence.wide.fn 35 := trivial
  have hfc : Fence.wide.fn 58 := trivial
  have hfv : Fence.wide.fn 85 := trivial
  refine (callsIn_wide (n := 8)).1 ?_
  refine callsIn_of_wp_marks Try.func35 rfl hfw ?_ rfl
  simp only [Try.ntmps35, List.size_toArray, List.length_cons, List.length_nil, Nat.reduceAdd, Nat.reduceSub, Array.replicate_succ, Array.replicate_zero, List.push_toArray, List.append_toArray, List.nil_append, List.cons_append]
  have hM0 := MBox.start w (.slice a base.length c)
  have HM := hidep hM0.bw
  gi_wp2_with (first
    | (refine ⟨trivial, ?_⟩; gi_at_call 52; refine (callsIn_wide.2 (HT.out _ HM.out)).mono ?_; rintro e w1 ⟨rfl, hb1⟩; have hM1 := hM0.step hb1; clear hM0; have c3 := hM1.b3.cell)
    | (refine ⟨trivial, ?_⟩; gi_at_call 40; (with_reducible refine (callsIn_wide.2 (HA.out _ hM1.bw)).mono ?_); rintro e w2 ⟨rfl, hb2⟩; have hM2 := hM1.step hb2; clear hM1 c3; have c3 := hM2.b3.cell)
    | (refine ⟨trivial, ?_⟩; gi_at_call 40; (with_reducible refine (callsIn_wide.2 (HB.out _ hM2.bw)).mono ?_); rintro e w3 ⟨rfl, hb3⟩; have hM3 := hM2.step hb3; clear hM2 c3)
    | (refine ⟨trivial, ?_⟩; gi_at_call 42; refine (callsIn_wide.2 (clashes_any _ _ _ _ _ _ _)).mono ?_; rintro e w4 ⟨rfl, rfl⟩)
    | fail)
  have hx3 := hM3.bw
  have ho1 := validZ_ok (by omega) hva
  have ho2 := validZ_ok (by omega) hvb
  have hA4 := (Below.heap_alloc (w3.alloc (.cells #[.slice aa av.length ca] 25)) (.cells #[.slice ab bv.length cb] 25) _ (by simp)).trans (heap_alloc_new w3 (.cells #[.slice aa av.length ca] 25))
  have hB4 : ((w3.alloc (.cells #[.slice aa av.length ca] 25)).alloc (.cells #[.slice ab bv.length cb] 25)).heap[w3.heap.size + 1]? = some (.cells #[.slice ab bv.length cb] 25) := by
    have := heap_alloc_new (w3.alloc (.cells #[.slice aa av.length ca] 25)) (.cells #[.slice ab bv.length cb] 25)
    rwa [World.size_alloc] at this
  have h34 : Below w3.heap.size w3 ((w3.alloc (.cells #[.slice aa av.length ca] 25)).alloc (.cells #[.slice ab bv.length cb] 25)) := ((Below.refl _ _).alloc (Nat.le_refl _) _).alloc (by simp) _
  have hM4 := hM3.step h34
  obtain ⟨w4, hw4⟩ : ∃ w4, (w3.alloc (.cells #[.slice aa av.length ca] 25)).alloc (.cells #[.slice ab bv.length cb] 25) = w4 := ⟨_, rfl⟩
  rw [hw4] at hA4 hB4 h34 hM4 ⊢
  clear hw4 hM3
  have hz4 : w.heap.size ≤ w4.heap.size := hM4.bw.size
  refine wpIn_rangeFunc_ownG rfl (by omega) (gf := 58) (lb := #[.pointer (some ⟨w3.heap.size, 0, none⟩), .pointer (some ⟨w3.heap.size + 1, 0, none⟩)]) rfl hfc (enters_of Try.func58 (by kernel_rfl) rfl)
    (clashes_stops (8 - 1) (by omega) w3.heap.size (w3.heap.size + 1) (av.map (·.1)) (bv.map (·.1)) _ _ (0, 0) (0, 0) ho1 ho2 w4 hA4 hB4 (((ha.below hx3).below h34).edits) (((hb.below hx3).below h34).edits))
    keepsTk_t (keepsTk_b (n := w4.heap.size)) (Below.refl _ _) (fun _ => rfl)
    (fun pre W => pre = [] ∧ MBox w (.slice a base.length c) W)
    (fun cd _ W => cd = .ret ∧ MBoxR w (.slice none 0 0) (.slice none 0 0) 18 W)
    (fun s A B row hs hg hr => ⟨hs.1, hs.2.own hg hz4 hr⟩)
    (fun cd s A B row hs hg hr => ⟨hs.1, hs.2.own hg hz4 hr⟩)
    ⟨rfl, hM4⟩
    (fun x => { tmps := #[.slice a base.length c, .slice aa av.length ca, .slice ab bv.length cb, .pointer (some ⟨w.heap.size, 0, none⟩), undef, undef, .pointer (some ⟨w.heap.size + 1, 0, none⟩), .pointer (some ⟨w.heap.size + 1 + 1, 0, none⟩), .pointer (some ⟨w.heap.size + 1 + 1 + 1, 0, none⟩), undef, undef, undef, undef, undef, .slice a base.length c, .bool true, .bool false, .bool false, .slice aa av.length ca, .slice a base.length c, .int .i64 base.length, .bool true, .bool false, .bool false, .bool false, .slice ab bv.length cb, .slice a base.length c, .int .i64 base.length, .bool true, .bool false, .bool false, .slice aa av.length ca, .slice ab bv.length cb, .func (.func 58) #[] #[.pointer (some ⟨w3.heap.size, 0, none⟩), .pointer (some ⟨w3.heap.size + 1, 0, none⟩)], .agg #[.int .i64 (x.1 : Nat), .int .i64 (x.2 : Nat)], undef, undef, undef, undef, undef, undef, undef, undef, undef, undef, undef, undef, undef, undef, undef, undef, undef, undef, undef, undef, undef, undef, undef, undef, undef, undef], defers := [] }) ?assign ?body ?done ?stop
  case assign =>
    intro l x W K hK
    gi_wp2
    exact hK
  case body =>
    rintro l pre x W ⟨rfl, hM⟩ _
    have c6 := hM.b6.cell
    have c7 := hM.b7.cell
    have c8 := hM.b8.cell
    have f6 := hM.b6.frozen
    have f7 := hM.b7.frozen
    have f8 := hM.b8.frozen
    have HC := hidep (hM.put (.slice none 0 0) (.slice none 0 0) 18)
    gi_wp2
    exact ⟨HC.out.2.from _, rfl, HC.out.1⟩
  case stop =>
    rintro D cd pre W hD ⟨hpre, hne⟩ ⟨rfl, hX⟩ hK
    have c6 := hX.b6.cell
    have c7 := hX.b7.cell
    have c8 := hX.b8.cell
    have HX := hidep hX
    have HNE : Hid (clashP (av.map (·.1)) (bv.map (·.1)) ≠ []) := hidep (fun e => by rw [e] at hpre; exact hne (List.prefix_nil.1 hpre))
    gi_wp2
    refine ⟨by simp, .inl ⟨_, _, rfl, run_takeDeferred hK, ?_⟩⟩
    have hX' := HX.out.own (grownBy_putObj' W D (.deferred none)) hz4 (fun r e => by cases e; exact ⟨hD, _, hK, rfl⟩)
    have c6 := hX'.b6.cell
    have c7 := hX'.b7.cell
    have c8 := hX'.b8.cell
    refine ⟨_, results_cells3 rfl _ _ _ rfl rfl rfl (v1 := .slice none 0 0) (v2 := .slice none 0 0) (v3 := .int .i64 18) (by go_simp) (by go_simp) (by go_simp), ?_⟩
    exact ⟨([], [], 18), .inl ⟨HNE.out, rfl⟩, _, _, rfl, World.ownsRow_nil _ _ _ _, World.ownsRow_nil _ _ _ _, hX'.bw⟩
  case done =>
    rintro D ys W hD rfl ⟨hnil, hM⟩ hK
    have hEa := ha.below hM.bw
    have hEb := hb.below hM.bw
    have hBase := h.below hM.bw
    have hia := validZ_in hva
    have hib := validZ_in hvb
    have hla := validZ_len hva
    have hlb := validZ_len hvb
    rw [List.length_map] at hla hlb
    have hGa : ∀ x ∈ av, InE base.length x.1 ∧ SymsAt W x.2 x.1.ins := fun x hx => ⟨hia _ (List.mem_map_of_mem hx), hEa.2 x hx⟩
    have hGb : ∀ x ∈ bv, InE base.length x.1 ∧ SymsAt W x.2 x.1.ins := fun x hx => ⟨hib _ (List.mem_map_of_mem hx), hEb.2 x hx⟩
    have hG : ∀ x ∈ bothL av bv, InE base.length x.1 ∧ SymsAt W x.2 x.1.ins := fun x hx => by
      rcases List.mem_append.1 hx with hx | hx
      · exact hGa x hx
      · exact hGb x (List.mem_filter.1 hx).1
    have hlB : (bothL av bv).length ≤ 64 := by
      have := List.length_filter_le (fun x : EV => !memB (av.map (·.1)) x.1) bv
      unfold bothL
      rw [List.length_append]
      omega
    have HBT := hidep (fun X (hX : Below W.heap.size W X) => both_any _ _ av bv X (hEa.below hX) (hEb.below hX) (fun x hx => okE_of (hGa x hx).2 hl (hGa x hx).1) (fun x hx => okE_of (hGb x hx).2 hl (hGb x hx).1) hla hlb)
    have HN := hidep hnil
    obtain ⟨hS0, hF0, hX0⟩ := kst_start W (.func (.func 53) #[] #[.pointer (some ⟨W.heap.size + 1 + 1, 0, none⟩), .pointer (some ⟨W.heap.size + 1, 0, none⟩), .pointer (some ⟨W.heap.size, 0, none⟩), .pointer (some ⟨w.heap.size, 0, none⟩)])
    have HX0 := hidep hX0
    clear hnil hEa hEb hia hib hGa hGb hX0
    gi_wp2_with (first
      | (refine ⟨trivial, ?_⟩; gi_at_call 54; refine (callsIn_wide.2 (HBT.out _ HX0.out)).mono ?_; rintro e w7 ⟨L, Ba, vL, rfl, hperm, hasc, hBa, hbx, hrd, hb7⟩)
      | fail)
    have hS7 := hS0.left hb7
    have hF7 := boxed_step hF0 hb7
    have hW7 := HX0.out.trans (hb7.mono HX0.out.size)
    have hGL : ∀ x ∈ L, InE base.length x.1 ∧ SymsAt W x.2 x.1.ins := fun x hx => hG x (hperm.mem_iff.1 hx)
    obtain ⟨Ls, hLs⟩ : ∃ Ls : List { x : EV // InE base.length x.1 ∧ SymsAt W x.2 x.1.ins }, Ls.map (·.1) = L := ⟨subOf L hGL, subOf_map L hGL⟩
    have hlL : Ls.length ≤ 64 := by
      have := hperm.length_eq
      rw [← hLs, List.length_map] at this
      omega
    rw [← hLs] at hrd
    rw [List.length_map] at hrd
    have HP := hidep hperm
    have HQ := hidep hasc
    have HLS := hidep hLs
    have hz7 := hW7.size
    clear hS0 hF0 hb7 hGL hperm hasc hLs hG
    refine wpIn_rangeFunc_ownH rfl (by omega) (gf := 85) (lb := #[.pointer (some ⟨Ba, 0, none⟩)]) rfl hfv (enters_of Try.func85 (by kernel_rfl) rfl)
      (values_stops (8 - 1) (by omega) Ba Ls vL (0, 0) (fun x hx => by obtain ⟨a, c, e, _, _⟩ := hx.2.form; exact ⟨a, _, c, e⟩) w7 hbx hrd)
      keepsTe_t (keepsTe_b (n := w7.heap.size)) (Below.refl _ _) (fun _ => rfl)
      (fun pre X => (∃ vk vo, KSt W.heap.size (W.heap.size + 1 + 1) (W.heap.size + 1) W.heap.size X ((foldS base (pre.map (·.1.1))).k : Nat) (foldS base (pre.map (·.1.1))).kept (foldS base (pre.map (·.1.1))).out vk vo) ∧ Boxed X (W.heap.size + 1 + 1 + 1) 84 (.func (.func 53) #[] #[.pointer (some ⟨W.heap.size + 1 + 1, 0, none⟩), .pointer (some ⟨W.heap.size + 1, 0, none⟩), .pointer (some ⟨W.heap.size, 0, none⟩), .pointer (some ⟨w.heap.size, 0, none⟩)]) ∧ Below W.heap.size W X)
      (fun _ _ _ => False)
      (fun s A B row hs hg hr => by
        obtain ⟨⟨vk, vo, h1⟩, h2, h3⟩ := hs
        exact ⟨⟨vk, vo, h1.own hg (fun r e => (hr r e).2)⟩, boxed_own0 h2 hg (fun r e => (hr r e).2), h3.grown hg h3.size (fun k e => Nat.le_trans hz7 (hr k e).1)⟩)
      (fun _ _ _ _ _ hs _ _ => hs)
      ⟨⟨_, _, hS7⟩, hF7, hW7⟩
      (fun x a' X => ∃ Bx, W.heap.size + 4 ≤ Bx ∧ X.heap[Bx]? = some (.cells #[.int .i64 x.1.1.pos, .int .i64 x.1.1.del, x.1.2] 36) ∧ a' = { tmps := #[.slice a base.length c, .slice aa av.length ca, .slice ab bv.length cb, .pointer (some ⟨w.heap.size, 0, none⟩), undef, undef, .pointer (some ⟨w.heap.size + 1, 0, none⟩), .pointer (some ⟨w.heap.size + 1 + 1, 0, none⟩), .pointer (some ⟨w.heap.size + 1 + 1 + 1, 0, none⟩), .pointer (some ⟨W.heap.size, 0, none⟩), .pointer (some ⟨W.heap.size + 1, 0, none⟩), .pointer (some ⟨W.heap.size + 1 + 1, 0, none⟩), .pointer (some ⟨W.heap.size + 1 + 1 + 1, 0, none⟩), .pointer (some ⟨Bx, 0, none⟩), .slice a base.length c, .bool true, .bool false, .bool false, .slice aa av.length ca, .slice a base.length c, .int .i64 base.length, .bool true, .bool false, .bool false, .bool false, .slice ab bv.length cb, .slice a base.length c, .int .i64 base.length, .bool true, .bool false, .bool false, .slice aa av.length ca, .slice ab bv.length cb, .func (.func 58) #[] #[.pointer (some ⟨w3.heap.size, 0, none⟩), .pointer (some ⟨w3.heap.size + 1, 0, none⟩)], undef, .func (.func 53) #[] #[.pointer (some ⟨W.heap.size + 1 + 1, 0, none⟩), .pointer (some ⟨W.heap.size + 1, 0, none⟩), .pointer (some ⟨W.heap.size, 0, none⟩), .pointer (some ⟨w.heap.size, 0, none⟩)], .slice aa av.length ca, .slice ab bv.length cb, .func (.func 85) #[] #[.pointer (some ⟨Ba, 0, none⟩)], editV x.1.1 x.1.2, undef, undef, undef, undef, undef, undef, undef, undef, undef, undef, undef, undef, undef, undef, undef, undef, undef, undef, undef, undef, undef], defers := [] })
      (fun x a' _ X Y row hs hg hr => by
        obtain ⟨Bx, h1, h2, h3⟩ := hs
        refine ⟨Bx, h1, (hg.block Bx (lt_of_block h2) (fun e => ?_)).trans h2, h3⟩
        obtain ⟨_, o, ho, hoc⟩ := hr Bx e.symm
        rw [h2] at ho
        injection ho with ho
        subst ho
        cases hoc)
      ?assign2 ?body2 ?done2 ?stop2
    case assign2 =>
      rintro l pre ⟨⟨⟨p, d, ins⟩, u⟩, gx⟩ X K ⟨⟨vk, vo, hS⟩, hF, hB⟩ hK
      have gx2 : SymsAt W u ins := gx.2
      obtain ⟨au, cu, hu, _, _⟩ := gx2.form
      subst hu
      dsimp only [editV]
      gi_wp2
      exact hK _ _ ((KeepsOthers.alloc _ _).from _) (Keeps.alloc _ _ _) ⟨⟨vk, vo, hS.left ((Below.refl _ _).alloc (Nat.le_refl _) _)⟩, hF.alloc _, hB.alloc hB.size _⟩ ⟨X.heap.size, by have := hF.lt; omega, heap_alloc_new X _, rfl⟩
    case body2 =>
      rintro l pre ⟨⟨⟨p, d, ins⟩, u⟩, gx⟩ a' X hl2 ⟨r, hr⟩ ⟨⟨vk, vo, hS⟩, hF, hB⟩ ⟨Bx, hBx, hbX, rfl⟩ hlt
      have gx1 : InE base.length ⟨p, d, ins⟩ := gx.1
      have gx2 : SymsAt W u ins := gx.2
      obtain ⟨g1, g2, g3, g4, g5⟩ := id gx1
      simp only at g1 g2 g3 g4 g5 hbX
      obtain ⟨pn, rfl⟩ : ∃ pn : Nat, p = pn := ⟨p.toNat, by omega⟩
      obtain ⟨dn, rfl⟩ : ∃ dn : Nat, d = dn := ⟨d.toNat, by omega⟩
      obtain ⟨au, cu, hu, _, _⟩ := gx2.form
      have hfit := fits_fold hl (pre.map (·.1.1)) (fun e he => by obtain ⟨y, _, rfl⟩ := List.mem_map.1 he; exact y.2.1)
      rw [List.length_map] at hfit
      have HST : Hid (foldS base ((pre ++ [(⟨(⟨pn, dn, ins⟩, u), gx⟩ : { x : EV // InE base.length x.1 ∧ SymsAt W x.2 x.1.ins })]).map (·.1.1)) = insS ⟨pn, dn, ins⟩ (keepS base pn (foldS base (pre.map (·.1.1))))) := hidep (by
        rw [List.map_append, List.map_cons, List.map_nil, foldS_snoc]; rfl)
      generalize foldS base (pre.map (·.1.1)) = s at *
      have HK := hidep (keep_any W (W.heap.size + 1 + 1) (W.heap.size + 1) W.heap.size w.heap.size (0, 0) _ base hM.b3 hBase hl pn s.k (by omega) s.kept s.out vk vo X hB hS (by have := hfit.kept; omega) (by have := hfit.out; omega))
      have HS1 : Hid ((keepS base pn s).out.length ≤ 200000 ∧ (keepS base pn s).k ≤ 200000) := hidep (by
        have h1 := hfit.k
        have h2 := hfit.out
        have h3 := segS_le base s.k (pn - s.k)
        simp only [keepS, List.length_append]
        omega)
      have HK2 : Hid (Calls Try.prog 53 #[.int .i64 pn, .pointer (some ⟨W.heap.size + 1 + 1, 0, none⟩), .pointer (some ⟨W.heap.size + 1, 0, none⟩), .pointer (some ⟨W.heap.size, 0, none⟩), .pointer (some ⟨w.heap.size, 0, none⟩)] X fun e w' => e = .returned (.tuple #[]) ∧
          ∃ vk' vo', KSt W.heap.size (W.heap.size + 1 + 1) (W.heap.size + 1) W.heap.size w' ((keepS base pn s).k : Nat) (keepS base pn s).kept (keepS base pn s).out vk' vo' ∧ Left W.heap.size X w') := HK
      generalize keepS base pn s = s1 at *
      obtain ⟨k1, kp1, o1⟩ := s1
      simp only at HS1 HK2
      have HX := hidep hbX
      subst hu
      have hcF := hF.cell
      obtain ⟨hx0, hx1, hx2⟩ := box3_cell hbX
      have hone := symsC_one ins
      clear HK hfit hbX hr
      have HB := hidep hB
      gi_upto_region 12 with (first
        | (refine ⟨trivial, ?_⟩; gi_at_call 53; refine (CallsIn.inRound l (callsIn_wide.2 HK2.out)).mono ?_; rintro e X1 ⟨rfl, vk1, vo1, hS1, hL1⟩)
        | fail)
      have hB1 := HB.out.trans hL1.below
      have hbX1 := hL1.edits.2 _ _ _ _ (.inl rfl) HX.out
      have hF1 := hL1.edits.2 _ _ _ _ (.inr (.inr rfl)) (show X.heap[W.heap.size + 1 + 1 + 1]? = some (.cells _ 84 (0, 0)) from hF)
      obtain ⟨ao, co, rfl, _, _⟩ := (Rd.of_own hS1.or).form
      have co1 := hS1.ob.cell
      have hx2' := (box3_cell hbX1).2.2
      have hsrc := gx2.below hB1
      have hso := HS1.out.1
      clear hx0 hx1 hx2 hcF hS hF hB
      gi_upto_region 13 with (first
        | (gi_at_builtin; refine wpListIn_append_rd _ rfl (.tmp 44) (.tmp 46) rfl slSyms W.heap.size _ _ _ rfl hS1.or _ _ _ _ rfl hsrc hone (by unfold maxLen; omega) (by omega) hS1.hz ?_; intro v2 X2 hown2 hgr2 hat hnl; clear hat hnl; obtain ⟨hS2, hL2, hbx⟩ := hS1.pushOut0 hown2 hgr2; obtain ⟨a2, c2, rfl, _, _⟩ := (Rd.of_own hown2).form; have hc1 := hbx.cell; have hf1 := hbx.frozen)
        | fail)
      obtain ⟨X3, hX3⟩ : ∃ X3, X2.setCell ⟨W.heap.size, 0, none⟩ (.slice a2 (o1.length + ins.length) c2) = X3 := ⟨_, rfl⟩
      rw [hX3] at hS2 hL2 ⊢
      clear hX3 hbx hown2 hgr2 hc1 hf1 hS1 co1 hx2' hsrc
      have hbX3 := hL2.edits.2 _ _ _ _ (.inl rfl) hbX1
      have hF3 := hL2.edits.2 _ _ _ _ (.inr (.inr rfl)) hF1
      have hx1' := (box3_cell hbX3).2.1
      have ca := hS2.ia.cell
      have fa := hS2.ia.frozen
      have HF := hidep (hS2.setAt ((k1 : Int) + (dn : Int)))
      have HL := hidep (hL1.trans hL2)
      have HB3 := hidep (hB1.trans hL2.below)
      have HF3 := hidep hF3
      have hk1 := HS1.out.2
      clear hbX3 hbX1 hF1 hF3 hS2 hL1 hL2 hB1
      gi_wp2
      have hL4 := HL.out.trans HF.out.2
      refine ⟨hL4.others.from _, hL4.edits, ⟨⟨vk1, .slice a2 (o1.length + ins.length) c2, ?_⟩, HF.out.2.edits.2 _ _ _ _ (.inr (.inr rfl)) HF3.out, HB3.out.trans HF.out.2.below⟩⟩
      rw [HST.out]
      exact HF.out.1
    case stop2 =>
      rintro D2 cd pre X _ _ hf _
      exact hf.elim
    case done2 =>
      rintro D2 ys X hD2 rfl ⟨⟨vk, vo, hS⟩, hF, hB⟩ hK2
      have hfit := fits_fold hl (ys.map (·.1.1)) (fun e he => by obtain ⟨y, _, rfl⟩ := List.mem_map.1 he; exact y.2.1)
      rw [List.length_map] at hfit
      have HE : Hid (keepS base base.length (foldS base (ys.map (·.1.1))) = endS base (L.map (·.1))) := hidep (by
        rw [← HLS.out, List.map_map]; rfl)
      generalize foldS base (ys.map (·.1.1)) = s at *
      have HK2 : Hid (Calls Try.prog 53 #[.int .i64 base.length, .pointer (some ⟨W.heap.size + 1 + 1, 0, none⟩), .pointer (some ⟨W.heap.size + 1, 0, none⟩), .pointer (some ⟨W.heap.size, 0, none⟩), .pointer (some ⟨w.heap.size, 0, none⟩)] X fun e w' => e = .returned (.tuple #[]) ∧
          ∃ vk' vo', KSt W.heap.size (W.heap.size + 1 + 1) (W.heap.size + 1) W.heap.size w' ((keepS base base.length s).k : Nat) (keepS base base.length s).kept (keepS base base.length s).out vk' vo' ∧ Left W.heap.size X w') :=
        hidep (keep_any W (W.heap.size + 1 + 1) (W.heap.size + 1) W.heap.size w.heap.size (0, 0) _ base hM.b3 hBase hl base.length s.k (by omega) s.kept s.out vk vo X hB hS (by have := hfit.kept; omega) (by have := hfit.out; omega))
      rw [HE.out] at HK2
      generalize hen : endS base (L.map (·.1)) = en at *
      have HEN := hidep hen
      clear hen HE hfit hS
      obtain ⟨k1, kp1, o1⟩ := en
      simp only at HK2
      have hcF := hF.cell
      have hMX := hM.step hB
      have c3 := hMX.b3.cell
      gi_upto_region 15 with (first
        | (refine ⟨trivial, ?_⟩; gi_at_call 53; refine (callsIn_wide.2 HK2.out).mono ?_; rintro e X1 ⟨rfl, vk1, vo1, hS1, hL1⟩)
        | fail)
      have hB1 := hB.trans hL1.below
      have hM1 := hM.step hB1
      have hK21 := hL1.others.same D2 _ hK2 rfl
      obtain ⟨ao, co, rfl, _, _⟩ := (Rd.of_own hS1.or).form
      obtain ⟨ak, ck, rfl, _, _⟩ := (Rd.of_own hS1.kr).form
      have c9 := hS1.ob.cell
      have c10 := hS1.kb.cell
      have c6 := hM1.b6.cell
      have c7 := hM1.b7.cell
      have c8 := hM1.b8.cell
      have f6 := hM1.b6.frozen
      have f7 := hM1.b7.frozen
      have f8 := hM1.b8.frozen
      clear hcF c3 hMX hF hB HK2
      have hbig : 2048 < o1.length ∨ ¬ 2048 < o1.length := by omega
      rcases hbig with hbig | hbig
      · have HPT := hidep (hM1.put (.slice none 0 0) (.slice none 0 0) 4)
        gi_wp2
        have hDl : D < W.heap.size := lt_of_block hK
        have hwW : w.heap.size ≤ W.heap.size := hM.bw.size
        have hK24 := HPT.out.2.same D2 _ hK21 rfl
        have hKD4 := HPT.out.2.same D _ ((hB1.block D hDl).trans hK) rfl
        have hR1 := HPT.out.1.own (grownBy_putObj' _ D2 (.deferred none)) (n := w.heap.size) (Nat.le_refl _) (fun r e => by cases e; exact ⟨by omega, _, hK24, rfl⟩)
        have hKD5 := (World.putObj_heap_other (w := _) (o := Obj.deferred none) (show D ≠ D2 by omega)).trans hKD4
        have hR2 := hR1.own (grownBy_putObj' _ D (.deferred none)) (n := w.heap.size) (Nat.le_refl _) (fun r e => by cases e; exact ⟨by omega, _, hKD5, rfl⟩)
        refine ⟨by simp, .inl ⟨_, _, rfl, run_takeDeferred hK24, ?_⟩⟩
        refine ⟨by simp, .inl ⟨_, _, rfl, run_takeDeferred hKD5, ?_⟩⟩
        have e6 := hR2.b6.cell
        have e7 := hR2.b7.cell
        have e8 := hR2.b8.cell
        refine ⟨_, results_cells3 rfl _ _ _ rfl rfl rfl (v1 := .slice none 0 0) (v2 := .slice none 0 0) (v3 := .int .i64 4) (by go_simp) (by go_simp) (by go_simp), ?_⟩
        exact ⟨([], [], 4), .inr ⟨HN.out, L, HP.out, HQ.out, by rw [HEN.out]; simp [doneZ, hbig]⟩, _, _, rfl, World.ownsRow_nil _ _ _ _, World.ownsRow_nil _ _ _ _, hR2.bw⟩
      · have hlw := hM.b8.lt
        have HPT : Hid ((MBoxR w (.slice ao o1.length co) (.slice ak kp1.length ck) 0 (((X1.setCell ⟨w.heap.size + 1, 0, none⟩ (.slice ao o1.length co)).setCell ⟨w.heap.size + 1 + 1, 0, none⟩ (.slice ak kp1.length ck)).setCell ⟨w.heap.size + 1 + 1 + 1, 0, none⟩ (.int .i64 0)).drew ∧ KeepsOthers X1 (((X1.setCell ⟨w.heap.size + 1, 0, none⟩ (.slice ao o1.length co)).setCell ⟨w.heap.size + 1 + 1, 0, none⟩ (.slice ak kp1.length ck)).setCell ⟨w.heap.size + 1 + 1 + 1, 0, none⟩ (.int .i64 0)).drew) ∧
            (((X1.setCell ⟨w.heap.size + 1, 0, none⟩ (.slice ao o1.length co)).setCell ⟨w.heap.size + 1 + 1, 0, none⟩ (.slice ak kp1.length ck)).setCell ⟨w.heap.size + 1 + 1 + 1, 0, none⟩ (.int .i64 0)).drew.ownsRow W.heap.size 34 2 (.slice ao o1.length co) o1.length (symsC o1) ∧
            (((X1.setCell ⟨w.heap.size + 1, 0, none⟩ (.slice ao o1.length co)).setCell ⟨w.heap.size + 1 + 1, 0, none⟩ (.slice ak kp1.length ck)).setCell ⟨w.heap.size + 1 + 1 + 1, 0, none⟩ (.int .i64 0)).drew.ownsRow W.heap.size 45 2 (.slice ak kp1.length ck) kp1.length (pairsC kp1)) :=
          have h0 := hM1.put (.slice ao o1.length co) (.slice ak kp1.length ck) 0
          hidep ⟨⟨⟨h0.1.b6, h0.1.b7, h0.1.b8, h0.1.bw.drew⟩, h0.2.trans (KeepsOthers.drew _)⟩, row_put (w := w) hS1.or (by omega) _ _ _, row_put (w := w) hS1.kr (by omega) _ _ _⟩
        gi_wp2
        gi_region
        gi_wp2
        obtain ⟨X4, hX4⟩ : ∃ X4, (((X1.setCell ⟨w.heap.size + 1, 0, none⟩ (.slice ao o1.length co)).setCell ⟨w.heap.size + 1 + 1, 0, none⟩ (.slice ak kp1.length ck)).setCell ⟨w.heap.size + 1 + 1 + 1, 0, none⟩ (.int .i64 0)).drew = X4 := ⟨_, rfl⟩
        rw [hX4] at HPT ⊢
        have HQ1 := HPT.out.2
        have HPT := hidep HPT.out.1
        have hDl : D < W.heap.size := lt_of_block hK
        have hwW : w.heap.size ≤ W.heap.size := hM.bw.size
        have hK24 := HPT.out.2.same D2 _ hK21 rfl
        have hKD4 := HPT.out.2.same D _ ((hB1.block D hDl).trans hK) rfl
        have hR1 := HPT.out.1.own (grownBy_putObj' _ D2 (.deferred none)) (n := w.heap.size) (Nat.le_refl _) (fun r e => by cases e; exact ⟨by omega, _, hK24, rfl⟩)
        have hKD5 := (World.putObj_heap_other (w := _) (o := Obj.deferred none) (show D ≠ D2 by omega)).trans hKD4
        have hR2 := hR1.own (grownBy_putObj' _ D (.deferred none)) (n := w.heap.size) (Nat.le_refl _) (fun r e => by cases e; exact ⟨by omega, _, hKD5, rfl⟩)
        refine ⟨by simp, .inl ⟨_, _, rfl, run_takeDeferred hK24, ?_⟩⟩
        refine ⟨by simp, .inl ⟨_, _, rfl, run_takeDeferred hKD5, ?_⟩⟩
        have e6 := hR2.b6.cell
        have e7 := hR2.b7.cell
        have e8 := hR2.b8.cell
        have q1 := ownsRow_putObj (ownsRow_putObj HQ1.1 (.deferred none) hK24 rfl) (.deferred none) hKD5 rfl
        have q2 := ownsRow_putObj (ownsRow_putObj HQ1.2 (.deferred none) hK24 rfl) (.deferred none) hKD5 rfl
        refine ⟨_, results_cells3 rfl _ _ _ rfl rfl rfl (v1 := .slice ao o1.length co) (v2 := .slice ak kp1.length ck) (v3 := .int .i64 0) (by go_simp) (by go_simp) (by go_simp), ?_⟩
        exact ⟨(o1, kp1, 0), .inr ⟨HN.out, L, HP.out, HQ.out, by rw [HEN.out]; simp [doneZ, hbig]⟩, _, _, rfl, ownR_base0 q1 hwW, ownR_base0 q2 hwW, hR2.bw⟩
end Go.Proofs.Ythdafajhohdkoaa
