/- Contract of the program's disk: Clone. -/
import Derived.Test.YtmgogmjkoealoaaDkH
namespace Go.Proofs.Ytmgogmjkoealoaa
open Go.RowKit Go.Lab Go.Disk Go.Maps Go.Shelf
theorem blocksC_one (S : List Sec) : ∀ u ∈ blocksC S, u.oneCell' = true := by
  intro u hu
  obtain ⟨x, _, hx⟩ := List.mem_flatMap.1 hu
  exact cellsB_one _ u hx
theorem fresh_blocks (w : World) : (w.alloc (.cells #[] 74)).ownsRow w.heap.size 74 64 (.slice (some ⟨w.heap.size, 0, none⟩) 0 0) 0 [] := World.ownsRow_lit w #[] 0 (Nat.le_refl _) (by decide) rfl
set_option maxHeartbeats 1000000 in
theorem cloneB_any (g n c : Nat) (S : List Sec) (w : World) (hr : RowAt w g 74 (blocksC S)) (hl : (blocksC S).length = n * 64) (hn : n ≤ 4096) (h1 : 1 ≤ n) (hc : n ≤ c ∧ c ≤ maxLen) :
    Calls Try.prog 52 #[.slice (some ⟨g, 0, none⟩) n c] w fun e w' => ∃ g' c', e = .returned (.slice (some ⟨g', 0, none⟩) n c') ∧ w.heap.size ≤ g' ∧ n ≤ c' ∧ c' ≤ maxLen ∧ RowAt w' g' 74 (blocksC S) ∧ Below w.heap.size w w' := by
  have hq : ∀ (W : World) (a : Option Addr) (n c n' c' : Nat), (binOp .eql 67 (.slice a n c) (.slice none n' c')).run Try.prog W = .ok (.bool a.isNone) W := fun W a n c n' c' => Lib.run_eql_slice_nil W _ _ a n c n' c' slBlocks.und
  have hsrc := hr.rd hl hc.1 hc.2
  have hone := blocksC_one S
  have hx0 : Below w.heap.size w (w.alloc (.cells #[] 74)) := (Below.refl _ _).alloc (Nat.le_refl _) _
  have hr2 := hsrc.below hx0
  have hfr := fresh_blocks w
  have HX := hidep hx0
  obtain ⟨hc1, hc2⟩ := hc
  unfold maxLen at hc2
  clear hx0 hsrc hr hl
  generalize blocksC S = cs at *
  go_enter Try.func52, Try.ntmps52
  go_wp2_with (at_builtin; refine wpList_append_rd _ rfl _ _ rfl slBlocks w.heap.size (.slice (some ⟨w.heap.size, 0, none⟩) 0 0) 0 [] rfl hfr _ _ _ _ rfl hr2 hone (by unfold maxLen; omega) (by omega) (by simp) ?_; intro v1 w1 hown hgr hat hnl; clear hat hnl; simp only [Nat.zero_add, List.nil_append] at hown)
  go_ret
  obtain ⟨g2, c2, rfl, hg2, hcc1, hcc2, hrow2⟩ := RowAt.of_own hown (by omega)
  exact ⟨g2, c2, rfl, hg2, hcc1, hcc2, hrow2, HX.out.grown hgr (by simp) (by intro k hk; simp [Value.ownBlock] at hk; omega)⟩
theorem cloneP_any (b n : Nat) (D : DataW Unit) (w : World) (hown : w.ownsMap Try.prog 3 blockElem b n D) :
    Calls Try.prog 53 #[.map (some b)] w fun e w' => e = .returned (.map (some w.heap.size)) ∧ w'.ownsMap Try.prog 3 blockElem w.heap.size n D ∧ Below w.heap.size w w' :=
  (AnyW.maps_Clone_owns shCloneA 3 blockElem b n D w hown).mono fun _ _ ⟨h1, h2, _, h4⟩ => ⟨h1, h2, h4⟩
theorem cloneW_any (b n : Nat) (D : DataW Unit) (w : World) (hown : w.ownsMap Try.prog 3 (plainElem Try.prog 4) b n D) :
    Calls Try.prog 54 #[.map (some b)] w fun e w' => e = .returned (.map (some w.heap.size)) ∧ w'.ownsMap Try.prog 3 (plainElem Try.prog 4) w.heap.size n D ∧ Below w.heap.size w w' :=
  (AnyW.maps_Clone_owns shCloneB 3 (plainElem Try.prog 4) b n D w hown).mono fun _ _ ⟨h1, h2, _, h4⟩ => ⟨h1, h2, h4⟩
theorem own_below {w w' : World} {R : Value → Option (DataW Unit × List MemPlace)} {b n : Nat} {M : DataW Unit} (h : w.ownsMap Try.prog 3 R b n M) (hb : Below w.heap.size w w') : w'.ownsMap Try.prog 3 R b n M := ownsMap_block h (hb.block _ h.lt)
theorem RowAt.below {w w' : World} {g : Nat} {t : TypeId} {cs : List Value} (h : RowAt w g t cs) (hb : Below w.heap.size w w') : RowAt w' g t cs := h.of_block (hb.block _ h.lt)
set_option maxHeartbeats 2000000 in
set_option maxRecDepth 100000 in
theorem clone_any (p : Value) (D : Dk) (w : World) (lo hi : Nat) (h : DiskAt w lo hi p D) :
    Calls Try.prog 28 #[p] w fun e w' => ∃ p', e = .returned p' ∧ DiskAt w' w.heap.size w'.heap.size p' D ∧ Below w.heap.size w w' := by
  obtain ⟨b, g, mb, wb, c, l, P, W, rfl, h⟩ := h
  have c0 := h.c0
  have c1 := h.c1
  have c2 := h.c2
  have c3 := h.c3
  have c4 := h.c4
  have hbl := h.top.lt
  have hok := h.ok.1
  have hl := blocksC_len hok
  have hC : ∀ X, Below w.heap.size w X → X.cell? ⟨b, 0, none⟩ = some (.slice (some ⟨g, 0, none⟩) D.s.length c) ∧ X.cell? ⟨b, 1, none⟩ = some (.map (some mb)) ∧ X.cell? ⟨b, 2, none⟩ = some (.map (some wb)) ∧ X.cell? ⟨b, 3, none⟩ = some (.bool D.off) ∧ X.cell? ⟨b, 4, none⟩ = some (.int .i64 l) := fun X hX =>
    ⟨(hX.cell (p := ⟨b, 0, none⟩) hbl).trans c0, (hX.cell (p := ⟨b, 1, none⟩) hbl).trans c1, (hX.cell (p := ⟨b, 2, none⟩) hbl).trans c2, (hX.cell (p := ⟨b, 3, none⟩) hbl).trans c3, (hX.cell (p := ⟨b, 4, none⟩) hbl).trans c4⟩
  have HC := hidep hC
  have H1 : Hid (∀ X, Below w.heap.size w X → Calls Try.prog 52 #[.slice (some ⟨g, 0, none⟩) D.s.length c] X fun e w' => ∃ g' c', e = .returned (.slice (some ⟨g', 0, none⟩) D.s.length c') ∧ X.heap.size ≤ g' ∧ D.s.length ≤ c' ∧ c' ≤ maxLen ∧ RowAt w' g' 74 (blocksC D.s) ∧ Below X.heap.size X w') :=
    hidep (fun X hX => cloneB_any g _ c D.s X (h.row.below hX) hl hok.2.1 hok.1 h.cap)
  have H2 : Hid (∀ X, Below w.heap.size w X → Calls Try.prog 53 #[.map (some mb)] X fun e w' => e = .returned (.map (some X.heap.size)) ∧ w'.ownsMap Try.prog 3 blockElem X.heap.size (size P) P ∧ Below X.heap.size X w') :=
    hidep (fun X hX => cloneP_any mb _ P X (own_below h.pend hX))
  have H3 : Hid (∀ X, Below w.heap.size w X → Calls Try.prog 54 #[.map (some wb)] X fun e w' => e = .returned (.map (some X.heap.size)) ∧ w'.ownsMap Try.prog 3 (plainElem Try.prog 4) X.heap.size (size W) W ∧ Below X.heap.size X w') :=
    hidep (fun X hX => cloneW_any wb _ W X (own_below h.worn hX))
  have H := hidep h
  have hx0 : Below w.heap.size w w.drew := (Below.refl _ _).drew
  clear h hC hok hl
  go_enter Try.func28, Try.ntmps28
  go_wp2
  have h1 := True.intro
  have h2 := True.intro
  have h3 := True.intro
  go_region_held3 (fun w' => w'.cell? ⟨b, 0, none⟩ = some (.slice (some ⟨g, 0, none⟩) D.s.length c) ∧ w'.cell? ⟨b, 1, none⟩ = some (.map (some mb)) ∧ w'.cell? ⟨b, 2, none⟩ = some (.map (some wb)) ∧ w'.cell? ⟨b, 3, none⟩ = some (.bool D.off) ∧ w'.cell? ⟨b, 4, none⟩ = some (.int .i64 l))
    (first
      | exact HC.out _ hx0
      | exact HC.out _ h1
      | exact HC.out _ h2
      | exact HC.out _ h3
      | exact HC.out _ (h3.alloc h3.size _))
    (first
      | (go_at_call 52; refine (H1.out _ hx0).mono ?_; rintro e w1 ⟨g1, k1, rfl, hg1, hk1, hk2, hr1, hb1⟩; have h1 := hx0.trans (hb1.mono hx0.size); dsimp only)
      | (go_at_call 53; refine (H2.out _ h1).mono ?_; rintro e w2 ⟨rfl, ho2, hb2⟩; have h2 := h1.trans (hb2.mono h1.size); dsimp only)
      | (go_at_call 54; refine (H3.out _ h2).mono ?_; rintro e w3 ⟨rfl, ho3, hb3⟩; have h3 := h2.trans (hb3.mono h2.size); dsimp only))
  clear H1 H2 H3 HC
  go_wp2
  go_ret
  have hz1 := hb1.size
  have hz2 := hb2.size
  have hz3 := hb3.size
  have hl2 := ho2.lt
  have hl3 := ho3.lt
  simp only [World.size_drew] at hg1 hz1
  have hm := DiskIn.make (D := D) (l := l) h3 hg1 (by omega) (by omega) (by omega) ⟨hk1, hk2⟩ ((hr1.below hb2).below hb3) (own_below ho2 hb3) ho3 H.out.pv H.out.wv H.out.lft H.out.ok
  exact ⟨_, rfl, ⟨_, g1, w1.heap.size, w2.heap.size, k1, l, P, W, rfl, by rw [World.size_alloc]; exact hm⟩, h3.alloc h3.size _⟩
end Go.Proofs.Ytmgogmjkoealoaa
