/- Contract: the law's helper lives. -/
import Derived.Test.YtfljgcpfmhhgcaaRdA
import Derived.Test.YtfljgcpfmhhgcaaRdCk
namespace Go.Proofs.Ytfljgcpfmhhgcaa
open Go.RowKit Go.Lab
attribute [local go_sem] Oper.semAt_some
def plA : Pl := ⟨0, 0, 0, 25, 0, 2⟩
def plB : Pl := ⟨0, 0, 0, 8, 0, 10⟩
def plD : Pl := ⟨0, 0, 0, 40, 1, 1⟩
theorem plA_ok : PlOk plA := by simp [PlOk, plA]
theorem plB_ok : PlOk plB := by simp [PlOk, plB]
theorem plD_ok : PlOk plD := by simp [PlOk, plD]
theorem plABD_ok : ∀ p ∈ [plA, plB, plD], PlOk p := by
  intro p hp
  simp only [List.mem_cons, List.not_mem_nil, or_false] at hp
  rcases hp with rfl | rfl | rfl
  · exact plA_ok
  · exact plB_ok
  · exact plD_ok
theorem best1 (pv nv : Value) (w : World) (hp : PlacesAt w pv [plA, plB, plD]) (hn : IntsAt w nv [0, 1, 2]) :
    Calls Try.prog 18 #[.int .i64 0, pv, nv] w fun e w' => Below w.heap.size w w' ∧ ∃ oa oc la lc, e = .returned (.tuple #[.agg #[.slice oa 3 oc, .int .i64 15, .slice la 8 lc], .int .i64 0]) ∧ IntsOf TkR w' (.slice oa 3 oc) [0, 1, 2] ∧ TabOf TkR w' (.slice la 8 lc) (tabL 0 [plA, plB, plD]) := by
  refine (best_any 0 _ _ pv nv plABD_ok w hp hn).mono ?_
  rintro e w' ⟨hb, vo, vl, rfl, ho, hl⟩
  have h1 : taskZ 0 ([plA, plB, plD].length : Nat) [0, 1, 2] = 0 := by decide +kernel
  have h2 : restV 0 (needL [plA, plB, plD] [0, 1, 2]) (2 ^ ([0, 1, 2] : List Int).length - 1) pl0 = 15 := by decide +kernel
  have h3 : orderZ 0 (needL [plA, plB, plD] [0, 1, 2]) [0, 1, 2] = [0, 1, 2] := by decide +kernel
  rw [h1, if_pos rfl] at ho hl
  rw [h3] at ho
  obtain ⟨oa, oc, rfl, _, _⟩ := ho.1.form
  obtain ⟨la, lc, rfl, _, _⟩ := TabOf.form hl
  exact ⟨hb, oa, oc, la, lc, by rw [h1, if_pos rfl, h2]; rfl, ho, hl⟩
theorem best2 (pv nv : Value) (w : World) (hp : PlacesAt w pv [plA, plB, plD]) (hn : IntsAt w nv [1, 2]) :
    Calls Try.prog 18 #[.int .i64 1, pv, nv] w fun e w' => Below w.heap.size w w' ∧ ∃ oa oc la n lc, e = .returned (.tuple #[.agg #[.slice oa 2 oc, .int .i64 25, .slice la n lc], .int .i64 0]) ∧ IntsOf TkR w' (.slice oa 2 oc) [1, 2] := by
  refine (best_any 1 _ _ pv nv plABD_ok w hp hn).mono ?_
  rintro e w' ⟨hb, vo, vl, rfl, ho, hl⟩
  have h1 : taskZ 1 ([plA, plB, plD].length : Nat) [1, 2] = 0 := by decide +kernel
  have h2 : restV 1 (needL [plA, plB, plD] [1, 2]) (2 ^ ([1, 2] : List Int).length - 1) pl0 = 25 := by decide +kernel
  have h3 : orderZ 1 (needL [plA, plB, plD] [1, 2]) [1, 2] = [1, 2] := by decide +kernel
  rw [h1, if_pos rfl] at ho
  rw [h3] at ho
  obtain ⟨oa, oc, rfl, _, _⟩ := ho.1.form
  obtain ⟨la, lc, rfl, _, _⟩ := TabOf.form hl
  exact ⟨hb, oa, oc, la, _, lc, by rw [h1, if_pos rfl, h2]; rfl, ho⟩
theorem check1 (pv nv vo vl : Value) (w : World) (hp : PlacesAt w pv [plA, plB, plD]) (hn : IntsAt w nv [0, 1, 2]) (ho : IntsAt w vo [0, 1, 2]) (hl : TabAt w vl (tabL 0 [plA, plB, plD])) :
    Calls Try.prog 23 #[.int .i64 0, pv, nv, planV vo 15 vl] w fun e w' => e = .returned (.int .i64 0) ∧ Below w.heap.size w w' := by
  have h1 : checkZ 0 [plA, plB, plD] [0, 1, 2] [0, 1, 2] 15 (tabL 0 [plA, plB, plD]) = 0 := by
    have hs : sortZ [0, 1, 2] = [0, 1, 2] := List.mergeSort_of_pairwise (by decide)
    unfold checkZ
    rw [hs]
    decide +kernel
  have h2 : ∀ r ∈ tabL 0 [plA, plB, plD], ∀ x ∈ r, -1152921504606846976 ≤ x ∧ x ≤ 1152921504606846976 := by decide +kernel
  have h := check_any 0 [plA, plB, plD] [0, 1, 2] [0, 1, 2] 15 (tabL 0 [plA, plB, plD]) pv nv vo vl plABD_ok h2 (by decide) w hp hn ho hl
  rw [h1] at h
  exact h
theorem lit3 (W : World) (x y z : Int) (h : ∀ u ∈ [x, y, z], -9223372036854775808 ≤ u ∧ u ≤ 9223372036854775807) : IntsAt (W.alloc (.cells #[.int .i64 x, .int .i64 y, .int .i64 z] 3)) (.slice (some ⟨W.heap.size, 0, none⟩) 3 3) [x, y, z] :=
  ⟨(Rd.fresh W #[.int .i64 x, .int .i64 y, .int .i64 z] 3 1 3 rfl (by decide)).mono (fun _ _ => trivial), h⟩
theorem lit2 (W : World) (x y : Int) (h : ∀ u ∈ [x, y], -9223372036854775808 ≤ u ∧ u ≤ 9223372036854775807) : IntsAt (W.alloc (.cells #[.int .i64 x, .int .i64 y] 3)) (.slice (some ⟨W.heap.size, 0, none⟩) 2 2) [x, y] :=
  ⟨(Rd.fresh W #[.int .i64 x, .int .i64 y] 3 1 2 rfl (by decide)).mono (fun _ _ => trivial), h⟩
set_option maxRecDepth 100000 in
set_option maxHeartbeats 4000000 in
theorem lives_any (w : World) : Calls Try.prog 14 #[] w fun e w' => e = .returned (.bool true) ∧ Below w.heap.size w w' := by
  have hwb := allocs_below [.cells #[.int .i64 0, .int .i64 0, .int .i64 0, .int .i64 25, .int .i64 0, .int .i64 2] 26, .cells #[.int .i64 0, .int .i64 0, .int .i64 0, .int .i64 8, .int .i64 0, .int .i64 10] 26, .cells #[.int .i64 0, .int .i64 0, .int .i64 0, .int .i64 40, .int .i64 1, .int .i64 1] 26, .cells #[.int .i64 0, .int .i64 0, .int .i64 0, .int .i64 25, .int .i64 0, .int .i64 2, .int .i64 0, .int .i64 0, .int .i64 0, .int .i64 8, .int .i64 0, .int .i64 10, .int .i64 0, .int .i64 0, .int .i64 0, .int .i64 40, .int .i64 1, .int .i64 1] 26] w
  have hq := allocs_get [.cells #[.int .i64 0, .int .i64 0, .int .i64 0, .int .i64 25, .int .i64 0, .int .i64 2] 26, .cells #[.int .i64 0, .int .i64 0, .int .i64 0, .int .i64 8, .int .i64 0, .int .i64 10] 26, .cells #[.int .i64 0, .int .i64 0, .int .i64 0, .int .i64 40, .int .i64 1, .int .i64 1] 26, .cells #[.int .i64 0, .int .i64 0, .int .i64 0, .int .i64 25, .int .i64 0, .int .i64 2, .int .i64 0, .int .i64 0, .int .i64 0, .int .i64 8, .int .i64 0, .int .i64 10, .int .i64 0, .int .i64 0, .int .i64 0, .int .i64 40, .int .i64 1, .int .i64 1] 26] w
  have hsz := allocs_size [.cells #[.int .i64 0, .int .i64 0, .int .i64 0, .int .i64 25, .int .i64 0, .int .i64 2] 26, .cells #[.int .i64 0, .int .i64 0, .int .i64 0, .int .i64 8, .int .i64 0, .int .i64 10] 26, .cells #[.int .i64 0, .int .i64 0, .int .i64 0, .int .i64 40, .int .i64 1, .int .i64 1] 26, .cells #[.int .i64 0, .int .i64 0, .int .i64 0, .int .i64 25, .int .i64 0, .int .i64 2, .int .i64 0, .int .i64 0, .int .i64 0, .int .i64 8, .int .i64 0, .int .i64 10, .int .i64 0, .int .i64 0, .int .i64 0, .int .i64 40, .int .i64 1, .int .i64 1] 26] w
  have hrow : PlacesAt (allocs w [.cells #[.int .i64 0, .int .i64 0, .int .i64 0, .int .i64 25, .int .i64 0, .int .i64 2] 26, .cells #[.int .i64 0, .int .i64 0, .int .i64 0, .int .i64 8, .int .i64 0, .int .i64 10] 26, .cells #[.int .i64 0, .int .i64 0, .int .i64 0, .int .i64 40, .int .i64 1, .int .i64 1] 26, .cells #[.int .i64 0, .int .i64 0, .int .i64 0, .int .i64 25, .int .i64 0, .int .i64 2, .int .i64 0, .int .i64 0, .int .i64 0, .int .i64 8, .int .i64 0, .int .i64 10, .int .i64 0, .int .i64 0, .int .i64 0, .int .i64 40, .int .i64 1, .int .i64 1] 26]) (.slice (some ⟨w.heap.size + 3, 0, none⟩) 3 3) [plA, plB, plD] := by
    have h := Rd.fresh (allocs w [.cells #[.int .i64 0, .int .i64 0, .int .i64 0, .int .i64 25, .int .i64 0, .int .i64 2] 26, .cells #[.int .i64 0, .int .i64 0, .int .i64 0, .int .i64 8, .int .i64 0, .int .i64 10] 26, .cells #[.int .i64 0, .int .i64 0, .int .i64 0, .int .i64 40, .int .i64 1, .int .i64 1] 26]) #[.int .i64 0, .int .i64 0, .int .i64 0, .int .i64 25, .int .i64 0, .int .i64 2, .int .i64 0, .int .i64 0, .int .i64 0, .int .i64 8, .int .i64 0, .int .i64 10, .int .i64 0, .int .i64 0, .int .i64 0, .int .i64 40, .int .i64 1, .int .i64 1] 26 6 3 rfl (by decide)
    rw [allocs_size] at h
    exact h.mono (fun _ _ => trivial)
  go_enter Try.func14, Try.ntmps14
  go_upto_region 5 with (fail)
  change Code.wp _ _ _ _ (allocs w [.cells #[.int .i64 0, .int .i64 0, .int .i64 0, .int .i64 25, .int .i64 0, .int .i64 2] 26, .cells #[.int .i64 0, .int .i64 0, .int .i64 0, .int .i64 8, .int .i64 0, .int .i64 10] 26, .cells #[.int .i64 0, .int .i64 0, .int .i64 0, .int .i64 40, .int .i64 1, .int .i64 1] 26, .cells #[.int .i64 0, .int .i64 0, .int .i64 0, .int .i64 25, .int .i64 0, .int .i64 2, .int .i64 0, .int .i64 0, .int .i64 0, .int .i64 8, .int .i64 0, .int .i64 10, .int .i64 0, .int .i64 0, .int .i64 0, .int .i64 40, .int .i64 1, .int .i64 1] 26])
  generalize allocs w [.cells #[.int .i64 0, .int .i64 0, .int .i64 0, .int .i64 25, .int .i64 0, .int .i64 2] 26, .cells #[.int .i64 0, .int .i64 0, .int .i64 0, .int .i64 8, .int .i64 0, .int .i64 10] 26, .cells #[.int .i64 0, .int .i64 0, .int .i64 0, .int .i64 40, .int .i64 1, .int .i64 1] 26, .cells #[.int .i64 0, .int .i64 0, .int .i64 0, .int .i64 25, .int .i64 0, .int .i64 2, .int .i64 0, .int .i64 0, .int .i64 0, .int .i64 8, .int .i64 0, .int .i64 10, .int .i64 0, .int .i64 0, .int .i64 0, .int .i64 40, .int .i64 1, .int .i64 1] 26] = W0 at *
  simp only [List.length_cons, List.length_nil] at hsz
  obtain ⟨a0, a1, a2, a3, a4, a5⟩ := box6_cells (hq 0 _ rfl)
  obtain ⟨b0, b1, b2, b3, b4, b5⟩ := box6_cells (hq 1 _ rfl)
  obtain ⟨d0, d1, d2, d3, d4, d5⟩ := box6_cells (hq 2 _ rfl)
  have HQ0 := hidep (show ∀ X, Below W0.heap.size W0 X → X.heap[w.heap.size]? = some (.cells #[.int .i64 0, .int .i64 0, .int .i64 0, .int .i64 25, .int .i64 0, .int .i64 2] 26) from fun X hX => (hX.block _ (by omega)).trans (hq 0 _ rfl))
  have HQ1 := hidep (show ∀ X, Below W0.heap.size W0 X → X.heap[w.heap.size + 1]? = some (.cells #[.int .i64 0, .int .i64 0, .int .i64 0, .int .i64 8, .int .i64 0, .int .i64 10] 26) from fun X hX => (hX.block _ (by omega)).trans (hq 1 _ rfl))
  have HQ2 := hidep (show ∀ X, Below W0.heap.size W0 X → X.heap[w.heap.size + 1 + 1]? = some (.cells #[.int .i64 0, .int .i64 0, .int .i64 0, .int .i64 40, .int .i64 1, .int .i64 1] 26) from fun X hX => (hX.block _ (by omega)).trans (hq 2 _ rfl))
  have HROW := hidep hrow
  have HWB := hidep hwb
  have HSZ := hidep hsz
  clear hq hrow hwb hsz
  have hc1 : costZ 0 plA plB = 4 := by decide
  have hc2 : costZ 0 plB plD = 6 := by decide
  have hc3 : costZ 1 plA plB = 10 := by decide
  have hc4 : costZ 1 plB plD = 13 := by decide
  have hc5 : costZ 2 plA plB = 9 := by decide
  have hc6 : costZ 3 plB plD = 19 := by decide
  have R1 := hidep (fun W => rcost_any 0 plA plB W plA_ok plB_ok)
  have R2 := hidep (fun W => rcost_any 0 plB plD W plB_ok plD_ok)
  have R3 := hidep (fun W => rcost_any 1 plA plB W plA_ok plB_ok)
  have R4 := hidep (fun W => rcost_any 1 plB plD W plB_ok plD_ok)
  have R5 := hidep (fun W => rcost_any 2 plA plB W plA_ok plB_ok)
  have R6 := hidep (fun W => rcost_any 3 plB plD W plB_ok plD_ok)
  rw [hc1] at R1
  rw [hc2] at R2
  rw [hc3] at R3
  rw [hc4] at R4
  rw [hc5] at R5
  rw [hc6] at R6
  clear hc1 hc2 hc3 hc4 hc5 hc6
  simp only [plV, plA, plB, plD] at R1 R2 R3 R4 R5 R6
  clear a0 a1 a2 a3 a4 a5 b0 b1 b2 b3 b4 b5 d0 d1 d2 d3 d4 d5
  have hz0 : Below W0.heap.size W0 W0 := Below.refl _ _
  obtain ⟨a0, a1, a2, a3, a4, a5⟩ := box6_cells (HQ0.out W0 hz0)
  obtain ⟨b0, b1, b2, b3, b4, b5⟩ := box6_cells (HQ1.out W0 hz0)
  obtain ⟨d0, d1, d2, d3, d4, d5⟩ := box6_cells (HQ2.out W0 hz0)
  have HZ0 := hidep hz0
  clear hz0
  go_upto_region 7 with (first
    | (go_at_call 12; (with_reducible refine (R1.out _).mono ?_); rintro e w1 ⟨rfl, h1⟩; have g1 := HZ0.out.trans (h1.mono HZ0.out.size); clear h1; obtain ⟨a0, a1, a2, a3, a4, a5⟩ := box6_cells (HQ0.out w1 g1); obtain ⟨b0, b1, b2, b3, b4, b5⟩ := box6_cells (HQ1.out w1 g1); obtain ⟨d0, d1, d2, d3, d4, d5⟩ := box6_cells (HQ2.out w1 g1))
    | (go_at_call 12; (with_reducible refine (R2.out _).mono ?_); rintro e w2 ⟨rfl, h2⟩; have g2 := g1.trans (h2.mono g1.size); clear h2; obtain ⟨a0, a1, a2, a3, a4, a5⟩ := box6_cells (HQ0.out w2 g2); obtain ⟨b0, b1, b2, b3, b4, b5⟩ := box6_cells (HQ1.out w2 g2); obtain ⟨d0, d1, d2, d3, d4, d5⟩ := box6_cells (HQ2.out w2 g2))
    | (go_at_call 12; (with_reducible refine (R3.out _).mono ?_); rintro e w3 ⟨rfl, h3⟩; have g3 := g2.trans (h3.mono g2.size); clear h3; obtain ⟨a0, a1, a2, a3, a4, a5⟩ := box6_cells (HQ0.out w3 g3); obtain ⟨b0, b1, b2, b3, b4, b5⟩ := box6_cells (HQ1.out w3 g3); obtain ⟨d0, d1, d2, d3, d4, d5⟩ := box6_cells (HQ2.out w3 g3))
    | (go_at_call 12; (with_reducible refine (R4.out _).mono ?_); rintro e w4 ⟨rfl, h4⟩; have g4 := g3.trans (h4.mono g3.size); clear h4; obtain ⟨a0, a1, a2, a3, a4, a5⟩ := box6_cells (HQ0.out w4 g4); obtain ⟨b0, b1, b2, b3, b4, b5⟩ := box6_cells (HQ1.out w4 g4); obtain ⟨d0, d1, d2, d3, d4, d5⟩ := box6_cells (HQ2.out w4 g4))
    | (go_at_call 12; (with_reducible refine (R5.out _).mono ?_); rintro e w5 ⟨rfl, h5⟩; have g5 := g4.trans (h5.mono g4.size); clear h5; obtain ⟨a0, a1, a2, a3, a4, a5⟩ := box6_cells (HQ0.out w5 g5); obtain ⟨b0, b1, b2, b3, b4, b5⟩ := box6_cells (HQ1.out w5 g5); obtain ⟨d0, d1, d2, d3, d4, d5⟩ := box6_cells (HQ2.out w5 g5))
    | (go_at_call 12; (with_reducible refine (R6.out _).mono ?_); rintro e w6 ⟨rfl, h6⟩; have g6 := g5.trans (h6.mono g5.size); clear h6)
    | fail)
  have HG6 := hidep g6
  clear g1 g2 g3 g4 g5 g6 R1 R2 R3 R4 R5 R6 a0 a1 a2 a3 a4 a5 b0 b1 b2 b3 b4 b5 d0 d1 d2 d3 d4 d5
  have hA : Below W0.heap.size W0 (w6.alloc (.cells #[.int .i64 0, .int .i64 1, .int .i64 2] 3)) := HG6.out.alloc HG6.out.size _
  have HA := hidep hA
  have HB1 := hidep (best1 _ _ _ (HROW.out.below hA) (lit3 w6 0 1 2 (by decide)))
  clear hA
  go_upto_region 8 with (first
    | (go_at_call 18; refine HB1.out.mono ?_; rintro e w7 ⟨h7, oa, oc, la, lc, rfl, ho, hl⟩)
    | fail)
  have h07 : Below W0.heap.size W0 w7 := HA.out.trans (h7.mono HA.out.size)
  obtain ⟨W8, hW8⟩ : ∃ W8, W8 = w7.alloc (.cells #[.slice oa 3 oc, .int .i64 15, .slice la 8 lc] 35) := ⟨_, rfl⟩
  have hp8 : W8.heap[w7.heap.size]? = some (.cells #[.slice oa 3 oc, .int .i64 15, .slice la 8 lc] 35) := by rw [hW8]; exact heap_alloc_new _ _
  have hb8 : Below w7.heap.size w7 W8 := by rw [hW8]; exact (Below.refl _ _).alloc (Nat.le_refl _) _
  have h08 : Below W0.heap.size W0 W8 := h07.trans (hb8.mono h07.size)
  rw [← hW8]
  clear hW8
  have HO8 := hidep (show ∀ X, Below W8.heap.size W8 X → IntsAt X (.slice oa 3 oc) [0, 1, 2] ∧ TabAt X (.slice la 8 lc) (tabL 0 [plA, plB, plD]) from fun X hX =>
    ⟨(IntsOf.at (ho.keeps (Keeps.below _ hb8))).below hX, (TabOf.at (hl.keeps (Keeps.below _ hb8))).below hX⟩)
  have HP8 := hidep (show ∀ X, Below W8.heap.size W8 X → X.heap[w7.heap.size]? = some (.cells #[.slice oa 3 oc, .int .i64 15, .slice la 8 lc] 35) from fun X hX => (hX.block _ (lt_of_block hp8)).trans hp8)
  have hA2 : Below W0.heap.size W0 (W8.alloc (.cells #[.int .i64 1, .int .i64 2] 3)) := h08.alloc h08.size _
  have H82 := hidep (show Below W8.heap.size W8 (W8.alloc (.cells #[.int .i64 1, .int .i64 2] 3)) from (Below.refl _ _).alloc (Nat.le_refl _) _)
  have HB2 := hidep (best2 _ _ _ (HROW.out.below hA2) (lit2 W8 1 2 (by decide)))
  have H08 := hidep h08
  clear hA2 h08 hp8 hb8 ho hl h07 h7
  go_upto_region 9 with (first
    | (go_at_call 18; refine HB2.out.mono ?_; rintro e w9 ⟨h9, oa2, oc2, la2, n2, lc2, rfl, ho2⟩)
    | fail)
  have h89 : Below W8.heap.size W8 w9 := H82.out.trans (h9.mono H82.out.size)
  obtain ⟨W10, hW10⟩ : ∃ W10, W10 = w9.alloc (.cells #[.slice oa2 2 oc2, .int .i64 25, .slice la2 n2 lc2] 35) := ⟨_, rfl⟩
  have hp10 : W10.heap[w9.heap.size]? = some (.cells #[.slice oa2 2 oc2, .int .i64 25, .slice la2 n2 lc2] 35) := by rw [hW10]; exact heap_alloc_new _ _
  have hb10 : Below w9.heap.size w9 W10 := by rw [hW10]; exact (Below.refl _ _).alloc (Nat.le_refl _) _
  have h810 : Below W8.heap.size W8 W10 := h89.trans (hb10.mono h89.size)
  rw [← hW10]
  clear hW10
  have HO10 := hidep (show ∀ X, Below W10.heap.size W10 X → IntsAt X (.slice oa2 2 oc2) [1, 2] from fun X hX => (IntsOf.at (ho2.keeps (Keeps.below _ hb10))).below hX)
  have HP10 := hidep (show ∀ X, Below W10.heap.size W10 X → X.heap[w9.heap.size]? = some (.cells #[.slice oa2 2 oc2, .int .i64 25, .slice la2 n2 lc2] 35) ∧ X.heap[w7.heap.size]? = some (.cells #[.slice oa 3 oc, .int .i64 15, .slice la 8 lc] 35) from fun X hX =>
    ⟨(hX.block _ (lt_of_block hp10)).trans hp10, HP8.out X (h810.trans (hX.mono h810.size))⟩)
  have HO8B := hidep (show ∀ X, Below W10.heap.size W10 X → IntsAt X (.slice oa 3 oc) [0, 1, 2] ∧ TabAt X (.slice la 8 lc) (tabL 0 [plA, plB, plD]) ∧ PlacesAt X (.slice (some ⟨w.heap.size + 3, 0, none⟩) 3 3) [plA, plB, plD] from fun X hX => by
    have h8X := h810.trans (hX.mono h810.size)
    exact ⟨(HO8.out X h8X).1, (HO8.out X h8X).2, HROW.out.below (H08.out.trans (h8X.mono H08.out.size))⟩)
  have HW10 := hidep (show Below w.heap.size w W10 from (HWB.out.trans (H08.out.mono HWB.out.size)).trans (h810.mono (by have := HWB.out.size; have := H08.out.size; omega)))
  obtain ⟨p0, p1, p2⟩ := box3_cells (HP10.out W10 (Below.refl _ _)).1
  obtain ⟨r0, r1, r2⟩ := box3_cells (HP10.out W10 (Below.refl _ _)).2
  have HS1 := hidep (fun X (hX : Below W10.heap.size W10 X) => sameInts_any (.slice oa 3 oc) (.slice (some ⟨X.heap.size, 0, none⟩) 3 3) [0, 1, 2] [0, 1, 2] (X.alloc (.cells #[.int .i64 0, .int .i64 1, .int .i64 2] 3)) (HO8B.out _ (hX.alloc hX.size _)).1 (lit3 X 0 1 2 (by decide)))
  have HS2 := hidep (fun X (hX : Below W10.heap.size W10 X) => sameInts_any (.slice oa2 2 oc2) (.slice (some ⟨X.heap.size, 0, none⟩) 2 2) [1, 2] [1, 2] (X.alloc (.cells #[.int .i64 1, .int .i64 2] 3)) (HO10.out _ (hX.alloc hX.size _)) (lit2 X 1 2 (by decide)))
  have HCH := hidep (fun X (hX : Below W10.heap.size W10 X) => check1 (.slice (some ⟨w.heap.size + 3, 0, none⟩) 3 3) (.slice (some ⟨X.heap.size, 0, none⟩) 3 3) (.slice oa 3 oc) (.slice la 8 lc) (X.alloc (.cells #[.int .i64 0, .int .i64 1, .int .i64 2] 3)) (HO8B.out _ (hX.alloc hX.size _)).2.2 (lit3 X 0 1 2 (by decide)) (HO8B.out _ (hX.alloc hX.size _)).1 (HO8B.out _ (hX.alloc hX.size _)).2.1)
  unfold planV at HCH
  clear h89 h810 hb10 hp10 ho2 h9
  have HK1 := hidep (Below.refl W10.heap.size W10)
  go_wp2_with (first
    | (go_at_call 35; (with_reducible refine (HS1.out _ HK1.out).mono ?_); rintro e w11 ⟨rfl, d1, h11⟩; have k11 : Below W10.heap.size W10 w11 := (by rw [h11]; exact below_drewN (HK1.out.alloc HK1.out.size _) d1); clear h11; obtain ⟨p0, p1, p2⟩ := box3_cells (HP10.out w11 k11).1; obtain ⟨r0, r1, r2⟩ := box3_cells (HP10.out w11 k11).2)
    | (go_at_call 35; (with_reducible refine (HS2.out _ k11).mono ?_); rintro e w12 ⟨rfl, d2, h12⟩; have k12 : Below W10.heap.size W10 w12 := (by rw [h12]; exact below_drewN (k11.alloc k11.size _) d2); clear h12; obtain ⟨p0, p1, p2⟩ := box3_cells (HP10.out w12 k12).1; obtain ⟨r0, r1, r2⟩ := box3_cells (HP10.out w12 k12).2; obtain ⟨t0, t1, t2⟩ := box3_cells (HP10.out _ (k12.alloc k12.size (.cells #[.int .i64 0, .int .i64 1, .int .i64 2] 3))).2)
    | (go_at_call 23; (with_reducible refine (HCH.out _ k12).mono ?_); rintro e w13 ⟨rfl, h13⟩; have k13 := (k12.alloc k12.size _).trans (h13.mono (by have := k12.size; simp; omega)))
    | fail)
  go_ret
  exact ⟨rfl, HW10.out.trans (k13.mono HW10.out.size)⟩
end Go.Proofs.Ytfljgcpfmhhgcaa
