/- The maker of examinations: formulas and calculations: they hand back some value of the right form. -/
import Derived.Test.YtfljgcpfmhhgcaaRdMb
namespace Go.Proofs.Ytfljgcpfmhhgcaa
open Go.RowKit Go.Lab
attribute [local go_sem] Oper.semAt_some
set_option maxRecDepth 100000
theorem range_map49 (f : Nat → Value) : (List.range 49).map f = [f 0, f 1, f 2, f 3, f 4, f 5, f 6, f 7, f 8, f 9, f 10, f 11, f 12, f 13, f 14, f 15, f 16, f 17, f 18, f 19, f 20, f 21, f 22, f 23, f 24, f 25, f 26, f 27, f 28, f 29, f 30, f 31, f 32, f 33, f 34, f 35, f 36, f 37, f 38, f 39, f 40, f 41, f 42, f 43, f 44, f 45, f 46, f 47, f 48] := rfl
theorem frame49 (t : Array Value) (ds : List Deferred) (h : t.size = 49) : ({ tmps := t, defers := ds } : Act) = { tmps := #[slot t 0, slot t 1, slot t 2, slot t 3, slot t 4, slot t 5, slot t 6, slot t 7, slot t 8, slot t 9, slot t 10, slot t 11, slot t 12, slot t 13, slot t 14, slot t 15, slot t 16, slot t 17, slot t 18, slot t 19, slot t 20, slot t 21, slot t 22, slot t 23, slot t 24, slot t 25, slot t 26, slot t 27, slot t 28, slot t 29, slot t 30, slot t 31, slot t 32, slot t 33, slot t 34, slot t 35, slot t 36, slot t 37, slot t 38, slot t 39, slot t 40, slot t 41, slot t 42, slot t 43, slot t 44, slot t 45, slot t 46, slot t 47, slot t 48], defers := ds } := by
  have e : t = ((List.range 49).map (slot t)).toArray := by
    apply Array.ext
    · simp [h]
    · intro i h1 h2
      simp [slot, Array.getD, h1]
  rw [range_map49] at e
  exact congrArg (fun x => ({ tmps := x, defers := ds } : Act)) e
theorem load_expr (w : World) (g : Nat) (x y z : Value) (c0 : w.cell? ⟨g, 0, none⟩ = some x) (c1 : w.cell? ⟨g, 1, none⟩ = some y) (c2 : w.cell? ⟨g, 2, none⟩ = some z) : (loadVar 93 ⟨g, 0, none⟩).run Try.prog w = .ok (.agg #[x, y, z]) w := by
  go_simp
/-- A literal list of one element reads so. -/
theorem rd_lit {X : World} {g k : Nat} {e : TypeId} {cs : Array Value} (hX : X.heap[g]? = some (.cells cs e)) (hk : cs.size = 1 * k) : Rd X (· = e) k (.slice (some ⟨g, 0, none⟩) 1 1) 1 cs.toList := by
  refine ⟨by simpa using hk, _, _, rfl, Nat.le_refl _, by decide, (fun e => by cases e), fun ad e _ => ?_⟩
  injection e with e
  subst e
  refine ⟨rfl, cs, _, _, rfl, hX, fun j u hu => by simpa using hu⟩
/-- A function whose result lies in a box of three cells: what it hands back behind three stores. -/
def ExprR (e : Ending) : Prop := ∃ (op n : Int) (ka : Option Addr) (kn kc : Nat), e = .returned (.agg #[.int .i64 op, .int .i64 n, .slice ka kn kc])
/-- The loop over the kids. -/
def TermI (P : Nat) (la : Option Addr) (lc : Nat) (l : List Int) (w X : World) (B4 B7 : Nat) (op : Int) (s8 : Value) (wr : World) : Prop :=
  ∃ (i : Nat) (rv : Value), i ≤ 2 ∧ s8 = .int .i64 (i : Nat) ∧ Row X.heap.size wr 93 3 rv i ∧ wr.heap[B7]? = some (.cells #[.int .i64 op, .int .i64 0, rv] 93) ∧ wr.heap[B4]? = some (.cells #[.int .i64 0, .int .i64 0, .slice none 0 0] 93) ∧ X.heap.size ≤ wr.heap.size ∧ MkR P la lc l w wr
/-- What holds behind the choice of the kind. -/
def TermM (P : Nat) (la : Option Addr) (lc : Nat) (l : List Int) (w : World) (B4 : Nat) (depth : Int) (a : Act) (W : World) : Prop :=
  a.tmps.size = 49 ∧ a.defers = [] ∧ slot a.tmps 0 = .pointer (some ⟨P, 0, none⟩) ∧ slot a.tmps 1 = .int .i64 depth ∧ slot a.tmps 4 = .pointer (some ⟨B4, 0, none⟩) ∧ (∃ k : Int, slot a.tmps 5 = .int .i64 k ∧ 0 ≤ k ∧ k < 12 ∧ (depth ≤ 0 → k < 3)) ∧ W.heap[B4]? = some (.cells #[.int .i64 0, .int .i64 0, .slice none 0 0] 93) ∧ MkR P la lc l w W
theorem out3 {P : Nat} {la : Option Addr} {lc : Nat} {l : List Int} {w W : World} (h : Mk P la lc l w) {b : Nat} (hb : w.heap.size ≤ b) {x0 x1 x2 y0 y1 y2 : Value} {t : TypeId} (hq : W.heap[b]? = some (.cells #[x0, x1, x2] t)) (r : MkR P la lc l w W) :
    (((W.setCell ⟨b, 0, none⟩ y0).setCell ⟨b, 1, none⟩ y1).setCell ⟨b, 2, none⟩ y2).heap[b]? = some (.cells #[y0, y1, y2] t) ∧ MkR P la lc l w (((W.setCell ⟨b, 0, none⟩ y0).setCell ⟨b, 1, none⟩ y1).setCell ⟨b, 2, none⟩ y2) :=
  ⟨heap_set (heap_set (heap_set hq 0 y0) 1 y1) 2 y2, ((r.set h hb).set h hb).set h hb⟩
theorem out3_other {W : World} {b b' : Nat} {y0 y1 y2 : Value} {o : Obj} (hne : b' ≠ b) (h : W.heap[b']? = some o) : (((W.setCell ⟨b, 0, none⟩ y0).setCell ⟨b, 1, none⟩ y1).setCell ⟨b, 2, none⟩ y2).heap[b']? = some o :=
  (Below.heap_setCell _ ⟨b, 2, none⟩ y2 b' hne).trans ((Below.heap_setCell _ ⟨b, 1, none⟩ y1 b' hne).trans ((Below.heap_setCell W ⟨b, 0, none⟩ y0 b' hne).trans h))
set_option maxHeartbeats 20000000 in
theorem term_step {P : Nat} {la : Option Addr} {lc : Nat} {l : List Int} (depth : Int) (w : World) (hd0 : -100 ≤ depth) (hd1 : depth ≤ 100) (h : Mk P la lc l w)
    (IH : 0 < depth → ∀ X, MkR P la lc l w X → Calls Try.prog 85 #[.pointer (some ⟨P, 0, none⟩), .int .i64 (depth - 1)] X fun e w' => ExprR e ∧ MkR P la lc l X w') :
    Calls Try.prog 85 #[.pointer (some ⟨P, 0, none⟩), .int .i64 depth] w fun e w' => ExprR e ∧ MkR P la lc l w w' := by
  have HM := hidep h
  have HT := hidep (fun n X (hX : MkR P la lc l w X) => takeM_any n X (hX.mk h))
  have HIH := hidep IH
  have hr0 := MkR.refl h
  clear h IH
  go_enter Try.func85, Try.ntmps85
  go_upto_region 1 with (fail)
  refine wp_abs (fun X => X.heap[w.heap.size]? = some (.cells #[.int .i64 0, .int .i64 0, .slice none 0 0] 93) ∧ MkR P la lc l w X) ⟨heap_alloc_new _ _, hr0.alloc _⟩ ?_
  rintro X ⟨hq4, hrX⟩
  obtain ⟨B4, hB4⟩ : ∃ B4, B4 = w.heap.size := ⟨_, rfl⟩
  rw [← hB4] at hq4 ⊢
  have HB4 := hidep (show w.heap.size ≤ B4 from by omega)
  have hB4P : B4 ≠ P := by have := HM.out.lt; omega
  clear hB4 hr0
  go_upto_if 12 with (first
    | (go_at_call 52; refine (HT.out _ _ hrX).mono ?_; rintro e w1 ⟨⟨z, rfl, hz0, hz1, _⟩, hr1⟩; have hz12 : z < 12 := hz1 (by decide))
    | fail)
  have hq4 := hr1.box hq4 hB4P
  have hr1 := hrX.trans hr1
  clear hrX hz1
  refine wp_join (TermM P la lc l w B4 depth) ?first ?_
  case first =>
    intro K' hMK
    have HR1 := hidep hr1
    by_cases hd : depth ≤ 0
    · go_wp2
      exact ⟨rfl, rfl, rfl, rfl, rfl, ⟨_, rfl, by omega, by omega, fun _ => by omega⟩, hq4, HR1.out⟩
    · go_wp2
      exact ⟨rfl, rfl, rfl, rfl, rfl, ⟨_, rfl, by omega, by omega, fun h => by omega⟩, hq4, HR1.out⟩
  rintro ⟨tm1, ds1⟩ W1 ⟨h49, hds, e0, e1, e4, ⟨k, e5, hk0, hk12, hk3⟩, hqW, hrW⟩
  simp only at h49 hds e0 e1 e4 e5
  subst hds
  apply_assumption
  rw [frame49 tm1 [] h49, e0, e1, e4, e5]
  clear h49 e0 e1 e4 e5 hq4 hr1
  have hP := HM.out.lt
  by_cases hk2 : k < 2
  · have hrY : ∀ o, MkR P la lc l w (W1.alloc o) := fun o => hrW.alloc o
    have hsW := hrW.size
    have hBW := lt_of_block hqW
    go_wp2_with (first
      | (go_at_call 52; refine (HT.out _ _ (hrY _)).mono ?_; rintro e w3 ⟨⟨y, rfl, hy0, hy1, _⟩, hr3⟩; obtain ⟨yn, rfl⟩ : ∃ yn : Nat, y = (yn : Int) := ⟨y.toNat, by omega⟩; have hy6 : (yn : Int) < 6 := hy1 (by decide); obtain ⟨v, hc, n, rfl⟩ := lit_get (p := fun v => ∃ n : Int, v = .int .i64 n) (hr3.box (heap_alloc_new _ _) (by omega)) (by simp) (z := yn) (by simp; omega); have hq4 := hr3.box (below_push ((Below.refl _ _).alloc (Nat.le_refl _) _) hqW) hB4P; obtain ⟨z0, z1, z2⟩ := box3_cells hq4; have f0 := box_frozen hq4 0; have f1 := box_frozen hq4 1; have f2 := box_frozen hq4 2; have hr3 := (hrY _).trans hr3)
      | fail)
    obtain ⟨ho, hor⟩ := out3 HM.out HB4.out hq4 hr3 (y0 := .int .i64 0) (y1 := .int .i64 n) (y2 := .slice none 0 0)
    obtain ⟨v0, v1, v2⟩ := box3_cells ho
    refine bodyPost_ret (results_cell1 rfl _ _ _ rfl (load_expr _ B4 _ _ _ v0 v1 v2)) rfl ?_
    exact ⟨⟨_, _, _, _, _, rfl⟩, hor⟩
  · by_cases hke : k = 2
    · have hkb : (k == 2) = true := by simp [hke]
      go_wp2_with (first
        | (go_at_call 52; refine (HT.out _ _ hrW).mono ?_; rintro e w3 ⟨⟨y, rfl, hy0, hy1, _⟩, hr3⟩; have hq4 := hr3.box hqW hB4P; obtain ⟨z0, z1, z2⟩ := box3_cells hq4; have f0 := box_frozen hq4 0; have f1 := box_frozen hq4 1; have f2 := box_frozen hq4 2; have hr3 := hrW.trans hr3)
        | fail)
      obtain ⟨ho, hor⟩ := out3 HM.out HB4.out hq4 hr3 (y0 := .int .i64 1) (y1 := .int .i64 y) (y2 := .slice none 0 0)
      obtain ⟨v0, v1, v2⟩ := box3_cells ho
      refine bodyPost_ret (results_cell1 rfl _ _ _ rfl (load_expr _ B4 _ _ _ v0 v1 v2)) rfl ?_
      exact ⟨⟨_, _, _, _, _, rfl⟩, hor⟩
    · have hkb : (k == 2) = false := beq_false_of_ne hke
      have hdp : 0 < depth := by
        rcases Int.lt_or_le 0 depth with h | h
        · exact h
        · have := hk3 h
          omega
      have HIH2 := hidep (HIH.out hdp)
      have hde : IntKind.i64.wrap (depth - 1) = depth - 1 := IntWalk.i64_in _ (by omega)
      go_upto_region 9 with (first
        | (go_at_call 52; refine (HT.out _ _ hrW).mono ?_; rintro e w3 ⟨⟨y, rfl, hy0, hy1, _⟩, hr3⟩; have hy7 : y < 7 := hy1 (by decide); have hq4 := hr3.box hqW hB4P; have hr3 := hrW.trans hr3)
        | fail)
      obtain ⟨op, hop⟩ : ∃ op, op = 2 + y := ⟨_, rfl⟩
      rw [← hop]
      clear hop hy0 hy1 hy7 hqW hrW hk3 hk2 hke hkb
      go_upto_region 10 with (fail)
      refine wp_abs (fun X => X.heap[w3.heap.size]? = some (.cells #[.int .i64 op, .int .i64 0, .slice none 0 0] 93) ∧ X.heap[B4]? = some (.cells #[.int .i64 0, .int .i64 0, .slice none 0 0] 93) ∧ MkR P la lc l w X) ⟨heap_alloc_new _ _, below_push ((Below.refl _ _).alloc (Nat.le_refl _) _) hq4, hr3.alloc _⟩ ?_
      have hs3 := hr3.size
      have hB43 := lt_of_block hq4
      obtain ⟨B7, hB7⟩ : ∃ B7, B7 = w3.heap.size := ⟨_, rfl⟩
      rw [← hB7]
      have HB7 := hidep (show w.heap.size ≤ B7 ∧ B4 ≠ B7 from by omega)
      have hB7P : B7 ≠ P := by omega
      clear hB7 hq4 hr3 hs3 hB43
      rintro X ⟨hq7, hq4, hrX⟩
      have hsX := hrX.size
      have HBX := hidep (show B7 < X.heap.size ∧ B4 < X.heap.size ∧ P < X.heap.size from ⟨lt_of_block hq7, lt_of_block hq4, by omega⟩)
      go_upto_region 11 with (fail)
      refine wp_loop (LoopI 49 (fun tm ds wr => (slot tm 0) = .pointer (some ⟨P, 0, none⟩) ∧ (slot tm 1) = .int .i64 depth ∧ (slot tm 4) = .pointer (some ⟨B4, 0, none⟩) ∧ (slot tm 6) = .int .i64 op ∧ (slot tm 7) = .pointer (some ⟨B7, 0, none⟩) ∧ ds = [] ∧ TermI P la lc l w X B4 B7 op (slot tm 8) wr)) (fun a' wr => 2 - (intOf (a'.tmps.getD 8 undef)).toNat) ?kidsStart ?kidsRound
      case' kidsStart => refine LoopI.mk rfl ?_
      case' kidsRound => (rintro ⟨t, ds⟩ wr ⟨hts, hrel⟩; dsimp only at hts hrel; rw [frame49 t ds hts])
      case kidsStart => exact ⟨rfl, rfl, rfl, rfl, rfl, rfl, 0, _, Nat.zero_le _, rfl, ⟨[], World.ownsRow_nil _ _ _ _⟩, hq7, hq4, Nat.le_refl _, hrX⟩
      clear hq7 hq4 hrX
      obtain ⟨h0, h1, h4, h6, h7, hds, i, rv, hi, h8, hrow, hq7, hq4, hsz, hrw⟩ := hrel
      subst hds
      obtain ⟨ra, rc, rfl, _, _⟩ := hrow.form
      rw [h0, h1, h4, h6, h7, h8]
      clear h0 h1 h4 h6 h7 h8 hts
      have HA := hidep (arity_any op)
      go_upto_if 36 with (first
        | (go_at_call 100; refine (HA.out _).mono ?_; rintro e w9 ⟨⟨m, rfl, hm2⟩, rfl⟩)
        | fail)
      by_cases hlt : i < m
      · have hlti : (i : Int) < (m : Int) := by omega
        go_upto_region 13 with (fail)
        obtain ⟨xs, hown⟩ := hrow
        obtain ⟨y0, y1, y2⟩ := box3_cells hq7
        have hXP := HBX.out
        have hrwk := hrw
        refine wp_region_noPanic (wp_region_held_drew (S := (fun Y => MkR P la lc l w Y)) (by kernel_rfl) ?hS85r13n0 (fun hHeld => ?hR85r13n0))
        case hS85r13n0 => ((try dsimp only); (exact hrw.drew))
        refine wpAnyH_take (i := 0) (v := ?v85r13n0q1) rfl (by kernel_rfl) (by kernel_rfl) (by kernel_rfl) (fun _ _ _ h => h) (Or.inl ⟨by kernel_rfl, ?hy85r13n0q1⟩) (by assumption) ?hr85r13n0q1
        case hy85r13n0q1 => (intro w hSw; (try dsimp only at hSw); (skip); first | (go_simp; done) | (go_simp; with_reducible rfl))
        refine wpAnyH_take (i := 2) (v := ?v85r13n0q2) rfl (by kernel_rfl) (by kernel_rfl) (by kernel_rfl) (fun _ _ _ h => h) (Or.inl ⟨by kernel_rfl, ?hy85r13n0q2⟩) (by assumption) ?hr85r13n0q2
        case hy85r13n0q2 => (intro w hSw; (try dsimp only at hSw); (skip); first | (go_simp; done) | (go_simp; with_reducible rfl))
        refine wpAnyH_take (i := 3) (v := ?v85r13n0q3) rfl (by kernel_rfl) (by kernel_rfl) (by kernel_rfl) (fun _ _ _ h => h) (Or.inl ⟨by kernel_rfl, ?hy85r13n0q3⟩) (by assumption) ?hr85r13n0q3
        case hy85r13n0q3 => (intro w hSw; (try dsimp only at hSw); (skip); first | (go_simp; done) | (go_simp; with_reducible rfl))
        refine wpAnyH_take (i := 4) (v := ?v85r13n0q4) rfl (by kernel_rfl) (by kernel_rfl) (by kernel_rfl) (fun _ _ _ h => h) (Or.inl ⟨by kernel_rfl, ?hy85r13n0q4⟩) (by assumption) ?hr85r13n0q4
        case hy85r13n0q4 => (intro w hSw; (try dsimp only at hSw); (skip); first | (go_simp; done) | (go_simp; with_reducible rfl))
        refine wpAnyH_ready (rs := [1, 5]) (by kernel_rfl) (by simp) (AllReadyH.cons rfl (fun K hK => ?hc85r13n0q5) (AllReadyH.cons rfl (fun K hK => ?hc85r13n0q6) AllReadyH.nil))
        case' hc85r13n0q5 =>
          go_simp
          refine hK.out _ _ ?hs85r13n0q5 (fun hHeld85r13n0q5 => ?ht85r13n0q5)
          case hs85r13n0q5 => ((try dsimp only); (first | (with_reducible exact hHeld) | exact hkc | exact hkd | exact hke | exact hkd.drew | exact hke.drew | exact hke.set HM.out HB7.out.1 | exact (hke.set HM.out HB7.out.1).drew))
          clear hHeld hK
          have hHeld := hHeld85r13n0q5
          clear hHeld85r13n0q5
          refine wpAnyH_ready (rs := [5]) (by kernel_rfl) (by simp) (AllReadyH.cons rfl (fun K hK => ?hc85r13n0q7) AllReadyH.nil)
          go_simp
          (go_at_call 85; refine (HIH2.out _ hHeld).mono ?_; rintro e w3 ⟨⟨ko, kn2, kka, kkn, kkc, rfl⟩, hr3⟩; have hq7c := hr3.box hq7 hB7P; have hq4c := hr3.box hq4 hB4P; have hownc := hr3.row hown (by omega); have hkc := hHeld.trans hr3; have hsc : wr.heap.size ≤ w3.heap.size := hr3.size; obtain ⟨yc0, yc1, yc2⟩ := box3_cells hq7c; (try dsimp only))
          refine hK.out _ _ ?hs85r13n0q7 (fun hHeld85r13n0q7 => ?ht85r13n0q7)
          case hs85r13n0q7 => ((try dsimp only); (first | (with_reducible exact hHeld) | exact hkc | exact hkd | exact hke | exact hkd.drew | exact hke.drew | exact hke.set HM.out HB7.out.1 | exact (hke.set HM.out HB7.out.1).drew))
          clear hHeld hK
          have hHeld := hHeld85r13n0q7
          clear hHeld85r13n0q7
          refine wpAnyH_ready (rs := [6]) (by kernel_rfl) (by simp) (AllReadyH.cons rfl (fun K hK => ?hc85r13n0q8) AllReadyH.nil)
          go_simp
          ((first | refine intro_alloc (fun X45 hBX hLX => ?_) | refine intro_alloc_drew (fun X45 hBX hLX => ?_)); have hq7d := below_push hBX hq7c; have hq4d := below_push hBX hq4c; have hownd := ownsRow_turned hownc (Turned.of_below (T := fun _ => False) hBX) (fun _ _ h => h); have hkd := hkc.below hBX; have hsd := hBX.size; obtain ⟨yd0, yd1, yd2⟩ := box3_cells hq7d; (try dsimp only))
          refine hK.out _ _ ?hs85r13n0q8 (fun hHeld85r13n0q8 => ?ht85r13n0q8)
          case hs85r13n0q8 => ((try dsimp only); (first | (with_reducible exact hHeld) | exact hkc | exact hkd | exact hke | exact hkd.drew | exact hke.drew | exact hke.set HM.out HB7.out.1 | exact (hke.set HM.out HB7.out.1).drew))
          clear hHeld hK
          have hHeld := hHeld85r13n0q8
          clear hHeld85r13n0q8
          refine wpAnyH_ready (rs := [7]) (by kernel_rfl) (by simp) (AllReadyH.cons rfl (fun K hK => ?hc85r13n0q9) AllReadyH.nil)
          (refine step_append_rd _ (by rfl) (.tmp 40) (.tmp 45) (by rfl) slExprR X.heap.size (.slice ra i rc) _ _ (by rfl) (by exact hownd) _ _ _ _ (by rfl) (by exact rd_lit hLX rfl) (by intro u hu; simp at hu; rcases hu with rfl | rfl | rfl <;> rfl) (by unfold maxLen; omega) (by omega) (by first | omega | (simp; omega)) ?_; intro v4 w4 hown4 hgr4 hat4 hnl4; obtain ⟨va4, vc4, rfl, _, _⟩ := (Rd.of_own hown4).form; have hq7e := (hgr4.block B7 (lt_of_block hq7d) (fun e1 => by have := (hownd.lt B7 e1.symm).1; omega)).trans hq7d; have hq4e := (hgr4.block B4 (lt_of_block hq4d) (fun e1 => by have := (hownd.lt B4 e1.symm).1; omega)).trans hq4d; have hke := hkd.own HM.out hgr4 (fun g hg => Nat.le_trans hsX (hownd.lt g hg).1); have hse := hgr4.size; have fe := box_frozen hq7e 2; obtain ⟨ye0, ye1, ye2⟩ := box3_cells hq7e; (try dsimp only))
          refine hK.out _ _ ?hs85r13n0q9 (fun hHeld85r13n0q9 => ?ht85r13n0q9)
          case hs85r13n0q9 => ((try dsimp only); (first | (with_reducible exact hHeld) | exact hkc | exact hkd | exact hke | exact hkd.drew | exact hke.drew | exact hke.set HM.out HB7.out.1 | exact (hke.set HM.out HB7.out.1).drew))
          clear hHeld hK
          have hHeld := hHeld85r13n0q9
          clear hHeld85r13n0q9
          refine wpAnyH_take (i := 8) (v := ?v85r13n0q10) rfl (by kernel_rfl) (by kernel_rfl) (by kernel_rfl) (fun _ _ _ h => h) (Or.inl ⟨by kernel_rfl, ?hy85r13n0q10⟩) (by assumption) ?hr85r13n0q10
          case hy85r13n0q10 => (intro w hSw; (try dsimp only at hSw); (skip); first | (go_simp; done) | (go_simp; with_reducible rfl))
          refine wpAnyH_ready (rs := [9]) (by kernel_rfl) (by simp) (AllReadyH.cons rfl (fun K hK => ?hc85r13n0q11) AllReadyH.nil)
          go_simp
          refine hK.out _ _ ?hs85r13n0q11 (fun hHeld85r13n0q11 => ?ht85r13n0q11)
          case hs85r13n0q11 => ((try dsimp only); (first | (with_reducible exact hHeld) | exact hkc | exact hkd | exact hke | exact hkd.drew | exact hke.drew | exact hke.set HM.out HB7.out.1 | exact (hke.set HM.out HB7.out.1).drew))
          clear hHeld hK
          have hHeld := hHeld85r13n0q11
          clear hHeld85r13n0q11
          refine wpAnyH_done (by kernel_rfl) ?_ _
          clear hHeld
          refine NoPanic.normal ?_
        case' hc85r13n0q6 =>
          go_simp
          (go_at_call 85; refine (HIH2.out _ hHeld).mono ?_; rintro e w3 ⟨⟨ko, kn2, kka, kkn, kkc, rfl⟩, hr3⟩; have hq7c := hr3.box hq7 hB7P; have hq4c := hr3.box hq4 hB4P; have hownc := hr3.row hown (by omega); have hkc := hHeld.trans hr3; have hsc : wr.heap.size ≤ w3.heap.size := hr3.size; obtain ⟨yc0, yc1, yc2⟩ := box3_cells hq7c; (try dsimp only))
          refine hK.out _ _ ?hs85r13n0q6 (fun hHeld85r13n0q6 => ?ht85r13n0q6)
          case hs85r13n0q6 => ((try dsimp only); (first | (with_reducible exact hHeld) | exact hkc | exact hkd | exact hke | exact hkd.drew | exact hke.drew | exact hke.set HM.out HB7.out.1 | exact (hke.set HM.out HB7.out.1).drew))
          clear hHeld hK
          have hHeld := hHeld85r13n0q6
          clear hHeld85r13n0q6
          refine wpAnyH_ready (rs := [1, 6]) (by kernel_rfl) (by simp) (AllReadyH.cons rfl (fun K hK => ?hc85r13n0q12) (AllReadyH.cons rfl (fun K hK => ?hc85r13n0q13) AllReadyH.nil))
          case' hc85r13n0q12 =>
            go_simp
            refine hK.out _ _ ?hs85r13n0q12 (fun hHeld85r13n0q12 => ?ht85r13n0q12)
            case hs85r13n0q12 => ((try dsimp only); (first | (with_reducible exact hHeld) | exact hkc | exact hkd | exact hke | exact hkd.drew | exact hke.drew | exact hke.set HM.out HB7.out.1 | exact (hke.set HM.out HB7.out.1).drew))
            clear hHeld hK
            have hHeld := hHeld85r13n0q12
            clear hHeld85r13n0q12
            refine wpAnyH_ready (rs := [6]) (by kernel_rfl) (by simp) (AllReadyH.cons rfl (fun K hK => ?hc85r13n0q14) AllReadyH.nil)
            go_simp
            ((first | refine intro_alloc (fun X45 hBX hLX => ?_) | refine intro_alloc_drew (fun X45 hBX hLX => ?_)); have hq7d := below_push hBX hq7c; have hq4d := below_push hBX hq4c; have hownd := ownsRow_turned hownc (Turned.of_below (T := fun _ => False) hBX) (fun _ _ h => h); have hkd := hkc.below hBX; have hsd := hBX.size; obtain ⟨yd0, yd1, yd2⟩ := box3_cells hq7d; (try dsimp only))
            refine hK.out _ _ ?hs85r13n0q14 (fun hHeld85r13n0q14 => ?ht85r13n0q14)
            case hs85r13n0q14 => ((try dsimp only); (first | (with_reducible exact hHeld) | exact hkc | exact hkd | exact hke | exact hkd.drew | exact hke.drew | exact hke.set HM.out HB7.out.1 | exact (hke.set HM.out HB7.out.1).drew))
            clear hHeld hK
            have hHeld := hHeld85r13n0q14
            clear hHeld85r13n0q14
            refine wpAnyH_ready (rs := [7]) (by kernel_rfl) (by simp) (AllReadyH.cons rfl (fun K hK => ?hc85r13n0q15) AllReadyH.nil)
            (refine step_append_rd _ (by rfl) (.tmp 40) (.tmp 45) (by rfl) slExprR X.heap.size (.slice ra i rc) _ _ (by rfl) (by exact hownd) _ _ _ _ (by rfl) (by exact rd_lit hLX rfl) (by intro u hu; simp at hu; rcases hu with rfl | rfl | rfl <;> rfl) (by unfold maxLen; omega) (by omega) (by first | omega | (simp; omega)) ?_; intro v4 w4 hown4 hgr4 hat4 hnl4; obtain ⟨va4, vc4, rfl, _, _⟩ := (Rd.of_own hown4).form; have hq7e := (hgr4.block B7 (lt_of_block hq7d) (fun e1 => by have := (hownd.lt B7 e1.symm).1; omega)).trans hq7d; have hq4e := (hgr4.block B4 (lt_of_block hq4d) (fun e1 => by have := (hownd.lt B4 e1.symm).1; omega)).trans hq4d; have hke := hkd.own HM.out hgr4 (fun g hg => Nat.le_trans hsX (hownd.lt g hg).1); have hse := hgr4.size; have fe := box_frozen hq7e 2; obtain ⟨ye0, ye1, ye2⟩ := box3_cells hq7e; (try dsimp only))
            refine hK.out _ _ ?hs85r13n0q15 (fun hHeld85r13n0q15 => ?ht85r13n0q15)
            case hs85r13n0q15 => ((try dsimp only); (first | (with_reducible exact hHeld) | exact hkc | exact hkd | exact hke | exact hkd.drew | exact hke.drew | exact hke.set HM.out HB7.out.1 | exact (hke.set HM.out HB7.out.1).drew))
            clear hHeld hK
            have hHeld := hHeld85r13n0q15
            clear hHeld85r13n0q15
            refine wpAnyH_take (i := 8) (v := ?v85r13n0q16) rfl (by kernel_rfl) (by kernel_rfl) (by kernel_rfl) (fun _ _ _ h => h) (Or.inl ⟨by kernel_rfl, ?hy85r13n0q16⟩) (by assumption) ?hr85r13n0q16
            case hy85r13n0q16 => (intro w hSw; (try dsimp only at hSw); (skip); first | (go_simp; done) | (go_simp; with_reducible rfl))
            refine wpAnyH_ready (rs := [9]) (by kernel_rfl) (by simp) (AllReadyH.cons rfl (fun K hK => ?hc85r13n0q17) AllReadyH.nil)
            go_simp
            refine hK.out _ _ ?hs85r13n0q17 (fun hHeld85r13n0q17 => ?ht85r13n0q17)
            case hs85r13n0q17 => ((try dsimp only); (first | (with_reducible exact hHeld) | exact hkc | exact hkd | exact hke | exact hkd.drew | exact hke.drew | exact hke.set HM.out HB7.out.1 | exact (hke.set HM.out HB7.out.1).drew))
            clear hHeld hK
            have hHeld := hHeld85r13n0q17
            clear hHeld85r13n0q17
            refine wpAnyH_done (by kernel_rfl) ?_ _
            clear hHeld
            refine NoPanic.normal ?_
          case' hc85r13n0q13 =>
            go_simp
            ((first | refine intro_alloc (fun X45 hBX hLX => ?_) | refine intro_alloc_drew (fun X45 hBX hLX => ?_)); have hq7d := below_push hBX hq7c; have hq4d := below_push hBX hq4c; have hownd := ownsRow_turned hownc (Turned.of_below (T := fun _ => False) hBX) (fun _ _ h => h); have hkd := hkc.below hBX; have hsd := hBX.size; obtain ⟨yd0, yd1, yd2⟩ := box3_cells hq7d; (try dsimp only))
            refine hK.out _ _ ?hs85r13n0q13 (fun hHeld85r13n0q13 => ?ht85r13n0q13)
            case hs85r13n0q13 => ((try dsimp only); (first | (with_reducible exact hHeld) | exact hkc | exact hkd | exact hke | exact hkd.drew | exact hke.drew | exact hke.set HM.out HB7.out.1 | exact (hke.set HM.out HB7.out.1).drew))
            clear hHeld hK
            have hHeld := hHeld85r13n0q13
            clear hHeld85r13n0q13
            refine wpAnyH_ready (rs := [1]) (by kernel_rfl) (by simp) (AllReadyH.cons rfl (fun K hK => ?hc85r13n0q18) AllReadyH.nil)
            go_simp
            refine hK.out _ _ ?hs85r13n0q18 (fun hHeld85r13n0q18 => ?ht85r13n0q18)
            case hs85r13n0q18 => ((try dsimp only); (first | (with_reducible exact hHeld) | exact hkc | exact hkd | exact hke | exact hkd.drew | exact hke.drew | exact hke.set HM.out HB7.out.1 | exact (hke.set HM.out HB7.out.1).drew))
            clear hHeld hK
            have hHeld := hHeld85r13n0q18
            clear hHeld85r13n0q18
            refine wpAnyH_ready (rs := [7]) (by kernel_rfl) (by simp) (AllReadyH.cons rfl (fun K hK => ?hc85r13n0q19) AllReadyH.nil)
            (refine step_append_rd _ (by rfl) (.tmp 40) (.tmp 45) (by rfl) slExprR X.heap.size (.slice ra i rc) _ _ (by rfl) (by exact hownd) _ _ _ _ (by rfl) (by exact rd_lit hLX rfl) (by intro u hu; simp at hu; rcases hu with rfl | rfl | rfl <;> rfl) (by unfold maxLen; omega) (by omega) (by first | omega | (simp; omega)) ?_; intro v4 w4 hown4 hgr4 hat4 hnl4; obtain ⟨va4, vc4, rfl, _, _⟩ := (Rd.of_own hown4).form; have hq7e := (hgr4.block B7 (lt_of_block hq7d) (fun e1 => by have := (hownd.lt B7 e1.symm).1; omega)).trans hq7d; have hq4e := (hgr4.block B4 (lt_of_block hq4d) (fun e1 => by have := (hownd.lt B4 e1.symm).1; omega)).trans hq4d; have hke := hkd.own HM.out hgr4 (fun g hg => Nat.le_trans hsX (hownd.lt g hg).1); have hse := hgr4.size; have fe := box_frozen hq7e 2; obtain ⟨ye0, ye1, ye2⟩ := box3_cells hq7e; (try dsimp only))
            refine hK.out _ _ ?hs85r13n0q19 (fun hHeld85r13n0q19 => ?ht85r13n0q19)
            case hs85r13n0q19 => ((try dsimp only); (first | (with_reducible exact hHeld) | exact hkc | exact hkd | exact hke | exact hkd.drew | exact hke.drew | exact hke.set HM.out HB7.out.1 | exact (hke.set HM.out HB7.out.1).drew))
            clear hHeld hK
            have hHeld := hHeld85r13n0q19
            clear hHeld85r13n0q19
            refine wpAnyH_take (i := 8) (v := ?v85r13n0q20) rfl (by kernel_rfl) (by kernel_rfl) (by kernel_rfl) (fun _ _ _ h => h) (Or.inl ⟨by kernel_rfl, ?hy85r13n0q20⟩) (by assumption) ?hr85r13n0q20
            case hy85r13n0q20 => (intro w hSw; (try dsimp only at hSw); (skip); first | (go_simp; done) | (go_simp; with_reducible rfl))
            refine wpAnyH_ready (rs := [9]) (by kernel_rfl) (by simp) (AllReadyH.cons rfl (fun K hK => ?hc85r13n0q21) AllReadyH.nil)
            go_simp
            refine hK.out _ _ ?hs85r13n0q21 (fun hHeld85r13n0q21 => ?ht85r13n0q21)
            case hs85r13n0q21 => ((try dsimp only); (first | (with_reducible exact hHeld) | exact hkc | exact hkd | exact hke | exact hkd.drew | exact hke.drew | exact hke.set HM.out HB7.out.1 | exact (hke.set HM.out HB7.out.1).drew))
            clear hHeld hK
            have hHeld := hHeld85r13n0q21
            clear hHeld85r13n0q21
            refine wpAnyH_done (by kernel_rfl) ?_ _
            clear hHeld
            refine NoPanic.normal ?_
        all_goals
          apply_assumption
          refine wp_cutA 49 (fun tm ds => ds = [] ∧ slot tm 0 = .pointer (some ⟨P, 0, none⟩) ∧ slot tm 1 = .int .i64 depth ∧ slot tm 4 = .pointer (some ⟨B4, 0, none⟩) ∧ slot tm 6 = .int .i64 op ∧ slot tm 7 = .pointer (some ⟨B7, 0, none⟩) ∧ slot tm 8 = .int .i64 (i : Nat)) (by kernel_rfl) (by exact ⟨by kernel_rfl, by kernel_rfl, by kernel_rfl, by kernel_rfl, by kernel_rfl, by kernel_rfl, by kernel_rfl⟩) ?_
          rintro tm2 ds2 h49 ⟨rfl, e0, e1, e4, e6, e7, e8⟩
          rw [frame49 tm2 [] h49, e0, e1, e4, e6, e7, e8]
          clear h49 e0 e1 e4 e6 e7 e8
          refine wp_abs (fun Y => TermI P la lc l w X B4 B7 op (.int .i64 ((i : Int) + 1)) Y) ⟨i + 1, .slice va4 (i + 1) vc4, by omega, by show Value.int _ _ = _; go_num, ⟨_, hown4.kept (grownBy_setC w4 B7 2 _) (.inr (fun e1 => by have := (hown4.lt B7 e1).1; omega))⟩, heap_set hq7e 2 _, (Below.heap_setCell w4 ⟨B7, 2, none⟩ _ B4 HB7.out.2).trans hq4e, by simp [World.setCell]; omega, hke.set HM.out HB7.out.1⟩ ?_
          intro Y hY
          have HY := hidep hY
          clear hY hq7c hq4c hownc hkc hsc hq7d hq4d hownd hkd hsd hown4 hgr4 hq7e hq4e hke hse fe hr3 hLX hBX
          go_wp2
          refine ⟨LoopI.mk rfl ⟨rfl, rfl, rfl, rfl, rfl, rfl, HY.out⟩, ?_⟩
          show 2 - _ < 2 - _
          simp [intOf]; omega
      · have hlti : ¬ (i : Int) < (m : Int) := by omega
        obtain ⟨z0, z1, z2⟩ := box3_cells hq4
        obtain ⟨y0, y1, y2⟩ := box3_cells hq7
        have f0 := box_frozen hq4 0
        have f1 := box_frozen hq4 1
        have f2 := box_frozen hq4 2
        have HRW := hidep hrw
        go_wp2
        obtain ⟨ho, hor⟩ := out3 HM.out HB4.out hq4 HRW.out (y0 := .int .i64 op) (y1 := .int .i64 0) (y2 := .slice ra i rc)
        obtain ⟨v0, v1, v2⟩ := box3_cells ho
        refine bodyPost_ret (results_cell1 rfl _ _ _ rfl (load_expr _ B4 _ _ _ v0 v1 v2)) rfl ?_
        exact ⟨⟨_, _, _, _, _, rfl⟩, hor⟩
theorem term_any {P : Nat} {la : Option Addr} {lc : Nat} {l : List Int} (d : Nat) : ∀ (depth : Int) (w : World), -100 ≤ depth → depth ≤ (d : Int) → d ≤ 100 → Mk P la lc l w →
    Calls Try.prog 85 #[.pointer (some ⟨P, 0, none⟩), .int .i64 depth] w fun e w' => ExprR e ∧ MkR P la lc l w w' := by
  induction d with
  | zero => exact fun depth w h0 h1 _ h => term_step depth w h0 (by omega) h (fun hp => by omega)
  | succ d ih => exact fun depth w h0 h1 h2 h => term_step depth w h0 (by omega) h (fun hp X hX => ih (depth - 1) X (by omega) (by omega) (by omega) (hX.mk h))
theorem range_map26 (f : Nat → Value) : (List.range 26).map f = [f 0, f 1, f 2, f 3, f 4, f 5, f 6, f 7, f 8, f 9, f 10, f 11, f 12, f 13, f 14, f 15, f 16, f 17, f 18, f 19, f 20, f 21, f 22, f 23, f 24, f 25] := rfl
theorem frame26 (t : Array Value) (ds : List Deferred) (h : t.size = 26) : ({ tmps := t, defers := ds } : Act) = { tmps := #[slot t 0, slot t 1, slot t 2, slot t 3, slot t 4, slot t 5, slot t 6, slot t 7, slot t 8, slot t 9, slot t 10, slot t 11, slot t 12, slot t 13, slot t 14, slot t 15, slot t 16, slot t 17, slot t 18, slot t 19, slot t 20, slot t 21, slot t 22, slot t 23, slot t 24, slot t 25], defers := ds } := by
  have e : t = ((List.range 26).map (slot t)).toArray := by
    apply Array.ext
    · simp [h]
    · intro i h1 h2
      simp [slot, Array.getD, h1]
  rw [range_map26] at e
  exact congrArg (fun x => ({ tmps := x, defers := ds } : Act)) e
set_option maxHeartbeats 4000000 in
theorem expr_any {P : Nat} {la : Option Addr} {lc : Nat} {l : List Int} (w : World) (h : Mk P la lc l w) :
    Calls Try.prog 69 #[.pointer (some ⟨P, 0, none⟩), .int .i64 3] w fun e w' => ExprR e ∧ MkR P la lc l w w' := by
  have HM := hidep h
  have HT := hidep (fun n X (hX : MkR P la lc l w X) => takeM_any n X (hX.mk h))
  have HTE := hidep (fun (d : Int) (hd : d = 2 ∨ d = 3) X (hX : MkR P la lc l w X) => term_any 3 d X (by omega) (by omega) (by omega) (hX.mk h))
  have hr0 := MkR.refl h
  clear h
  go_enter Try.func69, Try.ntmps69
  go_upto_region 1 with (fail)
  refine wp_abs (fun X => X.heap[w.heap.size]? = some (.cells #[.int .i64 0, .int .i64 0, .slice none 0 0] 93) ∧ MkR P la lc l w X) ⟨heap_alloc_new _ _, hr0.alloc _⟩ ?_
  rintro X ⟨hq4, hrX⟩
  obtain ⟨B4, hB4⟩ : ∃ B4, B4 = w.heap.size := ⟨_, rfl⟩
  rw [← hB4] at hq4 ⊢
  have HB4 := hidep (show w.heap.size ≤ B4 from by omega)
  have hB4P : B4 ≠ P := by have := HM.out.lt; omega
  clear hB4 hr0
  go_upto_if 8 with (first
    | (go_at_call 52; refine (HT.out _ _ hrX).mono ?_; rintro e w1 ⟨⟨z, rfl, hz0, hz1, _⟩, hr1⟩; have hz4 : z < 4 := hz1 (by decide))
    | fail)
  have hq4 := hr1.box hq4 hB4P
  have hr1 := hrX.trans hr1
  clear hrX hz1
  by_cases hz : z = 0
  · have hzb : (z == 0) = true := by simp [hz]
    clear hz hz0 hz4
    have hP := HM.out.lt
    go_upto_region 3 with (first
      | (go_at_call 85; refine (HTE.out _ (.inl rfl) _ hr1).mono ?_; rintro e w2 ⟨⟨ko, kn, kka, kkn, kkc, rfl⟩, hr2⟩; have hq42 := hr2.box hq4 hB4P; have hr2 := hr1.trans hr2)
      | fail)
    refine wp_abs (fun Y => Y.heap[w2.heap.size]? = some (.cells #[.int .i64 ko, .int .i64 kn, .slice kka kkn kkc] 93) ∧ Y.heap[B4]? = some (.cells #[.int .i64 0, .int .i64 0, .slice none 0 0] 93) ∧ MkR P la lc l w Y) ⟨heap_alloc_new _ _, below_push ((Below.refl _ _).alloc (Nat.le_refl _) _) hq42, hr2.alloc _⟩ ?_
    have hs2 := hr2.size
    have hB42 := lt_of_block hq42
    obtain ⟨B5, hB5⟩ : ∃ B5, B5 = w2.heap.size := ⟨_, rfl⟩
    rw [← hB5]
    have HB5 := hidep (show w.heap.size ≤ B5 ∧ B4 ≠ B5 from by omega)
    have hB5P : B5 ≠ P := by omega
    clear hB5 hq42 hr2 hs2 hB42 hq4 hr1
    rintro Y ⟨hq5, hq4, hrY⟩
    refine wp_region_noPanic (wp_region_held_drew (S := (fun Z => MkR P la lc l w Z ∧ Z.heap[B5]? = some (.cells #[.int .i64 ko, .int .i64 kn, .slice kka kkn kkc] 93))) (by kernel_rfl) ?hS69r3n1 (fun hHeld => ?hR69r3n1))
    case hS69r3n1 => ((try dsimp only); (exact ⟨hrY.drew, hq5⟩))
    refine wpAnyH_take (i := 0) (v := ?v69r3n1q1) rfl (by kernel_rfl) (by kernel_rfl) (by kernel_rfl) (fun _ _ _ h => h) (Or.inl ⟨by kernel_rfl, ?hy69r3n1q1⟩) (by assumption) ?hr69r3n1q1
    case hy69r3n1q1 => (intro w hSw; (try dsimp only at hSw); (obtain ⟨c0, c1, c2⟩ := box3_cells hSw.2); first | (go_simp; done) | (go_simp; with_reducible rfl))
    refine wpAnyH_take (i := 3) (v := ?v69r3n1q2) rfl (by kernel_rfl) (by kernel_rfl) (by kernel_rfl) (fun _ _ _ h => h) (Or.inl ⟨by kernel_rfl, ?hy69r3n1q2⟩) (by assumption) ?hr69r3n1q2
    case hy69r3n1q2 => (intro w hSw; (try dsimp only at hSw); (obtain ⟨c0, c1, c2⟩ := box3_cells hSw.2); first | (go_simp; done) | (go_simp; with_reducible rfl))
    refine wpAnyH_take (i := 4) (v := ?v69r3n1q3) rfl (by kernel_rfl) (by kernel_rfl) (by kernel_rfl) (fun _ _ _ h => h) (Or.inl ⟨by kernel_rfl, ?hy69r3n1q3⟩) (by assumption) ?hr69r3n1q3
    case hy69r3n1q3 => (intro w hSw; (try dsimp only at hSw); (obtain ⟨c0, c1, c2⟩ := box3_cells hSw.2); first | (go_simp; done) | (go_simp; with_reducible rfl))
    refine wpAnyH_take (i := 5) (v := ?v69r3n1q4) rfl (by kernel_rfl) (by kernel_rfl) (by kernel_rfl) (fun _ _ _ h => h) (Or.inl ⟨by kernel_rfl, ?hy69r3n1q4⟩) (by assumption) ?hr69r3n1q4
    case hy69r3n1q4 => (intro w hSw; (try dsimp only at hSw); (obtain ⟨c0, c1, c2⟩ := box3_cells hSw.2); first | (go_simp; done) | (go_simp; with_reducible rfl))
    refine wpAnyH_take (i := 6) (v := ?v69r3n1q5) rfl (by kernel_rfl) (by kernel_rfl) (by kernel_rfl) (fun _ _ _ h => h) (Or.inl ⟨by kernel_rfl, ?hy69r3n1q5⟩) (by assumption) ?hr69r3n1q5
    case hy69r3n1q5 => (intro w hSw; (try dsimp only at hSw); (obtain ⟨c0, c1, c2⟩ := box3_cells hSw.2); first | (go_simp; done) | (go_simp; with_reducible rfl))
    refine wpAnyH_ready (rs := [1]) (by kernel_rfl) (by simp) (AllReadyH.cons rfl (fun K hK => ?hc69r3n1q6) AllReadyH.nil)
    go_simp
    (go_at_call 52; refine (HT.out _ _ hHeld.1).mono ?_; rintro e w3 ⟨⟨y, rfl, hy0, hy1, _⟩, hr3⟩; have hk := And.intro (hHeld.1.trans hr3) (hr3.box hHeld.2 hB5P); have hq4 := hr3.box hq4 hB4P; (try dsimp only))
    refine hK.out _ _ ?hs69r3n1q6 (fun hHeld69r3n1q6 => ?ht69r3n1q6)
    case hs69r3n1q6 => ((try dsimp only); (first | (with_reducible exact hHeld) | exact hk | exact ⟨(out3 HM.out HB4.out hq4 hk.1).2, out3_other (fun e => HB5.out.2 e.symm) hk.2⟩ | exact ⟨(out3 HM.out HB4.out hq4 hk.1).2.drew, out3_other (fun e => HB5.out.2 e.symm) hk.2⟩))
    clear hHeld hK
    have hHeld := hHeld69r3n1q6
    clear hHeld69r3n1q6
    refine wpAnyH_take (i := 2) (v := ?v69r3n1q7) rfl (by kernel_rfl) (by kernel_rfl) (by kernel_rfl) (fun _ _ _ h => h) (Or.inl ⟨by kernel_rfl, ?hy69r3n1q7⟩) (by assumption) ?hr69r3n1q7
    case hy69r3n1q7 => (intro w hSw; (try dsimp only at hSw); (obtain ⟨c0, c1, c2⟩ := box3_cells hSw.2); first | (go_simp; done) | (go_simp; with_reducible rfl))
    refine wpAnyH_ready (rs := [7]) (by kernel_rfl) (by simp) (AllReadyH.cons rfl (fun K hK => ?hc69r3n1q8) AllReadyH.nil)
    go_simp
    (go_at_call 85; refine (HTE.out _ (.inl rfl) _ hHeld.1).mono ?_; rintro e w4 ⟨⟨jo, jn, jka, jkn, jkc, rfl⟩, hr4⟩; have hk := And.intro (hHeld.1.trans hr4) (hr4.box hHeld.2 hB5P); have hq4 := hr4.box hq4 hB4P; (try dsimp only))
    refine hK.out _ _ ?hs69r3n1q8 (fun hHeld69r3n1q8 => ?ht69r3n1q8)
    case hs69r3n1q8 => ((try dsimp only); (first | (with_reducible exact hHeld) | exact hk | exact ⟨(out3 HM.out HB4.out hq4 hk.1).2, out3_other (fun e => HB5.out.2 e.symm) hk.2⟩ | exact ⟨(out3 HM.out HB4.out hq4 hk.1).2.drew, out3_other (fun e => HB5.out.2 e.symm) hk.2⟩))
    clear hHeld hK
    have hHeld := hHeld69r3n1q8
    clear hHeld69r3n1q8
    refine wpAnyH_ready (rs := [8]) (by kernel_rfl) (by simp) (AllReadyH.cons rfl (fun K hK => ?hc69r3n1q9) AllReadyH.nil)
    go_simp
    ((first | refine intro_alloc (fun X45 hBX hLX => ?_) | refine intro_alloc_drew (fun X45 hBX hLX => ?_)); have hq4 := below_push hBX hq4; have hk := And.intro (hHeld.1.below hBX) (below_push hBX hHeld.2); obtain ⟨z0, z1, z2⟩ := box3_cells hq4; have f0 := box_frozen hq4 0; have f1 := box_frozen hq4 1; have f2 := box_frozen hq4 2; (try dsimp only))
    refine hK.out _ _ ?hs69r3n1q9 (fun hHeld69r3n1q9 => ?ht69r3n1q9)
    case hs69r3n1q9 => ((try dsimp only); (first | (with_reducible exact hHeld) | exact hk | exact ⟨(out3 HM.out HB4.out hq4 hk.1).2, out3_other (fun e => HB5.out.2 e.symm) hk.2⟩ | exact ⟨(out3 HM.out HB4.out hq4 hk.1).2.drew, out3_other (fun e => HB5.out.2 e.symm) hk.2⟩))
    clear hHeld hK
    have hHeld := hHeld69r3n1q9
    clear hHeld69r3n1q9
    refine wpAnyH_take (i := 9) (v := ?v69r3n1q10) rfl (by kernel_rfl) (by kernel_rfl) (by kernel_rfl) (fun _ _ _ h => h) (Or.inl ⟨by kernel_rfl, ?hy69r3n1q10⟩) (by assumption) ?hr69r3n1q10
    case hy69r3n1q10 => (intro w hSw; (try dsimp only at hSw); (obtain ⟨c0, c1, c2⟩ := box3_cells hSw.2); first | (go_simp; done) | (go_simp; with_reducible rfl))
    refine wpAnyH_ready (rs := [10]) (by kernel_rfl) (by simp) (AllReadyH.cons rfl (fun K hK => ?hc69r3n1q11) AllReadyH.nil)
    go_simp
    refine hK.out _ _ ?hs69r3n1q11 (fun hHeld69r3n1q11 => ?ht69r3n1q11)
    case hs69r3n1q11 => ((try dsimp only); (first | (with_reducible exact hHeld) | exact hk | exact ⟨(out3 HM.out HB4.out hq4 hk.1).2, out3_other (fun e => HB5.out.2 e.symm) hk.2⟩ | exact ⟨(out3 HM.out HB4.out hq4 hk.1).2.drew, out3_other (fun e => HB5.out.2 e.symm) hk.2⟩))
    clear hHeld hK
    have hHeld := hHeld69r3n1q11
    clear hHeld69r3n1q11
    refine wpAnyH_done (by kernel_rfl) ?_ _
    clear hHeld
    refine NoPanic.normal ?_
    obtain ⟨ho, hor⟩ := out3 HM.out HB4.out hq4 hk.1 (y0 := .int .i64 (IntKind.i64.wrap (9 + y))) (y1 := .int .i64 0) (y2 := .slice (some ⟨w4.heap.size, 0, none⟩) 2 2)
    have HO := hidep ho
    have HOR := hidep hor
    apply_assumption
    refine wp_cutA 26 (fun tm ds => ds = [] ∧ slot tm 4 = .pointer (some ⟨B4, 0, none⟩)) (by kernel_rfl) (by exact ⟨by kernel_rfl, by kernel_rfl⟩) ?_
    rintro tm2 ds2 h26 ⟨rfl, e4⟩
    rw [frame26 tm2 [] h26, e4]
    clear h26 e4 ho hor hq4 hk f0 f1 f2 z0 z1 z2 hLX hBX hr3 hr4
    go_wp2
    obtain ⟨v0, v1, v2⟩ := box3_cells HO.out
    refine bodyPost_ret (results_cell1 rfl _ _ _ rfl (load_expr _ B4 _ _ _ v0 v1 v2)) rfl ?_
    exact ⟨⟨_, _, _, _, _, rfl⟩, by first | exact HOR.out | exact HOR.out.drew⟩
  · have hzb : (z == 0) = false := beq_false_of_ne hz
    clear hz hz0 hz4
    go_wp2_with (first
      | (go_at_call 85; refine (HTE.out _ (.inr rfl) _ hr1).mono ?_; rintro e w3 ⟨⟨ko, kn, kka, kkn, kkc, rfl⟩, hr3⟩; have hq43 := hr3.box hq4 hB4P; obtain ⟨z0, z1, z2⟩ := box3_cells hq43; have f0 := box_frozen hq43 0; have f1 := box_frozen hq43 1; have f2 := box_frozen hq43 2; have hr3 := hr1.trans hr3)
      | fail)
    obtain ⟨ho, hor⟩ := out3 HM.out HB4.out hq43 hr3 (y0 := .int .i64 ko) (y1 := .int .i64 kn) (y2 := .slice kka kkn kkc)
    obtain ⟨v0, v1, v2⟩ := box3_cells ho
    refine bodyPost_ret (results_cell1 rfl _ _ _ rfl (load_expr _ B4 _ _ _ v0 v1 v2)) rfl ?_
    exact ⟨⟨_, _, _, _, _, rfl⟩, hor⟩
end Go.Proofs.Ytfljgcpfmhhgcaa
