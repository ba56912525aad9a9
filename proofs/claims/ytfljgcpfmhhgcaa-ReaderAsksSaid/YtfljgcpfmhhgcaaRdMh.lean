/- The maker of examinations: figures. -/
import Derived.Test.YtfljgcpfmhhgcaaRdMg
import Derived.Test.YtfljgcpfmhhgcaaRdJ
namespace Go.Proofs.Ytfljgcpfmhhgcaa
open Go.RowKit Go.Lab
attribute [local go_sem] Oper.semAt_some
set_option maxRecDepth 100000
theorem range_map109 (f : Nat → Value) : (List.range 109).map f = [f 0, f 1, f 2, f 3, f 4, f 5, f 6, f 7, f 8, f 9, f 10, f 11, f 12, f 13, f 14, f 15, f 16, f 17, f 18, f 19, f 20, f 21, f 22, f 23, f 24, f 25, f 26, f 27, f 28, f 29, f 30, f 31, f 32, f 33, f 34, f 35, f 36, f 37, f 38, f 39, f 40, f 41, f 42, f 43, f 44, f 45, f 46, f 47, f 48, f 49, f 50, f 51, f 52, f 53, f 54, f 55, f 56, f 57, f 58, f 59, f 60, f 61, f 62, f 63, f 64, f 65, f 66, f 67, f 68, f 69, f 70, f 71, f 72, f 73, f 74, f 75, f 76, f 77, f 78, f 79, f 80, f 81, f 82, f 83, f 84, f 85, f 86, f 87, f 88, f 89, f 90, f 91, f 92, f 93, f 94, f 95, f 96, f 97, f 98, f 99, f 100, f 101, f 102, f 103, f 104, f 105, f 106, f 107, f 108] := rfl
theorem frame109 (t : Array Value) (ds : List Deferred) (h : t.size = 109) : ({ tmps := t, defers := ds } : Act) = { tmps := #[slot t 0, slot t 1, slot t 2, slot t 3, slot t 4, slot t 5, slot t 6, slot t 7, slot t 8, slot t 9, slot t 10, slot t 11, slot t 12, slot t 13, slot t 14, slot t 15, slot t 16, slot t 17, slot t 18, slot t 19, slot t 20, slot t 21, slot t 22, slot t 23, slot t 24, slot t 25, slot t 26, slot t 27, slot t 28, slot t 29, slot t 30, slot t 31, slot t 32, slot t 33, slot t 34, slot t 35, slot t 36, slot t 37, slot t 38, slot t 39, slot t 40, slot t 41, slot t 42, slot t 43, slot t 44, slot t 45, slot t 46, slot t 47, slot t 48, slot t 49, slot t 50, slot t 51, slot t 52, slot t 53, slot t 54, slot t 55, slot t 56, slot t 57, slot t 58, slot t 59, slot t 60, slot t 61, slot t 62, slot t 63, slot t 64, slot t 65, slot t 66, slot t 67, slot t 68, slot t 69, slot t 70, slot t 71, slot t 72, slot t 73, slot t 74, slot t 75, slot t 76, slot t 77, slot t 78, slot t 79, slot t 80, slot t 81, slot t 82, slot t 83, slot t 84, slot t 85, slot t 86, slot t 87, slot t 88, slot t 89, slot t 90, slot t 91, slot t 92, slot t 93, slot t 94, slot t 95, slot t 96, slot t 97, slot t 98, slot t 99, slot t 100, slot t 101, slot t 102, slot t 103, slot t 104, slot t 105, slot t 106, slot t 107, slot t 108], defers := ds } := by
  have e : t = ((List.range 109).map (slot t)).toArray := by
    apply Array.ext
    · simp [h]
    · intro i h1 h2
      simp [slot, Array.getD, h1]
  rw [range_map109] at e
  exact congrArg (fun x => ({ tmps := x, defers := ds } : Act)) e
/-- An operation is taken first (short). -/
theorem tkA {P : Program} {md : Region.Mode} {ops : Array Oper} {Q : Exit → Act → World → Prop} {S : World → Prop} {i : Nat} {oi : Oper} {v : Value} {fuel : Nat} {listed : Array Bool} {a : Act} {w : World} (hi : ops[i]? = some oi) (hy : YieldsIf P ops S oi v a) (hS : S w)
    (h : wpAnyH P md ops Q S fuel (listed.setIfInBounds i true) (a.put oi.dst v) w) (hs : Region.noSelect ops = true := by kernel_rfl) (hf : Region.free md ops listed i = true := by kernel_rfl) (hr : (Region.ready md ops listed).contains i = true := by kernel_rfl)
    (hQ : ∀ c a w, Q (.panic c) (a.put oi.dst v) w → Q (.panic c) a w := by exact fun _ _ _ h => h) : wpAnyH P md ops Q S (fuel + 1) listed a w := wpAnyH_take hi hs hf hr hQ hy hS h
theorem own_boxM {W : World} {B P k n : Nat} {e t : TypeId} {v : Value} {xs : List Value} {cur : Array Value} {fz : Nat × Nat} (h : W.ownsRow B e k v n xs) (hP : W.heap[P]? = some (.cells cur t fz)) (hne : t ≠ e) : v.ownBlock ≠ some P := by
  rcases h.2 with ⟨rfl, _⟩ | ⟨g, c, cur', rfl, _, hg, _⟩
  · simp [Value.ownBlock]
  · intro e1
    have e2 : g = P := by simpa [Value.ownBlock] using e1
    subst e2
    rw [hg] at hP
    injection hP with h1
    injection h1 with _ h2 _
    exact hne h2.symm
theorem addr_addM (g j : Nat) : (⟨g, 0, none⟩ : Addr).add j = ⟨g, j, none⟩ := by unfold Addr.add; split <;> simp_all
theorem slShapeR : SlT Try.prog 99 149 (.agg #[.int .i64 0, .slice none 0 0]) 2 32 := ⟨by kernel_rfl, by kernel_rfl, rfl, by decide⟩
theorem load_figure (w : World) (g : Nat) (x y z : Value) (c0 : w.cell? ⟨g, 0, none⟩ = some x) (c1 : w.cell? ⟨g, 1, none⟩ = some y) (c2 : w.cell? ⟨g, 2, none⟩ = some z) : (loadVar 101 ⟨g, 0, none⟩).run Try.prog w = .ok (.agg #[x, y, z]) w := by
  go_simp
/-- n shapes are in the box. -/
def FigI (P : Nat) (la : Option Addr) (lc : Nat) (l : List Int) (w X0 : World) (B2 B3 n : Nat) (wr : World) : Prop :=
  ∃ (rv : Value) (xs : List Value), wr.ownsRow X0.heap.size 149 2 rv n xs ∧ wr.heap[B3]? = some (.cells #[.int .i64 60, .int .i64 50, rv] 101) ∧ wr.heap[B2]? = some (.cells #[.int .i64 0, .int .i64 0, .slice none 0 0] 101) ∧ X0.heap.size ≤ wr.heap.size ∧ MkR P la lc l w wr
/-- What holds between two steps. -/
def FigM (P : Nat) (la : Option Addr) (lc : Nat) (l : List Int) (w X0 : World) (B2 B3 n : Nat) (a : Act) (W : World) : Prop :=
  a.tmps.size = 109 ∧ a.defers = [] ∧ slot a.tmps 0 = .pointer (some ⟨P, 0, none⟩) ∧ slot a.tmps 2 = .pointer (some ⟨B2, 0, none⟩) ∧ slot a.tmps 3 = .pointer (some ⟨B3, 0, none⟩) ∧ FigI P la lc l w X0 B2 B3 n W
/-- What holds behind the last line: its points lie in a block of their own. -/
def FigL (P : Nat) (la : Option Addr) (lc : Nat) (l : List Int) (w X0 : World) (B2 B3 n : Nat) (a : Act) (W : World) : Prop :=
  a.tmps.size = 109 ∧ a.defers = [] ∧ slot a.tmps 0 = .pointer (some ⟨P, 0, none⟩) ∧ slot a.tmps 2 = .pointer (some ⟨B2, 0, none⟩) ∧ slot a.tmps 3 = .pointer (some ⟨B3, 0, none⟩) ∧
    ∃ (Q : Nat) (va : Option Addr) (vc : Nat) (xs : List Value), W.ownsRow X0.heap.size 149 2 (.slice va (n + 1) vc) (n + 1) (xs ++ [.int .i64 1, .slice (some ⟨Q, 0, none⟩) 2 2]) ∧ W.heap[B3]? = some (.cells #[.int .i64 60, .int .i64 50, .slice va (n + 1) vc] 101) ∧ W.heap[B2]? = some (.cells #[.int .i64 0, .int .i64 0, .slice none 0 0] 101) ∧ X0.heap.size ≤ W.heap.size ∧
      (∃ x : Int, W.heap[Q]? = some (.cells #[.int .i64 36, .int .i64 44, .int .i64 x, .int .i64 44] 151)) ∧ X0.heap.size ≤ Q ∧ MkR P la lc l w W
def FigE (P : Nat) (la : Option Addr) (lc : Nat) (l : List Int) (w X0 : World) (B2 B3 lo hi : Nat) (a : Act) (W : World) : Prop := ∃ n, lo ≤ n ∧ n ≤ hi ∧ FigM P la lc l w X0 B2 B3 n a W
set_option maxHeartbeats 100000000 in
theorem figure_any {P : Nat} {la : Option Addr} {lc : Nat} {l : List Int} (w : World) (h : Mk P la lc l w) :
    Calls Try.prog 72 #[.pointer (some ⟨P, 0, none⟩)] w fun e w' => (∃ (p q : Int) (a : Option Addr) (n c : Nat), e = .returned (.agg #[.int .i64 p, .int .i64 q, .slice a n c]) ∧ 2 ≤ n) ∧ MkR P la lc l w w' := by
  have HM := hidep h
  have HT := hidep (fun n X (hX : MkR P la lc l w X) => takeM_any n X (hX.mk h))
  have hr0 := MkR.refl h
  have hP := h.lt
  clear h
  go_enter Try.func72, Try.ntmps72
  go_upto_region 2 with (fail)
  refine wp_abs (fun X => X.heap[w.heap.size]? = some (.cells #[.int .i64 0, .int .i64 0, .slice none 0 0] 101) ∧ X.heap[w.heap.size + 1]? = some (.cells #[.int .i64 60, .int .i64 50, .slice none 0 0] 101) ∧ MkR P la lc l w X)
    ⟨allocs_get [.cells #[.int .i64 0, .int .i64 0, .slice none 0 0] 101, .cells #[.int .i64 60, .int .i64 50, .slice none 0 0] 101] w 0 _ rfl, allocs_get [.cells #[.int .i64 0, .int .i64 0, .slice none 0 0] 101, .cells #[.int .i64 60, .int .i64 50, .slice none 0 0] 101] w 1 _ rfl, (hr0.alloc _).alloc _⟩ ?_
  rintro X0 ⟨hq2, hq3, hrw⟩
  obtain ⟨B2, hB2⟩ : ∃ B2, B2 = w.heap.size := ⟨_, rfl⟩
  obtain ⟨B3, hB3⟩ : ∃ B3, B3 = w.heap.size + 1 := ⟨_, rfl⟩
  rw [← hB3] at hq3
  rw [← hB2] at hq2
  rw [← hB3, ← hB2]
  have HBB := hidep (show w.heap.size ≤ B2 ∧ w.heap.size ≤ B3 ∧ B2 ≠ B3 from by omega)
  have hB2P : B2 ≠ P := by omega
  have hB3P : B3 ≠ P := by omega
  clear hB2 hB3 hr0
  have hsw := hrw.size
  have hBL : B2 < X0.heap.size ∧ B3 < X0.heap.size := ⟨lt_of_block hq2, lt_of_block hq3⟩
  obtain ⟨n, hn⟩ : ∃ n : Nat, n = 0 := ⟨_, rfl⟩
  have HI0 := hidep (show FigI P la lc l w X0 B2 B3 n X0 from by rw [hn]; exact ⟨_, [], World.ownsRow_nil _ _ _ _, hq3, hq2, Nat.le_refl _, hrw⟩)
  have hn3 : n ≤ 0 := by omega
  have HNN := hidep hn
  clear hn hq3 hq2 hrw
  refine wp_join (FigE P la lc l w X0 B2 B3 1 1) ?first ?_
  case first =>
    intro K' hMK
    obtain ⟨rv, xs, hown, hq3, hq2, hsz, hrw⟩ := HI0.out
    obtain ⟨ra, rc, rfl, _, _⟩ := (Rd.of_own hown).form
    obtain ⟨y0, y1, y2⟩ := box3_cells hq3
    refine wp_region_noPanic (wp_region_held_drew (S := (fun Y => MkR P la lc l w Y)) (by kernel_rfl) ?hSA (fun hHeld => ?hRA))
    case hSA => ((try dsimp only); (exact hrw.drew))
    refine tkA (i := 0) (v := ?vA1) rfl (.inl ⟨by kernel_rfl, ?yA1⟩) (by assumption) ?rA1
    case yA1 => (intro w hSw; first | (go_simp; done) | (go_simp; with_reducible rfl))
    refine tkA (i := 2) (v := ?vA2) rfl (.inl ⟨by kernel_rfl, ?yA2⟩) (by assumption) ?rA2
    case yA2 => (intro w hSw; first | (go_simp; done) | (go_simp; with_reducible rfl))
    refine tkA (i := 5) (v := ?vA3) rfl (.inl ⟨by kernel_rfl, ?yA3⟩) (by assumption) ?rA3
    case yA3 => (intro w hSw; first | (go_simp; done) | (go_simp; with_reducible rfl))
    refine wpAnyH_ready (rs := [1, 3]) (by kernel_rfl) (by simp) (.cons rfl (fun K hK => ?hcA4) (.cons rfl (fun K hK => ?hcA5) .nil))
    case' hcA4 =>
     go_simp
     refine hK.out _ _ ?sA4 (fun hA4 => ?tA4)
     case sA4 => ((try dsimp only); (first | (with_reducible exact hHeld) | exact hk | exact hk.drew))
     replace hHeld := hA4; clear hK hA4
     refine wpAnyH_ready (rs := [3]) (by kernel_rfl) (by simp) (.cons rfl (fun K hK => ?hcA6) .nil)
     go_simp
     (go_at_call 52; refine (HT.out _ _ hHeld).mono ?_; rintro e wt ⟨⟨zt, rfl, _, _, _⟩, hrt⟩; have hq3 := hrt.box hq3 hB3P; have hq2 := hrt.box hq2 hB2P; have hown := hrt.row hown (by omega); have hk := MkR.trans hHeld hrt; have hsz : X0.heap.size ≤ wt.heap.size := Nat.le_trans hsz hrt.size; obtain ⟨y0, y1, y2⟩ := box3_cells hq3; (try dsimp only))
     refine hK.out _ _ ?sA6 (fun hA6 => ?tA6)
     case sA6 => ((try dsimp only); (first | (with_reducible exact hHeld) | exact hk | exact hk.drew))
     replace hHeld := hA6; clear hK hA6
     refine tkA (i := 4) (v := ?vA7) rfl (.inl ⟨by kernel_rfl, ?yA7⟩) (by assumption) ?rA7
     case yA7 => (intro w hSw; first | (go_simp; done) | (go_simp; with_reducible rfl))
     refine wpAnyH_ready (rs := [6]) (by kernel_rfl) (by simp) (.cons rfl (fun K hK => ?hcA8) .nil)
     go_simp
     (go_at_call 52; refine (HT.out _ _ hHeld).mono ?_; rintro e wt ⟨⟨zt, rfl, _, _, _⟩, hrt⟩; have hq3 := hrt.box hq3 hB3P; have hq2 := hrt.box hq2 hB2P; have hown := hrt.row hown (by omega); have hk := MkR.trans hHeld hrt; have hsz : X0.heap.size ≤ wt.heap.size := Nat.le_trans hsz hrt.size; obtain ⟨y0, y1, y2⟩ := box3_cells hq3; (try dsimp only))
     refine hK.out _ _ ?sA8 (fun hA8 => ?tA8)
     case sA8 => ((try dsimp only); (first | (with_reducible exact hHeld) | exact hk | exact hk.drew))
     replace hHeld := hA8; clear hK hA8
     refine tkA (i := 7) (v := ?vA9) rfl (.inl ⟨by kernel_rfl, ?yA9⟩) (by assumption) ?rA9
     case yA9 => (intro w hSw; first | (go_simp; done) | (go_simp; with_reducible rfl))
     refine wpAnyH_ready (rs := [8]) (by kernel_rfl) (by simp) (.cons rfl (fun K hK => ?hcA10) .nil)
     go_simp
     (go_at_call 86; refine (box_any _ _ _ _ _).mono ?_; rintro e wq ⟨rfl, hbq⟩; have hq3 := below_push hbq hq3; have hq2 := below_push hbq hq2; have hown := ownsRow_turned hown (Turned.of_below (T := fun _ => False) hbq) (fun _ _ h => h); have hk := MkR.below hHeld hbq; have hsz : X0.heap.size ≤ wq.heap.size := Nat.le_trans hsz hbq.size; obtain ⟨y0, y1, y2⟩ := box3_cells hq3; (try dsimp only))
     refine hK.out _ _ ?sA10 (fun hA10 => ?tA10)
     case sA10 => ((try dsimp only); (first | (with_reducible exact hHeld) | exact hk | exact hk.drew))
     replace hHeld := hA10; clear hK hA10
     refine tkA (i := 9) (v := ?vA11) rfl (.inl ⟨by kernel_rfl, ?yA11⟩) (by assumption) ?rA11
     case yA11 => (intro w hSw; first | (go_simp; done) | (go_simp; with_reducible rfl))
     refine wpAnyH_ready (rs := [10]) (by kernel_rfl) (by simp) (.cons rfl (fun K hK => ?hcA12) .nil)
     go_simp
     ((first | refine intro_alloc (fun XL17 hBX hLX17 => ?_) | refine intro_alloc_drew (fun XL17 hBX hLX17 => ?_)); have hq3 := below_push hBX hq3; have hq2 := below_push hBX hq2; have hown := ownsRow_turned hown (Turned.of_below (T := fun _ => False) hBX) (fun _ _ h => h); have hk := MkR.below hHeld hBX; have hsz : X0.heap.size ≤ XL17.heap.size := Nat.le_trans hsz hBX.size; obtain ⟨y0, y1, y2⟩ := box3_cells hq3; (try dsimp only))
     refine hK.out _ _ ?sA12 (fun hA12 => ?tA12)
     case sA12 => ((try dsimp only); (first | (with_reducible exact hHeld) | exact hk | exact hk.drew))
     replace hHeld := hA12; clear hK hA12
     refine wpAnyH_ready (rs := [11]) (by kernel_rfl) (by simp) (.cons rfl (fun K hK => ?hcA13) .nil)
     (refine step_append_rd _ (by rfl) (.tmp 8) (.tmp 17) (by rfl) slShapeR X0.heap.size (.slice ra n rc) _ _ (by rfl) (by exact hown) _ _ _ _ (by rfl) (by exact rd_lit hLX17 rfl) (by intro u hu; simp at hu; rcases hu with rfl | rfl <;> rfl) (by unfold maxLen; omega) (by omega) (by omega) ?_; intro v4 w4 hown4 hgr4 hat4 hnl4; obtain ⟨va4, vc4, rfl, _, _⟩ := (Rd.of_own hown4).form; have hq3 := (hgr4.block B3 (lt_of_block hq3) (fun e1 => by have := (hown.lt B3 e1.symm).1; omega)).trans hq3; have hq2 := (hgr4.block B2 (lt_of_block hq2) (fun e1 => by have := (hown.lt B2 e1.symm).1; omega)).trans hq2; have hk := MkR.own hHeld HM.out hgr4 (fun g hg => Nat.le_trans hsw (hown.lt g hg).1); have hsz : X0.heap.size ≤ w4.heap.size := Nat.le_trans hsz hgr4.size; have fe := box_frozen hq3 2; obtain ⟨y0, y1, y2⟩ := box3_cells hq3; (try dsimp only))
     refine hK.out _ _ ?sA13 (fun hA13 => ?tA13)
     case sA13 => ((try dsimp only); (first | (with_reducible exact hHeld) | exact hk | exact hk.drew))
     replace hHeld := hA13; clear hK hA13
     refine tkA (i := 12) (v := ?vA14) rfl (.inl ⟨by kernel_rfl, ?yA14⟩) (by assumption) ?rA14
     case yA14 => (intro w hSw; first | (go_simp; done) | (go_simp; with_reducible rfl))
     refine wpAnyH_ready (rs := [13]) (by kernel_rfl) (by simp) (.cons rfl (fun K hK => ?hcA15) .nil)
     go_simp
     refine hK.out _ _ ?sA15 (fun hA15 => ?tA15)
     case sA15 => ((try dsimp only); (first | (with_reducible exact hHeld) | exact hk | exact hk.drew | exact hk.set HM.out HBB.out.2.1 | exact (hk.set HM.out HBB.out.2.1).drew))
     replace hHeld := hA15; clear hK hA15
     refine wpAnyH_done (by kernel_rfl) ?_ _
     clear hHeld
     refine NoPanic.normal ?_
    case' hcA5 =>
     go_simp
     (go_at_call 52; refine (HT.out _ _ hHeld).mono ?_; rintro e wt ⟨⟨zt, rfl, _, _, _⟩, hrt⟩; have hq3 := hrt.box hq3 hB3P; have hq2 := hrt.box hq2 hB2P; have hown := hrt.row hown (by omega); have hk := MkR.trans hHeld hrt; have hsz : X0.heap.size ≤ wt.heap.size := Nat.le_trans hsz hrt.size; obtain ⟨y0, y1, y2⟩ := box3_cells hq3; (try dsimp only))
     refine hK.out _ _ ?sA5 (fun hA5 => ?tA5)
     case sA5 => ((try dsimp only); (first | (with_reducible exact hHeld) | exact hk | exact hk.drew))
     replace hHeld := hA5; clear hK hA5
     refine tkA (i := 4) (v := ?vA16) rfl (.inl ⟨by kernel_rfl, ?yA16⟩) (by assumption) ?rA16
     case yA16 => (intro w hSw; first | (go_simp; done) | (go_simp; with_reducible rfl))
     refine wpAnyH_ready (rs := [1, 6]) (by kernel_rfl) (by simp) (.cons rfl (fun K hK => ?hcA17) (.cons rfl (fun K hK => ?hcA18) .nil))
     case' hcA17 =>
      go_simp
      refine hK.out _ _ ?sA17 (fun hA17 => ?tA17)
      case sA17 => ((try dsimp only); (first | (with_reducible exact hHeld) | exact hk | exact hk.drew))
      replace hHeld := hA17; clear hK hA17
      refine wpAnyH_ready (rs := [6]) (by kernel_rfl) (by simp) (.cons rfl (fun K hK => ?hcA19) .nil)
      go_simp
      (go_at_call 52; refine (HT.out _ _ hHeld).mono ?_; rintro e wt ⟨⟨zt, rfl, _, _, _⟩, hrt⟩; have hq3 := hrt.box hq3 hB3P; have hq2 := hrt.box hq2 hB2P; have hown := hrt.row hown (by omega); have hk := MkR.trans hHeld hrt; have hsz : X0.heap.size ≤ wt.heap.size := Nat.le_trans hsz hrt.size; obtain ⟨y0, y1, y2⟩ := box3_cells hq3; (try dsimp only))
      refine hK.out _ _ ?sA19 (fun hA19 => ?tA19)
      case sA19 => ((try dsimp only); (first | (with_reducible exact hHeld) | exact hk | exact hk.drew))
      replace hHeld := hA19; clear hK hA19
      refine tkA (i := 7) (v := ?vA20) rfl (.inl ⟨by kernel_rfl, ?yA20⟩) (by assumption) ?rA20
      case yA20 => (intro w hSw; first | (go_simp; done) | (go_simp; with_reducible rfl))
      refine wpAnyH_ready (rs := [8]) (by kernel_rfl) (by simp) (.cons rfl (fun K hK => ?hcA21) .nil)
      go_simp
      (go_at_call 86; refine (box_any _ _ _ _ _).mono ?_; rintro e wq ⟨rfl, hbq⟩; have hq3 := below_push hbq hq3; have hq2 := below_push hbq hq2; have hown := ownsRow_turned hown (Turned.of_below (T := fun _ => False) hbq) (fun _ _ h => h); have hk := MkR.below hHeld hbq; have hsz : X0.heap.size ≤ wq.heap.size := Nat.le_trans hsz hbq.size; obtain ⟨y0, y1, y2⟩ := box3_cells hq3; (try dsimp only))
      refine hK.out _ _ ?sA21 (fun hA21 => ?tA21)
      case sA21 => ((try dsimp only); (first | (with_reducible exact hHeld) | exact hk | exact hk.drew))
      replace hHeld := hA21; clear hK hA21
      refine tkA (i := 9) (v := ?vA22) rfl (.inl ⟨by kernel_rfl, ?yA22⟩) (by assumption) ?rA22
      case yA22 => (intro w hSw; first | (go_simp; done) | (go_simp; with_reducible rfl))
      refine wpAnyH_ready (rs := [10]) (by kernel_rfl) (by simp) (.cons rfl (fun K hK => ?hcA23) .nil)
      go_simp
      ((first | refine intro_alloc (fun XL17 hBX hLX17 => ?_) | refine intro_alloc_drew (fun XL17 hBX hLX17 => ?_)); have hq3 := below_push hBX hq3; have hq2 := below_push hBX hq2; have hown := ownsRow_turned hown (Turned.of_below (T := fun _ => False) hBX) (fun _ _ h => h); have hk := MkR.below hHeld hBX; have hsz : X0.heap.size ≤ XL17.heap.size := Nat.le_trans hsz hBX.size; obtain ⟨y0, y1, y2⟩ := box3_cells hq3; (try dsimp only))
      refine hK.out _ _ ?sA23 (fun hA23 => ?tA23)
      case sA23 => ((try dsimp only); (first | (with_reducible exact hHeld) | exact hk | exact hk.drew))
      replace hHeld := hA23; clear hK hA23
      refine wpAnyH_ready (rs := [11]) (by kernel_rfl) (by simp) (.cons rfl (fun K hK => ?hcA24) .nil)
      (refine step_append_rd _ (by rfl) (.tmp 8) (.tmp 17) (by rfl) slShapeR X0.heap.size (.slice ra n rc) _ _ (by rfl) (by exact hown) _ _ _ _ (by rfl) (by exact rd_lit hLX17 rfl) (by intro u hu; simp at hu; rcases hu with rfl | rfl <;> rfl) (by unfold maxLen; omega) (by omega) (by omega) ?_; intro v4 w4 hown4 hgr4 hat4 hnl4; obtain ⟨va4, vc4, rfl, _, _⟩ := (Rd.of_own hown4).form; have hq3 := (hgr4.block B3 (lt_of_block hq3) (fun e1 => by have := (hown.lt B3 e1.symm).1; omega)).trans hq3; have hq2 := (hgr4.block B2 (lt_of_block hq2) (fun e1 => by have := (hown.lt B2 e1.symm).1; omega)).trans hq2; have hk := MkR.own hHeld HM.out hgr4 (fun g hg => Nat.le_trans hsw (hown.lt g hg).1); have hsz : X0.heap.size ≤ w4.heap.size := Nat.le_trans hsz hgr4.size; have fe := box_frozen hq3 2; obtain ⟨y0, y1, y2⟩ := box3_cells hq3; (try dsimp only))
      refine hK.out _ _ ?sA24 (fun hA24 => ?tA24)
      case sA24 => ((try dsimp only); (first | (with_reducible exact hHeld) | exact hk | exact hk.drew))
      replace hHeld := hA24; clear hK hA24
      refine tkA (i := 12) (v := ?vA25) rfl (.inl ⟨by kernel_rfl, ?yA25⟩) (by assumption) ?rA25
      case yA25 => (intro w hSw; first | (go_simp; done) | (go_simp; with_reducible rfl))
      refine wpAnyH_ready (rs := [13]) (by kernel_rfl) (by simp) (.cons rfl (fun K hK => ?hcA26) .nil)
      go_simp
      refine hK.out _ _ ?sA26 (fun hA26 => ?tA26)
      case sA26 => ((try dsimp only); (first | (with_reducible exact hHeld) | exact hk | exact hk.drew | exact hk.set HM.out HBB.out.2.1 | exact (hk.set HM.out HBB.out.2.1).drew))
      replace hHeld := hA26; clear hK hA26
      refine wpAnyH_done (by kernel_rfl) ?_ _
      clear hHeld
      refine NoPanic.normal ?_
     case' hcA18 =>
      go_simp
      (go_at_call 52; refine (HT.out _ _ hHeld).mono ?_; rintro e wt ⟨⟨zt, rfl, _, _, _⟩, hrt⟩; have hq3 := hrt.box hq3 hB3P; have hq2 := hrt.box hq2 hB2P; have hown := hrt.row hown (by omega); have hk := MkR.trans hHeld hrt; have hsz : X0.heap.size ≤ wt.heap.size := Nat.le_trans hsz hrt.size; obtain ⟨y0, y1, y2⟩ := box3_cells hq3; (try dsimp only))
      refine hK.out _ _ ?sA18 (fun hA18 => ?tA18)
      case sA18 => ((try dsimp only); (first | (with_reducible exact hHeld) | exact hk | exact hk.drew))
      replace hHeld := hA18; clear hK hA18
      refine tkA (i := 7) (v := ?vA27) rfl (.inl ⟨by kernel_rfl, ?yA27⟩) (by assumption) ?rA27
      case yA27 => (intro w hSw; first | (go_simp; done) | (go_simp; with_reducible rfl))
      refine wpAnyH_ready (rs := [1, 8]) (by kernel_rfl) (by simp) (.cons rfl (fun K hK => ?hcA28) (.cons rfl (fun K hK => ?hcA29) .nil))
      case' hcA28 =>
       go_simp
       refine hK.out _ _ ?sA28 (fun hA28 => ?tA28)
       case sA28 => ((try dsimp only); (first | (with_reducible exact hHeld) | exact hk | exact hk.drew))
       replace hHeld := hA28; clear hK hA28
       refine wpAnyH_ready (rs := [8]) (by kernel_rfl) (by simp) (.cons rfl (fun K hK => ?hcA30) .nil)
       go_simp
       (go_at_call 86; refine (box_any _ _ _ _ _).mono ?_; rintro e wq ⟨rfl, hbq⟩; have hq3 := below_push hbq hq3; have hq2 := below_push hbq hq2; have hown := ownsRow_turned hown (Turned.of_below (T := fun _ => False) hbq) (fun _ _ h => h); have hk := MkR.below hHeld hbq; have hsz : X0.heap.size ≤ wq.heap.size := Nat.le_trans hsz hbq.size; obtain ⟨y0, y1, y2⟩ := box3_cells hq3; (try dsimp only))
       refine hK.out _ _ ?sA30 (fun hA30 => ?tA30)
       case sA30 => ((try dsimp only); (first | (with_reducible exact hHeld) | exact hk | exact hk.drew))
       replace hHeld := hA30; clear hK hA30
       refine tkA (i := 9) (v := ?vA31) rfl (.inl ⟨by kernel_rfl, ?yA31⟩) (by assumption) ?rA31
       case yA31 => (intro w hSw; first | (go_simp; done) | (go_simp; with_reducible rfl))
       refine wpAnyH_ready (rs := [10]) (by kernel_rfl) (by simp) (.cons rfl (fun K hK => ?hcA32) .nil)
       go_simp
       ((first | refine intro_alloc (fun XL17 hBX hLX17 => ?_) | refine intro_alloc_drew (fun XL17 hBX hLX17 => ?_)); have hq3 := below_push hBX hq3; have hq2 := below_push hBX hq2; have hown := ownsRow_turned hown (Turned.of_below (T := fun _ => False) hBX) (fun _ _ h => h); have hk := MkR.below hHeld hBX; have hsz : X0.heap.size ≤ XL17.heap.size := Nat.le_trans hsz hBX.size; obtain ⟨y0, y1, y2⟩ := box3_cells hq3; (try dsimp only))
       refine hK.out _ _ ?sA32 (fun hA32 => ?tA32)
       case sA32 => ((try dsimp only); (first | (with_reducible exact hHeld) | exact hk | exact hk.drew))
       replace hHeld := hA32; clear hK hA32
       refine wpAnyH_ready (rs := [11]) (by kernel_rfl) (by simp) (.cons rfl (fun K hK => ?hcA33) .nil)
       (refine step_append_rd _ (by rfl) (.tmp 8) (.tmp 17) (by rfl) slShapeR X0.heap.size (.slice ra n rc) _ _ (by rfl) (by exact hown) _ _ _ _ (by rfl) (by exact rd_lit hLX17 rfl) (by intro u hu; simp at hu; rcases hu with rfl | rfl <;> rfl) (by unfold maxLen; omega) (by omega) (by omega) ?_; intro v4 w4 hown4 hgr4 hat4 hnl4; obtain ⟨va4, vc4, rfl, _, _⟩ := (Rd.of_own hown4).form; have hq3 := (hgr4.block B3 (lt_of_block hq3) (fun e1 => by have := (hown.lt B3 e1.symm).1; omega)).trans hq3; have hq2 := (hgr4.block B2 (lt_of_block hq2) (fun e1 => by have := (hown.lt B2 e1.symm).1; omega)).trans hq2; have hk := MkR.own hHeld HM.out hgr4 (fun g hg => Nat.le_trans hsw (hown.lt g hg).1); have hsz : X0.heap.size ≤ w4.heap.size := Nat.le_trans hsz hgr4.size; have fe := box_frozen hq3 2; obtain ⟨y0, y1, y2⟩ := box3_cells hq3; (try dsimp only))
       refine hK.out _ _ ?sA33 (fun hA33 => ?tA33)
       case sA33 => ((try dsimp only); (first | (with_reducible exact hHeld) | exact hk | exact hk.drew))
       replace hHeld := hA33; clear hK hA33
       refine tkA (i := 12) (v := ?vA34) rfl (.inl ⟨by kernel_rfl, ?yA34⟩) (by assumption) ?rA34
       case yA34 => (intro w hSw; first | (go_simp; done) | (go_simp; with_reducible rfl))
       refine wpAnyH_ready (rs := [13]) (by kernel_rfl) (by simp) (.cons rfl (fun K hK => ?hcA35) .nil)
       go_simp
       refine hK.out _ _ ?sA35 (fun hA35 => ?tA35)
       case sA35 => ((try dsimp only); (first | (with_reducible exact hHeld) | exact hk | exact hk.drew | exact hk.set HM.out HBB.out.2.1 | exact (hk.set HM.out HBB.out.2.1).drew))
       replace hHeld := hA35; clear hK hA35
       refine wpAnyH_done (by kernel_rfl) ?_ _
       clear hHeld
       refine NoPanic.normal ?_
      case' hcA29 =>
       go_simp
       (go_at_call 86; refine (box_any _ _ _ _ _).mono ?_; rintro e wq ⟨rfl, hbq⟩; have hq3 := below_push hbq hq3; have hq2 := below_push hbq hq2; have hown := ownsRow_turned hown (Turned.of_below (T := fun _ => False) hbq) (fun _ _ h => h); have hk := MkR.below hHeld hbq; have hsz : X0.heap.size ≤ wq.heap.size := Nat.le_trans hsz hbq.size; obtain ⟨y0, y1, y2⟩ := box3_cells hq3; (try dsimp only))
       refine hK.out _ _ ?sA29 (fun hA29 => ?tA29)
       case sA29 => ((try dsimp only); (first | (with_reducible exact hHeld) | exact hk | exact hk.drew))
       replace hHeld := hA29; clear hK hA29
       refine tkA (i := 9) (v := ?vA36) rfl (.inl ⟨by kernel_rfl, ?yA36⟩) (by assumption) ?rA36
       case yA36 => (intro w hSw; first | (go_simp; done) | (go_simp; with_reducible rfl))
       refine wpAnyH_ready (rs := [1, 10]) (by kernel_rfl) (by simp) (.cons rfl (fun K hK => ?hcA37) (.cons rfl (fun K hK => ?hcA38) .nil))
       case' hcA37 =>
        go_simp
        refine hK.out _ _ ?sA37 (fun hA37 => ?tA37)
        case sA37 => ((try dsimp only); (first | (with_reducible exact hHeld) | exact hk | exact hk.drew))
        replace hHeld := hA37; clear hK hA37
        refine wpAnyH_ready (rs := [10]) (by kernel_rfl) (by simp) (.cons rfl (fun K hK => ?hcA39) .nil)
        go_simp
        ((first | refine intro_alloc (fun XL17 hBX hLX17 => ?_) | refine intro_alloc_drew (fun XL17 hBX hLX17 => ?_)); have hq3 := below_push hBX hq3; have hq2 := below_push hBX hq2; have hown := ownsRow_turned hown (Turned.of_below (T := fun _ => False) hBX) (fun _ _ h => h); have hk := MkR.below hHeld hBX; have hsz : X0.heap.size ≤ XL17.heap.size := Nat.le_trans hsz hBX.size; obtain ⟨y0, y1, y2⟩ := box3_cells hq3; (try dsimp only))
        refine hK.out _ _ ?sA39 (fun hA39 => ?tA39)
        case sA39 => ((try dsimp only); (first | (with_reducible exact hHeld) | exact hk | exact hk.drew))
        replace hHeld := hA39; clear hK hA39
        refine wpAnyH_ready (rs := [11]) (by kernel_rfl) (by simp) (.cons rfl (fun K hK => ?hcA40) .nil)
        (refine step_append_rd _ (by rfl) (.tmp 8) (.tmp 17) (by rfl) slShapeR X0.heap.size (.slice ra n rc) _ _ (by rfl) (by exact hown) _ _ _ _ (by rfl) (by exact rd_lit hLX17 rfl) (by intro u hu; simp at hu; rcases hu with rfl | rfl <;> rfl) (by unfold maxLen; omega) (by omega) (by omega) ?_; intro v4 w4 hown4 hgr4 hat4 hnl4; obtain ⟨va4, vc4, rfl, _, _⟩ := (Rd.of_own hown4).form; have hq3 := (hgr4.block B3 (lt_of_block hq3) (fun e1 => by have := (hown.lt B3 e1.symm).1; omega)).trans hq3; have hq2 := (hgr4.block B2 (lt_of_block hq2) (fun e1 => by have := (hown.lt B2 e1.symm).1; omega)).trans hq2; have hk := MkR.own hHeld HM.out hgr4 (fun g hg => Nat.le_trans hsw (hown.lt g hg).1); have hsz : X0.heap.size ≤ w4.heap.size := Nat.le_trans hsz hgr4.size; have fe := box_frozen hq3 2; obtain ⟨y0, y1, y2⟩ := box3_cells hq3; (try dsimp only))
        refine hK.out _ _ ?sA40 (fun hA40 => ?tA40)
        case sA40 => ((try dsimp only); (first | (with_reducible exact hHeld) | exact hk | exact hk.drew))
        replace hHeld := hA40; clear hK hA40
        refine tkA (i := 12) (v := ?vA41) rfl (.inl ⟨by kernel_rfl, ?yA41⟩) (by assumption) ?rA41
        case yA41 => (intro w hSw; first | (go_simp; done) | (go_simp; with_reducible rfl))
        refine wpAnyH_ready (rs := [13]) (by kernel_rfl) (by simp) (.cons rfl (fun K hK => ?hcA42) .nil)
        go_simp
        refine hK.out _ _ ?sA42 (fun hA42 => ?tA42)
        case sA42 => ((try dsimp only); (first | (with_reducible exact hHeld) | exact hk | exact hk.drew | exact hk.set HM.out HBB.out.2.1 | exact (hk.set HM.out HBB.out.2.1).drew))
        replace hHeld := hA42; clear hK hA42
        refine wpAnyH_done (by kernel_rfl) ?_ _
        clear hHeld
        refine NoPanic.normal ?_
       case' hcA38 =>
        go_simp
        ((first | refine intro_alloc (fun XL17 hBX hLX17 => ?_) | refine intro_alloc_drew (fun XL17 hBX hLX17 => ?_)); have hq3 := below_push hBX hq3; have hq2 := below_push hBX hq2; have hown := ownsRow_turned hown (Turned.of_below (T := fun _ => False) hBX) (fun _ _ h => h); have hk := MkR.below hHeld hBX; have hsz : X0.heap.size ≤ XL17.heap.size := Nat.le_trans hsz hBX.size; obtain ⟨y0, y1, y2⟩ := box3_cells hq3; (try dsimp only))
        refine hK.out _ _ ?sA38 (fun hA38 => ?tA38)
        case sA38 => ((try dsimp only); (first | (with_reducible exact hHeld) | exact hk | exact hk.drew))
        replace hHeld := hA38; clear hK hA38
        refine wpAnyH_ready (rs := [1]) (by kernel_rfl) (by simp) (.cons rfl (fun K hK => ?hcA43) .nil)
        go_simp
        refine hK.out _ _ ?sA43 (fun hA43 => ?tA43)
        case sA43 => ((try dsimp only); (first | (with_reducible exact hHeld) | exact hk | exact hk.drew))
        replace hHeld := hA43; clear hK hA43
        refine wpAnyH_ready (rs := [11]) (by kernel_rfl) (by simp) (.cons rfl (fun K hK => ?hcA44) .nil)
        (refine step_append_rd _ (by rfl) (.tmp 8) (.tmp 17) (by rfl) slShapeR X0.heap.size (.slice ra n rc) _ _ (by rfl) (by exact hown) _ _ _ _ (by rfl) (by exact rd_lit hLX17 rfl) (by intro u hu; simp at hu; rcases hu with rfl | rfl <;> rfl) (by unfold maxLen; omega) (by omega) (by omega) ?_; intro v4 w4 hown4 hgr4 hat4 hnl4; obtain ⟨va4, vc4, rfl, _, _⟩ := (Rd.of_own hown4).form; have hq3 := (hgr4.block B3 (lt_of_block hq3) (fun e1 => by have := (hown.lt B3 e1.symm).1; omega)).trans hq3; have hq2 := (hgr4.block B2 (lt_of_block hq2) (fun e1 => by have := (hown.lt B2 e1.symm).1; omega)).trans hq2; have hk := MkR.own hHeld HM.out hgr4 (fun g hg => Nat.le_trans hsw (hown.lt g hg).1); have hsz : X0.heap.size ≤ w4.heap.size := Nat.le_trans hsz hgr4.size; have fe := box_frozen hq3 2; obtain ⟨y0, y1, y2⟩ := box3_cells hq3; (try dsimp only))
        refine hK.out _ _ ?sA44 (fun hA44 => ?tA44)
        case sA44 => ((try dsimp only); (first | (with_reducible exact hHeld) | exact hk | exact hk.drew))
        replace hHeld := hA44; clear hK hA44
        refine tkA (i := 12) (v := ?vA45) rfl (.inl ⟨by kernel_rfl, ?yA45⟩) (by assumption) ?rA45
        case yA45 => (intro w hSw; first | (go_simp; done) | (go_simp; with_reducible rfl))
        refine wpAnyH_ready (rs := [13]) (by kernel_rfl) (by simp) (.cons rfl (fun K hK => ?hcA46) .nil)
        go_simp
        refine hK.out _ _ ?sA46 (fun hA46 => ?tA46)
        case sA46 => ((try dsimp only); (first | (with_reducible exact hHeld) | exact hk | exact hk.drew | exact hk.set HM.out HBB.out.2.1 | exact (hk.set HM.out HBB.out.2.1).drew))
        replace hHeld := hA46; clear hK hA46
        refine wpAnyH_done (by kernel_rfl) ?_ _
        clear hHeld
        refine NoPanic.normal ?_
    all_goals
      (try dsimp only [Exit.inBlock, Exit.then])
      refine hMK _ _ ⟨n + 1, by omega, by omega, rfl, rfl, by kernel_rfl, by kernel_rfl, by kernel_rfl, ⟨.slice va4 (n + 1) vc4, _, hown4.kept (grownBy_setC w4 B3 2 _) (.inr (fun e1 => by have := (hown4.lt B3 e1).1; omega)), heap_set hq3 2 _, (Below.heap_setCell w4 ⟨B3, 2, none⟩ _ B2 HBB.out.2.2).trans hq2, by simp [World.setCell]; omega, by first | exact (hk.set HM.out HBB.out.2.1).drew | exact hk.set HM.out HBB.out.2.1⟩⟩
  clear HI0 hn3 HNN
  clear n
  rintro ⟨tm1, ds1⟩ W1 ⟨n, hlo, hhi, h109, hds, e0, e2, e3, rv, xs, hown, hq3, hq2, hsz, hrw⟩
  simp only at h109 hds e0 e2 e3
  subst hds
  apply_assumption
  rw [frame109 tm1 [] h109, e0, e2, e3]
  clear h109 e0 e2 e3
  obtain ⟨ra, rc, rfl, _, _⟩ := (Rd.of_own hown).form
  go_upto_if 22 with (first
    | (go_at_call 52; refine (HT.out _ _ hrw).mono ?_; rintro e wt ⟨⟨z, rfl, hz0, _, _⟩, hrt⟩; have hq3 := hrt.box hq3 hB3P; have hq2 := hrt.box hq2 hB2P; have hown := hrt.row hown (by omega); have hsz : X0.heap.size ≤ wt.heap.size := Nat.le_trans hsz hrt.size; have hrw := hrw.trans hrt)
    | fail)
  refine wp_join (FigE P la lc l w X0 B2 B3 1 2) ?second ?_
  case second =>
    intro K' hMK
    by_cases hz : 0 < z
    · have hzb : (0 : Int) < z := hz
      obtain ⟨y0, y1, y2⟩ := box3_cells hq3
      go_upto_region 4 with (fail)
      refine wp_region_noPanic (wp_region_held_drew (S := (fun Y => MkR P la lc l w Y)) (by kernel_rfl) ?hSB (fun hHeld => ?hRB))
      case hSB => ((try dsimp only); (exact hrw.drew))
      refine tkA (i := 0) (v := ?vB1) rfl (.inl ⟨by kernel_rfl, ?yB1⟩) (by assumption) ?rB1
      case yB1 => (intro w hSw; first | (go_simp; done) | (go_simp; with_reducible rfl))
      refine tkA (i := 2) (v := ?vB2) rfl (.inl ⟨by kernel_rfl, ?yB2⟩) (by assumption) ?rB2
      case yB2 => (intro w hSw; first | (go_simp; done) | (go_simp; with_reducible rfl))
      refine tkA (i := 5) (v := ?vB3) rfl (.inl ⟨by kernel_rfl, ?yB3⟩) (by assumption) ?rB3
      case yB3 => (intro w hSw; first | (go_simp; done) | (go_simp; with_reducible rfl))
      refine wpAnyH_ready (rs := [1, 3]) (by kernel_rfl) (by simp) (.cons rfl (fun K hK => ?hcB4) (.cons rfl (fun K hK => ?hcB5) .nil))
      case' hcB4 =>
       go_simp
       refine hK.out _ _ ?sB4 (fun hB4 => ?tB4)
       case sB4 => ((try dsimp only); (first | (with_reducible exact hHeld) | exact hk | exact hk.drew))
       replace hHeld := hB4; clear hK hB4
       refine wpAnyH_ready (rs := [3]) (by kernel_rfl) (by simp) (.cons rfl (fun K hK => ?hcB6) .nil)
       go_simp
       (go_at_call 52; refine (HT.out _ _ hHeld).mono ?_; rintro e wt ⟨⟨zt, rfl, _, _, _⟩, hrt⟩; have hq3 := hrt.box hq3 hB3P; have hq2 := hrt.box hq2 hB2P; have hown := hrt.row hown (by omega); have hk := MkR.trans hHeld hrt; have hsz : X0.heap.size ≤ wt.heap.size := Nat.le_trans hsz hrt.size; obtain ⟨y0, y1, y2⟩ := box3_cells hq3; (try dsimp only))
       refine hK.out _ _ ?sB6 (fun hB6 => ?tB6)
       case sB6 => ((try dsimp only); (first | (with_reducible exact hHeld) | exact hk | exact hk.drew))
       replace hHeld := hB6; clear hK hB6
       refine tkA (i := 4) (v := ?vB7) rfl (.inl ⟨by kernel_rfl, ?yB7⟩) (by assumption) ?rB7
       case yB7 => (intro w hSw; first | (go_simp; done) | (go_simp; with_reducible rfl))
       refine wpAnyH_ready (rs := [6]) (by kernel_rfl) (by simp) (.cons rfl (fun K hK => ?hcB8) .nil)
       go_simp
       (go_at_call 52; refine (HT.out _ _ hHeld).mono ?_; rintro e wt ⟨⟨zt, rfl, _, _, _⟩, hrt⟩; have hq3 := hrt.box hq3 hB3P; have hq2 := hrt.box hq2 hB2P; have hown := hrt.row hown (by omega); have hk := MkR.trans hHeld hrt; have hsz : X0.heap.size ≤ wt.heap.size := Nat.le_trans hsz hrt.size; obtain ⟨y0, y1, y2⟩ := box3_cells hq3; (try dsimp only))
       refine hK.out _ _ ?sB8 (fun hB8 => ?tB8)
       case sB8 => ((try dsimp only); (first | (with_reducible exact hHeld) | exact hk | exact hk.drew))
       replace hHeld := hB8; clear hK hB8
       refine tkA (i := 7) (v := ?vB9) rfl (.inl ⟨by kernel_rfl, ?yB9⟩) (by assumption) ?rB9
       case yB9 => (intro w hSw; first | (go_simp; done) | (go_simp; with_reducible rfl))
       refine tkA (i := 8) (v := ?vB10) rfl (.inl ⟨by kernel_rfl, ?yB10⟩) (by assumption) ?rB10
       case yB10 => (intro w hSw; first | (go_simp; done) | (go_simp; with_reducible rfl))
       refine wpAnyH_ready (rs := [9]) (by kernel_rfl) (by simp) (.cons rfl (fun K hK => ?hcB11) .nil)
       go_simp
       ((first | refine intro_alloc (fun XL32 hBX hLX32 => ?_) | refine intro_alloc_drew (fun XL32 hBX hLX32 => ?_)); have hq3 := below_push hBX hq3; have hq2 := below_push hBX hq2; have hown := ownsRow_turned hown (Turned.of_below (T := fun _ => False) hBX) (fun _ _ h => h); have hk := MkR.below hHeld hBX; have hsz : X0.heap.size ≤ XL32.heap.size := Nat.le_trans hsz hBX.size; obtain ⟨y0, y1, y2⟩ := box3_cells hq3; (try dsimp only))
       refine hK.out _ _ ?sB11 (fun hB11 => ?tB11)
       case sB11 => ((try dsimp only); (first | (with_reducible exact hHeld) | exact hk | exact hk.drew))
       replace hHeld := hB11; clear hK hB11
       refine tkA (i := 10) (v := ?vB12) rfl (.inl ⟨by kernel_rfl, ?yB12⟩) (by assumption) ?rB12
       case yB12 => (intro w hSw; first | (go_simp; done) | (go_simp; with_reducible rfl))
       refine wpAnyH_ready (rs := [11]) (by kernel_rfl) (by simp) (.cons rfl (fun K hK => ?hcB13) .nil)
       go_simp
       ((first | refine intro_alloc (fun XL34 hBX hLX34 => ?_) | refine intro_alloc_drew (fun XL34 hBX hLX34 => ?_)); have hq3 := below_push hBX hq3; have hq2 := below_push hBX hq2; have hown := ownsRow_turned hown (Turned.of_below (T := fun _ => False) hBX) (fun _ _ h => h); have hk := MkR.below hHeld hBX; have hsz : X0.heap.size ≤ XL34.heap.size := Nat.le_trans hsz hBX.size; obtain ⟨y0, y1, y2⟩ := box3_cells hq3; (try dsimp only))
       refine hK.out _ _ ?sB13 (fun hB13 => ?tB13)
       case sB13 => ((try dsimp only); (first | (with_reducible exact hHeld) | exact hk | exact hk.drew))
       replace hHeld := hB13; clear hK hB13
       refine wpAnyH_ready (rs := [12]) (by kernel_rfl) (by simp) (.cons rfl (fun K hK => ?hcB14) .nil)
       (refine step_append_rd _ (by rfl) (.tmp 24) (.tmp 34) (by rfl) slShapeR X0.heap.size (.slice ra n rc) _ _ (by rfl) (by exact hown) _ _ _ _ (by rfl) (by exact rd_lit hLX34 rfl) (by intro u hu; simp at hu; rcases hu with rfl | rfl <;> rfl) (by unfold maxLen; omega) (by omega) (by omega) ?_; intro v4 w4 hown4 hgr4 hat4 hnl4; obtain ⟨va4, vc4, rfl, _, _⟩ := (Rd.of_own hown4).form; have hq3 := (hgr4.block B3 (lt_of_block hq3) (fun e1 => by have := (hown.lt B3 e1.symm).1; omega)).trans hq3; have hq2 := (hgr4.block B2 (lt_of_block hq2) (fun e1 => by have := (hown.lt B2 e1.symm).1; omega)).trans hq2; have hk := MkR.own hHeld HM.out hgr4 (fun g hg => Nat.le_trans hsw (hown.lt g hg).1); have hsz : X0.heap.size ≤ w4.heap.size := Nat.le_trans hsz hgr4.size; have fe := box_frozen hq3 2; obtain ⟨y0, y1, y2⟩ := box3_cells hq3; (try dsimp only))
       refine hK.out _ _ ?sB14 (fun hB14 => ?tB14)
       case sB14 => ((try dsimp only); (first | (with_reducible exact hHeld) | exact hk | exact hk.drew))
       replace hHeld := hB14; clear hK hB14
       refine tkA (i := 13) (v := ?vB15) rfl (.inl ⟨by kernel_rfl, ?yB15⟩) (by assumption) ?rB15
       case yB15 => (intro w hSw; first | (go_simp; done) | (go_simp; with_reducible rfl))
       refine wpAnyH_ready (rs := [14]) (by kernel_rfl) (by simp) (.cons rfl (fun K hK => ?hcB16) .nil)
       go_simp
       refine hK.out _ _ ?sB16 (fun hB16 => ?tB16)
       case sB16 => ((try dsimp only); (first | (with_reducible exact hHeld) | exact hk | exact hk.drew | exact hk.set HM.out HBB.out.2.1 | exact (hk.set HM.out HBB.out.2.1).drew))
       replace hHeld := hB16; clear hK hB16
       refine wpAnyH_done (by kernel_rfl) ?_ _
       clear hHeld
       refine NoPanic.normal ?_
      case' hcB5 =>
       go_simp
       (go_at_call 52; refine (HT.out _ _ hHeld).mono ?_; rintro e wt ⟨⟨zt, rfl, _, _, _⟩, hrt⟩; have hq3 := hrt.box hq3 hB3P; have hq2 := hrt.box hq2 hB2P; have hown := hrt.row hown (by omega); have hk := MkR.trans hHeld hrt; have hsz : X0.heap.size ≤ wt.heap.size := Nat.le_trans hsz hrt.size; obtain ⟨y0, y1, y2⟩ := box3_cells hq3; (try dsimp only))
       refine hK.out _ _ ?sB5 (fun hB5 => ?tB5)
       case sB5 => ((try dsimp only); (first | (with_reducible exact hHeld) | exact hk | exact hk.drew))
       replace hHeld := hB5; clear hK hB5
       refine tkA (i := 4) (v := ?vB17) rfl (.inl ⟨by kernel_rfl, ?yB17⟩) (by assumption) ?rB17
       case yB17 => (intro w hSw; first | (go_simp; done) | (go_simp; with_reducible rfl))
       refine wpAnyH_ready (rs := [1, 6]) (by kernel_rfl) (by simp) (.cons rfl (fun K hK => ?hcB18) (.cons rfl (fun K hK => ?hcB19) .nil))
       case' hcB18 =>
        go_simp
        refine hK.out _ _ ?sB18 (fun hB18 => ?tB18)
        case sB18 => ((try dsimp only); (first | (with_reducible exact hHeld) | exact hk | exact hk.drew))
        replace hHeld := hB18; clear hK hB18
        refine wpAnyH_ready (rs := [6]) (by kernel_rfl) (by simp) (.cons rfl (fun K hK => ?hcB20) .nil)
        go_simp
        (go_at_call 52; refine (HT.out _ _ hHeld).mono ?_; rintro e wt ⟨⟨zt, rfl, _, _, _⟩, hrt⟩; have hq3 := hrt.box hq3 hB3P; have hq2 := hrt.box hq2 hB2P; have hown := hrt.row hown (by omega); have hk := MkR.trans hHeld hrt; have hsz : X0.heap.size ≤ wt.heap.size := Nat.le_trans hsz hrt.size; obtain ⟨y0, y1, y2⟩ := box3_cells hq3; (try dsimp only))
        refine hK.out _ _ ?sB20 (fun hB20 => ?tB20)
        case sB20 => ((try dsimp only); (first | (with_reducible exact hHeld) | exact hk | exact hk.drew))
        replace hHeld := hB20; clear hK hB20
        refine tkA (i := 7) (v := ?vB21) rfl (.inl ⟨by kernel_rfl, ?yB21⟩) (by assumption) ?rB21
        case yB21 => (intro w hSw; first | (go_simp; done) | (go_simp; with_reducible rfl))
        refine tkA (i := 8) (v := ?vB22) rfl (.inl ⟨by kernel_rfl, ?yB22⟩) (by assumption) ?rB22
        case yB22 => (intro w hSw; first | (go_simp; done) | (go_simp; with_reducible rfl))
        refine wpAnyH_ready (rs := [9]) (by kernel_rfl) (by simp) (.cons rfl (fun K hK => ?hcB23) .nil)
        go_simp
        ((first | refine intro_alloc (fun XL32 hBX hLX32 => ?_) | refine intro_alloc_drew (fun XL32 hBX hLX32 => ?_)); have hq3 := below_push hBX hq3; have hq2 := below_push hBX hq2; have hown := ownsRow_turned hown (Turned.of_below (T := fun _ => False) hBX) (fun _ _ h => h); have hk := MkR.below hHeld hBX; have hsz : X0.heap.size ≤ XL32.heap.size := Nat.le_trans hsz hBX.size; obtain ⟨y0, y1, y2⟩ := box3_cells hq3; (try dsimp only))
        refine hK.out _ _ ?sB23 (fun hB23 => ?tB23)
        case sB23 => ((try dsimp only); (first | (with_reducible exact hHeld) | exact hk | exact hk.drew))
        replace hHeld := hB23; clear hK hB23
        refine tkA (i := 10) (v := ?vB24) rfl (.inl ⟨by kernel_rfl, ?yB24⟩) (by assumption) ?rB24
        case yB24 => (intro w hSw; first | (go_simp; done) | (go_simp; with_reducible rfl))
        refine wpAnyH_ready (rs := [11]) (by kernel_rfl) (by simp) (.cons rfl (fun K hK => ?hcB25) .nil)
        go_simp
        ((first | refine intro_alloc (fun XL34 hBX hLX34 => ?_) | refine intro_alloc_drew (fun XL34 hBX hLX34 => ?_)); have hq3 := below_push hBX hq3; have hq2 := below_push hBX hq2; have hown := ownsRow_turned hown (Turned.of_below (T := fun _ => False) hBX) (fun _ _ h => h); have hk := MkR.below hHeld hBX; have hsz : X0.heap.size ≤ XL34.heap.size := Nat.le_trans hsz hBX.size; obtain ⟨y0, y1, y2⟩ := box3_cells hq3; (try dsimp only))
        refine hK.out _ _ ?sB25 (fun hB25 => ?tB25)
        case sB25 => ((try dsimp only); (first | (with_reducible exact hHeld) | exact hk | exact hk.drew))
        replace hHeld := hB25; clear hK hB25
        refine wpAnyH_ready (rs := [12]) (by kernel_rfl) (by simp) (.cons rfl (fun K hK => ?hcB26) .nil)
        (refine step_append_rd _ (by rfl) (.tmp 24) (.tmp 34) (by rfl) slShapeR X0.heap.size (.slice ra n rc) _ _ (by rfl) (by exact hown) _ _ _ _ (by rfl) (by exact rd_lit hLX34 rfl) (by intro u hu; simp at hu; rcases hu with rfl | rfl <;> rfl) (by unfold maxLen; omega) (by omega) (by omega) ?_; intro v4 w4 hown4 hgr4 hat4 hnl4; obtain ⟨va4, vc4, rfl, _, _⟩ := (Rd.of_own hown4).form; have hq3 := (hgr4.block B3 (lt_of_block hq3) (fun e1 => by have := (hown.lt B3 e1.symm).1; omega)).trans hq3; have hq2 := (hgr4.block B2 (lt_of_block hq2) (fun e1 => by have := (hown.lt B2 e1.symm).1; omega)).trans hq2; have hk := MkR.own hHeld HM.out hgr4 (fun g hg => Nat.le_trans hsw (hown.lt g hg).1); have hsz : X0.heap.size ≤ w4.heap.size := Nat.le_trans hsz hgr4.size; have fe := box_frozen hq3 2; obtain ⟨y0, y1, y2⟩ := box3_cells hq3; (try dsimp only))
        refine hK.out _ _ ?sB26 (fun hB26 => ?tB26)
        case sB26 => ((try dsimp only); (first | (with_reducible exact hHeld) | exact hk | exact hk.drew))
        replace hHeld := hB26; clear hK hB26
        refine tkA (i := 13) (v := ?vB27) rfl (.inl ⟨by kernel_rfl, ?yB27⟩) (by assumption) ?rB27
        case yB27 => (intro w hSw; first | (go_simp; done) | (go_simp; with_reducible rfl))
        refine wpAnyH_ready (rs := [14]) (by kernel_rfl) (by simp) (.cons rfl (fun K hK => ?hcB28) .nil)
        go_simp
        refine hK.out _ _ ?sB28 (fun hB28 => ?tB28)
        case sB28 => ((try dsimp only); (first | (with_reducible exact hHeld) | exact hk | exact hk.drew | exact hk.set HM.out HBB.out.2.1 | exact (hk.set HM.out HBB.out.2.1).drew))
        replace hHeld := hB28; clear hK hB28
        refine wpAnyH_done (by kernel_rfl) ?_ _
        clear hHeld
        refine NoPanic.normal ?_
       case' hcB19 =>
        go_simp
        (go_at_call 52; refine (HT.out _ _ hHeld).mono ?_; rintro e wt ⟨⟨zt, rfl, _, _, _⟩, hrt⟩; have hq3 := hrt.box hq3 hB3P; have hq2 := hrt.box hq2 hB2P; have hown := hrt.row hown (by omega); have hk := MkR.trans hHeld hrt; have hsz : X0.heap.size ≤ wt.heap.size := Nat.le_trans hsz hrt.size; obtain ⟨y0, y1, y2⟩ := box3_cells hq3; (try dsimp only))
        refine hK.out _ _ ?sB19 (fun hB19 => ?tB19)
        case sB19 => ((try dsimp only); (first | (with_reducible exact hHeld) | exact hk | exact hk.drew))
        replace hHeld := hB19; clear hK hB19
        refine tkA (i := 7) (v := ?vB29) rfl (.inl ⟨by kernel_rfl, ?yB29⟩) (by assumption) ?rB29
        case yB29 => (intro w hSw; first | (go_simp; done) | (go_simp; with_reducible rfl))
        refine tkA (i := 8) (v := ?vB30) rfl (.inl ⟨by kernel_rfl, ?yB30⟩) (by assumption) ?rB30
        case yB30 => (intro w hSw; first | (go_simp; done) | (go_simp; with_reducible rfl))
        refine wpAnyH_ready (rs := [1, 9]) (by kernel_rfl) (by simp) (.cons rfl (fun K hK => ?hcB31) (.cons rfl (fun K hK => ?hcB32) .nil))
        case' hcB31 =>
         go_simp
         refine hK.out _ _ ?sB31 (fun hB31 => ?tB31)
         case sB31 => ((try dsimp only); (first | (with_reducible exact hHeld) | exact hk | exact hk.drew))
         replace hHeld := hB31; clear hK hB31
         refine wpAnyH_ready (rs := [9]) (by kernel_rfl) (by simp) (.cons rfl (fun K hK => ?hcB33) .nil)
         go_simp
         ((first | refine intro_alloc (fun XL32 hBX hLX32 => ?_) | refine intro_alloc_drew (fun XL32 hBX hLX32 => ?_)); have hq3 := below_push hBX hq3; have hq2 := below_push hBX hq2; have hown := ownsRow_turned hown (Turned.of_below (T := fun _ => False) hBX) (fun _ _ h => h); have hk := MkR.below hHeld hBX; have hsz : X0.heap.size ≤ XL32.heap.size := Nat.le_trans hsz hBX.size; obtain ⟨y0, y1, y2⟩ := box3_cells hq3; (try dsimp only))
         refine hK.out _ _ ?sB33 (fun hB33 => ?tB33)
         case sB33 => ((try dsimp only); (first | (with_reducible exact hHeld) | exact hk | exact hk.drew))
         replace hHeld := hB33; clear hK hB33
         refine tkA (i := 10) (v := ?vB34) rfl (.inl ⟨by kernel_rfl, ?yB34⟩) (by assumption) ?rB34
         case yB34 => (intro w hSw; first | (go_simp; done) | (go_simp; with_reducible rfl))
         refine wpAnyH_ready (rs := [11]) (by kernel_rfl) (by simp) (.cons rfl (fun K hK => ?hcB35) .nil)
         go_simp
         ((first | refine intro_alloc (fun XL34 hBX hLX34 => ?_) | refine intro_alloc_drew (fun XL34 hBX hLX34 => ?_)); have hq3 := below_push hBX hq3; have hq2 := below_push hBX hq2; have hown := ownsRow_turned hown (Turned.of_below (T := fun _ => False) hBX) (fun _ _ h => h); have hk := MkR.below hHeld hBX; have hsz : X0.heap.size ≤ XL34.heap.size := Nat.le_trans hsz hBX.size; obtain ⟨y0, y1, y2⟩ := box3_cells hq3; (try dsimp only))
         refine hK.out _ _ ?sB35 (fun hB35 => ?tB35)
         case sB35 => ((try dsimp only); (first | (with_reducible exact hHeld) | exact hk | exact hk.drew))
         replace hHeld := hB35; clear hK hB35
         refine wpAnyH_ready (rs := [12]) (by kernel_rfl) (by simp) (.cons rfl (fun K hK => ?hcB36) .nil)
         (refine step_append_rd _ (by rfl) (.tmp 24) (.tmp 34) (by rfl) slShapeR X0.heap.size (.slice ra n rc) _ _ (by rfl) (by exact hown) _ _ _ _ (by rfl) (by exact rd_lit hLX34 rfl) (by intro u hu; simp at hu; rcases hu with rfl | rfl <;> rfl) (by unfold maxLen; omega) (by omega) (by omega) ?_; intro v4 w4 hown4 hgr4 hat4 hnl4; obtain ⟨va4, vc4, rfl, _, _⟩ := (Rd.of_own hown4).form; have hq3 := (hgr4.block B3 (lt_of_block hq3) (fun e1 => by have := (hown.lt B3 e1.symm).1; omega)).trans hq3; have hq2 := (hgr4.block B2 (lt_of_block hq2) (fun e1 => by have := (hown.lt B2 e1.symm).1; omega)).trans hq2; have hk := MkR.own hHeld HM.out hgr4 (fun g hg => Nat.le_trans hsw (hown.lt g hg).1); have hsz : X0.heap.size ≤ w4.heap.size := Nat.le_trans hsz hgr4.size; have fe := box_frozen hq3 2; obtain ⟨y0, y1, y2⟩ := box3_cells hq3; (try dsimp only))
         refine hK.out _ _ ?sB36 (fun hB36 => ?tB36)
         case sB36 => ((try dsimp only); (first | (with_reducible exact hHeld) | exact hk | exact hk.drew))
         replace hHeld := hB36; clear hK hB36
         refine tkA (i := 13) (v := ?vB37) rfl (.inl ⟨by kernel_rfl, ?yB37⟩) (by assumption) ?rB37
         case yB37 => (intro w hSw; first | (go_simp; done) | (go_simp; with_reducible rfl))
         refine wpAnyH_ready (rs := [14]) (by kernel_rfl) (by simp) (.cons rfl (fun K hK => ?hcB38) .nil)
         go_simp
         refine hK.out _ _ ?sB38 (fun hB38 => ?tB38)
         case sB38 => ((try dsimp only); (first | (with_reducible exact hHeld) | exact hk | exact hk.drew | exact hk.set HM.out HBB.out.2.1 | exact (hk.set HM.out HBB.out.2.1).drew))
         replace hHeld := hB38; clear hK hB38
         refine wpAnyH_done (by kernel_rfl) ?_ _
         clear hHeld
         refine NoPanic.normal ?_
        case' hcB32 =>
         go_simp
         ((first | refine intro_alloc (fun XL32 hBX hLX32 => ?_) | refine intro_alloc_drew (fun XL32 hBX hLX32 => ?_)); have hq3 := below_push hBX hq3; have hq2 := below_push hBX hq2; have hown := ownsRow_turned hown (Turned.of_below (T := fun _ => False) hBX) (fun _ _ h => h); have hk := MkR.below hHeld hBX; have hsz : X0.heap.size ≤ XL32.heap.size := Nat.le_trans hsz hBX.size; obtain ⟨y0, y1, y2⟩ := box3_cells hq3; (try dsimp only))
         refine hK.out _ _ ?sB32 (fun hB32 => ?tB32)
         case sB32 => ((try dsimp only); (first | (with_reducible exact hHeld) | exact hk | exact hk.drew))
         replace hHeld := hB32; clear hK hB32
         refine tkA (i := 10) (v := ?vB39) rfl (.inl ⟨by kernel_rfl, ?yB39⟩) (by assumption) ?rB39
         case yB39 => (intro w hSw; first | (go_simp; done) | (go_simp; with_reducible rfl))
         refine wpAnyH_ready (rs := [1, 11]) (by kernel_rfl) (by simp) (.cons rfl (fun K hK => ?hcB40) (.cons rfl (fun K hK => ?hcB41) .nil))
         case' hcB40 =>
          go_simp
          refine hK.out _ _ ?sB40 (fun hB40 => ?tB40)
          case sB40 => ((try dsimp only); (first | (with_reducible exact hHeld) | exact hk | exact hk.drew))
          replace hHeld := hB40; clear hK hB40
          refine wpAnyH_ready (rs := [11]) (by kernel_rfl) (by simp) (.cons rfl (fun K hK => ?hcB42) .nil)
          go_simp
          ((first | refine intro_alloc (fun XL34 hBX hLX34 => ?_) | refine intro_alloc_drew (fun XL34 hBX hLX34 => ?_)); have hq3 := below_push hBX hq3; have hq2 := below_push hBX hq2; have hown := ownsRow_turned hown (Turned.of_below (T := fun _ => False) hBX) (fun _ _ h => h); have hk := MkR.below hHeld hBX; have hsz : X0.heap.size ≤ XL34.heap.size := Nat.le_trans hsz hBX.size; obtain ⟨y0, y1, y2⟩ := box3_cells hq3; (try dsimp only))
          refine hK.out _ _ ?sB42 (fun hB42 => ?tB42)
          case sB42 => ((try dsimp only); (first | (with_reducible exact hHeld) | exact hk | exact hk.drew))
          replace hHeld := hB42; clear hK hB42
          refine wpAnyH_ready (rs := [12]) (by kernel_rfl) (by simp) (.cons rfl (fun K hK => ?hcB43) .nil)
          (refine step_append_rd _ (by rfl) (.tmp 24) (.tmp 34) (by rfl) slShapeR X0.heap.size (.slice ra n rc) _ _ (by rfl) (by exact hown) _ _ _ _ (by rfl) (by exact rd_lit hLX34 rfl) (by intro u hu; simp at hu; rcases hu with rfl | rfl <;> rfl) (by unfold maxLen; omega) (by omega) (by omega) ?_; intro v4 w4 hown4 hgr4 hat4 hnl4; obtain ⟨va4, vc4, rfl, _, _⟩ := (Rd.of_own hown4).form; have hq3 := (hgr4.block B3 (lt_of_block hq3) (fun e1 => by have := (hown.lt B3 e1.symm).1; omega)).trans hq3; have hq2 := (hgr4.block B2 (lt_of_block hq2) (fun e1 => by have := (hown.lt B2 e1.symm).1; omega)).trans hq2; have hk := MkR.own hHeld HM.out hgr4 (fun g hg => Nat.le_trans hsw (hown.lt g hg).1); have hsz : X0.heap.size ≤ w4.heap.size := Nat.le_trans hsz hgr4.size; have fe := box_frozen hq3 2; obtain ⟨y0, y1, y2⟩ := box3_cells hq3; (try dsimp only))
          refine hK.out _ _ ?sB43 (fun hB43 => ?tB43)
          case sB43 => ((try dsimp only); (first | (with_reducible exact hHeld) | exact hk | exact hk.drew))
          replace hHeld := hB43; clear hK hB43
          refine tkA (i := 13) (v := ?vB44) rfl (.inl ⟨by kernel_rfl, ?yB44⟩) (by assumption) ?rB44
          case yB44 => (intro w hSw; first | (go_simp; done) | (go_simp; with_reducible rfl))
          refine wpAnyH_ready (rs := [14]) (by kernel_rfl) (by simp) (.cons rfl (fun K hK => ?hcB45) .nil)
          go_simp
          refine hK.out _ _ ?sB45 (fun hB45 => ?tB45)
          case sB45 => ((try dsimp only); (first | (with_reducible exact hHeld) | exact hk | exact hk.drew | exact hk.set HM.out HBB.out.2.1 | exact (hk.set HM.out HBB.out.2.1).drew))
          replace hHeld := hB45; clear hK hB45
          refine wpAnyH_done (by kernel_rfl) ?_ _
          clear hHeld
          refine NoPanic.normal ?_
         case' hcB41 =>
          go_simp
          ((first | refine intro_alloc (fun XL34 hBX hLX34 => ?_) | refine intro_alloc_drew (fun XL34 hBX hLX34 => ?_)); have hq3 := below_push hBX hq3; have hq2 := below_push hBX hq2; have hown := ownsRow_turned hown (Turned.of_below (T := fun _ => False) hBX) (fun _ _ h => h); have hk := MkR.below hHeld hBX; have hsz : X0.heap.size ≤ XL34.heap.size := Nat.le_trans hsz hBX.size; obtain ⟨y0, y1, y2⟩ := box3_cells hq3; (try dsimp only))
          refine hK.out _ _ ?sB41 (fun hB41 => ?tB41)
          case sB41 => ((try dsimp only); (first | (with_reducible exact hHeld) | exact hk | exact hk.drew))
          replace hHeld := hB41; clear hK hB41
          refine wpAnyH_ready (rs := [1]) (by kernel_rfl) (by simp) (.cons rfl (fun K hK => ?hcB46) .nil)
          go_simp
          refine hK.out _ _ ?sB46 (fun hB46 => ?tB46)
          case sB46 => ((try dsimp only); (first | (with_reducible exact hHeld) | exact hk | exact hk.drew))
          replace hHeld := hB46; clear hK hB46
          refine wpAnyH_ready (rs := [12]) (by kernel_rfl) (by simp) (.cons rfl (fun K hK => ?hcB47) .nil)
          (refine step_append_rd _ (by rfl) (.tmp 24) (.tmp 34) (by rfl) slShapeR X0.heap.size (.slice ra n rc) _ _ (by rfl) (by exact hown) _ _ _ _ (by rfl) (by exact rd_lit hLX34 rfl) (by intro u hu; simp at hu; rcases hu with rfl | rfl <;> rfl) (by unfold maxLen; omega) (by omega) (by omega) ?_; intro v4 w4 hown4 hgr4 hat4 hnl4; obtain ⟨va4, vc4, rfl, _, _⟩ := (Rd.of_own hown4).form; have hq3 := (hgr4.block B3 (lt_of_block hq3) (fun e1 => by have := (hown.lt B3 e1.symm).1; omega)).trans hq3; have hq2 := (hgr4.block B2 (lt_of_block hq2) (fun e1 => by have := (hown.lt B2 e1.symm).1; omega)).trans hq2; have hk := MkR.own hHeld HM.out hgr4 (fun g hg => Nat.le_trans hsw (hown.lt g hg).1); have hsz : X0.heap.size ≤ w4.heap.size := Nat.le_trans hsz hgr4.size; have fe := box_frozen hq3 2; obtain ⟨y0, y1, y2⟩ := box3_cells hq3; (try dsimp only))
          refine hK.out _ _ ?sB47 (fun hB47 => ?tB47)
          case sB47 => ((try dsimp only); (first | (with_reducible exact hHeld) | exact hk | exact hk.drew))
          replace hHeld := hB47; clear hK hB47
          refine tkA (i := 13) (v := ?vB48) rfl (.inl ⟨by kernel_rfl, ?yB48⟩) (by assumption) ?rB48
          case yB48 => (intro w hSw; first | (go_simp; done) | (go_simp; with_reducible rfl))
          refine wpAnyH_ready (rs := [14]) (by kernel_rfl) (by simp) (.cons rfl (fun K hK => ?hcB49) .nil)
          go_simp
          refine hK.out _ _ ?sB49 (fun hB49 => ?tB49)
          case sB49 => ((try dsimp only); (first | (with_reducible exact hHeld) | exact hk | exact hk.drew | exact hk.set HM.out HBB.out.2.1 | exact (hk.set HM.out HBB.out.2.1).drew))
          replace hHeld := hB49; clear hK hB49
          refine wpAnyH_done (by kernel_rfl) ?_ _
          clear hHeld
          refine NoPanic.normal ?_
      all_goals
        (try dsimp only [Exit.inBlock, Exit.then])
        refine hMK _ _ ⟨n + 1, by omega, by omega, rfl, rfl, by kernel_rfl, by kernel_rfl, by kernel_rfl, ⟨.slice va4 (n + 1) vc4, _, hown4.kept (grownBy_setC w4 B3 2 _) (.inr (fun e1 => by have := (hown4.lt B3 e1).1; omega)), heap_set hq3 2 _, (Below.heap_setCell w4 ⟨B3, 2, none⟩ _ B2 HBB.out.2.2).trans hq2, by simp [World.setCell]; omega, by first | exact (hk.set HM.out HBB.out.2.1).drew | exact hk.set HM.out HBB.out.2.1⟩⟩
    · have hzb : ¬ (0 : Int) < z := hz
      go_wp2
      exact ⟨n, by omega, by omega, rfl, rfl, rfl, rfl, rfl, _, xs, hown, hq3, hq2, hsz, hrw⟩
  rintro ⟨tm2, ds2⟩ W2 ⟨n, hlo, hhi, h109, hds, e0, e2, e3, rv, xs, hown, hq3, hq2, hsz, hrw⟩
  simp only at h109 hds e0 e2 e3
  subst hds
  apply_assumption
  rw [frame109 tm2 [] h109, e0, e2, e3]
  clear h109 e0 e2 e3
  obtain ⟨ra, rc, rfl, _, _⟩ := (Rd.of_own hown).form
  go_upto_if 42 with (first
    | (go_at_call 52; first | (refine (HT.out _ _ hrw).mono ?_; rintro e wt ⟨⟨zx, rfl, _, _, _⟩, hrt⟩; have hq3a := hrt.box hq3 hB3P; have hq2a := hrt.box hq2 hB2P; have howna := hrt.row hown (by omega); have hsza : X0.heap.size ≤ wt.heap.size := Nat.le_trans hsz hrt.size; have hrwa := hrw.trans hrt; clear hrw) | (refine (HT.out _ _ hrwa).mono ?_; rintro e wu ⟨⟨z, rfl, hz0, _, _⟩, hrt⟩; have hq3 := hrt.box hq3a hB3P; have hq2 := hrt.box hq2a hB2P; have hown := hrt.row howna (by omega); have hsz : X0.heap.size ≤ wu.heap.size := Nat.le_trans hsza hrt.size; have hrw := hrwa.trans hrt))
    | fail)
  refine wp_join (FigE P la lc l w X0 B2 B3 2 3) ?third ?_
  case third =>
    intro K' hMK
    obtain ⟨y0, y1, y2⟩ := box3_cells hq3
    by_cases hz : z = 0
    · have hzb : (z == 0) = true := by simp [hz]
      clear hz hz0
      go_upto_region 7 with (fail)
      refine wp_region_noPanic (wp_region_held_drew (S := (fun Y => MkR P la lc l w Y)) (by kernel_rfl) ?hSC (fun hHeld => ?hRC))
      case hSC => ((try dsimp only); (exact hrw.drew))
      refine tkA (i := 0) (v := ?vC1) rfl (.inl ⟨by kernel_rfl, ?yC1⟩) (by assumption) ?rC1
      case yC1 => (intro w hSw; first | (go_simp; done) | (go_simp; with_reducible rfl))
      refine tkA (i := 2) (v := ?vC2) rfl (.inl ⟨by kernel_rfl, ?yC2⟩) (by assumption) ?rC2
      case yC2 => (intro w hSw; first | (go_simp; done) | (go_simp; with_reducible rfl))
      refine tkA (i := 3) (v := ?vC3) rfl (.inl ⟨by kernel_rfl, ?yC3⟩) (by assumption) ?rC3
      case yC3 => (intro w hSw; first | (go_simp; done) | (go_simp; with_reducible rfl))
      refine tkA (i := 4) (v := ?vC4) rfl (.inl ⟨by kernel_rfl, ?yC4⟩) (by assumption) ?rC4
      case yC4 => (intro w hSw; first | (go_simp; done) | (go_simp; with_reducible rfl))
      refine tkA (i := 5) (v := ?vC5) rfl (.inl ⟨by kernel_rfl, ?yC5⟩) (by assumption) ?rC5
      case yC5 => (intro w hSw; first | (go_simp; done) | (go_simp; with_reducible rfl))
      refine tkA (i := 6) (v := ?vC6) rfl (.inl ⟨by kernel_rfl, ?yC6⟩) (by assumption) ?rC6
      case yC6 => (intro w hSw; first | (go_simp; done) | (go_simp; with_reducible rfl))
      refine tkA (i := 10) (v := ?vC7) rfl (.inl ⟨by kernel_rfl, ?yC7⟩) (by assumption) ?rC7
      case yC7 => (intro w hSw; first | (go_simp; done) | (go_simp; with_reducible rfl))
      refine tkA (i := 11) (v := ?vC8) rfl (.inl ⟨by kernel_rfl, ?yC8⟩) (by assumption) ?rC8
      case yC8 => (intro w hSw; first | (go_simp; done) | (go_simp; with_reducible rfl))
      refine wpAnyH_ready (rs := [1, 7]) (by kernel_rfl) (by simp) (.cons rfl (fun K hK => ?hcC9) (.cons rfl (fun K hK => ?hcC10) .nil))
      case' hcC9 =>
       go_simp
       refine hK.out _ _ ?sC9 (fun hC9 => ?tC9)
       case sC9 => ((try dsimp only); (first | (with_reducible exact hHeld) | exact hk | exact hk.drew))
       replace hHeld := hC9; clear hK hC9
       refine wpAnyH_ready (rs := [7]) (by kernel_rfl) (by simp) (.cons rfl (fun K hK => ?hcC11) .nil)
       go_simp
       (go_at_call 52; refine (HT.out _ _ hHeld).mono ?_; rintro e wt ⟨⟨zt, rfl, _, _, _⟩, hrt⟩; have hq3 := hrt.box hq3 hB3P; have hq2 := hrt.box hq2 hB2P; have hown := hrt.row hown (by omega); have hk := MkR.trans hHeld hrt; have hsz : X0.heap.size ≤ wt.heap.size := Nat.le_trans hsz hrt.size; obtain ⟨y0, y1, y2⟩ := box3_cells hq3; (try dsimp only))
       refine hK.out _ _ ?sC11 (fun hC11 => ?tC11)
       case sC11 => ((try dsimp only); (first | (with_reducible exact hHeld) | exact hk | exact hk.drew))
       replace hHeld := hC11; clear hK hC11
       refine tkA (i := 8) (v := ?vC12) rfl (.inl ⟨by kernel_rfl, ?yC12⟩) (by assumption) ?rC12
       case yC12 => (intro w hSw; first | (go_simp; done) | (go_simp; with_reducible rfl))
       refine tkA (i := 9) (v := ?vC13) rfl (.inl ⟨by kernel_rfl, ?yC13⟩) (by assumption) ?rC13
       case yC13 => (intro w hSw; first | (go_simp; done) | (go_simp; with_reducible rfl))
       refine wpAnyH_ready (rs := [12]) (by kernel_rfl) (by simp) (.cons rfl (fun K hK => ?hcC14) .nil)
       go_simp
       ((first | refine intro_alloc (fun XL55 hBX hLX55 => ?_) | refine intro_alloc_drew (fun XL55 hBX hLX55 => ?_)); have hq3 := below_push hBX hq3; have hq2 := below_push hBX hq2; have hown := ownsRow_turned hown (Turned.of_below (T := fun _ => False) hBX) (fun _ _ h => h); have hk := MkR.below hHeld hBX; have hsz : X0.heap.size ≤ XL55.heap.size := Nat.le_trans hsz hBX.size; obtain ⟨y0, y1, y2⟩ := box3_cells hq3; (try dsimp only))
       refine hK.out _ _ ?sC14 (fun hC14 => ?tC14)
       case sC14 => ((try dsimp only); (first | (with_reducible exact hHeld) | exact hk | exact hk.drew))
       replace hHeld := hC14; clear hK hC14
       refine tkA (i := 13) (v := ?vC15) rfl (.inl ⟨by kernel_rfl, ?yC15⟩) (by assumption) ?rC15
       case yC15 => (intro w hSw; first | (go_simp; done) | (go_simp; with_reducible rfl))
       refine wpAnyH_ready (rs := [14]) (by kernel_rfl) (by simp) (.cons rfl (fun K hK => ?hcC16) .nil)
       go_simp
       ((first | refine intro_alloc (fun XL57 hBX hLX57 => ?_) | refine intro_alloc_drew (fun XL57 hBX hLX57 => ?_)); have hq3 := below_push hBX hq3; have hq2 := below_push hBX hq2; have hown := ownsRow_turned hown (Turned.of_below (T := fun _ => False) hBX) (fun _ _ h => h); have hk := MkR.below hHeld hBX; have hsz : X0.heap.size ≤ XL57.heap.size := Nat.le_trans hsz hBX.size; obtain ⟨y0, y1, y2⟩ := box3_cells hq3; (try dsimp only))
       refine hK.out _ _ ?sC16 (fun hC16 => ?tC16)
       case sC16 => ((try dsimp only); (first | (with_reducible exact hHeld) | exact hk | exact hk.drew))
       replace hHeld := hC16; clear hK hC16
       refine wpAnyH_ready (rs := [15]) (by kernel_rfl) (by simp) (.cons rfl (fun K hK => ?hcC17) .nil)
       (refine step_append_rd _ (by rfl) (.tmp 44) (.tmp 57) (by rfl) slShapeR X0.heap.size (.slice ra n rc) _ _ (by rfl) (by exact hown) _ _ _ _ (by rfl) (by exact rd_lit hLX57 rfl) (by intro u hu; simp at hu; rcases hu with rfl | rfl <;> rfl) (by unfold maxLen; omega) (by omega) (by omega) ?_; intro v4 w4 hown4 hgr4 hat4 hnl4; obtain ⟨va4, vc4, rfl, _, _⟩ := (Rd.of_own hown4).form; have hq3 := (hgr4.block B3 (lt_of_block hq3) (fun e1 => by have := (hown.lt B3 e1.symm).1; omega)).trans hq3; have hq2 := (hgr4.block B2 (lt_of_block hq2) (fun e1 => by have := (hown.lt B2 e1.symm).1; omega)).trans hq2; have hk := MkR.own hHeld HM.out hgr4 (fun g hg => Nat.le_trans hsw (hown.lt g hg).1); have hsz : X0.heap.size ≤ w4.heap.size := Nat.le_trans hsz hgr4.size; have fe := box_frozen hq3 2; obtain ⟨y0, y1, y2⟩ := box3_cells hq3; (try dsimp only))
       refine hK.out _ _ ?sC17 (fun hC17 => ?tC17)
       case sC17 => ((try dsimp only); (first | (with_reducible exact hHeld) | exact hk | exact hk.drew))
       replace hHeld := hC17; clear hK hC17
       refine tkA (i := 16) (v := ?vC18) rfl (.inl ⟨by kernel_rfl, ?yC18⟩) (by assumption) ?rC18
       case yC18 => (intro w hSw; first | (go_simp; done) | (go_simp; with_reducible rfl))
       refine wpAnyH_ready (rs := [17]) (by kernel_rfl) (by simp) (.cons rfl (fun K hK => ?hcC19) .nil)
       go_simp
       refine hK.out _ _ ?sC19 (fun hC19 => ?tC19)
       case sC19 => ((try dsimp only); (first | (with_reducible exact hHeld) | exact hk | exact hk.drew | exact hk.set HM.out HBB.out.2.1 | exact (hk.set HM.out HBB.out.2.1).drew))
       replace hHeld := hC19; clear hK hC19
       refine wpAnyH_done (by kernel_rfl) ?_ _
       clear hHeld
       refine NoPanic.normal ?_
      case' hcC10 =>
       go_simp
       (go_at_call 52; refine (HT.out _ _ hHeld).mono ?_; rintro e wt ⟨⟨zt, rfl, _, _, _⟩, hrt⟩; have hq3 := hrt.box hq3 hB3P; have hq2 := hrt.box hq2 hB2P; have hown := hrt.row hown (by omega); have hk := MkR.trans hHeld hrt; have hsz : X0.heap.size ≤ wt.heap.size := Nat.le_trans hsz hrt.size; obtain ⟨y0, y1, y2⟩ := box3_cells hq3; (try dsimp only))
       refine hK.out _ _ ?sC10 (fun hC10 => ?tC10)
       case sC10 => ((try dsimp only); (first | (with_reducible exact hHeld) | exact hk | exact hk.drew))
       replace hHeld := hC10; clear hK hC10
       refine tkA (i := 8) (v := ?vC20) rfl (.inl ⟨by kernel_rfl, ?yC20⟩) (by assumption) ?rC20
       case yC20 => (intro w hSw; first | (go_simp; done) | (go_simp; with_reducible rfl))
       refine tkA (i := 9) (v := ?vC21) rfl (.inl ⟨by kernel_rfl, ?yC21⟩) (by assumption) ?rC21
       case yC21 => (intro w hSw; first | (go_simp; done) | (go_simp; with_reducible rfl))
       refine wpAnyH_ready (rs := [1, 12]) (by kernel_rfl) (by simp) (.cons rfl (fun K hK => ?hcC22) (.cons rfl (fun K hK => ?hcC23) .nil))
       case' hcC22 =>
        go_simp
        refine hK.out _ _ ?sC22 (fun hC22 => ?tC22)
        case sC22 => ((try dsimp only); (first | (with_reducible exact hHeld) | exact hk | exact hk.drew))
        replace hHeld := hC22; clear hK hC22
        refine wpAnyH_ready (rs := [12]) (by kernel_rfl) (by simp) (.cons rfl (fun K hK => ?hcC24) .nil)
        go_simp
        ((first | refine intro_alloc (fun XL55 hBX hLX55 => ?_) | refine intro_alloc_drew (fun XL55 hBX hLX55 => ?_)); have hq3 := below_push hBX hq3; have hq2 := below_push hBX hq2; have hown := ownsRow_turned hown (Turned.of_below (T := fun _ => False) hBX) (fun _ _ h => h); have hk := MkR.below hHeld hBX; have hsz : X0.heap.size ≤ XL55.heap.size := Nat.le_trans hsz hBX.size; obtain ⟨y0, y1, y2⟩ := box3_cells hq3; (try dsimp only))
        refine hK.out _ _ ?sC24 (fun hC24 => ?tC24)
        case sC24 => ((try dsimp only); (first | (with_reducible exact hHeld) | exact hk | exact hk.drew))
        replace hHeld := hC24; clear hK hC24
        refine tkA (i := 13) (v := ?vC25) rfl (.inl ⟨by kernel_rfl, ?yC25⟩) (by assumption) ?rC25
        case yC25 => (intro w hSw; first | (go_simp; done) | (go_simp; with_reducible rfl))
        refine wpAnyH_ready (rs := [14]) (by kernel_rfl) (by simp) (.cons rfl (fun K hK => ?hcC26) .nil)
        go_simp
        ((first | refine intro_alloc (fun XL57 hBX hLX57 => ?_) | refine intro_alloc_drew (fun XL57 hBX hLX57 => ?_)); have hq3 := below_push hBX hq3; have hq2 := below_push hBX hq2; have hown := ownsRow_turned hown (Turned.of_below (T := fun _ => False) hBX) (fun _ _ h => h); have hk := MkR.below hHeld hBX; have hsz : X0.heap.size ≤ XL57.heap.size := Nat.le_trans hsz hBX.size; obtain ⟨y0, y1, y2⟩ := box3_cells hq3; (try dsimp only))
        refine hK.out _ _ ?sC26 (fun hC26 => ?tC26)
        case sC26 => ((try dsimp only); (first | (with_reducible exact hHeld) | exact hk | exact hk.drew))
        replace hHeld := hC26; clear hK hC26
        refine wpAnyH_ready (rs := [15]) (by kernel_rfl) (by simp) (.cons rfl (fun K hK => ?hcC27) .nil)
        (refine step_append_rd _ (by rfl) (.tmp 44) (.tmp 57) (by rfl) slShapeR X0.heap.size (.slice ra n rc) _ _ (by rfl) (by exact hown) _ _ _ _ (by rfl) (by exact rd_lit hLX57 rfl) (by intro u hu; simp at hu; rcases hu with rfl | rfl <;> rfl) (by unfold maxLen; omega) (by omega) (by omega) ?_; intro v4 w4 hown4 hgr4 hat4 hnl4; obtain ⟨va4, vc4, rfl, _, _⟩ := (Rd.of_own hown4).form; have hq3 := (hgr4.block B3 (lt_of_block hq3) (fun e1 => by have := (hown.lt B3 e1.symm).1; omega)).trans hq3; have hq2 := (hgr4.block B2 (lt_of_block hq2) (fun e1 => by have := (hown.lt B2 e1.symm).1; omega)).trans hq2; have hk := MkR.own hHeld HM.out hgr4 (fun g hg => Nat.le_trans hsw (hown.lt g hg).1); have hsz : X0.heap.size ≤ w4.heap.size := Nat.le_trans hsz hgr4.size; have fe := box_frozen hq3 2; obtain ⟨y0, y1, y2⟩ := box3_cells hq3; (try dsimp only))
        refine hK.out _ _ ?sC27 (fun hC27 => ?tC27)
        case sC27 => ((try dsimp only); (first | (with_reducible exact hHeld) | exact hk | exact hk.drew))
        replace hHeld := hC27; clear hK hC27
        refine tkA (i := 16) (v := ?vC28) rfl (.inl ⟨by kernel_rfl, ?yC28⟩) (by assumption) ?rC28
        case yC28 => (intro w hSw; first | (go_simp; done) | (go_simp; with_reducible rfl))
        refine wpAnyH_ready (rs := [17]) (by kernel_rfl) (by simp) (.cons rfl (fun K hK => ?hcC29) .nil)
        go_simp
        refine hK.out _ _ ?sC29 (fun hC29 => ?tC29)
        case sC29 => ((try dsimp only); (first | (with_reducible exact hHeld) | exact hk | exact hk.drew | exact hk.set HM.out HBB.out.2.1 | exact (hk.set HM.out HBB.out.2.1).drew))
        replace hHeld := hC29; clear hK hC29
        refine wpAnyH_done (by kernel_rfl) ?_ _
        clear hHeld
        refine NoPanic.normal ?_
       case' hcC23 =>
        go_simp
        ((first | refine intro_alloc (fun XL55 hBX hLX55 => ?_) | refine intro_alloc_drew (fun XL55 hBX hLX55 => ?_)); have hq3 := below_push hBX hq3; have hq2 := below_push hBX hq2; have hown := ownsRow_turned hown (Turned.of_below (T := fun _ => False) hBX) (fun _ _ h => h); have hk := MkR.below hHeld hBX; have hsz : X0.heap.size ≤ XL55.heap.size := Nat.le_trans hsz hBX.size; obtain ⟨y0, y1, y2⟩ := box3_cells hq3; (try dsimp only))
        refine hK.out _ _ ?sC23 (fun hC23 => ?tC23)
        case sC23 => ((try dsimp only); (first | (with_reducible exact hHeld) | exact hk | exact hk.drew))
        replace hHeld := hC23; clear hK hC23
        refine tkA (i := 13) (v := ?vC30) rfl (.inl ⟨by kernel_rfl, ?yC30⟩) (by assumption) ?rC30
        case yC30 => (intro w hSw; first | (go_simp; done) | (go_simp; with_reducible rfl))
        refine wpAnyH_ready (rs := [1, 14]) (by kernel_rfl) (by simp) (.cons rfl (fun K hK => ?hcC31) (.cons rfl (fun K hK => ?hcC32) .nil))
        case' hcC31 =>
         go_simp
         refine hK.out _ _ ?sC31 (fun hC31 => ?tC31)
         case sC31 => ((try dsimp only); (first | (with_reducible exact hHeld) | exact hk | exact hk.drew))
         replace hHeld := hC31; clear hK hC31
         refine wpAnyH_ready (rs := [14]) (by kernel_rfl) (by simp) (.cons rfl (fun K hK => ?hcC33) .nil)
         go_simp
         ((first | refine intro_alloc (fun XL57 hBX hLX57 => ?_) | refine intro_alloc_drew (fun XL57 hBX hLX57 => ?_)); have hq3 := below_push hBX hq3; have hq2 := below_push hBX hq2; have hown := ownsRow_turned hown (Turned.of_below (T := fun _ => False) hBX) (fun _ _ h => h); have hk := MkR.below hHeld hBX; have hsz : X0.heap.size ≤ XL57.heap.size := Nat.le_trans hsz hBX.size; obtain ⟨y0, y1, y2⟩ := box3_cells hq3; (try dsimp only))
         refine hK.out _ _ ?sC33 (fun hC33 => ?tC33)
         case sC33 => ((try dsimp only); (first | (with_reducible exact hHeld) | exact hk | exact hk.drew))
         replace hHeld := hC33; clear hK hC33
         refine wpAnyH_ready (rs := [15]) (by kernel_rfl) (by simp) (.cons rfl (fun K hK => ?hcC34) .nil)
         (refine step_append_rd _ (by rfl) (.tmp 44) (.tmp 57) (by rfl) slShapeR X0.heap.size (.slice ra n rc) _ _ (by rfl) (by exact hown) _ _ _ _ (by rfl) (by exact rd_lit hLX57 rfl) (by intro u hu; simp at hu; rcases hu with rfl | rfl <;> rfl) (by unfold maxLen; omega) (by omega) (by omega) ?_; intro v4 w4 hown4 hgr4 hat4 hnl4; obtain ⟨va4, vc4, rfl, _, _⟩ := (Rd.of_own hown4).form; have hq3 := (hgr4.block B3 (lt_of_block hq3) (fun e1 => by have := (hown.lt B3 e1.symm).1; omega)).trans hq3; have hq2 := (hgr4.block B2 (lt_of_block hq2) (fun e1 => by have := (hown.lt B2 e1.symm).1; omega)).trans hq2; have hk := MkR.own hHeld HM.out hgr4 (fun g hg => Nat.le_trans hsw (hown.lt g hg).1); have hsz : X0.heap.size ≤ w4.heap.size := Nat.le_trans hsz hgr4.size; have fe := box_frozen hq3 2; obtain ⟨y0, y1, y2⟩ := box3_cells hq3; (try dsimp only))
         refine hK.out _ _ ?sC34 (fun hC34 => ?tC34)
         case sC34 => ((try dsimp only); (first | (with_reducible exact hHeld) | exact hk | exact hk.drew))
         replace hHeld := hC34; clear hK hC34
         refine tkA (i := 16) (v := ?vC35) rfl (.inl ⟨by kernel_rfl, ?yC35⟩) (by assumption) ?rC35
         case yC35 => (intro w hSw; first | (go_simp; done) | (go_simp; with_reducible rfl))
         refine wpAnyH_ready (rs := [17]) (by kernel_rfl) (by simp) (.cons rfl (fun K hK => ?hcC36) .nil)
         go_simp
         refine hK.out _ _ ?sC36 (fun hC36 => ?tC36)
         case sC36 => ((try dsimp only); (first | (with_reducible exact hHeld) | exact hk | exact hk.drew | exact hk.set HM.out HBB.out.2.1 | exact (hk.set HM.out HBB.out.2.1).drew))
         replace hHeld := hC36; clear hK hC36
         refine wpAnyH_done (by kernel_rfl) ?_ _
         clear hHeld
         refine NoPanic.normal ?_
        case' hcC32 =>
         go_simp
         ((first | refine intro_alloc (fun XL57 hBX hLX57 => ?_) | refine intro_alloc_drew (fun XL57 hBX hLX57 => ?_)); have hq3 := below_push hBX hq3; have hq2 := below_push hBX hq2; have hown := ownsRow_turned hown (Turned.of_below (T := fun _ => False) hBX) (fun _ _ h => h); have hk := MkR.below hHeld hBX; have hsz : X0.heap.size ≤ XL57.heap.size := Nat.le_trans hsz hBX.size; obtain ⟨y0, y1, y2⟩ := box3_cells hq3; (try dsimp only))
         refine hK.out _ _ ?sC32 (fun hC32 => ?tC32)
         case sC32 => ((try dsimp only); (first | (with_reducible exact hHeld) | exact hk | exact hk.drew))
         replace hHeld := hC32; clear hK hC32
         refine wpAnyH_ready (rs := [1]) (by kernel_rfl) (by simp) (.cons rfl (fun K hK => ?hcC37) .nil)
         go_simp
         refine hK.out _ _ ?sC37 (fun hC37 => ?tC37)
         case sC37 => ((try dsimp only); (first | (with_reducible exact hHeld) | exact hk | exact hk.drew))
         replace hHeld := hC37; clear hK hC37
         refine wpAnyH_ready (rs := [15]) (by kernel_rfl) (by simp) (.cons rfl (fun K hK => ?hcC38) .nil)
         (refine step_append_rd _ (by rfl) (.tmp 44) (.tmp 57) (by rfl) slShapeR X0.heap.size (.slice ra n rc) _ _ (by rfl) (by exact hown) _ _ _ _ (by rfl) (by exact rd_lit hLX57 rfl) (by intro u hu; simp at hu; rcases hu with rfl | rfl <;> rfl) (by unfold maxLen; omega) (by omega) (by omega) ?_; intro v4 w4 hown4 hgr4 hat4 hnl4; obtain ⟨va4, vc4, rfl, _, _⟩ := (Rd.of_own hown4).form; have hq3 := (hgr4.block B3 (lt_of_block hq3) (fun e1 => by have := (hown.lt B3 e1.symm).1; omega)).trans hq3; have hq2 := (hgr4.block B2 (lt_of_block hq2) (fun e1 => by have := (hown.lt B2 e1.symm).1; omega)).trans hq2; have hk := MkR.own hHeld HM.out hgr4 (fun g hg => Nat.le_trans hsw (hown.lt g hg).1); have hsz : X0.heap.size ≤ w4.heap.size := Nat.le_trans hsz hgr4.size; have fe := box_frozen hq3 2; obtain ⟨y0, y1, y2⟩ := box3_cells hq3; (try dsimp only))
         refine hK.out _ _ ?sC38 (fun hC38 => ?tC38)
         case sC38 => ((try dsimp only); (first | (with_reducible exact hHeld) | exact hk | exact hk.drew))
         replace hHeld := hC38; clear hK hC38
         refine tkA (i := 16) (v := ?vC39) rfl (.inl ⟨by kernel_rfl, ?yC39⟩) (by assumption) ?rC39
         case yC39 => (intro w hSw; first | (go_simp; done) | (go_simp; with_reducible rfl))
         refine wpAnyH_ready (rs := [17]) (by kernel_rfl) (by simp) (.cons rfl (fun K hK => ?hcC40) .nil)
         go_simp
         refine hK.out _ _ ?sC40 (fun hC40 => ?tC40)
         case sC40 => ((try dsimp only); (first | (with_reducible exact hHeld) | exact hk | exact hk.drew | exact hk.set HM.out HBB.out.2.1 | exact (hk.set HM.out HBB.out.2.1).drew))
         replace hHeld := hC40; clear hK hC40
         refine wpAnyH_done (by kernel_rfl) ?_ _
         clear hHeld
         refine NoPanic.normal ?_
      all_goals
        (try dsimp only [Exit.inBlock, Exit.then])
        refine hMK _ _ ⟨n + 1, by omega, by omega, rfl, rfl, by kernel_rfl, by kernel_rfl, by kernel_rfl, ⟨.slice va4 (n + 1) vc4, _, hown4.kept (grownBy_setC w4 B3 2 _) (.inr (fun e1 => by have := (hown4.lt B3 e1).1; omega)), heap_set hq3 2 _, (Below.heap_setCell w4 ⟨B3, 2, none⟩ _ B2 HBB.out.2.2).trans hq2, by simp [World.setCell]; omega, by first | exact (hk.set HM.out HBB.out.2.1).drew | exact hk.set HM.out HBB.out.2.1⟩⟩
    · have hzb : (z == 0) = false := beq_false_of_ne hz
      clear hz hz0
      go_upto_region 8 with (fail)
      refine wp_region_noPanic (wp_region_held_drew (S := (fun Y => MkR P la lc l w Y)) (by kernel_rfl) ?hSD (fun hHeld => ?hRD))
      case hSD => ((try dsimp only); (exact hrw.drew))
      refine tkA (i := 0) (v := ?vD1) rfl (.inl ⟨by kernel_rfl, ?yD1⟩) (by assumption) ?rD1
      case yD1 => (intro w hSw; first | (go_simp; done) | (go_simp; with_reducible rfl))
      refine tkA (i := 2) (v := ?vD2) rfl (.inl ⟨by kernel_rfl, ?yD2⟩) (by assumption) ?rD2
      case yD2 => (intro w hSw; first | (go_simp; done) | (go_simp; with_reducible rfl))
      refine tkA (i := 3) (v := ?vD3) rfl (.inl ⟨by kernel_rfl, ?yD3⟩) (by assumption) ?rD3
      case yD3 => (intro w hSw; first | (go_simp; done) | (go_simp; with_reducible rfl))
      refine wpAnyH_ready (rs := [1, 4]) (by kernel_rfl) (by simp) (.cons rfl (fun K hK => ?hcD4) (.cons rfl (fun K hK => ?hcD5) .nil))
      case' hcD4 =>
       go_simp
       refine hK.out _ _ ?sD4 (fun hD4 => ?tD4)
       case sD4 => ((try dsimp only); (first | (with_reducible exact hHeld) | exact hk | exact hk.drew))
       replace hHeld := hD4; clear hK hD4
       refine wpAnyH_ready (rs := [4]) (by kernel_rfl) (by simp) (.cons rfl (fun K hK => ?hcD6) .nil)
       go_simp
       (go_at_call 52; refine (HT.out _ _ hHeld).mono ?_; rintro e wt ⟨⟨zt, rfl, _, _, _⟩, hrt⟩; have hq3 := hrt.box hq3 hB3P; have hq2 := hrt.box hq2 hB2P; have hown := hrt.row hown (by omega); have hk := MkR.trans hHeld hrt; have hsz : X0.heap.size ≤ wt.heap.size := Nat.le_trans hsz hrt.size; obtain ⟨y0, y1, y2⟩ := box3_cells hq3; (try dsimp only))
       refine hK.out _ _ ?sD6 (fun hD6 => ?tD6)
       case sD6 => ((try dsimp only); (first | (with_reducible exact hHeld) | exact hk | exact hk.drew))
       replace hHeld := hD6; clear hK hD6
       refine tkA (i := 5) (v := ?vD7) rfl (.inl ⟨by kernel_rfl, ?yD7⟩) (by assumption) ?rD7
       case yD7 => (intro w hSw; first | (go_simp; done) | (go_simp; with_reducible rfl))
       refine wpAnyH_ready (rs := [6]) (by kernel_rfl) (by simp) (.cons rfl (fun K hK => ?hcD8) .nil)
       go_simp
       (go_at_call 86; refine (box_any _ _ _ _ _).mono ?_; rintro e wq ⟨rfl, hbq⟩; have hq3 := below_push hbq hq3; have hq2 := below_push hbq hq2; have hown := ownsRow_turned hown (Turned.of_below (T := fun _ => False) hbq) (fun _ _ h => h); have hk := MkR.below hHeld hbq; have hsz : X0.heap.size ≤ wq.heap.size := Nat.le_trans hsz hbq.size; obtain ⟨y0, y1, y2⟩ := box3_cells hq3; (try dsimp only))
       refine hK.out _ _ ?sD8 (fun hD8 => ?tD8)
       case sD8 => ((try dsimp only); (first | (with_reducible exact hHeld) | exact hk | exact hk.drew))
       replace hHeld := hD8; clear hK hD8
       refine tkA (i := 7) (v := ?vD9) rfl (.inl ⟨by kernel_rfl, ?yD9⟩) (by assumption) ?rD9
       case yD9 => (intro w hSw; first | (go_simp; done) | (go_simp; with_reducible rfl))
       refine wpAnyH_ready (rs := [8]) (by kernel_rfl) (by simp) (.cons rfl (fun K hK => ?hcD10) .nil)
       go_simp
       ((first | refine intro_alloc (fun XL68 hBX hLX68 => ?_) | refine intro_alloc_drew (fun XL68 hBX hLX68 => ?_)); have hq3 := below_push hBX hq3; have hq2 := below_push hBX hq2; have hown := ownsRow_turned hown (Turned.of_below (T := fun _ => False) hBX) (fun _ _ h => h); have hk := MkR.below hHeld hBX; have hsz : X0.heap.size ≤ XL68.heap.size := Nat.le_trans hsz hBX.size; obtain ⟨y0, y1, y2⟩ := box3_cells hq3; (try dsimp only))
       refine hK.out _ _ ?sD10 (fun hD10 => ?tD10)
       case sD10 => ((try dsimp only); (first | (with_reducible exact hHeld) | exact hk | exact hk.drew))
       replace hHeld := hD10; clear hK hD10
       refine wpAnyH_ready (rs := [9]) (by kernel_rfl) (by simp) (.cons rfl (fun K hK => ?hcD11) .nil)
       (refine step_append_rd _ (by rfl) (.tmp 61) (.tmp 68) (by rfl) slShapeR X0.heap.size (.slice ra n rc) _ _ (by rfl) (by exact hown) _ _ _ _ (by rfl) (by exact rd_lit hLX68 rfl) (by intro u hu; simp at hu; rcases hu with rfl | rfl <;> rfl) (by unfold maxLen; omega) (by omega) (by omega) ?_; intro v4 w4 hown4 hgr4 hat4 hnl4; obtain ⟨va4, vc4, rfl, _, _⟩ := (Rd.of_own hown4).form; have hq3 := (hgr4.block B3 (lt_of_block hq3) (fun e1 => by have := (hown.lt B3 e1.symm).1; omega)).trans hq3; have hq2 := (hgr4.block B2 (lt_of_block hq2) (fun e1 => by have := (hown.lt B2 e1.symm).1; omega)).trans hq2; have hk := MkR.own hHeld HM.out hgr4 (fun g hg => Nat.le_trans hsw (hown.lt g hg).1); have hsz : X0.heap.size ≤ w4.heap.size := Nat.le_trans hsz hgr4.size; have fe := box_frozen hq3 2; obtain ⟨y0, y1, y2⟩ := box3_cells hq3; (try dsimp only))
       refine hK.out _ _ ?sD11 (fun hD11 => ?tD11)
       case sD11 => ((try dsimp only); (first | (with_reducible exact hHeld) | exact hk | exact hk.drew))
       replace hHeld := hD11; clear hK hD11
       refine tkA (i := 10) (v := ?vD12) rfl (.inl ⟨by kernel_rfl, ?yD12⟩) (by assumption) ?rD12
       case yD12 => (intro w hSw; first | (go_simp; done) | (go_simp; with_reducible rfl))
       refine wpAnyH_ready (rs := [11]) (by kernel_rfl) (by simp) (.cons rfl (fun K hK => ?hcD13) .nil)
       go_simp
       refine hK.out _ _ ?sD13 (fun hD13 => ?tD13)
       case sD13 => ((try dsimp only); (first | (with_reducible exact hHeld) | exact hk | exact hk.drew | exact hk.set HM.out HBB.out.2.1 | exact (hk.set HM.out HBB.out.2.1).drew))
       replace hHeld := hD13; clear hK hD13
       refine wpAnyH_done (by kernel_rfl) ?_ _
       clear hHeld
       refine NoPanic.normal ?_
      case' hcD5 =>
       go_simp
       (go_at_call 52; refine (HT.out _ _ hHeld).mono ?_; rintro e wt ⟨⟨zt, rfl, _, _, _⟩, hrt⟩; have hq3 := hrt.box hq3 hB3P; have hq2 := hrt.box hq2 hB2P; have hown := hrt.row hown (by omega); have hk := MkR.trans hHeld hrt; have hsz : X0.heap.size ≤ wt.heap.size := Nat.le_trans hsz hrt.size; obtain ⟨y0, y1, y2⟩ := box3_cells hq3; (try dsimp only))
       refine hK.out _ _ ?sD5 (fun hD5 => ?tD5)
       case sD5 => ((try dsimp only); (first | (with_reducible exact hHeld) | exact hk | exact hk.drew))
       replace hHeld := hD5; clear hK hD5
       refine tkA (i := 5) (v := ?vD14) rfl (.inl ⟨by kernel_rfl, ?yD14⟩) (by assumption) ?rD14
       case yD14 => (intro w hSw; first | (go_simp; done) | (go_simp; with_reducible rfl))
       refine wpAnyH_ready (rs := [1, 6]) (by kernel_rfl) (by simp) (.cons rfl (fun K hK => ?hcD15) (.cons rfl (fun K hK => ?hcD16) .nil))
       case' hcD15 =>
        go_simp
        refine hK.out _ _ ?sD15 (fun hD15 => ?tD15)
        case sD15 => ((try dsimp only); (first | (with_reducible exact hHeld) | exact hk | exact hk.drew))
        replace hHeld := hD15; clear hK hD15
        refine wpAnyH_ready (rs := [6]) (by kernel_rfl) (by simp) (.cons rfl (fun K hK => ?hcD17) .nil)
        go_simp
        (go_at_call 86; refine (box_any _ _ _ _ _).mono ?_; rintro e wq ⟨rfl, hbq⟩; have hq3 := below_push hbq hq3; have hq2 := below_push hbq hq2; have hown := ownsRow_turned hown (Turned.of_below (T := fun _ => False) hbq) (fun _ _ h => h); have hk := MkR.below hHeld hbq; have hsz : X0.heap.size ≤ wq.heap.size := Nat.le_trans hsz hbq.size; obtain ⟨y0, y1, y2⟩ := box3_cells hq3; (try dsimp only))
        refine hK.out _ _ ?sD17 (fun hD17 => ?tD17)
        case sD17 => ((try dsimp only); (first | (with_reducible exact hHeld) | exact hk | exact hk.drew))
        replace hHeld := hD17; clear hK hD17
        refine tkA (i := 7) (v := ?vD18) rfl (.inl ⟨by kernel_rfl, ?yD18⟩) (by assumption) ?rD18
        case yD18 => (intro w hSw; first | (go_simp; done) | (go_simp; with_reducible rfl))
        refine wpAnyH_ready (rs := [8]) (by kernel_rfl) (by simp) (.cons rfl (fun K hK => ?hcD19) .nil)
        go_simp
        ((first | refine intro_alloc (fun XL68 hBX hLX68 => ?_) | refine intro_alloc_drew (fun XL68 hBX hLX68 => ?_)); have hq3 := below_push hBX hq3; have hq2 := below_push hBX hq2; have hown := ownsRow_turned hown (Turned.of_below (T := fun _ => False) hBX) (fun _ _ h => h); have hk := MkR.below hHeld hBX; have hsz : X0.heap.size ≤ XL68.heap.size := Nat.le_trans hsz hBX.size; obtain ⟨y0, y1, y2⟩ := box3_cells hq3; (try dsimp only))
        refine hK.out _ _ ?sD19 (fun hD19 => ?tD19)
        case sD19 => ((try dsimp only); (first | (with_reducible exact hHeld) | exact hk | exact hk.drew))
        replace hHeld := hD19; clear hK hD19
        refine wpAnyH_ready (rs := [9]) (by kernel_rfl) (by simp) (.cons rfl (fun K hK => ?hcD20) .nil)
        (refine step_append_rd _ (by rfl) (.tmp 61) (.tmp 68) (by rfl) slShapeR X0.heap.size (.slice ra n rc) _ _ (by rfl) (by exact hown) _ _ _ _ (by rfl) (by exact rd_lit hLX68 rfl) (by intro u hu; simp at hu; rcases hu with rfl | rfl <;> rfl) (by unfold maxLen; omega) (by omega) (by omega) ?_; intro v4 w4 hown4 hgr4 hat4 hnl4; obtain ⟨va4, vc4, rfl, _, _⟩ := (Rd.of_own hown4).form; have hq3 := (hgr4.block B3 (lt_of_block hq3) (fun e1 => by have := (hown.lt B3 e1.symm).1; omega)).trans hq3; have hq2 := (hgr4.block B2 (lt_of_block hq2) (fun e1 => by have := (hown.lt B2 e1.symm).1; omega)).trans hq2; have hk := MkR.own hHeld HM.out hgr4 (fun g hg => Nat.le_trans hsw (hown.lt g hg).1); have hsz : X0.heap.size ≤ w4.heap.size := Nat.le_trans hsz hgr4.size; have fe := box_frozen hq3 2; obtain ⟨y0, y1, y2⟩ := box3_cells hq3; (try dsimp only))
        refine hK.out _ _ ?sD20 (fun hD20 => ?tD20)
        case sD20 => ((try dsimp only); (first | (with_reducible exact hHeld) | exact hk | exact hk.drew))
        replace hHeld := hD20; clear hK hD20
        refine tkA (i := 10) (v := ?vD21) rfl (.inl ⟨by kernel_rfl, ?yD21⟩) (by assumption) ?rD21
        case yD21 => (intro w hSw; first | (go_simp; done) | (go_simp; with_reducible rfl))
        refine wpAnyH_ready (rs := [11]) (by kernel_rfl) (by simp) (.cons rfl (fun K hK => ?hcD22) .nil)
        go_simp
        refine hK.out _ _ ?sD22 (fun hD22 => ?tD22)
        case sD22 => ((try dsimp only); (first | (with_reducible exact hHeld) | exact hk | exact hk.drew | exact hk.set HM.out HBB.out.2.1 | exact (hk.set HM.out HBB.out.2.1).drew))
        replace hHeld := hD22; clear hK hD22
        refine wpAnyH_done (by kernel_rfl) ?_ _
        clear hHeld
        refine NoPanic.normal ?_
       case' hcD16 =>
        go_simp
        (go_at_call 86; refine (box_any _ _ _ _ _).mono ?_; rintro e wq ⟨rfl, hbq⟩; have hq3 := below_push hbq hq3; have hq2 := below_push hbq hq2; have hown := ownsRow_turned hown (Turned.of_below (T := fun _ => False) hbq) (fun _ _ h => h); have hk := MkR.below hHeld hbq; have hsz : X0.heap.size ≤ wq.heap.size := Nat.le_trans hsz hbq.size; obtain ⟨y0, y1, y2⟩ := box3_cells hq3; (try dsimp only))
        refine hK.out _ _ ?sD16 (fun hD16 => ?tD16)
        case sD16 => ((try dsimp only); (first | (with_reducible exact hHeld) | exact hk | exact hk.drew))
        replace hHeld := hD16; clear hK hD16
        refine tkA (i := 7) (v := ?vD23) rfl (.inl ⟨by kernel_rfl, ?yD23⟩) (by assumption) ?rD23
        case yD23 => (intro w hSw; first | (go_simp; done) | (go_simp; with_reducible rfl))
        refine wpAnyH_ready (rs := [1, 8]) (by kernel_rfl) (by simp) (.cons rfl (fun K hK => ?hcD24) (.cons rfl (fun K hK => ?hcD25) .nil))
        case' hcD24 =>
         go_simp
         refine hK.out _ _ ?sD24 (fun hD24 => ?tD24)
         case sD24 => ((try dsimp only); (first | (with_reducible exact hHeld) | exact hk | exact hk.drew))
         replace hHeld := hD24; clear hK hD24
         refine wpAnyH_ready (rs := [8]) (by kernel_rfl) (by simp) (.cons rfl (fun K hK => ?hcD26) .nil)
         go_simp
         ((first | refine intro_alloc (fun XL68 hBX hLX68 => ?_) | refine intro_alloc_drew (fun XL68 hBX hLX68 => ?_)); have hq3 := below_push hBX hq3; have hq2 := below_push hBX hq2; have hown := ownsRow_turned hown (Turned.of_below (T := fun _ => False) hBX) (fun _ _ h => h); have hk := MkR.below hHeld hBX; have hsz : X0.heap.size ≤ XL68.heap.size := Nat.le_trans hsz hBX.size; obtain ⟨y0, y1, y2⟩ := box3_cells hq3; (try dsimp only))
         refine hK.out _ _ ?sD26 (fun hD26 => ?tD26)
         case sD26 => ((try dsimp only); (first | (with_reducible exact hHeld) | exact hk | exact hk.drew))
         replace hHeld := hD26; clear hK hD26
         refine wpAnyH_ready (rs := [9]) (by kernel_rfl) (by simp) (.cons rfl (fun K hK => ?hcD27) .nil)
         (refine step_append_rd _ (by rfl) (.tmp 61) (.tmp 68) (by rfl) slShapeR X0.heap.size (.slice ra n rc) _ _ (by rfl) (by exact hown) _ _ _ _ (by rfl) (by exact rd_lit hLX68 rfl) (by intro u hu; simp at hu; rcases hu with rfl | rfl <;> rfl) (by unfold maxLen; omega) (by omega) (by omega) ?_; intro v4 w4 hown4 hgr4 hat4 hnl4; obtain ⟨va4, vc4, rfl, _, _⟩ := (Rd.of_own hown4).form; have hq3 := (hgr4.block B3 (lt_of_block hq3) (fun e1 => by have := (hown.lt B3 e1.symm).1; omega)).trans hq3; have hq2 := (hgr4.block B2 (lt_of_block hq2) (fun e1 => by have := (hown.lt B2 e1.symm).1; omega)).trans hq2; have hk := MkR.own hHeld HM.out hgr4 (fun g hg => Nat.le_trans hsw (hown.lt g hg).1); have hsz : X0.heap.size ≤ w4.heap.size := Nat.le_trans hsz hgr4.size; have fe := box_frozen hq3 2; obtain ⟨y0, y1, y2⟩ := box3_cells hq3; (try dsimp only))
         refine hK.out _ _ ?sD27 (fun hD27 => ?tD27)
         case sD27 => ((try dsimp only); (first | (with_reducible exact hHeld) | exact hk | exact hk.drew))
         replace hHeld := hD27; clear hK hD27
         refine tkA (i := 10) (v := ?vD28) rfl (.inl ⟨by kernel_rfl, ?yD28⟩) (by assumption) ?rD28
         case yD28 => (intro w hSw; first | (go_simp; done) | (go_simp; with_reducible rfl))
         refine wpAnyH_ready (rs := [11]) (by kernel_rfl) (by simp) (.cons rfl (fun K hK => ?hcD29) .nil)
         go_simp
         refine hK.out _ _ ?sD29 (fun hD29 => ?tD29)
         case sD29 => ((try dsimp only); (first | (with_reducible exact hHeld) | exact hk | exact hk.drew | exact hk.set HM.out HBB.out.2.1 | exact (hk.set HM.out HBB.out.2.1).drew))
         replace hHeld := hD29; clear hK hD29
         refine wpAnyH_done (by kernel_rfl) ?_ _
         clear hHeld
         refine NoPanic.normal ?_
        case' hcD25 =>
         go_simp
         ((first | refine intro_alloc (fun XL68 hBX hLX68 => ?_) | refine intro_alloc_drew (fun XL68 hBX hLX68 => ?_)); have hq3 := below_push hBX hq3; have hq2 := below_push hBX hq2; have hown := ownsRow_turned hown (Turned.of_below (T := fun _ => False) hBX) (fun _ _ h => h); have hk := MkR.below hHeld hBX; have hsz : X0.heap.size ≤ XL68.heap.size := Nat.le_trans hsz hBX.size; obtain ⟨y0, y1, y2⟩ := box3_cells hq3; (try dsimp only))
         refine hK.out _ _ ?sD25 (fun hD25 => ?tD25)
         case sD25 => ((try dsimp only); (first | (with_reducible exact hHeld) | exact hk | exact hk.drew))
         replace hHeld := hD25; clear hK hD25
         refine wpAnyH_ready (rs := [1]) (by kernel_rfl) (by simp) (.cons rfl (fun K hK => ?hcD30) .nil)
         go_simp
         refine hK.out _ _ ?sD30 (fun hD30 => ?tD30)
         case sD30 => ((try dsimp only); (first | (with_reducible exact hHeld) | exact hk | exact hk.drew))
         replace hHeld := hD30; clear hK hD30
         refine wpAnyH_ready (rs := [9]) (by kernel_rfl) (by simp) (.cons rfl (fun K hK => ?hcD31) .nil)
         (refine step_append_rd _ (by rfl) (.tmp 61) (.tmp 68) (by rfl) slShapeR X0.heap.size (.slice ra n rc) _ _ (by rfl) (by exact hown) _ _ _ _ (by rfl) (by exact rd_lit hLX68 rfl) (by intro u hu; simp at hu; rcases hu with rfl | rfl <;> rfl) (by unfold maxLen; omega) (by omega) (by omega) ?_; intro v4 w4 hown4 hgr4 hat4 hnl4; obtain ⟨va4, vc4, rfl, _, _⟩ := (Rd.of_own hown4).form; have hq3 := (hgr4.block B3 (lt_of_block hq3) (fun e1 => by have := (hown.lt B3 e1.symm).1; omega)).trans hq3; have hq2 := (hgr4.block B2 (lt_of_block hq2) (fun e1 => by have := (hown.lt B2 e1.symm).1; omega)).trans hq2; have hk := MkR.own hHeld HM.out hgr4 (fun g hg => Nat.le_trans hsw (hown.lt g hg).1); have hsz : X0.heap.size ≤ w4.heap.size := Nat.le_trans hsz hgr4.size; have fe := box_frozen hq3 2; obtain ⟨y0, y1, y2⟩ := box3_cells hq3; (try dsimp only))
         refine hK.out _ _ ?sD31 (fun hD31 => ?tD31)
         case sD31 => ((try dsimp only); (first | (with_reducible exact hHeld) | exact hk | exact hk.drew))
         replace hHeld := hD31; clear hK hD31
         refine tkA (i := 10) (v := ?vD32) rfl (.inl ⟨by kernel_rfl, ?yD32⟩) (by assumption) ?rD32
         case yD32 => (intro w hSw; first | (go_simp; done) | (go_simp; with_reducible rfl))
         refine wpAnyH_ready (rs := [11]) (by kernel_rfl) (by simp) (.cons rfl (fun K hK => ?hcD33) .nil)
         go_simp
         refine hK.out _ _ ?sD33 (fun hD33 => ?tD33)
         case sD33 => ((try dsimp only); (first | (with_reducible exact hHeld) | exact hk | exact hk.drew | exact hk.set HM.out HBB.out.2.1 | exact (hk.set HM.out HBB.out.2.1).drew))
         replace hHeld := hD33; clear hK hD33
         refine wpAnyH_done (by kernel_rfl) ?_ _
         clear hHeld
         refine NoPanic.normal ?_
      all_goals
        (try dsimp only [Exit.inBlock, Exit.then])
        refine hMK _ _ ⟨n + 1, by omega, by omega, rfl, rfl, by kernel_rfl, by kernel_rfl, by kernel_rfl, ⟨.slice va4 (n + 1) vc4, _, hown4.kept (grownBy_setC w4 B3 2 _) (.inr (fun e1 => by have := (hown4.lt B3 e1).1; omega)), heap_set hq3 2 _, (Below.heap_setCell w4 ⟨B3, 2, none⟩ _ B2 HBB.out.2.2).trans hq2, by simp [World.setCell]; omega, by first | exact (hk.set HM.out HBB.out.2.1).drew | exact hk.set HM.out HBB.out.2.1⟩⟩
  rintro ⟨tm3, ds3⟩ W3 ⟨n, hlo, hhi, h109, hds, e0, e2, e3, rv, xs, hown, hq3, hq2, hsz, hrw⟩
  simp only at h109 hds e0 e2 e3
  subst hds
  apply_assumption
  rw [frame109 tm3 [] h109, e0, e2, e3]
  clear h109 e0 e2 e3
  obtain ⟨ra, rc, rfl, _, _⟩ := (Rd.of_own hown).form
  go_upto_if 73 with (first
    | (go_at_call 52; refine (HT.out _ _ hrw).mono ?_; rintro e wt ⟨⟨z, rfl, hz0, _, _⟩, hrt⟩; have hq3 := hrt.box hq3 hB3P; have hq2 := hrt.box hq2 hB2P; have hown := hrt.row hown (by omega); have hsz : X0.heap.size ≤ wt.heap.size := Nat.le_trans hsz hrt.size; have hrw := hrw.trans hrt)
    | fail)
  refine wp_join (FigE P la lc l w X0 B2 B3 2 4) ?fourth ?_
  case fourth =>
    intro K' hMK
    by_cases hz : z = 0
    · have hzb : (z == 0) = true := by simp [hz]
      obtain ⟨y0, y1, y2⟩ := box3_cells hq3
      clear hz hz0
      go_upto_region 10 with (fail)
      refine wp_join (FigL P la lc l w X0 B2 B3 n) ?last ?_
      case last =>
        intro K4 hML
        refine wp_region_noPanic (wp_region_held_drew (S := (fun Y => MkR P la lc l w Y)) (by kernel_rfl) ?hSE (fun hHeld => ?hRE))
        case hSE => ((try dsimp only); (exact hrw.drew))
        refine tkA (i := 0) (v := ?vE1) rfl (.inl ⟨by kernel_rfl, ?yE1⟩) (by assumption) ?rE1
        case yE1 => (intro w hSw; first | (go_simp; done) | (go_simp; with_reducible rfl))
        refine tkA (i := 2) (v := ?vE2) rfl (.inl ⟨by kernel_rfl, ?yE2⟩) (by assumption) ?rE2
        case yE2 => (intro w hSw; first | (go_simp; done) | (go_simp; with_reducible rfl))
        refine tkA (i := 3) (v := ?vE3) rfl (.inl ⟨by kernel_rfl, ?yE3⟩) (by assumption) ?rE3
        case yE3 => (intro w hSw; first | (go_simp; done) | (go_simp; with_reducible rfl))
        refine wpAnyH_ready (rs := [1, 4]) (by kernel_rfl) (by simp) (.cons rfl (fun K hK => ?hcE4) (.cons rfl (fun K hK => ?hcE5) .nil))
        case' hcE4 =>
         go_simp
         refine hK.out _ _ ?sE4 (fun hE4 => ?tE4)
         case sE4 => ((try dsimp only); (first | (with_reducible exact hHeld) | exact hk | exact hk.drew))
         replace hHeld := hE4; clear hK hE4
         refine wpAnyH_ready (rs := [4]) (by kernel_rfl) (by simp) (.cons rfl (fun K hK => ?hcE6) .nil)
         go_simp
         (go_at_call 52; refine (HT.out _ _ hHeld).mono ?_; rintro e wt ⟨⟨zt, rfl, _, _, _⟩, hrt⟩; have hq3 := hrt.box hq3 hB3P; have hq2 := hrt.box hq2 hB2P; have hown := hrt.row hown (by omega); have hk := MkR.trans hHeld hrt; have hsz : X0.heap.size ≤ wt.heap.size := Nat.le_trans hsz hrt.size; obtain ⟨y0, y1, y2⟩ := box3_cells hq3; (try dsimp only))
         refine hK.out _ _ ?sE6 (fun hE6 => ?tE6)
         case sE6 => ((try dsimp only); (first | (with_reducible exact hHeld) | exact hk | exact hk.drew))
         replace hHeld := hE6; clear hK hE6
         refine tkA (i := 5) (v := ?vE7) rfl (.inl ⟨by kernel_rfl, ?yE7⟩) (by assumption) ?rE7
         case yE7 => (intro w hSw; first | (go_simp; done) | (go_simp; with_reducible rfl))
         refine tkA (i := 6) (v := ?vE8) rfl (.inl ⟨by kernel_rfl, ?yE8⟩) (by assumption) ?rE8
         case yE8 => (intro w hSw; first | (go_simp; done) | (go_simp; with_reducible rfl))
         refine wpAnyH_ready (rs := [7]) (by kernel_rfl) (by simp) (.cons rfl (fun K hK => ?hcE9) .nil)
         go_simp
         ((first | refine intro_alloc (fun XL81 hBX hLX81 => ?_) | refine intro_alloc_drew (fun XL81 hBX hLX81 => ?_)); have hq3 := below_push hBX hq3; have hq2 := below_push hBX hq2; have hown := ownsRow_turned hown (Turned.of_below (T := fun _ => False) hBX) (fun _ _ h => h); have hk := MkR.below hHeld hBX; have hsz : X0.heap.size ≤ XL81.heap.size := Nat.le_trans hsz hBX.size; obtain ⟨y0, y1, y2⟩ := box3_cells hq3; (try dsimp only))
         refine hK.out _ _ ?sE9 (fun hE9 => ?tE9)
         case sE9 => ((try dsimp only); (first | (with_reducible exact hHeld) | exact hk | exact hk.drew))
         replace hHeld := hE9; clear hK hE9
         refine tkA (i := 8) (v := ?vE10) rfl (.inl ⟨by kernel_rfl, ?yE10⟩) (by assumption) ?rE10
         case yE10 => (intro w hSw; first | (go_simp; done) | (go_simp; with_reducible rfl))
         refine wpAnyH_ready (rs := [9]) (by kernel_rfl) (by simp) (.cons rfl (fun K hK => ?hcE11) .nil)
         go_simp
         ((first | refine intro_alloc (fun XL83 hBX hLX83 => ?_) | refine intro_alloc_drew (fun XL83 hBX hLX83 => ?_)); have hq3 := below_push hBX hq3; have hq2 := below_push hBX hq2; have hown := ownsRow_turned hown (Turned.of_below (T := fun _ => False) hBX) (fun _ _ h => h); have hk := MkR.below hHeld hBX; have hsz : X0.heap.size ≤ XL83.heap.size := Nat.le_trans hsz hBX.size; have hLQ := below_push hBX hLX81; obtain ⟨y0, y1, y2⟩ := box3_cells hq3; (try dsimp only))
         refine hK.out _ _ ?sE11 (fun hE11 => ?tE11)
         case sE11 => ((try dsimp only); (first | (with_reducible exact hHeld) | exact hk | exact hk.drew))
         replace hHeld := hE11; clear hK hE11
         refine wpAnyH_ready (rs := [10]) (by kernel_rfl) (by simp) (.cons rfl (fun K hK => ?hcE12) .nil)
         (refine step_append_rd _ (by rfl) (.tmp 75) (.tmp 83) (by rfl) slShapeR X0.heap.size (.slice ra n rc) _ _ (by rfl) (by exact hown) _ _ _ _ (by rfl) (by exact rd_lit hLX83 rfl) (by intro u hu; simp at hu; rcases hu with rfl | rfl <;> rfl) (by unfold maxLen; omega) (by omega) (by omega) ?_; intro v4 w4 hown4 hgr4 hat4 hnl4; obtain ⟨va4, vc4, rfl, _, _⟩ := (Rd.of_own hown4).form; have hq3 := (hgr4.block B3 (lt_of_block hq3) (fun e1 => by have := (hown.lt B3 e1.symm).1; omega)).trans hq3; have hq2 := (hgr4.block B2 (lt_of_block hq2) (fun e1 => by have := (hown.lt B2 e1.symm).1; omega)).trans hq2; have hk := MkR.own hHeld HM.out hgr4 (fun g hg => Nat.le_trans hsw (hown.lt g hg).1); have hsz : X0.heap.size ≤ w4.heap.size := Nat.le_trans hsz hgr4.size; have hLQ := grown_other hown hgr4 hLQ (by decide); have fe := box_frozen hq3 2; obtain ⟨y0, y1, y2⟩ := box3_cells hq3; (try dsimp only))
         refine hK.out _ _ ?sE12 (fun hE12 => ?tE12)
         case sE12 => ((try dsimp only); (first | (with_reducible exact hHeld) | exact hk | exact hk.drew))
         replace hHeld := hE12; clear hK hE12
         refine tkA (i := 11) (v := ?vE13) rfl (.inl ⟨by kernel_rfl, ?yE13⟩) (by assumption) ?rE13
         case yE13 => (intro w hSw; first | (go_simp; done) | (go_simp; with_reducible rfl))
         refine wpAnyH_ready (rs := [12]) (by kernel_rfl) (by simp) (.cons rfl (fun K hK => ?hcE14) .nil)
         go_simp
         refine hK.out _ _ ?sE14 (fun hE14 => ?tE14)
         case sE14 => ((try dsimp only); (first | (with_reducible exact hHeld) | exact hk | exact hk.drew | exact hk.set HM.out HBB.out.2.1 | exact (hk.set HM.out HBB.out.2.1).drew))
         replace hHeld := hE14; clear hK hE14
         refine wpAnyH_done (by kernel_rfl) ?_ _
         clear hHeld
         refine NoPanic.normal ?_
        case' hcE5 =>
         go_simp
         (go_at_call 52; refine (HT.out _ _ hHeld).mono ?_; rintro e wt ⟨⟨zt, rfl, _, _, _⟩, hrt⟩; have hq3 := hrt.box hq3 hB3P; have hq2 := hrt.box hq2 hB2P; have hown := hrt.row hown (by omega); have hk := MkR.trans hHeld hrt; have hsz : X0.heap.size ≤ wt.heap.size := Nat.le_trans hsz hrt.size; obtain ⟨y0, y1, y2⟩ := box3_cells hq3; (try dsimp only))
         refine hK.out _ _ ?sE5 (fun hE5 => ?tE5)
         case sE5 => ((try dsimp only); (first | (with_reducible exact hHeld) | exact hk | exact hk.drew))
         replace hHeld := hE5; clear hK hE5
         refine tkA (i := 5) (v := ?vE15) rfl (.inl ⟨by kernel_rfl, ?yE15⟩) (by assumption) ?rE15
         case yE15 => (intro w hSw; first | (go_simp; done) | (go_simp; with_reducible rfl))
         refine tkA (i := 6) (v := ?vE16) rfl (.inl ⟨by kernel_rfl, ?yE16⟩) (by assumption) ?rE16
         case yE16 => (intro w hSw; first | (go_simp; done) | (go_simp; with_reducible rfl))
         refine wpAnyH_ready (rs := [1, 7]) (by kernel_rfl) (by simp) (.cons rfl (fun K hK => ?hcE17) (.cons rfl (fun K hK => ?hcE18) .nil))
         case' hcE17 =>
          go_simp
          refine hK.out _ _ ?sE17 (fun hE17 => ?tE17)
          case sE17 => ((try dsimp only); (first | (with_reducible exact hHeld) | exact hk | exact hk.drew))
          replace hHeld := hE17; clear hK hE17
          refine wpAnyH_ready (rs := [7]) (by kernel_rfl) (by simp) (.cons rfl (fun K hK => ?hcE19) .nil)
          go_simp
          ((first | refine intro_alloc (fun XL81 hBX hLX81 => ?_) | refine intro_alloc_drew (fun XL81 hBX hLX81 => ?_)); have hq3 := below_push hBX hq3; have hq2 := below_push hBX hq2; have hown := ownsRow_turned hown (Turned.of_below (T := fun _ => False) hBX) (fun _ _ h => h); have hk := MkR.below hHeld hBX; have hsz : X0.heap.size ≤ XL81.heap.size := Nat.le_trans hsz hBX.size; obtain ⟨y0, y1, y2⟩ := box3_cells hq3; (try dsimp only))
          refine hK.out _ _ ?sE19 (fun hE19 => ?tE19)
          case sE19 => ((try dsimp only); (first | (with_reducible exact hHeld) | exact hk | exact hk.drew))
          replace hHeld := hE19; clear hK hE19
          refine tkA (i := 8) (v := ?vE20) rfl (.inl ⟨by kernel_rfl, ?yE20⟩) (by assumption) ?rE20
          case yE20 => (intro w hSw; first | (go_simp; done) | (go_simp; with_reducible rfl))
          refine wpAnyH_ready (rs := [9]) (by kernel_rfl) (by simp) (.cons rfl (fun K hK => ?hcE21) .nil)
          go_simp
          ((first | refine intro_alloc (fun XL83 hBX hLX83 => ?_) | refine intro_alloc_drew (fun XL83 hBX hLX83 => ?_)); have hq3 := below_push hBX hq3; have hq2 := below_push hBX hq2; have hown := ownsRow_turned hown (Turned.of_below (T := fun _ => False) hBX) (fun _ _ h => h); have hk := MkR.below hHeld hBX; have hsz : X0.heap.size ≤ XL83.heap.size := Nat.le_trans hsz hBX.size; have hLQ := below_push hBX hLX81; obtain ⟨y0, y1, y2⟩ := box3_cells hq3; (try dsimp only))
          refine hK.out _ _ ?sE21 (fun hE21 => ?tE21)
          case sE21 => ((try dsimp only); (first | (with_reducible exact hHeld) | exact hk | exact hk.drew))
          replace hHeld := hE21; clear hK hE21
          refine wpAnyH_ready (rs := [10]) (by kernel_rfl) (by simp) (.cons rfl (fun K hK => ?hcE22) .nil)
          (refine step_append_rd _ (by rfl) (.tmp 75) (.tmp 83) (by rfl) slShapeR X0.heap.size (.slice ra n rc) _ _ (by rfl) (by exact hown) _ _ _ _ (by rfl) (by exact rd_lit hLX83 rfl) (by intro u hu; simp at hu; rcases hu with rfl | rfl <;> rfl) (by unfold maxLen; omega) (by omega) (by omega) ?_; intro v4 w4 hown4 hgr4 hat4 hnl4; obtain ⟨va4, vc4, rfl, _, _⟩ := (Rd.of_own hown4).form; have hq3 := (hgr4.block B3 (lt_of_block hq3) (fun e1 => by have := (hown.lt B3 e1.symm).1; omega)).trans hq3; have hq2 := (hgr4.block B2 (lt_of_block hq2) (fun e1 => by have := (hown.lt B2 e1.symm).1; omega)).trans hq2; have hk := MkR.own hHeld HM.out hgr4 (fun g hg => Nat.le_trans hsw (hown.lt g hg).1); have hsz : X0.heap.size ≤ w4.heap.size := Nat.le_trans hsz hgr4.size; have hLQ := grown_other hown hgr4 hLQ (by decide); have fe := box_frozen hq3 2; obtain ⟨y0, y1, y2⟩ := box3_cells hq3; (try dsimp only))
          refine hK.out _ _ ?sE22 (fun hE22 => ?tE22)
          case sE22 => ((try dsimp only); (first | (with_reducible exact hHeld) | exact hk | exact hk.drew))
          replace hHeld := hE22; clear hK hE22
          refine tkA (i := 11) (v := ?vE23) rfl (.inl ⟨by kernel_rfl, ?yE23⟩) (by assumption) ?rE23
          case yE23 => (intro w hSw; first | (go_simp; done) | (go_simp; with_reducible rfl))
          refine wpAnyH_ready (rs := [12]) (by kernel_rfl) (by simp) (.cons rfl (fun K hK => ?hcE24) .nil)
          go_simp
          refine hK.out _ _ ?sE24 (fun hE24 => ?tE24)
          case sE24 => ((try dsimp only); (first | (with_reducible exact hHeld) | exact hk | exact hk.drew | exact hk.set HM.out HBB.out.2.1 | exact (hk.set HM.out HBB.out.2.1).drew))
          replace hHeld := hE24; clear hK hE24
          refine wpAnyH_done (by kernel_rfl) ?_ _
          clear hHeld
          refine NoPanic.normal ?_
         case' hcE18 =>
          go_simp
          ((first | refine intro_alloc (fun XL81 hBX hLX81 => ?_) | refine intro_alloc_drew (fun XL81 hBX hLX81 => ?_)); have hq3 := below_push hBX hq3; have hq2 := below_push hBX hq2; have hown := ownsRow_turned hown (Turned.of_below (T := fun _ => False) hBX) (fun _ _ h => h); have hk := MkR.below hHeld hBX; have hsz : X0.heap.size ≤ XL81.heap.size := Nat.le_trans hsz hBX.size; obtain ⟨y0, y1, y2⟩ := box3_cells hq3; (try dsimp only))
          refine hK.out _ _ ?sE18 (fun hE18 => ?tE18)
          case sE18 => ((try dsimp only); (first | (with_reducible exact hHeld) | exact hk | exact hk.drew))
          replace hHeld := hE18; clear hK hE18
          refine tkA (i := 8) (v := ?vE25) rfl (.inl ⟨by kernel_rfl, ?yE25⟩) (by assumption) ?rE25
          case yE25 => (intro w hSw; first | (go_simp; done) | (go_simp; with_reducible rfl))
          refine wpAnyH_ready (rs := [1, 9]) (by kernel_rfl) (by simp) (.cons rfl (fun K hK => ?hcE26) (.cons rfl (fun K hK => ?hcE27) .nil))
          case' hcE26 =>
           go_simp
           refine hK.out _ _ ?sE26 (fun hE26 => ?tE26)
           case sE26 => ((try dsimp only); (first | (with_reducible exact hHeld) | exact hk | exact hk.drew))
           replace hHeld := hE26; clear hK hE26
           refine wpAnyH_ready (rs := [9]) (by kernel_rfl) (by simp) (.cons rfl (fun K hK => ?hcE28) .nil)
           go_simp
           ((first | refine intro_alloc (fun XL83 hBX hLX83 => ?_) | refine intro_alloc_drew (fun XL83 hBX hLX83 => ?_)); have hq3 := below_push hBX hq3; have hq2 := below_push hBX hq2; have hown := ownsRow_turned hown (Turned.of_below (T := fun _ => False) hBX) (fun _ _ h => h); have hk := MkR.below hHeld hBX; have hsz : X0.heap.size ≤ XL83.heap.size := Nat.le_trans hsz hBX.size; have hLQ := below_push hBX hLX81; obtain ⟨y0, y1, y2⟩ := box3_cells hq3; (try dsimp only))
           refine hK.out _ _ ?sE28 (fun hE28 => ?tE28)
           case sE28 => ((try dsimp only); (first | (with_reducible exact hHeld) | exact hk | exact hk.drew))
           replace hHeld := hE28; clear hK hE28
           refine wpAnyH_ready (rs := [10]) (by kernel_rfl) (by simp) (.cons rfl (fun K hK => ?hcE29) .nil)
           (refine step_append_rd _ (by rfl) (.tmp 75) (.tmp 83) (by rfl) slShapeR X0.heap.size (.slice ra n rc) _ _ (by rfl) (by exact hown) _ _ _ _ (by rfl) (by exact rd_lit hLX83 rfl) (by intro u hu; simp at hu; rcases hu with rfl | rfl <;> rfl) (by unfold maxLen; omega) (by omega) (by omega) ?_; intro v4 w4 hown4 hgr4 hat4 hnl4; obtain ⟨va4, vc4, rfl, _, _⟩ := (Rd.of_own hown4).form; have hq3 := (hgr4.block B3 (lt_of_block hq3) (fun e1 => by have := (hown.lt B3 e1.symm).1; omega)).trans hq3; have hq2 := (hgr4.block B2 (lt_of_block hq2) (fun e1 => by have := (hown.lt B2 e1.symm).1; omega)).trans hq2; have hk := MkR.own hHeld HM.out hgr4 (fun g hg => Nat.le_trans hsw (hown.lt g hg).1); have hsz : X0.heap.size ≤ w4.heap.size := Nat.le_trans hsz hgr4.size; have hLQ := grown_other hown hgr4 hLQ (by decide); have fe := box_frozen hq3 2; obtain ⟨y0, y1, y2⟩ := box3_cells hq3; (try dsimp only))
           refine hK.out _ _ ?sE29 (fun hE29 => ?tE29)
           case sE29 => ((try dsimp only); (first | (with_reducible exact hHeld) | exact hk | exact hk.drew))
           replace hHeld := hE29; clear hK hE29
           refine tkA (i := 11) (v := ?vE30) rfl (.inl ⟨by kernel_rfl, ?yE30⟩) (by assumption) ?rE30
           case yE30 => (intro w hSw; first | (go_simp; done) | (go_simp; with_reducible rfl))
           refine wpAnyH_ready (rs := [12]) (by kernel_rfl) (by simp) (.cons rfl (fun K hK => ?hcE31) .nil)
           go_simp
           refine hK.out _ _ ?sE31 (fun hE31 => ?tE31)
           case sE31 => ((try dsimp only); (first | (with_reducible exact hHeld) | exact hk | exact hk.drew | exact hk.set HM.out HBB.out.2.1 | exact (hk.set HM.out HBB.out.2.1).drew))
           replace hHeld := hE31; clear hK hE31
           refine wpAnyH_done (by kernel_rfl) ?_ _
           clear hHeld
           refine NoPanic.normal ?_
          case' hcE27 =>
           go_simp
           ((first | refine intro_alloc (fun XL83 hBX hLX83 => ?_) | refine intro_alloc_drew (fun XL83 hBX hLX83 => ?_)); have hq3 := below_push hBX hq3; have hq2 := below_push hBX hq2; have hown := ownsRow_turned hown (Turned.of_below (T := fun _ => False) hBX) (fun _ _ h => h); have hk := MkR.below hHeld hBX; have hsz : X0.heap.size ≤ XL83.heap.size := Nat.le_trans hsz hBX.size; have hLQ := below_push hBX hLX81; obtain ⟨y0, y1, y2⟩ := box3_cells hq3; (try dsimp only))
           refine hK.out _ _ ?sE27 (fun hE27 => ?tE27)
           case sE27 => ((try dsimp only); (first | (with_reducible exact hHeld) | exact hk | exact hk.drew))
           replace hHeld := hE27; clear hK hE27
           refine wpAnyH_ready (rs := [1]) (by kernel_rfl) (by simp) (.cons rfl (fun K hK => ?hcE32) .nil)
           go_simp
           refine hK.out _ _ ?sE32 (fun hE32 => ?tE32)
           case sE32 => ((try dsimp only); (first | (with_reducible exact hHeld) | exact hk | exact hk.drew))
           replace hHeld := hE32; clear hK hE32
           refine wpAnyH_ready (rs := [10]) (by kernel_rfl) (by simp) (.cons rfl (fun K hK => ?hcE33) .nil)
           (refine step_append_rd _ (by rfl) (.tmp 75) (.tmp 83) (by rfl) slShapeR X0.heap.size (.slice ra n rc) _ _ (by rfl) (by exact hown) _ _ _ _ (by rfl) (by exact rd_lit hLX83 rfl) (by intro u hu; simp at hu; rcases hu with rfl | rfl <;> rfl) (by unfold maxLen; omega) (by omega) (by omega) ?_; intro v4 w4 hown4 hgr4 hat4 hnl4; obtain ⟨va4, vc4, rfl, _, _⟩ := (Rd.of_own hown4).form; have hq3 := (hgr4.block B3 (lt_of_block hq3) (fun e1 => by have := (hown.lt B3 e1.symm).1; omega)).trans hq3; have hq2 := (hgr4.block B2 (lt_of_block hq2) (fun e1 => by have := (hown.lt B2 e1.symm).1; omega)).trans hq2; have hk := MkR.own hHeld HM.out hgr4 (fun g hg => Nat.le_trans hsw (hown.lt g hg).1); have hsz : X0.heap.size ≤ w4.heap.size := Nat.le_trans hsz hgr4.size; have hLQ := grown_other hown hgr4 hLQ (by decide); have fe := box_frozen hq3 2; obtain ⟨y0, y1, y2⟩ := box3_cells hq3; (try dsimp only))
           refine hK.out _ _ ?sE33 (fun hE33 => ?tE33)
           case sE33 => ((try dsimp only); (first | (with_reducible exact hHeld) | exact hk | exact hk.drew))
           replace hHeld := hE33; clear hK hE33
           refine tkA (i := 11) (v := ?vE34) rfl (.inl ⟨by kernel_rfl, ?yE34⟩) (by assumption) ?rE34
           case yE34 => (intro w hSw; first | (go_simp; done) | (go_simp; with_reducible rfl))
           refine wpAnyH_ready (rs := [12]) (by kernel_rfl) (by simp) (.cons rfl (fun K hK => ?hcE35) .nil)
           go_simp
           refine hK.out _ _ ?sE35 (fun hE35 => ?tE35)
           case sE35 => ((try dsimp only); (first | (with_reducible exact hHeld) | exact hk | exact hk.drew | exact hk.set HM.out HBB.out.2.1 | exact (hk.set HM.out HBB.out.2.1).drew))
           replace hHeld := hE35; clear hK hE35
           refine wpAnyH_done (by kernel_rfl) ?_ _
           clear hHeld
           refine NoPanic.normal ?_
        all_goals
          (try dsimp only [Exit.inBlock, Exit.then])
          refine hML _ _ ⟨rfl, rfl, by kernel_rfl, by kernel_rfl, by kernel_rfl, _, va4, vc4, _, hown4.kept (grownBy_setC w4 B3 2 _) (.inr (fun e1 => by have := (hown4.lt B3 e1).1; omega)), heap_set hq3 2 _, (Below.heap_setCell w4 ⟨B3, 2, none⟩ _ B2 HBB.out.2.2).trans hq2, by simp [World.setCell]; omega, ⟨_, (Below.heap_setCell w4 ⟨B3, 2, none⟩ _ _ (by simp only; omega)).trans hLQ⟩, by omega, by first | exact (hk.set HM.out HBB.out.2.1).drew | exact hk.set HM.out HBB.out.2.1⟩
      rintro ⟨tm5, ds5⟩ W5 ⟨h109, hds, e0, e2, e3, Q, va, vc, xs5, hown, hq3, hq2, hsz, ⟨qx, hqQ⟩, hQX, hrw⟩
      simp only at h109 hds e0 e2 e3
      subst hds
      apply_assumption
      rw [frame109 tm5 [] h109, e0, e2, e3]
      clear h109 e0 e2 e3 y0 y1 y2
      obtain ⟨gb, gc, hge, hgb1, hgb2⟩ := own_block hown (fun e1 => by injection e1 with _ e1 _; omega)
      injection hge with hge1 _ hge2
      subst hge1 hge2
      have hxl : xs5.length = n * 2 := by
        have := hown.1
        simp at this
        omega
      have hcell := hown.cells (g := gb) rfl (n * 2 + 1) (.slice (some ⟨Q, 0, none⟩) 2 2) (by rw [List.getElem?_append_right (by omega)]; simp [hxl])
      rw [addr_addM] at hcell
      have hQg : Q ≠ gb := fun e1 => own_boxM hown hqQ (by decide) (by rw [e1]; rfl)
      have hQ3 : Q ≠ B3 := by omega
      have hQ2 : Q ≠ B2 := by omega
      have q2 : W5.cell? ⟨Q, 2, none⟩ = some (.int .i64 qx) := by simp [World.cell?, hqQ]
      have fq := box_frozen hqQ 2
      obtain ⟨y0, y1, y2⟩ := box3_cells hq3
      have hn0 : (0 : Int) ≤ (n : Int) := by omega
      have hn1 : (n : Int) < (n : Int) + 1 := by omega
      have HC := hidep (show ∀ Y, Turned (fun b => b = Q) W5 Y → Y.heap[B3]? = some (.cells #[.int .i64 60, .int .i64 50, .slice (some ⟨gb, 0, none⟩) (n + 1) vc] 101) ∧ Y.cell? ⟨gb, n * 2 + 1, none⟩ = some (.slice (some ⟨Q, 0, none⟩) 2 2) from fun Y hY => ⟨hY.cells hq3 (fun e1 => hQ3 e1.symm), hY.cell hcell (fun e1 => hQg e1.symm)⟩)
      go_upto_region 12 with (fail)
      refine wp_region_noPanic (wp_region_held_drew (S := (fun Y => Turned (fun b => b = Q) W5 Y)) (by kernel_rfl) ?hSF (fun hHeld => ?hRF))
      case hSF => ((try dsimp only); (exact (Turned.refl _ _).drew))
      refine tkA (i := 0) (v := ?vF1) rfl (.inl ⟨by kernel_rfl, ?yF1⟩) (by assumption) ?rF1
      case yF1 => (intro w hSw; (try dsimp only at hSw); (obtain ⟨x1, c4⟩ := HC.out w hSw; obtain ⟨c1, c2, c3⟩ := box3_cells x1; clear x1); first | (go_simp; done) | (go_simp; with_reducible rfl))
      refine tkA (i := 1) (v := ?vF2) rfl (.inl ⟨by kernel_rfl, ?yF2⟩) (by assumption) ?rF2
      case yF2 => (intro w hSw; (try dsimp only at hSw); (obtain ⟨x1, c4⟩ := HC.out w hSw; obtain ⟨c1, c2, c3⟩ := box3_cells x1; clear x1); first | (go_simp; done) | (go_simp; with_reducible rfl))
      refine tkA (i := 2) (v := ?vF3) rfl (.inl ⟨by kernel_rfl, ?yF3⟩) (by assumption) ?rF3
      case yF3 => (intro w hSw; (try dsimp only at hSw); (obtain ⟨x1, c4⟩ := HC.out w hSw; obtain ⟨c1, c2, c3⟩ := box3_cells x1; clear x1); first | (go_simp; done) | (go_simp; with_reducible rfl))
      refine tkA (i := 3) (v := ?vF4) rfl (.inl ⟨by kernel_rfl, ?yF4⟩) (by assumption) ?rF4
      case yF4 => (intro w hSw; (try dsimp only at hSw); (obtain ⟨x1, c4⟩ := HC.out w hSw; obtain ⟨c1, c2, c3⟩ := box3_cells x1; clear x1); first | (go_simp; done) | (go_simp; with_reducible rfl))
      refine tkA (i := 4) (v := ?vF5) rfl (.inl ⟨by kernel_rfl, ?yF5⟩) (by assumption) ?rF5
      case yF5 => (intro w hSw; (try dsimp only at hSw); (obtain ⟨x1, c4⟩ := HC.out w hSw; obtain ⟨c1, c2, c3⟩ := box3_cells x1; clear x1); first | (go_simp; done) | (go_simp; with_reducible rfl))
      refine tkA (i := 5) (v := ?vF6) rfl (.inl ⟨by kernel_rfl, ?yF6⟩) (by assumption) ?rF6
      case yF6 => (intro w hSw; (try dsimp only at hSw); (obtain ⟨x1, c4⟩ := HC.out w hSw; obtain ⟨c1, c2, c3⟩ := box3_cells x1; clear x1); first | (go_simp; done) | (go_simp; with_reducible rfl))
      refine tkA (i := 6) (v := ?vF7) rfl (.inl ⟨by kernel_rfl, ?yF7⟩) (by assumption) ?rF7
      case yF7 => (intro w hSw; (try dsimp only at hSw); (obtain ⟨x1, c4⟩ := HC.out w hSw; obtain ⟨c1, c2, c3⟩ := box3_cells x1; clear x1); first | (go_simp; done) | (go_simp; with_reducible rfl))
      refine tkA (i := 7) (v := ?vF8) rfl (.inl ⟨by kernel_rfl, ?yF8⟩) (by assumption) ?rF8
      case yF8 => (intro w hSw; (try dsimp only at hSw); (obtain ⟨x1, c4⟩ := HC.out w hSw; obtain ⟨c1, c2, c3⟩ := box3_cells x1; clear x1); first | (go_simp; done) | (go_simp; with_reducible rfl))
      refine tkA (i := 8) (v := ?vF9) rfl (.inl ⟨by kernel_rfl, ?yF9⟩) (by assumption) ?rF9
      case yF9 => (intro w hSw; (try dsimp only at hSw); (obtain ⟨x1, c4⟩ := HC.out w hSw; obtain ⟨c1, c2, c3⟩ := box3_cells x1; clear x1); first | (go_simp; done) | (go_simp; with_reducible rfl))
      refine tkA (i := 9) (v := ?vF10) rfl (.inl ⟨by kernel_rfl, ?yF10⟩) (by assumption) ?rF10
      case yF10 => (intro w hSw; (try dsimp only at hSw); (obtain ⟨x1, c4⟩ := HC.out w hSw; obtain ⟨c1, c2, c3⟩ := box3_cells x1; clear x1); first | (go_simp; done) | (go_simp; with_reducible rfl))
      refine tkA (i := 10) (v := ?vF11) rfl (.inl ⟨by kernel_rfl, ?yF11⟩) (by assumption) ?rF11
      case yF11 => (intro w hSw; (try dsimp only at hSw); (obtain ⟨x1, c4⟩ := HC.out w hSw; obtain ⟨c1, c2, c3⟩ := box3_cells x1; clear x1); first | (go_simp; done) | (go_simp; with_reducible rfl))
      refine tkA (i := 11) (v := ?vF12) rfl (.inl ⟨by kernel_rfl, ?yF12⟩) (by assumption) ?rF12
      case yF12 => (intro w hSw; (try dsimp only at hSw); (obtain ⟨x1, c4⟩ := HC.out w hSw; obtain ⟨c1, c2, c3⟩ := box3_cells x1; clear x1); first | (go_simp; done) | (go_simp; with_reducible rfl))
      refine tkA (i := 12) (v := ?vF13) rfl (.inl ⟨by kernel_rfl, ?yF13⟩) (by assumption) ?rF13
      case yF13 => (intro w hSw; (try dsimp only at hSw); (obtain ⟨x1, c4⟩ := HC.out w hSw; obtain ⟨c1, c2, c3⟩ := box3_cells x1; clear x1); first | (go_simp; done) | (go_simp; with_reducible rfl))
      refine tkA (i := 13) (v := ?vF14) rfl (.inl ⟨by kernel_rfl, ?yF14⟩) (by assumption) ?rF14
      case yF14 => (intro w hSw; (try dsimp only at hSw); (obtain ⟨x1, c4⟩ := HC.out w hSw; obtain ⟨c1, c2, c3⟩ := box3_cells x1; clear x1); first | (go_simp; done) | (go_simp; with_reducible rfl))
      refine wpAnyH_ready (rs := [14]) (by kernel_rfl) (by simp) (.cons rfl (fun K hK => ?hcF15) .nil)
      go_simp
      refine hK.out _ _ ?sF15 (fun hF15 => ?tF15)
      case sF15 => ((try dsimp only); (first | (with_reducible exact hHeld) | (refine Turned.drew ?_; exact (Turned.refl _ _).setCell ⟨Q, 2, none⟩ _ (.inr rfl))))
      replace hHeld := hF15; clear hK hF15
      refine tkA (i := 15) (v := ?vF16) rfl (.inl ⟨by kernel_rfl, ?yF16⟩) (by assumption) ?rF16
      case yF16 => (intro w hSw; (try dsimp only at hSw); (obtain ⟨x1, c4⟩ := HC.out w hSw; obtain ⟨c1, c2, c3⟩ := box3_cells x1; clear x1); first | (go_simp; done) | (go_simp; with_reducible rfl))
      refine tkA (i := 16) (v := ?vF17) rfl (.inl ⟨by kernel_rfl, ?yF17⟩) (by assumption) ?rF17
      case yF17 => (intro w hSw; (try dsimp only at hSw); (obtain ⟨x1, c4⟩ := HC.out w hSw; obtain ⟨c1, c2, c3⟩ := box3_cells x1; clear x1); first | (go_simp; done) | (go_simp; with_reducible rfl))
      refine tkA (i := 17) (v := ?vF18) rfl (.inl ⟨by kernel_rfl, ?yF18⟩) (by assumption) ?rF18
      case yF18 => (intro w hSw; (try dsimp only at hSw); (obtain ⟨x1, c4⟩ := HC.out w hSw; obtain ⟨c1, c2, c3⟩ := box3_cells x1; clear x1); first | (go_simp; done) | (go_simp; with_reducible rfl))
      refine wpAnyH_ready (rs := [18]) (by kernel_rfl) (by simp) (.cons rfl (fun K hK => ?hcF19) .nil)
      go_simp
      refine hK.out _ _ ?sF19 (fun hF19 => ?tF19)
      case sF19 => ((try dsimp only); (first | (with_reducible exact hHeld) | (refine Turned.drew ?_; exact (Turned.refl _ _).setCell ⟨Q, 2, none⟩ _ (.inr rfl))))
      replace hHeld := hF19; clear hK hF19
      refine wpAnyH_done (by kernel_rfl) ?_ _
      clear hHeld
      refine NoPanic.normal ?_
      (try dsimp only [Exit.inBlock, Exit.then])
      refine hMK _ _ ⟨n + 1, by omega, by omega, rfl, rfl, by kernel_rfl, by kernel_rfl, by kernel_rfl, ⟨.slice (some ⟨gb, 0, none⟩) (n + 1) vc, _, ownsRow_turned hown ((Turned.refl (fun b => b = Q) W5).setCell ⟨Q, 2, none⟩ _ (.inr rfl)).drew (fun g hg e1 => hQg (by rw [← e1]; exact (Option.some.inj (show some gb = some g from hg)).symm)), (Below.heap_setCell W5 ⟨Q, 2, none⟩ _ B3 hQ3.symm).trans hq3, (Below.heap_setCell W5 ⟨Q, 2, none⟩ _ B2 hQ2.symm).trans hq2, by simp [World.setCell]; omega, by first | exact (hrw.set HM.out (by omega)).drew | exact hrw.set HM.out (by omega)⟩⟩
    · have hzb : (z == 0) = false := beq_false_of_ne hz
      go_wp2
      exact ⟨n, by omega, by omega, rfl, rfl, rfl, rfl, rfl, _, xs, hown, hq3, hq2, hsz, hrw⟩
  rintro ⟨tm4, ds4⟩ W4 ⟨n, hlo, hhi, h109, hds, e0, e2, e3, rv, xs, hown, hq3, hq2, hsz, hrw⟩
  simp only at h109 hds e0 e2 e3
  subst hds
  apply_assumption
  rw [frame109 tm4 [] h109, e0, e2, e3]
  clear h109 e0 e2 e3
  obtain ⟨ra, rc, rfl, _, _⟩ := (Rd.of_own hown).form
  obtain ⟨y0, y1, y2⟩ := box3_cells hq3
  obtain ⟨z0, z1, z2⟩ := box3_cells hq2
  have f0 := box_frozen hq2 0
  have f1 := box_frozen hq2 1
  have f2 := box_frozen hq2 2
  have HRW := hidep hrw
  go_wp2
  obtain ⟨ho, hor⟩ := out3 HM.out HBB.out.1 hq2 HRW.out (y0 := .int .i64 60) (y1 := .int .i64 50) (y2 := .slice ra n rc)
  obtain ⟨v0, v1, v2⟩ := box3_cells ho
  refine bodyPost_ret (results_cell1 rfl _ _ _ rfl (load_figure _ B2 _ _ _ v0 v1 v2)) rfl ?_
  exact ⟨by first | exact ⟨60, 50, ra, n, ⟨rc, rfl⟩, hlo⟩ | exact ⟨60, 50, ra, n, rc, rfl, hlo⟩, hor⟩
end Go.Proofs.Ytfljgcpfmhhgcaa
