/- Contract: the examples of package lift. -/
import Derived.Test.YthhjnafhpmgceaaRefK
namespace Go.Proofs.Ythhjnafhpmgceaa
open Go.RowKit Go.Lab
theorem ofStr_abc : ofStr ⟨#[97, 98, 99]⟩ = [⟨0, 97⟩, ⟨0, 98⟩, ⟨0, 99⟩] := by decide
theorem ofStr_abxc : ofStr ⟨#[97, 98, 120, 99]⟩ = [⟨0, 97⟩, ⟨0, 98⟩, ⟨0, 120⟩, ⟨0, 99⟩] := by decide
theorem least_1 : leastZ [⟨0, 97⟩, ⟨0, 98⟩, ⟨0, 99⟩] [⟨0, 97⟩, ⟨0, 98⟩, ⟨0, 120⟩, ⟨0, 99⟩] = ([⟨2, 0, [⟨0, 120⟩]⟩], 1, false) := by
  have h : choicesZ [⟨0, 97⟩, ⟨0, 98⟩, ⟨0, 99⟩] [⟨0, 97⟩, ⟨0, 98⟩, ⟨0, 120⟩, ⟨0, 99⟩] 2 = [[⟨2, 0, [⟨0, 120⟩]⟩]] := by
    unfold choicesZ
    rw [if_pos (by decide)]
    simp [enumP, lcsM, lcs_cons, lcs_nil_left, lcs_nil_right, List.range', editsZ, editsGo]
  unfold leastZ
  rw [h]
  rfl
theorem least_2 : leastZ [⟨0, 97⟩, ⟨0, 97⟩] [⟨0, 97⟩] = ([⟨1, 1, []⟩], 1, true) := by
  have h : choicesZ [⟨0, 97⟩, ⟨0, 97⟩] [⟨0, 97⟩] 2 = [[⟨1, 1, []⟩], [⟨0, 1, []⟩]] := by
    unfold choicesZ
    rw [if_pos (by decide)]
    simp [enumP, lcsM, lcs_cons, lcs_nil_right, List.range', editsZ, editsGo]
  unfold leastZ
  rw [h]
  rfl
theorem choices_3 : choicesZ [⟨0, 97⟩, ⟨0, 98⟩] [⟨0, 98⟩, ⟨0, 97⟩] 9 = [[⟨0, 0, [⟨0, 98⟩]⟩, ⟨1, 1, []⟩], [⟨0, 1, []⟩, ⟨2, 0, [⟨0, 97⟩]⟩]] := by
  unfold choicesZ
  rw [if_pos (by decide)]
  simp [enumP, lcsM, lcs_cons, lcs_nil_left, lcs_nil_right, List.range', editsZ, editsGo]
theorem apply_4 : applyZ [⟨0, 97⟩, ⟨0, 98⟩, ⟨0, 99⟩] [⟨0, 1, [⟨0, 120⟩]⟩] = ([⟨0, 120⟩, ⟨0, 98⟩, ⟨0, 99⟩], 0) := by
  decide
theorem ofStr_aa : ofStr ⟨#[97, 97]⟩ = [⟨0, 97⟩, ⟨0, 97⟩] := by decide
theorem ofStr_a : ofStr ⟨#[97]⟩ = [⟨0, 97⟩] := by decide
theorem ofStr_b : ofStr ⟨#[98]⟩ = [⟨0, 98⟩] := by decide
theorem ofStr_x : ofStr ⟨#[120]⟩ = [⟨0, 120⟩] := by decide
theorem ofStr_ab : ofStr ⟨#[97, 98]⟩ = [⟨0, 97⟩, ⟨0, 98⟩] := by decide
theorem ofStr_ba : ofStr ⟨#[98, 97]⟩ = [⟨0, 98⟩, ⟨0, 97⟩] := by decide
theorem ofStr_xbc : ofStr ⟨#[120, 98, 99]⟩ = [⟨0, 120⟩, ⟨0, 98⟩, ⟨0, 99⟩] := by decide
theorem lit_any (s : ByteArray) (l : List Sym) (hl : ofStr s = l) (hs : s.size ≤ 1000) (w : World) :
    Calls Try.prog 23 #[.string s] w fun e w' => ∃ a c, e = .returned (.slice a l.length c) ∧ SymsAt w' (.slice a l.length c) l ∧ Below w.heap.size w w' :=
  (syms23_any s w hs).mono (fun e w' ⟨u, he, ho, hb⟩ => by
    rw [hl] at ho
    obtain ⟨a, c, rfl, _, _⟩ := (Rd.of_own ho).form
    exact ⟨a, c, he, SymsAt.of_own ho, hb⟩)
theorem lit_abc (w : World) : Calls Try.prog 23 #[.string ⟨#[97, 98, 99]⟩] w fun e w' => ∃ a c, e = .returned (.slice a 3 c) ∧ SymsAt w' (.slice a 3 c) [⟨0, 97⟩, ⟨0, 98⟩, ⟨0, 99⟩] ∧ Below w.heap.size w w' := lit_any _ _ ofStr_abc (by decide) w
theorem lit_abxc (w : World) : Calls Try.prog 23 #[.string ⟨#[97, 98, 120, 99]⟩] w fun e w' => ∃ a c, e = .returned (.slice a 4 c) ∧ SymsAt w' (.slice a 4 c) [⟨0, 97⟩, ⟨0, 98⟩, ⟨0, 120⟩, ⟨0, 99⟩] ∧ Below w.heap.size w w' := lit_any _ _ ofStr_abxc (by decide) w
theorem lit_aa (w : World) : Calls Try.prog 23 #[.string ⟨#[97, 97]⟩] w fun e w' => ∃ a c, e = .returned (.slice a 2 c) ∧ SymsAt w' (.slice a 2 c) [⟨0, 97⟩, ⟨0, 97⟩] ∧ Below w.heap.size w w' := lit_any _ _ ofStr_aa (by decide) w
theorem lit_a (w : World) : Calls Try.prog 23 #[.string ⟨#[97]⟩] w fun e w' => ∃ a c, e = .returned (.slice a 1 c) ∧ SymsAt w' (.slice a 1 c) [⟨0, 97⟩] ∧ Below w.heap.size w w' := lit_any _ _ ofStr_a (by decide) w
theorem lit_b (w : World) : Calls Try.prog 23 #[.string ⟨#[98]⟩] w fun e w' => ∃ a c, e = .returned (.slice a 1 c) ∧ SymsAt w' (.slice a 1 c) [⟨0, 98⟩] ∧ Below w.heap.size w w' := lit_any _ _ ofStr_b (by decide) w
theorem lit_x (w : World) : Calls Try.prog 23 #[.string ⟨#[120]⟩] w fun e w' => ∃ a c, e = .returned (.slice a 1 c) ∧ SymsAt w' (.slice a 1 c) [⟨0, 120⟩] ∧ Below w.heap.size w w' := lit_any _ _ ofStr_x (by decide) w
theorem lit_ab (w : World) : Calls Try.prog 23 #[.string ⟨#[97, 98]⟩] w fun e w' => ∃ a c, e = .returned (.slice a 2 c) ∧ SymsAt w' (.slice a 2 c) [⟨0, 97⟩, ⟨0, 98⟩] ∧ Below w.heap.size w w' := lit_any _ _ ofStr_ab (by decide) w
theorem lit_ba (w : World) : Calls Try.prog 23 #[.string ⟨#[98, 97]⟩] w fun e w' => ∃ a c, e = .returned (.slice a 2 c) ∧ SymsAt w' (.slice a 2 c) [⟨0, 98⟩, ⟨0, 97⟩] ∧ Below w.heap.size w w' := lit_any _ _ ofStr_ba (by decide) w
theorem lit_xbc (w : World) : Calls Try.prog 23 #[.string ⟨#[120, 98, 99]⟩] w fun e w' => ∃ a c, e = .returned (.slice a 3 c) ∧ SymsAt w' (.slice a 3 c) [⟨0, 120⟩, ⟨0, 98⟩, ⟨0, 99⟩] ∧ Below w.heap.size w w' := lit_any _ _ ofStr_xbc (by decide) w
theorem HL1 (va vb : Value) (w : World) (ha : SymsAt w va [⟨0, 97⟩, ⟨0, 98⟩, ⟨0, 99⟩]) (hb : SymsAt w vb [⟨0, 97⟩, ⟨0, 98⟩, ⟨0, 120⟩, ⟨0, 99⟩]) :
    Calls Try.prog 16 #[va, vb] w fun e w' => ∃ v, e = .returned (.tuple #[v, .int .i64 1, .bool false]) ∧ EditsAt w' v [⟨2, 0, [⟨0, 120⟩]⟩] ∧ Below w.heap.size w w' := by
  have h := leastL_any _ _ va vb w ha hb
  rw [least_1] at h
  exact h
theorem HL2 (va vb : Value) (w : World) (ha : SymsAt w va [⟨0, 97⟩, ⟨0, 97⟩]) (hb : SymsAt w vb [⟨0, 97⟩]) :
    Calls Try.prog 16 #[va, vb] w fun e w' => ∃ v, e = .returned (.tuple #[v, .int .i64 1, .bool true]) ∧ EditsAt w' v [⟨1, 1, []⟩] ∧ Below w.heap.size w w' := by
  have h := leastL_any _ _ va vb w ha hb
  rw [least_2] at h
  exact h
theorem HC3 (va vb : Value) (w : World) (ha : SymsAt w va [⟨0, 97⟩, ⟨0, 98⟩]) (hb : SymsAt w vb [⟨0, 98⟩, ⟨0, 97⟩]) :
    Calls Try.prog 17 #[va, vb, .int .i64 9] w fun e w' => ∃ a c, e = .returned (.slice a 2 c) ∧ EditssAt w' (.slice a 2 c) [[⟨0, 0, [⟨0, 98⟩]⟩, ⟨1, 1, []⟩], [⟨0, 1, []⟩, ⟨2, 0, [⟨0, 97⟩]⟩]] ∧ Below w.heap.size w w' := by
  have h := choicesL_any _ _ va vb 9 w ha hb
  rw [choices_3] at h
  refine h.mono (fun e w' ⟨v, he, ho, hb⟩ => ?_)
  obtain ⟨a, c, rfl, _, _⟩ := ho.form
  exact ⟨a, c, he, ho.rd, hb⟩
theorem HA4 (va vb : Value) (w : World) (ha : SymsAt w va [⟨0, 97⟩, ⟨0, 98⟩, ⟨0, 99⟩]) (hb : EditsAt w vb [⟨0, 1, [⟨0, 120⟩]⟩]) :
    Calls Try.prog 13 #[va, vb] w fun e w' => ∃ v, e = .returned (.tuple #[v, .int .i64 0]) ∧ SymsAt w' v [⟨0, 120⟩, ⟨0, 98⟩, ⟨0, 99⟩] ∧ Below w.heap.size w w' := by
  have h := apply_any va vb _ _ w ha hb
  rw [apply_4] at h
  exact h.mono (fun e w' ⟨v, he, ho, hb⟩ => ⟨v, he, SymsAt.of_own ho, hb⟩)
theorem editsAt_1 (w : World) (p d : Int) (u : Value) (ins : List Sym) (hu : SymsAt w u ins) :
    EditsAt (w.alloc (.cells #[.int .i64 p, .int .i64 d, u] 53)) (.slice (some ⟨w.heap.size, 0, none⟩) 1 1) [⟨p, d, ins⟩] := by
  refine ⟨[u], rfl, Rd.fresh w #[.int .i64 p, .int .i64 d, u] 53 3 1 rfl (by decide), fun i h h' => ?_⟩
  have : i = 0 := by simp at h; omega
  subst this
  exact hu.below ((Below.refl _ _).alloc (Nat.le_refl _) _)
theorem editsAt_2 (w : World) (p d q e : Int) (u v : Value) (ins jns : List Sym) (hu : SymsAt w u ins) (hv : SymsAt w v jns) :
    EditsAt (w.alloc (.cells #[.int .i64 p, .int .i64 d, u, .int .i64 q, .int .i64 e, v] 53)) (.slice (some ⟨w.heap.size, 0, none⟩) 2 2) [⟨p, d, ins⟩, ⟨q, e, jns⟩] := by
  refine ⟨[u, v], rfl, Rd.fresh w #[.int .i64 p, .int .i64 d, u, .int .i64 q, .int .i64 e, v] 53 3 2 rfl (by decide), fun i h h' => ?_⟩
  have h2 : i = 0 ∨ i = 1 := by simp at h; omega
  rcases h2 with rfl | rfl
  · exact hu.below ((Below.refl _ _).alloc (Nat.le_refl _) _)
  · exact hv.below ((Below.refl _ _).alloc (Nat.le_refl _) _)
set_option maxHeartbeats 4000000 in
set_option maxRecDepth 100000 in
theorem lives_any (w : World) : Calls Try.prog 11 #[] w fun e w' => e = .returned (.bool true) ∧ Below w.heap.size w w' := by
  go_enter Try.func11, Try.ntmps11
  go_upto_region 1 with (fail)
  go_cut [1, 2, 3] (fun s1 s2 s3 wc => EditsAt wc s1 [⟨2, 0, [⟨0, 120⟩]⟩] ∧ s2 = .int .i64 1 ∧ s3 = .bool false ∧ Below w.heap.size w wc)
  case first =>
    go_wp2_with (first
      | (go_at_call 23; (with_reducible refine (lit_abc _).mono ?_); rintro e w1 ⟨a1, c1, rfl, h1, b1⟩)
      | (go_at_call 23; (with_reducible refine (lit_abxc _).mono ?_); rintro e w2 ⟨a2, c2, rfl, h2, b2⟩; have h3 := h1.below b2; have b3 := b1.trans (b2.mono b1.size))
      | (go_at_call 16; refine (HL1 _ _ w2 h3 h2).mono ?_; rintro e w4 ⟨v4, rfl, h4, b4⟩; have b5 := b3.trans (b4.mono b3.size))
      | fail)
    go_meet
    exact ⟨h4, rfl, rfl, b5⟩
  case rest =>
    obtain ⟨hx1, rfl, rfl, hw1⟩ := hcut
    obtain ⟨wa, rfl⟩ : ∃ wa : World, wa = wc := ⟨_, rfl⟩
    obtain ⟨ax1, cx1, rfl, _, _⟩ := hx1.form
    go_upto_region 2 with (fail)
    go_cut [4, 5, 6] (fun s4 s5 s6 wd => EditsAt wd s4 [⟨1, 1, []⟩] ∧ s5 = .int .i64 1 ∧ s6 = .bool true ∧ Below wa.heap.size wa wd)
    case first =>
      go_wp2_with (first
        | (go_at_call 23; (with_reducible refine (lit_aa _).mono ?_); rintro e w1 ⟨a1, c1, rfl, h1, b1⟩)
        | (go_at_call 23; (with_reducible refine (lit_a _).mono ?_); rintro e w2 ⟨a2, c2, rfl, h2, b2⟩; have h3 := h1.below b2; have b3 := b1.trans (b2.mono b1.size))
        | (go_at_call 16; refine (HL2 _ _ w2 h3 h2).mono ?_; rintro e w4 ⟨v4, rfl, h4, b4⟩; have b5 := b3.trans (b4.mono b3.size))
        | fail)
      go_meet
      exact ⟨h4, rfl, rfl, b5⟩
    case rest =>
      obtain ⟨hx4, rfl, rfl, hw2⟩ := hcut
      obtain ⟨wb, rfl⟩ : ∃ wb : World, wb = wc := ⟨_, rfl⟩
      obtain ⟨ax4, cx4, rfl, _, _⟩ := hx4.form
      have hx1 := hx1.below hw2
      have hw2 := hw1.trans (hw2.mono hw1.size)
      clear hw1
      go_upto_region 3 with (fail)
      go_cut [7] (fun s7 wd => ∃ a7 c7, s7 = .slice a7 2 c7 ∧ EditssAt wd (.slice a7 2 c7) [[⟨0, 0, [⟨0, 98⟩]⟩, ⟨1, 1, []⟩], [⟨0, 1, []⟩, ⟨2, 0, [⟨0, 97⟩]⟩]] ∧ Below wb.heap.size wb wd)
      case first =>
        go_wp2_with (first
          | (go_at_call 23; (with_reducible refine (lit_ab _).mono ?_); rintro e w1 ⟨a1, c1, rfl, h1, b1⟩)
          | (go_at_call 23; (with_reducible refine (lit_ba _).mono ?_); rintro e w2 ⟨a2, c2, rfl, h2, b2⟩; have h3 := h1.below b2; have b3 := b1.trans (b2.mono b1.size))
          | (go_at_call 17; refine (HC3 _ _ w2 h3 h2).mono ?_; rintro e w4 ⟨a4, c4, rfl, h4, b4⟩; have b5 := b3.trans (b4.mono b3.size))
          | fail)
        go_meet
        exact ⟨_, _, rfl, h4, b5⟩
      case rest =>
        obtain ⟨a7, c7, rfl, hx7, hw3⟩ := hcut
        obtain ⟨wx, rfl⟩ : ∃ wx : World, wx = wc := ⟨_, rfl⟩
        have hx1 := hx1.below hw3
        have hx4 := hx4.below hw3
        have hw3 := hw2.trans (hw3.mono hw2.size)
        clear hw2
        go_upto_region 4 with (fail)
        go_cut [8, 9] (fun s8 s9 wd => SymsAt wd s8 [⟨0, 120⟩, ⟨0, 98⟩, ⟨0, 99⟩] ∧ s9 = .int .i64 0 ∧ Below wx.heap.size wx wd)
        case first =>
          go_wp2_with (first
            | (go_at_call 23; (with_reducible refine (lit_abc _).mono ?_); rintro e w1 ⟨a1, c1, rfl, h1, b1⟩)
            | (go_at_call 23; (with_reducible refine (lit_x _).mono ?_); rintro e w2 ⟨a2, c2, rfl, h2, b2⟩; have h3 := h1.below b2; have b3 := b1.trans (b2.mono b1.size); have hl := (Below.refl w2.heap.size w2).alloc (Nat.le_refl _) (.cells #[.int .i64 0, .int .i64 1, .slice a2 1 c2] 53); have h4 := editsAt_1 w2 0 1 _ _ h2; have h5 := h3.below hl; have b4 := b3.trans (hl.mono b3.size))
            | (go_at_call 13; refine (HA4 _ _ _ h5 h4).mono ?_; rintro e w4 ⟨v4, rfl, h6, b6⟩; have b7 := b4.trans (b6.mono b4.size))
            | fail)
          go_meet
          exact ⟨h6, rfl, b7⟩
        case rest =>
          obtain ⟨hx8, rfl, hw4⟩ := hcut
          obtain ⟨wy, rfl⟩ : ∃ wy : World, wy = wc := ⟨_, rfl⟩
          obtain ⟨ax8, cx8, rfl, _, _⟩ := hx8.form
          have hx1 := hx1.below hw4
          have hx4 := hx4.below hw4
          have hx7 := hx7.below hw4
          have hw4 := hw3.trans (hw4.mono hw3.size)
          clear hw3
          go_upto_region 7 with (fail)
          go_cut [10] (fun s10 wd => s10 = .bool true ∧ Below wy.heap.size wy wd)
          case first =>
            obtain ⟨b4, o4, u4, rfl, hb4, hc0, hc1, hc2, hu4⟩ := hx4.at (k := 0) (by simp)
            simp only [Nat.zero_mul, Nat.add_zero, List.getElem_cons_zero] at hc0
            go_wp2_with (first
              | (go_at_call 23; refine (lit_x _).mono ?_; rintro e w2 ⟨a2, c2, rfl, h2, b2⟩; have h3 := hx1.below b2; have hl := (Below.refl w2.heap.size w2).alloc (Nat.le_refl _) (.cells #[.int .i64 2, .int .i64 0, .slice a2 1 c2] 53); have h4 := editsAt_1 w2 2 0 _ _ h2; have h5 := h3.below hl; have bw := b2.trans (hl.mono b2.size); have hc0 := (bw.cell (p := ⟨b4, o4, none⟩) hb4).trans hc0)
              | (go_at_call 19; refine (sameEdits_any _ _ _ _ _ h5 h4).mono ?_; rintro e w4 ⟨rfl, n4, rfl⟩; rw [decide_eq_true rfl])
              | fail)
            go_meet
            exact ⟨rfl, below_drewN bw _⟩
          case rest =>
            obtain ⟨rfl, hw5⟩ := hcut
            obtain ⟨wz, rfl⟩ : ∃ wz : World, wz = wc := ⟨_, rfl⟩
            have hx7 := hx7.below hw5
            have hx8 := hx8.below hw5
            have hw5 := hw4.trans (hw5.mono hw4.size)
            clear hw4 hx1 hx4
            go_upto_region 8 with (fail)
            go_cut [11] (fun s11 wd => s11 = .bool true ∧ Below wz.heap.size wz wd)
            case first =>
              obtain ⟨b7, o7, u7, rfl, hb7, hc7, hu7⟩ := hx7.at (k := 0) (by simp)
              obtain ⟨b7', o7', v7, e7, hb7', hd7, hv7⟩ := hx7.at (k := 1) (by simp)
              injection e7 with e7
              injection e7 with e7 e8
              subst e7 e8
              simp only [Nat.add_zero, List.getElem_cons_zero, List.getElem_cons_succ] at hc7 hu7 hv7
              obtain ⟨ap, cp, rfl, _, _⟩ := hu7.form
              obtain ⟨aq, cq, rfl, _, _⟩ := hv7.form
              have HSE : ∀ (u v : Value) (L : List Edit) (W : World), EditsAt W u L → EditsAt W v L → Calls Try.prog 19 #[u, v] W fun e w' => e = .returned (.bool true) ∧ ∃ n, w' = W.drewN n := fun u v L W hu hv => by
                have := sameEdits_any u v L L W hu hv
                rwa [decide_eq_true rfl] at this
              have HU7 : Hid (∀ W, Below wz.heap.size wz W → EditsAt W (.slice ap 2 cp) [⟨0, 0, [⟨0, 98⟩]⟩, ⟨1, 1, []⟩]) := hidep (fun W hW => hu7.below hW)
              have HV7 : Hid (∀ W, Below wz.heap.size wz W → EditsAt W (.slice aq 2 cq) [⟨0, 1, []⟩, ⟨2, 0, [⟨0, 97⟩]⟩]) := hidep (fun W hW => hv7.below hW)
              have HNS : Hid (∀ W, SymsAt W (.slice none 0 0) []) := hidep (fun W => Rd.nil _ _ _)
              have HSE := hidep HSE
              clear hu7 hv7
              go_region_held3 (fun w' => w'.cell? ⟨b7, o7, none⟩ = some (.slice ap 2 cp) ∧ w'.cell? ⟨b7, o7 + 1, none⟩ = some (.slice aq 2 cq))
                (first | go_keep | exact ⟨hk0, hk1⟩)
                (first
                  | (go_at_call 23; (with_reducible refine (lit_b _).mono ?_); rintro e w1 ⟨a1, c1, rfl, h1, b1⟩; have hbA : Below wz.heap.size wz w1 := ⟨b1.os, b1.tape, b1.output, b1.size, b1.block⟩; have hk0 := (hbA.cell (p := ⟨b7, o7, none⟩) hb7).trans hc7; have hk1 := (hbA.cell (p := ⟨b7, o7 + 1, none⟩) hb7).trans hd7; dsimp only)
                  | (go_at_call 23; (with_reducible refine (lit_a _).mono ?_); rintro e w3 ⟨a3, c3, rfl, h3, b3⟩; have hbA : Below wz.heap.size wz w3 := hbX.trans (b3.mono hbX.size); have hk0 := (hbA.cell (p := ⟨b7, o7, none⟩) hb7).trans hc7; have hk1 := (hbA.cell (p := ⟨b7, o7 + 1, none⟩) hb7).trans hd7; dsimp only)
                  | (go_at_call 19; have hq7 := HU7.out _ (hbA.alloc hbA.size (.cells #[.int .i64 0, .int .i64 0, .slice a1 1 c1, .int .i64 1, .int .i64 1, .slice none 0 0] 53)); have hq8 := editsAt_2 w1 0 0 1 1 _ _ _ _ h1 (HNS.out w1); (with_reducible refine (HSE.out _ _ _ _ hq7 hq8).mono ?_); rintro e w2 ⟨rfl, n2, rfl⟩; have hbX := below_drewN (hbA.alloc hbA.size (.cells #[.int .i64 0, .int .i64 0, .slice a1 1 c1, .int .i64 1, .int .i64 1, .slice none 0 0] 53)) n2; dsimp only)
                  | (go_at_call 19; have hq7 := HV7.out _ (hbA.alloc hbA.size (.cells #[.int .i64 0, .int .i64 1, .slice none 0 0, .int .i64 2, .int .i64 0, .slice a3 1 c3] 53)); have hq8 := editsAt_2 w3 0 1 2 0 _ _ _ _ (HNS.out w3) h3; (with_reducible refine (HSE.out _ _ _ _ hq7 hq8).mono ?_); rintro e w2 ⟨rfl, n2, rfl⟩; have hbY := below_drewN (hbA.alloc hbA.size (.cells #[.int .i64 0, .int .i64 1, .slice none 0 0, .int .i64 2, .int .i64 0, .slice a3 1 c3] 53)) n2; dsimp only)
                  | fail)
              all_goals
                go_wp2
                go_meet
                exact ⟨rfl, hbY⟩
            case rest =>
              obtain ⟨rfl, hw6⟩ := hcut
              have hx8 := hx8.below hw6
              have hw6 := hw5.trans (hw6.mono hw5.size)
              clear hw5
              go_wp2_with (first
                | (go_at_call 23; refine (lit_xbc _).mono ?_; rintro e w1 ⟨a1, c1, rfl, h1, b1⟩; have h2 := hx8.below b1; have b2 := hw6.trans (b1.mono hw6.size))
                | (go_at_call 15; refine (sameSyms_any _ _ _ _ _ h2 h1).mono ?_; rintro e w4 ⟨rfl, n4, rfl⟩; rw [decide_eq_true rfl])
                | fail)
              go_ret
              exact ⟨rfl, below_drewN b2 _⟩
end Go.Proofs.Ythhjnafhpmgceaa
