/- Contract: the reference's Places: places out of numbers. -/
import Derived.Test.YtfljgcpfmhhgcaaRdLv
namespace Go.Proofs.Ytfljgcpfmhhgcaa
open Go.RowKit Go.Lab
theorem range_map81 (f : Nat → Value) : (List.range 81).map f = [f 0, f 1, f 2, f 3, f 4, f 5, f 6, f 7, f 8, f 9, f 10, f 11, f 12, f 13, f 14, f 15, f 16, f 17, f 18, f 19, f 20, f 21, f 22, f 23, f 24, f 25, f 26, f 27, f 28, f 29, f 30, f 31, f 32, f 33, f 34, f 35, f 36, f 37, f 38, f 39, f 40, f 41, f 42, f 43, f 44, f 45, f 46, f 47, f 48, f 49, f 50, f 51, f 52, f 53, f 54, f 55, f 56, f 57, f 58, f 59, f 60, f 61, f 62, f 63, f 64, f 65, f 66, f 67, f 68, f 69, f 70, f 71, f 72, f 73, f 74, f 75, f 76, f 77, f 78, f 79, f 80] := rfl
theorem frame81 (t : Array Value) (ds : List Deferred) (h : t.size = 81) : ({ tmps := t, defers := ds } : Act) = { tmps := #[slot t 0, slot t 1, slot t 2, slot t 3, slot t 4, slot t 5, slot t 6, slot t 7, slot t 8, slot t 9, slot t 10, slot t 11, slot t 12, slot t 13, slot t 14, slot t 15, slot t 16, slot t 17, slot t 18, slot t 19, slot t 20, slot t 21, slot t 22, slot t 23, slot t 24, slot t 25, slot t 26, slot t 27, slot t 28, slot t 29, slot t 30, slot t 31, slot t 32, slot t 33, slot t 34, slot t 35, slot t 36, slot t 37, slot t 38, slot t 39, slot t 40, slot t 41, slot t 42, slot t 43, slot t 44, slot t 45, slot t 46, slot t 47, slot t 48, slot t 49, slot t 50, slot t 51, slot t 52, slot t 53, slot t 54, slot t 55, slot t 56, slot t 57, slot t 58, slot t 59, slot t 60, slot t 61, slot t 62, slot t 63, slot t 64, slot t 65, slot t 66, slot t 67, slot t 68, slot t 69, slot t 70, slot t 71, slot t 72, slot t 73, slot t 74, slot t 75, slot t 76, slot t 77, slot t 78, slot t 79, slot t 80], defers := ds } := by
  have e : t = ((List.range 81).map (slot t)).toArray := by
    apply Array.ext
    · simp [h]
    · intro i h1 h2
      simp [slot, Array.getD, h1]
  rw [range_map81] at e
  exact congrArg (fun x => ({ tmps := x, defers := ds } : Act)) e
theorem slPlacesR : SlT Try.prog 23 26 (.agg #[.int .i64 0, .int .i64 0, .int .i64 0, .int .i64 0, .int .i64 0, .int .i64 0]) 6 48 := ⟨by kernel_rfl, by kernel_rfl, rfl, by decide⟩
/-- A place as Places makes it. -/
def PlIn (p : Pl) : Prop := 0 ≤ p.page ∧ p.page ≤ 9 ∧ 0 ≤ p.line ∧ p.line ≤ 100 ∧ 0 ≤ p.len ∧ p.len ≤ 1200 ∧ 0 ≤ p.item ∧ p.item ≤ 2 ∧ 0 ≤ p.fact ∧ p.fact ≤ 8 ∧ 0 ≤ p.start ∧ p.start ≤ 800
theorem PlIn.ok {p : Pl} (h : PlIn p) : PlOk p := by
  unfold PlIn at h
  unfold PlOk
  omega
/-- In the order of reading. -/
def Ahead (a b : Pl) : Prop := a.page < b.page ∨ (a.page = b.page ∧ a.line ≤ b.line)
def Made (sorted : Bool) (L : List Pl) : Prop := L.length ≤ 9 ∧ (∀ p ∈ L, PlIn p) ∧ (sorted = true → L.Pairwise Ahead)
/-- What the loop knows of its list: page and line are those of the last place. -/
def Grow (sorted : Bool) (i : Nat) (L : List Pl) (pg ln : Int) : Prop := L.length = i ∧ (∀ p ∈ L, PlIn p) ∧ 0 ≤ pg ∧ pg ≤ i ∧ 0 ≤ ln ∧ ln ≤ 10 * i ∧ (sorted = true → L.Pairwise Ahead ∧ ∀ p ∈ L, p.page < pg ∨ (p.page = pg ∧ p.line ≤ ln))
theorem Grow.step {sorted : Bool} {i : Nat} {L : List Pl} {pg ln pg' ln' : Int} {p : Pl} (h : Grow sorted i L pg ln) (hp : PlIn p) (h1 : 0 ≤ pg') (h2 : pg' ≤ (i : Int) + 1) (h3 : 0 ≤ ln') (h4 : ln' ≤ 10 * ((i : Int) + 1))
    (hs : sorted = true → p.page = pg' ∧ p.line = ln' ∧ (pg < pg' ∨ (pg = pg' ∧ ln ≤ ln'))) : Grow sorted (i + 1) (L ++ [p]) pg' ln' := by
  obtain ⟨g1, g2, g3, g4, g5, g6, g7⟩ := h
  refine ⟨by simp [g1], fun q hq => ?_, h1, by omega, h3, by omega, fun e => ?_⟩
  · rcases List.mem_append.1 hq with h | h
    · exact g2 q h
    · simp only [List.mem_singleton] at h
      rw [h]
      exact hp
  · obtain ⟨k1, k2⟩ := g7 e
    obtain ⟨s1, s2, s3⟩ := hs e
    refine ⟨List.pairwise_append.2 ⟨k1, List.pairwise_singleton _ _, fun a ha b hb => ?_⟩, fun q hq => ?_⟩
    · simp only [List.mem_singleton] at hb
      subst hb
      have := k2 a ha
      unfold Ahead
      omega
    · rcases List.mem_append.1 hq with h | h
      · have := k2 q h
        omega
      · simp only [List.mem_singleton] at h
        subst h
        omega
set_option maxRecDepth 100000 in
set_option maxHeartbeats 20000000 in
theorem places30_any (v : Value) (l : List Int) (sorted : Bool) (w : World) (hl : IntsAt w v l) :
    Calls Try.prog 11 #[v, .bool sorted] w fun e w' => ∃ (u : Value) (L : List Pl), e = .returned u ∧ w'.ownsRow w.heap.size 26 6 u L.length (placesC L) ∧ Made sorted L ∧ Below w.heap.size w w' := by
  obtain ⟨a, c, rfl, hca, hma⟩ := hl.1.form
  unfold maxLen at hma
  have HL := hidep (show ∀ W, Below w.heap.size w W → IntsAt W (.slice a l.length c) l from fun W h => hl.below h)
  have hn := atZ_rng l 0 10 (by omega)
  have HN := hidep (at_any (.slice a l.length c) l 0 10 w hl)
  clear hl
  obtain ⟨n, hnn⟩ : ∃ n : Nat, atZ l 0 10 = (n : Int) := ⟨(atZ l 0 10).toNat, by omega⟩
  rw [hnn] at HN hn
  clear hnn
  have hn9 : n ≤ 9 := by omega
  go_enter Try.func11, Try.ntmps11
  go_upto_region 6 with (first
    | (go_at_call 27; refine HN.out.mono ?_; rintro e w1 ⟨rfl, rfl⟩)
    | fail)
  refine wp_loop (LoopI 81 (fun tm ds wr => (slot tm 0) = .slice a l.length c ∧ (slot tm 1) = .bool sorted ∧ (slot tm 6) = .int .i64 (n : Nat) ∧ ds = [] ∧ ∃ (i : Nat) (L : List Pl) (pg ln : Int) (v : Value), i ≤ n ∧ (slot tm 9) = .int .i64 (i : Nat) ∧ (slot tm 7) = .int .i64 pg ∧ (slot tm 8) = .int .i64 ln ∧ (slot tm 5) = v ∧ Grow sorted i L pg ln ∧ wr.ownsRow w.heap.size 26 6 v i (placesC L) ∧ Below w.heap.size w wr)) (fun a' wr => n - (intOf (a'.tmps.getD 9 undef)).toNat) ?mainStart ?mainRound
  case' mainStart => refine LoopI.mk rfl ?_
  case' mainRound => (rintro ⟨t, ds⟩ wr ⟨hts, hrel⟩; dsimp only at hts hrel; rw [frame81 t ds hts])
  case mainStart => exact ⟨rfl, rfl, rfl, rfl, 0, [], 0, 0, _, Nat.zero_le _, rfl, rfl, rfl, rfl, ⟨rfl, fun _ h => (by cases h), by omega, by omega, by omega, by omega, fun _ => ⟨List.Pairwise.nil, fun _ h => (by cases h)⟩⟩, World.ownsRow_nil _ _ _ _, Below.refl _ _⟩
  obtain ⟨h0, h1, h6, hds, i, L, pg, ln, v, hin, h9, h7, h8, h5, hG, hown, hbw⟩ := hrel
  subst hds
  rw [h0, h1, h6, h9, h7, h8, h5]
  clear h0 h1 h6 h9 h7 h8 h5 hts
  obtain ⟨va, vc, rfl, hvc, hvm⟩ := (Rd.of_own hown).form
  unfold maxLen at hvm
  have HG := hidep hG
  obtain ⟨_, _, hg3, hg4, hg5, hg6, _⟩ := hG
  have hbs := hbw.size
  by_cases hlt : i < n
  · have hw5 : IntKind.i64.wrap (5 * (i : Int)) = 5 * (i : Int) := IntWalk.i64_in _ (by omega)
    have hw100 : IntKind.i64.wrap (100 * (i : Int)) = 100 * (i : Int) := IntWalk.i64_in _ (by omega)
    have hwa1 : IntKind.i64.wrap (1 + 5 * (i : Int)) = 1 + 5 * (i : Int) := IntWalk.i64_in _ (by omega)
    have hwa2 : IntKind.i64.wrap (2 + 5 * (i : Int)) = 2 + 5 * (i : Int) := IntWalk.i64_in _ (by omega)
    have hwa3 : IntKind.i64.wrap (3 + 5 * (i : Int)) = 3 + 5 * (i : Int) := IntWalk.i64_in _ (by omega)
    have hwa4 : IntKind.i64.wrap (4 + 5 * (i : Int)) = 4 + 5 * (i : Int) := IntWalk.i64_in _ (by omega)
    have hIL : ∀ W, Turned (fun _ => False) wr W → IntsAt W (.slice a l.length c) l := fun W hW => HL.out W (hbw.trans (hW.toBelow.mono hbs))
    have hr1 := atZ_rng l (1 + 5 * (i : Int)) 3 (by omega)
    have HA1 := hidep (fun W (hW : Turned (fun _ => False) wr W) => at_any (.slice a l.length c) l (1 + 5 * (i : Int)) 3 W (hIL W hW))
    generalize atZ l (1 + 5 * (i : Int)) 3 = x1 at *
    have hr2 := atZ_rng l (2 + 5 * (i : Int)) 60 (by omega)
    have HA2 := hidep (fun W (hW : Turned (fun _ => False) wr W) => at_any (.slice a l.length c) l (2 + 5 * (i : Int)) 60 W (hIL W hW))
    generalize atZ l (2 + 5 * (i : Int)) 60 = x2 at *
    have hr3 := atZ_rng l (3 + 5 * (i : Int)) 4 (by omega)
    have HA3 := hidep (fun W (hW : Turned (fun _ => False) wr W) => at_any (.slice a l.length c) l (3 + 5 * (i : Int)) 4 W (hIL W hW))
    generalize atZ l (3 + 5 * (i : Int)) 4 = x3 at *
    have hr4 := atZ_rng l (4 + 5 * (i : Int)) 24 (by omega)
    have HA4 := hidep (fun W (hW : Turned (fun _ => False) wr W) => at_any (.slice a l.length c) l (4 + 5 * (i : Int)) 24 W (hIL W hW))
    generalize atZ l (4 + 5 * (i : Int)) 24 = x4 at *
    have hr5 := atZ_rng l (2 + 5 * (i : Int)) 7 (by omega)
    have HA5 := hidep (fun W (hW : Turned (fun _ => False) wr W) => at_any (.slice a l.length c) l (2 + 5 * (i : Int)) 7 W (hIL W hW))
    generalize atZ l (2 + 5 * (i : Int)) 7 = x5 at *
    have hr6 := atZ_rng l (3 + 5 * (i : Int)) 3 (by omega)
    have HA6 := hidep (fun W (hW : Turned (fun _ => False) wr W) => at_any (.slice a l.length c) l (3 + 5 * (i : Int)) 3 W (hIL W hW))
    generalize atZ l (3 + 5 * (i : Int)) 3 = x6 at *
    have hr7 := atZ_rng l (4 + 5 * (i : Int)) 9 (by omega)
    have HA7 := hidep (fun W (hW : Turned (fun _ => False) wr W) => at_any (.slice a l.length c) l (4 + 5 * (i : Int)) 9 W (hIL W hW))
    generalize atZ l (4 + 5 * (i : Int)) 9 = x7 at *
    clear hIL
    have hi0 : (0 : Int) ≤ (i : Int) := by omega
    have hi1 : (i : Int) < (n : Int) := by omega
    have hw20 : IntKind.i64.wrap (20 * x2) = 20 * x2 := IntWalk.i64_in _ (by omega)
    have hwpg : IntKind.i64.wrap (pg + 1) = pg + 1 := IntWalk.i64_in _ (by omega)
    have hwln : IntKind.i64.wrap (ln + x7) = ln + x7 := IntWalk.i64_in _ (by omega)
    have hwl0 : IntKind.i64.wrap (0 + x7) = x7 := by rw [Int.zero_add]; exact IntWalk.i64_in _ (by omega)
    have HOWN := hidep (show ∀ W, Turned (fun _ => False) wr W → W.ownsRow w.heap.size 26 6 (.slice va i vc) i (placesC L) from fun W hW => ownsRow_turned hown hW (fun _ _ h => h))
    have HBW := hidep hbw
    clear hown hbw
    by_cases hx5 : x5 = 0
    · subst hx5
      cases sorted with
      | false =>
        have HSTEP := hidep (show Grow false (i + 1) (L ++ [⟨x1, (i : Nat), 100 * (i : Int), 20 * x2, x3, x4⟩]) (pg) (ln) from HG.out.step (by unfold PlIn; simp only; omega) (by omega) (by omega) (by omega) (by omega) (fun e => by first | (cases e; done) | exact ⟨rfl, rfl, by omega⟩))
        go_upto_region 19 with (first
          | (go_at_call 27; (with_reducible refine (HA1.out _ (by first | (with_reducible exact Turned.refl _ _) | (with_reducible exact (Turned.refl _ _).alloc _))).mono ?_); rintro e w1 ⟨rfl, rfl⟩)
          | (go_at_call 27; (with_reducible refine (HA2.out _ (by first | (with_reducible exact Turned.refl _ _) | (with_reducible exact (Turned.refl _ _).alloc _))).mono ?_); rintro e w1 ⟨rfl, rfl⟩)
          | (go_at_call 27; (with_reducible refine (HA3.out _ (by first | (with_reducible exact Turned.refl _ _) | (with_reducible exact (Turned.refl _ _).alloc _))).mono ?_); rintro e w1 ⟨rfl, rfl⟩)
          | (go_at_call 27; (with_reducible refine (HA4.out _ (by first | (with_reducible exact Turned.refl _ _) | (with_reducible exact (Turned.refl _ _).alloc _))).mono ?_); rintro e w1 ⟨rfl, rfl⟩)
          | (go_at_call 27; (with_reducible refine (HA5.out _ (by first | (with_reducible exact Turned.refl _ _) | (with_reducible exact (Turned.refl _ _).alloc _))).mono ?_); rintro e w1 ⟨rfl, rfl⟩)
          | (go_at_call 27; (with_reducible refine (HA6.out _ (by first | (with_reducible exact Turned.refl _ _) | (with_reducible exact (Turned.refl _ _).alloc _))).mono ?_); rintro e w1 ⟨rfl, rfl⟩)
          | (go_at_call 27; (with_reducible refine (HA7.out _ (by first | (with_reducible exact Turned.refl _ _) | (with_reducible exact (Turned.refl _ _).alloc _))).mono ?_); rintro e w1 ⟨rfl, rfl⟩)
          | fail)
        refine wp_abs (fun X => Turned (fun _ => False) wr X ∧ X.heap[wr.heap.size]? = some (.cells #[.int .i64 x1, .int .i64 (i : Nat), .int .i64 (100 * (i : Int)), .int .i64 (20 * x2), .int .i64 (x3), .int .i64 (x4)] 26)) ⟨(by first | (with_reducible exact Turned.refl _ _) | (with_reducible exact (Turned.refl _ _).alloc _)), by exact heap_alloc_new _ _⟩ ?_
        rintro X ⟨hTX, hqX⟩
        obtain ⟨y0, y1, y2, y3, y4, y5⟩ := box6_cells hqX
        have HX := hidep (HOWN.out X hTX)
        have hsx := hTX.size
        have HBX := hidep (HBW.out.trans (hTX.toBelow.mono HBW.out.size))
        clear hqX hTX hw5 hw100 hwa1 hwa2 hwa3 hwa4 hw20 hwpg hwln hwl0 HA1 HA2 HA3 HA4 HA5 HA6 HA7
        go_wp2_with (first
          | (at_builtin; refine wpList_append_rd _ rfl (.tmp 76) (.tmp 78) rfl slPlacesR w.heap.size _ _ _ rfl (HX.out.alloc _) _ _ _ _ rfl (Rd.fresh X #[.int .i64 x1, .int .i64 (i : Nat), .int .i64 (100 * (i : Int)), .int .i64 (20 * x2), .int .i64 (x3), .int .i64 (x4)] 26 6 1 rfl (by decide)) (by intro u hu; simp at hu; rcases hu with rfl | rfl | rfl | rfl | rfl | rfl <;> rfl) (by unfold maxLen; omega) (by omega) (by simp; omega) ?_; intro v10 w10 hown10 hgr10 hat10 hnl10; clear hat10 hnl10)
          | fail)
        have hb10 : Below w.heap.size w w10 := (HBX.out.alloc HBX.out.size _).grown hgr10 (by have := HBX.out.size; simp; omega) (fun g hg => (HX.out.lt g hg).1)
        refine ⟨LoopI.mk rfl ⟨rfl, rfl, rfl, rfl, i + 1, by omega, by show Value.int _ _ = _; go_num, L ++ [⟨x1, (i : Nat), 100 * (i : Int), 20 * x2, x3, x4⟩], pg, rfl, ln, rfl, HSTEP.out, by rw [placesC_append]; exact hown10, hb10⟩, ?_⟩
        show n - _ < n - _
        simp [intOf]; omega
      | true =>
        by_cases hx6 : x6 = 0
        · subst hx6
          have HSTEP := hidep (show Grow true (i + 1) (L ++ [⟨x1, (i : Nat), 100 * (i : Int), 20 * x2, pg + 1, x7⟩]) (pg + 1) (x7) from HG.out.step (by unfold PlIn; simp only; omega) (by omega) (by omega) (by omega) (by omega) (fun e => by first | (cases e; done) | exact ⟨rfl, rfl, by omega⟩))
          go_upto_region 19 with (first
            | (go_at_call 27; (with_reducible refine (HA1.out _ (by first | (with_reducible exact Turned.refl _ _) | (with_reducible exact (Turned.refl _ _).alloc _))).mono ?_); rintro e w1 ⟨rfl, rfl⟩)
            | (go_at_call 27; (with_reducible refine (HA2.out _ (by first | (with_reducible exact Turned.refl _ _) | (with_reducible exact (Turned.refl _ _).alloc _))).mono ?_); rintro e w1 ⟨rfl, rfl⟩)
            | (go_at_call 27; (with_reducible refine (HA3.out _ (by first | (with_reducible exact Turned.refl _ _) | (with_reducible exact (Turned.refl _ _).alloc _))).mono ?_); rintro e w1 ⟨rfl, rfl⟩)
            | (go_at_call 27; (with_reducible refine (HA4.out _ (by first | (with_reducible exact Turned.refl _ _) | (with_reducible exact (Turned.refl _ _).alloc _))).mono ?_); rintro e w1 ⟨rfl, rfl⟩)
            | (go_at_call 27; (with_reducible refine (HA5.out _ (by first | (with_reducible exact Turned.refl _ _) | (with_reducible exact (Turned.refl _ _).alloc _))).mono ?_); rintro e w1 ⟨rfl, rfl⟩)
            | (go_at_call 27; (with_reducible refine (HA6.out _ (by first | (with_reducible exact Turned.refl _ _) | (with_reducible exact (Turned.refl _ _).alloc _))).mono ?_); rintro e w1 ⟨rfl, rfl⟩)
            | (go_at_call 27; (with_reducible refine (HA7.out _ (by first | (with_reducible exact Turned.refl _ _) | (with_reducible exact (Turned.refl _ _).alloc _))).mono ?_); rintro e w1 ⟨rfl, rfl⟩)
            | fail)
          refine wp_abs (fun X => Turned (fun _ => False) wr X ∧ X.heap[wr.heap.size]? = some (.cells #[.int .i64 x1, .int .i64 (i : Nat), .int .i64 (100 * (i : Int)), .int .i64 (20 * x2), .int .i64 (pg + 1), .int .i64 (x7)] 26)) ⟨(by first | (with_reducible exact Turned.refl _ _) | (with_reducible exact (Turned.refl _ _).alloc _)), by exact heap_alloc_new _ _⟩ ?_
          rintro X ⟨hTX, hqX⟩
          obtain ⟨y0, y1, y2, y3, y4, y5⟩ := box6_cells hqX
          have HX := hidep (HOWN.out X hTX)
          have hsx := hTX.size
          have HBX := hidep (HBW.out.trans (hTX.toBelow.mono HBW.out.size))
          clear hqX hTX hw5 hw100 hwa1 hwa2 hwa3 hwa4 hw20 hwpg hwln hwl0 HA1 HA2 HA3 HA4 HA5 HA6 HA7
          go_wp2_with (first
            | (at_builtin; refine wpList_append_rd _ rfl (.tmp 76) (.tmp 78) rfl slPlacesR w.heap.size _ _ _ rfl (HX.out.alloc _) _ _ _ _ rfl (Rd.fresh X #[.int .i64 x1, .int .i64 (i : Nat), .int .i64 (100 * (i : Int)), .int .i64 (20 * x2), .int .i64 (pg + 1), .int .i64 (x7)] 26 6 1 rfl (by decide)) (by intro u hu; simp at hu; rcases hu with rfl | rfl | rfl | rfl | rfl | rfl <;> rfl) (by unfold maxLen; omega) (by omega) (by simp; omega) ?_; intro v10 w10 hown10 hgr10 hat10 hnl10; clear hat10 hnl10)
            | fail)
          have hb10 : Below w.heap.size w w10 := (HBX.out.alloc HBX.out.size _).grown hgr10 (by have := HBX.out.size; simp; omega) (fun g hg => (HX.out.lt g hg).1)
          refine ⟨LoopI.mk rfl ⟨rfl, rfl, rfl, rfl, i + 1, by omega, by show Value.int _ _ = _; go_num, L ++ [⟨x1, (i : Nat), 100 * (i : Int), 20 * x2, pg + 1, x7⟩], pg + 1, rfl, x7, rfl, HSTEP.out, by rw [placesC_append]; exact hown10, hb10⟩, ?_⟩
          show n - _ < n - _
          simp [intOf]; omega
        · have hx6b : (x6 == 0) = false := beq_false_of_ne hx6
          have HSTEP := hidep (show Grow true (i + 1) (L ++ [⟨x1, (i : Nat), 100 * (i : Int), 20 * x2, pg, ln + x7⟩]) (pg) (ln + x7) from HG.out.step (by unfold PlIn; simp only; omega) (by omega) (by omega) (by omega) (by omega) (fun e => by first | (cases e; done) | exact ⟨rfl, rfl, by omega⟩))
          go_upto_region 19 with (first
            | (go_at_call 27; (with_reducible refine (HA1.out _ (by first | (with_reducible exact Turned.refl _ _) | (with_reducible exact (Turned.refl _ _).alloc _))).mono ?_); rintro e w1 ⟨rfl, rfl⟩)
            | (go_at_call 27; (with_reducible refine (HA2.out _ (by first | (with_reducible exact Turned.refl _ _) | (with_reducible exact (Turned.refl _ _).alloc _))).mono ?_); rintro e w1 ⟨rfl, rfl⟩)
            | (go_at_call 27; (with_reducible refine (HA3.out _ (by first | (with_reducible exact Turned.refl _ _) | (with_reducible exact (Turned.refl _ _).alloc _))).mono ?_); rintro e w1 ⟨rfl, rfl⟩)
            | (go_at_call 27; (with_reducible refine (HA4.out _ (by first | (with_reducible exact Turned.refl _ _) | (with_reducible exact (Turned.refl _ _).alloc _))).mono ?_); rintro e w1 ⟨rfl, rfl⟩)
            | (go_at_call 27; (with_reducible refine (HA5.out _ (by first | (with_reducible exact Turned.refl _ _) | (with_reducible exact (Turned.refl _ _).alloc _))).mono ?_); rintro e w1 ⟨rfl, rfl⟩)
            | (go_at_call 27; (with_reducible refine (HA6.out _ (by first | (with_reducible exact Turned.refl _ _) | (with_reducible exact (Turned.refl _ _).alloc _))).mono ?_); rintro e w1 ⟨rfl, rfl⟩)
            | (go_at_call 27; (with_reducible refine (HA7.out _ (by first | (with_reducible exact Turned.refl _ _) | (with_reducible exact (Turned.refl _ _).alloc _))).mono ?_); rintro e w1 ⟨rfl, rfl⟩)
            | fail)
          refine wp_abs (fun X => Turned (fun _ => False) wr X ∧ X.heap[wr.heap.size]? = some (.cells #[.int .i64 x1, .int .i64 (i : Nat), .int .i64 (100 * (i : Int)), .int .i64 (20 * x2), .int .i64 (pg), .int .i64 (ln + x7)] 26)) ⟨(by first | (with_reducible exact Turned.refl _ _) | (with_reducible exact (Turned.refl _ _).alloc _)), by exact heap_alloc_new _ _⟩ ?_
          rintro X ⟨hTX, hqX⟩
          obtain ⟨y0, y1, y2, y3, y4, y5⟩ := box6_cells hqX
          have HX := hidep (HOWN.out X hTX)
          have hsx := hTX.size
          have HBX := hidep (HBW.out.trans (hTX.toBelow.mono HBW.out.size))
          clear hqX hTX hw5 hw100 hwa1 hwa2 hwa3 hwa4 hw20 hwpg hwln hwl0 HA1 HA2 HA3 HA4 HA5 HA6 HA7
          go_wp2_with (first
            | (at_builtin; refine wpList_append_rd _ rfl (.tmp 76) (.tmp 78) rfl slPlacesR w.heap.size _ _ _ rfl (HX.out.alloc _) _ _ _ _ rfl (Rd.fresh X #[.int .i64 x1, .int .i64 (i : Nat), .int .i64 (100 * (i : Int)), .int .i64 (20 * x2), .int .i64 (pg), .int .i64 (ln + x7)] 26 6 1 rfl (by decide)) (by intro u hu; simp at hu; rcases hu with rfl | rfl | rfl | rfl | rfl | rfl <;> rfl) (by unfold maxLen; omega) (by omega) (by simp; omega) ?_; intro v10 w10 hown10 hgr10 hat10 hnl10; clear hat10 hnl10)
            | fail)
          have hb10 : Below w.heap.size w w10 := (HBX.out.alloc HBX.out.size _).grown hgr10 (by have := HBX.out.size; simp; omega) (fun g hg => (HX.out.lt g hg).1)
          refine ⟨LoopI.mk rfl ⟨rfl, rfl, rfl, rfl, i + 1, by omega, by show Value.int _ _ = _; go_num, L ++ [⟨x1, (i : Nat), 100 * (i : Int), 20 * x2, pg, ln + x7⟩], pg, rfl, ln + x7, rfl, HSTEP.out, by rw [placesC_append]; exact hown10, hb10⟩, ?_⟩
          show n - _ < n - _
          simp [intOf]; omega
    · have hx5b : (x5 == 0) = false := beq_false_of_ne hx5
      cases sorted with
      | false =>
        have HSTEP := hidep (show Grow false (i + 1) (L ++ [⟨x1, (i : Nat), 100 * (i : Int), x2, x3, x4⟩]) (pg) (ln) from HG.out.step (by unfold PlIn; simp only; omega) (by omega) (by omega) (by omega) (by omega) (fun e => by first | (cases e; done) | exact ⟨rfl, rfl, by omega⟩))
        go_upto_region 19 with (first
          | (go_at_call 27; (with_reducible refine (HA1.out _ (by first | (with_reducible exact Turned.refl _ _) | (with_reducible exact (Turned.refl _ _).alloc _))).mono ?_); rintro e w1 ⟨rfl, rfl⟩)
          | (go_at_call 27; (with_reducible refine (HA2.out _ (by first | (with_reducible exact Turned.refl _ _) | (with_reducible exact (Turned.refl _ _).alloc _))).mono ?_); rintro e w1 ⟨rfl, rfl⟩)
          | (go_at_call 27; (with_reducible refine (HA3.out _ (by first | (with_reducible exact Turned.refl _ _) | (with_reducible exact (Turned.refl _ _).alloc _))).mono ?_); rintro e w1 ⟨rfl, rfl⟩)
          | (go_at_call 27; (with_reducible refine (HA4.out _ (by first | (with_reducible exact Turned.refl _ _) | (with_reducible exact (Turned.refl _ _).alloc _))).mono ?_); rintro e w1 ⟨rfl, rfl⟩)
          | (go_at_call 27; (with_reducible refine (HA5.out _ (by first | (with_reducible exact Turned.refl _ _) | (with_reducible exact (Turned.refl _ _).alloc _))).mono ?_); rintro e w1 ⟨rfl, rfl⟩)
          | (go_at_call 27; (with_reducible refine (HA6.out _ (by first | (with_reducible exact Turned.refl _ _) | (with_reducible exact (Turned.refl _ _).alloc _))).mono ?_); rintro e w1 ⟨rfl, rfl⟩)
          | (go_at_call 27; (with_reducible refine (HA7.out _ (by first | (with_reducible exact Turned.refl _ _) | (with_reducible exact (Turned.refl _ _).alloc _))).mono ?_); rintro e w1 ⟨rfl, rfl⟩)
          | fail)
        refine wp_abs (fun X => Turned (fun _ => False) wr X ∧ X.heap[wr.heap.size]? = some (.cells #[.int .i64 x1, .int .i64 (i : Nat), .int .i64 (100 * (i : Int)), .int .i64 (x2), .int .i64 (x3), .int .i64 (x4)] 26)) ⟨(by first | (with_reducible exact Turned.refl _ _) | (with_reducible exact (Turned.refl _ _).alloc _)), by exact heap_alloc_new _ _⟩ ?_
        rintro X ⟨hTX, hqX⟩
        obtain ⟨y0, y1, y2, y3, y4, y5⟩ := box6_cells hqX
        have HX := hidep (HOWN.out X hTX)
        have hsx := hTX.size
        have HBX := hidep (HBW.out.trans (hTX.toBelow.mono HBW.out.size))
        clear hqX hTX hw5 hw100 hwa1 hwa2 hwa3 hwa4 hw20 hwpg hwln hwl0 HA1 HA2 HA3 HA4 HA5 HA6 HA7
        go_wp2_with (first
          | (at_builtin; refine wpList_append_rd _ rfl (.tmp 76) (.tmp 78) rfl slPlacesR w.heap.size _ _ _ rfl (HX.out.alloc _) _ _ _ _ rfl (Rd.fresh X #[.int .i64 x1, .int .i64 (i : Nat), .int .i64 (100 * (i : Int)), .int .i64 (x2), .int .i64 (x3), .int .i64 (x4)] 26 6 1 rfl (by decide)) (by intro u hu; simp at hu; rcases hu with rfl | rfl | rfl | rfl | rfl | rfl <;> rfl) (by unfold maxLen; omega) (by omega) (by simp; omega) ?_; intro v10 w10 hown10 hgr10 hat10 hnl10; clear hat10 hnl10)
          | fail)
        have hb10 : Below w.heap.size w w10 := (HBX.out.alloc HBX.out.size _).grown hgr10 (by have := HBX.out.size; simp; omega) (fun g hg => (HX.out.lt g hg).1)
        refine ⟨LoopI.mk rfl ⟨rfl, rfl, rfl, rfl, i + 1, by omega, by show Value.int _ _ = _; go_num, L ++ [⟨x1, (i : Nat), 100 * (i : Int), x2, x3, x4⟩], pg, rfl, ln, rfl, HSTEP.out, by rw [placesC_append]; exact hown10, hb10⟩, ?_⟩
        show n - _ < n - _
        simp [intOf]; omega
      | true =>
        by_cases hx6 : x6 = 0
        · subst hx6
          have HSTEP := hidep (show Grow true (i + 1) (L ++ [⟨x1, (i : Nat), 100 * (i : Int), x2, pg + 1, x7⟩]) (pg + 1) (x7) from HG.out.step (by unfold PlIn; simp only; omega) (by omega) (by omega) (by omega) (by omega) (fun e => by first | (cases e; done) | exact ⟨rfl, rfl, by omega⟩))
          go_upto_region 19 with (first
            | (go_at_call 27; (with_reducible refine (HA1.out _ (by first | (with_reducible exact Turned.refl _ _) | (with_reducible exact (Turned.refl _ _).alloc _))).mono ?_); rintro e w1 ⟨rfl, rfl⟩)
            | (go_at_call 27; (with_reducible refine (HA2.out _ (by first | (with_reducible exact Turned.refl _ _) | (with_reducible exact (Turned.refl _ _).alloc _))).mono ?_); rintro e w1 ⟨rfl, rfl⟩)
            | (go_at_call 27; (with_reducible refine (HA3.out _ (by first | (with_reducible exact Turned.refl _ _) | (with_reducible exact (Turned.refl _ _).alloc _))).mono ?_); rintro e w1 ⟨rfl, rfl⟩)
            | (go_at_call 27; (with_reducible refine (HA4.out _ (by first | (with_reducible exact Turned.refl _ _) | (with_reducible exact (Turned.refl _ _).alloc _))).mono ?_); rintro e w1 ⟨rfl, rfl⟩)
            | (go_at_call 27; (with_reducible refine (HA5.out _ (by first | (with_reducible exact Turned.refl _ _) | (with_reducible exact (Turned.refl _ _).alloc _))).mono ?_); rintro e w1 ⟨rfl, rfl⟩)
            | (go_at_call 27; (with_reducible refine (HA6.out _ (by first | (with_reducible exact Turned.refl _ _) | (with_reducible exact (Turned.refl _ _).alloc _))).mono ?_); rintro e w1 ⟨rfl, rfl⟩)
            | (go_at_call 27; (with_reducible refine (HA7.out _ (by first | (with_reducible exact Turned.refl _ _) | (with_reducible exact (Turned.refl _ _).alloc _))).mono ?_); rintro e w1 ⟨rfl, rfl⟩)
            | fail)
          refine wp_abs (fun X => Turned (fun _ => False) wr X ∧ X.heap[wr.heap.size]? = some (.cells #[.int .i64 x1, .int .i64 (i : Nat), .int .i64 (100 * (i : Int)), .int .i64 (x2), .int .i64 (pg + 1), .int .i64 (x7)] 26)) ⟨(by first | (with_reducible exact Turned.refl _ _) | (with_reducible exact (Turned.refl _ _).alloc _)), by exact heap_alloc_new _ _⟩ ?_
          rintro X ⟨hTX, hqX⟩
          obtain ⟨y0, y1, y2, y3, y4, y5⟩ := box6_cells hqX
          have HX := hidep (HOWN.out X hTX)
          have hsx := hTX.size
          have HBX := hidep (HBW.out.trans (hTX.toBelow.mono HBW.out.size))
          clear hqX hTX hw5 hw100 hwa1 hwa2 hwa3 hwa4 hw20 hwpg hwln hwl0 HA1 HA2 HA3 HA4 HA5 HA6 HA7
          go_wp2_with (first
            | (at_builtin; refine wpList_append_rd _ rfl (.tmp 76) (.tmp 78) rfl slPlacesR w.heap.size _ _ _ rfl (HX.out.alloc _) _ _ _ _ rfl (Rd.fresh X #[.int .i64 x1, .int .i64 (i : Nat), .int .i64 (100 * (i : Int)), .int .i64 (x2), .int .i64 (pg + 1), .int .i64 (x7)] 26 6 1 rfl (by decide)) (by intro u hu; simp at hu; rcases hu with rfl | rfl | rfl | rfl | rfl | rfl <;> rfl) (by unfold maxLen; omega) (by omega) (by simp; omega) ?_; intro v10 w10 hown10 hgr10 hat10 hnl10; clear hat10 hnl10)
            | fail)
          have hb10 : Below w.heap.size w w10 := (HBX.out.alloc HBX.out.size _).grown hgr10 (by have := HBX.out.size; simp; omega) (fun g hg => (HX.out.lt g hg).1)
          refine ⟨LoopI.mk rfl ⟨rfl, rfl, rfl, rfl, i + 1, by omega, by show Value.int _ _ = _; go_num, L ++ [⟨x1, (i : Nat), 100 * (i : Int), x2, pg + 1, x7⟩], pg + 1, rfl, x7, rfl, HSTEP.out, by rw [placesC_append]; exact hown10, hb10⟩, ?_⟩
          show n - _ < n - _
          simp [intOf]; omega
        · have hx6b : (x6 == 0) = false := beq_false_of_ne hx6
          have HSTEP := hidep (show Grow true (i + 1) (L ++ [⟨x1, (i : Nat), 100 * (i : Int), x2, pg, ln + x7⟩]) (pg) (ln + x7) from HG.out.step (by unfold PlIn; simp only; omega) (by omega) (by omega) (by omega) (by omega) (fun e => by first | (cases e; done) | exact ⟨rfl, rfl, by omega⟩))
          go_upto_region 19 with (first
            | (go_at_call 27; (with_reducible refine (HA1.out _ (by first | (with_reducible exact Turned.refl _ _) | (with_reducible exact (Turned.refl _ _).alloc _))).mono ?_); rintro e w1 ⟨rfl, rfl⟩)
            | (go_at_call 27; (with_reducible refine (HA2.out _ (by first | (with_reducible exact Turned.refl _ _) | (with_reducible exact (Turned.refl _ _).alloc _))).mono ?_); rintro e w1 ⟨rfl, rfl⟩)
            | (go_at_call 27; (with_reducible refine (HA3.out _ (by first | (with_reducible exact Turned.refl _ _) | (with_reducible exact (Turned.refl _ _).alloc _))).mono ?_); rintro e w1 ⟨rfl, rfl⟩)
            | (go_at_call 27; (with_reducible refine (HA4.out _ (by first | (with_reducible exact Turned.refl _ _) | (with_reducible exact (Turned.refl _ _).alloc _))).mono ?_); rintro e w1 ⟨rfl, rfl⟩)
            | (go_at_call 27; (with_reducible refine (HA5.out _ (by first | (with_reducible exact Turned.refl _ _) | (with_reducible exact (Turned.refl _ _).alloc _))).mono ?_); rintro e w1 ⟨rfl, rfl⟩)
            | (go_at_call 27; (with_reducible refine (HA6.out _ (by first | (with_reducible exact Turned.refl _ _) | (with_reducible exact (Turned.refl _ _).alloc _))).mono ?_); rintro e w1 ⟨rfl, rfl⟩)
            | (go_at_call 27; (with_reducible refine (HA7.out _ (by first | (with_reducible exact Turned.refl _ _) | (with_reducible exact (Turned.refl _ _).alloc _))).mono ?_); rintro e w1 ⟨rfl, rfl⟩)
            | fail)
          refine wp_abs (fun X => Turned (fun _ => False) wr X ∧ X.heap[wr.heap.size]? = some (.cells #[.int .i64 x1, .int .i64 (i : Nat), .int .i64 (100 * (i : Int)), .int .i64 (x2), .int .i64 (pg), .int .i64 (ln + x7)] 26)) ⟨(by first | (with_reducible exact Turned.refl _ _) | (with_reducible exact (Turned.refl _ _).alloc _)), by exact heap_alloc_new _ _⟩ ?_
          rintro X ⟨hTX, hqX⟩
          obtain ⟨y0, y1, y2, y3, y4, y5⟩ := box6_cells hqX
          have HX := hidep (HOWN.out X hTX)
          have hsx := hTX.size
          have HBX := hidep (HBW.out.trans (hTX.toBelow.mono HBW.out.size))
          clear hqX hTX hw5 hw100 hwa1 hwa2 hwa3 hwa4 hw20 hwpg hwln hwl0 HA1 HA2 HA3 HA4 HA5 HA6 HA7
          go_wp2_with (first
            | (at_builtin; refine wpList_append_rd _ rfl (.tmp 76) (.tmp 78) rfl slPlacesR w.heap.size _ _ _ rfl (HX.out.alloc _) _ _ _ _ rfl (Rd.fresh X #[.int .i64 x1, .int .i64 (i : Nat), .int .i64 (100 * (i : Int)), .int .i64 (x2), .int .i64 (pg), .int .i64 (ln + x7)] 26 6 1 rfl (by decide)) (by intro u hu; simp at hu; rcases hu with rfl | rfl | rfl | rfl | rfl | rfl <;> rfl) (by unfold maxLen; omega) (by omega) (by simp; omega) ?_; intro v10 w10 hown10 hgr10 hat10 hnl10; clear hat10 hnl10)
            | fail)
          have hb10 : Below w.heap.size w w10 := (HBX.out.alloc HBX.out.size _).grown hgr10 (by have := HBX.out.size; simp; omega) (fun g hg => (HX.out.lt g hg).1)
          refine ⟨LoopI.mk rfl ⟨rfl, rfl, rfl, rfl, i + 1, by omega, by show Value.int _ _ = _; go_num, L ++ [⟨x1, (i : Nat), 100 * (i : Int), x2, pg, ln + x7⟩], pg, rfl, ln + x7, rfl, HSTEP.out, by rw [placesC_append]; exact hown10, hb10⟩, ?_⟩
          show n - _ < n - _
          simp [intOf]; omega
  · have hin2 : i = n := by omega
    subst hin2
    go_wp2
    go_ret
    obtain ⟨g1, g2, _, _, _, _, g7⟩ := HG.out
    exact ⟨_, L, rfl, by rw [g1]; exact hown, ⟨by omega, g2, fun e => (g7 e).1⟩, hbw⟩
end Go.Proofs.Ytfljgcpfmhhgcaa
