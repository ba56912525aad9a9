/- For all arguments (lists of ints, ints, bools and texts) the law ReaderAsks returns true, and leaves its arguments as they were: no condition: the given statement. -/
import Derived.Test.YtfljgcpfmhhgcaaRdMq
import Derived.Test.YtfljgcpfmhhgcaaRdAr
import Derived.Test.YtfljgcpfmhhgcaaRdAk
import Derived.Test.YtfljgcpfmhhgcaaRdLv
import Derived.Test.YtfljgcpfmhhgcaaRdSm
import Derived.Test.YtfljgcpfmhhgcaaRdPc
import Derived.Test.YtfljgcpfmhhgcaaFrame
namespace Go.Proofs.Ytfljgcpfmhhgcaa
open Go.RowKit Go.Lab
attribute [local go_sem] Oper.semAt_some
set_option maxRecDepth 100000
theorem range_map101 (f : Nat → Value) : (List.range 101).map f = [f 0, f 1, f 2, f 3, f 4, f 5, f 6, f 7, f 8, f 9, f 10, f 11, f 12, f 13, f 14, f 15, f 16, f 17, f 18, f 19, f 20, f 21, f 22, f 23, f 24, f 25, f 26, f 27, f 28, f 29, f 30, f 31, f 32, f 33, f 34, f 35, f 36, f 37, f 38, f 39, f 40, f 41, f 42, f 43, f 44, f 45, f 46, f 47, f 48, f 49, f 50, f 51, f 52, f 53, f 54, f 55, f 56, f 57, f 58, f 59, f 60, f 61, f 62, f 63, f 64, f 65, f 66, f 67, f 68, f 69, f 70, f 71, f 72, f 73, f 74, f 75, f 76, f 77, f 78, f 79, f 80, f 81, f 82, f 83, f 84, f 85, f 86, f 87, f 88, f 89, f 90, f 91, f 92, f 93, f 94, f 95, f 96, f 97, f 98, f 99, f 100] := rfl
theorem frame101 (t : Array Value) (ds : List Deferred) (h : t.size = 101) : ({ tmps := t, defers := ds } : Act) = { tmps := #[slot t 0, slot t 1, slot t 2, slot t 3, slot t 4, slot t 5, slot t 6, slot t 7, slot t 8, slot t 9, slot t 10, slot t 11, slot t 12, slot t 13, slot t 14, slot t 15, slot t 16, slot t 17, slot t 18, slot t 19, slot t 20, slot t 21, slot t 22, slot t 23, slot t 24, slot t 25, slot t 26, slot t 27, slot t 28, slot t 29, slot t 30, slot t 31, slot t 32, slot t 33, slot t 34, slot t 35, slot t 36, slot t 37, slot t 38, slot t 39, slot t 40, slot t 41, slot t 42, slot t 43, slot t 44, slot t 45, slot t 46, slot t 47, slot t 48, slot t 49, slot t 50, slot t 51, slot t 52, slot t 53, slot t 54, slot t 55, slot t 56, slot t 57, slot t 58, slot t 59, slot t 60, slot t 61, slot t 62, slot t 63, slot t 64, slot t 65, slot t 66, slot t 67, slot t 68, slot t 69, slot t 70, slot t 71, slot t 72, slot t 73, slot t 74, slot t 75, slot t 76, slot t 77, slot t 78, slot t 79, slot t 80, slot t 81, slot t 82, slot t 83, slot t 84, slot t 85, slot t 86, slot t 87, slot t 88, slot t 89, slot t 90, slot t 91, slot t 92, slot t 93, slot t 94, slot t 95, slot t 96, slot t 97, slot t 98, slot t 99, slot t 100], defers := ds } := by
  have e : t = ((List.range 101).map (slot t)).toArray := by
    apply Array.ext
    · simp [h]
    · intro i h1 h2
      simp [slot, Array.getD, h1]
  rw [range_map101] at e
  exact congrArg (fun x => ({ tmps := x, defers := ds } : Act)) e
theorem placesC_snoc' (L : List Pl) (p : Pl) : placesC (L ++ [p]) = placesC L ++ plC p := by simp [placesC]
/-- The list of all places: q of them are made. -/
def AllI (X : World) (q : Nat) (v : Value) (wr : World) : Prop := ∃ LA : List Pl, LA.length = q ∧ wr.ownsRow X.heap.size 26 6 v LA.length (placesC LA) ∧ (∀ p ∈ LA, PlOk p) ∧ Below X.heap.size X wr
def AllO (X : World) (n : Nat) (s13 v : Value) (wr : World) : Prop := ∃ i : Nat, i ≤ n ∧ s13 = .int .i64 (i : Nat) ∧ AllI X (8 * i) v wr
def AllF (X : World) (i : Nat) (s14 v : Value) (wr : World) : Prop := ∃ f : Nat, f ≤ 8 ∧ s14 = .int .i64 (f : Nat) ∧ AllI X (8 * i + f) v wr
def TriI (X : World) (s16 : Value) (wr : World) : Prop := ∃ i : Nat, i ≤ 3 ∧ s16 = .int .i64 (i : Nat) ∧ Below X.heap.size X wr
set_option maxHeartbeats 40000000 in
theorem lawAsks_any (vk vl vm : Value) (k l more : List Int) (way : Int) (w : World) (hk : IntsAt w vk k) (hl : IntsAt w vl l) (hm : IntsAt w vm more) (hway : -9223372036854775808 ≤ way ∧ way ≤ 9223372036854775807) :
    Calls Try.prog 10 #[vk, vl, .int .i64 way, vm] w fun e w' => e = .returned (.bool true) ∧ Below w.heap.size w w' := by
  have HEX := hidep (examM_any vk k w hk)
  have HPL := hidep (fun b W (hW : Below w.heap.size w W) => places30_any vl l b W (hl.below hW))
  have HAT := hidep (fun i most W (hW : Below w.heap.size w W) => at_any vm more i most W (hm.below hW))
  have HRG := hidep (fun i most (h : 1 ≤ most) => atZ_rng more i most h)
  have hwr := aroundZ_rng way 6 (by omega)
  have HAR := hidep (fun W => around_any way 6 W hway.1 hway.2)
  obtain ⟨wz, hwz⟩ : ∃ wz, wz = aroundZ way 6 := ⟨_, rfl⟩
  rw [← hwz] at HAR hwr
  have hw1 : IntKind.i64.wrap (wz - 1) = wz - 1 := IntWalk.i64_in _ (by omega)
  clear hk hl hm hway hwz
  go_enter Try.func10, Try.ntmps10
  go_upto_region 2 with (first
    | (go_at_call 29; refine HEX.out.mono ?_; rintro e w1 ⟨⟨ev, R, rfl, hE, hOk, hR3⟩, hb1⟩; obtain ⟨et, ea, ec, rfl, hit⟩ := hE)
    | fail)
  refine wp_abs (fun Y => Y.heap[w1.heap.size]? = some (.cells #[.string et, .slice ea R.length ec] 57) ∧ Below w1.heap.size w1 Y) ⟨heap_alloc_new _ _, (Below.refl _ _).alloc (Nat.le_refl _) _⟩ ?_
  obtain ⟨B9, hB9⟩ : ∃ B9, B9 = w1.heap.size := ⟨_, rfl⟩
  rw [← hB9]
  rintro Y ⟨hq9, hbY⟩
  rw [hB9] at hbY
  have hit := hit.below hbY
  have hbw := hb1.trans (hbY.mono hb1.size)
  clear hB9 hbY hb1
  go_upto_region 4 with (first
    | (go_at_call 11; refine (HPL.out _ _ hbw).mono ?_; rintro e w3 ⟨u, L, rfl, hown, hmade, hb3⟩; have hpx : PlacesAt w3 u L := (Rd.of_own hown).mono (fun _ _ => trivial); obtain ⟨ua, uc, rfl, _, _⟩ := PlacesAt.form hpx)
    | (go_at_call 15; refine (HAR.out _).mono ?_; rintro e w2 ⟨rfl, rfl⟩)
    | fail)
  have hL9 : L.length ≤ 9 := hmade.1
  have hokL : ∀ p ∈ L, PlOk p := fun p hp => (hmade.2.1 p hp).ok
  have hq9 := below_push hb3 hq9
  have hit := hit.below hb3
  have hbw := hbw.trans (hb3.mono hbw.size)
  generalize wz - 1 = wy at *
  have HX := hidep (show ∀ Z, Below w3.heap.size w3 Z → PlacesAt Z (.slice ua L.length uc) L ∧ ItemsAt Z (.slice ea R.length ec) R ∧ Z.heap[B9]? = some (.cells #[.string et, .slice ea R.length ec] 57) ∧ Below w.heap.size w Z from fun Z hZ => ⟨hpx.below hZ, hit.below hZ, below_push hZ hq9, hbw.trans (hZ.mono hbw.size)⟩)
  have HOKL := hidep hokL
  have HOK := hidep hOk
  obtain ⟨X, hX⟩ : ∃ X : World, X = w3 := ⟨_, rfl⟩
  rw [← hX] at HX
  rw [← hX]
  clear hw1 hown hmade hb3 hq9 hit hbw hokL hpx hX hOk hwr
  go_upto_region 6 with (fail)
  refine wp_loop (LoopI 101 (fun tm ds wr => (slot tm 3) = vm ∧ (slot tm 9) = .pointer (some ⟨B9, 0, none⟩) ∧ (slot tm 10) = .int .i64 wy ∧ (slot tm 11) = .slice ua L.length uc ∧ ds = [] ∧ AllO X R.length (slot tm 13) (slot tm 12) wr)) (fun a' wr => R.length - (intOf (a'.tmps.getD 13 undef)).toNat) ?outerStart ?outerRound
  case' outerStart => refine LoopI.mk rfl ?_
  case' outerRound => (rintro ⟨t, ds⟩ wr ⟨hts, hrel⟩; dsimp only at hts hrel; rw [frame101 t ds hts])
  case outerStart => exact ⟨rfl, rfl, rfl, rfl, rfl, 0, Nat.zero_le _, rfl, [], rfl, World.ownsRow_nil _ _ _ _, (by simp), Below.refl _ _⟩
  obtain ⟨h3, h9, h10, h11, hds, i, hi, h13, LA, hLA, hown, hokA, hbw⟩ := hrel
  subst hds
  have hLA24 : LA.length ≤ 24 := by omega
  have HLA := hidep hLA
  clear hLA
  obtain ⟨aa, ac, hv12, _, _⟩ := (Rd.of_own hown).form
  rw [h3, h9, h10, h11, h13, hv12]
  rw [hv12] at hown
  clear h3 h9 h10 h11 h13 hts hv12
  obtain ⟨_, _, hq9, _⟩ := HX.out _ hbw
  obtain ⟨x0, x1⟩ := box2_cells hq9
  by_cases hlt : i < R.length
  · have hlti : (i : Int) < (R.length : Int) := by omega
    go_upto_region 9 with (fail)
    clear x0 x1 hq9
    refine wp_loop (LoopI 101 (fun tm ds wr => (slot tm 3) = vm ∧ (slot tm 9) = .pointer (some ⟨B9, 0, none⟩) ∧ (slot tm 10) = .int .i64 wy ∧ (slot tm 11) = .slice ua L.length uc ∧ (slot tm 13) = .int .i64 (i : Nat) ∧ ds = [] ∧ AllF X i (slot tm 14) (slot tm 12) wr)) (fun a' wr => 8 - (intOf (a'.tmps.getD 14 undef)).toNat) ?innerStart ?innerRound
    case' innerStart => refine LoopI.mk rfl ?_
    case' innerRound => (rintro ⟨t, ds⟩ wr ⟨hts, hrel⟩; dsimp only at hts hrel; rw [frame101 t ds hts])
    case innerStart => exact ⟨rfl, rfl, rfl, rfl, rfl, rfl, 0, Nat.zero_le _, rfl, LA, HLA.out, hown, hokA, hbw⟩
    clear hown hokA hbw HLA
    obtain ⟨h3, h9, h10, h11, h13, hds, f, hf, h14, LA2, hLA, hown, hokA, hbw⟩ := hrel
    subst hds
    have hLA2 : LA2.length ≤ 40 := by omega
    have HLA := hidep hLA
    clear hLA
    obtain ⟨ba, bc, hv12, _, _⟩ := (Rd.of_own hown).form
    rw [h3, h9, h10, h11, h13, h14, hv12]
    rw [hv12] at hown
    clear h3 h9 h10 h11 h13 h14 hts hv12
    by_cases hf8 : f < 8
    · have hfi : (f : Int) < 8 := by omega
      obtain ⟨pg, hpg⟩ : ∃ pg, pg = atZ more (i : Nat) 3 := ⟨_, rfl⟩
      obtain ⟨ln, hln⟩ : ∃ ln, ln = atZ more (f : Nat) 20 := ⟨_, rfl⟩
      have hwif : IntKind.i64.wrap ((i : Int) + (f : Int)) = (i : Int) + (f : Int) := IntWalk.i64_in _ (by omega)
      obtain ⟨le, hle⟩ : ∃ le, le = atZ more ((i : Int) + (f : Int)) 70 := ⟨_, rfl⟩
      have HP3 := hidep (And.intro (HRG.out (i : Nat) 3 (by omega)) (And.intro (HRG.out (f : Nat) 20 (by omega)) (HRG.out ((i : Int) + (f : Int)) 70 (by omega))))
      rw [← hpg, ← hln, ← hle] at HP3
      have HA1 := hidep (show ∀ W, Below w.heap.size w W → _ from fun W hW => HAT.out (i : Nat) 3 W hW)
      have HA2 := hidep (show ∀ W, Below w.heap.size w W → _ from fun W hW => HAT.out (f : Nat) 20 W hW)
      have HA3 := hidep (show ∀ W, Below w.heap.size w W → _ from fun W hW => HAT.out ((i : Int) + (f : Int)) 70 W hW)
      rw [← hpg] at HA1
      rw [← hln] at HA2
      rw [← hle] at HA3
      clear hpg hln hle
      have hbW := (HX.out _ hbw).2.2.2
      have hsw := hbw.size
      have hownA := fun o => own_below hown (Below.alloc (Below.refl wr.heap.size wr) (Nat.le_refl _) o)
      go_wp2_with (first
        | (go_at_call 27; first | ((with_reducible refine (HA1.out _ hbW).mono ?_); rintro e w5 ⟨rfl, rfl⟩) | ((with_reducible refine (HA2.out _ hbW).mono ?_); rintro e w5 ⟨rfl, rfl⟩) | ((with_reducible refine (HA3.out _ hbW).mono ?_); rintro e w5 ⟨rfl, rfl⟩))
        | (at_builtin; refine wpList_append_rd _ rfl (.tmp 42) (.tmp 57) rfl slPlacesR X.heap.size _ _ _ rfl (hownA _) _ _ _ _ rfl (Rd.fresh wr #[.int .i64 (i : Nat), .int .i64 (f : Nat), .int .i64 0, .int .i64 le, .int .i64 pg, .int .i64 ln] 26 6 1 rfl (by decide)) (by intro u hu; simp at hu; rcases hu with rfl | rfl | rfl | rfl | rfl | rfl <;> rfl) (by unfold maxLen; omega) (by omega) (by simp; omega) ?_; intro v2 w4 hown4 hgr4 hat4 hnl4; clear hat4 hnl4)
        | fail)
      have hb4 := hbw.trans (((Below.refl _ _).alloc (Nat.le_refl _) _).mono hbw.size) |>.grown hgr4 (by have := hbw.size; simp; omega) (fun g hg => ((hownA (.cells #[] 0)).lt g hg).1)
      have hlen : (LA2 ++ [(⟨(i : Int), (f : Int), 0, le, pg, ln⟩ : Pl)]).length = LA2.length + 1 := by simp
      refine ⟨LoopI.mk rfl ⟨rfl, rfl, rfl, rfl, rfl, rfl, f + 1, by omega, by show Value.int _ _ = _; go_num, LA2 ++ [(⟨(i : Int), (f : Int), 0, le, pg, ln⟩ : Pl)], by have := HLA.out; omega, ?_, ?_, hb4⟩, ?_⟩
      · rw [hlen, placesC_snoc']
        exact hown4
      · intro p hp
        rcases List.mem_append.1 hp with h | h
        · exact hokA p h
        · have h2 : p = ⟨(i : Int), (f : Int), 0, le, pg, ln⟩ := by simpa using h
          subst h2
          have := HP3.out
          unfold PlOk
          simp only
          omega
      · show 8 - _ < 8 - _
        simp [intOf]; omega
    · have hfi : ¬ (f : Int) < 8 := by omega
      have hf9 : f = 8 := by omega
      subst hf9
      go_wp2
      refine ⟨LoopI.mk rfl ⟨rfl, rfl, rfl, rfl, rfl, i + 1, by omega, by show Value.int _ _ = _; go_num, LA2, by have := HLA.out; omega, hown, hokA, hbw⟩, ?_⟩
      show R.length - _ < R.length - _
      simp [intOf]; omega
  · have hlti : ¬ (i : Int) < (R.length : Int) := by omega
    have HPA := hidep (show ∀ Z, Below wr.heap.size wr Z → PlacesAt Z (.slice aa LA.length ac) LA from fun Z hZ => PlacesAt.below ((Rd.of_own hown).mono (fun _ _ => trivial)) hZ)
    have hpl := (HX.out _ hbw).1
    have hsX := hbw.size
    have hplA := fun o => Rd.below hpl (Below.alloc (Below.refl wr.heap.size wr) (Nat.le_refl _) o)
    have hlit := lit_own (X := wr.alloc (.cells #[] 26)) (B := wr.heap.size) (g := wr.heap.size) (e := 26) (k := 6) (heap_alloc_new _ _) (Nat.le_refl _)
    go_upto_region 13 with (first
      | (at_builtin; refine wpList_append_rd _ rfl (.tmp 60) (.tmp 61) rfl slPlacesR wr.heap.size _ _ _ rfl hlit _ _ _ _ rfl (hplA _) (by intro u hu; exact placesC_one L u hu) (by unfold maxLen; omega) (by omega) (by simp) ?_; intro v4 w4 hown4 hgr4 hat4 hnl4; clear hat4 hnl4; have hb4 : Below wr.heap.size wr w4 := ((Below.refl _ _).alloc (Nat.le_refl _) _).grown hgr4 (by simp) (fun g hg => by cases hg; exact Nat.le_refl _))
      | (at_builtin; refine wpList_append_rd _ rfl (.tmp 62) (.tmp 63) rfl slPlacesR wr.heap.size _ _ _ rfl hown4 _ _ _ _ rfl (HPA.out _ hb4) (by intro u hu; exact placesC_one LA u hu) (by unfold maxLen; omega) (by omega) (by have := hb4.size; omega) ?_; intro v5 w5 hown5 hgr5 hat5 hnl5; clear hat5 hnl5; have hb5 : Below wr.heap.size wr w5 := hb4.grown hgr5 (by have := hb4.size; omega) (fun g hg => (hown4.lt g hg).1); obtain ⟨va5, vc5, rfl, _, _⟩ := (Rd.of_own hown5).form)
      | fail)
    simp only [Nat.zero_add, List.nil_append] at hown5
    have hbx5 := hbw.trans (hb5.mono hbw.size)
    refine wp_abs (fun Z => Z.heap[w5.heap.size]? = some (.cells #[.slice ua L.length uc, .slice va5 (L.length + LA.length) vc5, .slice aa LA.length ac] 23) ∧ Below w5.heap.size w5 Z) ⟨heap_alloc_new _ _, (Below.refl _ _).alloc (Nat.le_refl _) _⟩ ?_
    obtain ⟨B15, hB15⟩ : ∃ B15, B15 = w5.heap.size := ⟨_, rfl⟩
    rw [← hB15]
    rintro X5 ⟨hq15, hbX5⟩
    rw [hB15] at hbX5
    clear hB15
    have hbx := hbx5.trans (hbX5.mono hbx5.size)
    have hbr := hb5.trans (hbX5.mono hb5.size)
    have hpl5 : PlacesAt X5 (.slice va5 (L.length + LA.length) vc5) (L ++ LA) := by
      have h1 : Rd X5 (· = 26) 6 (.slice va5 (L.length + LA.length) vc5) (L.length + LA.length) (placesC L ++ placesC LA) := Rd.below (Rd.of_own hown5) hbX5
      have e1 : placesC (L ++ LA) = placesC L ++ placesC LA := by simp [placesC]
      have e2 : (L ++ LA).length = L.length + LA.length := by simp
      unfold PlacesAt
      rw [e1, e2]
      exact h1.mono (fun _ _ => trivial)
    have HALL := hidep (show ∀ Z, Below X5.heap.size X5 Z → ExamAt Z (.agg #[.string et, .slice ea R.length ec]) R ∧ Z.cell? ⟨B9, 0, none⟩ = some (.string et) ∧ Z.cell? ⟨B9, 1, none⟩ = some (.slice ea R.length ec) ∧ Below w.heap.size w Z ∧ ∀ i, i < 3 → ∃ (a : Option Addr) (c : Nat) (Lx : List Pl), Z.cell? ⟨B15, i, none⟩ = some (.slice a Lx.length c) ∧ PlacesAt Z (.slice a Lx.length c) Lx ∧ Lx.length ≤ 1000 ∧ ∀ p ∈ Lx, PlOk p from fun Z hZ => by
      obtain ⟨g1, g2, g3, g4⟩ := HX.out Z (hbx.trans (hZ.mono hbx.size))
      obtain ⟨c0, c1⟩ := box2_cells g3
      have hq := below_push hZ hq15
      refine ⟨⟨et, ea, ec, rfl, g2⟩, c0, c1, g4, fun i hi => ?_⟩
      rcases (by omega : i = 0 ∨ i = 1 ∨ i = 2) with rfl | rfl | rfl
      · exact ⟨ua, uc, L, by simp [World.cell?, hq], g1, by omega, HOKL.out⟩
      · refine ⟨va5, vc5, L ++ LA, by simp [World.cell?, hq], ?_, by simp; omega, fun p hp => ?_⟩
        · have e2 : (L ++ LA).length = L.length + LA.length := by simp
          rw [e2]
          exact hpl5.below hZ
        · rcases List.mem_append.1 hp with h | h
          · exact HOKL.out p h
          · exact hokA p h
      · exact ⟨aa, ac, LA, by simp [World.cell?, hq], HPA.out Z (hbr.trans (hZ.mono hbr.size)), by omega, hokA⟩)
    clear hown4 hgr4 hb4 hown5 hgr5 hb5 hbx5 hbx hbr hpl5 hq15 hbX5 hplA hlit hpl hown hokA hbw x0 x1 hq9 hsX
    go_upto_region 14 with (fail)
    refine wp_loop (LoopI 101 (fun tm ds wr => (slot tm 9) = .pointer (some ⟨B9, 0, none⟩) ∧ (slot tm 10) = .int .i64 wy ∧ (slot tm 15) = .slice (some ⟨B15, 0, none⟩) 3 3 ∧ ds = [] ∧ TriI X5 (slot tm 16) wr)) (fun a' wr => 3 - (intOf (a'.tmps.getD 16 undef)).toNat) ?threeStart ?threeRound
    case' threeStart => refine LoopI.mk rfl ?_
    case' threeRound => (rintro ⟨t, ds⟩ wr ⟨hts, hrel⟩; dsimp only at hts hrel; rw [frame101 t ds hts])
    case threeStart => exact ⟨rfl, rfl, rfl, rfl, 0, Nat.zero_le _, rfl, Below.refl _ _⟩
    obtain ⟨h9, h10, h15, hds, q, hq, h16, hbw⟩ := hrel
    subst hds
    rw [h9, h10, h15, h16]
    clear h9 h10 h15 h16 hts
    by_cases hq3 : q < 3
    · have hqi : (q : Int) < 3 := by omega
      obtain ⟨a, c, Lx, _, _, hlx, hokx⟩ := (HALL.out _ hbw).2.2.2.2 q hq3
      obtain ⟨pa, pc, Ly, hcl, hpl, hly, hoky⟩ := (HALL.out _ hbw).2.2.2.2 q hq3
      have HE := hidep (show ∀ Y, Below wr.heap.size wr Y → ExamAt Y (.agg #[.string et, .slice ea R.length ec]) R ∧ PlacesAt Y (.slice pa Ly.length pc) Ly from fun Y hY => ⟨(HALL.out _ (hbw.trans (hY.mono hbw.size))).1, hpl.below hY⟩)
      have hlb : B15 < wr.heap.size := by
        by_cases hlt : B15 < wr.heap.size
        · exact hlt
        · have : wr.heap[B15]? = none := Array.getElem?_eq_none (by omega)
          simp [World.cell?, this] at hcl
      have HS := hidep (show ∀ Y, Below wr.heap.size wr Y → Y.cell? ⟨B9, 0, none⟩ = some (.string et) ∧ Y.cell? ⟨B9, 1, none⟩ = some (.slice ea R.length ec) ∧ Y.cell? ⟨B15, q, none⟩ = some (.slice pa Ly.length pc) from fun Y hY => ⟨(HALL.out _ (hbw.trans (hY.mono hbw.size))).2.1, (HALL.out _ (hbw.trans (hY.mono hbw.size))).2.2.1, (hY.cell (p := ⟨B15, q, none⟩) hlb).trans hcl⟩)
      have HLY := hidep (And.intro hly hoky)
      have hk0 := Below.refl wr.heap.size wr
      clear hlx hokx hcl hpl hly hoky hlb
      go_upto_region 16 with (fail)
      refine wp_region_noPanic (wp_region_held_drew (S := (fun Y => Below wr.heap.size wr Y)) (by kernel_rfl) ?hS10r16n0 (fun hHeld => ?hR10r16n0))
      case hS10r16n0 => ((try dsimp only); (first | exact hk0 | exact hk0.drew))
      refine wpAnyH_take (i := 0) (v := ?v10r16n0q1) rfl (by kernel_rfl) (by kernel_rfl) (by kernel_rfl) (fun _ _ _ h => h) (Or.inl ⟨by kernel_rfl, ?hy10r16n0q1⟩) (by assumption) ?hr10r16n0q1
      case hy10r16n0q1 => (intro w hSw; (try dsimp only at hSw); (obtain ⟨u0, u1, u2⟩ := HS.out _ hSw); first | (go_simp; done) | (go_simp; with_reducible rfl))
      refine wpAnyH_take (i := 1) (v := ?v10r16n0q2) rfl (by kernel_rfl) (by kernel_rfl) (by kernel_rfl) (fun _ _ _ h => h) (Or.inl ⟨by kernel_rfl, ?hy10r16n0q2⟩) (by assumption) ?hr10r16n0q2
      case hy10r16n0q2 => (intro w hSw; (try dsimp only at hSw); (obtain ⟨u0, u1, u2⟩ := HS.out _ hSw); first | (go_simp; done) | (go_simp; with_reducible rfl))
      refine wpAnyH_take (i := 2) (v := ?v10r16n0q3) rfl (by kernel_rfl) (by kernel_rfl) (by kernel_rfl) (fun _ _ _ h => h) (Or.inl ⟨by kernel_rfl, ?hy10r16n0q3⟩) (by assumption) ?hr10r16n0q3
      case hy10r16n0q3 => (intro w hSw; (try dsimp only at hSw); (obtain ⟨u0, u1, u2⟩ := HS.out _ hSw); first | (go_simp; done) | (go_simp; with_reducible rfl))
      refine wpAnyH_take (i := 3) (v := ?v10r16n0q4) rfl (by kernel_rfl) (by kernel_rfl) (by kernel_rfl) (fun _ _ _ h => h) (Or.inl ⟨by kernel_rfl, ?hy10r16n0q4⟩) (by assumption) ?hr10r16n0q4
      case hy10r16n0q4 => (intro w hSw; (try dsimp only at hSw); (obtain ⟨u0, u1, u2⟩ := HS.out _ hSw); first | (go_simp; done) | (go_simp; with_reducible rfl))
      refine wpAnyH_take (i := 4) (v := ?v10r16n0q5) rfl (by kernel_rfl) (by kernel_rfl) (by kernel_rfl) (fun _ _ _ h => h) (Or.inl ⟨by kernel_rfl, ?hy10r16n0q5⟩) (by assumption) ?hr10r16n0q5
      case hy10r16n0q5 => (intro w hSw; (try dsimp only at hSw); (obtain ⟨u0, u1, u2⟩ := HS.out _ hSw); first | (go_simp; done) | (go_simp; with_reducible rfl))
      refine wpAnyH_take (i := 5) (v := ?v10r16n0q6) rfl (by kernel_rfl) (by kernel_rfl) (by kernel_rfl) (fun _ _ _ h => h) (Or.inl ⟨by kernel_rfl, ?hy10r16n0q6⟩) (by assumption) ?hr10r16n0q6
      case hy10r16n0q6 => (intro w hSw; (try dsimp only at hSw); (obtain ⟨u0, u1, u2⟩ := HS.out _ hSw); first | (go_simp; done) | (go_simp; with_reducible rfl))
      refine wpAnyH_ready (rs := [6]) (by kernel_rfl) (by simp) (AllReadyH.cons rfl (fun K hK => ?hc10r16n0q7) AllReadyH.nil)
      go_simp
      (go_at_call 30; refine (askC_any wy Ly R _ _ HLY.out.2 HLY.out.1 HOK.out _ (HE.out _ hHeld).2 (HE.out _ hHeld).1).mono ?_; rintro e wa ⟨ra, rac, rows, ez, rfl, htab, hask, hba⟩; have hk := hHeld.trans (hba.mono hHeld.size); (try dsimp only))
      refine hK.out _ _ ?hs10r16n0q7 (fun hHeld10r16n0q7 => ?ht10r16n0q7)
      case hs10r16n0q7 => ((try dsimp only); (first | (with_reducible exact hHeld) | exact hk | exact hk.drew))
      clear hHeld hK
      have hHeld := hHeld10r16n0q7
      clear hHeld10r16n0q7
      refine wpAnyH_take (i := 7) (v := ?v10r16n0q8) rfl (by kernel_rfl) (by kernel_rfl) (by kernel_rfl) (fun _ _ _ h => h) (Or.inl ⟨by kernel_rfl, ?hy10r16n0q8⟩) (by assumption) ?hr10r16n0q8
      case hy10r16n0q8 => (intro w hSw; (try dsimp only at hSw); (obtain ⟨u0, u1, u2⟩ := HS.out _ hSw); first | (go_simp; done) | (go_simp; with_reducible rfl))
      refine wpAnyH_take (i := 8) (v := ?v10r16n0q9) rfl (by kernel_rfl) (by kernel_rfl) (by kernel_rfl) (fun _ _ _ h => h) (Or.inl ⟨by kernel_rfl, ?hy10r16n0q9⟩) (by assumption) ?hr10r16n0q9
      case hy10r16n0q9 => (intro w hSw; (try dsimp only at hSw); (obtain ⟨u0, u1, u2⟩ := HS.out _ hSw); first | (go_simp; done) | (go_simp; with_reducible rfl))
      refine wpAnyH_take (i := 9) (v := ?v10r16n0q10) rfl (by kernel_rfl) (by kernel_rfl) (by kernel_rfl) (fun _ _ _ h => h) (Or.inl ⟨by kernel_rfl, ?hy10r16n0q10⟩) (by assumption) ?hr10r16n0q10
      case hy10r16n0q10 => (intro w hSw; (try dsimp only at hSw); (obtain ⟨u0, u1, u2⟩ := HS.out _ hSw); first | (go_simp; done) | (go_simp; with_reducible rfl))
      refine wpAnyH_take (i := 10) (v := ?v10r16n0q11) rfl (by kernel_rfl) (by kernel_rfl) (by kernel_rfl) (fun _ _ _ h => h) (Or.inl ⟨by kernel_rfl, ?hy10r16n0q11⟩) (by assumption) ?hr10r16n0q11
      case hy10r16n0q11 => (intro w hSw; (try dsimp only at hSw); (obtain ⟨u0, u1, u2⟩ := HS.out _ hSw); first | (go_simp; done) | (go_simp; with_reducible rfl))
      refine wpAnyH_take (i := 11) (v := ?v10r16n0q12) rfl (by kernel_rfl) (by kernel_rfl) (by kernel_rfl) (fun _ _ _ h => h) (Or.inl ⟨by kernel_rfl, ?hy10r16n0q12⟩) (by assumption) ?hr10r16n0q12
      case hy10r16n0q12 => (intro w hSw; (try dsimp only at hSw); (obtain ⟨u0, u1, u2⟩ := HS.out _ hSw); first | (go_simp; done) | (go_simp; with_reducible rfl))
      refine wpAnyH_done (by kernel_rfl) ?_ _
      clear hHeld
      refine NoPanic.normal ?_
      (try dsimp only [Exit.inBlock, Exit.then])
      apply_assumption
      refine wp_cutA 101 (fun tm ds => ds = [] ∧ slot tm 9 = .pointer (some ⟨B9, 0, none⟩) ∧ slot tm 10 = .int .i64 wy ∧ slot tm 15 = .slice (some ⟨B15, 0, none⟩) 3 3 ∧ slot tm 16 = .int .i64 (q : Nat) ∧ slot tm 17 = .slice ra rows.length rac ∧ slot tm 18 = .int .i64 ez) (by kernel_rfl) (by exact ⟨by kernel_rfl, by kernel_rfl, by kernel_rfl, by kernel_rfl, by kernel_rfl, by kernel_rfl, by kernel_rfl⟩) ?_
      rintro t1 ds1 h101 ⟨rfl, h9, h10, h15, h16, h17, h18⟩
      rw [frame101 t1 [] h101, h9, h10, h15, h16, h17, h18]
      clear h101 h9 h10 h15 h16 h17 h18
      refine wp_abs (fun Z => Below wr.heap.size wr Z ∧ TabAt Z (.slice ra rows.length rac) rows) (by first | exact ⟨hk, htab⟩ | exact ⟨hk.drew, htab.below (Below.refl _ _).drew⟩) ?_
      clear htab hk hk0
      rintro Z1 ⟨hk0, htab⟩
      have HTAB := hidep (show ∀ Y, Below Z1.heap.size Z1 Y → TabAt Y (.slice ra rows.length rac) rows from fun Y hY => htab.below hY)
      go_upto_region 17 with (fail)
      refine wp_region_noPanic (wp_region_held_drew (S := (fun Y => Below wr.heap.size wr Y ∧ Below Z1.heap.size Z1 Y)) (by kernel_rfl) ?hS10r17n1 (fun hHeld => ?hR10r17n1))
      case hS10r17n1 => ((try dsimp only); (first | exact ⟨hk0, Below.refl _ _⟩ | exact ⟨hk0.drew, (Below.refl _ _).drew⟩))
      refine wpAnyH_take (i := 0) (v := ?v10r17n1q1) rfl (by kernel_rfl) (by kernel_rfl) (by kernel_rfl) (fun _ _ _ h => h) (Or.inl ⟨by kernel_rfl, ?hy10r17n1q1⟩) (by assumption) ?hr10r17n1q1
      case hy10r17n1q1 => (intro w hSw; (try dsimp only at hSw); (obtain ⟨u0, u1, u2⟩ := HS.out _ hSw.1); first | (go_simp; done) | (go_simp; with_reducible rfl))
      refine wpAnyH_take (i := 1) (v := ?v10r17n1q2) rfl (by kernel_rfl) (by kernel_rfl) (by kernel_rfl) (fun _ _ _ h => h) (Or.inl ⟨by kernel_rfl, ?hy10r17n1q2⟩) (by assumption) ?hr10r17n1q2
      case hy10r17n1q2 => (intro w hSw; (try dsimp only at hSw); (obtain ⟨u0, u1, u2⟩ := HS.out _ hSw.1); first | (go_simp; done) | (go_simp; with_reducible rfl))
      refine wpAnyH_take (i := 2) (v := ?v10r17n1q3) rfl (by kernel_rfl) (by kernel_rfl) (by kernel_rfl) (fun _ _ _ h => h) (Or.inl ⟨by kernel_rfl, ?hy10r17n1q3⟩) (by assumption) ?hr10r17n1q3
      case hy10r17n1q3 => (intro w hSw; (try dsimp only at hSw); (obtain ⟨u0, u1, u2⟩ := HS.out _ hSw.1); first | (go_simp; done) | (go_simp; with_reducible rfl))
      refine wpAnyH_take (i := 3) (v := ?v10r17n1q4) rfl (by kernel_rfl) (by kernel_rfl) (by kernel_rfl) (fun _ _ _ h => h) (Or.inl ⟨by kernel_rfl, ?hy10r17n1q4⟩) (by assumption) ?hr10r17n1q4
      case hy10r17n1q4 => (intro w hSw; (try dsimp only at hSw); (obtain ⟨u0, u1, u2⟩ := HS.out _ hSw.1); first | (go_simp; done) | (go_simp; with_reducible rfl))
      refine wpAnyH_take (i := 4) (v := ?v10r17n1q5) rfl (by kernel_rfl) (by kernel_rfl) (by kernel_rfl) (fun _ _ _ h => h) (Or.inl ⟨by kernel_rfl, ?hy10r17n1q5⟩) (by assumption) ?hr10r17n1q5
      case hy10r17n1q5 => (intro w hSw; (try dsimp only at hSw); (obtain ⟨u0, u1, u2⟩ := HS.out _ hSw.1); first | (go_simp; done) | (go_simp; with_reducible rfl))
      refine wpAnyH_take (i := 5) (v := ?v10r17n1q6) rfl (by kernel_rfl) (by kernel_rfl) (by kernel_rfl) (fun _ _ _ h => h) (Or.inl ⟨by kernel_rfl, ?hy10r17n1q6⟩) (by assumption) ?hr10r17n1q6
      case hy10r17n1q6 => (intro w hSw; (try dsimp only at hSw); (obtain ⟨u0, u1, u2⟩ := HS.out _ hSw.1); first | (go_simp; done) | (go_simp; with_reducible rfl))
      refine wpAnyH_ready (rs := [6]) (by kernel_rfl) (by simp) (AllReadyH.cons rfl (fun K hK => ?hc10r17n1q7) AllReadyH.nil)
      go_simp
      (go_at_call 31; refine (ask30_any wy Ly R _ _ HLY.out.2 HLY.out.1 HOK.out _ (HE.out _ hHeld.1).2 (HE.out _ hHeld.1).1).mono ?_; rintro e wb ⟨rb, rbc, rows2, ez2, rfl, htab2, hask2, hbb⟩; obtain ⟨rfl, rfl⟩ := ask_same hask hask2; have hk := hHeld.1.trans (hbb.mono hHeld.1.size); have hbz := hHeld.2.trans (hbb.mono hHeld.2.size); (try dsimp only))
      refine hK.out _ _ ?hs10r17n1q7 (fun hHeld10r17n1q7 => ?ht10r17n1q7)
      case hs10r17n1q7 => ((try dsimp only); (first | (with_reducible exact hHeld) | exact ⟨hk, hbz⟩ | exact ⟨hk.drew, hbz.drew⟩))
      clear hHeld hK
      have hHeld := hHeld10r17n1q7
      clear hHeld10r17n1q7
      refine wpAnyH_take (i := 7) (v := ?v10r17n1q8) rfl (by kernel_rfl) (by kernel_rfl) (by kernel_rfl) (fun _ _ _ h => h) (Or.inl ⟨by kernel_rfl, ?hy10r17n1q8⟩) (by assumption) ?hr10r17n1q8
      case hy10r17n1q8 => (intro w hSw; (try dsimp only at hSw); (obtain ⟨u0, u1, u2⟩ := HS.out _ hSw.1); first | (go_simp; done) | (go_simp; with_reducible rfl))
      refine wpAnyH_take (i := 8) (v := ?v10r17n1q9) rfl (by kernel_rfl) (by kernel_rfl) (by kernel_rfl) (fun _ _ _ h => h) (Or.inl ⟨by kernel_rfl, ?hy10r17n1q9⟩) (by assumption) ?hr10r17n1q9
      case hy10r17n1q9 => (intro w hSw; (try dsimp only at hSw); (obtain ⟨u0, u1, u2⟩ := HS.out _ hSw.1); first | (go_simp; done) | (go_simp; with_reducible rfl))
      refine wpAnyH_take (i := 9) (v := ?v10r17n1q10) rfl (by kernel_rfl) (by kernel_rfl) (by kernel_rfl) (fun _ _ _ h => h) (Or.inl ⟨by kernel_rfl, ?hy10r17n1q10⟩) (by assumption) ?hr10r17n1q10
      case hy10r17n1q10 => (intro w hSw; (try dsimp only at hSw); (obtain ⟨u0, u1, u2⟩ := HS.out _ hSw.1); first | (go_simp; done) | (go_simp; with_reducible rfl))
      refine wpAnyH_take (i := 10) (v := ?v10r17n1q11) rfl (by kernel_rfl) (by kernel_rfl) (by kernel_rfl) (fun _ _ _ h => h) (Or.inl ⟨by kernel_rfl, ?hy10r17n1q11⟩) (by assumption) ?hr10r17n1q11
      case hy10r17n1q11 => (intro w hSw; (try dsimp only at hSw); (obtain ⟨u0, u1, u2⟩ := HS.out _ hSw.1); first | (go_simp; done) | (go_simp; with_reducible rfl))
      refine wpAnyH_take (i := 11) (v := ?v10r17n1q12) rfl (by kernel_rfl) (by kernel_rfl) (by kernel_rfl) (fun _ _ _ h => h) (Or.inl ⟨by kernel_rfl, ?hy10r17n1q12⟩) (by assumption) ?hr10r17n1q12
      case hy10r17n1q12 => (intro w hSw; (try dsimp only at hSw); (obtain ⟨u0, u1, u2⟩ := HS.out _ hSw.1); first | (go_simp; done) | (go_simp; with_reducible rfl))
      refine wpAnyH_done (by kernel_rfl) ?_ _
      clear hHeld
      refine NoPanic.normal ?_
      (try dsimp only [Exit.inBlock, Exit.then])
      apply_assumption
      refine wp_cutA 101 (fun tm ds => ds = [] ∧ slot tm 9 = .pointer (some ⟨B9, 0, none⟩) ∧ slot tm 10 = .int .i64 wy ∧ slot tm 15 = .slice (some ⟨B15, 0, none⟩) 3 3 ∧ slot tm 16 = .int .i64 (q : Nat) ∧ slot tm 17 = .slice ra rows.length rac ∧ slot tm 18 = .int .i64 ez ∧ slot tm 19 = .slice rb rows.length rbc ∧ slot tm 20 = .int .i64 ez) (by kernel_rfl) (by exact ⟨by kernel_rfl, by kernel_rfl, by kernel_rfl, by kernel_rfl, by kernel_rfl, by kernel_rfl, by kernel_rfl, by kernel_rfl, by kernel_rfl⟩) ?_
      rintro t2 ds2 h101 ⟨rfl, h9, h10, h15, h16, h17, h18, h19, h20⟩
      rw [frame101 t2 [] h101, h9, h10, h15, h16, h17, h18, h19, h20]
      clear h101 h9 h10 h15 h16 h17 h18 h19 h20
      refine wp_abs (fun Z => Below wr.heap.size wr Z ∧ TabAt Z (.slice ra rows.length rac) rows ∧ TabAt Z (.slice rb rows.length rbc) rows) (by first | exact ⟨hk, HTAB.out _ hbz, htab2⟩ | exact ⟨hk.drew, HTAB.out _ hbz.drew, htab2.below (Below.refl _ _).drew⟩) ?_
      clear htab2 htab HTAB hk hk0 hask hask2 hbz
      rintro Z2 ⟨hk, ht1, ht2⟩
      go_wp2_with (first
        | (go_at_call 32; refine (sameRows_true _ _ rows _ ht1 ht2).mono ?_; rintro e wc ⟨rfl, hbc⟩)
        | fail)
      refine ⟨LoopI.mk rfl ⟨rfl, rfl, rfl, rfl, q + 1, by omega, by show Value.int _ _ = _; go_num, hbw.trans ((hk.trans (hbc.mono hk.size)).mono hbw.size)⟩, ?_⟩
      show 3 - _ < 3 - _
      simp [intOf]; omega
    · have hqi : ¬ (q : Int) < 3 := by omega
      have hbe := (HALL.out _ hbw).2.2.2.1
      go_wp2_with (first
        | (go_at_call 14; refine (lives_any _).mono ?_; rintro e wl ⟨rfl, hbl⟩)
        | fail)
      go_ret
      exact ⟨rfl, hbe.trans (hbl.mono hbe.size)⟩
end Go.Proofs.Ytfljgcpfmhhgcaa
namespace Go.Proofs.Ytfljgcpfmhhgcaa
open Go.ChangeShapes Go.WideShapes Go.ChangeAt Go.RowKit Go.Lab
set_option maxRecDepth 100000 in
theorem readerAsks_holds_lifted (os : Os) (started : os.Started) (H : Type) (enc : TypeId × Value → H) :
    ReturnsInHanded {} Try.checked os 10 .any (Rows.readerAsksSpec.pre6 enc Try.prog Try.f10 Rows.readerAsksRow.domain false) (Rows.readerAsksSpec.post enc Try.prog Try.f10 false true false false) := by
  refine returnsInHanded_of_change (C := Try.checked) Try.own0 started (by kernel_rfl) Try.func10
    (ChangeSpec.witness6 (enc := enc) (C := Try.checked) false ⟨#[], #[.slice none 0 0, .slice none 0 0, .int .i64 0, .slice none 0 0], []⟩ 8 (by kernel_rfl) (by kernel_rfl) (by kernel_rfl) (by kernel_rfl)) ?_
  intro W base args ds gs before hval0 hW _ _
  have hval : ∀ (j : Nat) t v, Try.f10.params[j]? = some t → args[j]? = some v → Value.okWide Try.prog W .any base t v := hval0
  have hW' := hW
  obtain ⟨p, q, hA0, hV, rfl, hfz, hnd⟩ := hW
  have hA : DataW.TrodAll enc Try.prog W 0 (fun _ => true) true Try.f10.params.toList args.toList ds p := hA0
  rw [Try.params10] at hA hval
  obtain ⟨v0, vs0, d0, ds0, p0, q0, hargs, rfl, rfl, h0, t0⟩ := trodAll_cons hA
  obtain ⟨v1, vs1, d1, ds1, p1, q1, rfl, rfl, rfl, h1, t1⟩ := trodAll_cons t0
  obtain ⟨v2, vs2, d2, ds2, p2, q2, rfl, rfl, rfl, h2, t2⟩ := trodAll_cons t1
  obtain ⟨v3, vs3, d3, ds3, p3, q3, rfl, rfl, rfl, h3, t3⟩ := trodAll_cons t2
  obtain ⟨rfl, rfl, rfl⟩ := trodAll_nil t3
  obtain rfl : args = #[v0, v1, v2, v3] := by cases args; simp_all
  obtain ⟨rfl, rfl⟩ := trodVars_none hV
  obtain ⟨l0, i0, z0⟩ := open_list (hval 0 22 v0 rfl rfl) h0
  obtain ⟨l1, i1, z1⟩ := open_list (hval 1 22 v1 rfl rfl) h1
  obtain ⟨n2, rfl, rfl, rfl, w2⟩ := open_int Try.underlying3 (hval 2 3 v2 rfl rfl) h2
  obtain ⟨l3, i3, z3⟩ := open_list (hval 3 22 v3 rfl rfl) h3
  refine (lawAsks_any v0 v1 v3 l0 l1 l3 n2 W i0 i1 i3 (i64_rng w2)).mono fun e W' ⟨he, hb⟩ => ?_
  subst he
  refine ⟨_, rfl, law_post hW' rfl (by kernel_rfl) hb rfl (fun sp hsp => ?_)⟩
  rw [Try.params10]
  simp only [List.append_nil] at hsp ⊢
  have hm : ∀ q, q ∈ p0 ∨ q ∈ p1 ∨ q ∈ p3 → sp q.block = true := fun q hq => hsp q (by first | (simp only [List.mem_append]; exact hq) | (simp only [List.mem_append, List.not_mem_nil, false_or]; exact hq) | exact hq)
  have := trodAll_cons_mk (z0 W' hb sp (fun q hq => hm q (.inl hq))) (trodAll_cons_mk (z1 W' hb sp (fun q hq => hm q (.inr (.inl hq)))) (trodAll_cons_mk (shut_int Try.underlying3 w2) (trodAll_cons_mk (z3 W' hb sp (fun q hq => hm q (.inr (.inr hq)))) (trodAll_mk0))))
  simpa only [List.append_nil, List.nil_append] using this
theorem readerAsks_holds : Rows.ReaderAsksSaid :=
  OpenClaim.holds_of_wide 10 Try.f10 rfl rfl rfl rfl rfl rfl rfl ⟨rfl, rfl, rfl, rfl, rfl⟩ rfl rfl rfl rfl rfl (by kernel_rfl) Try.func10 (by kernel_rfl)
    (of_decide_eq_true (by kernel_rfl)) (by unfold Func.isWrapper; first | (rw [if_pos (by decide +kernel)]; kernel_rfl) | (rw [if_neg (by decide +kernel)]; exact ⟨rfl, rfl⟩))
    (fun os started H enc _ => readerAsks_holds_lifted os started H enc)
#print axioms readerAsks_holds
end Go.Proofs.Ytfljgcpfmhhgcaa
