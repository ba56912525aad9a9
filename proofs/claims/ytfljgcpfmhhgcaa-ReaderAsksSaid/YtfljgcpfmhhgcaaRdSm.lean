/- Contracts: the reference's SameRows and Same on equal plans, the law's plain. -/
import Derived.Test.YtfljgcpfmhhgcaaRdA
import Derived.Test.YtfljgcpfmhhgcaaRdBo
namespace Go.Proofs.Ytfljgcpfmhhgcaa
open Go.RowKit Go.Lab
attribute [local go_sem] Oper.semAt_some
theorem range_map27 (f : Nat → Value) : (List.range 27).map f = [f 0, f 1, f 2, f 3, f 4, f 5, f 6, f 7, f 8, f 9, f 10, f 11, f 12, f 13, f 14, f 15, f 16, f 17, f 18, f 19, f 20, f 21, f 22, f 23, f 24, f 25, f 26] := rfl
theorem frame27 (t : Array Value) (ds : List Deferred) (h : t.size = 27) : ({ tmps := t, defers := ds } : Act) = { tmps := #[slot t 0, slot t 1, slot t 2, slot t 3, slot t 4, slot t 5, slot t 6, slot t 7, slot t 8, slot t 9, slot t 10, slot t 11, slot t 12, slot t 13, slot t 14, slot t 15, slot t 16, slot t 17, slot t 18, slot t 19, slot t 20, slot t 21, slot t 22, slot t 23, slot t 24, slot t 25, slot t 26], defers := ds } := by
  have e : t = ((List.range 27).map (slot t)).toArray := by
    apply Array.ext
    · simp [h]
    · intro i h1 h2
      simp [slot, Array.getD, h1]
  rw [range_map27] at e
  exact congrArg (fun x => ({ tmps := x, defers := ds } : Act)) e
set_option maxRecDepth 100000 in
set_option maxHeartbeats 20000000 in
theorem sameRows_true (v u : Value) (l : List (List Int)) (w : World) (hv : TabAt w v l) (hu : TabAt w u l) : Calls Try.prog 32 #[v, u] w fun e w' => e = .returned (.bool true) ∧ Below w.heap.size w w' := by
  obtain ⟨a, c, rfl, hc, hm⟩ := TabOf.form hv
  obtain ⟨a2, c2, rfl, hc2, hm2⟩ := TabOf.form hu
  unfold maxLen at hm hm2
  have HV := hidep hv
  have HU := hidep hu
  have hnn : ((l.length : Int) != (l.length : Int)) = false := by simp
  clear hv hu
  go_enter Try.func32, Try.ntmps32
  go_upto_region 4 with (fail)
  refine wp_loop (LoopI 27 (fun tm ds wr => (slot tm 0) = .slice a l.length c ∧ (slot tm 1) = .slice a2 l.length c2 ∧ ds = [] ∧ ∃ i : Nat, i ≤ l.length ∧ (slot tm 5) = .int .i64 (i : Nat) ∧ Turned (fun _ => False) w wr)) (fun a' wr => l.length - (intOf (a'.tmps.getD 5 undef)).toNat) ?mainStart ?mainRound
  case' mainStart => refine LoopI.mk rfl ?_
  case' mainRound => (rintro ⟨t, ds⟩ wr ⟨hts, hrel⟩; dsimp only at hts hrel; rw [frame27 t ds hts])
  case mainStart => exact ⟨rfl, rfl, rfl, 0, Nat.zero_le _, rfl, Turned.refl _ _⟩
  obtain ⟨h0, h1, hds, i, hi, h5, hT⟩ := hrel
  subst hds
  rw [h0, h1, h5]
  clear h0 h1 h5 hts hnn
  by_cases hlt : i < l.length
  · have hi0 : (0 : Int) ≤ (i : Int) := by omega
    have hi1 : (i : Int) < (l.length : Int) := by omega
    obtain ⟨b, off, x, rfl, _, hx, hxi⟩ := tab_get HV.out hlt
    obtain ⟨b2, off2, y, rfl, _, hy, hyi⟩ := tab_get HU.out hlt
    have HS := hidep (fun X (hX : Turned (fun _ => False) wr X) => sameInts_any x y l[i] l[i] X ((IntsOf.at hxi).below (hT.trans hX).toBelow) ((IntsOf.at hyi).below (hT.trans hX).toBelow))
    have hdd : decide (l[i] = l[i]) = true := decide_eq_true rfl
    rw [hdd] at HS
    clear hdd
    have HC := hidep (show ∀ X, Turned (fun _ => False) wr X → X.cell? ⟨b, off + i, none⟩ = some x ∧ X.cell? ⟨b2, off2 + i, none⟩ = some y from fun X hX => ⟨(hT.trans hX).cell hx id, (hT.trans hX).cell hy id⟩)
    obtain ⟨xa, xc, rfl, _, _⟩ := hxi.1.form
    obtain ⟨ya, yc, rfl, _, _⟩ := hyi.1.form
    generalize l[i].length = m at *
    clear hx hy hxi hyi
    go_upto_region 6 with (fail)
    refine wp_region_noPanic (wp_region_held_drew (S := (fun X => Turned (fun _ => False) wr X)) (by kernel_rfl) ?hS32r6n0 (fun hHeld => ?hR32r6n0))
    case hS32r6n0 => ((try dsimp only); (exact (Turned.refl _ _).drew))
    refine wpAnyH_take (i := 0) (v := ?v32r6n0q1) rfl (by kernel_rfl) (by kernel_rfl) (by kernel_rfl) (fun _ _ _ h => h) (Or.inl ⟨by kernel_rfl, ?hy32r6n0q1⟩) (by assumption) ?hr32r6n0q1
    case hy32r6n0q1 => (intro w hSw; (try dsimp only at hSw); (obtain ⟨c1, c2⟩ := HC.out w hSw); first | (go_simp; done) | (go_simp; with_reducible rfl))
    refine wpAnyH_take (i := 1) (v := ?v32r6n0q2) rfl (by kernel_rfl) (by kernel_rfl) (by kernel_rfl) (fun _ _ _ h => h) (Or.inl ⟨by kernel_rfl, ?hy32r6n0q2⟩) (by assumption) ?hr32r6n0q2
    case hy32r6n0q2 => (intro w hSw; (try dsimp only at hSw); (obtain ⟨c1, c2⟩ := HC.out w hSw); first | (go_simp; done) | (go_simp; with_reducible rfl))
    refine wpAnyH_take (i := 2) (v := ?v32r6n0q3) rfl (by kernel_rfl) (by kernel_rfl) (by kernel_rfl) (fun _ _ _ h => h) (Or.inl ⟨by kernel_rfl, ?hy32r6n0q3⟩) (by assumption) ?hr32r6n0q3
    case hy32r6n0q3 => (intro w hSw; (try dsimp only at hSw); (obtain ⟨c1, c2⟩ := HC.out w hSw); first | (go_simp; done) | (go_simp; with_reducible rfl))
    refine wpAnyH_take (i := 3) (v := ?v32r6n0q4) rfl (by kernel_rfl) (by kernel_rfl) (by kernel_rfl) (fun _ _ _ h => h) (Or.inl ⟨by kernel_rfl, ?hy32r6n0q4⟩) (by assumption) ?hr32r6n0q4
    case hy32r6n0q4 => (intro w hSw; (try dsimp only at hSw); (obtain ⟨c1, c2⟩ := HC.out w hSw); first | (go_simp; done) | (go_simp; with_reducible rfl))
    refine wpAnyH_take (i := 4) (v := ?v32r6n0q5) rfl (by kernel_rfl) (by kernel_rfl) (by kernel_rfl) (fun _ _ _ h => h) (Or.inl ⟨by kernel_rfl, ?hy32r6n0q5⟩) (by assumption) ?hr32r6n0q5
    case hy32r6n0q5 => (intro w hSw; (try dsimp only at hSw); (obtain ⟨c1, c2⟩ := HC.out w hSw); first | (go_simp; done) | (go_simp; with_reducible rfl))
    refine wpAnyH_take (i := 5) (v := ?v32r6n0q6) rfl (by kernel_rfl) (by kernel_rfl) (by kernel_rfl) (fun _ _ _ h => h) (Or.inl ⟨by kernel_rfl, ?hy32r6n0q6⟩) (by assumption) ?hr32r6n0q6
    case hy32r6n0q6 => (intro w hSw; (try dsimp only at hSw); (obtain ⟨c1, c2⟩ := HC.out w hSw); first | (go_simp; done) | (go_simp; with_reducible rfl))
    refine wpAnyH_take (i := 6) (v := ?v32r6n0q7) rfl (by kernel_rfl) (by kernel_rfl) (by kernel_rfl) (fun _ _ _ h => h) (Or.inl ⟨by kernel_rfl, ?hy32r6n0q7⟩) (by assumption) ?hr32r6n0q7
    case hy32r6n0q7 => (intro w hSw; (try dsimp only at hSw); (obtain ⟨c1, c2⟩ := HC.out w hSw); first | (go_simp; done) | (go_simp; with_reducible rfl))
    refine wpAnyH_take (i := 7) (v := ?v32r6n0q8) rfl (by kernel_rfl) (by kernel_rfl) (by kernel_rfl) (fun _ _ _ h => h) (Or.inl ⟨by kernel_rfl, ?hy32r6n0q8⟩) (by assumption) ?hr32r6n0q8
    case hy32r6n0q8 => (intro w hSw; (try dsimp only at hSw); (obtain ⟨c1, c2⟩ := HC.out w hSw); first | (go_simp; done) | (go_simp; with_reducible rfl))
    refine wpAnyH_ready (rs := [8]) (by kernel_rfl) (by simp) (AllReadyH.cons rfl (fun K hK => ?hc32r6n0q9) AllReadyH.nil)
    go_simp
    (go_at_call 35; refine (HS.out _ hHeld).mono ?_; rintro e w8 ⟨rfl, d8, hd8⟩; have hb8 : Turned (fun _ => False) wr w8 := (by rw [hd8]; exact hHeld.below (below_drewN (Below.refl _ _) d8)); clear hd8; (try dsimp only))
    refine hK.out _ _ ?hs32r6n0q9 (fun hHeld32r6n0q9 => ?ht32r6n0q9)
    case hs32r6n0q9 => ((try dsimp only); (first | exact hb8))
    clear hHeld hK
    have hHeld := hHeld32r6n0q9
    clear hHeld32r6n0q9
    refine wpAnyH_take (i := 9) (v := ?v32r6n0q10) rfl (by kernel_rfl) (by kernel_rfl) (by kernel_rfl) (fun _ _ _ h => h) (Or.inl ⟨by kernel_rfl, ?hy32r6n0q10⟩) (by assumption) ?hr32r6n0q10
    case hy32r6n0q10 => (intro w hSw; (try dsimp only at hSw); (obtain ⟨c1, c2⟩ := HC.out w hSw); first | (go_simp; done) | (go_simp; with_reducible rfl))
    refine wpAnyH_done (by kernel_rfl) ?_ _
    clear hHeld
    refine NoPanic.normal ?_
    apply_assumption
    refine wp_cutA 27 (fun tm ds => ds = [] ∧ slot tm 0 = .slice (some ⟨b, off, none⟩) l.length c ∧ slot tm 1 = .slice (some ⟨b2, off2, none⟩) l.length c2 ∧ slot tm 5 = .int .i64 (i : Nat) ∧ slot tm 26 = .bool false) (by kernel_rfl) (by exact ⟨by kernel_rfl, by kernel_rfl, by kernel_rfl, by kernel_rfl, by kernel_rfl⟩) ?_
    rintro tm3 ds3 h27 ⟨rfl, e0, e1, e5, e26⟩
    rw [frame27 tm3 [] h27, e0, e1, e5, e26]
    clear h27 e0 e1 e5 e26
    have hT9 := hT.trans hb8
    clear hb8 hT
    go_wp2
    refine ⟨LoopI.mk rfl ⟨rfl, rfl, rfl, i + 1, by omega, by show Value.int _ _ = _; go_num, hT9⟩, ?_⟩
    show l.length - _ < l.length - _
    simp [intOf]; omega
  · go_wp2
    go_ret
    exact ⟨rfl, hT.toBelow⟩
set_option maxHeartbeats 2000000 in
theorem samePlan_true (vo1 vl1 vo2 vl2 : Value) (o : List Int) (s : Int) (l : List (List Int)) (w : World) (ho1 : IntsAt w vo1 o) (ho2 : IntsAt w vo2 o) (hl1 : TabAt w vl1 l) (hl2 : TabAt w vl2 l) :
    Calls Try.prog 20 #[.agg #[vo1, .int .i64 s, vl1], .agg #[vo2, .int .i64 s, vl2]] w fun e w' => e = .returned (.bool true) ∧ Below w.heap.size w w' := by
  obtain ⟨a1, c1, rfl, _, _⟩ := ho1.1.form
  obtain ⟨a2, c2, rfl, _, _⟩ := ho2.1.form
  obtain ⟨b1, d1, rfl, _, _⟩ := TabOf.form hl1
  obtain ⟨b2, d2, rfl, _, _⟩ := TabOf.form hl2
  have hwb := allocs_below [.cells #[.slice a1 o.length c1, .int .i64 s, .slice b1 l.length d1] 39, .cells #[.slice a2 o.length c2, .int .i64 s, .slice b2 l.length d2] 39] w
  have hq := allocs_get [.cells #[.slice a1 o.length c1, .int .i64 s, .slice b1 l.length d1] 39, .cells #[.slice a2 o.length c2, .int .i64 s, .slice b2 l.length d2] 39] w
  have hsz := allocs_size [.cells #[.slice a1 o.length c1, .int .i64 s, .slice b1 l.length d1] 39, .cells #[.slice a2 o.length c2, .int .i64 s, .slice b2 l.length d2] 39] w
  go_enter Try.func20, Try.ntmps20
  go_upto_region 1 with (fail)
  change Code.wp _ _ _ _ (allocs w [.cells #[.slice a1 o.length c1, .int .i64 s, .slice b1 l.length d1] 39, .cells #[.slice a2 o.length c2, .int .i64 s, .slice b2 l.length d2] 39])
  generalize allocs w [.cells #[.slice a1 o.length c1, .int .i64 s, .slice b1 l.length d1] 39, .cells #[.slice a2 o.length c2, .int .i64 s, .slice b2 l.length d2] 39] = W0 at *
  simp only [List.length_cons, List.length_nil] at hsz
  have HQ := hidep (show ∀ X, Below W0.heap.size W0 X → X.heap[w.heap.size]? = some (.cells #[.slice a1 o.length c1, .int .i64 s, .slice b1 l.length d1] 39) ∧ X.heap[w.heap.size + 1]? = some (.cells #[.slice a2 o.length c2, .int .i64 s, .slice b2 l.length d2] 39) from fun X hX => ⟨(hX.block _ (by omega)).trans (hq 0 _ rfl), (hX.block _ (by omega)).trans (hq 1 _ rfl)⟩)
  have HS := hidep (sameInts_any _ _ o o W0 (ho1.below hwb) (ho2.below hwb))
  rw [decide_eq_true (rfl : o = o)] at HS
  have HR := hidep (fun X (hX : Below W0.heap.size W0 X) => sameRows_true _ _ l X (TabAt.below (TabAt.below hl1 hwb) hX) (TabAt.below (TabAt.below hl2 hwb) hX))
  have HWB := hidep hwb
  obtain ⟨y0, y1, y2⟩ := box3_cells (HQ.out W0 (Below.refl _ _)).1
  obtain ⟨z0, z1, z2⟩ := box3_cells (HQ.out W0 (Below.refl _ _)).2
  clear hq hsz hwb ho1 ho2 hl1 hl2
  go_wp2_with (first
    | (go_at_call 35; refine HS.out.mono ?_; rintro e w1 ⟨rfl, d1, hd1⟩; have h1 : Below W0.heap.size W0 w1 := (by rw [hd1]; exact below_drewN (Below.refl _ _) d1); clear hd1; obtain ⟨y0, y1, y2⟩ := box3_cells (HQ.out w1 h1).1; obtain ⟨z0, z1, z2⟩ := box3_cells (HQ.out w1 h1).2)
    | (go_at_call 32; refine (HR.out _ h1).mono ?_; rintro e w2 ⟨rfl, h2⟩)
    | fail)
  go_ret
  exact ⟨rfl, HWB.out.trans ((h1.trans (h2.mono h1.size)).mono HWB.out.size)⟩
set_option maxHeartbeats 2000000 in
theorem plain_any (a b : Option Addr) (n m c d : Nat) (s : Int) (w : World) :
    Calls Try.prog 21 #[.agg #[.slice a n c, .int .i64 s, .slice b m d]] w fun e w' => e = .returned (.agg #[.slice a n c, .int .i64 s, .slice b m d]) ∧ Below w.heap.size w w' := by
  have hb : Below w.heap.size w ((w.alloc (.cells #[.slice a n c, .int .i64 s, .slice b m d] 35)).alloc (.cells #[.slice a n c, .int .i64 s, .slice b m d] 39)) := ((Below.refl _ _).alloc (Nat.le_refl _) _).alloc (by simp) _
  have HB := hidep hb
  clear hb
  go_enter Try.func21, Try.ntmps21
  go_wp2
  refine bodyPost_ret (results_cell1 rfl _ _ _ rfl (v1 := .agg #[.slice a n c, .int .i64 s, .slice b m d]) (by go_simp)) rfl ?_
  exact ⟨rfl, HB.out⟩
end Go.Proofs.Ytfljgcpfmhhgcaa
