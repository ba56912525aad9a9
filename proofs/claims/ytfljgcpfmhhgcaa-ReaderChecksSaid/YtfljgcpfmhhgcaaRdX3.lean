/- The walk of the law ReaderChecks. -/
import Derived.Test.YtfljgcpfmhhgcaaRdX2
import Derived.Test.YtfljgcpfmhhgcaaRdBn
import Derived.Test.YtfljgcpfmhhgcaaRdCr
namespace Go.Proofs.Ytfljgcpfmhhgcaa
open Go.RowKit Go.Lab
attribute [local go_sem] Oper.semAt_some
set_option maxRecDepth 100000
set_option maxHeartbeats 2000000 in
theorem own_any (a b : Option Addr) (n m c d : Nat) (s : Int) (w : World) :
    Calls Try.prog 24 #[.agg #[.slice a n c, .int .i64 s, .slice b m d]] w fun e w' => e = .returned (.agg #[.slice a n c, .int .i64 s, .slice b m d]) ∧ Below w.heap.size w w' := by
  have hb : Below w.heap.size w ((w.alloc (.cells #[.slice a n c, .int .i64 s, .slice b m d] 39)).alloc (.cells #[.slice a n c, .int .i64 s, .slice b m d] 35)) := ((Below.refl _ _).alloc (Nat.le_refl _) _).alloc (by simp) _
  have HB := hidep hb
  clear hb
  go_enter Try.func24, Try.ntmps24
  go_wp2
  refine bodyPost_ret (results_cell1 rfl _ _ _ rfl (v1 := .agg #[.slice a n c, .int .i64 s, .slice b m d]) (by go_simp)) rfl ?_
  exact ⟨rfl, HB.out⟩
/-- A plan that both Checks can be asked about. -/
def PlanOk (M : Int) (o : List Int) (tb : List (List Int)) : Prop := o.length ≤ 10 ∧ tb.length ≤ 1000 ∧ ∀ r ∈ tb, r.length ≤ 1000 ∧ ∀ x ∈ r, -M ≤ x ∧ x ≤ M
theorem checks_any (way : Int) (pl : List Pl) (need : List Int) (pv nv : Value) (hok : ∀ p ∈ pl, PlOk p) (o : List Int) (s : Int) (tb : List (List Int)) (vo vl : Value) (hp0 : PlanOk 1000000001000 o tb) (w : World) (hp : PlacesAt w pv pl) (hn : IntsAt w nv need) (ho : IntsAt w vo o) (hl : TabAt w vl tb) (z : Int) (hz : z = checkZ way pl need o s tb) :
    (Calls Try.prog 23 #[.int .i64 way, pv, nv, .agg #[vo, .int .i64 s, vl]] w fun e w' => e = .returned (.int .i64 z) ∧ Below w.heap.size w w') ∧
    (Calls Try.prog 25 #[.int .i64 way, pv, nv, .agg #[vo, .int .i64 s, vl]] w fun e w' => e = .returned (.int .i64 z) ∧ Below w.heap.size w w') := by
  subst hz
  have hT : ∀ r ∈ tb, ∀ x ∈ r, -1152921504606846976 ≤ x ∧ x ≤ 1152921504606846976 := fun r hr x hx => by
    have := (hp0.2.2 r hr).2 x hx
    omega
  exact ⟨check_any way pl need o s tb pv nv vo vl hok hT (by have := hp0.1; omega) w hp hn ho hl, check30_any way pl need o s tb pv nv vo vl hok hT (by have := hp0.1; omega) w hp hn ho hl⟩
/-- The reference's Bent on a plan that is in order. -/
theorem bent_ok (M : Int) (hM : 0 ≤ M ∧ M ≤ 1000000000996) (k : Nat) (hk : k ≤ 8) (o : List Int) (s : Int) (tb : List (List Int)) (vo vl : Value) (x1 x2 x3 : Int) (hp0 : PlanOk M o tb) (hol : o.length ≤ k)
    (h1 : -9223372036854775808 ≤ x1 ∧ x1 ≤ 9223372036854775807) (h2 : -9223372036854775808 ≤ x2 ∧ x2 ≤ 9223372036854775807) (h3 : -9223372036854775808 ≤ x3 ∧ x3 ≤ 9223372036854775807) (w : World) (ho : IntsAt w vo o) (hl : TabAt w vl tb) :
    Calls Try.prog 22 #[.agg #[vo, .int .i64 s, vl], .int .i64 x1, .int .i64 x2, .int .i64 x3] w fun e w' => ∃ (oa : Option Addr) (oc : Nat) (la : Option Addr) (lc : Nat) (o' : List Int) (s' : Int) (tb' : List (List Int)), e = .returned (.agg #[.slice oa o'.length oc, .int .i64 s', .slice la tb'.length lc]) ∧ IntsAt w' (.slice oa o'.length oc) o' ∧ TabAt w' (.slice la tb'.length lc) tb' ∧ (PlanOk (M + 4) o' tb' ∧ o'.length ≤ k + 1) ∧ Below w.heap.size w w' := by
  refine (bent30_any o s tb vo vl x1 x2 x3 M (by omega) hp0.2.2 (by omega) hp0.2.1 h1 h2 h3 w ho hl).mono ?_
  rintro e w' ⟨vo', o', s', vl', tb', rfl, ho', hl', hol', htl', hr', hb'⟩
  obtain ⟨oa, oc, rfl, _, _⟩ := ho'.1.form
  obtain ⟨la, lc, rfl, _, _⟩ := TabOf.form hl'
  exact ⟨oa, oc, la, lc, o', s', tb', rfl, ho'.at, hl'.at, ⟨⟨by omega, by have := hp0.2.1; omega, hr'⟩, by omega⟩, hb'⟩
def ChecksI (W7 : World) (s22 : Value) (wr : World) : Prop := ∃ i : Nat, i ≤ 4 ∧ s22 = .int .i64 (i : Nat) ∧ Below W7.heap.size W7 wr
set_option maxRecDepth 100000 in
set_option maxHeartbeats 40000000 in
theorem lawChecks_any (v vr : Value) (l raw : List Int) (way bits at_ how by_ : Int) (w : World) (hl : IntsAt w v l) (hr : IntsAt w vr raw) (hway : -9223372036854775808 ≤ way ∧ way ≤ 9223372036854775807) (hbits : -9223372036854775808 ≤ bits ∧ bits ≤ 9223372036854775807)
    (hat : -9223372036854775808 ≤ at_ ∧ at_ ≤ 9223372036854775807) (hhow : -9223372036854775808 ≤ how ∧ how ≤ 9223372036854775807) (hby : -9223372036854775808 ≤ by_ ∧ by_ ≤ 9223372036854775807) :
    Calls Try.prog 5 #[v, .int .i64 way, .int .i64 bits, .int .i64 at_, .int .i64 how, .int .i64 by_, vr] w fun e w' => e = .returned (.bool true) ∧ Below w.heap.size w w' := by
  obtain ⟨a, c, rfl, hca, hma⟩ := hl.1.form
  obtain ⟨ra, rc, rfl, hrca, hrma⟩ := hr.1.form
  have HPL := hidep (fun b => places30_any _ l b w hl)
  have hwr := aroundZ_rng way 4 (by omega)
  have HAR := hidep (fun W => around_any way 4 W hway.1 hway.2)
  obtain ⟨wy, hwy⟩ : ∃ wy, wy = aroundZ way 4 := ⟨_, rfl⟩
  rw [← hwy] at HAR hwr
  have HRW := hidep (fun W (hW : Below w.heap.size w W) => take01_any _ raw W (hr.below hW))
  obtain ⟨r9, hr9⟩ : ∃ r9, r9 = raw.take 9 := ⟨_, rfl⟩
  rw [← hr9] at HRW
  clear hl hr hway hwy hr9
  go_enter Try.func5, Try.ntmps5
  go_upto_region 4 with (first
    | (go_at_call 11; refine (HPL.out _).mono ?_; rintro e w1 ⟨u, L, rfl, hown, hmade, hb1⟩; have hpx : PlacesAt w1 u L := (Rd.of_own hown).mono (fun _ _ => trivial); obtain ⟨ua, uc, rfl, _, _⟩ := PlacesAt.form hpx; have HND := hidep (need30_any _ L bits w1 hpx (by have := hmade.1; omega) hbits))
    | (go_at_call 15; refine (HAR.out _).mono ?_; rintro e w2 ⟨rfl, rfl⟩)
    | (go_at_call 16; refine HND.out.mono ?_; rintro e w3 ⟨nu, need, rfl, hnown, hneed, hb3⟩)
    | fail)
  have hpx3 : PlacesAt w3 (.slice ua L.length uc) L := hpx.below hb3
  have hn6 := hneed.1
  have hnr : ∀ x ∈ need, -9223372036854775808 ≤ x ∧ x ≤ 9223372036854775807 := fun x hx => by
    have := hneed.2.2 x hx
    have := hmade.1
    omega
  have hnx3 : IntsAt w3 nu need := ⟨(Rd.of_own hnown).mono (fun _ _ => trivial), hnr⟩
  obtain ⟨na, nc, rfl, _, _⟩ := hnx3.1.form
  have hlen : L.length ≤ 9 := hmade.1
  have hokL : ∀ p ∈ L, PlOk p := fun p hp => (hmade.2.1 p hp).ok
  have HOK := hidep hokL
  have htz := task_zero (way := wy) hneed (by omega) (by omega)
  obtain ⟨o, ho⟩ : ∃ o, o = orderZ wy (needL L need) need := ⟨_, rfl⟩
  obtain ⟨st, hst⟩ : ∃ st, st = restV wy (needL L need) (2 ^ need.length - 1) pl0 := ⟨_, rfl⟩
  obtain ⟨tb, htb⟩ : ∃ tb, tb = tabL wy (needL L need) := ⟨_, rfl⟩
  have hn8 : need.length ≤ 8 := by omega
  have hpk : PlanOk 1000000000000 o tb := by
    refine ⟨by rw [ho, (orderZ_perm hn8).length_eq]; omega, ?_, fun r hr => ?_⟩
    · rw [htb]
      unfold tabL
      rw [List.length_map, List.length_range, needL_len]
      have := two_pow_lt hn8
      omega
    · rw [htb] at hr
      obtain ⟨s, hs, rfl⟩ := List.mem_map.1 hr
      rw [List.mem_range, needL_len] at hs
      have := two_pow_lt hn8
      refine ⟨by rw [rowL_len, needL_len]; omega, fun x hx => ?_⟩
      obtain ⟨k, _, rfl⟩ := List.mem_map.1 hx
      have := tabV_bd (way := wy) (needL_ok (need := need) hokL) (s := s) (by omega) k
      omega
  have hol6 : o.length ≤ 6 := by rw [ho, (orderZ_perm hn8).length_eq]; exact hn6
  have HG := hidep (best_gen wy L need (.slice ua L.length uc) (.slice na need.length nc) hokL w3 hpx3 hnx3 o st 0 tb htz.symm (by rw [if_pos htz]; exact ho) (by rw [if_pos htz]; exact hst) (by rw [if_pos htz]; exact htb)).2
  have HB3 := hidep (hb1.trans (hb3.mono hb1.size))
  have HPX := hidep hpx3
  have HNX := hidep hnx3
  have HPK := hidep hpk
  clear hpx hpx3 hnx3 hown hnown hmade hb1 hb3 HPL HND hnr hneed hokL hbits ho hst htb htz hpk hn8 hn6
  go_upto_region 5 with (first
    | (go_at_call 19; refine HG.out.mono ?_; rintro e w4 ⟨h4, oa, oc, la, lc, rfl, ho1, hl1⟩)
    | fail)
  obtain ⟨W4, hW4⟩ : ∃ W4, W4 = w4.alloc (.cells #[.slice oa o.length oc, .int .i64 st, .slice la tb.length lc] 39) := ⟨_, rfl⟩
  have hq4 : W4.heap[w4.heap.size]? = some (.cells #[.slice oa o.length oc, .int .i64 st, .slice la tb.length lc] 39) := by rw [hW4]; exact heap_alloc_new _ _
  have hb44 : Below w4.heap.size w4 W4 := by rw [hW4]; exact (Below.refl _ _).alloc (Nat.le_refl _) _
  rw [← hW4]
  obtain ⟨P1, hP1⟩ : ∃ P1, P1 = w4.heap.size := ⟨_, rfl⟩
  rw [← hP1] at hq4 ⊢
  have h34 := h4.trans (hb44.mono h4.size)
  have HR4 := hidep (show ∀ X, Below W4.heap.size W4 X → X.heap[P1]? = some (.cells #[.slice oa o.length oc, .int .i64 st, .slice la tb.length lc] 39) ∧ IntsAt X (.slice oa o.length oc) o ∧ TabAt X (.slice la tb.length lc) tb from fun X hX => ⟨below_push hX hq4, (IntsOf.at (ho1.keeps (Keeps.below _ hb44))).below hX, (TabOf.at (hl1.keeps (Keeps.below _ hb44))).below hX⟩)
  have H34 := hidep h34
  clear hW4 hq4 hb44 hP1 h4 ho1 hl1 h34 HG
  have HBT := hidep (bent_ok 1000000000000 (by omega) 6 (by omega) o st tb (.slice oa o.length oc) (.slice la tb.length lc) at_ how by_ HPK.out hol6 hat hhow hby W4 (HR4.out W4 (Below.refl _ _)).2.1 (HR4.out W4 (Below.refl _ _)).2.2)
  obtain ⟨y0, y1, y2⟩ := box3_cells (HR4.out W4 (Below.refl _ _)).1
  go_upto_region 6 with (first
    | (go_at_call 22; refine HBT.out.mono ?_; rintro e w5 ⟨oa5, oc5, la5, lc5, o5, st5, tb5, rfl, ho5, hl5, hpk5, h5⟩)
    | fail)
  obtain ⟨W5, hW5⟩ : ∃ W5, W5 = w5.alloc (.cells #[.slice oa5 o5.length oc5, .int .i64 st5, .slice la5 tb5.length lc5] 39) := ⟨_, rfl⟩
  have hq5 : W5.heap[w5.heap.size]? = some (.cells #[.slice oa5 o5.length oc5, .int .i64 st5, .slice la5 tb5.length lc5] 39) := by rw [hW5]; exact heap_alloc_new _ _
  have hb55 : Below w5.heap.size w5 W5 := by rw [hW5]; exact (Below.refl _ _).alloc (Nat.le_refl _) _
  rw [← hW5]
  obtain ⟨P2, hP2⟩ : ∃ P2, P2 = w5.heap.size := ⟨_, rfl⟩
  rw [← hP2] at hq5 ⊢
  have h45 := h5.trans (hb55.mono h5.size)
  have HR5 := hidep (show ∀ X, Below W5.heap.size W5 X → (X.heap[P1]? = some (.cells #[.slice oa o.length oc, .int .i64 st, .slice la tb.length lc] 39) ∧ IntsAt X (.slice oa o.length oc) o ∧ TabAt X (.slice la tb.length lc) tb) ∧ X.heap[P2]? = some (.cells #[.slice oa5 o5.length oc5, .int .i64 st5, .slice la5 tb5.length lc5] 39) ∧ IntsAt X (.slice oa5 o5.length oc5) o5 ∧ TabAt X (.slice la5 tb5.length lc5) tb5 from fun X hX => ⟨HR4.out X (h45.trans (hX.mono h45.size)), below_push hX hq5, (ho5.below hb55).below hX, (TabAt.below hl5 hb55).below hX⟩)
  have H35 := hidep (H34.out.trans (h45.mono H34.out.size))
  have HPK5 := hidep hpk5
  clear hW5 hq5 hb55 hP2 h5 ho5 hl5 h45 hpk5 HBT HR4 H34 y0 y1 y2
  have HBT := hidep (fun X (hX : Below W5.heap.size W5 X) (x2 : Int) (hx2 : -9223372036854775808 ≤ x2 ∧ x2 ≤ 9223372036854775807) => bent_ok 1000000000004 (by omega) 7 (by omega) o5 st5 tb5 (.slice oa5 o5.length oc5) (.slice la5 tb5.length lc5) by_ x2 at_ HPK5.out.1 HPK5.out.2 hby hx2 hat X (HR5.out X hX).2.2.1 (HR5.out X hX).2.2.2)
  refine wp_region_noPanic (wp_region_held_drew (S := (fun X => Below W5.heap.size W5 X)) (by kernel_rfl) ?hS5r6n0 (fun hHeld => ?hR5r6n0))
  case hS5r6n0 => ((try dsimp only); (exact (Below.refl _ _).drew))
  refine wpAnyH_take (i := 0) (v := ?v5r6n0q1) rfl (by kernel_rfl) (by kernel_rfl) (by kernel_rfl) (fun _ _ _ h => h) (Or.inl ⟨by kernel_rfl, ?hy5r6n0q1⟩) (by assumption) ?hr5r6n0q1
  case hy5r6n0q1 => (intro w hSw; (try dsimp only at hSw); (obtain ⟨⟨x1, _⟩, x2, _⟩ := HR5.out w hSw; obtain ⟨c1, c2, c3⟩ := box3_cells x1; obtain ⟨d1, d2, d3⟩ := box3_cells x2; clear x1 x2); first | (go_simp; done) | (go_simp; with_reducible rfl))
  refine wpAnyH_take (i := 1) (v := ?v5r6n0q2) rfl (by kernel_rfl) (by kernel_rfl) (by kernel_rfl) (fun _ _ _ h => h) (Or.inl ⟨by kernel_rfl, ?hy5r6n0q2⟩) (by assumption) ?hr5r6n0q2
  case hy5r6n0q2 => (intro w hSw; (try dsimp only at hSw); (obtain ⟨⟨x1, _⟩, x2, _⟩ := HR5.out w hSw; obtain ⟨c1, c2, c3⟩ := box3_cells x1; obtain ⟨d1, d2, d3⟩ := box3_cells x2; clear x1 x2); first | (go_simp; done) | (go_simp; with_reducible rfl))
  refine wpAnyH_take (i := 2) (v := ?v5r6n0q3) rfl (by kernel_rfl) (by kernel_rfl) (by kernel_rfl) (fun _ _ _ h => h) (Or.inl ⟨by kernel_rfl, ?hy5r6n0q3⟩) (by assumption) ?hr5r6n0q3
  case hy5r6n0q3 => (intro w hSw; (try dsimp only at hSw); (obtain ⟨⟨x1, _⟩, x2, _⟩ := HR5.out w hSw; obtain ⟨c1, c2, c3⟩ := box3_cells x1; obtain ⟨d1, d2, d3⟩ := box3_cells x2; clear x1 x2); first | (go_simp; done) | (go_simp; with_reducible rfl))
  refine wpAnyH_take (i := 3) (v := ?v5r6n0q4) rfl (by kernel_rfl) (by kernel_rfl) (by kernel_rfl) (fun _ _ _ h => h) (Or.inl ⟨by kernel_rfl, ?hy5r6n0q4⟩) (by assumption) ?hr5r6n0q4
  case hy5r6n0q4 => (intro w hSw; (try dsimp only at hSw); (obtain ⟨⟨x1, _⟩, x2, _⟩ := HR5.out w hSw; obtain ⟨c1, c2, c3⟩ := box3_cells x1; obtain ⟨d1, d2, d3⟩ := box3_cells x2; clear x1 x2); first | (go_simp; done) | (go_simp; with_reducible rfl))
  refine wpAnyH_take (i := 4) (v := ?v5r6n0q5) rfl (by kernel_rfl) (by kernel_rfl) (by kernel_rfl) (fun _ _ _ h => h) (Or.inl ⟨by kernel_rfl, ?hy5r6n0q5⟩) (by assumption) ?hr5r6n0q5
  case hy5r6n0q5 => (intro w hSw; (try dsimp only at hSw); (obtain ⟨⟨x1, _⟩, x2, _⟩ := HR5.out w hSw; obtain ⟨c1, c2, c3⟩ := box3_cells x1; obtain ⟨d1, d2, d3⟩ := box3_cells x2; clear x1 x2); first | (go_simp; done) | (go_simp; with_reducible rfl))
  refine wpAnyH_take (i := 5) (v := ?v5r6n0q6) rfl (by kernel_rfl) (by kernel_rfl) (by kernel_rfl) (fun _ _ _ h => h) (Or.inl ⟨by kernel_rfl, ?hy5r6n0q6⟩) (by assumption) ?hr5r6n0q6
  case hy5r6n0q6 => (intro w hSw; (try dsimp only at hSw); (obtain ⟨⟨x1, _⟩, x2, _⟩ := HR5.out w hSw; obtain ⟨c1, c2, c3⟩ := box3_cells x1; obtain ⟨d1, d2, d3⟩ := box3_cells x2; clear x1 x2); first | (go_simp; done) | (go_simp; with_reducible rfl))
  refine wpAnyH_take (i := 6) (v := ?v5r6n0q7) rfl (by kernel_rfl) (by kernel_rfl) (by kernel_rfl) (fun _ _ _ h => h) (Or.inl ⟨by kernel_rfl, ?hy5r6n0q7⟩) (by assumption) ?hr5r6n0q7
  case hy5r6n0q7 => (intro w hSw; (try dsimp only at hSw); (obtain ⟨⟨x1, _⟩, x2, _⟩ := HR5.out w hSw; obtain ⟨c1, c2, c3⟩ := box3_cells x1; obtain ⟨d1, d2, d3⟩ := box3_cells x2; clear x1 x2); first | (go_simp; done) | (go_simp; with_reducible rfl))
  refine wpAnyH_take (i := 8) (v := ?v5r6n0q8) rfl (by kernel_rfl) (by kernel_rfl) (by kernel_rfl) (fun _ _ _ h => h) (Or.inl ⟨by kernel_rfl, ?hy5r6n0q8⟩) (by assumption) ?hr5r6n0q8
  case hy5r6n0q8 => (intro w hSw; (try dsimp only at hSw); (obtain ⟨⟨x1, _⟩, x2, _⟩ := HR5.out w hSw; obtain ⟨c1, c2, c3⟩ := box3_cells x1; obtain ⟨d1, d2, d3⟩ := box3_cells x2; clear x1 x2); first | (go_simp; done) | (go_simp; with_reducible rfl))
  refine wpAnyH_ready (rs := [7]) (by kernel_rfl) (by simp) (AllReadyH.cons rfl (fun K hK => ?hc5r6n0q9) AllReadyH.nil)
  go_simp
  (go_at_call 22; refine (HBT.out _ hHeld _ (by rw [IntKind.wrap_i64]; omega)).mono ?_; rintro e w6 ⟨oa6, oc6, la6, lc6, o6, st6, tb6, rfl, ho6, hl6, hpk6, h6⟩; have hk6 := hHeld.trans (h6.mono hHeld.size); (try dsimp only))
  refine hK.out _ _ ?hs5r6n0q9 (fun hHeld5r6n0q9 => ?ht5r6n0q9)
  case hs5r6n0q9 => ((try dsimp only); (first | (with_reducible exact hHeld) | (with_reducible exact hk6) | (with_reducible exact hk6.alloc hk6.size _)))
  clear hHeld hK
  have hHeld := hHeld5r6n0q9
  clear hHeld5r6n0q9
  refine wpAnyH_ready (rs := [9]) (by kernel_rfl) (by simp) (AllReadyH.cons rfl (fun K hK => ?hc5r6n0q10) AllReadyH.nil)
  go_simp
  refine hK.out _ _ ?hs5r6n0q10 (fun hHeld5r6n0q10 => ?ht5r6n0q10)
  case hs5r6n0q10 => ((try dsimp only); (first | (with_reducible exact hHeld) | (with_reducible exact hk6) | (with_reducible exact hk6.alloc hk6.size _)))
  clear hHeld hK
  have hHeld := hHeld5r6n0q10
  clear hHeld5r6n0q10
  refine wpAnyH_take (i := 10) (v := ?v5r6n0q11) rfl (by kernel_rfl) (by kernel_rfl) (by kernel_rfl) (fun _ _ _ h => h) (Or.inl ⟨by kernel_rfl, ?hy5r6n0q11⟩) (by assumption) ?hr5r6n0q11
  case hy5r6n0q11 => (intro w hSw; (try dsimp only at hSw); (obtain ⟨⟨x1, _⟩, x2, _⟩ := HR5.out w hSw; obtain ⟨c1, c2, c3⟩ := box3_cells x1; obtain ⟨d1, d2, d3⟩ := box3_cells x2; clear x1 x2); first | (go_simp; done) | (go_simp; with_reducible rfl))
  refine wpAnyH_done (by kernel_rfl) ?_ _
  clear hHeld
  refine NoPanic.normal ?_
  have hk6 : Below W5.heap.size W5 w6 := hk6
  apply_assumption
  obtain ⟨W7, hW7⟩ : ∃ W7, W7 = w6.alloc (.cells #[.slice oa o.length oc, .int .i64 st, .slice la tb.length lc, .slice oa5 o5.length oc5, .int .i64 st5, .slice la5 tb5.length lc5, .slice oa6 o6.length oc6, .int .i64 st6, .slice la6 tb6.length lc6, .slice none 0 0, .int .i64 0, .slice none 0 0] 39) := ⟨_, rfl⟩
  have hq7 : W7.heap[w6.heap.size]? = some (.cells #[.slice oa o.length oc, .int .i64 st, .slice la tb.length lc, .slice oa5 o5.length oc5, .int .i64 st5, .slice la5 tb5.length lc5, .slice oa6 o6.length oc6, .int .i64 st6, .slice la6 tb6.length lc6, .slice none 0 0, .int .i64 0, .slice none 0 0] 39) := by rw [hW7]; exact heap_alloc_new _ _
  have hb67 : Below w6.heap.size w6 W7 := by rw [hW7]; exact (Below.refl _ _).alloc (Nat.le_refl _) _
  rw [← hW7]
  obtain ⟨LB, hLB⟩ : ∃ LB, LB = w6.heap.size := ⟨_, rfl⟩
  rw [← hLB] at hq7 ⊢
  have h57 := hk6.trans (hb67.mono hk6.size)
  have HW7 := hidep (show ∀ X, Below W7.heap.size W7 X → Below W5.heap.size W5 X from fun X hX => h57.trans (hX.mono h57.size))
  have HLISTS := hidep (show ∀ i, i < 4 → ∃ (xa : Option Addr) (xc : Nat) (ya : Option Addr) (yc : Nat) (xo : List Int) (xs : Int) (xt : List (List Int)), PlanOk 1000000001000 xo xt ∧ ∀ X, Below W7.heap.size W7 X → (X.cell? ⟨LB, i * 3, none⟩ = some (.slice xa xo.length xc) ∧ X.cell? ⟨LB, i * 3 + 1, none⟩ = some (.int .i64 xs) ∧ X.cell? ⟨LB, i * 3 + 2, none⟩ = some (.slice ya xt.length yc)) ∧ IntsAt X (.slice xa xo.length xc) xo ∧ TabAt X (.slice ya xt.length yc) xt from fun i hi => by
    have h4 : i = 0 ∨ i = 1 ∨ i = 2 ∨ i = 3 := by omega
    have hcell : ∀ X, Below W7.heap.size W7 X → X.heap[LB]? = _ := fun X hX => below_push hX hq7
    have hmono : ∀ {M : Int} {o : List Int} {tb : List (List Int)}, M ≤ 1000000001000 → PlanOk M o tb → PlanOk 1000000001000 o tb := fun hM h => ⟨h.1, h.2.1, fun r hr => ⟨(h.2.2 r hr).1, fun x hx => by
      have := (h.2.2 r hr).2 x hx
      omega⟩⟩
    rcases h4 with rfl | rfl | rfl | rfl
    · exact ⟨oa, oc, la, lc, o, st, tb, hmono (by omega) HPK.out, fun X hX => ⟨⟨by simp [World.cell?, hcell X hX], by simp [World.cell?, hcell X hX], by simp [World.cell?, hcell X hX]⟩, (HR5.out X (HW7.out X hX)).1.2⟩⟩
    · exact ⟨oa5, oc5, la5, lc5, o5, st5, tb5, hmono (by omega) HPK5.out.1, fun X hX => ⟨⟨by simp [World.cell?, hcell X hX], by simp [World.cell?, hcell X hX], by simp [World.cell?, hcell X hX]⟩, (HR5.out X (HW7.out X hX)).2.2⟩⟩
    · exact ⟨oa6, oc6, la6, lc6, o6, st6, tb6, hmono (by omega) hpk6.1, fun X hX => ⟨⟨by simp [World.cell?, hcell X hX], by simp [World.cell?, hcell X hX], by simp [World.cell?, hcell X hX]⟩, (ho6.below hb67).below hX, (TabAt.below hl6 hb67).below hX⟩⟩
    · exact ⟨none, 0, none, 0, [], 0, [], ⟨by simp, by simp, fun r hr => by cases hr⟩, fun X hX => ⟨⟨by simp [World.cell?, hcell X hX], by simp [World.cell?, hcell X hX], by simp [World.cell?, hcell X hX]⟩, (IntsOf.nil (fun _ => True) _).at, TabOf.nil _ _⟩⟩)
  have H37 := hidep (H35.out.trans (h57.mono H35.out.size))
  refine wp_cutA 95 (fun tm ds => ds = [] ∧ slot tm 1 = .int .i64 way ∧ slot tm 6 = .slice ra raw.length rc ∧ slot tm 15 = .slice ua L.length uc ∧ slot tm 16 = .int .i64 wy ∧ slot tm 17 = .slice na need.length nc ∧ slot tm 18 = .pointer (some ⟨P1, 0, none⟩) ∧ slot tm 21 = .slice (some ⟨LB, 0, none⟩) 4 4) (by kernel_rfl) (by exact ⟨by kernel_rfl, by kernel_rfl, by kernel_rfl, by kernel_rfl, by kernel_rfl, by kernel_rfl, by kernel_rfl, by kernel_rfl⟩) ?_
  rintro tm1 ds1 h95 ⟨rfl, e1, e6, e15, e16, e17, e18, e21⟩
  rw [frame95 tm1 [] h95, e1, e6, e15, e16, e17, e18, e21]
  clear h95 e1 e6 e15 e16 e17 e18 e21 hW7 hq7 hb67 hLB hk6 h57 ho6 hl6 hpk6 HBT h6
  go_upto_region 8 with (fail)
  refine wp_loop (LoopI 95 (fun tm ds wr => (slot tm 1) = .int .i64 way ∧ (slot tm 6) = .slice ra raw.length rc ∧ (slot tm 15) = .slice ua L.length uc ∧ (slot tm 16) = .int .i64 wy ∧ (slot tm 17) = .slice na need.length nc ∧ (slot tm 18) = .pointer (some ⟨P1, 0, none⟩) ∧ (slot tm 21) = .slice (some ⟨LB, 0, none⟩) 4 4 ∧ ds = [] ∧ ChecksI W7 (slot tm 22) wr)) (fun a' wr => 4 - (intOf (a'.tmps.getD 22 undef)).toNat) ?mainStart ?mainRound
  case' mainStart => refine LoopI.mk rfl ?_
  case' mainRound => (rintro ⟨t, ds⟩ wr ⟨hts, hrel⟩; dsimp only at hts hrel; rw [frame95 t ds hts])
  case mainStart => exact ⟨rfl, rfl, rfl, rfl, rfl, rfl, rfl, rfl, 0, by omega, rfl, Below.refl _ _⟩
  obtain ⟨h1, h6, h15, h16, h17, h18, h21, hds, i, hi, h22, hbw⟩ := hrel
  subst hds
  rw [h1, h6, h15, h16, h17, h18, h21, h22]
  clear h1 h6 h15 h16 h17 h18 h21 h22 hts
  have H3r := hidep (H37.out.trans (hbw.mono H37.out.size))
  by_cases hlt : i < 4
  · have hi0 : (0 : Int) ≤ (i : Int) := by omega
    have hi1 : (i : Int) < 4 := by omega
    obtain ⟨xa, xc, ya, yc, xo, xs, xt, hpx, HX0⟩ := HLISTS.out i hlt
    have HX := hidep (show ∀ X, Below wr.heap.size wr X → (X.cell? ⟨LB, i * 3, none⟩ = some (.slice xa xo.length xc) ∧ X.cell? ⟨LB, i * 3 + 1, none⟩ = some (.int .i64 xs) ∧ X.cell? ⟨LB, i * 3 + 2, none⟩ = some (.slice ya xt.length yc)) from fun X hX => (HX0 X (hbw.trans (hX.mono hbw.size))).1)
    obtain ⟨z, hz⟩ : ∃ z, z = checkZ wy L need xo xs xt := ⟨_, rfl⟩
    have HC := hidep (fun X (hX : Below wr.heap.size wr X) => checks_any wy L need (.slice ua L.length uc) (.slice na need.length nc) HOK.out xo xs xt (.slice xa xo.length xc) (.slice ya xt.length yc) hpx X (HPX.out.below (H3r.out.trans (hX.mono H3r.out.size))) (HNX.out.below (H3r.out.trans (hX.mono H3r.out.size))) (HX0 X (hbw.trans (hX.mono hbw.size))).2.1 (HX0 X (hbw.trans (hX.mono hbw.size))).2.2 z hz)
    have hzz : (z != z) = false := by simp
    clear hz HX0 hpx
    go_upto_region 10 with (fail)
    refine wp_region_noPanic (wp_region_held_drew (S := (fun X => Below wr.heap.size wr X)) (by kernel_rfl) ?hS5r10n1 (fun hHeld => ?hR5r10n1))
    case hS5r10n1 => ((try dsimp only); (exact (Below.refl _ _).drew))
    refine wpAnyH_take (i := 0) (v := ?v5r10n1q1) rfl (by kernel_rfl) (by kernel_rfl) (by kernel_rfl) (fun _ _ _ h => h) (Or.inl ⟨by kernel_rfl, ?hy5r10n1q1⟩) (by assumption) ?hr5r10n1q1
    case hy5r10n1q1 => (intro w hSw; (try dsimp only at hSw); (obtain ⟨c1, c2, c3⟩ := HX.out w hSw); first | (go_simp; done) | (go_simp; with_reducible rfl))
    refine wpAnyH_take (i := 1) (v := ?v5r10n1q2) rfl (by kernel_rfl) (by kernel_rfl) (by kernel_rfl) (fun _ _ _ h => h) (Or.inl ⟨by kernel_rfl, ?hy5r10n1q2⟩) (by assumption) ?hr5r10n1q2
    case hy5r10n1q2 => (intro w hSw; (try dsimp only at hSw); (obtain ⟨c1, c2, c3⟩ := HX.out w hSw); first | (go_simp; done) | (go_simp; with_reducible rfl))
    refine wpAnyH_take (i := 2) (v := ?v5r10n1q3) rfl (by kernel_rfl) (by kernel_rfl) (by kernel_rfl) (fun _ _ _ h => h) (Or.inl ⟨by kernel_rfl, ?hy5r10n1q3⟩) (by assumption) ?hr5r10n1q3
    case hy5r10n1q3 => (intro w hSw; (try dsimp only at hSw); (obtain ⟨c1, c2, c3⟩ := HX.out w hSw); first | (go_simp; done) | (go_simp; with_reducible rfl))
    refine wpAnyH_take (i := 3) (v := ?v5r10n1q4) rfl (by kernel_rfl) (by kernel_rfl) (by kernel_rfl) (fun _ _ _ h => h) (Or.inl ⟨by kernel_rfl, ?hy5r10n1q4⟩) (by assumption) ?hr5r10n1q4
    case hy5r10n1q4 => (intro w hSw; (try dsimp only at hSw); (obtain ⟨c1, c2, c3⟩ := HX.out w hSw); first | (go_simp; done) | (go_simp; with_reducible rfl))
    refine wpAnyH_take (i := 4) (v := ?v5r10n1q5) rfl (by kernel_rfl) (by kernel_rfl) (by kernel_rfl) (fun _ _ _ h => h) (Or.inl ⟨by kernel_rfl, ?hy5r10n1q5⟩) (by assumption) ?hr5r10n1q5
    case hy5r10n1q5 => (intro w hSw; (try dsimp only at hSw); (obtain ⟨c1, c2, c3⟩ := HX.out w hSw); first | (go_simp; done) | (go_simp; with_reducible rfl))
    refine wpAnyH_take (i := 5) (v := ?v5r10n1q6) rfl (by kernel_rfl) (by kernel_rfl) (by kernel_rfl) (fun _ _ _ h => h) (Or.inl ⟨by kernel_rfl, ?hy5r10n1q6⟩) (by assumption) ?hr5r10n1q6
    case hy5r10n1q6 => (intro w hSw; (try dsimp only at hSw); (obtain ⟨c1, c2, c3⟩ := HX.out w hSw); first | (go_simp; done) | (go_simp; with_reducible rfl))
    refine wpAnyH_take (i := 6) (v := ?v5r10n1q7) rfl (by kernel_rfl) (by kernel_rfl) (by kernel_rfl) (fun _ _ _ h => h) (Or.inl ⟨by kernel_rfl, ?hy5r10n1q7⟩) (by assumption) ?hr5r10n1q7
    case hy5r10n1q7 => (intro w hSw; (try dsimp only at hSw); (obtain ⟨c1, c2, c3⟩ := HX.out w hSw); first | (go_simp; done) | (go_simp; with_reducible rfl))
    refine wpAnyH_take (i := 9) (v := ?v5r10n1q8) rfl (by kernel_rfl) (by kernel_rfl) (by kernel_rfl) (fun _ _ _ h => h) (Or.inl ⟨by kernel_rfl, ?hy5r10n1q8⟩) (by assumption) ?hr5r10n1q8
    case hy5r10n1q8 => (intro w hSw; (try dsimp only at hSw); (obtain ⟨c1, c2, c3⟩ := HX.out w hSw); first | (go_simp; done) | (go_simp; with_reducible rfl))
    refine wpAnyH_take (i := 10) (v := ?v5r10n1q9) rfl (by kernel_rfl) (by kernel_rfl) (by kernel_rfl) (fun _ _ _ h => h) (Or.inl ⟨by kernel_rfl, ?hy5r10n1q9⟩) (by assumption) ?hr5r10n1q9
    case hy5r10n1q9 => (intro w hSw; (try dsimp only at hSw); (obtain ⟨c1, c2, c3⟩ := HX.out w hSw); first | (go_simp; done) | (go_simp; with_reducible rfl))
    refine wpAnyH_take (i := 11) (v := ?v5r10n1q10) rfl (by kernel_rfl) (by kernel_rfl) (by kernel_rfl) (fun _ _ _ h => h) (Or.inl ⟨by kernel_rfl, ?hy5r10n1q10⟩) (by assumption) ?hr5r10n1q10
    case hy5r10n1q10 => (intro w hSw; (try dsimp only at hSw); (obtain ⟨c1, c2, c3⟩ := HX.out w hSw); first | (go_simp; done) | (go_simp; with_reducible rfl))
    refine wpAnyH_take (i := 12) (v := ?v5r10n1q11) rfl (by kernel_rfl) (by kernel_rfl) (by kernel_rfl) (fun _ _ _ h => h) (Or.inl ⟨by kernel_rfl, ?hy5r10n1q11⟩) (by assumption) ?hr5r10n1q11
    case hy5r10n1q11 => (intro w hSw; (try dsimp only at hSw); (obtain ⟨c1, c2, c3⟩ := HX.out w hSw); first | (go_simp; done) | (go_simp; with_reducible rfl))
    refine wpAnyH_take (i := 13) (v := ?v5r10n1q12) rfl (by kernel_rfl) (by kernel_rfl) (by kernel_rfl) (fun _ _ _ h => h) (Or.inl ⟨by kernel_rfl, ?hy5r10n1q12⟩) (by assumption) ?hr5r10n1q12
    case hy5r10n1q12 => (intro w hSw; (try dsimp only at hSw); (obtain ⟨c1, c2, c3⟩ := HX.out w hSw); first | (go_simp; done) | (go_simp; with_reducible rfl))
    refine wpAnyH_take (i := 14) (v := ?v5r10n1q13) rfl (by kernel_rfl) (by kernel_rfl) (by kernel_rfl) (fun _ _ _ h => h) (Or.inl ⟨by kernel_rfl, ?hy5r10n1q13⟩) (by assumption) ?hr5r10n1q13
    case hy5r10n1q13 => (intro w hSw; (try dsimp only at hSw); (obtain ⟨c1, c2, c3⟩ := HX.out w hSw); first | (go_simp; done) | (go_simp; with_reducible rfl))
    refine wpAnyH_take (i := 15) (v := ?v5r10n1q14) rfl (by kernel_rfl) (by kernel_rfl) (by kernel_rfl) (fun _ _ _ h => h) (Or.inl ⟨by kernel_rfl, ?hy5r10n1q14⟩) (by assumption) ?hr5r10n1q14
    case hy5r10n1q14 => (intro w hSw; (try dsimp only at hSw); (obtain ⟨c1, c2, c3⟩ := HX.out w hSw); first | (go_simp; done) | (go_simp; with_reducible rfl))
    refine wpAnyH_ready (rs := [7]) (by kernel_rfl) (by simp) (AllReadyH.cons rfl (fun K hK => ?hc5r10n1q15) AllReadyH.nil)
    go_simp
    (go_at_call 24; refine (own_any _ _ _ _ _ _ _ _).mono ?_; rintro e x67 ⟨rfl, hb67⟩; have hk := hHeld.trans (hb67.mono hHeld.size); (try dsimp only))
    refine hK.out _ _ ?hs5r10n1q15 (fun hHeld5r10n1q15 => ?ht5r10n1q15)
    case hs5r10n1q15 => ((try dsimp only); (first | exact hk))
    clear hHeld hK
    have hHeld := hHeld5r10n1q15
    clear hHeld5r10n1q15
    refine wpAnyH_ready (rs := [8]) (by kernel_rfl) (by simp) (AllReadyH.cons rfl (fun K hK => ?hc5r10n1q16) AllReadyH.nil)
    go_simp
    (go_at_call 23; refine (HC.out _ hHeld).1.mono ?_; rintro e x68 ⟨rfl, hb68⟩; have hk := hHeld.trans (hb68.mono hHeld.size); (try dsimp only))
    refine hK.out _ _ ?hs5r10n1q16 (fun hHeld5r10n1q16 => ?ht5r10n1q16)
    case hs5r10n1q16 => ((try dsimp only); (first | exact hk))
    clear hHeld hK
    have hHeld := hHeld5r10n1q16
    clear hHeld5r10n1q16
    refine wpAnyH_ready (rs := [16]) (by kernel_rfl) (by simp) (AllReadyH.cons rfl (fun K hK => ?hc5r10n1q17) AllReadyH.nil)
    go_simp
    (go_at_call 25; refine (HC.out _ hHeld).2.mono ?_; rintro e x76 ⟨rfl, hb76⟩; have hk := hHeld.trans (hb76.mono hHeld.size); (try dsimp only))
    refine hK.out _ _ ?hs5r10n1q17 (fun hHeld5r10n1q17 => ?ht5r10n1q17)
    case hs5r10n1q17 => ((try dsimp only); (first | exact hk))
    clear hHeld hK
    have hHeld := hHeld5r10n1q17
    clear hHeld5r10n1q17
    refine wpAnyH_take (i := 17) (v := ?v5r10n1q18) rfl (by kernel_rfl) (by kernel_rfl) (by kernel_rfl) (fun _ _ _ h => h) (Or.inl ⟨by kernel_rfl, ?hy5r10n1q18⟩) (by assumption) ?hr5r10n1q18
    case hy5r10n1q18 => (intro w hSw; (try dsimp only at hSw); (obtain ⟨c1, c2, c3⟩ := HX.out w hSw); first | (go_simp; done) | (go_simp; with_reducible rfl))
    refine wpAnyH_done (by kernel_rfl) ?_ _
    clear hHeld
    refine NoPanic.normal ?_
    have hkk : Below wr.heap.size wr x76 := hk
    apply_assumption
    refine wp_cutA 95 (fun tm ds => ds = [] ∧ slot tm 1 = .int .i64 way ∧ slot tm 6 = .slice ra raw.length rc ∧ slot tm 15 = .slice ua L.length uc ∧ slot tm 16 = .int .i64 wy ∧ slot tm 17 = .slice na need.length nc ∧ slot tm 18 = .pointer (some ⟨P1, 0, none⟩) ∧ slot tm 21 = .slice (some ⟨LB, 0, none⟩) 4 4 ∧ slot tm 22 = .int .i64 (i : Nat) ∧ slot tm 77 = .bool false) (by kernel_rfl) (by exact ⟨by kernel_rfl, by kernel_rfl, by kernel_rfl, by kernel_rfl, by kernel_rfl, by kernel_rfl, by kernel_rfl, by kernel_rfl, by kernel_rfl, by kernel_rfl⟩) ?_
    rintro tm2 ds2 h95 ⟨rfl, e1, e6, e15, e16, e17, e18, e21, e22, e77⟩
    rw [frame95 tm2 [] h95, e1, e6, e15, e16, e17, e18, e21, e22, e77]
    have hend := hbw.trans (hkk.mono hbw.size)
    clear h95 e1 e6 e15 e16 e17 e18 e21 e22 e77 hkk hk HC HX
    go_wp2
    refine ⟨LoopI.mk rfl ⟨rfl, rfl, rfl, rfl, rfl, rfl, rfl, rfl, i + 1, by omega, by show Value.int _ _ = _; go_num, hend⟩, ?_⟩
    show 4 - _ < 4 - _
    simp [intOf]; omega
  · have hi4 : ¬ (i : Int) < 4 := by omega
    have h3w := HB3.out.trans (H3r.out.mono HB3.out.size)
    go_upto_region 13 with (first
      | (go_at_call 17; refine (HRW.out _ h3w).mono ?_; rintro e w13 ⟨tu, rfl, htk, h13⟩; obtain ⟨ta, tc, rfl, _, _⟩ := htk.1.form)
      | fail)
    have hr13 := hbw.trans (h13.mono hbw.size)
    have HP13 := hidep (show ∀ X, Below w13.heap.size w13 X → X.heap[P1]? = some (.cells #[.slice oa o.length oc, .int .i64 st, .slice la tb.length lc] 39) ∧ IntsAt X (.slice oa o.length oc) o ∧ TabAt X (.slice la tb.length lc) tb from fun X hX => (HR5.out X (HW7.out X (hr13.trans (hX.mono hr13.size)))).1)
    have h3x := H3r.out.trans (h13.mono H3r.out.size)
    obtain ⟨z, hz⟩ : ∃ z, z = checkZ way L r9 o st tb := ⟨_, rfl⟩
    have HC := hidep (fun X (hX : Below w13.heap.size w13 X) => checks_any way L r9 (.slice ua L.length uc) (.slice ta r9.length tc) HOK.out o st tb (.slice oa o.length oc) (.slice la tb.length lc) (show PlanOk 1000000001000 o tb from ⟨HPK.out.1, HPK.out.2.1, fun r hr => ⟨(HPK.out.2.2 r hr).1, fun x hx => by have := (HPK.out.2.2 r hr).2 x hx; omega⟩⟩) X (HPX.out.below (h3x.trans (hX.mono h3x.size))) (htk.below hX) (HP13.out X hX).2.1 (HP13.out X hX).2.2 z hz)
    have hzz : (z == z) = true := by simp
    have H13 := hidep (h3w.trans (h13.mono h3w.size))
    clear hz htk h13 h3w hr13 h3x
    refine wp_region_noPanic (wp_region_held_drew (S := (fun X => Below w13.heap.size w13 X)) (by kernel_rfl) ?hS5r13n2 (fun hHeld => ?hR5r13n2))
    case hS5r13n2 => ((try dsimp only); (exact (Below.refl _ _).drew))
    refine wpAnyH_take (i := 0) (v := ?v5r13n2q1) rfl (by kernel_rfl) (by kernel_rfl) (by kernel_rfl) (fun _ _ _ h => h) (Or.inl ⟨by kernel_rfl, ?hy5r13n2q1⟩) (by assumption) ?hr5r13n2q1
    case hy5r13n2q1 => (intro w hSw; (try dsimp only at hSw); (obtain ⟨c1, c2, c3⟩ := box3_cells (HP13.out w hSw).1); first | (go_simp; done) | (go_simp; with_reducible rfl))
    refine wpAnyH_take (i := 1) (v := ?v5r13n2q2) rfl (by kernel_rfl) (by kernel_rfl) (by kernel_rfl) (fun _ _ _ h => h) (Or.inl ⟨by kernel_rfl, ?hy5r13n2q2⟩) (by assumption) ?hr5r13n2q2
    case hy5r13n2q2 => (intro w hSw; (try dsimp only at hSw); (obtain ⟨c1, c2, c3⟩ := box3_cells (HP13.out w hSw).1); first | (go_simp; done) | (go_simp; with_reducible rfl))
    refine wpAnyH_take (i := 2) (v := ?v5r13n2q3) rfl (by kernel_rfl) (by kernel_rfl) (by kernel_rfl) (fun _ _ _ h => h) (Or.inl ⟨by kernel_rfl, ?hy5r13n2q3⟩) (by assumption) ?hr5r13n2q3
    case hy5r13n2q3 => (intro w hSw; (try dsimp only at hSw); (obtain ⟨c1, c2, c3⟩ := box3_cells (HP13.out w hSw).1); first | (go_simp; done) | (go_simp; with_reducible rfl))
    refine wpAnyH_take (i := 3) (v := ?v5r13n2q4) rfl (by kernel_rfl) (by kernel_rfl) (by kernel_rfl) (fun _ _ _ h => h) (Or.inl ⟨by kernel_rfl, ?hy5r13n2q4⟩) (by assumption) ?hr5r13n2q4
    case hy5r13n2q4 => (intro w hSw; (try dsimp only at hSw); (obtain ⟨c1, c2, c3⟩ := box3_cells (HP13.out w hSw).1); first | (go_simp; done) | (go_simp; with_reducible rfl))
    refine wpAnyH_take (i := 6) (v := ?v5r13n2q5) rfl (by kernel_rfl) (by kernel_rfl) (by kernel_rfl) (fun _ _ _ h => h) (Or.inl ⟨by kernel_rfl, ?hy5r13n2q5⟩) (by assumption) ?hr5r13n2q5
    case hy5r13n2q5 => (intro w hSw; (try dsimp only at hSw); (obtain ⟨c1, c2, c3⟩ := box3_cells (HP13.out w hSw).1); first | (go_simp; done) | (go_simp; with_reducible rfl))
    refine wpAnyH_take (i := 7) (v := ?v5r13n2q6) rfl (by kernel_rfl) (by kernel_rfl) (by kernel_rfl) (fun _ _ _ h => h) (Or.inl ⟨by kernel_rfl, ?hy5r13n2q6⟩) (by assumption) ?hr5r13n2q6
    case hy5r13n2q6 => (intro w hSw; (try dsimp only at hSw); (obtain ⟨c1, c2, c3⟩ := box3_cells (HP13.out w hSw).1); first | (go_simp; done) | (go_simp; with_reducible rfl))
    refine wpAnyH_take (i := 8) (v := ?v5r13n2q7) rfl (by kernel_rfl) (by kernel_rfl) (by kernel_rfl) (fun _ _ _ h => h) (Or.inl ⟨by kernel_rfl, ?hy5r13n2q7⟩) (by assumption) ?hr5r13n2q7
    case hy5r13n2q7 => (intro w hSw; (try dsimp only at hSw); (obtain ⟨c1, c2, c3⟩ := box3_cells (HP13.out w hSw).1); first | (go_simp; done) | (go_simp; with_reducible rfl))
    refine wpAnyH_take (i := 9) (v := ?v5r13n2q8) rfl (by kernel_rfl) (by kernel_rfl) (by kernel_rfl) (fun _ _ _ h => h) (Or.inl ⟨by kernel_rfl, ?hy5r13n2q8⟩) (by assumption) ?hr5r13n2q8
    case hy5r13n2q8 => (intro w hSw; (try dsimp only at hSw); (obtain ⟨c1, c2, c3⟩ := box3_cells (HP13.out w hSw).1); first | (go_simp; done) | (go_simp; with_reducible rfl))
    refine wpAnyH_ready (rs := [4]) (by kernel_rfl) (by simp) (AllReadyH.cons rfl (fun K hK => ?hc5r13n2q9) AllReadyH.nil)
    go_simp
    (go_at_call 24; refine (own_any _ _ _ _ _ _ _ _).mono ?_; rintro e x84 ⟨rfl, hb84⟩; have hk := hHeld.trans (hb84.mono hHeld.size); (try dsimp only))
    refine hK.out _ _ ?hs5r13n2q9 (fun hHeld5r13n2q9 => ?ht5r13n2q9)
    case hs5r13n2q9 => ((try dsimp only); (first | exact hk))
    clear hHeld hK
    have hHeld := hHeld5r13n2q9
    clear hHeld5r13n2q9
    refine wpAnyH_ready (rs := [5]) (by kernel_rfl) (by simp) (AllReadyH.cons rfl (fun K hK => ?hc5r13n2q10) AllReadyH.nil)
    go_simp
    (go_at_call 23; refine (HC.out _ hHeld).1.mono ?_; rintro e x85 ⟨rfl, hb85⟩; have hk := hHeld.trans (hb85.mono hHeld.size); (try dsimp only))
    refine hK.out _ _ ?hs5r13n2q10 (fun hHeld5r13n2q10 => ?ht5r13n2q10)
    case hs5r13n2q10 => ((try dsimp only); (first | exact hk))
    clear hHeld hK
    have hHeld := hHeld5r13n2q10
    clear hHeld5r13n2q10
    refine wpAnyH_ready (rs := [10]) (by kernel_rfl) (by simp) (AllReadyH.cons rfl (fun K hK => ?hc5r13n2q11) AllReadyH.nil)
    go_simp
    (go_at_call 25; refine (HC.out _ hHeld).2.mono ?_; rintro e x90 ⟨rfl, hb90⟩; have hk := hHeld.trans (hb90.mono hHeld.size); (try dsimp only))
    refine hK.out _ _ ?hs5r13n2q11 (fun hHeld5r13n2q11 => ?ht5r13n2q11)
    case hs5r13n2q11 => ((try dsimp only); (first | exact hk))
    clear hHeld hK
    have hHeld := hHeld5r13n2q11
    clear hHeld5r13n2q11
    refine wpAnyH_take (i := 11) (v := ?v5r13n2q12) rfl (by kernel_rfl) (by kernel_rfl) (by kernel_rfl) (fun _ _ _ h => h) (Or.inl ⟨by kernel_rfl, ?hy5r13n2q12⟩) (by assumption) ?hr5r13n2q12
    case hy5r13n2q12 => (intro w hSw; (try dsimp only at hSw); (obtain ⟨c1, c2, c3⟩ := box3_cells (HP13.out w hSw).1); first | (go_simp; done) | (go_simp; with_reducible rfl))
    refine wpAnyH_take (i := 12) (v := ?v5r13n2q13) rfl (by kernel_rfl) (by kernel_rfl) (by kernel_rfl) (fun _ _ _ h => h) (Or.inl ⟨by kernel_rfl, ?hy5r13n2q13⟩) (by assumption) ?hr5r13n2q13
    case hy5r13n2q13 => (intro w hSw; (try dsimp only at hSw); (obtain ⟨c1, c2, c3⟩ := box3_cells (HP13.out w hSw).1); first | (go_simp; done) | (go_simp; with_reducible rfl))
    refine wpAnyH_ready (rs := [13]) (by kernel_rfl) (by simp) (AllReadyH.cons rfl (fun K hK => ?hc5r13n2q14) AllReadyH.nil)
    go_simp
    (go_at_call 14; refine (lives_any _).mono ?_; rintro e x93 ⟨rfl, hb93⟩; have hk := hHeld.trans (hb93.mono hHeld.size); (try dsimp only))
    refine hK.out _ _ ?hs5r13n2q14 (fun hHeld5r13n2q14 => ?ht5r13n2q14)
    case hs5r13n2q14 => ((try dsimp only); (first | exact hk))
    clear hHeld hK
    have hHeld := hHeld5r13n2q14
    clear hHeld5r13n2q14
    refine wpAnyH_take (i := 14) (v := ?v5r13n2q15) rfl (by kernel_rfl) (by kernel_rfl) (by kernel_rfl) (fun _ _ _ h => h) (Or.inl ⟨by kernel_rfl, ?hy5r13n2q15⟩) (by assumption) ?hr5r13n2q15
    case hy5r13n2q15 => (intro w hSw; (try dsimp only at hSw); (obtain ⟨c1, c2, c3⟩ := box3_cells (HP13.out w hSw).1); first | (go_simp; done) | (go_simp; with_reducible rfl))
    refine wpAnyH_take (i := 15) (v := ?v5r13n2q16) rfl (by kernel_rfl) (by kernel_rfl) (by kernel_rfl) (fun _ _ _ h => h) (Or.inl ⟨by kernel_rfl, ?hy5r13n2q16⟩) (by assumption) ?hr5r13n2q16
    case hy5r13n2q16 => (intro w hSw; (try dsimp only at hSw); (obtain ⟨c1, c2, c3⟩ := box3_cells (HP13.out w hSw).1); first | (go_simp; done) | (go_simp; with_reducible rfl))
    refine wpAnyH_done (by kernel_rfl) ?_ _
    clear hHeld
    refine NoPanic.normal ?_
    have hkk : Below w13.heap.size w13 x93 := hk
    apply_assumption
    refine wp_cutA 95 (fun tm ds => ds = [] ∧ slot tm 14 = .bool true) (by kernel_rfl) (by exact ⟨by kernel_rfl, by kernel_rfl⟩) ?_
    rintro tm3 ds3 h95 ⟨rfl, e14⟩
    rw [frame95 tm3 [] h95, e14]
    clear h95 e14 HC HP13
    have hend := H13.out.trans (hkk.mono H13.out.size)
    go_wp2
    go_ret
    exact ⟨rfl, hend⟩
end Go.Proofs.Ytfljgcpfmhhgcaa
