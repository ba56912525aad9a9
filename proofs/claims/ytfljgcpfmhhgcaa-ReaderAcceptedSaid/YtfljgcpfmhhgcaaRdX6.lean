/- The walk of the law ReaderAccepted. -/
import Derived.Test.YtfljgcpfmhhgcaaRdX7
import Derived.Test.YtfljgcpfmhhgcaaRdPq
import Derived.Test.YtfljgcpfmhhgcaaRdSt
namespace Go.Proofs.Ytfljgcpfmhhgcaa
open Go.RowKit Go.Lab
attribute [local go_sem] Oper.semAt_some
set_option maxRecDepth 100000
theorem range_map142 (f : Nat → Value) : (List.range 142).map f = [f 0, f 1, f 2, f 3, f 4, f 5, f 6, f 7, f 8, f 9, f 10, f 11, f 12, f 13, f 14, f 15, f 16, f 17, f 18, f 19, f 20, f 21, f 22, f 23, f 24, f 25, f 26, f 27, f 28, f 29, f 30, f 31, f 32, f 33, f 34, f 35, f 36, f 37, f 38, f 39, f 40, f 41, f 42, f 43, f 44, f 45, f 46, f 47, f 48, f 49, f 50, f 51, f 52, f 53, f 54, f 55, f 56, f 57, f 58, f 59, f 60, f 61, f 62, f 63, f 64, f 65, f 66, f 67, f 68, f 69, f 70, f 71, f 72, f 73, f 74, f 75, f 76, f 77, f 78, f 79, f 80, f 81, f 82, f 83, f 84, f 85, f 86, f 87, f 88, f 89, f 90, f 91, f 92, f 93, f 94, f 95, f 96, f 97, f 98, f 99, f 100, f 101, f 102, f 103, f 104, f 105, f 106, f 107, f 108, f 109, f 110, f 111, f 112, f 113, f 114, f 115, f 116, f 117, f 118, f 119, f 120, f 121, f 122, f 123, f 124, f 125, f 126, f 127, f 128, f 129, f 130, f 131, f 132, f 133, f 134, f 135, f 136, f 137, f 138, f 139, f 140, f 141] := rfl
theorem frame142 (t : Array Value) (ds : List Deferred) (h : t.size = 142) : ({ tmps := t, defers := ds } : Act) = { tmps := #[slot t 0, slot t 1, slot t 2, slot t 3, slot t 4, slot t 5, slot t 6, slot t 7, slot t 8, slot t 9, slot t 10, slot t 11, slot t 12, slot t 13, slot t 14, slot t 15, slot t 16, slot t 17, slot t 18, slot t 19, slot t 20, slot t 21, slot t 22, slot t 23, slot t 24, slot t 25, slot t 26, slot t 27, slot t 28, slot t 29, slot t 30, slot t 31, slot t 32, slot t 33, slot t 34, slot t 35, slot t 36, slot t 37, slot t 38, slot t 39, slot t 40, slot t 41, slot t 42, slot t 43, slot t 44, slot t 45, slot t 46, slot t 47, slot t 48, slot t 49, slot t 50, slot t 51, slot t 52, slot t 53, slot t 54, slot t 55, slot t 56, slot t 57, slot t 58, slot t 59, slot t 60, slot t 61, slot t 62, slot t 63, slot t 64, slot t 65, slot t 66, slot t 67, slot t 68, slot t 69, slot t 70, slot t 71, slot t 72, slot t 73, slot t 74, slot t 75, slot t 76, slot t 77, slot t 78, slot t 79, slot t 80, slot t 81, slot t 82, slot t 83, slot t 84, slot t 85, slot t 86, slot t 87, slot t 88, slot t 89, slot t 90, slot t 91, slot t 92, slot t 93, slot t 94, slot t 95, slot t 96, slot t 97, slot t 98, slot t 99, slot t 100, slot t 101, slot t 102, slot t 103, slot t 104, slot t 105, slot t 106, slot t 107, slot t 108, slot t 109, slot t 110, slot t 111, slot t 112, slot t 113, slot t 114, slot t 115, slot t 116, slot t 117, slot t 118, slot t 119, slot t 120, slot t 121, slot t 122, slot t 123, slot t 124, slot t 125, slot t 126, slot t 127, slot t 128, slot t 129, slot t 130, slot t 131, slot t 132, slot t 133, slot t 134, slot t 135, slot t 136, slot t 137, slot t 138, slot t 139, slot t 140, slot t 141], defers := ds } := by
  have e : t = ((List.range 142).map (slot t)).toArray := by
    apply Array.ext
    · simp [h]
    · intro i h1 h2
      simp [slot, Array.getD, h1]
  rw [range_map142] at e
  exact congrArg (fun x => ({ tmps := x, defers := ds } : Act)) e
set_option maxRecDepth 100000 in
set_option maxHeartbeats 20000000 in
theorem lawAccepted_any (v : Value) (l : List Int) (way bits at_ by_ : Int) (w : World) (hl : IntsAt w v l) (hway : -9223372036854775808 ≤ way ∧ way ≤ 9223372036854775807) (hbits : -9223372036854775808 ≤ bits ∧ bits ≤ 9223372036854775807) (hat : -9223372036854775808 ≤ at_ ∧ at_ ≤ 9223372036854775807) (hby : -9223372036854775808 ≤ by_ ∧ by_ ≤ 9223372036854775807) :
    Calls Try.prog 6 #[v, .int .i64 way, .int .i64 bits, .int .i64 at_, .int .i64 by_] w fun e w' => e = .returned (.bool true) ∧ Below w.heap.size w w' := by
  obtain ⟨a, c, rfl, hca, hma⟩ := hl.1.form
  have HPL := hidep (places30_any _ l false w hl)
  have hwr := aroundZ_rng way 4 (by omega)
  have HAR := hidep (fun W => around_any way 4 W hway.1 hway.2)
  obtain ⟨wy, hwy⟩ : ∃ wy, wy = aroundZ way 4 := ⟨_, rfl⟩
  rw [← hwy] at HAR hwr
  clear hl hway hwy
  go_enter Try.func6, Try.ntmps6
  go_upto_region 4 with (first
    | (go_at_call 11; refine HPL.out.mono ?_; rintro e w1 ⟨u, L, rfl, hown, hmade, hb1⟩; have hpx : PlacesAt w1 u L := (Rd.of_own hown).mono (fun _ _ => trivial); obtain ⟨ua, uc, rfl, _, _⟩ := PlacesAt.form hpx; have HND := hidep (need30_any _ L bits w1 hpx (by have := hmade.1; omega) hbits))
    | (go_at_call 15; refine (HAR.out _).mono ?_; rintro e w2 ⟨rfl, rfl⟩)
    | (go_at_call 16; refine HND.out.mono ?_; rintro e w3 ⟨nu, need, rfl, hnown, hneed, hb3⟩)
    | fail)
  have hpx3 : PlacesAt w3 (.slice ua L.length uc) L := hpx.below hb3
  have hn6 := hneed.1
  have hnr : ∀ x ∈ need, -9223372036854775808 ≤ x ∧ x ≤ 9223372036854775807 := fun x hx => by
    have := hneed.2.2 x hx
    have := hmade.1
    omega
  have hnx3 : IntsAt w3 nu need := ⟨(Rd.of_own hnown).mono (fun _ _ => trivial), hnr⟩
  obtain ⟨na, nc, rfl, _, _⟩ := hnx3.1.form
  have hlen : L.length ≤ 9 := hmade.1
  have hokL : ∀ p ∈ L, PlOk p := fun p hp => (hmade.2.1 p hp).ok
  have HB3 := hidep (hb1.trans (hb3.mono hb1.size))
  have HPX := hidep hpx3
  have HNX := hidep hnx3
  have HOK := hidep hokL
  have HTZ := hidep (task_zero (way := wy) hneed (by omega) (by omega))
  clear hpx hpx3 hnx3 hown hnown hmade hb1 hb3 HPL HND hnr hneed hokL hbits
  obtain ⟨o, ho⟩ : ∃ o, o = orderZ wy (needL L need) need := ⟨_, rfl⟩
  obtain ⟨st, hst⟩ : ∃ st, st = restV wy (needL L need) (2 ^ need.length - 1) pl0 := ⟨_, rfl⟩
  obtain ⟨tb, htb⟩ : ∃ tb, tb = tabL wy (needL L need) := ⟨_, rfl⟩
  have HO := hidep ho
  have HST := hidep hst
  have HTB := hidep htb
  have hop := orderZ_perm (way := wy) (pl := L) (need := need) (by omega)
  rw [← ho] at hop
  have HOP := hidep hop
  have hol : o.length ≤ 6 := by rw [hop.length_eq]; exact hn6
  have hstb := restV_bd (way := wy) (needL_ok HOK.out (need := need)) (s := 2 ^ need.length - 1) (p := pl0) (by have := two_pow_lt (n := need.length) (by omega); omega) pl0_ok
  rw [← hst] at hstb
  have HB1 := hidep (best_ok wy L need _ _ HOK.out w3 HPX.out HNX.out HTZ.out o st tb ho hst htb)
  have HCK := hidep (fun (X : World) (s' : Int) (o' : List Int) (vo vl : Value) (hX : Below w3.heap.size w3 X) (hol' : o'.length ≤ 1048576) (h1 : IntsAt X vo o') (h2 : TabAt X vl tb) => check_any wy L need o' s' tb _ _ vo vl HOK.out (by rw [htb]; exact tab_rng HOK.out (by omega)) hol' X (HPX.out.below hX) (HNX.out.below hX) h1 h2)
  clear ho hst htb hop
  go_upto_region 5 with (first
    | (go_at_call 18; refine HB1.out.mono ?_; rintro e w5 ⟨h5, oa, oc, la, lc, rfl, ho1, hl1⟩)
    | fail)
  obtain ⟨W6, hW6⟩ : ∃ W6, W6 = w5.alloc (.cells #[.slice oa o.length oc, .int .i64 st, .slice la tb.length lc] 35) := ⟨_, rfl⟩
  have hp6 : W6.heap[w5.heap.size]? = some (.cells #[.slice oa o.length oc, .int .i64 st, .slice la tb.length lc] 35) := by rw [hW6]; exact heap_alloc_new _ _
  have hb56 : Below w5.heap.size w5 W6 := by rw [hW6]; exact (Below.refl _ _).alloc (Nat.le_refl _) _
  have h6 : Below w3.heap.size w3 W6 := h5.trans (hb56.mono h5.size)
  have hs6 : W6.heap.size = w5.heap.size + 1 := by rw [hW6]; simp
  rw [← hW6]
  have HR1 := hidep (show ∀ X, Turned (fun b => W6.heap.size ≤ b) W6 X → X.heap[w5.heap.size]? = some (.cells #[.slice oa o.length oc, .int .i64 st, .slice la tb.length lc] 35) ∧ IntsAt X (.slice oa o.length oc) o ∧ TabAt X (.slice la tb.length lc) tb from fun X hX => by
    have hb : Below W6.heap.size W6 X := ⟨hX.os, hX.tape, hX.output, hX.size, fun b hb => hX.block b hb (by omega)⟩
    exact ⟨(hb.block _ (lt_of_block hp6)).trans hp6, (IntsOf.at (ho1.keeps (Keeps.below _ hb56))).below hb, (TabOf.at (hl1.keeps (Keeps.below _ hb56))).below hb⟩)
  have H6 := hidep h6
  have HS6 := hidep hs6
  have hcz : checkZ wy L need o st tb = 0 := by rw [HO.out, HST.out, HTB.out]; exact accepted HOK.out HTZ.out
  have HC0 := hidep (HCK.out W6 st o (.slice oa o.length oc) (.slice la tb.length lc) h6 (by omega) (HR1.out W6 (Turned.refl _ _)).2.1 (HR1.out W6 (Turned.refl _ _)).2.2)
  rw [hcz] at HC0
  unfold planV at HC0
  obtain ⟨y0, y1, y2⟩ := box3_cells hp6
  clear hW6 hp6 hb56 h6 h5 ho1 hl1 HB1 hcz hs6
  go_upto_region 7 with (first
    | (go_at_call 23; refine HC0.out.mono ?_; rintro e w7 ⟨rfl, h7⟩)
    | fail)
  obtain ⟨z0, z1, z2⟩ := box3_cells (HR1.out w7 (Turned.of_below h7)).1
  clear HC0 y0 y1 y2
  go_upto_region 8 with (fail)
  obtain ⟨W8, hW8⟩ : ∃ W8, W8 = w7.alloc (.cells #[.slice oa o.length oc, .int .i64 st, .slice la tb.length lc] 35) := ⟨_, rfl⟩
  have hq8 : W8.heap[w7.heap.size]? = some (.cells #[.slice oa o.length oc, .int .i64 st, .slice la tb.length lc] 35) := by rw [hW8]; exact heap_alloc_new _ _
  have hT68 : Turned (fun _ => False) W6 W8 := by rw [hW8]; exact (Turned.of_below h7).alloc _
  have hs7 := h7.size
  rw [← hW8]
  obtain ⟨P1, hP1⟩ : ∃ P1, P1 = w5.heap.size := ⟨_, rfl⟩
  obtain ⟨P2, hP2⟩ : ∃ P2, P2 = w7.heap.size := ⟨_, rfl⟩
  rw [← hP1] at HR1 z0 z1 z2 ⊢
  rw [← hP2] at hq8 ⊢
  have HP1 := hidep hP1
  have HP2 := hidep hP2
  have hp12 : Hid (P1 < P2 ∧ W6.heap.size ≤ P2) := hidep (by have := HS6.out; rw [hP1, hP2]; omega)
  clear hW8 hP1 hP2 z0 z1 z2 h7 hs7
  have hz9 := aroundZ_rng by_ 9 (by omega)
  have HA9 := hidep (fun W => around_any by_ 9 W hby.1 hby.2)
  generalize aroundZ by_ 9 = z at *
  have hwr1 : IntKind.i64.wrap (st + 1) = st + 1 := IntWalk.i64_in _ (by omega)
  have hwr2 : IntKind.i64.wrap (st + 1 + z) = st + 1 + z := IntWalk.i64_in _ (by omega)
  have HR8 := hidep (show ∀ X, Turned (fun b => b = P2) W8 X → X.heap[P1]? = some (.cells #[.slice oa o.length oc, .int .i64 st, .slice la tb.length lc] 35) ∧ IntsAt X (.slice oa o.length oc) o ∧ TabAt X (.slice la tb.length lc) tb from fun X hX => HR1.out X ((hT68.mono (fun _ _ h => h.elim)).trans (hX.mono (fun b _ h => by have := hp12.out.2; omega))))
  have f2 : W8.frozen? ⟨P2, 1, none⟩ = false := by simp [World.frozen?, hq8]
  obtain ⟨y0, y1, y2⟩ := box3_cells hq8
  have HW8 := hidep hT68
  clear hT68
  refine wp_region_noPanic (wp_region_held_drew (S := (fun X => Turned (fun b => b = P2) W8 X)) (by kernel_rfl) ?hS6r8n0 (fun hHeld => ?hR6r8n0))
  case hS6r8n0 => ((try dsimp only); (exact (Turned.refl _ _).drew))
  refine wpAnyH_take (i := 0) (v := ?v6r8n0q1) rfl (by kernel_rfl) (by kernel_rfl) (by kernel_rfl) (fun _ _ _ h => h) (Or.inl ⟨by kernel_rfl, ?hy6r8n0q1⟩) (by assumption) ?hr6r8n0q1
  case hy6r8n0q1 => (intro w hSw; (try dsimp only at hSw); (obtain ⟨c1, c2, c3⟩ := box3_cells (HR8.out w hSw).1); first | (go_simp; done) | (go_simp; with_reducible rfl))
  refine wpAnyH_take (i := 1) (v := ?v6r8n0q2) rfl (by kernel_rfl) (by kernel_rfl) (by kernel_rfl) (fun _ _ _ h => h) (Or.inl ⟨by kernel_rfl, ?hy6r8n0q2⟩) (by assumption) ?hr6r8n0q2
  case hy6r8n0q2 => (intro w hSw; (try dsimp only at hSw); (obtain ⟨c1, c2, c3⟩ := box3_cells (HR8.out w hSw).1); first | (go_simp; done) | (go_simp; with_reducible rfl))
  refine wpAnyH_take (i := 2) (v := ?v6r8n0q3) rfl (by kernel_rfl) (by kernel_rfl) (by kernel_rfl) (fun _ _ _ h => h) (Or.inl ⟨by kernel_rfl, ?hy6r8n0q3⟩) (by assumption) ?hr6r8n0q3
  case hy6r8n0q3 => (intro w hSw; (try dsimp only at hSw); (obtain ⟨c1, c2, c3⟩ := box3_cells (HR8.out w hSw).1); first | (go_simp; done) | (go_simp; with_reducible rfl))
  refine wpAnyH_take (i := 3) (v := ?v6r8n0q4) rfl (by kernel_rfl) (by kernel_rfl) (by kernel_rfl) (fun _ _ _ h => h) (Or.inl ⟨by kernel_rfl, ?hy6r8n0q4⟩) (by assumption) ?hr6r8n0q4
  case hy6r8n0q4 => (intro w hSw; (try dsimp only at hSw); (obtain ⟨c1, c2, c3⟩ := box3_cells (HR8.out w hSw).1); first | (go_simp; done) | (go_simp; with_reducible rfl))
  refine wpAnyH_ready (rs := [4]) (by kernel_rfl) (by simp) (AllReadyH.cons rfl (fun K hK => ?hc6r8n0q5) AllReadyH.nil)
  go_simp
  (go_at_call 15; refine (HA9.out _).mono ?_; rintro e w9 ⟨rfl, rfl⟩; (try dsimp only))
  refine hK.out _ _ ?hs6r8n0q5 (fun hHeld6r8n0q5 => ?ht6r8n0q5)
  case hs6r8n0q5 => ((try dsimp only); (first | (with_reducible exact hHeld) | (refine Turned.drew ?_; exact (Turned.refl _ _).setCell ⟨P2, 1, none⟩ _ (.inr rfl))))
  clear hHeld hK
  have hHeld := hHeld6r8n0q5
  clear hHeld6r8n0q5
  refine wpAnyH_take (i := 5) (v := ?v6r8n0q6) rfl (by kernel_rfl) (by kernel_rfl) (by kernel_rfl) (fun _ _ _ h => h) (Or.inl ⟨by kernel_rfl, ?hy6r8n0q6⟩) (by assumption) ?hr6r8n0q6
  case hy6r8n0q6 => (intro w hSw; (try dsimp only at hSw); (obtain ⟨c1, c2, c3⟩ := box3_cells (HR8.out w hSw).1); first | (go_simp; done) | (go_simp; with_reducible rfl))
  refine wpAnyH_take (i := 6) (v := ?v6r8n0q7) rfl (by kernel_rfl) (by kernel_rfl) (by kernel_rfl) (fun _ _ _ h => h) (Or.inl ⟨by kernel_rfl, ?hy6r8n0q7⟩) (by assumption) ?hr6r8n0q7
  case hy6r8n0q7 => (intro w hSw; (try dsimp only at hSw); (obtain ⟨c1, c2, c3⟩ := box3_cells (HR8.out w hSw).1); first | (go_simp; done) | (go_simp; with_reducible rfl))
  refine wpAnyH_ready (rs := [7]) (by kernel_rfl) (by simp) (AllReadyH.cons rfl (fun K hK => ?hc6r8n0q8) AllReadyH.nil)
  go_simp
  refine hK.out _ _ ?hs6r8n0q8 (fun hHeld6r8n0q8 => ?ht6r8n0q8)
  case hs6r8n0q8 => ((try dsimp only); (first | (with_reducible exact hHeld) | (refine Turned.drew ?_; exact (Turned.refl _ _).setCell ⟨P2, 1, none⟩ _ (.inr rfl))))
  clear hHeld hK
  have hHeld := hHeld6r8n0q8
  clear hHeld6r8n0q8
  refine wpAnyH_done (by kernel_rfl) ?_ _
  clear hHeld
  refine NoPanic.normal ?_
  apply_assumption
  refine wp_cutA 142 (fun tm ds => ds = [] ∧ slot tm 3 = .int .i64 at_ ∧ slot tm 4 = .int .i64 by_ ∧ slot tm 11 = .slice ua L.length uc ∧ slot tm 12 = .int .i64 wy ∧ slot tm 13 = .slice na need.length nc ∧ slot tm 14 = .pointer (some ⟨P1, 0, none⟩) ∧ slot tm 16 = .pointer (some ⟨P2, 0, none⟩)) (by kernel_rfl) (by exact ⟨by kernel_rfl, by kernel_rfl, by kernel_rfl, by kernel_rfl, by kernel_rfl, by kernel_rfl, by kernel_rfl, by kernel_rfl⟩) ?_
  rintro tm1 ds1 h142 ⟨rfl, e3, e4, e11, e12, e13, e14, e16⟩
  rw [frame142 tm1 [] h142, e3, e4, e11, e12, e13, e14, e16]
  clear h142 e3 e4 e11 e12 e13 e14 e16 hwr1 hwr2 y0 y1 y2 f2
  refine wp_abs (fun X => Turned (fun b => b = P2) W8 X ∧ X.heap[P2]? = some (.cells #[.slice oa o.length oc, .int .i64 (st + 1 + z), .slice la tb.length lc] 35)) ⟨((Turned.refl (fun b => b = P2) W8).setCell ⟨P2, 1, none⟩ _ (.inr rfl)).drew, heap_set hq8 1 (.int .i64 (st + 1 + z))⟩ ?_
  rintro W9 ⟨hT9, hq9⟩
  have h39 : ∀ X, Turned (fun b => b = P2) W8 X → Below w3.heap.size w3 X := fun X hX => by
    have h0 := H6.out
    have hx := (HW8.out.mono (T' := fun b => W6.heap.size ≤ b) (fun _ _ h => h.elim)).trans (hX.mono (fun b _ h => by have := hp12.out.2; omega))
    exact h0.trans ⟨hx.os, hx.tape, hx.output, hx.size, fun b hb => hx.block b (Nat.lt_of_lt_of_le hb h0.size) (by have := h0.size; omega)⟩
  have H39 := hidep h39
  have hcz : checkZ wy L need o (st + 1 + z) tb = 19 := by
    rw [HO.out, HTB.out]
    exact check_bent HTZ.out (by have := HST.out; omega)
  have HC9 := hidep (HCK.out W9 (st + 1 + z) o (.slice oa o.length oc) (.slice la tb.length lc) (h39 _ hT9) (by omega) (HR8.out W9 hT9).2.1 (HR8.out W9 hT9).2.2)
  rw [hcz] at HC9
  unfold planV at HC9
  obtain ⟨y0, y1, y2⟩ := box3_cells hq9
  obtain ⟨c0, c1, c2⟩ := box3_cells (HR8.out W9 hT9).1
  clear h39 hcz hq8
  go_upto_region 12 with (first
    | (go_at_call 23; refine HC9.out.mono ?_; rintro e w10 ⟨rfl, h10⟩; obtain ⟨g0, g1, g2⟩ := box3_cells (HR8.out w10 (hT9.trans (Turned.of_below h10))).1)
    | fail)
  have hT10 := hT9.trans (Turned.of_below (T := fun b => b = P2) h10)
  have hq10 := (h10.block _ (lt_of_block hq9)).trans hq9
  clear HC9 y0 y1 y2 c0 c1 c2 h10 hq9 hT9
  by_cases hn2 : o.length < 2
  · have hn2i : (o.length : Int) < 2 := by omega
    have hbx := H39.out w10 hT10
    go_wp2_with (first
      | (go_at_call 14; refine (lives_any _).mono ?_; rintro e w11 ⟨rfl, h11⟩)
      | fail)
    go_ret
    exact ⟨rfl, HB3.out.trans ((hbx.trans (h11.mono hbx.size)).mono HB3.out.size)⟩
  · have hn2i : ¬ (o.length : Int) < 2 := by omega
    have hri := aroundZ_rng at_ (o.length : Int) (by omega)
    have hrk := aroundZ_rng by_ (o.length : Int) (by omega)
    have HAI := hidep (fun W => around_any at_ (o.length : Int) W hat.1 hat.2)
    have HAK := hidep (fun W => around_any by_ (o.length : Int) W hby.1 hby.2)
    obtain ⟨i, hii⟩ : ∃ i : Nat, aroundZ at_ (o.length : Int) = (i : Int) := ⟨(aroundZ at_ (o.length : Int)).toNat, by omega⟩
    obtain ⟨k, hkk⟩ : ∃ k : Nat, aroundZ by_ (o.length : Int) = (k : Int) := ⟨(aroundZ by_ (o.length : Int)).toNat, by omega⟩
    rw [hii] at HAI hri
    rw [hkk] at HAK hrk
    clear hii hkk hat hby HA9 hz9
    have hil : i < o.length := by omega
    have hkl : k < o.length := by omega
    have fr : ∀ j, w10.frozen? ⟨P2, j, none⟩ = false := fun j => by simp [World.frozen?, hq10]
    have f0 := fr 0
    have f1 := fr 1
    have f2 := fr 2
    obtain ⟨y0, y1, y2⟩ := box3_cells hq10
    obtain ⟨g0, g1, g2⟩ := box3_cells (HR8.out w10 hT10).1
    clear fr
    go_upto_region 17 with (first
      | (go_at_call 15; (with_reducible refine (HAI.out _).mono ?_); rintro e w11 ⟨rfl, rfl⟩)
      | (go_at_call 15; (with_reducible refine (HAK.out _).mono ?_); rintro e w11 ⟨rfl, rfl⟩)
      | fail)
    refine wp_abs (fun X => Turned (fun b => b = P2) W8 X ∧ X.heap[P2]? = some (.cells #[.slice oa o.length oc, .int .i64 st, .slice la tb.length lc] 35)) ⟨hT10.trans ((((Turned.refl (fun b => b = P2) w10).setCell ⟨P2, 0, none⟩ _ (.inr rfl)).setCell ⟨P2, 1, none⟩ _ (.inr rfl)).setCell ⟨P2, 2, none⟩ _ (.inr rfl)), heap_set (heap_set (heap_set hq10 0 (.slice oa o.length oc)) 1 (.int .i64 st)) 2 (.slice la tb.length lc)⟩ ?_
    rintro W16 ⟨hT16, hq16⟩
    clear f0 f1 f2 y0 y1 y2 g0 g1 g2 hq10 hT10
    have f0 : W16.frozen? ⟨P2, 0, none⟩ = false := by simp [World.frozen?, hq16]
    obtain ⟨y0, y1, y2⟩ := box3_cells hq16
    obtain ⟨hp1, hoi, htb2⟩ := HR8.out W16 hT16
    obtain ⟨g0, g1, g2⟩ := box3_cells hp1
    have hsz16 := lt_of_block hq16
    have hE : Below W16.heap.size W16 (W16.alloc (.cells #[] 3)) := (Below.refl _ _).alloc (Nat.le_refl _) _
    have k0 := (hE.cell (p := ⟨P1, 0, none⟩) (lt_of_block hp1)).trans g0
    have hfr0 : (W16.alloc (.cells #[] 3)).ownsRow W16.heap.size 3 1 (.slice (some ⟨W16.heap.size, 0, none⟩) 0 0) 0 [] := World.ownsRow_lit W16 #[] 0 (Nat.le_refl _) (by decide) rfl
    have hoe := hoi.below hE
    go_upto_region 18 with (first
      | (at_builtin; refine wpList_append_rd _ rfl (.tmp 73) (.tmp 75) rfl slIntsR W16.heap.size (.slice (some ⟨W16.heap.size, 0, none⟩) 0 0) 0 [] rfl hfr0 _ _ _ _ rfl hoe.1 (intsC_one o) (by unfold maxLen; omega) (by omega) (by simp) ?_; intro v17 w17 hown17 hgr17 hat17 hnl17; clear hat17 hnl17; simp only [Nat.zero_add, List.nil_append] at hown17; obtain ⟨va17, gc, rfl, _, _⟩ := (Rd.of_own hown17).form; have z0 := (hgr17.block P2 (by rw [World.size_alloc]; omega) (fun e => absurd (Option.some.inj (show some P2 = some W16.heap.size from e)) (by omega))).trans ((hE.block P2 hsz16).trans hq16); have zf : w17.frozen? ⟨P2, 0, none⟩ = false := (by simp [World.frozen?, z0]); obtain ⟨z1, z2, z3⟩ := box3_cells z0)
      | fail)
    rcases hown17.2 with ⟨_, hz0⟩ | ⟨gb, gc2, cur, hve, hgb, hgh, hgr⟩
    · omega
    injection hve with hve1 _ hve2
    subst hve1 hve2
    obtain ⟨W17, hW17⟩ : ∃ W17, W17 = w17.setCell ⟨P2, 0, none⟩ (.slice (some ⟨gb, 0, none⟩) o.length gc) := ⟨_, rfl⟩
    have hne : gb ≠ P2 := by omega
    have ho17 : W17.ownsRow W16.heap.size 3 1 (.slice (some ⟨gb, 0, none⟩) o.length gc) o.length (intsC o) := by
      rw [hW17]
      exact hown17.kept (grownBy_setC w17 P2 0 _) (.inr (by simp [Value.ownBlock]; omega))
    have hq17 : W17.heap[P2]? = some (.cells #[.slice (some ⟨gb, 0, none⟩) o.length gc, .int .i64 st, .slice la tb.length lc] 35) := by rw [hW17]; exact heap_set z0 0 _
    have hT17 : Turned (fun b => b = P2) W8 W17 := by
      rw [hW17]
      refine (hT16.trans (b := W16) (c := w17) ⟨hgr17.os.trans hE.os, hgr17.tape.trans hE.tape, hgr17.output.trans hE.output, Nat.le_trans hE.size hgr17.size, fun b hb _ => (hgr17.block b (Nat.lt_of_lt_of_le hb hE.size) (fun e => absurd (Option.some.inj (show some b = some W16.heap.size from e)) (by omega))).trans (hE.block b hb)⟩).trans ((Turned.refl (fun b => b = P2) w17).setCell ⟨P2, 0, none⟩ _ (.inr rfl))
    rw [← hW17]
    have h8s := hT16.size
    have h17s : W16.heap.size ≤ W17.heap.size := by rw [hW17]; simp only [World.setCell, Array.size_modify]; exact Nat.le_trans hE.size hgr17.size
    have HT17 := hidep (show ∀ X, Turned (fun b => b = gb) W17 X → Turned (fun b => b = P2) W8 X from fun X hX => ⟨hX.os.trans hT17.os, hX.tape.trans hT17.tape, hX.output.trans hT17.output, Nat.le_trans hT17.size hX.size, fun b hb hn => (hX.block b (Nat.lt_of_lt_of_le hb hT17.size) (by omega)).trans (hT17.block b hb hn)⟩)
    obtain ⟨ob, oo, rfl, hob, _⟩ := ints_get hoi hkl
    have HCO := hidep (show ∀ X, Turned (fun b => b = gb) W17 X → ∀ j (hj : j < o.length), X.cell? ⟨ob, oo + j, none⟩ = some (.int .i64 o[j]) from fun X hX j hj => by
      obtain ⟨b2, o2, he, _, hc⟩ := ints_get (HR8.out X (HT17.out X hX)).2.1 hj
      injection he with he
      injection he with hx1 hx2
      subst hx1 hx2
      exact hc)
    have HPC := hidep (show ∀ X, Turned (fun b => b = gb) W17 X → X.heap[P2]? = some (.cells #[.slice (some ⟨gb, 0, none⟩) o.length gc, .int .i64 st, .slice la tb.length lc] 35) ∧ X.heap[P1]? = some (.cells #[.slice (some ⟨ob, oo, none⟩) o.length oc, .int .i64 st, .slice la tb.length lc] 35) from fun X hX => ⟨hX.cells hq17 (by omega), (HR8.out X (HT17.out X hX)).1⟩)
    obtain ⟨ui, hui⟩ : ∃ ui, ui = o[i] := ⟨_, rfl⟩
    obtain ⟨uk, huk⟩ : ∃ uk, uk = o[k] := ⟨_, rfl⟩
    have HC2 := hidep (show ∀ X, Turned (fun b => b = gb) W17 X → X.cell? ⟨ob, oo + i, none⟩ = some (.int .i64 ui) ∧ X.cell? ⟨ob, oo + k, none⟩ = some (.int .i64 uk) from fun X hX => ⟨by rw [hui]; exact HCO.out X hX i hil, by rw [huk]; exact HCO.out X hX k hkl⟩)
    have HUI := hidep hui
    have HUK := hidep huk
    have hrow17 : ∃ cur, W17.heap[gb]? = some (.cells cur 3 (0, 0)) := ownsRow_cells ho17 rfl
    obtain ⟨cur17, hcur17⟩ := hrow17
    have hfz : ∀ j, W17.frozen? ⟨gb, j, none⟩ = false := fun j => by simp [World.frozen?, hcur17]
    have hfi := hfz i
    have hi0 : (0 : Int) ≤ (i : Int) := by omega
    have hi1 : (i : Int) < (o.length : Int) := by omega
    have hk0 : (0 : Int) ≤ (k : Int) := by omega
    have hk1 : (k : Int) < (o.length : Int) := by omega
    have hgi := ints_get (w := W17) (a := some ⟨gb, 0, none⟩) (c := gc) (l := o) ⟨(Rd.of_own ho17).mono (fun _ _ => trivial), hoi.2⟩ hil
    clear hW17 hui huk hfz z0 zf z1 z2 z3 f0 y0 y1 y2 g0 g1 g2 k0 hfr0 hoe hgr17 hown17
    obtain ⟨b3, o3, he3, _, hci⟩ := hgi
    injection he3 with he3
    injection he3 with hx1 hx2
    subst hx1 hx2
    rw [Nat.zero_add] at hci
    refine wp_region_noPanic (wp_region_held_drew (S := (fun X => Turned (fun b => b = gb) W17 X)) (by kernel_rfl) ?hS6r18n1 (fun hHeld => ?hR6r18n1))
    case hS6r18n1 => ((try dsimp only); (exact (Turned.refl _ _).drew))
    refine wpAnyH_take (i := 0) (v := ?v6r18n1q1) rfl (by kernel_rfl) (by kernel_rfl) (by kernel_rfl) (fun _ _ _ h => h) (Or.inl ⟨by kernel_rfl, ?hy6r18n1q1⟩) (by assumption) ?hr6r18n1q1
    case hy6r18n1q1 => (intro w hSw; (try dsimp only at hSw); (obtain ⟨x1, x2⟩ := HPC.out w hSw; obtain ⟨c1, c2, c3⟩ := box3_cells x1; obtain ⟨d1, d2, d3⟩ := box3_cells x2; obtain ⟨g1, g2⟩ := HC2.out w hSw; clear x1 x2); first | (go_simp; done) | (go_simp; with_reducible rfl))
    refine wpAnyH_take (i := 1) (v := ?v6r18n1q2) rfl (by kernel_rfl) (by kernel_rfl) (by kernel_rfl) (fun _ _ _ h => h) (Or.inl ⟨by kernel_rfl, ?hy6r18n1q2⟩) (by assumption) ?hr6r18n1q2
    case hy6r18n1q2 => (intro w hSw; (try dsimp only at hSw); (obtain ⟨x1, x2⟩ := HPC.out w hSw; obtain ⟨c1, c2, c3⟩ := box3_cells x1; obtain ⟨d1, d2, d3⟩ := box3_cells x2; obtain ⟨g1, g2⟩ := HC2.out w hSw; clear x1 x2); first | (go_simp; done) | (go_simp; with_reducible rfl))
    refine wpAnyH_take (i := 2) (v := ?v6r18n1q3) rfl (by kernel_rfl) (by kernel_rfl) (by kernel_rfl) (fun _ _ _ h => h) (Or.inl ⟨by kernel_rfl, ?hy6r18n1q3⟩) (by assumption) ?hr6r18n1q3
    case hy6r18n1q3 => (intro w hSw; (try dsimp only at hSw); (obtain ⟨x1, x2⟩ := HPC.out w hSw; obtain ⟨c1, c2, c3⟩ := box3_cells x1; obtain ⟨d1, d2, d3⟩ := box3_cells x2; obtain ⟨g1, g2⟩ := HC2.out w hSw; clear x1 x2); first | (go_simp; done) | (go_simp; with_reducible rfl))
    refine wpAnyH_take (i := 3) (v := ?v6r18n1q4) rfl (by kernel_rfl) (by kernel_rfl) (by kernel_rfl) (fun _ _ _ h => h) (Or.inl ⟨by kernel_rfl, ?hy6r18n1q4⟩) (by assumption) ?hr6r18n1q4
    case hy6r18n1q4 => (intro w hSw; (try dsimp only at hSw); (obtain ⟨x1, x2⟩ := HPC.out w hSw; obtain ⟨c1, c2, c3⟩ := box3_cells x1; obtain ⟨d1, d2, d3⟩ := box3_cells x2; obtain ⟨g1, g2⟩ := HC2.out w hSw; clear x1 x2); first | (go_simp; done) | (go_simp; with_reducible rfl))
    refine wpAnyH_take (i := 4) (v := ?v6r18n1q5) rfl (by kernel_rfl) (by kernel_rfl) (by kernel_rfl) (fun _ _ _ h => h) (Or.inl ⟨by kernel_rfl, ?hy6r18n1q5⟩) (by assumption) ?hr6r18n1q5
    case hy6r18n1q5 => (intro w hSw; (try dsimp only at hSw); (obtain ⟨x1, x2⟩ := HPC.out w hSw; obtain ⟨c1, c2, c3⟩ := box3_cells x1; obtain ⟨d1, d2, d3⟩ := box3_cells x2; obtain ⟨g1, g2⟩ := HC2.out w hSw; clear x1 x2); first | (go_simp; done) | (go_simp; with_reducible rfl))
    refine wpAnyH_take (i := 5) (v := ?v6r18n1q6) rfl (by kernel_rfl) (by kernel_rfl) (by kernel_rfl) (fun _ _ _ h => h) (Or.inl ⟨by kernel_rfl, ?hy6r18n1q6⟩) (by assumption) ?hr6r18n1q6
    case hy6r18n1q6 => (intro w hSw; (try dsimp only at hSw); (obtain ⟨x1, x2⟩ := HPC.out w hSw; obtain ⟨c1, c2, c3⟩ := box3_cells x1; obtain ⟨d1, d2, d3⟩ := box3_cells x2; obtain ⟨g1, g2⟩ := HC2.out w hSw; clear x1 x2); first | (go_simp; done) | (go_simp; with_reducible rfl))
    refine wpAnyH_take (i := 6) (v := ?v6r18n1q7) rfl (by kernel_rfl) (by kernel_rfl) (by kernel_rfl) (fun _ _ _ h => h) (Or.inl ⟨by kernel_rfl, ?hy6r18n1q7⟩) (by assumption) ?hr6r18n1q7
    case hy6r18n1q7 => (intro w hSw; (try dsimp only at hSw); (obtain ⟨x1, x2⟩ := HPC.out w hSw; obtain ⟨c1, c2, c3⟩ := box3_cells x1; obtain ⟨d1, d2, d3⟩ := box3_cells x2; obtain ⟨g1, g2⟩ := HC2.out w hSw; clear x1 x2); first | (go_simp; done) | (go_simp; with_reducible rfl))
    refine wpAnyH_take (i := 7) (v := ?v6r18n1q8) rfl (by kernel_rfl) (by kernel_rfl) (by kernel_rfl) (fun _ _ _ h => h) (Or.inl ⟨by kernel_rfl, ?hy6r18n1q8⟩) (by assumption) ?hr6r18n1q8
    case hy6r18n1q8 => (intro w hSw; (try dsimp only at hSw); (obtain ⟨x1, x2⟩ := HPC.out w hSw; obtain ⟨c1, c2, c3⟩ := box3_cells x1; obtain ⟨d1, d2, d3⟩ := box3_cells x2; obtain ⟨g1, g2⟩ := HC2.out w hSw; clear x1 x2); first | (go_simp; done) | (go_simp; with_reducible rfl))
    refine wpAnyH_take (i := 8) (v := ?v6r18n1q9) rfl (by kernel_rfl) (by kernel_rfl) (by kernel_rfl) (fun _ _ _ h => h) (Or.inl ⟨by kernel_rfl, ?hy6r18n1q9⟩) (by assumption) ?hr6r18n1q9
    case hy6r18n1q9 => (intro w hSw; (try dsimp only at hSw); (obtain ⟨x1, x2⟩ := HPC.out w hSw; obtain ⟨c1, c2, c3⟩ := box3_cells x1; obtain ⟨d1, d2, d3⟩ := box3_cells x2; obtain ⟨g1, g2⟩ := HC2.out w hSw; clear x1 x2); first | (go_simp; done) | (go_simp; with_reducible rfl))
    refine wpAnyH_ready (rs := [9]) (by kernel_rfl) (by simp) (AllReadyH.cons rfl (fun K hK => ?hc6r18n1q10) AllReadyH.nil)
    go_simp
    refine hK.out _ _ ?hs6r18n1q10 (fun hHeld6r18n1q10 => ?ht6r18n1q10)
    case hs6r18n1q10 => ((try dsimp only); (first | (with_reducible exact hHeld) | (refine Turned.drew ?_; exact (Turned.refl _ _).setCell ⟨gb, i, none⟩ _ (.inr rfl))))
    clear hHeld hK
    have hHeld := hHeld6r18n1q10
    clear hHeld6r18n1q10
    refine wpAnyH_done (by kernel_rfl) ?_ _
    clear hHeld
    refine NoPanic.normal ?_
    apply_assumption
    refine wp_cutA 142 (fun tm ds => ds = [] ∧ slot tm 11 = .slice ua L.length uc ∧ slot tm 12 = .int .i64 wy ∧ slot tm 13 = .slice na need.length nc ∧ slot tm 14 = .pointer (some ⟨P1, 0, none⟩) ∧ slot tm 16 = .pointer (some ⟨P2, 0, none⟩) ∧ slot tm 17 = .int .i64 (o.length : Nat) ∧ slot tm 18 = .int .i64 (i : Nat) ∧ slot tm 19 = .int .i64 (k : Nat)) (by kernel_rfl) (by exact ⟨by kernel_rfl, by kernel_rfl, by kernel_rfl, by kernel_rfl, by kernel_rfl, by kernel_rfl, by kernel_rfl, by kernel_rfl, by kernel_rfl⟩) ?_
    rintro tm2 ds2 h142 ⟨rfl, e11, e12, e13, e14, e16, e17, e18, e19⟩
    rw [frame142 tm2 [] h142, e11, e12, e13, e14, e16, e17, e18, e19]
    clear h142 e11 e12 e13 e14 e16 e17 e18 e19
    refine wp_abs (fun X => Turned (fun b => b = gb) W17 X ∧ X.ownsRow W16.heap.size 3 1 (.slice (some ⟨gb, 0, none⟩) o.length gc) o.length ((intsC o).set i (.int .i64 uk))) ⟨((Turned.refl (fun b => b = gb) W17).setCell ⟨gb, i, none⟩ _ (.inr rfl)).drew, (World.ownsRow.stored ho17 i (.int .i64 uk)).1⟩ ?_
    rintro W18 ⟨hT18, ho18⟩
    obtain ⟨cur18, hcur18⟩ := ownsRow_cells ho18 rfl
    have hfk : W18.frozen? ⟨gb, k, none⟩ = false := by simp [World.frozen?, hcur18]
    have hck : ∃ x, W18.cell? ⟨gb, k, none⟩ = some x := by
      obtain ⟨b4, o4, he4, _, hc4⟩ := Rd.at (Rd.of_own ho18) (by omega)
      injection he4 with he4
      injection he4 with hx1 hx2
      subst hx1 hx2
      have h := hc4 k _ (List.getElem?_eq_getElem (by simp [intsC]; omega))
      rw [Nat.zero_add] at h
      exact ⟨_, h⟩
    obtain ⟨xk, hck⟩ := hck
    clear hci hfi hcur17
    go_upto_region 19 with (fail)
    refine wp_region_noPanic (wp_region_held_drew (S := (fun X => Turned (fun b => b = gb) W18 X)) (by kernel_rfl) ?hS6r19n2 (fun hHeld => ?hR6r19n2))
    case hS6r19n2 => ((try dsimp only); (exact (Turned.refl _ _).drew))
    refine wpAnyH_take (i := 0) (v := ?v6r19n2q1) rfl (by kernel_rfl) (by kernel_rfl) (by kernel_rfl) (fun _ _ _ h => h) (Or.inl ⟨by kernel_rfl, ?hy6r19n2q1⟩) (by assumption) ?hr6r19n2q1
    case hy6r19n2q1 => (intro w hSw; (try dsimp only at hSw); (have hX17 := hT18.trans hSw; obtain ⟨x1, x2⟩ := HPC.out w hX17; obtain ⟨c1, c2, c3⟩ := box3_cells x1; obtain ⟨d1, d2, d3⟩ := box3_cells x2; obtain ⟨g1, g2⟩ := HC2.out w hX17; clear x1 x2 hX17); first | (go_simp; done) | (go_simp; with_reducible rfl))
    refine wpAnyH_take (i := 1) (v := ?v6r19n2q2) rfl (by kernel_rfl) (by kernel_rfl) (by kernel_rfl) (fun _ _ _ h => h) (Or.inl ⟨by kernel_rfl, ?hy6r19n2q2⟩) (by assumption) ?hr6r19n2q2
    case hy6r19n2q2 => (intro w hSw; (try dsimp only at hSw); (have hX17 := hT18.trans hSw; obtain ⟨x1, x2⟩ := HPC.out w hX17; obtain ⟨c1, c2, c3⟩ := box3_cells x1; obtain ⟨d1, d2, d3⟩ := box3_cells x2; obtain ⟨g1, g2⟩ := HC2.out w hX17; clear x1 x2 hX17); first | (go_simp; done) | (go_simp; with_reducible rfl))
    refine wpAnyH_take (i := 2) (v := ?v6r19n2q3) rfl (by kernel_rfl) (by kernel_rfl) (by kernel_rfl) (fun _ _ _ h => h) (Or.inl ⟨by kernel_rfl, ?hy6r19n2q3⟩) (by assumption) ?hr6r19n2q3
    case hy6r19n2q3 => (intro w hSw; (try dsimp only at hSw); (have hX17 := hT18.trans hSw; obtain ⟨x1, x2⟩ := HPC.out w hX17; obtain ⟨c1, c2, c3⟩ := box3_cells x1; obtain ⟨d1, d2, d3⟩ := box3_cells x2; obtain ⟨g1, g2⟩ := HC2.out w hX17; clear x1 x2 hX17); first | (go_simp; done) | (go_simp; with_reducible rfl))
    refine wpAnyH_take (i := 3) (v := ?v6r19n2q4) rfl (by kernel_rfl) (by kernel_rfl) (by kernel_rfl) (fun _ _ _ h => h) (Or.inl ⟨by kernel_rfl, ?hy6r19n2q4⟩) (by assumption) ?hr6r19n2q4
    case hy6r19n2q4 => (intro w hSw; (try dsimp only at hSw); (have hX17 := hT18.trans hSw; obtain ⟨x1, x2⟩ := HPC.out w hX17; obtain ⟨c1, c2, c3⟩ := box3_cells x1; obtain ⟨d1, d2, d3⟩ := box3_cells x2; obtain ⟨g1, g2⟩ := HC2.out w hX17; clear x1 x2 hX17); first | (go_simp; done) | (go_simp; with_reducible rfl))
    refine wpAnyH_take (i := 4) (v := ?v6r19n2q5) rfl (by kernel_rfl) (by kernel_rfl) (by kernel_rfl) (fun _ _ _ h => h) (Or.inl ⟨by kernel_rfl, ?hy6r19n2q5⟩) (by assumption) ?hr6r19n2q5
    case hy6r19n2q5 => (intro w hSw; (try dsimp only at hSw); (have hX17 := hT18.trans hSw; obtain ⟨x1, x2⟩ := HPC.out w hX17; obtain ⟨c1, c2, c3⟩ := box3_cells x1; obtain ⟨d1, d2, d3⟩ := box3_cells x2; obtain ⟨g1, g2⟩ := HC2.out w hX17; clear x1 x2 hX17); first | (go_simp; done) | (go_simp; with_reducible rfl))
    refine wpAnyH_take (i := 5) (v := ?v6r19n2q6) rfl (by kernel_rfl) (by kernel_rfl) (by kernel_rfl) (fun _ _ _ h => h) (Or.inl ⟨by kernel_rfl, ?hy6r19n2q6⟩) (by assumption) ?hr6r19n2q6
    case hy6r19n2q6 => (intro w hSw; (try dsimp only at hSw); (have hX17 := hT18.trans hSw; obtain ⟨x1, x2⟩ := HPC.out w hX17; obtain ⟨c1, c2, c3⟩ := box3_cells x1; obtain ⟨d1, d2, d3⟩ := box3_cells x2; obtain ⟨g1, g2⟩ := HC2.out w hX17; clear x1 x2 hX17); first | (go_simp; done) | (go_simp; with_reducible rfl))
    refine wpAnyH_take (i := 6) (v := ?v6r19n2q7) rfl (by kernel_rfl) (by kernel_rfl) (by kernel_rfl) (fun _ _ _ h => h) (Or.inl ⟨by kernel_rfl, ?hy6r19n2q7⟩) (by assumption) ?hr6r19n2q7
    case hy6r19n2q7 => (intro w hSw; (try dsimp only at hSw); (have hX17 := hT18.trans hSw; obtain ⟨x1, x2⟩ := HPC.out w hX17; obtain ⟨c1, c2, c3⟩ := box3_cells x1; obtain ⟨d1, d2, d3⟩ := box3_cells x2; obtain ⟨g1, g2⟩ := HC2.out w hX17; clear x1 x2 hX17); first | (go_simp; done) | (go_simp; with_reducible rfl))
    refine wpAnyH_take (i := 7) (v := ?v6r19n2q8) rfl (by kernel_rfl) (by kernel_rfl) (by kernel_rfl) (fun _ _ _ h => h) (Or.inl ⟨by kernel_rfl, ?hy6r19n2q8⟩) (by assumption) ?hr6r19n2q8
    case hy6r19n2q8 => (intro w hSw; (try dsimp only at hSw); (have hX17 := hT18.trans hSw; obtain ⟨x1, x2⟩ := HPC.out w hX17; obtain ⟨c1, c2, c3⟩ := box3_cells x1; obtain ⟨d1, d2, d3⟩ := box3_cells x2; obtain ⟨g1, g2⟩ := HC2.out w hX17; clear x1 x2 hX17); first | (go_simp; done) | (go_simp; with_reducible rfl))
    refine wpAnyH_take (i := 8) (v := ?v6r19n2q9) rfl (by kernel_rfl) (by kernel_rfl) (by kernel_rfl) (fun _ _ _ h => h) (Or.inl ⟨by kernel_rfl, ?hy6r19n2q9⟩) (by assumption) ?hr6r19n2q9
    case hy6r19n2q9 => (intro w hSw; (try dsimp only at hSw); (have hX17 := hT18.trans hSw; obtain ⟨x1, x2⟩ := HPC.out w hX17; obtain ⟨c1, c2, c3⟩ := box3_cells x1; obtain ⟨d1, d2, d3⟩ := box3_cells x2; obtain ⟨g1, g2⟩ := HC2.out w hX17; clear x1 x2 hX17); first | (go_simp; done) | (go_simp; with_reducible rfl))
    refine wpAnyH_ready (rs := [9]) (by kernel_rfl) (by simp) (AllReadyH.cons rfl (fun K hK => ?hc6r19n2q10) AllReadyH.nil)
    go_simp
    refine hK.out _ _ ?hs6r19n2q10 (fun hHeld6r19n2q10 => ?ht6r19n2q10)
    case hs6r19n2q10 => ((try dsimp only); (first | (with_reducible exact hHeld) | (refine Turned.drew ?_; exact (Turned.refl _ _).setCell ⟨gb, k, none⟩ _ (.inr rfl))))
    clear hHeld hK
    have hHeld := hHeld6r19n2q10
    clear hHeld6r19n2q10
    refine wpAnyH_done (by kernel_rfl) ?_ _
    clear hHeld
    refine NoPanic.normal ?_
    apply_assumption
    refine wp_cutA 142 (fun tm ds => ds = [] ∧ slot tm 11 = .slice ua L.length uc ∧ slot tm 12 = .int .i64 wy ∧ slot tm 13 = .slice na need.length nc ∧ slot tm 14 = .pointer (some ⟨P1, 0, none⟩) ∧ slot tm 16 = .pointer (some ⟨P2, 0, none⟩) ∧ slot tm 17 = .int .i64 (o.length : Nat) ∧ slot tm 18 = .int .i64 (i : Nat) ∧ slot tm 19 = .int .i64 (k : Nat)) (by kernel_rfl) (by exact ⟨by kernel_rfl, by kernel_rfl, by kernel_rfl, by kernel_rfl, by kernel_rfl, by kernel_rfl, by kernel_rfl, by kernel_rfl, by kernel_rfl⟩) ?_
    rintro tm4 ds4 h142 ⟨rfl, e11, e12, e13, e14, e16, e17, e18, e19⟩
    rw [frame142 tm4 [] h142, e11, e12, e13, e14, e16, e17, e18, e19]
    clear h142 e11 e12 e13 e14 e16 e17 e18 e19
    refine wp_abs (fun X => Turned (fun b => b = gb) W17 X ∧ X.ownsRow W16.heap.size 3 1 (.slice (some ⟨gb, 0, none⟩) o.length gc) o.length (((intsC o).set i (.int .i64 uk)).set k (.int .i64 ui))) ⟨hT18.trans ((Turned.refl (fun b => b = gb) W18).setCell ⟨gb, k, none⟩ _ (.inr rfl)).drew, (World.ownsRow.stored ho18 k (.int .i64 ui)).1⟩ ?_
    rintro W19 ⟨hT19, ho19⟩
    obtain ⟨o2, ho2⟩ : ∃ o2, o2 = (o.set i uk).set k ui := ⟨_, rfl⟩
    have hi2 : ((intsC o).set i (.int .i64 uk)).set k (.int .i64 ui) = intsC o2 := by rw [ho2]; simp [intsC, List.map_set]
    rw [hi2] at ho19
    have hperm : o2.Perm o := by rw [ho2, HUI.out, HUK.out]; exact swap_perm hil hkl
    have hl2 : o2.length = o.length := hperm.length_eq
    have hmem2 : ∀ x ∈ o2, 0 ≤ x ∧ x < (L.length : Int) := fun x hx => by
      have h := (task_need rfl HTZ.out).1.2 x (HOP.out.mem_iff.1 (hperm.mem_iff.1 hx))
      exact h
    have hio2 : IntsAt W19 (.slice (some ⟨gb, 0, none⟩) o2.length gc) o2 := by
      refine ⟨?_, fun x hx => hoi.2 x (hperm.mem_iff.1 hx)⟩
      rw [hl2]
      exact (Rd.of_own ho19).mono (fun _ _ => trivial)
    have HIO := hidep hio2
    have HMEM2 := hidep hmem2
    have HPERM := hidep hperm
    have HT19 := hidep hT19
    clear hi2 ho2 hT18 ho18 hcur18 hfk hck hmem2 hperm hio2 ho19 hT19
    go_upto_region 21 with (fail)
    refine wp_loop (LoopI 142 (fun tm ds wr => (slot tm 11) = .slice ua L.length uc ∧ (slot tm 12) = .int .i64 wy ∧ (slot tm 13) = .slice na need.length nc ∧ (slot tm 14) = .pointer (some ⟨P1, 0, none⟩) ∧ (slot tm 16) = .pointer (some ⟨P2, 0, none⟩) ∧ (slot tm 17) = .int .i64 (o.length : Nat) ∧ ds = [] ∧ ∃ j : Nat, j ≤ o.length ∧ (slot tm 20) = .int .i64 (j : Nat) ∧ wr = W19)) (fun a' wr => o.length - (intOf (a'.tmps.getD 20 undef)).toNat) ?chkStart ?chkRound
    case' chkStart => refine LoopI.mk rfl ?_
    case' chkRound => (rintro ⟨t, ds⟩ wr ⟨hts, hrel⟩; dsimp only at hts hrel; rw [frame142 t ds hts])
    case chkStart => exact ⟨rfl, rfl, rfl, rfl, rfl, rfl, rfl, 0, by omega, rfl, rfl⟩
    obtain ⟨h11, h12, h13, h14, h16, h17, hds, j, hj, h20, hwr19⟩ := hrel
    subst hds hwr19
    rw [h11, h12, h13, h14, h16, h17, h20]
    clear h11 h12 h13 h14 h16 h17 h20 hts
    obtain ⟨x1, x2⟩ := HPC.out wr HT19.out
    obtain ⟨c1, c2, c3⟩ := box3_cells x1
    obtain ⟨d1, d2, d3⟩ := box3_cells x2
    by_cases hjl : j < o.length
    · have hj0 : (0 : Int) ≤ (j : Int) := by omega
      have hj1 : (j : Int) < (o.length : Int) := by omega
      have hxm := HMEM2.out _ (List.getElem_mem (by omega : j < o2.length))
      obtain ⟨b5, o5, he5, _, hc5⟩ := ints_get HIO.out (by omega : j < o2.length)
      injection he5 with he5
      injection he5 with hx1 hx2
      subst hx1 hx2
      rw [Nat.zero_add] at hc5
      generalize o2[j]'(by omega) = x at *
      have hx0 : ¬ x < 0 := by omega
      have hx1 : ¬ (L.length : Int) ≤ x := by omega
      clear x1 x2
      go_wp2
      refine ⟨LoopI.mk rfl ⟨rfl, rfl, rfl, rfl, rfl, rfl, rfl, j + 1, by omega, by show Value.int _ _ = _; go_num, rfl⟩, ?_⟩
      show o.length - _ < o.length - _
      simp [intOf]; omega
    · have hjn : j = o.length := by omega
      have hTZ := HTZ.out
      have hb19 := H39.out wr (HT17.out wr HT19.out)
      have HSTP := hidep (steps30_any wy L o2 _ (.slice (some ⟨gb, 0, none⟩) o2.length gc) HOK.out HMEM2.out (by omega) wr (HPX.out.below hb19) HIO.out)
      rw [hl2] at HSTP
      obtain ⟨sv, hsv⟩ : ∃ sv, sv = stepsZ wy L o2 := ⟨_, rfl⟩
      rw [← hsv] at HSTP
      have hge : st ≤ sv := by
        have h := fewer (way := wy) (pl := L) (order := o2) HOK.out (by omega) (HPERM.out.trans HOP.out)
        rw [← HST.out, ← hsv] at h
        exact h
      have hbd := stepsGo_bd (way := wy) HOK.out o2 pl0 pl0_ok
      have hsvb : 0 ≤ sv ∧ sv ≤ 20000000 * o2.length := by rw [hsv]; exact hbd
      have hcz2 : checkZ wy L need o2 st tb = if sv = st then 0 else 19 := by
        have h := check_perm (way := wy) (pl := L) HOK.out HTZ.out (HPERM.out.trans HOP.out)
        rw [← HST.out, ← HTB.out, ← hsv] at h
        exact h
      have HC3 := hidep (fun (X : World) (hX : Turned (fun b => b = gb) W17 X) (hXi : IntsAt X (.slice (some ⟨gb, 0, none⟩) o2.length gc) o2) => HCK.out X st o2 (.slice (some ⟨gb, 0, none⟩) o2.length gc) (.slice la tb.length lc) (H39.out X (HT17.out X hX)) (by omega) hXi (HR8.out X (HT17.out X hX)).2.2)
      rw [hcz2, hl2] at HC3
      unfold planV at HC3
      clear hsv hcz2 hbd hjn
      go_upto_region 26 with (first
        | (go_at_call 26; refine HSTP.out.mono ?_; rintro e w20 ⟨rfl, h20⟩)
        | fail)
      have HK20 := hidep (show ∀ X, Turned (fun _ => False) w20 X → Turned (fun b => b = gb) W17 X from fun X hX => (HT19.out.trans (Turned.of_below h20)).trans (hX.mono (fun _ _ h => h.elim)))
      have HIO20 := hidep (show ∀ X, Turned (fun _ => False) w20 X → IntsAt X (.slice (some ⟨gb, 0, none⟩) o.length gc) o2 from fun X hX => by rw [← hl2]; exact (HIO.out.below h20).below hX.toBelow)
      have hdge : decide (st ≤ sv) = true := decide_eq_true hge
      clear h20 c1 c2 c3 d1 d2 d3 x1 x2
      by_cases hss : sv = st
      · subst hss
        rw [if_pos rfl] at HC3
        refine wp_region_noPanic (wp_region_held_drew (S := (fun X => Turned (fun _ => False) w20 X)) (by kernel_rfl) ?hS6r26n3 (fun hHeld => ?hR6r26n3))
        case hS6r26n3 => ((try dsimp only); (exact (Turned.refl _ _).drew))
        refine wpAnyH_take (i := 0) (v := ?v6r26n3q1) rfl (by kernel_rfl) (by kernel_rfl) (by kernel_rfl) (fun _ _ _ h => h) (Or.inl ⟨by kernel_rfl, ?hy6r26n3q1⟩) (by assumption) ?hr6r26n3q1
        case hy6r26n3q1 => (intro w hSw; (try dsimp only at hSw); (have hX17 := HK20.out w hSw; obtain ⟨x1, x2⟩ := HPC.out w hX17; obtain ⟨c1, c2, c3⟩ := box3_cells x1; obtain ⟨d1, d2, d3⟩ := box3_cells x2; clear x1 x2 hX17); first | (go_simp; done) | (go_simp; with_reducible rfl))
        refine wpAnyH_take (i := 1) (v := ?v6r26n3q2) rfl (by kernel_rfl) (by kernel_rfl) (by kernel_rfl) (fun _ _ _ h => h) (Or.inl ⟨by kernel_rfl, ?hy6r26n3q2⟩) (by assumption) ?hr6r26n3q2
        case hy6r26n3q2 => (intro w hSw; (try dsimp only at hSw); (have hX17 := HK20.out w hSw; obtain ⟨x1, x2⟩ := HPC.out w hX17; obtain ⟨c1, c2, c3⟩ := box3_cells x1; obtain ⟨d1, d2, d3⟩ := box3_cells x2; clear x1 x2 hX17); first | (go_simp; done) | (go_simp; with_reducible rfl))
        refine wpAnyH_take (i := 2) (v := ?v6r26n3q3) rfl (by kernel_rfl) (by kernel_rfl) (by kernel_rfl) (fun _ _ _ h => h) (Or.inl ⟨by kernel_rfl, ?hy6r26n3q3⟩) (by assumption) ?hr6r26n3q3
        case hy6r26n3q3 => (intro w hSw; (try dsimp only at hSw); (have hX17 := HK20.out w hSw; obtain ⟨x1, x2⟩ := HPC.out w hX17; obtain ⟨c1, c2, c3⟩ := box3_cells x1; obtain ⟨d1, d2, d3⟩ := box3_cells x2; clear x1 x2 hX17); first | (go_simp; done) | (go_simp; with_reducible rfl))
        refine wpAnyH_take (i := 3) (v := ?v6r26n3q4) rfl (by kernel_rfl) (by kernel_rfl) (by kernel_rfl) (fun _ _ _ h => h) (Or.inl ⟨by kernel_rfl, ?hy6r26n3q4⟩) (by assumption) ?hr6r26n3q4
        case hy6r26n3q4 => (intro w hSw; (try dsimp only at hSw); (have hX17 := HK20.out w hSw; obtain ⟨x1, x2⟩ := HPC.out w hX17; obtain ⟨c1, c2, c3⟩ := box3_cells x1; obtain ⟨d1, d2, d3⟩ := box3_cells x2; clear x1 x2 hX17); first | (go_simp; done) | (go_simp; with_reducible rfl))
        refine wpAnyH_take (i := 4) (v := ?v6r26n3q5) rfl (by kernel_rfl) (by kernel_rfl) (by kernel_rfl) (fun _ _ _ h => h) (Or.inl ⟨by kernel_rfl, ?hy6r26n3q5⟩) (by assumption) ?hr6r26n3q5
        case hy6r26n3q5 => (intro w hSw; (try dsimp only at hSw); (have hX17 := HK20.out w hSw; obtain ⟨x1, x2⟩ := HPC.out w hX17; obtain ⟨c1, c2, c3⟩ := box3_cells x1; obtain ⟨d1, d2, d3⟩ := box3_cells x2; clear x1 x2 hX17); first | (go_simp; done) | (go_simp; with_reducible rfl))
        refine wpAnyH_take (i := 5) (v := ?v6r26n3q6) rfl (by kernel_rfl) (by kernel_rfl) (by kernel_rfl) (fun _ _ _ h => h) (Or.inl ⟨by kernel_rfl, ?hy6r26n3q6⟩) (by assumption) ?hr6r26n3q6
        case hy6r26n3q6 => (intro w hSw; (try dsimp only at hSw); (have hX17 := HK20.out w hSw; obtain ⟨x1, x2⟩ := HPC.out w hX17; obtain ⟨c1, c2, c3⟩ := box3_cells x1; obtain ⟨d1, d2, d3⟩ := box3_cells x2; clear x1 x2 hX17); first | (go_simp; done) | (go_simp; with_reducible rfl))
        refine wpAnyH_take (i := 6) (v := ?v6r26n3q7) rfl (by kernel_rfl) (by kernel_rfl) (by kernel_rfl) (fun _ _ _ h => h) (Or.inl ⟨by kernel_rfl, ?hy6r26n3q7⟩) (by assumption) ?hr6r26n3q7
        case hy6r26n3q7 => (intro w hSw; (try dsimp only at hSw); (have hX17 := HK20.out w hSw; obtain ⟨x1, x2⟩ := HPC.out w hX17; obtain ⟨c1, c2, c3⟩ := box3_cells x1; obtain ⟨d1, d2, d3⟩ := box3_cells x2; clear x1 x2 hX17); first | (go_simp; done) | (go_simp; with_reducible rfl))
        refine wpAnyH_take (i := 7) (v := ?v6r26n3q8) rfl (by kernel_rfl) (by kernel_rfl) (by kernel_rfl) (fun _ _ _ h => h) (Or.inl ⟨by kernel_rfl, ?hy6r26n3q8⟩) (by assumption) ?hr6r26n3q8
        case hy6r26n3q8 => (intro w hSw; (try dsimp only at hSw); (have hX17 := HK20.out w hSw; obtain ⟨x1, x2⟩ := HPC.out w hX17; obtain ⟨c1, c2, c3⟩ := box3_cells x1; obtain ⟨d1, d2, d3⟩ := box3_cells x2; clear x1 x2 hX17); first | (go_simp; done) | (go_simp; with_reducible rfl))
        refine wpAnyH_take (i := 8) (v := ?v6r26n3q9) rfl (by kernel_rfl) (by kernel_rfl) (by kernel_rfl) (fun _ _ _ h => h) (Or.inl ⟨by kernel_rfl, ?hy6r26n3q9⟩) (by assumption) ?hr6r26n3q9
        case hy6r26n3q9 => (intro w hSw; (try dsimp only at hSw); (have hX17 := HK20.out w hSw; obtain ⟨x1, x2⟩ := HPC.out w hX17; obtain ⟨c1, c2, c3⟩ := box3_cells x1; obtain ⟨d1, d2, d3⟩ := box3_cells x2; clear x1 x2 hX17); first | (go_simp; done) | (go_simp; with_reducible rfl))
        refine wpAnyH_take (i := 11) (v := ?v6r26n3q10) rfl (by kernel_rfl) (by kernel_rfl) (by kernel_rfl) (fun _ _ _ h => h) (Or.inl ⟨by kernel_rfl, ?hy6r26n3q10⟩) (by assumption) ?hr6r26n3q10
        case hy6r26n3q10 => (intro w hSw; (try dsimp only at hSw); (have hX17 := HK20.out w hSw; obtain ⟨x1, x2⟩ := HPC.out w hX17; obtain ⟨c1, c2, c3⟩ := box3_cells x1; obtain ⟨d1, d2, d3⟩ := box3_cells x2; clear x1 x2 hX17); first | (go_simp; done) | (go_simp; with_reducible rfl))
        refine wpAnyH_take (i := 12) (v := ?v6r26n3q11) rfl (by kernel_rfl) (by kernel_rfl) (by kernel_rfl) (fun _ _ _ h => h) (Or.inl ⟨by kernel_rfl, ?hy6r26n3q11⟩) (by assumption) ?hr6r26n3q11
        case hy6r26n3q11 => (intro w hSw; (try dsimp only at hSw); (have hX17 := HK20.out w hSw; obtain ⟨x1, x2⟩ := HPC.out w hX17; obtain ⟨c1, c2, c3⟩ := box3_cells x1; obtain ⟨d1, d2, d3⟩ := box3_cells x2; clear x1 x2 hX17); first | (go_simp; done) | (go_simp; with_reducible rfl))
        refine wpAnyH_take (i := 13) (v := ?v6r26n3q12) rfl (by kernel_rfl) (by kernel_rfl) (by kernel_rfl) (fun _ _ _ h => h) (Or.inl ⟨by kernel_rfl, ?hy6r26n3q12⟩) (by assumption) ?hr6r26n3q12
        case hy6r26n3q12 => (intro w hSw; (try dsimp only at hSw); (have hX17 := HK20.out w hSw; obtain ⟨x1, x2⟩ := HPC.out w hX17; obtain ⟨c1, c2, c3⟩ := box3_cells x1; obtain ⟨d1, d2, d3⟩ := box3_cells x2; clear x1 x2 hX17); first | (go_simp; done) | (go_simp; with_reducible rfl))
        refine wpAnyH_take (i := 14) (v := ?v6r26n3q13) rfl (by kernel_rfl) (by kernel_rfl) (by kernel_rfl) (fun _ _ _ h => h) (Or.inl ⟨by kernel_rfl, ?hy6r26n3q13⟩) (by assumption) ?hr6r26n3q13
        case hy6r26n3q13 => (intro w hSw; (try dsimp only at hSw); (have hX17 := HK20.out w hSw; obtain ⟨x1, x2⟩ := HPC.out w hX17; obtain ⟨c1, c2, c3⟩ := box3_cells x1; obtain ⟨d1, d2, d3⟩ := box3_cells x2; clear x1 x2 hX17); first | (go_simp; done) | (go_simp; with_reducible rfl))
        refine wpAnyH_ready (rs := [9]) (by kernel_rfl) (by simp) (AllReadyH.cons rfl (fun K hK => ?hc6r26n3q14) AllReadyH.nil)
        go_simp
        (go_at_call 23; refine (HC3.out _ (HK20.out _ hHeld) (HIO20.out _ hHeld)).mono ?_; rintro e x131 ⟨rfl, hb131⟩; have hk := hHeld.below hb131; (try dsimp only))
        refine hK.out _ _ ?hs6r26n3q14 (fun hHeld6r26n3q14 => ?ht6r26n3q14)
        case hs6r26n3q14 => ((try dsimp only); (first | exact hk))
        clear hHeld hK
        have hHeld := hHeld6r26n3q14
        clear hHeld6r26n3q14
        refine wpAnyH_take (i := 10) (v := ?v6r26n3q15) rfl (by kernel_rfl) (by kernel_rfl) (by kernel_rfl) (fun _ _ _ h => h) (Or.inl ⟨by kernel_rfl, ?hy6r26n3q15⟩) (by assumption) ?hr6r26n3q15
        case hy6r26n3q15 => (intro w hSw; (try dsimp only at hSw); (have hX17 := HK20.out w hSw; obtain ⟨x1, x2⟩ := HPC.out w hX17; obtain ⟨c1, c2, c3⟩ := box3_cells x1; obtain ⟨d1, d2, d3⟩ := box3_cells x2; clear x1 x2 hX17); first | (go_simp; done) | (go_simp; with_reducible rfl))
        refine wpAnyH_take (i := 15) (v := ?v6r26n3q16) rfl (by kernel_rfl) (by kernel_rfl) (by kernel_rfl) (fun _ _ _ h => h) (Or.inl ⟨by kernel_rfl, ?hy6r26n3q16⟩) (by assumption) ?hr6r26n3q16
        case hy6r26n3q16 => (intro w hSw; (try dsimp only at hSw); (have hX17 := HK20.out w hSw; obtain ⟨x1, x2⟩ := HPC.out w hX17; obtain ⟨c1, c2, c3⟩ := box3_cells x1; obtain ⟨d1, d2, d3⟩ := box3_cells x2; clear x1 x2 hX17); first | (go_simp; done) | (go_simp; with_reducible rfl))
        refine wpAnyH_take (i := 16) (v := ?v6r26n3q17) rfl (by kernel_rfl) (by kernel_rfl) (by kernel_rfl) (fun _ _ _ h => h) (Or.inl ⟨by kernel_rfl, ?hy6r26n3q17⟩) (by assumption) ?hr6r26n3q17
        case hy6r26n3q17 => (intro w hSw; (try dsimp only at hSw); (have hX17 := HK20.out w hSw; obtain ⟨x1, x2⟩ := HPC.out w hX17; obtain ⟨c1, c2, c3⟩ := box3_cells x1; obtain ⟨d1, d2, d3⟩ := box3_cells x2; clear x1 x2 hX17); first | (go_simp; done) | (go_simp; with_reducible rfl))
        refine wpAnyH_take (i := 17) (v := ?v6r26n3q18) rfl (by kernel_rfl) (by kernel_rfl) (by kernel_rfl) (fun _ _ _ h => h) (Or.inl ⟨by kernel_rfl, ?hy6r26n3q18⟩) (by assumption) ?hr6r26n3q18
        case hy6r26n3q18 => (intro w hSw; (try dsimp only at hSw); (have hX17 := HK20.out w hSw; obtain ⟨x1, x2⟩ := HPC.out w hX17; obtain ⟨c1, c2, c3⟩ := box3_cells x1; obtain ⟨d1, d2, d3⟩ := box3_cells x2; clear x1 x2 hX17); first | (go_simp; done) | (go_simp; with_reducible rfl))
        refine wpAnyH_ready (rs := [18]) (by kernel_rfl) (by simp) (AllReadyH.cons rfl (fun K hK => ?hc6r26n3q19) AllReadyH.nil)
        go_simp
        (go_at_call 14; refine (lives_any _).mono ?_; rintro e x140 ⟨rfl, hb140⟩; have hk := hHeld.below hb140; (try dsimp only))
        refine hK.out _ _ ?hs6r26n3q19 (fun hHeld6r26n3q19 => ?ht6r26n3q19)
        case hs6r26n3q19 => ((try dsimp only); (first | exact hk))
        clear hHeld hK
        have hHeld := hHeld6r26n3q19
        clear hHeld6r26n3q19
        refine wpAnyH_take (i := 19) (v := ?v6r26n3q20) rfl (by kernel_rfl) (by kernel_rfl) (by kernel_rfl) (fun _ _ _ h => h) (Or.inl ⟨by kernel_rfl, ?hy6r26n3q20⟩) (by assumption) ?hr6r26n3q20
        case hy6r26n3q20 => (intro w hSw; (try dsimp only at hSw); (have hX17 := HK20.out w hSw; obtain ⟨x1, x2⟩ := HPC.out w hX17; obtain ⟨c1, c2, c3⟩ := box3_cells x1; obtain ⟨d1, d2, d3⟩ := box3_cells x2; clear x1 x2 hX17); first | (go_simp; done) | (go_simp; with_reducible rfl))
        refine wpAnyH_take (i := 20) (v := ?v6r26n3q21) rfl (by kernel_rfl) (by kernel_rfl) (by kernel_rfl) (fun _ _ _ h => h) (Or.inl ⟨by kernel_rfl, ?hy6r26n3q21⟩) (by assumption) ?hr6r26n3q21
        case hy6r26n3q21 => (intro w hSw; (try dsimp only at hSw); (have hX17 := HK20.out w hSw; obtain ⟨x1, x2⟩ := HPC.out w hX17; obtain ⟨c1, c2, c3⟩ := box3_cells x1; obtain ⟨d1, d2, d3⟩ := box3_cells x2; clear x1 x2 hX17); first | (go_simp; done) | (go_simp; with_reducible rfl))
        refine wpAnyH_done (by kernel_rfl) ?_ _
        clear hHeld
        refine NoPanic.normal ?_
        have hkk : Turned (fun _ => False) w20 x140 := hk
        apply_assumption
        refine wp_cutA 142 (fun tm ds => ds = [] ∧ slot tm 10 = .bool true) (by kernel_rfl) (by exact ⟨by kernel_rfl, by kernel_rfl⟩) ?_
        rintro tm7 ds7 h142 ⟨rfl, e10⟩
        rw [frame142 tm7 [] h142, e10]
        have hbx := H39.out _ (HT17.out _ (HK20.out _ hkk))
        clear h142 e10 hkk hk
        go_wp2
        go_ret
        exact ⟨rfl, HB3.out.trans (hbx.mono HB3.out.size)⟩
      · rw [if_neg hss] at HC3
        have hne3 : (sv == st) = false := beq_false_of_ne hss
        refine wp_region_noPanic (wp_region_held_drew (S := (fun X => Turned (fun _ => False) w20 X)) (by kernel_rfl) ?hS6r26n4 (fun hHeld => ?hR6r26n4))
        case hS6r26n4 => ((try dsimp only); (exact (Turned.refl _ _).drew))
        refine wpAnyH_take (i := 0) (v := ?v6r26n4q1) rfl (by kernel_rfl) (by kernel_rfl) (by kernel_rfl) (fun _ _ _ h => h) (Or.inl ⟨by kernel_rfl, ?hy6r26n4q1⟩) (by assumption) ?hr6r26n4q1
        case hy6r26n4q1 => (intro w hSw; (try dsimp only at hSw); (have hX17 := HK20.out w hSw; obtain ⟨x1, x2⟩ := HPC.out w hX17; obtain ⟨c1, c2, c3⟩ := box3_cells x1; obtain ⟨d1, d2, d3⟩ := box3_cells x2; clear x1 x2 hX17); first | (go_simp; done) | (go_simp; with_reducible rfl))
        refine wpAnyH_take (i := 1) (v := ?v6r26n4q2) rfl (by kernel_rfl) (by kernel_rfl) (by kernel_rfl) (fun _ _ _ h => h) (Or.inl ⟨by kernel_rfl, ?hy6r26n4q2⟩) (by assumption) ?hr6r26n4q2
        case hy6r26n4q2 => (intro w hSw; (try dsimp only at hSw); (have hX17 := HK20.out w hSw; obtain ⟨x1, x2⟩ := HPC.out w hX17; obtain ⟨c1, c2, c3⟩ := box3_cells x1; obtain ⟨d1, d2, d3⟩ := box3_cells x2; clear x1 x2 hX17); first | (go_simp; done) | (go_simp; with_reducible rfl))
        refine wpAnyH_take (i := 2) (v := ?v6r26n4q3) rfl (by kernel_rfl) (by kernel_rfl) (by kernel_rfl) (fun _ _ _ h => h) (Or.inl ⟨by kernel_rfl, ?hy6r26n4q3⟩) (by assumption) ?hr6r26n4q3
        case hy6r26n4q3 => (intro w hSw; (try dsimp only at hSw); (have hX17 := HK20.out w hSw; obtain ⟨x1, x2⟩ := HPC.out w hX17; obtain ⟨c1, c2, c3⟩ := box3_cells x1; obtain ⟨d1, d2, d3⟩ := box3_cells x2; clear x1 x2 hX17); first | (go_simp; done) | (go_simp; with_reducible rfl))
        refine wpAnyH_take (i := 3) (v := ?v6r26n4q4) rfl (by kernel_rfl) (by kernel_rfl) (by kernel_rfl) (fun _ _ _ h => h) (Or.inl ⟨by kernel_rfl, ?hy6r26n4q4⟩) (by assumption) ?hr6r26n4q4
        case hy6r26n4q4 => (intro w hSw; (try dsimp only at hSw); (have hX17 := HK20.out w hSw; obtain ⟨x1, x2⟩ := HPC.out w hX17; obtain ⟨c1, c2, c3⟩ := box3_cells x1; obtain ⟨d1, d2, d3⟩ := box3_cells x2; clear x1 x2 hX17); first | (go_simp; done) | (go_simp; with_reducible rfl))
        refine wpAnyH_take (i := 4) (v := ?v6r26n4q5) rfl (by kernel_rfl) (by kernel_rfl) (by kernel_rfl) (fun _ _ _ h => h) (Or.inl ⟨by kernel_rfl, ?hy6r26n4q5⟩) (by assumption) ?hr6r26n4q5
        case hy6r26n4q5 => (intro w hSw; (try dsimp only at hSw); (have hX17 := HK20.out w hSw; obtain ⟨x1, x2⟩ := HPC.out w hX17; obtain ⟨c1, c2, c3⟩ := box3_cells x1; obtain ⟨d1, d2, d3⟩ := box3_cells x2; clear x1 x2 hX17); first | (go_simp; done) | (go_simp; with_reducible rfl))
        refine wpAnyH_take (i := 5) (v := ?v6r26n4q6) rfl (by kernel_rfl) (by kernel_rfl) (by kernel_rfl) (fun _ _ _ h => h) (Or.inl ⟨by kernel_rfl, ?hy6r26n4q6⟩) (by assumption) ?hr6r26n4q6
        case hy6r26n4q6 => (intro w hSw; (try dsimp only at hSw); (have hX17 := HK20.out w hSw; obtain ⟨x1, x2⟩ := HPC.out w hX17; obtain ⟨c1, c2, c3⟩ := box3_cells x1; obtain ⟨d1, d2, d3⟩ := box3_cells x2; clear x1 x2 hX17); first | (go_simp; done) | (go_simp; with_reducible rfl))
        refine wpAnyH_take (i := 6) (v := ?v6r26n4q7) rfl (by kernel_rfl) (by kernel_rfl) (by kernel_rfl) (fun _ _ _ h => h) (Or.inl ⟨by kernel_rfl, ?hy6r26n4q7⟩) (by assumption) ?hr6r26n4q7
        case hy6r26n4q7 => (intro w hSw; (try dsimp only at hSw); (have hX17 := HK20.out w hSw; obtain ⟨x1, x2⟩ := HPC.out w hX17; obtain ⟨c1, c2, c3⟩ := box3_cells x1; obtain ⟨d1, d2, d3⟩ := box3_cells x2; clear x1 x2 hX17); first | (go_simp; done) | (go_simp; with_reducible rfl))
        refine wpAnyH_take (i := 7) (v := ?v6r26n4q8) rfl (by kernel_rfl) (by kernel_rfl) (by kernel_rfl) (fun _ _ _ h => h) (Or.inl ⟨by kernel_rfl, ?hy6r26n4q8⟩) (by assumption) ?hr6r26n4q8
        case hy6r26n4q8 => (intro w hSw; (try dsimp only at hSw); (have hX17 := HK20.out w hSw; obtain ⟨x1, x2⟩ := HPC.out w hX17; obtain ⟨c1, c2, c3⟩ := box3_cells x1; obtain ⟨d1, d2, d3⟩ := box3_cells x2; clear x1 x2 hX17); first | (go_simp; done) | (go_simp; with_reducible rfl))
        refine wpAnyH_take (i := 8) (v := ?v6r26n4q9) rfl (by kernel_rfl) (by kernel_rfl) (by kernel_rfl) (fun _ _ _ h => h) (Or.inl ⟨by kernel_rfl, ?hy6r26n4q9⟩) (by assumption) ?hr6r26n4q9
        case hy6r26n4q9 => (intro w hSw; (try dsimp only at hSw); (have hX17 := HK20.out w hSw; obtain ⟨x1, x2⟩ := HPC.out w hX17; obtain ⟨c1, c2, c3⟩ := box3_cells x1; obtain ⟨d1, d2, d3⟩ := box3_cells x2; clear x1 x2 hX17); first | (go_simp; done) | (go_simp; with_reducible rfl))
        refine wpAnyH_take (i := 11) (v := ?v6r26n4q10) rfl (by kernel_rfl) (by kernel_rfl) (by kernel_rfl) (fun _ _ _ h => h) (Or.inl ⟨by kernel_rfl, ?hy6r26n4q10⟩) (by assumption) ?hr6r26n4q10
        case hy6r26n4q10 => (intro w hSw; (try dsimp only at hSw); (have hX17 := HK20.out w hSw; obtain ⟨x1, x2⟩ := HPC.out w hX17; obtain ⟨c1, c2, c3⟩ := box3_cells x1; obtain ⟨d1, d2, d3⟩ := box3_cells x2; clear x1 x2 hX17); first | (go_simp; done) | (go_simp; with_reducible rfl))
        refine wpAnyH_take (i := 12) (v := ?v6r26n4q11) rfl (by kernel_rfl) (by kernel_rfl) (by kernel_rfl) (fun _ _ _ h => h) (Or.inl ⟨by kernel_rfl, ?hy6r26n4q11⟩) (by assumption) ?hr6r26n4q11
        case hy6r26n4q11 => (intro w hSw; (try dsimp only at hSw); (have hX17 := HK20.out w hSw; obtain ⟨x1, x2⟩ := HPC.out w hX17; obtain ⟨c1, c2, c3⟩ := box3_cells x1; obtain ⟨d1, d2, d3⟩ := box3_cells x2; clear x1 x2 hX17); first | (go_simp; done) | (go_simp; with_reducible rfl))
        refine wpAnyH_take (i := 13) (v := ?v6r26n4q12) rfl (by kernel_rfl) (by kernel_rfl) (by kernel_rfl) (fun _ _ _ h => h) (Or.inl ⟨by kernel_rfl, ?hy6r26n4q12⟩) (by assumption) ?hr6r26n4q12
        case hy6r26n4q12 => (intro w hSw; (try dsimp only at hSw); (have hX17 := HK20.out w hSw; obtain ⟨x1, x2⟩ := HPC.out w hX17; obtain ⟨c1, c2, c3⟩ := box3_cells x1; obtain ⟨d1, d2, d3⟩ := box3_cells x2; clear x1 x2 hX17); first | (go_simp; done) | (go_simp; with_reducible rfl))
        refine wpAnyH_take (i := 14) (v := ?v6r26n4q13) rfl (by kernel_rfl) (by kernel_rfl) (by kernel_rfl) (fun _ _ _ h => h) (Or.inl ⟨by kernel_rfl, ?hy6r26n4q13⟩) (by assumption) ?hr6r26n4q13
        case hy6r26n4q13 => (intro w hSw; (try dsimp only at hSw); (have hX17 := HK20.out w hSw; obtain ⟨x1, x2⟩ := HPC.out w hX17; obtain ⟨c1, c2, c3⟩ := box3_cells x1; obtain ⟨d1, d2, d3⟩ := box3_cells x2; clear x1 x2 hX17); first | (go_simp; done) | (go_simp; with_reducible rfl))
        refine wpAnyH_ready (rs := [9]) (by kernel_rfl) (by simp) (AllReadyH.cons rfl (fun K hK => ?hc6r26n4q14) AllReadyH.nil)
        go_simp
        (go_at_call 23; refine (HC3.out _ (HK20.out _ hHeld) (HIO20.out _ hHeld)).mono ?_; rintro e x131 ⟨rfl, hb131⟩; have hk := hHeld.below hb131; (try dsimp only))
        refine hK.out _ _ ?hs6r26n4q14 (fun hHeld6r26n4q14 => ?ht6r26n4q14)
        case hs6r26n4q14 => ((try dsimp only); (first | exact hk))
        clear hHeld hK
        have hHeld := hHeld6r26n4q14
        clear hHeld6r26n4q14
        refine wpAnyH_take (i := 10) (v := ?v6r26n4q15) rfl (by kernel_rfl) (by kernel_rfl) (by kernel_rfl) (fun _ _ _ h => h) (Or.inl ⟨by kernel_rfl, ?hy6r26n4q15⟩) (by assumption) ?hr6r26n4q15
        case hy6r26n4q15 => (intro w hSw; (try dsimp only at hSw); (have hX17 := HK20.out w hSw; obtain ⟨x1, x2⟩ := HPC.out w hX17; obtain ⟨c1, c2, c3⟩ := box3_cells x1; obtain ⟨d1, d2, d3⟩ := box3_cells x2; clear x1 x2 hX17); first | (go_simp; done) | (go_simp; with_reducible rfl))
        refine wpAnyH_take (i := 15) (v := ?v6r26n4q16) rfl (by kernel_rfl) (by kernel_rfl) (by kernel_rfl) (fun _ _ _ h => h) (Or.inl ⟨by kernel_rfl, ?hy6r26n4q16⟩) (by assumption) ?hr6r26n4q16
        case hy6r26n4q16 => (intro w hSw; (try dsimp only at hSw); (have hX17 := HK20.out w hSw; obtain ⟨x1, x2⟩ := HPC.out w hX17; obtain ⟨c1, c2, c3⟩ := box3_cells x1; obtain ⟨d1, d2, d3⟩ := box3_cells x2; clear x1 x2 hX17); first | (go_simp; done) | (go_simp; with_reducible rfl))
        refine wpAnyH_take (i := 16) (v := ?v6r26n4q17) rfl (by kernel_rfl) (by kernel_rfl) (by kernel_rfl) (fun _ _ _ h => h) (Or.inl ⟨by kernel_rfl, ?hy6r26n4q17⟩) (by assumption) ?hr6r26n4q17
        case hy6r26n4q17 => (intro w hSw; (try dsimp only at hSw); (have hX17 := HK20.out w hSw; obtain ⟨x1, x2⟩ := HPC.out w hX17; obtain ⟨c1, c2, c3⟩ := box3_cells x1; obtain ⟨d1, d2, d3⟩ := box3_cells x2; clear x1 x2 hX17); first | (go_simp; done) | (go_simp; with_reducible rfl))
        refine wpAnyH_take (i := 17) (v := ?v6r26n4q18) rfl (by kernel_rfl) (by kernel_rfl) (by kernel_rfl) (fun _ _ _ h => h) (Or.inl ⟨by kernel_rfl, ?hy6r26n4q18⟩) (by assumption) ?hr6r26n4q18
        case hy6r26n4q18 => (intro w hSw; (try dsimp only at hSw); (have hX17 := HK20.out w hSw; obtain ⟨x1, x2⟩ := HPC.out w hX17; obtain ⟨c1, c2, c3⟩ := box3_cells x1; obtain ⟨d1, d2, d3⟩ := box3_cells x2; clear x1 x2 hX17); first | (go_simp; done) | (go_simp; with_reducible rfl))
        refine wpAnyH_ready (rs := [18]) (by kernel_rfl) (by simp) (AllReadyH.cons rfl (fun K hK => ?hc6r26n4q19) AllReadyH.nil)
        go_simp
        (go_at_call 14; refine (lives_any _).mono ?_; rintro e x140 ⟨rfl, hb140⟩; have hk := hHeld.below hb140; (try dsimp only))
        refine hK.out _ _ ?hs6r26n4q19 (fun hHeld6r26n4q19 => ?ht6r26n4q19)
        case hs6r26n4q19 => ((try dsimp only); (first | exact hk))
        clear hHeld hK
        have hHeld := hHeld6r26n4q19
        clear hHeld6r26n4q19
        refine wpAnyH_take (i := 19) (v := ?v6r26n4q20) rfl (by kernel_rfl) (by kernel_rfl) (by kernel_rfl) (fun _ _ _ h => h) (Or.inl ⟨by kernel_rfl, ?hy6r26n4q20⟩) (by assumption) ?hr6r26n4q20
        case hy6r26n4q20 => (intro w hSw; (try dsimp only at hSw); (have hX17 := HK20.out w hSw; obtain ⟨x1, x2⟩ := HPC.out w hX17; obtain ⟨c1, c2, c3⟩ := box3_cells x1; obtain ⟨d1, d2, d3⟩ := box3_cells x2; clear x1 x2 hX17); first | (go_simp; done) | (go_simp; with_reducible rfl))
        refine wpAnyH_take (i := 20) (v := ?v6r26n4q21) rfl (by kernel_rfl) (by kernel_rfl) (by kernel_rfl) (fun _ _ _ h => h) (Or.inl ⟨by kernel_rfl, ?hy6r26n4q21⟩) (by assumption) ?hr6r26n4q21
        case hy6r26n4q21 => (intro w hSw; (try dsimp only at hSw); (have hX17 := HK20.out w hSw; obtain ⟨x1, x2⟩ := HPC.out w hX17; obtain ⟨c1, c2, c3⟩ := box3_cells x1; obtain ⟨d1, d2, d3⟩ := box3_cells x2; clear x1 x2 hX17); first | (go_simp; done) | (go_simp; with_reducible rfl))
        refine wpAnyH_done (by kernel_rfl) ?_ _
        clear hHeld
        refine NoPanic.normal ?_
        have hkk : Turned (fun _ => False) w20 x140 := hk
        apply_assumption
        refine wp_cutA 142 (fun tm ds => ds = [] ∧ slot tm 10 = .bool true) (by kernel_rfl) (by exact ⟨by kernel_rfl, by kernel_rfl⟩) ?_
        rintro tm7 ds7 h142 ⟨rfl, e10⟩
        rw [frame142 tm7 [] h142, e10]
        have hbx := H39.out _ (HT17.out _ (HK20.out _ hkk))
        clear h142 e10 hkk hk
        go_wp2
        go_ret
        exact ⟨rfl, HB3.out.trans (hbx.mono HB3.out.size)⟩
end Go.Proofs.Ytfljgcpfmhhgcaa
