/- The walk of the law ReaderSame. -/
import Derived.Test.YtfljgcpfmhhgcaaRdPn
import Derived.Test.YtfljgcpfmhhgcaaRdSm
namespace Go.Proofs.Ytfljgcpfmhhgcaa
open Go.RowKit Go.Lab
theorem range_map92 (f : Nat → Value) : (List.range 92).map f = [f 0, f 1, f 2, f 3, f 4, f 5, f 6, f 7, f 8, f 9, f 10, f 11, f 12, f 13, f 14, f 15, f 16, f 17, f 18, f 19, f 20, f 21, f 22, f 23, f 24, f 25, f 26, f 27, f 28, f 29, f 30, f 31, f 32, f 33, f 34, f 35, f 36, f 37, f 38, f 39, f 40, f 41, f 42, f 43, f 44, f 45, f 46, f 47, f 48, f 49, f 50, f 51, f 52, f 53, f 54, f 55, f 56, f 57, f 58, f 59, f 60, f 61, f 62, f 63, f 64, f 65, f 66, f 67, f 68, f 69, f 70, f 71, f 72, f 73, f 74, f 75, f 76, f 77, f 78, f 79, f 80, f 81, f 82, f 83, f 84, f 85, f 86, f 87, f 88, f 89, f 90, f 91] := rfl
theorem frame92 (t : Array Value) (ds : List Deferred) (h : t.size = 92) : ({ tmps := t, defers := ds } : Act) = { tmps := #[slot t 0, slot t 1, slot t 2, slot t 3, slot t 4, slot t 5, slot t 6, slot t 7, slot t 8, slot t 9, slot t 10, slot t 11, slot t 12, slot t 13, slot t 14, slot t 15, slot t 16, slot t 17, slot t 18, slot t 19, slot t 20, slot t 21, slot t 22, slot t 23, slot t 24, slot t 25, slot t 26, slot t 27, slot t 28, slot t 29, slot t 30, slot t 31, slot t 32, slot t 33, slot t 34, slot t 35, slot t 36, slot t 37, slot t 38, slot t 39, slot t 40, slot t 41, slot t 42, slot t 43, slot t 44, slot t 45, slot t 46, slot t 47, slot t 48, slot t 49, slot t 50, slot t 51, slot t 52, slot t 53, slot t 54, slot t 55, slot t 56, slot t 57, slot t 58, slot t 59, slot t 60, slot t 61, slot t 62, slot t 63, slot t 64, slot t 65, slot t 66, slot t 67, slot t 68, slot t 69, slot t 70, slot t 71, slot t 72, slot t 73, slot t 74, slot t 75, slot t 76, slot t 77, slot t 78, slot t 79, slot t 80, slot t 81, slot t 82, slot t 83, slot t 84, slot t 85, slot t 86, slot t 87, slot t 88, slot t 89, slot t 90, slot t 91], defers := ds } := by
  have e : t = ((List.range 92).map (slot t)).toArray := by
    apply Array.ext
    · simp [h]
    · intro i h1 h2
      simp [slot, Array.getD, h1]
  rw [range_map92] at e
  exact congrArg (fun x => ({ tmps := x, defers := ds } : Act)) e
theorem best_ok (way : Int) (pl : List Pl) (need : List Int) (pv nv : Value) (hok : ∀ p ∈ pl, PlOk p) (w : World) (hp : PlacesAt w pv pl) (hn : IntsAt w nv need) (ht : taskZ way pl.length need = 0) (o : List Int) (s : Int) (tb : List (List Int))
    (h1 : o = orderZ way (needL pl need) need) (h2 : s = restV way (needL pl need) (2 ^ need.length - 1) pl0) (h3 : tb = tabL way (needL pl need)) :
    Calls Try.prog 18 #[.int .i64 way, pv, nv] w fun e w' => Below w.heap.size w w' ∧ ∃ oa oc la lc, e = .returned (.tuple #[.agg #[.slice oa o.length oc, .int .i64 s, .slice la tb.length lc], .int .i64 0]) ∧ IntsOf TkR w' (.slice oa o.length oc) o ∧ TabOf TkR w' (.slice la tb.length lc) tb := by
  refine (best_any way pl need pv nv hok w hp hn).mono ?_
  rintro e w' ⟨hb, vo, vl, rfl, ho, hl⟩
  rw [ht, if_pos rfl] at ho hl
  rw [← h1] at ho
  rw [← h3] at hl
  obtain ⟨oa, oc, rfl, _, _⟩ := ho.1.form
  obtain ⟨la, lc, rfl, _, _⟩ := TabOf.form hl
  exact ⟨hb, oa, oc, la, lc, by rw [ht, if_pos rfl, ← h2]; rfl, ho, hl⟩
theorem tab_rng {way : Int} {pl : List Pl} {need : List Int} (hok : ∀ p ∈ pl, PlOk p) (hn : need.length ≤ 8) : ∀ r ∈ tabL way (needL pl need), ∀ x ∈ r, -1152921504606846976 ≤ x ∧ x ≤ 1152921504606846976 := by
  intro r hr x hx
  obtain ⟨s, hs, rfl⟩ := List.mem_map.1 hr
  obtain ⟨k, _, rfl⟩ := List.mem_map.1 hx
  rw [List.mem_range, needL_len] at hs
  have h2 := two_pow_lt hn
  have := tabV_bd (way := way) (needL_ok hok (need := need)) (s := s) (by omega) k
  omega
theorem check_ok (way : Int) (X Y : List Pl) (need : List Int) (pv nv vo vl : Value) (hok : ∀ p ∈ X, PlOk p) (hokY : ∀ p ∈ Y, PlOk p) (hXY : X.map bare = Y.map bare) (ht : taskZ way Y.length need = 0) (o : List Int) (s : Int) (tb : List (List Int))
    (h1 : o = orderZ way (needL X need) need) (h2 : s = restV way (needL X need) (2 ^ need.length - 1) pl0) (h3 : tb = tabL way (needL X need)) (w : World) (hp : PlacesAt w pv Y) (hn : IntsAt w nv need) (ho : IntsAt w vo o) (hl : TabAt w vl tb) :
    Calls Try.prog 23 #[.int .i64 way, pv, nv, .agg #[vo, .int .i64 s, vl]] w fun e w' => e = .returned (.int .i64 0) ∧ Below w.heap.size w w' := by
  have hn8 := (task_need rfl ht).1.1
  obtain ⟨e1, e2, e3⟩ := same_plan (way := way) hXY need
  have hol : o.length ≤ 1048576 := by
    rw [h1, (orderZ_perm hn8).length_eq]
    omega
  have h := check_any way Y need o s tb pv nv vo vl hokY (by rw [h3]; exact tab_rng hok hn8) hol w hp hn ho hl
  have hz : checkZ way Y need o s tb = 0 := by
    rw [h1, h2, h3, e1, e2, e3]
    exact accepted hokY ht
  rw [hz] at h
  exact h
set_option maxRecDepth 100000 in
set_option maxHeartbeats 20000000 in
theorem lawSame_any (v vm : Value) (l m : List Int) (way bits : Int) (w : World) (hl : IntsAt w v l) (hm : IntsAt w vm m) (hway : -9223372036854775808 ≤ way ∧ way ≤ 9223372036854775807) (hbits : -9223372036854775808 ≤ bits ∧ bits ≤ 9223372036854775807) :
    Calls Try.prog 9 #[v, .int .i64 way, .int .i64 bits, vm] w fun e w' => e = .returned (.bool true) ∧ Below w.heap.size w w' := by
  obtain ⟨a, c, rfl, hca, hma⟩ := hl.1.form
  obtain ⟨ma, mc, rfl, hmca, hmma⟩ := hm.1.form
  have HPL := hidep (places30_any _ l false w hl)
  have hwr := aroundZ_rng way 4 (by omega)
  have HAR := hidep (fun W => around_any way 4 W hway.1 hway.2)
  obtain ⟨wy, hwy⟩ : ∃ wy, wy = aroundZ way 4 := ⟨_, rfl⟩
  rw [← hwy] at HAR hwr
  have HM := hidep (show ∀ W, Below w.heap.size w W → IntsAt W (.slice ma m.length mc) m from fun W h => hm.below h)
  clear hl hm hway hwy
  go_enter Try.func9, Try.ntmps9
  go_upto_region 4 with (first
    | (go_at_call 11; refine HPL.out.mono ?_; rintro e w1 ⟨u, L, rfl, hown, hmade, hb1⟩; have hpx : PlacesAt w1 u L := (Rd.of_own hown).mono (fun _ _ => trivial); obtain ⟨ua, uc, rfl, _, _⟩ := PlacesAt.form hpx; have HND := hidep (need30_any _ L bits w1 hpx (by have := hmade.1; omega) hbits))
    | (go_at_call 15; refine (HAR.out _).mono ?_; rintro e w2 ⟨rfl, rfl⟩)
    | (go_at_call 16; refine HND.out.mono ?_; rintro e w3 ⟨nu, need, rfl, hnown, hneed, hb3⟩)
    | fail)
  have hpx3 : PlacesAt w3 (.slice ua L.length uc) L := hpx.below hb3
  have hn6 := hneed.1
  have hnr : ∀ x ∈ need, -9223372036854775808 ≤ x ∧ x ≤ 9223372036854775807 := fun x hx => by
    have := hneed.2.2 x hx
    have := hmade.1
    omega
  have hnx3 : IntsAt w3 nu need := ⟨(Rd.of_own hnown).mono (fun _ _ => trivial), hnr⟩
  obtain ⟨na, nc, rfl, _, _⟩ := hnx3.1.form
  have hlen : L.length ≤ 9 := hmade.1
  have hokL : ∀ p ∈ L, PlOk p := fun p hp => (hmade.2.1 p hp).ok
  have HB3 := hidep (hb1.trans (hb3.mono hb1.size))
  have HPX := hidep hpx3
  have HNX := hidep hnx3
  have HOK := hidep hokL
  have HTZ := hidep (task_zero (way := wy) hneed (by omega) (by omega))
  clear hpx hpx3 hnx3 hown hnown hmade hb1 hb3 HPL HND hnr hneed hokL hbits
  go_upto_region 6 with (fail)
  refine wp_loop (LoopI 92 (fun tm ds wr => (slot tm 3) = .slice ma m.length mc ∧ (slot tm 9) = .slice ua L.length uc ∧ (slot tm 10) = .int .i64 wy ∧ (slot tm 11) = .slice na need.length nc ∧ ds = [] ∧ ∃ (i : Nat) (Y : List Pl) (yv : Value), i ≤ L.length ∧ (slot tm 13) = .int .i64 (i : Nat) ∧ (slot tm 12) = yv ∧ Hid (Y.length = i ∧ Y.map bare = (L.take i).map bare ∧ ∀ p ∈ Y, PlOk p) ∧ wr.ownsRow w3.heap.size 26 6 yv i (placesC Y) ∧ Below w3.heap.size w3 wr)) (fun a' wr => L.length - (intOf (a'.tmps.getD 13 undef)).toNat) ?mainStart ?mainRound
  case' mainStart => refine LoopI.mk rfl ?_
  case' mainRound => (rintro ⟨t, ds⟩ wr ⟨hts, hrel⟩; dsimp only at hts hrel; rw [frame92 t ds hts])
  case mainStart => exact ⟨rfl, rfl, rfl, rfl, rfl, 0, [], _, Nat.zero_le _, rfl, rfl, hidep ⟨rfl, rfl, fun _ h => by cases h⟩, World.ownsRow_nil _ _ _ _, Below.refl _ _⟩
  obtain ⟨h3, h9, h10, h11, hds, i, Y, yv, hi, h13, h12, HY, hown, hbw⟩ := hrel
  subst hds
  rw [h3, h9, h10, h11, h13, h12]
  clear h3 h9 h10 h11 h13 h12 hts
  obtain ⟨ya, yc, rfl, hyc, hym⟩ := (Rd.of_own hown).form
  unfold maxLen at hym
  have hbs := hbw.size
  by_cases hlt : i < L.length
  · have hi0 : (0 : Int) ≤ (i : Int) := by omega
    have hi1 : (i : Int) < (L.length : Int) := by omega
    have hw1 : IntKind.i64.wrap ((i : Int) + 1) = (i : Int) + 1 := IntWalk.i64_in _ (by omega)
    have hw2 : IntKind.i64.wrap ((i : Int) + 2) = (i : Int) + 2 := IntWalk.i64_in _ (by omega)
    have hIM : ∀ W, Turned (fun _ => False) wr W → IntsAt W (.slice ma m.length mc) m := fun W hW => HM.out W (HB3.out.trans ((hbw.trans (hW.toBelow.mono hbs)).mono HB3.out.size))
    have HA1 := hidep (fun W (hW : Turned (fun _ => False) wr W) => at_any (.slice ma m.length mc) m (i : Int) 9 W (hIM W hW))
    have HA2 := hidep (fun W (hW : Turned (fun _ => False) wr W) => at_any (.slice ma m.length mc) m ((i : Int) + 1) 9 W (hIM W hW))
    have HA3 := hidep (fun W (hW : Turned (fun _ => False) wr W) => at_any (.slice ma m.length mc) m ((i : Int) + 2) 1000 W (hIM W hW))
    generalize atZ m (i : Int) 9 = z1 at *
    generalize atZ m ((i : Int) + 1) 9 = z2 at *
    generalize atZ m ((i : Int) + 2) 1000 = z3 at *
    obtain ⟨pb, po, rfl, _, p0, p1, p2, p3, p4, p5⟩ := PlacesAt.at (HPX.out.below hbw) hlt
    have hok := HOK.out _ (List.getElem_mem hlt)
    have HTK := hidep (List.take_succ_eq_append_getElem hlt)
    generalize L[i] = tq at *
    obtain ⟨t0, t1, t2, t3, t4, t5⟩ := tq
    simp only at p0 p1 p2 p3 p4 p5
    have HYN : Hid ((Y ++ [(⟨z1, z2, z3, t3, t4, t5⟩ : Pl)]).length = i + 1 ∧ (Y ++ [(⟨z1, z2, z3, t3, t4, t5⟩ : Pl)]).map bare = (L.take (i + 1)).map bare ∧ ∀ p ∈ Y ++ [(⟨z1, z2, z3, t3, t4, t5⟩ : Pl)], PlOk p) := hidep (by
      obtain ⟨g1, g2, g3⟩ := HY.out
      refine ⟨by simp [g1], by rw [HTK.out, List.map_append, List.map_append, g2]; rfl, fun p hp => ?_⟩
      rcases List.mem_append.1 hp with h | h
      · exact g3 p h
      · simp only [List.mem_singleton] at h
        rw [h]
        exact hok)
    have HOWN := hidep (show ∀ W, Turned (fun _ => False) wr W → W.ownsRow w3.heap.size 26 6 (.slice ya i yc) i (placesC Y) from fun W hW => ownsRow_turned hown hW (fun _ _ h => h))
    have HBW := hidep hbw
    clear hown hbw hIM hok
    go_upto_region 12 with (first
      | (go_at_call 27; (with_reducible refine (HA1.out _ (by first | (with_reducible exact Turned.refl _ _) | (with_reducible exact (Turned.refl _ _).alloc _))).mono ?_); rintro e w5 ⟨rfl, rfl⟩)
      | (go_at_call 27; (with_reducible refine (HA2.out _ (by first | (with_reducible exact Turned.refl _ _) | (with_reducible exact (Turned.refl _ _).alloc _))).mono ?_); rintro e w5 ⟨rfl, rfl⟩)
      | (go_at_call 27; (with_reducible refine (HA3.out _ (by first | (with_reducible exact Turned.refl _ _) | (with_reducible exact (Turned.refl _ _).alloc _))).mono ?_); rintro e w5 ⟨rfl, rfl⟩)
      | fail)
    refine wp_abs (fun X => Turned (fun _ => False) wr X ∧ X.heap[wr.heap.size]? = some (.cells #[.int .i64 z1, .int .i64 z2, .int .i64 z3, .int .i64 t3, .int .i64 t4, .int .i64 t5] 26)) ⟨by first | (with_reducible exact (Turned.refl _ _).alloc _) | exact (Turned.refl _ _).alloc _, by exact heap_alloc_new _ _⟩ ?_
    rintro X ⟨hTX, hqX⟩
    obtain ⟨y0, y1, y2, y3, y4, y5⟩ := box6_cells hqX
    have HX := hidep (HOWN.out X hTX)
    have hsx := hTX.size
    have HBX := hidep (HBW.out.trans (hTX.toBelow.mono HBW.out.size))
    clear hqX hTX hw1 hw2 HA1 HA2 HA3 p0 p1 p2 p3 p4 p5
    go_wp2_with (first
      | (at_builtin; refine wpList_append_rd _ rfl (.tmp 50) (.tmp 52) rfl slPlacesR w3.heap.size _ _ _ rfl (HX.out.alloc _) _ _ _ _ rfl (Rd.fresh X #[.int .i64 z1, .int .i64 z2, .int .i64 z3, .int .i64 t3, .int .i64 t4, .int .i64 t5] 26 6 1 rfl (by decide)) (by intro u hu; simp at hu; rcases hu with rfl | rfl | rfl | rfl | rfl | rfl <;> rfl) (by unfold maxLen; omega) (by omega) (by simp; omega) ?_; intro v10 w10 hown10 hgr10 hat10 hnl10; clear hat10 hnl10)
      | fail)
    have hb10 : Below w3.heap.size w3 w10 := (HBX.out.alloc HBX.out.size _).grown hgr10 (by have := HBX.out.size; simp; omega) (fun g hg => (HX.out.lt g hg).1)
    refine ⟨LoopI.mk rfl ⟨rfl, rfl, rfl, rfl, rfl, i + 1, by omega, by show Value.int _ _ = _; go_num, Y ++ [(⟨z1, z2, z3, t3, t4, t5⟩ : Pl)], hidep (by have h := HYN.out; rwa [List.map_take] at h), by rw [placesC_append]; exact hown10, hb10⟩, ?_⟩
    show L.length - _ < L.length - _
    simp [intOf]; omega
  · have hil : i = L.length := by omega
    subst hil
    obtain ⟨g1, g2, g3⟩ := HY.out
    rw [List.take_length] at g2
    have HYL := hidep g1
    have HYB := hidep g2
    have HYOK := hidep g3
    have hpy : PlacesAt wr (.slice ya L.length yc) Y := by
      have h := (Rd.of_own hown).mono (T' := fun _ => True) (fun _ _ => trivial)
      unfold PlacesAt
      rw [g1]
      exact h
    have HPY := hidep hpy
    have HTY : Hid (taskZ wy Y.length need = 0) := hidep (by rw [g1]; exact HTZ.out)
    have HBW := hidep hbw
    have HPX2 := hidep (HPX.out.below hbw)
    have HNX2 := hidep (HNX.out.below hbw)
    obtain ⟨o, ho⟩ : ∃ o, o = orderZ wy (needL L need) need := ⟨_, rfl⟩
    obtain ⟨st, hst⟩ : ∃ st, st = restV wy (needL L need) (2 ^ need.length - 1) pl0 := ⟨_, rfl⟩
    obtain ⟨tb, htb⟩ : ∃ tb, tb = tabL wy (needL L need) := ⟨_, rfl⟩
    have HO := hidep ho
    have HST := hidep hst
    have HTB := hidep htb
    obtain ⟨e1, e2, e3⟩ := same_plan (way := wy) g2 need
    have HB1 := hidep (best_ok wy L need _ _ HOK.out wr HPX2.out HNX2.out HTZ.out o st tb ho hst htb)
    have HB2 := hidep (fun X (hX : Below wr.heap.size wr X) => best_ok wy Y need (.slice ya L.length yc) _ g3 X (HPY.out.below hX) (HNX2.out.below hX) HTY.out o st tb (by rw [ho, e3.symm]) (by rw [hst, (e2 _).symm]) (by rw [htb, e1.symm]))
    have HCK := hidep (fun X (vo vl : Value) (hX : Below wr.heap.size wr X) (h1 : IntsAt X vo o) (h2 : TabAt X vl tb) => check_ok wy L Y need (.slice ya L.length yc) _ vo vl HOK.out g3 g2.symm HTY.out o st tb ho hst htb X (HPY.out.below hX) (HNX2.out.below hX) h1 h2)
    clear g1 g2 g3 hpy ho hst htb e1 e2 e3 hown hbw
    go_upto_region 14 with (first
      | (go_at_call 18; refine HB1.out.mono ?_; rintro e w5 ⟨h5, oa, oc, la, lc, rfl, ho1, hl1⟩)
      | fail)
    obtain ⟨W6, hW6⟩ : ∃ W6, W6 = w5.alloc (.cells #[.slice oa o.length oc, .int .i64 st, .slice la tb.length lc] 35) := ⟨_, rfl⟩
    have hp6 : W6.heap[w5.heap.size]? = some (.cells #[.slice oa o.length oc, .int .i64 st, .slice la tb.length lc] 35) := by rw [hW6]; exact heap_alloc_new _ _
    have hb56 : Below w5.heap.size w5 W6 := by rw [hW6]; exact (Below.refl _ _).alloc (Nat.le_refl _) _
    have h6 : Below wr.heap.size wr W6 := h5.trans (hb56.mono h5.size)
    rw [← hW6]
    have HR1 := hidep (show ∀ X, Below W6.heap.size W6 X → X.heap[w5.heap.size]? = some (.cells #[.slice oa o.length oc, .int .i64 st, .slice la tb.length lc] 35) ∧ IntsAt X (.slice oa o.length oc) o ∧ TabAt X (.slice la tb.length lc) tb from fun X hX =>
      ⟨(hX.block _ (lt_of_block hp6)).trans hp6, (IntsOf.at (ho1.keeps (Keeps.below _ hb56))).below hX, (TabOf.at (hl1.keeps (Keeps.below _ hb56))).below hX⟩)
    have H6 := hidep h6
    clear hW6 hp6 hb56 h6 h5 ho1 hl1 HB1
    go_upto_region 15 with (first
      | (go_at_call 18; refine (HB2.out _ H6.out).mono ?_; rintro e w7 ⟨h7, oa2, oc2, la2, lc2, rfl, ho2, hl2⟩)
      | fail)
    obtain ⟨W8, hW8⟩ : ∃ W8, W8 = w7.alloc (.cells #[.slice oa2 o.length oc2, .int .i64 st, .slice la2 tb.length lc2] 35) := ⟨_, rfl⟩
    have hp8 : W8.heap[w7.heap.size]? = some (.cells #[.slice oa2 o.length oc2, .int .i64 st, .slice la2 tb.length lc2] 35) := by rw [hW8]; exact heap_alloc_new _ _
    have hb78 : Below w7.heap.size w7 W8 := by rw [hW8]; exact (Below.refl _ _).alloc (Nat.le_refl _) _
    have h68 : Below W6.heap.size W6 W8 := h7.trans (hb78.mono h7.size)
    rw [← hW8]
    have HR2 := hidep (show ∀ X, Turned (fun _ => False) W8 X → X.heap[w7.heap.size]? = some (.cells #[.slice oa2 o.length oc2, .int .i64 st, .slice la2 tb.length lc2] 35) ∧ IntsAt X (.slice oa2 o.length oc2) o ∧ TabAt X (.slice la2 tb.length lc2) tb from fun X hX =>
      ⟨hX.cells hp8 id, (IntsOf.at (ho2.keeps (Keeps.below _ hb78))).below hX.toBelow, (TabOf.at (hl2.keeps (Keeps.below _ hb78))).below hX.toBelow⟩)
    have HR3 := hidep (show ∀ X, Turned (fun _ => False) W8 X → X.heap[w5.heap.size]? = some (.cells #[.slice oa o.length oc, .int .i64 st, .slice la tb.length lc] 35) ∧ IntsAt X (.slice oa o.length oc) o ∧ TabAt X (.slice la tb.length lc) tb from fun X hX => HR1.out X (h68.trans (hX.toBelow.mono h68.size)))
    have HW8 := hidep (show ∀ X, Turned (fun _ => False) W8 X → Below wr.heap.size wr X from fun X hX => (H6.out.trans (h68.mono H6.out.size)).trans (hX.toBelow.mono (by have := H6.out.size; have := h68.size; omega)))
    have HSA := hidep (fun X (hX : Turned (fun _ => False) W8 X) => samePlan_true _ _ _ _ o st tb X (HR3.out X hX).2.1 (HR2.out X hX).2.1 (HR3.out X hX).2.2 (HR2.out X hX).2.2)
    have HCH := hidep (fun X (hX : Turned (fun _ => False) W8 X) => HCK.out X _ _ (HW8.out X hX) (HR3.out X hX).2.1 (HR3.out X hX).2.2)
    clear hW8 hp8 hb78 h68 h7 ho2 hl2 HB2
    refine wp_region_noPanic (wp_region_held_drew (S := (fun X => Turned (fun _ => False) W8 X)) (by kernel_rfl) ?hS9r15n0 (fun hHeld => ?hR9r15n0))
    case hS9r15n0 => ((try dsimp only); (exact (Turned.refl _ _).drew))
    refine wpAnyH_take (i := 0) (v := ?v9r15n0q1) rfl (by kernel_rfl) (by kernel_rfl) (by kernel_rfl) (fun _ _ _ h => h) (Or.inl ⟨by kernel_rfl, ?hy9r15n0q1⟩) (by assumption) ?hr9r15n0q1
    case hy9r15n0q1 => (intro w hSw; (try dsimp only at hSw); (obtain ⟨c1, c2, c3⟩ := box3_cells (HR3.out w hSw).1; obtain ⟨d1, d2, d3⟩ := box3_cells (HR2.out w hSw).1); first | (go_simp; done) | (go_simp; with_reducible rfl))
    refine wpAnyH_take (i := 1) (v := ?v9r15n0q2) rfl (by kernel_rfl) (by kernel_rfl) (by kernel_rfl) (fun _ _ _ h => h) (Or.inl ⟨by kernel_rfl, ?hy9r15n0q2⟩) (by assumption) ?hr9r15n0q2
    case hy9r15n0q2 => (intro w hSw; (try dsimp only at hSw); (obtain ⟨c1, c2, c3⟩ := box3_cells (HR3.out w hSw).1; obtain ⟨d1, d2, d3⟩ := box3_cells (HR2.out w hSw).1); first | (go_simp; done) | (go_simp; with_reducible rfl))
    refine wpAnyH_take (i := 2) (v := ?v9r15n0q3) rfl (by kernel_rfl) (by kernel_rfl) (by kernel_rfl) (fun _ _ _ h => h) (Or.inl ⟨by kernel_rfl, ?hy9r15n0q3⟩) (by assumption) ?hr9r15n0q3
    case hy9r15n0q3 => (intro w hSw; (try dsimp only at hSw); (obtain ⟨c1, c2, c3⟩ := box3_cells (HR3.out w hSw).1; obtain ⟨d1, d2, d3⟩ := box3_cells (HR2.out w hSw).1); first | (go_simp; done) | (go_simp; with_reducible rfl))
    refine wpAnyH_take (i := 3) (v := ?v9r15n0q4) rfl (by kernel_rfl) (by kernel_rfl) (by kernel_rfl) (fun _ _ _ h => h) (Or.inl ⟨by kernel_rfl, ?hy9r15n0q4⟩) (by assumption) ?hr9r15n0q4
    case hy9r15n0q4 => (intro w hSw; (try dsimp only at hSw); (obtain ⟨c1, c2, c3⟩ := box3_cells (HR3.out w hSw).1; obtain ⟨d1, d2, d3⟩ := box3_cells (HR2.out w hSw).1); first | (go_simp; done) | (go_simp; with_reducible rfl))
    refine wpAnyH_take (i := 4) (v := ?v9r15n0q5) rfl (by kernel_rfl) (by kernel_rfl) (by kernel_rfl) (fun _ _ _ h => h) (Or.inl ⟨by kernel_rfl, ?hy9r15n0q5⟩) (by assumption) ?hr9r15n0q5
    case hy9r15n0q5 => (intro w hSw; (try dsimp only at hSw); (obtain ⟨c1, c2, c3⟩ := box3_cells (HR3.out w hSw).1; obtain ⟨d1, d2, d3⟩ := box3_cells (HR2.out w hSw).1); first | (go_simp; done) | (go_simp; with_reducible rfl))
    refine wpAnyH_take (i := 5) (v := ?v9r15n0q6) rfl (by kernel_rfl) (by kernel_rfl) (by kernel_rfl) (fun _ _ _ h => h) (Or.inl ⟨by kernel_rfl, ?hy9r15n0q6⟩) (by assumption) ?hr9r15n0q6
    case hy9r15n0q6 => (intro w hSw; (try dsimp only at hSw); (obtain ⟨c1, c2, c3⟩ := box3_cells (HR3.out w hSw).1; obtain ⟨d1, d2, d3⟩ := box3_cells (HR2.out w hSw).1); first | (go_simp; done) | (go_simp; with_reducible rfl))
    refine wpAnyH_take (i := 6) (v := ?v9r15n0q7) rfl (by kernel_rfl) (by kernel_rfl) (by kernel_rfl) (fun _ _ _ h => h) (Or.inl ⟨by kernel_rfl, ?hy9r15n0q7⟩) (by assumption) ?hr9r15n0q7
    case hy9r15n0q7 => (intro w hSw; (try dsimp only at hSw); (obtain ⟨c1, c2, c3⟩ := box3_cells (HR3.out w hSw).1; obtain ⟨d1, d2, d3⟩ := box3_cells (HR2.out w hSw).1); first | (go_simp; done) | (go_simp; with_reducible rfl))
    refine wpAnyH_take (i := 7) (v := ?v9r15n0q8) rfl (by kernel_rfl) (by kernel_rfl) (by kernel_rfl) (fun _ _ _ h => h) (Or.inl ⟨by kernel_rfl, ?hy9r15n0q8⟩) (by assumption) ?hr9r15n0q8
    case hy9r15n0q8 => (intro w hSw; (try dsimp only at hSw); (obtain ⟨c1, c2, c3⟩ := box3_cells (HR3.out w hSw).1; obtain ⟨d1, d2, d3⟩ := box3_cells (HR2.out w hSw).1); first | (go_simp; done) | (go_simp; with_reducible rfl))
    refine wpAnyH_take (i := 9) (v := ?v9r15n0q9) rfl (by kernel_rfl) (by kernel_rfl) (by kernel_rfl) (fun _ _ _ h => h) (Or.inl ⟨by kernel_rfl, ?hy9r15n0q9⟩) (by assumption) ?hr9r15n0q9
    case hy9r15n0q9 => (intro w hSw; (try dsimp only at hSw); (obtain ⟨c1, c2, c3⟩ := box3_cells (HR3.out w hSw).1; obtain ⟨d1, d2, d3⟩ := box3_cells (HR2.out w hSw).1); first | (go_simp; done) | (go_simp; with_reducible rfl))
    refine wpAnyH_ready (rs := [8]) (by kernel_rfl) (by simp) (AllReadyH.cons rfl (fun K hK => ?hc9r15n0q10) AllReadyH.nil)
    go_simp
    (go_at_call 21; refine (plain_any _ _ _ _ _ _ _ _).mono ?_; rintro e x76 ⟨rfl, hb76⟩; have hk := hHeld.below hb76; (try dsimp only))
    refine hK.out _ _ ?hs9r15n0q10 (fun hHeld9r15n0q10 => ?ht9r15n0q10)
    case hs9r15n0q10 => ((try dsimp only); (first | exact hk))
    clear hHeld hK
    have hHeld := hHeld9r15n0q10
    clear hHeld9r15n0q10
    refine wpAnyH_ready (rs := [10]) (by kernel_rfl) (by simp) (AllReadyH.cons rfl (fun K hK => ?hc9r15n0q11) AllReadyH.nil)
    go_simp
    (go_at_call 21; refine (plain_any _ _ _ _ _ _ _ _).mono ?_; rintro e x78 ⟨rfl, hb78⟩; have hk := hHeld.below hb78; (try dsimp only))
    refine hK.out _ _ ?hs9r15n0q11 (fun hHeld9r15n0q11 => ?ht9r15n0q11)
    case hs9r15n0q11 => ((try dsimp only); (first | exact hk))
    clear hHeld hK
    have hHeld := hHeld9r15n0q11
    clear hHeld9r15n0q11
    refine wpAnyH_ready (rs := [11]) (by kernel_rfl) (by simp) (AllReadyH.cons rfl (fun K hK => ?hc9r15n0q12) AllReadyH.nil)
    go_simp
    (go_at_call 20; refine (HSA.out _ hHeld).mono ?_; rintro e x79 ⟨rfl, hb79⟩; have hk := hHeld.below hb79; (try dsimp only))
    refine hK.out _ _ ?hs9r15n0q12 (fun hHeld9r15n0q12 => ?ht9r15n0q12)
    case hs9r15n0q12 => ((try dsimp only); (first | exact hk))
    clear hHeld hK
    have hHeld := hHeld9r15n0q12
    clear hHeld9r15n0q12
    refine wpAnyH_take (i := 12) (v := ?v9r15n0q13) rfl (by kernel_rfl) (by kernel_rfl) (by kernel_rfl) (fun _ _ _ h => h) (Or.inl ⟨by kernel_rfl, ?hy9r15n0q13⟩) (by assumption) ?hr9r15n0q13
    case hy9r15n0q13 => (intro w hSw; (try dsimp only at hSw); (obtain ⟨c1, c2, c3⟩ := box3_cells (HR3.out w hSw).1; obtain ⟨d1, d2, d3⟩ := box3_cells (HR2.out w hSw).1); first | (go_simp; done) | (go_simp; with_reducible rfl))
    refine wpAnyH_take (i := 13) (v := ?v9r15n0q14) rfl (by kernel_rfl) (by kernel_rfl) (by kernel_rfl) (fun _ _ _ h => h) (Or.inl ⟨by kernel_rfl, ?hy9r15n0q14⟩) (by assumption) ?hr9r15n0q14
    case hy9r15n0q14 => (intro w hSw; (try dsimp only at hSw); (obtain ⟨c1, c2, c3⟩ := box3_cells (HR3.out w hSw).1; obtain ⟨d1, d2, d3⟩ := box3_cells (HR2.out w hSw).1); first | (go_simp; done) | (go_simp; with_reducible rfl))
    refine wpAnyH_take (i := 14) (v := ?v9r15n0q15) rfl (by kernel_rfl) (by kernel_rfl) (by kernel_rfl) (fun _ _ _ h => h) (Or.inl ⟨by kernel_rfl, ?hy9r15n0q15⟩) (by assumption) ?hr9r15n0q15
    case hy9r15n0q15 => (intro w hSw; (try dsimp only at hSw); (obtain ⟨c1, c2, c3⟩ := box3_cells (HR3.out w hSw).1; obtain ⟨d1, d2, d3⟩ := box3_cells (HR2.out w hSw).1); first | (go_simp; done) | (go_simp; with_reducible rfl))
    refine wpAnyH_take (i := 15) (v := ?v9r15n0q16) rfl (by kernel_rfl) (by kernel_rfl) (by kernel_rfl) (fun _ _ _ h => h) (Or.inl ⟨by kernel_rfl, ?hy9r15n0q16⟩) (by assumption) ?hr9r15n0q16
    case hy9r15n0q16 => (intro w hSw; (try dsimp only at hSw); (obtain ⟨c1, c2, c3⟩ := box3_cells (HR3.out w hSw).1; obtain ⟨d1, d2, d3⟩ := box3_cells (HR2.out w hSw).1); first | (go_simp; done) | (go_simp; with_reducible rfl))
    refine wpAnyH_take (i := 16) (v := ?v9r15n0q17) rfl (by kernel_rfl) (by kernel_rfl) (by kernel_rfl) (fun _ _ _ h => h) (Or.inl ⟨by kernel_rfl, ?hy9r15n0q17⟩) (by assumption) ?hr9r15n0q17
    case hy9r15n0q17 => (intro w hSw; (try dsimp only at hSw); (obtain ⟨c1, c2, c3⟩ := box3_cells (HR3.out w hSw).1; obtain ⟨d1, d2, d3⟩ := box3_cells (HR2.out w hSw).1); first | (go_simp; done) | (go_simp; with_reducible rfl))
    refine wpAnyH_take (i := 17) (v := ?v9r15n0q18) rfl (by kernel_rfl) (by kernel_rfl) (by kernel_rfl) (fun _ _ _ h => h) (Or.inl ⟨by kernel_rfl, ?hy9r15n0q18⟩) (by assumption) ?hr9r15n0q18
    case hy9r15n0q18 => (intro w hSw; (try dsimp only at hSw); (obtain ⟨c1, c2, c3⟩ := box3_cells (HR3.out w hSw).1; obtain ⟨d1, d2, d3⟩ := box3_cells (HR2.out w hSw).1); first | (go_simp; done) | (go_simp; with_reducible rfl))
    refine wpAnyH_ready (rs := [18]) (by kernel_rfl) (by simp) (AllReadyH.cons rfl (fun K hK => ?hc9r15n0q19) AllReadyH.nil)
    go_simp
    (go_at_call 23; refine (HCH.out _ hHeld).mono ?_; rintro e x86 ⟨rfl, hb86⟩; have hk := hHeld.below hb86; (try dsimp only))
    refine hK.out _ _ ?hs9r15n0q19 (fun hHeld9r15n0q19 => ?ht9r15n0q19)
    case hs9r15n0q19 => ((try dsimp only); (first | exact hk))
    clear hHeld hK
    have hHeld := hHeld9r15n0q19
    clear hHeld9r15n0q19
    refine wpAnyH_take (i := 19) (v := ?v9r15n0q20) rfl (by kernel_rfl) (by kernel_rfl) (by kernel_rfl) (fun _ _ _ h => h) (Or.inl ⟨by kernel_rfl, ?hy9r15n0q20⟩) (by assumption) ?hr9r15n0q20
    case hy9r15n0q20 => (intro w hSw; (try dsimp only at hSw); (obtain ⟨c1, c2, c3⟩ := box3_cells (HR3.out w hSw).1; obtain ⟨d1, d2, d3⟩ := box3_cells (HR2.out w hSw).1); first | (go_simp; done) | (go_simp; with_reducible rfl))
    refine wpAnyH_take (i := 20) (v := ?v9r15n0q21) rfl (by kernel_rfl) (by kernel_rfl) (by kernel_rfl) (fun _ _ _ h => h) (Or.inl ⟨by kernel_rfl, ?hy9r15n0q21⟩) (by assumption) ?hr9r15n0q21
    case hy9r15n0q21 => (intro w hSw; (try dsimp only at hSw); (obtain ⟨c1, c2, c3⟩ := box3_cells (HR3.out w hSw).1; obtain ⟨d1, d2, d3⟩ := box3_cells (HR2.out w hSw).1); first | (go_simp; done) | (go_simp; with_reducible rfl))
    refine wpAnyH_take (i := 21) (v := ?v9r15n0q22) rfl (by kernel_rfl) (by kernel_rfl) (by kernel_rfl) (fun _ _ _ h => h) (Or.inl ⟨by kernel_rfl, ?hy9r15n0q22⟩) (by assumption) ?hr9r15n0q22
    case hy9r15n0q22 => (intro w hSw; (try dsimp only at hSw); (obtain ⟨c1, c2, c3⟩ := box3_cells (HR3.out w hSw).1; obtain ⟨d1, d2, d3⟩ := box3_cells (HR2.out w hSw).1); first | (go_simp; done) | (go_simp; with_reducible rfl))
    refine wpAnyH_ready (rs := [22]) (by kernel_rfl) (by simp) (AllReadyH.cons rfl (fun K hK => ?hc9r15n0q23) AllReadyH.nil)
    go_simp
    (go_at_call 14; refine (lives_any _).mono ?_; rintro e x90 ⟨rfl, hb90⟩; have hk := hHeld.below hb90; (try dsimp only))
    refine hK.out _ _ ?hs9r15n0q23 (fun hHeld9r15n0q23 => ?ht9r15n0q23)
    case hs9r15n0q23 => ((try dsimp only); (first | exact hk))
    clear hHeld hK
    have hHeld := hHeld9r15n0q23
    clear hHeld9r15n0q23
    refine wpAnyH_take (i := 23) (v := ?v9r15n0q24) rfl (by kernel_rfl) (by kernel_rfl) (by kernel_rfl) (fun _ _ _ h => h) (Or.inl ⟨by kernel_rfl, ?hy9r15n0q24⟩) (by assumption) ?hr9r15n0q24
    case hy9r15n0q24 => (intro w hSw; (try dsimp only at hSw); (obtain ⟨c1, c2, c3⟩ := box3_cells (HR3.out w hSw).1; obtain ⟨d1, d2, d3⟩ := box3_cells (HR2.out w hSw).1); first | (go_simp; done) | (go_simp; with_reducible rfl))
    refine wpAnyH_take (i := 24) (v := ?v9r15n0q25) rfl (by kernel_rfl) (by kernel_rfl) (by kernel_rfl) (fun _ _ _ h => h) (Or.inl ⟨by kernel_rfl, ?hy9r15n0q25⟩) (by assumption) ?hr9r15n0q25
    case hy9r15n0q25 => (intro w hSw; (try dsimp only at hSw); (obtain ⟨c1, c2, c3⟩ := box3_cells (HR3.out w hSw).1; obtain ⟨d1, d2, d3⟩ := box3_cells (HR2.out w hSw).1); first | (go_simp; done) | (go_simp; with_reducible rfl))
    refine wpAnyH_done (by kernel_rfl) ?_ _
    clear hHeld
    refine NoPanic.normal ?_
    have hkk : Turned (fun _ => False) W8 x90 := hk
    apply_assumption
    refine wp_cutA 92 (fun tm ds => ds = [] ∧ slot tm 8 = .bool true) (by kernel_rfl) (by exact ⟨by kernel_rfl, by kernel_rfl⟩) ?_
    rintro tm3 ds3 h92 ⟨rfl, e8⟩
    rw [frame92 tm3 [] h92, e8]
    have hbx := HW8.out _ hkk
    have hbw2 := HBW.out
    clear h92 e8 hkk hk
    go_wp2
    go_ret
    exact ⟨rfl, HB3.out.trans ((hbw2.trans (hbx.mono hbw2.size)).mono HB3.out.size)⟩
end Go.Proofs.Ytfljgcpfmhhgcaa
