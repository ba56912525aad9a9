/- Contract: the reference's Check: the same as the code's. -/
import Derived.Test.YtfljgcpfmhhgcaaRdBd
import Derived.Test.YtfljgcpfmhhgcaaRdBr
namespace Go.Proofs.Ytfljgcpfmhhgcaa
open Go.RowKit Go.Lab
attribute [local go_sem] Oper.semAt_some
set_option maxRecDepth 100000
theorem range_map78 (f : Nat → Value) : (List.range 78).map f = [f 0, f 1, f 2, f 3, f 4, f 5, f 6, f 7, f 8, f 9, f 10, f 11, f 12, f 13, f 14, f 15, f 16, f 17, f 18, f 19, f 20, f 21, f 22, f 23, f 24, f 25, f 26, f 27, f 28, f 29, f 30, f 31, f 32, f 33, f 34, f 35, f 36, f 37, f 38, f 39, f 40, f 41, f 42, f 43, f 44, f 45, f 46, f 47, f 48, f 49, f 50, f 51, f 52, f 53, f 54, f 55, f 56, f 57, f 58, f 59, f 60, f 61, f 62, f 63, f 64, f 65, f 66, f 67, f 68, f 69, f 70, f 71, f 72, f 73, f 74, f 75, f 76, f 77] := rfl
theorem frame78 (t : Array Value) (ds : List Deferred) (h : t.size = 78) : ({ tmps := t, defers := ds } : Act) = { tmps := #[slot t 0, slot t 1, slot t 2, slot t 3, slot t 4, slot t 5, slot t 6, slot t 7, slot t 8, slot t 9, slot t 10, slot t 11, slot t 12, slot t 13, slot t 14, slot t 15, slot t 16, slot t 17, slot t 18, slot t 19, slot t 20, slot t 21, slot t 22, slot t 23, slot t 24, slot t 25, slot t 26, slot t 27, slot t 28, slot t 29, slot t 30, slot t 31, slot t 32, slot t 33, slot t 34, slot t 35, slot t 36, slot t 37, slot t 38, slot t 39, slot t 40, slot t 41, slot t 42, slot t 43, slot t 44, slot t 45, slot t 46, slot t 47, slot t 48, slot t 49, slot t 50, slot t 51, slot t 52, slot t 53, slot t 54, slot t 55, slot t 56, slot t 57, slot t 58, slot t 59, slot t 60, slot t 61, slot t 62, slot t 63, slot t 64, slot t 65, slot t 66, slot t 67, slot t 68, slot t 69, slot t 70, slot t 71, slot t 72, slot t 73, slot t 74, slot t 75, slot t 76, slot t 77], defers := ds } := by
  have e : t = ((List.range 78).map (slot t)).toArray := by
    apply Array.ext
    · simp [h]
    · intro i h1 h2
      simp [slot, Array.getD, h1]
  rw [range_map78] at e
  exact congrArg (fun x => ({ tmps := x, defers := ds } : Act)) e
theorem perm_of_sub : ∀ (need order : List Int), need.Nodup → (∀ x ∈ need, x ∈ order) → order.length = need.length → order.Perm need
  | [], order, _, _, hl => by
    have : order = [] := List.eq_nil_of_length_eq_zero hl
    rw [this]
  | x :: xs, order, hn, hs, hl => by
    have hx := hs x (List.mem_cons_self ..)
    have h1 := List.perm_cons_erase hx
    have hlen := h1.length_eq
    have h2 := List.nodup_cons.1 hn
    have := perm_of_sub xs (order.erase x) h2.2 (fun y hy => (List.mem_erase_of_ne (fun e => h2.1 (by rw [← e]; exact hy))).2 (hs y (List.mem_cons_of_mem _ hy))) (by simp only [List.length_cons] at hl hlen; omega)
    exact h1.trans (this.cons x)
theorem nodup_lt {l : List Int} (h : l.Pairwise (· < ·)) : l.Nodup := h.imp (fun hlt e => by omega)
section
variable {way : Int} {pl : List Pl} {need order : List Int} {steps : Int} {least : List (List Int)}
theorem check_task (ht : ¬ taskZ way pl.length need = 0) : checkZ way pl need order steps least = taskZ way pl.length need := by unfold checkZ; rw [if_neg ht]
theorem check_len (ht : taskZ way pl.length need = 0) (h : order.length ≠ need.length) : checkZ way pl need order steps least = 19 := by
  have : ¬ sortZ order = need := fun e => h (by rw [← e]; exact (sortZ_perm order).length_eq.symm)
  unfold checkZ
  rw [if_pos ht, decide_eq_false this]
  rfl
theorem check_bd (ht : taskZ way pl.length need = 0) (h : boundsZ way (needL pl need) least = false) : checkZ way pl need order steps least = 19 := by
  unfold checkZ
  rw [if_pos ht, h, Bool.and_false]
  rfl
theorem check_has (ht : taskZ way pl.length need = 0) {x : Int} (hx : x ∈ need) (h : hasZ order x = false) : checkZ way pl need order steps least = 19 := by
  have : ¬ sortZ order = need := fun e => by
    have h1 : x ∈ order := (sortZ_perm order).mem_iff.1 (by rw [e]; exact hx)
    unfold hasZ at h
    rw [List.any_eq_false] at h
    exact h x h1 (by simp)
  unfold checkZ
  rw [if_pos ht, decide_eq_false this]
  rfl
theorem all_perm (hpw : need.Pairwise (· < ·)) (hl : order.length = need.length) (h : ∀ i (hi : i < need.length), hasZ order need[i] = true) : order.Perm need :=
  perm_of_sub need order (nodup_lt hpw) (fun x hx => by
    obtain ⟨i, hi, rfl⟩ := List.getElem_of_mem hx
    have := h i hi
    unfold hasZ at this
    obtain ⟨y, hy, he⟩ := List.any_eq_true.1 this
    have : y = need[i] := by simpa using he
    rw [← this]
    exact hy) hl
theorem check_all (ht : taskZ way pl.length need = 0) (hp : order.Perm need) (hb : boundsZ way (needL pl need) least = true) :
    checkZ way pl need order steps least = if decide (stepsZ way pl order = steps) && !((least.getD (least.length - 1) []).any fun x => decide (x < steps)) then 0 else 19 := by
  obtain ⟨_, _, _, hpw⟩ := task_need rfl ht
  unfold checkZ
  rw [if_pos ht, sortZ_need hp hpw, hb, decide_eq_true rfl]
  rfl
end
set_option maxHeartbeats 40000000 in
theorem check30_any (way : Int) (pl : List Pl) (need order : List Int) (steps : Int) (least : List (List Int)) (pv nv vo vl : Value) (hok : ∀ p ∈ pl, PlOk p) (hT : ∀ r ∈ least, ∀ x ∈ r, -1152921504606846976 ≤ x ∧ x ≤ 1152921504606846976) (hol : order.length ≤ 1000000) (w : World) (hp : PlacesAt w pv pl) (hn : IntsAt w nv need) (ho : IntsAt w vo order) (hl : TabAt w vl least) :
    Calls Try.prog 25 #[.int .i64 way, pv, nv, planV vo steps vl] w fun e w' => e = .returned (.int .i64 (checkZ way pl need order steps least)) ∧ Below w.heap.size w w' := by
  obtain ⟨a, c, rfl, hca, hma⟩ := hp.form
  obtain ⟨b, d, rfl, hcb, hmb⟩ := hn.1.form
  obtain ⟨oa, oc, rfl, hco, hmo⟩ := ho.1.form
  obtain ⟨g, f, rfl, hcf, hmf⟩ := TabOf.form hl
  unfold maxLen at hma hmb hmf hmo
  unfold planV
  have HTA := hidep (fun W (h : Below w.heap.size w W) => task30_any way _ _ pl need W (hp.below h) (hn.below h))
  obtain ⟨W0, hW0⟩ : ∃ W0, W0 = w.alloc (.cells #[.slice oa order.length oc, .int .i64 steps, .slice g least.length f] 39) := ⟨_, rfl⟩
  have hb0 : Below w.heap.size w W0 := by rw [hW0]; exact (Below.refl _ _).alloc (Nat.le_refl _) _
  have hq0 : W0.heap[w.heap.size]? = some (.cells #[.slice oa order.length oc, .int .i64 steps, .slice g least.length f] 39) := by rw [hW0]; exact heap_alloc_new _ _
  have hs0 : W0.heap.size = w.heap.size + 1 := by rw [hW0]; simp
  obtain ⟨P0, hP0⟩ : ∃ P0, P0 = w.heap.size := ⟨_, rfl⟩
  rw [← hP0] at hq0
  have HQ0 := hidep (show ∀ X, Below W0.heap.size W0 X → X.heap[P0]? = some (.cells #[.slice oa order.length oc, .int .i64 steps, .slice g least.length f] 39) from fun X hX => (hX.block _ (by omega)).trans hq0)
  clear hq0
  go_enter Try.func25, Try.ntmps25
  go_upto_region 1 with (fail)
  rw [← hW0, ← hP0]
  have HP := hidep (hp.below hb0)
  have HN := hidep (hn.below hb0)
  have HO := hidep (ho.below hb0)
  have HL := hidep (TabAt.below hl hb0)
  have HB0 := hidep hb0
  clear hp hn ho hl hW0 hb0 hs0 hP0
  obtain ⟨tz, htz⟩ : ∃ tz, tz = taskZ way pl.length need := ⟨_, rfl⟩
  rw [← htz] at HTA
  by_cases ht : tz = 0
  · subst ht
    have ht0 := htz.symm
    have HT0 := hidep ht0
    obtain ⟨hneed, _, _, hpw⟩ := task_need rfl ht0
    clear htz ht0
    go_upto_region 4 with (first
      | (go_at_call 41; refine (HTA.out _ (by exact HB0.out)).mono ?_; rintro e w1 ⟨rfl, n1, rfl⟩)
      | fail)
    have hb1 : Below W0.heap.size W0 (W0.drewN n1) := below_drewN (Below.refl _ _) n1
    generalize W0.drewN n1 = w1 at *
    obtain ⟨z0, z1, z2⟩ := box3_cells (HQ0.out w1 hb1)
    by_cases hlen : order.length = need.length
    · have hli : ((order.length : Int) != (need.length : Int)) = false := by rw [hlen]; simp
      have HLEN := hidep hlen
      have HBD := hidep (fun X (hX : Below W0.heap.size W0 X) => bounds30_any way pl need least _ _ _ hok hneed hT X (HP.out.below hX) (HN.out.below hX) (HL.out.below hX))
      obtain ⟨bz, hbz⟩ : ∃ bz, bz = boundsZ way (needL pl need) least := ⟨_, rfl⟩
      rw [← hbz] at HBD
      have HBZ := hidep hbz
      clear hbz hlen
      cases bz with
      | false =>
        have HR := hidep (check_bd (order := order) (steps := steps) HT0.out HBZ.out.symm)
        go_wp2_with (first
          | (go_at_call 50; refine (HBD.out _ hb1).mono ?_; rintro e w2 ⟨rfl, h2⟩)
          | fail)
        go_ret
        have hb2 := hb1.trans (h2.mono hb1.size)
        exact ⟨ret_val (congrArg _ HR.out.symm), HB0.out.trans (hb2.mono HB0.out.size)⟩
      | true =>
        go_upto_region 7 with (first
          | (go_at_call 50; refine (HBD.out _ hb1).mono ?_; rintro e w2 ⟨rfl, h2⟩)
          | fail)
        have hb2 := hb1.trans (h2.mono hb1.size)
        clear h2 hb1 z0 z1 z2 hli HBD
        refine wp_loop (LoopI 78 (fun tm ds wr => (slot tm 0) = .int .i64 way ∧ (slot tm 1) = .slice a pl.length c ∧ (slot tm 2) = .slice b need.length d ∧ (slot tm 7) = .pointer (some ⟨P0, 0, none⟩) ∧ ds = [] ∧ AllI W0 (fun i => ∀ h : i < need.length, hasZ order need[i] = true) need.length (slot tm 10) wr)) (fun a' wr => need.length - (intOf (a'.tmps.getD 10 undef)).toNat) ?hasStart ?hasRound
        case' hasStart => refine LoopI.mk rfl ?_
        case' hasRound => (rintro ⟨t, ds⟩ wr ⟨hts, hrel⟩; dsimp only at hts hrel; rw [frame78 t ds hts])
        case hasStart => exact ⟨rfl, rfl, rfl, rfl, rfl, 0, Nat.zero_le _, rfl, fun _ h => absurd h (Nat.not_lt_zero _), hb2⟩
        obtain ⟨h0, h1, h2, h7, hds, i, hi, h10, hall, hbw⟩ := hrel
        subst hds
        rw [h0, h1, h2, h7, h10]
        clear h0 h1 h2 h7 h10 hts hb2
        have HALL := hidep hall
        clear hall
        by_cases hlt : i < need.length
        · have hi0 : (0 : Int) ≤ (i : Int) := by omega
          have hi1 : (i : Int) < (need.length : Int) := by omega
          have hmem := List.getElem_mem hlt
          obtain ⟨nb, no, rfl, hnbl, hnc⟩ := ints_get HN.out hlt
          have HNX := hidep hmem
          obtain ⟨x, hx⟩ : ∃ x, x = need[i] := ⟨_, rfl⟩
          rw [← hx] at hnc HNX
          have HX := hidep hx
          clear hx hmem
          have HCC := hidep (show ∀ X, Below wr.heap.size wr X → X.heap[P0]? = some (.cells #[.slice oa order.length oc, .int .i64 steps, .slice g least.length f] 39) ∧ X.cell? ⟨nb, no + i, none⟩ = some (.int .i64 x) from fun X hX => by
            have h0X := hbw.trans (hX.mono hbw.size)
            exact ⟨HQ0.out X h0X, (h0X.cell (p := ⟨nb, _, none⟩) hnbl).trans hnc⟩)
          have HH := hidep (fun X (hX : Below wr.heap.size wr X) => has30_any _ order x X (HO.out.below (hbw.trans (hX.mono hbw.size))))
          obtain ⟨hz, hhz⟩ : ∃ hz, hz = hasZ order x := ⟨_, rfl⟩
          rw [← hhz] at HH
          have HHZ := hidep hhz
          clear hhz hnc
          go_upto_region 9 with (fail)
          refine wp_region_noPanic (wp_region_held_drew (S := (fun X => Below wr.heap.size wr X)) (by kernel_rfl) ?hS25r9n0 (fun hHeld => ?hR25r9n0))
          case hS25r9n0 => ((try dsimp only); (exact (Below.refl _ _).drew))
          refine wpAnyH_take (i := 0) (v := ?v25r9n0q1) rfl (by kernel_rfl) (by kernel_rfl) (by kernel_rfl) (fun _ _ _ h => h) (Or.inl ⟨by kernel_rfl, ?hy25r9n0q1⟩) (by assumption) ?hr25r9n0q1
          case hy25r9n0q1 => (intro w hSw; (try dsimp only at hSw); (obtain ⟨x1, d0⟩ := HCC.out w hSw; obtain ⟨c0, c1, c2⟩ := box3_cells x1; clear x1); first | (go_simp; done) | (go_simp; with_reducible rfl))
          refine wpAnyH_take (i := 1) (v := ?v25r9n0q2) rfl (by kernel_rfl) (by kernel_rfl) (by kernel_rfl) (fun _ _ _ h => h) (Or.inl ⟨by kernel_rfl, ?hy25r9n0q2⟩) (by assumption) ?hr25r9n0q2
          case hy25r9n0q2 => (intro w hSw; (try dsimp only at hSw); (obtain ⟨x1, d0⟩ := HCC.out w hSw; obtain ⟨c0, c1, c2⟩ := box3_cells x1; clear x1); first | (go_simp; done) | (go_simp; with_reducible rfl))
          refine wpAnyH_take (i := 2) (v := ?v25r9n0q3) rfl (by kernel_rfl) (by kernel_rfl) (by kernel_rfl) (fun _ _ _ h => h) (Or.inl ⟨by kernel_rfl, ?hy25r9n0q3⟩) (by assumption) ?hr25r9n0q3
          case hy25r9n0q3 => (intro w hSw; (try dsimp only at hSw); (obtain ⟨x1, d0⟩ := HCC.out w hSw; obtain ⟨c0, c1, c2⟩ := box3_cells x1; clear x1); first | (go_simp; done) | (go_simp; with_reducible rfl))
          refine wpAnyH_take (i := 3) (v := ?v25r9n0q4) rfl (by kernel_rfl) (by kernel_rfl) (by kernel_rfl) (fun _ _ _ h => h) (Or.inl ⟨by kernel_rfl, ?hy25r9n0q4⟩) (by assumption) ?hr25r9n0q4
          case hy25r9n0q4 => (intro w hSw; (try dsimp only at hSw); (obtain ⟨x1, d0⟩ := HCC.out w hSw; obtain ⟨c0, c1, c2⟩ := box3_cells x1; clear x1); first | (go_simp; done) | (go_simp; with_reducible rfl))
          refine wpAnyH_take (i := 4) (v := ?v25r9n0q5) rfl (by kernel_rfl) (by kernel_rfl) (by kernel_rfl) (fun _ _ _ h => h) (Or.inl ⟨by kernel_rfl, ?hy25r9n0q5⟩) (by assumption) ?hr25r9n0q5
          case hy25r9n0q5 => (intro w hSw; (try dsimp only at hSw); (obtain ⟨x1, d0⟩ := HCC.out w hSw; obtain ⟨c0, c1, c2⟩ := box3_cells x1; clear x1); first | (go_simp; done) | (go_simp; with_reducible rfl))
          refine wpAnyH_take (i := 5) (v := ?v25r9n0q6) rfl (by kernel_rfl) (by kernel_rfl) (by kernel_rfl) (fun _ _ _ h => h) (Or.inl ⟨by kernel_rfl, ?hy25r9n0q6⟩) (by assumption) ?hr25r9n0q6
          case hy25r9n0q6 => (intro w hSw; (try dsimp only at hSw); (obtain ⟨x1, d0⟩ := HCC.out w hSw; obtain ⟨c0, c1, c2⟩ := box3_cells x1; clear x1); first | (go_simp; done) | (go_simp; with_reducible rfl))
          refine wpAnyH_ready (rs := [6]) (by kernel_rfl) (by simp) (AllReadyH.cons rfl (fun K hK => ?hc25r9n0q7) AllReadyH.nil)
          go_simp
          (go_at_call 51; refine (HH.out _ hHeld).mono ?_; rintro e' w8 ⟨rfl, rfl⟩; (try dsimp only))
          refine hK.out _ _ ?hs25r9n0q7 (fun hHeld25r9n0q7 => ?ht25r9n0q7)
          case hs25r9n0q7 => ((try dsimp only); (first | (with_reducible exact hHeld)))
          clear hHeld hK
          have hHeld := hHeld25r9n0q7
          clear hHeld25r9n0q7
          refine wpAnyH_take (i := 7) (v := ?v25r9n0q8) rfl (by kernel_rfl) (by kernel_rfl) (by kernel_rfl) (fun _ _ _ h => h) (Or.inl ⟨by kernel_rfl, ?hy25r9n0q8⟩) (by assumption) ?hr25r9n0q8
          case hy25r9n0q8 => (intro w hSw; (try dsimp only at hSw); (obtain ⟨x1, d0⟩ := HCC.out w hSw; obtain ⟨c0, c1, c2⟩ := box3_cells x1; clear x1); first | (go_simp; done) | (go_simp; with_reducible rfl))
          refine wpAnyH_done (by kernel_rfl) ?_ _
          clear hHeld
          refine NoPanic.normal ?_
          have hkk : Below wr.heap.size wr wr.drew := (Below.refl _ _).drew
          apply_assumption
          refine wp_cutA 78 (fun tm ds => ds = [] ∧ slot tm 0 = .int .i64 way ∧ slot tm 1 = .slice a pl.length c ∧ slot tm 2 = .slice (some ⟨nb, no, none⟩) need.length d ∧ slot tm 7 = .pointer (some ⟨P0, 0, none⟩) ∧ slot tm 10 = .int .i64 (i : Nat) ∧ slot tm 48 = .bool (!hz)) (by kernel_rfl) (by exact ⟨by kernel_rfl, by kernel_rfl, by kernel_rfl, by kernel_rfl, by kernel_rfl, by kernel_rfl, by kernel_rfl⟩) ?_
          rintro tm4 ds4 h78 ⟨rfl, e0, e1, e2, e7, e10, e48⟩
          refine wp_abs (fun X => Below W0.heap.size W0 X) (hbw.trans (hkk.mono hbw.size)) ?_
          intro X hX
          cases hz with
          | false =>
            rw [frame78 tm4 [] h78, e0, e1, e2, e7, e10, e48]
            have HR := hidep (check_has (steps := steps) (least := least) HT0.out HNX.out HHZ.out.symm)
            clear h78 e0 e1 e2 e7 e10 e48 HH HCC
            go_wp2
            go_ret
            exact ⟨ret_val (congrArg _ HR.out.symm), HB0.out.trans (hX.mono HB0.out.size)⟩
          | true =>
            rw [frame78 tm4 [] h78, e0, e1, e2, e7, e10, e48]
            have HA2 := hidep (show ∀ j, j < i + 1 → ∀ h : j < need.length, hasZ order need[j] = true from fun j hj h => by
              by_cases hji : j = i
              · subst hji
                rw [← HX.out]
                exact HHZ.out.symm
              · exact HALL.out j (by omega) h)
            clear h78 e0 e1 e2 e7 e10 e48 HH HCC
            go_wp2
            refine ⟨LoopI.mk rfl ⟨rfl, rfl, rfl, rfl, rfl, i + 1, by omega, by show Value.int _ _ = _; go_num, HA2.out, hX⟩, ?_⟩
            show need.length - _ < need.length - _
            simp [intOf]; omega
        · have hperm := all_perm hpw HLEN.out (fun j hj => HALL.out j (by omega) hj)
          have HCZ := hidep (check_all (steps := steps) HT0.out hperm HBZ.out.symm)
          have hmem : ∀ x ∈ order, 0 ≤ x ∧ x < pl.length := fun x hx => hneed.2 x (hperm.mem_iff.1 hx)
          have HST := hidep (fun X (hX : Below wr.heap.size wr X) => steps30_any way pl order _ _ hok hmem hol X (HP.out.below (hbw.trans (hX.mono hbw.size))) (HO.out.below (hbw.trans (hX.mono hbw.size))))
          obtain ⟨sv, hsv⟩ : ∃ sv, sv = stepsZ way pl order := ⟨_, rfl⟩
          rw [← hsv] at HST HCZ
          have HCC := hidep (show ∀ X, Below wr.heap.size wr X → X.heap[P0]? = some (.cells #[.slice oa order.length oc, .int .i64 steps, .slice g least.length f] 39) from fun X hX => HQ0.out X (hbw.trans (hX.mono hbw.size)))
          have hl1 : 1 ≤ least.length := by
            have h := HBZ.out
            unfold boundsZ at h
            rw [eq_comm, Bool.and_eq_true, decide_eq_true_eq] at h
            rw [h.1]
            exact Nat.two_pow_pos _
          clear hsv hperm hmem HALL
          go_upto_region 11 with (fail)
          by_cases hss : sv = steps
          · subst hss
            have hnn : (sv != sv) = false := by simp
            have HR : Hid (checkZ way pl need order sv least = if !((least.getD (least.length - 1) []).any fun x => decide (x < sv)) then 0 else 19) := hidep (by rw [HCZ.out, decide_eq_true rfl, Bool.true_and])
            clear HCZ
            refine wp_region_noPanic (wp_region_held_drew (S := (fun X => Below wr.heap.size wr X)) (by kernel_rfl) ?hS25r11n1 (fun hHeld => ?hR25r11n1))
            case hS25r11n1 => ((try dsimp only); (exact (Below.refl _ _).drew))
            refine wpAnyH_take (i := 0) (v := ?v25r11n1q1) rfl (by kernel_rfl) (by kernel_rfl) (by kernel_rfl) (fun _ _ _ h => h) (Or.inl ⟨by kernel_rfl, ?hy25r11n1q1⟩) (by assumption) ?hr25r11n1q1
            case hy25r11n1q1 => (intro w hSw; (try dsimp only at hSw); (obtain ⟨c0, c1, c2⟩ := box3_cells (HCC.out w hSw)); first | (go_simp; done) | (go_simp; with_reducible rfl))
            refine wpAnyH_take (i := 1) (v := ?v25r11n1q2) rfl (by kernel_rfl) (by kernel_rfl) (by kernel_rfl) (fun _ _ _ h => h) (Or.inl ⟨by kernel_rfl, ?hy25r11n1q2⟩) (by assumption) ?hr25r11n1q2
            case hy25r11n1q2 => (intro w hSw; (try dsimp only at hSw); (obtain ⟨c0, c1, c2⟩ := box3_cells (HCC.out w hSw)); first | (go_simp; done) | (go_simp; with_reducible rfl))
            refine wpAnyH_take (i := 2) (v := ?v25r11n1q3) rfl (by kernel_rfl) (by kernel_rfl) (by kernel_rfl) (fun _ _ _ h => h) (Or.inl ⟨by kernel_rfl, ?hy25r11n1q3⟩) (by assumption) ?hr25r11n1q3
            case hy25r11n1q3 => (intro w hSw; (try dsimp only at hSw); (obtain ⟨c0, c1, c2⟩ := box3_cells (HCC.out w hSw)); first | (go_simp; done) | (go_simp; with_reducible rfl))
            refine wpAnyH_take (i := 3) (v := ?v25r11n1q4) rfl (by kernel_rfl) (by kernel_rfl) (by kernel_rfl) (fun _ _ _ h => h) (Or.inl ⟨by kernel_rfl, ?hy25r11n1q4⟩) (by assumption) ?hr25r11n1q4
            case hy25r11n1q4 => (intro w hSw; (try dsimp only at hSw); (obtain ⟨c0, c1, c2⟩ := box3_cells (HCC.out w hSw)); first | (go_simp; done) | (go_simp; with_reducible rfl))
            refine wpAnyH_take (i := 5) (v := ?v25r11n1q5) rfl (by kernel_rfl) (by kernel_rfl) (by kernel_rfl) (fun _ _ _ h => h) (Or.inl ⟨by kernel_rfl, ?hy25r11n1q5⟩) (by assumption) ?hr25r11n1q5
            case hy25r11n1q5 => (intro w hSw; (try dsimp only at hSw); (obtain ⟨c0, c1, c2⟩ := box3_cells (HCC.out w hSw)); first | (go_simp; done) | (go_simp; with_reducible rfl))
            refine wpAnyH_take (i := 6) (v := ?v25r11n1q6) rfl (by kernel_rfl) (by kernel_rfl) (by kernel_rfl) (fun _ _ _ h => h) (Or.inl ⟨by kernel_rfl, ?hy25r11n1q6⟩) (by assumption) ?hr25r11n1q6
            case hy25r11n1q6 => (intro w hSw; (try dsimp only at hSw); (obtain ⟨c0, c1, c2⟩ := box3_cells (HCC.out w hSw)); first | (go_simp; done) | (go_simp; with_reducible rfl))
            refine wpAnyH_ready (rs := [4]) (by kernel_rfl) (by simp) (AllReadyH.cons rfl (fun K hK => ?hc25r11n1q7) AllReadyH.nil)
            go_simp
            (go_at_call 26; refine (HST.out _ hHeld).mono ?_; rintro e' w8 ⟨rfl, hb8⟩; have hk8 := hHeld.trans (hb8.mono hHeld.size); (try dsimp only))
            refine hK.out _ _ ?hs25r11n1q7 (fun hHeld25r11n1q7 => ?ht25r11n1q7)
            case hs25r11n1q7 => ((try dsimp only); (first | (with_reducible exact hHeld) | exact hk8))
            clear hHeld hK
            have hHeld := hHeld25r11n1q7
            clear hHeld25r11n1q7
            refine wpAnyH_take (i := 7) (v := ?v25r11n1q8) rfl (by kernel_rfl) (by kernel_rfl) (by kernel_rfl) (fun _ _ _ h => h) (Or.inl ⟨by kernel_rfl, ?hy25r11n1q8⟩) (by assumption) ?hr25r11n1q8
            case hy25r11n1q8 => (intro w hSw; (try dsimp only at hSw); (obtain ⟨c0, c1, c2⟩ := box3_cells (HCC.out w hSw)); first | (go_simp; done) | (go_simp; with_reducible rfl))
            refine wpAnyH_done (by kernel_rfl) ?_ _
            clear hHeld
            refine NoPanic.normal ?_
            have hkk : Below wr.heap.size wr w8 := hk8
            apply_assumption
            refine wp_cutA 78 (fun tm ds => ds = [] ∧ slot tm 7 = .pointer (some ⟨P0, 0, none⟩) ∧ slot tm 56 = .bool false) (by kernel_rfl) (by exact ⟨by kernel_rfl, by kernel_rfl, by kernel_rfl⟩) ?_
            rintro tm4 ds4 h78 ⟨rfl, e7, e56⟩
            rw [frame78 tm4 [] h78, e7, e56]
            have hb8 := hbw.trans (hkk.mono hbw.size)
            obtain ⟨m, hm⟩ : ∃ m, m = least.length - 1 := ⟨_, rfl⟩
            have hml : m < least.length := by omega
            have hwm : IntKind.i64.wrap ((least.length : Int) - 1) = ((m : Nat) : Int) := by rw [show (least.length : Int) - 1 = (m : Int) by omega]; exact IntWalk.i64_in _ (by omega)
            have hm0 : (0 : Int) ≤ (m : Int) := by omega
            have hm1 : (m : Int) < (least.length : Int) := by omega
            obtain ⟨gb, go, u, rfl, hgb, hgu, hui⟩ := tab_get HL.out hml
            have HLAST : Hid (least.getD (least.length - 1) [] = least[m]) := hidep (by rw [← hm]; simp [List.getD, hml])
            generalize least[m] = last at *
            have HUI := hidep hui
            obtain ⟨ua, uc, rfl, huc1, huc2⟩ := hui.1.form
            unfold maxLen at huc2
            have hgu8 := (hb8.cell (p := ⟨gb, _, none⟩) hgb).trans hgu
            obtain ⟨z0, z1, z2⟩ := box3_cells (HQ0.out w8 hb8)
            clear h78 e7 e56 hm hui hgu HST hk8 hkk HCC hl1
            go_upto_region 15 with (fail)
            clear z0 z1 z2 hgu8 hwm
            refine wp_loop (LoopI 78 (fun tm ds wr => (slot tm 7) = .pointer (some ⟨P0, 0, none⟩) ∧ (slot tm 11) = .slice ua last.length uc ∧ ds = [] ∧ AllI W0 (fun i => ∀ h : i < last.length, ¬ last[i] < sv) last.length (slot tm 12) wr)) (fun a' wr => last.length - (intOf (a'.tmps.getD 12 undef)).toNat) ?lasStart ?lasRound
            case' lasStart => refine LoopI.mk rfl ?_
            case' lasRound => (rintro ⟨t, ds⟩ wr ⟨hts, hrel⟩; dsimp only at hts hrel; rw [frame78 t ds hts])
            case lasStart => exact ⟨rfl, rfl, rfl, 0, Nat.zero_le _, rfl, fun _ h => absurd h (Nat.not_lt_zero _), hb8⟩
            clear hb8
            obtain ⟨h7, h11, hds, j, hj, h12, hallj, hbj⟩ := hrel
            subst hds
            rw [h7, h11, h12]
            clear h7 h11 h12 hts
            have HALLJ := hidep hallj
            clear hallj
            by_cases hjl : j < last.length
            · have hj0 : (0 : Int) ≤ (j : Int) := by omega
              have hj1 : (j : Int) < (last.length : Int) := by omega
              obtain ⟨lb, lo, rfl, hlbl, hlc⟩ := ints_get (IntsOf.at HUI.out) hjl
              have hlcw := (hbj.cell (p := ⟨lb, _, none⟩) hlbl).trans hlc
              obtain ⟨z0, z1, z2⟩ := box3_cells (HQ0.out wr hbj)
              obtain ⟨x, hx⟩ : ∃ x, x = last[j] := ⟨_, rfl⟩
              rw [← hx] at hlcw
              have HX := hidep hx
              clear hlc hx
              by_cases hxs : x < sv
              · have hfin : (last.any fun x => decide (x < sv)) = true := List.any_eq_true.2 ⟨last[j], List.getElem_mem hjl, by rw [← HX.out]; exact decide_eq_true hxs⟩
                have HF : Hid ((19 : Int) = checkZ way pl need order sv least) := hidep (by rw [HR.out, HLAST.out, hfin]; rfl)
                have hdx : decide (x < sv) = true := decide_eq_true hxs
                clear hfin
                go_upto_region 17 with (fail)
                go_quiet (fail)
                apply_assumption
                refine wp_abs (fun X => Below W0.heap.size W0 X) (hbj.trans ((below_drewN (Below.refl _ _) _).mono hbj.size)) ?_
                intro X hX
                go_wp2
                go_ret
                exact ⟨ret_val (congrArg _ HF.out), HB0.out.trans (hX.mono HB0.out.size)⟩
              · have HA2 := hidep (show ∀ k, k < j + 1 → ∀ h : k < last.length, ¬ last[k] < sv from fun k hk h => by
                  by_cases hkj : k = j
                  · subst hkj
                    rw [← HX.out]
                    exact hxs
                  · exact HALLJ.out k (by omega) h)
                have hdx : decide (x < sv) = false := decide_eq_false hxs
                go_upto_region 17 with (fail)
                go_quiet (fail)
                apply_assumption
                refine wp_abs (fun X => Below W0.heap.size W0 X) (hbj.trans ((below_drewN (Below.refl _ _) _).mono hbj.size)) ?_
                intro X hX
                go_wp2
                refine ⟨LoopI.mk rfl ⟨rfl, rfl, rfl, j + 1, by omega, by show Value.int _ _ = _; go_num, HA2.out, hX⟩, ?_⟩
                show last.length - _ < last.length - _
                simp [intOf]; omega
            · have hfin : (last.any fun x => decide (x < sv)) = false := by
                rw [List.any_eq_false]
                intro y hy
                obtain ⟨k, hk, rfl⟩ := List.getElem_of_mem hy
                simpa using HALLJ.out k (by omega) hk
              have HF : Hid ((0 : Int) = checkZ way pl need order sv least) := hidep (by rw [HR.out, HLAST.out, hfin]; rfl)
              have hjn : ¬ (j : Int) < (last.length : Int) := by omega
              clear hfin
              go_wp2
              go_ret
              exact ⟨ret_val (congrArg _ HF.out), HB0.out.trans (hbj.mono HB0.out.size)⟩
          · have hnn : (sv != steps) = true := by simp [hss]
            have HR : Hid (checkZ way pl need order steps least = 19) := hidep (by rw [HCZ.out, decide_eq_false hss, Bool.false_and]; rfl)
            clear HCZ
            refine wp_region_noPanic (wp_region_held_drew (S := (fun X => Below wr.heap.size wr X)) (by kernel_rfl) ?hS25r11n2 (fun hHeld => ?hR25r11n2))
            case hS25r11n2 => ((try dsimp only); (exact (Below.refl _ _).drew))
            refine wpAnyH_take (i := 0) (v := ?v25r11n2q1) rfl (by kernel_rfl) (by kernel_rfl) (by kernel_rfl) (fun _ _ _ h => h) (Or.inl ⟨by kernel_rfl, ?hy25r11n2q1⟩) (by assumption) ?hr25r11n2q1
            case hy25r11n2q1 => (intro w hSw; (try dsimp only at hSw); (obtain ⟨c0, c1, c2⟩ := box3_cells (HCC.out w hSw)); first | (go_simp; done) | (go_simp; with_reducible rfl))
            refine wpAnyH_take (i := 1) (v := ?v25r11n2q2) rfl (by kernel_rfl) (by kernel_rfl) (by kernel_rfl) (fun _ _ _ h => h) (Or.inl ⟨by kernel_rfl, ?hy25r11n2q2⟩) (by assumption) ?hr25r11n2q2
            case hy25r11n2q2 => (intro w hSw; (try dsimp only at hSw); (obtain ⟨c0, c1, c2⟩ := box3_cells (HCC.out w hSw)); first | (go_simp; done) | (go_simp; with_reducible rfl))
            refine wpAnyH_take (i := 2) (v := ?v25r11n2q3) rfl (by kernel_rfl) (by kernel_rfl) (by kernel_rfl) (fun _ _ _ h => h) (Or.inl ⟨by kernel_rfl, ?hy25r11n2q3⟩) (by assumption) ?hr25r11n2q3
            case hy25r11n2q3 => (intro w hSw; (try dsimp only at hSw); (obtain ⟨c0, c1, c2⟩ := box3_cells (HCC.out w hSw)); first | (go_simp; done) | (go_simp; with_reducible rfl))
            refine wpAnyH_take (i := 3) (v := ?v25r11n2q4) rfl (by kernel_rfl) (by kernel_rfl) (by kernel_rfl) (fun _ _ _ h => h) (Or.inl ⟨by kernel_rfl, ?hy25r11n2q4⟩) (by assumption) ?hr25r11n2q4
            case hy25r11n2q4 => (intro w hSw; (try dsimp only at hSw); (obtain ⟨c0, c1, c2⟩ := box3_cells (HCC.out w hSw)); first | (go_simp; done) | (go_simp; with_reducible rfl))
            refine wpAnyH_take (i := 5) (v := ?v25r11n2q5) rfl (by kernel_rfl) (by kernel_rfl) (by kernel_rfl) (fun _ _ _ h => h) (Or.inl ⟨by kernel_rfl, ?hy25r11n2q5⟩) (by assumption) ?hr25r11n2q5
            case hy25r11n2q5 => (intro w hSw; (try dsimp only at hSw); (obtain ⟨c0, c1, c2⟩ := box3_cells (HCC.out w hSw)); first | (go_simp; done) | (go_simp; with_reducible rfl))
            refine wpAnyH_take (i := 6) (v := ?v25r11n2q6) rfl (by kernel_rfl) (by kernel_rfl) (by kernel_rfl) (fun _ _ _ h => h) (Or.inl ⟨by kernel_rfl, ?hy25r11n2q6⟩) (by assumption) ?hr25r11n2q6
            case hy25r11n2q6 => (intro w hSw; (try dsimp only at hSw); (obtain ⟨c0, c1, c2⟩ := box3_cells (HCC.out w hSw)); first | (go_simp; done) | (go_simp; with_reducible rfl))
            refine wpAnyH_ready (rs := [4]) (by kernel_rfl) (by simp) (AllReadyH.cons rfl (fun K hK => ?hc25r11n2q7) AllReadyH.nil)
            go_simp
            (go_at_call 26; refine (HST.out _ hHeld).mono ?_; rintro e' w8 ⟨rfl, hb8⟩; have hk8 := hHeld.trans (hb8.mono hHeld.size); (try dsimp only))
            refine hK.out _ _ ?hs25r11n2q7 (fun hHeld25r11n2q7 => ?ht25r11n2q7)
            case hs25r11n2q7 => ((try dsimp only); (first | (with_reducible exact hHeld) | exact hk8))
            clear hHeld hK
            have hHeld := hHeld25r11n2q7
            clear hHeld25r11n2q7
            refine wpAnyH_take (i := 7) (v := ?v25r11n2q8) rfl (by kernel_rfl) (by kernel_rfl) (by kernel_rfl) (fun _ _ _ h => h) (Or.inl ⟨by kernel_rfl, ?hy25r11n2q8⟩) (by assumption) ?hr25r11n2q8
            case hy25r11n2q8 => (intro w hSw; (try dsimp only at hSw); (obtain ⟨c0, c1, c2⟩ := box3_cells (HCC.out w hSw)); first | (go_simp; done) | (go_simp; with_reducible rfl))
            refine wpAnyH_done (by kernel_rfl) ?_ _
            clear hHeld
            refine NoPanic.normal ?_
            have hkk : Below wr.heap.size wr w8 := hk8
            apply_assumption
            refine wp_cutA 78 (fun tm ds => ds = [] ∧ slot tm 56 = .bool true) (by kernel_rfl) (by exact ⟨by kernel_rfl, by kernel_rfl⟩) ?_
            rintro tm4 ds4 h78 ⟨rfl, e56⟩
            rw [frame78 tm4 [] h78, e56]
            have hb8 := hbw.trans (hkk.mono hbw.size)
            clear h78 e56 HST hk8 hkk HCC
            go_wp2
            go_ret
            exact ⟨ret_val (congrArg _ HR.out.symm), HB0.out.trans (hb8.mono HB0.out.size)⟩
    · have hli : ((order.length : Int) != (need.length : Int)) = true := by simp; omega
      have HR := hidep (check_len (steps := steps) (least := least) HT0.out hlen)
      clear hlen
      go_wp2
      go_ret
      exact ⟨ret_val (congrArg _ HR.out.symm), HB0.out.trans (hb1.mono HB0.out.size)⟩
  · have HR := hidep (check_task (order := order) (steps := steps) (least := least) (show ¬ taskZ way pl.length need = 0 by rw [← htz]; exact ht))
    rw [← htz] at HR
    clear htz
    go_wp2_with (first
      | (go_at_call 41; refine (HTA.out _ (by exact HB0.out)).mono ?_; rintro e w1 ⟨rfl, n1, rfl⟩)
      | fail)
    go_ret
    exact ⟨ret_val (congrArg _ HR.out.symm), HB0.out.trans ((below_drewN (Below.refl _ _) n1).mono HB0.out.size)⟩
end Go.Proofs.Ytfljgcpfmhhgcaa
