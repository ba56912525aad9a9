/- The walk of the law ReaderPlans. -/
import Derived.Test.YtfljgcpfmhhgcaaRdBr
import Derived.Test.YtfljgcpfmhhgcaaRdX7
namespace Go.Proofs.Ytfljgcpfmhhgcaa
open Go.RowKit Go.Lab
attribute [local go_sem] Oper.semAt_some
set_option maxRecDepth 100000
set_option maxHeartbeats 2000000 in
theorem take01_any (v : Value) (l : List Int) (w : World) (hl : IntsAt w v l) : Calls Try.prog 17 #[v, .int .i64 9] w fun e w' => ∃ (u : Value), e = .returned u ∧ IntsAt w' u (l.take 9) ∧ Below w.heap.size w w' := by
  obtain ⟨a, c, rfl, hca, hma⟩ := hl.1.form
  obtain ⟨n, hn⟩ : ∃ n : Nat, (n : Int) = min (l.length : Int) 9 := ⟨(min (l.length : Int) 9).toNat, by omega⟩
  have hnl : n ≤ l.length := by omega
  have hsrc := Rd.pre hl.1 hnl
  have e : (intsC l).take (n * 1) = intsC (l.take n) := by rw [Nat.mul_one]; simp [intsC, List.map_take]
  have e2 : l.take n = l.take 9 := by
    by_cases h : l.length ≤ 9
    · rw [List.take_of_length_le (by omega), List.take_of_length_le h]
    · have : n = 9 := by omega
      rw [this]
  have hln : (l.take n).length = n := by simp; omega
  rw [e] at hsrc
  have HS := hidep hsrc
  have HR := hidep hl.2
  have HE2 := hidep e2
  have HLN := hidep hln
  have hn9 : n ≤ 9 := by omega
  have hq1 : (n : Int) ≤ (c : Int) := by omega
  have hq2 : (0 : Int) ≤ (n : Int) := by omega
  have hmn : min (l.length : Int) 9 = (n : Int) := hn.symm
  clear hl hsrc e e2 hln hn
  go_enter Try.func17, Try.ntmps17
  go_wp2_with (first
    | (at_builtin; refine wpList_append_rd _ rfl (.tmp 6) (.tmp 12) rfl slIntsR w.heap.size (.slice none 0 0) 0 [] rfl (World.ownsRow_nil _ _ _ _) _ _ _ _ rfl HS.out (intsC_one _) (by unfold maxLen; omega) (by omega) (Nat.le_refl _) ?_; intro v2 w2 hown2 hgr2 hat2 hnl2; clear hat2 hnl2)
    | fail)
  go_ret
  refine ⟨_, rfl, ⟨?_, fun x hx => HR.out x (List.mem_of_mem_take hx)⟩, (Below.refl _ _).grown hgr2 (Nat.le_refl _) (fun g hg => by cases hg)⟩
  rw [← HE2.out, HLN.out]
  simp only [Nat.zero_add, List.nil_append] at hown2
  exact (Rd.of_own hown2).mono (fun _ _ => trivial)
/-- Both plans are the same. -/
theorem best_gen (way : Int) (pl : List Pl) (need : List Int) (pv nv : Value) (hok : ∀ p ∈ pl, PlOk p) (w : World) (hp : PlacesAt w pv pl) (hn : IntsAt w nv need) (o : List Int) (s ez : Int) (tb : List (List Int))
    (h0 : ez = taskZ way pl.length need) (h1 : o = if taskZ way pl.length need = 0 then orderZ way (needL pl need) need else []) (h2 : s = if taskZ way pl.length need = 0 then restV way (needL pl need) (2 ^ need.length - 1) pl0 else 0) (h3 : tb = if taskZ way pl.length need = 0 then tabL way (needL pl need) else []) :
    (Calls Try.prog 18 #[.int .i64 way, pv, nv] w fun e w' => Below w.heap.size w w' ∧ ∃ oa oc la lc, e = .returned (.tuple #[.agg #[.slice oa o.length oc, .int .i64 s, .slice la tb.length lc], .int .i64 ez]) ∧ IntsOf TkR w' (.slice oa o.length oc) o ∧ TabOf TkR w' (.slice la tb.length lc) tb) ∧
    (Calls Try.prog 19 #[.int .i64 way, pv, nv] w fun e w' => Below w.heap.size w w' ∧ ∃ oa oc la lc, e = .returned (.tuple #[.agg #[.slice oa o.length oc, .int .i64 s, .slice la tb.length lc], .int .i64 ez]) ∧ IntsOf TkR w' (.slice oa o.length oc) o ∧ TabOf TkR w' (.slice la tb.length lc) tb) := by
  constructor
  · refine (best_any way pl need pv nv hok w hp hn).mono ?_
    rintro e w' ⟨hb, vo, vl, rfl, ho, hl⟩
    rw [← h1] at ho
    rw [← h3] at hl
    obtain ⟨oa, oc, rfl, _, _⟩ := ho.1.form
    obtain ⟨la, lc, rfl, _, _⟩ := TabOf.form hl
    exact ⟨hb, oa, oc, la, lc, by rw [h0, h2]; rfl, ho, hl⟩
  · refine (best30_any way pl need pv nv hok w hp hn).mono ?_
    rintro e w' ⟨hb, vo, vl, rfl, ho, hl⟩
    rw [← h1] at ho
    rw [← h3] at hl
    obtain ⟨oa, oc, rfl, _, _⟩ := ho.1.form
    obtain ⟨la, lc, rfl, _, _⟩ := TabOf.form hl
    exact ⟨hb, oa, oc, la, lc, by rw [h0, h2]; rfl, ho, hl⟩
def PlansI (W5 : World) (s12 : Value) (wr : World) : Prop := ∃ i : Nat, i ≤ 3 ∧ s12 = .int .i64 (i : Nat) ∧ Below W5.heap.size W5 wr
set_option maxRecDepth 100000 in
set_option maxHeartbeats 20000000 in
theorem lawPlans_any (v vr : Value) (l raw : List Int) (way bits : Int) (w : World) (hl : IntsAt w v l) (hr : IntsAt w vr raw) (hway : -9223372036854775808 ≤ way ∧ way ≤ 9223372036854775807) (hbits : -9223372036854775808 ≤ bits ∧ bits ≤ 9223372036854775807) :
    Calls Try.prog 4 #[v, .int .i64 way, .int .i64 bits, vr] w fun e w' => e = .returned (.bool true) ∧ Below w.heap.size w w' := by
  obtain ⟨a, c, rfl, hca, hma⟩ := hl.1.form
  obtain ⟨ra, rc, rfl, hrca, hrma⟩ := hr.1.form
  have HPL := hidep (fun b => places30_any _ l b w hl)
  have hwr := aroundZ_rng way 6 (by omega)
  have HAR := hidep (fun W => around_any way 6 W hway.1 hway.2)
  obtain ⟨wz, hwz⟩ : ∃ wz, wz = aroundZ way 6 := ⟨_, rfl⟩
  rw [← hwz] at HAR hwr
  have hw1 : IntKind.i64.wrap (wz - 1) = wz - 1 := IntWalk.i64_in _ (by omega)
  have HRW := hidep (fun W (hW : Below w.heap.size w W) => take01_any _ raw W (hr.below hW))
  obtain ⟨r9, hr9⟩ : ∃ r9, r9 = raw.take 9 := ⟨_, rfl⟩
  rw [← hr9] at HRW
  clear hl hr hway hwz hr9
  go_enter Try.func4, Try.ntmps4
  go_upto_region 3 with (first
    | (go_at_call 11; refine (HPL.out _).mono ?_; rintro e w1 ⟨u, L, rfl, hown, hmade, hb1⟩; have hpx : PlacesAt w1 u L := (Rd.of_own hown).mono (fun _ _ => trivial); obtain ⟨ua, uc, rfl, _, _⟩ := PlacesAt.form hpx; have HND := hidep (need30_any _ L bits w1 hpx (by have := hmade.1; omega) hbits))
    | (go_at_call 15; refine (HAR.out _).mono ?_; rintro e w2 ⟨rfl, rfl⟩)
    | fail)
  have hlen : L.length ≤ 9 := hmade.1
  have hokL : ∀ p ∈ L, PlOk p := fun p hp => (hmade.2.1 p hp).ok
  generalize wz - 1 = wy at *
  clear hw1
  go_upto_region 4 with (first
    | (go_at_call 16; refine HND.out.mono ?_; rintro e w3 ⟨nu, need, rfl, hnown, hneed, hb3⟩; have hb03 := hb1.trans (hb3.mono hb1.size); obtain ⟨na, nc, rfl, _, _⟩ := (Rd.of_own hnown).form)
    | (go_at_call 17; refine (HRW.out _ hb03).mono ?_; rintro e w4 ⟨tu, rfl, htk, hb4⟩; obtain ⟨ta, tc, rfl, _, _⟩ := htk.1.form)
    | fail)
  have hnr : ∀ x ∈ need, -9223372036854775808 ≤ x ∧ x ≤ 9223372036854775807 := fun x hx => by
    have := hneed.2.2 x hx
    omega
  have hb04 := hb03.trans (hb4.mono hb03.size)
  have hpx4 := (hpx.below hb3).below hb4
  have hnx4 : IntsAt w4 (.slice na need.length nc) need := IntsAt.below ⟨(Rd.of_own hnown).mono (fun _ _ => trivial), hnr⟩ hb4
  obtain ⟨W5, hW5⟩ : ∃ W5, W5 = w4.alloc (.cells #[.slice na need.length nc, .slice ta r9.length tc, .slice none 0 0] 22) := ⟨_, rfl⟩
  have hq5 : W5.heap[w4.heap.size]? = some (.cells #[.slice na need.length nc, .slice ta r9.length tc, .slice none 0 0] 22) := by rw [hW5]; exact heap_alloc_new _ _
  have hb45 : Below w4.heap.size w4 W5 := by rw [hW5]; exact (Below.refl _ _).alloc (Nat.le_refl _) _
  rw [← hW5]
  obtain ⟨LB, hLB⟩ : ∃ LB, LB = w4.heap.size := ⟨_, rfl⟩
  rw [← hLB] at hq5 ⊢
  have HLISTS := hidep (show ∀ i, i < 3 → ∃ (la : Option Addr) (lc : Nat) (li : List Int), ∀ X, Below W5.heap.size W5 X → X.cell? ⟨LB, i, none⟩ = some (.slice la li.length lc) ∧ IntsAt X (.slice la li.length lc) li from fun i hi => by
    have h3 : i = 0 ∨ i = 1 ∨ i = 2 := by omega
    have hcell : ∀ X, Below W5.heap.size W5 X → X.heap[LB]? = some (.cells #[.slice na need.length nc, .slice ta r9.length tc, .slice none 0 0] 22) := fun X hX => below_push hX hq5
    rcases h3 with rfl | rfl | rfl
    · exact ⟨na, nc, need, fun X hX => ⟨(box3_cells (hcell X hX)).1, (hnx4.below hb45).below hX⟩⟩
    · exact ⟨ta, tc, r9, fun X hX => ⟨(box3_cells (hcell X hX)).2.1, (htk.below hb45).below hX⟩⟩
    · exact ⟨none, 0, [], fun X hX => ⟨(box3_cells (hcell X hX)).2.2, (IntsOf.nil (fun _ => True) _).at⟩⟩)
  have HPX := hidep (show ∀ X, Below W5.heap.size W5 X → PlacesAt X (.slice ua L.length uc) L from fun X hX => (hpx4.below hb45).below hX)
  have HB5 := hidep (hb04.trans (hb45.mono hb04.size))
  have HOK := hidep hokL
  clear hW5 hq5 hb45 hLB hnx4 hpx4 hb04 hb03 hb3 hb4 hb1 hpx htk hnown hnr hneed HND HPL HRW hown hmade hokL hbits
  go_upto_region 5 with (fail)
  refine wp_loop (LoopI 66 (fun tm ds wr => (slot tm 9) = .slice ua L.length uc ∧ (slot tm 10) = .int .i64 wy ∧ (slot tm 11) = .slice (some ⟨LB, 0, none⟩) 3 3 ∧ ds = [] ∧ PlansI W5 (slot tm 12) wr)) (fun a' wr => 3 - (intOf (a'.tmps.getD 12 undef)).toNat) ?mainStart ?mainRound
  case' mainStart => refine LoopI.mk rfl ?_
  case' mainRound => (rintro ⟨t, ds⟩ wr ⟨hts, hrel⟩; dsimp only at hts hrel; rw [frame66 t ds hts])
  case mainStart => exact ⟨rfl, rfl, rfl, rfl, 0, by omega, rfl, Below.refl _ _⟩
  obtain ⟨h9, h10, h11, hds, i, hi, h12, hbw⟩ := hrel
  subst hds
  rw [h9, h10, h11, h12]
  clear h9 h10 h11 h12 hts
  by_cases hlt : i < 3
  · have hi0 : (0 : Int) ≤ (i : Int) := by omega
    have hi1 : (i : Int) < 3 := by omega
    obtain ⟨xa, xc, li, HX0⟩ := HLISTS.out i hlt
    have HX := hidep HX0
    obtain ⟨hc0, hli0⟩ := HX0 wr hbw
    obtain ⟨ez, hez⟩ : ∃ z, z = taskZ wy L.length li := ⟨_, rfl⟩
    obtain ⟨o, ho⟩ : ∃ z, z = if taskZ wy L.length li = 0 then orderZ wy (needL L li) li else [] := ⟨_, rfl⟩
    obtain ⟨st, hst⟩ : ∃ z, z = if taskZ wy L.length li = 0 then restV wy (needL L li) (2 ^ li.length - 1) pl0 else 0 := ⟨_, rfl⟩
    obtain ⟨tb, htb⟩ : ∃ z, z = if taskZ wy L.length li = 0 then tabL wy (needL L li) else [] := ⟨_, rfl⟩
    have HG := hidep (fun W (hW : Below W5.heap.size W5 W) => best_gen wy L li (.slice ua L.length uc) (.slice xa li.length xc) HOK.out W (HPX.out W hW) (HX.out W hW).2 o st ez tb hez ho hst htb)
    clear hez ho hst htb HX0 hli0
    go_upto_region 8 with (first
      | (go_at_call 18; refine (HG.out _ hbw).1.mono ?_; rintro e w6 ⟨h6, oa, oc, pa, pc, rfl, ho1, hl1⟩)
      | fail)
    obtain ⟨W7, hW7⟩ : ∃ W7, W7 = w6.alloc (.cells #[.slice oa o.length oc, .int .i64 st, .slice pa tb.length pc] 35) := ⟨_, rfl⟩
    have hq7 : W7.heap[w6.heap.size]? = some (.cells #[.slice oa o.length oc, .int .i64 st, .slice pa tb.length pc] 35) := by rw [hW7]; exact heap_alloc_new _ _
    have hb67 : Below w6.heap.size w6 W7 := by rw [hW7]; exact (Below.refl _ _).alloc (Nat.le_refl _) _
    rw [← hW7]
    obtain ⟨P7, hP7⟩ : ∃ P7, P7 = w6.heap.size := ⟨_, rfl⟩
    rw [← hP7] at hq7 ⊢
    have hbw7 := hbw.trans ((h6.trans (hb67.mono h6.size)).mono hbw.size)
    have HR7 := hidep (show ∀ X, Below W7.heap.size W7 X → X.heap[P7]? = some (.cells #[.slice oa o.length oc, .int .i64 st, .slice pa tb.length pc] 35) ∧ IntsAt X (.slice oa o.length oc) o ∧ TabAt X (.slice pa tb.length pc) tb from fun X hX => ⟨below_push hX hq7, (IntsOf.at (ho1.keeps (Keeps.below _ hb67))).below hX, (TabOf.at (hl1.keeps (Keeps.below _ hb67))).below hX⟩)
    obtain ⟨hc1, _⟩ := HX.out W7 hbw7
    clear hW7 hq7 hb67 hP7 h6 ho1 hl1 hc0
    go_upto_region 9 with (first
      | (go_at_call 19; refine (HG.out _ hbw7).2.mono ?_; rintro e w8 ⟨h8, oa2, oc2, pa2, pc2, rfl, ho2, hl2⟩)
      | fail)
    obtain ⟨W9, hW9⟩ : ∃ W9, W9 = w8.alloc (.cells #[.slice oa2 o.length oc2, .int .i64 st, .slice pa2 tb.length pc2] 39) := ⟨_, rfl⟩
    have hq9 : W9.heap[w8.heap.size]? = some (.cells #[.slice oa2 o.length oc2, .int .i64 st, .slice pa2 tb.length pc2] 39) := by rw [hW9]; exact heap_alloc_new _ _
    have hb89 : Below w8.heap.size w8 W9 := by rw [hW9]; exact (Below.refl _ _).alloc (Nat.le_refl _) _
    rw [← hW9]
    obtain ⟨P9, hP9⟩ : ∃ P9, P9 = w8.heap.size := ⟨_, rfl⟩
    rw [← hP9] at hq9 ⊢
    have h79 := h8.trans (hb89.mono h8.size)
    have HR9 := hidep (show ∀ X, Turned (fun _ => False) W9 X → X.heap[P9]? = some (.cells #[.slice oa2 o.length oc2, .int .i64 st, .slice pa2 tb.length pc2] 39) ∧ X.heap[P7]? = some (.cells #[.slice oa o.length oc, .int .i64 st, .slice pa tb.length pc] 35) from fun X hX => ⟨hX.cells hq9 id, (HR7.out X (h79.trans (hX.toBelow.mono h79.size))).1⟩)
    have HSA := hidep (fun X (hX : Turned (fun _ => False) W9 X) => samePlan_true _ _ _ _ o st tb X (HR7.out X (h79.trans (hX.toBelow.mono h79.size))).2.1 ((IntsOf.at (ho2.keeps (Keeps.below _ hb89))).below hX.toBelow) (HR7.out X (h79.trans (hX.toBelow.mono h79.size))).2.2 ((TabOf.at (hl2.keeps (Keeps.below _ hb89))).below hX.toBelow))
    have hbw9 := hbw7.trans (h79.mono hbw7.size)
    have HBW9 := hidep hbw9
    clear hW9 hq9 hb89 hP9 h8 ho2 hl2 hc1 h79 hbw9 hbw7 HG
    refine wp_region_noPanic (wp_region_held_drew (S := (fun X => Turned (fun _ => False) W9 X)) (by kernel_rfl) ?hS4r9n0 (fun hHeld => ?hR4r9n0))
    case hS4r9n0 => ((try dsimp only); (exact (Turned.refl _ _).drew))
    refine wpAnyH_take (i := 0) (v := ?v4r9n0q1) rfl (by kernel_rfl) (by kernel_rfl) (by kernel_rfl) (fun _ _ _ h => h) (Or.inl ⟨by kernel_rfl, ?hy4r9n0q1⟩) (by assumption) ?hr4r9n0q1
    case hy4r9n0q1 => (intro w hSw; (try dsimp only at hSw); (obtain ⟨x1, x2⟩ := HR9.out w hSw; obtain ⟨c1, c2, c3⟩ := box3_cells x1; obtain ⟨d1, d2, d3⟩ := box3_cells x2; clear x1 x2); first | (go_simp; done) | (go_simp; with_reducible rfl))
    refine wpAnyH_take (i := 1) (v := ?v4r9n0q2) rfl (by kernel_rfl) (by kernel_rfl) (by kernel_rfl) (fun _ _ _ h => h) (Or.inl ⟨by kernel_rfl, ?hy4r9n0q2⟩) (by assumption) ?hr4r9n0q2
    case hy4r9n0q2 => (intro w hSw; (try dsimp only at hSw); (obtain ⟨x1, x2⟩ := HR9.out w hSw; obtain ⟨c1, c2, c3⟩ := box3_cells x1; obtain ⟨d1, d2, d3⟩ := box3_cells x2; clear x1 x2); first | (go_simp; done) | (go_simp; with_reducible rfl))
    refine wpAnyH_take (i := 2) (v := ?v4r9n0q3) rfl (by kernel_rfl) (by kernel_rfl) (by kernel_rfl) (fun _ _ _ h => h) (Or.inl ⟨by kernel_rfl, ?hy4r9n0q3⟩) (by assumption) ?hr4r9n0q3
    case hy4r9n0q3 => (intro w hSw; (try dsimp only at hSw); (obtain ⟨x1, x2⟩ := HR9.out w hSw; obtain ⟨c1, c2, c3⟩ := box3_cells x1; obtain ⟨d1, d2, d3⟩ := box3_cells x2; clear x1 x2); first | (go_simp; done) | (go_simp; with_reducible rfl))
    refine wpAnyH_take (i := 3) (v := ?v4r9n0q4) rfl (by kernel_rfl) (by kernel_rfl) (by kernel_rfl) (fun _ _ _ h => h) (Or.inl ⟨by kernel_rfl, ?hy4r9n0q4⟩) (by assumption) ?hr4r9n0q4
    case hy4r9n0q4 => (intro w hSw; (try dsimp only at hSw); (obtain ⟨x1, x2⟩ := HR9.out w hSw; obtain ⟨c1, c2, c3⟩ := box3_cells x1; obtain ⟨d1, d2, d3⟩ := box3_cells x2; clear x1 x2); first | (go_simp; done) | (go_simp; with_reducible rfl))
    refine wpAnyH_take (i := 4) (v := ?v4r9n0q5) rfl (by kernel_rfl) (by kernel_rfl) (by kernel_rfl) (fun _ _ _ h => h) (Or.inl ⟨by kernel_rfl, ?hy4r9n0q5⟩) (by assumption) ?hr4r9n0q5
    case hy4r9n0q5 => (intro w hSw; (try dsimp only at hSw); (obtain ⟨x1, x2⟩ := HR9.out w hSw; obtain ⟨c1, c2, c3⟩ := box3_cells x1; obtain ⟨d1, d2, d3⟩ := box3_cells x2; clear x1 x2); first | (go_simp; done) | (go_simp; with_reducible rfl))
    refine wpAnyH_take (i := 6) (v := ?v4r9n0q6) rfl (by kernel_rfl) (by kernel_rfl) (by kernel_rfl) (fun _ _ _ h => h) (Or.inl ⟨by kernel_rfl, ?hy4r9n0q6⟩) (by assumption) ?hr4r9n0q6
    case hy4r9n0q6 => (intro w hSw; (try dsimp only at hSw); (obtain ⟨x1, x2⟩ := HR9.out w hSw; obtain ⟨c1, c2, c3⟩ := box3_cells x1; obtain ⟨d1, d2, d3⟩ := box3_cells x2; clear x1 x2); first | (go_simp; done) | (go_simp; with_reducible rfl))
    refine wpAnyH_ready (rs := [5]) (by kernel_rfl) (by simp) (AllReadyH.cons rfl (fun K hK => ?hc4r9n0q7) AllReadyH.nil)
    go_simp
    (go_at_call 21; refine (plain_any _ _ _ _ _ _ _ _).mono ?_; rintro e x60 ⟨rfl, hb60⟩; have hk := hHeld.below hb60; (try dsimp only))
    refine hK.out _ _ ?hs4r9n0q7 (fun hHeld4r9n0q7 => ?ht4r9n0q7)
    case hs4r9n0q7 => ((try dsimp only); (first | exact hk))
    clear hHeld hK
    have hHeld := hHeld4r9n0q7
    clear hHeld4r9n0q7
    refine wpAnyH_ready (rs := [7]) (by kernel_rfl) (by simp) (AllReadyH.cons rfl (fun K hK => ?hc4r9n0q8) AllReadyH.nil)
    go_simp
    (go_at_call 20; refine (HSA.out _ hHeld).mono ?_; rintro e x62 ⟨rfl, hb62⟩; have hk := hHeld.below hb62; (try dsimp only))
    refine hK.out _ _ ?hs4r9n0q8 (fun hHeld4r9n0q8 => ?ht4r9n0q8)
    case hs4r9n0q8 => ((try dsimp only); (first | exact hk))
    clear hHeld hK
    have hHeld := hHeld4r9n0q8
    clear hHeld4r9n0q8
    refine wpAnyH_take (i := 8) (v := ?v4r9n0q9) rfl (by kernel_rfl) (by kernel_rfl) (by kernel_rfl) (fun _ _ _ h => h) (Or.inl ⟨by kernel_rfl, ?hy4r9n0q9⟩) (by assumption) ?hr4r9n0q9
    case hy4r9n0q9 => (intro w hSw; (try dsimp only at hSw); (obtain ⟨x1, x2⟩ := HR9.out w hSw; obtain ⟨c1, c2, c3⟩ := box3_cells x1; obtain ⟨d1, d2, d3⟩ := box3_cells x2; clear x1 x2); first | (go_simp; done) | (go_simp; with_reducible rfl))
    refine wpAnyH_take (i := 9) (v := ?v4r9n0q10) rfl (by kernel_rfl) (by kernel_rfl) (by kernel_rfl) (fun _ _ _ h => h) (Or.inl ⟨by kernel_rfl, ?hy4r9n0q10⟩) (by assumption) ?hr4r9n0q10
    case hy4r9n0q10 => (intro w hSw; (try dsimp only at hSw); (obtain ⟨x1, x2⟩ := HR9.out w hSw; obtain ⟨c1, c2, c3⟩ := box3_cells x1; obtain ⟨d1, d2, d3⟩ := box3_cells x2; clear x1 x2); first | (go_simp; done) | (go_simp; with_reducible rfl))
    refine wpAnyH_done (by kernel_rfl) ?_ _
    clear hHeld
    refine NoPanic.normal ?_
    have hkk : Turned (fun _ => False) W9 x62 := hk
    apply_assumption
    refine wp_cutA 66 (fun tm ds => ds = [] ∧ slot tm 9 = .slice ua L.length uc ∧ slot tm 10 = .int .i64 wy ∧ slot tm 11 = .slice (some ⟨LB, 0, none⟩) 3 3 ∧ slot tm 12 = .int .i64 (i : Nat) ∧ slot tm 64 = .bool false) (by kernel_rfl) (by exact ⟨by kernel_rfl, by kernel_rfl, by kernel_rfl, by kernel_rfl, by kernel_rfl, by kernel_rfl⟩) ?_
    rintro tm2 ds2 h66 ⟨rfl, e9, e10, e11, e12, e64⟩
    rw [frame66 tm2 [] h66, e9, e10, e11, e12, e64]
    have hend := HBW9.out.trans (hkk.toBelow.mono HBW9.out.size)
    clear h66 e9 e10 e11 e12 e64 hkk hk HSA HR9 HR7
    go_wp2
    refine ⟨LoopI.mk rfl ⟨rfl, rfl, rfl, rfl, i + 1, by omega, by show Value.int _ _ = _; go_num, hend⟩, ?_⟩
    show 3 - _ < 3 - _
    simp [intOf]; omega
  · have hi3 : ¬ (i : Int) < 3 := by omega
    have hbx := HB5.out.trans (hbw.mono HB5.out.size)
    go_wp2_with (first
      | (go_at_call 14; refine (lives_any _).mono ?_; rintro e w17 ⟨rfl, h17⟩)
      | fail)
    go_ret
    exact ⟨rfl, hbx.trans (h17.mono hbx.size)⟩
end Go.Proofs.Ytfljgcpfmhhgcaa
