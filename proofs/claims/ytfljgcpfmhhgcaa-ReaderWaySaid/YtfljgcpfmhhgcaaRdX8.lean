/- The walk of the law ReaderWay. -/
import Derived.Test.YtfljgcpfmhhgcaaRdX7
import Derived.Test.YtfljgcpfmhhgcaaRdPw
import Derived.Test.YtfljgcpfmhhgcaaRdSt
import Derived.Test.YtfljgcpfmhhgcaaRdJ
namespace Go.Proofs.Ytfljgcpfmhhgcaa
open Go.RowKit Go.Lab
attribute [local go_sem] Oper.semAt_some
set_option maxRecDepth 100000
theorem range_map109 (f : Nat → Value) : (List.range 109).map f = [f 0, f 1, f 2, f 3, f 4, f 5, f 6, f 7, f 8, f 9, f 10, f 11, f 12, f 13, f 14, f 15, f 16, f 17, f 18, f 19, f 20, f 21, f 22, f 23, f 24, f 25, f 26, f 27, f 28, f 29, f 30, f 31, f 32, f 33, f 34, f 35, f 36, f 37, f 38, f 39, f 40, f 41, f 42, f 43, f 44, f 45, f 46, f 47, f 48, f 49, f 50, f 51, f 52, f 53, f 54, f 55, f 56, f 57, f 58, f 59, f 60, f 61, f 62, f 63, f 64, f 65, f 66, f 67, f 68, f 69, f 70, f 71, f 72, f 73, f 74, f 75, f 76, f 77, f 78, f 79, f 80, f 81, f 82, f 83, f 84, f 85, f 86, f 87, f 88, f 89, f 90, f 91, f 92, f 93, f 94, f 95, f 96, f 97, f 98, f 99, f 100, f 101, f 102, f 103, f 104, f 105, f 106, f 107, f 108] := rfl
theorem frame109 (t : Array Value) (ds : List Deferred) (h : t.size = 109) : ({ tmps := t, defers := ds } : Act) = { tmps := #[slot t 0, slot t 1, slot t 2, slot t 3, slot t 4, slot t 5, slot t 6, slot t 7, slot t 8, slot t 9, slot t 10, slot t 11, slot t 12, slot t 13, slot t 14, slot t 15, slot t 16, slot t 17, slot t 18, slot t 19, slot t 20, slot t 21, slot t 22, slot t 23, slot t 24, slot t 25, slot t 26, slot t 27, slot t 28, slot t 29, slot t 30, slot t 31, slot t 32, slot t 33, slot t 34, slot t 35, slot t 36, slot t 37, slot t 38, slot t 39, slot t 40, slot t 41, slot t 42, slot t 43, slot t 44, slot t 45, slot t 46, slot t 47, slot t 48, slot t 49, slot t 50, slot t 51, slot t 52, slot t 53, slot t 54, slot t 55, slot t 56, slot t 57, slot t 58, slot t 59, slot t 60, slot t 61, slot t 62, slot t 63, slot t 64, slot t 65, slot t 66, slot t 67, slot t 68, slot t 69, slot t 70, slot t 71, slot t 72, slot t 73, slot t 74, slot t 75, slot t 76, slot t 77, slot t 78, slot t 79, slot t 80, slot t 81, slot t 82, slot t 83, slot t 84, slot t 85, slot t 86, slot t 87, slot t 88, slot t 89, slot t 90, slot t 91, slot t 92, slot t 93, slot t 94, slot t 95, slot t 96, slot t 97, slot t 98, slot t 99, slot t 100, slot t 101, slot t 102, slot t 103, slot t 104, slot t 105, slot t 106, slot t 107, slot t 108], defers := ds } := by
  have e : t = ((List.range 109).map (slot t)).toArray := by
    apply Array.ext
    · simp [h]
    · intro i h1 h2
      simp [slot, Array.getD, h1]
  rw [range_map109] at e
  exact congrArg (fun x => ({ tmps := x, defers := ds } : Act)) e
/-- A place with another line. -/
def atLine (p : Pl) (n : Int) : Pl := ⟨p.item, p.fact, p.start, p.len, p.page, n⟩
theorem places_set : ∀ (d : List Pl) (p : Pl) (r : List Pl) (n : Int), (placesC (d ++ p :: r)).set (d.length * 6 + 5) (.int .i64 n) = placesC (d ++ atLine p n :: r)
  | [], p, r, n => by simp [placesC, plC, atLine]
  | a :: d, p, r, n => by
    have h := places_set d p r n
    have e : (a :: d).length * 6 + 5 = d.length * 6 + 5 + 1 + 1 + 1 + 1 + 1 + 1 := by simp only [List.length_cons]; omega
    rw [e]
    simp only [List.cons_append, placesC, List.flatMap_cons, plC, List.nil_append, List.set_cons_succ] at h ⊢
    rw [h]
/-- What the loop over the lines knows. -/
def LineI (n i : Nat) (acc : Int) (d r : List Pl) : Prop := d.length = i ∧ r.length + i = n ∧ (∀ p ∈ r, PlIn p) ∧ (∀ p ∈ d, PlOk p ∧ p.line ≤ acc) ∧ d.Pairwise (fun a b => a.line ≤ b.line) ∧ 0 ≤ acc ∧ acc ≤ 100 * i
theorem LineI.step {n i : Nat} {acc : Int} {d r : List Pl} {p : Pl} (h : LineI n i acc d (p :: r)) (hi : i ≤ 9) : LineI n (i + 1) (acc + p.line) (d ++ [atLine p (acc + p.line)]) r := by
  obtain ⟨h1, h2, h3, h4, h5, h6, h7⟩ := h
  have hp := h3 p (List.mem_cons_self ..)
  have hp2 := hp.ok
  obtain ⟨_, _, g1, g2, _⟩ := hp
  refine ⟨by simp [h1], by simp only [List.length_cons] at h2; omega, fun q hq => h3 q (List.mem_cons_of_mem _ hq), fun q hq => ?_, List.pairwise_append.2 ⟨h5, List.pairwise_singleton _ _, fun a ha b hb => ?_⟩, by omega, by omega⟩
  · rcases List.mem_append.1 hq with hq | hq
    · have := h4 q hq
      exact ⟨this.1, by omega⟩
    · simp only [List.mem_singleton] at hq
      subst hq
      obtain ⟨k1, k2, k3, k4, k5, k6⟩ := hp2
      refine ⟨⟨k1, k2, ?_, ?_, k5, k6⟩, ?_⟩ <;> simp only [atLine] <;> omega
  · simp only [List.mem_singleton] at hb
    subst hb
    have := h4 a ha
    simp only [atLine]
    omega
/-- What holds behind the loop over the lines. -/
def WayM (w : World) (bits wy : Int) (ua : Option Addr) (uc n : Nat) (a : Act) (W : World) : Prop :=
  a.tmps.size = 109 ∧ a.defers = [] ∧ slot a.tmps 2 = .int .i64 bits ∧ slot a.tmps 7 = .slice ua n uc ∧ slot a.tmps 8 = .int .i64 wy ∧
  ∃ X : List Pl, X.length = n ∧ (∀ p ∈ X, PlOk p) ∧ (X.map (OnTheWay.key wy)).Pairwise OnTheWay.kle ∧ (2 ≤ wy → X.Pairwise fun a b => a.line ≤ b.line) ∧ W.ownsRow w.heap.size 26 6 (.slice ua n uc) n (placesC X) ∧ Below w.heap.size w W
/-- What holds behind the table of divisors. -/
def WayN (w7 : World) (x7 x11 : Value) (P1 : Nat) (wy line by_ : Int) (a : Act) (W : World) : Prop :=
  a.tmps.size = 109 ∧ a.defers = [] ∧ slot a.tmps 7 = x7 ∧ slot a.tmps 8 = .int .i64 wy ∧ slot a.tmps 11 = x11 ∧ slot a.tmps 12 = .pointer (some ⟨P1, 0, none⟩) ∧ slot a.tmps 14 = .int .i64 line ∧ slot a.tmps 15 = .int .i64 by_ ∧ Below w7.heap.size w7 W
theorem upSum_snoc (way : Int) (L : List Pl) (p : Pl) : OnTheWay.upSum way (L ++ [p]) = OnTheWay.upSum way L + upZ p.len (OnTheWay.byZ way) := by
  simp [OnTheWay.upSum]
theorem byZ_of {wy : Int} (h : wy = 2 ∨ wy = 3) : (OnTheWay.byZ wy = 10 ∨ OnTheWay.byZ wy = 4 ∨ OnTheWay.byZ wy = 200) := by
  rcases h with rfl | rfl
  · exact .inr (.inr rfl)
  · exact .inr (.inl rfl)
set_option maxRecDepth 100000 in
set_option maxHeartbeats 20000000 in
theorem lawWay_any (v : Value) (l : List Int) (way bits : Int) (w : World) (hl : IntsAt w v l) (hway : -9223372036854775808 ≤ way ∧ way ≤ 9223372036854775807) (hbits : -9223372036854775808 ≤ bits ∧ bits ≤ 9223372036854775807) :
    Calls Try.prog 8 #[v, .int .i64 way, .int .i64 bits] w fun e w' => e = .returned (.bool true) ∧ Below w.heap.size w w' := by
  obtain ⟨a, c, rfl, hca, hma⟩ := hl.1.form
  have HPL := hidep (places30_any _ l true w hl)
  have hwr := aroundZ_rng way 4 (by omega)
  have HAR := hidep (fun W => around_any way 4 W hway.1 hway.2)
  obtain ⟨wy, hwy⟩ : ∃ wy, wy = aroundZ way 4 := ⟨_, rfl⟩
  rw [← hwy] at HAR hwr
  clear hl hway hwy
  go_enter Try.func8, Try.ntmps8
  go_upto_if 22 with (first
    | (go_at_call 11; refine HPL.out.mono ?_; rintro e w1 ⟨u, L, rfl, hown, hmade, hb1⟩; obtain ⟨ua, uc, rfl, _, _⟩ := (Rd.of_own hown).form)
    | (go_at_call 15; refine (HAR.out _).mono ?_; rintro e w2 ⟨rfl, rfl⟩)
    | fail)
  have hlen : L.length ≤ 9 := hmade.1
  have HMADE := hidep hmade
  have HOWN := hidep hown
  have HB1 := hidep hb1
  clear hmade hown hb1 HPL HAR
  refine wp_join (WayM w bits wy ua uc L.length) ?first ?_
  case first =>
    intro K' hMK
    by_cases hw2 : 2 ≤ wy
    · go_upto_region 6 with (fail)
      refine wp_loop (LoopI 109 (fun tm ds wr => (slot tm 2) = .int .i64 bits ∧ (slot tm 7) = .slice ua L.length uc ∧ (slot tm 8) = .int .i64 wy ∧ ds = [] ∧ ∃ (i : Nat) (acc : Int) (d r : List Pl), i ≤ L.length ∧ (slot tm 10) = .int .i64 (i : Nat) ∧ (slot tm 9) = .int .i64 acc ∧ Hid (LineI L.length i acc d r) ∧ wr.ownsRow w.heap.size 26 6 (.slice ua L.length uc) L.length (placesC (d ++ r)) ∧ Below w.heap.size w wr)) (fun a' wr => L.length - (intOf (a'.tmps.getD 10 undef)).toNat) ?mainStart ?mainRound
      case' mainStart => refine LoopI.mk rfl ?_
      case' mainRound => (rintro ⟨t, ds⟩ wr ⟨hts, hrel⟩; dsimp only at hts hrel; rw [frame109 t ds hts])
      case mainStart => exact ⟨rfl, rfl, rfl, rfl, 0, 0, [], L, Nat.zero_le _, rfl, rfl, hidep ⟨rfl, rfl, HMADE.out.2.1, fun _ h => (by cases h), List.Pairwise.nil, by omega, by omega⟩, HOWN.out, HB1.out⟩
      obtain ⟨h2, h7, h8, hds, i, acc, d, r, hi, h10, h9, HI, hown, hbw⟩ := hrel
      subst hds
      rw [h2, h7, h8, h10, h9]
      clear h2 h7 h8 h10 h9 hts
      have hbs := hbw.size
      by_cases hlt : i < L.length
      · obtain ⟨p, r', rfl⟩ : ∃ p r', r = p :: r' := by
          have := HI.out.2.1
          cases r with
          | nil => simp at this; omega
          | cons p r' => exact ⟨p, r', rfl⟩
        have hdl : d.length = i := HI.out.1
        obtain ⟨g, gc, hv, hg1, hg2⟩ := own_block hown (fun e => by injection e; omega)
        injection hv with hv1 _ hv2
        subst hv1 hv2
        have hcell : wr.cell? ⟨g, i * 6 + 5, none⟩ = some (.int .i64 p.line) := by
          obtain ⟨b, off, he, _, hc⟩ := Rd.at (Rd.of_own hown) (by omega)
          injection he with he
          injection he with he1 he2
          subst he1 he2
          have h := (placesC_get (d ++ p :: r') i (by simp [hdl])).2.2.2.2.2
          have hx : (d ++ p :: r')[i]'(by simp [hdl]) = p := by simp [← hdl]
          rw [hx] at h
          have := hc _ _ h
          rwa [Nat.zero_add] at this
        obtain ⟨cur, hcur⟩ := ownsRow_cells hown rfl
        have hfz : wr.frozen? ⟨g, i * 6 + 5, none⟩ = false := by simp [World.frozen?, hcur]
        have hbd := HI.out.2.2.1 p (List.mem_cons_self ..)
        have hb2 := HI.out.2.2.2.2.2
        obtain ⟨_, _, hq1, hq2, _⟩ := hbd
        obtain ⟨hq3, hq4⟩ := hb2
        have HSTEP := hidep (HI.out.step (by omega))
        have HOWN2 := hidep (World.ownsRow.stored hown (i * 6 + 5) (.int .i64 (acc + p.line))).1
        rw [show (placesC (d ++ p :: r')).set (i * 6 + 5) (.int .i64 (acc + p.line)) = placesC (d ++ [atLine p (acc + p.line)] ++ r') from by rw [List.append_assoc, List.singleton_append, ← hdl]; exact places_set d p r' _] at HOWN2
        have HB2 := hidep (hbw.setCell (p := ⟨g, i * 6 + 5, none⟩) hg1 (.int .i64 (acc + p.line)))
        generalize p.line = z at *
        have hwz : IntKind.i64.wrap (acc + z) = acc + z := IntWalk.i64_in _ (by omega)
        have hi0 : (0 : Int) ≤ (i : Int) := by omega
        have hi1 : (i : Int) < (L.length : Int) := by omega
        clear hown hbw hcur hdl HI
        go_wp2
        refine ⟨LoopI.mk rfl ⟨rfl, rfl, rfl, rfl, i + 1, by omega, by show Value.int _ _ = _; go_num, acc + z, rfl, _, _, HSTEP.out, HOWN2.out, HB2.out⟩, ?_⟩
        show L.length - _ < L.length - _
        simp [intOf]; omega
      · have hil : i = L.length := by omega
        subst hil
        obtain ⟨g1, g2, g3, g4, g5, g6, g7⟩ := HI.out
        obtain rfl : r = [] := List.eq_nil_of_length_eq_zero (by omega)
        rw [List.append_nil] at hown
        have HX := hidep (show ∃ X : List Pl, X.length = L.length ∧ (∀ p ∈ X, PlOk p) ∧ (X.map (OnTheWay.key wy)).Pairwise OnTheWay.kle ∧ (2 ≤ wy → X.Pairwise fun a b => a.line ≤ b.line) ∧ wr.ownsRow w.heap.size 26 6 (.slice ua L.length uc) L.length (placesC X) ∧ Below w.heap.size w wr from ⟨d, g1, fun p hp => (g4 p hp).1, OnTheWay.line_sorted (by omega) g5, fun _ => g5, hown, hbw⟩)
        clear g1 g2 g3 g4 g5 g6 g7 hown hbw hi hlt
        go_wp2
        exact ⟨rfl, rfl, rfl, rfl, rfl, HX.out⟩
    · have HX := hidep (show ∃ X : List Pl, X.length = L.length ∧ (∀ p ∈ X, PlOk p) ∧ (X.map (OnTheWay.key wy)).Pairwise OnTheWay.kle ∧ (2 ≤ wy → X.Pairwise fun a b => a.line ≤ b.line) ∧ w1.ownsRow w.heap.size 26 6 (.slice ua L.length uc) L.length (placesC X) ∧ Below w.heap.size w w1 from
        ⟨L, rfl, fun p hp => (HMADE.out.2.1 p hp).ok, OnTheWay.ahead_sorted (by omega) (HMADE.out.2.2 rfl), fun h => absurd h hw2, HOWN.out, HB1.out⟩)
      go_wp2
      exact ⟨rfl, rfl, rfl, rfl, rfl, HX.out⟩
  rintro ⟨tm1, ds1⟩ W1 ⟨h109, hds, e2, e7, e8, X, hXl, hXok, hXs, hXl2, hown, hb1⟩
  simp only at h109 hds e2 e7 e8
  subst hds
  apply_assumption
  rw [frame109 tm1 [] h109, e2, e7, e8]
  clear h109 e2 e7 e8
  have hpx : PlacesAt W1 (.slice ua X.length uc) X := by
    have h := (Rd.of_own hown).mono (T' := fun _ => True) (fun _ _ => trivial)
    unfold PlacesAt
    rw [hXl]
    exact h
  rw [← hXl]
  have hlen9 : X.length ≤ 9 := by omega
  have HND := hidep (need30_any _ X bits W1 hpx (by omega) hbits)
  clear hXl hown HMADE HOWN HB1 hlen hbits
  go_upto_region 11 with (first
    | (go_at_call 16; refine HND.out.mono ?_; rintro e w3 ⟨nu, need, rfl, hnown, hneed, hb3⟩)
    | fail)
  have hn6 := hneed.1
  have hnr : ∀ x ∈ need, -9223372036854775808 ≤ x ∧ x ≤ 9223372036854775807 := fun x hx => by
    have := hneed.2.2 x hx
    omega
  have hnx3 : IntsAt w3 nu need := ⟨(Rd.of_own hnown).mono (fun _ _ => trivial), hnr⟩
  obtain ⟨na, nc, rfl, hnc, hnm⟩ := hnx3.1.form
  have HB3 := hidep (hb1.trans (hb3.mono hb1.size))
  have HPX := hidep (show PlacesAt w3 (.slice ua X.length uc) X from hpx.below hb3)
  have HNX := hidep hnx3
  have HOK := hidep hXok
  have htz := task_zero (way := wy) hneed (by omega) (by omega)
  have HTZ := hidep htz
  have hnd := task_need rfl htz
  have HKS := hidep (OnTheWay.keys_sorted (way := wy) hXs hneed.2.1 hneed.2.2)
  have HMEM := hidep hnd.1.2
  obtain ⟨o, ho⟩ : ∃ o, o = orderZ wy (needL X need) need := ⟨_, rfl⟩
  obtain ⟨st, hst⟩ : ∃ st, st = restV wy (needL X need) (2 ^ need.length - 1) pl0 := ⟨_, rfl⟩
  obtain ⟨tb, htb⟩ : ∃ tb, tb = tabL wy (needL X need) := ⟨_, rfl⟩
  have HST : Hid (st = stepsZ wy X need) := hidep (by rw [hst]; exact OnTheWay.way_best (by omega) (by omega) HOK.out (by omega) HKS.out)
  have HB1 := hidep (best_ok wy X need _ _ HOK.out w3 HPX.out HNX.out HTZ.out o st tb ho hst htb)
  have HSTP := hidep (fun W (hW : Below w3.heap.size w3 W) => steps30_any wy X need _ _ HOK.out HMEM.out (by omega) W (HPX.out.below hW) (HNX.out.below hW))
  rw [← HST.out] at HSTP
  have HX2 := hidep hXl2
  clear ho hst htb hpx hnx3 hXok hb3 hb1 hnown hXs hXl2 HND hneed hnr htz hnd
  go_upto_region 12 with (first
    | (go_at_call 18; refine HB1.out.mono ?_; rintro e w5 ⟨h5, oa, oc, la, lc, rfl, ho1, hl1⟩)
    | fail)
  obtain ⟨W6, hW6⟩ : ∃ W6, W6 = w5.alloc (.cells #[.slice oa o.length oc, .int .i64 st, .slice la tb.length lc] 35) := ⟨_, rfl⟩
  have hp6 : W6.heap[w5.heap.size]? = some (.cells #[.slice oa o.length oc, .int .i64 st, .slice la tb.length lc] 35) := by rw [hW6]; exact heap_alloc_new _ _
  have hb56 : Below w5.heap.size w5 W6 := by rw [hW6]; exact (Below.refl _ _).alloc (Nat.le_refl _) _
  have h6 : Below w3.heap.size w3 W6 := h5.trans (hb56.mono h5.size)
  rw [← hW6]
  obtain ⟨P1, hP1⟩ : ∃ P1, P1 = w5.heap.size := ⟨_, rfl⟩
  rw [← hP1] at hp6 ⊢
  have H6 := hidep h6
  have HP6 := hidep (show ∀ X, Turned (fun _ => False) W6 X → X.heap[P1]? = some (.cells #[.slice oa o.length oc, .int .i64 st, .slice la tb.length lc] 35) from fun X hX => hX.cells hp6 id)
  have HS6 := hidep (fun Y (hY : Turned (fun _ => False) W6 Y) => HSTP.out Y (H6.out.trans (hY.toBelow.mono H6.out.size)))
  clear hW6 hb56 h6 h5 ho1 hl1 HB1 hP1 hp6
  refine wp_region_noPanic (wp_region_held_drew (S := (fun X => Turned (fun _ => False) W6 X)) (by kernel_rfl) ?hS8r12n0 (fun hHeld => ?hR8r12n0))
  case hS8r12n0 => ((try dsimp only); (exact (Turned.refl _ _).drew))
  refine wpAnyH_take (i := 0) (v := ?v8r12n0q1) rfl (by kernel_rfl) (by kernel_rfl) (by kernel_rfl) (fun _ _ _ h => h) (Or.inl ⟨by kernel_rfl, ?hy8r12n0q1⟩) (by assumption) ?hr8r12n0q1
  case hy8r12n0q1 => (intro w hSw; (try dsimp only at hSw); (obtain ⟨c1, c2, c3⟩ := box3_cells (HP6.out w hSw)); first | (go_simp; done) | (go_simp; with_reducible rfl))
  refine wpAnyH_take (i := 1) (v := ?v8r12n0q2) rfl (by kernel_rfl) (by kernel_rfl) (by kernel_rfl) (fun _ _ _ h => h) (Or.inl ⟨by kernel_rfl, ?hy8r12n0q2⟩) (by assumption) ?hr8r12n0q2
  case hy8r12n0q2 => (intro w hSw; (try dsimp only at hSw); (obtain ⟨c1, c2, c3⟩ := box3_cells (HP6.out w hSw)); first | (go_simp; done) | (go_simp; with_reducible rfl))
  refine wpAnyH_take (i := 2) (v := ?v8r12n0q3) rfl (by kernel_rfl) (by kernel_rfl) (by kernel_rfl) (fun _ _ _ h => h) (Or.inl ⟨by kernel_rfl, ?hy8r12n0q3⟩) (by assumption) ?hr8r12n0q3
  case hy8r12n0q3 => (intro w hSw; (try dsimp only at hSw); (obtain ⟨c1, c2, c3⟩ := box3_cells (HP6.out w hSw)); first | (go_simp; done) | (go_simp; with_reducible rfl))
  refine wpAnyH_take (i := 3) (v := ?v8r12n0q4) rfl (by kernel_rfl) (by kernel_rfl) (by kernel_rfl) (fun _ _ _ h => h) (Or.inl ⟨by kernel_rfl, ?hy8r12n0q4⟩) (by assumption) ?hr8r12n0q4
  case hy8r12n0q4 => (intro w hSw; (try dsimp only at hSw); (obtain ⟨c1, c2, c3⟩ := box3_cells (HP6.out w hSw)); first | (go_simp; done) | (go_simp; with_reducible rfl))
  refine wpAnyH_take (i := 4) (v := ?v8r12n0q5) rfl (by kernel_rfl) (by kernel_rfl) (by kernel_rfl) (fun _ _ _ h => h) (Or.inl ⟨by kernel_rfl, ?hy8r12n0q5⟩) (by assumption) ?hr8r12n0q5
  case hy8r12n0q5 => (intro w hSw; (try dsimp only at hSw); (obtain ⟨c1, c2, c3⟩ := box3_cells (HP6.out w hSw)); first | (go_simp; done) | (go_simp; with_reducible rfl))
  refine wpAnyH_take (i := 5) (v := ?v8r12n0q6) rfl (by kernel_rfl) (by kernel_rfl) (by kernel_rfl) (fun _ _ _ h => h) (Or.inl ⟨by kernel_rfl, ?hy8r12n0q6⟩) (by assumption) ?hr8r12n0q6
  case hy8r12n0q6 => (intro w hSw; (try dsimp only at hSw); (obtain ⟨c1, c2, c3⟩ := box3_cells (HP6.out w hSw)); first | (go_simp; done) | (go_simp; with_reducible rfl))
  refine wpAnyH_take (i := 6) (v := ?v8r12n0q7) rfl (by kernel_rfl) (by kernel_rfl) (by kernel_rfl) (fun _ _ _ h => h) (Or.inl ⟨by kernel_rfl, ?hy8r12n0q7⟩) (by assumption) ?hr8r12n0q7
  case hy8r12n0q7 => (intro w hSw; (try dsimp only at hSw); (obtain ⟨c1, c2, c3⟩ := box3_cells (HP6.out w hSw)); first | (go_simp; done) | (go_simp; with_reducible rfl))
  refine wpAnyH_take (i := 7) (v := ?v8r12n0q8) rfl (by kernel_rfl) (by kernel_rfl) (by kernel_rfl) (fun _ _ _ h => h) (Or.inl ⟨by kernel_rfl, ?hy8r12n0q8⟩) (by assumption) ?hr8r12n0q8
  case hy8r12n0q8 => (intro w hSw; (try dsimp only at hSw); (obtain ⟨c1, c2, c3⟩ := box3_cells (HP6.out w hSw)); first | (go_simp; done) | (go_simp; with_reducible rfl))
  refine wpAnyH_ready (rs := [8]) (by kernel_rfl) (by simp) (AllReadyH.cons rfl (fun K hK => ?hc8r12n0q9) AllReadyH.nil)
  go_simp
  (go_at_call 26; refine (HS6.out _ hHeld).mono ?_; rintro e w7 ⟨rfl, hb7⟩; have hk := hHeld.below hb7; (try dsimp only))
  refine hK.out _ _ ?hs8r12n0q9 (fun hHeld8r12n0q9 => ?ht8r12n0q9)
  case hs8r12n0q9 => ((try dsimp only); (first | exact hk))
  clear hHeld hK
  have hHeld := hHeld8r12n0q9
  clear hHeld8r12n0q9
  refine wpAnyH_take (i := 9) (v := ?v8r12n0q10) rfl (by kernel_rfl) (by kernel_rfl) (by kernel_rfl) (fun _ _ _ h => h) (Or.inl ⟨by kernel_rfl, ?hy8r12n0q10⟩) (by assumption) ?hr8r12n0q10
  case hy8r12n0q10 => (intro w hSw; (try dsimp only at hSw); (obtain ⟨c1, c2, c3⟩ := box3_cells (HP6.out w hSw)); first | (go_simp; done) | (go_simp; with_reducible rfl))
  refine wpAnyH_take (i := 10) (v := ?v8r12n0q11) rfl (by kernel_rfl) (by kernel_rfl) (by kernel_rfl) (fun _ _ _ h => h) (Or.inl ⟨by kernel_rfl, ?hy8r12n0q11⟩) (by assumption) ?hr8r12n0q11
  case hy8r12n0q11 => (intro w hSw; (try dsimp only at hSw); (obtain ⟨c1, c2, c3⟩ := box3_cells (HP6.out w hSw)); first | (go_simp; done) | (go_simp; with_reducible rfl))
  refine wpAnyH_done (by kernel_rfl) ?_ _
  clear hHeld
  refine NoPanic.normal ?_
  have hk7 : Turned (fun _ => False) W6 w7 := hk
  apply_assumption
  refine wp_cutA 109 (fun tm ds => ds = [] ∧ slot tm 7 = .slice ua X.length uc ∧ slot tm 8 = .int .i64 wy ∧ slot tm 11 = .slice na need.length nc ∧ slot tm 12 = .pointer (some ⟨P1, 0, none⟩) ∧ slot tm 61 = .bool false) (by kernel_rfl) (by exact ⟨by kernel_rfl, by kernel_rfl, by kernel_rfl, by kernel_rfl, by kernel_rfl, by kernel_rfl⟩) ?_
  rintro tm2 ds2 h109 ⟨rfl, e7, e8, e11, e12, e61⟩
  rw [frame109 tm2 [] h109, e7, e8, e11, e12, e61]
  clear h109 e7 e8 e11 e12 e61 hk HS6 HSTP
  have hb37 := H6.out.trans (hk7.toBelow.mono H6.out.size)
  have hb07 := HB3.out.trans (hb37.mono HB3.out.size)
  by_cases hw2 : wy < 2
  · go_wp2_with (first
      | (go_at_call 14; refine (lives_any _).mono ?_; rintro e w17 ⟨rfl, h17⟩)
      | fail)
    go_ret
    exact ⟨rfl, hb07.trans (h17.mono hb07.size)⟩
  · by_cases hz : need.length = 0
    · have hzi : ((need.length : Int) == 0) = true := by simp [hz]
      go_wp2_with (first
        | (go_at_call 14; refine (lives_any _).mono ?_; rintro e w17 ⟨rfl, h17⟩)
        | fail)
      go_ret
      exact ⟨rfl, hb07.trans (h17.mono hb07.size)⟩
    · have hzi : ((need.length : Int) == 0) = false := beq_false_of_ne (by omega)
      go_upto_region 16 with (fail)
      have hneed : NeedOk X need := ⟨by omega, HMEM.out⟩
      have HNP := hidep (fun j (hj : j < need.length) => need_place HPX.out HNX.out hneed hj)
      obtain ⟨nb, no, pb, po, pi, rfl, rfl, hpi, hcells⟩ := HNP.out (need.length - 1) (by omega)
      obtain ⟨z0, z1, z2, z3, z4, z5, z6⟩ := hcells _ hb37
      have HLINE := hidep (show ∀ h : needL X need ≠ [], (lp (needL X need) (need.length - 1)).line = ((needL X need).getLast h).line from fun h => by
        rw [List.getLast_eq_getElem, lp_get (by rw [needL_len]; omega)]
        simp only [needL_len])
      have hlo := lp_ok (needL_ok HOK.out (need := need)) (need.length - 1)
      have HEND := hidep (OnTheWay.steps_line (way := wy) (pl := X) (need := need) (by omega) (by omega) HOK.out (by intro e; have := needL_len X need; rw [e] at this; exact hz this.symm)
        ((List.pairwise_map.1 HKS.out).imp (fun {p q} h => by
          unfold OnTheWay.key OnTheWay.kle at h
          rw [if_neg hw2, if_neg hw2] at h
          rcases h with h | h
          · exact absurd h (Int.lt_irrefl _)
          · exact h.2)))
      rw [← HST.out, ← HLINE.out] at HEND
      generalize lp (needL X need) (need.length - 1) = tl at *
      obtain ⟨t0, t1, t2, t3, t4, t5⟩ := tl
      simp only at z1 z2 z3 z4 z5 z6 hlo
      have hn1 : IntKind.i64.wrap ((need.length : Int) - 1) = (need.length : Int) - 1 := IntWalk.i64_in _ (by omega)
      have hn2 : ((need.length : Int) - 1).toNat = need.length - 1 := by omega
      have hn3 : (0 : Int) ≤ (need.length : Int) - 1 := by omega
      have hn4 : (need.length : Int) - 1 < (need.length : Int) := by omega
      have hp0 : (0 : Int) ≤ (pi : Int) := by omega
      have hp1 : (pi : Int) < (X.length : Int) := by omega
      go_upto_region 17 with (fail)
      have hwd : wy = 2 ∨ wy = 3 := by omega
      refine wp_join (WayN w7 (.slice (some ⟨pb, po, none⟩) X.length uc) (.slice (some ⟨nb, no, none⟩) need.length nc) P1 wy t5 (OnTheWay.byZ wy)) ?second ?_
      case second =>
        intro K' hMK
        rcases hwd with rfl | rfl
        · have c0 : ((w7.alloc (.cells #[.int .i64 10, .int .i64 4, .int .i64 200, .int .i64 4] 3))).cell? ⟨w7.heap.size, 2, none⟩ = some (.int .i64 200) := by
            have h := heap_alloc_new w7 (.cells #[.int .i64 10, .int .i64 4, .int .i64 200, .int .i64 4] 3)
            simp only [World.cell?, h]
            rfl
          go_wp2
          exact ⟨rfl, rfl, rfl, rfl, rfl, rfl, rfl, rfl, (Below.refl _ _).alloc (Nat.le_refl _) _⟩
        · have c0 : ((w7.alloc (.cells #[.int .i64 10, .int .i64 4, .int .i64 200, .int .i64 4] 3))).cell? ⟨w7.heap.size, 3, none⟩ = some (.int .i64 4) := by
            have h := heap_alloc_new w7 (.cells #[.int .i64 10, .int .i64 4, .int .i64 200, .int .i64 4] 3)
            simp only [World.cell?, h]
            rfl
          go_wp2
          exact ⟨rfl, rfl, rfl, rfl, rfl, rfl, rfl, rfl, (Below.refl _ _).alloc (Nat.le_refl _) _⟩
      have hby := byZ_of hwd
      rintro ⟨tm3, ds3⟩ W8 ⟨h109, hds, e7, e8, e11, e12, e14, e15, hb8⟩
      simp only at h109 hds e7 e8 e11 e12 e14 e15
      subst hds
      apply_assumption
      rw [frame109 tm3 [] h109, e7, e8, e11, e12, e14, e15]
      clear h109 e7 e8 e11 e12 e14 e15 z0 z1 z2 z3 z4 z5 z6 hn1 hn2 hn3 hn4 hp0 hp1 hpi hcells
      obtain ⟨bb, hbb⟩ : ∃ bb, bb = OnTheWay.byZ wy := ⟨_, rfl⟩
      rw [← hbb] at hby ⊢
      have HBB := hidep hbb
      clear hbb
      obtain ⟨q0, q1, q2, q3, q4, q5⟩ := hlo
      have HUP := hidep (fun (n : Int) (W : World) (h1 : 0 ≤ n) (h2 : n ≤ 4194304) => up30_any n bb W h1 h2 hby)
      have HLO := hidep (needL_ok HOK.out (need := need))
      have HB38 := hidep (show Below w7.heap.size w7 W8 from hb8)
      go_upto_region 19 with (fail)
      refine wp_loop (LoopI 109 (fun tm ds wr => (slot tm 7) = .slice (some ⟨pb, po, none⟩) X.length uc ∧ (slot tm 11) = .slice (some ⟨nb, no, none⟩) need.length nc ∧ (slot tm 12) = .pointer (some ⟨P1, 0, none⟩) ∧ (slot tm 15) = .int .i64 bb ∧ ds = [] ∧ ∃ (i : Nat) (acc : Int), i ≤ need.length ∧ (slot tm 16) = .int .i64 (i : Nat) ∧ (slot tm 14) = .int .i64 acc ∧ Hid (acc = t5 + OnTheWay.upSum wy ((needL X need).take i)) ∧ 0 ≤ acc ∧ acc ≤ 4194304 * (i + 1) ∧ wr = W8)) (fun a' wr => need.length - (intOf (a'.tmps.getD 16 undef)).toNat) ?sumsStart ?sumsRound
      case' sumsStart => refine LoopI.mk rfl ?_
      case' sumsRound => (rintro ⟨t, ds⟩ wr ⟨hts, hrel⟩; dsimp only at hts hrel; rw [frame109 t ds hts])
      case sumsStart => exact ⟨rfl, rfl, rfl, rfl, rfl, 0, t5, Nat.zero_le _, rfl, rfl, hidep (by simp [OnTheWay.upSum]), by omega, by omega, rfl⟩
      obtain ⟨h7, h11, h12, h15, hds, i, acc, hi, h16, h14, HACC, ha0, ha1, hwrr⟩ := hrel
      subst hds hwrr
      rw [h7, h11, h12, h15, h16, h14]
      clear h7 h11 h12 h15 h16 h14 hts
      by_cases hlt : i < need.length
      · obtain ⟨nb2, no2, pb2, po2, pj, he1, he2, hpj, hcells⟩ := HNP.out i hlt
        injection he1 with he1
        injection he1 with hx1 hx2
        injection he2 with he2
        injection he2 with hx3 hx4
        subst hx1 hx2 hx3 hx4
        obtain ⟨z0, z1, z2, z3, z4, z5, z6⟩ := hcells _ (hb37.trans (HB38.out.mono hb37.size))
        have HSN := hidep (show OnTheWay.upSum wy ((needL X need).take (i + 1)) = OnTheWay.upSum wy ((needL X need).take i) + upZ (lp (needL X need) i).len (OnTheWay.byZ wy) from by
          rw [List.take_succ_eq_append_getElem (by rw [needL_len]; exact hlt), upSum_snoc, lp_get (by rw [needL_len]; exact hlt)])
        have hlo := lp_ok HLO.out i
        rw [← HBB.out] at HSN
        generalize lp (needL X need) i = tl at *
        obtain ⟨u0, u1, u2, u3, u4, u5⟩ := tl
        simp only at z1 z2 z3 z4 z5 z6 hlo HSN
        obtain ⟨r0, r1, r2, r3, r4, r5⟩ := hlo
        have hup := HUP.out u3 wr r4 r5
        have hub := upZ_bd (n := u3) r4 r5
        have hub2 : 0 ≤ upZ u3 bb ∧ upZ u3 bb ≤ 4194304 := by
          rcases hby with h | h | h <;> rw [h] <;> omega
        generalize upZ u3 bb = uz at *
        have hwz : IntKind.i64.wrap (acc + uz) = acc + uz := IntWalk.i64_in _ (by omega)
        have hi0 : (0 : Int) ≤ (i : Int) := by omega
        have hi1 : (i : Int) < (need.length : Int) := by omega
        have hp0 : (0 : Int) ≤ (pj : Int) := by omega
        have hp1 : (pj : Int) < (X.length : Int) := by omega
        clear hub hcells
        go_wp2_with (first
          | (go_at_call 28; refine hup.mono ?_; rintro e w21 ⟨rfl, rfl⟩)
          | fail)
        refine ⟨LoopI.mk rfl ⟨rfl, rfl, rfl, rfl, rfl, i + 1, acc + uz, by omega, by show Value.int _ _ = _; go_num, rfl, hidep (by rw [HSN.out, HACC.out]; omega), by omega, by omega, rfl⟩, ?_⟩
        show need.length - _ < need.length - _
        simp [intOf]; omega
      · have hil : i = need.length := by omega
        have hac : st = acc := by
          have h := HACC.out
          rw [hil, List.take_of_length_le (by rw [needL_len]; omega)] at h
          rw [h]
          exact HEND.out
        subst hac
        have hP := HP6.out _ (hk7.trans (Turned.of_below HB38.out))
        obtain ⟨c1, c2, c3⟩ := box3_cells hP
        have hb08 := hb07.trans (HB38.out.mono hb07.size)
        clear hP
        go_wp2_with (first
          | (go_at_call 14; refine (lives_any _).mono ?_; rintro e w17 ⟨rfl, h17⟩)
          | fail)
        go_ret
        exact ⟨rfl, hb08.trans (h17.mono hb08.size)⟩
end Go.Proofs.Ytfljgcpfmhhgcaa
