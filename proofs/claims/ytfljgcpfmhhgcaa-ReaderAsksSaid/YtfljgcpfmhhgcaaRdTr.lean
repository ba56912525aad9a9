/- Contract: the reference's Table. -/
import Derived.Test.YtfljgcpfmhhgcaaRdJ
import Derived.Test.YtfljgcpfmhhgcaaRdBo
namespace Go.Proofs.Ytfljgcpfmhhgcaa
open Go.RowKit Go.Lab
attribute [local go_sem] Oper.semAt_some
set_option maxRecDepth 100000
theorem range_map100 (f : Nat → Value) : (List.range 100).map f = [f 0, f 1, f 2, f 3, f 4, f 5, f 6, f 7, f 8, f 9, f 10, f 11, f 12, f 13, f 14, f 15, f 16, f 17, f 18, f 19, f 20, f 21, f 22, f 23, f 24, f 25, f 26, f 27, f 28, f 29, f 30, f 31, f 32, f 33, f 34, f 35, f 36, f 37, f 38, f 39, f 40, f 41, f 42, f 43, f 44, f 45, f 46, f 47, f 48, f 49, f 50, f 51, f 52, f 53, f 54, f 55, f 56, f 57, f 58, f 59, f 60, f 61, f 62, f 63, f 64, f 65, f 66, f 67, f 68, f 69, f 70, f 71, f 72, f 73, f 74, f 75, f 76, f 77, f 78, f 79, f 80, f 81, f 82, f 83, f 84, f 85, f 86, f 87, f 88, f 89, f 90, f 91, f 92, f 93, f 94, f 95, f 96, f 97, f 98, f 99] := rfl
theorem frame100 (t : Array Value) (ds : List Deferred) (h : t.size = 100) : ({ tmps := t, defers := ds } : Act) = { tmps := #[slot t 0, slot t 1, slot t 2, slot t 3, slot t 4, slot t 5, slot t 6, slot t 7, slot t 8, slot t 9, slot t 10, slot t 11, slot t 12, slot t 13, slot t 14, slot t 15, slot t 16, slot t 17, slot t 18, slot t 19, slot t 20, slot t 21, slot t 22, slot t 23, slot t 24, slot t 25, slot t 26, slot t 27, slot t 28, slot t 29, slot t 30, slot t 31, slot t 32, slot t 33, slot t 34, slot t 35, slot t 36, slot t 37, slot t 38, slot t 39, slot t 40, slot t 41, slot t 42, slot t 43, slot t 44, slot t 45, slot t 46, slot t 47, slot t 48, slot t 49, slot t 50, slot t 51, slot t 52, slot t 53, slot t 54, slot t 55, slot t 56, slot t 57, slot t 58, slot t 59, slot t 60, slot t 61, slot t 62, slot t 63, slot t 64, slot t 65, slot t 66, slot t 67, slot t 68, slot t 69, slot t 70, slot t 71, slot t 72, slot t 73, slot t 74, slot t 75, slot t 76, slot t 77, slot t 78, slot t 79, slot t 80, slot t 81, slot t 82, slot t 83, slot t 84, slot t 85, slot t 86, slot t 87, slot t 88, slot t 89, slot t 90, slot t 91, slot t 92, slot t 93, slot t 94, slot t 95, slot t 96, slot t 97, slot t 98, slot t 99], defers := ds } := by
  have e : t = ((List.range 100).map (slot t)).toArray := by
    apply Array.ext
    · simp [h]
    · intro i h1 h2
      simp [slot, Array.getD, h1]
  rw [range_map100] at e
  exact congrArg (fun x => ({ tmps := x, defers := ds } : Act)) e
theorem rowL_len (way : Int) (L : List Pl) (s : Nat) : (rowL way L s).length = L.length := by simp [rowL]
theorem rowL_snoc {way : Int} {L : List Pl} {s k : Nat} (h : k < L.length) : (rowL way L s).take (k + 1) = (rowL way L s).take k ++ [tabV way L s k] := by
  rw [List.take_succ_eq_append_getElem (by rw [rowL_len]; exact h)]
  simp [rowL]
/-- The elements of a set below j. -/
def lessTo (e j : Nat) : List Nat := (List.range j).filter fun x => e.testBit x
theorem lessTo_zero (e : Nat) : lessTo e 0 = [] := rfl
theorem lessTo_succ (e j : Nat) : lessTo e (j + 1) = if e.testBit j then lessTo e j ++ [j] else lessTo e j := by
  unfold lessTo
  rw [List.range_succ, List.filter_append]
  cases h : e.testBit j <;> simp [h]
theorem lessTo_all (e n : Nat) : lessTo e n = othersL e n (-1) := by
  unfold lessTo othersL
  refine List.filter_congr (fun x _ => ?_)
  have : decide ((x : Int) ≠ -1) = true := decide_eq_true (by omega)
  rw [this, Bool.true_and]
def foldTo (way : Int) (L : List Pl) (e k : Nat) (ini : Int) (j : Nat) : Int := (lessTo e j).foldl (fun a x => takeZ a (tabV way L e x + costZ way (lp L x) (lp L k))) ini
theorem foldTo_no {way : Int} {L : List Pl} {e k j : Nat} {ini : Int} (h : e.testBit j = false) : foldTo way L e k ini (j + 1) = foldTo way L e k ini j := by
  unfold foldTo
  rw [lessTo_succ, h, if_neg (by decide)]
theorem foldTo_yes {way : Int} {L : List Pl} {e k j : Nat} {ini : Int} (h : e.testBit j = true) : foldTo way L e k ini (j + 1) = takeZ (foldTo way L e k ini j) (tabV way L e j + costZ way (lp L j) (lp L k)) := by
  unfold foldTo
  rw [lessTo_succ, if_pos h, List.foldl_append]
  rfl
theorem foldTo_end {way : Int} {L : List Pl} {s k : Nat} (hs : s < 256) (hn : L.length ≤ 8) (hk : k < L.length) (hb : s.testBit k = true) : foldTo way L (s - 2 ^ k) k (if s - 2 ^ k = 0 then costZ way pl0 (lp L k) else -1) L.length = tabV way L s k := by
  have h1 := bit_ge hb
  have e : (if s - 2 ^ k = 0 then costZ way pl0 (lp L k) else -1) = (if s = 2 ^ k then takeZ (-1) (costZ way pl0 (lp L k)) else -1) := by
    by_cases h : s = 2 ^ k
    · rw [if_pos (by omega), if_pos h]
      exact (if_pos (.inl (by omega))).symm
    · rw [if_neg (by omega), if_neg h]
  rw [e, tabV_eq way L s k hb, others_k hs hn hk hb, foldTo, lessTo_all]
theorem foldTo_bd {way : Int} {L : List Pl} (hL : ∀ p ∈ L, PlOk p) {e k : Nat} {ini : Int} (he : e < 512) (h0 : -1 ≤ ini) (h1 : ini ≤ 20000000000) (j : Nat) : -1 ≤ foldTo way L e k ini j ∧ foldTo way L e k ini j ≤ 20000000000 := by
  unfold foldTo
  refine foldl_take_bd _ _ (fun x _ => ?_) h0 h1
  have g1 := tabV_bd (way := way) hL he x
  have g2 := costZ_bd (way := way) (lp_ok hL x) (lp_ok hL k)
  omega
/-- What holds behind the cell's reckoning. -/
def TrM (wk : World) (x0 x1 x2 x7 x10 : Value) (n i k : Nat) (t : Int) (a : Act) (W : World) : Prop :=
  a.tmps.size = 100 ∧ a.defers = [] ∧ slot a.tmps 0 = x0 ∧ slot a.tmps 1 = x1 ∧ slot a.tmps 2 = x2 ∧ slot a.tmps 7 = x7 ∧ slot a.tmps 8 = .int .i64 (n : Nat) ∧ slot a.tmps 9 = .int .i64 (i : Nat) ∧ slot a.tmps 10 = x10 ∧ slot a.tmps 11 = .int .i64 (k : Nat) ∧ slot a.tmps 12 = .int .i64 t ∧ Below wk.heap.size wk W
/-- What the inner loop knows. -/
def TrI (wk : World) (way : Int) (L : List Pl) (e k : Nat) (ini : Int) (n : Nat) (s12 s14 : Value) (wr : World) : Prop :=
  ∃ (j : Nat) (acc : Int), j ≤ n ∧ s14 = .int .i64 (j : Nat) ∧ s12 = .int .i64 acc ∧ acc = foldTo way L e k ini j ∧ Below wk.heap.size wk wr
def TrN (wk : World) (x0 x1 x2 x7 x10 : Value) (n i k e : Nat) (t : Int) (a : Act) (W : World) : Prop := TrM wk x0 x1 x2 x7 x10 n i k t a W ∧ slot a.tmps 13 = .int .i64 (e : Nat)
set_option maxRecDepth 100000 in
set_option maxHeartbeats 20000000 in
theorem table30_any (way : Int) (pl : List Pl) (need : List Int) (pv nv : Value) (hok : ∀ p ∈ pl, PlOk p) (hneed : NeedOk pl need) (w : World) (hp : PlacesAt w pv pl) (hn : IntsAt w nv need) :
    Calls Try.prog 42 #[.int .i64 way, pv, nv] w fun e w' => ∃ v, e = .returned v ∧ TabOf TkR w' v (tabL way (needL pl need)) ∧ Below w.heap.size w w' := by
  obtain ⟨a, c, rfl, hca, hma⟩ := hp.form
  obtain ⟨b, d, rfl, hcb, hmb⟩ := hn.1.form
  unfold maxLen at hma hmb
  have hn8 := hneed.1
  have HNP := hidep (fun j (hj : j < need.length) => need_place hp hn hneed hj)
  have HNL := hidep (needL_len pl need)
  have HLO := hidep (needL_ok (need := need) hok)
  clear hp hn hneed hok
  obtain ⟨L, hL⟩ : ∃ L, L = needL pl need := ⟨_, rfl⟩
  rw [← hL] at HNP HNL HLO ⊢
  clear hL
  obtain ⟨n, hnn⟩ : ∃ n, need.length = n := ⟨_, rfl⟩
  rw [hnn] at hn8 hcb HNL HNP ⊢
  clear hnn
  have hN := two_pow_lt hn8
  obtain ⟨N, hNN⟩ : ∃ N, N = 2 ^ n := ⟨_, rfl⟩
  rw [← hNN] at hN
  have hN1 : 1 ≤ N := by rw [hNN]; exact Nat.two_pow_pos n
  have hshl : wrap64 (2 ^ n) = ((N : Nat) : Int) := by
    rw [hNN]
    have : ∀ n, n ≤ 8 → wrap64 (2 ^ n) = ((2 ^ n : Nat) : Int) := by decide +kernel
    exact this n hn8
  have HN2 := hidep hNN
  clear hNN
  have hn0 : (0 : Int) ≤ (n : Int) := by omega
  have hn9 : (n : Int) ≤ 8 := by omega
  go_enter Try.func42, Try.ntmps42
  go_upto_region 4 with (fail)
  refine wp_loop (LoopI 100 (fun tm ds wr => (slot tm 0) = .int .i64 way ∧ (slot tm 1) = .slice a pl.length c ∧ (slot tm 2) = .slice b n d ∧ (slot tm 8) = .int .i64 (n : Nat) ∧ ds = [] ∧ ∃ (i : Nat) (vo : Value) (vs : List Value), i ≤ N ∧ (slot tm 9) = .int .i64 (i : Nat) ∧ (slot tm 7) = vo ∧ Hid (vs.length = i) ∧ wr.ownsRow w.heap.size 22 1 vo i vs ∧ Hid (∀ (j : Nat) (u : Value), vs[j]? = some u → IntsOf (· = 3) wr u (rowL way L j)) ∧ Below w.heap.size w wr)) (fun a' wr => N - (intOf (a'.tmps.getD 9 undef)).toNat) ?outerStart ?outerRound
  case' outerStart => refine LoopI.mk rfl ?_
  case' outerRound => (rintro ⟨t, ds⟩ wr ⟨hts, hrel⟩; dsimp only at hts hrel; rw [frame100 t ds hts])
  case outerStart => exact ⟨rfl, rfl, rfl, rfl, rfl, 0, _, [], Nat.zero_le _, rfl, rfl, hidep rfl, World.ownsRow_nil _ _ _ _, hidep (fun _ _ h => by cases h), Below.refl _ _⟩
  obtain ⟨h0, h1, h2, h8, hds, i, vo, vs, hi, h9, h7, HVL, hown, HVS, hbw⟩ := hrel
  subst hds
  rw [h0, h1, h2, h8, h9, h7]
  clear h0 h1 h2 h8 h9 h7 hts
  obtain ⟨va, vc, rfl, hvc, hvm⟩ := (Rd.of_own hown).form
  unfold maxLen at hvm
  have hbs := hbw.size
  have HOWN := hidep hown
  have HBW := hidep hbw
  clear hown hbw
  by_cases hlt : i < N
  · have hi0 : (0 : Int) ≤ (i : Int) := by omega
    have hi1 : (i : Int) < (N : Int) := by omega
    obtain ⟨wo, hwo⟩ : ∃ wo : World, wo = wr := ⟨_, rfl⟩
    rw [← hwo] at HVS hbs HOWN HBW ⊢
    clear hwo
    go_upto_region 8 with (fail)
    clear hshl
    refine wp_loop (LoopI 100 (fun tm ds wr => (slot tm 0) = .int .i64 way ∧ (slot tm 1) = .slice a pl.length c ∧ (slot tm 2) = .slice b n d ∧ (slot tm 7) = .slice va i vc ∧ (slot tm 8) = .int .i64 (n : Nat) ∧ (slot tm 9) = .int .i64 (i : Nat) ∧ ds = [] ∧ ∃ (k : Nat) (vr : Value), k ≤ n ∧ (slot tm 11) = .int .i64 (k : Nat) ∧ (slot tm 10) = vr ∧ wr.ownsRow wo.heap.size 3 1 vr k (intsC ((rowL way L i).take k)) ∧ Below wo.heap.size wo wr)) (fun a' wr => n - (intOf (a'.tmps.getD 11 undef)).toNat) ?midStart ?midRound
    case' midStart => refine LoopI.mk rfl ?_
    case' midRound => (rintro ⟨t, ds⟩ wr ⟨hts, hrel⟩; dsimp only at hts hrel; rw [frame100 t ds hts])
    case midStart => exact ⟨rfl, rfl, rfl, rfl, rfl, rfl, rfl, 0, _, Nat.zero_le _, rfl, rfl, World.ownsRow_nil _ _ _ _, Below.refl _ _⟩
    obtain ⟨h0, h1, h2, h7, h8, h9, hds, k, vr, hk, h11, h10, hrow, hbk⟩ := hrel
    subst hds
    rw [h0, h1, h2, h7, h8, h9, h11, h10]
    clear h0 h1 h2 h7 h8 h9 h11 h10 hts
    obtain ⟨ra, rc, rfl, hrc, hrm⟩ := (Rd.of_own hrow).form
    unfold maxLen at hrm
    have hks := hbk.size
    have HROW := hidep hrow
    have HBK := hidep hbk
    clear hrow hbk
    by_cases hkn : k < n
    · have hk0 : (0 : Int) ≤ (k : Int) := by omega
      have hk1 : (k : Int) < (n : Int) := by omega
      obtain ⟨wk, hwk⟩ : ∃ wk : World, wk = wr := ⟨_, rfl⟩
      rw [← hwk] at hks HROW HBK ⊢
      clear hwk
      have hbit := bit_any i k wk (by omega)
      have htb := tabV_bd (way := way) HLO.out (s := i) (by omega) k
      go_upto_if 32 with (first
        | (go_at_call 36; refine hbit.mono ?_; rintro e w11 ⟨rfl, rfl⟩)
        | fail)
      refine wp_join (TrM wk (.int .i64 way) (.slice a pl.length c) (.slice b n d) (.slice va i vc) (.slice ra k rc) n i k (tabV way L i k)) ?first ?_
      case first =>
        intro K' hMK
        cases hbk : i.testBit k with
        | false =>
          have HV := hidep (tabV_no way L i k hbk)
          clear hbk hbit
          go_wp2
          exact ⟨rfl, rfl, rfl, rfl, rfl, rfl, rfl, rfl, rfl, rfl, by rw [HV.out]; rfl, Below.refl _ _⟩
        | true =>
          have HEND := hidep (foldTo_end (way := way) (L := L) (s := i) (k := k) (by omega) (by have := HNL.out; omega) (by have := HNL.out; omega) hbk)
          rw [HNL.out] at HEND
          have hge := bit_ge hbk
          have hpos := Nat.two_pow_pos k
          obtain ⟨e, he⟩ : ∃ e, e = i - 2 ^ k := ⟨_, rfl⟩
          rw [← he] at HEND
          obtain ⟨q, hq⟩ : ∃ q, q = 2 ^ k := ⟨_, rfl⟩
          rw [← hq] at hge hpos he
          have HSK : Hid (wrap64 (2 ^ k) = ((q : Nat) : Int)) := hidep (by
            rw [hq]
            have : ∀ n, n ≤ 8 → wrap64 (2 ^ n) = ((2 ^ n : Nat) : Int) := by decide +kernel
            exact this k (by omega))
          clear hq hbk hbit
          have hqe : IntKind.i64.wrap ((i : Int) - (q : Int)) = (e : Int) := by
            have h1 : (i : Int) - (q : Int) = (e : Int) := by omega
            rw [h1]
            exact IntWalk.i64_in _ (by omega)
          have hei : e < i := by omega
          have hsk := HSK.out
          clear he hge hpos HSK
          go_upto_region 13 with (fail)
          clear hsk hqe
          obtain ⟨ini, hini⟩ : ∃ ini, ini = if e = 0 then costZ way pl0 (lp L k) else -1 := ⟨_, rfl⟩
          rw [← hini] at HEND
          have hpk := lp_ok HLO.out k
          have hcb0 := costZ_bd (way := way) pl0_ok hpk
          have hinb : -1 ≤ ini ∧ ini ≤ 20000000 := by rw [hini]; split <;> omega
          have HINI := hidep hini
          have hbwk := HBW.out.trans (HBK.out.mono hbs)
          clear hini
          go_upto_if 39 with (fail)
          refine wp_join (TrN wk (.int .i64 way) (.slice a pl.length c) (.slice b n d) (.slice va i vc) (.slice ra k rc) n i k e ini) ?second ?_
          case second =>
            intro K2 hMK2
            by_cases he0 : e = 0
            · have HI2 := hidep (HINI.out.trans (if_pos he0))
              obtain ⟨nb, no, pb, po, pi, rfl, rfl, hpi, hcells⟩ := HNP.out k hkn
              obtain ⟨z0, z1, z2, z3, z4, z5, z6⟩ := hcells _ hbwk
              have HCJ := hidep (fun X => cost30_any way pl0 (lp L k) X pl0_ok hpk)
              have he0i : ((e : Int) == 0) = true := by simp [he0]
              clear hcells HNP HEND HINI hcb0 hpk he0
              generalize lp L k = tk at *
              obtain ⟨t0, t1, t2, t3, t4, t5⟩ := tk
              simp only at z1 z2 z3 z4 z5 z6
              rw [← HI2.out] at HCJ
              have hp0 : (0 : Int) ≤ (pi : Int) := by omega
              have hp1 : (pi : Int) < (pl.length : Int) := by omega
              go_wp2_with (first
                | (go_at_call 13; refine (HCJ.out _).mono ?_; rintro e' w14 ⟨rfl, hb14⟩)
                | fail)
              exact ⟨⟨rfl, rfl, rfl, rfl, rfl, rfl, rfl, rfl, rfl, rfl, rfl, hb14⟩, rfl⟩
            · have HI2 := hidep (HINI.out.trans (if_neg he0))
              have he0i : ((e : Int) == 0) = false := beq_false_of_ne (by omega)
              clear HNP HEND HINI hcb0 hpk he0
              go_wp2
              exact ⟨⟨rfl, rfl, rfl, rfl, rfl, rfl, rfl, rfl, rfl, rfl, by rw [HI2.out]; rfl, Below.refl _ _⟩, rfl⟩
          rintro ⟨tm2, ds2⟩ W2 ⟨⟨h100, hds, e0, e1, e2, e7, e8, e9, e10, e11, e12, hb2⟩, e13⟩
          simp only at h100 hds e0 e1 e2 e7 e8 e9 e10 e11 e12 e13
          subst hds
          apply_assumption
          rw [frame100 tm2 [] h100, e0, e1, e2, e7, e8, e9, e10, e11, e12, e13]
          clear h100 e0 e1 e2 e7 e8 e9 e10 e11 e12 e13 HINI hcb0
          have HB2 := hidep hb2
          clear hb2
          go_upto_region 16 with (fail)
          refine wp_loop (LoopI 100 (fun tm ds wr => (slot tm 0) = .int .i64 way ∧ (slot tm 1) = .slice a pl.length c ∧ (slot tm 2) = .slice b n d ∧ (slot tm 7) = .slice va i vc ∧ (slot tm 8) = .int .i64 (n : Nat) ∧ (slot tm 9) = .int .i64 (i : Nat) ∧ (slot tm 10) = .slice ra k rc ∧ (slot tm 11) = .int .i64 (k : Nat) ∧ (slot tm 13) = .int .i64 (e : Nat) ∧ ds = [] ∧ TrI wk way L e k ini n (slot tm 12) (slot tm 14) wr)) (fun a' wr => n - (intOf (a'.tmps.getD 14 undef)).toNat) ?innStart ?innRound
          case' innStart => refine LoopI.mk rfl ?_
          case' innRound => (rintro ⟨t, ds⟩ wr ⟨hts, hrel⟩; dsimp only at hts hrel; rw [frame100 t ds hts])
          case innStart => exact ⟨rfl, rfl, rfl, rfl, rfl, rfl, rfl, rfl, rfl, rfl, 0, ini, Nat.zero_le _, rfl, rfl, rfl, HB2.out⟩
          obtain ⟨h0, h1, h2, h7, h8, h9, h10, h11, h13, hds, j, acc, hj, h14, h12, HACC0, hbj⟩ := hrel
          subst hds
          rw [h0, h1, h2, h7, h8, h9, h10, h11, h13, h14, h12]
          clear h0 h1 h2 h7 h8 h9 h10 h11 h13 h14 h12 hts
          have HACC := hidep HACC0
          have hab := foldTo_bd (way := way) HLO.out (e := e) (k := k) (ini := ini) (by omega) (by omega) (by omega) j
          rw [← HACC0] at hab
          clear HACC0
          by_cases hjn : j < n
          · have hj0 : (0 : Int) ≤ (j : Int) := by omega
            have hj1 : (j : Int) < (n : Int) := by omega
            have hbit := bit_any e j wr (by omega)
            cases hbj2 : e.testBit j with
            | false =>
              rw [hbj2] at hbit
              have HN := hidep (HACC.out.trans (foldTo_no (way := way) (L := L) (k := k) (ini := ini) hbj2).symm)
              clear hbj2
              go_wp2_with (first
                | (go_at_call 36; refine hbit.mono ?_; rintro e' w18 ⟨rfl, rfl⟩)
                | fail)
              refine ⟨LoopI.mk rfl ⟨rfl, rfl, rfl, rfl, rfl, rfl, rfl, rfl, rfl, rfl, j + 1, acc, by omega, by show Value.int _ _ = _; go_num, rfl, HN.out, hbj⟩, ?_⟩
              show n - _ < n - _
              simp [intOf]; omega
            | true =>
              rw [hbj2] at hbit
              have HN := hidep (foldTo_yes (way := way) (L := L) (k := k) (ini := ini) hbj2)
              rw [← HACC.out] at HN
              clear hbj2
              have hvl := HVL.out
              obtain ⟨rv, hrv⟩ : ∃ rv, vs[e]? = some rv := ⟨vs[e]'(by omega), List.getElem?_eq_getElem _⟩
              have hio := HVS.out e rv hrv
              obtain ⟨rra, rrc, hrf, _, _⟩ := hio.1.form
              have hrl : (rowL way L e).length = n := by rw [rowL_len, HNL.out]
              rw [hrl] at hrf
              subst hrf
              have hio2 : IntsAt wo (.slice rra (rowL way L e).length rrc) (rowL way L e) := by rw [hrl]; have h := hio.at; unfold IntsAt at h ⊢; rw [hrl] at h ⊢; exact h
              obtain ⟨rb, ro, rfl, hrbl, hrc0⟩ := ints_get hio2 (k := j) (by rw [hrl]; exact hjn)
              have hgetj : (rowL way L e)[j]'(by rw [hrl]; exact hjn) = tabV way L e j := by simp [rowL]
              rw [hgetj] at hrc0
              obtain ⟨g, gc, hvg, hg1, hg2⟩ := own_block HOWN.out (fun h => by injection h with _ h2; omega)
              injection hvg with hvg1 _ hvg2
              subst hvg1 hvg2
              have hoc : wo.cell? ⟨g, e, none⟩ = some (.slice (some ⟨rb, ro, none⟩) n rrc) := by
                obtain ⟨b2, off, he, _, hc⟩ := Rd.at (Rd.of_own HOWN.out) (by omega)
                injection he with he
                injection he with he1 he2
                subst he1 he2
                have := hc e _ hrv
                rwa [Nat.zero_add] at this
              have hboj := HBK.out.trans (hbj.mono hks)
              have hb0j := HBW.out.trans (hboj.mono hbs)
              have x1 := (hboj.cell (p := ⟨g, e, none⟩) hg2).trans hoc
              have x2 := (hboj.cell (p := ⟨rb, ro + j, none⟩) hrbl).trans hrc0
              obtain ⟨nb, no, pb, po, pj, rfl, rfl, hpj, hcells⟩ := HNP.out j hjn
              obtain ⟨z0, z1, z2, z3, z4, z5, z6⟩ := hcells _ hb0j
              obtain ⟨nb2, no2, pb2, po2, pk, he1, he2, hpk2, hcells2⟩ := HNP.out k hkn
              injection he1 with he1
              injection he1 with hx1 hx2
              injection he2 with he2
              injection he2 with hx3 hx4
              subst hx1 hx2 hx3 hx4
              obtain ⟨y0, y1, y2, y3, y4, y5, y6⟩ := hcells2 _ hb0j
              have hpj3 := lp_ok HLO.out j
              have hcb := costZ_bd (way := way) hpj3 hpk
              have htv := tabV_bd (way := way) HLO.out (s := e) (by omega) j
              have HCJ := hidep (fun X => cost30_any way (lp L j) (lp L k) X hpj3 hpk)
              obtain ⟨tv, htvv⟩ : ∃ tv, tv = tabV way L e j := ⟨_, rfl⟩
              rw [← htvv] at x2 htv HN
              obtain ⟨cv, hcv⟩ : ∃ cv, cv = costZ way (lp L j) (lp L k) := ⟨_, rfl⟩
              rw [← hcv] at hcb HCJ HN
              clear hcells hcells2 hrl hgetj hrc0 hoc hvl hio hio2 hrv hrbl htvv hcv hpj3 HNP HEND
              generalize lp L j = tj at *
              generalize lp L k = tk at *
              obtain ⟨a0, a1, a2, a3, a4, a5⟩ := tj
              obtain ⟨b0, b1, b2, b3, b4, b5⟩ := tk
              simp only at z1 z2 z3 z4 z5 z6 y1 y2 y3 y4 y5 y6
              have hwz : IntKind.i64.wrap (tv + cv) = tv + cv := IntWalk.i64_in _ (by omega)
              have hp0 : (0 : Int) ≤ (pj : Int) := by omega
              have hp1 : (pj : Int) < (pl.length : Int) := by omega
              have hp2 : (0 : Int) ≤ (pk : Int) := by omega
              have hp3 : (pk : Int) < (pl.length : Int) := by omega
              have he3 : (0 : Int) ≤ (e : Int) := by omega
              have he4 : (e : Int) < (i : Int) := by omega
              have HCC := hidep (show ∀ X, Turned (fun _ => False) wr X → X.cell? ⟨g, e, none⟩ = some (.slice (some ⟨rb, ro, none⟩) n rrc) ∧ X.cell? ⟨rb, ro + j, none⟩ = some (.int .i64 tv) ∧
                  (X.cell? ⟨nb, no + j, none⟩ = some (.int .i64 (pj : Nat)) ∧ X.cell? ⟨pb, po + pj * 6, none⟩ = some (.int .i64 a0) ∧ X.cell? ⟨pb, po + pj * 6 + 1, none⟩ = some (.int .i64 a1) ∧ X.cell? ⟨pb, po + pj * 6 + 2, none⟩ = some (.int .i64 a2) ∧ X.cell? ⟨pb, po + pj * 6 + 3, none⟩ = some (.int .i64 a3) ∧ X.cell? ⟨pb, po + pj * 6 + 4, none⟩ = some (.int .i64 a4) ∧ X.cell? ⟨pb, po + pj * 6 + 5, none⟩ = some (.int .i64 a5)) ∧
                  (X.cell? ⟨nb, no + k, none⟩ = some (.int .i64 (pk : Nat)) ∧ X.cell? ⟨pb, po + pk * 6, none⟩ = some (.int .i64 b0) ∧ X.cell? ⟨pb, po + pk * 6 + 1, none⟩ = some (.int .i64 b1) ∧ X.cell? ⟨pb, po + pk * 6 + 2, none⟩ = some (.int .i64 b2) ∧ X.cell? ⟨pb, po + pk * 6 + 3, none⟩ = some (.int .i64 b3) ∧ X.cell? ⟨pb, po + pk * 6 + 4, none⟩ = some (.int .i64 b4) ∧ X.cell? ⟨pb, po + pk * 6 + 5, none⟩ = some (.int .i64 b5)) from fun X hX =>
                ⟨hX.cell x1 id, hX.cell x2 id, ⟨hX.cell z0 id, hX.cell z1 id, hX.cell z2 id, hX.cell z3 id, hX.cell z4 id, hX.cell z5 id, hX.cell z6 id⟩, ⟨hX.cell y0 id, hX.cell y1 id, hX.cell y2 id, hX.cell y3 id, hX.cell y4 id, hX.cell y5 id, hX.cell y6 id⟩⟩)
              clear x1 x2 z0 z1 z2 z3 z4 z5 z6 y0 y1 y2 y3 y4 y5 y6
              go_upto_region 19 with (first
                | (go_at_call 36; refine hbit.mono ?_; rintro e' w18 ⟨rfl, rfl⟩)
                | fail)
              clear hbit
              refine wp_region_noPanic (wp_region_held_drew (S := (fun X => Turned (fun _ => False) wr X)) (by kernel_rfl) ?hS42r19n0 (fun hHeld => ?hR42r19n0))
              case hS42r19n0 => ((try dsimp only); (exact (Turned.refl _ _).drew))
              refine wpAnyH_take (i := 0) (v := ?v42r19n0q1) rfl (by kernel_rfl) (by kernel_rfl) (by kernel_rfl) (fun _ _ _ h => h) (Or.inl ⟨by kernel_rfl, ?hy42r19n0q1⟩) (by assumption) ?hr42r19n0q1
              case hy42r19n0q1 => (intro w hSw; (try dsimp only at hSw); (obtain ⟨c1, c2, ⟨d0, d1, d2, d3, d4, d5, d6⟩, ⟨f0, f1, f2, f3, f4, f5, f6⟩⟩ := HCC.out w hSw); first | (go_simp; done) | (go_simp; with_reducible rfl))
              refine wpAnyH_take (i := 1) (v := ?v42r19n0q2) rfl (by kernel_rfl) (by kernel_rfl) (by kernel_rfl) (fun _ _ _ h => h) (Or.inl ⟨by kernel_rfl, ?hy42r19n0q2⟩) (by assumption) ?hr42r19n0q2
              case hy42r19n0q2 => (intro w hSw; (try dsimp only at hSw); (obtain ⟨c1, c2, ⟨d0, d1, d2, d3, d4, d5, d6⟩, ⟨f0, f1, f2, f3, f4, f5, f6⟩⟩ := HCC.out w hSw); first | (go_simp; done) | (go_simp; with_reducible rfl))
              refine wpAnyH_take (i := 2) (v := ?v42r19n0q3) rfl (by kernel_rfl) (by kernel_rfl) (by kernel_rfl) (fun _ _ _ h => h) (Or.inl ⟨by kernel_rfl, ?hy42r19n0q3⟩) (by assumption) ?hr42r19n0q3
              case hy42r19n0q3 => (intro w hSw; (try dsimp only at hSw); (obtain ⟨c1, c2, ⟨d0, d1, d2, d3, d4, d5, d6⟩, ⟨f0, f1, f2, f3, f4, f5, f6⟩⟩ := HCC.out w hSw); first | (go_simp; done) | (go_simp; with_reducible rfl))
              refine wpAnyH_take (i := 3) (v := ?v42r19n0q4) rfl (by kernel_rfl) (by kernel_rfl) (by kernel_rfl) (fun _ _ _ h => h) (Or.inl ⟨by kernel_rfl, ?hy42r19n0q4⟩) (by assumption) ?hr42r19n0q4
              case hy42r19n0q4 => (intro w hSw; (try dsimp only at hSw); (obtain ⟨c1, c2, ⟨d0, d1, d2, d3, d4, d5, d6⟩, ⟨f0, f1, f2, f3, f4, f5, f6⟩⟩ := HCC.out w hSw); first | (go_simp; done) | (go_simp; with_reducible rfl))
              refine wpAnyH_take (i := 4) (v := ?v42r19n0q5) rfl (by kernel_rfl) (by kernel_rfl) (by kernel_rfl) (fun _ _ _ h => h) (Or.inl ⟨by kernel_rfl, ?hy42r19n0q5⟩) (by assumption) ?hr42r19n0q5
              case hy42r19n0q5 => (intro w hSw; (try dsimp only at hSw); (obtain ⟨c1, c2, ⟨d0, d1, d2, d3, d4, d5, d6⟩, ⟨f0, f1, f2, f3, f4, f5, f6⟩⟩ := HCC.out w hSw); first | (go_simp; done) | (go_simp; with_reducible rfl))
              refine wpAnyH_take (i := 5) (v := ?v42r19n0q6) rfl (by kernel_rfl) (by kernel_rfl) (by kernel_rfl) (fun _ _ _ h => h) (Or.inl ⟨by kernel_rfl, ?hy42r19n0q6⟩) (by assumption) ?hr42r19n0q6
              case hy42r19n0q6 => (intro w hSw; (try dsimp only at hSw); (obtain ⟨c1, c2, ⟨d0, d1, d2, d3, d4, d5, d6⟩, ⟨f0, f1, f2, f3, f4, f5, f6⟩⟩ := HCC.out w hSw); first | (go_simp; done) | (go_simp; with_reducible rfl))
              refine wpAnyH_take (i := 6) (v := ?v42r19n0q7) rfl (by kernel_rfl) (by kernel_rfl) (by kernel_rfl) (fun _ _ _ h => h) (Or.inl ⟨by kernel_rfl, ?hy42r19n0q7⟩) (by assumption) ?hr42r19n0q7
              case hy42r19n0q7 => (intro w hSw; (try dsimp only at hSw); (obtain ⟨c1, c2, ⟨d0, d1, d2, d3, d4, d5, d6⟩, ⟨f0, f1, f2, f3, f4, f5, f6⟩⟩ := HCC.out w hSw); first | (go_simp; done) | (go_simp; with_reducible rfl))
              refine wpAnyH_take (i := 7) (v := ?v42r19n0q8) rfl (by kernel_rfl) (by kernel_rfl) (by kernel_rfl) (fun _ _ _ h => h) (Or.inl ⟨by kernel_rfl, ?hy42r19n0q8⟩) (by assumption) ?hr42r19n0q8
              case hy42r19n0q8 => (intro w hSw; (try dsimp only at hSw); (obtain ⟨c1, c2, ⟨d0, d1, d2, d3, d4, d5, d6⟩, ⟨f0, f1, f2, f3, f4, f5, f6⟩⟩ := HCC.out w hSw); first | (go_simp; done) | (go_simp; with_reducible rfl))
              refine wpAnyH_take (i := 8) (v := ?v42r19n0q9) rfl (by kernel_rfl) (by kernel_rfl) (by kernel_rfl) (fun _ _ _ h => h) (Or.inl ⟨by kernel_rfl, ?hy42r19n0q9⟩) (by assumption) ?hr42r19n0q9
              case hy42r19n0q9 => (intro w hSw; (try dsimp only at hSw); (obtain ⟨c1, c2, ⟨d0, d1, d2, d3, d4, d5, d6⟩, ⟨f0, f1, f2, f3, f4, f5, f6⟩⟩ := HCC.out w hSw); first | (go_simp; done) | (go_simp; with_reducible rfl))
              refine wpAnyH_take (i := 9) (v := ?v42r19n0q10) rfl (by kernel_rfl) (by kernel_rfl) (by kernel_rfl) (fun _ _ _ h => h) (Or.inl ⟨by kernel_rfl, ?hy42r19n0q10⟩) (by assumption) ?hr42r19n0q10
              case hy42r19n0q10 => (intro w hSw; (try dsimp only at hSw); (obtain ⟨c1, c2, ⟨d0, d1, d2, d3, d4, d5, d6⟩, ⟨f0, f1, f2, f3, f4, f5, f6⟩⟩ := HCC.out w hSw); first | (go_simp; done) | (go_simp; with_reducible rfl))
              refine wpAnyH_take (i := 10) (v := ?v42r19n0q11) rfl (by kernel_rfl) (by kernel_rfl) (by kernel_rfl) (fun _ _ _ h => h) (Or.inl ⟨by kernel_rfl, ?hy42r19n0q11⟩) (by assumption) ?hr42r19n0q11
              case hy42r19n0q11 => (intro w hSw; (try dsimp only at hSw); (obtain ⟨c1, c2, ⟨d0, d1, d2, d3, d4, d5, d6⟩, ⟨f0, f1, f2, f3, f4, f5, f6⟩⟩ := HCC.out w hSw); first | (go_simp; done) | (go_simp; with_reducible rfl))
              refine wpAnyH_take (i := 11) (v := ?v42r19n0q12) rfl (by kernel_rfl) (by kernel_rfl) (by kernel_rfl) (fun _ _ _ h => h) (Or.inl ⟨by kernel_rfl, ?hy42r19n0q12⟩) (by assumption) ?hr42r19n0q12
              case hy42r19n0q12 => (intro w hSw; (try dsimp only at hSw); (obtain ⟨c1, c2, ⟨d0, d1, d2, d3, d4, d5, d6⟩, ⟨f0, f1, f2, f3, f4, f5, f6⟩⟩ := HCC.out w hSw); first | (go_simp; done) | (go_simp; with_reducible rfl))
              refine wpAnyH_take (i := 12) (v := ?v42r19n0q13) rfl (by kernel_rfl) (by kernel_rfl) (by kernel_rfl) (fun _ _ _ h => h) (Or.inl ⟨by kernel_rfl, ?hy42r19n0q13⟩) (by assumption) ?hr42r19n0q13
              case hy42r19n0q13 => (intro w hSw; (try dsimp only at hSw); (obtain ⟨c1, c2, ⟨d0, d1, d2, d3, d4, d5, d6⟩, ⟨f0, f1, f2, f3, f4, f5, f6⟩⟩ := HCC.out w hSw); first | (go_simp; done) | (go_simp; with_reducible rfl))
              refine wpAnyH_take (i := 13) (v := ?v42r19n0q14) rfl (by kernel_rfl) (by kernel_rfl) (by kernel_rfl) (fun _ _ _ h => h) (Or.inl ⟨by kernel_rfl, ?hy42r19n0q14⟩) (by assumption) ?hr42r19n0q14
              case hy42r19n0q14 => (intro w hSw; (try dsimp only at hSw); (obtain ⟨c1, c2, ⟨d0, d1, d2, d3, d4, d5, d6⟩, ⟨f0, f1, f2, f3, f4, f5, f6⟩⟩ := HCC.out w hSw); first | (go_simp; done) | (go_simp; with_reducible rfl))
              refine wpAnyH_take (i := 14) (v := ?v42r19n0q15) rfl (by kernel_rfl) (by kernel_rfl) (by kernel_rfl) (fun _ _ _ h => h) (Or.inl ⟨by kernel_rfl, ?hy42r19n0q15⟩) (by assumption) ?hr42r19n0q15
              case hy42r19n0q15 => (intro w hSw; (try dsimp only at hSw); (obtain ⟨c1, c2, ⟨d0, d1, d2, d3, d4, d5, d6⟩, ⟨f0, f1, f2, f3, f4, f5, f6⟩⟩ := HCC.out w hSw); first | (go_simp; done) | (go_simp; with_reducible rfl))
              refine wpAnyH_take (i := 15) (v := ?v42r19n0q16) rfl (by kernel_rfl) (by kernel_rfl) (by kernel_rfl) (fun _ _ _ h => h) (Or.inl ⟨by kernel_rfl, ?hy42r19n0q16⟩) (by assumption) ?hr42r19n0q16
              case hy42r19n0q16 => (intro w hSw; (try dsimp only at hSw); (obtain ⟨c1, c2, ⟨d0, d1, d2, d3, d4, d5, d6⟩, ⟨f0, f1, f2, f3, f4, f5, f6⟩⟩ := HCC.out w hSw); first | (go_simp; done) | (go_simp; with_reducible rfl))
              refine wpAnyH_take (i := 16) (v := ?v42r19n0q17) rfl (by kernel_rfl) (by kernel_rfl) (by kernel_rfl) (fun _ _ _ h => h) (Or.inl ⟨by kernel_rfl, ?hy42r19n0q17⟩) (by assumption) ?hr42r19n0q17
              case hy42r19n0q17 => (intro w hSw; (try dsimp only at hSw); (obtain ⟨c1, c2, ⟨d0, d1, d2, d3, d4, d5, d6⟩, ⟨f0, f1, f2, f3, f4, f5, f6⟩⟩ := HCC.out w hSw); first | (go_simp; done) | (go_simp; with_reducible rfl))
              refine wpAnyH_take (i := 17) (v := ?v42r19n0q18) rfl (by kernel_rfl) (by kernel_rfl) (by kernel_rfl) (fun _ _ _ h => h) (Or.inl ⟨by kernel_rfl, ?hy42r19n0q18⟩) (by assumption) ?hr42r19n0q18
              case hy42r19n0q18 => (intro w hSw; (try dsimp only at hSw); (obtain ⟨c1, c2, ⟨d0, d1, d2, d3, d4, d5, d6⟩, ⟨f0, f1, f2, f3, f4, f5, f6⟩⟩ := HCC.out w hSw); first | (go_simp; done) | (go_simp; with_reducible rfl))
              refine wpAnyH_take (i := 18) (v := ?v42r19n0q19) rfl (by kernel_rfl) (by kernel_rfl) (by kernel_rfl) (fun _ _ _ h => h) (Or.inl ⟨by kernel_rfl, ?hy42r19n0q19⟩) (by assumption) ?hr42r19n0q19
              case hy42r19n0q19 => (intro w hSw; (try dsimp only at hSw); (obtain ⟨c1, c2, ⟨d0, d1, d2, d3, d4, d5, d6⟩, ⟨f0, f1, f2, f3, f4, f5, f6⟩⟩ := HCC.out w hSw); first | (go_simp; done) | (go_simp; with_reducible rfl))
              refine wpAnyH_take (i := 19) (v := ?v42r19n0q20) rfl (by kernel_rfl) (by kernel_rfl) (by kernel_rfl) (fun _ _ _ h => h) (Or.inl ⟨by kernel_rfl, ?hy42r19n0q20⟩) (by assumption) ?hr42r19n0q20
              case hy42r19n0q20 => (intro w hSw; (try dsimp only at hSw); (obtain ⟨c1, c2, ⟨d0, d1, d2, d3, d4, d5, d6⟩, ⟨f0, f1, f2, f3, f4, f5, f6⟩⟩ := HCC.out w hSw); first | (go_simp; done) | (go_simp; with_reducible rfl))
              refine wpAnyH_take (i := 20) (v := ?v42r19n0q21) rfl (by kernel_rfl) (by kernel_rfl) (by kernel_rfl) (fun _ _ _ h => h) (Or.inl ⟨by kernel_rfl, ?hy42r19n0q21⟩) (by assumption) ?hr42r19n0q21
              case hy42r19n0q21 => (intro w hSw; (try dsimp only at hSw); (obtain ⟨c1, c2, ⟨d0, d1, d2, d3, d4, d5, d6⟩, ⟨f0, f1, f2, f3, f4, f5, f6⟩⟩ := HCC.out w hSw); first | (go_simp; done) | (go_simp; with_reducible rfl))
              refine wpAnyH_take (i := 21) (v := ?v42r19n0q22) rfl (by kernel_rfl) (by kernel_rfl) (by kernel_rfl) (fun _ _ _ h => h) (Or.inl ⟨by kernel_rfl, ?hy42r19n0q22⟩) (by assumption) ?hr42r19n0q22
              case hy42r19n0q22 => (intro w hSw; (try dsimp only at hSw); (obtain ⟨c1, c2, ⟨d0, d1, d2, d3, d4, d5, d6⟩, ⟨f0, f1, f2, f3, f4, f5, f6⟩⟩ := HCC.out w hSw); first | (go_simp; done) | (go_simp; with_reducible rfl))
              refine wpAnyH_ready (rs := [22]) (by kernel_rfl) (by simp) (AllReadyH.cons rfl (fun K hK => ?hc42r19n0q23) AllReadyH.nil)
              go_simp
              (go_at_call 13; refine (HCJ.out _).mono ?_; rintro e' w8 ⟨rfl, hb8⟩; have hk := hHeld.below hb8; (try dsimp only))
              refine hK.out _ _ ?hs42r19n0q23 (fun hHeld42r19n0q23 => ?ht42r19n0q23)
              case hs42r19n0q23 => ((try dsimp only); (first | exact hk))
              clear hHeld hK
              have hHeld := hHeld42r19n0q23
              clear hHeld42r19n0q23
              refine wpAnyH_take (i := 23) (v := ?v42r19n0q24) rfl (by kernel_rfl) (by kernel_rfl) (by kernel_rfl) (fun _ _ _ h => h) (Or.inl ⟨by kernel_rfl, ?hy42r19n0q24⟩) (by assumption) ?hr42r19n0q24
              case hy42r19n0q24 => (intro w hSw; (try dsimp only at hSw); (obtain ⟨c1, c2, ⟨d0, d1, d2, d3, d4, d5, d6⟩, ⟨f0, f1, f2, f3, f4, f5, f6⟩⟩ := HCC.out w hSw); first | (go_simp; done) | (go_simp; with_reducible rfl))
              refine wpAnyH_take (i := 24) (v := ?v42r19n0q25) rfl (by kernel_rfl) (by kernel_rfl) (by kernel_rfl) (fun _ _ _ h => h) (Or.inl ⟨by kernel_rfl, ?hy42r19n0q25⟩) (by assumption) ?hr42r19n0q25
              case hy42r19n0q25 => (intro w hSw; (try dsimp only at hSw); (obtain ⟨c1, c2, ⟨d0, d1, d2, d3, d4, d5, d6⟩, ⟨f0, f1, f2, f3, f4, f5, f6⟩⟩ := HCC.out w hSw); first | (go_simp; done) | (go_simp; with_reducible rfl))
              refine wpAnyH_done (by kernel_rfl) ?_ _
              clear hHeld
              refine NoPanic.normal ?_
              have hk8 : Turned (fun _ => False) wr w8 := hk
              apply_assumption
              refine wp_cutA 100 (fun tm ds => ds = [] ∧ slot tm 0 = .int .i64 way ∧ slot tm 1 = .slice (some ⟨pb, po, none⟩) pl.length c ∧ slot tm 2 = .slice (some ⟨nb, no, none⟩) n d ∧ slot tm 7 = .slice (some ⟨g, 0, none⟩) i vc ∧ slot tm 8 = .int .i64 (n : Nat) ∧ slot tm 9 = .int .i64 (i : Nat) ∧ slot tm 10 = .slice ra k rc ∧ slot tm 11 = .int .i64 (k : Nat) ∧ slot tm 12 = .int .i64 acc ∧ slot tm 13 = .int .i64 (e : Nat) ∧ slot tm 14 = .int .i64 (j : Nat) ∧ slot tm 15 = .int .i64 (tv + cv)) (by kernel_rfl) (by exact ⟨by kernel_rfl, by kernel_rfl, by kernel_rfl, by kernel_rfl, by kernel_rfl, by kernel_rfl, by kernel_rfl, by kernel_rfl, by kernel_rfl, by kernel_rfl, by kernel_rfl, by kernel_rfl, by kernel_rfl⟩) ?_
              rintro tm3 ds3 h100 ⟨rfl, e0, e1, e2, e7, e8, e9, e10, e11, e12, e13, e14, e15⟩
              rw [frame100 tm3 [] h100, e0, e1, e2, e7, e8, e9, e10, e11, e12, e13, e14, e15]
              have hb8 := hbj.trans (hk8.toBelow.mono hbj.size)
              obtain ⟨cc, hcc⟩ : ∃ cc, cc = tv + cv := ⟨_, rfl⟩
              rw [← hcc] at HN ⊢
              clear h100 e0 e1 e2 e7 e8 e9 e10 e11 e12 e13 e14 e15 HCC HCJ hk hk8 hwz hcc
              by_cases hlow : acc < 0
              · have HT : Hid (cc = foldTo way L e k ini (j + 1)) := hidep (by rw [HN.out]; exact (if_pos (.inl hlow)).symm)
                go_wp2
                refine ⟨LoopI.mk rfl ⟨rfl, rfl, rfl, rfl, rfl, rfl, rfl, rfl, rfl, rfl, j + 1, cc, by omega, by show Value.int _ _ = _; go_num, rfl, HT.out, hb8⟩, ?_⟩
                show n - _ < n - _
                simp [intOf]; omega
              · by_cases hlow2 : cc < acc
                · have HT : Hid (cc = foldTo way L e k ini (j + 1)) := hidep (by rw [HN.out]; exact (if_pos (.inr hlow2)).symm)
                  go_wp2
                  refine ⟨LoopI.mk rfl ⟨rfl, rfl, rfl, rfl, rfl, rfl, rfl, rfl, rfl, rfl, j + 1, cc, by omega, by show Value.int _ _ = _; go_num, rfl, HT.out, hb8⟩, ?_⟩
                  show n - _ < n - _
                  simp [intOf]; omega
                · have HT : Hid (acc = foldTo way L e k ini (j + 1)) := hidep (by rw [HN.out]; exact (if_neg (by omega)).symm)
                  go_wp2
                  refine ⟨LoopI.mk rfl ⟨rfl, rfl, rfl, rfl, rfl, rfl, rfl, rfl, rfl, rfl, j + 1, acc, by omega, by show Value.int _ _ = _; go_num, rfl, HT.out, hb8⟩, ?_⟩
                  show n - _ < n - _
                  simp [intOf]; omega
          · have hjn2 : j = n := by omega
            have HV : Hid (acc = tabV way L i k) := hidep (by rw [HACC.out, hjn2]; exact HEND.out)
            clear hab HACC HEND
            go_wp2
            exact ⟨rfl, rfl, rfl, rfl, rfl, rfl, rfl, rfl, rfl, rfl, by rw [← HV.out]; rfl, hbj⟩
      rintro ⟨tm1, ds1⟩ W1 ⟨h100, hds, e0, e1, e2, e7, e8, e9, e10, e11, e12, hb1⟩
      simp only at h100 hds e0 e1 e2 e7 e8 e9 e10 e11 e12
      subst hds
      apply_assumption
      rw [frame100 tm1 [] h100, e0, e1, e2, e7, e8, e9, e10, e11, e12]
      clear h100 e0 e1 e2 e7 e8 e9 e10 e11 e12
      have hrow1 : W1.ownsRow wo.heap.size 3 1 (.slice ra k rc) k (intsC ((rowL way L i).take k)) := ownsRow_turned HROW.out (Turned.of_below (T := fun _ => False) hb1) (fun _ _ h => h)
      have HSN := hidep (rowL_snoc (way := way) (L := L) (s := i) (k := k) (by have := HNL.out; omega))
      have HROW1 := hidep hrow1
      have hb01 := HBK.out.trans (hb1.mono hks)
      have hs01 := hb01.size
      generalize tabV way L i k = tv at *
      have hfr := Rd.fresh W1 #[.int .i64 tv] 3 1 1 rfl (by decide)
      clear hrow1
      go_wp2_with (first
        | (at_builtin; refine wpList_append_rd _ rfl (.tmp 91) (.tmp 93) rfl slIntsR wo.heap.size _ _ _ rfl (HROW1.out.alloc _) _ _ _ _ rfl hfr (by intro u hu; simp at hu; rw [hu]; rfl) (by unfold maxLen; omega) (by omega) (by simp; omega) ?_; intro v2 w2 hown2 hgr2 hat2 hnl2; clear hat2 hnl2)
        | fail)
      have hb2 : Below wo.heap.size wo w2 := (hb01.alloc hs01 _).grown hgr2 (by simp; omega) (fun g hg => (HROW1.out.lt g hg).1)
      refine ⟨LoopI.mk rfl ⟨rfl, rfl, rfl, rfl, rfl, rfl, rfl, k + 1, by omega, by show Value.int _ _ = _; go_num, by rw [HSN.out, intsC_snoc']; exact hown2, hb2⟩, ?_⟩
      show n - _ < n - _
      simp [intOf]; omega
    · have hkn2 : k = n := by omega
      subst hkn2
      have hrowf : wr.ownsRow wo.heap.size 3 1 (.slice ra k rc) k (intsC (rowL way L i)) := by
        have h := HROW.out
        rwa [List.take_of_length_le (by rw [rowL_len, HNL.out]; exact Nat.le_refl _)] at h
      have hout : wr.ownsRow w.heap.size 22 1 (.slice va i vc) i vs := ownsRow_turned HOWN.out (Turned.of_below (T := fun _ => False) HBK.out) (fun _ _ h => h)
      have hvs : ∀ (j : Nat) (u : Value), vs[j]? = some u → IntsOf (· = 3) wr u (rowL way L j) := fun j u hu => (HVS.out j u hu).keeps (Keeps.below _ HBK.out)
      have htb : ∀ x ∈ rowL way L i, -9223372036854775808 ≤ x ∧ x ≤ 9223372036854775807 := fun x hx => by
        obtain ⟨j, _, rfl⟩ := List.mem_map.1 hx
        have := tabV_bd (way := way) HLO.out (s := i) (by omega) j
        omega
      have hrv : IntsOf (· = 3) wr (.slice ra k rc) (rowL way L i) := ⟨by rw [rowL_len, HNL.out]; exact Rd.of_own hrowf, htb⟩
      have HOUT := hidep hout
      have HVS2 := hidep hvs
      have HRV := hidep hrv
      have hfr := Rd.fresh wr #[.slice ra k rc] 22 1 1 rfl (by decide)
      have hb01 := HBW.out.trans (HBK.out.mono hbs)
      have hs01 := hb01.size
      clear hrowf hout hvs htb hrv
      go_wp2_with (first
        | (at_builtin; refine wpList_append_rd _ rfl (.tmp 95) (.tmp 97) rfl slTabR w.heap.size _ _ _ rfl (HOUT.out.alloc _) _ _ _ _ rfl hfr (by intro u hu; simp at hu; rw [hu]; rfl) (by unfold maxLen; omega) (by omega) (by simp; omega) ?_; intro v2 w2 hown2 hgr2 hat2 hnl2; clear hat2 hnl2)
        | fail)
      have hb2 : Below w.heap.size w w2 := (hb01.alloc hs01 _).grown hgr2 (by simp; omega) (fun g hg => (HOUT.out.lt g hg).1)
      have hkeep : Keeps (· = 3) wr w2 := (Keeps.alloc _ wr _).trans (Keeps.grown (T := (· = 3)) (HOUT.out.alloc _) hgr2 (fun t ht => by rw [ht]; decide))
      refine ⟨LoopI.mk rfl ⟨rfl, rfl, rfl, rfl, rfl, i + 1, by omega, by show Value.int _ _ = _; go_num, vs ++ [Value.slice ra k rc], hidep ?_, ?_, hidep ?_, hb2⟩, ?_⟩
      · simp [HVL.out]
      · exact hown2
      · intro j u hu
        rcases Nat.lt_or_ge j vs.length with hj | hj
        · rw [List.getElem?_append_left hj] at hu
          exact (HVS2.out j u hu).keeps hkeep
        · rw [List.getElem?_append_right hj] at hu
          obtain ⟨hj2, hu2⟩ := List.getElem?_eq_some_iff.1 hu
          have hji : j = i := by have := HVL.out; simp at hj2; omega
          have : u = .slice ra k rc := by simp at hu2; exact hu2.symm
          rw [this, hji]
          exact HRV.out.keeps hkeep
      · show N - _ < N - _
        simp [intOf]; omega
  · have hiN : i = N := by omega
    subst hiN
    have hfin : TabOf TkR wr (.slice va i vc) (tabL way L) := by
      have hl : (tabL way L).length = i := by unfold tabL; rw [List.length_map, List.length_range, HNL.out, HN2.out]
      refine ⟨vs, by rw [hl]; exact HVL.out, by rw [hl]; exact (Rd.of_own HOWN.out).mono (fun _ h => .inl h), fun j u r hu hr => ?_⟩
      have hj := (List.getElem?_eq_some_iff.1 hr)
      obtain ⟨hj1, hj2⟩ := hj
      have e : r = rowL way L j := by
        rw [← hj2]
        simp [tabL]
      rw [e]
      exact ⟨(HVS.out j u hu).1.mono (fun _ h => .inr h), (HVS.out j u hu).2⟩
    have HFIN := hidep hfin
    clear hfin
    go_wp2
    go_ret
    exact ⟨_, rfl, HFIN.out, HBW.out⟩
end Go.Proofs.Ytfljgcpfmhhgcaa
