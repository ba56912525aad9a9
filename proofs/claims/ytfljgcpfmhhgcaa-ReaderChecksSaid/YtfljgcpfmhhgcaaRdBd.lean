/- Contract: the reference's Bounds. -/
import Derived.Test.YtfljgcpfmhhgcaaRdTr
namespace Go.Proofs.Ytfljgcpfmhhgcaa
open Go.RowKit Go.Lab
attribute [local go_sem] Oper.semAt_some
set_option maxRecDepth 100000
theorem range_map120 (f : Nat → Value) : (List.range 120).map f = [f 0, f 1, f 2, f 3, f 4, f 5, f 6, f 7, f 8, f 9, f 10, f 11, f 12, f 13, f 14, f 15, f 16, f 17, f 18, f 19, f 20, f 21, f 22, f 23, f 24, f 25, f 26, f 27, f 28, f 29, f 30, f 31, f 32, f 33, f 34, f 35, f 36, f 37, f 38, f 39, f 40, f 41, f 42, f 43, f 44, f 45, f 46, f 47, f 48, f 49, f 50, f 51, f 52, f 53, f 54, f 55, f 56, f 57, f 58, f 59, f 60, f 61, f 62, f 63, f 64, f 65, f 66, f 67, f 68, f 69, f 70, f 71, f 72, f 73, f 74, f 75, f 76, f 77, f 78, f 79, f 80, f 81, f 82, f 83, f 84, f 85, f 86, f 87, f 88, f 89, f 90, f 91, f 92, f 93, f 94, f 95, f 96, f 97, f 98, f 99, f 100, f 101, f 102, f 103, f 104, f 105, f 106, f 107, f 108, f 109, f 110, f 111, f 112, f 113, f 114, f 115, f 116, f 117, f 118, f 119] := rfl
theorem frame120 (t : Array Value) (ds : List Deferred) (h : t.size = 120) : ({ tmps := t, defers := ds } : Act) = { tmps := #[slot t 0, slot t 1, slot t 2, slot t 3, slot t 4, slot t 5, slot t 6, slot t 7, slot t 8, slot t 9, slot t 10, slot t 11, slot t 12, slot t 13, slot t 14, slot t 15, slot t 16, slot t 17, slot t 18, slot t 19, slot t 20, slot t 21, slot t 22, slot t 23, slot t 24, slot t 25, slot t 26, slot t 27, slot t 28, slot t 29, slot t 30, slot t 31, slot t 32, slot t 33, slot t 34, slot t 35, slot t 36, slot t 37, slot t 38, slot t 39, slot t 40, slot t 41, slot t 42, slot t 43, slot t 44, slot t 45, slot t 46, slot t 47, slot t 48, slot t 49, slot t 50, slot t 51, slot t 52, slot t 53, slot t 54, slot t 55, slot t 56, slot t 57, slot t 58, slot t 59, slot t 60, slot t 61, slot t 62, slot t 63, slot t 64, slot t 65, slot t 66, slot t 67, slot t 68, slot t 69, slot t 70, slot t 71, slot t 72, slot t 73, slot t 74, slot t 75, slot t 76, slot t 77, slot t 78, slot t 79, slot t 80, slot t 81, slot t 82, slot t 83, slot t 84, slot t 85, slot t 86, slot t 87, slot t 88, slot t 89, slot t 90, slot t 91, slot t 92, slot t 93, slot t 94, slot t 95, slot t 96, slot t 97, slot t 98, slot t 99, slot t 100, slot t 101, slot t 102, slot t 103, slot t 104, slot t 105, slot t 106, slot t 107, slot t 108, slot t 109, slot t 110, slot t 111, slot t 112, slot t 113, slot t 114, slot t 115, slot t 116, slot t 117, slot t 118, slot t 119], defers := ds } := by
  have e : t = ((List.range 120).map (slot t)).toArray := by
    apply Array.ext
    · simp [h]
    · intro i h1 h2
      simp [slot, Array.getD, h1]
  rw [range_map120] at e
  exact congrArg (fun x => ({ tmps := x, defers := ds } : Act)) e
/-- All below the loop's index satisfy P. -/
def AllI (w : World) (P : Nat → Prop) (n : Nat) (s : Value) (wr : World) : Prop := ∃ i : Nat, i ≤ n ∧ s = .int .i64 (i : Nat) ∧ (∀ j, j < i → P j) ∧ Below w.heap.size w wr
/-- What holds behind the look at a set of one element. -/
def BdM (wk : World) (x0 x1 x2 x3 : Value) (n s k e : Nat) (bq : Bool) (a : Act) (W : World) : Prop :=
  a.tmps.size = 120 ∧ a.defers = [] ∧ slot a.tmps 0 = x0 ∧ slot a.tmps 1 = x1 ∧ slot a.tmps 2 = x2 ∧ slot a.tmps 3 = x3 ∧ slot a.tmps 9 = .int .i64 (n : Nat) ∧ slot a.tmps 11 = .int .i64 (s : Nat) ∧ slot a.tmps 12 = .int .i64 (k : Nat) ∧ slot a.tmps 13 = .int .i64 (e : Nat) ∧ slot a.tmps 77 = .bool bq ∧ Below wk.heap.size wk W
theorem bounds_len {way : Int} {L : List Pl} {t : List (List Int)} (h : t.length ≠ 2 ^ L.length) : boundsZ way L t = false := by
  unfold boundsZ
  rw [decide_eq_false h, Bool.false_and]
theorem bounds_row {way : Int} {L : List Pl} {t : List (List Int)} {i : Nat} (hi : i < t.length) (h : t[i].length ≠ L.length) : boundsZ way L t = false := by
  unfold boundsZ
  have : (t.any fun r => !decide (r.length = L.length)) = true := List.any_eq_true.2 ⟨t[i], List.getElem_mem hi, by simp [h]⟩
  rw [this]
  simp
theorem bounds_bad {way : Int} {L : List Pl} {t : List (List Int)} {s k : Nat} (hs : s < 2 ^ L.length) (hk : k < L.length) (hb : s.testBit k = true) (h : okK way L t s k = false) : boundsZ way L t = false := by
  unfold boundsZ
  have : ((List.range (2 ^ L.length)).all fun s => (othersL s L.length (-1)).all fun k => okK way L t s k) = false := by
    rw [List.all_eq_false]
    refine ⟨s, List.mem_range.2 hs, ?_⟩
    rw [Bool.not_eq_true, List.all_eq_false]
    exact ⟨k, othersL_mem.2 ⟨hk, by omega, hb⟩, by simp [h]⟩
  rw [this]
  simp
theorem bounds_good {way : Int} {L : List Pl} {t : List (List Int)} (hl : t.length = 2 ^ L.length) (hr : ∀ r ∈ t, r.length = L.length) (h : ∀ s, s < 2 ^ L.length → ∀ k, k < L.length → s.testBit k = true → okK way L t s k = true) : boundsZ way L t = true := by
  unfold boundsZ
  rw [decide_eq_true hl, Bool.true_and, Bool.and_eq_true]
  refine ⟨?_, ?_⟩
  · rw [Bool.not_eq_true', List.any_eq_false]
    intro r hr2
    simp [hr r hr2]
  · rw [List.all_eq_true]
    intro s hs
    rw [List.all_eq_true]
    intro k hk
    obtain ⟨h1, _, h2⟩ := othersL_mem.1 hk
    exact h s (List.mem_range.1 hs) k h1 h2
theorem ok_bad0 {way : Int} {L : List Pl} {t : List (List Int)} {s k : Nat} (hs : s = 2 ^ k) (h : costZ way pl0 (lp L k) < cellT t s k) : okK way L t s k = false := by
  unfold okK
  rw [decide_eq_true hs, decide_eq_true h]
  simp
theorem ok_badj {way : Int} {L : List Pl} {t : List (List Int)} {s k j : Nat} (hs : s < 256) (hn : L.length ≤ 8) (hk : k < L.length) (hb : s.testBit k = true) (hj : j < L.length) (hbj : (s - 2 ^ k).testBit j = true) (h : cellT t (s - 2 ^ k) j + costZ way (lp L j) (lp L k) < cellT t s k) : okK way L t s k = false := by
  unfold okK
  have : ((othersL s L.length (k : Nat)).all fun j => !decide (cellT t (s - 2 ^ k) j + costZ way (lp L j) (lp L k) < cellT t s k)) = false := by
    rw [others_k hs hn hk hb, List.all_eq_false]
    exact ⟨j, othersL_mem.2 ⟨hj, by omega, hbj⟩, by simp [h]⟩
  rw [this, Bool.and_false]
theorem ok_good {way : Int} {L : List Pl} {t : List (List Int)} {s k : Nat} (hs : s < 256) (hn : L.length ≤ 8) (hk : k < L.length) (hb : s.testBit k = true) (h0 : s = 2 ^ k → ¬ costZ way pl0 (lp L k) < cellT t s k)
    (h : ∀ j, j < L.length → (s - 2 ^ k).testBit j = true → ¬ cellT t (s - 2 ^ k) j + costZ way (lp L j) (lp L k) < cellT t s k) : okK way L t s k = true := by
  unfold okK
  rw [Bool.and_eq_true]
  refine ⟨?_, ?_⟩
  · by_cases e : s = 2 ^ k
    · rw [decide_eq_true e, decide_eq_false (h0 e)]
      rfl
    · rw [decide_eq_false e]
      rfl
  · rw [others_k hs hn hk hb, List.all_eq_true]
    intro j hj
    obtain ⟨h1, _, h2⟩ := othersL_mem.1 hj
    rw [decide_eq_false (h j h1 h2)]
    rfl
set_option maxRecDepth 100000 in
set_option maxHeartbeats 20000000 in
theorem bounds30_any (way : Int) (pl : List Pl) (need : List Int) (tt : List (List Int)) (pv nv tv : Value) (hok : ∀ p ∈ pl, PlOk p) (hneed : NeedOk pl need) (hT : ∀ r ∈ tt, ∀ x ∈ r, -1152921504606846976 ≤ x ∧ x ≤ 1152921504606846976) (w : World) (hp : PlacesAt w pv pl) (hn : IntsAt w nv need) (ht : TabAt w tv tt) :
    Calls Try.prog 50 #[.int .i64 way, pv, nv, tv] w fun e w' => e = .returned (.bool (boundsZ way (needL pl need) tt)) ∧ Below w.heap.size w w' := by
  obtain ⟨a, c, rfl, hca, hma⟩ := hp.form
  obtain ⟨b, d, rfl, hcb, hmb⟩ := hn.1.form
  obtain ⟨g, f, rfl, hcf, hmf⟩ := TabOf.form ht
  have hn8 := hneed.1
  have HNP := hidep (fun j (hj : j < need.length) => need_place hp hn hneed hj)
  have HNL := hidep (needL_len pl need)
  have HLO := hidep (needL_ok (need := need) hok)
  have HTA := hidep (show ∀ X, Below w.heap.size w X → TabAt X (.slice g tt.length f) tt from fun X hX => TabAt.below ht hX)
  have HTB := hidep (fun s k => cellT_bd hT (by decide) (by decide) s k)
  clear hp hn hneed hok ht hT
  obtain ⟨L, hL⟩ : ∃ L, L = needL pl need := ⟨_, rfl⟩
  rw [← hL] at HNP HNL HLO ⊢
  clear hL
  obtain ⟨n, hnn⟩ : ∃ n, need.length = n := ⟨_, rfl⟩
  rw [hnn] at hn8 hcb HNL HNP ⊢
  clear hnn
  have hN := two_pow_lt hn8
  obtain ⟨N, hNN⟩ : ∃ N, N = 2 ^ n := ⟨_, rfl⟩
  rw [← hNN] at hN
  have hN1 : 1 ≤ N := by rw [hNN]; exact Nat.two_pow_pos n
  have hshl : wrap64 (2 ^ n) = ((N : Nat) : Int) := by
    rw [hNN]
    have : ∀ n, n ≤ 8 → wrap64 (2 ^ n) = ((2 ^ n : Nat) : Int) := by decide +kernel
    exact this n hn8
  have HN2 := hidep hNN
  clear hNN
  have hn0 : (0 : Int) ≤ (n : Int) := by omega
  have hn9 : (n : Int) ≤ 8 := by omega
  go_enter Try.func50, Try.ntmps50
  by_cases hlen : tt.length = N
  · have hli : ((tt.length : Int) == (N : Int)) = true := by rw [hlen]; simp
    have HLEN := hidep hlen
    have htl256 : tt.length ≤ 256 := by omega
    clear hlen
    go_upto_region 5 with (fail)
    clear hshl hli
    refine wp_loop (LoopI 120 (fun tm ds wr => (slot tm 0) = .int .i64 way ∧ (slot tm 1) = .slice a pl.length c ∧ (slot tm 2) = .slice b n d ∧ (slot tm 3) = .slice g tt.length f ∧ (slot tm 9) = .int .i64 (n : Nat) ∧ ds = [] ∧ AllI w (fun i => ∀ h : i < tt.length, tt[i].length = n) tt.length (slot tm 10) wr)) (fun a' wr => tt.length - (intOf (a'.tmps.getD 10 undef)).toNat) ?rowsStart ?rowsRound
    case' rowsStart => refine LoopI.mk rfl ?_
    case' rowsRound => (rintro ⟨t, ds⟩ wr ⟨hts, hrel⟩; dsimp only at hts hrel; rw [frame120 t ds hts])
    case rowsStart => exact ⟨rfl, rfl, rfl, rfl, rfl, rfl, 0, Nat.zero_le _, rfl, fun _ h => absurd h (Nat.not_lt_zero _), Below.refl _ _⟩
    obtain ⟨h0, h1, h2, h3, h9, hds, i, hi, h10, hall, hbw⟩ := hrel
    subst hds
    rw [h0, h1, h2, h3, h9, h10]
    clear h0 h1 h2 h3 h9 h10 hts
    have HALL := hidep hall
    clear hall
    by_cases hlt : i < tt.length
    · have hi0 : (0 : Int) ≤ (i : Int) := by omega
      have hi1 : (i : Int) < (tt.length : Int) := by omega
      obtain ⟨tb, tp, u, rfl, _, hc, hu⟩ := tab_get (HTA.out wr hbw) hlt
      obtain ⟨ua, uc, rfl, _, _⟩ := hu.1.form
      by_cases hrn : tt[i].length = n
      · have HA2 := hidep (show ∀ j, j < i + 1 → ∀ h : j < tt.length, tt[j].length = n from fun j hj h => by
          by_cases hji : j = i
          · subst hji
            exact hrn
          · exact HALL.out j (by omega) h)
        rw [hrn] at hc
        clear hu hrn
        go_wp2
        refine ⟨LoopI.mk rfl ⟨rfl, rfl, rfl, rfl, rfl, rfl, i + 1, by omega, by show Value.int _ _ = _; go_num, HA2.out, hbw⟩, ?_⟩
        show tt.length - _ < tt.length - _
        simp [intOf]; omega
      · have HZ := hidep (bounds_row (way := way) (L := L) hlt (by rw [HNL.out]; exact hrn))
        obtain ⟨m, hm⟩ : ∃ m, m = tt[i].length := ⟨_, rfl⟩
        rw [← hm] at hc hrn
        have hmn : ((m : Int) == (n : Int)) = false := beq_false_of_ne (by omega)
        clear hu hm hrn
        go_wp2
        go_ret
        exact ⟨ret_val (congrArg _ HZ.out.symm), hbw⟩
    · have HROWS := hidep (show ∀ r ∈ tt, r.length = n from fun r hr => by
        obtain ⟨j, hj, rfl⟩ := List.getElem_of_mem hr
        exact HALL.out j (by omega) hj)
      clear HALL
      go_upto_region 10 with (fail)
      refine wp_loop (LoopI 120 (fun tm ds wr => (slot tm 0) = .int .i64 way ∧ (slot tm 1) = .slice a pl.length c ∧ (slot tm 2) = .slice b n d ∧ (slot tm 3) = .slice g tt.length f ∧ (slot tm 9) = .int .i64 (n : Nat) ∧ ds = [] ∧ AllI w (fun s => ∀ k, k < n → s.testBit k = true → okK way L tt s k = true) tt.length (slot tm 11) wr)) (fun a' wr => tt.length - (intOf (a'.tmps.getD 11 undef)).toNat) ?setsStart ?setsRound
      case' setsStart => refine LoopI.mk rfl ?_
      case' setsRound => (rintro ⟨t, ds⟩ wr ⟨hts, hrel⟩; dsimp only at hts hrel; rw [frame120 t ds hts])
      case setsStart => exact ⟨rfl, rfl, rfl, rfl, rfl, rfl, 0, Nat.zero_le _, rfl, fun _ h => absurd h (Nat.not_lt_zero _), hbw⟩
      clear hbw hlt hi
      obtain ⟨h0, h1, h2, h3, h9, hds, s, hs, h11, halls, hbws⟩ := hrel
      subst hds
      rw [h0, h1, h2, h3, h9, h11]
      clear h0 h1 h2 h3 h9 h11 hts
      have HALLS := hidep halls
      have HBWS := hidep hbws
      clear halls hbws
      by_cases hsl : s < tt.length
      · have hs0 : (0 : Int) ≤ (s : Int) := by omega
        have hs1 : (s : Int) < (tt.length : Int) := by omega
        have hs256 : s < 256 := by have := HLEN.out; omega
        have HS2 := hidep (show s < 2 ^ n from by have := HLEN.out; have := HN2.out; omega)
        go_upto_region 13 with (fail)
        refine wp_loop (LoopI 120 (fun tm ds wr => (slot tm 0) = .int .i64 way ∧ (slot tm 1) = .slice a pl.length c ∧ (slot tm 2) = .slice b n d ∧ (slot tm 3) = .slice g tt.length f ∧ (slot tm 9) = .int .i64 (n : Nat) ∧ (slot tm 11) = .int .i64 (s : Nat) ∧ ds = [] ∧ AllI w (fun k => s.testBit k = true → okK way L tt s k = true) n (slot tm 12) wr)) (fun a' wr => n - (intOf (a'.tmps.getD 12 undef)).toNat) ?ksStart ?ksRound
        case' ksStart => refine LoopI.mk rfl ?_
        case' ksRound => (rintro ⟨t, ds⟩ wr ⟨hts, hrel⟩; dsimp only at hts hrel; rw [frame120 t ds hts])
        case ksStart => exact ⟨rfl, rfl, rfl, rfl, rfl, rfl, rfl, 0, Nat.zero_le _, rfl, fun _ h => absurd h (Nat.not_lt_zero _), HBWS.out⟩
        obtain ⟨h0, h1, h2, h3, h9, h11, hds, k, hk, h12, hallk, hbwk⟩ := hrel
        subst hds
        rw [h0, h1, h2, h3, h9, h11, h12]
        clear h0 h1 h2 h3 h9 h11 h12 hts HBWS
        have HALLK := hidep hallk
        have HBWK := hidep hbwk
        clear hallk hbwk
        by_cases hkn : k < n
        · have hk0 : (0 : Int) ≤ (k : Int) := by omega
          have hk1 : (k : Int) < (n : Int) := by omega
          have hbit := bit_any s k wr (by omega)
          cases hbk : s.testBit k with
          | false =>
            rw [hbk] at hbit
            have HA2 := hidep (show ∀ j, j < k + 1 → s.testBit j = true → okK way L tt s j = true from fun j hj h => by
              by_cases hjk : j = k
              · rw [hjk, hbk] at h
                cases h
              · exact HALLK.out j (by omega) h)
            clear hbk
            go_wp2_with (first
              | (go_at_call 36; refine hbit.mono ?_; rintro e' w18 ⟨rfl, rfl⟩)
              | fail)
            refine ⟨LoopI.mk rfl ⟨rfl, rfl, rfl, rfl, rfl, rfl, rfl, k + 1, by omega, by show Value.int _ _ = _; go_num, HA2.out, HBWK.out⟩, ?_⟩
            show n - _ < n - _
            simp [intOf]; omega
          | true =>
            rw [hbk] at hbit
            have HBK := hidep hbk
            have hkL : k < L.length := by rw [HNL.out]; exact hkn
            have hLn8 : L.length ≤ 8 := by rw [HNL.out]; exact hn8
            have hge := bit_ge hbk
            have hpos := Nat.two_pow_pos k
            obtain ⟨e, he⟩ : ∃ e, e = s - 2 ^ k := ⟨_, rfl⟩
            have HE := hidep he
            obtain ⟨q, hq⟩ : ∃ q, q = 2 ^ k := ⟨_, rfl⟩
            rw [← hq] at hge hpos he
            have HQ := hidep hq
            have HSK : Hid (wrap64 (2 ^ k) = ((q : Nat) : Int)) := hidep (by
              rw [hq]
              have : ∀ n, n ≤ 8 → wrap64 (2 ^ n) = ((2 ^ n : Nat) : Int) := by decide +kernel
              exact this k (by omega))
            clear hq hbk
            have hqe : IntKind.i64.wrap ((s : Int) - (q : Int)) = (e : Int) := by
              have h1 : (s : Int) - (q : Int) = (e : Int) := by omega
              rw [h1]
              exact IntWalk.i64_in _ (by omega)
            have hes : e < s := by omega
            have HEQ := hidep (show e = 0 ↔ s = q from by omega)
            have hsk := HSK.out
            clear he hge hpos HSK
            go_upto_region 17 with (first
              | (go_at_call 36; refine hbit.mono ?_; rintro e' w18 ⟨rfl, rfl⟩)
              | fail)
            clear hsk hqe hbit
            obtain ⟨tb, tp, ub, uo, uc, rfl, hc1, hc2, huc, hum⟩ := tab_cell (HTA.out wr HBWK.out) HROWS.out hsl hkn
            obtain ⟨nb, no, pb, po, pk, rfl, rfl, hpk, hcells⟩ := HNP.out k hkn
            obtain ⟨z0, z1, z2, z3, z4, z5, z6⟩ := hcells _ HBWK.out
            have hpkok := lp_ok HLO.out k
            have hcb0 := costZ_bd (way := way) pl0_ok hpkok
            have hcv := HTB.out s k
            obtain ⟨xv, hxv⟩ : ∃ x, x = cellT tt s k := ⟨_, rfl⟩
            rw [← hxv] at hc2 hcv
            have HXV := hidep hxv
            obtain ⟨cv, hcv0⟩ : ∃ x, x = costZ way pl0 (lp L k) := ⟨_, rfl⟩
            have HCV := hidep hcv0
            have HCJ := hidep (fun X => cost30_any way pl0 (lp L k) X pl0_ok hpkok)
            rw [← hcv0] at hcb0 HCJ
            have hp0 : (0 : Int) ≤ (pk : Int) := by omega
            have hp1 : (pk : Int) < (pl.length : Int) := by omega
            clear hxv hcv0 hcells
            obtain ⟨tk, htk⟩ : ∃ x, x = lp L k := ⟨_, rfl⟩
            rw [← htk] at z1 z2 z3 z4 z5 z6 HCJ
            have HTK := hidep htk
            have HPK := hidep (show PlOk tk from by rw [htk]; exact hpkok)
            clear htk hpkok
            obtain ⟨b0, b1, b2, b3, b4, b5⟩ := tk
            simp only at z1 z2 z3 z4 z5 z6
            have HCK := hidep (show ∀ X, Below wr.heap.size wr X → X.cell? ⟨tb, tp + s, none⟩ = some (.slice (some ⟨ub, uo, none⟩) n uc) ∧ X.cell? ⟨ub, uo + k, none⟩ = some (.int .i64 xv) ∧
                X.cell? ⟨nb, no + k, none⟩ = some (.int .i64 (pk : Nat)) ∧ X.cell? ⟨pb, po + pk * 6, none⟩ = some (.int .i64 b0) ∧ X.cell? ⟨pb, po + pk * 6 + 1, none⟩ = some (.int .i64 b1) ∧ X.cell? ⟨pb, po + pk * 6 + 2, none⟩ = some (.int .i64 b2) ∧ X.cell? ⟨pb, po + pk * 6 + 3, none⟩ = some (.int .i64 b3) ∧ X.cell? ⟨pb, po + pk * 6 + 4, none⟩ = some (.int .i64 b4) ∧ X.cell? ⟨pb, po + pk * 6 + 5, none⟩ = some (.int .i64 b5) from fun X hX =>
              have hT := Turned.of_below (T := fun _ => False) hX
              ⟨hT.cell hc1 id, hT.cell hc2 id, hT.cell z0 id, hT.cell z1 id, hT.cell z2 id, hT.cell z3 id, hT.cell z4 id, hT.cell z5 id, hT.cell z6 id⟩)
            clear hc1 hc2 z0 z1 z2 z3 z4 z5 z6
            refine wp_join (BdM wr (.int .i64 way) (.slice (some ⟨pb, po, none⟩) pl.length c) (.slice (some ⟨nb, no, none⟩) n d) (.slice (some ⟨tb, tp, none⟩) tt.length f) n s k e (decide (e = 0) && decide (cv < xv))) ?first ?_
            case first =>
              intro K' hMK
              by_cases he0 : e = 0
              · have he0i : ((e : Int) == 0) = true := by rw [he0]; rfl
                have HDE := hidep (decide_eq_true he0)
                clear he0
                refine wp_region_noPanic (wp_region_held_drew (S := (fun X => Below wr.heap.size wr X)) (by kernel_rfl) ?hS50r17n0 (fun hHeld => ?hR50r17n0))
                case hS50r17n0 => ((try dsimp only); (exact (Below.refl _ _).drew))
                refine wpAnyH_take (i := 0) (v := ?v50r17n0q1) rfl (by kernel_rfl) (by kernel_rfl) (by kernel_rfl) (fun _ _ _ h => h) (Or.inl ⟨by kernel_rfl, ?hy50r17n0q1⟩) (by assumption) ?hr50r17n0q1
                case hy50r17n0q1 => (intro w hSw; (try dsimp only at hSw); (obtain ⟨c1, c2, d0, d1, d2, d3, d4, d5, d6⟩ := HCK.out w hSw); first | (go_simp; done) | (go_simp; with_reducible rfl))
                refine wpAnyH_take (i := 1) (v := ?v50r17n0q2) rfl (by kernel_rfl) (by kernel_rfl) (by kernel_rfl) (fun _ _ _ h => h) (Or.inl ⟨by kernel_rfl, ?hy50r17n0q2⟩) (by assumption) ?hr50r17n0q2
                case hy50r17n0q2 => (intro w hSw; (try dsimp only at hSw); (obtain ⟨c1, c2, d0, d1, d2, d3, d4, d5, d6⟩ := HCK.out w hSw); first | (go_simp; done) | (go_simp; with_reducible rfl))
                refine wpAnyH_take (i := 2) (v := ?v50r17n0q3) rfl (by kernel_rfl) (by kernel_rfl) (by kernel_rfl) (fun _ _ _ h => h) (Or.inl ⟨by kernel_rfl, ?hy50r17n0q3⟩) (by assumption) ?hr50r17n0q3
                case hy50r17n0q3 => (intro w hSw; (try dsimp only at hSw); (obtain ⟨c1, c2, d0, d1, d2, d3, d4, d5, d6⟩ := HCK.out w hSw); first | (go_simp; done) | (go_simp; with_reducible rfl))
                refine wpAnyH_take (i := 3) (v := ?v50r17n0q4) rfl (by kernel_rfl) (by kernel_rfl) (by kernel_rfl) (fun _ _ _ h => h) (Or.inl ⟨by kernel_rfl, ?hy50r17n0q4⟩) (by assumption) ?hr50r17n0q4
                case hy50r17n0q4 => (intro w hSw; (try dsimp only at hSw); (obtain ⟨c1, c2, d0, d1, d2, d3, d4, d5, d6⟩ := HCK.out w hSw); first | (go_simp; done) | (go_simp; with_reducible rfl))
                refine wpAnyH_take (i := 4) (v := ?v50r17n0q5) rfl (by kernel_rfl) (by kernel_rfl) (by kernel_rfl) (fun _ _ _ h => h) (Or.inl ⟨by kernel_rfl, ?hy50r17n0q5⟩) (by assumption) ?hr50r17n0q5
                case hy50r17n0q5 => (intro w hSw; (try dsimp only at hSw); (obtain ⟨c1, c2, d0, d1, d2, d3, d4, d5, d6⟩ := HCK.out w hSw); first | (go_simp; done) | (go_simp; with_reducible rfl))
                refine wpAnyH_take (i := 5) (v := ?v50r17n0q6) rfl (by kernel_rfl) (by kernel_rfl) (by kernel_rfl) (fun _ _ _ h => h) (Or.inl ⟨by kernel_rfl, ?hy50r17n0q6⟩) (by assumption) ?hr50r17n0q6
                case hy50r17n0q6 => (intro w hSw; (try dsimp only at hSw); (obtain ⟨c1, c2, d0, d1, d2, d3, d4, d5, d6⟩ := HCK.out w hSw); first | (go_simp; done) | (go_simp; with_reducible rfl))
                refine wpAnyH_take (i := 6) (v := ?v50r17n0q7) rfl (by kernel_rfl) (by kernel_rfl) (by kernel_rfl) (fun _ _ _ h => h) (Or.inl ⟨by kernel_rfl, ?hy50r17n0q7⟩) (by assumption) ?hr50r17n0q7
                case hy50r17n0q7 => (intro w hSw; (try dsimp only at hSw); (obtain ⟨c1, c2, d0, d1, d2, d3, d4, d5, d6⟩ := HCK.out w hSw); first | (go_simp; done) | (go_simp; with_reducible rfl))
                refine wpAnyH_take (i := 7) (v := ?v50r17n0q8) rfl (by kernel_rfl) (by kernel_rfl) (by kernel_rfl) (fun _ _ _ h => h) (Or.inl ⟨by kernel_rfl, ?hy50r17n0q8⟩) (by assumption) ?hr50r17n0q8
                case hy50r17n0q8 => (intro w hSw; (try dsimp only at hSw); (obtain ⟨c1, c2, d0, d1, d2, d3, d4, d5, d6⟩ := HCK.out w hSw); first | (go_simp; done) | (go_simp; with_reducible rfl))
                refine wpAnyH_take (i := 8) (v := ?v50r17n0q9) rfl (by kernel_rfl) (by kernel_rfl) (by kernel_rfl) (fun _ _ _ h => h) (Or.inl ⟨by kernel_rfl, ?hy50r17n0q9⟩) (by assumption) ?hr50r17n0q9
                case hy50r17n0q9 => (intro w hSw; (try dsimp only at hSw); (obtain ⟨c1, c2, d0, d1, d2, d3, d4, d5, d6⟩ := HCK.out w hSw); first | (go_simp; done) | (go_simp; with_reducible rfl))
                refine wpAnyH_take (i := 9) (v := ?v50r17n0q10) rfl (by kernel_rfl) (by kernel_rfl) (by kernel_rfl) (fun _ _ _ h => h) (Or.inl ⟨by kernel_rfl, ?hy50r17n0q10⟩) (by assumption) ?hr50r17n0q10
                case hy50r17n0q10 => (intro w hSw; (try dsimp only at hSw); (obtain ⟨c1, c2, d0, d1, d2, d3, d4, d5, d6⟩ := HCK.out w hSw); first | (go_simp; done) | (go_simp; with_reducible rfl))
                refine wpAnyH_take (i := 10) (v := ?v50r17n0q11) rfl (by kernel_rfl) (by kernel_rfl) (by kernel_rfl) (fun _ _ _ h => h) (Or.inl ⟨by kernel_rfl, ?hy50r17n0q11⟩) (by assumption) ?hr50r17n0q11
                case hy50r17n0q11 => (intro w hSw; (try dsimp only at hSw); (obtain ⟨c1, c2, d0, d1, d2, d3, d4, d5, d6⟩ := HCK.out w hSw); first | (go_simp; done) | (go_simp; with_reducible rfl))
                refine wpAnyH_take (i := 11) (v := ?v50r17n0q12) rfl (by kernel_rfl) (by kernel_rfl) (by kernel_rfl) (fun _ _ _ h => h) (Or.inl ⟨by kernel_rfl, ?hy50r17n0q12⟩) (by assumption) ?hr50r17n0q12
                case hy50r17n0q12 => (intro w hSw; (try dsimp only at hSw); (obtain ⟨c1, c2, d0, d1, d2, d3, d4, d5, d6⟩ := HCK.out w hSw); first | (go_simp; done) | (go_simp; with_reducible rfl))
                refine wpAnyH_take (i := 12) (v := ?v50r17n0q13) rfl (by kernel_rfl) (by kernel_rfl) (by kernel_rfl) (fun _ _ _ h => h) (Or.inl ⟨by kernel_rfl, ?hy50r17n0q13⟩) (by assumption) ?hr50r17n0q13
                case hy50r17n0q13 => (intro w hSw; (try dsimp only at hSw); (obtain ⟨c1, c2, d0, d1, d2, d3, d4, d5, d6⟩ := HCK.out w hSw); first | (go_simp; done) | (go_simp; with_reducible rfl))
                refine wpAnyH_take (i := 13) (v := ?v50r17n0q14) rfl (by kernel_rfl) (by kernel_rfl) (by kernel_rfl) (fun _ _ _ h => h) (Or.inl ⟨by kernel_rfl, ?hy50r17n0q14⟩) (by assumption) ?hr50r17n0q14
                case hy50r17n0q14 => (intro w hSw; (try dsimp only at hSw); (obtain ⟨c1, c2, d0, d1, d2, d3, d4, d5, d6⟩ := HCK.out w hSw); first | (go_simp; done) | (go_simp; with_reducible rfl))
                refine wpAnyH_take (i := 14) (v := ?v50r17n0q15) rfl (by kernel_rfl) (by kernel_rfl) (by kernel_rfl) (fun _ _ _ h => h) (Or.inl ⟨by kernel_rfl, ?hy50r17n0q15⟩) (by assumption) ?hr50r17n0q15
                case hy50r17n0q15 => (intro w hSw; (try dsimp only at hSw); (obtain ⟨c1, c2, d0, d1, d2, d3, d4, d5, d6⟩ := HCK.out w hSw); first | (go_simp; done) | (go_simp; with_reducible rfl))
                refine wpAnyH_take (i := 15) (v := ?v50r17n0q16) rfl (by kernel_rfl) (by kernel_rfl) (by kernel_rfl) (fun _ _ _ h => h) (Or.inl ⟨by kernel_rfl, ?hy50r17n0q16⟩) (by assumption) ?hr50r17n0q16
                case hy50r17n0q16 => (intro w hSw; (try dsimp only at hSw); (obtain ⟨c1, c2, d0, d1, d2, d3, d4, d5, d6⟩ := HCK.out w hSw); first | (go_simp; done) | (go_simp; with_reducible rfl))
                refine wpAnyH_take (i := 16) (v := ?v50r17n0q17) rfl (by kernel_rfl) (by kernel_rfl) (by kernel_rfl) (fun _ _ _ h => h) (Or.inl ⟨by kernel_rfl, ?hy50r17n0q17⟩) (by assumption) ?hr50r17n0q17
                case hy50r17n0q17 => (intro w hSw; (try dsimp only at hSw); (obtain ⟨c1, c2, d0, d1, d2, d3, d4, d5, d6⟩ := HCK.out w hSw); first | (go_simp; done) | (go_simp; with_reducible rfl))
                refine wpAnyH_take (i := 17) (v := ?v50r17n0q18) rfl (by kernel_rfl) (by kernel_rfl) (by kernel_rfl) (fun _ _ _ h => h) (Or.inl ⟨by kernel_rfl, ?hy50r17n0q18⟩) (by assumption) ?hr50r17n0q18
                case hy50r17n0q18 => (intro w hSw; (try dsimp only at hSw); (obtain ⟨c1, c2, d0, d1, d2, d3, d4, d5, d6⟩ := HCK.out w hSw); first | (go_simp; done) | (go_simp; with_reducible rfl))
                refine wpAnyH_take (i := 18) (v := ?v50r17n0q19) rfl (by kernel_rfl) (by kernel_rfl) (by kernel_rfl) (fun _ _ _ h => h) (Or.inl ⟨by kernel_rfl, ?hy50r17n0q19⟩) (by assumption) ?hr50r17n0q19
                case hy50r17n0q19 => (intro w hSw; (try dsimp only at hSw); (obtain ⟨c1, c2, d0, d1, d2, d3, d4, d5, d6⟩ := HCK.out w hSw); first | (go_simp; done) | (go_simp; with_reducible rfl))
                refine wpAnyH_ready (rs := [19]) (by kernel_rfl) (by simp) (AllReadyH.cons rfl (fun K hK => ?hc50r17n0q20) AllReadyH.nil)
                go_simp
                (go_at_call 13; refine (HCJ.out _).mono ?_; rintro e' w8 ⟨rfl, hb8⟩; have hk8 := hHeld.trans (hb8.mono hHeld.size); (try dsimp only))
                refine hK.out _ _ ?hs50r17n0q20 (fun hHeld50r17n0q20 => ?ht50r17n0q20)
                case hs50r17n0q20 => ((try dsimp only); (first | exact hk8))
                clear hHeld hK
                have hHeld := hHeld50r17n0q20
                clear hHeld50r17n0q20
                refine wpAnyH_take (i := 20) (v := ?v50r17n0q21) rfl (by kernel_rfl) (by kernel_rfl) (by kernel_rfl) (fun _ _ _ h => h) (Or.inl ⟨by kernel_rfl, ?hy50r17n0q21⟩) (by assumption) ?hr50r17n0q21
                case hy50r17n0q21 => (intro w hSw; (try dsimp only at hSw); (obtain ⟨c1, c2, d0, d1, d2, d3, d4, d5, d6⟩ := HCK.out w hSw); first | (go_simp; done) | (go_simp; with_reducible rfl))
                refine wpAnyH_take (i := 21) (v := ?v50r17n0q22) rfl (by kernel_rfl) (by kernel_rfl) (by kernel_rfl) (fun _ _ _ h => h) (Or.inl ⟨by kernel_rfl, ?hy50r17n0q22⟩) (by assumption) ?hr50r17n0q22
                case hy50r17n0q22 => (intro w hSw; (try dsimp only at hSw); (obtain ⟨c1, c2, d0, d1, d2, d3, d4, d5, d6⟩ := HCK.out w hSw); first | (go_simp; done) | (go_simp; with_reducible rfl))
                refine wpAnyH_done (by kernel_rfl) ?_ _
                clear hHeld
                refine NoPanic.normal ?_
                have hkk : Below wr.heap.size wr w8 := hk8
                dsimp only [Exit.then]
                refine hMK _ _ ⟨rfl, rfl, by kernel_rfl, by kernel_rfl, by kernel_rfl, by kernel_rfl, by kernel_rfl, by kernel_rfl, by kernel_rfl, by kernel_rfl, by rw [HDE.out]; kernel_rfl, hkk⟩
              · have he0i : ((e : Int) == 0) = false := beq_false_of_ne (by omega)
                have HDE := hidep (decide_eq_false he0)
                clear he0
                go_quiet (fail)
                dsimp only [Exit.then]
                refine hMK _ _ ⟨rfl, rfl, by kernel_rfl, by kernel_rfl, by kernel_rfl, by kernel_rfl, by kernel_rfl, by kernel_rfl, by kernel_rfl, by kernel_rfl, by rw [HDE.out]; kernel_rfl, below_drewN (Below.refl _ _) _⟩
            rintro ⟨tm1, ds1⟩ W1 ⟨h120, hds, e0, e1, e2, e3, e9, e11, e12, e13, e77, hb1⟩
            simp only at h120 hds e0 e1 e2 e3 e9 e11 e12 e13 e77
            subst hds
            apply_assumption
            cases hbq : (decide (e = 0) && decide (cv < xv)) with
            | true =>
              rw [hbq] at e77
              rw [frame120 tm1 [] h120, e0, e1, e2, e3, e9, e11, e12, e13, e77]
              have hfin : boundsZ way L tt = false := by
                simp only [Bool.and_eq_true, decide_eq_true_eq] at hbq
                refine bounds_bad (by rw [HNL.out]; exact HS2.out) hkL HBK.out (ok_bad0 ?_ ?_)
                · rw [← HQ.out]
                  exact HEQ.out.1 hbq.1
                · rw [← HCV.out, ← HXV.out]
                  exact hbq.2
              have HFIN := hidep hfin
              have hb0 := HBWK.out.trans (hb1.mono HBWK.out.size)
              clear h120 e0 e1 e2 e3 e9 e11 e12 e13 e77 hbq hfin
              go_wp2
              go_ret
              exact ⟨ret_val (congrArg _ HFIN.out.symm), hb0⟩
            | false =>
              rw [hbq] at e77
              rw [frame120 tm1 [] h120, e0, e1, e2, e3, e9, e11, e12, e13, e77]
              have HZQ := hidep (show s = 2 ^ k → ¬ costZ way pl0 (lp L k) < cellT tt s k from fun hs2 hlt => by
                rw [← HCV.out, ← HXV.out] at hlt
                have : e = 0 := HEQ.out.2 (by rw [HQ.out]; exact hs2)
                rw [decide_eq_true this, decide_eq_true hlt] at hbq
                cases hbq)
              have HB1 := hidep (HBWK.out.trans (hb1.mono HBWK.out.size))
              have HB1r := hidep hb1
              clear h120 e0 e1 e2 e3 e9 e11 e12 e13 e77 hbq hb1
              obtain ⟨wk, hwk⟩ : ∃ wk : World, wk = wr := ⟨_, rfl⟩
              rw [← hwk] at HCK HB1r HBWK
              clear hwk
              have HB1' := HB1.out
              go_upto_region 20 with (fail)
              refine wp_loop (LoopI 120 (fun tm ds wr => (slot tm 0) = .int .i64 way ∧ (slot tm 1) = .slice (some ⟨pb, po, none⟩) pl.length c ∧ (slot tm 2) = .slice (some ⟨nb, no, none⟩) n d ∧ (slot tm 3) = .slice (some ⟨tb, tp, none⟩) tt.length f ∧ (slot tm 9) = .int .i64 (n : Nat) ∧ (slot tm 11) = .int .i64 (s : Nat) ∧ (slot tm 12) = .int .i64 (k : Nat) ∧ (slot tm 13) = .int .i64 (e : Nat) ∧ ds = [] ∧ AllI wk (fun j => e.testBit j = true → ¬ cellT tt e j + costZ way (lp L j) (lp L k) < xv) n (slot tm 14) wr)) (fun a' wr => n - (intOf (a'.tmps.getD 14 undef)).toNat) ?jsStart ?jsRound
              case' jsStart => refine LoopI.mk rfl ?_
              case' jsRound => (rintro ⟨t, ds⟩ wr ⟨hts, hrel⟩; dsimp only at hts hrel; rw [frame120 t ds hts])
              case jsStart => exact ⟨rfl, rfl, rfl, rfl, rfl, rfl, rfl, rfl, rfl, 0, Nat.zero_le _, rfl, fun _ h => absurd h (Nat.not_lt_zero _), HB1r.out⟩
              clear HB1 HB1' HB1r
              obtain ⟨h0, h1, h2, h3, h9, h11, h12, h13, hds, j, hj, h14, hallj, hbj⟩ := hrel
              subst hds
              rw [h0, h1, h2, h3, h9, h11, h12, h13, h14]
              clear h0 h1 h2 h3 h9 h11 h12 h13 h14 hts
              have HALLJ := hidep hallj
              have hb0j := HBWK.out.trans (hbj.mono HBWK.out.size)
              clear hallj
              by_cases hjn : j < n
              · have hj0 : (0 : Int) ≤ (j : Int) := by omega
                have hj1 : (j : Int) < (n : Int) := by omega
                have hbit := bit_any e j
                cases hbj2 : e.testBit j with
                | false =>
                  rw [hbj2] at hbit
                  have HBT := hidep (fun W => hbit W (by omega))
                  have HA2 := hidep (show ∀ x, x < j + 1 → e.testBit x = true → ¬ cellT tt e x + costZ way (lp L x) (lp L k) < xv from fun x hx h => by
                    by_cases hxj : x = j
                    · rw [hxj, hbj2] at h
                      cases h
                    · exact HALLJ.out x (by omega) h)
                  clear hbj2 hbit
                  go_upto_region 22 with (fail)
                  go_quiet ((go_at_call 36; refine (HBT.out _).mono ?_; rintro e' w' ⟨rfl, rfl⟩; exact ⟨rfl, _, rfl⟩))
                  apply_assumption
                  refine wp_abs (fun X => Below wk.heap.size wk X) (hbj.trans ((below_drewN (Below.refl _ _) _).mono hbj.size)) ?_
                  rintro X hX
                  go_wp2
                  refine ⟨LoopI.mk rfl ⟨rfl, rfl, rfl, rfl, rfl, rfl, rfl, rfl, rfl, j + 1, by omega, by show Value.int _ _ = _; go_num, HA2.out, hX⟩, ?_⟩
                  show n - _ < n - _
                  simp [intOf]; omega
                | true =>
                  rw [hbj2] at hbit
                  have HBT := hidep (fun W => hbit W (by omega))
                  have HBJ := hidep hbj2
                  clear hbj2 hbit
                  obtain ⟨tb2, tp2, ub2, uo2, uc2, he1, hc1, hc2, huc2, hum2⟩ := tab_cell (HTA.out wr hb0j) HROWS.out (s := e) (k := j) (by omega) hjn
                  injection he1 with he1
                  injection he1 with hx1 hx2
                  subst hx1 hx2
                  obtain ⟨nb2, no2, pb2, po2, pj, he1, he2, hpj, hcells⟩ := HNP.out j hjn
                  injection he1 with he1
                  injection he1 with hx1 hx2
                  injection he2 with he2
                  injection he2 with hx3 hx4
                  subst hx1 hx2 hx3 hx4
                  obtain ⟨z0, z1, z2, z3, z4, z5, z6⟩ := hcells _ hb0j
                  have hpjok := lp_ok HLO.out j
                  have hcb := costZ_bd (way := way) hpjok (show PlOk (lp L k) from by rw [← HTK.out]; exact HPK.out)
                  have hyv := HTB.out e j
                  have HCJ2 := hidep (fun X => cost30_any way (lp L j) (lp L k) X hpjok (by rw [← HTK.out]; exact HPK.out))
                  rw [← HTK.out] at HCJ2 hcb
                  obtain ⟨yv, hyve⟩ : ∃ x, x = cellT tt e j := ⟨_, rfl⟩
                  rw [← hyve] at hc2 hyv
                  obtain ⟨cj, hcje⟩ : ∃ x, x = costZ way (lp L j) ⟨b0, b1, b2, b3, b4, b5⟩ := ⟨_, rfl⟩
                  rw [← hcje] at hcb HCJ2
                  have HYV := hidep hyve
                  have HCJE := hidep (show cj = costZ way (lp L j) (lp L k) from by rw [hcje, ← HTK.out])
                  clear hyve hcje hcells hpjok
                  obtain ⟨tj, htj⟩ : ∃ x, x = lp L j := ⟨_, rfl⟩
                  rw [← htj] at z1 z2 z3 z4 z5 z6 HCJ2 HCJE
                  have HTJ := hidep htj
                  clear htj
                  obtain ⟨a0, a1, a2, a3, a4, a5⟩ := tj
                  simp only at z1 z2 z3 z4 z5 z6
                  have hwz : IntKind.i64.wrap (yv + cj) = yv + cj := IntWalk.i64_in _ (by omega)
                  have hq0 : (0 : Int) ≤ (pj : Int) := by omega
                  have hq1 : (pj : Int) < (pl.length : Int) := by omega
                  have he3 : (0 : Int) ≤ (e : Int) := by omega
                  have he4 : (e : Int) < (tt.length : Int) := by omega
                  obtain ⟨v0, v1, v2, v3, v4, v5, v6, v7, v8⟩ := HCK.out wr hbj
                  have HCC := hidep (show ∀ X, Below wr.heap.size wr X → (X.cell? ⟨tb, tp + s, none⟩ = some (.slice (some ⟨ub, uo, none⟩) n uc) ∧ X.cell? ⟨ub, uo + k, none⟩ = some (.int .i64 xv) ∧ X.cell? ⟨tb, tp + e, none⟩ = some (.slice (some ⟨ub2, uo2, none⟩) n uc2) ∧ X.cell? ⟨ub2, uo2 + j, none⟩ = some (.int .i64 yv)) ∧
                      (X.cell? ⟨nb, no + j, none⟩ = some (.int .i64 (pj : Nat)) ∧ X.cell? ⟨pb, po + pj * 6, none⟩ = some (.int .i64 a0) ∧ X.cell? ⟨pb, po + pj * 6 + 1, none⟩ = some (.int .i64 a1) ∧ X.cell? ⟨pb, po + pj * 6 + 2, none⟩ = some (.int .i64 a2) ∧ X.cell? ⟨pb, po + pj * 6 + 3, none⟩ = some (.int .i64 a3) ∧ X.cell? ⟨pb, po + pj * 6 + 4, none⟩ = some (.int .i64 a4) ∧ X.cell? ⟨pb, po + pj * 6 + 5, none⟩ = some (.int .i64 a5)) ∧
                      (X.cell? ⟨nb, no + k, none⟩ = some (.int .i64 (pk : Nat)) ∧ X.cell? ⟨pb, po + pk * 6, none⟩ = some (.int .i64 b0) ∧ X.cell? ⟨pb, po + pk * 6 + 1, none⟩ = some (.int .i64 b1) ∧ X.cell? ⟨pb, po + pk * 6 + 2, none⟩ = some (.int .i64 b2) ∧ X.cell? ⟨pb, po + pk * 6 + 3, none⟩ = some (.int .i64 b3) ∧ X.cell? ⟨pb, po + pk * 6 + 4, none⟩ = some (.int .i64 b4) ∧ X.cell? ⟨pb, po + pk * 6 + 5, none⟩ = some (.int .i64 b5)) from fun X hX =>
                    have hT := Turned.of_below (T := fun _ => False) hX
                    ⟨⟨hT.cell v0 id, hT.cell v1 id, hT.cell hc1 id, hT.cell hc2 id⟩, ⟨hT.cell z0 id, hT.cell z1 id, hT.cell z2 id, hT.cell z3 id, hT.cell z4 id, hT.cell z5 id, hT.cell z6 id⟩, ⟨hT.cell v2 id, hT.cell v3 id, hT.cell v4 id, hT.cell v5 id, hT.cell v6 id, hT.cell v7 id, hT.cell v8 id⟩⟩)
                  clear v0 v1 v2 v3 v4 v5 v6 v7 v8 hc1 hc2 z0 z1 z2 z3 z4 z5 z6
                  go_upto_region 22 with (fail)
                  refine wp_region_noPanic (wp_region_held_drew (S := (fun X => Below wr.heap.size wr X)) (by kernel_rfl) ?hS50r22n1 (fun hHeld => ?hR50r22n1))
                  case hS50r22n1 => ((try dsimp only); (exact (Below.refl _ _).drew))
                  refine wpAnyH_take (i := 0) (v := ?v50r22n1q1) rfl (by kernel_rfl) (by kernel_rfl) (by kernel_rfl) (fun _ _ _ h => h) (Or.inl ⟨by kernel_rfl, ?hy50r22n1q1⟩) (by assumption) ?hr50r22n1q1
                  case hy50r22n1q1 => (intro w hSw; (try dsimp only at hSw); (obtain ⟨⟨c1, c2, c3, c4⟩, ⟨d0, d1, d2, d3, d4, d5, d6⟩, ⟨f0, f1, f2, f3, f4, f5, f6⟩⟩ := HCC.out w hSw); first | (go_simp; done) | (go_simp; with_reducible rfl))
                  refine wpAnyH_take (i := 1) (v := ?v50r22n1q2) rfl (by kernel_rfl) (by kernel_rfl) (by kernel_rfl) (fun _ _ _ h => h) (Or.inl ⟨by kernel_rfl, ?hy50r22n1q2⟩) (by assumption) ?hr50r22n1q2
                  case hy50r22n1q2 => (intro w hSw; (try dsimp only at hSw); (obtain ⟨⟨c1, c2, c3, c4⟩, ⟨d0, d1, d2, d3, d4, d5, d6⟩, ⟨f0, f1, f2, f3, f4, f5, f6⟩⟩ := HCC.out w hSw); first | (go_simp; done) | (go_simp; with_reducible rfl))
                  refine wpAnyH_ready (rs := [2]) (by kernel_rfl) (by simp) (AllReadyH.cons rfl (fun K hK => ?hc50r22n1q3) AllReadyH.nil)
                  go_simp
                  (go_at_call 36; refine (HBT.out _).mono ?_; rintro e' w7 ⟨rfl, rfl⟩; (try dsimp only))
                  refine hK.out _ _ ?hs50r22n1q3 (fun hHeld50r22n1q3 => ?ht50r22n1q3)
                  case hs50r22n1q3 => ((try dsimp only); (first | (with_reducible exact hHeld) | exact hk8))
                  clear hHeld hK
                  have hHeld := hHeld50r22n1q3
                  clear hHeld50r22n1q3
                  refine wpAnyH_take (i := 3) (v := ?v50r22n1q4) rfl (by kernel_rfl) (by kernel_rfl) (by kernel_rfl) (fun _ _ _ h => h) (Or.inl ⟨by kernel_rfl, ?hy50r22n1q4⟩) (by assumption) ?hr50r22n1q4
                  case hy50r22n1q4 => (intro w hSw; (try dsimp only at hSw); (obtain ⟨⟨c1, c2, c3, c4⟩, ⟨d0, d1, d2, d3, d4, d5, d6⟩, ⟨f0, f1, f2, f3, f4, f5, f6⟩⟩ := HCC.out w hSw); first | (go_simp; done) | (go_simp; with_reducible rfl))
                  refine wpAnyH_take (i := 4) (v := ?v50r22n1q5) rfl (by kernel_rfl) (by kernel_rfl) (by kernel_rfl) (fun _ _ _ h => h) (Or.inl ⟨by kernel_rfl, ?hy50r22n1q5⟩) (by assumption) ?hr50r22n1q5
                  case hy50r22n1q5 => (intro w hSw; (try dsimp only at hSw); (obtain ⟨⟨c1, c2, c3, c4⟩, ⟨d0, d1, d2, d3, d4, d5, d6⟩, ⟨f0, f1, f2, f3, f4, f5, f6⟩⟩ := HCC.out w hSw); first | (go_simp; done) | (go_simp; with_reducible rfl))
                  refine wpAnyH_take (i := 5) (v := ?v50r22n1q6) rfl (by kernel_rfl) (by kernel_rfl) (by kernel_rfl) (fun _ _ _ h => h) (Or.inl ⟨by kernel_rfl, ?hy50r22n1q6⟩) (by assumption) ?hr50r22n1q6
                  case hy50r22n1q6 => (intro w hSw; (try dsimp only at hSw); (obtain ⟨⟨c1, c2, c3, c4⟩, ⟨d0, d1, d2, d3, d4, d5, d6⟩, ⟨f0, f1, f2, f3, f4, f5, f6⟩⟩ := HCC.out w hSw); first | (go_simp; done) | (go_simp; with_reducible rfl))
                  refine wpAnyH_take (i := 6) (v := ?v50r22n1q7) rfl (by kernel_rfl) (by kernel_rfl) (by kernel_rfl) (fun _ _ _ h => h) (Or.inl ⟨by kernel_rfl, ?hy50r22n1q7⟩) (by assumption) ?hr50r22n1q7
                  case hy50r22n1q7 => (intro w hSw; (try dsimp only at hSw); (obtain ⟨⟨c1, c2, c3, c4⟩, ⟨d0, d1, d2, d3, d4, d5, d6⟩, ⟨f0, f1, f2, f3, f4, f5, f6⟩⟩ := HCC.out w hSw); first | (go_simp; done) | (go_simp; with_reducible rfl))
                  refine wpAnyH_take (i := 7) (v := ?v50r22n1q8) rfl (by kernel_rfl) (by kernel_rfl) (by kernel_rfl) (fun _ _ _ h => h) (Or.inl ⟨by kernel_rfl, ?hy50r22n1q8⟩) (by assumption) ?hr50r22n1q8
                  case hy50r22n1q8 => (intro w hSw; (try dsimp only at hSw); (obtain ⟨⟨c1, c2, c3, c4⟩, ⟨d0, d1, d2, d3, d4, d5, d6⟩, ⟨f0, f1, f2, f3, f4, f5, f6⟩⟩ := HCC.out w hSw); first | (go_simp; done) | (go_simp; with_reducible rfl))
                  refine wpAnyH_take (i := 8) (v := ?v50r22n1q9) rfl (by kernel_rfl) (by kernel_rfl) (by kernel_rfl) (fun _ _ _ h => h) (Or.inl ⟨by kernel_rfl, ?hy50r22n1q9⟩) (by assumption) ?hr50r22n1q9
                  case hy50r22n1q9 => (intro w hSw; (try dsimp only at hSw); (obtain ⟨⟨c1, c2, c3, c4⟩, ⟨d0, d1, d2, d3, d4, d5, d6⟩, ⟨f0, f1, f2, f3, f4, f5, f6⟩⟩ := HCC.out w hSw); first | (go_simp; done) | (go_simp; with_reducible rfl))
                  refine wpAnyH_take (i := 9) (v := ?v50r22n1q10) rfl (by kernel_rfl) (by kernel_rfl) (by kernel_rfl) (fun _ _ _ h => h) (Or.inl ⟨by kernel_rfl, ?hy50r22n1q10⟩) (by assumption) ?hr50r22n1q10
                  case hy50r22n1q10 => (intro w hSw; (try dsimp only at hSw); (obtain ⟨⟨c1, c2, c3, c4⟩, ⟨d0, d1, d2, d3, d4, d5, d6⟩, ⟨f0, f1, f2, f3, f4, f5, f6⟩⟩ := HCC.out w hSw); first | (go_simp; done) | (go_simp; with_reducible rfl))
                  refine wpAnyH_take (i := 10) (v := ?v50r22n1q11) rfl (by kernel_rfl) (by kernel_rfl) (by kernel_rfl) (fun _ _ _ h => h) (Or.inl ⟨by kernel_rfl, ?hy50r22n1q11⟩) (by assumption) ?hr50r22n1q11
                  case hy50r22n1q11 => (intro w hSw; (try dsimp only at hSw); (obtain ⟨⟨c1, c2, c3, c4⟩, ⟨d0, d1, d2, d3, d4, d5, d6⟩, ⟨f0, f1, f2, f3, f4, f5, f6⟩⟩ := HCC.out w hSw); first | (go_simp; done) | (go_simp; with_reducible rfl))
                  refine wpAnyH_take (i := 11) (v := ?v50r22n1q12) rfl (by kernel_rfl) (by kernel_rfl) (by kernel_rfl) (fun _ _ _ h => h) (Or.inl ⟨by kernel_rfl, ?hy50r22n1q12⟩) (by assumption) ?hr50r22n1q12
                  case hy50r22n1q12 => (intro w hSw; (try dsimp only at hSw); (obtain ⟨⟨c1, c2, c3, c4⟩, ⟨d0, d1, d2, d3, d4, d5, d6⟩, ⟨f0, f1, f2, f3, f4, f5, f6⟩⟩ := HCC.out w hSw); first | (go_simp; done) | (go_simp; with_reducible rfl))
                  refine wpAnyH_take (i := 12) (v := ?v50r22n1q13) rfl (by kernel_rfl) (by kernel_rfl) (by kernel_rfl) (fun _ _ _ h => h) (Or.inl ⟨by kernel_rfl, ?hy50r22n1q13⟩) (by assumption) ?hr50r22n1q13
                  case hy50r22n1q13 => (intro w hSw; (try dsimp only at hSw); (obtain ⟨⟨c1, c2, c3, c4⟩, ⟨d0, d1, d2, d3, d4, d5, d6⟩, ⟨f0, f1, f2, f3, f4, f5, f6⟩⟩ := HCC.out w hSw); first | (go_simp; done) | (go_simp; with_reducible rfl))
                  refine wpAnyH_take (i := 13) (v := ?v50r22n1q14) rfl (by kernel_rfl) (by kernel_rfl) (by kernel_rfl) (fun _ _ _ h => h) (Or.inl ⟨by kernel_rfl, ?hy50r22n1q14⟩) (by assumption) ?hr50r22n1q14
                  case hy50r22n1q14 => (intro w hSw; (try dsimp only at hSw); (obtain ⟨⟨c1, c2, c3, c4⟩, ⟨d0, d1, d2, d3, d4, d5, d6⟩, ⟨f0, f1, f2, f3, f4, f5, f6⟩⟩ := HCC.out w hSw); first | (go_simp; done) | (go_simp; with_reducible rfl))
                  refine wpAnyH_take (i := 14) (v := ?v50r22n1q15) rfl (by kernel_rfl) (by kernel_rfl) (by kernel_rfl) (fun _ _ _ h => h) (Or.inl ⟨by kernel_rfl, ?hy50r22n1q15⟩) (by assumption) ?hr50r22n1q15
                  case hy50r22n1q15 => (intro w hSw; (try dsimp only at hSw); (obtain ⟨⟨c1, c2, c3, c4⟩, ⟨d0, d1, d2, d3, d4, d5, d6⟩, ⟨f0, f1, f2, f3, f4, f5, f6⟩⟩ := HCC.out w hSw); first | (go_simp; done) | (go_simp; with_reducible rfl))
                  refine wpAnyH_take (i := 15) (v := ?v50r22n1q16) rfl (by kernel_rfl) (by kernel_rfl) (by kernel_rfl) (fun _ _ _ h => h) (Or.inl ⟨by kernel_rfl, ?hy50r22n1q16⟩) (by assumption) ?hr50r22n1q16
                  case hy50r22n1q16 => (intro w hSw; (try dsimp only at hSw); (obtain ⟨⟨c1, c2, c3, c4⟩, ⟨d0, d1, d2, d3, d4, d5, d6⟩, ⟨f0, f1, f2, f3, f4, f5, f6⟩⟩ := HCC.out w hSw); first | (go_simp; done) | (go_simp; with_reducible rfl))
                  refine wpAnyH_take (i := 16) (v := ?v50r22n1q17) rfl (by kernel_rfl) (by kernel_rfl) (by kernel_rfl) (fun _ _ _ h => h) (Or.inl ⟨by kernel_rfl, ?hy50r22n1q17⟩) (by assumption) ?hr50r22n1q17
                  case hy50r22n1q17 => (intro w hSw; (try dsimp only at hSw); (obtain ⟨⟨c1, c2, c3, c4⟩, ⟨d0, d1, d2, d3, d4, d5, d6⟩, ⟨f0, f1, f2, f3, f4, f5, f6⟩⟩ := HCC.out w hSw); first | (go_simp; done) | (go_simp; with_reducible rfl))
                  refine wpAnyH_take (i := 17) (v := ?v50r22n1q18) rfl (by kernel_rfl) (by kernel_rfl) (by kernel_rfl) (fun _ _ _ h => h) (Or.inl ⟨by kernel_rfl, ?hy50r22n1q18⟩) (by assumption) ?hr50r22n1q18
                  case hy50r22n1q18 => (intro w hSw; (try dsimp only at hSw); (obtain ⟨⟨c1, c2, c3, c4⟩, ⟨d0, d1, d2, d3, d4, d5, d6⟩, ⟨f0, f1, f2, f3, f4, f5, f6⟩⟩ := HCC.out w hSw); first | (go_simp; done) | (go_simp; with_reducible rfl))
                  refine wpAnyH_take (i := 18) (v := ?v50r22n1q19) rfl (by kernel_rfl) (by kernel_rfl) (by kernel_rfl) (fun _ _ _ h => h) (Or.inl ⟨by kernel_rfl, ?hy50r22n1q19⟩) (by assumption) ?hr50r22n1q19
                  case hy50r22n1q19 => (intro w hSw; (try dsimp only at hSw); (obtain ⟨⟨c1, c2, c3, c4⟩, ⟨d0, d1, d2, d3, d4, d5, d6⟩, ⟨f0, f1, f2, f3, f4, f5, f6⟩⟩ := HCC.out w hSw); first | (go_simp; done) | (go_simp; with_reducible rfl))
                  refine wpAnyH_take (i := 19) (v := ?v50r22n1q20) rfl (by kernel_rfl) (by kernel_rfl) (by kernel_rfl) (fun _ _ _ h => h) (Or.inl ⟨by kernel_rfl, ?hy50r22n1q20⟩) (by assumption) ?hr50r22n1q20
                  case hy50r22n1q20 => (intro w hSw; (try dsimp only at hSw); (obtain ⟨⟨c1, c2, c3, c4⟩, ⟨d0, d1, d2, d3, d4, d5, d6⟩, ⟨f0, f1, f2, f3, f4, f5, f6⟩⟩ := HCC.out w hSw); first | (go_simp; done) | (go_simp; with_reducible rfl))
                  refine wpAnyH_take (i := 20) (v := ?v50r22n1q21) rfl (by kernel_rfl) (by kernel_rfl) (by kernel_rfl) (fun _ _ _ h => h) (Or.inl ⟨by kernel_rfl, ?hy50r22n1q21⟩) (by assumption) ?hr50r22n1q21
                  case hy50r22n1q21 => (intro w hSw; (try dsimp only at hSw); (obtain ⟨⟨c1, c2, c3, c4⟩, ⟨d0, d1, d2, d3, d4, d5, d6⟩, ⟨f0, f1, f2, f3, f4, f5, f6⟩⟩ := HCC.out w hSw); first | (go_simp; done) | (go_simp; with_reducible rfl))
                  refine wpAnyH_take (i := 21) (v := ?v50r22n1q22) rfl (by kernel_rfl) (by kernel_rfl) (by kernel_rfl) (fun _ _ _ h => h) (Or.inl ⟨by kernel_rfl, ?hy50r22n1q22⟩) (by assumption) ?hr50r22n1q22
                  case hy50r22n1q22 => (intro w hSw; (try dsimp only at hSw); (obtain ⟨⟨c1, c2, c3, c4⟩, ⟨d0, d1, d2, d3, d4, d5, d6⟩, ⟨f0, f1, f2, f3, f4, f5, f6⟩⟩ := HCC.out w hSw); first | (go_simp; done) | (go_simp; with_reducible rfl))
                  refine wpAnyH_take (i := 22) (v := ?v50r22n1q23) rfl (by kernel_rfl) (by kernel_rfl) (by kernel_rfl) (fun _ _ _ h => h) (Or.inl ⟨by kernel_rfl, ?hy50r22n1q23⟩) (by assumption) ?hr50r22n1q23
                  case hy50r22n1q23 => (intro w hSw; (try dsimp only at hSw); (obtain ⟨⟨c1, c2, c3, c4⟩, ⟨d0, d1, d2, d3, d4, d5, d6⟩, ⟨f0, f1, f2, f3, f4, f5, f6⟩⟩ := HCC.out w hSw); first | (go_simp; done) | (go_simp; with_reducible rfl))
                  refine wpAnyH_take (i := 23) (v := ?v50r22n1q24) rfl (by kernel_rfl) (by kernel_rfl) (by kernel_rfl) (fun _ _ _ h => h) (Or.inl ⟨by kernel_rfl, ?hy50r22n1q24⟩) (by assumption) ?hr50r22n1q24
                  case hy50r22n1q24 => (intro w hSw; (try dsimp only at hSw); (obtain ⟨⟨c1, c2, c3, c4⟩, ⟨d0, d1, d2, d3, d4, d5, d6⟩, ⟨f0, f1, f2, f3, f4, f5, f6⟩⟩ := HCC.out w hSw); first | (go_simp; done) | (go_simp; with_reducible rfl))
                  refine wpAnyH_take (i := 24) (v := ?v50r22n1q25) rfl (by kernel_rfl) (by kernel_rfl) (by kernel_rfl) (fun _ _ _ h => h) (Or.inl ⟨by kernel_rfl, ?hy50r22n1q25⟩) (by assumption) ?hr50r22n1q25
                  case hy50r22n1q25 => (intro w hSw; (try dsimp only at hSw); (obtain ⟨⟨c1, c2, c3, c4⟩, ⟨d0, d1, d2, d3, d4, d5, d6⟩, ⟨f0, f1, f2, f3, f4, f5, f6⟩⟩ := HCC.out w hSw); first | (go_simp; done) | (go_simp; with_reducible rfl))
                  refine wpAnyH_take (i := 25) (v := ?v50r22n1q26) rfl (by kernel_rfl) (by kernel_rfl) (by kernel_rfl) (fun _ _ _ h => h) (Or.inl ⟨by kernel_rfl, ?hy50r22n1q26⟩) (by assumption) ?hr50r22n1q26
                  case hy50r22n1q26 => (intro w hSw; (try dsimp only at hSw); (obtain ⟨⟨c1, c2, c3, c4⟩, ⟨d0, d1, d2, d3, d4, d5, d6⟩, ⟨f0, f1, f2, f3, f4, f5, f6⟩⟩ := HCC.out w hSw); first | (go_simp; done) | (go_simp; with_reducible rfl))
                  refine wpAnyH_take (i := 26) (v := ?v50r22n1q27) rfl (by kernel_rfl) (by kernel_rfl) (by kernel_rfl) (fun _ _ _ h => h) (Or.inl ⟨by kernel_rfl, ?hy50r22n1q27⟩) (by assumption) ?hr50r22n1q27
                  case hy50r22n1q27 => (intro w hSw; (try dsimp only at hSw); (obtain ⟨⟨c1, c2, c3, c4⟩, ⟨d0, d1, d2, d3, d4, d5, d6⟩, ⟨f0, f1, f2, f3, f4, f5, f6⟩⟩ := HCC.out w hSw); first | (go_simp; done) | (go_simp; with_reducible rfl))
                  refine wpAnyH_take (i := 27) (v := ?v50r22n1q28) rfl (by kernel_rfl) (by kernel_rfl) (by kernel_rfl) (fun _ _ _ h => h) (Or.inl ⟨by kernel_rfl, ?hy50r22n1q28⟩) (by assumption) ?hr50r22n1q28
                  case hy50r22n1q28 => (intro w hSw; (try dsimp only at hSw); (obtain ⟨⟨c1, c2, c3, c4⟩, ⟨d0, d1, d2, d3, d4, d5, d6⟩, ⟨f0, f1, f2, f3, f4, f5, f6⟩⟩ := HCC.out w hSw); first | (go_simp; done) | (go_simp; with_reducible rfl))
                  refine wpAnyH_take (i := 28) (v := ?v50r22n1q29) rfl (by kernel_rfl) (by kernel_rfl) (by kernel_rfl) (fun _ _ _ h => h) (Or.inl ⟨by kernel_rfl, ?hy50r22n1q29⟩) (by assumption) ?hr50r22n1q29
                  case hy50r22n1q29 => (intro w hSw; (try dsimp only at hSw); (obtain ⟨⟨c1, c2, c3, c4⟩, ⟨d0, d1, d2, d3, d4, d5, d6⟩, ⟨f0, f1, f2, f3, f4, f5, f6⟩⟩ := HCC.out w hSw); first | (go_simp; done) | (go_simp; with_reducible rfl))
                  refine wpAnyH_take (i := 29) (v := ?v50r22n1q30) rfl (by kernel_rfl) (by kernel_rfl) (by kernel_rfl) (fun _ _ _ h => h) (Or.inl ⟨by kernel_rfl, ?hy50r22n1q30⟩) (by assumption) ?hr50r22n1q30
                  case hy50r22n1q30 => (intro w hSw; (try dsimp only at hSw); (obtain ⟨⟨c1, c2, c3, c4⟩, ⟨d0, d1, d2, d3, d4, d5, d6⟩, ⟨f0, f1, f2, f3, f4, f5, f6⟩⟩ := HCC.out w hSw); first | (go_simp; done) | (go_simp; with_reducible rfl))
                  refine wpAnyH_take (i := 30) (v := ?v50r22n1q31) rfl (by kernel_rfl) (by kernel_rfl) (by kernel_rfl) (fun _ _ _ h => h) (Or.inl ⟨by kernel_rfl, ?hy50r22n1q31⟩) (by assumption) ?hr50r22n1q31
                  case hy50r22n1q31 => (intro w hSw; (try dsimp only at hSw); (obtain ⟨⟨c1, c2, c3, c4⟩, ⟨d0, d1, d2, d3, d4, d5, d6⟩, ⟨f0, f1, f2, f3, f4, f5, f6⟩⟩ := HCC.out w hSw); first | (go_simp; done) | (go_simp; with_reducible rfl))
                  refine wpAnyH_take (i := 31) (v := ?v50r22n1q32) rfl (by kernel_rfl) (by kernel_rfl) (by kernel_rfl) (fun _ _ _ h => h) (Or.inl ⟨by kernel_rfl, ?hy50r22n1q32⟩) (by assumption) ?hr50r22n1q32
                  case hy50r22n1q32 => (intro w hSw; (try dsimp only at hSw); (obtain ⟨⟨c1, c2, c3, c4⟩, ⟨d0, d1, d2, d3, d4, d5, d6⟩, ⟨f0, f1, f2, f3, f4, f5, f6⟩⟩ := HCC.out w hSw); first | (go_simp; done) | (go_simp; with_reducible rfl))
                  refine wpAnyH_take (i := 32) (v := ?v50r22n1q33) rfl (by kernel_rfl) (by kernel_rfl) (by kernel_rfl) (fun _ _ _ h => h) (Or.inl ⟨by kernel_rfl, ?hy50r22n1q33⟩) (by assumption) ?hr50r22n1q33
                  case hy50r22n1q33 => (intro w hSw; (try dsimp only at hSw); (obtain ⟨⟨c1, c2, c3, c4⟩, ⟨d0, d1, d2, d3, d4, d5, d6⟩, ⟨f0, f1, f2, f3, f4, f5, f6⟩⟩ := HCC.out w hSw); first | (go_simp; done) | (go_simp; with_reducible rfl))
                  refine wpAnyH_ready (rs := [33]) (by kernel_rfl) (by simp) (AllReadyH.cons rfl (fun K hK => ?hc50r22n1q34) AllReadyH.nil)
                  go_simp
                  (go_at_call 13; refine (HCJ2.out _).mono ?_; rintro e' w8 ⟨rfl, hb8⟩; have hk8 := hHeld.trans (hb8.mono hHeld.size); (try dsimp only))
                  refine hK.out _ _ ?hs50r22n1q34 (fun hHeld50r22n1q34 => ?ht50r22n1q34)
                  case hs50r22n1q34 => ((try dsimp only); (first | (with_reducible exact hHeld) | exact hk8))
                  clear hHeld hK
                  have hHeld := hHeld50r22n1q34
                  clear hHeld50r22n1q34
                  refine wpAnyH_take (i := 34) (v := ?v50r22n1q35) rfl (by kernel_rfl) (by kernel_rfl) (by kernel_rfl) (fun _ _ _ h => h) (Or.inl ⟨by kernel_rfl, ?hy50r22n1q35⟩) (by assumption) ?hr50r22n1q35
                  case hy50r22n1q35 => (intro w hSw; (try dsimp only at hSw); (obtain ⟨⟨c1, c2, c3, c4⟩, ⟨d0, d1, d2, d3, d4, d5, d6⟩, ⟨f0, f1, f2, f3, f4, f5, f6⟩⟩ := HCC.out w hSw); first | (go_simp; done) | (go_simp; with_reducible rfl))
                  refine wpAnyH_take (i := 35) (v := ?v50r22n1q36) rfl (by kernel_rfl) (by kernel_rfl) (by kernel_rfl) (fun _ _ _ h => h) (Or.inl ⟨by kernel_rfl, ?hy50r22n1q36⟩) (by assumption) ?hr50r22n1q36
                  case hy50r22n1q36 => (intro w hSw; (try dsimp only at hSw); (obtain ⟨⟨c1, c2, c3, c4⟩, ⟨d0, d1, d2, d3, d4, d5, d6⟩, ⟨f0, f1, f2, f3, f4, f5, f6⟩⟩ := HCC.out w hSw); first | (go_simp; done) | (go_simp; with_reducible rfl))
                  refine wpAnyH_take (i := 36) (v := ?v50r22n1q37) rfl (by kernel_rfl) (by kernel_rfl) (by kernel_rfl) (fun _ _ _ h => h) (Or.inl ⟨by kernel_rfl, ?hy50r22n1q37⟩) (by assumption) ?hr50r22n1q37
                  case hy50r22n1q37 => (intro w hSw; (try dsimp only at hSw); (obtain ⟨⟨c1, c2, c3, c4⟩, ⟨d0, d1, d2, d3, d4, d5, d6⟩, ⟨f0, f1, f2, f3, f4, f5, f6⟩⟩ := HCC.out w hSw); first | (go_simp; done) | (go_simp; with_reducible rfl))
                  refine wpAnyH_done (by kernel_rfl) ?_ _
                  clear hHeld
                  refine NoPanic.normal ?_
                  have hkk : Below wr.heap.size wr w8 := hk8
                  have hbe := hbj.trans (hkk.mono hbj.size)
                  apply_assumption
                  refine wp_cutA 120 (fun tm ds => ds = [] ∧ slot tm 0 = .int .i64 way ∧ slot tm 1 = .slice (some ⟨pb, po, none⟩) pl.length c ∧ slot tm 2 = .slice (some ⟨nb, no, none⟩) n d ∧ slot tm 3 = .slice (some ⟨tb, tp, none⟩) tt.length f ∧ slot tm 9 = .int .i64 (n : Nat) ∧ slot tm 11 = .int .i64 (s : Nat) ∧ slot tm 12 = .int .i64 (k : Nat) ∧ slot tm 13 = .int .i64 (e : Nat) ∧ slot tm 14 = .int .i64 (j : Nat) ∧ slot tm 119 = .bool (decide (yv + cj < xv))) (by kernel_rfl) (by exact ⟨by kernel_rfl, by kernel_rfl, by kernel_rfl, by kernel_rfl, by kernel_rfl, by kernel_rfl, by kernel_rfl, by kernel_rfl, by kernel_rfl, by kernel_rfl, by kernel_rfl⟩) ?_
                  rintro tm4 ds4 h120 ⟨rfl, e0, e1, e2, e3, e9, e11, e12, e13, e14, e119⟩
                  by_cases hbad : yv + cj < xv
                  · rw [decide_eq_true hbad] at e119
                    rw [frame120 tm4 [] h120, e0, e1, e2, e3, e9, e11, e12, e13, e14, e119]
                    have hfin : boundsZ way L tt = false := by
                      refine bounds_bad (by rw [HNL.out]; exact HS2.out) hkL HBK.out (ok_badj hs256 hLn8 hkL HBK.out (j := j) (by rw [HNL.out]; exact hjn) ?_ ?_)
                      · rw [← HE.out]
                        exact HBJ.out
                      · rw [← HE.out, ← HYV.out, ← HXV.out, ← HTJ.out, ← HCJE.out]
                        exact hbad
                    have HFIN := hidep hfin
                    have hb0 := HBWK.out.trans (hbe.mono HBWK.out.size)
                    clear h120 e0 e1 e2 e3 e9 e11 e12 e13 e14 e119 hfin hbad hwz hk8 hkk
                    go_wp2
                    go_ret
                    exact ⟨ret_val (congrArg _ HFIN.out.symm), hb0⟩
                  · rw [decide_eq_false hbad] at e119
                    rw [frame120 tm4 [] h120, e0, e1, e2, e3, e9, e11, e12, e13, e14, e119]
                    have HA2 := hidep (show ∀ x, x < j + 1 → e.testBit x = true → ¬ cellT tt e x + costZ way (lp L x) (lp L k) < xv from fun x hx h => by
                      by_cases hxj : x = j
                      · rw [hxj, ← HYV.out, ← HTJ.out, ← HCJE.out]
                        exact hbad
                      · exact HALLJ.out x (by omega) h)
                    clear h120 e0 e1 e2 e3 e9 e11 e12 e13 e14 e119 hbad hwz hk8 hkk
                    go_wp2
                    refine ⟨LoopI.mk rfl ⟨rfl, rfl, rfl, rfl, rfl, rfl, rfl, rfl, rfl, j + 1, by omega, by show Value.int _ _ = _; go_num, HA2.out, hbe⟩, ?_⟩
                    show n - _ < n - _
                    simp [intOf]; omega
              · have hgood : okK way L tt s k = true := by
                  refine ok_good hs256 hLn8 hkL HBK.out (fun e => by have := HZQ.out e; omega) (fun x hx hb => ?_)
                  rw [← HE.out] at hb ⊢
                  rw [← HXV.out]
                  exact HALLJ.out x (by have := HNL.out; omega) hb
                have HA3 := hidep (show ∀ x, x < k + 1 → s.testBit x = true → okK way L tt s x = true from fun x hx h => by
                  by_cases hxk : x = k
                  · rw [hxk]
                    exact hgood
                  · exact HALLK.out x (by omega) h)
                clear hgood
                go_wp2
                refine ⟨LoopI.mk rfl ⟨rfl, rfl, rfl, rfl, rfl, rfl, rfl, k + 1, by omega, by show Value.int _ _ = _; go_num, HA3.out, hb0j⟩, ?_⟩
                show n - _ < n - _
                simp [intOf]; omega
        · have HA2 := hidep (show ∀ j, j < s + 1 → ∀ k, k < n → j.testBit k = true → okK way L tt j k = true from fun j hj k' hk' hb => by
            by_cases hjs : j = s
            · subst hjs
              exact HALLK.out k' (by omega) hb
            · exact HALLS.out j (by omega) k' hk' hb)
          have hkn2 : k = n := by omega
          go_wp2
          refine ⟨LoopI.mk rfl ⟨rfl, rfl, rfl, rfl, rfl, rfl, s + 1, by omega, by show Value.int _ _ = _; go_num, HA2.out, HBWK.out⟩, ?_⟩
          show tt.length - _ < tt.length - _
          simp [intOf]; omega
      · have HZ := hidep (bounds_good (way := way) (L := L) (t := tt) (by rw [HNL.out, ← HN2.out]; exact HLEN.out) (by rw [HNL.out]; exact HROWS.out) (by
          rw [HNL.out]
          intro s' hs' k hk hb
          exact HALLS.out s' (by have := HLEN.out; have := HN2.out; omega) k hk hb))
        have hsl2 : s = tt.length := by omega
        go_wp2
        go_ret
        exact ⟨ret_val (congrArg _ HZ.out.symm), HBWS.out⟩
  · have HZ := hidep (bounds_len (way := way) (L := L) (t := tt) (by rw [HNL.out, ← HN2.out]; exact hlen))
    have hli : ((tt.length : Int) == (N : Int)) = false := beq_false_of_ne (by omega)
    clear hlen
    go_wp2
    go_ret
    exact ⟨ret_val (congrArg _ HZ.out.symm), Below.refl _ _⟩
end Go.Proofs.Ytfljgcpfmhhgcaa
