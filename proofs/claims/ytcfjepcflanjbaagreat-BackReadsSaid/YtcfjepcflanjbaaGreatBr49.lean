/- The reference: a text put into the first ones. -/
import Derived.Test.YtcfjepcflanjbaaGreatBr02
import Derived.Test.YtcfjepcflanjbaaGreatBr48
import Derived.Test.YtcfjepcflanjbaaGreatBr43
namespace Go.Proofs.YtcfjepcflanjbaaGreat
open Go.RowKit Go.Lab Go.Shelf
set_option maxRecDepth 100000
theorem zq51 : SlT Tryz.prog 42 31 (.slice none 0 0) 1 24 := ⟨by kernel_rfl, by kernel_rfl, rfl, by decide⟩
theorem zqde {X : World} {B g c N q k most : Nat} {L : List (List Sym)} {tx : List Sym} {us : List Value} {vt : Value} (ho : X.ownsRow B 31 1 (.slice (some ⟨g, 0, none⟩) N c) N (us.take k ++ [vt] ++ us.drop k)) (hN : N = L.length + 1) (hul : us.length = L.length) (hs : ∀ i (h : i < L.length) (h' : i < us.length), SymsAt X us[i] L[i]) (ht : SymsAt X vt tx)
    (hE : insZ tx L = L.take k ++ ([tx] ++ L.drop k)) (hk : k <= L.length) (hq : q = min N most) : SymssAt X (.slice (some ⟨g, 0, none⟩) q c) (putZ most L tx) := by
  have hW : (us.take k ++ [vt] ++ us.drop k).length = N := by
    rw [List.length_append, List.length_append, List.length_take, List.length_drop, List.length_singleton, hul]
    omega
  have hM : (L.take k ++ ([tx] ++ L.drop k)).length = N := by
    rw [List.length_append, List.length_append, List.length_take, List.length_drop, List.length_singleton]
    omega
  have hall : ∀ i (h : i < (L.take k ++ ([tx] ++ L.drop k)).length) (h' : i < (us.take k ++ [vt] ++ us.drop k).length), SymsAt X (us.take k ++ [vt] ++ us.drop k)[i] (L.take k ++ ([tx] ++ L.drop k))[i] := by
    intro i h h'
    rcases (by omega : i < k \/ i = k \/ k < i) with hi | hi | hi
    · rw [List.getElem_append_left (by rw [List.length_append, List.length_take, List.length_singleton]; omega), List.getElem_append_left (by rw [List.length_take]; omega), List.getElem_append_left (by rw [List.length_take]; omega), List.getElem_take, List.getElem_take]
      exact hs i _ _
    · subst hi
      have e1 : (us.take i ++ [vt] ++ us.drop i)[i] = vt := by
        rw [List.getElem_append_left (by rw [List.length_append, List.length_take, List.length_singleton]; omega), List.getElem_append_right (by rw [List.length_take]; omega)]
        simp
      have e2 : (L.take i ++ ([tx] ++ L.drop i))[i] = tx := by
        rw [List.getElem_append_right (by rw [List.length_take]; omega), List.getElem_append_left (by rw [List.length_take, List.length_singleton]; omega)]
        simp
      rw [e1, e2]
      exact ht
    · rw [List.getElem_append_right (by rw [List.length_append, List.length_take, List.length_singleton]; omega), List.getElem_append_right (by rw [List.length_take]; omega), List.getElem_append_right (by rw [List.length_take, List.length_singleton]; omega), List.getElem_drop, List.getElem_drop]
      simp only [List.length_append, List.length_take, List.length_singleton]
      have e1 : k + (i - (min k us.length + 1)) = i - 1 := by omega
      have e2 : k + (i - min k L.length - 1) = i - 1 := by omega
      simp only [e1, e2]
      exact hs (i - 1) (by omega) (by omega)
  have hpl : (putZ most L tx).length = q := by
    unfold putZ
    rw [hE, List.length_take, hM, hq, Nat.min_comm]
  have hq2 : (L.take k ++ ([tx] ++ L.drop k)).take most = (L.take k ++ ([tx] ++ L.drop k)).take q := by
    rcases Nat.le_total N most with h | h
    · rw [hq, Nat.min_eq_left h]
      exact (List.take_of_length_le (by rw [hM]; exact h)).trans (List.take_of_length_le (by rw [hM]; exact Nat.le_refl _)).symm
    · rw [hq, Nat.min_eq_right h]
  refine ⟨(us.take k ++ [vt] ++ us.drop k).take q, by rw [hpl, List.length_take, hW]; omega, ?_, fun i h h' => ?_⟩
  · rw [hpl]
    have hr := Rd.of_own (zq91 ho (m := q) (by omega))
    rw [Nat.mul_one] at hr
    exact hr
  · have he : putZ most L tx = (L.take k ++ ([tx] ++ L.drop k)).take q := by unfold putZ; rw [hE, hq2]
    simp only [he]
    rw [List.getElem_take, List.getElem_take]
    exact hall i _ _
theorem frame58 (t : Array Value) (ds : List Deferred) (h : t.size = 58) : ({ tmps := t, defers := ds } : Act) = { tmps := #[slot t 0, slot t 1, slot t 2, slot t 3, slot t 4, slot t 5, slot t 6, slot t 7, slot t 8, slot t 9, slot t 10, slot t 11, slot t 12, slot t 13, slot t 14, slot t 15, slot t 16, slot t 17, slot t 18, slot t 19, slot t 20, slot t 21, slot t 22, slot t 23, slot t 24, slot t 25, slot t 26, slot t 27, slot t 28, slot t 29, slot t 30, slot t 31, slot t 32, slot t 33, slot t 34, slot t 35, slot t 36, slot t 37, slot t 38, slot t 39, slot t 40, slot t 41, slot t 42, slot t 43, slot t 44, slot t 45, slot t 46, slot t 47, slot t 48, slot t 49, slot t 50, slot t 51, slot t 52, slot t 53, slot t 54, slot t 55, slot t 56, slot t 57], defers := ds } :=
  (congrArg (fun x => ({ tmps := x, defers := ds } : Act)) (zq1e h)).trans (by kernel_rfl)
def PuL (t : List Sym) (L : List (List Sym)) (w : World) (u : Value) (X : World) : Prop := ∃ k : Nat, k <= L.length /\ u = .int .i64 (k : Nat) /\ Hid (insZ t L = L.take k ++ insZ t (L.drop k)) /\ Below w.heap.size w X
set_option maxHeartbeats 4000000 in
theorem putR_any (vl vt : Value) (L : List (List Sym)) (tx : List Sym) (most : Nat) (w : World) (hL : SymssAt w vl L) (ht : SymsAt w vt tx) (hLn : L.length <= 100000) (hLm : L.length <= most) (hmost : most <= 100000) : Calls Tryz.prog 112 #[vl, vt, .int .i64 (most : Nat)] w fun e w' => ∃ u, e = .returned u /\ SymssAt w' u (putZ most L tx) /\ Below w.heap.size w w' := by
  obtain ⟨la, lc, rfl, hlc, hlm⟩ := hL.form
  obtain ⟨ta, tc, rfl, -, -⟩ := ht.form
  obtain ⟨tn, htn⟩ : ∃ x, x = tx.length := ⟨_, rfl⟩
  have HL := hidep hL
  have HT := hidep ht
  rw [<- htn] at HT ⊢
  obtain ⟨n, hn⟩ : ∃ n, n = L.length := ⟨_, rfl⟩
  have HN := hidep hn
  rw [<- hn] at hlc hLn ⊢
  unfold maxLen at hlm
  clear hL ht hn htn
  go_enter Tryz.func112, Tryz.ntmps112
  go_upto_region 2 with (fail)
  refine wp_loop (LoopI 58 (fun tm ds wr => (slot tm 0) = .slice la n lc /\ (slot tm 1) = .slice ta tn tc /\ (slot tm 2) = .int .i64 (most : Nat) /\ ds = [] /\ PuL tx L w (slot tm 7) wr)) (fun a' wr => n - natI (a'.tmps.getD 7 undef)) ?liStart ?liRound
  case' liStart => refine LoopI.mk rfl ?_
  case' liRound => (rintro ⟨t, ds⟩ wr ⟨hts, hrel⟩; dsimp only at hts hrel; rw [frame58 t ds hts])
  case liStart => exact ⟨rfl, rfl, rfl, rfl, 0, Nat.zero_le _, rfl, hidep rfl, Below.refl _ _⟩
  obtain ⟨e0, e1, e2, hds, k, hk, e7, HE, hbw⟩ := hrel
  subst hds
  rw [e0, e1, e2, e7]
  clear e0 e1 e2 e7 hts
  have hkn : k <= n := by rw [HN.out]; exact hk
  obtain ⟨us, hul, hrd, hsy⟩ := HL.out.below hbw
  have HBW := hidep hbw
  have HSY := hidep (And.intro hul hsy)
  have hone : ∀ u ∈ us, u.oneCell' = true := fun u hu => by
    obtain ⟨j, hj, rfl⟩ := List.getElem_of_mem hu
    obtain ⟨a', c', e, _⟩ := (hsy j (by omega) hj).form
    rw [e]
    rfl
  rw [<- HN.out] at hrd
  have hp := Rd.part hrd (l := k) (hh := n) (m := lc) hkn (Nat.le_refl _) hlc (Nat.le_refl _)
  have hq := hrd.pre hkn
  simp only [Nat.mul_one] at hp hq
  rw [List.take_of_length_le (by rw [List.length_drop, hul, <- HN.out]; exact Nat.le_refl _)] at hp
  have HSS := hidep (And.intro (fun (Z : World) (hZ : Below wr.heap.size wr Z) => hq.below hZ) (fun (Z : World) (hZ : Below wr.heap.size wr Z) vv (hvv : Value.slice (if lc = k then la else la.map (·.add k)) (n - k) (lc - k) = vv) => hvv ▸ hp.below hZ))
  have hones1 : ∀ u ∈ us.take k, u.oneCell' = true := fun u hu => hone u (List.mem_of_mem_take hu)
  have hones2 : ∀ u ∈ [Value.slice ta tn tc], u.oneCell' = true := fun u hu => by rw [List.mem_singleton] at hu; rw [hu]; rfl
  have hones3 : ∀ u ∈ us.drop k, u.oneCell' = true := fun u hu => hone u (List.mem_of_mem_drop hu)
  have hkI0 : (0 : Int) <= (k : Int) := by omega
  have hkI1 : (k : Int) <= (n : Int) := by omega
  have hkI2 : (k : Int) <= (lc : Int) := by omega
  have hnc : (n : Int) <= (lc : Int) := by omega
  have hlI : (L.length : Int) = (n : Int) := by rw [<- HN.out]
  clear hbw hul hsy hone hrd hp hq hk hlI
  by_cases hkl : k < n
  · have hkL : k < L.length := by rw [<- HN.out]; exact hkl
    have hki : (k : Int) < (n : Int) := by omega
    have hw3 : IntKind.i64.wrap ((n : Int) - 1) = (n : Int) - 1 := IntWalk.i64_in _ (by omega)
    have hmin : min (k : Int) ((n : Int) - 1) = (k : Int) := by omega
    have hmin2 : ¬ (n : Int) - 1 < (k : Int) := by omega
    obtain ⟨lb, lo, u, hla, hlb, hu, hus⟩ := (HL.out.below HBW.out).at hkL
    subst hla
    have HU := hidep hus
    have HBF := hidep (fun Z (hZ : Below wr.heap.size wr Z) => before_any u (.slice ta tn tc) L[k] tx Z (HU.out.below hZ) ((HT.out.below HBW.out).below hZ))
    have HBG := hidep (fun Z (hZ : Below wr.heap.size wr Z) => before_any (.slice ta tn tc) u tx L[k] Z ((HT.out.below HBW.out).below hZ) (HU.out.below hZ))
    clear hus HU
    by_cases hbf : zq13 L[k] tx = -1
    · have HE2 := hidep (insZ_step hkL HE.out hbf)
      have hbv : befZ L[k] tx = true := by simp [befZ, hbf]
      rw [hbv] at HBF
      have hkw : IntKind.i64.wrap ((k : Int) + 1) = (k : Int) + 1 := IntWalk.i64_in _ (by omega)
      have HKN := hidep hkL
      clear hbv hbf hkL HBG HSS hones1 hones2 hones3
      go_wp2_with (go_at_call 134; refine (HBF.out _ (Below.refl _ _)).mono ?_; rintro e w4 ⟨rfl, hb4⟩)
      refine ⟨LoopI.mk rfl ⟨rfl, rfl, rfl, rfl, k + 1, HKN.out, by show Value.int _ _ = _; go_num, HE2, HBW.out.trans (hb4.mono HBW.out.size)⟩, ?_⟩
      show n - _ < n - _
      simp [natI]; omega
    · have hbv : befZ L[k] tx = false := by simp [befZ, hbf]
      rw [hbv] at HBF
      have hE2 := insZ_here hkL HE.out hbf
      clear hbv hbf
      by_cases hbg : zq13 tx L[k] = -1
      · have hbv : befZ tx L[k] = true := by simp [befZ, hbg]
        rw [hbv] at HBG
        rw [if_pos hbg] at hE2
        have HEX := hidep hE2
        clear hbv hbg hE2 hkL
        obtain ⟨n1, hn1⟩ : ∃ x, x = n + 1 := ⟨_, rfl⟩
        have HN1' := hidep hn1
        have HN1 := hidep (show k + 1 + (n - k) = n1 by omega)
        obtain ⟨q, hq⟩ : ∃ x, x = min n1 most := ⟨_, rfl⟩
        have hmq : min (n1 : Int) (most : Int) = (q : Int) := by omega
        have hqn : q <= n1 := by omega
        have hqI : (q : Int) <= (n1 : Int) := by omega
        have hn1p : 0 < n1 := by omega
        have HQ := hidep hq
        clear hn1 hq
        have hckl : ¬ lc = k := by omega
        have hckl2 : ¬ k = lc := by omega
        have HCK := hidep hckl
        go_wp2_with (first
          | (go_at_call 134; first
            | ((with_reducible refine (HBF.out _ (Below.refl _ _)).mono ?_); rintro e w4 ⟨rfl, hb4⟩; have hu4 := (hb4.cell (p := ⟨lb, lo + k, none⟩) hlb).trans hu)
            | ((with_reducible refine (HBG.out _ hb4).mono ?_); rintro e w4' ⟨rfl, hb4'⟩; have HB4 := hidep (hb4.trans (hb4'.mono hb4.size)); have hz4 := HB4.out.size))
          | (at_builtin; first
            | (refine zq4 _ rfl (.tmp 39) (.tmp 42) rfl zq51 wr.heap.size (.slice none 0 0) 0 [] rfl (World.ownsRow_nil _ _ _ _) _ _ _ _ rfl (HSS.out.1 _ HB4.out) hones1 (by unfold maxLen; omega) (by omega) hz4 ?_; intro v5 w5 ho5 hg5 hat5 hnl; clear hnl hat5; simp only [Nat.zero_add, List.nil_append] at ho5; have hb5 : Below wr.heap.size wr w5 := HB4.out.grown hg5 hz4 (fun x hx => by cases (show none = some x from hx)); have hz5 := hb5.size)
            | (refine zq4 _ rfl (.tmp 43) (.tmp 45) rfl zq51 wr.heap.size v5 k (us.take k) rfl (ho5.alloc _) _ _ _ _ rfl (Rd.fresh w5 #[.slice ta tn tc] 31 1 1 rfl (by decide)) hones2 (by unfold maxLen; omega) (by omega) (by rw [World.size_alloc]; omega) ?_; intro v6 w6 ho6 hg6 hat6 hnl; clear hnl hat6; have hb6 : Below wr.heap.size wr w6 := (hb5.alloc hz5 _).grown hg6 (by rw [World.size_alloc]; omega) (fun x hx => (ho5.lt x hx).1); have hz6 := hb6.size)
            | (refine zq4 _ rfl (.tmp 47) (.tmp 50) rfl zq51 wr.heap.size v6 (k + 1) _ rfl ho6 _ (.slice (some ⟨lb, lo + k, none⟩) (n - k) (lc - k)) _ _ rfl (HSS.out.2 _ hb6 _ (by rw [if_neg HCK.out]; simp [Addr.add])) hones3 (by unfold maxLen; omega) (by omega) hz6 ?_; intro v7 w7 ho7 hg7 hat7 hnl; clear hnl hat7; rw [HN1.out] at ho7; obtain ⟨g7, c7, hv7, h7c, h7m, -, -⟩ := zqab ho7 hn1p; subst hv7; have hqc : (q : Int) <= (c7 : Int) := (by omega); have hnc7 : (n1 : Int) <= (c7 : Int) := (by omega); have hb7 : Below wr.heap.size wr w7 := hb6.grown hg7 hz6 (fun x hx => (ho6.lt x hx).1))))
        all_goals
          go_ret
          refine ⟨_, rfl, zqde ho7 (by rw [HN1'.out, HN.out]) HSY.out.1 (fun i a b => (HSY.out.2 i a b).below hb7) ((HT.out.below HBW.out).below hb7) HEX.out (by rw [<- HN.out]; exact hkn) (by have := HQ.out; omega), HBW.out.trans (hb7.mono HBW.out.size)⟩
      · have hbv : befZ tx L[k] = false := by simp [befZ, hbg]
        rw [hbv] at HBG
        rw [if_neg hbg] at hE2
        have HE3 := hidep hE2
        clear hbv hbg hE2 hkL HSS hones1 hones2 hones3
        go_wp2_with (go_at_call 134; first
          | ((with_reducible refine (HBF.out _ (Below.refl _ _)).mono ?_); rintro e w4 ⟨rfl, hb4⟩; have hu4 := (hb4.cell (p := ⟨lb, lo + k, none⟩) hlb).trans hu)
          | ((with_reducible refine (HBG.out _ hb4).mono ?_); rintro e w4' ⟨rfl, hb4'⟩))
        go_ret
        have hbq : Below w.heap.size w w4' := HBW.out.trans ((hb4.trans (hb4'.mono hb4.size)).mono HBW.out.size)
        refine ⟨_, rfl, ?_, hbq⟩
        have he : putZ most L tx = L := by unfold putZ; rw [HE3.out]; exact List.take_of_length_le hLm
        rw [he, HN.out]
        exact HL.out.below hbq
  · have hki : ¬ (k : Int) < (n : Int) := by omega
    have HEX : Hid (insZ tx L = L.take k ++ ([tx] ++ L.drop k)) := hidep (by
      have hkL : k = L.length := by rw [<- HN.out]; omega
      have := HE.out
      rw [hkL] at this ⊢
      exact insZ_end this)
    have HB4 := hidep (Below.refl wr.heap.size wr)
    have hz4 : wr.heap.size <= wr.heap.size := Nat.le_refl _
    obtain ⟨n1, hn1⟩ : ∃ x, x = n + 1 := ⟨_, rfl⟩
    have HN1' := hidep hn1
    have HN1 := hidep (show k + 1 + (n - k) = n1 by omega)
    obtain ⟨q, hq⟩ : ∃ x, x = min n1 most := ⟨_, rfl⟩
    have hmq : min (n1 : Int) (most : Int) = (q : Int) := by omega
    have hqn : q <= n1 := by omega
    have hqI : (q : Int) <= (n1 : Int) := by omega
    have hn1p : 0 < n1 := by omega
    have HQ := hidep hq
    clear hn1 hq
    by_cases hck : k = lc
    · subst hck
      go_wp2_with (at_builtin; first
        | (refine zq4 _ rfl (.tmp 39) (.tmp 42) rfl zq51 wr.heap.size (.slice none 0 0) 0 [] rfl (World.ownsRow_nil _ _ _ _) _ _ _ _ rfl (HSS.out.1 _ HB4.out) hones1 (by unfold maxLen; omega) (by omega) hz4 ?_; intro v5 w5 ho5 hg5 hat5 hnl; clear hnl hat5; simp only [Nat.zero_add, List.nil_append] at ho5; have hb5 : Below wr.heap.size wr w5 := HB4.out.grown hg5 hz4 (fun x hx => by cases (show none = some x from hx)); have hz5 := hb5.size)
        | (refine zq4 _ rfl (.tmp 43) (.tmp 45) rfl zq51 wr.heap.size v5 k (us.take k) rfl (ho5.alloc _) _ _ _ _ rfl (Rd.fresh w5 #[.slice ta tn tc] 31 1 1 rfl (by decide)) hones2 (by unfold maxLen; omega) (by omega) (by rw [World.size_alloc]; omega) ?_; intro v6 w6 ho6 hg6 hat6 hnl; clear hnl hat6; have hb6 : Below wr.heap.size wr w6 := (hb5.alloc hz5 _).grown hg6 (by rw [World.size_alloc]; omega) (fun x hx => (ho5.lt x hx).1); have hz6 := hb6.size)
        | (refine zq4 _ rfl (.tmp 47) (.tmp 50) rfl zq51 wr.heap.size v6 (k + 1) _ rfl ho6 _ _ _ _ rfl (HSS.out.2 _ hb6 _ (by rw [if_pos rfl, Nat.sub_eq_zero_of_le hlc, Nat.sub_self]; rfl)) hones3 (by unfold maxLen; omega) (by omega) hz6 ?_; intro v7 w7 ho7 hg7 hat7 hnl; clear hnl hat7; rw [HN1.out] at ho7; obtain ⟨g7, c7, hv7, h7c, h7m, -, -⟩ := zqab ho7 hn1p; subst hv7; have hqc : (q : Int) <= (c7 : Int) := (by omega); have hnc7 : (n1 : Int) <= (c7 : Int) := (by omega); have hb7 : Below wr.heap.size wr w7 := hb6.grown hg7 hz6 (fun x hx => (ho6.lt x hx).1)))
      all_goals
        go_ret
        refine ⟨_, rfl, zqde ho7 (by rw [HN1'.out, HN.out]) HSY.out.1 (fun i a b => (HSY.out.2 i a b).below hb7) ((HT.out.below HBW.out).below hb7) HEX.out (by rw [<- HN.out]; exact hkn) (by have := HQ.out; omega), HBW.out.trans (hb7.mono HBW.out.size)⟩
    · have HCK := hidep hck
      go_wp2_with (at_builtin; first
        | (refine zq4 _ rfl (.tmp 39) (.tmp 42) rfl zq51 wr.heap.size (.slice none 0 0) 0 [] rfl (World.ownsRow_nil _ _ _ _) _ _ _ _ rfl (HSS.out.1 _ HB4.out) hones1 (by unfold maxLen; omega) (by omega) hz4 ?_; intro v5 w5 ho5 hg5 hat5 hnl; clear hnl hat5; simp only [Nat.zero_add, List.nil_append] at ho5; have hb5 : Below wr.heap.size wr w5 := HB4.out.grown hg5 hz4 (fun x hx => by cases (show none = some x from hx)); have hz5 := hb5.size)
        | (refine zq4 _ rfl (.tmp 43) (.tmp 45) rfl zq51 wr.heap.size v5 k (us.take k) rfl (ho5.alloc _) _ _ _ _ rfl (Rd.fresh w5 #[.slice ta tn tc] 31 1 1 rfl (by decide)) hones2 (by unfold maxLen; omega) (by omega) (by rw [World.size_alloc]; omega) ?_; intro v6 w6 ho6 hg6 hat6 hnl; clear hnl hat6; have hb6 : Below wr.heap.size wr w6 := (hb5.alloc hz5 _).grown hg6 (by rw [World.size_alloc]; omega) (fun x hx => (ho5.lt x hx).1); have hz6 := hb6.size)
        | (refine zq4 _ rfl (.tmp 47) (.tmp 50) rfl zq51 wr.heap.size v6 (k + 1) _ rfl ho6 _ _ _ _ rfl (HSS.out.2 _ hb6 _ (by rw [if_neg (fun e => HCK.out e.symm)]; rfl)) hones3 (by unfold maxLen; omega) (by omega) hz6 ?_; intro v7 w7 ho7 hg7 hat7 hnl; clear hnl hat7; rw [HN1.out] at ho7; obtain ⟨g7, c7, hv7, h7c, h7m, -, -⟩ := zqab ho7 hn1p; subst hv7; have hqc : (q : Int) <= (c7 : Int) := (by omega); have hnc7 : (n1 : Int) <= (c7 : Int) := (by omega); have hb7 : Below wr.heap.size wr w7 := hb6.grown hg7 hz6 (fun x hx => (ho6.lt x hx).1)))
      all_goals
        go_ret
        refine ⟨_, rfl, zqde ho7 (by rw [HN1'.out, HN.out]) HSY.out.1 (fun i a b => (HSY.out.2 i a b).below hb7) ((HT.out.below HBW.out).below hb7) HEX.out (by rw [<- HN.out]; exact hkn) (by have := HQ.out; omega), HBW.out.trans (hb7.mono HBW.out.size)⟩
end Go.Proofs.YtcfjepcflanjbaaGreat
/- The reference: a place by its number. -/
namespace Go.Proofs.YtcfjepcflanjbaaGreat
open Go.RowKit Go.Lab Go.Shelf
set_option maxRecDepth 100000
theorem row_placeR : (∃ fs, Tryz.prog.underlying 141 = some (.struct fs)) /\ (Tryz.prog.info? 141).map (·.size) = some 5 := by
  constructor
  · have h : (Tryz.prog.underlying 141).map (fun d => match d with | .struct _ => true | _ => false) = some true := by kernel_rfl
    rcases e : Tryz.prog.underlying 141 with _ | d
    · rw [e] at h; cases h
    · rw [e] at h
      cases d with
      | struct fs => exact ⟨fs, rfl⟩
      | _ => simp at h
  · kernel_rfl
set_option maxHeartbeats 4000000 in
theorem placeR_any (n : Nat) (hn : n < 48) (w : World) : Calls Tryz.prog 82 #[.int .i64 (n : Nat)] w fun e w' => e = .returned (.agg (plR (zq15 n)).toArray) /\ Below w.heap.size w w' := by
  have hb := ((Below.refl w.heap.size w).alloc (Nat.le_refl _) (.cells #[.int .i64 ((n : Int) % 2), .bool ((n : Int) / 2 % 2 == 1), .bool ((n : Int) / 4 % 2 == 1), .int .i64 ((n : Int) / 16), .bool ((n : Int) / 8 % 2 == 1)] 141))
  have HB := hidep hb
  have hd : ∀ k : Nat, ((n : Int) / (k : Nat) % 2 == 1) = (n / k % 2 == 1) := by
    intro k
    have e : (n : Int) / (k : Nat) % 2 = ((n / k % 2 : Nat) : Int) := by simp
    rw [e]
    rw [Bool.eq_iff_iff]
    simp only [beq_iff_eq]
    omega
  have HZ := hidep (show (Value.agg #[.int .i64 ((n : Int) % 2), .bool ((n : Int) / 2 % 2 == 1), .bool ((n : Int) / 4 % 2 == 1), .int .i64 ((n : Int) / 16), .bool ((n : Int) / 8 % 2 == 1)]) = .agg (plR (zq15 n)).toArray from by
    have e2 := hd 2
    have e4 := hd 4
    have e8 := hd 8
    unfold plR zq15
    simp only at e2 e4 e8 ⊢
    rw [<- e2, <- e4, <- e8]
    rfl)
  clear hb hd
  go_enter Tryz.func82, Tryz.ntmps82
  go_wp2
  refine bodyPost_ret (zq44 rfl _ _ _ rfl (run_loadVar_row (P := Tryz.prog) _ w.heap.size 141 141 _ _ _ (heap_alloc_new _ _) row_placeR.1.choose_spec rfl row_placeR.2)) rfl ?_
  exact ⟨zqb HZ.out, HB.out⟩
end Go.Proofs.YtcfjepcflanjbaaGreat
