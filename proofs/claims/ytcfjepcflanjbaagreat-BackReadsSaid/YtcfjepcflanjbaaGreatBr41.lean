/- Contract: the maker of changed cells. -/
import Derived.Test.YtcfjepcflanjbaaGreatBr02
import Derived.Test.YtcfjepcflanjbaaGreatBr10
import Derived.Test.YtcfjepcflanjbaaGreatBr07
import Derived.Laws.OwnMore
namespace Go.Proofs.YtcfjepcflanjbaaGreat
open Go.RowKit Go.Lab Go.Shelf
set_option maxRecDepth 100000
theorem own_pre {W : World} {base k n : Nat} {e : TypeId} {a : Option Addr} {c : Nat} {xs : List Value} (h : W.ownsRow base e k (.slice a n c) n xs) {m : Nat} (hm : m <= n) : W.ownsRow base e k (.slice a m c) m (xs.take (m * k)) := by
  have hle : m * k <= n * k := Nat.mul_le_mul_right k hm
  refine ⟨by rw [List.length_take, h.1]; omega, ?_⟩
  rcases h.2 with ⟨h1, h2⟩ | ⟨g, cap, cur, h1, hb, hg, hn, hc, hs, ht⟩
  · injection h1 with e1 e2 e3
    subst e1 e3
    have : m = 0 := by omega
    subst this
    exact .inl ⟨rfl, rfl⟩
  · injection h1 with e1 e2 e3
    subst e1 e3
    exact .inr ⟨g, c, cur, rfl, hb, hg, by omega, hc, hs, by rw [<- ht, List.take_take, Nat.min_eq_left hle]⟩
theorem frame61 (t : Array Value) (ds : List Deferred) (h : t.size = 61) : ({ tmps := t, defers := ds } : Act) = { tmps := #[slot t 0, slot t 1, slot t 2, slot t 3, slot t 4, slot t 5, slot t 6, slot t 7, slot t 8, slot t 9, slot t 10, slot t 11, slot t 12, slot t 13, slot t 14, slot t 15, slot t 16, slot t 17, slot t 18, slot t 19, slot t 20, slot t 21, slot t 22, slot t 23, slot t 24, slot t 25, slot t 26, slot t 27, slot t 28, slot t 29, slot t 30, slot t 31, slot t 32, slot t 33, slot t 34, slot t 35, slot t 36, slot t 37, slot t 38, slot t 39, slot t 40, slot t 41, slot t 42, slot t 43, slot t 44, slot t 45, slot t 46, slot t 47, slot t 48, slot t 49, slot t 50, slot t 51, slot t 52, slot t 53, slot t 54, slot t 55, slot t 56, slot t 57, slot t 58, slot t 59, slot t 60], defers := ds } :=
  (congrArg (fun x => ({ tmps := x, defers := ds } : Act)) (zq1e h)).trans (by kernel_rfl)
def BcM (w1 : World) (h y : Int) (k n : Nat) (a1 : Option Addr) (c1 : Nat) (C : List Int) (v2 : Value) : Act -> World -> Prop := fun a W => a.tmps.size = 61 /\ a.defers = [] /\ slot a.tmps 2 = .int .i64 h /\ slot a.tmps 9 = .slice a1 n c1 /\ slot a.tmps 10 = .int .u8 y /\ slot a.tmps 11 = .int .i64 (k : Nat) /\ slot a.tmps 12 = v2 /\ W.ownsRow w1.heap.size 5 1 v2 (n - k) (byC (C.drop k)) /\ Below w1.heap.size w1 W
def BcP (n : Nat) (w : World) (e : Ending) (w' : World) : Prop := ∃ v c, e = .returned v /\ BysAt w' v c /\ c.length <= n + 1 /\ Below w.heap.size w w'
set_option maxHeartbeats 4000000 in
theorem bentC_any (cv : Value) (C : List Int) (a h b : Int) (w : World) (hC : BysAt w cv C) (hl : C.length <= 1000000) (ha1 : -9223372036854775808 <= a) (ha2 : a <= 9223372036854775807) (hh1 : -9223372036854775808 <= h) (hh2 : h <= 9223372036854775807) (hb1 : -9223372036854775808 <= b) (hb2 : b <= 9223372036854775807) :
    Calls Tryz.prog 11 #[cv, .int .i64 a, .int .i64 h, .int .i64 b] w fun e w' => BcP C.length w e w' := by
  obtain ⟨ca, cc, rfl, hcc, hcm⟩ := hC.1.form
  unfold maxLen at hcm
  have HC := hidep hC
  obtain ⟨n, hn⟩ : ∃ n, n = C.length := ⟨_, rfl⟩
  have HN := hidep hn
  rw [<- hn] at hcc hl ⊢
  have hrd : Rd w (fun _ => True) 1 (.slice ca n cc) n (byC C) := by rw [hn]; exact hC.1
  have HRD := hidep hrd
  have hone := zq33 C
  obtain ⟨y, hy⟩ : ∃ y, y = zqd b 65 := ⟨_, rfl⟩
  have hyr := zqe b 65 (by decide)
  have HAY := hidep (fun (W : World) => zq14 b 65 W hb1 hb2)
  rw [<- hy] at hyr HAY
  have hyw : IntKind.u8.wrap y = y := by show y % 256 = y; omega
  obtain ⟨k, hk⟩ : ∃ k : Nat, (k : Int) = zqd a ((n : Int) + 1) := ⟨(zqd a ((n : Int) + 1)).toNat, by have := zqe a ((n : Int) + 1) (by omega); omega⟩
  have hkn : k <= n := by have := zqe a ((n : Int) + 1) (by omega); omega
  have HAK := hidep (fun (W : World) => zq14 a ((n : Int) + 1) W ha1 ha2)
  rw [<- hk] at HAK
  obtain ⟨m, hm⟩ : ∃ m, m = zqd h 3 := ⟨_, rfl⟩
  have hmr := zqe h 3 (by decide)
  have HAM := hidep (fun (W : World) => zq14 h 3 W hh1 hh2)
  rw [<- hm] at hmr HAM
  have hwn : IntKind.i64.wrap ((n : Int) + 1) = (n : Int) + 1 := IntWalk.i64_in _ (by omega)
  clear hC hn hrd hy hk hm
  go_enter Tryz.func11, Tryz.ntmps11
  go_upto_region 3 with (at_builtin; go_loud (refine zq4 _ rfl _ _ rfl slByt w.heap.size (.slice none 0 0) 0 [] rfl (World.ownsRow_nil _ _ _ _) _ _ _ _ rfl HRD.out hone (by unfold maxLen; omega) (by omega) (Nat.le_refl _) ?_; intro v1 w1 ho1 hg1 hat hnl; clear hat hnl; simp only [Nat.zero_add, List.nil_append] at ho1; obtain ⟨a1, c1, hv1, h1c, h1m⟩ := (Rd.of_own ho1).form; subst hv1))
  unfold maxLen at h1m
  have hb01 : Below w.heap.size w w1 := (Below.refl _ _).grown hg1 (Nat.le_refl _) (fun x hx => by cases (show none = some x from hx))
  have HO1 := hidep (And.intro ho1 hb01)
  have hp := Rd.part (Rd.of_own ho1) (l := k) (hh := n) (m := c1) hkn (Nat.le_refl _) h1c (Nat.le_refl _)
  simp only [Nat.mul_one] at hp
  have HP := hidep (fun vv (hvv : Value.slice (if c1 = k then a1 else a1.map (·.add k)) (n - k) (c1 - k) = vv) => hvv ▸ hp)
  have hone2 : ∀ u ∈ List.take (n - k) (List.drop k (byC C)), u.oneCell' = true := fun u hu => hone u (List.mem_of_mem_drop (List.mem_of_mem_take hu))
  clear ho1 hg1 hb01 hp
  have hdk : List.take (n - k) (List.drop k (byC C)) = byC (C.drop k) := by
    rw [HN.out]
    unfold byC
    rw [<- List.map_drop, List.take_of_length_le (by simp)]
  have HDK := hidep hdk
  clear hdk
  go_upto_region 6 with (go_at_call 9; first
    | ((with_reducible refine (HAY.out _).mono ?_); rintro e w5 ⟨rfl, rfl⟩)
    | ((with_reducible refine (HAK.out _).mono ?_); rintro e w5 ⟨rfl, rfl⟩))
  refine zq17 (fun a W => ∃ v2, BcM w1 h y k n a1 c1 C v2 a W) ?r6 ?_
  case r6 =>
    intro K' hMK
    have hki : (k : Int) <= (n : Int) := by omega
    have hkc : (k : Int) <= (c1 : Int) := by omega
    have hnc : (n : Int) <= (c1 : Int) := by omega
    by_cases hck : c1 = k
    · subst hck
      go_wp2_with (at_builtin; go_loud (refine zq4 _ rfl _ _ rfl slByt w1.heap.size (.slice none 0 0) 0 [] rfl (World.ownsRow_nil _ _ _ _) _ _ _ _ rfl (HP.out _ (by rw [if_pos rfl, Nat.sub_eq_zero_of_le h1c, Nat.sub_self]; rfl)) hone2 (by unfold maxLen; omega) (by omega) (Nat.le_refl _) ?_; intro v2 w2 ho2 hg2 hat hnl; clear hat hnl; simp only [Nat.zero_add, List.nil_append] at ho2; rw [HDK.out] at ho2))
      have hb2 : Below w1.heap.size w1 w2 := (Below.refl _ _).grown hg2 (Nat.le_refl _) (fun x hx => by cases (show none = some x from hx))
      first
        | exact ⟨v2, by kernel_rfl, rfl, rfl, rfl, rfl, rfl, rfl, ho2, hb2⟩
        | exact hMK _ _ ⟨v2, by kernel_rfl, rfl, rfl, rfl, rfl, rfl, rfl, ho2, hb2⟩
    · have HCK := hidep hck
      go_wp2_with (at_builtin; go_loud (refine zq4 _ rfl _ _ rfl slByt w1.heap.size (.slice none 0 0) 0 [] rfl (World.ownsRow_nil _ _ _ _) _ _ _ _ rfl (HP.out _ (by rw [if_neg HCK.out]; rfl)) hone2 (by unfold maxLen; omega) (by omega) (Nat.le_refl _) ?_; intro v2 w2 ho2 hg2 hat hnl; clear hat hnl; simp only [Nat.zero_add, List.nil_append] at ho2; rw [HDK.out] at ho2))
      have hb2 : Below w1.heap.size w1 w2 := (Below.refl _ _).grown hg2 (Nat.le_refl _) (fun x hx => by cases (show none = some x from hx))
      first
        | exact ⟨v2, by kernel_rfl, rfl, rfl, rfl, rfl, rfl, rfl, ho2, hb2⟩
        | exact hMK _ _ ⟨v2, by kernel_rfl, rfl, rfl, rfl, rfl, rfl, rfl, ho2, hb2⟩
  rintro ⟨tm, ds⟩ w2 ⟨v2, hts, hds, e2, e9, e10, e11, e12, ho2, hb2⟩
  dsimp only at hts hds e2 e9 e10 e11 e12
  subst hds
  rw [frame61 tm _ hts, e2, e9, e10, e11, e12]
  clear e2 e9 e10 e11 e12 hts HP hone2 HAY HAK hyw hwn
  (try apply_assumption)
  obtain ⟨a2, c2, rfl, h2c, h2m⟩ := (Rd.of_own ho2).form
  unfold maxLen at h2m
  have ho1 := zq2 HO1.out.1 hb2
  have hb02 : Below w.heap.size w w2 := HO1.out.2.trans (hb2.mono HO1.out.2.size)
  have hne : ∀ g, (Value.slice a1 n c1).ownBlock = some g -> (Value.slice a2 (n - k) c2).ownBlock ≠ some g := fun g e1 e2 => by
    have h1 := (HO1.out.1.lt g e1).2
    have h2 := (ho2.lt g e2).1
    omega
  have HX2 := hidep (And.intro ho1 (And.intro ho2 (And.intro hb02 hne)))
  have HRNG := hidep HC.out.2
  have hw0 : w.heap.size <= w2.heap.size := hb02.size
  obtain ⟨rl, hrl⟩ : ∃ x, x = n - k := ⟨_, rfl⟩
  rw [<- hrl] at HX2 h2c ⊢
  have HRL := hidep hrl
  clear ho1 ho2 hb02 hne hb2 hrl
  have hrln : rl <= 1000000 := by have := HRL.out; omega
  have hki : (k : Int) <= (n : Int) := by omega
  have hkc : (k : Int) <= (c1 : Int) := by omega
  have hk0 : (0 : Int) <= (k : Int) := by omega
  rcases (by omega : m = 0 \/ m = 1 \/ m = 2) with rfl | rfl | rfl
  · have hpre := own_pre HX2.out.1 hkn
    have HPRE := hidep hpre
    clear hpre
    have hbl : Below w2.heap.size w2 (w2.alloc (.cells #[.int .u8 y] 5)) := (Below.refl _ _).alloc (Nat.le_refl _) _
    have HBL := hidep hbl
    have hlen1 : k <= 1000000 := by omega
    have hone3 : ∀ u ∈ byC (C.drop k), u.oneCell' = true := zq33 _
    clear hbl
    go_upto_region 9 with (go_at_call 9; refine (HAM.out _).mono ?_; rintro e w5 ⟨rfl, rfl⟩)
    go_wp2_with (at_builtin; first
      | ((refine zq4 _ rfl (.tmp 35) (.tmp 37) rfl slByt w.heap.size (.slice a1 k c1) k (List.take (k * 1) (byC C)) rfl (zq2 HPRE.out HBL.out) _ _ _ _ rfl (Rd.fresh w2 #[.int .u8 y] 5 1 1 rfl (by decide)) (by intro u hu; simp at hu; subst hu; rfl) (by unfold maxLen; omega) (by omega) (by rw [World.size_alloc]; omega) ?_; intro v3 w3 ho3 hg3 hat hnl; clear hat hnl); have hr3 := zq32 (T := fun x => (Value.slice a1 k c1).ownBlock = some x) (zq2 HX2.out.2.1 HBL.out) ⟨hg3.os, hg3.tape, hg3.output, hg3.size, fun b hb e => hg3.block b hb (fun e2 => e e2.symm)⟩ (fun g e1 e2 => HX2.out.2.2.2 g (by cases a1 <;> exact e2) e1); have hw3 : w.heap.size <= w3.heap.size := Nat.le_trans hw0 (Nat.le_trans HBL.out.size hg3.size); have HR3 := hidep hr3; clear hr3; obtain ⟨a3, c3, hv3, h3c, h3m⟩ := (Rd.of_own ho3).form; subst hv3; have HO3 := hidep ho3; have HG3 := hidep hg3; clear ho3 hg3)
      | (go_loud (refine zq4 _ rfl (.tmp 38) (.tmp 39) rfl slByt w.heap.size (.slice a3 (k + 1) c3) (k + 1) _ rfl HO3.out _ _ _ _ rfl (Rd.of_own HR3.out) hone3 (by unfold maxLen; omega) (by omega) hw3 ?_; intro v4 w4 ho4 hg4 hat hnl; clear hat hnl)))
    go_ret
    refine ⟨_, (C.take k ++ [y]) ++ C.drop k, rfl, ?_, by simp [HN.out]; omega, ?_⟩
    · refine BysAt.of_own (base := w.heap.size) (e := 5) ?_ (fun x hx => ?_)
      · have e1 : List.take (k * 1) (byC C) ++ #[Value.int .u8 y].toList ++ byC (C.drop k) = byC ((C.take k ++ [y]) ++ C.drop k) := by
          unfold byC
          rw [Nat.mul_one, List.map_append, List.map_append, List.map_take, List.map_drop]
          rfl
        have e2 : k + 1 + rl = ((C.take k ++ [y]) ++ C.drop k).length := by
          have := HN.out
          have := HRL.out
          simp
          omega
        rw [<- e1, <- e2]
        exact ho4
      · rcases List.mem_append.1 hx with hx | hx
        · rcases List.mem_append.1 hx with hx | hx
          · exact HRNG.out x (List.mem_of_mem_take hx)
          · rw [List.mem_singleton] at hx; omega
        · exact HRNG.out x (List.mem_of_mem_drop hx)
    · have h3 := (HX2.out.2.2.1.alloc hw0 _).grown HG3.out (by rw [World.size_alloc]; omega) (fun x hx => (HPRE.out.lt x hx).1)
      exact h3.grown hg4 hw3 (fun x hx => (HO3.out.lt x hx).1)
  · by_cases hr0 : 0 < rl
    · have hkl : k < n := by have := HRL.out; omega
      have hkC : k < C.length := by have := HN.out; omega
      have hr0I : (0 : Int) < (rl : Int) := by omega
      have hkI : (k : Int) < (n : Int) := by omega
      obtain ⟨g, hg⟩ : ∃ g, a1 = some ⟨g, 0, none⟩ := by
        rcases HX2.out.1.2 with ⟨h1, _⟩ | ⟨g, cap, cur, h1, _⟩
        · injection h1 with e1 e2 e3
          omega
        · injection h1 with e1 e2 e3
          exact ⟨g, e1⟩
      subst hg
      have hd : w2.cell? ⟨g, k, none⟩ = some (.int .u8 C[k]) := by
        rw [HX2.out.1.cellAt k (by omega)]
        unfold byC
        rw [List.getElem?_map, List.getElem?_eq_getElem hkC]
        rfl
      have hf := HX2.out.1.frozenAt k
      generalize C[k] = z at hd
      have hst := (HX2.out.1.stored k (.int .u8 y)).1
      have hbw := HX2.out.2.2.1.setCell (p := ⟨g, k, none⟩) (HX2.out.1.lt g rfl).1 (.int .u8 y)
      have HST := hidep (And.intro hst hbw)
      clear hst hbw
      go_wp2_with (go_at_call 9; refine (HAM.out _).mono ?_; rintro e w5 ⟨rfl, rfl⟩)
      go_ret
      refine ⟨_, C.set k y, rfl, ?_, by simp [HN.out], HST.out.2⟩
      refine BysAt.of_own (base := w.heap.size) (e := 5) ?_ (fun x hx => ?_)
      · have e1 : (byC C).set k (.int .u8 y) = byC (C.set k y) := by
          unfold byC
          rw [List.map_set]
        rw [<- e1, List.length_set, <- HN.out]
        exact HST.out.1
      · rcases List.mem_or_eq_of_mem_set hx with h | h
        · exact HRNG.out x h
        · omega
    · have hr0I : ¬ (0 : Int) < (rl : Int) := by omega
      go_wp2_with (go_at_call 9; refine (HAM.out _).mono ?_; rintro e w5 ⟨rfl, rfl⟩)
      go_ret
      refine ⟨_, C, rfl, ?_, by simp [HN.out], HX2.out.2.2.1⟩
      refine BysAt.of_own (base := w.heap.size) (e := 5) ?_ HRNG.out
      rw [<- HN.out]
      exact HX2.out.1
  · by_cases hr0 : rl = 0
    · subst hr0
      go_wp2_with (go_at_call 9; refine (HAM.out _).mono ?_; rintro e w5 ⟨rfl, rfl⟩)
      go_ret
      refine ⟨_, C, rfl, ?_, by simp [HN.out], HX2.out.2.2.1⟩
      refine BysAt.of_own (base := w.heap.size) (e := 5) ?_ HRNG.out
      rw [<- HN.out]
      exact HX2.out.1
    · have hr0I : ¬ (rl : Int) = 0 := by omega
      have hr1 : (1 : Int) <= (rl : Int) := by omega
      have hr2 : (rl : Int) <= (c2 : Int) := by omega
      have hr3 : (1 : Int) <= (c2 : Int) := by omega
      have hpre := own_pre HX2.out.1 hkn
      have HPRE := hidep hpre
      clear hpre
      have hdr : Below w2.heap.size w2 w2.drew := (Below.refl _ _).drew
      have HDR := hidep hdr
      have hpr := Rd.part (Rd.of_own HX2.out.2.1) (l := 1) (hh := rl) (m := c2) (by omega) (Nat.le_refl _) h2c (Nat.le_refl _)
      have hdk2 : List.take (rl - 1) (List.drop 1 (byC (C.drop k))) = byC (C.drop (k + 1)) := by
        have hl2 : (C.drop k).length = rl := by rw [List.length_drop, <- HN.out, HRL.out]
        unfold byC
        rw [<- List.map_drop, List.take_of_length_le (by rw [List.length_map, List.length_drop, hl2]; exact Nat.le_refl _), List.drop_drop]
      simp only [Nat.mul_one, hdk2] at hpr
      have hone4 : ∀ u ∈ byC (C.drop (k + 1)), u.oneCell' = true := zq33 _
      have hfin : ∀ v4 w4, w2.drew.grownBy w4 (Value.slice a1 k c1).ownBlock -> w4.ownsRow w.heap.size 5 1 v4 (k + (rl - 1)) (List.take (k * 1) (byC C) ++ byC (C.drop (k + 1))) -> BcP n w (.returned v4) w4 := by
        intro v4 w4 hg4 ho4
        refine ⟨_, C.take k ++ C.drop (k + 1), rfl, ?_, by have := HN.out; rw [List.length_append, List.length_take, List.length_drop]; omega, ?_⟩
        · refine BysAt.of_own (base := w.heap.size) (e := 5) ?_ (fun x hx => ?_)
          · have e1 : List.take (k * 1) (byC C) ++ byC (C.drop (k + 1)) = byC (C.take k ++ C.drop (k + 1)) := by
              unfold byC
              rw [Nat.mul_one, List.map_append, List.map_take]
            have e2 : k + (rl - 1) = (C.take k ++ C.drop (k + 1)).length := by
              have := HN.out
              have := HRL.out
              simp
              omega
            rw [<- e1, <- e2]
            exact ho4
          · rcases List.mem_append.1 hx with hx | hx
            · exact HRNG.out x (List.mem_of_mem_take hx)
            · exact HRNG.out x (List.mem_of_mem_drop hx)
        · exact (HX2.out.2.2.1.trans (HDR.out.mono hw0)).grown hg4 hw0 (fun x hx => (HPRE.out.lt x hx).1)
      have HFIN := hidep hfin
      have HPR := hidep (fun vv (hvv : Value.slice (if c2 = 1 then a2 else a2.map (·.add 1)) (rl - 1) (c2 - 1) = vv) => hvv ▸ hpr)
      clear hpr hdr hdk2 hfin
      by_cases hc2 : c2 = 1
      · have hrl1 : rl = 1 := by omega
        subst hc2 hrl1
        have HPR1 := hidep (Rd.below (HPR.out (.slice a2 0 0) (by rw [if_pos rfl])) HDR.out)
        go_upto_region 16 with (go_at_call 9; refine (HAM.out _).mono ?_; rintro e w5 ⟨rfl, rfl⟩)
        refine wp_region_noPanic (wp_region_held_drew (S := (fun _ => True)) (by kernel_rfl) ?hSz0 (fun hHeld => ?hRz0))
        case hSz0 => ((try dsimp only); (try exact trivial))
        refine tkC 0 rfl ?_
        refine tkC 1 rfl ?_
        refine tkC 2 rfl ?_
        refine tkC 3 rfl ?_
        refine tkC 4 rfl ?_
        refine wpAnyH_ready (rs := [5]) (by kernel_rfl) (by simp) (AllReadyH.cons rfl (fun K hK => ?hcz1) AllReadyH.nil)
        (go_loud (refine zq11 _ rfl (.tmp 57) (.tmp 59) rfl slByt w.heap.size (.slice a1 k c1) k (List.take (k * 1) (byC C)) rfl (zq2 HPRE.out HDR.out) _ _ 0 (byC (C.drop (k + 1))) rfl HPR1.out hone4 (by unfold maxLen; omega) (by omega) hw0 ?_; intro v4 w4 ho4 hg4 hat hnl; clear hat hnl; (try dsimp only)))
        refine hK.out _ _ (by (try dsimp only); (try exact trivial)) ?_
        clear hHeld hK; intro hHeld
        refine tkC 6 rfl ?_
        refine wpAnyH_done (by kernel_rfl) ?_ _
        clear hHeld
        refine NoPanic.normal ?_
        obtain ⟨v5, c5, hv5, hq5⟩ := HFIN.out _ _ hg4 ho4
        cases hv5
        clear hg4 ho4
        go_wp2
        go_ret
        refine ⟨_, c5, ?_, hq5⟩
        kernel_rfl
      · have HC2 := hidep hc2
        go_upto_region 16 with (go_at_call 9; refine (HAM.out _).mono ?_; rintro e w5 ⟨rfl, rfl⟩)
        refine wp_region_noPanic (wp_region_held_drew (S := (fun _ => True)) (by kernel_rfl) ?hSz2 (fun hHeld => ?hRz2))
        case hSz2 => ((try dsimp only); (try exact trivial))
        refine tkC 0 rfl ?_
        refine tkC 1 rfl ?_
        refine tkC 2 rfl ?_
        refine tkC 3 rfl ?_
        refine tkC 4 rfl ?_
        refine wpAnyH_ready (rs := [5]) (by kernel_rfl) (by simp) (AllReadyH.cons rfl (fun K hK => ?hcz3) AllReadyH.nil)
        (go_loud (refine zq11 _ rfl (.tmp 57) (.tmp 59) rfl slByt w.heap.size (.slice a1 k c1) k (List.take (k * 1) (byC C)) rfl (zq2 HPRE.out HDR.out) _ _ (rl - 1) (byC (C.drop (k + 1))) rfl ((HPR.out _ (by rw [if_neg HC2.out]; rfl)).below HDR.out) hone4 (by unfold maxLen; omega) (by omega) hw0 ?_; intro v4 w4 ho4 hg4 hat hnl; clear hat hnl; (try dsimp only)))
        refine hK.out _ _ (by (try dsimp only); (try exact trivial)) ?_
        clear hHeld hK; intro hHeld
        refine tkC 6 rfl ?_
        refine wpAnyH_done (by kernel_rfl) ?_ _
        clear hHeld
        refine NoPanic.normal ?_
        obtain ⟨v5, c5, hv5, hq5⟩ := HFIN.out _ _ hg4 ho4
        cases hv5
        clear hg4 ho4
        go_wp2
        go_ret
        refine ⟨_, c5, ?_, hq5⟩
        kernel_rfl
end Go.Proofs.YtcfjepcflanjbaaGreat
