/- Contract: the maker of changed cells. -/
import Derived.Test.YtcfjepcflanjbaaBf09
import Derived.Test.YtcfjepcflanjbaaBf18
import Derived.Laws.OwnMore
import Derived.Test.YtcfjepcflanjbaaBf48
import Derived.Test.YtcfjepcflanjbaaBf22
import Derived.Test.YtcfjepcflanjbaaBf39
import Derived.Test.YtcfjepcflanjbaaBf21
namespace Go.Proofs.Ytcfjepcflanjbaa
open Go.RowKit Go.Lab Go.Shelf
set_option maxRecDepth 100000
theorem own_pre {W : World} {base k n : Nat} {e : TypeId} {a : Option Addr} {c : Nat} {xs : List Value} (h : W.ownsRow base e k (.slice a n c) n xs) {m : Nat} (hm : m ≤ n) : W.ownsRow base e k (.slice a m c) m (xs.take (m * k)) := by
  have hle : m * k ≤ n * k := Nat.mul_le_mul_right k hm
  refine ⟨by rw [List.length_take, h.1]; omega, ?_⟩
  rcases h.2 with ⟨h1, h2⟩ | ⟨g, cap, cur, h1, hb, hg, hn, hc, hs, ht⟩
  · injection h1 with e1 e2 e3
    subst e1 e3
    have : m = 0 := by omega
    subst this
    exact .inl ⟨rfl, rfl⟩
  · injection h1 with e1 e2 e3
    subst e1 e3
    exact .inr ⟨g, c, cur, rfl, hb, hg, by omega, hc, hs, by rw [← ht, List.take_take, Nat.min_eq_left hle]⟩
theorem range_map61 (f : Nat → Value) : (List.range 61).map f = [f 0, f 1, f 2, f 3, f 4, f 5, f 6, f 7, f 8, f 9, f 10, f 11, f 12, f 13, f 14, f 15, f 16, f 17, f 18, f 19, f 20, f 21, f 22, f 23, f 24, f 25, f 26, f 27, f 28, f 29, f 30, f 31, f 32, f 33, f 34, f 35, f 36, f 37, f 38, f 39, f 40, f 41, f 42, f 43, f 44, f 45, f 46, f 47, f 48, f 49, f 50, f 51, f 52, f 53, f 54, f 55, f 56, f 57, f 58, f 59, f 60] := rfl
theorem frame61 (t : Array Value) (ds : List Deferred) (h : t.size = 61) : ({ tmps := t, defers := ds } : Act) = { tmps := #[slot t 0, slot t 1, slot t 2, slot t 3, slot t 4, slot t 5, slot t 6, slot t 7, slot t 8, slot t 9, slot t 10, slot t 11, slot t 12, slot t 13, slot t 14, slot t 15, slot t 16, slot t 17, slot t 18, slot t 19, slot t 20, slot t 21, slot t 22, slot t 23, slot t 24, slot t 25, slot t 26, slot t 27, slot t 28, slot t 29, slot t 30, slot t 31, slot t 32, slot t 33, slot t 34, slot t 35, slot t 36, slot t 37, slot t 38, slot t 39, slot t 40, slot t 41, slot t 42, slot t 43, slot t 44, slot t 45, slot t 46, slot t 47, slot t 48, slot t 49, slot t 50, slot t 51, slot t 52, slot t 53, slot t 54, slot t 55, slot t 56, slot t 57, slot t 58, slot t 59, slot t 60], defers := ds } := by
  have e : t = ((List.range 61).map (slot t)).toArray := by
    apply Array.ext
    · simp [h]
    · intro i h1 h2
      simp [slot, Array.getD, h1]
  rw [range_map61] at e
  exact congrArg (fun x => ({ tmps := x, defers := ds } : Act)) e
def BcM (w1 : World) (h y : Int) (k n : Nat) (a1 : Option Addr) (c1 : Nat) (C : List Int) (v2 : Value) : Act → World → Prop := fun a W => a.tmps.size = 61 ∧ a.defers = [] ∧ slot a.tmps 2 = .int .i64 h ∧ slot a.tmps 9 = .slice a1 n c1 ∧ slot a.tmps 10 = .int .u8 y ∧ slot a.tmps 11 = .int .i64 (k : Nat) ∧ slot a.tmps 12 = v2 ∧ W.ownsRow w1.heap.size 5 1 v2 (n - k) (byC (C.drop k)) ∧ Below w1.heap.size w1 W
def BcP (n : Nat) (w : World) (e : Ending) (w' : World) : Prop := ∃ v c, e = .returned v ∧ BysAt w' v c ∧ c.length ≤ n + 1 ∧ Below w.heap.size w w'
set_option maxHeartbeats 4000000 in
theorem bentC_any (cv : Value) (C : List Int) (a h b : Int) (w : World) (hC : BysAt w cv C) (hl : C.length ≤ 1000000) (ha1 : -9223372036854775808 ≤ a) (ha2 : a ≤ 9223372036854775807) (hh1 : -9223372036854775808 ≤ h) (hh2 : h ≤ 9223372036854775807) (hb1 : -9223372036854775808 ≤ b) (hb2 : b ≤ 9223372036854775807) :
    Calls Try.prog 8 #[cv, .int .i64 a, .int .i64 h, .int .i64 b] w fun e w' => BcP C.length w e w' := by
  obtain ⟨ca, cc, rfl, hcc, hcm⟩ := hC.1.form
  unfold maxLen at hcm
  have HC := hidep hC
  obtain ⟨n, hn⟩ : ∃ n, n = C.length := ⟨_, rfl⟩
  have HN := hidep hn
  rw [← hn] at hcc hl ⊢
  have hrd : Rd w (fun _ => True) 1 (.slice ca n cc) n (byC C) := by rw [hn]; exact hC.1
  have HRD := hidep hrd
  have hone := byC_one C
  obtain ⟨y, hy⟩ : ∃ y, y = aroundZ b 65 := ⟨_, rfl⟩
  have hyr := aroundZ_rng b 65 (by decide)
  have HAY := hidep (fun (W : World) => around_any b 65 W hb1 hb2)
  rw [← hy] at hyr HAY
  have hyw : IntKind.u8.wrap y = y := by show y % 256 = y; omega
  obtain ⟨k, hk⟩ : ∃ k : Nat, (k : Int) = aroundZ a ((n : Int) + 1) := ⟨(aroundZ a ((n : Int) + 1)).toNat, by have := aroundZ_rng a ((n : Int) + 1) (by omega); omega⟩
  have hkn : k ≤ n := by have := aroundZ_rng a ((n : Int) + 1) (by omega); omega
  have HAK := hidep (fun (W : World) => around_any a ((n : Int) + 1) W ha1 ha2)
  rw [← hk] at HAK
  obtain ⟨m, hm⟩ : ∃ m, m = aroundZ h 3 := ⟨_, rfl⟩
  have hmr := aroundZ_rng h 3 (by decide)
  have HAM := hidep (fun (W : World) => around_any h 3 W hh1 hh2)
  rw [← hm] at hmr HAM
  have hwn : IntKind.i64.wrap ((n : Int) + 1) = (n : Int) + 1 := IntWalk.i64_in _ (by omega)
  clear hC hn hrd hy hk hm
  go_enter Try.func8, Try.ntmps8
  go_upto_region 3 with (at_builtin; go_loud (refine wpList_append_rd _ rfl _ _ rfl slByt w.heap.size (.slice none 0 0) 0 [] rfl (World.ownsRow_nil _ _ _ _) _ _ _ _ rfl HRD.out hone (by unfold maxLen; omega) (by omega) (Nat.le_refl _) ?_; intro v1 w1 ho1 hg1 hat hnl; clear hat hnl; simp only [Nat.zero_add, List.nil_append] at ho1; obtain ⟨a1, c1, hv1, h1c, h1m⟩ := (Rd.of_own ho1).form; subst hv1))
  unfold maxLen at h1m
  have hb01 : Below w.heap.size w w1 := (Below.refl _ _).grown hg1 (Nat.le_refl _) (fun x hx => by cases (show none = some x from hx))
  have HO1 := hidep (And.intro ho1 hb01)
  have hp := Rd.part (Rd.of_own ho1) (l := k) (hh := n) (m := c1) hkn (Nat.le_refl _) h1c (Nat.le_refl _)
  simp only [Nat.mul_one] at hp
  have HP := hidep (fun vv (hvv : Value.slice (if c1 = k then a1 else a1.map (·.add k)) (n - k) (c1 - k) = vv) => hvv ▸ hp)
  have hone2 : ∀ u ∈ List.take (n - k) (List.drop k (byC C)), u.oneCell' = true := fun u hu => hone u (List.mem_of_mem_drop (List.mem_of_mem_take hu))
  clear ho1 hg1 hb01 hp
  have hdk : List.take (n - k) (List.drop k (byC C)) = byC (C.drop k) := by
    rw [HN.out]
    unfold byC
    rw [← List.map_drop, List.take_of_length_le (by simp)]
  have HDK := hidep hdk
  clear hdk
  go_upto_region 6 with (go_at_call 11; first
    | ((with_reducible refine (HAY.out _).mono ?_); rintro e w5 ⟨rfl, rfl⟩)
    | ((with_reducible refine (HAK.out _).mono ?_); rintro e w5 ⟨rfl, rfl⟩))
  refine wp_join (fun a W => ∃ v2, BcM w1 h y k n a1 c1 C v2 a W) ?r6 ?_
  case r6 =>
    intro K' hMK
    have hki : (k : Int) ≤ (n : Int) := by omega
    have hkc : (k : Int) ≤ (c1 : Int) := by omega
    have hnc : (n : Int) ≤ (c1 : Int) := by omega
    by_cases hck : c1 = k
    · subst hck
      go_wp2_with (at_builtin; go_loud (refine wpList_append_rd _ rfl _ _ rfl slByt w1.heap.size (.slice none 0 0) 0 [] rfl (World.ownsRow_nil _ _ _ _) _ _ _ _ rfl (HP.out _ (by rw [if_pos rfl, Nat.sub_eq_zero_of_le h1c, Nat.sub_self]; rfl)) hone2 (by unfold maxLen; omega) (by omega) (Nat.le_refl _) ?_; intro v2 w2 ho2 hg2 hat hnl; clear hat hnl; simp only [Nat.zero_add, List.nil_append] at ho2; rw [HDK.out] at ho2))
      have hb2 : Below w1.heap.size w1 w2 := (Below.refl _ _).grown hg2 (Nat.le_refl _) (fun x hx => by cases (show none = some x from hx))
      first
        | exact ⟨v2, by kernel_rfl, rfl, rfl, rfl, rfl, rfl, rfl, ho2, hb2⟩
        | exact hMK _ _ ⟨v2, by kernel_rfl, rfl, rfl, rfl, rfl, rfl, rfl, ho2, hb2⟩
    · have HCK := hidep hck
      go_wp2_with (at_builtin; go_loud (refine wpList_append_rd _ rfl _ _ rfl slByt w1.heap.size (.slice none 0 0) 0 [] rfl (World.ownsRow_nil _ _ _ _) _ _ _ _ rfl (HP.out _ (by rw [if_neg HCK.out]; rfl)) hone2 (by unfold maxLen; omega) (by omega) (Nat.le_refl _) ?_; intro v2 w2 ho2 hg2 hat hnl; clear hat hnl; simp only [Nat.zero_add, List.nil_append] at ho2; rw [HDK.out] at ho2))
      have hb2 : Below w1.heap.size w1 w2 := (Below.refl _ _).grown hg2 (Nat.le_refl _) (fun x hx => by cases (show none = some x from hx))
      first
        | exact ⟨v2, by kernel_rfl, rfl, rfl, rfl, rfl, rfl, rfl, ho2, hb2⟩
        | exact hMK _ _ ⟨v2, by kernel_rfl, rfl, rfl, rfl, rfl, rfl, rfl, ho2, hb2⟩
  rintro ⟨tm, ds⟩ w2 ⟨v2, hts, hds, e2, e9, e10, e11, e12, ho2, hb2⟩
  dsimp only at hts hds e2 e9 e10 e11 e12
  subst hds
  rw [frame61 tm _ hts, e2, e9, e10, e11, e12]
  clear e2 e9 e10 e11 e12 hts HP hone2 HAY HAK hyw hwn
  (try apply_assumption)
  obtain ⟨a2, c2, rfl, h2c, h2m⟩ := (Rd.of_own ho2).form
  unfold maxLen at h2m
  have ho1 := ownsRow_below HO1.out.1 hb2
  have hb02 : Below w.heap.size w w2 := HO1.out.2.trans (hb2.mono HO1.out.2.size)
  have hne : ∀ g, (Value.slice a1 n c1).ownBlock = some g → (Value.slice a2 (n - k) c2).ownBlock ≠ some g := fun g e1 e2 => by
    have h1 := (HO1.out.1.lt g e1).2
    have h2 := (ho2.lt g e2).1
    omega
  have HX2 := hidep (And.intro ho1 (And.intro ho2 (And.intro hb02 hne)))
  have HRNG := hidep HC.out.2
  have hw0 : w.heap.size ≤ w2.heap.size := hb02.size
  obtain ⟨rl, hrl⟩ : ∃ x, x = n - k := ⟨_, rfl⟩
  rw [← hrl] at HX2 h2c ⊢
  have HRL := hidep hrl
  clear ho1 ho2 hb02 hne hb2 hrl
  have hrln : rl ≤ 1000000 := by have := HRL.out; omega
  have hki : (k : Int) ≤ (n : Int) := by omega
  have hkc : (k : Int) ≤ (c1 : Int) := by omega
  have hk0 : (0 : Int) ≤ (k : Int) := by omega
  rcases (by omega : m = 0 ∨ m = 1 ∨ m = 2) with rfl | rfl | rfl
  · have hpre := own_pre HX2.out.1 hkn
    have HPRE := hidep hpre
    clear hpre
    have hbl : Below w2.heap.size w2 (w2.alloc (.cells #[.int .u8 y] 5)) := (Below.refl _ _).alloc (Nat.le_refl _) _
    have HBL := hidep hbl
    have hlen1 : k ≤ 1000000 := by omega
    have hone3 : ∀ u ∈ byC (C.drop k), u.oneCell' = true := byC_one _
    clear hbl
    go_upto_region 9 with (go_at_call 11; refine (HAM.out _).mono ?_; rintro e w5 ⟨rfl, rfl⟩)
    go_wp2_with (at_builtin; first
      | ((refine wpList_append_rd _ rfl (.tmp 35) (.tmp 37) rfl slByt w.heap.size (.slice a1 k c1) k (List.take (k * 1) (byC C)) rfl (ownsRow_below HPRE.out HBL.out) _ _ _ _ rfl (Rd.fresh w2 #[.int .u8 y] 5 1 1 rfl (by decide)) (by intro u hu; simp at hu; subst hu; rfl) (by unfold maxLen; omega) (by omega) (by rw [World.size_alloc]; omega) ?_; intro v3 w3 ho3 hg3 hat hnl; clear hat hnl); have hr3 := ownsRow_turned (T := fun x => (Value.slice a1 k c1).ownBlock = some x) (ownsRow_below HX2.out.2.1 HBL.out) ⟨hg3.os, hg3.tape, hg3.output, hg3.size, fun b hb e => hg3.block b hb (fun e2 => e e2.symm)⟩ (fun g e1 e2 => HX2.out.2.2.2 g (by cases a1 <;> exact e2) e1); have hw3 : w.heap.size ≤ w3.heap.size := Nat.le_trans hw0 (Nat.le_trans HBL.out.size hg3.size); have HR3 := hidep hr3; clear hr3; obtain ⟨a3, c3, hv3, h3c, h3m⟩ := (Rd.of_own ho3).form; subst hv3; have HO3 := hidep ho3; have HG3 := hidep hg3; clear ho3 hg3)
      | (go_loud (refine wpList_append_rd _ rfl (.tmp 38) (.tmp 39) rfl slByt w.heap.size (.slice a3 (k + 1) c3) (k + 1) _ rfl HO3.out _ _ _ _ rfl (Rd.of_own HR3.out) hone3 (by unfold maxLen; omega) (by omega) hw3 ?_; intro v4 w4 ho4 hg4 hat hnl; clear hat hnl)))
    go_ret
    refine ⟨_, (C.take k ++ [y]) ++ C.drop k, rfl, ?_, by simp [HN.out]; omega, ?_⟩
    · refine BysAt.of_own (base := w.heap.size) (e := 5) ?_ (fun x hx => ?_)
      · have e1 : List.take (k * 1) (byC C) ++ #[Value.int .u8 y].toList ++ byC (C.drop k) = byC ((C.take k ++ [y]) ++ C.drop k) := by
          unfold byC
          rw [Nat.mul_one, List.map_append, List.map_append, List.map_take, List.map_drop]
          rfl
        have e2 : k + 1 + rl = ((C.take k ++ [y]) ++ C.drop k).length := by
          have := HN.out
          have := HRL.out
          simp
          omega
        rw [← e1, ← e2]
        exact ho4
      · rcases List.mem_append.1 hx with hx | hx
        · rcases List.mem_append.1 hx with hx | hx
          · exact HRNG.out x (List.mem_of_mem_take hx)
          · rw [List.mem_singleton] at hx; omega
        · exact HRNG.out x (List.mem_of_mem_drop hx)
    · have h3 := (HX2.out.2.2.1.alloc hw0 _).grown HG3.out (by rw [World.size_alloc]; omega) (fun x hx => (HPRE.out.lt x hx).1)
      exact h3.grown hg4 hw3 (fun x hx => (HO3.out.lt x hx).1)
  · by_cases hr0 : 0 < rl
    · have hkl : k < n := by have := HRL.out; omega
      have hkC : k < C.length := by have := HN.out; omega
      have hr0I : (0 : Int) < (rl : Int) := by omega
      have hkI : (k : Int) < (n : Int) := by omega
      obtain ⟨g, hg⟩ : ∃ g, a1 = some ⟨g, 0, none⟩ := by
        rcases HX2.out.1.2 with ⟨h1, _⟩ | ⟨g, cap, cur, h1, _⟩
        · injection h1 with e1 e2 e3
          omega
        · injection h1 with e1 e2 e3
          exact ⟨g, e1⟩
      subst hg
      have hd : w2.cell? ⟨g, k, none⟩ = some (.int .u8 C[k]) := by
        rw [HX2.out.1.cellAt k (by omega)]
        unfold byC
        rw [List.getElem?_map, List.getElem?_eq_getElem hkC]
        rfl
      have hf := HX2.out.1.frozenAt k
      generalize C[k] = z at hd
      have hst := (HX2.out.1.stored k (.int .u8 y)).1
      have hbw := HX2.out.2.2.1.setCell (p := ⟨g, k, none⟩) (HX2.out.1.lt g rfl).1 (.int .u8 y)
      have HST := hidep (And.intro hst hbw)
      clear hst hbw
      go_wp2_with (go_at_call 11; refine (HAM.out _).mono ?_; rintro e w5 ⟨rfl, rfl⟩)
      go_ret
      refine ⟨_, C.set k y, rfl, ?_, by simp [HN.out], HST.out.2⟩
      refine BysAt.of_own (base := w.heap.size) (e := 5) ?_ (fun x hx => ?_)
      · have e1 : (byC C).set k (.int .u8 y) = byC (C.set k y) := by
          unfold byC
          rw [List.map_set]
        rw [← e1, List.length_set, ← HN.out]
        exact HST.out.1
      · rcases List.mem_or_eq_of_mem_set hx with h | h
        · exact HRNG.out x h
        · omega
    · have hr0I : ¬ (0 : Int) < (rl : Int) := by omega
      go_wp2_with (go_at_call 11; refine (HAM.out _).mono ?_; rintro e w5 ⟨rfl, rfl⟩)
      go_ret
      refine ⟨_, C, rfl, ?_, by simp [HN.out], HX2.out.2.2.1⟩
      refine BysAt.of_own (base := w.heap.size) (e := 5) ?_ HRNG.out
      rw [← HN.out]
      exact HX2.out.1
  · by_cases hr0 : rl = 0
    · subst hr0
      go_wp2_with (go_at_call 11; refine (HAM.out _).mono ?_; rintro e w5 ⟨rfl, rfl⟩)
      go_ret
      refine ⟨_, C, rfl, ?_, by simp [HN.out], HX2.out.2.2.1⟩
      refine BysAt.of_own (base := w.heap.size) (e := 5) ?_ HRNG.out
      rw [← HN.out]
      exact HX2.out.1
    · have hr0I : ¬ (rl : Int) = 0 := by omega
      have hr1 : (1 : Int) ≤ (rl : Int) := by omega
      have hr2 : (rl : Int) ≤ (c2 : Int) := by omega
      have hr3 : (1 : Int) ≤ (c2 : Int) := by omega
      have hpre := own_pre HX2.out.1 hkn
      have HPRE := hidep hpre
      clear hpre
      have hdr : Below w2.heap.size w2 w2.drew := (Below.refl _ _).drew
      have HDR := hidep hdr
      have hpr := Rd.part (Rd.of_own HX2.out.2.1) (l := 1) (hh := rl) (m := c2) (by omega) (Nat.le_refl _) h2c (Nat.le_refl _)
      have hdk2 : List.take (rl - 1) (List.drop 1 (byC (C.drop k))) = byC (C.drop (k + 1)) := by
        have hl2 : (C.drop k).length = rl := by rw [List.length_drop, ← HN.out, HRL.out]
        unfold byC
        rw [← List.map_drop, List.take_of_length_le (by rw [List.length_map, List.length_drop, hl2]; exact Nat.le_refl _), List.drop_drop]
      simp only [Nat.mul_one, hdk2] at hpr
      have hone4 : ∀ u ∈ byC (C.drop (k + 1)), u.oneCell' = true := byC_one _
      have hfin : ∀ v4 w4, w2.drew.grownBy w4 (Value.slice a1 k c1).ownBlock → w4.ownsRow w.heap.size 5 1 v4 (k + (rl - 1)) (List.take (k * 1) (byC C) ++ byC (C.drop (k + 1))) → BcP n w (.returned v4) w4 := by
        intro v4 w4 hg4 ho4
        refine ⟨_, C.take k ++ C.drop (k + 1), rfl, ?_, by have := HN.out; rw [List.length_append, List.length_take, List.length_drop]; omega, ?_⟩
        · refine BysAt.of_own (base := w.heap.size) (e := 5) ?_ (fun x hx => ?_)
          · have e1 : List.take (k * 1) (byC C) ++ byC (C.drop (k + 1)) = byC (C.take k ++ C.drop (k + 1)) := by
              unfold byC
              rw [Nat.mul_one, List.map_append, List.map_take]
            have e2 : k + (rl - 1) = (C.take k ++ C.drop (k + 1)).length := by
              have := HN.out
              have := HRL.out
              simp
              omega
            rw [← e1, ← e2]
            exact ho4
          · rcases List.mem_append.1 hx with hx | hx
            · exact HRNG.out x (List.mem_of_mem_take hx)
            · exact HRNG.out x (List.mem_of_mem_drop hx)
        · exact (HX2.out.2.2.1.trans (HDR.out.mono hw0)).grown hg4 hw0 (fun x hx => (HPRE.out.lt x hx).1)
      have HFIN := hidep hfin
      have HPR := hidep (fun vv (hvv : Value.slice (if c2 = 1 then a2 else a2.map (·.add 1)) (rl - 1) (c2 - 1) = vv) => hvv ▸ hpr)
      clear hpr hdr hdk2 hfin
      by_cases hc2 : c2 = 1
      · have hrl1 : rl = 1 := by omega
        subst hc2 hrl1
        have HPR1 := hidep (Rd.below (HPR.out (.slice a2 0 0) (by rw [if_pos rfl])) HDR.out)
        go_upto_region 16 with (go_at_call 11; refine (HAM.out _).mono ?_; rintro e w5 ⟨rfl, rfl⟩)
        refine wp_region_noPanic (wp_region_held_drew (S := (fun _ => True)) (by kernel_rfl) ?hS8r16n0 (fun hHeld => ?hR8r16n0))
        case hS8r16n0 => ((try dsimp only); (try exact trivial))
        refine wpAnyH_take (i := 0) (v := ?v8r16n0q1) rfl (by kernel_rfl) (by kernel_rfl) (by kernel_rfl) (fun _ _ _ h => h) (Or.inl ⟨by kernel_rfl, ?hy8r16n0q1⟩) (by assumption) ?hr8r16n0q1
        case hy8r16n0q1 => (intro w hSw; (try dsimp only at hSw); (skip); first | (go_simp; done) | (go_simp; with_reducible rfl))
        refine wpAnyH_take (i := 1) (v := ?v8r16n0q2) rfl (by kernel_rfl) (by kernel_rfl) (by kernel_rfl) (fun _ _ _ h => h) (Or.inl ⟨by kernel_rfl, ?hy8r16n0q2⟩) (by assumption) ?hr8r16n0q2
        case hy8r16n0q2 => (intro w hSw; (try dsimp only at hSw); (skip); first | (go_simp; done) | (go_simp; with_reducible rfl))
        refine wpAnyH_take (i := 2) (v := ?v8r16n0q3) rfl (by kernel_rfl) (by kernel_rfl) (by kernel_rfl) (fun _ _ _ h => h) (Or.inl ⟨by kernel_rfl, ?hy8r16n0q3⟩) (by assumption) ?hr8r16n0q3
        case hy8r16n0q3 => (intro w hSw; (try dsimp only at hSw); (skip); first | (go_simp; done) | (go_simp; with_reducible rfl))
        refine wpAnyH_take (i := 3) (v := ?v8r16n0q4) rfl (by kernel_rfl) (by kernel_rfl) (by kernel_rfl) (fun _ _ _ h => h) (Or.inl ⟨by kernel_rfl, ?hy8r16n0q4⟩) (by assumption) ?hr8r16n0q4
        case hy8r16n0q4 => (intro w hSw; (try dsimp only at hSw); (skip); first | (go_simp; done) | (go_simp; with_reducible rfl))
        refine wpAnyH_take (i := 4) (v := ?v8r16n0q5) rfl (by kernel_rfl) (by kernel_rfl) (by kernel_rfl) (fun _ _ _ h => h) (Or.inl ⟨by kernel_rfl, ?hy8r16n0q5⟩) (by assumption) ?hr8r16n0q5
        case hy8r16n0q5 => (intro w hSw; (try dsimp only at hSw); (skip); first | (go_simp; done) | (go_simp; with_reducible rfl))
        refine wpAnyH_ready (rs := [5]) (by kernel_rfl) (by simp) (AllReadyH.cons rfl (fun K hK => ?hc8r16n0q6) AllReadyH.nil)
        (go_loud (refine step_append_rd _ rfl (.tmp 57) (.tmp 59) rfl slByt w.heap.size (.slice a1 k c1) k (List.take (k * 1) (byC C)) rfl (ownsRow_below HPRE.out HDR.out) _ _ 0 (byC (C.drop (k + 1))) rfl HPR1.out hone4 (by unfold maxLen; omega) (by omega) hw0 ?_; intro v4 w4 ho4 hg4 hat hnl; clear hat hnl; (try dsimp only)))
        refine hK.out _ _ ?hs8r16n0q6 (fun hHeld8r16n0q6 => ?ht8r16n0q6)
        case hs8r16n0q6 => ((try dsimp only); (try exact trivial))
        clear hHeld hK
        have hHeld := hHeld8r16n0q6
        clear hHeld8r16n0q6
        refine wpAnyH_take (i := 6) (v := ?v8r16n0q7) rfl (by kernel_rfl) (by kernel_rfl) (by kernel_rfl) (fun _ _ _ h => h) (Or.inl ⟨by kernel_rfl, ?hy8r16n0q7⟩) (by assumption) ?hr8r16n0q7
        case hy8r16n0q7 => (intro w hSw; (try dsimp only at hSw); (skip); first | (go_simp; done) | (go_simp; with_reducible rfl))
        refine wpAnyH_done (by kernel_rfl) ?_ _
        clear hHeld
        refine NoPanic.normal ?_
        obtain ⟨v5, c5, hv5, hq5⟩ := HFIN.out _ _ hg4 ho4
        cases hv5
        clear hg4 ho4
        go_wp2
        go_ret
        refine ⟨_, c5, ?_, hq5⟩
        kernel_rfl
      · have HC2 := hidep hc2
        go_upto_region 16 with (go_at_call 11; refine (HAM.out _).mono ?_; rintro e w5 ⟨rfl, rfl⟩)
        refine wp_region_noPanic (wp_region_held_drew (S := (fun _ => True)) (by kernel_rfl) ?hS8r16n1 (fun hHeld => ?hR8r16n1))
        case hS8r16n1 => ((try dsimp only); (try exact trivial))
        refine wpAnyH_take (i := 0) (v := ?v8r16n1q1) rfl (by kernel_rfl) (by kernel_rfl) (by kernel_rfl) (fun _ _ _ h => h) (Or.inl ⟨by kernel_rfl, ?hy8r16n1q1⟩) (by assumption) ?hr8r16n1q1
        case hy8r16n1q1 => (intro w hSw; (try dsimp only at hSw); (skip); first | (go_simp; done) | (go_simp; with_reducible rfl))
        refine wpAnyH_take (i := 1) (v := ?v8r16n1q2) rfl (by kernel_rfl) (by kernel_rfl) (by kernel_rfl) (fun _ _ _ h => h) (Or.inl ⟨by kernel_rfl, ?hy8r16n1q2⟩) (by assumption) ?hr8r16n1q2
        case hy8r16n1q2 => (intro w hSw; (try dsimp only at hSw); (skip); first | (go_simp; done) | (go_simp; with_reducible rfl))
        refine wpAnyH_take (i := 2) (v := ?v8r16n1q3) rfl (by kernel_rfl) (by kernel_rfl) (by kernel_rfl) (fun _ _ _ h => h) (Or.inl ⟨by kernel_rfl, ?hy8r16n1q3⟩) (by assumption) ?hr8r16n1q3
        case hy8r16n1q3 => (intro w hSw; (try dsimp only at hSw); (skip); first | (go_simp; done) | (go_simp; with_reducible rfl))
        refine wpAnyH_take (i := 3) (v := ?v8r16n1q4) rfl (by kernel_rfl) (by kernel_rfl) (by kernel_rfl) (fun _ _ _ h => h) (Or.inl ⟨by kernel_rfl, ?hy8r16n1q4⟩) (by assumption) ?hr8r16n1q4
        case hy8r16n1q4 => (intro w hSw; (try dsimp only at hSw); (skip); first | (go_simp; done) | (go_simp; with_reducible rfl))
        refine wpAnyH_take (i := 4) (v := ?v8r16n1q5) rfl (by kernel_rfl) (by kernel_rfl) (by kernel_rfl) (fun _ _ _ h => h) (Or.inl ⟨by kernel_rfl, ?hy8r16n1q5⟩) (by assumption) ?hr8r16n1q5
        case hy8r16n1q5 => (intro w hSw; (try dsimp only at hSw); (skip); first | (go_simp; done) | (go_simp; with_reducible rfl))
        refine wpAnyH_ready (rs := [5]) (by kernel_rfl) (by simp) (AllReadyH.cons rfl (fun K hK => ?hc8r16n1q6) AllReadyH.nil)
        (go_loud (refine step_append_rd _ rfl (.tmp 57) (.tmp 59) rfl slByt w.heap.size (.slice a1 k c1) k (List.take (k * 1) (byC C)) rfl (ownsRow_below HPRE.out HDR.out) _ _ (rl - 1) (byC (C.drop (k + 1))) rfl ((HPR.out _ (by rw [if_neg HC2.out]; rfl)).below HDR.out) hone4 (by unfold maxLen; omega) (by omega) hw0 ?_; intro v4 w4 ho4 hg4 hat hnl; clear hat hnl; (try dsimp only)))
        refine hK.out _ _ ?hs8r16n1q6 (fun hHeld8r16n1q6 => ?ht8r16n1q6)
        case hs8r16n1q6 => ((try dsimp only); (try exact trivial))
        clear hHeld hK
        have hHeld := hHeld8r16n1q6
        clear hHeld8r16n1q6
        refine wpAnyH_take (i := 6) (v := ?v8r16n1q7) rfl (by kernel_rfl) (by kernel_rfl) (by kernel_rfl) (fun _ _ _ h => h) (Or.inl ⟨by kernel_rfl, ?hy8r16n1q7⟩) (by assumption) ?hr8r16n1q7
        case hy8r16n1q7 => (intro w hSw; (try dsimp only at hSw); (skip); first | (go_simp; done) | (go_simp; with_reducible rfl))
        refine wpAnyH_done (by kernel_rfl) ?_ _
        clear hHeld
        refine NoPanic.normal ?_
        obtain ⟨v5, c5, hv5, hq5⟩ := HFIN.out _ _ hg4 ho4
        cases hv5
        clear hg4 ho4
        go_wp2
        go_ret
        refine ⟨_, c5, ?_, hq5⟩
        kernel_rfl
end Go.Proofs.Ytcfjepcflanjbaa
/- Contract: the makers' Few. -/
namespace Go.Proofs.Ytcfjepcflanjbaa
open Go.RowKit Go.Lab Go.Shelf
set_option maxRecDepth 100000
set_option maxHeartbeats 1000000 in
theorem few_any (v : Value) (l : List Int) (k : Nat) (w : World) (h : BysAt w v l) (hl : l.length ≤ 9223372036854775807) (hk : k ≤ 1000) :
    Calls Try.prog 9 #[v, .int .i64 (k : Nat)] w fun e w' => ∃ u, e = .returned u ∧ BysAt w' u (l.take k) ∧ Below w.heap.size w w' := by
  obtain ⟨a, c, rfl, hlc, hlm⟩ := h.1.form
  unfold maxLen at hlm
  have H := hidep h
  obtain ⟨n, hn⟩ : ∃ n, n = l.length := ⟨_, rfl⟩
  have HN := hidep hn
  obtain ⟨m, hm⟩ : ∃ m, m = min n k := ⟨_, rfl⟩
  have hmi : min (n : Int) (k : Int) = (m : Int) := by omega
  have hmc : (m : Int) ≤ (c : Int) := by rw [← hn] at hlc; omega
  have hm0 : (0 : Int) ≤ (m : Int) := by omega
  have hmn : m ≤ n := by omega
  have HMK := hidep hm
  rw [← hn] at hlc hl ⊢
  have hp := h.1.pre (j := m) (by omega)
  rw [Nat.mul_one] at hp
  have HP := hidep hp
  clear h hn hm hp
  go_enter Try.func9, Try.ntmps9
  go_upto_region 2 with (fail)
  have hone : ∀ u ∈ List.take m (byC l), u.oneCell' = true := fun u hu => byC_one l u (List.mem_of_mem_take hu)
  go_wp2_with (at_builtin; go_loud (refine wpList_append_rd _ rfl _ _ rfl slByt w.heap.size (.slice none 0 0) 0 [] rfl (World.ownsRow_nil _ _ _ _) (fun _ => True) (.slice a m c) m (List.take m (byC l)) (by first | rfl | (go_simp; split <;> omega)) HP.out hone (by unfold maxLen; omega) (by omega) (Nat.le_refl _) ?_; intro v1 w1 hown hgr hat hnl; clear hat hnl))
  all_goals
    go_ret
    refine ⟨_, rfl, ?_, (Below.refl _ _).grown hgr (Nat.le_refl _) (fun k hk => by simp [Value.ownBlock] at hk)⟩
    have hlt : (l.take k).length = m := by rw [List.length_take, HMK.out, HN.out, Nat.min_comm]
    have hlk : List.take m (byC l) = byC (l.take k) := by
      rw [HMK.out, HN.out]
      unfold byC
      rw [List.map_take, List.take_eq_take_iff.2]
      simp
      omega
    refine BysAt.of_own (base := w.heap.size) (e := 5) ?_ (fun x hx => H.out.2 x (List.mem_of_mem_take hx))
    rw [hlt, ← hlk]
    simpa using hown
end Go.Proofs.Ytcfjepcflanjbaa
/- For all tables and cells, of a translation, changed, and any: Good of a beginning is the lesser one of Good and its length, and cells that have a text are good as a whole. -/
namespace Go.Proofs.Ytcfjepcflanjbaa
open Go.RowKit Go.Lab Go.Shelf
set_option maxRecDepth 100000
theorem range_map127 (f : Nat → Value) : (List.range 127).map f = [f 0, f 1, f 2, f 3, f 4, f 5, f 6, f 7, f 8, f 9, f 10, f 11, f 12, f 13, f 14, f 15, f 16, f 17, f 18, f 19, f 20, f 21, f 22, f 23, f 24, f 25, f 26, f 27, f 28, f 29, f 30, f 31, f 32, f 33, f 34, f 35, f 36, f 37, f 38, f 39, f 40, f 41, f 42, f 43, f 44, f 45, f 46, f 47, f 48, f 49, f 50, f 51, f 52, f 53, f 54, f 55, f 56, f 57, f 58, f 59, f 60, f 61, f 62, f 63, f 64, f 65, f 66, f 67, f 68, f 69, f 70, f 71, f 72, f 73, f 74, f 75, f 76, f 77, f 78, f 79, f 80, f 81, f 82, f 83, f 84, f 85, f 86, f 87, f 88, f 89, f 90, f 91, f 92, f 93, f 94, f 95, f 96, f 97, f 98, f 99, f 100, f 101, f 102, f 103, f 104, f 105, f 106, f 107, f 108, f 109, f 110, f 111, f 112, f 113, f 114, f 115, f 116, f 117, f 118, f 119, f 120, f 121, f 122, f 123, f 124, f 125, f 126] := rfl
theorem frame127 (t : Array Value) (ds : List Deferred) (h : t.size = 127) : ({ tmps := t, defers := ds } : Act) = { tmps := #[slot t 0, slot t 1, slot t 2, slot t 3, slot t 4, slot t 5, slot t 6, slot t 7, slot t 8, slot t 9, slot t 10, slot t 11, slot t 12, slot t 13, slot t 14, slot t 15, slot t 16, slot t 17, slot t 18, slot t 19, slot t 20, slot t 21, slot t 22, slot t 23, slot t 24, slot t 25, slot t 26, slot t 27, slot t 28, slot t 29, slot t 30, slot t 31, slot t 32, slot t 33, slot t 34, slot t 35, slot t 36, slot t 37, slot t 38, slot t 39, slot t 40, slot t 41, slot t 42, slot t 43, slot t 44, slot t 45, slot t 46, slot t 47, slot t 48, slot t 49, slot t 50, slot t 51, slot t 52, slot t 53, slot t 54, slot t 55, slot t 56, slot t 57, slot t 58, slot t 59, slot t 60, slot t 61, slot t 62, slot t 63, slot t 64, slot t 65, slot t 66, slot t 67, slot t 68, slot t 69, slot t 70, slot t 71, slot t 72, slot t 73, slot t 74, slot t 75, slot t 76, slot t 77, slot t 78, slot t 79, slot t 80, slot t 81, slot t 82, slot t 83, slot t 84, slot t 85, slot t 86, slot t 87, slot t 88, slot t 89, slot t 90, slot t 91, slot t 92, slot t 93, slot t 94, slot t 95, slot t 96, slot t 97, slot t 98, slot t 99, slot t 100, slot t 101, slot t 102, slot t 103, slot t 104, slot t 105, slot t 106, slot t 107, slot t 108, slot t 109, slot t 110, slot t 111, slot t 112, slot t 113, slot t 114, slot t 115, slot t 116, slot t 117, slot t 118, slot t 119, slot t 120, slot t 121, slot t 122, slot t 123, slot t 124, slot t 125, slot t 126], defers := ds } := by
  have e : t = ((List.range 127).map (slot t)).toArray := by
    apply Array.ext
    · simp [h]
    · intro i h1 h2
      simp [slot, Array.getD, h1]
  rw [range_map127] at e
  exact congrArg (fun x => ({ tmps := x, defers := ds } : Act)) e
/-- The lists of the law. -/
structure BbD (W : World) (Lb : Nat) (T : TabZ) (l : List Sym) (X : World) : Prop where
  low : Below W.heap.size W X
  ll : Lb < X.heap.size
  cl : ∀ k, k < 3 → ∃ a n c C, X.cell? ⟨Lb, k, none⟩ = some (.slice a n c) ∧ BysAt X (.slice a n c) C ∧ C.length ≤ 8192 ∧ (k = 0 → isZ T l C = true)
theorem BbD.below {W X Z : World} {Lb : Nat} {T : TabZ} {l : List Sym} (h : BbD W Lb T l X) (hb : Below X.heap.size X Z) : BbD W Lb T l Z := by
  refine ⟨h.low.trans (hb.mono h.low.size), Nat.lt_of_lt_of_le h.ll hb.size, fun k hk => ?_⟩
  obtain ⟨a, n, c, C, h1, h2, h3, h4⟩ := h.cl k hk
  exact ⟨a, n, c, C, (hb.cell (p := ⟨Lb, k, none⟩) h.ll).trans h1, h2.below hb, h3, h4⟩
theorem bbd_of {w2 X : World} {Lb : Nat} {T : TabZ} {l : List Sym} {b1 b2 b3 : Option Addr} {m1 m2 m3 k1 k2 k3 : Nat} {C1 C2 C3 : List Int} (hb : Below w2.heap.size w2 X)
    (hl : X.heap[Lb]? = some (.cells #[.slice b1 m1 k1, .slice b2 m2 k2, .slice b3 m3 k3] 23))
    (y1 : BysAt X (.slice b1 m1 k1) C1) (y2 : BysAt X (.slice b2 m2 k2) C2) (y3 : BysAt X (.slice b3 m3 k3) C3) (z1 : C1.length ≤ 8192) (z2 : C2.length ≤ 8192) (z3 : C3.length ≤ 8192) (hi : isZ T l C1 = true) : BbD w2 Lb T l X := by
  refine ⟨hb, lt_of_block hl, fun k hk => ?_⟩
  rcases (by omega : k = 0 ∨ k = 1 ∨ k = 2) with rfl | rfl | rfl
  · exact ⟨_, _, _, C1, by simp [World.cell?, hl], y1, z1, fun _ => hi⟩
  · exact ⟨_, _, _, C2, by simp [World.cell?, hl], y2, z2, fun h => by cases h⟩
  · exact ⟨_, _, _, C3, by simp [World.cell?, hl], y3, z3, fun h => by cases h⟩
def BbL (W : World) (Lb : Nat) (T : TabZ) (l : List Sym) (u : Value) (X : World) : Prop := ∃ i : Nat, i ≤ 3 ∧ u = .int .i64 (i : Nat) ∧ BbD W Lb T l X
def BbA (W0 : World) (v3 v4 v5 v6 v15 : Value) (T : TabZ) (l : List Sym) : Act → World → Prop := fun a W => ∃ (xa : Option Addr) (xn : Nat) (xc : Nat) (C : List Int), a.tmps.size = 127 ∧ a.defers = [] ∧ slot a.tmps 3 = v3 ∧ slot a.tmps 4 = v4 ∧ slot a.tmps 5 = v5 ∧ slot a.tmps 6 = v6 ∧ slot a.tmps 14 = .bool false ∧ slot a.tmps 15 = v15 ∧ slot a.tmps 16 = .slice xa xn xc ∧ slot a.tmps 17 = .bool true ∧ BysAt W (.slice xa xn xc) C ∧ xn = C.length ∧ isZ T l C = true ∧ Below W0.heap.size W0 W
def BbB (W0 : World) (r : Int) (v15 v18 v20 : Value) (i k j m : Nat) : Act → World → Prop := fun a W => a.tmps.size = 127 ∧ a.defers = [] ∧ slot a.tmps 5 = .int .i64 r ∧ slot a.tmps 14 = .bool false ∧ slot a.tmps 15 = v15 ∧ slot a.tmps 17 = .bool true ∧ slot a.tmps 18 = v18 ∧ slot a.tmps 19 = .int .i64 (i : Nat) ∧ slot a.tmps 20 = v20 ∧ slot a.tmps 21 = .int .i64 (k : Nat) ∧ slot a.tmps 22 = .int .i64 0 ∧ slot a.tmps 23 = .int .i64 (j : Nat) ∧ slot a.tmps 24 = .int .i64 (m : Nat) ∧ slot a.tmps 25 = .int .i64 0 ∧ Below W0.heap.size W0 W
set_option maxHeartbeats 4000000 in
theorem backBeginnings_any (v1 v2 v6 : Value) (l ch raw : List Int) (n p q r : Int) (W : World) (hl : IntsAt W v1 l) (hch : IntsAt W v2 ch) (hraw : BysAt W v6 raw) (hn : -9223372036854775808 ≤ n ∧ n ≤ 9223372036854775807) (hp : -9223372036854775808 ≤ p ∧ p ≤ 9223372036854775807) (hq : -9223372036854775808 ≤ q ∧ q ≤ 9223372036854775807) (hr : -9223372036854775808 ≤ r ∧ r ≤ 9223372036854775807) :
    Calls Try.prog 3 #[.int .i64 n, v1, v2, .int .i64 p, .int .i64 q, .int .i64 r, v6] W fun e W' => e = .returned (.bool true) ∧ Below W.heap.size W W' := by
  obtain ⟨ra, rc, hv6, hrc, hrm⟩ := hraw.1.form
  subst hv6
  unfold maxLen at hrm
  have HA := hidep (And.intro hl (And.intro hch hraw))
  have HR := hidep (And.intro hn (And.intro hp (And.intro hq hr)))
  obtain ⟨rl, hrl⟩ : ∃ x, x = raw.length := ⟨_, rfl⟩
  have HRL := hidep hrl
  rw [← hrl] at hrc ⊢
  clear hl hch hraw hrl
  go_enter Try.func3, Try.ntmps3
  go_upto_region 2 with (go_at_call 5; refine (tables_any n _ HR.out.1.1 HR.out.1.2).mono ?_; rintro e w1 ⟨⟨va, vb, vd, vc, vn, ve, vs⟩, T, rfl, hT, hG, hb1⟩; obtain ⟨aa, ac, e0, -, -⟩ := hT.r0.form; obtain ⟨ba, bc, e1, -, -⟩ := hT.r1.form; obtain ⟨da, dc, e2, -, -⟩ := hT.dg.1.form; obtain ⟨ca, cc, e3, -, -⟩ := hT.cp.1.form; obtain ⟨na, nc, e4, -, -⟩ := hT.nm.1.form; obtain ⟨ea, ec, e5, -, -⟩ := hT.en.1.form; obtain ⟨sa, sc, e6, -, -⟩ := hT.sw.1.form; unfold TabV.v; dsimp only at e0 e1 e2 e3 e4 e5 e6 ⊢; subst e0 e1 e2 e3 e4 e5 e6)
  obtain ⟨Bt, hBt⟩ : ∃ B, B = w1.heap.size := ⟨_, rfl⟩
  refine wp_abs (fun X => Below w1.heap.size w1 X ∧ X.heap[Bt]? = some (.cells #[.slice aa T.l0.length ac, .slice ba T.l1.length bc, .slice da T.dg.length dc, .slice ca T.cp.length cc, .slice na T.nm.length nc, .slice ea T.en.length ec, .slice sa T.sw.length sc] 29)) ⟨(Below.refl _ _).alloc (Nat.le_refl _) _, by rw [hBt]; exact heap_alloc_new _ _⟩ ?_
  rintro w2 ⟨hb2, hx2⟩
  rw [← hBt]
  have hT2 := hT.below hb2
  have hbw2 := hb1.trans (hb2.mono hb1.size)
  clear hT hb1 hb2 hBt
  have HA2 := hidep (And.intro (HA.out.1.below hbw2) (And.intro (HA.out.2.1.below hbw2) (And.intro (HA.out.2.2.below hbw2) hbw2)))
  obtain ⟨V, hVe⟩ : ∃ V : TabV, V = ⟨.slice aa T.l0.length ac, .slice ba T.l1.length bc, .slice da T.dg.length dc, .slice ca T.cp.length cc, .slice na T.nm.length nc, .slice ea T.en.length ec, .slice sa T.sw.length sc⟩ := ⟨_, rfl⟩
  rw [← hVe] at hT2
  have HVv := hidep (show V.v = .agg #[.slice aa T.l0.length ac, .slice ba T.l1.length bc, .slice da T.dg.length dc, .slice ca T.cp.length cc, .slice na T.nm.length nc, .slice ea T.en.length ec, .slice sa T.sw.length sc] by rw [hVe]; rfl)
  have HT2 := hidep (And.intro hT2 (And.intro hG (And.intro (tabG_ok hG) (valid_made hG))))
  have HX2 := hidep hx2
  have HVE := hidep hVe
  clear hbw2 hT2 hG hx2 hVe HA
  have HSEE := hidep (fun (Z : World) (hZ : Below w2.heap.size w2 Z) => tb7 (below_push hZ HX2.out))
  have HSY := hidep (fun (Z : World) (hZ : Below w2.heap.size w2 Z) => syms_any v1 l Z (HA2.out.1.below hZ))
  have HWR := hidep (fun (Z : World) (hZ : Below w2.heap.size w2 Z) (u : Value) (hs : SymsAt Z u (symsZ l)) => HVv.out ▸ writtenC_any V T u v2 (symsZ l) ch Z (HT2.out.1.below hZ) HT2.out.2.2.1 HT2.out.2.2.2 hs (symsZ_SymOk l) (by have := symsZ_len l; omega) (symsZ_lang l) (HA2.out.2.1.below hZ))
  refine wp_join (BbA w2 (.int .i64 p) (.int .i64 q) (.int .i64 r) (.slice ra rl rc) (.pointer (some ⟨Bt, 0, none⟩)) T (symsZ l)) ?r2 ?_
  case r2 =>
    intro K' hMK
    go_upto_region 2 with (fail)
    refine wp_region_noPanic (wp_region_held_drew (S := (fun Z => Below w2.heap.size w2 Z)) (by kernel_rfl) ?hS3r2n0 (fun hHeld => ?hR3r2n0))
    case hS3r2n0 => ((try dsimp only); (exact (Below.refl _ _).drew))
    refine wpAnyH_take (i := 0) (v := ?v3r2n0q1) rfl (by kernel_rfl) (by kernel_rfl) (by kernel_rfl) (fun _ _ _ h => h) (Or.inl ⟨by kernel_rfl, ?hy3r2n0q1⟩) (by assumption) ?hr3r2n0q1
    case hy3r2n0q1 => (intro w hSw; (try dsimp only at hSw); (obtain ⟨g0, g1, g2, g3, g4, g5, g6⟩ := HSEE.out _ hSw); first | (go_simp; done) | (go_simp; with_reducible rfl))
    refine wpAnyH_take (i := 1) (v := ?v3r2n0q2) rfl (by kernel_rfl) (by kernel_rfl) (by kernel_rfl) (fun _ _ _ h => h) (Or.inl ⟨by kernel_rfl, ?hy3r2n0q2⟩) (by assumption) ?hr3r2n0q2
    case hy3r2n0q2 => (intro w hSw; (try dsimp only at hSw); (obtain ⟨g0, g1, g2, g3, g4, g5, g6⟩ := HSEE.out _ hSw); first | (go_simp; done) | (go_simp; with_reducible rfl))
    refine wpAnyH_take (i := 3) (v := ?v3r2n0q3) rfl (by kernel_rfl) (by kernel_rfl) (by kernel_rfl) (fun _ _ _ h => h) (Or.inl ⟨by kernel_rfl, ?hy3r2n0q3⟩) (by assumption) ?hr3r2n0q3
    case hy3r2n0q3 => (intro w hSw; (try dsimp only at hSw); (obtain ⟨g0, g1, g2, g3, g4, g5, g6⟩ := HSEE.out _ hSw); first | (go_simp; done) | (go_simp; with_reducible rfl))
    refine wpAnyH_ready (rs := [2]) (by kernel_rfl) (by simp) (AllReadyH.cons rfl (fun K hK => ?hc3r2n0q4) AllReadyH.nil)
    go_simp
    (go_at_call 7; (with_reducible refine (HSY.out _ hHeld).mono ?_); rintro e' w33 ⟨u33, rfl, ha33, hb33⟩; have hk9 := hHeld.trans (hb33.mono hHeld.size); have hs33 := SymsAt.of_own ha33; obtain ⟨a33, c33, e33, -, -⟩ := hs33.form; subst e33; (try dsimp only))
    refine hK.out _ _ ?hs3r2n0q4 (fun hHeld3r2n0q4 => ?ht3r2n0q4)
    case hs3r2n0q4 => ((try dsimp only); (exact hk9))
    clear hHeld hK
    have hHeld := hHeld3r2n0q4
    clear hHeld3r2n0q4
    refine wpAnyH_ready (rs := [4]) (by kernel_rfl) (by simp) (AllReadyH.cons rfl (fun K hK => ?hc3r2n0q5) AllReadyH.nil)
    go_simp
    (go_at_call 6; refine (HWR.out _ hHeld _ hs33).mono ?_; rintro e' w35 ⟨v35, C, okw, rfl, hcl, hCl, hok1, hok2, hb35⟩; have hokw := hok2 (written_ok HT2.out.2.1 l); subst hokw; have hk9 := hHeld.trans (hb35.mono hHeld.size); obtain ⟨xl, xlc, hxl, -, -⟩ := hcl.1.form; subst hxl; (try dsimp only))
    refine hK.out _ _ ?hs3r2n0q5 (fun hHeld3r2n0q5 => ?ht3r2n0q5)
    case hs3r2n0q5 => ((try dsimp only); (exact hk9))
    clear hHeld hK
    have hHeld := hHeld3r2n0q5
    clear hHeld3r2n0q5
    refine wpAnyH_take (i := 5) (v := ?v3r2n0q6) rfl (by kernel_rfl) (by kernel_rfl) (by kernel_rfl) (fun _ _ _ h => h) (Or.inl ⟨by kernel_rfl, ?hy3r2n0q6⟩) (by assumption) ?hr3r2n0q6
    case hy3r2n0q6 => (intro w hSw; (try dsimp only at hSw); (obtain ⟨g0, g1, g2, g3, g4, g5, g6⟩ := HSEE.out _ hSw); first | (go_simp; done) | (go_simp; with_reducible rfl))
    refine wpAnyH_take (i := 6) (v := ?v3r2n0q7) rfl (by kernel_rfl) (by kernel_rfl) (by kernel_rfl) (fun _ _ _ h => h) (Or.inl ⟨by kernel_rfl, ?hy3r2n0q7⟩) (by assumption) ?hr3r2n0q7
    case hy3r2n0q7 => (intro w hSw; (try dsimp only at hSw); (obtain ⟨g0, g1, g2, g3, g4, g5, g6⟩ := HSEE.out _ hSw); first | (go_simp; done) | (go_simp; with_reducible rfl))
    refine wpAnyH_take (i := 7) (v := ?v3r2n0q8) rfl (by kernel_rfl) (by kernel_rfl) (by kernel_rfl) (fun _ _ _ h => h) (Or.inl ⟨by kernel_rfl, ?hy3r2n0q8⟩) (by assumption) ?hr3r2n0q8
    case hy3r2n0q8 => (intro w hSw; (try dsimp only at hSw); (obtain ⟨g0, g1, g2, g3, g4, g5, g6⟩ := HSEE.out _ hSw); first | (go_simp; done) | (go_simp; with_reducible rfl))
    refine wpAnyH_take (i := 8) (v := ?v3r2n0q9) rfl (by kernel_rfl) (by kernel_rfl) (by kernel_rfl) (fun _ _ _ h => h) (Or.inl ⟨by kernel_rfl, ?hy3r2n0q9⟩) (by assumption) ?hr3r2n0q9
    case hy3r2n0q9 => (intro w hSw; (try dsimp only at hSw); (obtain ⟨g0, g1, g2, g3, g4, g5, g6⟩ := HSEE.out _ hSw); first | (go_simp; done) | (go_simp; with_reducible rfl))
    refine wpAnyH_take (i := 9) (v := ?v3r2n0q10) rfl (by kernel_rfl) (by kernel_rfl) (by kernel_rfl) (fun _ _ _ h => h) (Or.inl ⟨by kernel_rfl, ?hy3r2n0q10⟩) (by assumption) ?hr3r2n0q10
    case hy3r2n0q10 => (intro w hSw; (try dsimp only at hSw); (obtain ⟨g0, g1, g2, g3, g4, g5, g6⟩ := HSEE.out _ hSw); first | (go_simp; done) | (go_simp; with_reducible rfl))
    refine wpAnyH_done (by kernel_rfl) ?_ _
    clear hHeld
    refine NoPanic.normal ?_
    all_goals
      (try dsimp only [Exit.then])
      have hisz : isZ T (symsZ l) C = true := (by first | exact hok1 rfl | exact hok1 trivial)
      have HBK := hidep (And.intro hcl (And.intro hisz hk9))
      clear hcl hisz hok1 hok2
      go_wp2
      first
        | exact ⟨_, _, _, C, by kernel_rfl, by kernel_rfl, by kernel_rfl, by kernel_rfl, by kernel_rfl, by kernel_rfl, by kernel_rfl, by kernel_rfl, by kernel_rfl, by kernel_rfl, HBK.out.1, rfl, HBK.out.2.1, HBK.out.2.2⟩
        | exact hMK _ _ ⟨_, _, _, C, by kernel_rfl, by kernel_rfl, by kernel_rfl, by kernel_rfl, by kernel_rfl, by kernel_rfl, by kernel_rfl, by kernel_rfl, by kernel_rfl, by kernel_rfl, HBK.out.1, rfl, HBK.out.2.1, HBK.out.2.2⟩
  rintro ⟨tm, ds⟩ X ⟨xl, cn, xlc, C, hts, hds, e3, e4, e5, e6, e14, e15, e16, e17, hcl, hcn, hisz, hbx⟩
  dsimp only at hts hds e3 e4 e5 e6 e14 e15 e16 e17
  subst hds
  rw [frame127 tm _ hts, e3, e4, e5, e6, e14, e15, e16, e17]
  clear e3 e4 e5 e6 e14 e15 e16 e17 hts HSY HWR
  (try apply_assumption)
  have hClen := isZ_len HT2.out.2.2.2 (symsZ_lang l) hisz
  have hLn := symsZ_len l
  have hC588 : C.length ≤ 588 := by omega
  have H3 := hidep (And.intro hbx (And.intro hcl (And.intro hisz (HA2.out.2.2.1.below hbx))))
  have HCN := hidep hcn
  clear hcl hisz hbx hcn hClen
  have HFEW := hidep (show ∀ Z : World, Below X.heap.size X Z → Calls Try.prog 9 #[.slice ra rl rc, .int .i64 24] Z (fun e w' => ∃ u, e = .returned u ∧ BysAt w' u (raw.take 24) ∧ Below Z.heap.size Z w') from fun Z hZ => few_any (.slice ra rl rc) raw 24 Z (by rw [HRL.out]; exact H3.out.2.2.2.below hZ) (by rw [← HRL.out]; omega) (by decide))
  go_upto_region 4 with (first
    | (go_at_call 8; refine (bentC_any (.slice xl cn xlc) C p q r _ H3.out.2.1 (by omega) HR.out.2.1.1 HR.out.2.1.2 HR.out.2.2.1.1 HR.out.2.2.1.2 HR.out.2.2.2.1 HR.out.2.2.2.2).mono ?_; rintro e w5 ⟨v5, c5, rfl, hc5, hl5, hb5⟩; obtain ⟨x5, k5, e5, -, -⟩ := hc5.1.form; subst e5; have H5 := hidep (And.intro hc5 (And.intro hl5 hb5)))
    | (go_at_call 9; refine (HFEW.out _ H5.out.2.2).mono ?_; rintro e w6 ⟨v6, rfl, hc6, hb6⟩; obtain ⟨x6, k6, e6, -, -⟩ := hc6.1.form; subst e6; obtain ⟨rn, hrn⟩ : ∃ x, x = (raw.take 24).length := ⟨_, rfl⟩; rw [← hrn] at hc6 ⊢; have HRN := hidep hrn; clear hrn))
  have hb36 : Below X.heap.size X w6 := H5.out.2.2.trans (hb6.mono H5.out.2.2.size)
  have hn24 : (raw.take 24).length ≤ 24 := by rw [List.length_take]; omega
  have H6 := hidep (And.intro hc6 (And.intro (H5.out.1.below hb6) (And.intro hn24 hb36)))
  clear hc6 hb6 hb36 hn24
  obtain ⟨Lb, hLb⟩ : ∃ B, B = w6.heap.size := ⟨_, rfl⟩
  refine wp_abs (fun Z => Below w6.heap.size w6 Z ∧ Z.heap[Lb]? = some (.cells #[.slice xl cn xlc, .slice x5 c5.length k5, .slice x6 rn k6] 23)) ⟨(Below.refl _ _).alloc (Nat.le_refl _) _, by rw [hLb]; exact heap_alloc_new _ _⟩ ?_
  rintro w7 ⟨hb7, hx7⟩
  rw [← hLb]
  have hb37 : Below X.heap.size X w7 := H6.out.2.2.2.trans (hb7.mono H6.out.2.2.2.size)
  have hD : BbD w2 Lb T (symsZ l) w7 := bbd_of (H3.out.1.trans (hb37.mono H3.out.1.size)) hx7 (H3.out.2.1.below hb37) (H6.out.2.1.below hb7) (H6.out.1.below hb7) (by omega) (by have := H5.out.2.1; omega) (by have := H6.out.2.2.1; omega) H3.out.2.2.1
  have HD := hidep hD
  clear hb7 hx7 hb37 hD hLb H5 H6 H3
  go_upto_region 5 with (fail)
  refine wp_loop (LoopI 127 (fun tm ds wr => (slot tm 5) = .int .i64 r ∧ (slot tm 14) = .bool false ∧ (slot tm 15) = .pointer (some ⟨Bt, 0, none⟩) ∧ (slot tm 17) = .bool true ∧ (slot tm 18) = .slice (some ⟨Lb, 0, none⟩) 3 3 ∧ ds = [] ∧ BbL w2 Lb T (symsZ l) (slot tm 19) wr)) (fun a' wr => 3 - natI (a'.tmps.getD 19 undef)) ?liStart ?liRound
  case' liStart => refine LoopI.mk rfl ?_
  case' liRound => (rintro ⟨t, ds⟩ wr ⟨hts, hrel⟩; dsimp only at hts hrel; rw [frame127 t ds hts])
  case liStart => exact ⟨rfl, rfl, rfl, rfl, rfl, rfl, 0, by decide, rfl, HD.out⟩
  obtain ⟨e5, e14, e15, e17, e18, hds, i, hi, e19, hD⟩ := hrel
  subst hds
  rw [e5, e14, e15, e17, e18, e19]
  clear e5 e14 e15 e17 e18 e19 hts HD
  have HDI := hidep hD
  have hiw : IntKind.i64.wrap ((i : Int) + 1) = (i : Int) + 1 := IntWalk.i64_in _ (by omega)
  by_cases hi3 : i < 3
  · have hiI : (i : Int) < 3 := by omega
    obtain ⟨da9, dn, dc9, D, hx0, hd, hdl, hdi⟩ := hD.cl i hi3
    obtain ⟨wi, hwi⟩ : ∃ wo : World, wo = wr := ⟨_, rfl⟩
    rw [← hwi] at HDI hD hx0 hd ⊢
    obtain ⟨a', c', e', hdc, hdm⟩ := hd.1.form
    have hdn : dn = D.length := by injection e'
    subst hdn
    unfold maxLen at hdm
    obtain ⟨dn, hdn⟩ : ∃ x, x = D.length := ⟨_, rfl⟩
    have HDN := hidep hdn
    have hcc : c' = dc9 := by injection e' with _ _ h; exact h.symm
    subst hcc
    have HTC := hidep (fun (Z : World) (hZ : Below wi.heap.size wi Z) => HSEE.out Z (hD.low.trans (hZ.mono hD.low.size)))
    have HTW := hidep (fun (Z : World) (hZ : Below wi.heap.size wi Z) => HT2.out.1.below (hD.low.trans (hZ.mono hD.low.size)))
    obtain ⟨k, hk⟩ : ∃ k, k = goodZ T D := ⟨_, rfl⟩
    have hkd : k ≤ dn := by rw [hk, hdn]; exact good_le HT2.out.2.2.2
    have hjr := aroundZ_rng r (dn + 1) (by omega)
    have HAJ := hidep (fun (Z : World) => around_any r (dn + 1) Z HR.out.2.2.2.1 HR.out.2.2.2.2)
    obtain ⟨j, hj⟩ : ∃ j : Nat, (j : Int) = aroundZ r (dn + 1) := ⟨(aroundZ r (dn + 1)).toNat, by omega⟩
    rw [← hj] at hjr HAJ
    have hjd : j ≤ dn := by omega
    have HG1 := hidep (fun (Z : World) (hZ : Below wi.heap.size wi Z) => HVv.out ▸ goodC_any V T (.slice da9 D.length c') D Z (HTW.out Z hZ) HT2.out.2.2.1 (hd.below hZ))
    rw [checkZ_zero HT2.out.2.2.2 hdl, if_pos rfl, ← hk, ← hdn] at HG1
    have hpre : BysAt wi (.slice da9 j c') (D.take j) := by
      have h := Rd.pre hd.1 (j := j) (by omega)
      rw [Nat.mul_one, byC_take] at h
      refine ⟨?_, fun x hx => hd.2 x (List.mem_of_mem_take hx)⟩
      rw [List.length_take, Nat.min_eq_left (by omega)]
      exact h
    have HG2 := hidep (fun (Z : World) (hZ : Below wi.heap.size wi Z) => HVv.out ▸ goodC_any V T (.slice da9 j c') (D.take j) Z (HTW.out Z hZ) HT2.out.2.2.1 (hpre.below hZ))
    rw [checkZ_zero HT2.out.2.2.2 (by rw [List.length_take]; omega), if_pos rfl, good_take HT2.out.2.2.2 (by omega), ← hk] at HG2
    obtain ⟨m, hm⟩ : ∃ m, m = min k j := ⟨_, rfl⟩
    rw [← hm] at HG2
    have hmI : min (k : Int) (j : Int) = (m : Int) := by omega
    have HAL := hidep (fun (Z : World) (hZ : Below wi.heap.size wi Z) => HVv.out ▸ allC_any V T (.slice da9 D.length c') D 1 Z (HTW.out Z hZ) HT2.out.2.2.1 (hd.below hZ))
    have ha1 := all_one (T := T) (C := D) HT2.out.2.2.2 hdl
    have ha2 : i = 0 → (allZ T D 1).1.length = 1 := fun h => all_one_is HT2.out.2.2.2 (symsZ_lang l) (fun x hx => by have := symsZ_SymOk l x hx; exact ⟨this.1, this.2.1⟩) (hdi h) hdl
    obtain ⟨A, hA⟩ : ∃ A, A = (allZ T D 1).1 := ⟨_, rfl⟩
    rw [ha1.1, ← hA, ← hdn] at HAL
    rw [← hA] at ha1 ha2
    have HA1 := hidep (And.intro ha1.2 ha2)
    rw [← hk, ← hdn] at HA1
    have hdn8 : dn ≤ 8192 := by rw [hdn]; exact hdl
    clear ha1 ha2 hA hdi hwi hpre hj hk hd e' hdl hm
    rw [← hdn] at hx0 hdc
    clear hdn
    obtain ⟨g0, g1, g2, g3, g4, g5, g6⟩ := HTC.out wi (Below.refl _ _)
    have hd1 : IntKind.i64.wrap ((dn : Int) + 1) = (dn : Int) + 1 := IntWalk.i64_in _ (by omega)
    go_upto_region 9 with (go_at_call 10; refine (HG1.out _ (Below.refl _ _)).mono ?_; rintro e w3 ⟨rfl, hb3⟩)
    clear g0 g1 g2 g3 g4 g5 g6 HG1 hx0
    have HB3 := hidep hb3
    clear hb3 hD
    go_upto_region 10 with (go_at_call 11; (with_reducible refine (HAJ.out _).mono ?_); rintro e w4 ⟨rfl, rfl⟩)
    have hjI : (j : Int) ≤ (dn : Int) := by omega
    have hjc : (j : Int) ≤ (c' : Int) := by omega
    have hj0 : (0 : Int) ≤ (j : Int) := by omega
    refine wp_join (BbB wi r (.pointer (some ⟨Bt, 0, none⟩)) (.slice (some ⟨Lb, 0, none⟩) 3 3) (.slice da9 dn c') i k j m) ?r10 ?_
    case r10 =>
      intro K' hMK
      go_upto_region 10 with (fail)
      refine wp_region_noPanic (wp_region_held_drew (S := (fun Z => Below wi.heap.size wi Z)) (by kernel_rfl) ?hS3r10n1 (fun hHeld => ?hR3r10n1))
      case hS3r10n1 => ((try dsimp only); (exact HB3.out.trans (((Below.refl _ _).drew).mono HB3.out.size)))
      refine wpAnyH_take (i := 0) (v := ?v3r10n1q1) rfl (by kernel_rfl) (by kernel_rfl) (by kernel_rfl) (fun _ _ _ h => h) (Or.inl ⟨by kernel_rfl, ?hy3r10n1q1⟩) (by assumption) ?hr3r10n1q1
      case hy3r10n1q1 => (intro w hSw; (try dsimp only at hSw); (obtain ⟨g0, g1, g2, g3, g4, g5, g6⟩ := HTC.out _ hSw); first | (go_simp; done) | (go_simp; with_reducible rfl))
      refine wpAnyH_take (i := 1) (v := ?v3r10n1q2) rfl (by kernel_rfl) (by kernel_rfl) (by kernel_rfl) (fun _ _ _ h => h) (Or.inl ⟨by kernel_rfl, ?hy3r10n1q2⟩) (by assumption) ?hr3r10n1q2
      case hy3r10n1q2 => (intro w hSw; (try dsimp only at hSw); (obtain ⟨g0, g1, g2, g3, g4, g5, g6⟩ := HTC.out _ hSw); first | (go_simp; done) | (go_simp; with_reducible rfl))
      refine wpAnyH_take (i := 2) (v := ?v3r10n1q3) rfl (by kernel_rfl) (by kernel_rfl) (by kernel_rfl) (fun _ _ _ h => h) (Or.inl ⟨by kernel_rfl, ?hy3r10n1q3⟩) (by assumption) ?hr3r10n1q3
      case hy3r10n1q3 => (intro w hSw; (try dsimp only at hSw); (obtain ⟨g0, g1, g2, g3, g4, g5, g6⟩ := HTC.out _ hSw); first | (go_simp; done) | (go_simp; with_reducible rfl))
      refine wpAnyH_take (i := 3) (v := ?v3r10n1q4) rfl (by kernel_rfl) (by kernel_rfl) (by kernel_rfl) (fun _ _ _ h => h) (Or.inl ⟨by kernel_rfl, ?hy3r10n1q4⟩) (by assumption) ?hr3r10n1q4
      case hy3r10n1q4 => (intro w hSw; (try dsimp only at hSw); (obtain ⟨g0, g1, g2, g3, g4, g5, g6⟩ := HTC.out _ hSw); first | (go_simp; done) | (go_simp; with_reducible rfl))
      refine wpAnyH_ready (rs := [4]) (by kernel_rfl) (by simp) (AllReadyH.cons rfl (fun K hK => ?hc3r10n1q5) AllReadyH.nil)
      go_simp
      (go_at_call 10; (with_reducible refine (HG2.out _ hHeld).mono ?_); rintro e' w71 ⟨rfl, hb71⟩; have hk9 := hHeld.trans (hb71.mono hHeld.size); (try dsimp only))
      refine hK.out _ _ ?hs3r10n1q5 (fun hHeld3r10n1q5 => ?ht3r10n1q5)
      case hs3r10n1q5 => ((try dsimp only); (exact hk9))
      clear hHeld hK
      have hHeld := hHeld3r10n1q5
      clear hHeld3r10n1q5
      refine wpAnyH_take (i := 5) (v := ?v3r10n1q6) rfl (by kernel_rfl) (by kernel_rfl) (by kernel_rfl) (fun _ _ _ h => h) (Or.inl ⟨by kernel_rfl, ?hy3r10n1q6⟩) (by assumption) ?hr3r10n1q6
      case hy3r10n1q6 => (intro w hSw; (try dsimp only at hSw); (obtain ⟨g0, g1, g2, g3, g4, g5, g6⟩ := HTC.out _ hSw); first | (go_simp; done) | (go_simp; with_reducible rfl))
      refine wpAnyH_take (i := 6) (v := ?v3r10n1q7) rfl (by kernel_rfl) (by kernel_rfl) (by kernel_rfl) (fun _ _ _ h => h) (Or.inl ⟨by kernel_rfl, ?hy3r10n1q7⟩) (by assumption) ?hr3r10n1q7
      case hy3r10n1q7 => (intro w hSw; (try dsimp only at hSw); (obtain ⟨g0, g1, g2, g3, g4, g5, g6⟩ := HTC.out _ hSw); first | (go_simp; done) | (go_simp; with_reducible rfl))
      refine wpAnyH_take (i := 7) (v := ?v3r10n1q8) rfl (by kernel_rfl) (by kernel_rfl) (by kernel_rfl) (fun _ _ _ h => h) (Or.inl ⟨by kernel_rfl, ?hy3r10n1q8⟩) (by assumption) ?hr3r10n1q8
      case hy3r10n1q8 => (intro w hSw; (try dsimp only at hSw); (obtain ⟨g0, g1, g2, g3, g4, g5, g6⟩ := HTC.out _ hSw); first | (go_simp; done) | (go_simp; with_reducible rfl))
      refine wpAnyH_take (i := 8) (v := ?v3r10n1q9) rfl (by kernel_rfl) (by kernel_rfl) (by kernel_rfl) (fun _ _ _ h => h) (Or.inl ⟨by kernel_rfl, ?hy3r10n1q9⟩) (by assumption) ?hr3r10n1q9
      case hy3r10n1q9 => (intro w hSw; (try dsimp only at hSw); (obtain ⟨g0, g1, g2, g3, g4, g5, g6⟩ := HTC.out _ hSw); first | (go_simp; done) | (go_simp; with_reducible rfl))
      refine wpAnyH_take (i := 9) (v := ?v3r10n1q10) rfl (by kernel_rfl) (by kernel_rfl) (by kernel_rfl) (fun _ _ _ h => h) (Or.inl ⟨by kernel_rfl, ?hy3r10n1q10⟩) (by assumption) ?hr3r10n1q10
      case hy3r10n1q10 => (intro w hSw; (try dsimp only at hSw); (obtain ⟨g0, g1, g2, g3, g4, g5, g6⟩ := HTC.out _ hSw); first | (go_simp; done) | (go_simp; with_reducible rfl))
      refine wpAnyH_done (by kernel_rfl) ?_ _
      clear hHeld
      refine NoPanic.normal ?_
      all_goals
        (try dsimp only [Exit.then])
        have HK9 := hidep hk9
        clear hk9
        go_wp2
        first
          | exact ⟨by kernel_rfl, by kernel_rfl, by kernel_rfl, by kernel_rfl, by kernel_rfl, by kernel_rfl, by kernel_rfl, by kernel_rfl, by kernel_rfl, by kernel_rfl, by kernel_rfl, by kernel_rfl, by kernel_rfl, by kernel_rfl, HK9.out⟩
          | exact hMK _ _ ⟨by kernel_rfl, by kernel_rfl, by kernel_rfl, by kernel_rfl, by kernel_rfl, by kernel_rfl, by kernel_rfl, by kernel_rfl, by kernel_rfl, by kernel_rfl, by kernel_rfl, by kernel_rfl, by kernel_rfl, by kernel_rfl, HK9.out⟩
    rintro ⟨tm, ds⟩ X9 ⟨hts, hds, e5, e14, e15, e17, e18, e19, e20, e21, e22, e23, e24, e25, hb9⟩
    dsimp only at hts hds e5 e14 e15 e17 e18 e19 e20 e21 e22 e23 e24 e25
    subst hds
    rw [frame127 tm _ hts, e5, e14, e15, e17, e18, e19, e20, e21, e22, e23, e24, e25]
    clear e5 e14 e15 e17 e18 e19 e20 e21 e22 e23 e24 e25 hts HG2 HAJ HB3 hjI hjc hj0
    (try apply_assumption)
    have HB9 := hidep hb9
    obtain ⟨g0, g1, g2, g3, g4, g5, g6⟩ := HTC.out X9 hb9
    clear hb9
    go_upto_region 12 with (go_at_call 12; refine (HAL.out _ HB9.out).mono ?_; rintro e w5 ⟨v5, rfl, hs5, hb5⟩; obtain ⟨a5, c5', e5, -, -⟩ := hs5.form; subst e5)
    have HDN2 := hidep (HDI.out.below (HB9.out.trans (hb5.mono HB9.out.size)))
    obtain ⟨an, han⟩ : ∃ x, x = A.length := ⟨_, rfl⟩
    have hA2 := HA1.out
    rw [← han] at hA2 ⊢
    clear g0 g1 g2 g3 g4 g5 g6 HAL hs5 hb5 HTC HTW HB9 han HA1
    have n0 : ((0 : Int) != 0) = false := rfl
    have nm : ((m : Int) != (m : Int)) = false := by simp
    have hkI : ¬ (k : Int) > (dn : Int) := by omega
    have key : an = 0 ∧ i ≠ 0 ∨ an = 1 ∧ k = dn := by
      rcases hA2.1 with h | h
      · refine .inl ⟨h, fun e => ?_⟩
        have := hA2.2 e
        omega
      · exact .inr h
    clear hA2
    rcases key with ⟨h1, h2⟩ | ⟨h1, h2⟩
    · subst h1
      have hi0 : ((i : Int) == 0) = false := by rw [beq_eq_false_iff_ne]; omega
      have hi1 : ¬ (i : Int) = 0 := by omega
      have HI := hidep h2
      clear h2
      go_wp2
      refine ⟨LoopI.mk (by kernel_rfl) ⟨by kernel_rfl, by kernel_rfl, by kernel_rfl, by kernel_rfl, by kernel_rfl, rfl, i + 1, by omega, by kernel_rfl, HDN2.out⟩, ?_⟩
      show 3 - _ < 3 - _
      simp [natI]; omega
    · subst h1
      subst h2
      have nk : ((k : Int) != (k : Int)) = false := by simp
      obtain ⟨z, hz⟩ : ∃ z : Bool, ((i : Int) == 0) = z := ⟨_, rfl⟩
      cases z <;> (go_wp2; (refine ⟨LoopI.mk (by kernel_rfl) ⟨by kernel_rfl, by kernel_rfl, by kernel_rfl, by kernel_rfl, by kernel_rfl, rfl, i + 1, by omega, by kernel_rfl, HDN2.out⟩, ?_⟩); (show 3 - _ < 3 - _); simp [natI]; omega)
  · have hiI : ¬ (i : Int) < 3 := by omega
    have HW2 := hidep (HA2.out.2.2.2.trans (HDI.out.low.mono HA2.out.2.2.2.size))
    clear hD
    go_wp2_with (go_at_call 13; refine (lives_any _).mono ?_; rintro e w9 ⟨rfl, hb9⟩)
    go_ret
    exact ⟨rfl, HW2.out.trans (hb9.mono HW2.out.size)⟩
end Go.Proofs.Ytcfjepcflanjbaa
