/- The walk of the law ReaderFewer. -/
import Derived.Test.YtfljgcpfmhhgcaaRdX7
import Derived.Test.YtfljgcpfmhhgcaaRdPo
import Derived.Test.YtfljgcpfmhhgcaaRdSt
import Derived.Test.YtfljgcpfmhhgcaaRdJ
namespace Go.Proofs.Ytfljgcpfmhhgcaa
open Go.RowKit Go.Lab
attribute [local go_sem] Oper.semAt_some
set_option maxRecDepth 100000
theorem range_map115 (f : Nat → Value) : (List.range 115).map f = [f 0, f 1, f 2, f 3, f 4, f 5, f 6, f 7, f 8, f 9, f 10, f 11, f 12, f 13, f 14, f 15, f 16, f 17, f 18, f 19, f 20, f 21, f 22, f 23, f 24, f 25, f 26, f 27, f 28, f 29, f 30, f 31, f 32, f 33, f 34, f 35, f 36, f 37, f 38, f 39, f 40, f 41, f 42, f 43, f 44, f 45, f 46, f 47, f 48, f 49, f 50, f 51, f 52, f 53, f 54, f 55, f 56, f 57, f 58, f 59, f 60, f 61, f 62, f 63, f 64, f 65, f 66, f 67, f 68, f 69, f 70, f 71, f 72, f 73, f 74, f 75, f 76, f 77, f 78, f 79, f 80, f 81, f 82, f 83, f 84, f 85, f 86, f 87, f 88, f 89, f 90, f 91, f 92, f 93, f 94, f 95, f 96, f 97, f 98, f 99, f 100, f 101, f 102, f 103, f 104, f 105, f 106, f 107, f 108, f 109, f 110, f 111, f 112, f 113, f 114] := rfl
theorem frame115 (t : Array Value) (ds : List Deferred) (h : t.size = 115) : ({ tmps := t, defers := ds } : Act) = { tmps := #[slot t 0, slot t 1, slot t 2, slot t 3, slot t 4, slot t 5, slot t 6, slot t 7, slot t 8, slot t 9, slot t 10, slot t 11, slot t 12, slot t 13, slot t 14, slot t 15, slot t 16, slot t 17, slot t 18, slot t 19, slot t 20, slot t 21, slot t 22, slot t 23, slot t 24, slot t 25, slot t 26, slot t 27, slot t 28, slot t 29, slot t 30, slot t 31, slot t 32, slot t 33, slot t 34, slot t 35, slot t 36, slot t 37, slot t 38, slot t 39, slot t 40, slot t 41, slot t 42, slot t 43, slot t 44, slot t 45, slot t 46, slot t 47, slot t 48, slot t 49, slot t 50, slot t 51, slot t 52, slot t 53, slot t 54, slot t 55, slot t 56, slot t 57, slot t 58, slot t 59, slot t 60, slot t 61, slot t 62, slot t 63, slot t 64, slot t 65, slot t 66, slot t 67, slot t 68, slot t 69, slot t 70, slot t 71, slot t 72, slot t 73, slot t 74, slot t 75, slot t 76, slot t 77, slot t 78, slot t 79, slot t 80, slot t 81, slot t 82, slot t 83, slot t 84, slot t 85, slot t 86, slot t 87, slot t 88, slot t 89, slot t 90, slot t 91, slot t 92, slot t 93, slot t 94, slot t 95, slot t 96, slot t 97, slot t 98, slot t 99, slot t 100, slot t 101, slot t 102, slot t 103, slot t 104, slot t 105, slot t 106, slot t 107, slot t 108, slot t 109, slot t 110, slot t 111, slot t 112, slot t 113, slot t 114], defers := ds } := by
  have e : t = ((List.range 115).map (slot t)).toArray := by
    apply Array.ext
    · simp [h]
    · intro i h1 h2
      simp [slot, Array.getD, h1]
  rw [range_map115] at e
  exact congrArg (fun x => ({ tmps := x, defers := ds } : Act)) e
theorem cut_eq (l : List Int) (k : Nat) : l.take k ++ l.drop (k + 1) = l.eraseIdx k := by rw [List.eraseIdx_eq_take_drop_succ]
theorem cut_perm (l : List Int) (k : Nat) (hk : k < l.length) : (l[k] :: (l.take k ++ l.drop (k + 1))).Perm l := by
  have h := List.take_append_drop k l
  rw [List.drop_eq_getElem_cons hk] at h
  exact (List.perm_middle.symm).trans (by rw [h])
theorem cut_len (l : List Int) (k : Nat) (hk : k < l.length) : (l.take k ++ l.drop (k + 1)).length + 1 = l.length := by
  simp only [List.length_append, List.length_take, List.length_drop]
  omega
theorem intsC_take (l : List Int) (k : Nat) : (intsC l).take (k * 1) = intsC (l.take k) := by rw [Nat.mul_one]; simp [intsC, List.map_take]
theorem intsC_drop (l : List Int) (k : Nat) : (intsC l).drop (k * 1) = intsC (l.drop k) := by rw [Nat.mul_one]; simp [intsC, List.map_drop]
theorem intsC_len (l : List Int) : (intsC l).length = l.length := by simp [intsC]
theorem intsC_append (l m : List Int) : intsC (l ++ m) = intsC l ++ intsC m := by simp [intsC]
/-- A row that is not nil has a block. -/
theorem own_block {W : World} {base : Nat} {e : TypeId} {k n : Nat} {v : Value} {xs : List Value} (h : W.ownsRow base e k v n xs) (hn : v ≠ .slice none 0 0) : ∃ g c, v = .slice (some ⟨g, 0, none⟩) n c ∧ base ≤ g ∧ g < W.heap.size := by
  rcases h.2 with ⟨rfl, _⟩ | ⟨g, c, cur, rfl, hb, _⟩
  · exact absurd rfl hn
  · exact ⟨g, c, rfl, hb, (h.lt g rfl).2⟩
theorem need_cut {n : Nat} {need : List Int} (h : NeedIn n need) (s : Nat) : NeedIn n (need.take s ++ need.drop (s + 1)) := by
  obtain ⟨h1, h2, h3⟩ := h
  have hsub : (need.take s ++ need.drop (s + 1)).Sublist need := by
    have := List.eraseIdx_sublist need s
    rwa [List.eraseIdx_eq_take_drop_succ] at this
  exact ⟨Nat.le_trans hsub.length_le h1, h2.sublist hsub, fun x hx => h3 x (hsub.subset hx)⟩
set_option maxRecDepth 100000 in
set_option maxHeartbeats 20000000 in
theorem lawFewer_any (v vm : Value) (l m : List Int) (way bits : Int) (w : World) (hl : IntsAt w v l) (hm : IntsAt w vm m) (hway : -9223372036854775808 ≤ way ∧ way ≤ 9223372036854775807) (hbits : -9223372036854775808 ≤ bits ∧ bits ≤ 9223372036854775807) :
    Calls Try.prog 7 #[v, .int .i64 way, .int .i64 bits, vm] w fun e w' => e = .returned (.bool true) ∧ Below w.heap.size w w' := by
  obtain ⟨a, c, rfl, hca, hma⟩ := hl.1.form
  obtain ⟨ma, mc, rfl, hmca, hmma⟩ := hm.1.form
  have HPL := hidep (places30_any _ l false w hl)
  have hwr := aroundZ_rng way 4 (by omega)
  have HAR := hidep (fun W => around_any way 4 W hway.1 hway.2)
  obtain ⟨wy, hwy⟩ : ∃ wy, wy = aroundZ way 4 := ⟨_, rfl⟩
  rw [← hwy] at HAR hwr
  have HM := hidep (show ∀ W, Below w.heap.size w W → IntsAt W (.slice ma m.length mc) m from fun W h => hm.below h)
  clear hl hm hway hwy
  go_enter Try.func7, Try.ntmps7
  go_upto_region 4 with (first
    | (go_at_call 11; refine HPL.out.mono ?_; rintro e w1 ⟨u, L, rfl, hown, hmade, hb1⟩; have hpx : PlacesAt w1 u L := (Rd.of_own hown).mono (fun _ _ => trivial); obtain ⟨ua, uc, rfl, _, _⟩ := PlacesAt.form hpx; have HND := hidep (need30_any _ L bits w1 hpx (by have := hmade.1; omega) hbits))
    | (go_at_call 15; refine (HAR.out _).mono ?_; rintro e w2 ⟨rfl, rfl⟩)
    | (go_at_call 16; refine HND.out.mono ?_; rintro e w3 ⟨nu, need, rfl, hnown, hneed, hb3⟩)
    | fail)
  have hpx3 : PlacesAt w3 (.slice ua L.length uc) L := hpx.below hb3
  have hn6 := hneed.1
  have hnr : ∀ x ∈ need, -9223372036854775808 ≤ x ∧ x ≤ 9223372036854775807 := fun x hx => by
    have := hneed.2.2 x hx
    have := hmade.1
    omega
  have hnx3 : IntsAt w3 nu need := ⟨(Rd.of_own hnown).mono (fun _ _ => trivial), hnr⟩
  obtain ⟨na, nc, rfl, hnc, hnm⟩ := hnx3.1.form
  have hlen : L.length ≤ 9 := hmade.1
  have hokL : ∀ p ∈ L, PlOk p := fun p hp => (hmade.2.1 p hp).ok
  have HB3 := hidep (hb1.trans (hb3.mono hb1.size))
  have HPX := hidep hpx3
  have HNX := hidep hnx3
  have HNR := hidep hnr
  have HOK := hidep hokL
  have HND2 := hidep hneed
  have HTZ := hidep (task_zero (way := wy) hneed (by omega) (by omega))
  clear hpx hpx3 hnx3 hown hnown hmade hb1 hb3 HPL HND hnr hneed hokL hbits
  obtain ⟨o, ho⟩ : ∃ o, o = orderZ wy (needL L need) need := ⟨_, rfl⟩
  obtain ⟨st, hst⟩ : ∃ st, st = restV wy (needL L need) (2 ^ need.length - 1) pl0 := ⟨_, rfl⟩
  obtain ⟨tb, htb⟩ : ∃ tb, tb = tabL wy (needL L need) := ⟨_, rfl⟩
  have HST := hidep hst
  have hstb := restV_bd (way := wy) (needL_ok HOK.out (need := need)) (s := 2 ^ need.length - 1) (p := pl0) (by have := two_pow_lt (n := need.length) (by omega); omega) pl0_ok
  rw [← hst] at hstb
  have HB1 := hidep (best_ok wy L need _ _ HOK.out w3 HPX.out HNX.out HTZ.out o st tb ho hst htb)
  clear ho hst htb
  go_upto_region 5 with (first
    | (go_at_call 18; refine HB1.out.mono ?_; rintro e w5 ⟨h5, oa, oc, la, lc, rfl, ho1, hl1⟩)
    | fail)
  obtain ⟨W6, hW6⟩ : ∃ W6, W6 = w5.alloc (.cells #[.slice oa o.length oc, .int .i64 st, .slice la tb.length lc] 35) := ⟨_, rfl⟩
  have hp6 : W6.heap[w5.heap.size]? = some (.cells #[.slice oa o.length oc, .int .i64 st, .slice la tb.length lc] 35) := by rw [hW6]; exact heap_alloc_new _ _
  have hb56 : Below w5.heap.size w5 W6 := by rw [hW6]; exact (Below.refl _ _).alloc (Nat.le_refl _) _
  have h6 : Below w3.heap.size w3 W6 := h5.trans (hb56.mono h5.size)
  rw [← hW6]
  obtain ⟨P1, hP1⟩ : ∃ P1, P1 = w5.heap.size := ⟨_, rfl⟩
  rw [← hP1] at hp6 ⊢
  have H6 := hidep h6
  have HP6 := hidep (show ∀ X, Below W6.heap.size W6 X → X.heap[P1]? = some (.cells #[.slice oa o.length oc, .int .i64 st, .slice la tb.length lc] 35) from fun X hX => (hX.block _ (lt_of_block hp6)).trans hp6)
  have hnx6 := HNX.out.below h6
  have hfr6 : (W6.alloc (.cells #[] 3)).ownsRow W6.heap.size 3 1 (.slice (some ⟨W6.heap.size, 0, none⟩) 0 0) 0 [] := World.ownsRow_lit W6 #[] 0 (Nat.le_refl _) (by decide) rfl
  have hE6 : Below W6.heap.size W6 (W6.alloc (.cells #[] 3)) := (Below.refl _ _).alloc (Nat.le_refl _) _
  have hne6 := hnx6.below hE6
  clear hW6 hb56 h6 h5 ho1 hl1 HB1 hP1 hp6 hnx6
  go_upto_region 8 with (first
    | (at_builtin; refine wpList_append_rd _ rfl (.tmp 37) (.tmp 38) rfl slIntsR W6.heap.size (.slice (some ⟨W6.heap.size, 0, none⟩) 0 0) 0 [] rfl hfr6 _ _ _ _ rfl hne6.1 (intsC_one need) (by unfold maxLen; omega) (by omega) (by simp) ?_; intro v7 w7 hown7 hgr7 hat7 hnl7; clear hat7; simp only [Nat.zero_add, List.nil_append] at hown7)
    | fail)
  obtain ⟨lb0, lc0, rfl, hlb1, hlb2⟩ := own_block hown7 (fun e => by have := (hnl7.1 e).1; simp at this)
  have hb7 : Below W6.heap.size W6 w7 := hE6.grown hgr7 hE6.size (fun g hg => (hfr6.lt g hg).1)
  have HOWN7 := hidep hown7
  have HB7 := hidep hb7
  clear hown7 hb7 hgr7 hnl7 hfr6 hE6 hne6
  go_upto_region 10 with (fail)
  refine wp_loop (LoopI 115 (fun tm ds wr => (slot tm 3) = .slice ma m.length mc ∧ (slot tm 9) = .slice ua L.length uc ∧ (slot tm 10) = .int .i64 wy ∧ (slot tm 11) = .slice na need.length nc ∧ (slot tm 12) = .pointer (some ⟨P1, 0, none⟩) ∧ ds = [] ∧ ∃ (i : Nat) (lf od : List Int) (lb lc' : Nat) (ov : Value), i ≤ need.length ∧ (slot tm 16) = .int .i64 (i : Nat) ∧ (slot tm 14) = .slice (some ⟨lb, 0, none⟩) lf.length lc' ∧ (slot tm 15) = ov ∧ Hid ((od ++ lf).Perm need) ∧ od.length = i ∧ lf.length + i = need.length ∧ wr.ownsRow W6.heap.size 3 1 (.slice (some ⟨lb, 0, none⟩) lf.length lc') lf.length (intsC lf) ∧ wr.ownsRow W6.heap.size 3 1 ov i (intsC od) ∧ Hid (ov.ownBlock ≠ some lb) ∧ Below W6.heap.size W6 wr)) (fun a' wr => need.length - (intOf (a'.tmps.getD 16 undef)).toNat) ?mainStart ?mainRound
  case' mainStart => refine LoopI.mk rfl ?_
  case' mainRound => (rintro ⟨t, ds⟩ wr ⟨hts, hrel⟩; dsimp only at hts hrel; rw [frame115 t ds hts])
  case mainStart => exact ⟨rfl, rfl, rfl, rfl, rfl, rfl, 0, need, [], _, _, _, Nat.zero_le _, rfl, rfl, rfl, hidep (List.Perm.refl _), rfl, by omega, HOWN7.out, World.ownsRow_nil _ _ _ _, hidep (by intro e; cases e), HB7.out⟩
  obtain ⟨h3, h9, h10, h11, h12, hds, i, lf, od, lb, lc', ov, hi, h16, h14, h15, HPM, hodl, hlfl, hlf, hov, HNB, hbw⟩ := hrel
  subst hds
  rw [h3, h9, h10, h11, h12, h16, h14, h15]
  clear h3 h9 h10 h11 h12 h16 h14 h15 hts
  obtain ⟨va, vc, rfl, hvc, hvm⟩ := (Rd.of_own hov).form
  unfold maxLen at hvm
  have hbs := hbw.size
  by_cases hlt : i < need.length
  · have hi0 : (0 : Int) ≤ (i : Int) := by omega
    have hi1 : (i : Int) < (need.length : Int) := by omega
    have hlfr : ∀ x ∈ lf, -9223372036854775808 ≤ x ∧ x ≤ 9223372036854775807 := fun x hx => HNR.out x (HPM.out.mem_iff.1 (List.mem_append_right _ hx))
    have hlx : IntsAt wr (.slice (some ⟨lb, 0, none⟩) lf.length lc') lf := ⟨(Rd.of_own hlf).mono (fun _ _ => trivial), hlfr⟩
    obtain ⟨qa, qc, he, hlc, hlm⟩ := hlx.1.form
    injection he with hqa _ he
    subst hqa he
    unfold maxLen at hlm
    have hmx := HM.out wr (HB3.out.trans ((H6.out.trans (hbw.mono H6.out.size)).mono HB3.out.size))
    have hkr := atZ_rng m (i : Int) (lf.length : Int) (by omega)
    have HAT := hidep (at_any (.slice ma m.length mc) m (i : Int) (lf.length : Int) wr hmx)
    obtain ⟨k, hk⟩ : ∃ k : Nat, atZ m (i : Int) (lf.length : Int) = (k : Int) := ⟨(atZ m (i : Int) (lf.length : Int)).toNat, by omega⟩
    rw [hk] at HAT hkr
    have hkl : k < lf.length := by omega
    obtain ⟨b3, o3, he3, _, hck⟩ := ints_get hlx hkl
    injection he3 with he3
    injection he3 with hx1 hx2
    subst hx1 hx2
    rw [Nat.zero_add] at hck
    have hxr := hlfr _ (List.getElem_mem hkl)
    have HCP := hidep (cut_perm lf k hkl)
    have HCL := hidep (cut_len lf k hkl)
    have HOV := hidep hov
    have HLF := hidep hlf
    have HBW := hidep hbw
    obtain ⟨x, hx⟩ : ∃ x, x = lf[k] := ⟨_, rfl⟩
    rw [← hx] at hck hxr HCP
    have hfrx := Rd.fresh wr #[.int .i64 x] 3 1 1 rfl (by decide)
    have hk0 : (0 : Int) ≤ (k : Int) := by omega
    have hk1 : (k : Int) < (lf.length : Int) := by omega
    clear hx hk hlx hmx hov hlf hbw
    generalize hnn : lf.length = n at *
    go_upto_region 14 with (first
      | (go_at_call 27; refine HAT.out.mono ?_; rintro e w12 ⟨rfl, rfl⟩)
      | (at_builtin; refine wpList_append_rd _ rfl (.tmp 51) (.tmp 56) rfl slIntsR W6.heap.size _ _ _ rfl (HOV.out.alloc _) _ _ _ _ rfl hfrx (by intro u hu; simp at hu; rw [hu]; rfl) (by unfold maxLen; omega) (by omega) (by simp; omega) ?_; intro v13 w13 hown13 hgr13 hat13 hnl13; clear hnl13)
      | fail)
    have hsz13 : wr.heap.size + 1 ≤ w13.heap.size := by have := hgr13.size; simpa using this
    have hlf13 : w13.ownsRow W6.heap.size 3 1 (.slice (some ⟨lb, 0, none⟩) n lc') n (intsC lf) := (HLF.out.alloc _).kept hgr13 (.inr (fun e => HNB.out e.symm))
    have hb13 : Below W6.heap.size W6 w13 := (HBW.out.alloc HBW.out.size _).grown hgr13 (by have := HBW.out.size; simp; omega) (fun g hg => (HOV.out.lt g hg).1)
    have hnb13 : v13.ownBlock ≠ some lb := by
      have h1 := (HLF.out.lt lb rfl).2
      rcases hat13 with e | e
      · rw [e]
        exact HNB.out
      · rw [e, World.size_alloc]
        intro e2
        have := Option.some.inj e2
        omega
    have hb13s := hb13.size
    have hRd : Rd w13 (· = 3) 1 (.slice (some ⟨lb, 0, none⟩) n lc') n (intsC lf) := Rd.of_own hlf13
    have hsrc1 : Rd w13 (· = 3) 1 (.slice (some ⟨lb, 0, none⟩) k lc') k (intsC (lf.take k)) := by
      have := Rd.pre hRd (Nat.le_of_lt hkl)
      rwa [intsC_take] at this
    have hsrc2 : Rd w13 (· = 3) 1 (.slice (if lc' = k + 1 then some ⟨lb, 0, none⟩ else (some ⟨lb, 0, none⟩ : Option Addr).map (·.add ((k + 1) * 1))) (n - (k + 1)) (lc' - (k + 1))) (n - (k + 1)) (intsC (lf.drop (k + 1))) := by
      have := Rd.part hRd (l := k + 1) (hh := n) (m := lc') (by omega) (Nat.le_refl _) hlc (Nat.le_refl _)
      rw [intsC_drop, List.take_of_length_le (by rw [intsC_len, List.length_drop, hnn]; omega)] at this
      exact this
    have hlit : ∀ Y : World, Below W6.heap.size W6 Y → (Y.alloc (.cells #[] 3)).ownsRow W6.heap.size 3 1 (.slice (some ⟨Y.heap.size, 0, none⟩) 0 0) 0 [] := fun Y hY => World.ownsRow_lit Y #[] 0 hY.size (by decide) rfl
    have HSRC1 := hidep (fun Y (hY : Below w13.heap.size w13 Y) => hsrc1.below hY)
    have HB13 := hidep hb13
    have HOWN13 := hidep hown13
    have HNB13 := hidep hnb13
    have hkw : IntKind.i64.wrap ((k : Int) + 1) = (k : Int) + 1 := IntWalk.i64_in _ (by omega)
    have hq1 : (k : Int) + 1 ≤ (n : Int) := by omega
    have hq2 : (n : Int) ≤ (lc' : Int) := by omega
    have hq3 : (k : Int) ≤ (lc' : Int) := by omega
    have hq4 : (0 : Int) ≤ (k : Int) + 1 := by omega
    clear hck hfrx hgr13 hat13 hRd hsrc1 hb13 hnb13 hown13 hlf13 HAT
    by_cases hcq : lc' = k + 1
    · obtain rfl : n = k + 1 := by omega
      subst hcq
      simp only [if_true, Nat.sub_self] at hsrc2
      have hq5 : (k : Int) ≤ (k : Int) + 1 := by omega
      have HSRC2 := hidep (fun Y (hY : Below w13.heap.size w13 Y) => hsrc2.below hY)
      clear hsrc2
      refine wp_region_noPanic (wp_region_held_drew (S := (fun X => True)) (by kernel_rfl) ?hS7r14n0 (fun hHeld => ?hR7r14n0))
      case hS7r14n0 => ((try dsimp only); (skip))
      refine wpAnyH_take (i := 1) (v := ?v7r14n0q1) rfl (by kernel_rfl) (by kernel_rfl) (by kernel_rfl) (fun _ _ _ h => h) (Or.inl ⟨by kernel_rfl, ?hy7r14n0q1⟩) (by assumption) ?hr7r14n0q1
      case hy7r14n0q1 => (intro w hSw; (try dsimp only at hSw); skip; first | (go_simp; done) | (go_simp; with_reducible rfl))
      refine wpAnyH_take (i := 2) (v := ?v7r14n0q2) rfl (by kernel_rfl) (by kernel_rfl) (by kernel_rfl) (fun _ _ _ h => h) (Or.inl ⟨by kernel_rfl, ?hy7r14n0q2⟩) (by assumption) ?hr7r14n0q2
      case hy7r14n0q2 => (intro w hSw; (try dsimp only at hSw); skip; first | (go_simp; done) | (go_simp; with_reducible rfl))
      refine wpAnyH_take (i := 3) (v := ?v7r14n0q3) rfl (by kernel_rfl) (by kernel_rfl) (by kernel_rfl) (fun _ _ _ h => h) (Or.inl ⟨by kernel_rfl, ?hy7r14n0q3⟩) (by assumption) ?hr7r14n0q3
      case hy7r14n0q3 => (intro w hSw; (try dsimp only at hSw); skip; first | (go_simp; done) | (go_simp; with_reducible rfl))
      refine wpAnyH_take (i := 5) (v := ?v7r14n0q4) rfl (by kernel_rfl) (by kernel_rfl) (by kernel_rfl) (fun _ _ _ h => h) (Or.inl ⟨by kernel_rfl, ?hy7r14n0q4⟩) (by assumption) ?hr7r14n0q4
      case hy7r14n0q4 => (intro w hSw; (try dsimp only at hSw); skip; first | (go_simp; done) | (go_simp; with_reducible rfl))
      refine wpAnyH_take (i := 6) (v := ?v7r14n0q5) rfl (by kernel_rfl) (by kernel_rfl) (by kernel_rfl) (fun _ _ _ h => h) (Or.inl ⟨by kernel_rfl, ?hy7r14n0q5⟩) (by assumption) ?hr7r14n0q5
      case hy7r14n0q5 => (intro w hSw; (try dsimp only at hSw); skip; first | (go_simp; done) | (go_simp; with_reducible rfl))
      refine wpAnyH_take (i := 7) (v := ?v7r14n0q6) rfl (by kernel_rfl) (by kernel_rfl) (by kernel_rfl) (fun _ _ _ h => h) (Or.inl ⟨by kernel_rfl, ?hy7r14n0q6⟩) (by assumption) ?hr7r14n0q6
      case hy7r14n0q6 => (intro w hSw; (try dsimp only at hSw); skip; first | (go_simp; done) | (go_simp; with_reducible rfl))
      refine wpAnyH_take (i := 8) (v := ?v7r14n0q7) rfl (by kernel_rfl) (by kernel_rfl) (by kernel_rfl) (fun _ _ _ h => h) (Or.inl ⟨by kernel_rfl, ?hy7r14n0q7⟩) (by assumption) ?hr7r14n0q7
      case hy7r14n0q7 => (intro w hSw; (try dsimp only at hSw); skip; first | (go_simp; done) | (go_simp; with_reducible rfl))
      refine wpAnyH_ready (rs := [0]) (by kernel_rfl) (by simp) (AllReadyH.cons rfl (fun K hK => ?hc7r14n0q8) AllReadyH.nil)
      go_simp
      refine hK.out _ _ ?hs7r14n0q8 (fun hHeld7r14n0q8 => ?ht7r14n0q8)
      case hs7r14n0q8 => ((try dsimp only); (skip))
      clear hHeld hK
      have hHeld := hHeld7r14n0q8
      clear hHeld7r14n0q8
      refine wpAnyH_ready (rs := [4]) (by kernel_rfl) (by simp) (AllReadyH.cons rfl (fun K hK => ?hc7r14n0q9) AllReadyH.nil)
      (refine step_append_rd _ (by rfl) (.tmp 58) (.tmp 61) (by rfl) slIntsR W6.heap.size (.slice (some ⟨w13.heap.size, 0, none⟩) 0 0) 0 [] (by rfl) (by exact hlit _ HB13.out) _ _ _ _ (by rfl) (by exact HSRC1.out _ ((Below.refl _ _).alloc (Nat.le_refl _) _).drew) (intsC_one _) (by unfold maxLen; omega) (by omega) (by simp; omega) ?_; intro v3 w3 hown3 hgr3 hat3 hnl3; have hb3 : Below w13.heap.size w13 w3 := (((Below.refl _ _).alloc (Nat.le_refl _) _).drew).grown hgr3 (by simp) (fun g hg => by simp [Value.ownBlock] at hg; omega); (try dsimp only))
      refine hK.out _ _ ?hs7r14n0q9 (fun hHeld7r14n0q9 => ?ht7r14n0q9)
      case hs7r14n0q9 => ((try dsimp only); (skip))
      clear hHeld hK
      have hHeld := hHeld7r14n0q9
      clear hHeld7r14n0q9
      refine wpAnyH_ready (rs := [9]) (by kernel_rfl) (by simp) (AllReadyH.cons rfl (fun K hK => ?hc7r14n0q10) AllReadyH.nil)
      (refine step_append_rd _ (by rfl) (.tmp 62) (.tmp 66) (by rfl) slIntsR W6.heap.size v3 _ _ (by rfl) (by exact hown3) _ _ _ _ (by rfl) (by exact HSRC2.out _ (by first | exact hb3.drew | exact hb3)) (intsC_one _) (by unfold maxLen; omega) (by omega) (by have := hb3.size; first | omega | (simp; omega)) ?_; intro v4 w4 hown4 hgr4 hat4 hnl4; (try dsimp only))
      refine hK.out _ _ ?hs7r14n0q10 (fun hHeld7r14n0q10 => ?ht7r14n0q10)
      case hs7r14n0q10 => ((try dsimp only); (skip))
      clear hHeld hK
      have hHeld := hHeld7r14n0q10
      clear hHeld7r14n0q10
      refine wpAnyH_take (i := 10) (v := ?v7r14n0q11) rfl (by kernel_rfl) (by kernel_rfl) (by kernel_rfl) (fun _ _ _ h => h) (Or.inl ⟨by kernel_rfl, ?hy7r14n0q11⟩) (by assumption) ?hr7r14n0q11
      case hy7r14n0q11 => (intro w hSw; (try dsimp only at hSw); skip; first | (go_simp; done) | (go_simp; with_reducible rfl))
      refine wpAnyH_done (by kernel_rfl) ?_ _
      clear hHeld
      refine NoPanic.normal ?_
      have hnn3 : v3 ≠ .slice none 0 0 := fun e => by have := (hnl3.1 e).1; simp at this
      obtain ⟨g4, c4, hv4, hg4, hg4s⟩ := own_block hown4 (fun e => hnn3 (hnl4.1 e).1)
      obtain ⟨g3, c3, hv3, hg3, hg3s⟩ := own_block hown3 hnn3
      have hg3b : w13.heap.size ≤ g3 := by
        rw [hv3] at hat3
        simp [Value.ownBlock] at hat3
        omega
      have hb4 : Below w13.heap.size w13 w4 := hb3.grown hgr4 hb3.size (fun g hg => by rw [hv3] at hg; simp [Value.ownBlock] at hg; omega)
      have hg4b : w13.heap.size ≤ g4 := by
        rw [hv4, hv3] at hat4
        simp [Value.ownBlock] at hat4
        have := hb3.size
        omega
      subst hv4
      have hov4 : w4.ownsRow W6.heap.size 3 1 v13 (i + 1) (intsC (od ++ [x])) := by
        have := ownsRow_turned HOWN13.out (Turned.of_below (T := fun _ => False) hb4) (fun _ _ h => h)
        rw [intsC_append]
        exact this
      have hvb : v13.ownBlock ≠ some g4 := fun e => by
        have := (HOWN13.out.lt g4 e).2
        omega
      have hlf4 : w4.ownsRow W6.heap.size 3 1 (.slice (some ⟨g4, 0, none⟩) (lf.take k ++ lf.drop (k + 1)).length c4) (lf.take k ++ lf.drop (k + 1)).length (intsC (lf.take k ++ lf.drop (k + 1))) := by
        have hLE : (lf.take k ++ lf.drop (k + 1)).length = 0 + k + 0 := by simp only [List.length_append, List.length_take, List.length_drop]; omega
        rw [hLE, intsC_append]
        simp only [List.nil_append] at hown4
        exact hown4
      have hpm4 : ((od ++ [x]) ++ (lf.take k ++ lf.drop (k + 1))).Perm need := by
        rw [List.append_assoc]
        exact (List.Perm.append_left od HCP.out).trans HPM.out
      have hcl := HCL.out
      generalize hlf' : lf.take k ++ lf.drop (k + 1) = lf' at *
      have HLF4 := hidep hlf4
      have HOV4 := hidep hov4
      have HB4 := hidep (HB13.out.trans (hb4.mono HB13.out.size))
      have HVB := hidep hvb
      have HPM4 := hidep hpm4
      have hle4 : lf'.length = 0 + k + 0 := by omega
      clear hown3 hgr3 hat3 hnl3 hown4 hgr4 hat4 hnl4 hb3 hb4 hov4 hlf4 hvb hpm4 hv3 hkw hq1 hq2 hq3 hq4
      dsimp only [Exit.inBlock, Exit.then]
      apply_assumption
      refine wp_cutA 115 (fun tm ds => ds = [] ∧ slot tm 3 = .slice ma m.length mc ∧ slot tm 9 = .slice ua L.length uc ∧ slot tm 10 = .int .i64 wy ∧ slot tm 11 = .slice na need.length nc ∧ slot tm 12 = .pointer (some ⟨P1, 0, none⟩) ∧ slot tm 14 = .slice (some ⟨g4, 0, none⟩) lf'.length c4 ∧ slot tm 15 = v13 ∧ slot tm 16 = .int .i64 (i : Nat)) (by kernel_rfl) (by exact ⟨by kernel_rfl, by kernel_rfl, by kernel_rfl, by kernel_rfl, by kernel_rfl, by kernel_rfl, by rw [hle4]; kernel_rfl, by kernel_rfl, by kernel_rfl⟩) ?_
      rintro tm1 ds1 h115 ⟨rfl, e3, e9, e10, e11, e12, e14, e15, e16⟩
      rw [frame115 tm1 [] h115, e3, e9, e10, e11, e12, e14, e15, e16]
      clear h115 e3 e9 e10 e11 e12 e14 e15 e16
      have hll4 : lf'.length + (i + 1) = need.length := by omega
      clear hle4
      go_wp2
      refine ⟨LoopI.mk rfl ⟨rfl, rfl, rfl, rfl, rfl, rfl, i + 1, lf', od ++ [x], g4, c4, _, by omega, by show Value.int _ _ = _; go_num, rfl, rfl, HPM4.out, by simp; omega, hll4, HLF4.out, HOV4.out, HVB.out, HB4.out⟩, ?_⟩
      show need.length - _ < need.length - _
      simp [intOf]; omega
    · have hadd : (some ⟨lb, 0, none⟩ : Option Addr).map (·.add ((k + 1) * 1)) = some ⟨lb, k + 1, none⟩ := by simp [Addr.add]
      rw [if_neg hcq, hadd] at hsrc2
      have HSRC2 := hidep (fun Y (hY : Below w13.heap.size w13 Y) => hsrc2.below hY)
      clear hsrc2
      refine wp_region_noPanic (wp_region_held_drew (S := (fun X => True)) (by kernel_rfl) ?hS7r14n1 (fun hHeld => ?hR7r14n1))
      case hS7r14n1 => ((try dsimp only); (skip))
      refine wpAnyH_take (i := 1) (v := ?v7r14n1q1) rfl (by kernel_rfl) (by kernel_rfl) (by kernel_rfl) (fun _ _ _ h => h) (Or.inl ⟨by kernel_rfl, ?hy7r14n1q1⟩) (by assumption) ?hr7r14n1q1
      case hy7r14n1q1 => (intro w hSw; (try dsimp only at hSw); skip; first | (go_simp; done) | (go_simp; with_reducible rfl))
      refine wpAnyH_take (i := 2) (v := ?v7r14n1q2) rfl (by kernel_rfl) (by kernel_rfl) (by kernel_rfl) (fun _ _ _ h => h) (Or.inl ⟨by kernel_rfl, ?hy7r14n1q2⟩) (by assumption) ?hr7r14n1q2
      case hy7r14n1q2 => (intro w hSw; (try dsimp only at hSw); skip; first | (go_simp; done) | (go_simp; with_reducible rfl))
      refine wpAnyH_take (i := 3) (v := ?v7r14n1q3) rfl (by kernel_rfl) (by kernel_rfl) (by kernel_rfl) (fun _ _ _ h => h) (Or.inl ⟨by kernel_rfl, ?hy7r14n1q3⟩) (by assumption) ?hr7r14n1q3
      case hy7r14n1q3 => (intro w hSw; (try dsimp only at hSw); skip; first | (go_simp; done) | (go_simp; with_reducible rfl))
      refine wpAnyH_take (i := 5) (v := ?v7r14n1q4) rfl (by kernel_rfl) (by kernel_rfl) (by kernel_rfl) (fun _ _ _ h => h) (Or.inl ⟨by kernel_rfl, ?hy7r14n1q4⟩) (by assumption) ?hr7r14n1q4
      case hy7r14n1q4 => (intro w hSw; (try dsimp only at hSw); skip; first | (go_simp; done) | (go_simp; with_reducible rfl))
      refine wpAnyH_take (i := 6) (v := ?v7r14n1q5) rfl (by kernel_rfl) (by kernel_rfl) (by kernel_rfl) (fun _ _ _ h => h) (Or.inl ⟨by kernel_rfl, ?hy7r14n1q5⟩) (by assumption) ?hr7r14n1q5
      case hy7r14n1q5 => (intro w hSw; (try dsimp only at hSw); skip; first | (go_simp; done) | (go_simp; with_reducible rfl))
      refine wpAnyH_take (i := 7) (v := ?v7r14n1q6) rfl (by kernel_rfl) (by kernel_rfl) (by kernel_rfl) (fun _ _ _ h => h) (Or.inl ⟨by kernel_rfl, ?hy7r14n1q6⟩) (by assumption) ?hr7r14n1q6
      case hy7r14n1q6 => (intro w hSw; (try dsimp only at hSw); skip; first | (go_simp; done) | (go_simp; with_reducible rfl))
      refine wpAnyH_take (i := 8) (v := ?v7r14n1q7) rfl (by kernel_rfl) (by kernel_rfl) (by kernel_rfl) (fun _ _ _ h => h) (Or.inl ⟨by kernel_rfl, ?hy7r14n1q7⟩) (by assumption) ?hr7r14n1q7
      case hy7r14n1q7 => (intro w hSw; (try dsimp only at hSw); skip; first | (go_simp; done) | (go_simp; with_reducible rfl))
      refine wpAnyH_ready (rs := [0]) (by kernel_rfl) (by simp) (AllReadyH.cons rfl (fun K hK => ?hc7r14n1q8) AllReadyH.nil)
      go_simp
      refine hK.out _ _ ?hs7r14n1q8 (fun hHeld7r14n1q8 => ?ht7r14n1q8)
      case hs7r14n1q8 => ((try dsimp only); (skip))
      clear hHeld hK
      have hHeld := hHeld7r14n1q8
      clear hHeld7r14n1q8
      refine wpAnyH_ready (rs := [4]) (by kernel_rfl) (by simp) (AllReadyH.cons rfl (fun K hK => ?hc7r14n1q9) AllReadyH.nil)
      (refine step_append_rd _ (by rfl) (.tmp 58) (.tmp 61) (by rfl) slIntsR W6.heap.size (.slice (some ⟨w13.heap.size, 0, none⟩) 0 0) 0 [] (by rfl) (by exact hlit _ HB13.out) _ _ _ _ (by rfl) (by exact HSRC1.out _ ((Below.refl _ _).alloc (Nat.le_refl _) _).drew) (intsC_one _) (by unfold maxLen; omega) (by omega) (by simp; omega) ?_; intro v3 w3 hown3 hgr3 hat3 hnl3; have hb3 : Below w13.heap.size w13 w3 := (((Below.refl _ _).alloc (Nat.le_refl _) _).drew).grown hgr3 (by simp) (fun g hg => by simp [Value.ownBlock] at hg; omega); (try dsimp only))
      refine hK.out _ _ ?hs7r14n1q9 (fun hHeld7r14n1q9 => ?ht7r14n1q9)
      case hs7r14n1q9 => ((try dsimp only); (skip))
      clear hHeld hK
      have hHeld := hHeld7r14n1q9
      clear hHeld7r14n1q9
      refine wpAnyH_ready (rs := [9]) (by kernel_rfl) (by simp) (AllReadyH.cons rfl (fun K hK => ?hc7r14n1q10) AllReadyH.nil)
      (refine step_append_rd _ (by rfl) (.tmp 62) (.tmp 66) (by rfl) slIntsR W6.heap.size v3 _ _ (by rfl) (by exact hown3) _ _ _ _ (by rfl) (by exact HSRC2.out _ (by first | exact hb3.drew | exact hb3)) (intsC_one _) (by unfold maxLen; omega) (by omega) (by have := hb3.size; first | omega | (simp; omega)) ?_; intro v4 w4 hown4 hgr4 hat4 hnl4; (try dsimp only))
      refine hK.out _ _ ?hs7r14n1q10 (fun hHeld7r14n1q10 => ?ht7r14n1q10)
      case hs7r14n1q10 => ((try dsimp only); (skip))
      clear hHeld hK
      have hHeld := hHeld7r14n1q10
      clear hHeld7r14n1q10
      refine wpAnyH_take (i := 10) (v := ?v7r14n1q11) rfl (by kernel_rfl) (by kernel_rfl) (by kernel_rfl) (fun _ _ _ h => h) (Or.inl ⟨by kernel_rfl, ?hy7r14n1q11⟩) (by assumption) ?hr7r14n1q11
      case hy7r14n1q11 => (intro w hSw; (try dsimp only at hSw); skip; first | (go_simp; done) | (go_simp; with_reducible rfl))
      refine wpAnyH_done (by kernel_rfl) ?_ _
      clear hHeld
      refine NoPanic.normal ?_
      have hnn3 : v3 ≠ .slice none 0 0 := fun e => by have := (hnl3.1 e).1; simp at this
      obtain ⟨g4, c4, hv4, hg4, hg4s⟩ := own_block hown4 (fun e => hnn3 (hnl4.1 e).1)
      obtain ⟨g3, c3, hv3, hg3, hg3s⟩ := own_block hown3 hnn3
      have hg3b : w13.heap.size ≤ g3 := by
        rw [hv3] at hat3
        simp [Value.ownBlock] at hat3
        omega
      have hb4 : Below w13.heap.size w13 w4 := hb3.grown hgr4 hb3.size (fun g hg => by rw [hv3] at hg; simp [Value.ownBlock] at hg; omega)
      have hg4b : w13.heap.size ≤ g4 := by
        rw [hv4, hv3] at hat4
        simp [Value.ownBlock] at hat4
        have := hb3.size
        omega
      subst hv4
      have hov4 : w4.ownsRow W6.heap.size 3 1 v13 (i + 1) (intsC (od ++ [x])) := by
        have := ownsRow_turned HOWN13.out (Turned.of_below (T := fun _ => False) hb4) (fun _ _ h => h)
        rw [intsC_append]
        exact this
      have hvb : v13.ownBlock ≠ some g4 := fun e => by
        have := (HOWN13.out.lt g4 e).2
        omega
      have hlf4 : w4.ownsRow W6.heap.size 3 1 (.slice (some ⟨g4, 0, none⟩) (lf.take k ++ lf.drop (k + 1)).length c4) (lf.take k ++ lf.drop (k + 1)).length (intsC (lf.take k ++ lf.drop (k + 1))) := by
        have hLE : (lf.take k ++ lf.drop (k + 1)).length = 0 + k + (n - (k + 1)) := by simp only [List.length_append, List.length_take, List.length_drop]; omega
        rw [hLE, intsC_append]
        simp only [List.nil_append] at hown4
        exact hown4
      have hpm4 : ((od ++ [x]) ++ (lf.take k ++ lf.drop (k + 1))).Perm need := by
        rw [List.append_assoc]
        exact (List.Perm.append_left od HCP.out).trans HPM.out
      have hcl := HCL.out
      generalize hlf' : lf.take k ++ lf.drop (k + 1) = lf' at *
      have HLF4 := hidep hlf4
      have HOV4 := hidep hov4
      have HB4 := hidep (HB13.out.trans (hb4.mono HB13.out.size))
      have HVB := hidep hvb
      have HPM4 := hidep hpm4
      have hle4 : lf'.length = 0 + k + (n - (k + 1)) := by omega
      clear hown3 hgr3 hat3 hnl3 hown4 hgr4 hat4 hnl4 hb3 hb4 hov4 hlf4 hvb hpm4 hv3 hkw hq1 hq2 hq3 hq4
      dsimp only [Exit.inBlock, Exit.then]
      apply_assumption
      refine wp_cutA 115 (fun tm ds => ds = [] ∧ slot tm 3 = .slice ma m.length mc ∧ slot tm 9 = .slice ua L.length uc ∧ slot tm 10 = .int .i64 wy ∧ slot tm 11 = .slice na need.length nc ∧ slot tm 12 = .pointer (some ⟨P1, 0, none⟩) ∧ slot tm 14 = .slice (some ⟨g4, 0, none⟩) lf'.length c4 ∧ slot tm 15 = v13 ∧ slot tm 16 = .int .i64 (i : Nat)) (by kernel_rfl) (by exact ⟨by kernel_rfl, by kernel_rfl, by kernel_rfl, by kernel_rfl, by kernel_rfl, by kernel_rfl, by rw [hle4]; kernel_rfl, by kernel_rfl, by kernel_rfl⟩) ?_
      rintro tm1 ds1 h115 ⟨rfl, e3, e9, e10, e11, e12, e14, e15, e16⟩
      rw [frame115 tm1 [] h115, e3, e9, e10, e11, e12, e14, e15, e16]
      clear h115 e3 e9 e10 e11 e12 e14 e15 e16
      have hll4 : lf'.length + (i + 1) = need.length := by omega
      clear hle4
      go_wp2
      refine ⟨LoopI.mk rfl ⟨rfl, rfl, rfl, rfl, rfl, rfl, i + 1, lf', od ++ [x], g4, c4, _, by omega, by show Value.int _ _ = _; go_num, rfl, rfl, HPM4.out, by simp; omega, hll4, HLF4.out, HOV4.out, HVB.out, HB4.out⟩, ?_⟩
      show need.length - _ < need.length - _
      simp [intOf]; omega
  · have hil : i = need.length := by omega
    subst hil
    obtain rfl : lf = [] := List.eq_nil_of_length_eq_zero (by omega)
    have hop : od.Perm need := by
      have := HPM.out
      rwa [List.append_nil] at this
    have hmem : ∀ x ∈ od, 0 ≤ x ∧ x < (L.length : Int) := fun x hx => (task_need rfl HTZ.out).1.2 x (hop.mem_iff.1 hx)
    have hodx : IntsAt wr (.slice va need.length vc) od := by
      refine ⟨?_, fun x hx => HNR.out x (hop.mem_iff.1 hx)⟩
      rw [hodl]
      exact (Rd.of_own hov).mono (fun _ _ => trivial)
    have hb3r := H6.out.trans (hbw.mono H6.out.size)
    have hol6 : od.length ≤ 1000000 := by omega
    have HSTP := hidep (fun W (hW : Turned (fun _ => False) wr W) => steps30_any wy L od _ _ HOK.out hmem hol6 W ((HPX.out.below hb3r).below hW.toBelow) (hodx.below hW.toBelow))
    obtain ⟨sv, hsv⟩ : ∃ sv, sv = stepsZ wy L od := ⟨_, rfl⟩
    have hge : st ≤ sv := by
      have h := fewer (way := wy) (pl := L) (order := od) HOK.out (by omega) hop
      rw [← HST.out, ← hsv] at h
      exact h
    rw [← hsv] at HSTP
    have hlt2 : decide (sv < st) = false := decide_eq_false (by omega)
    have hP := HP6.out wr hbw
    have HPW := hidep (show ∀ X, Turned (fun _ => False) wr X → X.heap[P1]? = some (.cells #[.slice oa o.length oc, .int .i64 st, .slice la tb.length lc] 35) from fun X hX => hX.cells hP id)
    have HBW := hidep hbw
    clear hol6 hodl hlfl hi hlt hP hsv hop hmem hodx hb3r hov hlf hbw hca hma
    go_upto_region 15 with (fail)
    refine wp_region_noPanic (wp_region_held_drew (S := (fun X => Turned (fun _ => False) wr X)) (by kernel_rfl) ?hS7r15n2 (fun hHeld => ?hR7r15n2))
    case hS7r15n2 => ((try dsimp only); (exact (Turned.refl _ _).drew))
    refine wpAnyH_take (i := 0) (v := ?v7r15n2q1) rfl (by kernel_rfl) (by kernel_rfl) (by kernel_rfl) (fun _ _ _ h => h) (Or.inl ⟨by kernel_rfl, ?hy7r15n2q1⟩) (by assumption) ?hr7r15n2q1
    case hy7r15n2q1 => (intro w hSw; (try dsimp only at hSw); (obtain ⟨c1, c2, c3⟩ := box3_cells (HPW.out w hSw)); first | (go_simp; done) | (go_simp; with_reducible rfl))
    refine wpAnyH_take (i := 1) (v := ?v7r15n2q2) rfl (by kernel_rfl) (by kernel_rfl) (by kernel_rfl) (fun _ _ _ h => h) (Or.inl ⟨by kernel_rfl, ?hy7r15n2q2⟩) (by assumption) ?hr7r15n2q2
    case hy7r15n2q2 => (intro w hSw; (try dsimp only at hSw); (obtain ⟨c1, c2, c3⟩ := box3_cells (HPW.out w hSw)); first | (go_simp; done) | (go_simp; with_reducible rfl))
    refine wpAnyH_take (i := 2) (v := ?v7r15n2q3) rfl (by kernel_rfl) (by kernel_rfl) (by kernel_rfl) (fun _ _ _ h => h) (Or.inl ⟨by kernel_rfl, ?hy7r15n2q3⟩) (by assumption) ?hr7r15n2q3
    case hy7r15n2q3 => (intro w hSw; (try dsimp only at hSw); (obtain ⟨c1, c2, c3⟩ := box3_cells (HPW.out w hSw)); first | (go_simp; done) | (go_simp; with_reducible rfl))
    refine wpAnyH_take (i := 4) (v := ?v7r15n2q4) rfl (by kernel_rfl) (by kernel_rfl) (by kernel_rfl) (fun _ _ _ h => h) (Or.inl ⟨by kernel_rfl, ?hy7r15n2q4⟩) (by assumption) ?hr7r15n2q4
    case hy7r15n2q4 => (intro w hSw; (try dsimp only at hSw); (obtain ⟨c1, c2, c3⟩ := box3_cells (HPW.out w hSw)); first | (go_simp; done) | (go_simp; with_reducible rfl))
    refine wpAnyH_take (i := 5) (v := ?v7r15n2q5) rfl (by kernel_rfl) (by kernel_rfl) (by kernel_rfl) (fun _ _ _ h => h) (Or.inl ⟨by kernel_rfl, ?hy7r15n2q5⟩) (by assumption) ?hr7r15n2q5
    case hy7r15n2q5 => (intro w hSw; (try dsimp only at hSw); (obtain ⟨c1, c2, c3⟩ := box3_cells (HPW.out w hSw)); first | (go_simp; done) | (go_simp; with_reducible rfl))
    refine wpAnyH_ready (rs := [3]) (by kernel_rfl) (by simp) (AllReadyH.cons rfl (fun K hK => ?hc7r15n2q6) AllReadyH.nil)
    go_simp
    (go_at_call 26; refine (HSTP.out _ hHeld).mono ?_; rintro e w16 ⟨rfl, hb16⟩; have hk := hHeld.below hb16; (try dsimp only))
    refine hK.out _ _ ?hs7r15n2q6 (fun hHeld7r15n2q6 => ?ht7r15n2q6)
    case hs7r15n2q6 => ((try dsimp only); (first | exact hk))
    clear hHeld hK
    have hHeld := hHeld7r15n2q6
    clear hHeld7r15n2q6
    refine wpAnyH_take (i := 6) (v := ?v7r15n2q7) rfl (by kernel_rfl) (by kernel_rfl) (by kernel_rfl) (fun _ _ _ h => h) (Or.inl ⟨by kernel_rfl, ?hy7r15n2q7⟩) (by assumption) ?hr7r15n2q7
    case hy7r15n2q7 => (intro w hSw; (try dsimp only at hSw); (obtain ⟨c1, c2, c3⟩ := box3_cells (HPW.out w hSw)); first | (go_simp; done) | (go_simp; with_reducible rfl))
    refine wpAnyH_done (by kernel_rfl) ?_ _
    clear hHeld
    refine NoPanic.normal ?_
    have hk16 : Turned (fun _ => False) wr w16 := hk
    apply_assumption
    refine wp_cutA 115 (fun tm ds => ds = [] ∧ slot tm 3 = .slice ma m.length mc ∧ slot tm 9 = .slice ua L.length uc ∧ slot tm 10 = .int .i64 wy ∧ slot tm 11 = .slice na need.length nc ∧ slot tm 12 = .pointer (some ⟨P1, 0, none⟩) ∧ slot tm 74 = .bool false) (by kernel_rfl) (by exact ⟨by kernel_rfl, by kernel_rfl, by kernel_rfl, by kernel_rfl, by kernel_rfl, by kernel_rfl, by kernel_rfl⟩) ?_
    rintro tm2 ds2 h115 ⟨rfl, e3, e9, e10, e11, e12, e74⟩
    rw [frame115 tm2 [] h115, e3, e9, e10, e11, e12, e74]
    clear h115 e3 e9 e10 e11 e12 e74 hk HSTP hlt2
    have hbx := HBW.out.trans (hk16.toBelow.mono HBW.out.size)
    have hbx3 := H6.out.trans (hbx.mono H6.out.size)
    have hbx0 := HB3.out.trans (hbx3.mono HB3.out.size)
    by_cases hw2 : wy < 2
    · go_wp2_with (first
        | (go_at_call 14; refine (lives_any _).mono ?_; rintro e w17 ⟨rfl, h17⟩)
        | fail)
      go_ret
      exact ⟨rfl, hbx0.trans (h17.mono hbx0.size)⟩
    · by_cases hz : need.length = 0
      · have hzi : ((need.length : Int) == 0) = true := by simp [hz]
        go_wp2_with (first
          | (go_at_call 14; refine (lives_any _).mono ?_; rintro e w17 ⟨rfl, h17⟩)
          | fail)
        go_ret
        exact ⟨rfl, hbx0.trans (h17.mono hbx0.size)⟩
      · have hzi : ((need.length : Int) == 0) = false := beq_false_of_ne (by omega)
        have hsr := atZ_rng m 7 (need.length : Int) (by omega)
        have HAT := hidep (at_any (.slice ma m.length mc) m 7 (need.length : Int) w16 (HM.out _ hbx0))
        obtain ⟨s, hs⟩ : ∃ s : Nat, atZ m 7 (need.length : Int) = (s : Int) := ⟨(atZ m 7 (need.length : Int)).toNat, by omega⟩
        rw [hs] at HAT hsr
        clear hs
        go_upto_region 20 with (first
          | (go_at_call 27; refine HAT.out.mono ?_; rintro e w19 ⟨rfl, rfl⟩)
          | fail)
        have hsl : s < need.length := by omega
        have hnx := HNX.out.below hbx3
        have hlit : (w16.alloc (.cells #[] 3)).drew.ownsRow w16.heap.size 3 1 (.slice (some ⟨w16.heap.size, 0, none⟩) 0 0) 0 [] := (World.ownsRow_lit w16 #[] 0 (Nat.le_refl _) (by decide) rfl).drew
        have hsrc1 : Rd w16 (fun _ => True) 1 (.slice na s nc) s (intsC (need.take s)) := by
          have := Rd.pre hnx.1 (Nat.le_of_lt hsl)
          rwa [intsC_take] at this
        have HSRC1 := hidep (fun Y (hY : Below w16.heap.size w16 Y) => hsrc1.below hY)
        have hsrc2 : Rd w16 (fun _ => True) 1 (.slice (if nc = s + 1 then na else na.map (·.add ((s + 1) * 1))) (need.length - (s + 1)) (nc - (s + 1))) (need.length - (s + 1)) (intsC (need.drop (s + 1))) := by
          have := Rd.part hnx.1 (l := s + 1) (hh := need.length) (m := nc) (by omega) (Nat.le_refl _) hnc (Nat.le_refl _)
          rw [intsC_drop, List.take_of_length_le (by rw [intsC_len, List.length_drop]; omega)] at this
          exact this
        obtain ⟨nb, no, rfl, _, _⟩ := ints_get hnx hsl
        have hadd : (some ⟨nb, no, none⟩ : Option Addr).map (·.add ((s + 1) * 1)) = some ⟨nb, no + (s + 1), none⟩ := by simp [Addr.add]
        rw [hadd] at hsrc2
        have hless : restV wy (needL L (need.take s ++ need.drop (s + 1))) (2 ^ (need.take s ++ need.drop (s + 1)).length - 1) pl0 ≤ st := by
          have hsp : need.take s ++ need[s] :: need.drop (s + 1) = need := by
            rw [← List.drop_eq_getElem_cons hsl, List.take_append_drop]
          have h := fewer_less (way := wy) (by omega) (pl := L) HOK.out (p := need.take s) (q := need.drop (s + 1)) (x := need[s]) (by rw [hsp]; omega)
          rw [hsp, ← HST.out] at h
          exact h
        have htz2 : taskZ wy L.length (need.take s ++ need.drop (s + 1)) = 0 := task_zero (way := wy) (need_cut HND2.out s) (by omega) (by omega)
        have hnr2 : ∀ x ∈ need.take s ++ need.drop (s + 1), -9223372036854775808 ≤ x ∧ x ≤ 9223372036854775807 := fun x hx => HNR.out x (by
          rcases List.mem_append.1 hx with h | h
          · exact List.mem_of_mem_take h
          · exact List.mem_of_mem_drop h)
        have hcl : (need.take s ++ need.drop (s + 1)).length = 0 + s + (need.length - (s + 1)) := by simp only [List.length_append, List.length_take, List.length_drop]; omega
        have HIX := hidep (show ∀ (v : Value) (W : World), W.ownsRow w16.heap.size 3 1 v (0 + s + (need.length - (s + 1))) ([] ++ intsC (need.take s) ++ intsC (need.drop (s + 1))) → IntsAt W v (need.take s ++ need.drop (s + 1)) from fun v W hW => by
          refine ⟨?_, hnr2⟩
          rw [hcl, intsC_append]
          exact (Rd.of_own hW).mono (fun _ _ => trivial))
        obtain ⟨st2, hst2⟩ : ∃ z, z = restV wy (needL L (need.take s ++ need.drop (s + 1))) (2 ^ (need.take s ++ need.drop (s + 1)).length - 1) pl0 := ⟨_, rfl⟩
        obtain ⟨o2, ho2e⟩ : ∃ z, z = orderZ wy (needL L (need.take s ++ need.drop (s + 1))) (need.take s ++ need.drop (s + 1)) := ⟨_, rfl⟩
        obtain ⟨tb2, htb2⟩ : ∃ z, z = tabL wy (needL L (need.take s ++ need.drop (s + 1))) := ⟨_, rfl⟩
        rw [← hst2] at hless
        have HB2 := hidep (fun X (nv : Value) (hX : Below w16.heap.size w16 X) (hn : IntsAt X nv (need.take s ++ need.drop (s + 1))) => best_ok wy L _ _ nv HOK.out X ((HPX.out.below hbx3).below hX) hn htz2 o2 st2 tb2 ho2e hst2 htb2)
        have hkw : IntKind.i64.wrap ((s : Int) + 1) = (s : Int) + 1 := IntWalk.i64_in _ (by omega)
        have hq1 : (s : Int) + 1 ≤ (need.length : Int) := by omega
        have hq2 : (need.length : Int) ≤ (nc : Int) := by omega
        have hq3 : (s : Int) ≤ (nc : Int) := by omega
        have hq4 : (0 : Int) ≤ (s : Int) + 1 := by omega
        have hq5 : (s : Int) ≤ (s : Int) + 1 := by omega
        have hs0 : (0 : Int) ≤ (s : Int) := by omega
        clear hsrc1 hadd htz2 hnr2 hst2 ho2e htb2 hcl hnx
        refine wp_join (fun a W => a.tmps.size = 115 ∧ a.defers = [] ∧ slot a.tmps 12 = .pointer (some ⟨P1, 0, none⟩) ∧ slot a.tmps 20 = .int .i64 0 ∧ Below w16.heap.size w16 W ∧ ∃ p2 x y, slot a.tmps 19 = .pointer (some ⟨p2, 0, none⟩) ∧ W.heap[p2]? = some (.cells #[x, .int .i64 st2, y] 35)) ?first ?_
        case first =>
          intro K' hMK
          by_cases hcq : nc = s + 1
          · rw [if_pos hcq] at hsrc2
            clear hq2 hq3
            subst hcq
            have e0 : need.length - (s + 1) = 0 := by omega
            simp only [Nat.sub_self, e0] at hsrc2
            rw [e0] at HIX
            clear e0
            have hq6 : (need.length : Int) ≤ (s : Int) + 1 := by omega
            have HSRC2 := hidep (fun Y (hY : Below w16.heap.size w16 Y) => hsrc2.below hY)
            clear hsrc2
            refine wp_region_noPanic (wp_region_held_drew (S := (fun X => Below w16.heap.size w16 X)) (by kernel_rfl) ?hS7r20n3 (fun hHeld => ?hR7r20n3))
            case hS7r20n3 => ((try dsimp only); (exact (Below.refl _ _).drew))
            refine wpAnyH_take (i := 0) (v := ?v7r20n3q1) rfl (by kernel_rfl) (by kernel_rfl) (by kernel_rfl) (fun _ _ _ h => h) (Or.inl ⟨by kernel_rfl, ?hy7r20n3q1⟩) (by assumption) ?hr7r20n3q1
            case hy7r20n3q1 => (intro w hSw; (try dsimp only at hSw); skip; first | (go_simp; done) | (go_simp; with_reducible rfl))
            refine wpAnyH_take (i := 1) (v := ?v7r20n3q2) rfl (by kernel_rfl) (by kernel_rfl) (by kernel_rfl) (fun _ _ _ h => h) (Or.inl ⟨by kernel_rfl, ?hy7r20n3q2⟩) (by assumption) ?hr7r20n3q2
            case hy7r20n3q2 => (intro w hSw; (try dsimp only at hSw); skip; first | (go_simp; done) | (go_simp; with_reducible rfl))
            refine wpAnyH_take (i := 3) (v := ?v7r20n3q3) rfl (by kernel_rfl) (by kernel_rfl) (by kernel_rfl) (fun _ _ _ h => h) (Or.inl ⟨by kernel_rfl, ?hy7r20n3q3⟩) (by assumption) ?hr7r20n3q3
            case hy7r20n3q3 => (intro w hSw; (try dsimp only at hSw); skip; first | (go_simp; done) | (go_simp; with_reducible rfl))
            refine wpAnyH_take (i := 4) (v := ?v7r20n3q4) rfl (by kernel_rfl) (by kernel_rfl) (by kernel_rfl) (fun _ _ _ h => h) (Or.inl ⟨by kernel_rfl, ?hy7r20n3q4⟩) (by assumption) ?hr7r20n3q4
            case hy7r20n3q4 => (intro w hSw; (try dsimp only at hSw); skip; first | (go_simp; done) | (go_simp; with_reducible rfl))
            refine wpAnyH_take (i := 5) (v := ?v7r20n3q5) rfl (by kernel_rfl) (by kernel_rfl) (by kernel_rfl) (fun _ _ _ h => h) (Or.inl ⟨by kernel_rfl, ?hy7r20n3q5⟩) (by assumption) ?hr7r20n3q5
            case hy7r20n3q5 => (intro w hSw; (try dsimp only at hSw); skip; first | (go_simp; done) | (go_simp; with_reducible rfl))
            refine wpAnyH_take (i := 7) (v := ?v7r20n3q6) rfl (by kernel_rfl) (by kernel_rfl) (by kernel_rfl) (fun _ _ _ h => h) (Or.inl ⟨by kernel_rfl, ?hy7r20n3q6⟩) (by assumption) ?hr7r20n3q6
            case hy7r20n3q6 => (intro w hSw; (try dsimp only at hSw); skip; first | (go_simp; done) | (go_simp; with_reducible rfl))
            refine wpAnyH_take (i := 8) (v := ?v7r20n3q7) rfl (by kernel_rfl) (by kernel_rfl) (by kernel_rfl) (fun _ _ _ h => h) (Or.inl ⟨by kernel_rfl, ?hy7r20n3q7⟩) (by assumption) ?hr7r20n3q7
            case hy7r20n3q7 => (intro w hSw; (try dsimp only at hSw); skip; first | (go_simp; done) | (go_simp; with_reducible rfl))
            refine wpAnyH_take (i := 9) (v := ?v7r20n3q8) rfl (by kernel_rfl) (by kernel_rfl) (by kernel_rfl) (fun _ _ _ h => h) (Or.inl ⟨by kernel_rfl, ?hy7r20n3q8⟩) (by assumption) ?hr7r20n3q8
            case hy7r20n3q8 => (intro w hSw; (try dsimp only at hSw); skip; first | (go_simp; done) | (go_simp; with_reducible rfl))
            refine wpAnyH_take (i := 10) (v := ?v7r20n3q9) rfl (by kernel_rfl) (by kernel_rfl) (by kernel_rfl) (fun _ _ _ h => h) (Or.inl ⟨by kernel_rfl, ?hy7r20n3q9⟩) (by assumption) ?hr7r20n3q9
            case hy7r20n3q9 => (intro w hSw; (try dsimp only at hSw); skip; first | (go_simp; done) | (go_simp; with_reducible rfl))
            refine wpAnyH_ready (rs := [2, 16]) (by kernel_rfl) (by simp) (AllReadyH.cons rfl (fun K hK => ?hc7r20n3q10) (AllReadyH.cons rfl (fun K hK => ?hc7r20n3q11) AllReadyH.nil))
            case' hc7r20n3q10 =>
              go_simp
              ((first | refine intro_alloc (fun X90 hBX hLX => ?_) | refine intro_alloc_drew (fun X90 hBX hLX => ?_)); have hHn : Below w16.heap.size w16 X90 := (by first | exact hBX | exact hHeld.trans (hBX.mono hHeld.size)); have hown2 := lit_own (B := w16.heap.size) (k := 1) hLX (by first | exact Nat.le_refl _ | exact hHeld.size); (first | (have hPA := below_push hBX hPA) | skip))
              refine hK.out _ _ ?hs7r20n3q10 (fun hHeld7r20n3q10 => ?ht7r20n3q10)
              case hs7r20n3q10 => ((try dsimp only); (first | (with_reducible exact hHn) | exact ((hHeld.setCell (by first | exact Nat.le_refl _ | exact hpP) _).setCell (by first | exact Nat.le_refl _ | exact hpP) _).setCell (by first | exact Nat.le_refl _ | exact hpP) _))
              clear hHeld hK
              have hHeld := hHeld7r20n3q10
              clear hHeld7r20n3q10
              refine wpAnyH_ready (rs := [6, 16]) (by kernel_rfl) (by simp) (AllReadyH.cons rfl (fun K hK => ?hc7r20n3q12) (AllReadyH.cons rfl (fun K hK => ?hc7r20n3q13) AllReadyH.nil))
              case' hc7r20n3q12 =>
                (refine step_append_rd _ (by rfl) (.tmp 90) (.tmp 93) (by rfl) slIntsR w16.heap.size _ 0 [] (by rfl) hown2 _ _ _ _ (by rfl) (by exact HSRC1.out _ hHeld) (intsC_one _) (by unfold maxLen; omega) (by omega) (by exact hHeld.size) ?_; intro v3 w3' hown3 hgr3 hat3 hnl3; have hHn : Below w16.heap.size w16 w3' := hHeld.grown hgr3 hHeld.size (fun g hg => (hown2.lt g hg).1); (first | (have hPA := grown_other hown2 hgr3 hPA (by decide)) | skip); (try dsimp only))
                refine hK.out _ _ ?hs7r20n3q12 (fun hHeld7r20n3q12 => ?ht7r20n3q12)
                case hs7r20n3q12 => ((try dsimp only); (first | (with_reducible exact hHn) | exact ((hHeld.setCell (by first | exact Nat.le_refl _ | exact hpP) _).setCell (by first | exact Nat.le_refl _ | exact hpP) _).setCell (by first | exact Nat.le_refl _ | exact hpP) _))
                clear hHeld hK
                have hHeld := hHeld7r20n3q12
                clear hHeld7r20n3q12
                refine wpAnyH_ready (rs := [11, 16]) (by kernel_rfl) (by simp) (AllReadyH.cons rfl (fun K hK => ?hc7r20n3q14) (AllReadyH.cons rfl (fun K hK => ?hc7r20n3q15) AllReadyH.nil))
                case' hc7r20n3q14 =>
                  (refine step_append_rd _ (by rfl) (.tmp 94) (.tmp 98) (by rfl) slIntsR w16.heap.size v3 _ _ (by rfl) hown3 _ _ _ _ (by rfl) (by exact HSRC2.out _ hHeld) (intsC_one _) (by unfold maxLen; omega) (by omega) (by exact hHeld.size) ?_; intro v4 w4 hown4 hgr4 hat4 hnl4; have hHn : Below w16.heap.size w16 w4 := hHeld.grown hgr4 hHeld.size (fun g hg => (hown3.lt g hg).1); (first | (have hPA := grown_other hown3 hgr4 hPA (by decide)) | skip); (try dsimp only))
                  refine hK.out _ _ ?hs7r20n3q14 (fun hHeld7r20n3q14 => ?ht7r20n3q14)
                  case hs7r20n3q14 => ((try dsimp only); (first | (with_reducible exact hHn) | exact ((hHeld.setCell (by first | exact Nat.le_refl _ | exact hpP) _).setCell (by first | exact Nat.le_refl _ | exact hpP) _).setCell (by first | exact Nat.le_refl _ | exact hpP) _))
                  clear hHeld hK
                  have hHeld := hHeld7r20n3q14
                  clear hHeld7r20n3q14
                  refine wpAnyH_ready (rs := [12, 16]) (by kernel_rfl) (by simp) (AllReadyH.cons rfl (fun K hK => ?hc7r20n3q16) (AllReadyH.cons rfl (fun K hK => ?hc7r20n3q17) AllReadyH.nil))
                  case' hc7r20n3q16 =>
                    go_simp
                    (go_at_call 18; refine (HB2.out _ v4 hHeld (HIX.out v4 _ hown4)).mono ?_; rintro e w20 ⟨h20, oa2, oc2, la2, lc2, rfl, ho2, hl2⟩; have hHn : Below w16.heap.size w16 w20 := hHeld.trans (h20.mono hHeld.size); (first | (have hPA := below_push h20 hPA; have f0 := box_frozen hPA 0; have f1 := box_frozen hPA 1; have f2 := box_frozen hPA 2; obtain ⟨y0, y1, y2⟩ := box3_cells hPA) | skip); (try dsimp only))
                    refine hK.out _ _ ?hs7r20n3q16 (fun hHeld7r20n3q16 => ?ht7r20n3q16)
                    case hs7r20n3q16 => ((try dsimp only); (first | (with_reducible exact hHn) | exact ((hHeld.setCell (by first | exact Nat.le_refl _ | exact hpP) _).setCell (by first | exact Nat.le_refl _ | exact hpP) _).setCell (by first | exact Nat.le_refl _ | exact hpP) _))
                    clear hHeld hK
                    have hHeld := hHeld7r20n3q16
                    clear hHeld7r20n3q16
                    refine wpAnyH_take (i := 13) (v := ?v7r20n3q18) rfl (by kernel_rfl) (by kernel_rfl) (by kernel_rfl) (fun _ _ _ h => h) (Or.inl ⟨by kernel_rfl, ?hy7r20n3q18⟩) (by assumption) ?hr7r20n3q18
                    case hy7r20n3q18 => (intro w hSw; (try dsimp only at hSw); skip; first | (go_simp; done) | (go_simp; with_reducible rfl))
                    refine wpAnyH_take (i := 14) (v := ?v7r20n3q19) rfl (by kernel_rfl) (by kernel_rfl) (by kernel_rfl) (fun _ _ _ h => h) (Or.inl ⟨by kernel_rfl, ?hy7r20n3q19⟩) (by assumption) ?hr7r20n3q19
                    case hy7r20n3q19 => (intro w hSw; (try dsimp only at hSw); skip; first | (go_simp; done) | (go_simp; with_reducible rfl))
                    refine wpAnyH_take (i := 15) (v := ?v7r20n3q20) rfl (by kernel_rfl) (by kernel_rfl) (by kernel_rfl) (fun _ _ _ h => h) (Or.inl ⟨by kernel_rfl, ?hy7r20n3q20⟩) (by assumption) ?hr7r20n3q20
                    case hy7r20n3q20 => (intro w hSw; (try dsimp only at hSw); skip; first | (go_simp; done) | (go_simp; with_reducible rfl))
                    refine wpAnyH_ready (rs := [16]) (by kernel_rfl) (by simp) (AllReadyH.cons rfl (fun K hK => ?hc7r20n3q21) AllReadyH.nil)
                    go_simp
                    ((first | refine intro_alloc (fun X19 hBX hPA => ?_) | refine intro_alloc_drew (fun X19 hBX hPA => ?_)); have hHn : Below w16.heap.size w16 X19 := (by first | exact hBX | exact hHeld.trans (hBX.mono hHeld.size)); have hpP := hHeld.size; have f0 := box_frozen hPA 0; have f1 := box_frozen hPA 1; have f2 := box_frozen hPA 2; obtain ⟨y0, y1, y2⟩ := box3_cells hPA; (first | (have hown2 := ownsRow_turned hown2 (Turned.of_below (T := fun _ => False) hBX) (fun _ _ h => h)) | skip); (first | (have hown3 := ownsRow_turned hown3 (Turned.of_below (T := fun _ => False) hBX) (fun _ _ h => h)) | skip); (first | (have hown4 := ownsRow_turned hown4 (Turned.of_below (T := fun _ => False) hBX) (fun _ _ h => h)) | skip))
                    refine hK.out _ _ ?hs7r20n3q21 (fun hHeld7r20n3q21 => ?ht7r20n3q21)
                    case hs7r20n3q21 => ((try dsimp only); (first | (with_reducible exact hHn) | exact ((hHeld.setCell (by first | exact Nat.le_refl _ | exact hpP) _).setCell (by first | exact Nat.le_refl _ | exact hpP) _).setCell (by first | exact Nat.le_refl _ | exact hpP) _))
                    clear hHeld hK
                    have hHeld := hHeld7r20n3q21
                    clear hHeld7r20n3q21
                    refine wpAnyH_ready (rs := [17]) (by kernel_rfl) (by simp) (AllReadyH.cons rfl (fun K hK => ?hc7r20n3q22) AllReadyH.nil)
                    go_simp
                    refine hK.out _ _ ?hs7r20n3q22 (fun hHeld7r20n3q22 => ?ht7r20n3q22)
                    case hs7r20n3q22 => ((try dsimp only); (first | (with_reducible exact hHn) | exact ((hHeld.setCell (by first | exact Nat.le_refl _ | exact hpP) _).setCell (by first | exact Nat.le_refl _ | exact hpP) _).setCell (by first | exact Nat.le_refl _ | exact hpP) _))
                    clear hHeld hK
                    have hHeld := hHeld7r20n3q22
                    clear hHeld7r20n3q22
                    refine wpAnyH_take (i := 18) (v := ?v7r20n3q23) rfl (by kernel_rfl) (by kernel_rfl) (by kernel_rfl) (fun _ _ _ h => h) (Or.inl ⟨by kernel_rfl, ?hy7r20n3q23⟩) (by assumption) ?hr7r20n3q23
                    case hy7r20n3q23 => (intro w hSw; (try dsimp only at hSw); skip; first | (go_simp; done) | (go_simp; with_reducible rfl))
                    refine wpAnyH_done (by kernel_rfl) ?_ _
                    clear hHeld
                    refine NoPanic.normal ?_
                  case' hc7r20n3q17 =>
                    go_simp
                    ((first | refine intro_alloc (fun X19 hBX hPA => ?_) | refine intro_alloc_drew (fun X19 hBX hPA => ?_)); have hHn : Below w16.heap.size w16 X19 := (by first | exact hBX | exact hHeld.trans (hBX.mono hHeld.size)); have hpP := hHeld.size; have f0 := box_frozen hPA 0; have f1 := box_frozen hPA 1; have f2 := box_frozen hPA 2; obtain ⟨y0, y1, y2⟩ := box3_cells hPA; (first | (have hown2 := ownsRow_turned hown2 (Turned.of_below (T := fun _ => False) hBX) (fun _ _ h => h)) | skip); (first | (have hown3 := ownsRow_turned hown3 (Turned.of_below (T := fun _ => False) hBX) (fun _ _ h => h)) | skip); (first | (have hown4 := ownsRow_turned hown4 (Turned.of_below (T := fun _ => False) hBX) (fun _ _ h => h)) | skip))
                    refine hK.out _ _ ?hs7r20n3q17 (fun hHeld7r20n3q17 => ?ht7r20n3q17)
                    case hs7r20n3q17 => ((try dsimp only); (first | (with_reducible exact hHn) | exact ((hHeld.setCell (by first | exact Nat.le_refl _ | exact hpP) _).setCell (by first | exact Nat.le_refl _ | exact hpP) _).setCell (by first | exact Nat.le_refl _ | exact hpP) _))
                    clear hHeld hK
                    have hHeld := hHeld7r20n3q17
                    clear hHeld7r20n3q17
                    refine wpAnyH_ready (rs := [12]) (by kernel_rfl) (by simp) (AllReadyH.cons rfl (fun K hK => ?hc7r20n3q24) AllReadyH.nil)
                    go_simp
                    (go_at_call 18; refine (HB2.out _ v4 hHeld (HIX.out v4 _ hown4)).mono ?_; rintro e w20 ⟨h20, oa2, oc2, la2, lc2, rfl, ho2, hl2⟩; have hHn : Below w16.heap.size w16 w20 := hHeld.trans (h20.mono hHeld.size); (first | (have hPA := below_push h20 hPA; have f0 := box_frozen hPA 0; have f1 := box_frozen hPA 1; have f2 := box_frozen hPA 2; obtain ⟨y0, y1, y2⟩ := box3_cells hPA) | skip); (try dsimp only))
                    refine hK.out _ _ ?hs7r20n3q24 (fun hHeld7r20n3q24 => ?ht7r20n3q24)
                    case hs7r20n3q24 => ((try dsimp only); (first | (with_reducible exact hHn) | exact ((hHeld.setCell (by first | exact Nat.le_refl _ | exact hpP) _).setCell (by first | exact Nat.le_refl _ | exact hpP) _).setCell (by first | exact Nat.le_refl _ | exact hpP) _))
                    clear hHeld hK
                    have hHeld := hHeld7r20n3q24
                    clear hHeld7r20n3q24
                    refine wpAnyH_take (i := 13) (v := ?v7r20n3q25) rfl (by kernel_rfl) (by kernel_rfl) (by kernel_rfl) (fun _ _ _ h => h) (Or.inl ⟨by kernel_rfl, ?hy7r20n3q25⟩) (by assumption) ?hr7r20n3q25
                    case hy7r20n3q25 => (intro w hSw; (try dsimp only at hSw); skip; first | (go_simp; done) | (go_simp; with_reducible rfl))
                    refine wpAnyH_take (i := 14) (v := ?v7r20n3q26) rfl (by kernel_rfl) (by kernel_rfl) (by kernel_rfl) (fun _ _ _ h => h) (Or.inl ⟨by kernel_rfl, ?hy7r20n3q26⟩) (by assumption) ?hr7r20n3q26
                    case hy7r20n3q26 => (intro w hSw; (try dsimp only at hSw); skip; first | (go_simp; done) | (go_simp; with_reducible rfl))
                    refine wpAnyH_take (i := 15) (v := ?v7r20n3q27) rfl (by kernel_rfl) (by kernel_rfl) (by kernel_rfl) (fun _ _ _ h => h) (Or.inl ⟨by kernel_rfl, ?hy7r20n3q27⟩) (by assumption) ?hr7r20n3q27
                    case hy7r20n3q27 => (intro w hSw; (try dsimp only at hSw); skip; first | (go_simp; done) | (go_simp; with_reducible rfl))
                    refine wpAnyH_ready (rs := [17]) (by kernel_rfl) (by simp) (AllReadyH.cons rfl (fun K hK => ?hc7r20n3q28) AllReadyH.nil)
                    go_simp
                    refine hK.out _ _ ?hs7r20n3q28 (fun hHeld7r20n3q28 => ?ht7r20n3q28)
                    case hs7r20n3q28 => ((try dsimp only); (first | (with_reducible exact hHn) | exact ((hHeld.setCell (by first | exact Nat.le_refl _ | exact hpP) _).setCell (by first | exact Nat.le_refl _ | exact hpP) _).setCell (by first | exact Nat.le_refl _ | exact hpP) _))
                    clear hHeld hK
                    have hHeld := hHeld7r20n3q28
                    clear hHeld7r20n3q28
                    refine wpAnyH_take (i := 18) (v := ?v7r20n3q29) rfl (by kernel_rfl) (by kernel_rfl) (by kernel_rfl) (fun _ _ _ h => h) (Or.inl ⟨by kernel_rfl, ?hy7r20n3q29⟩) (by assumption) ?hr7r20n3q29
                    case hy7r20n3q29 => (intro w hSw; (try dsimp only at hSw); skip; first | (go_simp; done) | (go_simp; with_reducible rfl))
                    refine wpAnyH_done (by kernel_rfl) ?_ _
                    clear hHeld
                    refine NoPanic.normal ?_
                case' hc7r20n3q15 =>
                  go_simp
                  ((first | refine intro_alloc (fun X19 hBX hPA => ?_) | refine intro_alloc_drew (fun X19 hBX hPA => ?_)); have hHn : Below w16.heap.size w16 X19 := (by first | exact hBX | exact hHeld.trans (hBX.mono hHeld.size)); have hpP := hHeld.size; have f0 := box_frozen hPA 0; have f1 := box_frozen hPA 1; have f2 := box_frozen hPA 2; obtain ⟨y0, y1, y2⟩ := box3_cells hPA; (first | (have hown2 := ownsRow_turned hown2 (Turned.of_below (T := fun _ => False) hBX) (fun _ _ h => h)) | skip); (first | (have hown3 := ownsRow_turned hown3 (Turned.of_below (T := fun _ => False) hBX) (fun _ _ h => h)) | skip); (first | (have hown4 := ownsRow_turned hown4 (Turned.of_below (T := fun _ => False) hBX) (fun _ _ h => h)) | skip))
                  refine hK.out _ _ ?hs7r20n3q15 (fun hHeld7r20n3q15 => ?ht7r20n3q15)
                  case hs7r20n3q15 => ((try dsimp only); (first | (with_reducible exact hHn) | exact ((hHeld.setCell (by first | exact Nat.le_refl _ | exact hpP) _).setCell (by first | exact Nat.le_refl _ | exact hpP) _).setCell (by first | exact Nat.le_refl _ | exact hpP) _))
                  clear hHeld hK
                  have hHeld := hHeld7r20n3q15
                  clear hHeld7r20n3q15
                  refine wpAnyH_ready (rs := [11]) (by kernel_rfl) (by simp) (AllReadyH.cons rfl (fun K hK => ?hc7r20n3q30) AllReadyH.nil)
                  (refine step_append_rd _ (by rfl) (.tmp 94) (.tmp 98) (by rfl) slIntsR w16.heap.size v3 _ _ (by rfl) hown3 _ _ _ _ (by rfl) (by exact HSRC2.out _ hHeld) (intsC_one _) (by unfold maxLen; omega) (by omega) (by exact hHeld.size) ?_; intro v4 w4 hown4 hgr4 hat4 hnl4; have hHn : Below w16.heap.size w16 w4 := hHeld.grown hgr4 hHeld.size (fun g hg => (hown3.lt g hg).1); (first | (have hPA := grown_other hown3 hgr4 hPA (by decide)) | skip); (try dsimp only))
                  refine hK.out _ _ ?hs7r20n3q30 (fun hHeld7r20n3q30 => ?ht7r20n3q30)
                  case hs7r20n3q30 => ((try dsimp only); (first | (with_reducible exact hHn) | exact ((hHeld.setCell (by first | exact Nat.le_refl _ | exact hpP) _).setCell (by first | exact Nat.le_refl _ | exact hpP) _).setCell (by first | exact Nat.le_refl _ | exact hpP) _))
                  clear hHeld hK
                  have hHeld := hHeld7r20n3q30
                  clear hHeld7r20n3q30
                  refine wpAnyH_ready (rs := [12]) (by kernel_rfl) (by simp) (AllReadyH.cons rfl (fun K hK => ?hc7r20n3q31) AllReadyH.nil)
                  go_simp
                  (go_at_call 18; refine (HB2.out _ v4 hHeld (HIX.out v4 _ hown4)).mono ?_; rintro e w20 ⟨h20, oa2, oc2, la2, lc2, rfl, ho2, hl2⟩; have hHn : Below w16.heap.size w16 w20 := hHeld.trans (h20.mono hHeld.size); (first | (have hPA := below_push h20 hPA; have f0 := box_frozen hPA 0; have f1 := box_frozen hPA 1; have f2 := box_frozen hPA 2; obtain ⟨y0, y1, y2⟩ := box3_cells hPA) | skip); (try dsimp only))
                  refine hK.out _ _ ?hs7r20n3q31 (fun hHeld7r20n3q31 => ?ht7r20n3q31)
                  case hs7r20n3q31 => ((try dsimp only); (first | (with_reducible exact hHn) | exact ((hHeld.setCell (by first | exact Nat.le_refl _ | exact hpP) _).setCell (by first | exact Nat.le_refl _ | exact hpP) _).setCell (by first | exact Nat.le_refl _ | exact hpP) _))
                  clear hHeld hK
                  have hHeld := hHeld7r20n3q31
                  clear hHeld7r20n3q31
                  refine wpAnyH_take (i := 13) (v := ?v7r20n3q32) rfl (by kernel_rfl) (by kernel_rfl) (by kernel_rfl) (fun _ _ _ h => h) (Or.inl ⟨by kernel_rfl, ?hy7r20n3q32⟩) (by assumption) ?hr7r20n3q32
                  case hy7r20n3q32 => (intro w hSw; (try dsimp only at hSw); skip; first | (go_simp; done) | (go_simp; with_reducible rfl))
                  refine wpAnyH_take (i := 14) (v := ?v7r20n3q33) rfl (by kernel_rfl) (by kernel_rfl) (by kernel_rfl) (fun _ _ _ h => h) (Or.inl ⟨by kernel_rfl, ?hy7r20n3q33⟩) (by assumption) ?hr7r20n3q33
                  case hy7r20n3q33 => (intro w hSw; (try dsimp only at hSw); skip; first | (go_simp; done) | (go_simp; with_reducible rfl))
                  refine wpAnyH_take (i := 15) (v := ?v7r20n3q34) rfl (by kernel_rfl) (by kernel_rfl) (by kernel_rfl) (fun _ _ _ h => h) (Or.inl ⟨by kernel_rfl, ?hy7r20n3q34⟩) (by assumption) ?hr7r20n3q34
                  case hy7r20n3q34 => (intro w hSw; (try dsimp only at hSw); skip; first | (go_simp; done) | (go_simp; with_reducible rfl))
                  refine wpAnyH_ready (rs := [17]) (by kernel_rfl) (by simp) (AllReadyH.cons rfl (fun K hK => ?hc7r20n3q35) AllReadyH.nil)
                  go_simp
                  refine hK.out _ _ ?hs7r20n3q35 (fun hHeld7r20n3q35 => ?ht7r20n3q35)
                  case hs7r20n3q35 => ((try dsimp only); (first | (with_reducible exact hHn) | exact ((hHeld.setCell (by first | exact Nat.le_refl _ | exact hpP) _).setCell (by first | exact Nat.le_refl _ | exact hpP) _).setCell (by first | exact Nat.le_refl _ | exact hpP) _))
                  clear hHeld hK
                  have hHeld := hHeld7r20n3q35
                  clear hHeld7r20n3q35
                  refine wpAnyH_take (i := 18) (v := ?v7r20n3q36) rfl (by kernel_rfl) (by kernel_rfl) (by kernel_rfl) (fun _ _ _ h => h) (Or.inl ⟨by kernel_rfl, ?hy7r20n3q36⟩) (by assumption) ?hr7r20n3q36
                  case hy7r20n3q36 => (intro w hSw; (try dsimp only at hSw); skip; first | (go_simp; done) | (go_simp; with_reducible rfl))
                  refine wpAnyH_done (by kernel_rfl) ?_ _
                  clear hHeld
                  refine NoPanic.normal ?_
              case' hc7r20n3q13 =>
                go_simp
                ((first | refine intro_alloc (fun X19 hBX hPA => ?_) | refine intro_alloc_drew (fun X19 hBX hPA => ?_)); have hHn : Below w16.heap.size w16 X19 := (by first | exact hBX | exact hHeld.trans (hBX.mono hHeld.size)); have hpP := hHeld.size; have f0 := box_frozen hPA 0; have f1 := box_frozen hPA 1; have f2 := box_frozen hPA 2; obtain ⟨y0, y1, y2⟩ := box3_cells hPA; (first | (have hown2 := ownsRow_turned hown2 (Turned.of_below (T := fun _ => False) hBX) (fun _ _ h => h)) | skip); (first | (have hown3 := ownsRow_turned hown3 (Turned.of_below (T := fun _ => False) hBX) (fun _ _ h => h)) | skip); (first | (have hown4 := ownsRow_turned hown4 (Turned.of_below (T := fun _ => False) hBX) (fun _ _ h => h)) | skip))
                refine hK.out _ _ ?hs7r20n3q13 (fun hHeld7r20n3q13 => ?ht7r20n3q13)
                case hs7r20n3q13 => ((try dsimp only); (first | (with_reducible exact hHn) | exact ((hHeld.setCell (by first | exact Nat.le_refl _ | exact hpP) _).setCell (by first | exact Nat.le_refl _ | exact hpP) _).setCell (by first | exact Nat.le_refl _ | exact hpP) _))
                clear hHeld hK
                have hHeld := hHeld7r20n3q13
                clear hHeld7r20n3q13
                refine wpAnyH_ready (rs := [6]) (by kernel_rfl) (by simp) (AllReadyH.cons rfl (fun K hK => ?hc7r20n3q37) AllReadyH.nil)
                (refine step_append_rd _ (by rfl) (.tmp 90) (.tmp 93) (by rfl) slIntsR w16.heap.size _ 0 [] (by rfl) hown2 _ _ _ _ (by rfl) (by exact HSRC1.out _ hHeld) (intsC_one _) (by unfold maxLen; omega) (by omega) (by exact hHeld.size) ?_; intro v3 w3' hown3 hgr3 hat3 hnl3; have hHn : Below w16.heap.size w16 w3' := hHeld.grown hgr3 hHeld.size (fun g hg => (hown2.lt g hg).1); (first | (have hPA := grown_other hown2 hgr3 hPA (by decide)) | skip); (try dsimp only))
                refine hK.out _ _ ?hs7r20n3q37 (fun hHeld7r20n3q37 => ?ht7r20n3q37)
                case hs7r20n3q37 => ((try dsimp only); (first | (with_reducible exact hHn) | exact ((hHeld.setCell (by first | exact Nat.le_refl _ | exact hpP) _).setCell (by first | exact Nat.le_refl _ | exact hpP) _).setCell (by first | exact Nat.le_refl _ | exact hpP) _))
                clear hHeld hK
                have hHeld := hHeld7r20n3q37
                clear hHeld7r20n3q37
                refine wpAnyH_ready (rs := [11]) (by kernel_rfl) (by simp) (AllReadyH.cons rfl (fun K hK => ?hc7r20n3q38) AllReadyH.nil)
                (refine step_append_rd _ (by rfl) (.tmp 94) (.tmp 98) (by rfl) slIntsR w16.heap.size v3 _ _ (by rfl) hown3 _ _ _ _ (by rfl) (by exact HSRC2.out _ hHeld) (intsC_one _) (by unfold maxLen; omega) (by omega) (by exact hHeld.size) ?_; intro v4 w4 hown4 hgr4 hat4 hnl4; have hHn : Below w16.heap.size w16 w4 := hHeld.grown hgr4 hHeld.size (fun g hg => (hown3.lt g hg).1); (first | (have hPA := grown_other hown3 hgr4 hPA (by decide)) | skip); (try dsimp only))
                refine hK.out _ _ ?hs7r20n3q38 (fun hHeld7r20n3q38 => ?ht7r20n3q38)
                case hs7r20n3q38 => ((try dsimp only); (first | (with_reducible exact hHn) | exact ((hHeld.setCell (by first | exact Nat.le_refl _ | exact hpP) _).setCell (by first | exact Nat.le_refl _ | exact hpP) _).setCell (by first | exact Nat.le_refl _ | exact hpP) _))
                clear hHeld hK
                have hHeld := hHeld7r20n3q38
                clear hHeld7r20n3q38
                refine wpAnyH_ready (rs := [12]) (by kernel_rfl) (by simp) (AllReadyH.cons rfl (fun K hK => ?hc7r20n3q39) AllReadyH.nil)
                go_simp
                (go_at_call 18; refine (HB2.out _ v4 hHeld (HIX.out v4 _ hown4)).mono ?_; rintro e w20 ⟨h20, oa2, oc2, la2, lc2, rfl, ho2, hl2⟩; have hHn : Below w16.heap.size w16 w20 := hHeld.trans (h20.mono hHeld.size); (first | (have hPA := below_push h20 hPA; have f0 := box_frozen hPA 0; have f1 := box_frozen hPA 1; have f2 := box_frozen hPA 2; obtain ⟨y0, y1, y2⟩ := box3_cells hPA) | skip); (try dsimp only))
                refine hK.out _ _ ?hs7r20n3q39 (fun hHeld7r20n3q39 => ?ht7r20n3q39)
                case hs7r20n3q39 => ((try dsimp only); (first | (with_reducible exact hHn) | exact ((hHeld.setCell (by first | exact Nat.le_refl _ | exact hpP) _).setCell (by first | exact Nat.le_refl _ | exact hpP) _).setCell (by first | exact Nat.le_refl _ | exact hpP) _))
                clear hHeld hK
                have hHeld := hHeld7r20n3q39
                clear hHeld7r20n3q39
                refine wpAnyH_take (i := 13) (v := ?v7r20n3q40) rfl (by kernel_rfl) (by kernel_rfl) (by kernel_rfl) (fun _ _ _ h => h) (Or.inl ⟨by kernel_rfl, ?hy7r20n3q40⟩) (by assumption) ?hr7r20n3q40
                case hy7r20n3q40 => (intro w hSw; (try dsimp only at hSw); skip; first | (go_simp; done) | (go_simp; with_reducible rfl))
                refine wpAnyH_take (i := 14) (v := ?v7r20n3q41) rfl (by kernel_rfl) (by kernel_rfl) (by kernel_rfl) (fun _ _ _ h => h) (Or.inl ⟨by kernel_rfl, ?hy7r20n3q41⟩) (by assumption) ?hr7r20n3q41
                case hy7r20n3q41 => (intro w hSw; (try dsimp only at hSw); skip; first | (go_simp; done) | (go_simp; with_reducible rfl))
                refine wpAnyH_take (i := 15) (v := ?v7r20n3q42) rfl (by kernel_rfl) (by kernel_rfl) (by kernel_rfl) (fun _ _ _ h => h) (Or.inl ⟨by kernel_rfl, ?hy7r20n3q42⟩) (by assumption) ?hr7r20n3q42
                case hy7r20n3q42 => (intro w hSw; (try dsimp only at hSw); skip; first | (go_simp; done) | (go_simp; with_reducible rfl))
                refine wpAnyH_ready (rs := [17]) (by kernel_rfl) (by simp) (AllReadyH.cons rfl (fun K hK => ?hc7r20n3q43) AllReadyH.nil)
                go_simp
                refine hK.out _ _ ?hs7r20n3q43 (fun hHeld7r20n3q43 => ?ht7r20n3q43)
                case hs7r20n3q43 => ((try dsimp only); (first | (with_reducible exact hHn) | exact ((hHeld.setCell (by first | exact Nat.le_refl _ | exact hpP) _).setCell (by first | exact Nat.le_refl _ | exact hpP) _).setCell (by first | exact Nat.le_refl _ | exact hpP) _))
                clear hHeld hK
                have hHeld := hHeld7r20n3q43
                clear hHeld7r20n3q43
                refine wpAnyH_take (i := 18) (v := ?v7r20n3q44) rfl (by kernel_rfl) (by kernel_rfl) (by kernel_rfl) (fun _ _ _ h => h) (Or.inl ⟨by kernel_rfl, ?hy7r20n3q44⟩) (by assumption) ?hr7r20n3q44
                case hy7r20n3q44 => (intro w hSw; (try dsimp only at hSw); skip; first | (go_simp; done) | (go_simp; with_reducible rfl))
                refine wpAnyH_done (by kernel_rfl) ?_ _
                clear hHeld
                refine NoPanic.normal ?_
            case' hc7r20n3q11 =>
              go_simp
              ((first | refine intro_alloc (fun X19 hBX hPA => ?_) | refine intro_alloc_drew (fun X19 hBX hPA => ?_)); have hHn : Below w16.heap.size w16 X19 := (by first | exact hBX | exact hHeld.trans (hBX.mono hHeld.size)); have hpP := hHeld.size; have f0 := box_frozen hPA 0; have f1 := box_frozen hPA 1; have f2 := box_frozen hPA 2; obtain ⟨y0, y1, y2⟩ := box3_cells hPA; (first | (have hown2 := ownsRow_turned hown2 (Turned.of_below (T := fun _ => False) hBX) (fun _ _ h => h)) | skip); (first | (have hown3 := ownsRow_turned hown3 (Turned.of_below (T := fun _ => False) hBX) (fun _ _ h => h)) | skip); (first | (have hown4 := ownsRow_turned hown4 (Turned.of_below (T := fun _ => False) hBX) (fun _ _ h => h)) | skip))
              refine hK.out _ _ ?hs7r20n3q11 (fun hHeld7r20n3q11 => ?ht7r20n3q11)
              case hs7r20n3q11 => ((try dsimp only); (first | (with_reducible exact hHn) | exact ((hHeld.setCell (by first | exact Nat.le_refl _ | exact hpP) _).setCell (by first | exact Nat.le_refl _ | exact hpP) _).setCell (by first | exact Nat.le_refl _ | exact hpP) _))
              clear hHeld hK
              have hHeld := hHeld7r20n3q11
              clear hHeld7r20n3q11
              refine wpAnyH_ready (rs := [2]) (by kernel_rfl) (by simp) (AllReadyH.cons rfl (fun K hK => ?hc7r20n3q45) AllReadyH.nil)
              go_simp
              ((first | refine intro_alloc (fun X90 hBX hLX => ?_) | refine intro_alloc_drew (fun X90 hBX hLX => ?_)); have hHn : Below w16.heap.size w16 X90 := (by first | exact hBX | exact hHeld.trans (hBX.mono hHeld.size)); have hown2 := lit_own (B := w16.heap.size) (k := 1) hLX (by first | exact Nat.le_refl _ | exact hHeld.size); (first | (have hPA := below_push hBX hPA) | skip))
              refine hK.out _ _ ?hs7r20n3q45 (fun hHeld7r20n3q45 => ?ht7r20n3q45)
              case hs7r20n3q45 => ((try dsimp only); (first | (with_reducible exact hHn) | exact ((hHeld.setCell (by first | exact Nat.le_refl _ | exact hpP) _).setCell (by first | exact Nat.le_refl _ | exact hpP) _).setCell (by first | exact Nat.le_refl _ | exact hpP) _))
              clear hHeld hK
              have hHeld := hHeld7r20n3q45
              clear hHeld7r20n3q45
              refine wpAnyH_ready (rs := [6]) (by kernel_rfl) (by simp) (AllReadyH.cons rfl (fun K hK => ?hc7r20n3q46) AllReadyH.nil)
              (refine step_append_rd _ (by rfl) (.tmp 90) (.tmp 93) (by rfl) slIntsR w16.heap.size _ 0 [] (by rfl) hown2 _ _ _ _ (by rfl) (by exact HSRC1.out _ hHeld) (intsC_one _) (by unfold maxLen; omega) (by omega) (by exact hHeld.size) ?_; intro v3 w3' hown3 hgr3 hat3 hnl3; have hHn : Below w16.heap.size w16 w3' := hHeld.grown hgr3 hHeld.size (fun g hg => (hown2.lt g hg).1); (first | (have hPA := grown_other hown2 hgr3 hPA (by decide)) | skip); (try dsimp only))
              refine hK.out _ _ ?hs7r20n3q46 (fun hHeld7r20n3q46 => ?ht7r20n3q46)
              case hs7r20n3q46 => ((try dsimp only); (first | (with_reducible exact hHn) | exact ((hHeld.setCell (by first | exact Nat.le_refl _ | exact hpP) _).setCell (by first | exact Nat.le_refl _ | exact hpP) _).setCell (by first | exact Nat.le_refl _ | exact hpP) _))
              clear hHeld hK
              have hHeld := hHeld7r20n3q46
              clear hHeld7r20n3q46
              refine wpAnyH_ready (rs := [11]) (by kernel_rfl) (by simp) (AllReadyH.cons rfl (fun K hK => ?hc7r20n3q47) AllReadyH.nil)
              (refine step_append_rd _ (by rfl) (.tmp 94) (.tmp 98) (by rfl) slIntsR w16.heap.size v3 _ _ (by rfl) hown3 _ _ _ _ (by rfl) (by exact HSRC2.out _ hHeld) (intsC_one _) (by unfold maxLen; omega) (by omega) (by exact hHeld.size) ?_; intro v4 w4 hown4 hgr4 hat4 hnl4; have hHn : Below w16.heap.size w16 w4 := hHeld.grown hgr4 hHeld.size (fun g hg => (hown3.lt g hg).1); (first | (have hPA := grown_other hown3 hgr4 hPA (by decide)) | skip); (try dsimp only))
              refine hK.out _ _ ?hs7r20n3q47 (fun hHeld7r20n3q47 => ?ht7r20n3q47)
              case hs7r20n3q47 => ((try dsimp only); (first | (with_reducible exact hHn) | exact ((hHeld.setCell (by first | exact Nat.le_refl _ | exact hpP) _).setCell (by first | exact Nat.le_refl _ | exact hpP) _).setCell (by first | exact Nat.le_refl _ | exact hpP) _))
              clear hHeld hK
              have hHeld := hHeld7r20n3q47
              clear hHeld7r20n3q47
              refine wpAnyH_ready (rs := [12]) (by kernel_rfl) (by simp) (AllReadyH.cons rfl (fun K hK => ?hc7r20n3q48) AllReadyH.nil)
              go_simp
              (go_at_call 18; refine (HB2.out _ v4 hHeld (HIX.out v4 _ hown4)).mono ?_; rintro e w20 ⟨h20, oa2, oc2, la2, lc2, rfl, ho2, hl2⟩; have hHn : Below w16.heap.size w16 w20 := hHeld.trans (h20.mono hHeld.size); (first | (have hPA := below_push h20 hPA; have f0 := box_frozen hPA 0; have f1 := box_frozen hPA 1; have f2 := box_frozen hPA 2; obtain ⟨y0, y1, y2⟩ := box3_cells hPA) | skip); (try dsimp only))
              refine hK.out _ _ ?hs7r20n3q48 (fun hHeld7r20n3q48 => ?ht7r20n3q48)
              case hs7r20n3q48 => ((try dsimp only); (first | (with_reducible exact hHn) | exact ((hHeld.setCell (by first | exact Nat.le_refl _ | exact hpP) _).setCell (by first | exact Nat.le_refl _ | exact hpP) _).setCell (by first | exact Nat.le_refl _ | exact hpP) _))
              clear hHeld hK
              have hHeld := hHeld7r20n3q48
              clear hHeld7r20n3q48
              refine wpAnyH_take (i := 13) (v := ?v7r20n3q49) rfl (by kernel_rfl) (by kernel_rfl) (by kernel_rfl) (fun _ _ _ h => h) (Or.inl ⟨by kernel_rfl, ?hy7r20n3q49⟩) (by assumption) ?hr7r20n3q49
              case hy7r20n3q49 => (intro w hSw; (try dsimp only at hSw); skip; first | (go_simp; done) | (go_simp; with_reducible rfl))
              refine wpAnyH_take (i := 14) (v := ?v7r20n3q50) rfl (by kernel_rfl) (by kernel_rfl) (by kernel_rfl) (fun _ _ _ h => h) (Or.inl ⟨by kernel_rfl, ?hy7r20n3q50⟩) (by assumption) ?hr7r20n3q50
              case hy7r20n3q50 => (intro w hSw; (try dsimp only at hSw); skip; first | (go_simp; done) | (go_simp; with_reducible rfl))
              refine wpAnyH_take (i := 15) (v := ?v7r20n3q51) rfl (by kernel_rfl) (by kernel_rfl) (by kernel_rfl) (fun _ _ _ h => h) (Or.inl ⟨by kernel_rfl, ?hy7r20n3q51⟩) (by assumption) ?hr7r20n3q51
              case hy7r20n3q51 => (intro w hSw; (try dsimp only at hSw); skip; first | (go_simp; done) | (go_simp; with_reducible rfl))
              refine wpAnyH_ready (rs := [17]) (by kernel_rfl) (by simp) (AllReadyH.cons rfl (fun K hK => ?hc7r20n3q52) AllReadyH.nil)
              go_simp
              refine hK.out _ _ ?hs7r20n3q52 (fun hHeld7r20n3q52 => ?ht7r20n3q52)
              case hs7r20n3q52 => ((try dsimp only); (first | (with_reducible exact hHn) | exact ((hHeld.setCell (by first | exact Nat.le_refl _ | exact hpP) _).setCell (by first | exact Nat.le_refl _ | exact hpP) _).setCell (by first | exact Nat.le_refl _ | exact hpP) _))
              clear hHeld hK
              have hHeld := hHeld7r20n3q52
              clear hHeld7r20n3q52
              refine wpAnyH_take (i := 18) (v := ?v7r20n3q53) rfl (by kernel_rfl) (by kernel_rfl) (by kernel_rfl) (fun _ _ _ h => h) (Or.inl ⟨by kernel_rfl, ?hy7r20n3q53⟩) (by assumption) ?hr7r20n3q53
              case hy7r20n3q53 => (intro w hSw; (try dsimp only at hSw); skip; first | (go_simp; done) | (go_simp; with_reducible rfl))
              refine wpAnyH_done (by kernel_rfl) ?_ _
              clear hHeld
              refine NoPanic.normal ?_
            all_goals
              dsimp only [Exit.then]
              refine hMK _ _ ⟨rfl, rfl, by kernel_rfl, by kernel_rfl, ((hHn.setCell (by first | exact Nat.le_refl _ | exact hpP) _).setCell (by first | exact Nat.le_refl _ | exact hpP) _).setCell (by first | exact Nat.le_refl _ | exact hpP) _, _, _, _, ?_, heap_set (heap_set (heap_set hPA 0 _) 1 _) 2 _⟩
              kernel_rfl
          · rw [if_neg hcq] at hsrc2
            have HSRC2 := hidep (fun Y (hY : Below w16.heap.size w16 Y) => hsrc2.below hY)
            clear hsrc2
            refine wp_region_noPanic (wp_region_held_drew (S := (fun X => Below w16.heap.size w16 X)) (by kernel_rfl) ?hS7r20n4 (fun hHeld => ?hR7r20n4))
            case hS7r20n4 => ((try dsimp only); (exact (Below.refl _ _).drew))
            refine wpAnyH_take (i := 0) (v := ?v7r20n4q1) rfl (by kernel_rfl) (by kernel_rfl) (by kernel_rfl) (fun _ _ _ h => h) (Or.inl ⟨by kernel_rfl, ?hy7r20n4q1⟩) (by assumption) ?hr7r20n4q1
            case hy7r20n4q1 => (intro w hSw; (try dsimp only at hSw); skip; first | (go_simp; done) | (go_simp; with_reducible rfl))
            refine wpAnyH_take (i := 1) (v := ?v7r20n4q2) rfl (by kernel_rfl) (by kernel_rfl) (by kernel_rfl) (fun _ _ _ h => h) (Or.inl ⟨by kernel_rfl, ?hy7r20n4q2⟩) (by assumption) ?hr7r20n4q2
            case hy7r20n4q2 => (intro w hSw; (try dsimp only at hSw); skip; first | (go_simp; done) | (go_simp; with_reducible rfl))
            refine wpAnyH_take (i := 3) (v := ?v7r20n4q3) rfl (by kernel_rfl) (by kernel_rfl) (by kernel_rfl) (fun _ _ _ h => h) (Or.inl ⟨by kernel_rfl, ?hy7r20n4q3⟩) (by assumption) ?hr7r20n4q3
            case hy7r20n4q3 => (intro w hSw; (try dsimp only at hSw); skip; first | (go_simp; done) | (go_simp; with_reducible rfl))
            refine wpAnyH_take (i := 4) (v := ?v7r20n4q4) rfl (by kernel_rfl) (by kernel_rfl) (by kernel_rfl) (fun _ _ _ h => h) (Or.inl ⟨by kernel_rfl, ?hy7r20n4q4⟩) (by assumption) ?hr7r20n4q4
            case hy7r20n4q4 => (intro w hSw; (try dsimp only at hSw); skip; first | (go_simp; done) | (go_simp; with_reducible rfl))
            refine wpAnyH_take (i := 5) (v := ?v7r20n4q5) rfl (by kernel_rfl) (by kernel_rfl) (by kernel_rfl) (fun _ _ _ h => h) (Or.inl ⟨by kernel_rfl, ?hy7r20n4q5⟩) (by assumption) ?hr7r20n4q5
            case hy7r20n4q5 => (intro w hSw; (try dsimp only at hSw); skip; first | (go_simp; done) | (go_simp; with_reducible rfl))
            refine wpAnyH_take (i := 7) (v := ?v7r20n4q6) rfl (by kernel_rfl) (by kernel_rfl) (by kernel_rfl) (fun _ _ _ h => h) (Or.inl ⟨by kernel_rfl, ?hy7r20n4q6⟩) (by assumption) ?hr7r20n4q6
            case hy7r20n4q6 => (intro w hSw; (try dsimp only at hSw); skip; first | (go_simp; done) | (go_simp; with_reducible rfl))
            refine wpAnyH_take (i := 8) (v := ?v7r20n4q7) rfl (by kernel_rfl) (by kernel_rfl) (by kernel_rfl) (fun _ _ _ h => h) (Or.inl ⟨by kernel_rfl, ?hy7r20n4q7⟩) (by assumption) ?hr7r20n4q7
            case hy7r20n4q7 => (intro w hSw; (try dsimp only at hSw); skip; first | (go_simp; done) | (go_simp; with_reducible rfl))
            refine wpAnyH_take (i := 9) (v := ?v7r20n4q8) rfl (by kernel_rfl) (by kernel_rfl) (by kernel_rfl) (fun _ _ _ h => h) (Or.inl ⟨by kernel_rfl, ?hy7r20n4q8⟩) (by assumption) ?hr7r20n4q8
            case hy7r20n4q8 => (intro w hSw; (try dsimp only at hSw); skip; first | (go_simp; done) | (go_simp; with_reducible rfl))
            refine wpAnyH_take (i := 10) (v := ?v7r20n4q9) rfl (by kernel_rfl) (by kernel_rfl) (by kernel_rfl) (fun _ _ _ h => h) (Or.inl ⟨by kernel_rfl, ?hy7r20n4q9⟩) (by assumption) ?hr7r20n4q9
            case hy7r20n4q9 => (intro w hSw; (try dsimp only at hSw); skip; first | (go_simp; done) | (go_simp; with_reducible rfl))
            refine wpAnyH_ready (rs := [2, 16]) (by kernel_rfl) (by simp) (AllReadyH.cons rfl (fun K hK => ?hc7r20n4q10) (AllReadyH.cons rfl (fun K hK => ?hc7r20n4q11) AllReadyH.nil))
            case' hc7r20n4q10 =>
              go_simp
              ((first | refine intro_alloc (fun X90 hBX hLX => ?_) | refine intro_alloc_drew (fun X90 hBX hLX => ?_)); have hHn : Below w16.heap.size w16 X90 := (by first | exact hBX | exact hHeld.trans (hBX.mono hHeld.size)); have hown2 := lit_own (B := w16.heap.size) (k := 1) hLX (by first | exact Nat.le_refl _ | exact hHeld.size); (first | (have hPA := below_push hBX hPA) | skip))
              refine hK.out _ _ ?hs7r20n4q10 (fun hHeld7r20n4q10 => ?ht7r20n4q10)
              case hs7r20n4q10 => ((try dsimp only); (first | (with_reducible exact hHn) | exact ((hHeld.setCell (by first | exact Nat.le_refl _ | exact hpP) _).setCell (by first | exact Nat.le_refl _ | exact hpP) _).setCell (by first | exact Nat.le_refl _ | exact hpP) _))
              clear hHeld hK
              have hHeld := hHeld7r20n4q10
              clear hHeld7r20n4q10
              refine wpAnyH_ready (rs := [6, 16]) (by kernel_rfl) (by simp) (AllReadyH.cons rfl (fun K hK => ?hc7r20n4q12) (AllReadyH.cons rfl (fun K hK => ?hc7r20n4q13) AllReadyH.nil))
              case' hc7r20n4q12 =>
                (refine step_append_rd _ (by rfl) (.tmp 90) (.tmp 93) (by rfl) slIntsR w16.heap.size _ 0 [] (by rfl) hown2 _ _ _ _ (by rfl) (by exact HSRC1.out _ hHeld) (intsC_one _) (by unfold maxLen; omega) (by omega) (by exact hHeld.size) ?_; intro v3 w3' hown3 hgr3 hat3 hnl3; have hHn : Below w16.heap.size w16 w3' := hHeld.grown hgr3 hHeld.size (fun g hg => (hown2.lt g hg).1); (first | (have hPA := grown_other hown2 hgr3 hPA (by decide)) | skip); (try dsimp only))
                refine hK.out _ _ ?hs7r20n4q12 (fun hHeld7r20n4q12 => ?ht7r20n4q12)
                case hs7r20n4q12 => ((try dsimp only); (first | (with_reducible exact hHn) | exact ((hHeld.setCell (by first | exact Nat.le_refl _ | exact hpP) _).setCell (by first | exact Nat.le_refl _ | exact hpP) _).setCell (by first | exact Nat.le_refl _ | exact hpP) _))
                clear hHeld hK
                have hHeld := hHeld7r20n4q12
                clear hHeld7r20n4q12
                refine wpAnyH_ready (rs := [11, 16]) (by kernel_rfl) (by simp) (AllReadyH.cons rfl (fun K hK => ?hc7r20n4q14) (AllReadyH.cons rfl (fun K hK => ?hc7r20n4q15) AllReadyH.nil))
                case' hc7r20n4q14 =>
                  (refine step_append_rd _ (by rfl) (.tmp 94) (.tmp 98) (by rfl) slIntsR w16.heap.size v3 _ _ (by rfl) hown3 _ _ _ _ (by rfl) (by exact HSRC2.out _ hHeld) (intsC_one _) (by unfold maxLen; omega) (by omega) (by exact hHeld.size) ?_; intro v4 w4 hown4 hgr4 hat4 hnl4; have hHn : Below w16.heap.size w16 w4 := hHeld.grown hgr4 hHeld.size (fun g hg => (hown3.lt g hg).1); (first | (have hPA := grown_other hown3 hgr4 hPA (by decide)) | skip); (try dsimp only))
                  refine hK.out _ _ ?hs7r20n4q14 (fun hHeld7r20n4q14 => ?ht7r20n4q14)
                  case hs7r20n4q14 => ((try dsimp only); (first | (with_reducible exact hHn) | exact ((hHeld.setCell (by first | exact Nat.le_refl _ | exact hpP) _).setCell (by first | exact Nat.le_refl _ | exact hpP) _).setCell (by first | exact Nat.le_refl _ | exact hpP) _))
                  clear hHeld hK
                  have hHeld := hHeld7r20n4q14
                  clear hHeld7r20n4q14
                  refine wpAnyH_ready (rs := [12, 16]) (by kernel_rfl) (by simp) (AllReadyH.cons rfl (fun K hK => ?hc7r20n4q16) (AllReadyH.cons rfl (fun K hK => ?hc7r20n4q17) AllReadyH.nil))
                  case' hc7r20n4q16 =>
                    go_simp
                    (go_at_call 18; refine (HB2.out _ v4 hHeld (HIX.out v4 _ hown4)).mono ?_; rintro e w20 ⟨h20, oa2, oc2, la2, lc2, rfl, ho2, hl2⟩; have hHn : Below w16.heap.size w16 w20 := hHeld.trans (h20.mono hHeld.size); (first | (have hPA := below_push h20 hPA; have f0 := box_frozen hPA 0; have f1 := box_frozen hPA 1; have f2 := box_frozen hPA 2; obtain ⟨y0, y1, y2⟩ := box3_cells hPA) | skip); (try dsimp only))
                    refine hK.out _ _ ?hs7r20n4q16 (fun hHeld7r20n4q16 => ?ht7r20n4q16)
                    case hs7r20n4q16 => ((try dsimp only); (first | (with_reducible exact hHn) | exact ((hHeld.setCell (by first | exact Nat.le_refl _ | exact hpP) _).setCell (by first | exact Nat.le_refl _ | exact hpP) _).setCell (by first | exact Nat.le_refl _ | exact hpP) _))
                    clear hHeld hK
                    have hHeld := hHeld7r20n4q16
                    clear hHeld7r20n4q16
                    refine wpAnyH_take (i := 13) (v := ?v7r20n4q18) rfl (by kernel_rfl) (by kernel_rfl) (by kernel_rfl) (fun _ _ _ h => h) (Or.inl ⟨by kernel_rfl, ?hy7r20n4q18⟩) (by assumption) ?hr7r20n4q18
                    case hy7r20n4q18 => (intro w hSw; (try dsimp only at hSw); skip; first | (go_simp; done) | (go_simp; with_reducible rfl))
                    refine wpAnyH_take (i := 14) (v := ?v7r20n4q19) rfl (by kernel_rfl) (by kernel_rfl) (by kernel_rfl) (fun _ _ _ h => h) (Or.inl ⟨by kernel_rfl, ?hy7r20n4q19⟩) (by assumption) ?hr7r20n4q19
                    case hy7r20n4q19 => (intro w hSw; (try dsimp only at hSw); skip; first | (go_simp; done) | (go_simp; with_reducible rfl))
                    refine wpAnyH_take (i := 15) (v := ?v7r20n4q20) rfl (by kernel_rfl) (by kernel_rfl) (by kernel_rfl) (fun _ _ _ h => h) (Or.inl ⟨by kernel_rfl, ?hy7r20n4q20⟩) (by assumption) ?hr7r20n4q20
                    case hy7r20n4q20 => (intro w hSw; (try dsimp only at hSw); skip; first | (go_simp; done) | (go_simp; with_reducible rfl))
                    refine wpAnyH_ready (rs := [16]) (by kernel_rfl) (by simp) (AllReadyH.cons rfl (fun K hK => ?hc7r20n4q21) AllReadyH.nil)
                    go_simp
                    ((first | refine intro_alloc (fun X19 hBX hPA => ?_) | refine intro_alloc_drew (fun X19 hBX hPA => ?_)); have hHn : Below w16.heap.size w16 X19 := (by first | exact hBX | exact hHeld.trans (hBX.mono hHeld.size)); have hpP := hHeld.size; have f0 := box_frozen hPA 0; have f1 := box_frozen hPA 1; have f2 := box_frozen hPA 2; obtain ⟨y0, y1, y2⟩ := box3_cells hPA; (first | (have hown2 := ownsRow_turned hown2 (Turned.of_below (T := fun _ => False) hBX) (fun _ _ h => h)) | skip); (first | (have hown3 := ownsRow_turned hown3 (Turned.of_below (T := fun _ => False) hBX) (fun _ _ h => h)) | skip); (first | (have hown4 := ownsRow_turned hown4 (Turned.of_below (T := fun _ => False) hBX) (fun _ _ h => h)) | skip))
                    refine hK.out _ _ ?hs7r20n4q21 (fun hHeld7r20n4q21 => ?ht7r20n4q21)
                    case hs7r20n4q21 => ((try dsimp only); (first | (with_reducible exact hHn) | exact ((hHeld.setCell (by first | exact Nat.le_refl _ | exact hpP) _).setCell (by first | exact Nat.le_refl _ | exact hpP) _).setCell (by first | exact Nat.le_refl _ | exact hpP) _))
                    clear hHeld hK
                    have hHeld := hHeld7r20n4q21
                    clear hHeld7r20n4q21
                    refine wpAnyH_ready (rs := [17]) (by kernel_rfl) (by simp) (AllReadyH.cons rfl (fun K hK => ?hc7r20n4q22) AllReadyH.nil)
                    go_simp
                    refine hK.out _ _ ?hs7r20n4q22 (fun hHeld7r20n4q22 => ?ht7r20n4q22)
                    case hs7r20n4q22 => ((try dsimp only); (first | (with_reducible exact hHn) | exact ((hHeld.setCell (by first | exact Nat.le_refl _ | exact hpP) _).setCell (by first | exact Nat.le_refl _ | exact hpP) _).setCell (by first | exact Nat.le_refl _ | exact hpP) _))
                    clear hHeld hK
                    have hHeld := hHeld7r20n4q22
                    clear hHeld7r20n4q22
                    refine wpAnyH_take (i := 18) (v := ?v7r20n4q23) rfl (by kernel_rfl) (by kernel_rfl) (by kernel_rfl) (fun _ _ _ h => h) (Or.inl ⟨by kernel_rfl, ?hy7r20n4q23⟩) (by assumption) ?hr7r20n4q23
                    case hy7r20n4q23 => (intro w hSw; (try dsimp only at hSw); skip; first | (go_simp; done) | (go_simp; with_reducible rfl))
                    refine wpAnyH_done (by kernel_rfl) ?_ _
                    clear hHeld
                    refine NoPanic.normal ?_
                  case' hc7r20n4q17 =>
                    go_simp
                    ((first | refine intro_alloc (fun X19 hBX hPA => ?_) | refine intro_alloc_drew (fun X19 hBX hPA => ?_)); have hHn : Below w16.heap.size w16 X19 := (by first | exact hBX | exact hHeld.trans (hBX.mono hHeld.size)); have hpP := hHeld.size; have f0 := box_frozen hPA 0; have f1 := box_frozen hPA 1; have f2 := box_frozen hPA 2; obtain ⟨y0, y1, y2⟩ := box3_cells hPA; (first | (have hown2 := ownsRow_turned hown2 (Turned.of_below (T := fun _ => False) hBX) (fun _ _ h => h)) | skip); (first | (have hown3 := ownsRow_turned hown3 (Turned.of_below (T := fun _ => False) hBX) (fun _ _ h => h)) | skip); (first | (have hown4 := ownsRow_turned hown4 (Turned.of_below (T := fun _ => False) hBX) (fun _ _ h => h)) | skip))
                    refine hK.out _ _ ?hs7r20n4q17 (fun hHeld7r20n4q17 => ?ht7r20n4q17)
                    case hs7r20n4q17 => ((try dsimp only); (first | (with_reducible exact hHn) | exact ((hHeld.setCell (by first | exact Nat.le_refl _ | exact hpP) _).setCell (by first | exact Nat.le_refl _ | exact hpP) _).setCell (by first | exact Nat.le_refl _ | exact hpP) _))
                    clear hHeld hK
                    have hHeld := hHeld7r20n4q17
                    clear hHeld7r20n4q17
                    refine wpAnyH_ready (rs := [12]) (by kernel_rfl) (by simp) (AllReadyH.cons rfl (fun K hK => ?hc7r20n4q24) AllReadyH.nil)
                    go_simp
                    (go_at_call 18; refine (HB2.out _ v4 hHeld (HIX.out v4 _ hown4)).mono ?_; rintro e w20 ⟨h20, oa2, oc2, la2, lc2, rfl, ho2, hl2⟩; have hHn : Below w16.heap.size w16 w20 := hHeld.trans (h20.mono hHeld.size); (first | (have hPA := below_push h20 hPA; have f0 := box_frozen hPA 0; have f1 := box_frozen hPA 1; have f2 := box_frozen hPA 2; obtain ⟨y0, y1, y2⟩ := box3_cells hPA) | skip); (try dsimp only))
                    refine hK.out _ _ ?hs7r20n4q24 (fun hHeld7r20n4q24 => ?ht7r20n4q24)
                    case hs7r20n4q24 => ((try dsimp only); (first | (with_reducible exact hHn) | exact ((hHeld.setCell (by first | exact Nat.le_refl _ | exact hpP) _).setCell (by first | exact Nat.le_refl _ | exact hpP) _).setCell (by first | exact Nat.le_refl _ | exact hpP) _))
                    clear hHeld hK
                    have hHeld := hHeld7r20n4q24
                    clear hHeld7r20n4q24
                    refine wpAnyH_take (i := 13) (v := ?v7r20n4q25) rfl (by kernel_rfl) (by kernel_rfl) (by kernel_rfl) (fun _ _ _ h => h) (Or.inl ⟨by kernel_rfl, ?hy7r20n4q25⟩) (by assumption) ?hr7r20n4q25
                    case hy7r20n4q25 => (intro w hSw; (try dsimp only at hSw); skip; first | (go_simp; done) | (go_simp; with_reducible rfl))
                    refine wpAnyH_take (i := 14) (v := ?v7r20n4q26) rfl (by kernel_rfl) (by kernel_rfl) (by kernel_rfl) (fun _ _ _ h => h) (Or.inl ⟨by kernel_rfl, ?hy7r20n4q26⟩) (by assumption) ?hr7r20n4q26
                    case hy7r20n4q26 => (intro w hSw; (try dsimp only at hSw); skip; first | (go_simp; done) | (go_simp; with_reducible rfl))
                    refine wpAnyH_take (i := 15) (v := ?v7r20n4q27) rfl (by kernel_rfl) (by kernel_rfl) (by kernel_rfl) (fun _ _ _ h => h) (Or.inl ⟨by kernel_rfl, ?hy7r20n4q27⟩) (by assumption) ?hr7r20n4q27
                    case hy7r20n4q27 => (intro w hSw; (try dsimp only at hSw); skip; first | (go_simp; done) | (go_simp; with_reducible rfl))
                    refine wpAnyH_ready (rs := [17]) (by kernel_rfl) (by simp) (AllReadyH.cons rfl (fun K hK => ?hc7r20n4q28) AllReadyH.nil)
                    go_simp
                    refine hK.out _ _ ?hs7r20n4q28 (fun hHeld7r20n4q28 => ?ht7r20n4q28)
                    case hs7r20n4q28 => ((try dsimp only); (first | (with_reducible exact hHn) | exact ((hHeld.setCell (by first | exact Nat.le_refl _ | exact hpP) _).setCell (by first | exact Nat.le_refl _ | exact hpP) _).setCell (by first | exact Nat.le_refl _ | exact hpP) _))
                    clear hHeld hK
                    have hHeld := hHeld7r20n4q28
                    clear hHeld7r20n4q28
                    refine wpAnyH_take (i := 18) (v := ?v7r20n4q29) rfl (by kernel_rfl) (by kernel_rfl) (by kernel_rfl) (fun _ _ _ h => h) (Or.inl ⟨by kernel_rfl, ?hy7r20n4q29⟩) (by assumption) ?hr7r20n4q29
                    case hy7r20n4q29 => (intro w hSw; (try dsimp only at hSw); skip; first | (go_simp; done) | (go_simp; with_reducible rfl))
                    refine wpAnyH_done (by kernel_rfl) ?_ _
                    clear hHeld
                    refine NoPanic.normal ?_
                case' hc7r20n4q15 =>
                  go_simp
                  ((first | refine intro_alloc (fun X19 hBX hPA => ?_) | refine intro_alloc_drew (fun X19 hBX hPA => ?_)); have hHn : Below w16.heap.size w16 X19 := (by first | exact hBX | exact hHeld.trans (hBX.mono hHeld.size)); have hpP := hHeld.size; have f0 := box_frozen hPA 0; have f1 := box_frozen hPA 1; have f2 := box_frozen hPA 2; obtain ⟨y0, y1, y2⟩ := box3_cells hPA; (first | (have hown2 := ownsRow_turned hown2 (Turned.of_below (T := fun _ => False) hBX) (fun _ _ h => h)) | skip); (first | (have hown3 := ownsRow_turned hown3 (Turned.of_below (T := fun _ => False) hBX) (fun _ _ h => h)) | skip); (first | (have hown4 := ownsRow_turned hown4 (Turned.of_below (T := fun _ => False) hBX) (fun _ _ h => h)) | skip))
                  refine hK.out _ _ ?hs7r20n4q15 (fun hHeld7r20n4q15 => ?ht7r20n4q15)
                  case hs7r20n4q15 => ((try dsimp only); (first | (with_reducible exact hHn) | exact ((hHeld.setCell (by first | exact Nat.le_refl _ | exact hpP) _).setCell (by first | exact Nat.le_refl _ | exact hpP) _).setCell (by first | exact Nat.le_refl _ | exact hpP) _))
                  clear hHeld hK
                  have hHeld := hHeld7r20n4q15
                  clear hHeld7r20n4q15
                  refine wpAnyH_ready (rs := [11]) (by kernel_rfl) (by simp) (AllReadyH.cons rfl (fun K hK => ?hc7r20n4q30) AllReadyH.nil)
                  (refine step_append_rd _ (by rfl) (.tmp 94) (.tmp 98) (by rfl) slIntsR w16.heap.size v3 _ _ (by rfl) hown3 _ _ _ _ (by rfl) (by exact HSRC2.out _ hHeld) (intsC_one _) (by unfold maxLen; omega) (by omega) (by exact hHeld.size) ?_; intro v4 w4 hown4 hgr4 hat4 hnl4; have hHn : Below w16.heap.size w16 w4 := hHeld.grown hgr4 hHeld.size (fun g hg => (hown3.lt g hg).1); (first | (have hPA := grown_other hown3 hgr4 hPA (by decide)) | skip); (try dsimp only))
                  refine hK.out _ _ ?hs7r20n4q30 (fun hHeld7r20n4q30 => ?ht7r20n4q30)
                  case hs7r20n4q30 => ((try dsimp only); (first | (with_reducible exact hHn) | exact ((hHeld.setCell (by first | exact Nat.le_refl _ | exact hpP) _).setCell (by first | exact Nat.le_refl _ | exact hpP) _).setCell (by first | exact Nat.le_refl _ | exact hpP) _))
                  clear hHeld hK
                  have hHeld := hHeld7r20n4q30
                  clear hHeld7r20n4q30
                  refine wpAnyH_ready (rs := [12]) (by kernel_rfl) (by simp) (AllReadyH.cons rfl (fun K hK => ?hc7r20n4q31) AllReadyH.nil)
                  go_simp
                  (go_at_call 18; refine (HB2.out _ v4 hHeld (HIX.out v4 _ hown4)).mono ?_; rintro e w20 ⟨h20, oa2, oc2, la2, lc2, rfl, ho2, hl2⟩; have hHn : Below w16.heap.size w16 w20 := hHeld.trans (h20.mono hHeld.size); (first | (have hPA := below_push h20 hPA; have f0 := box_frozen hPA 0; have f1 := box_frozen hPA 1; have f2 := box_frozen hPA 2; obtain ⟨y0, y1, y2⟩ := box3_cells hPA) | skip); (try dsimp only))
                  refine hK.out _ _ ?hs7r20n4q31 (fun hHeld7r20n4q31 => ?ht7r20n4q31)
                  case hs7r20n4q31 => ((try dsimp only); (first | (with_reducible exact hHn) | exact ((hHeld.setCell (by first | exact Nat.le_refl _ | exact hpP) _).setCell (by first | exact Nat.le_refl _ | exact hpP) _).setCell (by first | exact Nat.le_refl _ | exact hpP) _))
                  clear hHeld hK
                  have hHeld := hHeld7r20n4q31
                  clear hHeld7r20n4q31
                  refine wpAnyH_take (i := 13) (v := ?v7r20n4q32) rfl (by kernel_rfl) (by kernel_rfl) (by kernel_rfl) (fun _ _ _ h => h) (Or.inl ⟨by kernel_rfl, ?hy7r20n4q32⟩) (by assumption) ?hr7r20n4q32
                  case hy7r20n4q32 => (intro w hSw; (try dsimp only at hSw); skip; first | (go_simp; done) | (go_simp; with_reducible rfl))
                  refine wpAnyH_take (i := 14) (v := ?v7r20n4q33) rfl (by kernel_rfl) (by kernel_rfl) (by kernel_rfl) (fun _ _ _ h => h) (Or.inl ⟨by kernel_rfl, ?hy7r20n4q33⟩) (by assumption) ?hr7r20n4q33
                  case hy7r20n4q33 => (intro w hSw; (try dsimp only at hSw); skip; first | (go_simp; done) | (go_simp; with_reducible rfl))
                  refine wpAnyH_take (i := 15) (v := ?v7r20n4q34) rfl (by kernel_rfl) (by kernel_rfl) (by kernel_rfl) (fun _ _ _ h => h) (Or.inl ⟨by kernel_rfl, ?hy7r20n4q34⟩) (by assumption) ?hr7r20n4q34
                  case hy7r20n4q34 => (intro w hSw; (try dsimp only at hSw); skip; first | (go_simp; done) | (go_simp; with_reducible rfl))
                  refine wpAnyH_ready (rs := [17]) (by kernel_rfl) (by simp) (AllReadyH.cons rfl (fun K hK => ?hc7r20n4q35) AllReadyH.nil)
                  go_simp
                  refine hK.out _ _ ?hs7r20n4q35 (fun hHeld7r20n4q35 => ?ht7r20n4q35)
                  case hs7r20n4q35 => ((try dsimp only); (first | (with_reducible exact hHn) | exact ((hHeld.setCell (by first | exact Nat.le_refl _ | exact hpP) _).setCell (by first | exact Nat.le_refl _ | exact hpP) _).setCell (by first | exact Nat.le_refl _ | exact hpP) _))
                  clear hHeld hK
                  have hHeld := hHeld7r20n4q35
                  clear hHeld7r20n4q35
                  refine wpAnyH_take (i := 18) (v := ?v7r20n4q36) rfl (by kernel_rfl) (by kernel_rfl) (by kernel_rfl) (fun _ _ _ h => h) (Or.inl ⟨by kernel_rfl, ?hy7r20n4q36⟩) (by assumption) ?hr7r20n4q36
                  case hy7r20n4q36 => (intro w hSw; (try dsimp only at hSw); skip; first | (go_simp; done) | (go_simp; with_reducible rfl))
                  refine wpAnyH_done (by kernel_rfl) ?_ _
                  clear hHeld
                  refine NoPanic.normal ?_
              case' hc7r20n4q13 =>
                go_simp
                ((first | refine intro_alloc (fun X19 hBX hPA => ?_) | refine intro_alloc_drew (fun X19 hBX hPA => ?_)); have hHn : Below w16.heap.size w16 X19 := (by first | exact hBX | exact hHeld.trans (hBX.mono hHeld.size)); have hpP := hHeld.size; have f0 := box_frozen hPA 0; have f1 := box_frozen hPA 1; have f2 := box_frozen hPA 2; obtain ⟨y0, y1, y2⟩ := box3_cells hPA; (first | (have hown2 := ownsRow_turned hown2 (Turned.of_below (T := fun _ => False) hBX) (fun _ _ h => h)) | skip); (first | (have hown3 := ownsRow_turned hown3 (Turned.of_below (T := fun _ => False) hBX) (fun _ _ h => h)) | skip); (first | (have hown4 := ownsRow_turned hown4 (Turned.of_below (T := fun _ => False) hBX) (fun _ _ h => h)) | skip))
                refine hK.out _ _ ?hs7r20n4q13 (fun hHeld7r20n4q13 => ?ht7r20n4q13)
                case hs7r20n4q13 => ((try dsimp only); (first | (with_reducible exact hHn) | exact ((hHeld.setCell (by first | exact Nat.le_refl _ | exact hpP) _).setCell (by first | exact Nat.le_refl _ | exact hpP) _).setCell (by first | exact Nat.le_refl _ | exact hpP) _))
                clear hHeld hK
                have hHeld := hHeld7r20n4q13
                clear hHeld7r20n4q13
                refine wpAnyH_ready (rs := [6]) (by kernel_rfl) (by simp) (AllReadyH.cons rfl (fun K hK => ?hc7r20n4q37) AllReadyH.nil)
                (refine step_append_rd _ (by rfl) (.tmp 90) (.tmp 93) (by rfl) slIntsR w16.heap.size _ 0 [] (by rfl) hown2 _ _ _ _ (by rfl) (by exact HSRC1.out _ hHeld) (intsC_one _) (by unfold maxLen; omega) (by omega) (by exact hHeld.size) ?_; intro v3 w3' hown3 hgr3 hat3 hnl3; have hHn : Below w16.heap.size w16 w3' := hHeld.grown hgr3 hHeld.size (fun g hg => (hown2.lt g hg).1); (first | (have hPA := grown_other hown2 hgr3 hPA (by decide)) | skip); (try dsimp only))
                refine hK.out _ _ ?hs7r20n4q37 (fun hHeld7r20n4q37 => ?ht7r20n4q37)
                case hs7r20n4q37 => ((try dsimp only); (first | (with_reducible exact hHn) | exact ((hHeld.setCell (by first | exact Nat.le_refl _ | exact hpP) _).setCell (by first | exact Nat.le_refl _ | exact hpP) _).setCell (by first | exact Nat.le_refl _ | exact hpP) _))
                clear hHeld hK
                have hHeld := hHeld7r20n4q37
                clear hHeld7r20n4q37
                refine wpAnyH_ready (rs := [11]) (by kernel_rfl) (by simp) (AllReadyH.cons rfl (fun K hK => ?hc7r20n4q38) AllReadyH.nil)
                (refine step_append_rd _ (by rfl) (.tmp 94) (.tmp 98) (by rfl) slIntsR w16.heap.size v3 _ _ (by rfl) hown3 _ _ _ _ (by rfl) (by exact HSRC2.out _ hHeld) (intsC_one _) (by unfold maxLen; omega) (by omega) (by exact hHeld.size) ?_; intro v4 w4 hown4 hgr4 hat4 hnl4; have hHn : Below w16.heap.size w16 w4 := hHeld.grown hgr4 hHeld.size (fun g hg => (hown3.lt g hg).1); (first | (have hPA := grown_other hown3 hgr4 hPA (by decide)) | skip); (try dsimp only))
                refine hK.out _ _ ?hs7r20n4q38 (fun hHeld7r20n4q38 => ?ht7r20n4q38)
                case hs7r20n4q38 => ((try dsimp only); (first | (with_reducible exact hHn) | exact ((hHeld.setCell (by first | exact Nat.le_refl _ | exact hpP) _).setCell (by first | exact Nat.le_refl _ | exact hpP) _).setCell (by first | exact Nat.le_refl _ | exact hpP) _))
                clear hHeld hK
                have hHeld := hHeld7r20n4q38
                clear hHeld7r20n4q38
                refine wpAnyH_ready (rs := [12]) (by kernel_rfl) (by simp) (AllReadyH.cons rfl (fun K hK => ?hc7r20n4q39) AllReadyH.nil)
                go_simp
                (go_at_call 18; refine (HB2.out _ v4 hHeld (HIX.out v4 _ hown4)).mono ?_; rintro e w20 ⟨h20, oa2, oc2, la2, lc2, rfl, ho2, hl2⟩; have hHn : Below w16.heap.size w16 w20 := hHeld.trans (h20.mono hHeld.size); (first | (have hPA := below_push h20 hPA; have f0 := box_frozen hPA 0; have f1 := box_frozen hPA 1; have f2 := box_frozen hPA 2; obtain ⟨y0, y1, y2⟩ := box3_cells hPA) | skip); (try dsimp only))
                refine hK.out _ _ ?hs7r20n4q39 (fun hHeld7r20n4q39 => ?ht7r20n4q39)
                case hs7r20n4q39 => ((try dsimp only); (first | (with_reducible exact hHn) | exact ((hHeld.setCell (by first | exact Nat.le_refl _ | exact hpP) _).setCell (by first | exact Nat.le_refl _ | exact hpP) _).setCell (by first | exact Nat.le_refl _ | exact hpP) _))
                clear hHeld hK
                have hHeld := hHeld7r20n4q39
                clear hHeld7r20n4q39
                refine wpAnyH_take (i := 13) (v := ?v7r20n4q40) rfl (by kernel_rfl) (by kernel_rfl) (by kernel_rfl) (fun _ _ _ h => h) (Or.inl ⟨by kernel_rfl, ?hy7r20n4q40⟩) (by assumption) ?hr7r20n4q40
                case hy7r20n4q40 => (intro w hSw; (try dsimp only at hSw); skip; first | (go_simp; done) | (go_simp; with_reducible rfl))
                refine wpAnyH_take (i := 14) (v := ?v7r20n4q41) rfl (by kernel_rfl) (by kernel_rfl) (by kernel_rfl) (fun _ _ _ h => h) (Or.inl ⟨by kernel_rfl, ?hy7r20n4q41⟩) (by assumption) ?hr7r20n4q41
                case hy7r20n4q41 => (intro w hSw; (try dsimp only at hSw); skip; first | (go_simp; done) | (go_simp; with_reducible rfl))
                refine wpAnyH_take (i := 15) (v := ?v7r20n4q42) rfl (by kernel_rfl) (by kernel_rfl) (by kernel_rfl) (fun _ _ _ h => h) (Or.inl ⟨by kernel_rfl, ?hy7r20n4q42⟩) (by assumption) ?hr7r20n4q42
                case hy7r20n4q42 => (intro w hSw; (try dsimp only at hSw); skip; first | (go_simp; done) | (go_simp; with_reducible rfl))
                refine wpAnyH_ready (rs := [17]) (by kernel_rfl) (by simp) (AllReadyH.cons rfl (fun K hK => ?hc7r20n4q43) AllReadyH.nil)
                go_simp
                refine hK.out _ _ ?hs7r20n4q43 (fun hHeld7r20n4q43 => ?ht7r20n4q43)
                case hs7r20n4q43 => ((try dsimp only); (first | (with_reducible exact hHn) | exact ((hHeld.setCell (by first | exact Nat.le_refl _ | exact hpP) _).setCell (by first | exact Nat.le_refl _ | exact hpP) _).setCell (by first | exact Nat.le_refl _ | exact hpP) _))
                clear hHeld hK
                have hHeld := hHeld7r20n4q43
                clear hHeld7r20n4q43
                refine wpAnyH_take (i := 18) (v := ?v7r20n4q44) rfl (by kernel_rfl) (by kernel_rfl) (by kernel_rfl) (fun _ _ _ h => h) (Or.inl ⟨by kernel_rfl, ?hy7r20n4q44⟩) (by assumption) ?hr7r20n4q44
                case hy7r20n4q44 => (intro w hSw; (try dsimp only at hSw); skip; first | (go_simp; done) | (go_simp; with_reducible rfl))
                refine wpAnyH_done (by kernel_rfl) ?_ _
                clear hHeld
                refine NoPanic.normal ?_
            case' hc7r20n4q11 =>
              go_simp
              ((first | refine intro_alloc (fun X19 hBX hPA => ?_) | refine intro_alloc_drew (fun X19 hBX hPA => ?_)); have hHn : Below w16.heap.size w16 X19 := (by first | exact hBX | exact hHeld.trans (hBX.mono hHeld.size)); have hpP := hHeld.size; have f0 := box_frozen hPA 0; have f1 := box_frozen hPA 1; have f2 := box_frozen hPA 2; obtain ⟨y0, y1, y2⟩ := box3_cells hPA; (first | (have hown2 := ownsRow_turned hown2 (Turned.of_below (T := fun _ => False) hBX) (fun _ _ h => h)) | skip); (first | (have hown3 := ownsRow_turned hown3 (Turned.of_below (T := fun _ => False) hBX) (fun _ _ h => h)) | skip); (first | (have hown4 := ownsRow_turned hown4 (Turned.of_below (T := fun _ => False) hBX) (fun _ _ h => h)) | skip))
              refine hK.out _ _ ?hs7r20n4q11 (fun hHeld7r20n4q11 => ?ht7r20n4q11)
              case hs7r20n4q11 => ((try dsimp only); (first | (with_reducible exact hHn) | exact ((hHeld.setCell (by first | exact Nat.le_refl _ | exact hpP) _).setCell (by first | exact Nat.le_refl _ | exact hpP) _).setCell (by first | exact Nat.le_refl _ | exact hpP) _))
              clear hHeld hK
              have hHeld := hHeld7r20n4q11
              clear hHeld7r20n4q11
              refine wpAnyH_ready (rs := [2]) (by kernel_rfl) (by simp) (AllReadyH.cons rfl (fun K hK => ?hc7r20n4q45) AllReadyH.nil)
              go_simp
              ((first | refine intro_alloc (fun X90 hBX hLX => ?_) | refine intro_alloc_drew (fun X90 hBX hLX => ?_)); have hHn : Below w16.heap.size w16 X90 := (by first | exact hBX | exact hHeld.trans (hBX.mono hHeld.size)); have hown2 := lit_own (B := w16.heap.size) (k := 1) hLX (by first | exact Nat.le_refl _ | exact hHeld.size); (first | (have hPA := below_push hBX hPA) | skip))
              refine hK.out _ _ ?hs7r20n4q45 (fun hHeld7r20n4q45 => ?ht7r20n4q45)
              case hs7r20n4q45 => ((try dsimp only); (first | (with_reducible exact hHn) | exact ((hHeld.setCell (by first | exact Nat.le_refl _ | exact hpP) _).setCell (by first | exact Nat.le_refl _ | exact hpP) _).setCell (by first | exact Nat.le_refl _ | exact hpP) _))
              clear hHeld hK
              have hHeld := hHeld7r20n4q45
              clear hHeld7r20n4q45
              refine wpAnyH_ready (rs := [6]) (by kernel_rfl) (by simp) (AllReadyH.cons rfl (fun K hK => ?hc7r20n4q46) AllReadyH.nil)
              (refine step_append_rd _ (by rfl) (.tmp 90) (.tmp 93) (by rfl) slIntsR w16.heap.size _ 0 [] (by rfl) hown2 _ _ _ _ (by rfl) (by exact HSRC1.out _ hHeld) (intsC_one _) (by unfold maxLen; omega) (by omega) (by exact hHeld.size) ?_; intro v3 w3' hown3 hgr3 hat3 hnl3; have hHn : Below w16.heap.size w16 w3' := hHeld.grown hgr3 hHeld.size (fun g hg => (hown2.lt g hg).1); (first | (have hPA := grown_other hown2 hgr3 hPA (by decide)) | skip); (try dsimp only))
              refine hK.out _ _ ?hs7r20n4q46 (fun hHeld7r20n4q46 => ?ht7r20n4q46)
              case hs7r20n4q46 => ((try dsimp only); (first | (with_reducible exact hHn) | exact ((hHeld.setCell (by first | exact Nat.le_refl _ | exact hpP) _).setCell (by first | exact Nat.le_refl _ | exact hpP) _).setCell (by first | exact Nat.le_refl _ | exact hpP) _))
              clear hHeld hK
              have hHeld := hHeld7r20n4q46
              clear hHeld7r20n4q46
              refine wpAnyH_ready (rs := [11]) (by kernel_rfl) (by simp) (AllReadyH.cons rfl (fun K hK => ?hc7r20n4q47) AllReadyH.nil)
              (refine step_append_rd _ (by rfl) (.tmp 94) (.tmp 98) (by rfl) slIntsR w16.heap.size v3 _ _ (by rfl) hown3 _ _ _ _ (by rfl) (by exact HSRC2.out _ hHeld) (intsC_one _) (by unfold maxLen; omega) (by omega) (by exact hHeld.size) ?_; intro v4 w4 hown4 hgr4 hat4 hnl4; have hHn : Below w16.heap.size w16 w4 := hHeld.grown hgr4 hHeld.size (fun g hg => (hown3.lt g hg).1); (first | (have hPA := grown_other hown3 hgr4 hPA (by decide)) | skip); (try dsimp only))
              refine hK.out _ _ ?hs7r20n4q47 (fun hHeld7r20n4q47 => ?ht7r20n4q47)
              case hs7r20n4q47 => ((try dsimp only); (first | (with_reducible exact hHn) | exact ((hHeld.setCell (by first | exact Nat.le_refl _ | exact hpP) _).setCell (by first | exact Nat.le_refl _ | exact hpP) _).setCell (by first | exact Nat.le_refl _ | exact hpP) _))
              clear hHeld hK
              have hHeld := hHeld7r20n4q47
              clear hHeld7r20n4q47
              refine wpAnyH_ready (rs := [12]) (by kernel_rfl) (by simp) (AllReadyH.cons rfl (fun K hK => ?hc7r20n4q48) AllReadyH.nil)
              go_simp
              (go_at_call 18; refine (HB2.out _ v4 hHeld (HIX.out v4 _ hown4)).mono ?_; rintro e w20 ⟨h20, oa2, oc2, la2, lc2, rfl, ho2, hl2⟩; have hHn : Below w16.heap.size w16 w20 := hHeld.trans (h20.mono hHeld.size); (first | (have hPA := below_push h20 hPA; have f0 := box_frozen hPA 0; have f1 := box_frozen hPA 1; have f2 := box_frozen hPA 2; obtain ⟨y0, y1, y2⟩ := box3_cells hPA) | skip); (try dsimp only))
              refine hK.out _ _ ?hs7r20n4q48 (fun hHeld7r20n4q48 => ?ht7r20n4q48)
              case hs7r20n4q48 => ((try dsimp only); (first | (with_reducible exact hHn) | exact ((hHeld.setCell (by first | exact Nat.le_refl _ | exact hpP) _).setCell (by first | exact Nat.le_refl _ | exact hpP) _).setCell (by first | exact Nat.le_refl _ | exact hpP) _))
              clear hHeld hK
              have hHeld := hHeld7r20n4q48
              clear hHeld7r20n4q48
              refine wpAnyH_take (i := 13) (v := ?v7r20n4q49) rfl (by kernel_rfl) (by kernel_rfl) (by kernel_rfl) (fun _ _ _ h => h) (Or.inl ⟨by kernel_rfl, ?hy7r20n4q49⟩) (by assumption) ?hr7r20n4q49
              case hy7r20n4q49 => (intro w hSw; (try dsimp only at hSw); skip; first | (go_simp; done) | (go_simp; with_reducible rfl))
              refine wpAnyH_take (i := 14) (v := ?v7r20n4q50) rfl (by kernel_rfl) (by kernel_rfl) (by kernel_rfl) (fun _ _ _ h => h) (Or.inl ⟨by kernel_rfl, ?hy7r20n4q50⟩) (by assumption) ?hr7r20n4q50
              case hy7r20n4q50 => (intro w hSw; (try dsimp only at hSw); skip; first | (go_simp; done) | (go_simp; with_reducible rfl))
              refine wpAnyH_take (i := 15) (v := ?v7r20n4q51) rfl (by kernel_rfl) (by kernel_rfl) (by kernel_rfl) (fun _ _ _ h => h) (Or.inl ⟨by kernel_rfl, ?hy7r20n4q51⟩) (by assumption) ?hr7r20n4q51
              case hy7r20n4q51 => (intro w hSw; (try dsimp only at hSw); skip; first | (go_simp; done) | (go_simp; with_reducible rfl))
              refine wpAnyH_ready (rs := [17]) (by kernel_rfl) (by simp) (AllReadyH.cons rfl (fun K hK => ?hc7r20n4q52) AllReadyH.nil)
              go_simp
              refine hK.out _ _ ?hs7r20n4q52 (fun hHeld7r20n4q52 => ?ht7r20n4q52)
              case hs7r20n4q52 => ((try dsimp only); (first | (with_reducible exact hHn) | exact ((hHeld.setCell (by first | exact Nat.le_refl _ | exact hpP) _).setCell (by first | exact Nat.le_refl _ | exact hpP) _).setCell (by first | exact Nat.le_refl _ | exact hpP) _))
              clear hHeld hK
              have hHeld := hHeld7r20n4q52
              clear hHeld7r20n4q52
              refine wpAnyH_take (i := 18) (v := ?v7r20n4q53) rfl (by kernel_rfl) (by kernel_rfl) (by kernel_rfl) (fun _ _ _ h => h) (Or.inl ⟨by kernel_rfl, ?hy7r20n4q53⟩) (by assumption) ?hr7r20n4q53
              case hy7r20n4q53 => (intro w hSw; (try dsimp only at hSw); skip; first | (go_simp; done) | (go_simp; with_reducible rfl))
              refine wpAnyH_done (by kernel_rfl) ?_ _
              clear hHeld
              refine NoPanic.normal ?_
            all_goals
              dsimp only [Exit.then]
              refine hMK _ _ ⟨rfl, rfl, by kernel_rfl, by kernel_rfl, ((hHn.setCell (by first | exact Nat.le_refl _ | exact hpP) _).setCell (by first | exact Nat.le_refl _ | exact hpP) _).setCell (by first | exact Nat.le_refl _ | exact hpP) _, _, _, _, ?_, heap_set (heap_set (heap_set hPA 0 _) 1 _) 2 _⟩
              kernel_rfl
        rintro ⟨tm5, ds5⟩ W21 ⟨h115, hds, e12, e20, hbW, p2, x2, y2, e19, hq2⟩
        simp only at h115 hds e12 e20 e19
        subst hds
        apply_assumption
        rw [frame115 tm5 [] h115, e12, e20, e19]
        clear h115 e12 e20 e19 hsrc2 HSRC1 HB2 HIX hlit
        obtain ⟨c1, c2, c3⟩ := box3_cells hq2
        obtain ⟨d1, d2, d3⟩ := box3_cells ((hbW.block _ (lt_of_block (HPW.out _ hk16))).trans (HPW.out _ hk16))
        have hb21 := hbx0.trans (hbW.mono hbx0.size)
        go_wp2_with (first
          | (go_at_call 14; refine (lives_any _).mono ?_; rintro e w17 ⟨rfl, h17⟩)
          | fail)
        go_ret
        exact ⟨rfl, hb21.trans (h17.mono hb21.size)⟩
end Go.Proofs.Ytfljgcpfmhhgcaa
