/- Contract: the reference's first: the lexicographically first one of the orders with the fewest steps that begin with some elements. -/
import Derived.Test.YtfljgcpfmhhgcaaRdJ
import Derived.Test.YtfljgcpfmhhgcaaRdFp
import Derived.Test.YtfljgcpfmhhgcaaRdSt
namespace Go.Proofs.Ytfljgcpfmhhgcaa
open Go.RowKit Go.Lab
attribute [local go_sem] Oper.semAt_some
set_option maxRecDepth 100000
theorem range_map66 (f : Nat → Value) : (List.range 66).map f = [f 0, f 1, f 2, f 3, f 4, f 5, f 6, f 7, f 8, f 9, f 10, f 11, f 12, f 13, f 14, f 15, f 16, f 17, f 18, f 19, f 20, f 21, f 22, f 23, f 24, f 25, f 26, f 27, f 28, f 29, f 30, f 31, f 32, f 33, f 34, f 35, f 36, f 37, f 38, f 39, f 40, f 41, f 42, f 43, f 44, f 45, f 46, f 47, f 48, f 49, f 50, f 51, f 52, f 53, f 54, f 55, f 56, f 57, f 58, f 59, f 60, f 61, f 62, f 63, f 64, f 65] := rfl
theorem frame66 (t : Array Value) (ds : List Deferred) (h : t.size = 66) : ({ tmps := t, defers := ds } : Act) = { tmps := #[slot t 0, slot t 1, slot t 2, slot t 3, slot t 4, slot t 5, slot t 6, slot t 7, slot t 8, slot t 9, slot t 10, slot t 11, slot t 12, slot t 13, slot t 14, slot t 15, slot t 16, slot t 17, slot t 18, slot t 19, slot t 20, slot t 21, slot t 22, slot t 23, slot t 24, slot t 25, slot t 26, slot t 27, slot t 28, slot t 29, slot t 30, slot t 31, slot t 32, slot t 33, slot t 34, slot t 35, slot t 36, slot t 37, slot t 38, slot t 39, slot t 40, slot t 41, slot t 42, slot t 43, slot t 44, slot t 45, slot t 46, slot t 47, slot t 48, slot t 49, slot t 50, slot t 51, slot t 52, slot t 53, slot t 54, slot t 55, slot t 56, slot t 57, slot t 58, slot t 59, slot t 60, slot t 61, slot t 62, slot t 63, slot t 64, slot t 65], defers := ds } := by
  have e : t = ((List.range 66).map (slot t)).toArray := by
    apply Array.ext
    · simp [h]
    · intro i h1 h2
      simp [slot, Array.getD, h1]
  rw [range_map66] at e
  exact congrArg (fun x => ({ tmps := x, defers := ds } : Act)) e
theorem rd_block {X : World} {g : Nat} {e : TypeId} {u : Value} (hX : X.heap[g]? = some (.cells #[u] e)) : Rd X (· = e) 1 (.slice (some ⟨g, 0, none⟩) 1 1) 1 [u] := by
  refine ⟨rfl, _, _, rfl, Nat.le_refl _, by decide, (fun e => by cases e), fun ad e _ => ?_⟩
  injection e with e
  subst e
  refine ⟨rfl, _, _, _, rfl, hX, fun j v hv => ?_⟩
  cases j with
  | zero => simpa using hv
  | succ j => simp at hv
def FirstR (w : World) (way : Int) (pl : List Pl) (need : List Int) (steps : Int) (pre : List Nat) (s : Nat) (f : Pl) : Ending → World → Prop := fun e w' =>
  Below w.heap.size w w' ∧ (stepsN way (needL pl need) pl0 pre + restV way (needL pl need) s f = steps → ∃ v, e = .returned (.tuple #[v, .bool true]) ∧ IntsOf (· = 3) w' v (ndOf need (pre ++ orderV way (needL pl need) s f))) ∧
  (¬ stepsN way (needL pl need) pl0 pre + restV way (needL pl need) s f = steps → e = .returned (.tuple #[.slice none 0 0, .bool false]))
/-- What the loop over the elements knows. -/
def FiI (w : World) (way : Int) (pl : List Pl) (need : List Int) (steps : Int) (pre : List Nat) (s : Nat) (f : Pl) (s12 : Value) (wr : World) : Prop :=
  ∃ i : Nat, i ≤ need.length ∧ s12 = .int .i64 (i : Nat) ∧ (∀ k, k < i → k ∉ pre → ¬ stepsN way (needL pl need) pl0 pre + (costZ way f (lp (needL pl need) k) + restV way (needL pl need) (s - 2 ^ k) (lp (needL pl need) k)) = steps) ∧ Below w.heap.size w wr
def FiM (wr : World) (x0 x1 x2 x3 x4 x12 : Value) (l : List Int) (a : Act) (W : World) : Prop :=
  a.tmps.size = 66 ∧ a.defers = [] ∧ slot a.tmps 0 = x0 ∧ slot a.tmps 1 = x1 ∧ slot a.tmps 2 = x2 ∧ slot a.tmps 3 = x3 ∧ slot a.tmps 4 = x4 ∧ slot a.tmps 12 = x12 ∧ Below wr.heap.size wr W ∧ ∃ v, slot a.tmps 13 = v ∧ IntsOf (· = 3) W v l
set_option maxRecDepth 100000 in
set_option maxHeartbeats 20000000 in
theorem first_step (way : Int) (pl : List Pl) (need : List Int) (pv nv : Value) (m : Nat) (steps : Int) (hok : ∀ p ∈ pl, PlOk p) (hneed : NeedOk pl need) (hpw : need.Pairwise (· < ·)) (hnr : ∀ x ∈ need, -9223372036854775808 ≤ x ∧ x ≤ 9223372036854775807)
    (IH : ∀ (pre : List Nat) (s : Nat) (f : Pl) (bv : Value) (w : World), Begun pl need pre s f → need.length - pre.length < m → steps ≤ stepsN way (needL pl need) pl0 pre + restV way (needL pl need) s f → PlacesAt w pv pl → IntsAt w nv need → IntsOf (· = 3) w bv (ndOf need pre) →
      Calls Try.prog 43 #[.int .i64 way, pv, nv, bv, .int .i64 steps] w (FirstR w way pl need steps pre s f))
    (pre : List Nat) (s : Nat) (f : Pl) (bv : Value) (w : World) (hB : Begun pl need pre s f) (hm : need.length - pre.length ≤ m) (hle : steps ≤ stepsN way (needL pl need) pl0 pre + restV way (needL pl need) s f) (hp : PlacesAt w pv pl) (hn : IntsAt w nv need) (hbv : IntsOf (· = 3) w bv (ndOf need pre)) :
    Calls Try.prog 43 #[.int .i64 way, pv, nv, bv, .int .i64 steps] w (FirstR w way pl need steps pre s f) := by
  obtain ⟨a, c, rfl, hca, hma⟩ := hp.form
  obtain ⟨b, d, rfl, hcb, hmb⟩ := hn.1.form
  obtain ⟨ba, bc, rfl, hcc, hmc⟩ := hbv.1.form
  have hn8 := hneed.1
  have hndl : (ndOf need pre).length = pre.length := by simp [ndOf]
  rw [hndl] at hbv hcc ⊢
  have hpl := hB.len
  have hmem : ∀ x ∈ ndOf need pre, 0 ≤ x ∧ x < (pl.length : Int) := fun x hx => by
    obtain ⟨k, hk, rfl⟩ := List.mem_map.1 hx
    have hkl := hB.2.2.2.1 k hk
    have : need.getD k 0 = need[k] := by simp [List.getD, hkl]
    rw [this]
    exact hneed.2 _ (List.getElem_mem hkl)
  have hbv2 : IntsOf (· = 3) w (.slice ba pre.length bc) (ndOf need pre) := hbv
  have hst : stepsZ way pl (ndOf need pre) = stepsN way (needL pl need) pl0 pre := by
    unfold stepsZ
    exact stepsGo_ndOf way pl need pre pl0 (fun k hk => hB.2.2.2.1 k hk)
  have HSTP := hidep (fun W (hW : Below w.heap.size w W) => steps30_any way pl (ndOf need pre) _ (.slice ba pre.length bc) hok hmem (by rw [hndl]; omega) W (hp.below hW) (hbv2.at.below hW))
  rw [hst] at HSTP
  have hrest := restV_nonneg (way := way) (needL_ok (need := need) hok) s f (hB.fok hok) (by rw [needL_len]; exact hB.2.1)
  have HP := hidep hp
  have HN := hidep hn
  have HBV := hidep hbv2
  have HOK := hidep hok
  have HPW := hidep hpw
  have HBG := hidep hB
  have HNEED := hidep hneed
  have HNR := hidep hnr
  have HIH := hidep IH
  obtain ⟨cst_, hcst⟩ : ∃ z, z = stepsN way (needL pl need) pl0 pre := ⟨_, rfl⟩
  obtain ⟨rst, hrst⟩ : ∃ z, z = restV way (needL pl need) s f := ⟨_, rfl⟩
  rw [← hcst] at HSTP
  have HCST := hidep hcst
  have HRST := hidep hrst
  rw [← hcst, ← hrst] at hle
  rw [← hrst] at hrest
  clear IH hok hp hn hbv hbv2 hB hneed hpw hmem hst hcst hrst hndl hnr
  go_enter Try.func43, Try.ntmps43
  by_cases hgt : steps < cst_
  · go_wp2_with (first
      | (go_at_call 26; refine (HSTP.out _ (Below.refl _ _)).mono ?_; rintro e w1 ⟨rfl, hb1⟩)
      | fail)
    go_ret2
    exact ⟨hb1, fun h => by rw [← HCST.out, ← HRST.out] at h; omega, fun _ => rfl⟩
  · by_cases hfull : pre.length = need.length
    · have hs0 := HBG.out.full hfull
      have hr0 : Hid (rst = 0 ∧ orderV way (needL pl need) s f = []) := hidep (by
        refine ⟨?_, ?_⟩
        · rw [HRST.out, hs0, restV_zero]
        · rw [hs0, orderV_zero])
      have hfi : ((pre.length : Int) == (need.length : Int)) = true := by rw [hfull]; simp
      have hcs : (cst_ == steps) = true := by
        have := hr0.out.1
        have : cst_ = steps := by omega
        simp [this]
      clear hs0 hfull
      go_wp2_with (first
        | (go_at_call 26; (with_reducible refine (HSTP.out _ (Below.refl _ _)).mono ?_); rintro e w1 ⟨rfl, hb1⟩)
        | (go_at_call 26; refine (HSTP.out _ hb1).mono ?_; rintro e w2 ⟨rfl, hb2⟩)
        | fail)
      go_ret2
      have hb12 := hb1.trans (hb2.mono hb1.size)
      refine ⟨hb12, fun h => ⟨_, rfl, ?_⟩, fun h => absurd ?_ h⟩
      · rw [hr0.out.2, List.append_nil]
        exact HBV.out.keeps (Keeps.below _ hb12)
      · rw [← HCST.out, ← HRST.out]
        have := hr0.out.1
        have h2 : cst_ = steps := by simpa using hcs
        omega
    · have hfi : ((pre.length : Int) == (need.length : Int)) = false := beq_false_of_ne (by omega)
      have HS0 := hidep (HBG.out.left hfull)
      have hlt0 : pre.length < need.length := by omega
      clear hfull
      go_upto_region 6 with (first
        | (go_at_call 26; refine (HSTP.out _ (Below.refl _ _)).mono ?_; rintro e w1 ⟨rfl, hb1⟩)
        | fail)
      have HB1 := hidep hb1
      clear hb1 HSTP
      refine wp_loop (LoopI 66 (fun tm ds wr => (slot tm 0) = .int .i64 way ∧ (slot tm 1) = .slice a pl.length c ∧ (slot tm 2) = .slice b need.length d ∧ (slot tm 3) = .slice ba pre.length bc ∧ (slot tm 4) = .int .i64 steps ∧ ds = [] ∧ FiI w way pl need steps pre s f (slot tm 12) wr)) (fun a' wr => need.length - (intOf (a'.tmps.getD 12 undef)).toNat) ?mainStart ?mainRound
      case' mainStart => refine LoopI.mk rfl ?_
      case' mainRound => (rintro ⟨t, ds⟩ wr ⟨hts, hrel⟩; dsimp only at hts hrel; rw [frame66 t ds hts])
      case mainStart => exact ⟨rfl, rfl, rfl, rfl, rfl, rfl, 0, Nat.zero_le _, rfl, fun _ h => absurd h (Nat.not_lt_zero _), HB1.out⟩
      obtain ⟨h0, h1, h2, h3, h4, hds, i, hi, h12, hno, hbw⟩ := hrel
      subst hds
      rw [h0, h1, h2, h3, h4, h12]
      clear h0 h1 h2 h3 h4 h12 hts
      have HNO := hidep hno
      have HBW := hidep hbw
      clear hno hbw
      by_cases hlt : i < need.length
      · have hi0 : (0 : Int) ≤ (i : Int) := by omega
        have hi1 : (i : Int) < (need.length : Int) := by omega
        obtain ⟨nb, no, rfl, hnbl, hnc⟩ := ints_get (HN.out.below HBW.out) hlt
        have hhas := has_nd HPW.out HBG.out.2.2.2.1 hlt
        have HH := hidep (has30_any (.slice ba pre.length bc) (ndOf need pre) need[i] wr (HBV.out.at.below HBW.out))
        rw [hhas] at HH
        have hgi : need.getD i 0 = need[i] := by simp [List.getD, hlt]
        have HND := hidep (show ndOf need (pre ++ [i]) = ndOf need pre ++ [need[i]] from by rw [nd_snoc, hgi])
        have hxr : -9223372036854775808 ≤ need[i] ∧ need[i] ≤ 9223372036854775807 := HNR.out _ (List.getElem_mem hlt)
        generalize need[i] = x at *
        clear hhas hgi
        by_cases hip : i ∈ pre
        · have HN2 := hidep (show ∀ k, k < i + 1 → k ∉ pre → ¬ stepsN way (needL pl need) pl0 pre + (costZ way f (lp (needL pl need) k) + restV way (needL pl need) (s - 2 ^ k) (lp (needL pl need) k)) = steps from fun k hk hkp => by
            by_cases hki : k = i
            · exact absurd (hki ▸ hip) hkp
            · exact HNO.out k (by omega) hkp)
          rw [decide_eq_true hip] at HH
          clear hip HNO
          go_wp2_with (first
            | (go_at_call 51; refine HH.out.mono ?_; rintro e w2 ⟨rfl, rfl⟩)
            | fail)
          refine ⟨LoopI.mk rfl ⟨rfl, rfl, rfl, rfl, rfl, rfl, i + 1, by omega, by show Value.int _ _ = _; go_num, HN2.out, HBW.out⟩, ?_⟩
          show need.length - _ < need.length - _
          simp [intOf]; omega
        · rw [decide_eq_false hip] at HH
          have HIP := hidep hip
          clear hip
          go_upto_region 10 with (first
            | (go_at_call 51; refine HH.out.mono ?_; rintro e w2 ⟨rfl, rfl⟩)
            | fail)
          have HNC := hidep (show ∀ X, Below wr.heap.size wr X → X.cell? ⟨nb, no + i, none⟩ = some (.int .i64 x) from fun X hX => (hX.cell hnbl).trans hnc)
          have HBV2 := hidep (show ∀ X, Below wr.heap.size wr X → Rd X (fun _ => True) 1 (.slice ba pre.length bc) pre.length (intsC (ndOf need pre)) from fun X hX => by
            have h := ((HBV.out.at.below HBW.out).below hX).1
            have e : (ndOf need pre).length = pre.length := by simp [ndOf]
            rw [e] at h
            exact h)
          have HIX := hidep (show ∀ (v : Value) (W : World), W.ownsRow wr.heap.size 3 1 v (0 + pre.length + 1) ([] ++ intsC (ndOf need pre) ++ [.int .i64 x]) → IntsOf (· = 3) W v (ndOf need (pre ++ [i])) from fun v W hW => by
            rw [HND.out]
            refine ⟨?_, fun y hy => ?_⟩
            · have e : (ndOf need pre ++ [x]).length = 0 + pre.length + 1 := by simp [ndOf]
              rw [e, intsC_snoc']
              exact Rd.of_own hW
            · rcases List.mem_append.1 hy with h | h
              · exact HBV.out.2 y h
              · simp only [List.mem_singleton] at h
                rw [h]
                exact hxr)
          clear hnc hnbl HH
          refine wp_join (FiM wr (.int .i64 way) (.slice a pl.length c) (.slice (some ⟨nb, no, none⟩) need.length d) (.slice ba pre.length bc) (.int .i64 steps) (.int .i64 (i : Nat)) (ndOf need (pre ++ [i]))) ?first ?_
          case first =>
            intro K' hMK
            refine wp_region_noPanic (wp_region_held_drew (S := (fun X => Below wr.heap.size wr X)) (by kernel_rfl) ?hS43r10n0 (fun hHeld => ?hR43r10n0))
            case hS43r10n0 => ((try dsimp only); (exact (Below.refl _ _).drew))
            refine wpAnyH_take (i := 0) (v := ?v43r10n0q1) rfl (by kernel_rfl) (by kernel_rfl) (by kernel_rfl) (fun _ _ _ h => h) (Or.inl ⟨by kernel_rfl, ?hy43r10n0q1⟩) (by assumption) ?hr43r10n0q1
            case hy43r10n0q1 => (intro w hSw; (try dsimp only at hSw); (have c1 := HNC.out w hSw); first | (go_simp; done) | (go_simp; with_reducible rfl))
            refine wpAnyH_take (i := 1) (v := ?v43r10n0q2) rfl (by kernel_rfl) (by kernel_rfl) (by kernel_rfl) (fun _ _ _ h => h) (Or.inl ⟨by kernel_rfl, ?hy43r10n0q2⟩) (by assumption) ?hr43r10n0q2
            case hy43r10n0q2 => (intro w hSw; (try dsimp only at hSw); (have c1 := HNC.out w hSw); first | (go_simp; done) | (go_simp; with_reducible rfl))
            refine wpAnyH_take (i := 3) (v := ?v43r10n0q3) rfl (by kernel_rfl) (by kernel_rfl) (by kernel_rfl) (fun _ _ _ h => h) (Or.inl ⟨by kernel_rfl, ?hy43r10n0q3⟩) (by assumption) ?hr43r10n0q3
            case hy43r10n0q3 => (intro w hSw; (try dsimp only at hSw); (have c1 := HNC.out w hSw); first | (go_simp; done) | (go_simp; with_reducible rfl))
            refine wpAnyH_take (i := 4) (v := ?v43r10n0q4) rfl (by kernel_rfl) (by kernel_rfl) (by kernel_rfl) (fun _ _ _ h => h) (Or.inl ⟨by kernel_rfl, ?hy43r10n0q4⟩) (by assumption) ?hr43r10n0q4
            case hy43r10n0q4 => (intro w hSw; (try dsimp only at hSw); (have c1 := HNC.out w hSw); first | (go_simp; done) | (go_simp; with_reducible rfl))
            refine wpAnyH_take (i := 5) (v := ?v43r10n0q5) rfl (by kernel_rfl) (by kernel_rfl) (by kernel_rfl) (fun _ _ _ h => h) (Or.inl ⟨by kernel_rfl, ?hy43r10n0q5⟩) (by assumption) ?hr43r10n0q5
            case hy43r10n0q5 => (intro w hSw; (try dsimp only at hSw); (have c1 := HNC.out w hSw); first | (go_simp; done) | (go_simp; with_reducible rfl))
            refine wpAnyH_take (i := 6) (v := ?v43r10n0q6) rfl (by kernel_rfl) (by kernel_rfl) (by kernel_rfl) (fun _ _ _ h => h) (Or.inl ⟨by kernel_rfl, ?hy43r10n0q6⟩) (by assumption) ?hr43r10n0q6
            case hy43r10n0q6 => (intro w hSw; (try dsimp only at hSw); (have c1 := HNC.out w hSw); first | (go_simp; done) | (go_simp; with_reducible rfl))
            refine wpAnyH_ready (rs := [2, 7]) (by kernel_rfl) (by simp) (AllReadyH.cons rfl (fun K hK => ?hc43r10n0q7) (AllReadyH.cons rfl (fun K hK => ?hc43r10n0q8) AllReadyH.nil))
            case' hc43r10n0q7 =>
              (refine step_append_rd _ (by rfl) (.tmp 46) (.tmp 47) (by rfl) slIntsR wr.heap.size (.slice none 0 0) 0 [] (by rfl) (World.ownsRow_nil _ _ _ _) _ _ _ _ (by rfl) (by exact HBV2.out _ hHeld) (intsC_one _) (by unfold maxLen; omega) (by omega) (by exact hHeld.size) ?_; intro v3 w3' hown3 hgr3 hat3 hnl3; have hHn : Below wr.heap.size wr w3' := hHeld.grown hgr3 hHeld.size (fun g hg => by cases hg); (first | (have hLX := (hgr3.block _ (lt_of_block hLX) (fun e => by cases e)).trans hLX) | skip); (try dsimp only))
              refine hK.out _ _ ?hs43r10n0q7 (fun hHeld43r10n0q7 => ?ht43r10n0q7)
              case hs43r10n0q7 => ((try dsimp only); (exact hHn))
              clear hHeld hK
              have hHeld := hHeld43r10n0q7
              clear hHeld43r10n0q7
              refine wpAnyH_ready (rs := [7]) (by kernel_rfl) (by simp) (AllReadyH.cons rfl (fun K hK => ?hc43r10n0q9) AllReadyH.nil)
              go_simp
              ((first | refine intro_alloc (fun X53 hBX hLX => ?_) | refine intro_alloc_drew (fun X53 hBX hLX => ?_)); have hHn : Below wr.heap.size wr X53 := (by first | exact hBX | exact hHeld.trans (hBX.mono hHeld.size)); (first | (have hown3 := ownsRow_turned hown3 (Turned.of_below (T := fun _ => False) hBX) (fun _ _ h => h)) | skip))
              refine hK.out _ _ ?hs43r10n0q9 (fun hHeld43r10n0q9 => ?ht43r10n0q9)
              case hs43r10n0q9 => ((try dsimp only); (exact hHn))
              clear hHeld hK
              have hHeld := hHeld43r10n0q9
              clear hHeld43r10n0q9
              refine wpAnyH_ready (rs := [8]) (by kernel_rfl) (by simp) (AllReadyH.cons rfl (fun K hK => ?hc43r10n0q10) AllReadyH.nil)
              (refine step_append_rd _ (by rfl) (.tmp 48) (.tmp 53) (by rfl) slIntsR wr.heap.size v3 _ _ (by rfl) hown3 _ _ _ _ (by rfl) (rd_block hLX) (by intro u hu; simp at hu; rw [hu]; rfl) (by unfold maxLen; omega) (by omega) (by exact hHeld.size) ?_; intro v4 w4 hown4 hgr4 hat4 hnl4; have hHn : Below wr.heap.size wr w4 := hHeld.grown hgr4 hHeld.size (fun g hg => (hown3.lt g hg).1); (try dsimp only))
              refine hK.out _ _ ?hs43r10n0q10 (fun hHeld43r10n0q10 => ?ht43r10n0q10)
              case hs43r10n0q10 => ((try dsimp only); (exact hHn))
              clear hHeld hK
              have hHeld := hHeld43r10n0q10
              clear hHeld43r10n0q10
              refine wpAnyH_take (i := 9) (v := ?v43r10n0q11) rfl (by kernel_rfl) (by kernel_rfl) (by kernel_rfl) (fun _ _ _ h => h) (Or.inl ⟨by kernel_rfl, ?hy43r10n0q11⟩) (by assumption) ?hr43r10n0q11
              case hy43r10n0q11 => (intro w hSw; (try dsimp only at hSw); (have c1 := HNC.out w hSw); first | (go_simp; done) | (go_simp; with_reducible rfl))
              refine wpAnyH_done (by kernel_rfl) ?_ _
              clear hHeld
              refine NoPanic.normal ?_
            case' hc43r10n0q8 =>
              go_simp
              ((first | refine intro_alloc (fun X53 hBX hLX => ?_) | refine intro_alloc_drew (fun X53 hBX hLX => ?_)); have hHn : Below wr.heap.size wr X53 := (by first | exact hBX | exact hHeld.trans (hBX.mono hHeld.size)); (first | (have hown3 := ownsRow_turned hown3 (Turned.of_below (T := fun _ => False) hBX) (fun _ _ h => h)) | skip))
              refine hK.out _ _ ?hs43r10n0q8 (fun hHeld43r10n0q8 => ?ht43r10n0q8)
              case hs43r10n0q8 => ((try dsimp only); (exact hHn))
              clear hHeld hK
              have hHeld := hHeld43r10n0q8
              clear hHeld43r10n0q8
              refine wpAnyH_ready (rs := [2]) (by kernel_rfl) (by simp) (AllReadyH.cons rfl (fun K hK => ?hc43r10n0q12) AllReadyH.nil)
              (refine step_append_rd _ (by rfl) (.tmp 46) (.tmp 47) (by rfl) slIntsR wr.heap.size (.slice none 0 0) 0 [] (by rfl) (World.ownsRow_nil _ _ _ _) _ _ _ _ (by rfl) (by exact HBV2.out _ hHeld) (intsC_one _) (by unfold maxLen; omega) (by omega) (by exact hHeld.size) ?_; intro v3 w3' hown3 hgr3 hat3 hnl3; have hHn : Below wr.heap.size wr w3' := hHeld.grown hgr3 hHeld.size (fun g hg => by cases hg); (first | (have hLX := (hgr3.block _ (lt_of_block hLX) (fun e => by cases e)).trans hLX) | skip); (try dsimp only))
              refine hK.out _ _ ?hs43r10n0q12 (fun hHeld43r10n0q12 => ?ht43r10n0q12)
              case hs43r10n0q12 => ((try dsimp only); (exact hHn))
              clear hHeld hK
              have hHeld := hHeld43r10n0q12
              clear hHeld43r10n0q12
              refine wpAnyH_ready (rs := [8]) (by kernel_rfl) (by simp) (AllReadyH.cons rfl (fun K hK => ?hc43r10n0q13) AllReadyH.nil)
              (refine step_append_rd _ (by rfl) (.tmp 48) (.tmp 53) (by rfl) slIntsR wr.heap.size v3 _ _ (by rfl) hown3 _ _ _ _ (by rfl) (rd_block hLX) (by intro u hu; simp at hu; rw [hu]; rfl) (by unfold maxLen; omega) (by omega) (by exact hHeld.size) ?_; intro v4 w4 hown4 hgr4 hat4 hnl4; have hHn : Below wr.heap.size wr w4 := hHeld.grown hgr4 hHeld.size (fun g hg => (hown3.lt g hg).1); (try dsimp only))
              refine hK.out _ _ ?hs43r10n0q13 (fun hHeld43r10n0q13 => ?ht43r10n0q13)
              case hs43r10n0q13 => ((try dsimp only); (exact hHn))
              clear hHeld hK
              have hHeld := hHeld43r10n0q13
              clear hHeld43r10n0q13
              refine wpAnyH_take (i := 9) (v := ?v43r10n0q14) rfl (by kernel_rfl) (by kernel_rfl) (by kernel_rfl) (fun _ _ _ h => h) (Or.inl ⟨by kernel_rfl, ?hy43r10n0q14⟩) (by assumption) ?hr43r10n0q14
              case hy43r10n0q14 => (intro w hSw; (try dsimp only at hSw); (have c1 := HNC.out w hSw); first | (go_simp; done) | (go_simp; with_reducible rfl))
              refine wpAnyH_done (by kernel_rfl) ?_ _
              clear hHeld
              refine NoPanic.normal ?_
            all_goals
              dsimp only [Exit.then]
              refine hMK _ _ ⟨rfl, rfl, by kernel_rfl, by kernel_rfl, by kernel_rfl, by kernel_rfl, by kernel_rfl, by kernel_rfl, hHn, v4, by kernel_rfl, HIX.out v4 _ hown4⟩
          rintro ⟨tm1, ds1⟩ W10 ⟨h66, hds, e0, e1, e2, e3, e4, e12, hbW, v10, e13, hv10⟩
          simp only at h66 hds e0 e1 e2 e3 e4 e12 e13
          subst hds
          apply_assumption
          rw [frame66 tm1 [] h66, e0, e1, e2, e3, e4, e12, e13]
          clear h66 e0 e1 e2 e3 e4 e12 e13
          have hb0 := HBW.out.trans (hbW.mono HBW.out.size)
          have hBm := HBG.out.more hn8 hlt HIP.out
          have hstm := HBG.out.steps (way := way) i
          have hrm := HBG.out.rest (way := way) HOK.out hlt HIP.out
          have hcall := HIH.out (pre ++ [i]) (s - 2 ^ i) (lp (needL pl need) i) v10 W10 hBm (by simp only [List.length_append, List.length_singleton]; omega) (by
            rw [hstm, ← HCST.out]
            rw [← HRST.out] at hrm
            omega) (HP.out.below hb0) (HN.out.below hb0) hv10
          obtain ⟨va, vc, rfl, hvc, hvm⟩ := hv10.1.form
          have hndl2 : (ndOf need (pre ++ [i])).length = pre.length + 1 := by simp [ndOf]
          rw [hndl2] at hcall hvc ⊢
          by_cases hq : stepsN way (needL pl need) pl0 (pre ++ [i]) + restV way (needL pl need) (s - 2 ^ i) (lp (needL pl need) i) = steps
          · have hyes : Hid (cst_ + rst = steps ∧ orderV way (needL pl need) s f = i :: orderV way (needL pl need) (s - 2 ^ i) (lp (needL pl need) i)) := hidep (by
              rw [hstm, ← HCST.out] at hq
              rw [← HRST.out] at hrm
              have h1 : cst_ + rst = steps := by omega
              refine ⟨h1, HBG.out.first hlt HIP.out (fun k hk hkp h => HNO.out k hk hkp ?_) ?_⟩
              · rw [h, ← HCST.out, ← HRST.out]
                exact h1
              · rw [← HRST.out]
                omega)
            have HC := hidep (hcall.mono (fun e w' (h : FirstR W10 way pl need steps (pre ++ [i]) (s - 2 ^ i) (lp (needL pl need) i) e w') => (show Below W10.heap.size W10 w' ∧ ∃ (oa : Option Addr) (ol oc : Nat), e = .returned (.tuple #[.slice oa ol oc, .bool true]) ∧ IntsOf (· = 3) w' (.slice oa ol oc) (ndOf need (pre ++ [i] ++ orderV way (needL pl need) (s - 2 ^ i) (lp (needL pl need) i))) from by
              obtain ⟨g1, g2, _⟩ := h
              obtain ⟨v, hv, hvi⟩ := g2 hq
              obtain ⟨oa, oc, rfl, _, _⟩ := hvi.1.form
              exact ⟨g1, oa, _, oc, hv, hvi⟩)))
            clear hcall hstm hrm hq HNO HIH
            go_wp2_with (first
              | (go_at_call 43; refine HC.out.mono ?_; rintro e w11 ⟨hb11, oa, ol, oc, rfl, hoi⟩)
              | fail)
            go_ret2
            have hb011 := hb0.trans (hb11.mono hb0.size)
            refine ⟨hb011, fun _ => ⟨_, rfl, ?_⟩, fun h => absurd ?_ h⟩
            · rw [hyes.out.2]
              rw [List.append_assoc, List.singleton_append] at hoi
              exact hoi
            · rw [← HCST.out, ← HRST.out]
              exact hyes.out.1
          · have HN2 := hidep (show ∀ k, k < i + 1 → k ∉ pre → ¬ stepsN way (needL pl need) pl0 pre + (costZ way f (lp (needL pl need) k) + restV way (needL pl need) (s - 2 ^ k) (lp (needL pl need) k)) = steps from fun k hk hkp => by
              by_cases hki : k = i
              · rw [hki]
                rw [hstm] at hq
                omega
              · exact HNO.out k (by omega) hkp)
            have HC := hidep (hcall.mono (fun e w' (h : FirstR W10 way pl need steps (pre ++ [i]) (s - 2 ^ i) (lp (needL pl need) i) e w') => (show Below W10.heap.size W10 w' ∧ e = .returned (.tuple #[.slice none 0 0, .bool false]) from ⟨h.1, h.2.2 hq⟩)))
            clear hcall hstm hrm hq HNO HIH
            go_wp2_with (first
              | (go_at_call 43; refine HC.out.mono ?_; rintro e w11 ⟨hb11, rfl⟩)
              | fail)
            have hb011 := hb0.trans (hb11.mono hb0.size)
            refine ⟨LoopI.mk rfl ⟨rfl, rfl, rfl, rfl, rfl, rfl, i + 1, by omega, by show Value.int _ _ = _; go_num, HN2.out, hb011⟩, ?_⟩
            show need.length - _ < need.length - _
            simp [intOf]; omega
      · have hin : i = need.length := by omega
        have hnot : Hid (¬ cst_ + rst = steps) := hidep (fun h => by
          obtain ⟨k, hk1, hk2, hk3⟩ := HBG.out.some (way := way) HS0.out
          refine HNO.out k (by omega) hk2 ?_
          rw [hk3, ← HCST.out, ← HRST.out]
          exact h)
        clear hin
        go_wp2
        go_ret2
        refine ⟨HBW.out, fun h => absurd ?_ hnot.out, fun _ => rfl⟩
        rw [← HCST.out, ← HRST.out] at h
        exact h
theorem first_any (way : Int) (pl : List Pl) (need : List Int) (pv nv : Value) (steps : Int) (hok : ∀ p ∈ pl, PlOk p) (hneed : NeedOk pl need) (hpw : need.Pairwise (· < ·)) (hnr : ∀ x ∈ need, -9223372036854775808 ≤ x ∧ x ≤ 9223372036854775807) :
    ∀ (m : Nat) (pre : List Nat) (s : Nat) (f : Pl) (bv : Value) (w : World), Begun pl need pre s f → need.length - pre.length ≤ m → steps ≤ stepsN way (needL pl need) pl0 pre + restV way (needL pl need) s f → PlacesAt w pv pl → IntsAt w nv need → IntsOf (· = 3) w bv (ndOf need pre) →
      Calls Try.prog 43 #[.int .i64 way, pv, nv, bv, .int .i64 steps] w (FirstR w way pl need steps pre s f)
  | 0, pre, s, f, bv, w, hB, hm, hle, hp, hn, hbv => first_step way pl need pv nv 0 steps hok hneed hpw hnr (fun _ _ _ _ _ _ h => absurd h (Nat.not_lt_zero _)) pre s f bv w hB hm hle hp hn hbv
  | m + 1, pre, s, f, bv, w, hB, hm, hle, hp, hn, hbv => first_step way pl need pv nv (m + 1) steps hok hneed hpw hnr (fun pre s f bv w hB hm hle hp hn hbv => first_any way pl need pv nv steps hok hneed hpw hnr m pre s f bv w hB (Nat.le_of_lt_succ hm) hle hp hn hbv) pre s f bv w hB hm hle hp hn hbv
end Go.Proofs.Ytfljgcpfmhhgcaa
