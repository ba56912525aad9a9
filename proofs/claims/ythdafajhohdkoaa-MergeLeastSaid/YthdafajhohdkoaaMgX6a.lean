/- For all arguments (lists of ints, ints, bools and texts) the law MergeLeast returns true, and leaves its arguments as they were: no condition: the given statement. -/
import Derived.Test.YthdafajhohdkoaaMgTc
import Derived.Test.YthdafajhohdkoaaMgWl
import Derived.Test.YthdafajhohdkoaaLiftI0
import Derived.Test.YthdafajhohdkoaaMgX2
import Derived.Test.YthdafajhohdkoaaFrame
namespace Go.Proofs.Ythdafajhohdkoaa
open Go.RowKit Go.Lab
theorem good_part {l : List Sym} (h : l.all goodB = true) (n : Nat) : (l.take n).all goodB = true ∧ (l.drop n).all goodB = true := ⟨all_good_take h n, all_good_drop h n⟩
set_option maxRecDepth 100000 in
set_option maxHeartbeats 4000000 in
theorem lawLeast_any (v0 v1 v2 : Value) (l m k : List Int) (at_ : Int) (w : World) (h0 : IntsAt w v0 l) (h1 : IntsAt w v1 m) (h2 : IntsAt w v2 k)
    (i3 : -9223372036854775808 ≤ at_ ∧ at_ ≤ 9223372036854775807) :
    Calls Try.prog 8 #[v0, v1, v2, .int .i64 at_] w fun e w' => e = .returned (.bool true) ∧ Below w.heap.size w w' := by
  have hlen := symsZ_len l
  have htx := symsZ_text l
  have H0 := hidep (syms_txt v0 l w h0)
  generalize symsZ l = base at *
  have HGB := hidep (isTextB_good htx)
  obtain ⟨nn, hnn⟩ : ∃ nn : Nat, aroundZ at_ ((base.length : Int) + 1) = (nn : Int) := ⟨(aroundZ at_ ((base.length : Int) + 1)).toNat, by have := (aroundZ_rng at_ ((base.length : Int) + 1) (by omega)).1; omega⟩
  have hnl : nn ≤ base.length := by have := (aroundZ_rng at_ ((base.length : Int) + 1) (by omega)).2; omega
  have HNN := hidep hnn
  have H1 := hidep h1
  have H2 := hidep h2
  have HTX := hidep htx
  obtain ⟨am, cm, rfl, hcm, hmm⟩ := h1.1.form
  unfold maxLen at hmm
  clear hnn h0 h1 h2 htx
  go_enter Try.func8, Try.ntmps8
  go_upto_region 4 with (first
    | (go_at_call 9; refine H0.out.mono ?_; rintro e w1 ⟨ab, cb, rfl, hS, hb1⟩)
    | (go_at_call 14; refine (around_any _ _ _ (by omega) (by omega)).mono ?_; rintro e w' ⟨rfl, rfl⟩; rw [HNN.out])
    | fail)
  have hcb : base.length ≤ cb ∧ cb ≤ maxLen := by
    obtain ⟨a, c, e, g1, g2⟩ := hS.form
    injection e with _ _ e
    subst e
    exact ⟨g1, g2⟩
  obtain ⟨hcb, hmb⟩ := hcb
  unfold maxLen at hmb
  have hP := hidep (fun (W : World) (hW : Below w1.heap.size w1 W) => (show Rd W (· = 34) 2 (.slice ab nn cb) nn (symsC (base.take nn)) from by
    have := Rd.pre (hS.below hW) hnl
    rwa [symsC_take] at this))
  have hQ := hidep (fun (W : World) (hW : Below w1.heap.size w1 W) => (show Rd W (· = 34) 2 (.slice (if cb = nn then ab else ab.map (·.add (nn * 2))) (base.length - nn) (cb - nn)) (base.length - nn) (symsC (base.drop nn)) from by
    have := Rd.part (hS.below hW) hnl (Nat.le_refl _) hcb (Nat.le_refl _)
    rw [symsC_drop, List.take_of_length_le (by rw [symsC_len, List.length_drop]; omega)] at this
    exact this))
  have HS1 := hidep hS
  have HB1 := hidep hb1
  clear hS hb1
  go_cut [11] (fun s11 wc => ∃ x : List Sym, SymsAt wc s11 x ∧ x.all goodB = true ∧ x.length ≤ 64 ∧ Below w1.heap.size w1 wc)
  case first =>
    have hmml : (min (m.length : Int) 3).toNat ≤ m.length := by omega
    have hq9 : (m.length : Int) ≤ (cm : Int) ∨ (3 : Int) ≤ (cm : Int) := .inl (by omega)
    have hq8 : (3 : Int) ≤ (cm : Int) ∨ (m.length : Int) ≤ (cm : Int) := .inr (by omega)
    have hq7 : (nn : Int) ≤ (cb : Int) := by omega
    have hq6 : (nn : Int) ≤ (base.length : Int) := by omega
    have hq5 : (base.length : Int) ≤ (cb : Int) := by omega
    have hq4 : (m.length : Int) ≤ (cm : Int) := by omega
    have hq3 : (0 : Int) ≤ min (m.length : Int) 3 := by omega
    have hq2 : min (m.length : Int) 3 ≤ (cm : Int) := by omega
    have hIM : Hid (∀ W, Below w1.heap.size w1 W → IntsAt W (.slice am (min (m.length : Int) 3).toNat cm) (m.take (min (m.length : Int) 3).toNat)) := hidep (fun W hW => by
      have h0 := (H1.out.below HB1.out).below hW
      have hp := Rd.pre h0.1 hmml
      have e : (m.take (min (m.length : Int) 3).toNat).length = (min (m.length : Int) 3).toNat := by rw [List.length_take]; omega
      refine ⟨by rw [e]; have : (intsC m).take ((min (m.length : Int) 3).toNat * 1) = intsC (m.take (min (m.length : Int) 3).toNat) := by rw [Nat.mul_one]; simp [intsC, List.map_take]
                 rw [this] at hp; exact hp, fun x hx => h0.2 x (List.mem_of_mem_take hx)⟩)
    have HSY := hidep (fun W (hW : Below w1.heap.size w1 W) => syms_txt _ (m.take (min (m.length : Int) 3).toNat) W (hIM.out W hW))
    have hz1 := symsZ_len (m.take (min (m.length : Int) 3).toNat)
    have hz2 := isTextB_good (symsZ_text (m.take (min (m.length : Int) 3).toNat))
    generalize symsZ (m.take (min (m.length : Int) 3).toNat) = sy at *
    have HD := hidep (Below.refl w1.heap.size w1).drew
    have hsz1 : (symsC (base.take nn)).length = nn * 2 := by rw [symsC_len, List.length_take]; omega
    by_cases hcq : cb = nn
    · obtain rfl : cb = base.length := by omega
      obtain rfl : nn = base.length := by omega
      simp only [if_true, Nat.sub_self] at hQ
      clear hcq
      go_region_held3 (fun _ => True) (exact trivial) (first
        | (refine step_append_rd _ (by rfl) (.tmp 38) (.tmp 41) (by rfl) slSyms w1.heap.size (.slice none 0 0) 0 [] (by rfl) (World.ownsRow_nil _ _ _ _) _ _ _ _ (by rfl) (hP.out _ (by first | exact HD.out | exact Below.refl _ _)) (symsC_one _) (by unfold maxLen; omega) (by omega) (by first | exact Nat.le_refl _ | exact HD.out.size) ?_; intro v3 w3 hown3 hgr3 hat hnl3; clear hat hnl3; simp only [Nat.zero_add, List.nil_append] at hown3; have hb3 : Below w1.heap.size w1 w3 := (by first | exact HD.out.grown hgr3 (Nat.le_refl _) (fun g hg => by simp [Value.ownBlock] at hg) | exact (Below.refl _ _).grown hgr3 (Nat.le_refl _) (fun g hg => by simp [Value.ownBlock] at hg)); dsimp only)
        | (go_at_call 9; refine (HSY.out _ (by first | exact hb3 | exact hb3.drew)).mono ?_; rintro e w4 ⟨as_, cs_, rfl, hsy, hb4⟩; have hb34 : Below w1.heap.size w1 w4 := (by first | exact hb3.trans (hb4.mono hb3.size) | exact hb3.drew.trans (hb4.mono hb3.size)); have hown4 : w4.ownsRow w1.heap.size 34 2 v3 base.length (symsC (base.take base.length)) := (by first | exact ownR_below0 hown3 hb4 | exact ownR_below0 hown3.drew hb4); dsimp only)
        | (refine step_append_rd _ (by rfl) (.tmp 42) (.tmp 48) (by rfl) slSyms w1.heap.size v3 base.length _ (by rfl) (by exact hown4) _ _ _ _ (by rfl) (by exact hsy) (symsC_one _) (by unfold maxLen; omega) (by omega) (by exact hb34.size) ?_; intro v5 w5 hown5 hgr5 hat hnl5; clear hat hnl5; have hb5 : Below w1.heap.size w1 w5 := (by first | exact hb34.grown hgr5 hb34.size (fun g hg => (hown4.lt g hg).1) | exact hb34.drew.grown hgr5 hb34.size (fun g hg => (hown4.lt g hg).1)); dsimp only)
        | (refine step_append_rd _ (by rfl) (.tmp 49) (.tmp 52) (by rfl) slSyms w1.heap.size v5 _ _ (by rfl) (by exact hown5) _ _ _ _ (by rfl) (hQ.out _ (by first | exact hb5 | exact hb5.drew)) (symsC_one _) (by unfold maxLen; omega) (by omega) (by exact hb5.size) ?_; intro v7 w7 hown7 hgr7 hat hnl7; clear hat hnl7; have hb7 : Below w1.heap.size w1 w7 := (by first | exact hb5.grown hgr7 hb5.size (fun g hg => (hown5.lt g hg).1) | exact hb5.drew.grown hgr7 hb5.size (fun g hg => (hown5.lt g hg).1)); dsimp only)
        | fail)
      all_goals
        go_wp2
        go_meet
        refine ⟨base.take base.length ++ sy ++ base.drop base.length, ?_, by rw [List.all_append, List.all_append, (good_part HGB.out base.length).1, (good_part HGB.out base.length).2, hz2]; rfl, by simp only [List.length_append, List.length_take, List.length_drop]; omega, hb7⟩
        have h9 := Rd.of_own hown7
        unfold SymsAt
        rw [symsC_append, symsC_append]
        have e : (base.take base.length ++ sy ++ base.drop base.length).length = base.length + sy.length + 0 := by simp only [List.length_append, List.length_take, List.length_drop]; omega
        rw [e]
        exact h9
    · simp only [if_neg hcq] at hQ
      go_region_held3 (fun _ => True) (exact trivial) (first
        | (refine step_append_rd _ (by rfl) (.tmp 38) (.tmp 41) (by rfl) slSyms w1.heap.size (.slice none 0 0) 0 [] (by rfl) (World.ownsRow_nil _ _ _ _) _ _ _ _ (by rfl) (hP.out _ (by first | exact HD.out | exact Below.refl _ _)) (symsC_one _) (by unfold maxLen; omega) (by omega) (by first | exact Nat.le_refl _ | exact HD.out.size) ?_; intro v3 w3 hown3 hgr3 hat hnl3; clear hat hnl3; simp only [Nat.zero_add, List.nil_append] at hown3; have hb3 : Below w1.heap.size w1 w3 := (by first | exact HD.out.grown hgr3 (Nat.le_refl _) (fun g hg => by simp [Value.ownBlock] at hg) | exact (Below.refl _ _).grown hgr3 (Nat.le_refl _) (fun g hg => by simp [Value.ownBlock] at hg)); dsimp only)
        | (go_at_call 9; refine (HSY.out _ (by first | exact hb3 | exact hb3.drew)).mono ?_; rintro e w4 ⟨as_, cs_, rfl, hsy, hb4⟩; have hb34 : Below w1.heap.size w1 w4 := (by first | exact hb3.trans (hb4.mono hb3.size) | exact hb3.drew.trans (hb4.mono hb3.size)); have hown4 : w4.ownsRow w1.heap.size 34 2 v3 nn (symsC (base.take nn)) := (by first | exact ownR_below0 hown3 hb4 | exact ownR_below0 hown3.drew hb4); dsimp only)
        | (refine step_append_rd _ (by rfl) (.tmp 42) (.tmp 48) (by rfl) slSyms w1.heap.size v3 nn _ (by rfl) (by exact hown4) _ _ _ _ (by rfl) (by exact hsy) (symsC_one _) (by unfold maxLen; omega) (by omega) (by exact hb34.size) ?_; intro v5 w5 hown5 hgr5 hat hnl5; clear hat hnl5; have hb5 : Below w1.heap.size w1 w5 := (by first | exact hb34.grown hgr5 hb34.size (fun g hg => (hown4.lt g hg).1) | exact hb34.drew.grown hgr5 hb34.size (fun g hg => (hown4.lt g hg).1)); dsimp only)
        | (refine step_append_rd _ (by rfl) (.tmp 49) (.tmp 52) (by rfl) slSyms w1.heap.size v5 _ _ (by rfl) (by exact hown5) _ _ _ _ (by rfl) (hQ.out _ (by first | exact hb5 | exact hb5.drew)) (symsC_one _) (by unfold maxLen; omega) (by omega) (by exact hb5.size) ?_; intro v7 w7 hown7 hgr7 hat hnl7; clear hat hnl7; have hb7 : Below w1.heap.size w1 w7 := (by first | exact hb5.grown hgr7 hb5.size (fun g hg => (hown5.lt g hg).1) | exact hb5.drew.grown hgr7 hb5.size (fun g hg => (hown5.lt g hg).1)); dsimp only)
        | fail)
      all_goals
        go_wp2
        go_meet
        refine ⟨base.take nn ++ sy ++ base.drop nn, ?_, by rw [List.all_append, List.all_append, (good_part HGB.out nn).1, (good_part HGB.out nn).2, hz2]; rfl, by simp only [List.length_append, List.length_take, List.length_drop]; omega, hb7⟩
        have h9 := Rd.of_own hown7
        unfold SymsAt
        rw [symsC_append, symsC_append]
        have e : (base.take nn ++ sy ++ base.drop nn).length = nn + sy.length + (base.length - nn) := by simp only [List.length_append, List.length_take, List.length_drop]; omega
        rw [e]
        exact h9
  case rest =>
    obtain ⟨x, hx, hxg, hxl, hbc⟩ := hcut
    obtain ⟨w2, hw2⟩ : ∃ w2 : World, w2 = wc := ⟨_, rfl⟩
    subst hw2
    have HS2 := hidep (HS1.out.below hbc)
    have HB2 := hidep (HB1.out.trans (hbc.mono HB1.out.size))
    obtain ⟨ax, cx, rfl, _, _⟩ := hx.form
    have HX2 := hidep hx
    have HXT := hidep (isTextB_mk (by omega : x.length ≤ 2048) hxg)
    have HY := hidep (syms_txt v2 k w2 (H2.out.below HB2.out))
    have hz1 := symsZ_len k
    have hz2 := isTextB_good (symsZ_text k)
    generalize symsZ k = y0 at *
    clear hx hxg hbc hP hQ HS1 H1 H2 HB1 H0 HNN
    go_upto_if 58 with (go_at_call 9; refine HY.out.mono ?_; rintro e w3 ⟨ay, cy, rfl, hy, hb3⟩)
    have HY3 := hidep hy
    have HB3 := hidep hb3
    have hcy : y0.length ≤ cy ∧ cy ≤ maxLen := by
      obtain ⟨a, c, e, g1, g2⟩ := hy.form
      injection e with _ _ e
      subst e
      exact ⟨g1, g2⟩
    obtain ⟨hcy1, hcy2⟩ := hcy
    unfold maxLen at hcy2
    clear hy hb3
    go_cut [12] (fun s12 wd => ∃ y : List Sym, SymsAt wd s12 y ∧ y.all goodB = true ∧ y.length ≤ 64 ∧ Below w3.heap.size w3 wd)
    case first =>
      by_cases h4 : (4 : Int) < (base.length : Int)
      · have hwm : IntKind.i64.wrap ((base.length : Int) - 1) = (base.length : Int) - 1 := IntWalk.i64_in _ (by omega)
        have hf1 : (0 : Int) ≤ (base.length : Int) - 1 := by omega
        have hf2 : (base.length : Int) - 1 ≤ (cb : Int) := by omega
        have hf5 : (1 : Int) ≤ (base.length : Int) := by omega
        have hf6 : (base.length : Int) ≤ (cb : Int) + 1 := by omega
        have hf7 : 1 ≤ base.length := by omega
        have hf8 : base.length ≤ cb + 1 := by omega
        have hf9 : 0 < base.length := by omega
        have hf3 : (0 : Int) ≤ min (y0.length : Int) 2 := by omega
        have hf4 : min (y0.length : Int) 2 ≤ (cy : Int) := by omega
        have hml : (base.length - 1) ≤ base.length := by omega
        have hyl : (min (y0.length : Int) 2).toNat ≤ y0.length := by omega
        have hP := hidep (fun (W : World) (hW : Below w3.heap.size w3 W) => (show Rd W (· = 34) 2 (.slice ab (base.length - 1) cb) (base.length - 1) (symsC (base.take (base.length - 1))) from by
          have := Rd.pre ((HS2.out.below HB3.out).below hW) hml
          rwa [symsC_take] at this))
        have hQ := hidep (fun (W : World) (hW : Below w3.heap.size w3 W) => (show Rd W (· = 34) 2 (.slice ay (min (y0.length : Int) 2).toNat cy) (min (y0.length : Int) 2).toNat (symsC (y0.take (min (y0.length : Int) 2).toNat)) from by
          have := Rd.pre (HY3.out.below hW) hyl
          rwa [symsC_take] at this))
        have hxa : Below w3.heap.size w3 (w3.alloc (.cells #[] 34)) := (Below.refl _ _).alloc (Nat.le_refl _) _
        have hfn : (w3.alloc (.cells #[] 34)).ownsRow w3.heap.size 34 2 (.slice (some ⟨w3.heap.size, 0, none⟩) 0 0) 0 [] := World.ownsRow_lit w3 #[] 0 (Nat.le_refl _) (by decide) rfl
        go_upto_region 7 with (fail)
        go_region_held3 (fun _ => True) (exact trivial) (first
          | (refine step_append_rd _ (by rfl) (.tmp 59) (.tmp 64) (by rfl) slSyms w3.heap.size (.slice (some ⟨w3.heap.size, 0, none⟩) 0 0) 0 [] (by rfl) (by exact hfn) _ _ _ _ (by rfl) (hP.out _ (by first | exact hxa | exact hxa.drew)) (symsC_one _) (by unfold maxLen; omega) (by omega) (by first | exact hxa.size | exact hxa.drew.size) ?_; intro v5 w5 hown5 hgr5 hat hnl5; clear hat hnl5; simp only [Nat.zero_add, List.nil_append] at hown5; have hb5 : Below w3.heap.size w3 w5 := (by first | exact hxa.grown hgr5 hxa.size (fun g hg => by simp [Value.ownBlock] at hg; omega) | exact hxa.drew.grown hgr5 hxa.size (fun g hg => by simp [Value.ownBlock] at hg; omega)); dsimp only)
          | (refine step_append_rd _ (by rfl) (.tmp 65) (.tmp 70) (by rfl) slSyms w3.heap.size v5 _ _ (by rfl) (by exact hown5) _ _ _ _ (by rfl) (hQ.out _ (by first | exact hb5 | exact hb5.drew)) (symsC_one _) (by unfold maxLen; omega) (by omega) (by exact hb5.size) ?_; intro v7 w7 hown7 hgr7 hat hnl7; clear hat hnl7; have hb7 : Below w3.heap.size w3 w7 := (by first | exact hb5.grown hgr7 hb5.size (fun g hg => (hown5.lt g hg).1) | exact hb5.drew.grown hgr7 hb5.size (fun g hg => (hown5.lt g hg).1)); dsimp only)
          | fail)
        all_goals
          go_wp2
          go_meet
          refine ⟨base.take (base.length - 1) ++ y0.take (min (y0.length : Int) 2).toNat, ?_, by rw [List.all_append, (good_part HGB.out _).1, (good_part hz2 _).1]; rfl, by simp only [List.length_append, List.length_take]; omega, hb7⟩
          have h9 := Rd.of_own hown7
          unfold SymsAt
          rw [symsC_append]
          have e : (base.take (base.length - 1) ++ y0.take (min (y0.length : Int) 2).toNat).length = (base.length - 1) + (min (y0.length : Int) 2).toNat := by simp only [List.length_append, List.length_take]; omega
          rw [e]
          exact h9
      · have h4' : (base.length : Int) ≤ 4 := by omega
        go_wp2
        go_meet
        exact ⟨y0, HY3.out, hz2, by omega, Below.refl _ _⟩
    case rest =>
      obtain ⟨y, hy, hyg, hyl, hbd⟩ := hcut
      obtain ⟨w4, hw4⟩ : ∃ w4 : World, w4 = wc := ⟨_, rfl⟩
      subst hw4
      obtain ⟨az, cz, rfl, _, _⟩ := hy.form
      have hyt := isTextB_mk (by omega : y.length ≤ 2048) hyg
      have h24 := HB3.out.trans (hbd.mono HB3.out.size)
      have HS4 := hidep (HS2.out.below h24)
      have HX4 := hidep (HX2.out.below h24)
      have HB4 := hidep (HB2.out.trans (h24.mono HB2.out.size))
      have HY4 := hidep hy
      have HL1 := hidep (fun W (hW : Below w4.heap.size w4 W) => leastL_any base x _ _ W (HS4.out.below hW) (HX4.out.below hW))
      have HL2 := hidep (fun W (hW : Below w4.heap.size w4 W) => leastL_any base y _ _ W (HS4.out.below hW) (HY4.out.below hW))
      have HM1 := hidep (fun hv => least_merge HTX.out HXT.out hlen hxl hv)
      have HM2 := hidep (fun hv => least_merge HTX.out hyt hlen hyl hv)
      have HLW := hidep (fun hv hw => least_law HTX.out HXT.out hyt hlen hxl hyl hv hw)
      have HXG := hidep (isTextB_good HXT.out)
      clear hy hyg hyt h24 hbd HY HY3 HX2 HS2 HXT HTX HGB
      generalize leastZ base x = r1 at *
      generalize leastZ base y = r2 at *
      obtain ⟨A, s1, t1⟩ := r1
      obtain ⟨B, s2, t2⟩ := r2
      simp only at HL1 HL2 HM1 HM2 HLW
      go_upto_region 10 with (first
        | (go_at_call 23; (with_reducible refine (HL1.out _ (Below.refl _ _)).mono ?_); clear HL1; rintro e w5 ⟨va, rfl, hA, hb5⟩)
        | (go_at_call 23; (with_reducible refine (HL2.out _ hb5).mono ?_); rintro e w6 ⟨vb, rfl, hB, hb6⟩; have hA := hA.below hb6; have hb46 := hb5.trans (hb6.mono hb5.size))
        | fail)
      obtain ⟨qa, ka, rfl, _, _⟩ := hA.form
      obtain ⟨qb, kb, rfl, _, _⟩ := hB.form
      have HA := hidep hA
      have HBB := hidep hB
      have HB6 := hidep (HB4.out.trans (hb46.mono HB4.out.size))
      have HS6 := hidep (HS4.out.below hb46)
      have HX6 := hidep (HX4.out.below hb46)
      have HY6 := hidep (HY4.out.below hb46)
      have HVA := hidep (fun W (hW : Below w6.heap.size w6 W) => valid34_any _ base.length A W (HA.out.below hW) (by omega) (by omega))
      have HVB := hidep (fun W (hW : Below w6.heap.size w6 W) => valid34_any _ base.length B W (HBB.out.below hW) (by omega) (by omega))
      clear hA hB hb46 hb5 hb6 HL2
      cases hva : validZ base.length A
      · rw [hva] at HVA
        clear hva
        go_wp2_with (first
          | (go_at_call 24; (with_reducible refine (HVA.out _ (Below.refl _ _)).mono ?_); clear HVA; rintro e w7 ⟨rfl, hb7⟩)
          | (go_at_call 13; refine (lives_any _).mono ?_; rintro e w8 ⟨rfl, hb8⟩)
          | fail)
        go_ret
        exact ⟨rfl, HB6.out.trans ((hb7.trans (hb8.mono hb7.size)).mono HB6.out.size)⟩
      · cases hvb : validZ base.length B
        · rw [hva] at HVA
          rw [hvb] at HVB
          clear hva hvb
          go_wp2_with (first
            | (go_at_call 24; (with_reducible refine (HVA.out _ (Below.refl _ _)).mono ?_); clear HVA; rintro e w7 ⟨rfl, hb7⟩)
            | (go_at_call 24; (with_reducible refine (HVB.out _ hb7).mono ?_); rintro e w8 ⟨rfl, hb8⟩; have hb78 := hb7.trans (hb8.mono hb7.size))
            | (go_at_call 13; refine (lives_any _).mono ?_; rintro e w9 ⟨rfl, hb9⟩)
            | fail)
          go_ret
          exact ⟨rfl, HB6.out.trans ((hb78.trans (hb9.mono hb78.size)).mono HB6.out.size)⟩
        · obtain ⟨m1, m2⟩ := HM1.out hva
          obtain ⟨n1, n2⟩ := HM2.out hvb
          have hlaw := HLW.out hva hvb
          rw [hva] at HVA
          rw [hvb] at HVB
          clear hva hvb
          have HG1 := hidep (fun W (hW : Below w6.heap.size w6 W) => merge_to _ _ (.slice none 0 0) base A [] W (HS6.out.below hW) (HA.out.below hW) (EditsAt.nil _) m2 m1)
          have HG2 := hidep (fun W (hW : Below w6.heap.size w6 W) => merge_to _ _ (.slice none 0 0) base B [] W (HS6.out.below hW) (HBB.out.below hW) (EditsAt.nil _) n2 n1)
          clear m1 m2 n1 n2 HM1 HM2 HLW
          obtain ⟨o3, ho3⟩ : ∃ o, (mergeZ base A B).1 = o := ⟨_, rfl⟩
          obtain ⟨e3, he3⟩ : ∃ o, (mergeZ base A B).2.2 = o := ⟨_, rfl⟩
          obtain ⟨mo, hmo⟩ : ∃ o, (moveZ A B).1 = o := ⟨_, rfl⟩
          obtain ⟨e4, he4⟩ : ∃ o, (moveZ A B).2 = o := ⟨_, rfl⟩
          rw [ho3, he3, hmo, he4] at hlaw
          have HG3 := hidep (fun W (hW : Below w6.heap.size w6 W) => merge_to _ _ _ base A B W (HS6.out.below hW) (HA.out.below hW) (HBB.out.below hW) ho3 he3)
          have HMV := hidep (fun W (hW : Below w6.heap.size w6 W) => move_to _ _ A B W (HA.out.below hW) (HBB.out.below hW) hmo he4)
          have HRU := hidep (fun W v (h : SymsAt W v x) => runs_any v x W h HXG.out (by omega))
          have HSY := hidep (fun W v rs (h : TRunsAt W v rs) (h1 : unruns rs = x) (h2 : ∀ r ∈ rs, r.lang = 0 ∨ r.lang = 1) => symbols_any v rs W h h2 (by rw [h1]; exact HXG.out) (by rw [h1]; omega))
          clear ho3 he3 hmo he4
          go_upto_region 16 with (first
            | (go_at_call 24; (with_reducible refine (HVA.out _ (Below.refl _ _)).mono ?_); clear HVA; rintro e w7 ⟨rfl, hb7⟩)
            | (go_at_call 24; (with_reducible refine (HVB.out _ hb7).mono ?_); rintro e w8 ⟨rfl, hb8⟩; have hb78 := hb7.trans (hb8.mono hb7.size))
            | (go_at_call 16; (with_reducible refine (HG1.out _ hb78).mono ?_); clear HG1; rintro e w9 ⟨v1, rfl, hv1, hb9⟩; have hb79 := hb78.trans (hb9.mono hb78.size))
            | (go_at_call 16; (with_reducible refine (HG2.out _ hb79).mono ?_); clear HG2; rintro e w10 ⟨v2, rfl, hv2, hb10⟩; have hv1 := hv1.below hb10; have hb710 := hb79.trans (hb10.mono hb79.size))
            | (go_at_call 20; (with_reducible refine (s_same hv1 (HX6.out.below hb710)).mono ?_); rintro e w11 ⟨rfl, hb11⟩; have hv2 := hv2.below hb11; have hv1' := hv1.below hb11; have hb711 := hb710.trans (hb11.mono hb710.size))
            | (go_at_call 20; (with_reducible refine (s_same hv2 (HY6.out.below hb711)).mono ?_); rintro e w12 ⟨rfl, hb12⟩; have hv3 := hv1'.below hb12; have hb712 := hb711.trans (hb12.mono hb711.size))
            | fail)
          go_upto_region 19 with (first
            | (go_at_call 26; refine (HRU.out _ _ hv3).mono ?_; rintro e w13 ⟨ur, rs, rfl, hrs, hru, hrl, _, hb13⟩; have hb713 := hb712.trans (hb13.mono hb712.size))
            | (go_at_call 25; refine (HSY.out _ _ rs hrs hru hrl).mono ?_; rintro e w14 ⟨us, rfl, hus, hb14⟩; rw [hru] at hus; have hb714 := hb713.trans (hb14.mono hb713.size))
            | (go_at_call 20; refine (s_same hus (HX6.out.below hb714)).mono ?_; rintro e w15 ⟨rfl, hb15⟩; have hb715 := hb714.trans (hb15.mono hb714.size))
            | fail)
          have HB15 := hidep (HB6.out.trans (hb715.mono HB6.out.size))
          rcases hlaw with ⟨rfl, rfl⟩ | ⟨rfl, rfl, l3, l4⟩
          · go_wp2_with (first
              | (go_at_call 16; (with_reducible refine (HG3.out _ hb715).mono ?_); rintro e w16 ⟨v3, rfl, hv3', hb16⟩; have hb716 := hb715.trans (hb16.mono hb715.size))
              | (go_at_call 22; (with_reducible refine (HMV.out _ hb716).mono ?_); rintro e w17 ⟨v4, rfl, hv4, hb17⟩; have hb717 := hb716.trans (hb17.mono hb716.size))
              | (go_at_call 13; refine (lives_any _).mono ?_; rintro e w18 ⟨rfl, hb18⟩; have hb718 := hb717.trans (hb18.mono hb717.size))
              | fail)
            go_ret
            exact ⟨rfl, HB6.out.trans (hb718.mono HB6.out.size)⟩
          · have HG4 := hidep (fun W v (h : SymsAt W v y) u (h' : EditsAt W u mo) => merge_to v u (.slice none 0 0) y mo [] W h h' (EditsAt.nil _) l4 l3)
            clear l3 l4
            go_wp2_with (first
              | (go_at_call 16; (with_reducible refine (HG3.out _ hb715).mono ?_); clear HG3; rintro e w16 ⟨v3, rfl, hv3', hb16⟩; have hb716 := hb715.trans (hb16.mono hb715.size))
              | (go_at_call 22; (with_reducible refine (HMV.out _ hb716).mono ?_); rintro e w17 ⟨v4, rfl, hv4, hb17⟩; have hv3' := hv3'.below hb17; have hb717 := hb716.trans (hb17.mono hb716.size))
              | (go_at_call 16; (with_reducible refine (HG4.out _ _ (HY6.out.below hb717) _ hv4).mono ?_); rintro e w18 ⟨v5, rfl, hv5, hb18⟩; have hv6 := hv3'.below hb18; have hb718 := hb717.trans (hb18.mono hb717.size))
              | (go_at_call 20; refine (s_same hv5 hv6).mono ?_; rintro e w19 ⟨rfl, hb19⟩; have hb719 := hb718.trans (hb19.mono hb718.size))
              | (go_at_call 13; refine (lives_any _).mono ?_; rintro e w20 ⟨rfl, hb20⟩; have hb720 := hb719.trans (hb20.mono hb719.size))
              | fail)
            go_ret
            exact ⟨rfl, HB6.out.trans (hb720.mono HB6.out.size)⟩
open Go.ChangeShapes Go.WideShapes Go.ChangeAt Go.RowKit Go.Lab
set_option maxRecDepth 100000 in
theorem mergeLeast_holds_lifted (os : Os) (started : os.Started) (H : Type) (enc : TypeId × Value → H) :
    ReturnsInHanded {} Try.checked os 8 .any (Rows.mergeLeastSpec.pre6 enc Try.prog Try.f8 Rows.mergeLeastRow.domain false) (Rows.mergeLeastSpec.post enc Try.prog Try.f8 false true false false) := by
  refine returnsInHanded_of_change (C := Try.checked) Try.own0 started (by kernel_rfl) Try.func8
    (ChangeSpec.witness6 (enc := enc) (C := Try.checked) false ⟨#[], #[.slice none 0 0, .slice none 0 0, .slice none 0 0, .int .i64 0], []⟩ 8 (by kernel_rfl) (by kernel_rfl) (by kernel_rfl) (by kernel_rfl)) ?_
  intro W base args ds gs before hval0 hW _ _
  have hval : ∀ (j : Nat) t v, Try.f8.params[j]? = some t → args[j]? = some v → Value.okWide Try.prog W .any base t v := hval0
  have hW' := hW
  obtain ⟨p, q, hA0, hV, rfl, hfz, hnd⟩ := hW
  have hA : DataW.TrodAll enc Try.prog W 0 (fun _ => true) true Try.f8.params.toList args.toList ds p := hA0
  rw [Try.params8] at hA hval
  obtain ⟨v0, vs0, d0, ds0, p0, q0, hargs, rfl, rfl, h0, t0⟩ := trodAll_cons hA
  obtain ⟨v1, vs1, d1, ds1, p1, q1, rfl, rfl, rfl, h1, t1⟩ := trodAll_cons t0
  obtain ⟨v2, vs2, d2, ds2, p2, q2, rfl, rfl, rfl, h2, t2⟩ := trodAll_cons t1
  obtain ⟨v3, vs3, d3, ds3, p3, q3, rfl, rfl, rfl, h3, t3⟩ := trodAll_cons t2
  obtain ⟨rfl, rfl, rfl⟩ := trodAll_nil t3
  obtain rfl : args = #[v0, v1, v2, v3] := by cases args; simp_all
  obtain ⟨rfl, rfl⟩ := trodVars_none hV
  obtain ⟨l0, i0, z0⟩ := open_list (hval 0 22 v0 rfl rfl) h0
  obtain ⟨l1, i1, z1⟩ := open_list (hval 1 22 v1 rfl rfl) h1
  obtain ⟨l2, i2, z2⟩ := open_list (hval 2 22 v2 rfl rfl) h2
  obtain ⟨n3, rfl, rfl, rfl, w3⟩ := open_int Try.underlying3 (hval 3 3 v3 rfl rfl) h3
  refine (lawLeast_any v0 v1 v2 l0 l1 l2 n3 W i0 i1 i2 (i64_rng w3)).mono fun e W' ⟨he, hb⟩ => ?_
  subst he
  refine ⟨_, rfl, law_post hW' rfl (by kernel_rfl) hb rfl (fun sp hsp => ?_)⟩
  rw [Try.params8]
  simp only [List.append_nil] at hsp ⊢
  have hm : ∀ q, q ∈ p0 ∨ q ∈ p1 ∨ q ∈ p2 → sp q.block = true := fun q hq => hsp q (by first | (simp only [List.mem_append]; exact hq) | (simp only [List.mem_append, List.not_mem_nil, false_or]; exact hq))
  have := trodAll_cons_mk (z0 W' hb sp (fun q hq => hm q (.inl hq))) (trodAll_cons_mk (z1 W' hb sp (fun q hq => hm q (.inr (.inl hq)))) (trodAll_cons_mk (z2 W' hb sp (fun q hq => hm q (.inr (.inr hq)))) (trodAll_cons_mk (shut_int Try.underlying3 w3) (trodAll_mk0))))
  simpa only [List.append_nil, List.nil_append] using this
theorem mergeLeast_holds : Rows.MergeLeastSaid :=
  OpenClaim.holds_of_wide 8 Try.f8 rfl rfl rfl rfl rfl rfl rfl ⟨rfl, rfl, rfl, rfl, rfl⟩ rfl rfl rfl rfl rfl (by kernel_rfl) Try.func8 (by kernel_rfl)
    (of_decide_eq_true (by kernel_rfl)) (by unfold Func.isWrapper; first | (rw [if_pos (by decide +kernel)]; kernel_rfl) | (rw [if_neg (by decide +kernel)]; exact ⟨rfl, rfl⟩))
    (fun os started H enc _ => mergeLeast_holds_lifted os started H enc)
#print axioms mergeLeast_holds
end Go.Proofs.Ythdafajhohdkoaa
