/- For all arguments (three lists of ints and four ints) the law BackIs returns true, and leaves its arguments as they were: no condition: the given statement. -/
import Derived.Test.YtcfjepcflanjbaaGreatBi01
import Derived.Test.YtcfjepcflanjbaaGreatRows
import Derived.WalkKit
import Derived.ProofKit
import Derived.OpenShut
import Derived.ChangeSame
import Derived.JoinedAt
import Derived.Test.YtcfjepcflanjbaaGreatBi50
namespace Go.Proofs.YtcfjepcflanjbaaGreat
open Go.ChangeShapes Go.WideShapes Go.ChangeAt Go.RowKit Go.Lab
theorem Tryz.own0 : ownKnob Tryz.prog.godebug = none := by kernel_rfl
theorem cellsInt : Tryz.prog.cellsOf 3 = 1 := by kernel_rfl
theorem i64_rng {x : Int} (h : (Lit.int .i64 x).wf = true) : -9223372036854775808 ≤ x ∧ x ≤ 9223372036854775807 := by
  simpa [Lit.wf, IntKind.min, IntKind.max, IntKind.signed, IntKind.bits] using h
section
variable {H : Type} {enc : TypeId × Value → H}
set_option maxRecDepth 100000 in
theorem open_list {W : World} {base : Nat} {v : Value} {d : DataW H} {p : List MemPlace} (hok : Value.okWide Tryz.prog W .any base 22 v) (h : DataW.Trod enc Tryz.prog W 0 (fun _ => true) true 22 v d p) :
    ∃ l : List Int, IntsAt W v l ∧ ∀ W', Below W.heap.size W W' → ∀ sp : Nat → Bool, (∀ q ∈ p, sp q.block = true) → DataW.Trod enc Tryz.prog W' 0 sp true 22 v d p := by
  obtain ⟨a0, len, cap, rfl⟩ := okWide_slice Tryz.underlying22 hok
  obtain ⟨fuel, hf⟩ := h
  rcases open_ints Tryz.underlying22 Tryz.underlying3 cellsInt hf with ⟨hcs, hx⟩ | ⟨a, len', cap', zs, hcs, _, hl, hm, hz, hx, hcell, hwz⟩
  · simp [Value.cells] at hcs
    obtain ⟨rfl, rfl, rfl⟩ := hcs
    simp only [Prod.mk.injEq] at hx
    obtain ⟨rfl, rfl⟩ := hx
    exact ⟨[], ⟨Rd.nil _ _ _, fun x hx => by simp at hx⟩, fun _ _ _ _ => shut_slice_nil Tryz.underlying22⟩
  · simp [Value.cells] at hcs
    obtain ⟨rfl, rfl, rfl⟩ := hcs
    simp only [Prod.mk.injEq] at hx
    obtain ⟨rfl, rfl⟩ := hx
    simp only [if_true] at hz
    have hblk : ∀ i, i < zs.length → a.block < W.heap.size := fun i hi => by
      have h1 := hcell i hi
      unfold World.cell? at h1
      rw [block_add] at h1
      split at h1
      · rename_i hh; exact lt_of_block hh
      · cases h1
    refine ⟨zs.take len, ⟨?_, fun x hx => i64_rng (hwz x (List.mem_of_mem_take hx))⟩, fun W' hb sp hsp => ?_⟩
    · have hlen : (zs.take len).length = len := by rw [List.length_take]; omega
      refine ⟨by rw [hlen]; simp [intsC]; omega, some a, cap, by rw [hlen], by omega, hm, fun e => (by cases e), fun ad e h0 => ?_⟩
      injection e with e
      subst e
      obtain ⟨b, off, spot⟩ := a
      have hspot : spot = none := by simpa [Addr.add] using World.cell?_spot (hcell 0 (by omega))
      subst hspot
      have hc0 := hcell 0 (by omega)
      have hcell2 : ∀ i, i < zs.length → W.cell? ⟨b, off + i, none⟩ = some (.int .i64 (zs.getD i 0)) := fun i hi => by
        have := hcell i hi
        rw [add_plain] at this
        exact this
      cases hh : W.heap[b]? with
      | none => have := hcell2 0 (by omega); simp [World.cell?, hh] at this
      | some o =>
        have hx0 := hcell2 0 (by omega)
        unfold World.cell? at hx0
        simp only [hh] at hx0
        split at hx0
        · rename_i cur t fz hoo
          injection hoo with hoo
          subst hoo
          refine ⟨rfl, cur, t, fz, trivial, rfl, fun j u hu => ?_⟩
          have hj : j < len := by
            have := (List.getElem?_eq_some_iff.1 hu).1
            simp [intsC] at this
            omega
          have h1 := hcell2 j (by omega)
          simp only [World.cell?, hh] at h1
          have h2 : u = .int .i64 (zs.getD j 0) := by
            simp [intsC, hj] at hu
            obtain ⟨x, hx, rfl⟩ := hu
            rw [List.getD, hx]; rfl
          rw [h2]
          simpa using h1
        · cases hx0
    · by_cases hz0 : zs.length = 0
      · have hc0 : cap = 0 := by omega
        have hl0 : len = 0 := by omega
        subst hc0; subst hl0
        have t0 := shut_ints (enc := enc) (w := W') (base := 0) (spare := sp) (held := true) (a := a) (len := 0) (cap := 0) (zs := zs) 0 Tryz.underlying22 Tryz.underlying3 cellsInt (Nat.zero_le _) (Nat.le_refl _) hm (by simp [hz0]) (fun i hi => by omega) hwz
        exact ⟨2, by simpa [Value.cells] using t0⟩
      · have hspb : sp a.block = true := hsp (.cell a.block a.off) (MemPlace.mem_row.2 ⟨0, by omega, by simp⟩)
        have t0 := shut_ints (enc := enc) (w := W') (base := 0) (spare := sp) (held := true) (a := a) (len := len) (cap := cap) (zs := zs) 0 Tryz.underlying22 Tryz.underlying3 cellsInt (Nat.zero_le _) hl hm (by simp [hspb, hz]) (fun i hi => (hb.cell (p := a.add i) (by rw [block_add]; exact hblk i hi)).trans (hcell i hi)) hwz
        exact ⟨2, by simpa [Value.cells] using t0⟩
set_option maxRecDepth 100000 in
theorem law_post {f : Func} {s : ChangeSpec} {W W' : World} {args : Array Value} {ds : List (DataW H)} {before : List MemPlace}
    (hW : DataW.Whole enc Tryz.prog f.params.toList s.vars false W args.toList ds [] before) (hsv : s.vars = []) (hrt : f.resultTypes = #[4]) (hb : Below W.heap.size W W')
    (hfn : s.fn H (ds ++ []) = { results := [.lit (.bool true)], args := ds }) (hps : ∀ sp : Nat → Bool, (∀ q ∈ before, sp q.block = true) → DataW.TrodAll enc Tryz.prog W' 0 sp true f.params.toList args.toList ds before) :
    s.post enc Tryz.prog f false true false false W args (.bool true) W' := by
  have hlt : ∀ q ∈ before, q.block < W.heap.size := fun q hq => hW.lt q hq
  have hr : ∀ (b : Nat) (sp : Nat → Bool) (hd : Bool), DataW.TrodAll enc Tryz.prog W' b sp hd f.resultTypes.toList ((Value.bool true).resultList f.resultTypes.size) (s.fn H (ds ++ [])).results [] := fun b sp hd => by
    rw [hfn, hrt]
    exact trodAll_mk1 (shut_bool Tryz.underlying4 _)
  have ha : ∀ sp : Nat → Bool, (∀ q ∈ before, sp q.block = true) → DataW.TrodAll enc Tryz.prog W' 0 sp true f.params.toList args.toList (s.fn H (ds ++ [])).args before := fun sp h => by rw [hfn]; exact hps sp h
  have hv : ∀ sp : Nat → Bool, DataW.TrodVars enc Tryz.prog W' sp s.vars (s.fn H (ds ++ [])).vars [] := fun sp => by rw [hfn, hsv]; rfl
  refine ⟨ds, [], before, [], before, [], hW, hr _ _ _, ha _ (fun q hq => by simpa using hlt q hq), hv _, World.keptBut_mono (fun q hq => ⟨hq, Or.inr (Or.inl hq)⟩) (hb.frame (· ∈ before)), fun _ => ?_⟩
  · obtain ⟨_, _, _, _, _, hz, hn⟩ := hW
    refine ⟨ok_one hrt rfl (okWide_bool_mk Tryz.underlying4 _), _, _, ([] ++ before) ++ [], ⟨[] ++ before, [], trodAll_append (ha _ (fun _ _ => rfl)) (hr _ _ _), hv _, rfl, ?_, ?_⟩, ?_⟩
    · intro b off hp
      have hin : MemPlace.cell b off ∈ before := by simpa using hp
      rw [hb.frozen (hlt _ hin)]
      exact hz b off hin
    · intro h
      cases h
    · intro q hq _
      simpa using hq
end
end Go.Proofs.YtcfjepcflanjbaaGreat
/- The frame of a law's statement: arguments that are lists of ints and ints are opened, and closed behind a call that has turned nothing that was there. -/
namespace Go.Proofs.YtcfjepcflanjbaaGreat
open Go.ChangeShapes Go.WideShapes Go.ChangeAt Go.RowKit Go.Lab
set_option maxRecDepth 100000 in
theorem backIs_holds_lifted (os : Os) (started : os.Started) (H : Type) (enc : TypeId × Value → H) :
    ReturnsInHanded {} Tryz.checked os 5 .any (Rows.backIsSpec.pre6 enc Tryz.prog Tryz.f5 Rows.backIsRow.domain false) (Rows.backIsSpec.post enc Tryz.prog Tryz.f5 false true false false) := by
  refine returnsInHanded_of_change (C := Tryz.checked) Tryz.own0 started (by kernel_rfl) Tryz.func5
    (ChangeSpec.witness6 (enc := enc) (C := Tryz.checked) false ⟨#[], #[.int .i64 0, .slice none 0 0, .slice none 0 0, .slice none 0 0, .int .i64 0, .int .i64 0, .int .i64 0], []⟩ 8 (by kernel_rfl) (by kernel_rfl) (by kernel_rfl) (by kernel_rfl)) ?_
  intro W base args ds gs before hval0 hW _ _
  have hval : ∀ (j : Nat) t v, Tryz.f5.params[j]? = some t → args[j]? = some v → Value.okWide Tryz.prog W .any base t v := hval0
  have hW' := hW
  obtain ⟨p, q, hA0, hV, rfl, hfz, hnd⟩ := hW
  have hA : DataW.TrodAll enc Tryz.prog W 0 (fun _ => true) true Tryz.f5.params.toList args.toList ds p := hA0
  rw [Tryz.params5] at hA hval
  obtain ⟨v0, vs0, d0, ds0, p0, q0, hargs, rfl, rfl, h0, t0⟩ := trodAll_cons hA
  obtain ⟨v1, vs1, d1, ds1, p1, q1, rfl, rfl, rfl, h1, t1⟩ := trodAll_cons t0
  obtain ⟨v2, vs2, d2, ds2, p2, q2, rfl, rfl, rfl, h2, t2⟩ := trodAll_cons t1
  obtain ⟨v3, vs3, d3, ds3, p3, q3, rfl, rfl, rfl, h3, t3⟩ := trodAll_cons t2
  obtain ⟨v4, vs4, d4, ds4, p4, q4, rfl, rfl, rfl, h4, t4⟩ := trodAll_cons t3
  obtain ⟨v5, vs5, d5, ds5, p5, q5, rfl, rfl, rfl, h5, t5⟩ := trodAll_cons t4
  obtain ⟨v6, vs6, d6, ds6, p6, q6, rfl, rfl, rfl, h6, t6⟩ := trodAll_cons t5
  obtain ⟨rfl, rfl, rfl⟩ := trodAll_nil t6
  obtain rfl : args = #[v0, v1, v2, v3, v4, v5, v6] := by cases args; simp_all
  obtain ⟨rfl, rfl⟩ := trodVars_none hV
  obtain ⟨n0, rfl, rfl, rfl, w0⟩ := open_int Tryz.underlying3 (hval 0 3 v0 rfl rfl) h0
  obtain ⟨l1, i1, z1⟩ := open_list (hval 1 22 v1 rfl rfl) h1
  obtain ⟨l2, i2, z2⟩ := open_list (hval 2 22 v2 rfl rfl) h2
  obtain ⟨l3, i3, z3⟩ := open_list (hval 3 22 v3 rfl rfl) h3
  obtain ⟨n4, rfl, rfl, rfl, w4⟩ := open_int Tryz.underlying3 (hval 4 3 v4 rfl rfl) h4
  obtain ⟨n5, rfl, rfl, rfl, w5⟩ := open_int Tryz.underlying3 (hval 5 3 v5 rfl rfl) h5
  obtain ⟨n6, rfl, rfl, rfl, w6⟩ := open_int Tryz.underlying3 (hval 6 3 v6 rfl rfl) h6
  refine (backIs_any v1 v2 v3 n0 l1 l2 l3 n4 n5 n6 W (i64_rng w0) i1 i2 i3 (i64_rng w4) (i64_rng w5) (i64_rng w6)).mono fun e W' ⟨he, hb⟩ => ?_
  subst he
  refine ⟨_, rfl, law_post hW' rfl (by kernel_rfl) hb rfl (fun sp hsp => ?_)⟩
  rw [Tryz.params5]
  simp only [List.append_nil] at hsp ⊢
  have hm : ∀ q, q ∈ p1 ∨ q ∈ p2 ∨ q ∈ p3 → sp q.block = true := fun q hq => hsp q (by simp only [List.mem_append]; exact .inr hq)
  have := trodAll_cons_mk (shut_int Tryz.underlying3 w0) (trodAll_cons_mk (z1 W' hb sp (fun q hq => hm q (.inl hq))) (trodAll_cons_mk (z2 W' hb sp (fun q hq => hm q (.inr (.inl hq)))) (trodAll_cons_mk (z3 W' hb sp (fun q hq => hm q (.inr (.inr hq)))) (trodAll_cons_mk (shut_int Tryz.underlying3 w4) (trodAll_cons_mk (shut_int Tryz.underlying3 w5) (trodAll_cons_mk (shut_int Tryz.underlying3 w6) (trodAll_mk0)))))))
  simpa only [List.append_nil, List.nil_append] using this
theorem backIs_holds : Rows.BackIsSaid :=
  OpenClaim.holds_of_wide 5 Tryz.f5 rfl rfl rfl rfl rfl rfl rfl ⟨rfl, rfl, rfl, rfl, rfl⟩ rfl rfl rfl rfl rfl (by kernel_rfl) Tryz.func5 (by kernel_rfl)
    (of_decide_eq_true (by kernel_rfl)) (by unfold Func.isWrapper; first | (rw [if_pos (by decide +kernel)]; kernel_rfl) | (rw [if_neg (by decide +kernel)]; exact ⟨rfl, rfl⟩))
    (fun os started H enc _ => backIs_holds_lifted os started H enc)
#print axioms backIs_holds
end Go.Proofs.YtcfjepcflanjbaaGreat
