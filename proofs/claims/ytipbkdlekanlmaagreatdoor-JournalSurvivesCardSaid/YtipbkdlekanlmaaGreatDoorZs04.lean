/- For all arguments the law JournalSurvives returns true, and leaves its arguments as they were; the two tables of constants hold what the program's text lays (the card ties them to it). -/
import Derived.Test.YtipbkdlekanlmaaGreatDoorZs03
import Derived.Test.YtipbkdlekanlmaaGreatDoorTie
import Derived.Test.YtipbkdlekanlmaaGreatDoorCards
import Derived.SevenTiedAt
namespace Go.Proofs.YtipbkdlekanlmaaGreatDoor
open Go Go.ChangeShapes Go.WideShapes Go.ChangeAt Go.RowKit Go.Lab Go.Jn
theorem consts_refJournalSurvives {H : Type} : (Rows.laid_dactyl_dactylref02_constants : DataW H) = .agg (ks0.map fun x => .lit (.int .u32 (wz x))) := by kernel_rfl
theorem var_hashJournalSurvives : Tryz.prog.globalNamed "dactyl/hash.constants" = some 2 := by kernel_rfl
theorem var_refJournalSurvives : Tryz.prog.globalNamed "dactyl/dactylref02.constants" = some 0 := by kernel_rfl
theorem type_hashJournalSurvives : (Tryz.prog.globals[2]?).map (·.type) = some 161 := by kernel_rfl
theorem type_refJournalSurvives : (Tryz.prog.globals[0]?).map (·.type) = some 161 := by kernel_rfl
theorem of_laidJournalSurvives {W : World} (h : laidMetH Tryz.prog Rows.journalSurvivesRow.laid W) : W.rangeAt 2 0 (u32C ks0) ∧ W.rangeAt 0 0 (u32C ks0) := by
  have h : laidMetH Tryz.prog [("dactyl/dactylref02.constants", Rows.laid_dactyl_dactylref02_constants), ("dactyl/hash.constants", Rows.laid_dactyl_hash_constants)] W := h
  rw [consts_hash, consts_refJournalSurvives] at h
  rw [MakeChecks.laidMetH_plain _ _ _ (by kernel_rfl)] at h
  obtain ⟨ps, ⟨g0, t0, cs0, f0, p0, q0, hg0, ht0, hv0, hd0, ⟨g1, t1, cs1, f1, p1, q1, hg1, ht1, hv1, hd1, _, _⟩, _⟩, _, _⟩ := h
  obtain rfl := Option.some.inj (var_refJournalSurvives.symm.trans hg0)
  obtain rfl := Option.some.inj (var_hashJournalSurvives.symm.trans hg1)
  obtain rfl := Option.some.inj (type_refJournalSurvives.symm.trans ht0)
  obtain rfl := Option.some.inj (type_hashJournalSurvives.symm.trans ht1)
  exact ⟨range_of_var hg1 hv1 (row_of_trod hd1), range_of_var hg0 hv0 (row_of_trod hd0)⟩
theorem doorJournalSurvives (os : Os) (args : Array Value) : laidMetH Tryz.prog Rows.journalSurvivesRow.laid ((World.doorLaid Tryz.prog 400 os).forCall (fun _ _ => 0) ⟨#[], args, []⟩).memory :=
  laidMetH_of_parts3 (fuel := 8) (laidMet_of_run' 8 (by kernel_rfl) (by kernel_rfl)) (by kernel_rfl) (by kernel_rfl)
set_option maxRecDepth 100000 in
theorem journalSurvives_lifted (os : Os) (started : os.Started) (H : Type) (enc : TypeId × Value → H) :
    ReturnsInHanded {} Tryz.checked os 5 .any (fun w args => (Rows.journalSurvivesSpec.pre enc Tryz.prog Tryz.f5 [] false w args ∧ laidMetH Tryz.prog Rows.journalSurvivesRow.laid w) ∧ sizedMet enc Tryz.prog Tryz.f5 (OpenSpec.ofChange Rows.journalSurvivesSpec) false w args)
      (Rows.journalSurvivesSpec.post enc Tryz.prog Tryz.f5 false true false false) := by
  refine returnsInHanded_of_change_and (C := Tryz.checked) (X := fun w _ => laidMetH Tryz.prog Rows.journalSurvivesRow.laid w) (fun _ _ _ hh h => h.of_heap hh) Tryz.own0 started (by kernel_rfl) Tryz.func5
    (ChangeSpec.witness_shaped (enc := enc) (C := Tryz.checked) (os := os) (X := fun w _ => laidMetH Tryz.prog Rows.journalSurvivesRow.laid w) false (World.doorLaid Tryz.prog 400 os) #[.int .i64 0, .slice none 0 0, .agg #[.int .i64 0, .int .i64 0, .int .i64 0, .int .i64 0, .int .u8 0, .slice none 0 0], .int .u8 0, .slice none 0 0] 8 rfl (World.shaped_of_RefB (by kernel_rfl) (by kernel_rfl)) (by kernel_rfl) (by kernel_rfl) (by kernel_rfl) (doorJournalSurvives os _)) ?_
  intro W base args ds gs before hval0 hW _ _ hL _
  have hval : ∀ (j : Nat) t v, Tryz.f5.params[j]? = some t → args[j]? = some v → Value.okWide Tryz.prog W .any base t v := hval0
  have hW' := hW
  have hlt : ∀ q ∈ before, q.block < W.heap.size := fun q hq => hW'.lt q hq
  obtain ⟨p, q, hA0, hV, rfl, hfz, hnd⟩ := hW
  have hA : DataW.TrodAll enc Tryz.prog W 0 (fun _ => true) true Tryz.f5.params.toList args.toList ds p := hA0
  rw [Tryz.params5] at hA hval
  obtain ⟨v0, vs0, d0, ds0, p0, q0, hargs, rfl, rfl, h0, t0⟩ := trodAll_cons hA
  obtain ⟨v1, vs1, d1, ds1, p1, q1, rfl, rfl, rfl, h1, t1⟩ := trodAll_cons t0
  obtain ⟨v2, vs2, d2, ds2, p2, q2, rfl, rfl, rfl, h2, t2⟩ := trodAll_cons t1
  obtain ⟨v3, vs3, d3, ds3, p3, q3, rfl, rfl, rfl, h3, t3⟩ := trodAll_cons t2
  obtain ⟨v4, vs4, d4, ds4, p4, q4, rfl, rfl, rfl, h4, t4⟩ := trodAll_cons t3
  obtain ⟨rfl, rfl, rfl⟩ := trodAll_nil t4
  obtain rfl : args = #[v0, v1, v2, v3, v4] := by cases args; simp_all
  obtain ⟨rfl, rfl⟩ := trodVars_none hV
  simp only [List.append_nil] at hlt
  obtain ⟨x0, rfl, i0⟩ := open_int_arg (hval 0 3 v0 rfl rfl) h0
  obtain ⟨x1, i1⟩ := open_steps_arg (hval 1 40 v1 rfl rfl) h1
  obtain ⟨x2, i2⟩ := open_step_arg (hval 2 56 v2 rfl rfl) h2
  obtain ⟨x3, rfl, i3⟩ := open_u8_arg (hval 3 5 v3 rfl rfl) h3
  obtain ⟨x4, i4⟩ := open_ints_arg (hval 4 51 v4 rfl rfl) h4
  obtain ⟨hk, hkr⟩ := of_laidJournalSurvives hL
  refine (survives_any v1 v2 v4 x0 x1 x2 x3 x4 W i0 i1 i2 i3 i4 hk hkr).mono fun e W' ⟨he, hb⟩ => ?_
  subst he
  refine ⟨_, rfl, law_post hW' rfl (by kernel_rfl) hb rfl (fun sp hsp => ?_)⟩
  rw [Tryz.params5]
  simp only [List.append_nil] at hsp ⊢
  have := trodAll_cons_mk (stays laidAll (by kernel_rfl) (of_decide_eq_true (by kernel_rfl)) h0 hb (fun x hx => hlt x (by simp [hx])) sp (fun x hx => hsp x (by simp [hx])))
    (trodAll_cons_mk (stays laidAll (by kernel_rfl) (of_decide_eq_true (by kernel_rfl)) h1 hb (fun x hx => hlt x (by simp [hx])) sp (fun x hx => hsp x (by simp [hx])))
    (trodAll_cons_mk (stays laidAll (by kernel_rfl) (of_decide_eq_true (by kernel_rfl)) h2 hb (fun x hx => hlt x (by simp [hx])) sp (fun x hx => hsp x (by simp [hx])))
    (trodAll_cons_mk (stays laidAll (by kernel_rfl) (of_decide_eq_true (by kernel_rfl)) h3 hb (fun x hx => hlt x (by simp [hx])) sp (fun x hx => hsp x (by simp [hx])))
    (trodAll_cons_mk (stays laidAll (by kernel_rfl) (of_decide_eq_true (by kernel_rfl)) h4 hb (fun x hx => hlt x (by simp [hx])) sp (fun x hx => hsp x (by simp [hx])))
    (trodAll_mk0)))))
  simpa only [List.append_nil, List.nil_append] using this
theorem journalSurvives_row : Rows.JournalSurvivesSaid :=
  OpenClaim.holds_of_wide 5 Tryz.f5 rfl rfl rfl rfl rfl rfl rfl ⟨rfl, rfl, rfl, rfl, rfl⟩ rfl rfl rfl rfl rfl (by kernel_rfl) Tryz.func5 (by kernel_rfl)
    (of_decide_eq_true (by kernel_rfl)) (by unfold Func.isWrapper; first | (rw [if_pos (by decide +kernel)]; kernel_rfl) | (rw [if_neg (by decide +kernel)]; exact ⟨rfl, rfl⟩))
    (fun os started H enc _ => journalSurvives_lifted os started H enc)
theorem journalSurvives_holds : Rows.JournalSurvivesCardSaid :=
  Claim7.holds_tied_plain_at .later [] [.data, .data] true (true, "22c8e39565bc72071ebc8370b24b504bba6d9bec0ceb773fe92d744f431bc6cd") false
    journalSurvives_row (fun _ h => by cases h) (by kernel_rfl) (fun _ h => by cases h) journalSurvives_row_tie rfl ⟨rfl, rfl⟩ (by kernel_rfl) rfl
    (fun f fn hf hfn => by
      obtain rfl : f = 5 := Option.some.inj ((show Tryz.prog.funcNamed "dactyl/dactyllaw39.JournalSurvives" = some 5 by kernel_rfl).symm.trans hf) |>.symm
      obtain rfl : fn = Tryz.f5 := (Option.some.inj (Tryz.func5.symm.trans hfn)).symm
      exact ⟨by kernel_rfl, fun j t ht => by
        rw [Tryz.params5] at ht
        have hm : t ∈ [3, 40, 56, 5, 51] := by simpa using Array.mem_of_getElem? ht
        have hall : ([3, 40, 56, 5, 51].all fun u => !Tryz.prog.wantsStandIn u) = true := by kernel_rfl
        exact (show Tryz.prog.wantsStandIn t = false by simpa using List.all_eq_true.1 hall t hm)⟩)
    (by kernel_rfl)
#print axioms journalSurvives_holds
end Go.Proofs.YtipbkdlekanlmaaGreatDoor
