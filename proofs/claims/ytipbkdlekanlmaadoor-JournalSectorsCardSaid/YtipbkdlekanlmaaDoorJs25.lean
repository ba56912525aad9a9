/- For every number and text and every sector the law JournalSectors returns true, and leaves its arguments as they were; the two tables of constants hold what the program's text lays (the card ties them to it). -/
import Derived.Test.YtipbkdlekanlmaaDoorJs24
import Derived.Test.YtipbkdlekanlmaaDoorTie
import Derived.Test.YtipbkdlekanlmaaDoorCards
import Derived.SevenTiedAt
namespace Go.Proofs.YtipbkdlekanlmaaDoor
open Go Go.ChangeShapes Go.WideShapes Go.ChangeAt Go.RowKit Go.Lab Go.Jn
theorem consts_ref {H : Type} : (Rows.laid_dactyl_dactylref02_constants : DataW H) = .agg (ks0.map fun x => .lit (.int .u32 (wz x))) := by kernel_rfl
theorem var_hash : Tryd.prog.globalNamed "dactyl/hash.constants" = some 2 := by kernel_rfl
theorem var_ref : Tryd.prog.globalNamed "dactyl/dactylref02.constants" = some 0 := by kernel_rfl
theorem type_hash : (Tryd.prog.globals[2]?).map (·.type) = some 123 := by kernel_rfl
theorem type_ref : (Tryd.prog.globals[0]?).map (·.type) = some 123 := by kernel_rfl
theorem of_laid_sectors {W : World} (h : laidMetH Tryd.prog Rows.journalSectorsRow.laid W) : W.rangeAt 2 0 (u32C ks0) ∧ W.rangeAt 0 0 (u32C ks0) := by
  have h : laidMetH Tryd.prog [("dactyl/dactylref02.constants", Rows.laid_dactyl_dactylref02_constants), ("dactyl/hash.constants", Rows.laid_dactyl_hash_constants)] W := h
  rw [consts_hash, consts_ref] at h
  rw [MakeChecks.laidMetH_plain _ _ _ (by kernel_rfl)] at h
  obtain ⟨ps, ⟨g0, t0, cs0, f0, p0, q0, hg0, ht0, hv0, hd0, ⟨g1, t1, cs1, f1, p1, q1, hg1, ht1, hv1, hd1, _, _⟩, _⟩, _, _⟩ := h
  obtain rfl := Option.some.inj (var_ref.symm.trans hg0)
  obtain rfl := Option.some.inj (var_hash.symm.trans hg1)
  obtain rfl := Option.some.inj (type_ref.symm.trans ht0)
  obtain rfl := Option.some.inj (type_hash.symm.trans ht1)
  exact ⟨range_of_var hg1 hv1 (row_of_trod hd1), range_of_var hg0 hv0 (row_of_trod hd0)⟩
theorem door_sectors (os : Os) (args : Array Value) : laidMetH Tryd.prog Rows.journalSectorsRow.laid ((World.doorLaid Tryd.prog 400 os).forCall (fun _ _ => 0) ⟨#[], args, []⟩).memory :=
  laidMetH_of_parts3 (fuel := 8) (laidMet_of_run' 8 (by kernel_rfl) (by kernel_rfl)) (by kernel_rfl) (by kernel_rfl)
set_option maxRecDepth 100000 in
theorem sectors_lifted (os : Os) (started : os.Started) (H : Type) (enc : TypeId × Value → H) :
    ReturnsInHanded {} Tryd.checked os 3 .any (fun w args => (Rows.journalSectorsSpec.pre enc Tryd.prog Tryd.f3 [] false w args ∧ laidMetH Tryd.prog Rows.journalSectorsRow.laid w) ∧ sizedMet enc Tryd.prog Tryd.f3 (OpenSpec.ofChange Rows.journalSectorsSpec) false w args)
      (Rows.journalSectorsSpec.post enc Tryd.prog Tryd.f3 false true false false) := by
  refine returnsInHanded_of_change_and (C := Tryd.checked) (X := fun w _ => laidMetH Tryd.prog Rows.journalSectorsRow.laid w) (fun _ _ _ hh h => h.of_heap hh) Tryd.own0 started (by kernel_rfl) Tryd.func3
    (ChangeSpec.witness_shaped (enc := enc) (C := Tryd.checked) (os := os) (X := fun w _ => laidMetH Tryd.prog Rows.journalSectorsRow.laid w) false (World.doorLaid Tryd.prog 400 os) #[.int .i64 0, .string ByteArray.empty, .string ByteArray.empty] 8 rfl (World.shaped_of_RefB (by kernel_rfl) (by kernel_rfl)) (by kernel_rfl) (by kernel_rfl) (by kernel_rfl) (door_sectors os _)) ?_
  intro W base args ds gs before hval0 hW _ _ hL _
  have hval : ∀ (j : Nat) t v, Tryd.f3.params[j]? = some t → args[j]? = some v → Value.okWide Tryd.prog W .any base t v := hval0
  have hW' := hW
  have hlt : ∀ q ∈ before, q.block < W.heap.size := fun q hq => hW'.lt q hq
  obtain ⟨p, q, hA0, hV, rfl, hfz, hnd⟩ := hW
  have hA : DataW.TrodAll enc Tryd.prog W 0 (fun _ => true) true Tryd.f3.params.toList args.toList ds p := hA0
  rw [Tryd.params3] at hA hval
  obtain ⟨v0, vs0, d0, ds0, p0, q0, hargs, rfl, rfl, h0, t0⟩ := trodAll_cons hA
  obtain ⟨v1, vs1, d1, ds1, p1, q1, rfl, rfl, rfl, h1, t1⟩ := trodAll_cons t0
  obtain ⟨v2, vs2, d2, ds2, p2, q2, rfl, rfl, rfl, h2, t2⟩ := trodAll_cons t1
  obtain ⟨rfl, rfl, rfl⟩ := trodAll_nil t2
  obtain rfl : args = #[v0, v1, v2] := by cases args; simp_all
  obtain ⟨rfl, rfl⟩ := trodVars_none hV
  simp only [List.append_nil] at hlt
  obtain ⟨x0, rfl, i0⟩ := open_int_arg (hval 0 3 v0 rfl rfl) h0
  obtain ⟨x1, rfl, i1⟩ := open_str_arg (hval 1 9 v1 rfl rfl) h1
  obtain ⟨x2, rfl, i2⟩ := open_str_arg (hval 2 9 v2 rfl rfl) h2
  obtain ⟨hk, hkr⟩ := of_laid_sectors hL
  refine (sectors_any x0 x1 x2 W i0 i1 hk hkr).mono fun e W' ⟨he, hb⟩ => ?_
  subst he
  refine ⟨_, rfl, law_post hW' rfl (by kernel_rfl) hb rfl (fun sp hsp => ?_)⟩
  rw [Tryd.params3]
  simp only [List.append_nil] at hsp ⊢
  have := trodAll_cons_mk (stays laidAll (by kernel_rfl) (of_decide_eq_true (by kernel_rfl)) h0 hb (fun x hx => hlt x (by simp [hx])) sp (fun x hx => hsp x (by simp [hx])))
    (trodAll_cons_mk (stays laidAll (by kernel_rfl) (of_decide_eq_true (by kernel_rfl)) h1 hb (fun x hx => hlt x (by simp [hx])) sp (fun x hx => hsp x (by simp [hx])))
    (trodAll_cons_mk (stays laidAll (by kernel_rfl) (of_decide_eq_true (by kernel_rfl)) h2 hb (fun x hx => hlt x (by simp [hx])) sp (fun x hx => hsp x (by simp [hx])))
    (trodAll_mk0)))
  simpa only [List.append_nil, List.nil_append] using this
theorem journalSectors_row : Rows.JournalSectorsSaid :=
  OpenClaim.holds_of_wide 3 Tryd.f3 rfl rfl rfl rfl rfl rfl rfl ⟨rfl, rfl, rfl, rfl, rfl⟩ rfl rfl rfl rfl rfl (by kernel_rfl) Tryd.func3 (by kernel_rfl)
    (of_decide_eq_true (by kernel_rfl)) (by unfold Func.isWrapper; first | (rw [if_pos (by decide +kernel)]; kernel_rfl) | (rw [if_neg (by decide +kernel)]; exact ⟨rfl, rfl⟩))
    (fun os started H enc _ => sectors_lifted os started H enc)
theorem journalSectors_holds : Rows.JournalSectorsCardSaid :=
  Claim7.holds_tied_plain_at .later [] [.data, .data] true (true, "944569c68af1a9aef67efd469778c53f26c35682ea6fe790af4ba7e3a0dad559") false
    journalSectors_row (fun _ h => by cases h) (by kernel_rfl) (fun _ h => by cases h) journalSectors_row_tie rfl ⟨rfl, rfl⟩ (by kernel_rfl) rfl
    (fun f fn hf hfn => by
      obtain rfl : f = 3 := Option.some.inj ((show Tryd.prog.funcNamed "dactyl/dactyllaw39.JournalSectors" = some 3 by kernel_rfl).symm.trans hf) |>.symm
      obtain rfl : fn = Tryd.f3 := (Option.some.inj (Tryd.func3.symm.trans hfn)).symm
      exact ⟨by kernel_rfl, fun j t ht => by
        rw [Tryd.params3] at ht
        have hm : t ∈ [3, 9] := by simpa using Array.mem_of_getElem? ht
        have hall : ([3, 9].all fun u => !Tryd.prog.wantsStandIn u) = true := by kernel_rfl
        exact (show Tryd.prog.wantsStandIn t = false by simpa using List.all_eq_true.1 hall t hm)⟩)
    (by kernel_rfl)
#print axioms journalSectors_holds
end Go.Proofs.YtipbkdlekanlmaaDoor
