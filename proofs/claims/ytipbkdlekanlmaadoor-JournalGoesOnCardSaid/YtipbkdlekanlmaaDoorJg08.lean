/- For every number of sectors, list of steps and list of worn sectors the law JournalGoesOn returns true, and leaves its arguments as they were; the table of constants holds what the program's text lays (the card ties it to it). -/
import Derived.Test.YtipbkdlekanlmaaDoorJg07
import Derived.Test.YtipbkdlekanlmaaDoorTie
import Derived.Test.YtipbkdlekanlmaaDoorCards
import Derived.SevenTiedAt
namespace Go.Proofs.YtipbkdlekanlmaaDoor
open Go Go.ChangeShapes Go.WideShapes Go.ChangeAt Go.RowKit Go.Lab Go.Jn
theorem var_hashG : Tryd.prog.globalNamed "dactyl/hash.constants" = some 2 := by kernel_rfl
theorem type_hashG : (Tryd.prog.globals[2]?).map (·.type) = some 123 := by kernel_rfl
theorem of_laid_goes {W : World} (h : laidMetH Tryd.prog Rows.journalGoesOnRow.laid W) : W.rangeAt 2 0 (u32C ks0) := by
  have h : laidMetH Tryd.prog [("dactyl/hash.constants", Rows.laid_dactyl_hash_constants)] W := h
  rw [consts_hash] at h
  rw [MakeChecks.laidMetH_plain _ _ _ (by kernel_rfl)] at h
  obtain ⟨ps, ⟨g1, t1, cs1, f1, p1, q1, hg1, ht1, hv1, hd1, _, _⟩, _, _⟩ := h
  obtain rfl := Option.some.inj (var_hashG.symm.trans hg1)
  obtain rfl := Option.some.inj (type_hashG.symm.trans ht1)
  exact range_of_var hg1 hv1 (row_of_trod hd1)
theorem door_goes (os : Os) (args : Array Value) : laidMetH Tryd.prog Rows.journalGoesOnRow.laid ((World.doorLaid Tryd.prog 400 os).forCall (fun _ _ => 0) ⟨#[], args, []⟩).memory :=
  laidMetH_of_parts3 (fuel := 8) (laidMet_of_run' 8 (by kernel_rfl) (by kernel_rfl)) (by kernel_rfl) (by kernel_rfl)
set_option maxRecDepth 100000 in
theorem goes_lifted (os : Os) (started : os.Started) (H : Type) (enc : TypeId × Value → H) :
    ReturnsInHanded {} Tryd.checked os 4 .any (fun w args => (Rows.journalGoesOnSpec.pre enc Tryd.prog Tryd.f4 [] false w args ∧ laidMetH Tryd.prog Rows.journalGoesOnRow.laid w) ∧ sizedMet enc Tryd.prog Tryd.f4 (OpenSpec.ofChange Rows.journalGoesOnSpec) false w args)
      (Rows.journalGoesOnSpec.post enc Tryd.prog Tryd.f4 false true false false) := by
  refine returnsInHanded_of_change_and (C := Tryd.checked) (X := fun w _ => laidMetH Tryd.prog Rows.journalGoesOnRow.laid w) (fun _ _ _ hh h => h.of_heap hh) Tryd.own0 started (by kernel_rfl) Tryd.func4
    (ChangeSpec.witness_shaped (enc := enc) (C := Tryd.checked) (os := os) (X := fun w _ => laidMetH Tryd.prog Rows.journalGoesOnRow.laid w) false (World.doorLaid Tryd.prog 400 os) #[.int .i64 0, .slice none 0 0, .slice none 0 0] 8 rfl (World.shaped_of_RefB (by kernel_rfl) (by kernel_rfl)) (by kernel_rfl) (by kernel_rfl) (by kernel_rfl) (door_goes os _)) ?_
  intro W base args ds gs before hval0 hW _ _ hL _
  have hval : ∀ (j : Nat) t v, Tryd.f4.params[j]? = some t → args[j]? = some v → Value.okWide Tryd.prog W .any base t v := hval0
  have hW' := hW
  have hlt : ∀ q ∈ before, q.block < W.heap.size := fun q hq => hW'.lt q hq
  obtain ⟨p, q, hA0, hV, rfl, hfz, hnd⟩ := hW
  have hA : DataW.TrodAll enc Tryd.prog W 0 (fun _ => true) true Tryd.f4.params.toList args.toList ds p := hA0
  rw [Tryd.params4] at hA hval
  obtain ⟨v0, vs0, d0, ds0, p0, q0, hargs, rfl, rfl, h0, t0⟩ := trodAll_cons hA
  obtain ⟨v1, vs1, d1, ds1, p1, q1, rfl, rfl, rfl, h1, t1⟩ := trodAll_cons t0
  obtain ⟨v2, vs2, d2, ds2, p2, q2, rfl, rfl, rfl, h2, t2⟩ := trodAll_cons t1
  obtain ⟨rfl, rfl, rfl⟩ := trodAll_nil t2
  obtain rfl : args = #[v0, v1, v2] := by cases args; simp_all
  obtain ⟨rfl, rfl⟩ := trodVars_none hV
  simp only [List.append_nil] at hlt
  obtain ⟨x0, rfl, i0⟩ := open_int_arg (hval 0 3 v0 rfl rfl) h0
  obtain ⟨x1, i1⟩ := open_steps_arg (hval 1 35 v1 rfl rfl) h1
  obtain ⟨x2, i2⟩ := open_bytes_arg (hval 2 36 v2 rfl rfl) h2
  refine (goes_any x0 v1 v2 x1 x2 W i0 i1 i2 (of_laid_goes hL)).mono fun e W' ⟨he, hb⟩ => ?_
  subst he
  refine ⟨_, rfl, law_post hW' rfl (by kernel_rfl) hb rfl (fun sp hsp => ?_)⟩
  rw [Tryd.params4]
  simp only [List.append_nil] at hsp ⊢
  have := trodAll_cons_mk (stays laidAll (by kernel_rfl) (of_decide_eq_true (by kernel_rfl)) h0 hb (fun x hx => hlt x (by simp [hx])) sp (fun x hx => hsp x (by simp [hx])))
    (trodAll_cons_mk (stays laidAll (by kernel_rfl) (of_decide_eq_true (by kernel_rfl)) h1 hb (fun x hx => hlt x (by simp [hx])) sp (fun x hx => hsp x (by simp [hx])))
    (trodAll_cons_mk (stays laidAll (by kernel_rfl) (of_decide_eq_true (by kernel_rfl)) h2 hb (fun x hx => hlt x (by simp [hx])) sp (fun x hx => hsp x (by simp [hx])))
    (trodAll_mk0)))
  simpa only [List.append_nil, List.nil_append] using this
theorem journalGoesOn_row : Rows.JournalGoesOnSaid :=
  OpenClaim.holds_of_wide 4 Tryd.f4 rfl rfl rfl rfl rfl rfl rfl ⟨rfl, rfl, rfl, rfl, rfl⟩ rfl rfl rfl rfl rfl (by kernel_rfl) Tryd.func4 (by kernel_rfl)
    (of_decide_eq_true (by kernel_rfl)) (by unfold Func.isWrapper; first | (rw [if_pos (by decide +kernel)]; kernel_rfl) | (rw [if_neg (by decide +kernel)]; exact ⟨rfl, rfl⟩))
    (fun os started H enc _ => goes_lifted os started H enc)
theorem journalGoesOn_holds : Rows.JournalGoesOnCardSaid :=
  Claim7.holds_tied_plain_at .later [] [.data] true (true, "944569c68af1a9aef67efd469778c53f26c35682ea6fe790af4ba7e3a0dad559") false
    journalGoesOn_row (fun _ h => by cases h) (by kernel_rfl) (fun _ h => by cases h) journalGoesOn_row_tie rfl ⟨rfl, rfl⟩ (by kernel_rfl) rfl
    (fun f fn hf hfn => by
      obtain rfl : f = 4 := Option.some.inj ((show Tryd.prog.funcNamed "dactyl/dactyllaw39.JournalGoesOn" = some 4 by kernel_rfl).symm.trans hf) |>.symm
      obtain rfl : fn = Tryd.f4 := (Option.some.inj (Tryd.func4.symm.trans hfn)).symm
      exact ⟨by kernel_rfl, fun j t ht => by
        rw [Tryd.params4] at ht
        have hm : t ∈ [3, 35, 36] := by simpa using Array.mem_of_getElem? ht
        have hall : ([3, 35, 36].all fun u => !Tryd.prog.wantsStandIn u) = true := by kernel_rfl
        exact (show Tryd.prog.wantsStandIn t = false by simpa using List.all_eq_true.1 hall t hm)⟩)
    (by kernel_rfl)
#print axioms journalGoesOn_holds
end Go.Proofs.YtipbkdlekanlmaaDoor
