/- For all arguments the law DiskRots returns true, and leaves its arguments as they were: no condition: the given statement. -/
import Derived.Test.YtmgogmjkoealoaaDkS6
namespace Go.Proofs.Ytmgogmjkoealoaa
open Go.ChangeShapes Go.WideShapes Go.ChangeAt Go.RowKit Go.Lab
set_option maxRecDepth 100000 in
theorem diskRots_holds_lifted (os : Os) (started : os.Started) (H : Type) (enc : TypeId × Value → H) :
    ReturnsInHanded {} Try.checked os 7 .any (Rows.diskRotsSpec.pre6 enc Try.prog Try.f7 Rows.diskRotsRow.domain false) (Rows.diskRotsSpec.post enc Try.prog Try.f7 false true false false) := by
  refine returnsInHanded_of_change (C := Try.checked) Try.own0 started (by kernel_rfl) Try.func7
    (ChangeSpec.witness6 (enc := enc) (C := Try.checked) false ⟨#[], #[.int .i64 0, .slice none 0 0, .int .i64 0, .int .i64 0], []⟩ 8 (by kernel_rfl) (by kernel_rfl) (by kernel_rfl) (by kernel_rfl)) ?_
  intro W base args ds gs before hval0 hW _ _
  have hval : ∀ (j : Nat) t v, Try.f7.params[j]? = some t → args[j]? = some v → Value.okWide Try.prog W .any base t v := hval0
  have hW' := hW
  have hlt : ∀ q ∈ before, q.block < W.heap.size := fun q hq => hW'.lt q hq
  obtain ⟨p, q, hA0, hV, rfl, hfz, hnd⟩ := hW
  have hA : DataW.TrodAll enc Try.prog W 0 (fun _ => true) true Try.f7.params.toList args.toList ds p := hA0
  rw [Try.params7] at hA hval
  obtain ⟨v0, vs0, d0, ds0, p0, q0, hargs, rfl, rfl, h0, t0⟩ := trodAll_cons hA
  obtain ⟨v1, vs1, d1, ds1, p1, q1, rfl, rfl, rfl, h1, t1⟩ := trodAll_cons t0
  obtain ⟨v2, vs2, d2, ds2, p2, q2, rfl, rfl, rfl, h2, t2⟩ := trodAll_cons t1
  obtain ⟨v3, vs3, d3, ds3, p3, q3, rfl, rfl, rfl, h3, t3⟩ := trodAll_cons t2
  obtain ⟨rfl, rfl, rfl⟩ := trodAll_nil t3
  obtain rfl : args = #[v0, v1, v2, v3] := by cases args; simp_all
  obtain ⟨rfl, rfl⟩ := trodVars_none hV
  simp only [List.append_nil] at hlt
  obtain ⟨x0, rfl, i0⟩ := open_int_arg (hval 0 3 v0 rfl rfl) h0
  obtain ⟨x1, i1⟩ := open_ops_arg (hval 1 22 v1 rfl rfl) h1
  obtain ⟨x2, rfl, i2⟩ := open_int_arg (hval 2 3 v2 rfl rfl) h2
  obtain ⟨x3, rfl, i3⟩ := open_int_arg (hval 3 3 v3 rfl rfl) h3
  refine (rots_any v1 x0 x1 x2 x3 W i0 i1 i2 i3).mono fun e W' ⟨he, hb⟩ => ?_
  subst he
  refine ⟨_, rfl, law_post hW' rfl (by kernel_rfl) hb rfl (fun sp hsp => ?_)⟩
  rw [Try.params7]
  simp only [List.append_nil] at hsp ⊢
  have := trodAll_cons_mk (stays laidAll (by kernel_rfl) (of_decide_eq_true (by kernel_rfl)) h0 hb (fun x hx => hlt x (by simp [hx])) sp (fun x hx => hsp x (by simp [hx])))
    (trodAll_cons_mk (stays laidAll (by kernel_rfl) (of_decide_eq_true (by kernel_rfl)) h1 hb (fun x hx => hlt x (by simp [hx])) sp (fun x hx => hsp x (by simp [hx])))
    (trodAll_cons_mk (stays laidAll (by kernel_rfl) (of_decide_eq_true (by kernel_rfl)) h2 hb (fun x hx => hlt x (by simp [hx])) sp (fun x hx => hsp x (by simp [hx])))
    (trodAll_cons_mk (stays laidAll (by kernel_rfl) (of_decide_eq_true (by kernel_rfl)) h3 hb (fun x hx => hlt x (by simp [hx])) sp (fun x hx => hsp x (by simp [hx])))
    (trodAll_mk0))))
  simpa only [List.append_nil, List.nil_append] using this
theorem diskRots_holds : Rows.DiskRotsSaid :=
  OpenClaim.holds_of_wide 7 Try.f7 rfl rfl rfl rfl rfl rfl rfl ⟨rfl, rfl, rfl, rfl, rfl⟩ rfl rfl rfl rfl rfl (by kernel_rfl) Try.func7 (by kernel_rfl)
    (of_decide_eq_true (by kernel_rfl)) (by unfold Func.isWrapper; first | (rw [if_pos (by decide +kernel)]; kernel_rfl) | (rw [if_neg (by decide +kernel)]; exact ⟨rfl, rfl⟩))
    (fun os started H enc _ => diskRots_holds_lifted os started H enc)
#print axioms diskRots_holds
end Go.Proofs.Ytmgogmjkoealoaa
