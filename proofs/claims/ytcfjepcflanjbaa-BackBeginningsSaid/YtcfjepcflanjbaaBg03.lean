/- For all arguments (lists of ints, ints, bools and texts) the law BackBeginnings returns true, and leaves its arguments as they were: no condition: the given statement. -/
import Derived.Test.YtcfjepcflanjbaaBg01
import Derived.Test.YtcfjepcflanjbaaBg02
namespace Go.Proofs.Ytcfjepcflanjbaa
open Go.ChangeShapes Go.WideShapes Go.ChangeAt Go.RowKit Go.Lab
set_option maxRecDepth 100000 in
theorem backBeginnings_holds_lifted (os : Os) (started : os.Started) (H : Type) (enc : TypeId × Value → H) :
    ReturnsInHanded {} Try.checked os 3 .any (Rows.backBeginningsSpec.pre6 enc Try.prog Try.f3 Rows.backBeginningsRow.domain false) (Rows.backBeginningsSpec.post enc Try.prog Try.f3 false true false false) := by
  refine returnsInHanded_of_change (C := Try.checked) Try.own0 started (by kernel_rfl) Try.func3
    (ChangeSpec.witness6 (enc := enc) (C := Try.checked) false ⟨#[], #[.int .i64 0, .slice none 0 0, .slice none 0 0, .int .i64 0, .int .i64 0, .int .i64 0, .slice none 0 0], []⟩ 8 (by kernel_rfl) (by kernel_rfl) (by kernel_rfl) (by kernel_rfl)) ?_
  intro W base args ds gs before hval0 hW _ _
  have hval : ∀ (j : Nat) t v, Try.f3.params[j]? = some t → args[j]? = some v → Value.okWide Try.prog W .any base t v := hval0
  have hW' := hW
  obtain ⟨p, q, hA0, hV, rfl, hfz, hnd⟩ := hW
  have hA : DataW.TrodAll enc Try.prog W 0 (fun _ => true) true Try.f3.params.toList args.toList ds p := hA0
  rw [Try.params3] at hA hval
  obtain ⟨v0, vs0, d0, ds0, p0, q0, hargs, rfl, rfl, h0, t0⟩ := trodAll_cons hA
  obtain ⟨v1, vs1, d1, ds1, p1, q1, rfl, rfl, rfl, h1, t1⟩ := trodAll_cons t0
  obtain ⟨v2, vs2, d2, ds2, p2, q2, rfl, rfl, rfl, h2, t2⟩ := trodAll_cons t1
  obtain ⟨v3, vs3, d3, ds3, p3, q3, rfl, rfl, rfl, h3, t3⟩ := trodAll_cons t2
  obtain ⟨v4, vs4, d4, ds4, p4, q4, rfl, rfl, rfl, h4, t4⟩ := trodAll_cons t3
  obtain ⟨v5, vs5, d5, ds5, p5, q5, rfl, rfl, rfl, h5, t5⟩ := trodAll_cons t4
  obtain ⟨v6, vs6, d6, ds6, p6, q6, rfl, rfl, rfl, h6, t6⟩ := trodAll_cons t5
  obtain ⟨rfl, rfl, rfl⟩ := trodAll_nil t6
  obtain rfl : args = #[v0, v1, v2, v3, v4, v5, v6] := by cases args; simp_all
  obtain ⟨rfl, rfl⟩ := trodVars_none hV
  obtain ⟨n0, rfl, rfl, rfl, w0⟩ := open_int Try.underlying3 (hval 0 3 v0 rfl rfl) h0
  obtain ⟨l1, i1, z1⟩ := open_list (hval 1 22 v1 rfl rfl) h1
  obtain ⟨l2, i2, z2⟩ := open_list (hval 2 22 v2 rfl rfl) h2
  obtain ⟨n3, rfl, rfl, rfl, w3⟩ := open_int Try.underlying3 (hval 3 3 v3 rfl rfl) h3
  obtain ⟨n4, rfl, rfl, rfl, w4⟩ := open_int Try.underlying3 (hval 4 3 v4 rfl rfl) h4
  obtain ⟨n5, rfl, rfl, rfl, w5⟩ := open_int Try.underlying3 (hval 5 3 v5 rfl rfl) h5
  obtain ⟨l6, i6, z6⟩ := open_byts (hval 6 23 v6 rfl rfl) h6 (fun x hx => hW'.lt x (by simp only [List.mem_append]; simp [hx]))
  refine (backBeginnings_any v1 v2 v6 l1 l2 l6 n0 n3 n4 n5 W i1 i2 i6 (i64_rng w0) (i64_rng w3) (i64_rng w4) (i64_rng w5)).mono fun e W' ⟨he, hb⟩ => ?_
  subst he
  refine ⟨_, rfl, law_post hW' rfl (by kernel_rfl) hb rfl (fun sp hsp => ?_)⟩
  rw [Try.params3]
  simp only [List.append_nil] at hsp ⊢
  have hm : ∀ q, q ∈ p1 ∨ q ∈ p2 ∨ q ∈ p6 → sp q.block = true := fun q hq => hsp q (by first | (simp only [List.mem_append]; exact hq) | (simp only [List.mem_append, List.not_mem_nil, false_or]; exact hq) | exact hq)
  have := trodAll_cons_mk (shut_int Try.underlying3 w0) (trodAll_cons_mk (z1 W' hb sp (fun q hq => hm q (.inl hq))) (trodAll_cons_mk (z2 W' hb sp (fun q hq => hm q (.inr (.inl hq)))) (trodAll_cons_mk (shut_int Try.underlying3 w3) (trodAll_cons_mk (shut_int Try.underlying3 w4) (trodAll_cons_mk (shut_int Try.underlying3 w5) (trodAll_cons_mk (z6 W' hb sp (fun q hq => hm q (.inr (.inr hq)))) (trodAll_mk0)))))))
  simpa only [List.append_nil, List.nil_append] using this
theorem backBeginnings_holds : Rows.BackBeginningsSaid :=
  OpenClaim.holds_of_wide 3 Try.f3 rfl rfl rfl rfl rfl rfl rfl ⟨rfl, rfl, rfl, rfl, rfl⟩ rfl rfl rfl rfl rfl (by kernel_rfl) Try.func3 (by kernel_rfl)
    (of_decide_eq_true (by kernel_rfl)) (by unfold Func.isWrapper; first | (rw [if_pos (by decide +kernel)]; kernel_rfl) | (rw [if_neg (by decide +kernel)]; exact ⟨rfl, rfl⟩))
    (fun os started H enc _ => backBeginnings_holds_lifted os started H enc)
#print axioms backBeginnings_holds
end Go.Proofs.Ytcfjepcflanjbaa
