/- For all arguments (lists of ints, ints, bools and texts) the law BackReads returns true, and leaves its arguments as they were: no condition: the given statement. -/
import Derived.Test.YtcfjepcflanjbaaGreatBr54
import Derived.Test.YtcfjepcflanjbaaGreatBr55
namespace Go.Proofs.YtcfjepcflanjbaaGreat
open Go.ChangeShapes Go.WideShapes Go.ChangeAt Go.RowKit Go.Lab
set_option maxRecDepth 100000 in
theorem backReads_holds_lifted (os : Os) (started : os.Started) (H : Type) (enc : TypeId × Value -> H) :
    ReturnsInHanded {} Tryz.checked os 4 .any (Rows.backReadsSpec.pre6 enc Tryz.prog Tryz.f4 Rows.backReadsRow.domain false) (Rows.backReadsSpec.post enc Tryz.prog Tryz.f4 false true false false) := by
  refine returnsInHanded_of_change (C := Tryz.checked) Tryz.own0 started (by kernel_rfl) Tryz.func4
    (ChangeSpec.witness6 (enc := enc) (C := Tryz.checked) false ⟨#[], #[.int .i64 0, .slice none 0 0, .slice none 0 0, .int .i64 0, .int .i64 0, .int .i64 0, .slice none 0 0], []⟩ 8 (by kernel_rfl) (by kernel_rfl) (by kernel_rfl) (by kernel_rfl)) ?_
  intro W base args ds gs before hval0 hW _ _
  have hval : ∀ (j : Nat) t v, Tryz.f4.params[j]? = some t -> args[j]? = some v -> Value.okWide Tryz.prog W .any base t v := hval0
  have hW' := hW
  obtain ⟨p, q, hA0, hV, rfl, hfz, hnd⟩ := hW
  have hA : DataW.TrodAll enc Tryz.prog W 0 (fun _ => true) true Tryz.f4.params.toList args.toList ds p := hA0
  rw [Tryz.params4] at hA hval
  obtain ⟨v0, vs0, d0, ds0, p0, q0, hargs, rfl, rfl, h0, t0⟩ := trodAll_cons hA
  obtain ⟨v1, vs1, d1, ds1, p1, q1, rfl, rfl, rfl, h1, t1⟩ := trodAll_cons t0
  obtain ⟨v2, vs2, d2, ds2, p2, q2, rfl, rfl, rfl, h2, t2⟩ := trodAll_cons t1
  obtain ⟨v3, vs3, d3, ds3, p3, q3, rfl, rfl, rfl, h3, t3⟩ := trodAll_cons t2
  obtain ⟨v4, vs4, d4, ds4, p4, q4, rfl, rfl, rfl, h4, t4⟩ := trodAll_cons t3
  obtain ⟨v5, vs5, d5, ds5, p5, q5, rfl, rfl, rfl, h5, t5⟩ := trodAll_cons t4
  obtain ⟨v6, vs6, d6, ds6, p6, q6, rfl, rfl, rfl, h6, t6⟩ := trodAll_cons t5
  obtain ⟨rfl, rfl, rfl⟩ := trodAll_nil t6
  obtain rfl : args = #[v0, v1, v2, v3, v4, v5, v6] := by cases args; simp_all
  obtain ⟨rfl, rfl⟩ := trodVars_none hV
  obtain ⟨n0, rfl, rfl, rfl, w0⟩ := open_int Tryz.underlying3 (hval 0 3 v0 rfl rfl) h0
  obtain ⟨l1, i1, z1⟩ := open_list (hval 1 22 v1 rfl rfl) h1
  obtain ⟨l2, i2, z2⟩ := open_list (hval 2 22 v2 rfl rfl) h2
  obtain ⟨n3, rfl, rfl, rfl, w3⟩ := open_int Tryz.underlying3 (hval 3 3 v3 rfl rfl) h3
  obtain ⟨n4, rfl, rfl, rfl, w4⟩ := open_int Tryz.underlying3 (hval 4 3 v4 rfl rfl) h4
  obtain ⟨n5, rfl, rfl, rfl, w5⟩ := open_int Tryz.underlying3 (hval 5 3 v5 rfl rfl) h5
  obtain ⟨l6, i6, z6⟩ := open_byts (hval 6 23 v6 rfl rfl) h6 (fun x hx => hW'.lt x (by simp only [List.mem_append]; simp [hx]))
  refine (backReads_any v1 v2 v6 l1 l2 l6 n0 n3 n4 n5 W i1 i2 i6 (zqa1 w0) (zqa1 w3) (zqa1 w4) (zqa1 w5)).mono fun e W' ⟨he, hb⟩ => ?_
  subst he
  refine ⟨_, rfl, law_post hW' rfl (by kernel_rfl) hb rfl (fun sp hsp => ?_)⟩
  rw [Tryz.params4]
  simp only [List.append_nil] at hsp ⊢
  have hm : ∀ q, q ∈ p1 \/ q ∈ p2 \/ q ∈ p6 -> sp q.block = true := fun q hq => hsp q (by first | (simp only [List.mem_append]; exact hq) | (simp only [List.mem_append, List.not_mem_nil, false_or]; exact hq) | exact hq)
  have := trodAll_cons_mk (shut_int Tryz.underlying3 w0) (trodAll_cons_mk (z1 W' hb sp (fun q hq => hm q (.inl hq))) (trodAll_cons_mk (z2 W' hb sp (fun q hq => hm q (.inr (.inl hq)))) (trodAll_cons_mk (shut_int Tryz.underlying3 w3) (trodAll_cons_mk (shut_int Tryz.underlying3 w4) (trodAll_cons_mk (shut_int Tryz.underlying3 w5) (trodAll_cons_mk (z6 W' hb sp (fun q hq => hm q (.inr (.inr hq)))) (trodAll_mk0)))))))
  simpa only [List.append_nil, List.nil_append] using this
theorem backReads_holds : Rows.BackReadsSaid :=
  OpenClaim.holds_of_wide 4 Tryz.f4 rfl rfl rfl rfl rfl rfl rfl ⟨rfl, rfl, rfl, rfl, rfl⟩ rfl rfl rfl rfl rfl (by kernel_rfl) Tryz.func4 (by kernel_rfl)
    (of_decide_eq_true (by kernel_rfl)) (by unfold Func.isWrapper; first | (rw [if_pos (by decide +kernel)]; kernel_rfl) | (rw [if_neg (by decide +kernel)]; exact ⟨rfl, rfl⟩))
    (fun os started H enc _ => backReads_holds_lifted os started H enc)
#print axioms backReads_holds
end Go.Proofs.YtcfjepcflanjbaaGreat
