/- The frame of a law's statement: arguments that are lists of ints and ints are opened, and closed behind a call that has turned nothing that was there. -/
import Derived.Test.YtcfjepcflanjbaaBf01
import Derived.Test.YtcfjepcflanjbaaRows
import Derived.WalkKit
import Derived.ProofKit
import Derived.OpenShut
import Derived.ChangeSame
import Derived.JoinedAt
namespace Go.Proofs.Ytcfjepcflanjbaa
open Go.ChangeShapes Go.WideShapes Go.ChangeAt Go.RowKit Go.Lab
theorem Try.own0 : ownKnob Try.prog.godebug = none := by kernel_rfl
theorem cellsInt : Try.prog.cellsOf 3 = 1 := by kernel_rfl
theorem i64_rng {x : Int} (h : (Lit.int .i64 x).wf = true) : -9223372036854775808 ≤ x ∧ x ≤ 9223372036854775807 := by
  simpa [Lit.wf, IntKind.min, IntKind.max, IntKind.signed, IntKind.bits] using h
section
variable {H : Type} {enc : TypeId × Value → H}
set_option maxRecDepth 100000 in
theorem open_list {W : World} {base : Nat} {v : Value} {d : DataW H} {p : List MemPlace} (hok : Value.okWide Try.prog W .any base 22 v) (h : DataW.Trod enc Try.prog W 0 (fun _ => true) true 22 v d p) :
    ∃ l : List Int, IntsAt W v l ∧ ∀ W', Below W.heap.size W W' → ∀ sp : Nat → Bool, (∀ q ∈ p, sp q.block = true) → DataW.Trod enc Try.prog W' 0 sp true 22 v d p := by
  obtain ⟨a0, len, cap, rfl⟩ := okWide_slice Try.underlying22 hok
  obtain ⟨fuel, hf⟩ := h
  rcases open_ints Try.underlying22 Try.underlying3 cellsInt hf with ⟨hcs, hx⟩ | ⟨a, len', cap', zs, hcs, _, hl, hm, hz, hx, hcell, hwz⟩
  · simp [Value.cells] at hcs
    obtain ⟨rfl, rfl, rfl⟩ := hcs
    simp only [Prod.mk.injEq] at hx
    obtain ⟨rfl, rfl⟩ := hx
    exact ⟨[], ⟨Rd.nil _ _ _, fun x hx => by simp at hx⟩, fun _ _ _ _ => shut_slice_nil Try.underlying22⟩
  · simp [Value.cells] at hcs
    obtain ⟨rfl, rfl, rfl⟩ := hcs
    simp only [Prod.mk.injEq] at hx
    obtain ⟨rfl, rfl⟩ := hx
    simp only [if_true] at hz
    have hblk : ∀ i, i < zs.length → a.block < W.heap.size := fun i hi => by
      have h1 := hcell i hi
      unfold World.cell? at h1
      rw [block_add] at h1
      split at h1
      · rename_i hh; exact lt_of_block hh
      · cases h1
    refine ⟨zs.take len, ⟨?_, fun x hx => i64_rng (hwz x (List.mem_of_mem_take hx))⟩, fun W' hb sp hsp => ?_⟩
    · have hlen : (zs.take len).length = len := by rw [List.length_take]; omega
      refine ⟨by rw [hlen]; simp [intsC]; omega, some a, cap, by rw [hlen], by omega, hm, fun e => (by cases e), fun ad e h0 => ?_⟩
      injection e with e
      subst e
      obtain ⟨b, off, spot⟩ := a
      have hspot : spot = none := by simpa [Addr.add] using World.cell?_spot (hcell 0 (by omega))
      subst hspot
      have hc0 := hcell 0 (by omega)
      have hcell2 : ∀ i, i < zs.length → W.cell? ⟨b, off + i, none⟩ = some (.int .i64 (zs.getD i 0)) := fun i hi => by
        have := hcell i hi
        rw [add_plain] at this
        exact this
      cases hh : W.heap[b]? with
      | none => have := hcell2 0 (by omega); simp [World.cell?, hh] at this
      | some o =>
        have hx0 := hcell2 0 (by omega)
        unfold World.cell? at hx0
        simp only [hh] at hx0
        split at hx0
        · rename_i cur t fz hoo
          injection hoo with hoo
          subst hoo
          refine ⟨rfl, cur, t, fz, trivial, rfl, fun j u hu => ?_⟩
          have hj : j < len := by
            have := (List.getElem?_eq_some_iff.1 hu).1
            simp [intsC] at this
            omega
          have h1 := hcell2 j (by omega)
          simp only [World.cell?, hh] at h1
          have h2 : u = .int .i64 (zs.getD j 0) := by
            simp [intsC, hj] at hu
            obtain ⟨x, hx, rfl⟩ := hu
            rw [List.getD, hx]; rfl
          rw [h2]
          simpa using h1
        · cases hx0
    · by_cases hz0 : zs.length = 0
      · have hc0 : cap = 0 := by omega
        have hl0 : len = 0 := by omega
        subst hc0; subst hl0
        have t0 := shut_ints (enc := enc) (w := W') (base := 0) (spare := sp) (held := true) (a := a) (len := 0) (cap := 0) (zs := zs) 0 Try.underlying22 Try.underlying3 cellsInt (Nat.zero_le _) (Nat.le_refl _) hm (by simp [hz0]) (fun i hi => by omega) hwz
        exact ⟨2, by simpa [Value.cells] using t0⟩
      · have hspb : sp a.block = true := hsp (.cell a.block a.off) (MemPlace.mem_row.2 ⟨0, by omega, by simp⟩)
        have t0 := shut_ints (enc := enc) (w := W') (base := 0) (spare := sp) (held := true) (a := a) (len := len) (cap := cap) (zs := zs) 0 Try.underlying22 Try.underlying3 cellsInt (Nat.zero_le _) hl hm (by simp [hspb, hz]) (fun i hi => (hb.cell (p := a.add i) (by rw [block_add]; exact hblk i hi)).trans (hcell i hi)) hwz
        exact ⟨2, by simpa [Value.cells] using t0⟩
set_option maxRecDepth 100000 in
/-- The end of a law's call: it returns true, what was there reads as it read. -/
theorem law_post {f : Func} {s : ChangeSpec} {W W' : World} {args : Array Value} {ds : List (DataW H)} {before : List MemPlace}
    (hW : DataW.Whole enc Try.prog f.params.toList s.vars false W args.toList ds [] before) (hsv : s.vars = []) (hrt : f.resultTypes = #[4]) (hb : Below W.heap.size W W')
    (hfn : s.fn H (ds ++ []) = { results := [.lit (.bool true)], args := ds }) (hps : ∀ sp : Nat → Bool, (∀ q ∈ before, sp q.block = true) → DataW.TrodAll enc Try.prog W' 0 sp true f.params.toList args.toList ds before) :
    s.post enc Try.prog f false true false false W args (.bool true) W' := by
  have hlt : ∀ q ∈ before, q.block < W.heap.size := fun q hq => hW.lt q hq
  have hr : ∀ (b : Nat) (sp : Nat → Bool) (hd : Bool), DataW.TrodAll enc Try.prog W' b sp hd f.resultTypes.toList ((Value.bool true).resultList f.resultTypes.size) (s.fn H (ds ++ [])).results [] := fun b sp hd => by
    rw [hfn, hrt]
    exact trodAll_mk1 (shut_bool Try.underlying4 _)
  have ha : ∀ sp : Nat → Bool, (∀ q ∈ before, sp q.block = true) → DataW.TrodAll enc Try.prog W' 0 sp true f.params.toList args.toList (s.fn H (ds ++ [])).args before := fun sp h => by rw [hfn]; exact hps sp h
  have hv : ∀ sp : Nat → Bool, DataW.TrodVars enc Try.prog W' sp s.vars (s.fn H (ds ++ [])).vars [] := fun sp => by rw [hfn, hsv]; rfl
  refine ⟨ds, [], before, [], before, [], hW, hr _ _ _, ha _ (fun q hq => by simpa using hlt q hq), hv _, World.keptBut_mono (fun q hq => ⟨hq, Or.inr (Or.inl hq)⟩) (hb.frame (· ∈ before)), fun _ => ?_⟩
  · obtain ⟨_, _, _, _, _, hz, hn⟩ := hW
    refine ⟨ok_one hrt rfl (okWide_bool_mk Try.underlying4 _), _, _, ([] ++ before) ++ [], ⟨[] ++ before, [], trodAll_append (ha _ (fun _ _ => rfl)) (hr _ _ _), hv _, rfl, ?_, ?_⟩, ?_⟩
    · intro b off hp
      have hin : MemPlace.cell b off ∈ before := by simpa using hp
      rw [hb.frozen (hlt _ hin)]
      exact hz b off hin
    · intro h
      cases h
    · intro q hq _
      simpa using hq
end
end Go.Proofs.Ytcfjepcflanjbaa
