/- Reader: a function with loops over functions within a loop: the marks among its deferred calls. -/
import Derived.RangeFuncNested
import Derived.RangeFuncLeaves
import Derived.RangeFuncCalls
import Derived.RangeFuncBound
import Derived.RangeFuncWrites
import Derived.RangeFuncBox
import Derived.Test.YtfljgcpfmhhgcaaBase
namespace Go.Lab
open Go Go.RowKit
def markD (r : Nat) : Deferred := { target := .collected r, args := #[] }
/-- The deferred calls ds are marks of finished loops over functions, their blocks open, from lo on, each another. -/
def Marks (lo : Nat) (ds : List Deferred) (w : World) : Prop := ∃ rs : List Nat, ds = rs.map markD ∧ rs.Nodup ∧ ∀ r ∈ rs, lo ≤ r ∧ w.heap[r]? = some (.deferred (some []))
def KeepsM (w w' : World) : Prop := ∀ r : Nat, w.heap[r]? = some (.deferred (some [])) → w'.heap[r]? = some (.deferred (some []))
theorem KeepsM.refl (w : World) : KeepsM w w := fun _ h => h
theorem KeepsM.trans {a b c : World} (h : KeepsM a b) (k : KeepsM b c) : KeepsM a c := fun r hr => k r (h r hr)
theorem KeepsM.below {w w' : World} (h : Below w.heap.size w w') : KeepsM w w' := fun r hr => (h.block r (lt_of_block hr)).trans hr
theorem KeepsM.grown {w w' : World} {b : Nat} {o : Obj} (hg : w.grownBy w' (some b)) (hb : w.heap[b]? = some o) (ho : o ≠ .deferred (some [])) : KeepsM w w' := fun r hr => by
  refine (hg.block r (lt_of_block hr) (fun e => ?_)).trans hr
  injection e with e
  subst e
  rw [hb] at hr
  injection hr with hr
  exact ho hr
theorem Marks.nil (lo : Nat) (w : World) : Marks lo [] w := ⟨[], rfl, List.nodup_nil, fun _ h => by cases h⟩
theorem Marks.kept {lo : Nat} {ds : List Deferred} {w w' : World} (h : Marks lo ds w) (hk : KeepsM w w') : Marks lo ds w' := by
  obtain ⟨rs, h1, h2, h3⟩ := h
  exact ⟨rs, h1, h2, fun r hr => ⟨(h3 r hr).1, hk r (h3 r hr).2⟩⟩
theorem Marks.cons {lo D : Nat} {ds : List Deferred} {w w' : World} (h : Marks lo ds w) (hk : KeepsM w w') (hlo : lo ≤ D) (hD : w.heap.size ≤ D) (hd : w'.heap[D]? = some (.deferred (some []))) :
    Marks lo ({ target := .collected D, args := #[] } :: ds) w' := by
  obtain ⟨rs, h1, h2, h3⟩ := h
  refine ⟨D :: rs, by rw [h1]; rfl, List.nodup_cons.2 ⟨fun hm => ?_, h2⟩, fun r hr => ?_⟩
  · have := lt_of_block (h3 D hm).2; omega
  · rcases List.mem_cons.1 hr with rfl | hr
    · exact ⟨hlo, hd⟩
    · exact ⟨(h3 r hr).1, hk r (h3 r hr).2⟩
theorem leavesM_marks {F : Fence} {n : Nat} {P : Program} {fn : Func} {tmps : Array Value} {R : Ending → World → Prop} {lo : Nat} {w : World} {ds : List Deferred} (hm : Marks lo ds w)
    (h : ∀ w' : World, (∀ (b : Nat) (o : Obj), w.heap[b]? = some o → o.isCells = true → w'.heap[b]? = some o) → Below lo w w' → ∃ v, (results fn tmps).run P w' = .ok v w' ∧ R (.returned v) w') : LeavesInM F n P fn tmps R ds .returning w := by
  obtain ⟨rs, rfl, hnd, hr⟩ := hm
  induction rs generalizing w with
  | nil => exact h w (fun _ _ h _ => h) (Below.refl _ _)
  | cons r rs ih =>
    obtain ⟨hlo, hd⟩ := hr r (List.mem_cons_self ..)
    obtain ⟨hnr, hnd⟩ := List.nodup_cons.1 hnd
    refine ⟨by simp, .inl ⟨r, _, rfl, run_takeDeferred hd, ?_⟩⟩
    have hoth : ∀ b, b ≠ r → (w.putObj r (.deferred none)).heap[b]? = w.heap[b]? := fun b hb => World.putObj_heap_other hb
    have hbl : Below lo w (w.putObj r (.deferred none)) := ⟨rfl, rfl, rfl, by simp, fun b hb => hoth b (by omega)⟩
    refine ih (w := w.putObj r (.deferred none)) (fun w' hc hb => ?_) hnd (fun q hq => ?_)
    · refine h w' (fun b o hbo ho => hc b o ?_ ho) (hbl.trans hb)
      rw [hoth b (fun e => ?_)]
      · exact hbo
      · subst e
        rw [hd] at hbo
        injection hbo with hbo
        subst hbo
        cases ho
    · refine ⟨(hr q (List.mem_cons_of_mem _ hq)).1, ?_⟩
      rw [hoth q (fun e => hnr (e ▸ hq))]
      exact (hr q (List.mem_cons_of_mem _ hq)).2
end Go.Lab
