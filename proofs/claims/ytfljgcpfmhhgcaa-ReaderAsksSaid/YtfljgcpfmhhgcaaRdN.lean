/- A region that draws its order, inside a round of a loop over a function: by the law for a region outside of it. Nothing here speaks of the program. -/
import Derived.OrdersIn
import Derived.OrdersHeld
import Derived.Deep.RegionHeld3
import Derived.RangeFuncCalls
import Derived.TacticsIn
import Derived.Test.YtfljgcpfmhhgcaaRdM
namespace Go.Lab
open Go Go.RowKit
variable {P : Program} {ops : Array Oper} {Q : Exit → Act → World → Prop} {md : Region.Mode}
def noDefer (ops : Array Oper) : Bool := ops.all fun o => match o.op with | .defer _ => false | _ => true
theorem noDefer_spec {ops : Array Oper} (h : noDefer ops = true) {i : Nat} {o : Oper} (hi : ops[i]? = some o) : ∀ c, o.op ≠ .defer c := by
  intro c hc
  obtain ⟨hl, he⟩ := Array.getElem?_eq_some_iff.1 hi
  have := Array.all_eq_true.1 h i hl
  rw [he] at this
  simp [hc] at this
theorem callsIn_round {n l : Nat} {f : FuncId} {args : Array Value} {w : World} {R : Ending → World → Prop} (h : Calls P f args w R) : CallsIn (Fence.wide.inRound l) n P f args w R :=
  CallsIn.inRound l (callsIn_wide.2 h)
theorem oper_round {o : Oper} {K : Act → World → Prop} {a : Act} {w : World} {l n : Nat} (hnd : ∀ c, o.op ≠ .defer c) (h : o.wp P a w K Q) : o.wpIn (Fence.wide.inRound l) n P a w K Q := by
  unfold Oper.wpIn
  refine ⟨fun _ _ => trivial, ?_⟩
  rw [Oper.semAt_eq _ _ _ hnd]
  unfold Oper.wp at h
  generalize (execOp a.eval o).run P w = r at *
  cases r with
  | ok x w' =>
    cases x <;> first
      | exact h
      | exact ⟨fun h => (by cases h), callsIn_round h⟩
      | exact ⟨fun h => (by cases h), fun c cs _ => let ⟨v, w', r, s⟩ := h c cs; ⟨v, w', r, stepsIn_wide.2 s⟩⟩
      | exact h.elim
  | halt x w' => cases x <;> exact h
theorem wpOp_round {K : Act → World → Prop} {a : Act} {w : World} {l n i : Nat} (hnd : noDefer ops = true) (hQ : ¬ LetsOut Q) (h : wpOp P ops Q i K a w) : wpOpIn (Fence.wide.inRound l) n P ops Q i K a w := by
  unfold wpOp at h
  unfold wpOpIn
  cases ho : ops[i]? with
  | none => simpa [ho] using h
  | some o =>
    simp only [ho] at h ⊢
    split
    · rename_i hw
      simp only [hw, if_true] at h
      rcases h with h | h
      · exact oper_round (noDefer_spec hnd ho) h
      · exact absurd h.2 hQ
    · rename_i hw
      simp only [hw] at h
      exact ⟨fun _ _ => trivial, h⟩
theorem wpAny_round {l n : Nat} (hnd : noDefer ops = true) (hQ : ¬ LetsOut Q) : ∀ (fuel : Nat) (listed : Array Bool) (a : Act) (w : World), wpAny P md ops Q fuel listed a w → wpAnyIn (Fence.wide.inRound l) n P md ops Q fuel listed a w
  | 0, _, _, _, h => h
  | fuel + 1, _, _, _, h => ⟨h.1, fun i hi => wpOp_round hnd hQ (wpOp_mono (fun a' w' h' => wpAny_round hnd hQ fuel _ a' w' h') (h.2 i hi))⟩
/-- A region that draws its order, in a round: the walk goes on with 'wpAnyH', from the world behind the draw. -/
theorem wpIn_region_round {S : World → Prop} {a : Act} {w : World} {l n id : Nat} (hm : P.follows .mixedOrders = true) (hnd : noDefer ops = true) (hQ : ¬ LetsOut Q) (hS : S w.drew)
    (h : S w.drew → wpAnyH P .any ops Q S ops.size (Array.replicate ops.size false) a w.drew) : (Code.region id ops true).wpIn (Fence.wide.inRound l) n P Q a w :=
  wpIn_region_any hm (wpAny_round hnd hQ _ _ _ _ (wpAny_of_held _ _ _ _ (h hS)))
/-- The slot number i of a frame. -/
def slot (t : Array Value) (i : Nat) : Value := t.getD i undef
/-- What a loop keeps: of its frame's slots, its marks and the world. -/
def LoopI (n : Nat) (R : Array Value → List Deferred → World → Prop) (a : Act) (w : World) : Prop := a.tmps.size = n ∧ R a.tmps a.defers w
theorem LoopI.mk {n : Nat} {R : Array Value → List Deferred → World → Prop} {a : Act} {w : World} (h : a.tmps.size = n) (hR : R a.tmps a.defers w) : LoopI n R a w := ⟨h, hR⟩
/-- Several new blocks. -/
def allocs (w : World) : List Obj → World
  | [] => w
  | o :: r => allocs (w.alloc o) r
theorem allocs_size (l : List Obj) : ∀ w : World, (allocs w l).heap.size = w.heap.size + l.length := by
  induction l with
  | nil => intro w; rfl
  | cons o r ih => intro w; rw [allocs, ih, World.size_alloc, List.length_cons]; omega
theorem allocs_below (l : List Obj) : ∀ w : World, Below w.heap.size w (allocs w l) := by
  induction l with
  | nil => intro w; exact Below.refl _ _
  | cons o r ih => intro w; exact ((Below.refl _ w).alloc (Nat.le_refl _) o).trans ((ih _).mono (by simp))
theorem allocs_get (l : List Obj) : ∀ (w : World) (i : Nat) (o : Obj), l[i]? = some o → (allocs w l).heap[w.heap.size + i]? = some o := by
  induction l with
  | nil => intro w i o h; cases h
  | cons x r ih =>
    intro w i o h
    cases i with
    | zero =>
      injection h with h
      subst h
      exact ((allocs_below r (w.alloc x)).block _ (by simp)).trans (heap_alloc_new w x)
    | succ i =>
      have := ih (w.alloc x) i o h
      rw [World.size_alloc] at this
      rw [allocs, show w.heap.size + (i + 1) = w.heap.size + 1 + i by omega]
      exact this
end Go.Lab
