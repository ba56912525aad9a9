/-
  No cell of these rows narrows 'for every input' (looked for: loops, veiled, ifaces, maps, wideKeys, modest, calm, conditions, laid).
  DERIVED. THE GIVEN ROWS OF THIS SEAT. 4 by the template 'for every input the law returns true; each argument reads behind the call as it read before'; 0 by the template 'total and deterministic' (their statements: YthhjnafhpmgceaaTotals.lean).
  GIVEN WITH THE SEED: the statements are not yours to turn. If you find one false, say at which input.
  Laid BY PROGRAM, IN A SANDBOX (cutbox-rows.mjs): the forced cells as the released guide's own fill.sh prints them over the translation 6c1a0c28fc18709f… (all of the seat's roots in one cut). By AI agents, Wed Nov 11 2026. No macro, syntax, notation, axiom, sorry.
-/
import Derived.Test.YthhjnafhpmgceaaChecked
import GoSem.Claim
import GoSem.ClaimJoined
import GoSem.ClaimMapViews
import Derived.JoinedTies
import Derived.KernelRfl
namespace Go.Proofs.Ythhjnafhpmgceaa
/- THE CELL 'sum', in the pinned program and in every row, IS THE sha256 OF THE DUMP (.gsa) THAT YthhjnafhpmgceaaProg.lean LOADS. Nothing in Lean hashes anything: it is a label: what it is worth is what the hold of that sum in a sandbox is worth. -/
noncomputable def Try.pinned : Pinned := { name := "ythhjnafhpmgceaa", sum := "6c1a0c28fc18709fd0223cf572f8b8b3c51adb57d6ade284288a8d29c7942ec3", checked := Try.checked }
namespace Rows
def none {H : Type} : Left H := { results := [], args := [] }

/-- 'dactyllaw33.LiftLeast': WHATEVER THE INPUT: true; the input reads as it did. -/
def liftLeastSpec : ChangeSpec := { name := "liftLeast", fn := fun _ => fun
  | [d1, d2, d3, d4, d5] => { results := [.lit (.bool true)], args := [d1, d2, d3, d4, d5] }
  | _ => none }
def liftLeastRow : OpenClaim := { program := "ythhjnafhpmgceaa", sum := "6c1a0c28fc18709fd0223cf572f8b8b3c51adb57d6ade284288a8d29c7942ec3", func := "dactyl/dactyllaw33.LiftLeast", spec := "liftLeast", unfollowed := true, recurses := true, apart := false }
def LiftLeastSaid : Prop := liftLeastRow.holds Try.pinned (OpenSpec.ofChange liftLeastSpec)

/-- ITS FALSE NEIGHBOUR: 'it returns false'. Refute it at one input. -/
def liftLeastWrong : ChangeSpec := { name := "liftLeast", fn := fun _ => fun
  | [d1, d2, d3, d4, d5] => { results := [.lit (.bool false)], args := [d1, d2, d3, d4, d5] }
  | _ => none }
def LiftLeastWrongFalsely : Prop := liftLeastRow.holds Try.pinned (OpenSpec.ofChange liftLeastWrong)

/-- 'dactyllaw33.LiftApplies': WHATEVER THE INPUT: true; the input reads as it did. -/
def liftAppliesSpec : ChangeSpec := { name := "liftApplies", fn := fun _ => fun
  | [d1, d2, d3, d4, d5] => { results := [.lit (.bool true)], args := [d1, d2, d3, d4, d5] }
  | _ => none }
def liftAppliesRow : OpenClaim := { program := "ythhjnafhpmgceaa", sum := "6c1a0c28fc18709fd0223cf572f8b8b3c51adb57d6ade284288a8d29c7942ec3", func := "dactyl/dactyllaw33.LiftApplies", spec := "liftApplies", unfollowed := true, recurses := true, apart := false }
def LiftAppliesSaid : Prop := liftAppliesRow.holds Try.pinned (OpenSpec.ofChange liftAppliesSpec)

/-- ITS FALSE NEIGHBOUR: 'it returns false'. Refute it at one input. -/
def liftAppliesWrong : ChangeSpec := { name := "liftApplies", fn := fun _ => fun
  | [d1, d2, d3, d4, d5] => { results := [.lit (.bool false)], args := [d1, d2, d3, d4, d5] }
  | _ => none }
def LiftAppliesWrongFalsely : Prop := liftAppliesRow.holds Try.pinned (OpenSpec.ofChange liftAppliesWrong)

/-- 'dactyllaw33.LiftExplains': WHATEVER THE INPUT: true; the input reads as it did. -/
def liftExplainsSpec : ChangeSpec := { name := "liftExplains", fn := fun _ => fun
  | [d1, d2, d3] => { results := [.lit (.bool true)], args := [d1, d2, d3] }
  | _ => none }
def liftExplainsRow : OpenClaim := { program := "ythhjnafhpmgceaa", sum := "6c1a0c28fc18709fd0223cf572f8b8b3c51adb57d6ade284288a8d29c7942ec3", func := "dactyl/dactyllaw33.LiftExplains", spec := "liftExplains", unfollowed := true, recurses := true, apart := false }
def LiftExplainsSaid : Prop := liftExplainsRow.holds Try.pinned (OpenSpec.ofChange liftExplainsSpec)

/-- ITS FALSE NEIGHBOUR: 'it returns false'. Refute it at one input. -/
def liftExplainsWrong : ChangeSpec := { name := "liftExplains", fn := fun _ => fun
  | [d1, d2, d3] => { results := [.lit (.bool false)], args := [d1, d2, d3] }
  | _ => none }
def LiftExplainsWrongFalsely : Prop := liftExplainsRow.holds Try.pinned (OpenSpec.ofChange liftExplainsWrong)

/-- 'dactyllaw33.LiftSizes': WHATEVER THE INPUT: true; the input reads as it did. -/
def liftSizesSpec : ChangeSpec := { name := "liftSizes", fn := fun _ => fun
  | [d1, d2, d3] => { results := [.lit (.bool true)], args := [d1, d2, d3] }
  | _ => none }
def liftSizesRow : OpenClaim := { program := "ythhjnafhpmgceaa", sum := "6c1a0c28fc18709fd0223cf572f8b8b3c51adb57d6ade284288a8d29c7942ec3", func := "dactyl/dactyllaw33.LiftSizes", spec := "liftSizes", unfollowed := true, recurses := true, apart := false }
def LiftSizesSaid : Prop := liftSizesRow.holds Try.pinned (OpenSpec.ofChange liftSizesSpec)

/-- ITS FALSE NEIGHBOUR: 'it returns false'. Refute it at one input. -/
def liftSizesWrong : ChangeSpec := { name := "liftSizes", fn := fun _ => fun
  | [d1, d2, d3] => { results := [.lit (.bool false)], args := [d1, d2, d3] }
  | _ => none }
def LiftSizesWrongFalsely : Prop := liftSizesRow.holds Try.pinned (OpenSpec.ofChange liftSizesWrong)

/- THE SECOND FORM. 'bulk': how many values and letters a reading holds, each counted each time it is reached (what is shared counts as often as it is met; a slice's spare places count too). A statement '..UptoSaid' is the law's where the arguments, and the package variables that the reading takes, are together of bulk at most 1048576: NARROWER than '..Said'. Prove '..Said' where nothing that the law and all that it calls make is longer than what came in: it says more and counts as full. Else prove '..UptoSaid'. A law counts once. -/
mutual
def uptoBulk {H : Type} : DataW H → Nat
  | .lit (.string bytes) => bytes.length + 1
  | .lit _ => 1
  | .nil => 1
  | .ptr d => uptoBulk d + 1
  | .slice elems spare => uptoBulkAll elems + uptoBulkAll spare + 1
  | .agg parts => uptoBulkAll parts + 1
  | .iface _ d => uptoBulk d + 1
  | .map entries => uptoBulkEntries entries + 1
  | .held _ => 1
def uptoBulkAll {H : Type} : List (DataW H) → Nat
  | [] => 0
  | d :: r => uptoBulk d + uptoBulkAll r
def uptoBulkEntries {H : Type} : List (Lit × DataW H) → Nat
  | [] => 0
  | x :: r => uptoBulkEntry x + uptoBulkEntries r
def uptoBulkEntry {H : Type} : Lit × DataW H → Nat
  | (.string bytes, d) => bytes.length + uptoBulk d + 1
  | (_, d) => uptoBulk d + 1
 end
def uptoSmall : (H : Type) → List (DataW H) → Bool := fun _ ds => decide (uptoBulkAll ds ≤ 1048576)
def OpenSpec.upto (s : _root_.Go.ChangeSpec) : _root_.Go.OpenSpec := { _root_.Go.OpenSpec.ofChange s with cond := some uptoSmall }

/-- 'dactyllaw33.LiftLeast', WHERE WHAT IT READS IS OF BULK AT MOST 1048576: true; the input reads as it did. -/
def liftLeastUptoRow : OpenClaim := { program := "ythhjnafhpmgceaa", sum := "6c1a0c28fc18709fd0223cf572f8b8b3c51adb57d6ade284288a8d29c7942ec3", func := "dactyl/dactyllaw33.LiftLeast", spec := "liftLeast", unfollowed := true, recurses := true, apart := false, narrowed := true }
def LiftLeastUptoSaid : Prop := liftLeastUptoRow.holds Try.pinned (OpenSpec.upto liftLeastSpec)

/-- 'dactyllaw33.LiftApplies', WHERE WHAT IT READS IS OF BULK AT MOST 1048576: true; the input reads as it did. -/
def liftAppliesUptoRow : OpenClaim := { program := "ythhjnafhpmgceaa", sum := "6c1a0c28fc18709fd0223cf572f8b8b3c51adb57d6ade284288a8d29c7942ec3", func := "dactyl/dactyllaw33.LiftApplies", spec := "liftApplies", unfollowed := true, recurses := true, apart := false, narrowed := true }
def LiftAppliesUptoSaid : Prop := liftAppliesUptoRow.holds Try.pinned (OpenSpec.upto liftAppliesSpec)

/-- 'dactyllaw33.LiftExplains', WHERE WHAT IT READS IS OF BULK AT MOST 1048576: true; the input reads as it did. -/
def liftExplainsUptoRow : OpenClaim := { program := "ythhjnafhpmgceaa", sum := "6c1a0c28fc18709fd0223cf572f8b8b3c51adb57d6ade284288a8d29c7942ec3", func := "dactyl/dactyllaw33.LiftExplains", spec := "liftExplains", unfollowed := true, recurses := true, apart := false, narrowed := true }
def LiftExplainsUptoSaid : Prop := liftExplainsUptoRow.holds Try.pinned (OpenSpec.upto liftExplainsSpec)

/-- 'dactyllaw33.LiftSizes', WHERE WHAT IT READS IS OF BULK AT MOST 1048576: true; the input reads as it did. -/
def liftSizesUptoRow : OpenClaim := { program := "ythhjnafhpmgceaa", sum := "6c1a0c28fc18709fd0223cf572f8b8b3c51adb57d6ade284288a8d29c7942ec3", func := "dactyl/dactyllaw33.LiftSizes", spec := "liftSizes", unfollowed := true, recurses := true, apart := false, narrowed := true }
def LiftSizesUptoSaid : Prop := liftSizesUptoRow.holds Try.pinned (OpenSpec.upto liftSizesSpec)

end Rows
end Go.Proofs.Ythhjnafhpmgceaa
