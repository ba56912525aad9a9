/-
  No cell of these rows narrows 'for every input' (looked for: loops, veiled, ifaces, maps, wideKeys, modest, calm, conditions, laid).
  DERIVED. THE GIVEN ROWS OF THIS SEAT. 8 by the template 'for every input the law returns true; each argument reads behind the call as it read before'; 0 by the template 'total and deterministic' (their statements: YtfljgcpfmhhgcaaTotals.lean).
  GIVEN WITH THE SEED: the statements are not yours to turn. If you find one false, say at which input.
  Laid BY PROGRAM, IN A SANDBOX (cutbox-rows.mjs): the forced cells as the released guide's own fill.sh prints them over the translation 807eff043219069d… (all of the seat's roots in one cut). By AI agents, Wed Nov 11 2026. No macro, syntax, notation, axiom, sorry.
-/
import Derived.Test.YtfljgcpfmhhgcaaChecked
import GoSem.Claim
import GoSem.ClaimJoined
import GoSem.ClaimMapViews
import Derived.JoinedTies
import Derived.KernelRfl
namespace Go.Proofs.Ytfljgcpfmhhgcaa
/- THE CELL 'sum', in the pinned program and in every row, IS THE sha256 OF THE DUMP (.gsa) THAT YtfljgcpfmhhgcaaProg.lean LOADS. Nothing in Lean hashes anything: it is a label: what it is worth is what the hold of that sum in a sandbox is worth. -/
noncomputable def Try.pinned : Pinned := { name := "ytfljgcpfmhhgcaa", sum := "807eff043219069d13cf6f84f4104239697cb697591040955e9c9b45eff4b825", checked := Try.checked }
namespace Rows
def none {H : Type} : Left H := { results := [], args := [] }

/-- 'dactyllaw30.ReaderCosts': WHATEVER THE INPUT: true; the input reads as it did. -/
def readerCostsSpec : ChangeSpec := { name := "readerCosts", fn := fun _ => fun
  | [d1, d2] => { results := [.lit (.bool true)], args := [d1, d2] }
  | _ => none }
def readerCostsRow : OpenClaim := { program := "ytfljgcpfmhhgcaa", sum := "807eff043219069d13cf6f84f4104239697cb697591040955e9c9b45eff4b825", func := "dactyl/dactyllaw30.ReaderCosts", spec := "readerCosts", unfollowed := true, recurses := true, plainKeys := false, apart := false }
def ReaderCostsSaid : Prop := readerCostsRow.holds Try.pinned (OpenSpec.ofChange readerCostsSpec)

/-- ITS FALSE NEIGHBOUR: 'it returns false'. Refute it at one input. -/
def readerCostsWrong : ChangeSpec := { name := "readerCosts", fn := fun _ => fun
  | [d1, d2] => { results := [.lit (.bool false)], args := [d1, d2] }
  | _ => none }
def ReaderCostsWrongFalsely : Prop := readerCostsRow.holds Try.pinned (OpenSpec.ofChange readerCostsWrong)

/-- 'dactyllaw30.ReaderPlans': WHATEVER THE INPUT: true; the input reads as it did. -/
def readerPlansSpec : ChangeSpec := { name := "readerPlans", fn := fun _ => fun
  | [d1, d2, d3, d4] => { results := [.lit (.bool true)], args := [d1, d2, d3, d4] }
  | _ => none }
def readerPlansRow : OpenClaim := { program := "ytfljgcpfmhhgcaa", sum := "807eff043219069d13cf6f84f4104239697cb697591040955e9c9b45eff4b825", func := "dactyl/dactyllaw30.ReaderPlans", spec := "readerPlans", unfollowed := true, recurses := true, plainKeys := false, apart := false }
def ReaderPlansSaid : Prop := readerPlansRow.holds Try.pinned (OpenSpec.ofChange readerPlansSpec)

/-- ITS FALSE NEIGHBOUR: 'it returns false'. Refute it at one input. -/
def readerPlansWrong : ChangeSpec := { name := "readerPlans", fn := fun _ => fun
  | [d1, d2, d3, d4] => { results := [.lit (.bool false)], args := [d1, d2, d3, d4] }
  | _ => none }
def ReaderPlansWrongFalsely : Prop := readerPlansRow.holds Try.pinned (OpenSpec.ofChange readerPlansWrong)

/-- 'dactyllaw30.ReaderChecks': WHATEVER THE INPUT: true; the input reads as it did. -/
def readerChecksSpec : ChangeSpec := { name := "readerChecks", fn := fun _ => fun
  | [d1, d2, d3, d4, d5, d6, d7] => { results := [.lit (.bool true)], args := [d1, d2, d3, d4, d5, d6, d7] }
  | _ => none }
def readerChecksRow : OpenClaim := { program := "ytfljgcpfmhhgcaa", sum := "807eff043219069d13cf6f84f4104239697cb697591040955e9c9b45eff4b825", func := "dactyl/dactyllaw30.ReaderChecks", spec := "readerChecks", unfollowed := true, recurses := true, plainKeys := false, apart := false }
def ReaderChecksSaid : Prop := readerChecksRow.holds Try.pinned (OpenSpec.ofChange readerChecksSpec)

/-- ITS FALSE NEIGHBOUR: 'it returns false'. Refute it at one input. -/
def readerChecksWrong : ChangeSpec := { name := "readerChecks", fn := fun _ => fun
  | [d1, d2, d3, d4, d5, d6, d7] => { results := [.lit (.bool false)], args := [d1, d2, d3, d4, d5, d6, d7] }
  | _ => none }
def ReaderChecksWrongFalsely : Prop := readerChecksRow.holds Try.pinned (OpenSpec.ofChange readerChecksWrong)

/-- 'dactyllaw30.ReaderAccepted': WHATEVER THE INPUT: true; the input reads as it did. -/
def readerAcceptedSpec : ChangeSpec := { name := "readerAccepted", fn := fun _ => fun
  | [d1, d2, d3, d4, d5] => { results := [.lit (.bool true)], args := [d1, d2, d3, d4, d5] }
  | _ => none }
def readerAcceptedRow : OpenClaim := { program := "ytfljgcpfmhhgcaa", sum := "807eff043219069d13cf6f84f4104239697cb697591040955e9c9b45eff4b825", func := "dactyl/dactyllaw30.ReaderAccepted", spec := "readerAccepted", unfollowed := true, recurses := true, plainKeys := false, apart := false }
def ReaderAcceptedSaid : Prop := readerAcceptedRow.holds Try.pinned (OpenSpec.ofChange readerAcceptedSpec)

/-- ITS FALSE NEIGHBOUR: 'it returns false'. Refute it at one input. -/
def readerAcceptedWrong : ChangeSpec := { name := "readerAccepted", fn := fun _ => fun
  | [d1, d2, d3, d4, d5] => { results := [.lit (.bool false)], args := [d1, d2, d3, d4, d5] }
  | _ => none }
def ReaderAcceptedWrongFalsely : Prop := readerAcceptedRow.holds Try.pinned (OpenSpec.ofChange readerAcceptedWrong)

/-- 'dactyllaw30.ReaderFewer': WHATEVER THE INPUT: true; the input reads as it did. -/
def readerFewerSpec : ChangeSpec := { name := "readerFewer", fn := fun _ => fun
  | [d1, d2, d3, d4] => { results := [.lit (.bool true)], args := [d1, d2, d3, d4] }
  | _ => none }
def readerFewerRow : OpenClaim := { program := "ytfljgcpfmhhgcaa", sum := "807eff043219069d13cf6f84f4104239697cb697591040955e9c9b45eff4b825", func := "dactyl/dactyllaw30.ReaderFewer", spec := "readerFewer", unfollowed := true, recurses := true, plainKeys := false, apart := false }
def ReaderFewerSaid : Prop := readerFewerRow.holds Try.pinned (OpenSpec.ofChange readerFewerSpec)

/-- ITS FALSE NEIGHBOUR: 'it returns false'. Refute it at one input. -/
def readerFewerWrong : ChangeSpec := { name := "readerFewer", fn := fun _ => fun
  | [d1, d2, d3, d4] => { results := [.lit (.bool false)], args := [d1, d2, d3, d4] }
  | _ => none }
def ReaderFewerWrongFalsely : Prop := readerFewerRow.holds Try.pinned (OpenSpec.ofChange readerFewerWrong)

/-- 'dactyllaw30.ReaderWay': WHATEVER THE INPUT: true; the input reads as it did. -/
def readerWaySpec : ChangeSpec := { name := "readerWay", fn := fun _ => fun
  | [d1, d2, d3] => { results := [.lit (.bool true)], args := [d1, d2, d3] }
  | _ => none }
def readerWayRow : OpenClaim := { program := "ytfljgcpfmhhgcaa", sum := "807eff043219069d13cf6f84f4104239697cb697591040955e9c9b45eff4b825", func := "dactyl/dactyllaw30.ReaderWay", spec := "readerWay", unfollowed := true, recurses := true, plainKeys := false, apart := false }
def ReaderWaySaid : Prop := readerWayRow.holds Try.pinned (OpenSpec.ofChange readerWaySpec)

/-- ITS FALSE NEIGHBOUR: 'it returns false'. Refute it at one input. -/
def readerWayWrong : ChangeSpec := { name := "readerWay", fn := fun _ => fun
  | [d1, d2, d3] => { results := [.lit (.bool false)], args := [d1, d2, d3] }
  | _ => none }
def ReaderWayWrongFalsely : Prop := readerWayRow.holds Try.pinned (OpenSpec.ofChange readerWayWrong)

/-- 'dactyllaw30.ReaderSame': WHATEVER THE INPUT: true; the input reads as it did. -/
def readerSameSpec : ChangeSpec := { name := "readerSame", fn := fun _ => fun
  | [d1, d2, d3, d4] => { results := [.lit (.bool true)], args := [d1, d2, d3, d4] }
  | _ => none }
def readerSameRow : OpenClaim := { program := "ytfljgcpfmhhgcaa", sum := "807eff043219069d13cf6f84f4104239697cb697591040955e9c9b45eff4b825", func := "dactyl/dactyllaw30.ReaderSame", spec := "readerSame", unfollowed := true, recurses := true, plainKeys := false, apart := false }
def ReaderSameSaid : Prop := readerSameRow.holds Try.pinned (OpenSpec.ofChange readerSameSpec)

/-- ITS FALSE NEIGHBOUR: 'it returns false'. Refute it at one input. -/
def readerSameWrong : ChangeSpec := { name := "readerSame", fn := fun _ => fun
  | [d1, d2, d3, d4] => { results := [.lit (.bool false)], args := [d1, d2, d3, d4] }
  | _ => none }
def ReaderSameWrongFalsely : Prop := readerSameRow.holds Try.pinned (OpenSpec.ofChange readerSameWrong)

/-- 'dactyllaw30.ReaderAsks': WHATEVER THE INPUT: true; the input reads as it did. -/
def readerAsksSpec : ChangeSpec := { name := "readerAsks", fn := fun _ => fun
  | [d1, d2, d3, d4] => { results := [.lit (.bool true)], args := [d1, d2, d3, d4] }
  | _ => none }
def readerAsksRow : OpenClaim := { program := "ytfljgcpfmhhgcaa", sum := "807eff043219069d13cf6f84f4104239697cb697591040955e9c9b45eff4b825", func := "dactyl/dactyllaw30.ReaderAsks", spec := "readerAsks", unfollowed := true, recurses := true, plainKeys := false, apart := false }
def ReaderAsksSaid : Prop := readerAsksRow.holds Try.pinned (OpenSpec.ofChange readerAsksSpec)

/-- ITS FALSE NEIGHBOUR: 'it returns false'. Refute it at one input. -/
def readerAsksWrong : ChangeSpec := { name := "readerAsks", fn := fun _ => fun
  | [d1, d2, d3, d4] => { results := [.lit (.bool false)], args := [d1, d2, d3, d4] }
  | _ => none }
def ReaderAsksWrongFalsely : Prop := readerAsksRow.holds Try.pinned (OpenSpec.ofChange readerAsksWrong)

/- THE SECOND FORM. 'bulk': how many values and letters a reading holds, each counted each time it is reached (what is shared counts as often as it is met; a slice's spare places count too). A statement '..UptoSaid' is the law's where the arguments, and the package variables that the reading takes, are together of bulk at most 1048576: NARROWER than '..Said'. Prove '..Said' where nothing that the law and all that it calls make is longer than what came in: it says more and counts as full. Else prove '..UptoSaid'. A law counts once. -/
mutual
def uptoBulk {H : Type} : DataW H → Nat
  | .lit (.string bytes) => bytes.length + 1
  | .lit _ => 1
  | .nil => 1
  | .ptr d => uptoBulk d + 1
  | .slice elems spare => uptoBulkAll elems + uptoBulkAll spare + 1
  | .agg parts => uptoBulkAll parts + 1
  | .iface _ d => uptoBulk d + 1
  | .map entries => uptoBulkEntries entries + 1
  | .held _ => 1
def uptoBulkAll {H : Type} : List (DataW H) → Nat
  | [] => 0
  | d :: r => uptoBulk d + uptoBulkAll r
def uptoBulkEntries {H : Type} : List (Lit × DataW H) → Nat
  | [] => 0
  | x :: r => uptoBulkEntry x + uptoBulkEntries r
def uptoBulkEntry {H : Type} : Lit × DataW H → Nat
  | (.string bytes, d) => bytes.length + uptoBulk d + 1
  | (_, d) => uptoBulk d + 1
 end
def uptoSmall : (H : Type) → List (DataW H) → Bool := fun _ ds => decide (uptoBulkAll ds ≤ 1048576)
def OpenSpec.upto (s : _root_.Go.ChangeSpec) : _root_.Go.OpenSpec := { _root_.Go.OpenSpec.ofChange s with cond := some uptoSmall }

/-- 'dactyllaw30.ReaderCosts', WHERE WHAT IT READS IS OF BULK AT MOST 1048576: true; the input reads as it did. -/
def readerCostsUptoRow : OpenClaim := { program := "ytfljgcpfmhhgcaa", sum := "807eff043219069d13cf6f84f4104239697cb697591040955e9c9b45eff4b825", func := "dactyl/dactyllaw30.ReaderCosts", spec := "readerCosts", unfollowed := true, recurses := true, plainKeys := false, apart := false, narrowed := true }
def ReaderCostsUptoSaid : Prop := readerCostsUptoRow.holds Try.pinned (OpenSpec.upto readerCostsSpec)

/-- 'dactyllaw30.ReaderPlans', WHERE WHAT IT READS IS OF BULK AT MOST 1048576: true; the input reads as it did. -/
def readerPlansUptoRow : OpenClaim := { program := "ytfljgcpfmhhgcaa", sum := "807eff043219069d13cf6f84f4104239697cb697591040955e9c9b45eff4b825", func := "dactyl/dactyllaw30.ReaderPlans", spec := "readerPlans", unfollowed := true, recurses := true, plainKeys := false, apart := false, narrowed := true }
def ReaderPlansUptoSaid : Prop := readerPlansUptoRow.holds Try.pinned (OpenSpec.upto readerPlansSpec)

/-- 'dactyllaw30.ReaderChecks', WHERE WHAT IT READS IS OF BULK AT MOST 1048576: true; the input reads as it did. -/
def readerChecksUptoRow : OpenClaim := { program := "ytfljgcpfmhhgcaa", sum := "807eff043219069d13cf6f84f4104239697cb697591040955e9c9b45eff4b825", func := "dactyl/dactyllaw30.ReaderChecks", spec := "readerChecks", unfollowed := true, recurses := true, plainKeys := false, apart := false, narrowed := true }
def ReaderChecksUptoSaid : Prop := readerChecksUptoRow.holds Try.pinned (OpenSpec.upto readerChecksSpec)

/-- 'dactyllaw30.ReaderAccepted', WHERE WHAT IT READS IS OF BULK AT MOST 1048576: true; the input reads as it did. -/
def readerAcceptedUptoRow : OpenClaim := { program := "ytfljgcpfmhhgcaa", sum := "807eff043219069d13cf6f84f4104239697cb697591040955e9c9b45eff4b825", func := "dactyl/dactyllaw30.ReaderAccepted", spec := "readerAccepted", unfollowed := true, recurses := true, plainKeys := false, apart := false, narrowed := true }
def ReaderAcceptedUptoSaid : Prop := readerAcceptedUptoRow.holds Try.pinned (OpenSpec.upto readerAcceptedSpec)

/-- 'dactyllaw30.ReaderFewer', WHERE WHAT IT READS IS OF BULK AT MOST 1048576: true; the input reads as it did. -/
def readerFewerUptoRow : OpenClaim := { program := "ytfljgcpfmhhgcaa", sum := "807eff043219069d13cf6f84f4104239697cb697591040955e9c9b45eff4b825", func := "dactyl/dactyllaw30.ReaderFewer", spec := "readerFewer", unfollowed := true, recurses := true, plainKeys := false, apart := false, narrowed := true }
def ReaderFewerUptoSaid : Prop := readerFewerUptoRow.holds Try.pinned (OpenSpec.upto readerFewerSpec)

/-- 'dactyllaw30.ReaderWay', WHERE WHAT IT READS IS OF BULK AT MOST 1048576: true; the input reads as it did. -/
def readerWayUptoRow : OpenClaim := { program := "ytfljgcpfmhhgcaa", sum := "807eff043219069d13cf6f84f4104239697cb697591040955e9c9b45eff4b825", func := "dactyl/dactyllaw30.ReaderWay", spec := "readerWay", unfollowed := true, recurses := true, plainKeys := false, apart := false, narrowed := true }
def ReaderWayUptoSaid : Prop := readerWayUptoRow.holds Try.pinned (OpenSpec.upto readerWaySpec)

/-- 'dactyllaw30.ReaderSame', WHERE WHAT IT READS IS OF BULK AT MOST 1048576: true; the input reads as it did. -/
def readerSameUptoRow : OpenClaim := { program := "ytfljgcpfmhhgcaa", sum := "807eff043219069d13cf6f84f4104239697cb697591040955e9c9b45eff4b825", func := "dactyl/dactyllaw30.ReaderSame", spec := "readerSame", unfollowed := true, recurses := true, plainKeys := false, apart := false, narrowed := true }
def ReaderSameUptoSaid : Prop := readerSameUptoRow.holds Try.pinned (OpenSpec.upto readerSameSpec)

/-- 'dactyllaw30.ReaderAsks', WHERE WHAT IT READS IS OF BULK AT MOST 1048576: true; the input reads as it did. -/
def readerAsksUptoRow : OpenClaim := { program := "ytfljgcpfmhhgcaa", sum := "807eff043219069d13cf6f84f4104239697cb697591040955e9c9b45eff4b825", func := "dactyl/dactyllaw30.ReaderAsks", spec := "readerAsks", unfollowed := true, recurses := true, plainKeys := false, apart := false, narrowed := true }
def ReaderAsksUptoSaid : Prop := readerAsksUptoRow.holds Try.pinned (OpenSpec.upto readerAsksSpec)

end Rows
end Go.Proofs.Ytfljgcpfmhhgcaa
