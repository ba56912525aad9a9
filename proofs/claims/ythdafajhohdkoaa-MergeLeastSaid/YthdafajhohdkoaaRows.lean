/-
  No cell of these rows narrows 'for every input' (looked for: loops, veiled, ifaces, maps, wideKeys, modest, calm, conditions, laid).
  DERIVED. THE GIVEN ROWS OF THIS SEAT. 6 by the template 'for every input the law returns true; each argument reads behind the call as it read before'; 0 by the template 'total and deterministic' (their statements: YthdafajhohdkoaaTotals.lean).
  GIVEN WITH THE SEED: the statements are not yours to turn. If you find one false, say at which input.
  Laid BY PROGRAM, IN A SANDBOX (cutbox-rows.mjs): the forced cells as the released guide's own fill.sh prints them over the translation 8191ffe5e947825a… (all of the seat's roots in one cut). By AI agents, Wed Nov 11 2026. No macro, syntax, notation, axiom, sorry.
-/
import Derived.Test.YthdafajhohdkoaaChecked
import GoSem.Claim
import GoSem.ClaimJoined
import GoSem.ClaimMapViews
import Derived.JoinedTies
import Derived.KernelRfl
namespace Go.Proofs.Ythdafajhohdkoaa
/- THE CELL 'sum', in the pinned program and in every row, IS THE sha256 OF THE DUMP (.gsa) THAT YthdafajhohdkoaaProg.lean LOADS. Nothing in Lean hashes anything: it is a label: what it is worth is what the hold of that sum in a sandbox is worth. -/
noncomputable def Try.pinned : Pinned := { name := "ythdafajhohdkoaa", sum := "8191ffe5e947825a84fdfc6f13c9aba5c18ee03af2921714f6b38929e1efe788", checked := Try.checked }
namespace Rows
def none {H : Type} : Left H := { results := [], args := [] }

/-- 'dactyllaw34.MergeEdits': WHATEVER THE INPUT: true; the input reads as it did. -/
def mergeEditsSpec : ChangeSpec := { name := "mergeEdits", fn := fun _ => fun
  | [d1, d2, d3, d4, d5, d6] => { results := [.lit (.bool true)], args := [d1, d2, d3, d4, d5, d6] }
  | _ => none }
def mergeEditsRow : OpenClaim := { program := "ythdafajhohdkoaa", sum := "8191ffe5e947825a84fdfc6f13c9aba5c18ee03af2921714f6b38929e1efe788", func := "dactyl/dactyllaw34.MergeEdits", spec := "mergeEdits", unfollowed := true, recurses := true, apart := false }
def MergeEditsSaid : Prop := mergeEditsRow.holds Try.pinned (OpenSpec.ofChange mergeEditsSpec)

/-- ITS FALSE NEIGHBOUR: 'it returns false'. Refute it at one input. -/
def mergeEditsWrong : ChangeSpec := { name := "mergeEdits", fn := fun _ => fun
  | [d1, d2, d3, d4, d5, d6] => { results := [.lit (.bool false)], args := [d1, d2, d3, d4, d5, d6] }
  | _ => none }
def MergeEditsWrongFalsely : Prop := mergeEditsRow.holds Try.pinned (OpenSpec.ofChange mergeEditsWrong)

/-- 'dactyllaw34.MergeLimits': WHATEVER THE INPUT: true; the input reads as it did. -/
def mergeLimitsSpec : ChangeSpec := { name := "mergeLimits", fn := fun _ => fun
  | [d1, d2, d3, d4] => { results := [.lit (.bool true)], args := [d1, d2, d3, d4] }
  | _ => none }
def mergeLimitsRow : OpenClaim := { program := "ythdafajhohdkoaa", sum := "8191ffe5e947825a84fdfc6f13c9aba5c18ee03af2921714f6b38929e1efe788", func := "dactyl/dactyllaw34.MergeLimits", spec := "mergeLimits", unfollowed := true, recurses := true, apart := false }
def MergeLimitsSaid : Prop := mergeLimitsRow.holds Try.pinned (OpenSpec.ofChange mergeLimitsSpec)

/-- ITS FALSE NEIGHBOUR: 'it returns false'. Refute it at one input. -/
def mergeLimitsWrong : ChangeSpec := { name := "mergeLimits", fn := fun _ => fun
  | [d1, d2, d3, d4] => { results := [.lit (.bool false)], args := [d1, d2, d3, d4] }
  | _ => none }
def MergeLimitsWrongFalsely : Prop := mergeLimitsRow.holds Try.pinned (OpenSpec.ofChange mergeLimitsWrong)

/-- 'dactyllaw34.MergeKeeps': WHATEVER THE INPUT: true; the input reads as it did. -/
def mergeKeepsSpec : ChangeSpec := { name := "mergeKeeps", fn := fun _ => fun
  | [d1, d2, d3, d4] => { results := [.lit (.bool true)], args := [d1, d2, d3, d4] }
  | _ => none }
def mergeKeepsRow : OpenClaim := { program := "ythdafajhohdkoaa", sum := "8191ffe5e947825a84fdfc6f13c9aba5c18ee03af2921714f6b38929e1efe788", func := "dactyl/dactyllaw34.MergeKeeps", spec := "mergeKeeps", unfollowed := true, recurses := true, apart := false }
def MergeKeepsSaid : Prop := mergeKeepsRow.holds Try.pinned (OpenSpec.ofChange mergeKeepsSpec)

/-- ITS FALSE NEIGHBOUR: 'it returns false'. Refute it at one input. -/
def mergeKeepsWrong : ChangeSpec := { name := "mergeKeeps", fn := fun _ => fun
  | [d1, d2, d3, d4] => { results := [.lit (.bool false)], args := [d1, d2, d3, d4] }
  | _ => none }
def MergeKeepsWrongFalsely : Prop := mergeKeepsRow.holds Try.pinned (OpenSpec.ofChange mergeKeepsWrong)

/-- 'dactyllaw34.MergeBoth': WHATEVER THE INPUT: true; the input reads as it did. -/
def mergeBothSpec : ChangeSpec := { name := "mergeBoth", fn := fun _ => fun
  | [d1, d2, d3, d4] => { results := [.lit (.bool true)], args := [d1, d2, d3, d4] }
  | _ => none }
def mergeBothRow : OpenClaim := { program := "ythdafajhohdkoaa", sum := "8191ffe5e947825a84fdfc6f13c9aba5c18ee03af2921714f6b38929e1efe788", func := "dactyl/dactyllaw34.MergeBoth", spec := "mergeBoth", unfollowed := true, recurses := true, apart := false }
def MergeBothSaid : Prop := mergeBothRow.holds Try.pinned (OpenSpec.ofChange mergeBothSpec)

/-- ITS FALSE NEIGHBOUR: 'it returns false'. Refute it at one input. -/
def mergeBothWrong : ChangeSpec := { name := "mergeBoth", fn := fun _ => fun
  | [d1, d2, d3, d4] => { results := [.lit (.bool false)], args := [d1, d2, d3, d4] }
  | _ => none }
def MergeBothWrongFalsely : Prop := mergeBothRow.holds Try.pinned (OpenSpec.ofChange mergeBothWrong)

/-- 'dactyllaw34.MergeAfter': WHATEVER THE INPUT: true; the input reads as it did. -/
def mergeAfterSpec : ChangeSpec := { name := "mergeAfter", fn := fun _ => fun
  | [d1, d2, d3, d4] => { results := [.lit (.bool true)], args := [d1, d2, d3, d4] }
  | _ => none }
def mergeAfterRow : OpenClaim := { program := "ythdafajhohdkoaa", sum := "8191ffe5e947825a84fdfc6f13c9aba5c18ee03af2921714f6b38929e1efe788", func := "dactyl/dactyllaw34.MergeAfter", spec := "mergeAfter", unfollowed := true, recurses := true, apart := false }
def MergeAfterSaid : Prop := mergeAfterRow.holds Try.pinned (OpenSpec.ofChange mergeAfterSpec)

/-- ITS FALSE NEIGHBOUR: 'it returns false'. Refute it at one input. -/
def mergeAfterWrong : ChangeSpec := { name := "mergeAfter", fn := fun _ => fun
  | [d1, d2, d3, d4] => { results := [.lit (.bool false)], args := [d1, d2, d3, d4] }
  | _ => none }
def MergeAfterWrongFalsely : Prop := mergeAfterRow.holds Try.pinned (OpenSpec.ofChange mergeAfterWrong)

/-- 'dactyllaw34.MergeLeast': WHATEVER THE INPUT: true; the input reads as it did. -/
def mergeLeastSpec : ChangeSpec := { name := "mergeLeast", fn := fun _ => fun
  | [d1, d2, d3, d4] => { results := [.lit (.bool true)], args := [d1, d2, d3, d4] }
  | _ => none }
def mergeLeastRow : OpenClaim := { program := "ythdafajhohdkoaa", sum := "8191ffe5e947825a84fdfc6f13c9aba5c18ee03af2921714f6b38929e1efe788", func := "dactyl/dactyllaw34.MergeLeast", spec := "mergeLeast", unfollowed := true, recurses := true, apart := false }
def MergeLeastSaid : Prop := mergeLeastRow.holds Try.pinned (OpenSpec.ofChange mergeLeastSpec)

/-- ITS FALSE NEIGHBOUR: 'it returns false'. Refute it at one input. -/
def mergeLeastWrong : ChangeSpec := { name := "mergeLeast", fn := fun _ => fun
  | [d1, d2, d3, d4] => { results := [.lit (.bool false)], args := [d1, d2, d3, d4] }
  | _ => none }
def MergeLeastWrongFalsely : Prop := mergeLeastRow.holds Try.pinned (OpenSpec.ofChange mergeLeastWrong)

/- THE SECOND FORM. 'bulk': how many values and letters a reading holds, each counted each time it is reached (what is shared counts as often as it is met; a slice's spare places count too). A statement '..UptoSaid' is the law's where the arguments, and the package variables that the reading takes, are together of bulk at most 1048576: NARROWER than '..Said'. Prove '..Said' where nothing that the law and all that it calls make is longer than what came in: it says more and counts as full. Else prove '..UptoSaid'. A law counts once. -/
mutual
def uptoBulk {H : Type} : DataW H → Nat
  | .lit (.string bytes) => bytes.length + 1
  | .lit _ => 1
  | .nil => 1
  | .ptr d => uptoBulk d + 1
  | .slice elems spare => uptoBulkAll elems + uptoBulkAll spare + 1
  | .agg parts => uptoBulkAll parts + 1
  | .iface _ d => uptoBulk d + 1
  | .map entries => uptoBulkEntries entries + 1
  | .held _ => 1
def uptoBulkAll {H : Type} : List (DataW H) → Nat
  | [] => 0
  | d :: r => uptoBulk d + uptoBulkAll r
def uptoBulkEntries {H : Type} : List (Lit × DataW H) → Nat
  | [] => 0
  | x :: r => uptoBulkEntry x + uptoBulkEntries r
def uptoBulkEntry {H : Type} : Lit × DataW H → Nat
  | (.string bytes, d) => bytes.length + uptoBulk d + 1
  | (_, d) => uptoBulk d + 1
 end
def uptoSmall : (H : Type) → List (DataW H) → Bool := fun _ ds => decide (uptoBulkAll ds ≤ 1048576)
def OpenSpec.upto (s : _root_.Go.ChangeSpec) : _root_.Go.OpenSpec := { _root_.Go.OpenSpec.ofChange s with cond := some uptoSmall }

/-- 'dactyllaw34.MergeEdits', WHERE WHAT IT READS IS OF BULK AT MOST 1048576: true; the input reads as it did. -/
def mergeEditsUptoRow : OpenClaim := { program := "ythdafajhohdkoaa", sum := "8191ffe5e947825a84fdfc6f13c9aba5c18ee03af2921714f6b38929e1efe788", func := "dactyl/dactyllaw34.MergeEdits", spec := "mergeEdits", unfollowed := true, recurses := true, apart := false, narrowed := true }
def MergeEditsUptoSaid : Prop := mergeEditsUptoRow.holds Try.pinned (OpenSpec.upto mergeEditsSpec)

/-- 'dactyllaw34.MergeLimits', WHERE WHAT IT READS IS OF BULK AT MOST 1048576: true; the input reads as it did. -/
def mergeLimitsUptoRow : OpenClaim := { program := "ythdafajhohdkoaa", sum := "8191ffe5e947825a84fdfc6f13c9aba5c18ee03af2921714f6b38929e1efe788", func := "dactyl/dactyllaw34.MergeLimits", spec := "mergeLimits", unfollowed := true, recurses := true, apart := false, narrowed := true }
def MergeLimitsUptoSaid : Prop := mergeLimitsUptoRow.holds Try.pinned (OpenSpec.upto mergeLimitsSpec)

/-- 'dactyllaw34.MergeKeeps', WHERE WHAT IT READS IS OF BULK AT MOST 1048576: true; the input reads as it did. -/
def mergeKeepsUptoRow : OpenClaim := { program := "ythdafajhohdkoaa", sum := "8191ffe5e947825a84fdfc6f13c9aba5c18ee03af2921714f6b38929e1efe788", func := "dactyl/dactyllaw34.MergeKeeps", spec := "mergeKeeps", unfollowed := true, recurses := true, apart := false, narrowed := true }
def MergeKeepsUptoSaid : Prop := mergeKeepsUptoRow.holds Try.pinned (OpenSpec.upto mergeKeepsSpec)

/-- 'dactyllaw34.MergeBoth', WHERE WHAT IT READS IS OF BULK AT MOST 1048576: true; the input reads as it did. -/
def mergeBothUptoRow : OpenClaim := { program := "ythdafajhohdkoaa", sum := "8191ffe5e947825a84fdfc6f13c9aba5c18ee03af2921714f6b38929e1efe788", func := "dactyl/dactyllaw34.MergeBoth", spec := "mergeBoth", unfollowed := true, recurses := true, apart := false, narrowed := true }
def MergeBothUptoSaid : Prop := mergeBothUptoRow.holds Try.pinned (OpenSpec.upto mergeBothSpec)

/-- 'dactyllaw34.MergeAfter', WHERE WHAT IT READS IS OF BULK AT MOST 1048576: true; the input reads as it did. -/
def mergeAfterUptoRow : OpenClaim := { program := "ythdafajhohdkoaa", sum := "8191ffe5e947825a84fdfc6f13c9aba5c18ee03af2921714f6b38929e1efe788", func := "dactyl/dactyllaw34.MergeAfter", spec := "mergeAfter", unfollowed := true, recurses := true, apart := false, narrowed := true }
def MergeAfterUptoSaid : Prop := mergeAfterUptoRow.holds Try.pinned (OpenSpec.upto mergeAfterSpec)

/-- 'dactyllaw34.MergeLeast', WHERE WHAT IT READS IS OF BULK AT MOST 1048576: true; the input reads as it did. -/
def mergeLeastUptoRow : OpenClaim := { program := "ythdafajhohdkoaa", sum := "8191ffe5e947825a84fdfc6f13c9aba5c18ee03af2921714f6b38929e1efe788", func := "dactyl/dactyllaw34.MergeLeast", spec := "mergeLeast", unfollowed := true, recurses := true, apart := false, narrowed := true }
def MergeLeastUptoSaid : Prop := mergeLeastUptoRow.holds Try.pinned (OpenSpec.upto mergeLeastSpec)

end Rows
end Go.Proofs.Ythdafajhohdkoaa
