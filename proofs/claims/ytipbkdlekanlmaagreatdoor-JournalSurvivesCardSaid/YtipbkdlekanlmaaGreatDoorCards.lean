/-
  DERIVED. GIVEN WITH THE SEED: THE CARDS: each row of YtipbkdlekanlmaaGreatDoorRows.lean that lists a variable, with what it lists TIED to the program's text (the seventh form; the later family's looks); each row that meets fmt, with fmt's text TOLD by the authors' own Lean function (tested against real Go, not proved from fmt's source: count such statements apart). THE CARD IS WHAT COUNTS. Prove the row's statement (the work); the ties are given (YtipbkdlekanlmaaGreatDoorTie.lean); close each card by the builder's one call (the guide's Derived/Test/ToyasCard.lean, 'card_holds'). Laid BY PROGRAM, IN A SANDBOX (cutbox-door.mjs). By AI agents, Wed Nov 11 2026. No macro, syntax, notation, axiom, sorry.
-/
import Derived.Test.YtipbkdlekanlmaaGreatDoorRows
import GoSem.ClaimSeven
namespace Go.Proofs.YtipbkdlekanlmaaGreatDoor
namespace Rows

/-- THE TIED CARD OF 'dactyllaw39.JournalReadsAnything'. -/
def journalReadsAnythingCard : Claim7 := { stood := { row := journalReadsAnythingRow, standIns := [], harness := (true, "22c8e39565bc72071ebc8370b24b504bba6d9bec0ceb773fe92d744f431bc6cd"), looks := false }, kinds := [], alts := [], laidByText := true, laidKinds := [.data, .data], laidTests := true, laidLooks := .later }
def JournalReadsAnythingCardSaid : Prop := Claim7.holds Tryz.pinned (.plain (OpenSpec.ofChange journalReadsAnythingSpec)) journalReadsAnythingCard

/-- THE TIED CARD OF 'dactyllaw39.JournalFindsRot'. -/
def journalFindsRotCard : Claim7 := { stood := { row := journalFindsRotRow, standIns := [], harness := (true, "22c8e39565bc72071ebc8370b24b504bba6d9bec0ceb773fe92d744f431bc6cd"), looks := false }, kinds := [], alts := [], laidByText := true, laidKinds := [.data, .data], laidTests := true, laidLooks := .later }
def JournalFindsRotCardSaid : Prop := Claim7.holds Tryz.pinned (.plain (OpenSpec.ofChange journalFindsRotSpec)) journalFindsRotCard

/-- THE TIED CARD OF 'dactyllaw39.JournalSurvives'. -/
def journalSurvivesCard : Claim7 := { stood := { row := journalSurvivesRow, standIns := [], harness := (true, "22c8e39565bc72071ebc8370b24b504bba6d9bec0ceb773fe92d744f431bc6cd"), looks := false }, kinds := [], alts := [], laidByText := true, laidKinds := [.data, .data], laidTests := true, laidLooks := .later }
def JournalSurvivesCardSaid : Prop := Claim7.holds Tryz.pinned (.plain (OpenSpec.ofChange journalSurvivesSpec)) journalSurvivesCard

/-- THE TIED CARD OF 'dactyllaw39.JournalMatchesSpec'. -/
def journalMatchesSpecCard : Claim7 := { stood := { row := journalMatchesSpecRow, standIns := [], harness := (true, "22c8e39565bc72071ebc8370b24b504bba6d9bec0ceb773fe92d744f431bc6cd"), looks := false }, kinds := [], alts := [], laidByText := true, laidKinds := [.data, .data], laidTests := true, laidLooks := .later }
def JournalMatchesSpecCardSaid : Prop := Claim7.holds Tryz.pinned (.plain (OpenSpec.ofChange journalMatchesSpecSpec)) journalMatchesSpecCard

/-- THE SECOND FORM's CARD OF 'dactyllaw39.JournalReadsAnything'. -/
def journalReadsAnythingUptoCard : Claim7 := { stood := { row := journalReadsAnythingUptoRow, standIns := [], harness := (true, "22c8e39565bc72071ebc8370b24b504bba6d9bec0ceb773fe92d744f431bc6cd"), looks := false }, kinds := [], alts := [], laidByText := true, laidKinds := [.data, .data], laidTests := true, laidLooks := .later }
def JournalReadsAnythingUptoCardSaid : Prop := Claim7.holds Tryz.pinned (.plain (OpenSpec.upto journalReadsAnythingSpec)) journalReadsAnythingUptoCard

/-- THE SECOND FORM's CARD OF 'dactyllaw39.JournalFindsRot'. -/
def journalFindsRotUptoCard : Claim7 := { stood := { row := journalFindsRotUptoRow, standIns := [], harness := (true, "22c8e39565bc72071ebc8370b24b504bba6d9bec0ceb773fe92d744f431bc6cd"), looks := false }, kinds := [], alts := [], laidByText := true, laidKinds := [.data, .data], laidTests := true, laidLooks := .later }
def JournalFindsRotUptoCardSaid : Prop := Claim7.holds Tryz.pinned (.plain (OpenSpec.upto journalFindsRotSpec)) journalFindsRotUptoCard

/-- THE SECOND FORM's CARD OF 'dactyllaw39.JournalSurvives'. -/
def journalSurvivesUptoCard : Claim7 := { stood := { row := journalSurvivesUptoRow, standIns := [], harness := (true, "22c8e39565bc72071ebc8370b24b504bba6d9bec0ceb773fe92d744f431bc6cd"), looks := false }, kinds := [], alts := [], laidByText := true, laidKinds := [.data, .data], laidTests := true, laidLooks := .later }
def JournalSurvivesUptoCardSaid : Prop := Claim7.holds Tryz.pinned (.plain (OpenSpec.upto journalSurvivesSpec)) journalSurvivesUptoCard

/-- THE SECOND FORM's CARD OF 'dactyllaw39.JournalMatchesSpec'. -/
def journalMatchesSpecUptoCard : Claim7 := { stood := { row := journalMatchesSpecUptoRow, standIns := [], harness := (true, "22c8e39565bc72071ebc8370b24b504bba6d9bec0ceb773fe92d744f431bc6cd"), looks := false }, kinds := [], alts := [], laidByText := true, laidKinds := [.data, .data], laidTests := true, laidLooks := .later }
def JournalMatchesSpecUptoCardSaid : Prop := Claim7.holds Tryz.pinned (.plain (OpenSpec.upto journalMatchesSpecSpec)) journalMatchesSpecUptoCard
end Rows
end Go.Proofs.YtipbkdlekanlmaaGreatDoor
