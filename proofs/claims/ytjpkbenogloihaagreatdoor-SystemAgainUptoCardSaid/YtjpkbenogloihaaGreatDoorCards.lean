/-
  DERIVED. GIVEN WITH THE SEED: THE CARDS: each row of YtjpkbenogloihaaGreatDoorRows.lean that lists a variable, with what it lists TIED to the program's text (the seventh form; the later family's looks); each row that meets fmt, with fmt's text TOLD by the authors' own Lean function (tested against real Go, not proved from fmt's source: count such statements apart). THE CARD IS WHAT COUNTS. Prove the row's statement (the work); the ties are given (YtjpkbenogloihaaGreatDoorTie.lean); close each card by the builder's one call (the guide's Derived/Test/ToyasCard.lean, 'card_holds'). Laid BY PROGRAM, IN A SANDBOX (cutbox-door.mjs). By AI agents, Wed Nov 11 2026. No macro, syntax, notation, axiom, sorry.
-/
import Derived.Test.YtjpkbenogloihaaGreatDoorRows
import GoSem.ClaimSeven
namespace Go.Proofs.YtjpkbenogloihaaGreatDoor
namespace Rows

/-- THE TIED CARD OF 'weftlaw15.SystemGrow'. -/
def systemGrowCard : Claim7 := { stood := { row := systemGrowRow, standIns := [], harness := (true, "02f1abd13f0398d76fda22b6f0b004e0af7a69ecdef8ae76cc9c8ba191cfdfc3"), looks := true }, kinds := [], alts := [], laidByText := true, laidKinds := [.data, .data, .data, .data, .sentinel, .sentinel, .pinned], laidTests := true, laidLooks := .later }
def SystemGrowCardSaid : Prop := Claim7.holds Tryz.pinned (.plain (OpenSpec.ofChange systemGrowSpec)) systemGrowCard

/-- THE TIED CARD OF 'weftlaw15.SystemUnions'. -/
def systemUnionsCard : Claim7 := { stood := { row := systemUnionsRow, standIns := [], harness := (true, "02f1abd13f0398d76fda22b6f0b004e0af7a69ecdef8ae76cc9c8ba191cfdfc3"), looks := true }, kinds := [], alts := [], laidByText := true, laidKinds := [.data, .data, .data, .data, .sentinel, .sentinel, .pinned], laidTests := true, laidLooks := .later }
def SystemUnionsCardSaid : Prop := Claim7.holds Tryz.pinned (.plain (OpenSpec.ofChange systemUnionsSpec)) systemUnionsCard

/-- THE TIED CARD OF 'weftlaw15.SystemAgain'. -/
def systemAgainCard : Claim7 := { stood := { row := systemAgainRow, standIns := [], harness := (true, "02f1abd13f0398d76fda22b6f0b004e0af7a69ecdef8ae76cc9c8ba191cfdfc3"), looks := true }, kinds := [], alts := [], laidByText := true, laidKinds := [.data, .data, .data, .data, .sentinel, .sentinel, .pinned], laidTests := true, laidLooks := .later }
def SystemAgainCardSaid : Prop := Claim7.holds Tryz.pinned (.plain (OpenSpec.ofChange systemAgainSpec)) systemAgainCard

/-- THE SECOND FORM's CARD OF 'weftlaw15.SystemGrow'. -/
def systemGrowUptoCard : Claim7 := { stood := { row := systemGrowUptoRow, standIns := [], harness := (true, "02f1abd13f0398d76fda22b6f0b004e0af7a69ecdef8ae76cc9c8ba191cfdfc3"), looks := true }, kinds := [], alts := [], laidByText := true, laidKinds := [.data, .data, .data, .data, .sentinel, .sentinel, .pinned], laidTests := true, laidLooks := .later }
def SystemGrowUptoCardSaid : Prop := Claim7.holds Tryz.pinned (.plain (OpenSpec.upto systemGrowSpec)) systemGrowUptoCard

/-- THE SECOND FORM's CARD OF 'weftlaw15.SystemUnions'. -/
def systemUnionsUptoCard : Claim7 := { stood := { row := systemUnionsUptoRow, standIns := [], harness := (true, "02f1abd13f0398d76fda22b6f0b004e0af7a69ecdef8ae76cc9c8ba191cfdfc3"), looks := true }, kinds := [], alts := [], laidByText := true, laidKinds := [.data, .data, .data, .data, .sentinel, .sentinel, .pinned], laidTests := true, laidLooks := .later }
def SystemUnionsUptoCardSaid : Prop := Claim7.holds Tryz.pinned (.plain (OpenSpec.upto systemUnionsSpec)) systemUnionsUptoCard

/-- THE SECOND FORM's CARD OF 'weftlaw15.SystemAgain'. -/
def systemAgainUptoCard : Claim7 := { stood := { row := systemAgainUptoRow, standIns := [], harness := (true, "02f1abd13f0398d76fda22b6f0b004e0af7a69ecdef8ae76cc9c8ba191cfdfc3"), looks := true }, kinds := [], alts := [], laidByText := true, laidKinds := [.data, .data, .data, .data, .sentinel, .sentinel, .pinned], laidTests := true, laidLooks := .later }
def SystemAgainUptoCardSaid : Prop := Claim7.holds Tryz.pinned (.plain (OpenSpec.upto systemAgainSpec)) systemAgainUptoCard
end Rows
end Go.Proofs.YtjpkbenogloihaaGreatDoor
