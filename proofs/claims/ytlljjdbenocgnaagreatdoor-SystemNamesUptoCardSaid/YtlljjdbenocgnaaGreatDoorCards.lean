/-
  DERIVED. GIVEN WITH THE SEED: THE CARDS: each row of YtlljjdbenocgnaaGreatDoorRows.lean that lists a variable, with what it lists TIED to the program's text (the seventh form; the later family's looks); each row that meets fmt, with fmt's text TOLD by the authors' own Lean function (tested against real Go, not proved from fmt's source: count such statements apart). THE CARD IS WHAT COUNTS. Prove the row's statement (the work); the ties are given (YtlljjdbenocgnaaGreatDoorTie.lean); close each card by the builder's one call (the guide's Derived/Test/ToyasCard.lean, 'card_holds'). Laid BY PROGRAM, IN A SANDBOX (cutbox-door.mjs). By AI agents, Wed Nov 11 2026. No macro, syntax, notation, axiom, sorry.
-/
import Derived.Test.YtlljjdbenocgnaaGreatDoorRows
import GoSem.ClaimSeven
namespace Go.Proofs.YtlljjdbenocgnaaGreatDoor
namespace Rows

/-- THE TIED CARD OF 'weftlaw15.SystemChecks'. -/
def systemChecksCard : Claim7 := { stood := { row := systemChecksRow, standIns := [], harness := (true, "b694d4515f802a52ac7ba174f18983b5a49279bcb0414ae5b30fd4b4ef20e668"), looks := true }, kinds := [], alts := [], laidByText := true, laidKinds := [.data, .data, .data, .data, .sentinel, .sentinel, .pinned], laidTests := true, laidLooks := .later }
def SystemChecksCardSaid : Prop := Claim7.holds Tryz.pinned (.plain (OpenSpec.ofChange systemChecksSpec)) systemChecksCard

/-- THE TIED CARD OF 'weftlaw15.SystemNames'. -/
def systemNamesCard : Claim7 := { stood := { row := systemNamesRow, standIns := [], harness := (true, "b694d4515f802a52ac7ba174f18983b5a49279bcb0414ae5b30fd4b4ef20e668"), looks := true }, kinds := [], alts := [], laidByText := true, laidKinds := [.data, .data, .data, .data, .sentinel, .sentinel, .pinned], laidTests := true, laidLooks := .later }
def SystemNamesCardSaid : Prop := Claim7.holds Tryz.pinned (.plain (OpenSpec.ofChange systemNamesSpec)) systemNamesCard

/-- THE SECOND FORM's CARD OF 'weftlaw15.SystemChecks'. -/
def systemChecksUptoCard : Claim7 := { stood := { row := systemChecksUptoRow, standIns := [], harness := (true, "b694d4515f802a52ac7ba174f18983b5a49279bcb0414ae5b30fd4b4ef20e668"), looks := true }, kinds := [], alts := [], laidByText := true, laidKinds := [.data, .data, .data, .data, .sentinel, .sentinel, .pinned], laidTests := true, laidLooks := .later }
def SystemChecksUptoCardSaid : Prop := Claim7.holds Tryz.pinned (.plain (OpenSpec.upto systemChecksSpec)) systemChecksUptoCard

/-- THE SECOND FORM's CARD OF 'weftlaw15.SystemNames'. -/
def systemNamesUptoCard : Claim7 := { stood := { row := systemNamesUptoRow, standIns := [], harness := (true, "b694d4515f802a52ac7ba174f18983b5a49279bcb0414ae5b30fd4b4ef20e668"), looks := true }, kinds := [], alts := [], laidByText := true, laidKinds := [.data, .data, .data, .data, .sentinel, .sentinel, .pinned], laidTests := true, laidLooks := .later }
def SystemNamesUptoCardSaid : Prop := Claim7.holds Tryz.pinned (.plain (OpenSpec.upto systemNamesSpec)) systemNamesUptoCard
end Rows
end Go.Proofs.YtlljjdbenocgnaaGreatDoor
