/-
  DERIVED. GIVEN WITH THE SEED: THE CARDS: each row of YtjdhjgfmloaglaaGreatDoorRows.lean that lists a variable, with what it lists TIED to the program's text (the seventh form; the later family's looks); each row that meets fmt, with fmt's text TOLD by the authors' own Lean function (tested against real Go, not proved from fmt's source: count such statements apart). THE CARD IS WHAT COUNTS. Prove the row's statement (the work); the ties are given (YtjdhjgfmloaglaaGreatDoorTie.lean); close each card by the builder's one call (the guide's Derived/Test/ToyasCard.lean, 'card_holds'). Laid BY PROGRAM, IN A SANDBOX (cutbox-door.mjs). By AI agents, Wed Nov 11 2026. No macro, syntax, notation, axiom, sorry.
-/
import Derived.Test.YtjdhjgfmloaglaaGreatDoorRows
import GoSem.ClaimSeven
namespace Go.Proofs.YtjdhjgfmloaglaaGreatDoor
namespace Rows

/-- THE TIED CARD OF 'weftlaw22.FoldLess'. -/
def foldLessCard : Claim7 := { stood := { row := foldLessRow, standIns := [], harness := (true, "a96f60fd4fbcd070654577d66b58c7d9e5187d6e5501f3a6bc8845d3f02181df"), looks := true }, kinds := [], alts := [], laidByText := true, laidKinds := [.data, .data, .data, .data, .sentinel, .sentinel, .pinned], laidTests := true, laidLooks := .later }
def FoldLessCardSaid : Prop := Claim7.holds Tryz.pinned (.plain (OpenSpec.ofChange foldLessSpec)) foldLessCard

/-- THE TIED CARD OF 'weftlaw23.PruneAgain'. -/
def pruneAgainCard : Claim7 := { stood := { row := pruneAgainRow, standIns := [], harness := (true, "a96f60fd4fbcd070654577d66b58c7d9e5187d6e5501f3a6bc8845d3f02181df"), looks := true }, kinds := [], alts := [], laidByText := true, laidKinds := [.data, .data, .data, .data, .sentinel, .sentinel, .pinned], laidTests := true, laidLooks := .later }
def PruneAgainCardSaid : Prop := Claim7.holds Tryz.pinned (.plain (OpenSpec.ofChange pruneAgainSpec)) pruneAgainCard

/-- THE TIED CARD OF 'weftlaw21.EquateLess'. -/
def equateLessCard : Claim7 := { stood := { row := equateLessRow, standIns := [], harness := (true, "a96f60fd4fbcd070654577d66b58c7d9e5187d6e5501f3a6bc8845d3f02181df"), looks := true }, kinds := [], alts := [], laidByText := true, laidKinds := [.data, .data, .data, .data, .sentinel, .sentinel, .pinned], laidTests := true, laidLooks := .later }
def EquateLessCardSaid : Prop := Claim7.holds Tryz.pinned (.plain (OpenSpec.ofChange equateLessSpec)) equateLessCard

/-- THE SECOND FORM's CARD OF 'weftlaw22.FoldLess'. -/
def foldLessUptoCard : Claim7 := { stood := { row := foldLessUptoRow, standIns := [], harness := (true, "a96f60fd4fbcd070654577d66b58c7d9e5187d6e5501f3a6bc8845d3f02181df"), looks := true }, kinds := [], alts := [], laidByText := true, laidKinds := [.data, .data, .data, .data, .sentinel, .sentinel, .pinned], laidTests := true, laidLooks := .later }
def FoldLessUptoCardSaid : Prop := Claim7.holds Tryz.pinned (.plain (OpenSpec.upto foldLessSpec)) foldLessUptoCard

/-- THE SECOND FORM's CARD OF 'weftlaw23.PruneAgain'. -/
def pruneAgainUptoCard : Claim7 := { stood := { row := pruneAgainUptoRow, standIns := [], harness := (true, "a96f60fd4fbcd070654577d66b58c7d9e5187d6e5501f3a6bc8845d3f02181df"), looks := true }, kinds := [], alts := [], laidByText := true, laidKinds := [.data, .data, .data, .data, .sentinel, .sentinel, .pinned], laidTests := true, laidLooks := .later }
def PruneAgainUptoCardSaid : Prop := Claim7.holds Tryz.pinned (.plain (OpenSpec.upto pruneAgainSpec)) pruneAgainUptoCard

/-- THE SECOND FORM's CARD OF 'weftlaw21.EquateLess'. -/
def equateLessUptoCard : Claim7 := { stood := { row := equateLessUptoRow, standIns := [], harness := (true, "a96f60fd4fbcd070654577d66b58c7d9e5187d6e5501f3a6bc8845d3f02181df"), looks := true }, kinds := [], alts := [], laidByText := true, laidKinds := [.data, .data, .data, .data, .sentinel, .sentinel, .pinned], laidTests := true, laidLooks := .later }
def EquateLessUptoCardSaid : Prop := Claim7.holds Tryz.pinned (.plain (OpenSpec.upto equateLessSpec)) equateLessUptoCard
end Rows
end Go.Proofs.YtjdhjgfmloaglaaGreatDoor
