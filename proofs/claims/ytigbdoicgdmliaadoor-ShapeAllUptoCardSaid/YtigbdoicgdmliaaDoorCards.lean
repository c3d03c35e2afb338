/-
  DERIVED. GIVEN WITH THE SEED: THE CARDS: each row of YtigbdoicgdmliaaDoorRows.lean that lists a variable, with what it lists TIED to the program's text (the seventh form; the later family's looks); each row that meets fmt, with fmt's text TOLD by the authors' own Lean function (tested against real Go, not proved from fmt's source: count such statements apart). THE CARD IS WHAT COUNTS. Prove the row's statement (the work); the ties are given (YtigbdoicgdmliaaDoorTie.lean); close each card by the builder's one call (the guide's Derived/Test/ToyasCard.lean, 'card_holds'). Laid BY PROGRAM, IN A SANDBOX (cutbox-door.mjs). By AI agents, Wed Nov 11 2026. No macro, syntax, notation, axiom, sorry.
-/
import Derived.Test.YtigbdoicgdmliaaDoorRows
import GoSem.ClaimSeven
namespace Go.Proofs.YtigbdoicgdmliaaDoor
namespace Rows

/-- THE TIED CARD OF 'weftlaw04.BitsDoes'. -/
def bitsDoesCard : Claim7 := { stood := { row := bitsDoesRow, standIns := [], harness := (true, "50ec399fb088903f24af507a72f4f2c497b4c900b9946b92ee4493906f66b157"), looks := false }, kinds := [], alts := [], laidByText := true, laidKinds := [.data], laidTests := true, laidLooks := .later }
def BitsDoesCardSaid : Prop := Claim7.holds Tryd.pinned (.plain (OpenSpec.ofChange bitsDoesSpec)) bitsDoesCard

/-- THE TIED CARD OF 'weftlaw04.BitsJoins'. -/
def bitsJoinsCard : Claim7 := { stood := { row := bitsJoinsRow, standIns := [], harness := (true, "50ec399fb088903f24af507a72f4f2c497b4c900b9946b92ee4493906f66b157"), looks := false }, kinds := [], alts := [], laidByText := true, laidKinds := [.data], laidTests := true, laidLooks := .later }
def BitsJoinsCardSaid : Prop := Claim7.holds Tryd.pinned (.plain (OpenSpec.ofChange bitsJoinsSpec)) bitsJoinsCard

/-- THE TIED CARD OF 'weftlaw10.ShapeTexts'. -/
def shapeTextsCard : Claim7 := { stood := { row := shapeTextsRow, standIns := [], harness := (true, "50ec399fb088903f24af507a72f4f2c497b4c900b9946b92ee4493906f66b157"), looks := false }, kinds := [], alts := [], laidByText := true, laidKinds := [.data, .data, .data], laidTests := true, laidLooks := .later }
def ShapeTextsCardSaid : Prop := Claim7.holds Tryd.pinned (.plain (OpenSpec.ofChange shapeTextsSpec)) shapeTextsCard

/-- THE TIED CARD OF 'weftlaw10.ShapeAll'. -/
def shapeAllCard : Claim7 := { stood := { row := shapeAllRow, standIns := [], harness := (true, "50ec399fb088903f24af507a72f4f2c497b4c900b9946b92ee4493906f66b157"), looks := false }, kinds := [], alts := [], laidByText := true, laidKinds := [.data, .data, .data], laidTests := true, laidLooks := .later }
def ShapeAllCardSaid : Prop := Claim7.holds Tryd.pinned (.plain (OpenSpec.ofChange shapeAllSpec)) shapeAllCard

/-- THE SECOND FORM's CARD OF 'weftlaw04.BitsDoes'. -/
def bitsDoesUptoCard : Claim7 := { stood := { row := bitsDoesUptoRow, standIns := [], harness := (true, "50ec399fb088903f24af507a72f4f2c497b4c900b9946b92ee4493906f66b157"), looks := false }, kinds := [], alts := [], laidByText := true, laidKinds := [.data], laidTests := true, laidLooks := .later }
def BitsDoesUptoCardSaid : Prop := Claim7.holds Tryd.pinned (.plain (OpenSpec.upto bitsDoesSpec)) bitsDoesUptoCard

/-- THE SECOND FORM's CARD OF 'weftlaw04.BitsJoins'. -/
def bitsJoinsUptoCard : Claim7 := { stood := { row := bitsJoinsUptoRow, standIns := [], harness := (true, "50ec399fb088903f24af507a72f4f2c497b4c900b9946b92ee4493906f66b157"), looks := false }, kinds := [], alts := [], laidByText := true, laidKinds := [.data], laidTests := true, laidLooks := .later }
def BitsJoinsUptoCardSaid : Prop := Claim7.holds Tryd.pinned (.plain (OpenSpec.upto bitsJoinsSpec)) bitsJoinsUptoCard

/-- THE SECOND FORM's CARD OF 'weftlaw10.ShapeTexts'. -/
def shapeTextsUptoCard : Claim7 := { stood := { row := shapeTextsUptoRow, standIns := [], harness := (true, "50ec399fb088903f24af507a72f4f2c497b4c900b9946b92ee4493906f66b157"), looks := false }, kinds := [], alts := [], laidByText := true, laidKinds := [.data, .data, .data], laidTests := true, laidLooks := .later }
def ShapeTextsUptoCardSaid : Prop := Claim7.holds Tryd.pinned (.plain (OpenSpec.upto shapeTextsSpec)) shapeTextsUptoCard

/-- THE SECOND FORM's CARD OF 'weftlaw10.ShapeAll'. -/
def shapeAllUptoCard : Claim7 := { stood := { row := shapeAllUptoRow, standIns := [], harness := (true, "50ec399fb088903f24af507a72f4f2c497b4c900b9946b92ee4493906f66b157"), looks := false }, kinds := [], alts := [], laidByText := true, laidKinds := [.data, .data, .data], laidTests := true, laidLooks := .later }
def ShapeAllUptoCardSaid : Prop := Claim7.holds Tryd.pinned (.plain (OpenSpec.upto shapeAllSpec)) shapeAllUptoCard
end Rows
end Go.Proofs.YtigbdoicgdmliaaDoor
