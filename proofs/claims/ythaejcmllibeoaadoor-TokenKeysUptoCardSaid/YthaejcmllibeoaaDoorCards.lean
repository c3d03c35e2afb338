/-
  DERIVED. GIVEN WITH THE SEED: THE CARDS: each row of YthaejcmllibeoaaDoorRows.lean that lists a variable, with what it lists TIED to the program's text (the seventh form; the later family's looks); each row that meets fmt, with fmt's text TOLD by the authors' own Lean function (tested against real Go, not proved from fmt's source: count such statements apart). THE CARD IS WHAT COUNTS. Prove the row's statement (the work); the ties are given (YthaejcmllibeoaaDoorTie.lean); close each card by the builder's one call (the guide's Derived/Test/ToyasCard.lean, 'card_holds'). Laid BY PROGRAM, IN A SANDBOX (cutbox-door.mjs). By AI agents, Wed Nov 11 2026. No macro, syntax, notation, axiom, sorry.
-/
import Derived.Test.YthaejcmllibeoaaDoorRows
import GoSem.ClaimSeven
namespace Go.Proofs.YthaejcmllibeoaaDoor
namespace Rows

/-- THE TIED CARD OF 'weftlaw01.DigitsWrites'. -/
def digitsWritesCard : Claim7 := { stood := { row := digitsWritesRow, standIns := [], harness := (true, "05ed497a02ecb786d98cca96a910493db5f1bc85cee33087bb0c4d9db3d9c1cf"), looks := true }, kinds := [], alts := [], laidByText := true, laidKinds := [.data, .data, .data], laidTests := true, laidLooks := .later }
def DigitsWritesCardSaid : Prop := Claim7.holds Tryd.pinned (.plain (OpenSpec.ofChange digitsWritesSpec)) digitsWritesCard

/-- THE TIED CARD OF 'weftlaw09.TokenKeys'. -/
def tokenKeysCard : Claim7 := { stood := { row := tokenKeysRow, standIns := [], harness := (true, "05ed497a02ecb786d98cca96a910493db5f1bc85cee33087bb0c4d9db3d9c1cf"), looks := true }, kinds := [], alts := [], laidByText := true, laidKinds := [.listed, .data], laidTests := true, laidLooks := .later }
def TokenKeysCardSaid : Prop := Claim7.holds Tryd.pinned (.plain (OpenSpec.ofChange tokenKeysSpec)) tokenKeysCard

/-- THE TIED CARD OF 'weftlaw01.DigitsNames'. -/
def digitsNamesCard : Claim7 := { stood := { row := digitsNamesRow, standIns := [], harness := (true, "05ed497a02ecb786d98cca96a910493db5f1bc85cee33087bb0c4d9db3d9c1cf"), looks := true }, kinds := [], alts := [], laidByText := true, laidKinds := [.data, .pinned], laidTests := true, laidLooks := .later }
def DigitsNamesCardSaid : Prop := Claim7.holds Tryd.pinned (.plain (OpenSpec.ofChange digitsNamesSpec)) digitsNamesCard

/-- THE TIED CARD OF 'weftlaw01.DigitsReads'. -/
def digitsReadsCard : Claim7 := { stood := { row := digitsReadsRow, standIns := [], harness := (true, "05ed497a02ecb786d98cca96a910493db5f1bc85cee33087bb0c4d9db3d9c1cf"), looks := true }, kinds := [], alts := [], laidByText := true, laidKinds := [.data, .data, .data, .sentinel, .sentinel], laidTests := true, laidLooks := .later }
def DigitsReadsCardSaid : Prop := Claim7.holds Tryd.pinned (.plain (OpenSpec.ofChange digitsReadsSpec)) digitsReadsCard

/-- THE TIED CARD OF 'weftlaw01.DigitsBack'. -/
def digitsBackCard : Claim7 := { stood := { row := digitsBackRow, standIns := [], harness := (true, "05ed497a02ecb786d98cca96a910493db5f1bc85cee33087bb0c4d9db3d9c1cf"), looks := true }, kinds := [], alts := [], laidByText := true, laidKinds := [.data, .data, .data, .data, .sentinel, .sentinel, .pinned], laidTests := true, laidLooks := .later }
def DigitsBackCardSaid : Prop := Claim7.holds Tryd.pinned (.plain (OpenSpec.ofChange digitsBackSpec)) digitsBackCard

/-- THE TIED CARD OF 'weftlaw14.NamesTexts'. -/
def namesTextsCard : Claim7 := { stood := { row := namesTextsRow, standIns := [], harness := (true, "05ed497a02ecb786d98cca96a910493db5f1bc85cee33087bb0c4d9db3d9c1cf"), looks := true }, kinds := [], alts := [], laidByText := true, laidKinds := [.data, .data, .data, .data, .sentinel, .sentinel, .pinned], laidTests := true, laidLooks := .later }
def NamesTextsCardSaid : Prop := Claim7.holds Tryd.pinned (.plain (OpenSpec.ofChange namesTextsSpec)) namesTextsCard

/-- THE TIED CARD OF 'weftlaw14.NamesOne'. -/
def namesOneCard : Claim7 := { stood := { row := namesOneRow, standIns := [], harness := (true, "05ed497a02ecb786d98cca96a910493db5f1bc85cee33087bb0c4d9db3d9c1cf"), looks := true }, kinds := [], alts := [], laidByText := true, laidKinds := [.data, .data, .data, .data, .sentinel, .sentinel, .pinned], laidTests := true, laidLooks := .later }
def NamesOneCardSaid : Prop := Claim7.holds Tryd.pinned (.plain (OpenSpec.ofChange namesOneSpec)) namesOneCard

/-- THE TIED CARD OF 'weftlaw14.NamesMade'. -/
def namesMadeCard : Claim7 := { stood := { row := namesMadeRow, standIns := [], harness := (true, "05ed497a02ecb786d98cca96a910493db5f1bc85cee33087bb0c4d9db3d9c1cf"), looks := true }, kinds := [], alts := [], laidByText := true, laidKinds := [.data, .data, .data, .data, .sentinel, .sentinel, .pinned], laidTests := true, laidLooks := .later }
def NamesMadeCardSaid : Prop := Claim7.holds Tryd.pinned (.plain (OpenSpec.ofChange namesMadeSpec)) namesMadeCard

/-- THE TIED CARD OF 'weftlaw14.NamesReads'. -/
def namesReadsCard : Claim7 := { stood := { row := namesReadsRow, standIns := [], harness := (true, "05ed497a02ecb786d98cca96a910493db5f1bc85cee33087bb0c4d9db3d9c1cf"), looks := true }, kinds := [], alts := [], laidByText := true, laidKinds := [.data, .data, .data, .data, .sentinel, .sentinel, .pinned], laidTests := true, laidLooks := .later }
def NamesReadsCardSaid : Prop := Claim7.holds Tryd.pinned (.plain (OpenSpec.ofChange namesReadsSpec)) namesReadsCard

/-- THE TIED CARD OF 'weftlaw14.NamesBase'. -/
def namesBaseCard : Claim7 := { stood := { row := namesBaseRow, standIns := [], harness := (true, "05ed497a02ecb786d98cca96a910493db5f1bc85cee33087bb0c4d9db3d9c1cf"), looks := true }, kinds := [], alts := [], laidByText := true, laidKinds := [.data, .data, .data, .data, .sentinel, .sentinel, .pinned], laidTests := true, laidLooks := .later }
def NamesBaseCardSaid : Prop := Claim7.holds Tryd.pinned (.plain (OpenSpec.ofChange namesBaseSpec)) namesBaseCard

/-- THE TIED CARD OF 'weftlaw09.TokenAll'. -/
def tokenAllCard : Claim7 := { stood := { row := tokenAllRow, standIns := [], harness := (true, "05ed497a02ecb786d98cca96a910493db5f1bc85cee33087bb0c4d9db3d9c1cf"), looks := true }, kinds := [], alts := [], laidByText := true, laidKinds := [.data, .data, .data, .data, .sentinel, .sentinel, .listed, .data, .pinned], laidTests := true, laidLooks := .later }
def TokenAllCardSaid : Prop := Claim7.holds Tryd.pinned (.plain (OpenSpec.ofChange tokenAllSpec)) tokenAllCard

/-- THE TIED CARD OF 'weftlaw09.TokenJoins'. -/
def tokenJoinsCard : Claim7 := { stood := { row := tokenJoinsRow, standIns := [], harness := (true, "05ed497a02ecb786d98cca96a910493db5f1bc85cee33087bb0c4d9db3d9c1cf"), looks := true }, kinds := [], alts := [], laidByText := true, laidKinds := [.data, .data, .data, .data, .sentinel, .sentinel, .listed, .data, .pinned], laidTests := true, laidLooks := .later }
def TokenJoinsCardSaid : Prop := Claim7.holds Tryd.pinned (.plain (OpenSpec.ofChange tokenJoinsSpec)) tokenJoinsCard

/-- THE TIED CARD OF 'weftlaw09.TokenBack'. -/
def tokenBackCard : Claim7 := { stood := { row := tokenBackRow, standIns := [], harness := (true, "05ed497a02ecb786d98cca96a910493db5f1bc85cee33087bb0c4d9db3d9c1cf"), looks := true }, kinds := [], alts := [], laidByText := true, laidKinds := [.data, .data, .data, .data, .sentinel, .sentinel, .listed, .data, .pinned], laidTests := true, laidLooks := .later }
def TokenBackCardSaid : Prop := Claim7.holds Tryd.pinned (.plain (OpenSpec.ofChange tokenBackSpec)) tokenBackCard

/-- THE SECOND FORM's CARD OF 'weftlaw01.DigitsWrites'. -/
def digitsWritesUptoCard : Claim7 := { stood := { row := digitsWritesUptoRow, standIns := [], harness := (true, "05ed497a02ecb786d98cca96a910493db5f1bc85cee33087bb0c4d9db3d9c1cf"), looks := true }, kinds := [], alts := [], laidByText := true, laidKinds := [.data, .data, .data], laidTests := true, laidLooks := .later }
def DigitsWritesUptoCardSaid : Prop := Claim7.holds Tryd.pinned (.plain (OpenSpec.upto digitsWritesSpec)) digitsWritesUptoCard

/-- THE SECOND FORM's CARD OF 'weftlaw09.TokenKeys'. -/
def tokenKeysUptoCard : Claim7 := { stood := { row := tokenKeysUptoRow, standIns := [], harness := (true, "05ed497a02ecb786d98cca96a910493db5f1bc85cee33087bb0c4d9db3d9c1cf"), looks := true }, kinds := [], alts := [], laidByText := true, laidKinds := [.listed, .data], laidTests := true, laidLooks := .later }
def TokenKeysUptoCardSaid : Prop := Claim7.holds Tryd.pinned (.plain (OpenSpec.upto tokenKeysSpec)) tokenKeysUptoCard

/-- THE SECOND FORM's CARD OF 'weftlaw01.DigitsNames'. -/
def digitsNamesUptoCard : Claim7 := { stood := { row := digitsNamesUptoRow, standIns := [], harness := (true, "05ed497a02ecb786d98cca96a910493db5f1bc85cee33087bb0c4d9db3d9c1cf"), looks := true }, kinds := [], alts := [], laidByText := true, laidKinds := [.data, .pinned], laidTests := true, laidLooks := .later }
def DigitsNamesUptoCardSaid : Prop := Claim7.holds Tryd.pinned (.plain (OpenSpec.upto digitsNamesSpec)) digitsNamesUptoCard

/-- THE SECOND FORM's CARD OF 'weftlaw01.DigitsReads'. -/
def digitsReadsUptoCard : Claim7 := { stood := { row := digitsReadsUptoRow, standIns := [], harness := (true, "05ed497a02ecb786d98cca96a910493db5f1bc85cee33087bb0c4d9db3d9c1cf"), looks := true }, kinds := [], alts := [], laidByText := true, laidKinds := [.data, .data, .data, .sentinel, .sentinel], laidTests := true, laidLooks := .later }
def DigitsReadsUptoCardSaid : Prop := Claim7.holds Tryd.pinned (.plain (OpenSpec.upto digitsReadsSpec)) digitsReadsUptoCard

/-- THE SECOND FORM's CARD OF 'weftlaw01.DigitsBack'. -/
def digitsBackUptoCard : Claim7 := { stood := { row := digitsBackUptoRow, standIns := [], harness := (true, "05ed497a02ecb786d98cca96a910493db5f1bc85cee33087bb0c4d9db3d9c1cf"), looks := true }, kinds := [], alts := [], laidByText := true, laidKinds := [.data, .data, .data, .data, .sentinel, .sentinel, .pinned], laidTests := true, laidLooks := .later }
def DigitsBackUptoCardSaid : Prop := Claim7.holds Tryd.pinned (.plain (OpenSpec.upto digitsBackSpec)) digitsBackUptoCard

/-- THE SECOND FORM's CARD OF 'weftlaw14.NamesTexts'. -/
def namesTextsUptoCard : Claim7 := { stood := { row := namesTextsUptoRow, standIns := [], harness := (true, "05ed497a02ecb786d98cca96a910493db5f1bc85cee33087bb0c4d9db3d9c1cf"), looks := true }, kinds := [], alts := [], laidByText := true, laidKinds := [.data, .data, .data, .data, .sentinel, .sentinel, .pinned], laidTests := true, laidLooks := .later }
def NamesTextsUptoCardSaid : Prop := Claim7.holds Tryd.pinned (.plain (OpenSpec.upto namesTextsSpec)) namesTextsUptoCard

/-- THE SECOND FORM's CARD OF 'weftlaw14.NamesOne'. -/
def namesOneUptoCard : Claim7 := { stood := { row := namesOneUptoRow, standIns := [], harness := (true, "05ed497a02ecb786d98cca96a910493db5f1bc85cee33087bb0c4d9db3d9c1cf"), looks := true }, kinds := [], alts := [], laidByText := true, laidKinds := [.data, .data, .data, .data, .sentinel, .sentinel, .pinned], laidTests := true, laidLooks := .later }
def NamesOneUptoCardSaid : Prop := Claim7.holds Tryd.pinned (.plain (OpenSpec.upto namesOneSpec)) namesOneUptoCard

/-- THE SECOND FORM's CARD OF 'weftlaw14.NamesMade'. -/
def namesMadeUptoCard : Claim7 := { stood := { row := namesMadeUptoRow, standIns := [], harness := (true, "05ed497a02ecb786d98cca96a910493db5f1bc85cee33087bb0c4d9db3d9c1cf"), looks := true }, kinds := [], alts := [], laidByText := true, laidKinds := [.data, .data, .data, .data, .sentinel, .sentinel, .pinned], laidTests := true, laidLooks := .later }
def NamesMadeUptoCardSaid : Prop := Claim7.holds Tryd.pinned (.plain (OpenSpec.upto namesMadeSpec)) namesMadeUptoCard

/-- THE SECOND FORM's CARD OF 'weftlaw14.NamesReads'. -/
def namesReadsUptoCard : Claim7 := { stood := { row := namesReadsUptoRow, standIns := [], harness := (true, "05ed497a02ecb786d98cca96a910493db5f1bc85cee33087bb0c4d9db3d9c1cf"), looks := true }, kinds := [], alts := [], laidByText := true, laidKinds := [.data, .data, .data, .data, .sentinel, .sentinel, .pinned], laidTests := true, laidLooks := .later }
def NamesReadsUptoCardSaid : Prop := Claim7.holds Tryd.pinned (.plain (OpenSpec.upto namesReadsSpec)) namesReadsUptoCard

/-- THE SECOND FORM's CARD OF 'weftlaw14.NamesBase'. -/
def namesBaseUptoCard : Claim7 := { stood := { row := namesBaseUptoRow, standIns := [], harness := (true, "05ed497a02ecb786d98cca96a910493db5f1bc85cee33087bb0c4d9db3d9c1cf"), looks := true }, kinds := [], alts := [], laidByText := true, laidKinds := [.data, .data, .data, .data, .sentinel, .sentinel, .pinned], laidTests := true, laidLooks := .later }
def NamesBaseUptoCardSaid : Prop := Claim7.holds Tryd.pinned (.plain (OpenSpec.upto namesBaseSpec)) namesBaseUptoCard

/-- THE SECOND FORM's CARD OF 'weftlaw09.TokenAll'. -/
def tokenAllUptoCard : Claim7 := { stood := { row := tokenAllUptoRow, standIns := [], harness := (true, "05ed497a02ecb786d98cca96a910493db5f1bc85cee33087bb0c4d9db3d9c1cf"), looks := true }, kinds := [], alts := [], laidByText := true, laidKinds := [.data, .data, .data, .data, .sentinel, .sentinel, .listed, .data, .pinned], laidTests := true, laidLooks := .later }
def TokenAllUptoCardSaid : Prop := Claim7.holds Tryd.pinned (.plain (OpenSpec.upto tokenAllSpec)) tokenAllUptoCard

/-- THE SECOND FORM's CARD OF 'weftlaw09.TokenJoins'. -/
def tokenJoinsUptoCard : Claim7 := { stood := { row := tokenJoinsUptoRow, standIns := [], harness := (true, "05ed497a02ecb786d98cca96a910493db5f1bc85cee33087bb0c4d9db3d9c1cf"), looks := true }, kinds := [], alts := [], laidByText := true, laidKinds := [.data, .data, .data, .data, .sentinel, .sentinel, .listed, .data, .pinned], laidTests := true, laidLooks := .later }
def TokenJoinsUptoCardSaid : Prop := Claim7.holds Tryd.pinned (.plain (OpenSpec.upto tokenJoinsSpec)) tokenJoinsUptoCard

/-- THE SECOND FORM's CARD OF 'weftlaw09.TokenBack'. -/
def tokenBackUptoCard : Claim7 := { stood := { row := tokenBackUptoRow, standIns := [], harness := (true, "05ed497a02ecb786d98cca96a910493db5f1bc85cee33087bb0c4d9db3d9c1cf"), looks := true }, kinds := [], alts := [], laidByText := true, laidKinds := [.data, .data, .data, .data, .sentinel, .sentinel, .listed, .data, .pinned], laidTests := true, laidLooks := .later }
def TokenBackUptoCardSaid : Prop := Claim7.holds Tryd.pinned (.plain (OpenSpec.upto tokenBackSpec)) tokenBackUptoCard
end Rows
end Go.Proofs.YthaejcmllibeoaaDoor
