/-
  No cell of these rows narrows 'for every input' (looked for: loops, veiled, ifaces, maps, wideKeys, modest, calm, conditions, laid).
  DERIVED. THE GIVEN ROWS OF THIS SEAT. 12 by the template 'for every input the law returns true; each argument reads behind the call as it read before'; 0 by the template 'total and deterministic' (their statements: YtoigfahdgphpdaaTotals.lean).
  GIVEN WITH THE SEED: the statements are not yours to turn. If you find one false, say at which input.
  Laid BY PROGRAM, IN A SANDBOX (cutbox-rows.mjs): the forced cells as the released guide's own fill.sh prints them over the translation e091ee3257d73b81… (all of the seat's roots in one cut). By AI agents, Wed Nov 11 2026. No macro, syntax, notation, axiom, sorry.
-/
import Derived.Test.YtoigfahdgphpdaaChecked
import GoSem.Claim
import GoSem.ClaimJoined
import GoSem.ClaimMapViews
import Derived.JoinedTies
import Derived.KernelRfl
namespace Go.Proofs.Ytoigfahdgphpdaa
/- THE CELL 'sum', in the pinned program and in every row, IS THE sha256 OF THE DUMP (.gsa) THAT YtoigfahdgphpdaaProg.lean LOADS. Nothing in Lean hashes anything: it is a label: what it is worth is what the hold of that sum in a sandbox is worth. -/
noncomputable def Try.pinned : Pinned := { name := "ytoigfahdgphpdaa", sum := "e091ee3257d73b81ee5546d5387ef743cf4444d5377687f1709ff6384234dd3b", checked := Try.checked }
namespace Rows
def none {H : Type} : Left H := { results := [], args := [] }

/-- 'weftlaw02.VarintWrites': WHATEVER THE INPUT: true; the input reads as it did. -/
def varintWritesSpec : ChangeSpec := { name := "varintWrites", fn := fun _ => fun
  | [d] => { results := [.lit (.bool true)], args := [d] }
  | _ => none }
def varintWritesRow : OpenClaim := { program := "ytoigfahdgphpdaa", sum := "e091ee3257d73b81ee5546d5387ef743cf4444d5377687f1709ff6384234dd3b", func := "weft/weftlaw02.VarintWrites", spec := "varintWrites", inPlace := ["internal/abi.NoEscape"], unfollowed := true, recurses := true, apart := false }
def VarintWritesSaid : Prop := varintWritesRow.holds Try.pinned (OpenSpec.ofChange varintWritesSpec)

/-- ITS FALSE NEIGHBOUR: 'it returns false'. Refute it at one input. -/
def varintWritesWrong : ChangeSpec := { name := "varintWrites", fn := fun _ => fun
  | [d] => { results := [.lit (.bool false)], args := [d] }
  | _ => none }
def VarintWritesWrongFalsely : Prop := varintWritesRow.holds Try.pinned (OpenSpec.ofChange varintWritesWrong)

/-- 'weftlaw07.TarjanBehind': WHATEVER THE INPUT: true; the input reads as it did. -/
def tarjanBehindSpec : ChangeSpec := { name := "tarjanBehind", fn := fun _ => fun
  | [d1, d2] => { results := [.lit (.bool true)], args := [d1, d2] }
  | _ => none }
def tarjanBehindRow : OpenClaim := { program := "ytoigfahdgphpdaa", sum := "e091ee3257d73b81ee5546d5387ef743cf4444d5377687f1709ff6384234dd3b", func := "weft/weftlaw07.TarjanBehind", spec := "tarjanBehind", apart := false }
def TarjanBehindSaid : Prop := tarjanBehindRow.holds Try.pinned (OpenSpec.ofChange tarjanBehindSpec)

/-- ITS FALSE NEIGHBOUR: 'it returns false'. Refute it at one input. -/
def tarjanBehindWrong : ChangeSpec := { name := "tarjanBehind", fn := fun _ => fun
  | [d1, d2] => { results := [.lit (.bool false)], args := [d1, d2] }
  | _ => none }
def TarjanBehindWrongFalsely : Prop := tarjanBehindRow.holds Try.pinned (OpenSpec.ofChange tarjanBehindWrong)

/-- 'weftlaw02.VarintBack': WHATEVER THE INPUT: true; the input reads as it did. -/
def varintBackSpec : ChangeSpec := { name := "varintBack", fn := fun _ => fun
  | [d] => { results := [.lit (.bool true)], args := [d] }
  | _ => none }
def varintBackRow : OpenClaim := { program := "ytoigfahdgphpdaa", sum := "e091ee3257d73b81ee5546d5387ef743cf4444d5377687f1709ff6384234dd3b", func := "weft/weftlaw02.VarintBack", spec := "varintBack", inPlace := ["internal/abi.NoEscape"], unfollowed := true, recurses := true, apart := false }
def VarintBackSaid : Prop := varintBackRow.holds Try.pinned (OpenSpec.ofChange varintBackSpec)

/-- ITS FALSE NEIGHBOUR: 'it returns false'. Refute it at one input. -/
def varintBackWrong : ChangeSpec := { name := "varintBack", fn := fun _ => fun
  | [d] => { results := [.lit (.bool false)], args := [d] }
  | _ => none }
def VarintBackWrongFalsely : Prop := varintBackRow.holds Try.pinned (OpenSpec.ofChange varintBackWrong)

/-- 'weftlaw02.VarintOne': WHATEVER THE INPUT: true; the input reads as it did. -/
def varintOneSpec : ChangeSpec := { name := "varintOne", fn := fun _ => fun
  | [d] => { results := [.lit (.bool true)], args := [d] }
  | _ => none }
def varintOneRow : OpenClaim := { program := "ytoigfahdgphpdaa", sum := "e091ee3257d73b81ee5546d5387ef743cf4444d5377687f1709ff6384234dd3b", func := "weft/weftlaw02.VarintOne", spec := "varintOne", inPlace := ["internal/abi.NoEscape"], unfollowed := true, recurses := true, apart := false }
def VarintOneSaid : Prop := varintOneRow.holds Try.pinned (OpenSpec.ofChange varintOneSpec)

/-- ITS FALSE NEIGHBOUR: 'it returns false'. Refute it at one input. -/
def varintOneWrong : ChangeSpec := { name := "varintOne", fn := fun _ => fun
  | [d] => { results := [.lit (.bool false)], args := [d] }
  | _ => none }
def VarintOneWrongFalsely : Prop := varintOneRow.holds Try.pinned (OpenSpec.ofChange varintOneWrong)

/-- 'weftlaw07.TarjanParts': WHATEVER THE INPUT: true; the input reads as it did. -/
def tarjanPartsSpec : ChangeSpec := { name := "tarjanParts", fn := fun _ => fun
  | [d1, d2] => { results := [.lit (.bool true)], args := [d1, d2] }
  | _ => none }
def tarjanPartsRow : OpenClaim := { program := "ytoigfahdgphpdaa", sum := "e091ee3257d73b81ee5546d5387ef743cf4444d5377687f1709ff6384234dd3b", func := "weft/weftlaw07.TarjanParts", spec := "tarjanParts", apart := false }
def TarjanPartsSaid : Prop := tarjanPartsRow.holds Try.pinned (OpenSpec.ofChange tarjanPartsSpec)

/-- ITS FALSE NEIGHBOUR: 'it returns false'. Refute it at one input. -/
def tarjanPartsWrong : ChangeSpec := { name := "tarjanParts", fn := fun _ => fun
  | [d1, d2] => { results := [.lit (.bool false)], args := [d1, d2] }
  | _ => none }
def TarjanPartsWrongFalsely : Prop := tarjanPartsRow.holds Try.pinned (OpenSpec.ofChange tarjanPartsWrong)

/-- 'weftlaw07.TarjanTurned': WHATEVER THE INPUT: true; the input reads as it did. -/
def tarjanTurnedSpec : ChangeSpec := { name := "tarjanTurned", fn := fun _ => fun
  | [d1, d2] => { results := [.lit (.bool true)], args := [d1, d2] }
  | _ => none }
def tarjanTurnedRow : OpenClaim := { program := "ytoigfahdgphpdaa", sum := "e091ee3257d73b81ee5546d5387ef743cf4444d5377687f1709ff6384234dd3b", func := "weft/weftlaw07.TarjanTurned", spec := "tarjanTurned", apart := false }
def TarjanTurnedSaid : Prop := tarjanTurnedRow.holds Try.pinned (OpenSpec.ofChange tarjanTurnedSpec)

/-- ITS FALSE NEIGHBOUR: 'it returns false'. Refute it at one input. -/
def tarjanTurnedWrong : ChangeSpec := { name := "tarjanTurned", fn := fun _ => fun
  | [d1, d2] => { results := [.lit (.bool false)], args := [d1, d2] }
  | _ => none }
def TarjanTurnedWrongFalsely : Prop := tarjanTurnedRow.holds Try.pinned (OpenSpec.ofChange tarjanTurnedWrong)

/-- 'weftlaw02.VarintReads': WHATEVER THE INPUT: true; the input reads as it did. -/
def varintReadsSpec : ChangeSpec := { name := "varintReads", fn := fun _ => fun
  | [d1, d2] => { results := [.lit (.bool true)], args := [d1, d2] }
  | _ => none }
def varintReadsRow : OpenClaim := { program := "ytoigfahdgphpdaa", sum := "e091ee3257d73b81ee5546d5387ef743cf4444d5377687f1709ff6384234dd3b", func := "weft/weftlaw02.VarintReads", spec := "varintReads", inPlace := ["internal/abi.NoEscape"], unfollowed := true, recurses := true, apart := false }
def VarintReadsSaid : Prop := varintReadsRow.holds Try.pinned (OpenSpec.ofChange varintReadsSpec)

/-- ITS FALSE NEIGHBOUR: 'it returns false'. Refute it at one input. -/
def varintReadsWrong : ChangeSpec := { name := "varintReads", fn := fun _ => fun
  | [d1, d2] => { results := [.lit (.bool false)], args := [d1, d2] }
  | _ => none }
def VarintReadsWrongFalsely : Prop := varintReadsRow.holds Try.pinned (OpenSpec.ofChange varintReadsWrong)

/-- 'weftlaw07.TarjanLeads': WHATEVER THE INPUT: true; the input reads as it did. -/
def tarjanLeadsSpec : ChangeSpec := { name := "tarjanLeads", fn := fun _ => fun
  | [d1, d2, d3] => { results := [.lit (.bool true)], args := [d1, d2, d3] }
  | _ => none }
def tarjanLeadsRow : OpenClaim := { program := "ytoigfahdgphpdaa", sum := "e091ee3257d73b81ee5546d5387ef743cf4444d5377687f1709ff6384234dd3b", func := "weft/weftlaw07.TarjanLeads", spec := "tarjanLeads", apart := false }
def TarjanLeadsSaid : Prop := tarjanLeadsRow.holds Try.pinned (OpenSpec.ofChange tarjanLeadsSpec)

/-- ITS FALSE NEIGHBOUR: 'it returns false'. Refute it at one input. -/
def tarjanLeadsWrong : ChangeSpec := { name := "tarjanLeads", fn := fun _ => fun
  | [d1, d2, d3] => { results := [.lit (.bool false)], args := [d1, d2, d3] }
  | _ => none }
def TarjanLeadsWrongFalsely : Prop := tarjanLeadsRow.holds Try.pinned (OpenSpec.ofChange tarjanLeadsWrong)

/-- 'weftlaw07.TarjanMore': WHATEVER THE INPUT: true; the input reads as it did. -/
def tarjanMoreSpec : ChangeSpec := { name := "tarjanMore", fn := fun _ => fun
  | [d1, d2, d3] => { results := [.lit (.bool true)], args := [d1, d2, d3] }
  | _ => none }
def tarjanMoreRow : OpenClaim := { program := "ytoigfahdgphpdaa", sum := "e091ee3257d73b81ee5546d5387ef743cf4444d5377687f1709ff6384234dd3b", func := "weft/weftlaw07.TarjanMore", spec := "tarjanMore", apart := false }
def TarjanMoreSaid : Prop := tarjanMoreRow.holds Try.pinned (OpenSpec.ofChange tarjanMoreSpec)

/-- ITS FALSE NEIGHBOUR: 'it returns false'. Refute it at one input. -/
def tarjanMoreWrong : ChangeSpec := { name := "tarjanMore", fn := fun _ => fun
  | [d1, d2, d3] => { results := [.lit (.bool false)], args := [d1, d2, d3] }
  | _ => none }
def TarjanMoreWrongFalsely : Prop := tarjanMoreRow.holds Try.pinned (OpenSpec.ofChange tarjanMoreWrong)

/-- 'weftlaw05.InternSorts': WHATEVER THE INPUT: true; the input reads as it did. -/
def internSortsSpec : ChangeSpec := { name := "internSorts", fn := fun _ => fun
  | [d] => { results := [.lit (.bool true)], args := [d] }
  | _ => none }
def internSortsRow : OpenClaim := { program := "ytoigfahdgphpdaa", sum := "e091ee3257d73b81ee5546d5387ef743cf4444d5377687f1709ff6384234dd3b", func := "weft/weftlaw05.InternSorts", spec := "internSorts", inPlace := ["slices.overlaps[int]"], unfollowed := true, recurses := true, apart := false }
def InternSortsSaid : Prop := internSortsRow.holds Try.pinned (OpenSpec.ofChange internSortsSpec)

/-- ITS FALSE NEIGHBOUR: 'it returns false'. Refute it at one input. -/
def internSortsWrong : ChangeSpec := { name := "internSorts", fn := fun _ => fun
  | [d] => { results := [.lit (.bool false)], args := [d] }
  | _ => none }
def InternSortsWrongFalsely : Prop := internSortsRow.holds Try.pinned (OpenSpec.ofChange internSortsWrong)

/-- 'weftlaw05.InternTexts': WHATEVER THE INPUT: true; the input reads as it did. -/
def internTextsSpec : ChangeSpec := { name := "internTexts", fn := fun _ => fun
  | [d1, d2, d3] => { results := [.lit (.bool true)], args := [d1, d2, d3] }
  | _ => none }
def internTextsRow : OpenClaim := { program := "ytoigfahdgphpdaa", sum := "e091ee3257d73b81ee5546d5387ef743cf4444d5377687f1709ff6384234dd3b", func := "weft/weftlaw05.InternTexts", spec := "internTexts", inPlace := ["slices.overlaps[int]"], unfollowed := true, recurses := true, apart := false }
def InternTextsSaid : Prop := internTextsRow.holds Try.pinned (OpenSpec.ofChange internTextsSpec)

/-- ITS FALSE NEIGHBOUR: 'it returns false'. Refute it at one input. -/
def internTextsWrong : ChangeSpec := { name := "internTexts", fn := fun _ => fun
  | [d1, d2, d3] => { results := [.lit (.bool false)], args := [d1, d2, d3] }
  | _ => none }
def InternTextsWrongFalsely : Prop := internTextsRow.holds Try.pinned (OpenSpec.ofChange internTextsWrong)

/-- 'weftlaw05.InternOne': WHATEVER THE INPUT: true; the input reads as it did. -/
def internOneSpec : ChangeSpec := { name := "internOne", fn := fun _ => fun
  | [d1, d2] => { results := [.lit (.bool true)], args := [d1, d2] }
  | _ => none }
def internOneRow : OpenClaim := { program := "ytoigfahdgphpdaa", sum := "e091ee3257d73b81ee5546d5387ef743cf4444d5377687f1709ff6384234dd3b", func := "weft/weftlaw05.InternOne", spec := "internOne", inPlace := ["slices.overlaps[int]"], unfollowed := true, recurses := true, apart := false }
def InternOneSaid : Prop := internOneRow.holds Try.pinned (OpenSpec.ofChange internOneSpec)

/-- ITS FALSE NEIGHBOUR: 'it returns false'. Refute it at one input. -/
def internOneWrong : ChangeSpec := { name := "internOne", fn := fun _ => fun
  | [d1, d2] => { results := [.lit (.bool false)], args := [d1, d2] }
  | _ => none }
def InternOneWrongFalsely : Prop := internOneRow.holds Try.pinned (OpenSpec.ofChange internOneWrong)

/- THE SECOND FORM. 'bulk': how many values and letters a reading holds, each counted each time it is reached (what is shared counts as often as it is met; a slice's spare places count too). A statement '..UptoSaid' is the law's where the arguments, and the package variables that the reading takes, are together of bulk at most 1048576: NARROWER than '..Said'. Prove '..Said' where nothing that the law and all that it calls make is longer than what came in: it says more and counts as full. Else prove '..UptoSaid'. A law counts once. -/
mutual
def uptoBulk {H : Type} : DataW H → Nat
  | .lit (.string bytes) => bytes.length + 1
  | .lit _ => 1
  | .nil => 1
  | .ptr d => uptoBulk d + 1
  | .slice elems spare => uptoBulkAll elems + uptoBulkAll spare + 1
  | .agg parts => uptoBulkAll parts + 1
  | .iface _ d => uptoBulk d + 1
  | .map entries => uptoBulkEntries entries + 1
  | .held _ => 1
def uptoBulkAll {H : Type} : List (DataW H) → Nat
  | [] => 0
  | d :: r => uptoBulk d + uptoBulkAll r
def uptoBulkEntries {H : Type} : List (Lit × DataW H) → Nat
  | [] => 0
  | x :: r => uptoBulkEntry x + uptoBulkEntries r
def uptoBulkEntry {H : Type} : Lit × DataW H → Nat
  | (.string bytes, d) => bytes.length + uptoBulk d + 1
  | (_, d) => uptoBulk d + 1
 end
def uptoSmall : (H : Type) → List (DataW H) → Bool := fun _ ds => decide (uptoBulkAll ds ≤ 1048576)
def OpenSpec.upto (s : _root_.Go.ChangeSpec) : _root_.Go.OpenSpec := { _root_.Go.OpenSpec.ofChange s with cond := some uptoSmall }

/-- 'weftlaw02.VarintWrites', WHERE WHAT IT READS IS OF BULK AT MOST 1048576: true; the input reads as it did. -/
def varintWritesUptoRow : OpenClaim := { program := "ytoigfahdgphpdaa", sum := "e091ee3257d73b81ee5546d5387ef743cf4444d5377687f1709ff6384234dd3b", func := "weft/weftlaw02.VarintWrites", spec := "varintWrites", inPlace := ["internal/abi.NoEscape"], unfollowed := true, recurses := true, apart := false, narrowed := true }
def VarintWritesUptoSaid : Prop := varintWritesUptoRow.holds Try.pinned (OpenSpec.upto varintWritesSpec)

/-- 'weftlaw07.TarjanBehind', WHERE WHAT IT READS IS OF BULK AT MOST 1048576: true; the input reads as it did. -/
def tarjanBehindUptoRow : OpenClaim := { program := "ytoigfahdgphpdaa", sum := "e091ee3257d73b81ee5546d5387ef743cf4444d5377687f1709ff6384234dd3b", func := "weft/weftlaw07.TarjanBehind", spec := "tarjanBehind", apart := false, narrowed := true }
def TarjanBehindUptoSaid : Prop := tarjanBehindUptoRow.holds Try.pinned (OpenSpec.upto tarjanBehindSpec)

/-- 'weftlaw02.VarintBack', WHERE WHAT IT READS IS OF BULK AT MOST 1048576: true; the input reads as it did. -/
def varintBackUptoRow : OpenClaim := { program := "ytoigfahdgphpdaa", sum := "e091ee3257d73b81ee5546d5387ef743cf4444d5377687f1709ff6384234dd3b", func := "weft/weftlaw02.VarintBack", spec := "varintBack", inPlace := ["internal/abi.NoEscape"], unfollowed := true, recurses := true, apart := false, narrowed := true }
def VarintBackUptoSaid : Prop := varintBackUptoRow.holds Try.pinned (OpenSpec.upto varintBackSpec)

/-- 'weftlaw02.VarintOne', WHERE WHAT IT READS IS OF BULK AT MOST 1048576: true; the input reads as it did. -/
def varintOneUptoRow : OpenClaim := { program := "ytoigfahdgphpdaa", sum := "e091ee3257d73b81ee5546d5387ef743cf4444d5377687f1709ff6384234dd3b", func := "weft/weftlaw02.VarintOne", spec := "varintOne", inPlace := ["internal/abi.NoEscape"], unfollowed := true, recurses := true, apart := false, narrowed := true }
def VarintOneUptoSaid : Prop := varintOneUptoRow.holds Try.pinned (OpenSpec.upto varintOneSpec)

/-- 'weftlaw07.TarjanParts', WHERE WHAT IT READS IS OF BULK AT MOST 1048576: true; the input reads as it did. -/
def tarjanPartsUptoRow : OpenClaim := { program := "ytoigfahdgphpdaa", sum := "e091ee3257d73b81ee5546d5387ef743cf4444d5377687f1709ff6384234dd3b", func := "weft/weftlaw07.TarjanParts", spec := "tarjanParts", apart := false, narrowed := true }
def TarjanPartsUptoSaid : Prop := tarjanPartsUptoRow.holds Try.pinned (OpenSpec.upto tarjanPartsSpec)

/-- 'weftlaw07.TarjanTurned', WHERE WHAT IT READS IS OF BULK AT MOST 1048576: true; the input reads as it did. -/
def tarjanTurnedUptoRow : OpenClaim := { program := "ytoigfahdgphpdaa", sum := "e091ee3257d73b81ee5546d5387ef743cf4444d5377687f1709ff6384234dd3b", func := "weft/weftlaw07.TarjanTurned", spec := "tarjanTurned", apart := false, narrowed := true }
def TarjanTurnedUptoSaid : Prop := tarjanTurnedUptoRow.holds Try.pinned (OpenSpec.upto tarjanTurnedSpec)

/-- 'weftlaw02.VarintReads', WHERE WHAT IT READS IS OF BULK AT MOST 1048576: true; the input reads as it did. -/
def varintReadsUptoRow : OpenClaim := { program := "ytoigfahdgphpdaa", sum := "e091ee3257d73b81ee5546d5387ef743cf4444d5377687f1709ff6384234dd3b", func := "weft/weftlaw02.VarintReads", spec := "varintReads", inPlace := ["internal/abi.NoEscape"], unfollowed := true, recurses := true, apart := false, narrowed := true }
def VarintReadsUptoSaid : Prop := varintReadsUptoRow.holds Try.pinned (OpenSpec.upto varintReadsSpec)

/-- 'weftlaw07.TarjanLeads', WHERE WHAT IT READS IS OF BULK AT MOST 1048576: true; the input reads as it did. -/
def tarjanLeadsUptoRow : OpenClaim := { program := "ytoigfahdgphpdaa", sum := "e091ee3257d73b81ee5546d5387ef743cf4444d5377687f1709ff6384234dd3b", func := "weft/weftlaw07.TarjanLeads", spec := "tarjanLeads", apart := false, narrowed := true }
def TarjanLeadsUptoSaid : Prop := tarjanLeadsUptoRow.holds Try.pinned (OpenSpec.upto tarjanLeadsSpec)

/-- 'weftlaw07.TarjanMore', WHERE WHAT IT READS IS OF BULK AT MOST 1048576: true; the input reads as it did. -/
def tarjanMoreUptoRow : OpenClaim := { program := "ytoigfahdgphpdaa", sum := "e091ee3257d73b81ee5546d5387ef743cf4444d5377687f1709ff6384234dd3b", func := "weft/weftlaw07.TarjanMore", spec := "tarjanMore", apart := false, narrowed := true }
def TarjanMoreUptoSaid : Prop := tarjanMoreUptoRow.holds Try.pinned (OpenSpec.upto tarjanMoreSpec)

/-- 'weftlaw05.InternSorts', WHERE WHAT IT READS IS OF BULK AT MOST 1048576: true; the input reads as it did. -/
def internSortsUptoRow : OpenClaim := { program := "ytoigfahdgphpdaa", sum := "e091ee3257d73b81ee5546d5387ef743cf4444d5377687f1709ff6384234dd3b", func := "weft/weftlaw05.InternSorts", spec := "internSorts", inPlace := ["slices.overlaps[int]"], unfollowed := true, recurses := true, apart := false, narrowed := true }
def InternSortsUptoSaid : Prop := internSortsUptoRow.holds Try.pinned (OpenSpec.upto internSortsSpec)

/-- 'weftlaw05.InternTexts', WHERE WHAT IT READS IS OF BULK AT MOST 1048576: true; the input reads as it did. -/
def internTextsUptoRow : OpenClaim := { program := "ytoigfahdgphpdaa", sum := "e091ee3257d73b81ee5546d5387ef743cf4444d5377687f1709ff6384234dd3b", func := "weft/weftlaw05.InternTexts", spec := "internTexts", inPlace := ["slices.overlaps[int]"], unfollowed := true, recurses := true, apart := false, narrowed := true }
def InternTextsUptoSaid : Prop := internTextsUptoRow.holds Try.pinned (OpenSpec.upto internTextsSpec)

/-- 'weftlaw05.InternOne', WHERE WHAT IT READS IS OF BULK AT MOST 1048576: true; the input reads as it did. -/
def internOneUptoRow : OpenClaim := { program := "ytoigfahdgphpdaa", sum := "e091ee3257d73b81ee5546d5387ef743cf4444d5377687f1709ff6384234dd3b", func := "weft/weftlaw05.InternOne", spec := "internOne", inPlace := ["slices.overlaps[int]"], unfollowed := true, recurses := true, apart := false, narrowed := true }
def InternOneUptoSaid : Prop := internOneUptoRow.holds Try.pinned (OpenSpec.upto internOneSpec)

end Rows
end Go.Proofs.Ytoigfahdgphpdaa
