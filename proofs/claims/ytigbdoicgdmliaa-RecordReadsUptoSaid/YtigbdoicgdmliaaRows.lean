/-
  No cell of these rows narrows 'for every input' (looked for: loops, veiled, ifaces, maps, wideKeys, modest, calm, conditions, laid).
  DERIVED. THE GIVEN ROWS OF THIS SEAT. 8 by the template 'for every input the law returns true; each argument reads behind the call as it read before'; 0 by the template 'total and deterministic' (their statements: YtigbdoicgdmliaaTotals.lean).
  GIVEN WITH THE SEED: the statements are not yours to turn. If you find one false, say at which input.
  Laid BY PROGRAM, IN A SANDBOX (cutbox-rows.mjs): the forced cells as the released guide's own fill.sh prints them over the translation 61723a724aa7f771… (all of the seat's roots in one cut). By AI agents, Wed Nov 11 2026. No macro, syntax, notation, axiom, sorry.
-/
import Derived.Test.YtigbdoicgdmliaaChecked
import GoSem.Claim
import GoSem.ClaimJoined
import GoSem.ClaimMapViews
import Derived.JoinedTies
import Derived.KernelRfl
namespace Go.Proofs.Ytigbdoicgdmliaa
/- THE CELL 'sum', in the pinned program and in every row, IS THE sha256 OF THE DUMP (.gsa) THAT YtigbdoicgdmliaaProg.lean LOADS. Nothing in Lean hashes anything: it is a label: what it is worth is what the hold of that sum in a sandbox is worth. -/
noncomputable def Try.pinned : Pinned := { name := "ytigbdoicgdmliaa", sum := "61723a724aa7f77100e0417034709f4a2ce5d5de028ba48733e7b3d4f13dc718", checked := Try.checked }
namespace Rows
def none {H : Type} : Left H := { results := [], args := [] }

/-- 'weftlaw08.AgendaPicks': WHATEVER THE INPUT: true; the input reads as it did. -/
def agendaPicksSpec : ChangeSpec := { name := "agendaPicks", fn := fun _ => fun
  | [d] => { results := [.lit (.bool true)], args := [d] }
  | _ => none }
def agendaPicksRow : OpenClaim := { program := "ytigbdoicgdmliaa", sum := "61723a724aa7f77100e0417034709f4a2ce5d5de028ba48733e7b3d4f13dc718", func := "weft/weftlaw08.AgendaPicks", spec := "agendaPicks", inPlace := ["slices.overlaps[int]"], unfollowed := true, recurses := true, apart := false }
def AgendaPicksSaid : Prop := agendaPicksRow.holds Try.pinned (OpenSpec.ofChange agendaPicksSpec)

/-- ITS FALSE NEIGHBOUR: 'it returns false'. Refute it at one input. -/
def agendaPicksWrong : ChangeSpec := { name := "agendaPicks", fn := fun _ => fun
  | [d] => { results := [.lit (.bool false)], args := [d] }
  | _ => none }
def AgendaPicksWrongFalsely : Prop := agendaPicksRow.holds Try.pinned (OpenSpec.ofChange agendaPicksWrong)

/-- 'weftlaw08.AgendaDoes': WHATEVER THE INPUT: true; the input reads as it did. -/
def agendaDoesSpec : ChangeSpec := { name := "agendaDoes", fn := fun _ => fun
  | [d] => { results := [.lit (.bool true)], args := [d] }
  | _ => none }
def agendaDoesRow : OpenClaim := { program := "ytigbdoicgdmliaa", sum := "61723a724aa7f77100e0417034709f4a2ce5d5de028ba48733e7b3d4f13dc718", func := "weft/weftlaw08.AgendaDoes", spec := "agendaDoes", inPlace := ["slices.overlaps[int]"], unfollowed := true, recurses := true, apart := false }
def AgendaDoesSaid : Prop := agendaDoesRow.holds Try.pinned (OpenSpec.ofChange agendaDoesSpec)

/-- ITS FALSE NEIGHBOUR: 'it returns false'. Refute it at one input. -/
def agendaDoesWrong : ChangeSpec := { name := "agendaDoes", fn := fun _ => fun
  | [d] => { results := [.lit (.bool false)], args := [d] }
  | _ => none }
def AgendaDoesWrongFalsely : Prop := agendaDoesRow.holds Try.pinned (OpenSpec.ofChange agendaDoesWrong)

/-- 'weftlaw08.AgendaOnce': WHATEVER THE INPUT: true; the input reads as it did. -/
def agendaOnceSpec : ChangeSpec := { name := "agendaOnce", fn := fun _ => fun
  | [d1, d2] => { results := [.lit (.bool true)], args := [d1, d2] }
  | _ => none }
def agendaOnceRow : OpenClaim := { program := "ytigbdoicgdmliaa", sum := "61723a724aa7f77100e0417034709f4a2ce5d5de028ba48733e7b3d4f13dc718", func := "weft/weftlaw08.AgendaOnce", spec := "agendaOnce", inPlace := ["slices.overlaps[int]"], unfollowed := true, recurses := true, apart := false }
def AgendaOnceSaid : Prop := agendaOnceRow.holds Try.pinned (OpenSpec.ofChange agendaOnceSpec)

/-- ITS FALSE NEIGHBOUR: 'it returns false'. Refute it at one input. -/
def agendaOnceWrong : ChangeSpec := { name := "agendaOnce", fn := fun _ => fun
  | [d1, d2] => { results := [.lit (.bool false)], args := [d1, d2] }
  | _ => none }
def AgendaOnceWrongFalsely : Prop := agendaOnceRow.holds Try.pinned (OpenSpec.ofChange agendaOnceWrong)

/-- 'weftlaw25.PoolOf': WHATEVER THE INPUT: true; the input reads as it did. -/
def poolOfSpec : ChangeSpec := { name := "poolOf", fn := fun _ => fun
  | [d1, d2] => { results := [.lit (.bool true)], args := [d1, d2] }
  | _ => none }
def poolOfRow : OpenClaim := { program := "ytigbdoicgdmliaa", sum := "61723a724aa7f77100e0417034709f4a2ce5d5de028ba48733e7b3d4f13dc718", func := "weft/weftlaw25.PoolOf", spec := "poolOf", inPlace := ["slices.overlaps[int]", "internal/abi.NoEscape"], unfollowed := true, recurses := true, apart := false }
def PoolOfSaid : Prop := poolOfRow.holds Try.pinned (OpenSpec.ofChange poolOfSpec)

/-- ITS FALSE NEIGHBOUR: 'it returns false'. Refute it at one input. -/
def poolOfWrong : ChangeSpec := { name := "poolOf", fn := fun _ => fun
  | [d1, d2] => { results := [.lit (.bool false)], args := [d1, d2] }
  | _ => none }
def PoolOfWrongFalsely : Prop := poolOfRow.holds Try.pinned (OpenSpec.ofChange poolOfWrong)

/-- 'weftlaw25.PoolBack': WHATEVER THE INPUT: true; the input reads as it did. -/
def poolBackSpec : ChangeSpec := { name := "poolBack", fn := fun _ => fun
  | [d1, d2, d3] => { results := [.lit (.bool true)], args := [d1, d2, d3] }
  | _ => none }
def poolBackRow : OpenClaim := { program := "ytigbdoicgdmliaa", sum := "61723a724aa7f77100e0417034709f4a2ce5d5de028ba48733e7b3d4f13dc718", func := "weft/weftlaw25.PoolBack", spec := "poolBack", inPlace := ["slices.overlaps[int]", "internal/abi.NoEscape"], unfollowed := true, recurses := true, apart := false }
def PoolBackSaid : Prop := poolBackRow.holds Try.pinned (OpenSpec.ofChange poolBackSpec)

/-- ITS FALSE NEIGHBOUR: 'it returns false'. Refute it at one input. -/
def poolBackWrong : ChangeSpec := { name := "poolBack", fn := fun _ => fun
  | [d1, d2, d3] => { results := [.lit (.bool false)], args := [d1, d2, d3] }
  | _ => none }
def PoolBackWrongFalsely : Prop := poolBackRow.holds Try.pinned (OpenSpec.ofChange poolBackWrong)

/-- 'weftlaw26.RecordReads': WHATEVER THE INPUT: true; the input reads as it did. -/
def recordReadsSpec : ChangeSpec := { name := "recordReads", fn := fun _ => fun
  | [d1, d2] => { results := [.lit (.bool true)], args := [d1, d2] }
  | _ => none }
def recordReadsRow : OpenClaim := { program := "ytigbdoicgdmliaa", sum := "61723a724aa7f77100e0417034709f4a2ce5d5de028ba48733e7b3d4f13dc718", func := "weft/weftlaw26.RecordReads", spec := "recordReads", inPlace := ["slices.overlaps[int]", "internal/abi.NoEscape"], unfollowed := true, recurses := true, apart := false }
def RecordReadsSaid : Prop := recordReadsRow.holds Try.pinned (OpenSpec.ofChange recordReadsSpec)

/-- ITS FALSE NEIGHBOUR: 'it returns false'. Refute it at one input. -/
def recordReadsWrong : ChangeSpec := { name := "recordReads", fn := fun _ => fun
  | [d1, d2] => { results := [.lit (.bool false)], args := [d1, d2] }
  | _ => none }
def RecordReadsWrongFalsely : Prop := recordReadsRow.holds Try.pinned (OpenSpec.ofChange recordReadsWrong)

/-- 'weftlaw26.RecordBytes': WHATEVER THE INPUT: true; the input reads as it did. -/
def recordBytesSpec : ChangeSpec := { name := "recordBytes", fn := fun _ => fun
  | [d1, d2] => { results := [.lit (.bool true)], args := [d1, d2] }
  | _ => none }
def recordBytesRow : OpenClaim := { program := "ytigbdoicgdmliaa", sum := "61723a724aa7f77100e0417034709f4a2ce5d5de028ba48733e7b3d4f13dc718", func := "weft/weftlaw26.RecordBytes", spec := "recordBytes", inPlace := ["slices.overlaps[int]", "internal/abi.NoEscape"], unfollowed := true, recurses := true, apart := false }
def RecordBytesSaid : Prop := recordBytesRow.holds Try.pinned (OpenSpec.ofChange recordBytesSpec)

/-- ITS FALSE NEIGHBOUR: 'it returns false'. Refute it at one input. -/
def recordBytesWrong : ChangeSpec := { name := "recordBytes", fn := fun _ => fun
  | [d1, d2] => { results := [.lit (.bool false)], args := [d1, d2] }
  | _ => none }
def RecordBytesWrongFalsely : Prop := recordBytesRow.holds Try.pinned (OpenSpec.ofChange recordBytesWrong)

/-- 'weftlaw26.RecordBack': WHATEVER THE INPUT: true; the input reads as it did. -/
def recordBackSpec : ChangeSpec := { name := "recordBack", fn := fun _ => fun
  | [d1, d2, d3] => { results := [.lit (.bool true)], args := [d1, d2, d3] }
  | _ => none }
def recordBackRow : OpenClaim := { program := "ytigbdoicgdmliaa", sum := "61723a724aa7f77100e0417034709f4a2ce5d5de028ba48733e7b3d4f13dc718", func := "weft/weftlaw26.RecordBack", spec := "recordBack", inPlace := ["slices.overlaps[int]", "internal/abi.NoEscape"], unfollowed := true, recurses := true, apart := false }
def RecordBackSaid : Prop := recordBackRow.holds Try.pinned (OpenSpec.ofChange recordBackSpec)

/-- ITS FALSE NEIGHBOUR: 'it returns false'. Refute it at one input. -/
def recordBackWrong : ChangeSpec := { name := "recordBack", fn := fun _ => fun
  | [d1, d2, d3] => { results := [.lit (.bool false)], args := [d1, d2, d3] }
  | _ => none }
def RecordBackWrongFalsely : Prop := recordBackRow.holds Try.pinned (OpenSpec.ofChange recordBackWrong)

/- THE SECOND FORM. 'bulk': how many values and letters a reading holds, each counted each time it is reached (what is shared counts as often as it is met; a slice's spare places count too). A statement '..UptoSaid' is the law's where the arguments, and the package variables that the reading takes, are together of bulk at most 1048576: NARROWER than '..Said'. Prove '..Said' where nothing that the law and all that it calls make is longer than what came in: it says more and counts as full. Else prove '..UptoSaid'. A law counts once. -/
mutual
def uptoBulk {H : Type} : DataW H → Nat
  | .lit (.string bytes) => bytes.length + 1
  | .lit _ => 1
  | .nil => 1
  | .ptr d => uptoBulk d + 1
  | .slice elems spare => uptoBulkAll elems + uptoBulkAll spare + 1
  | .agg parts => uptoBulkAll parts + 1
  | .iface _ d => uptoBulk d + 1
  | .map entries => uptoBulkEntries entries + 1
  | .held _ => 1
def uptoBulkAll {H : Type} : List (DataW H) → Nat
  | [] => 0
  | d :: r => uptoBulk d + uptoBulkAll r
def uptoBulkEntries {H : Type} : List (Lit × DataW H) → Nat
  | [] => 0
  | x :: r => uptoBulkEntry x + uptoBulkEntries r
def uptoBulkEntry {H : Type} : Lit × DataW H → Nat
  | (.string bytes, d) => bytes.length + uptoBulk d + 1
  | (_, d) => uptoBulk d + 1
 end
def uptoSmall : (H : Type) → List (DataW H) → Bool := fun _ ds => decide (uptoBulkAll ds ≤ 1048576)
def OpenSpec.upto (s : _root_.Go.ChangeSpec) : _root_.Go.OpenSpec := { _root_.Go.OpenSpec.ofChange s with cond := some uptoSmall }

/-- 'weftlaw08.AgendaPicks', WHERE WHAT IT READS IS OF BULK AT MOST 1048576: true; the input reads as it did. -/
def agendaPicksUptoRow : OpenClaim := { program := "ytigbdoicgdmliaa", sum := "61723a724aa7f77100e0417034709f4a2ce5d5de028ba48733e7b3d4f13dc718", func := "weft/weftlaw08.AgendaPicks", spec := "agendaPicks", inPlace := ["slices.overlaps[int]"], unfollowed := true, recurses := true, apart := false, narrowed := true }
def AgendaPicksUptoSaid : Prop := agendaPicksUptoRow.holds Try.pinned (OpenSpec.upto agendaPicksSpec)

/-- 'weftlaw08.AgendaDoes', WHERE WHAT IT READS IS OF BULK AT MOST 1048576: true; the input reads as it did. -/
def agendaDoesUptoRow : OpenClaim := { program := "ytigbdoicgdmliaa", sum := "61723a724aa7f77100e0417034709f4a2ce5d5de028ba48733e7b3d4f13dc718", func := "weft/weftlaw08.AgendaDoes", spec := "agendaDoes", inPlace := ["slices.overlaps[int]"], unfollowed := true, recurses := true, apart := false, narrowed := true }
def AgendaDoesUptoSaid : Prop := agendaDoesUptoRow.holds Try.pinned (OpenSpec.upto agendaDoesSpec)

/-- 'weftlaw08.AgendaOnce', WHERE WHAT IT READS IS OF BULK AT MOST 1048576: true; the input reads as it did. -/
def agendaOnceUptoRow : OpenClaim := { program := "ytigbdoicgdmliaa", sum := "61723a724aa7f77100e0417034709f4a2ce5d5de028ba48733e7b3d4f13dc718", func := "weft/weftlaw08.AgendaOnce", spec := "agendaOnce", inPlace := ["slices.overlaps[int]"], unfollowed := true, recurses := true, apart := false, narrowed := true }
def AgendaOnceUptoSaid : Prop := agendaOnceUptoRow.holds Try.pinned (OpenSpec.upto agendaOnceSpec)

/-- 'weftlaw25.PoolOf', WHERE WHAT IT READS IS OF BULK AT MOST 1048576: true; the input reads as it did. -/
def poolOfUptoRow : OpenClaim := { program := "ytigbdoicgdmliaa", sum := "61723a724aa7f77100e0417034709f4a2ce5d5de028ba48733e7b3d4f13dc718", func := "weft/weftlaw25.PoolOf", spec := "poolOf", inPlace := ["slices.overlaps[int]", "internal/abi.NoEscape"], unfollowed := true, recurses := true, apart := false, narrowed := true }
def PoolOfUptoSaid : Prop := poolOfUptoRow.holds Try.pinned (OpenSpec.upto poolOfSpec)

/-- 'weftlaw25.PoolBack', WHERE WHAT IT READS IS OF BULK AT MOST 1048576: true; the input reads as it did. -/
def poolBackUptoRow : OpenClaim := { program := "ytigbdoicgdmliaa", sum := "61723a724aa7f77100e0417034709f4a2ce5d5de028ba48733e7b3d4f13dc718", func := "weft/weftlaw25.PoolBack", spec := "poolBack", inPlace := ["slices.overlaps[int]", "internal/abi.NoEscape"], unfollowed := true, recurses := true, apart := false, narrowed := true }
def PoolBackUptoSaid : Prop := poolBackUptoRow.holds Try.pinned (OpenSpec.upto poolBackSpec)

/-- 'weftlaw26.RecordReads', WHERE WHAT IT READS IS OF BULK AT MOST 1048576: true; the input reads as it did. -/
def recordReadsUptoRow : OpenClaim := { program := "ytigbdoicgdmliaa", sum := "61723a724aa7f77100e0417034709f4a2ce5d5de028ba48733e7b3d4f13dc718", func := "weft/weftlaw26.RecordReads", spec := "recordReads", inPlace := ["slices.overlaps[int]", "internal/abi.NoEscape"], unfollowed := true, recurses := true, apart := false, narrowed := true }
def RecordReadsUptoSaid : Prop := recordReadsUptoRow.holds Try.pinned (OpenSpec.upto recordReadsSpec)

/-- 'weftlaw26.RecordBytes', WHERE WHAT IT READS IS OF BULK AT MOST 1048576: true; the input reads as it did. -/
def recordBytesUptoRow : OpenClaim := { program := "ytigbdoicgdmliaa", sum := "61723a724aa7f77100e0417034709f4a2ce5d5de028ba48733e7b3d4f13dc718", func := "weft/weftlaw26.RecordBytes", spec := "recordBytes", inPlace := ["slices.overlaps[int]", "internal/abi.NoEscape"], unfollowed := true, recurses := true, apart := false, narrowed := true }
def RecordBytesUptoSaid : Prop := recordBytesUptoRow.holds Try.pinned (OpenSpec.upto recordBytesSpec)

/-- 'weftlaw26.RecordBack', WHERE WHAT IT READS IS OF BULK AT MOST 1048576: true; the input reads as it did. -/
def recordBackUptoRow : OpenClaim := { program := "ytigbdoicgdmliaa", sum := "61723a724aa7f77100e0417034709f4a2ce5d5de028ba48733e7b3d4f13dc718", func := "weft/weftlaw26.RecordBack", spec := "recordBack", inPlace := ["slices.overlaps[int]", "internal/abi.NoEscape"], unfollowed := true, recurses := true, apart := false, narrowed := true }
def RecordBackUptoSaid : Prop := recordBackUptoRow.holds Try.pinned (OpenSpec.upto recordBackSpec)

end Rows
end Go.Proofs.Ytigbdoicgdmliaa
