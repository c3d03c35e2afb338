/- Rows of texts, opened; the types of weftlaw25. -/
import Derived.Test.YtigbdoicgdmliaaOpr
import Derived.Test.YtigbdoicgdmliaaV21
import Derived.Test.YtigbdoicgdmliaaL25P
set_option linter.unusedVariables false
set_option linter.unusedSimpArgs false
-- tStr: 9
-- tStrs: 47
namespace Go.Proofs.Ytigbdoicgdmliaa.O25
open Go Go.V Go.Proofs Go.ChangeShapes Go.WideShapes Go.ChangeAt Go.RowKit Go.Proofs.Ytigbdoicgdmliaa.Opn Go.Proofs.Ytigbdoicgdmliaa.Opr
theorem uStr : Try.prog.underlying 9 = some .string := by kernel_rfl
theorem uStrs : Try.prog.underlying 47 = some (.slice 9) := by kernel_rfl
theorem cStr : Try.prog.cellsOf 9 = 1 := by kernel_rfl
section
variable {H : Type} {enc : TypeId × Value → H} {w : World}
theorem rdb_strL {P : Program} {t : TypeId} (hu : P.underlying t = some .string) : Rdb enc P w t flL (fun v => v.length ≤ 1048576) := by
  intro fuel cs x h hb
  obtain ⟨v, hv, hc⟩ := rdb_str hu fuel cs x h hb
  refine ⟨v.data.toList, ?_, fun k c hk => hc k c ?_⟩
  · have : v.data.toList.length = v.size := by simp
    omega
  · unfold flL at hk
    rw [← str_of] at hk
    exact hk
theorem open_strs {fuel : Nat} {cs : List Value} {x : DataW H × List MemPlace} (h : DataW.trod enc Try.prog w 0 (fun _ => true) true fuel 47 cs = some x) (hk : Rows.uptoBulk x.1 ≤ 1048576) :
    ∃ (s : Sl) (xs : List (List UInt8)), cs = [.slice s.a s.n s.c] ∧ Rd flL 1 w.heap s xs ∧ ∀ y ∈ xs, y.length ≤ 1048576 := by
  obtain ⟨s, xs, h1, h2, _, h3⟩ := open_row uStrs cStr FlL (rdb_strL uStr) h hk
  exact ⟨s, xs, h1, h2, h3⟩
end
end Go.Proofs.Ytigbdoicgdmliaa.O25

