/- Arguments of weftlaw08's laws, opened. -/
import Derived.Test.YtigbdoicgdmliaaOpr
import Derived.Test.YtigbdoicgdmliaaL08
set_option linter.unusedVariables false
set_option linter.unusedSimpArgs false
-- tOps: 29
-- tOp: 37
-- tInts: 22
-- tInt: 3
-- tStrs: 47
-- tStr: 9
namespace Go.Proofs.Ytigbdoicgdmliaa.O08
open Go Go.V Go.Proofs Go.ChangeShapes Go.WideShapes Go.ChangeAt Go.RowKit Go.Proofs.Ytigbdoicgdmliaa.Opn Go.Proofs.Ytigbdoicgdmliaa.Opr Go.Proofs.Ytigbdoicgdmliaa.L08
theorem uOps : Try.prog.underlying 29 = some (.slice 37) := by kernel_rfl
theorem uInts : Try.prog.underlying 22 = some (.slice 3) := by kernel_rfl
theorem uStrs : Try.prog.underlying 47 = some (.slice 9) := by kernel_rfl
section
variable {H : Type} {enc : TypeId × Value → H} {w : World}
theorem rdb_op : Rdb enc Try.prog w 37 flO (fun _ => True) := by
  intro fuel cs x h hb
  have hf : fieldsOk Try.prog 37 [(3, 0), (3, 1)] = true := by kernel_rfl
  have hu : Try.prog.underlying 3 = some (.int .i64) := by kernel_rfl
  obtain ⟨a, _, ha⟩ := rdb_field (i := 0) hf rfl (rdb_int hu) h hb
  obtain ⟨b, _, hb'⟩ := rdb_field (i := 1) hf rfl (rdb_int hu) h hb
  refine ⟨(a, b), trivial, fun k c hk => ?_⟩
  match k, hk with
  | 0, hk => exact ha 0 c hk
  | 1, hk => exact hb' 0 c hk
  | k + 2, hk => simp [flO] at hk
theorem open_ops {fuel : Nat} {cs : List Value} {x : DataW H × List MemPlace} (h : DataW.trod enc Try.prog w 0 (fun _ => true) true fuel 29 cs = some x) (hk : Rows.uptoBulk x.1 ≤ 1048576) :
    ∃ (s : Sl) (xs : List (Int × Int)), cs = [.slice s.a s.n s.c] ∧ Rd flO 2 w.heap s xs := by
  obtain ⟨s, xs, h1, h2, _⟩ := open_row (by kernel_rfl) (by kernel_rfl) FlO rdb_op h hk
  exact ⟨s, xs, h1, h2⟩
theorem open_ints {fuel : Nat} {cs : List Value} {x : DataW H × List MemPlace} (h : DataW.trod enc Try.prog w 0 (fun _ => true) true fuel 22 cs = some x) (hk : Rows.uptoBulk x.1 ≤ 1048576) :
    ∃ (s : Sl) (xs : List Int), cs = [.slice s.a s.n s.c] ∧ Rd flI 1 w.heap s xs := by
  obtain ⟨s, xs, h1, h2, _⟩ := open_row (e := 3) (by kernel_rfl) (by kernel_rfl) FlI (rdb_int (by kernel_rfl)) h hk
  exact ⟨s, xs, h1, h2⟩
theorem open_strs {fuel : Nat} {cs : List Value} {x : DataW H × List MemPlace} (h : DataW.trod enc Try.prog w 0 (fun _ => true) true fuel 47 cs = some x) (hk : Rows.uptoBulk x.1 ≤ 1048576) :
    ∃ (s : Sl) (xs : List ByteArray), cs = [.slice s.a s.n s.c] ∧ Rd flT 1 w.heap s xs := by
  obtain ⟨s, xs, h1, h2, _⟩ := open_row (e := 9) (by kernel_rfl) (by kernel_rfl) FlT (rdb_str (by kernel_rfl)) h hk
  exact ⟨s, xs, h1, h2⟩
end
end Go.Proofs.Ytigbdoicgdmliaa.O08

