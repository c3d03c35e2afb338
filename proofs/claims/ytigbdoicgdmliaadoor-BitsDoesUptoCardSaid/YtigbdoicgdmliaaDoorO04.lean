/- Arguments of weftlaw04's laws, opened. -/
import Derived.Test.YtigbdoicgdmliaaDoorOpr
import Derived.Test.YtigbdoicgdmliaaDoorL04
set_option linter.unusedVariables false
set_option linter.unusedSimpArgs false
-- tOps: 22
-- tOp: 30
-- tInts: 27
-- tInt: 3
namespace Go.Proofs.YtigbdoicgdmliaaDoor.O04
open Go Go.V Go.Proofs Go.ChangeShapes Go.WideShapes Go.ChangeAt Go.RowKit Go.Proofs.YtigbdoicgdmliaaDoor.Opn Go.Proofs.YtigbdoicgdmliaaDoor.Opr Go.Proofs.YtigbdoicgdmliaaDoor.L04
theorem uOps : Tryd.prog.underlying 22 = some (.slice 30) := by kernel_rfl
theorem uInts : Tryd.prog.underlying 27 = some (.slice 3) := by kernel_rfl
section
variable {H : Type} {enc : TypeId × Value → H} {w : World}
theorem rdb_op : Rdb enc Tryd.prog w 30 flO (fun x => x.2 ≤ 9223372036854775807) := by
  intro fuel cs x h hb
  have hf : fieldsOk Tryd.prog 30 [(3, 0), (3, 1)] = true := by kernel_rfl
  have hu : Tryd.prog.underlying 3 = some (.int .i64) := by kernel_rfl
  obtain ⟨a, _, ha⟩ := rdb_field (i := 0) hf rfl (rdb_int hu) h hb
  obtain ⟨b, hb2, hb'⟩ := rdb_field (i := 1) hf rfl (rdb_int hu) h hb
  refine ⟨(a, b), hb2.2, fun k c hk => ?_⟩
  match k, hk with
  | 0, hk => exact ha 0 c hk
  | 1, hk => exact hb' 0 c hk
  | k + 2, hk => simp [flO] at hk
theorem open_ops {fuel : Nat} {cs : List Value} {x : DataW H × List MemPlace} (h : DataW.trod enc Tryd.prog w 0 (fun _ => true) true fuel 22 cs = some x) (hk : Rows.uptoBulk x.1 ≤ 1048576) :
    ∃ (s : Sl) (xs : List (Int × Int)), cs = [.slice s.a s.n s.c] ∧ (Rd flO 2 w.heap s xs ∧ xs.length ≤ 1048576 ∧ ∀ x ∈ xs, x.2 ≤ 9223372036854775807) := by
  obtain ⟨s, xs, h1, h2, h3⟩ := open_row (by kernel_rfl) (by kernel_rfl) FlO rdb_op h hk
  exact ⟨s, xs, h1, h2, h3⟩
theorem open_ints {fuel : Nat} {cs : List Value} {x : DataW H × List MemPlace} (h : DataW.trod enc Tryd.prog w 0 (fun _ => true) true fuel 27 cs = some x) (hk : Rows.uptoBulk x.1 ≤ 1048576) :
    ∃ (s : Sl) (xs : List Int), cs = [.slice s.a s.n s.c] ∧ Rd flI 1 w.heap s xs := by
  obtain ⟨s, xs, h1, h2, _⟩ := open_row (e := 3) (by kernel_rfl) (by kernel_rfl) FlI (rdb_int (by kernel_rfl)) h hk
  exact ⟨s, xs, h1, h2⟩
end
end Go.Proofs.YtigbdoicgdmliaaDoor.O04

