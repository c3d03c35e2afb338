/- Arguments of weftlaw07's laws, opened. -/
import Derived.Test.YtoigfahdgphpdaaOpr
import Derived.Test.YtoigfahdgphpdaaL7C
set_option linter.unusedVariables false
set_option linter.unusedSimpArgs false
-- tEdges: 35
-- tEdge: 45
-- tInts: 42
-- tInt: 3
namespace Go.Proofs.Ytoigfahdgphpdaa.O07
open Go Go.V Go.Proofs Go.ChangeShapes Go.WideShapes Go.ChangeAt Go.RowKit Go.Proofs.Ytoigfahdgphpdaa.Opn Go.Proofs.Ytoigfahdgphpdaa.Opr Go.Proofs.Ytoigfahdgphpdaa.C7
theorem uEdges : Try.prog.underlying 35 = some (.slice 45) := by kernel_rfl
theorem uInts : Try.prog.underlying 42 = some (.slice 3) := by kernel_rfl
section
variable {H : Type} {enc : TypeId × Value → H} {w : World}
theorem rdb_edge : Rdb enc Try.prog w 45 flE (fun _ => True) := by
  intro fuel cs x h hb
  have hf : fieldsOk Try.prog 45 [(3, 0), (3, 1)] = true := by kernel_rfl
  have hu : Try.prog.underlying 3 = some (.int .i64) := by kernel_rfl
  obtain ⟨a, _, ha⟩ := rdb_field (i := 0) hf rfl (rdb_int hu) h hb
  obtain ⟨b, _, hb'⟩ := rdb_field (i := 1) hf rfl (rdb_int hu) h hb
  refine ⟨(a, b), trivial, fun k c hk => ?_⟩
  match k, hk with
  | 0, hk => exact ha 0 c hk
  | 1, hk => exact hb' 0 c hk
  | k + 2, hk => simp [flE] at hk
theorem open_edges {fuel : Nat} {cs : List Value} {x : DataW H × List MemPlace} (h : DataW.trod enc Try.prog w 0 (fun _ => true) true fuel 35 cs = some x) (hk : Rows.uptoBulk x.1 ≤ 1048576) :
    ∃ (s : Sl) (xs : List (Int × Int)), cs = [.slice s.a s.n s.c] ∧ Rd flE 2 w.heap s xs := by
  obtain ⟨s, xs, h1, h2, _⟩ := open_row (by kernel_rfl) (by kernel_rfl) FlE rdb_edge h hk
  exact ⟨s, xs, h1, h2⟩
theorem open_ints {fuel : Nat} {cs : List Value} {x : DataW H × List MemPlace} (h : DataW.trod enc Try.prog w 0 (fun _ => true) true fuel 42 cs = some x) (hk : Rows.uptoBulk x.1 ≤ 1048576) :
    ∃ (s : Sl) (xs : List Int), cs = [.slice s.a s.n s.c] ∧ Rd flI 1 w.heap s xs := by
  obtain ⟨s, xs, h1, h2, _⟩ := open_row (e := 3) (by kernel_rfl) (by kernel_rfl) FlI (rdb_int (by kernel_rfl)) h hk
  exact ⟨s, xs, h1, h2⟩
end
end Go.Proofs.Ytoigfahdgphpdaa.O07

