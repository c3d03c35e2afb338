/- Arguments of weftlaw09's laws, opened. -/
import Derived.Test.YthaejcmllibeoaaDoorOpr
import Derived.Test.YthaejcmllibeoaaDoorL09
set_option linter.unusedVariables false
set_option linter.unusedSimpArgs false
-- rToks: 58
-- rTok: 63
-- tInt: 3
-- tStr: 9
namespace Go.Proofs.YthaejcmllibeoaaDoor.O09
open Go Go.V Go.Proofs Go.ChangeShapes Go.WideShapes Go.ChangeAt Go.RowKit Go.Proofs.YthaejcmllibeoaaDoor.Opn Go.Proofs.YthaejcmllibeoaaDoor.Opr Go.Proofs.YthaejcmllibeoaaDoor.P09 Go.Proofs.YthaejcmllibeoaaDoor.C09
theorem uToks : Tryd.prog.underlying 58 = some (.slice 63) := by kernel_rfl
section
variable {H : Type} {enc : TypeId × Value → H} {w : World}
theorem rdb_tok : Rdb enc Tryd.prog w 63 flK (fun _ => True) := by
  intro fuel cs x h hb
  have hf : fieldsOk Tryd.prog 63 [(3, 0), (9, 1), (3, 2)] = true := by kernel_rfl
  have hu : Tryd.prog.underlying 3 = some (.int .i64) := by kernel_rfl
  have hs : Tryd.prog.underlying 9 = some .string := by kernel_rfl
  obtain ⟨a, _, ha⟩ := rdb_field (i := 0) hf rfl (rdb_int hu) h hb
  obtain ⟨b, _, hb'⟩ := rdb_field (i := 1) hf rfl (rdb_str hs) h hb
  obtain ⟨c, _, hc⟩ := rdb_field (i := 2) hf rfl (rdb_int hu) h hb
  refine ⟨(a, b.data.toList, c), trivial, fun k v hk => ?_⟩
  unfold flK at hk
  simp only [← str_of] at hk
  match k, hk with
  | 0, hk => exact ha 0 v hk
  | 1, hk => exact hb' 0 v hk
  | 2, hk => exact hc 0 v hk
  | k + 3, hk => simp at hk
theorem open_toks {fuel : Nat} {cs : List Value} {x : DataW H × List MemPlace} (h : DataW.trod enc Tryd.prog w 0 (fun _ => true) true fuel 58 cs = some x) (hk : Rows.uptoBulk x.1 ≤ 1048576) :
    ∃ (s : Sl) (xs : List Tk), cs = [.slice s.a s.n s.c] ∧ Rd flK 3 w.heap s xs := by
  obtain ⟨s, xs, h1, h2, _⟩ := open_row (by kernel_rfl) (by kernel_rfl) FlK rdb_tok h hk
  exact ⟨s, xs, h1, h2⟩
end
end Go.Proofs.YthaejcmllibeoaaDoor.O09

