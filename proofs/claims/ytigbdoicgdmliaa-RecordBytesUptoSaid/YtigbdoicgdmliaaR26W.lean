/- RecordBytes returns true and changes nothing that was there, for every input of bulk at most 1048576 (the second form). -/
import Derived.Test.YtigbdoicgdmliaaZ12
set_option linter.unusedVariables false
set_option linter.unusedSimpArgs false
-- law: 9
-- t0: 90
-- t1: 47
-- tBool: 4
namespace Go.Proofs.Ytigbdoicgdmliaa.RRecordBytes
open Go Go.V Go.Proofs Go.ChangeShapes Go.WideShapes Go.ChangeAt Go.RowKit Go.Proofs.Ytigbdoicgdmliaa.Opn Go.Proofs.Ytigbdoicgdmliaa.OpA Go.Proofs.Ytigbdoicgdmliaa.O26
theorem own : ownKnob Try.prog.godebug = none := by kernel_rfl
theorem laid : laidOutB Try.prog = true := by kernel_rfl
theorem uBool : Try.prog.underlying 4 = some .bool := by kernel_rfl
set_option maxRecDepth 100000 in
theorem lifted (os : Os) (started : os.Started) (H : Type) (enc : TypeId × Value → H) (F : Stop.Interp) :
    ReturnsInHanded {} Try.checked os 9 .any ((Rows.OpenSpec.upto Rows.recordBytesSpec).pre6 enc Try.prog Try.f9 Rows.recordBytesUptoRow.domain false) (((Rows.OpenSpec.upto Rows.recordBytesSpec).at F).post enc Try.prog Try.f9 false true false false) := by
  refine returnsInHanded_of_cond (C := Try.checked) (s := Rows.OpenSpec.upto Rows.recordBytesSpec) (k := Rows.uptoSmall) rfl own started (by kernel_rfl) Try.func9
    (OpenSpec.witness (enc := enc) (C := Try.checked) (s := Rows.OpenSpec.upto Rows.recordBytesSpec) (k := Rows.uptoSmall) rfl false ⟨#[], #[.agg #[.string ⟨#[]⟩, .slice none 0 0, .slice none 0 0, .slice none 0 0, .slice none 0 0, .slice none 0 0, .slice none 0 0], .slice none 0 0], []⟩ 8 (by kernel_rfl) (by kernel_rfl) (by kernel_rfl)
      (x := ([.agg [.lit (.string []), .nil, .nil, .nil, .agg [.nil, .nil, .nil]], .nil], [], [])) (by kernel_rfl) rfl (by kernel_rfl)) ?_
  intro W base args ds gs before hval hW _ hk _
  have hW' := hW
  obtain ⟨p, q, hA0, hV, rfl, hfz, hnd⟩ := hW
  have hA : DataW.TrodAll enc Try.prog W 0 (fun _ => true) true Try.f9.params.toList args.toList ds p := hA0
  rw [Try.params9] at hA hval
  obtain ⟨v0, vs0, d0, ds0, p0, q0, hargs, rfl, rfl, h0, r0⟩ := trodAll_cons hA
  obtain ⟨v1, vs1, d1, ds1, p1, q1, rfl, rfl, rfl, h1, r1⟩ := trodAll_cons r0
  obtain ⟨rfl, rfl, rfl⟩ := trodAll_nil r1
  obtain rfl : args = #[v0, v1] := by cases args; simp_all
  have hbulk := bound hk
  obtain ⟨fs0, hu0⟩ := uSum
  obtain ⟨cs0, rfl, hsz0⟩ := okWide_struct hu0 (hval 0 90 _ rfl rfl)
  obtain ⟨fuel0, h0⟩ := h0
  have hb0 := part_le (d := d0) (l := [d0, d1] ++ gs) (by simp)
  obtain ⟨a0, hP0, rfl⟩ := open_sum (x := (d0, p0)) hsz0 h0 (Nat.le_trans hb0 hbulk)
  obtain ⟨a1, len1, cap1, rfl⟩ := okWide_slice uStrs (hval 1 47 _ rfl rfl)
  obtain ⟨fuel1, h1⟩ := h1
  have hb1 := part_le (d := d1) (l := [d0, d1] ++ gs) (by simp)
  have ho1 := open_strs (x := (d1, p1)) h1 (Nat.le_trans hb1 hbulk)
  obtain ⟨s1, xs1, hs1, hP1⟩ := ho1
  obtain ⟨rfl, rfl, rfl⟩ : a1 = s1.a ∧ len1 = s1.n ∧ cap1 = s1.c := by simpa [Value.cells] using hs1
  refine (calls_of (bytes2 hP0 hP1 fun H' h => ⟨rfl, h⟩)).mono fun e W' ⟨he, hg⟩ => ?_
  subst he
  refine ⟨_, rfl, post_true hW' hg laid ?_ rfl ?_ ?_ ?_ (by kernel_rfl) uBool⟩
  · rw [Try.params9]
    intro t ht
    simp only [List.mem_cons, List.not_mem_nil, or_false] at ht
    rcases ht with rfl | rfl
    · exact ⟨by kernel_rfl, of_decide_eq_true (by kernel_rfl)⟩
    · exact ⟨by kernel_rfl, of_decide_eq_true (by kernel_rfl)⟩
  · obtain ⟨rfl, rfl⟩ := trodVars_none hV
    rfl
  · obtain ⟨rfl, rfl⟩ := trodVars_none hV
    rfl
  · obtain ⟨rfl, rfl⟩ := trodVars_none hV
    rfl
theorem proved : Rows.RecordBytesUptoSaid :=
  OpenClaim.holds_of_cond 9 Try.f9 rfl rfl rfl rfl rfl rfl rfl ⟨rfl, rfl, rfl, rfl, rfl⟩ rfl rfl rfl rfl rfl (by kernel_rfl) Try.func9 (by kernel_rfl)
    (of_decide_eq_true (by kernel_rfl)) (by unfold Func.isWrapper; first | (rw [if_pos (by decide +kernel)]; kernel_rfl) | (rw [if_neg (by decide +kernel)]; exact ⟨rfl, rfl⟩))
    (fun os started H enc _ F => lifted os started H enc F)
end Go.Proofs.Ytigbdoicgdmliaa.RRecordBytes

