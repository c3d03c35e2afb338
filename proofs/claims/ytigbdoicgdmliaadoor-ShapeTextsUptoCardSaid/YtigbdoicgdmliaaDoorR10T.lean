/- ShapeTexts returns true and changes nothing that was there, for every input of bulk at most 1048576 (the second form). -/
import Derived.Test.YtigbdoicgdmliaaDoorO10
import Derived.Test.YtigbdoicgdmliaaDoorOpn
import Derived.Test.YtigbdoicgdmliaaDoorLyd
import Derived.Test.YtigbdoicgdmliaaDoorCards
import Derived.Test.YtigbdoicgdmliaaDoorTie
import Derived.Deep.DeepHandedRow
import Derived.SevenTiedAt
import Derived.LaidOnce
set_option linter.unusedVariables false
set_option linter.unusedSimpArgs false
-- law: 5
-- t0: 51
-- tBool: 4
namespace Go.Proofs.YtigbdoicgdmliaaDoor.RShapeTexts
open Go Go.V Go.Proofs Go.ChangeShapes Go.WideShapes Go.ChangeAt Go.RowKit Go.Proofs.YtigbdoicgdmliaaDoor.Opn Go.Proofs.YtigbdoicgdmliaaDoor.OpT Go.Proofs.YtigbdoicgdmliaaDoor.O10
theorem own : ownKnob Tryd.prog.godebug = none := by kernel_rfl
theorem laid : laidOutB Tryd.prog = true := by kernel_rfl
theorem uBool : Tryd.prog.underlying 4 = some .bool := by kernel_rfl
theorem reads (os : Os) {H : Type} (enc : TypeId × Value → H) : ∃ places, DataW.whole enc Tryd.prog ((World.laidAll Tryd.prog os Rows.shapeTextsUptoRow.laid).forCall (fun _ _ => 0) ⟨#[], #[.agg #[.int .i64 0, .string ⟨#[]⟩, .int .i64 0, .slice none 0 0]], []⟩).memory Tryd.f5.params.toList Rows.shapeTextsSpec.vars false #[(.agg #[.int .i64 0, .string ⟨#[]⟩, .int .i64 0, .slice none 0 0] : Value)].toList 8 = some ([.agg [.lit (.int .i64 0), .lit (.string []), .lit (.int .i64 0), .nil]], [], places) :=
  ⟨[], by kernel_rfl⟩
theorem laid_met (os : Os) (args : Array Value) : laidMet Tryd.prog Rows.shapeTextsUptoRow.laid ((World.laidAll Tryd.prog os Rows.shapeTextsUptoRow.laid).forCall (fun _ _ => 0) ⟨#[], args, []⟩).memory := laidMet_laidAll args (by kernel_rfl) (by kernel_rfl)
set_option maxRecDepth 100000 in
theorem lifted (os : Os) (started : os.Started) (H : Type) (enc : TypeId × Value → H) (F : Stop.Interp) :
    ReturnsInHanded {} Tryd.checked os 5 .any ((Rows.OpenSpec.upto Rows.shapeTextsSpec).preRow enc Tryd.prog Tryd.f5 Rows.shapeTextsUptoRow.domain false Rows.shapeTextsUptoRow.laid) (((Rows.OpenSpec.upto Rows.shapeTextsSpec).at F).post enc Tryd.prog Tryd.f5 false true false false) := by
  obtain ⟨places, hx⟩ := reads os enc
  refine returnsInHanded_of_row (C := Tryd.checked) (s := (Rows.OpenSpec.upto Rows.shapeTextsSpec)) own started (by kernel_rfl) Tryd.func5
    (Lyd.wit (enc := enc) (C := Tryd.checked) #[.agg #[.int .i64 0, .string ⟨#[]⟩, .int .i64 0, .slice none 0 0]] (by kernel_rfl) (by kernel_rfl) (by kernel_rfl)
      (OpenSpec.preRow_of_cond 8 hx (by kernel_rfl) (fun k hk => by cases hk; kernel_rfl) (by kernel_rfl) (laid_met os _))) ?_
  intro W base args ds gs before hval hW _ hcond _ hL0 _ _
  have hL : laidMet Tryd.prog Rows.shapeTextsUptoRow.laid W := hL0
  have hk := hcond Rows.uptoSmall rfl
  have ht := Lyd.pow10 2 rfl hL
  have hW' := hW
  obtain ⟨p, q, hA0, hV, rfl, hfz, hnd⟩ := hW
  have hA : DataW.TrodAll enc Tryd.prog W 0 (fun _ => true) true Tryd.f5.params.toList args.toList ds p := hA0
  rw [Tryd.params5] at hA hval
  obtain ⟨v0, vs0, d0, ds0, p0, q0, hargs, rfl, rfl, h0, r0⟩ := trodAll_cons hA
  obtain ⟨rfl, rfl, rfl⟩ := trodAll_nil r0
  obtain rfl : args = #[v0] := by cases args; simp_all
  have hbulk := bound hk
  obtain ⟨fs0, hu0⟩ := uTy
  obtain ⟨cs0, rfl, hsz0⟩ := okWide_struct hu0 (hval 0 51 _ rfl rfl)
  obtain ⟨fuel0, h0⟩ := h0
  have hb0 := part_le (d := d0) (l := [d0] ++ gs) (by simp)
  obtain ⟨a0, hP0, rfl⟩ := open_ty (x := (d0, p0)) hsz0 h0 (Nat.le_trans hb0 hbulk)
  refine (calls_of (texts2 hP0 ht fun H' h => ⟨rfl, h⟩)).mono fun e W' ⟨he, hg⟩ => ?_
  subst he
  refine ⟨_, rfl, post_true hW' hg laid ?_ rfl ?_ ?_ ?_ (by kernel_rfl) uBool⟩
  · rw [Tryd.params5]
    intro t ht
    simp only [List.mem_cons, List.not_mem_nil, or_false] at ht
    subst ht
    exact ⟨by kernel_rfl, of_decide_eq_true (by kernel_rfl)⟩
  · obtain ⟨rfl, rfl⟩ := trodVars_none hV
    rfl
  · obtain ⟨rfl, rfl⟩ := trodVars_none hV
    rfl
  · obtain ⟨rfl, rfl⟩ := trodVars_none hV
    rfl
theorem said : Rows.ShapeTextsUptoSaid :=
  OpenClaim.holds_of_cond 5 Tryd.f5 rfl rfl rfl rfl rfl rfl rfl ⟨rfl, rfl, rfl, rfl, rfl⟩ rfl rfl rfl rfl rfl (by kernel_rfl) Tryd.func5 (by kernel_rfl)
    (of_decide_eq_true (by kernel_rfl)) (by unfold Func.isWrapper; first | (rw [if_pos (by decide +kernel)]; kernel_rfl) | (rw [if_neg (by decide +kernel)]; exact ⟨rfl, rfl⟩))
    (fun os started H enc _ F => by rw [OpenClaim.pre_eq_preRow]; exact lifted os started H enc F)
theorem plain (f : FuncId) (fn : Func) (hf : Tryd.pinned.checked.prog.funcNamed "weft/weftlaw10.ShapeTexts" = some f) (hfn : Tryd.pinned.checked.prog.funcs[f]? = some fn) :
    false = Tryd.pinned.checked.prog.looks [] ∧ ∀ (j : Nat) t, fn.params[j]? = some t → Tryd.pinned.checked.prog.wantsStandIn t = false := by
  obtain rfl : f = 5 := Option.some.inj ((show Tryd.prog.funcNamed "weft/weftlaw10.ShapeTexts" = some 5 by kernel_rfl).symm.trans hf) |>.symm
  obtain rfl : fn = Tryd.f5 := (Option.some.inj (Tryd.func5.symm.trans hfn)).symm
  refine ⟨by kernel_rfl, fun j t ht => ?_⟩
  rw [Tryd.params5] at ht
  have hm := Array.mem_of_getElem? ht
  simp only [List.mem_toArray, List.mem_cons, List.not_mem_nil, or_false] at hm
  subst hm
  exact (show Tryd.prog.wantsStandIn 51 = false by kernel_rfl)
theorem proved : Rows.ShapeTextsUptoCardSaid :=
  Claim7.holds_tied_plain_at .later [] _ _ _ _ said (fun _ h => by cases h) (by kernel_rfl) (fun _ h => by cases h) shapeTextsUpto_row_tie rfl ⟨rfl, rfl⟩ (by kernel_rfl) rfl plain (by kernel_rfl)
end Go.Proofs.YtigbdoicgdmliaaDoor.RShapeTexts

