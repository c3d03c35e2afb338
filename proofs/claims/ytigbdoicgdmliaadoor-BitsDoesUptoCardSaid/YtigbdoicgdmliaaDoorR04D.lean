/- BitsDoes returns true and changes nothing that was there, for every input of bulk at most 1048576 (the second form). -/
import Derived.Test.YtigbdoicgdmliaaDoorO04
import Derived.Test.YtigbdoicgdmliaaDoorOpn
import Derived.Test.YtigbdoicgdmliaaDoorLyd
import Derived.Test.YtigbdoicgdmliaaDoorCards
import Derived.Test.YtigbdoicgdmliaaDoorTie
import Derived.Deep.DeepHandedRow
import Derived.SevenTiedAt
import Derived.LaidOnce
set_option linter.unusedVariables false
set_option linter.unusedSimpArgs false
-- law: 3
-- t0: 22
-- tBool: 4
namespace Go.Proofs.YtigbdoicgdmliaaDoor.RBitsDoes
open Go Go.V Go.Proofs Go.ChangeShapes Go.WideShapes Go.ChangeAt Go.RowKit Go.Proofs.YtigbdoicgdmliaaDoor.Opn Go.Proofs.YtigbdoicgdmliaaDoor.L04 Go.Proofs.YtigbdoicgdmliaaDoor.O04
theorem own : ownKnob Tryd.prog.godebug = none := by kernel_rfl
theorem laid : laidOutB Tryd.prog = true := by kernel_rfl
theorem uBool : Tryd.prog.underlying 4 = some .bool := by kernel_rfl
theorem reads (os : Os) {H : Type} (enc : TypeId × Value → H) : ∃ places, DataW.whole enc Tryd.prog ((World.laidAll Tryd.prog os Rows.bitsDoesUptoRow.laid).forCall (fun _ _ => 0) ⟨#[], #[.slice none 0 0], []⟩).memory Tryd.f3.params.toList Rows.bitsDoesSpec.vars false #[(.slice none 0 0 : Value)].toList 8 = some ([.nil], [], places) :=
  ⟨[], by kernel_rfl⟩
theorem laid_met (os : Os) (args : Array Value) : laidMet Tryd.prog Rows.bitsDoesUptoRow.laid ((World.laidAll Tryd.prog os Rows.bitsDoesUptoRow.laid).forCall (fun _ _ => 0) ⟨#[], args, []⟩).memory := laidMet_laidAll args (by kernel_rfl) (by kernel_rfl)
set_option maxRecDepth 100000 in
theorem lifted (os : Os) (started : os.Started) (H : Type) (enc : TypeId × Value → H) (F : Stop.Interp) :
    ReturnsInHanded {} Tryd.checked os 3 .any ((Rows.OpenSpec.upto Rows.bitsDoesSpec).preRow enc Tryd.prog Tryd.f3 Rows.bitsDoesUptoRow.domain false Rows.bitsDoesUptoRow.laid) (((Rows.OpenSpec.upto Rows.bitsDoesSpec).at F).post enc Tryd.prog Tryd.f3 false true false false) := by
  obtain ⟨places, hx⟩ := reads os enc
  refine returnsInHanded_of_row (C := Tryd.checked) (s := (Rows.OpenSpec.upto Rows.bitsDoesSpec)) own started (by kernel_rfl) Tryd.func3
    (Lyd.wit (enc := enc) (C := Tryd.checked) #[.slice none 0 0] (by kernel_rfl) (by kernel_rfl) (by kernel_rfl)
      (OpenSpec.preRow_of_cond 8 hx (by kernel_rfl) (fun k hk => by cases hk; kernel_rfl) (by kernel_rfl) (laid_met os _))) ?_
  intro W base args ds gs before hval hW _ hcond _ hL0 _ _
  have hL : laidMet Tryd.prog Rows.bitsDoesUptoRow.laid W := hL0
  have hk := hcond Rows.uptoSmall rfl
  have ht := Lyd.deBr 0 rfl hL
  have hW' := hW
  obtain ⟨p, q, hA0, hV, rfl, hfz, hnd⟩ := hW
  have hA : DataW.TrodAll enc Tryd.prog W 0 (fun _ => true) true Tryd.f3.params.toList args.toList ds p := hA0
  rw [Tryd.params3] at hA hval
  obtain ⟨v0, vs0, d0, ds0, p0, q0, hargs, rfl, rfl, h0, r0⟩ := trodAll_cons hA
  obtain ⟨rfl, rfl, rfl⟩ := trodAll_nil r0
  obtain rfl : args = #[v0] := by cases args; simp_all
  have hbulk := bound hk
  obtain ⟨a0, len0, cap0, rfl⟩ := okWide_slice uOps (hval 0 22 _ rfl rfl)
  obtain ⟨fuel0, h0⟩ := h0
  have hb0 := part_le (d := d0) (l := [d0] ++ gs) (by simp)
  have ho0 := open_ops (x := (d0, p0)) h0 (Nat.le_trans hb0 hbulk)
  obtain ⟨s0, xs0, hs0, hP0⟩ := ho0
  obtain ⟨rfl, rfl, rfl⟩ : a0 = s0.a ∧ len0 = s0.n ∧ cap0 = s0.c := by simpa [Value.cells] using hs0
  refine (calls_of (lawDoes_ok hP0.1 hP0.2.1 hP0.2.2 ht fun H' h => ⟨rfl, h⟩)).mono fun e W' ⟨he, hg⟩ => ?_
  subst he
  refine ⟨_, rfl, post_true hW' hg laid ?_ rfl ?_ ?_ ?_ (by kernel_rfl) uBool⟩
  · rw [Tryd.params3]
    intro t ht
    simp only [List.mem_cons, List.not_mem_nil, or_false] at ht
    subst ht
    exact ⟨by kernel_rfl, of_decide_eq_true (by kernel_rfl)⟩
  · obtain ⟨rfl, rfl⟩ := trodVars_none hV
    rfl
  · obtain ⟨rfl, rfl⟩ := trodVars_none hV
    rfl
  · obtain ⟨rfl, rfl⟩ := trodVars_none hV
    rfl
theorem said : Rows.BitsDoesUptoSaid :=
  OpenClaim.holds_of_cond 3 Tryd.f3 rfl rfl rfl rfl rfl rfl rfl ⟨rfl, rfl, rfl, rfl, rfl⟩ rfl rfl rfl rfl rfl (by kernel_rfl) Tryd.func3 (by kernel_rfl)
    (of_decide_eq_true (by kernel_rfl)) (by unfold Func.isWrapper; first | (rw [if_pos (by decide +kernel)]; kernel_rfl) | (rw [if_neg (by decide +kernel)]; exact ⟨rfl, rfl⟩))
    (fun os started H enc _ F => by rw [OpenClaim.pre_eq_preRow]; exact lifted os started H enc F)
theorem plain (f : FuncId) (fn : Func) (hf : Tryd.pinned.checked.prog.funcNamed "weft/weftlaw04.BitsDoes" = some f) (hfn : Tryd.pinned.checked.prog.funcs[f]? = some fn) :
    false = Tryd.pinned.checked.prog.looks [] ∧ ∀ (j : Nat) t, fn.params[j]? = some t → Tryd.pinned.checked.prog.wantsStandIn t = false := by
  obtain rfl : f = 3 := Option.some.inj ((show Tryd.prog.funcNamed "weft/weftlaw04.BitsDoes" = some 3 by kernel_rfl).symm.trans hf) |>.symm
  obtain rfl : fn = Tryd.f3 := (Option.some.inj (Tryd.func3.symm.trans hfn)).symm
  refine ⟨by kernel_rfl, fun j t ht => ?_⟩
  rw [Tryd.params3] at ht
  have hm := Array.mem_of_getElem? ht
  simp only [List.mem_toArray, List.mem_cons, List.not_mem_nil, or_false] at hm
  subst hm
  exact (show Tryd.prog.wantsStandIn 22 = false by kernel_rfl)
theorem proved : Rows.BitsDoesUptoCardSaid :=
  Claim7.holds_tied_plain_at .later [] _ _ _ _ said (fun _ h => by cases h) (by kernel_rfl) (fun _ h => by cases h) bitsDoesUpto_row_tie rfl ⟨rfl, rfl⟩ (by kernel_rfl) rfl plain (by kernel_rfl)
end Go.Proofs.YtigbdoicgdmliaaDoor.RBitsDoes

