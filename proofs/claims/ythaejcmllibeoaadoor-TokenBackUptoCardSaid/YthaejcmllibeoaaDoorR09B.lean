/- TokenBack returns true and changes nothing that was there, for every input of bulk at most 1048576 (the second form). -/
import Derived.Test.YthaejcmllibeoaaDoorO09
import Derived.Test.YthaejcmllibeoaaDoorOpn
import Derived.Test.YthaejcmllibeoaaDoorLyd
import Derived.Test.YthaejcmllibeoaaDoorCards
import Derived.Test.YthaejcmllibeoaaDoorTie
import Derived.Deep.DeepHandedRow
import Derived.SevenTiedAt
import Derived.LaidOnce
set_option linter.unusedVariables false
set_option linter.unusedSimpArgs false
-- law: 15
-- t0: 9
-- t1: 9
-- tBool: 4
namespace Go.Proofs.YthaejcmllibeoaaDoor.RTokenBack
open Go Go.V Go.Proofs Go.ChangeShapes Go.WideShapes Go.ChangeAt Go.RowKit Go.Proofs.YthaejcmllibeoaaDoor.Opn Go.Proofs.YthaejcmllibeoaaDoor.L09 Go.Proofs.YthaejcmllibeoaaDoor.O09
theorem own : ownKnob Tryd.prog.godebug = none := by kernel_rfl
theorem laid : laidOutB Tryd.prog = true := by kernel_rfl
theorem uBool : Tryd.prog.underlying 4 = some .bool := by kernel_rfl
theorem u0 : Tryd.prog.underlying 9 = some .string := by kernel_rfl
theorem u1 : Tryd.prog.underlying 9 = some .string := by kernel_rfl
theorem reads (os : Os) {H : Type} (enc : TypeId × Value → H) : ∃ places, DataW.whole enc Tryd.prog ((World.laidAll Tryd.prog os Rows.tokenBackUptoRow.laid).forCall (fun _ _ => 0) ⟨#[], #[.string ⟨#[]⟩, .string ⟨#[]⟩], []⟩).memory Tryd.f15.params.toList Rows.tokenBackSpec.vars false #[(.string ⟨#[]⟩ : Value), (.string ⟨#[]⟩ : Value)].toList 8 = some ([.lit (.string []), .lit (.string [])], [], places) :=
  ⟨[], by kernel_rfl⟩
theorem laid_met (os : Os) (args : Array Value) : laidMet Tryd.prog Rows.tokenBackUptoRow.laid ((World.laidAll Tryd.prog os Rows.tokenBackUptoRow.laid).forCall (fun _ _ => 0) ⟨#[], args, []⟩).memory := laidMet_laidAll args (by kernel_rfl) (by kernel_rfl)
set_option maxRecDepth 100000 in
theorem lifted (os : Os) (started : os.Started) (H : Type) (enc : TypeId × Value → H) (F : Stop.Interp) :
    ReturnsInHanded {} Tryd.checked os 15 .any ((Rows.OpenSpec.upto Rows.tokenBackSpec).preRow enc Tryd.prog Tryd.f15 Rows.tokenBackUptoRow.domain false Rows.tokenBackUptoRow.laid) (((Rows.OpenSpec.upto Rows.tokenBackSpec).at F).post enc Tryd.prog Tryd.f15 false true false false) := by
  obtain ⟨places, hx⟩ := reads os enc
  refine returnsInHanded_of_row (C := Tryd.checked) (s := (Rows.OpenSpec.upto Rows.tokenBackSpec)) own started (by kernel_rfl) Tryd.func15
    (Lyd.wit (enc := enc) (C := Tryd.checked) #[.string ⟨#[]⟩, .string ⟨#[]⟩] (by kernel_rfl) (by kernel_rfl) (by kernel_rfl)
      (OpenSpec.preRow_of_cond 8 hx (by kernel_rfl) (fun k hk => by cases hk; kernel_rfl) (by kernel_rfl) (laid_met os _))) ?_
  intro W base args ds gs before hval hW _ hcond _ hL0 _ _
  have hL : laidMet Tryd.prog Rows.tokenBackUptoRow.laid W := hL0
  have hk := hcond Rows.uptoSmall rfl
  have ht := Lyd.asciiSp 7 rfl hL
  have hW' := hW
  obtain ⟨p, q, hA0, hV, rfl, hfz, hnd⟩ := hW
  have hA : DataW.TrodAll enc Tryd.prog W 0 (fun _ => true) true Tryd.f15.params.toList args.toList ds p := hA0
  rw [Tryd.params15] at hA hval
  obtain ⟨v0, vs0, d0, ds0, p0, q0, hargs, rfl, rfl, h0, r0⟩ := trodAll_cons hA
  obtain ⟨v1, vs1, d1, ds1, p1, q1, rfl, rfl, rfl, h1, r1⟩ := trodAll_cons r0
  obtain ⟨rfl, rfl, rfl⟩ := trodAll_nil r1
  obtain rfl : args = #[v0, v1] := by cases args; simp_all
  have hbulk := bound hk
  obtain ⟨x0, rfl⟩ := okWide_string u0 (hval 0 9 _ rfl rfl)
  obtain ⟨fuel0, h0⟩ := h0
  have hb0 := part_le (d := d0) (l := [d0, d1] ++ gs) (by simp)
  have hP0 : x0.size ≤ 1048576 := by
    obtain ⟨y, hy, he, _⟩ := DataW.trod_string u0 h0
    obtain rfl : x0 = y := by simpa [Value.cells] using hy
    have hd : d0 = .lit (.string x0.data.toList) := congrArg Prod.fst he
    replace hb0 := Nat.le_trans hb0 hbulk
    rw [hd] at hb0
    simp only [Rows.uptoBulk] at hb0
    have : x0.data.toList.length = x0.size := by simp
    omega
  obtain ⟨x1, rfl⟩ := okWide_string u1 (hval 1 9 _ rfl rfl)
  obtain ⟨fuel1, h1⟩ := h1
  have hb1 := part_le (d := d1) (l := [d0, d1] ++ gs) (by simp)
  have hP1 : x1.size ≤ 1048576 := by
    obtain ⟨y, hy, he, _⟩ := DataW.trod_string u1 h1
    obtain rfl : x1 = y := by simpa [Value.cells] using hy
    have hd : d1 = .lit (.string x1.data.toList) := congrArg Prod.fst he
    replace hb1 := Nat.le_trans hb1 hbulk
    rw [hd] at hb1
    simp only [Rows.uptoBulk] at hb1
    have : x1.data.toList.length = x1.size := by simp
    omega
  refine (calls_of (lawBack_okS hP0 hP1 ht fun H' h => ⟨rfl, h⟩)).mono fun e W' ⟨he, hg⟩ => ?_
  subst he
  refine ⟨_, rfl, post_true hW' hg laid ?_ rfl ?_ ?_ ?_ (by kernel_rfl) uBool⟩
  · rw [Tryd.params15]
    intro t ht
    simp only [List.mem_cons, List.not_mem_nil, or_false] at ht
    rcases ht with rfl | rfl
    · exact ⟨by kernel_rfl, of_decide_eq_true (by kernel_rfl)⟩
    · exact ⟨by kernel_rfl, of_decide_eq_true (by kernel_rfl)⟩
  · obtain ⟨rfl, rfl⟩ := trodVars_none hV
    rfl
  · obtain ⟨rfl, rfl⟩ := trodVars_none hV
    rfl
  · obtain ⟨rfl, rfl⟩ := trodVars_none hV
    rfl
theorem said : Rows.TokenBackUptoSaid :=
  OpenClaim.holds_of_cond 15 Tryd.f15 rfl rfl rfl rfl rfl rfl rfl ⟨rfl, rfl, rfl, rfl, rfl⟩ rfl rfl rfl rfl rfl (by kernel_rfl) Tryd.func15 (by kernel_rfl)
    (of_decide_eq_true (by kernel_rfl)) (by unfold Func.isWrapper; first | (rw [if_pos (by decide +kernel)]; kernel_rfl) | (rw [if_neg (by decide +kernel)]; exact ⟨rfl, rfl⟩))
    (fun os started H enc _ F => by rw [OpenClaim.pre_eq_preRow]; exact lifted os started H enc F)
theorem plain (f : FuncId) (fn : Func) (hf : Tryd.pinned.checked.prog.funcNamed "weft/weftlaw09.TokenBack" = some f) (hfn : Tryd.pinned.checked.prog.funcs[f]? = some fn) :
    true = Tryd.pinned.checked.prog.looks [] ∧ ∀ (j : Nat) t, fn.params[j]? = some t → Tryd.pinned.checked.prog.wantsStandIn t = false := by
  obtain rfl : f = 15 := Option.some.inj ((show Tryd.prog.funcNamed "weft/weftlaw09.TokenBack" = some 15 by kernel_rfl).symm.trans hf) |>.symm
  obtain rfl : fn = Tryd.f15 := (Option.some.inj (Tryd.func15.symm.trans hfn)).symm
  refine ⟨by kernel_rfl, fun j t ht => ?_⟩
  rw [Tryd.params15] at ht
  have hm := Array.mem_of_getElem? ht
  simp only [List.mem_toArray, List.mem_cons, List.not_mem_nil, or_false] at hm
  rcases hm with rfl | rfl
  · exact (show Tryd.prog.wantsStandIn 9 = false by kernel_rfl)
  · exact (show Tryd.prog.wantsStandIn 9 = false by kernel_rfl)
theorem proved : Rows.TokenBackUptoCardSaid :=
  Claim7.holds_tied_plain_at .later [] _ _ _ _ said (fun _ h => by cases h) (by kernel_rfl) (fun _ h => by cases h) tokenBackUpto_row_tie rfl ⟨rfl, rfl⟩ (by kernel_rfl) rfl plain (by kernel_rfl)
end Go.Proofs.YthaejcmllibeoaaDoor.RTokenBack

