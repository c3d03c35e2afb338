/- NamesOne returns true and changes nothing that was there, for every input of bulk at most 1048576 (the second form). -/
import Derived.Test.YthaejcmllibeoaaDoorO14
import Derived.Test.YthaejcmllibeoaaDoorOpn
import Derived.Test.YthaejcmllibeoaaDoorLyd
import Derived.Test.YthaejcmllibeoaaDoorCards
import Derived.Test.YthaejcmllibeoaaDoorTie
import Derived.Deep.DeepHandedRow
import Derived.SevenTiedAt
import Derived.LaidOnce
set_option linter.unusedVariables false
set_option linter.unusedSimpArgs false
-- law: 9
-- t0: 37
-- t1: 37
-- t2: 9
-- tBool: 4
namespace Go.Proofs.YthaejcmllibeoaaDoor.RNamesOne
open Go Go.V Go.Proofs Go.ChangeShapes Go.WideShapes Go.ChangeAt Go.RowKit Go.Proofs.YthaejcmllibeoaaDoor.Opn Go.Proofs.YthaejcmllibeoaaDoor.L14 Go.Proofs.YthaejcmllibeoaaDoor.O14
theorem own : ownKnob Tryd.prog.godebug = none := by kernel_rfl
theorem laid : laidOutB Tryd.prog = true := by kernel_rfl
theorem uBool : Tryd.prog.underlying 4 = some .bool := by kernel_rfl
theorem u2 : Tryd.prog.underlying 9 = some .string := by kernel_rfl
theorem reads (os : Os) {H : Type} (enc : TypeId × Value → H) : ∃ places, DataW.whole enc Tryd.prog ((World.laidAll Tryd.prog os Rows.namesOneUptoRow.laid).forCall (fun _ _ => 0) ⟨#[], #[.agg #[.int .i64 0, .string ⟨#[]⟩, .int .i64 0, .string ⟨#[]⟩, .int .i64 0, .int .i64 0], .agg #[.int .i64 0, .string ⟨#[]⟩, .int .i64 0, .string ⟨#[]⟩, .int .i64 0, .int .i64 0], .string ⟨#[]⟩], []⟩).memory Tryd.f9.params.toList Rows.namesOneSpec.vars false #[(.agg #[.int .i64 0, .string ⟨#[]⟩, .int .i64 0, .string ⟨#[]⟩, .int .i64 0, .int .i64 0] : Value), (.agg #[.int .i64 0, .string ⟨#[]⟩, .int .i64 0, .string ⟨#[]⟩, .int .i64 0, .int .i64 0] : Value), (.string ⟨#[]⟩ : Value)].toList 8 = some ([.agg [.lit (.int .i64 0), .lit (.string []), .lit (.int .i64 0), .lit (.string []), .lit (.int .i64 0), .lit (.int .i64 0)], .agg [.lit (.int .i64 0), .lit (.string []), .lit (.int .i64 0), .lit (.string []), .lit (.int .i64 0), .lit (.int .i64 0)], .lit (.string [])], [], places) :=
  ⟨[], by kernel_rfl⟩
theorem laid_met (os : Os) (args : Array Value) : laidMet Tryd.prog Rows.namesOneUptoRow.laid ((World.laidAll Tryd.prog os Rows.namesOneUptoRow.laid).forCall (fun _ _ => 0) ⟨#[], args, []⟩).memory := laidMet_laidAll args (by kernel_rfl) (by kernel_rfl)
set_option maxRecDepth 100000 in
theorem lifted (os : Os) (started : os.Started) (H : Type) (enc : TypeId × Value → H) (F : Stop.Interp) :
    ReturnsInHanded {} Tryd.checked os 9 .any ((Rows.OpenSpec.upto Rows.namesOneSpec).preRow enc Tryd.prog Tryd.f9 Rows.namesOneUptoRow.domain false Rows.namesOneUptoRow.laid) (((Rows.OpenSpec.upto Rows.namesOneSpec).at F).post enc Tryd.prog Tryd.f9 false true false false) := by
  obtain ⟨places, hx⟩ := reads os enc
  refine returnsInHanded_of_row (C := Tryd.checked) (s := (Rows.OpenSpec.upto Rows.namesOneSpec)) own started (by kernel_rfl) Tryd.func9
    (Lyd.wit (enc := enc) (C := Tryd.checked) #[.agg #[.int .i64 0, .string ⟨#[]⟩, .int .i64 0, .string ⟨#[]⟩, .int .i64 0, .int .i64 0], .agg #[.int .i64 0, .string ⟨#[]⟩, .int .i64 0, .string ⟨#[]⟩, .int .i64 0, .int .i64 0], .string ⟨#[]⟩] (by kernel_rfl) (by kernel_rfl) (by kernel_rfl)
      (OpenSpec.preRow_of_cond 8 hx (by kernel_rfl) (fun k hk => by cases hk; kernel_rfl) (by kernel_rfl) (laid_met os _))) ?_
  intro W base args ds gs before hval hW _ hcond _ hL0 _ _
  have hL : laidMet Tryd.prog Rows.namesOneUptoRow.laid W := hL0
  have hk := hcond Rows.uptoSmall rfl
  have ht := Lyd.pow10 2 rfl hL
  have hW' := hW
  obtain ⟨p, q, hA0, hV, rfl, hfz, hnd⟩ := hW
  have hA : DataW.TrodAll enc Tryd.prog W 0 (fun _ => true) true Tryd.f9.params.toList args.toList ds p := hA0
  rw [Tryd.params9] at hA hval
  obtain ⟨v0, vs0, d0, ds0, p0, q0, hargs, rfl, rfl, h0, r0⟩ := trodAll_cons hA
  obtain ⟨v1, vs1, d1, ds1, p1, q1, rfl, rfl, rfl, h1, r1⟩ := trodAll_cons r0
  obtain ⟨v2, vs2, d2, ds2, p2, q2, rfl, rfl, rfl, h2, r2⟩ := trodAll_cons r1
  obtain ⟨rfl, rfl, rfl⟩ := trodAll_nil r2
  obtain rfl : args = #[v0, v1, v2] := by cases args; simp_all
  have hbulk := bound hk
  obtain ⟨fs0, hu0⟩ := uNode
  obtain ⟨cs0, rfl, hsz0⟩ := okWide_struct hu0 (hval 0 37 _ rfl rfl)
  obtain ⟨fuel0, h0⟩ := h0
  have hb0 := part_le (d := d0) (l := [d0, d1, d2] ++ gs) (by simp)
  obtain ⟨a0, hP0, rfl⟩ := open_node (x := (d0, p0)) hsz0 h0 (Nat.le_trans hb0 hbulk)
  obtain ⟨fs1, hu1⟩ := uNode
  obtain ⟨cs1, rfl, hsz1⟩ := okWide_struct hu1 (hval 1 37 _ rfl rfl)
  obtain ⟨fuel1, h1⟩ := h1
  have hb1 := part_le (d := d1) (l := [d0, d1, d2] ++ gs) (by simp)
  obtain ⟨a1, hP1, rfl⟩ := open_node (x := (d1, p1)) hsz1 h1 (Nat.le_trans hb1 hbulk)
  obtain ⟨x2, rfl⟩ := okWide_string u2 (hval 2 9 _ rfl rfl)
  obtain ⟨fuel2, h2⟩ := h2
  have hb2 := part_le (d := d2) (l := [d0, d1, d2] ++ gs) (by simp)
  have hP2 : x2.size ≤ 1048576 := by
    obtain ⟨y, hy, he, _⟩ := DataW.trod_string u2 h2
    obtain rfl : x2 = y := by simpa [Value.cells] using hy
    have hd : d2 = .lit (.string x2.data.toList) := congrArg Prod.fst he
    replace hb2 := Nat.le_trans hb2 hbulk
    rw [hd] at hb2
    simp only [Rows.uptoBulk] at hb2
    have : x2.data.toList.length = x2.size := by simp
    omega
  refine (calls_of (one_okS hP0 hP1 hP2 ht fun H' h => ⟨rfl, h⟩)).mono fun e W' ⟨he, hg⟩ => ?_
  subst he
  refine ⟨_, rfl, post_true hW' hg laid ?_ rfl ?_ ?_ ?_ (by kernel_rfl) uBool⟩
  · rw [Tryd.params9]
    intro t ht
    simp only [List.mem_cons, List.not_mem_nil, or_false] at ht
    rcases ht with rfl | rfl | rfl
    · exact ⟨by kernel_rfl, of_decide_eq_true (by kernel_rfl)⟩
    · exact ⟨by kernel_rfl, of_decide_eq_true (by kernel_rfl)⟩
    · exact ⟨by kernel_rfl, of_decide_eq_true (by kernel_rfl)⟩
  · obtain ⟨rfl, rfl⟩ := trodVars_none hV
    rfl
  · obtain ⟨rfl, rfl⟩ := trodVars_none hV
    rfl
  · obtain ⟨rfl, rfl⟩ := trodVars_none hV
    rfl
theorem said : Rows.NamesOneUptoSaid :=
  OpenClaim.holds_of_cond 9 Tryd.f9 rfl rfl rfl rfl rfl rfl rfl ⟨rfl, rfl, rfl, rfl, rfl⟩ rfl rfl rfl rfl rfl (by kernel_rfl) Tryd.func9 (by kernel_rfl)
    (of_decide_eq_true (by kernel_rfl)) (by unfold Func.isWrapper; first | (rw [if_pos (by decide +kernel)]; kernel_rfl) | (rw [if_neg (by decide +kernel)]; exact ⟨rfl, rfl⟩))
    (fun os started H enc _ F => by rw [OpenClaim.pre_eq_preRow]; exact lifted os started H enc F)
theorem plain (f : FuncId) (fn : Func) (hf : Tryd.pinned.checked.prog.funcNamed "weft/weftlaw14.NamesOne" = some f) (hfn : Tryd.pinned.checked.prog.funcs[f]? = some fn) :
    true = Tryd.pinned.checked.prog.looks [] ∧ ∀ (j : Nat) t, fn.params[j]? = some t → Tryd.pinned.checked.prog.wantsStandIn t = false := by
  obtain rfl : f = 9 := Option.some.inj ((show Tryd.prog.funcNamed "weft/weftlaw14.NamesOne" = some 9 by kernel_rfl).symm.trans hf) |>.symm
  obtain rfl : fn = Tryd.f9 := (Option.some.inj (Tryd.func9.symm.trans hfn)).symm
  refine ⟨by kernel_rfl, fun j t ht => ?_⟩
  rw [Tryd.params9] at ht
  have hm := Array.mem_of_getElem? ht
  simp only [List.mem_toArray, List.mem_cons, List.not_mem_nil, or_false] at hm
  rcases hm with rfl | rfl | rfl
  · exact (show Tryd.prog.wantsStandIn 37 = false by kernel_rfl)
  · exact (show Tryd.prog.wantsStandIn 37 = false by kernel_rfl)
  · exact (show Tryd.prog.wantsStandIn 9 = false by kernel_rfl)
theorem proved : Rows.NamesOneUptoCardSaid :=
  Claim7.holds_tied_plain_at .later [] _ _ _ _ said (fun _ h => by cases h) (by kernel_rfl) (fun _ h => by cases h) namesOneUpto_row_tie rfl ⟨rfl, rfl⟩ (by kernel_rfl) rfl plain (by kernel_rfl)
end Go.Proofs.YthaejcmllibeoaaDoor.RNamesOne

