/- SystemAgain returns true and changes nothing that was there, for every input of bulk at most 1048576 (the second form). -/
import Derived.Test.YtjpkbenogloihaaGreatDoorZ18
import Derived.Test.YtjpkbenogloihaaGreatDoorCards
import Derived.Test.YtjpkbenogloihaaGreatDoorTie
import Derived.Deep.DeepHandedRow
import Derived.SevenTiedAt
import Derived.LaidOnce
set_option linter.unusedVariables false
set_option linter.unusedSimpArgs false
-- law: 5
-- t0: 26
-- t1: 26
-- t2: 26
-- tBool: 4
namespace Go.Proofs.YtjpkbenogloihaaGreatDoor.RSystemAgain
open Go Go.V Go.Proofs Go.ChangeShapes Go.WideShapes Go.ChangeAt Go.RowKit Go.Proofs.YtjpkbenogloihaaGreatDoor.Opn Go.Proofs.YtjpkbenogloihaaGreatDoor.OpA Go.Proofs.YtjpkbenogloihaaGreatDoor.L15U
theorem own : ownKnob Tryz.prog.godebug = none := by kernel_rfl
theorem laid : laidOutB Tryz.prog = true := by kernel_rfl
theorem uBool : Tryz.prog.underlying 4 = some .bool := by kernel_rfl
theorem reads (os : Os) {H : Type} (enc : TypeId × Value → H) : ∃ places, DataW.whole enc Tryz.prog ((World.laidAll Tryz.prog os Rows.systemAgainUptoRow.laid).forCall (fun _ _ => 0) ⟨#[], #[.agg #[.slice none 0 0, .slice none 0 0, .slice none 0 0], .agg #[.slice none 0 0, .slice none 0 0, .slice none 0 0], .agg #[.slice none 0 0, .slice none 0 0, .slice none 0 0]], []⟩).memory Tryz.f5.params.toList Rows.systemAgainSpec.vars false #[(.agg #[.slice none 0 0, .slice none 0 0, .slice none 0 0] : Value), (.agg #[.slice none 0 0, .slice none 0 0, .slice none 0 0] : Value), (.agg #[.slice none 0 0, .slice none 0 0, .slice none 0 0] : Value)].toList 8 = some ([.agg [.nil, .nil, .nil], .agg [.nil, .nil, .nil], .agg [.nil, .nil, .nil]], [], places) :=
  ⟨[], by kernel_rfl⟩
theorem laid_met (os : Os) (args : Array Value) : laidMet Tryz.prog Rows.systemAgainUptoRow.laid ((World.laidAll Tryz.prog os Rows.systemAgainUptoRow.laid).forCall (fun _ _ => 0) ⟨#[], args, []⟩).memory := laidMet_laidAll args (by kernel_rfl) (by kernel_rfl)
set_option maxRecDepth 100000 in
theorem lifted (os : Os) (started : os.Started) (H : Type) (enc : TypeId × Value → H) (F : Stop.Interp) :
    ReturnsInHanded {} Tryz.checked os 5 .any ((Rows.OpenSpec.upto Rows.systemAgainSpec).preRow enc Tryz.prog Tryz.f5 Rows.systemAgainUptoRow.domain false Rows.systemAgainUptoRow.laid) (((Rows.OpenSpec.upto Rows.systemAgainSpec).at F).post enc Tryz.prog Tryz.f5 false true false false) := by
  obtain ⟨places, hx⟩ := reads os enc
  refine returnsInHanded_of_row (C := Tryz.checked) (s := (Rows.OpenSpec.upto Rows.systemAgainSpec)) own started (by kernel_rfl) Tryz.func5
    (Lyd.wit (enc := enc) (C := Tryz.checked) #[.agg #[.slice none 0 0, .slice none 0 0, .slice none 0 0], .agg #[.slice none 0 0, .slice none 0 0, .slice none 0 0], .agg #[.slice none 0 0, .slice none 0 0, .slice none 0 0]] (by kernel_rfl) (by kernel_rfl) (by kernel_rfl)
      (OpenSpec.preRow_of_cond 8 hx (by kernel_rfl) (fun k hk => by cases hk; kernel_rfl) (by kernel_rfl) (laid_met os _))) ?_
  intro W base args ds gs before hval hW _ hcond _ hL0 _ _
  have hL : laidMet Tryz.prog Rows.systemAgainUptoRow.laid W := hL0
  have hk := hcond Rows.uptoSmall rfl
  have ht := Lyd.pow10 2 rfl hL
  have hW' := hW
  obtain ⟨p, q, hA0, hV, rfl, hfz, hnd⟩ := hW
  have hA : DataW.TrodAll enc Tryz.prog W 0 (fun _ => true) true Tryz.f5.params.toList args.toList ds p := hA0
  rw [Tryz.params5] at hA hval
  obtain ⟨v0, vs0, d0, ds0, p0, q0, hargs, rfl, rfl, h0, r0⟩ := trodAll_cons hA
  obtain ⟨v1, vs1, d1, ds1, p1, q1, rfl, rfl, rfl, h1, r1⟩ := trodAll_cons r0
  obtain ⟨v2, vs2, d2, ds2, p2, q2, rfl, rfl, rfl, h2, r2⟩ := trodAll_cons r1
  obtain ⟨rfl, rfl, rfl⟩ := trodAll_nil r2
  obtain rfl : args = #[v0, v1, v2] := by cases args; simp_all
  have hbulk := bound hk
  obtain ⟨fs0, hu0⟩ := uSys
  obtain ⟨cs0, rfl, hsz0⟩ := okWide_struct hu0 (hval 0 26 _ rfl rfl)
  obtain ⟨fuel0, h0⟩ := h0
  have hb0 := part_le (d := d0) (l := [d0, d1, d2] ++ gs) (by simp)
  obtain ⟨a0, hP0, rfl⟩ := open_sys (x := (d0, p0)) hsz0 h0 (Nat.le_trans hb0 hbulk)
  obtain ⟨fs1, hu1⟩ := uSys
  obtain ⟨cs1, rfl, hsz1⟩ := okWide_struct hu1 (hval 1 26 _ rfl rfl)
  obtain ⟨fuel1, h1⟩ := h1
  have hb1 := part_le (d := d1) (l := [d0, d1, d2] ++ gs) (by simp)
  obtain ⟨a1, hP1, rfl⟩ := open_sys (x := (d1, p1)) hsz1 h1 (Nat.le_trans hb1 hbulk)
  obtain ⟨fs2, hu2⟩ := uSys
  obtain ⟨cs2, rfl, hsz2⟩ := okWide_struct hu2 (hval 2 26 _ rfl rfl)
  obtain ⟨fuel2, h2⟩ := h2
  have hb2 := part_le (d := d2) (l := [d0, d1, d2] ++ gs) (by simp)
  obtain ⟨a2, hP2, rfl⟩ := open_sys (x := (d2, p2)) hsz2 h2 (Nat.le_trans hb2 hbulk)
  refine (calls_of (again2 ht hP0 hP1 hP2 fun H' h => ⟨rfl, h⟩)).mono fun e W' ⟨he, hg⟩ => ?_
  subst he
  refine ⟨_, rfl, post_true hW' hg laid ?_ rfl ?_ ?_ ?_ (by kernel_rfl) uBool⟩
  · rw [Tryz.params5]
    intro t ht
    simp only [List.mem_cons, List.not_mem_nil, or_false] at ht
    rcases ht with rfl | rfl | rfl
    · exact ⟨by kernel_rfl, of_decide_eq_true (by kernel_rfl)⟩
    · exact ⟨by kernel_rfl, of_decide_eq_true (by kernel_rfl)⟩
    · exact ⟨by kernel_rfl, of_decide_eq_true (by kernel_rfl)⟩
  · obtain ⟨rfl, rfl⟩ := trodVars_none hV
    rfl
  · obtain ⟨rfl, rfl⟩ := trodVars_none hV
    rfl
  · obtain ⟨rfl, rfl⟩ := trodVars_none hV
    rfl
theorem said : Rows.SystemAgainUptoSaid :=
  OpenClaim.holds_of_cond 5 Tryz.f5 rfl rfl rfl rfl rfl rfl rfl ⟨rfl, rfl, rfl, rfl, rfl⟩ rfl rfl rfl rfl rfl (by kernel_rfl) Tryz.func5 (by kernel_rfl)
    (of_decide_eq_true (by kernel_rfl)) (by unfold Func.isWrapper; first | (rw [if_pos (by decide +kernel)]; kernel_rfl) | (rw [if_neg (by decide +kernel)]; exact ⟨rfl, rfl⟩))
    (fun os started H enc _ F => by rw [OpenClaim.pre_eq_preRow]; exact lifted os started H enc F)
theorem plain (f : FuncId) (fn : Func) (hf : Tryz.pinned.checked.prog.funcNamed "weft/weftlaw15.SystemAgain" = some f) (hfn : Tryz.pinned.checked.prog.funcs[f]? = some fn) :
    true = Tryz.pinned.checked.prog.looks [] ∧ ∀ (j : Nat) t, fn.params[j]? = some t → Tryz.pinned.checked.prog.wantsStandIn t = false := by
  obtain rfl : f = 5 := Option.some.inj ((show Tryz.prog.funcNamed "weft/weftlaw15.SystemAgain" = some 5 by kernel_rfl).symm.trans hf) |>.symm
  obtain rfl : fn = Tryz.f5 := (Option.some.inj (Tryz.func5.symm.trans hfn)).symm
  refine ⟨by kernel_rfl, fun j t ht => ?_⟩
  rw [Tryz.params5] at ht
  have hm := Array.mem_of_getElem? ht
  simp only [List.mem_toArray, List.mem_cons, List.not_mem_nil, or_false] at hm
  rcases hm with rfl | rfl | rfl
  · exact (show Tryz.prog.wantsStandIn 26 = false by kernel_rfl)
  · exact (show Tryz.prog.wantsStandIn 26 = false by kernel_rfl)
  · exact (show Tryz.prog.wantsStandIn 26 = false by kernel_rfl)
theorem proved : Rows.SystemAgainUptoCardSaid :=
  Claim7.holds_tied_plain_at .later [] _ _ _ _ said (fun _ h => by cases h) (by kernel_rfl) (fun _ h => by cases h) systemAgainUpto_row_tie rfl ⟨rfl, rfl⟩ (by kernel_rfl) rfl plain (by kernel_rfl)
end Go.Proofs.YtjpkbenogloihaaGreatDoor.RSystemAgain

