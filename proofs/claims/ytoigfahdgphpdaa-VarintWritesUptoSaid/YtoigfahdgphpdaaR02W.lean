/- VarintWrites returns true and changes nothing that was there, for every input of bulk at most 1048576 (the second form). -/
import Derived.Test.YtoigfahdgphpdaaOpn
import Derived.Test.YtoigfahdgphpdaaL02
set_option linter.unusedVariables false
set_option linter.unusedSimpArgs false
-- lawWrites: 3
-- tPuts: 22
-- tPut: 29
-- tBool: 4
-- tInt: 3
-- tStr: 9
namespace Go.Proofs.Ytoigfahdgphpdaa.R02W
open Go Go.V Go.Proofs Go.ChangeShapes Go.WideShapes Go.ChangeAt Go.RowKit Go.Proofs.Ytoigfahdgphpdaa.Opn Go.Proofs.Ytoigfahdgphpdaa.L02

theorem own : ownKnob Try.prog.godebug = none := by kernel_rfl
theorem laid : laidOutB Try.prog = true := by kernel_rfl
theorem uPuts : Try.prog.underlying 22 = some (.slice 29) := by kernel_rfl
theorem cPut : Try.prog.cellsOf 29 = 3 := by kernel_rfl
theorem cB : Try.prog.cellsOf 4 = 1 := by kernel_rfl
theorem cI : Try.prog.cellsOf 3 = 1 := by kernel_rfl
theorem cS : Try.prog.cellsOf 9 = 1 := by kernel_rfl
theorem uB : Try.prog.underlying 4 = some .bool := by kernel_rfl
theorem uI : Try.prog.underlying 3 = some (.int .i64) := by kernel_rfl
theorem uS : Try.prog.underlying 9 = some .string := by kernel_rfl
theorem uPut : ∃ fs : Array Field, Try.prog.underlying 29 = some (.struct fs) ∧ (∃ f, fs[0]? = some f ∧ f.type = 4 ∧ f.offset = 0) ∧ (∃ f, fs[1]? = some f ∧ f.type = 3 ∧ f.offset = 1) ∧ (∃ f, fs[2]? = some f ∧ f.type = 9 ∧ f.offset = 2) := by
  have h : (match Try.prog.underlying 29 with | some (.struct fs) => (fs.map fun f => (f.type, f.offset)) == #[(4, 0), (3, 1), (9, 2)] | _ => false) = true := by kernel_rfl
  cases e : Try.prog.underlying 29 with
  | none => rw [e] at h; cases h
  | some d =>
    rw [e] at h
    cases d <;> first | (cases h; done) | skip
    rename_i fs
    simp only [beq_iff_eq] at h
    have hs : fs.size = 3 := by
      have := congrArg Array.size h
      simpa using this
    have g : ∀ i (hi : i < fs.size), (fs[i].type, fs[i].offset) = #[(4, 0), (3, 1), (9, 2)][i]'(by simp; omega) := by
      intro i hi
      have : (fs.map fun f => (f.type, f.offset))[i]? = #[(4, 0), (3, 1), (9, 2)][i]? := by rw [h]
      rw [Array.getElem?_map, Array.getElem?_eq_getElem hi, Array.getElem?_eq_getElem (by simp; omega)] at this
      simpa using this
    have g0 := g 0 (by omega)
    have g1 := g 1 (by omega)
    have g2 := g 2 (by omega)
    simp at g0 g1 g2
    exact ⟨fs, rfl, ⟨_, Array.getElem?_eq_getElem (by omega), g0⟩, ⟨_, Array.getElem?_eq_getElem (by omega), g1⟩, ⟨_, Array.getElem?_eq_getElem (by omega), g2⟩⟩

/-- a row of puts, opened -/
theorem open_puts {H : Type} {enc : TypeId × Value → H} {w : World} {fuel : Nat} {cs : List Value} {x : DataW H × List MemPlace} (h : DataW.trod enc Try.prog w 0 (fun _ => true) true fuel 22 cs = some x) (hk : Rows.uptoBulk x.1 ≤ 1048576) :
    ∃ (s : Sl) (xs : List Put), cs = [.slice s.a s.n s.c] ∧ Puts w.heap s xs := by
  obtain ⟨s, n, D, hcs, hc, hb, hi⟩ := rd_slice uPuts h
  obtain ⟨fs, hfs, ⟨f0, k0, t0, o0⟩, ⟨f1, k1, t1, o1⟩, ⟨f2, k2, t2, o2⟩⟩ := uPut
  have el : ∀ i, i < s.n → ∃ p : Put, p.2.2.size ≤ 1048576 ∧ ∃ ad, s.a = some ad ∧ hcell w.heap (ad.add (i * 3)) = some (.bool p.1) ∧ hcell w.heap (Addr.add (ad.add (i * 3)) 1) = some (.int .i64 p.2.1) ∧ hcell w.heap (Addr.add (ad.add (i * 3)) 2) = some (.string p.2.2) := by
    intro i him
    obtain ⟨hbd, ad, c, ha, hcl, hcell, ht⟩ := hi i him
    obtain ⟨m, hf⟩ := rd_field hfs ht
    obtain ⟨y0, r0, b0⟩ := hf 0 f0 k0
    obtain ⟨y1, r1, b1⟩ := hf 1 f1 k1
    obtain ⟨y2, r2, b2⟩ := hf 2 f2 k2
    rw [t0, o0] at r0
    rw [t1, o1] at r1
    rw [t2, o2] at r2
    obtain ⟨v0, e0, _⟩ := DataW.trod_bool uB r0
    obtain ⟨v1, e1, _, _⟩ := DataW.trod_int uI r1
    obtain ⟨v2, e2, e2', _⟩ := DataW.trod_string uS r2
    have q0 := one_cell e0
    have q1 := one_cell e1
    have q2 := one_cell e2
    rw [cPut] at hcell
    have z0 := hcell 0 (by omega)
    rw [add_zero'] at z0
    refine ⟨(v0, v1, v2), ?_, ad, ha, z0.trans q0, (hcell 1 (by omega)).trans q1, (hcell 2 (by omega)).trans q2⟩
    subst e2'
    simp only [Rows.uptoBulk] at b2
    have : v2.data.toList.length = v2.size := by simp
    show v2.size ≤ _
    omega
  refine ⟨s, (List.range s.n).map fun i => if h : i < s.n then (el i h).choose else (false, 0, ⟨#[]⟩), hcs, ⟨by simp, by simp; omega, ?_⟩⟩
  intro i p hp
  rw [List.getElem?_map] at hp
  by_cases him : i < s.n
  · rw [List.getElem?_range him] at hp
    simp only [Option.map_some, Option.some.injEq, dif_pos him] at hp
    rw [← hp]
    exact (el i him).choose_spec
  · rw [List.getElem?_eq_none (by simp; omega)] at hp
    cases hp

set_option maxRecDepth 100000 in
theorem lifted (os : Os) (started : os.Started) (H : Type) (enc : TypeId × Value → H) (F : Stop.Interp) :
    ReturnsInHanded {} Try.checked os 3 .any ((Rows.OpenSpec.upto Rows.varintWritesSpec).pre6 enc Try.prog Try.f3 Rows.varintWritesUptoRow.domain false) (((Rows.OpenSpec.upto Rows.varintWritesSpec).at F).post enc Try.prog Try.f3 false true false false) := by
  refine returnsInHanded_of_cond (C := Try.checked) (s := Rows.OpenSpec.upto Rows.varintWritesSpec) (k := Rows.uptoSmall) rfl own started (by kernel_rfl) Try.func3
    (OpenSpec.witness (enc := enc) (C := Try.checked) (s := Rows.OpenSpec.upto Rows.varintWritesSpec) (k := Rows.uptoSmall) rfl false ⟨#[], #[.slice none 0 0], []⟩ 8 (by kernel_rfl) (by kernel_rfl) (by kernel_rfl)
      (x := ([.nil], [], [])) (by kernel_rfl) rfl (by kernel_rfl)) ?_
  intro W base args ds gs before hval hW _ hk _
  have hW' := hW
  obtain ⟨p, q, hA0, hV, rfl, hfz, hnd⟩ := hW
  have hA : DataW.TrodAll enc Try.prog W 0 (fun _ => true) true Try.f3.params.toList args.toList ds p := hA0
  rw [Try.params3] at hA hval
  obtain ⟨v0, vs0, d0, ds0, p0, q0, hargs, rfl, rfl, h0, r0⟩ := trodAll_cons hA
  obtain ⟨rfl, rfl, rfl⟩ := trodAll_nil r0
  obtain rfl : args = #[v0] := by cases args; simp_all
  obtain ⟨a, len, cap, rfl⟩ := okWide_slice uPuts (hval 0 22 _ rfl rfl)
  obtain ⟨fuel, h0⟩ := h0
  have hbulk := bound hk
  have hb0 := part_le (d := d0) (l := [d0] ++ gs) (by simp)
  obtain ⟨s, xs, hs, hP⟩ := open_puts (x := (d0, p0)) h0 (Nat.le_trans hb0 hbulk)
  obtain ⟨rfl, rfl, rfl⟩ : a = s.a ∧ len = s.n ∧ cap = s.c := by simpa [Value.cells] using hs
  refine (calls_of (writes_ok hP fun H' h => ⟨rfl, h⟩)).mono fun e W' ⟨he, hg⟩ => ?_
  subst he
  refine ⟨_, rfl, post_true hW' hg laid ?_ rfl ?_ ?_ ?_ (by kernel_rfl) uB⟩
  · rw [Try.params3]
    intro t ht
    simp only [List.mem_cons, List.not_mem_nil, or_false] at ht
    subst ht
    exact ⟨by kernel_rfl, of_decide_eq_true (by kernel_rfl)⟩
  · obtain ⟨rfl, rfl⟩ := trodVars_none hV
    rfl
  · obtain ⟨rfl, rfl⟩ := trodVars_none hV
    rfl
  · obtain ⟨rfl, rfl⟩ := trodVars_none hV
    rfl

theorem proved : Rows.VarintWritesUptoSaid :=
  OpenClaim.holds_of_cond 3 Try.f3 rfl rfl rfl rfl rfl rfl rfl ⟨rfl, rfl, rfl, rfl, rfl⟩ rfl rfl rfl rfl rfl (by kernel_rfl) Try.func3 (by kernel_rfl)
    (of_decide_eq_true (by kernel_rfl)) (by unfold Func.isWrapper; first | (rw [if_pos (by decide +kernel)]; kernel_rfl) | (rw [if_neg (by decide +kernel)]; exact ⟨rfl, rfl⟩))
    (fun os started H enc _ F => lifted os started H enc F)
end Go.Proofs.Ytoigfahdgphpdaa.R02W

