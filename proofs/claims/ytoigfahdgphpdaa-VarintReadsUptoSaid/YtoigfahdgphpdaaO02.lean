/- Arguments of weftlaw02's laws, opened. -/
import Derived.Test.YtoigfahdgphpdaaOpn
import Derived.Test.YtoigfahdgphpdaaL02R
set_option linter.unusedVariables false
set_option linter.unusedSimpArgs false
-- tInts: 42
-- tPuts: 22
-- tPut: 29
-- tBool: 4
-- tInt: 3
-- tStr: 9
namespace Go.Proofs.Ytoigfahdgphpdaa.O02
open Go Go.V Go.Proofs Go.ChangeShapes Go.WideShapes Go.ChangeAt Go.RowKit Go.Proofs.Ytoigfahdgphpdaa.Opn Go.Proofs.Ytoigfahdgphpdaa.L02 Go.Proofs.Ytoigfahdgphpdaa.L02R Go.Proofs.Ytoigfahdgphpdaa.P02

theorem own : ownKnob Try.prog.godebug = none := by kernel_rfl
theorem laid : laidOutB Try.prog = true := by kernel_rfl
theorem uPuts : Try.prog.underlying 22 = some (.slice 29) := by kernel_rfl
theorem cPut : Try.prog.cellsOf 29 = 3 := by kernel_rfl
theorem cB : Try.prog.cellsOf 4 = 1 := by kernel_rfl
theorem cI : Try.prog.cellsOf 3 = 1 := by kernel_rfl
theorem cS : Try.prog.cellsOf 9 = 1 := by kernel_rfl
theorem uB : Try.prog.underlying 4 = some .bool := by kernel_rfl
theorem uI : Try.prog.underlying 3 = some (.int .i64) := by kernel_rfl
theorem uS : Try.prog.underlying 9 = some .string := by kernel_rfl
theorem uPut : ∃ fs : Array Field, Try.prog.underlying 29 = some (.struct fs) ∧ (∃ f, fs[0]? = some f ∧ f.type = 4 ∧ f.offset = 0) ∧ (∃ f, fs[1]? = some f ∧ f.type = 3 ∧ f.offset = 1) ∧ (∃ f, fs[2]? = some f ∧ f.type = 9 ∧ f.offset = 2) := by
  have h : (match Try.prog.underlying 29 with | some (.struct fs) => (fs.map fun f => (f.type, f.offset)) == #[(4, 0), (3, 1), (9, 2)] | _ => false) = true := by kernel_rfl
  cases e : Try.prog.underlying 29 with
  | none => rw [e] at h; cases h
  | some d =>
    rw [e] at h
    cases d <;> first | (cases h; done) | skip
    rename_i fs
    simp only [beq_iff_eq] at h
    have hs : fs.size = 3 := by
      have := congrArg Array.size h
      simpa using this
    have g : ∀ i (hi : i < fs.size), (fs[i].type, fs[i].offset) = #[(4, 0), (3, 1), (9, 2)][i]'(by simp; omega) := by
      intro i hi
      have : (fs.map fun f => (f.type, f.offset))[i]? = #[(4, 0), (3, 1), (9, 2)][i]? := by rw [h]
      rw [Array.getElem?_map, Array.getElem?_eq_getElem hi, Array.getElem?_eq_getElem (by simp; omega)] at this
      simpa using this
    have g0 := g 0 (by omega)
    have g1 := g 1 (by omega)
    have g2 := g 2 (by omega)
    simp at g0 g1 g2
    exact ⟨fs, rfl, ⟨_, Array.getElem?_eq_getElem (by omega), g0⟩, ⟨_, Array.getElem?_eq_getElem (by omega), g1⟩, ⟨_, Array.getElem?_eq_getElem (by omega), g2⟩⟩

/-- a row of puts, opened -/
theorem open_puts {H : Type} {enc : TypeId × Value → H} {w : World} {fuel : Nat} {cs : List Value} {x : DataW H × List MemPlace} (h : DataW.trod enc Try.prog w 0 (fun _ => true) true fuel 22 cs = some x) (hk : Rows.uptoBulk x.1 ≤ 1048576) :
    ∃ (s : Sl) (xs : List Put), cs = [.slice s.a s.n s.c] ∧ Puts w.heap s xs := by
  obtain ⟨s, n, D, hcs, hc, hb, hi⟩ := rd_slice uPuts h
  obtain ⟨fs, hfs, ⟨f0, k0, t0, o0⟩, ⟨f1, k1, t1, o1⟩, ⟨f2, k2, t2, o2⟩⟩ := uPut
  have el : ∀ i, i < s.n → ∃ p : Put, p.2.2.size ≤ 1048576 ∧ ∃ ad, s.a = some ad ∧ hcell w.heap (ad.add (i * 3)) = some (.bool p.1) ∧ hcell w.heap (Addr.add (ad.add (i * 3)) 1) = some (.int .i64 p.2.1) ∧ hcell w.heap (Addr.add (ad.add (i * 3)) 2) = some (.string p.2.2) := by
    intro i him
    obtain ⟨hbd, ad, c, ha, hcl, hcell, ht⟩ := hi i him
    obtain ⟨m, hf⟩ := rd_field hfs ht
    obtain ⟨y0, r0, b0⟩ := hf 0 f0 k0
    obtain ⟨y1, r1, b1⟩ := hf 1 f1 k1
    obtain ⟨y2, r2, b2⟩ := hf 2 f2 k2
    rw [t0, o0] at r0
    rw [t1, o1] at r1
    rw [t2, o2] at r2
    obtain ⟨v0, e0, _⟩ := DataW.trod_bool uB r0
    obtain ⟨v1, e1, _, _⟩ := DataW.trod_int uI r1
    obtain ⟨v2, e2, e2', _⟩ := DataW.trod_string uS r2
    have q0 := one_cell e0
    have q1 := one_cell e1
    have q2 := one_cell e2
    rw [cPut] at hcell
    have z0 := hcell 0 (by omega)
    rw [add_zero'] at z0
    refine ⟨(v0, v1, v2), ?_, ad, ha, z0.trans q0, (hcell 1 (by omega)).trans q1, (hcell 2 (by omega)).trans q2⟩
    subst e2'
    simp only [Rows.uptoBulk] at b2
    have : v2.data.toList.length = v2.size := by simp
    show v2.size ≤ _
    omega
  refine ⟨s, (List.range s.n).map fun i => if h : i < s.n then (el i h).choose else (false, 0, ⟨#[]⟩), hcs, ⟨by simp, by simp; omega, ?_⟩⟩
  intro i p hp
  rw [List.getElem?_map] at hp
  by_cases him : i < s.n
  · rw [List.getElem?_range him] at hp
    simp only [Option.map_some, Option.some.injEq, dif_pos him] at hp
    rw [← hp]
    exact (el i him).choose_spec
  · rw [List.getElem?_eq_none (by simp; omega)] at hp
    cases hp
theorem uInts : Try.prog.underlying 42 = some (.slice 3) := by kernel_rfl
/-- a row of numbers, opened -/
theorem open_ints {H : Type} {enc : TypeId × Value → H} {w : World} {fuel : Nat} {cs : List Value} {x : DataW H × List MemPlace} (h : DataW.trod enc Try.prog w 0 (fun _ => true) true fuel 42 cs = some x) (hk : Rows.uptoBulk x.1 ≤ 1048576) :
    ∃ (s : Sl) (xs : List Int), cs = [.slice s.a s.n s.c] ∧ Ints w.heap s xs := by
  obtain ⟨s, n, D, hcs, hc, hb, hi⟩ := rd_slice uInts h
  have el : ∀ i, i < s.n → ∃ p : Int, ∃ ad, s.a = some ad ∧ hcell w.heap (ad.add (i * 1)) = some (.int .i64 p) := by
    intro i him
    obtain ⟨hbd, ad, c, ha, hcl, hcell, ht⟩ := hi i him
    obtain ⟨v, rfl, _, _⟩ := DataW.trod_int uI ht
    rw [cI] at hcell
    have z0 := hcell 0 (by omega)
    rw [add_zero'] at z0
    exact ⟨v, ad, ha, z0⟩
  refine ⟨s, (List.range s.n).map fun i => if h : i < s.n then (el i h).choose else 0, hcs, ⟨by simp, by simp; omega, ?_⟩⟩
  intro i p hp
  rw [List.getElem?_map] at hp
  by_cases him : i < s.n
  · rw [List.getElem?_range him] at hp
    simp only [Option.map_some, Option.some.injEq, dif_pos him] at hp
    rw [← hp]
    exact (el i him).choose_spec
  · rw [List.getElem?_eq_none (by simp; omega)] at hp
    cases hp
end Go.Proofs.Ytoigfahdgphpdaa.O02

