/- Arguments of weftlaw05's laws, opened. -/
import Derived.Test.YtoigfahdgphpdaaOpn
import Derived.Test.YtoigfahdgphpdaaL05
set_option linter.unusedVariables false
set_option linter.unusedSimpArgs false
-- tStrs: 65
-- tInts: 42
-- tInt: 3
-- tStr: 9
namespace Go.Proofs.Ytoigfahdgphpdaa.O05
open Go Go.V Go.Proofs Go.ChangeShapes Go.WideShapes Go.ChangeAt Go.RowKit Go.Proofs.Ytoigfahdgphpdaa.Opn
theorem uStrs : Try.prog.underlying 65 = some (.slice 9) := by kernel_rfl
theorem uInts : Try.prog.underlying 42 = some (.slice 3) := by kernel_rfl
theorem uI : Try.prog.underlying 3 = some (.int .i64) := by kernel_rfl
theorem uS : Try.prog.underlying 9 = some .string := by kernel_rfl
theorem cI : Try.prog.cellsOf 3 = 1 := by kernel_rfl
theorem cS : Try.prog.cellsOf 9 = 1 := by kernel_rfl
/-- a row of texts, opened -/
theorem open_strs {H : Type} {enc : TypeId × Value → H} {w : World} {fuel : Nat} {cs : List Value} {x : DataW H × List MemPlace} (h : DataW.trod enc Try.prog w 0 (fun _ => true) true fuel 65 cs = some x) (hk : Rows.uptoBulk x.1 ≤ 1048576) :
    ∃ (s : Sl) (xs : List ByteArray), cs = [.slice s.a s.n s.c] ∧ (Els C05S.val w.heap s xs ∧ xs.length ≤ 1048576 ∧ ∀ y ∈ xs, y.size ≤ 1048576) := by
  obtain ⟨s, n, D, hcs, hc, hb, hi⟩ := rd_slice uStrs h
  have el : ∀ i, i < s.n → ∃ p : ByteArray, p.size ≤ 1048576 ∧ ∃ ad, s.a = some ad ∧ hcell w.heap (ad.add (i * 1)) = some (.string p) := by
    intro i him
    obtain ⟨hbd, ad, c, ha, hcl, hcell, ht⟩ := hi i him
    obtain ⟨v, rfl, hv, _⟩ := DataW.trod_string uS ht
    rw [cS] at hcell
    have z0 := hcell 0 (by omega)
    rw [add_zero'] at z0
    refine ⟨v, ?_, ad, ha, z0⟩
    rw [hv] at hbd
    simp only [Rows.uptoBulk] at hbd
    have : v.data.toList.length = v.size := by simp
    omega
  refine ⟨s, (List.range s.n).map fun i => if h : i < s.n then (el i h).choose else ⟨#[]⟩, hcs, ⟨⟨by simp, ?_⟩, by simp; omega, ?_⟩⟩
  · intro i p hp
    rw [List.getElem?_map] at hp
    by_cases him : i < s.n
    · rw [List.getElem?_range him] at hp
      simp only [Option.map_some, Option.some.injEq, dif_pos him] at hp
      rw [← hp]
      exact (el i him).choose_spec.2
    · rw [List.getElem?_eq_none (by simp; omega)] at hp
      cases hp
  · intro y hy
    obtain ⟨i, hi', rfl⟩ := List.mem_map.1 hy
    have him := List.mem_range.1 hi'
    rw [dif_pos him]
    exact (el i him).choose_spec.1
/-- a row of numbers, opened -/
theorem open_nums {H : Type} {enc : TypeId × Value → H} {w : World} {fuel : Nat} {cs : List Value} {x : DataW H × List MemPlace} (h : DataW.trod enc Try.prog w 0 (fun _ => true) true fuel 42 cs = some x) (hk : Rows.uptoBulk x.1 ≤ 1048576) :
    ∃ (s : Sl) (xs : List Int), cs = [.slice s.a s.n s.c] ∧ (Els C05I.val w.heap s xs ∧ xs.length ≤ 1048576) := by
  obtain ⟨s, n, D, hcs, hc, hb, hi⟩ := rd_slice uInts h
  have el : ∀ i, i < s.n → ∃ p : Int, ∃ ad, s.a = some ad ∧ hcell w.heap (ad.add (i * 1)) = some (.int .i64 p) := by
    intro i him
    obtain ⟨hbd, ad, c, ha, hcl, hcell, ht⟩ := hi i him
    obtain ⟨v, rfl, _, _⟩ := DataW.trod_int uI ht
    rw [cI] at hcell
    have z0 := hcell 0 (by omega)
    rw [add_zero'] at z0
    exact ⟨v, ad, ha, z0⟩
  refine ⟨s, (List.range s.n).map fun i => if h : i < s.n then (el i h).choose else 0, hcs, ⟨⟨by simp, ?_⟩, by simp; omega⟩⟩
  intro i p hp
  rw [List.getElem?_map] at hp
  by_cases him : i < s.n
  · rw [List.getElem?_range him] at hp
    simp only [Option.map_some, Option.some.injEq, dif_pos him] at hp
    rw [← hp]
    exact (el i him).choose_spec
  · rw [List.getElem?_eq_none (by simp; omega)] at hp
    cases hp
end Go.Proofs.Ytoigfahdgphpdaa.O05

