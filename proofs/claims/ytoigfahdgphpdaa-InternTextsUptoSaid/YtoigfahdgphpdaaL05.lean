/- weftlaw05: helpers and the law InternSorts. -/
import Derived.Test.YtoigfahdgphpdaaQ05
import Derived.Test.YtoigfahdgphpdaaC05I
set_option linter.unusedVariables false
set_option linter.unusedSimpArgs false
-- great: 42
-- works: 46
-- lawSorts: 12
-- tTabI: 81
-- tInt: 3
namespace Go.Proofs.Ytoigfahdgphpdaa.L05
open Go Go.V Go.Proofs Go.Proofs.Ytoigfahdgphpdaa.N05
attribute [local irreducible] Cvt ExtF CallF hrun
theorem great_ok {H : Hp} {l : Sl} {xs : List ByteArray} {K : Value → Hp → Prop} {Z : List PanicEntry → Hp → Prop} (h : Els C05S.val H l xs) (hbig : xs.length ≤ 1000000000) (k : ∀ y : Bool, K (.bool y) H) : CallF Try.prog 42 #[.slice l.a l.n l.c] H K Z := by
  refine V42_ok ?_
  unfold V42
  have hl := h.len
  refine ⟨fun n i A m => ∃ j : Nat, A = H ∧ i = (j : Int) ∧ j ≤ xs.length ∧ m = xs.length - j, ⟨_, 0, rfl, rfl, Nat.zero_le _, rfl⟩, ?_⟩
  rintro n i A m ⟨j, rfl, rfl, hj, rfl⟩ scr
  refine ⟨fun hlt => ?_, fun _ => k false⟩
  have hlt' : j < xs.length := by
    have : (j : Int) < (l.n : Int) := of_decide_eq_true hlt
    omega
  have hx : xs[j]? = some xs[j] := List.getElem?_eq_getElem hlt'
  obtain ⟨ad, e1, e2⟩ := h.el _ _ hx
  have e : w64 ((j : Int) + 1) = ((j + 1 : Nat) : Int) := by rw [wrap64 (by omega) (by omega)]; omega
  rw [e]
  exact ⟨ad, e1, ⟨by omega, by omega⟩, _, by rw [Int.toNat_natCast]; exact e2, fun _ => k true, fun _ => ⟨fun _ => k true, fun _ => ⟨xs.length - (j + 1), by omega, j + 1, rfl, rfl, hlt', rfl⟩⟩⟩

theorem els_blk {H : Hp} {b : Nat} {T : TypeId} {xs : List Int} (h : Blk H b (xs.map C05I.val) T) : Els C05I.val H ⟨some ⟨b, 0, none⟩, xs.length, xs.length⟩ xs := by
  refine ⟨rfl, fun i x hx => ⟨_, rfl, ?_⟩⟩
  rw [add_mk, h.ld, Nat.zero_add, Nat.mul_one, List.getElem?_map, hx]
  rfl
theorem works_ok {H : Hp} {K : Value → Hp → Prop} {Z : List PanicEntry → Hp → Prop} (k : ∀ H', Fr no H H' → K (.bool true) H') : CallF Try.prog 46 #[] H K Z := by
  refine V46_ok ?_
  unfold V46
  intro b A hnA
  have eA := hnA.eq
  have t0 := C05I.tb_nil hnA.blk
  have hno : ∀ {B c2 t2 o2}, C05I.TbT A B b 0 81 [.slice none 0 0, .slice none 0 0] c2 t2 o2 → Fr no H B := by
    intro B c2 t2 o2 hB
    refine hnA.fr.step hB.fr ?_
    rintro i hi (h' | h')
    · omega
    · exact (C05I.tOwn_nil h').elim
  refine C05I.put_ok t0 (by simp) (by intro n B hn; simp at hn) ?_
  intro B c1 o1 _ hB
  refine ⟨_, _, rfl, ?_⟩
  refine C05I.put_ok hB.st (by simp) ?_ ?_
  · intro n C hn
    rw [List.nil_append] at hn
    have : (5 : Int) ∈ [(7 : Int)] := List.mem_of_getElem? hn
    simp at this
  intro C c2 o2 _ hC
  refine ⟨_, _, rfl, ?_⟩
  refine C05I.put_ok hC.st (by simp) ?_ ?_
  · intro n D hn hD
    have hn0 : n = 0 := by
      have hl := (List.getElem?_eq_some_iff.1 hn).1
      simp at hl
      match n, hn, hl with
      | 0, _, _ => rfl
      | 1, hn, _ => simp at hn
    subst hn0
    refine ⟨_, _, rfl, fun _ => ⟨fun _ => ⟨fun _ => ⟨fun _ => ⟨fun _ => ⟨fun _ => ?_, fun h => by simp at h⟩, fun h => by simp at h⟩, fun h => by simp at h⟩, fun h => by simp at h⟩, fun h => by simp at h⟩, fun h => by simp at h⟩
    refine C05I.len_ok hD.st ?_
    refine ⟨_, rfl, fun _ => ?_, fun h => by simp at h⟩
    intro b1 E hnE
    have hEl : Els C05I.val E ⟨some ⟨b1, 0, none⟩, 3, 3⟩ [2, 1, 2] := els_blk (xs := [2, 1, 2]) hnE.blk
    have fHD : Fr no H D := hno ((hB.trans hC).trans hD)
    refine C05I.sorted_ok hEl (by simp) ?_
    intro s' F ys hr hm hle hrow hf ho
    refine ⟨s', rfl, ?_⟩
    have hys : ys = [1, 2] := by
      refine rising_eq C05I.lin hr ?_ ?_
      · unfold Rising
        simp [C05I.lt]
      · intro z
        rw [hm z]
        simp only [List.mem_cons, List.not_mem_nil, or_false]
        omega
    have hl := hrow.1
    rw [hys] at hl
    have hl' : s'.n = 2 := by simpa using hl.symm
    rw [hl']
    exact k F ((fHD.trans hnE.fr).trans hf)
  · intro D c3 o3 hno3
    exact absurd (by simp) hno3
theorem sorts_ok {H : Hp} {l : Sl} {xs : List ByteArray} {K : Value → Hp → Prop} {Z : List PanicEntry → Hp → Prop} (h : Els C05S.val H l xs) (hbig : xs.length ≤ 1048576) (k : ∀ H', Fr no H H' → K (.bool true) H') : CallF Try.prog 12 #[.slice l.a l.n l.c] H K Z := by
  refine V12_ok ?_
  unfold V12
  refine great_ok h (by omega) ?_
  intro y
  refine ⟨y, rfl, fun _ => k H (Fr.refl _ _), fun _ => ?_⟩
  refine C05S.sorted_ok h (by omega) ?_
  intro s1 A ys1 r1 m1 b1 w1 f1 o1
  refine ⟨s1, rfl, ?_⟩
  refine Q05.rsorted_ok (h.keep f1 (fun _ _ h => h)) (by omega) ?_
  intro s2 B ys2 r2 m2 w2 f2 o2
  refine ⟨s2, rfl, ?_⟩
  have he : ys1 = ys2 := rising_eq C05S.lin r1 r2 fun z => (m1 z).trans (m2 z).symm
  subst he
  have hl : ys1.length ≤ 1000000000 := by omega
  refine Q05.same_ok (Els.row (w1.keep f2 (fun _ _ h => h))) (Els.row w2) hl ?_
  refine ⟨true, rfl, fun _ => ?_, fun h => by cases h⟩
  refine works_ok ?_
  intro C f3
  exact ⟨true, rfl, k C ((f1.trans f2).trans f3)⟩
end Go.Proofs.Ytoigfahdgphpdaa.L05

