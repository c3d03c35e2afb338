/- slices.BinarySearchFunc over a row of numbers; of no program. -/
import Derived.Test.YtigbdoicgdmliaaDoorV11
set_option linter.unusedVariables false
set_option linter.unusedSimpArgs false
namespace Go.V
attribute [local irreducible] Cvt ExtF CallF hrun callV
theorem wrap64 {x : Int} (h1 : -9223372036854775808 ≤ x) (h2 : x ≤ 9223372036854775807) : w64 x = x := by
  simp only [w64, IntKind.wrap, IntKind.bits, IntKind.signed, Int.reducePow, Nat.reduceSub, Bool.true_and, decide_eq_true_eq, ge_iff_le]
  by_cases h : 9223372036854775808 ≤ x % 18446744073709551616
  · rw [if_pos h]; omega
  · rw [if_neg h]; omega
theorem wrapu64 {x : Int} (h1 : 0 ≤ x) (h2 : x ≤ 18446744073709551615) : IntKind.wrap .u64 x = x := by
  simp only [IntKind.wrap, IntKind.bits, IntKind.signed, Int.reducePow, Nat.reduceSub, Bool.false_and, Bool.false_eq_true, if_false]
  omega
/-- the middle of two places -/
theorem mid_eq {i j : Nat} (h : i + j ≤ 9223372036854775807) : w64 (Int.fdiv (IntKind.wrap .u64 (w64 ((i : Int) + (j : Int)))) (2 ^ 1)) = (((i + j) / 2 : Nat) : Int) := by
  rw [wrap64 (x := (i : Int) + (j : Int)) (by omega) (by omega), wrapu64 (by omega) (by omega), Int.fdiv_eq_ediv_of_nonneg _ (by decide)]
  have : ((i : Int) + (j : Int)) / 2 ^ 1 = (((i + j) / 2 : Nat) : Int) := by
    rw [show (2 : Int) ^ 1 = 2 from rfl]
    omega
  rw [this, wrap64 (by omega) (by omega)]
/-- slices.BinarySearchFunc over numbers, as it is printed -/
def BsV (P : Program) (H : Hp) (x : Sl) (tgt : Value) (cmp : Value) (K : Value → Hp → Prop) (Z : List PanicEntry → Hp → Prop) : Prop :=
  ∃ I : Int → Int → Hp → Nat → Prop, (∃ m, I 0 (x.n : Int) H m) ∧ ∀ (i : Int) (j : Int), ∀ H1 m1, I i j H1 m1 → 
    ∀ scr : Nat → Value, (((decide (i < j)) = true → IxA x.a x.n (w64 (Int.fdiv (IntKind.wrap .u64 (w64 (i + j))) (2 ^ 1))) 1 fun ad => 
    (∃ x1 : Int, hcell H1 ad = some (.int .i64 x1) ∧ callV P cmp [.int .i64 x1, tgt] H1 (fun r H2 => 
    ∃ y : Int, r = .int .i64 y ∧ (((decide (y < 0)) = true → (∃ m2, m2 < m1 ∧ I (w64 ((w64 (Int.fdiv (IntKind.wrap .u64 (w64 (i + j))) (2 ^ 1))) + 1)) j H2 m2)) ∧ 
    ((decide (y < 0)) = false → (∃ m2, m2 < m1 ∧ I i (w64 (Int.fdiv (IntKind.wrap .u64 (w64 (i + j))) (2 ^ 1))) H2 m2)))) Z)) ∧ 
    ((decide (i < j)) = false → (((decide (i < (x.n : Int))) = true → IxA x.a x.n i 1 fun ad1 => (∃ x2 : Int, hcell H1 ad1 = some (.int .i64 x2) ∧ 
    callV P cmp [.int .i64 x2, tgt] H1 (fun r1 H3 => ∃ y1 : Int, r1 = .int .i64 y1 ∧ 
    K (.tuple #[.int .i64 i, .bool (y1 == 0)]) H3) Z)) ∧ ((decide (i < (x.n : Int))) = false → K (.tuple #[.int .i64 i, .bool false]) H1))))

/-- where a row parts: what is before it, and what is not -/
structure Split (n : Nat) (c : Nat → Int) (p : Nat) : Prop where
  le : p ≤ n
  lo : ∀ j, j < p → c j < 0
  hi : ∀ j, p ≤ j → j < n → 0 ≤ c j
theorem bs_ok {P : Program} {H : Hp} {x : Sl} {xs : List Int} {tgt cmp : Value} {c : Nat → Int} {K : Value → Hp → Prop} {Z : List PanicEntry → Hp → Prop} (hn : x.n = xs.length) (hbig : x.n ≤ 1000000000000)
    (hel : ∀ (i : Nat) (v : Int), xs[i]? = some v → ∃ ad, x.a = some ad ∧ hcell H (ad.add (i * 1)) = some (.int .i64 v))
    (hc : ∀ (i : Nat) (v : Int) (K' : Value → Hp → Prop), xs[i]? = some v → K' (.int .i64 (c i)) H → callV P cmp [.int .i64 v, tgt] H K' Z)
    (mono : ∀ i j, i ≤ j → j < x.n → c j < 0 → c i < 0) (k : ∀ p, Split x.n c p → K (.tuple #[.int .i64 (p : Int), .bool (decide (p < x.n) && (c p == 0))]) H) : BsV P H x tgt cmp K Z := by
  unfold BsV
  refine ⟨fun i j A m => ∃ a b : Nat, A = H ∧ i = (a : Int) ∧ j = (b : Int) ∧ a ≤ b ∧ b ≤ x.n ∧ m = b - a ∧ (∀ t, t < a → c t < 0) ∧ (∀ t, b ≤ t → t < x.n → 0 ≤ c t), ⟨x.n, 0, x.n, rfl, rfl, rfl, by omega, by omega, rfl, by omega, by omega⟩, ?_⟩
  rintro i j A m ⟨a, b, rfl, rfl, rfl, hab, hb, rfl, hlo, hhi⟩ scr
  refine ⟨fun hlt => ?_, fun hge => ?_⟩
  · have hlt' : a < b := by
      have : (a : Int) < (b : Int) := of_decide_eq_true hlt
      omega
    rw [mid_eq (by omega)]
    have hm1 : a ≤ (a + b) / 2 := by omega
    have hm2 : (a + b) / 2 < b := by omega
    generalize (a + b) / 2 = h at *
    have hv : xs[h]? = some (xs[h]'(by omega)) := List.getElem?_eq_getElem (by omega)
    obtain ⟨ad, ha, hcell⟩ := hel _ _ hv
    refine ⟨ad, ha, ⟨by omega, by omega⟩, _, by rw [Int.toNat_natCast]; exact hcell, hc _ _ _ hv ⟨_, rfl, fun hneg => ?_, fun hneg => ?_⟩⟩
    · have hneg' : c h < 0 := of_decide_eq_true hneg
      have e : w64 ((h : Int) + 1) = ((h + 1 : Nat) : Int) := by rw [wrap64 (by omega) (by omega)]; omega
      rw [e]
      refine ⟨b - (h + 1), by omega, h + 1, b, rfl, rfl, rfl, by omega, hb, rfl, ?_, hhi⟩
      intro t ht
      exact mono t h (by omega) (by omega) hneg'
    · have hneg' : ¬ c h < 0 := of_decide_eq_false hneg
      refine ⟨h - a, by omega, a, h, rfl, rfl, rfl, by omega, by omega, rfl, hlo, ?_⟩
      intro t ht htn
      apply Classical.byContradiction
      intro hc'
      exact hneg' (mono h t ht htn (by omega))
  · have hge' : a = b := by
      have : ¬ (a : Int) < (b : Int) := of_decide_eq_false hge
      omega
    subst hge'
    have hk := k a ⟨hb, hlo, hhi⟩
    refine ⟨fun hin => ?_, fun hin => ?_⟩
    · have hin' : a < x.n := by
        have : (a : Int) < (x.n : Int) := of_decide_eq_true hin
        omega
      have hv : xs[a]? = some (xs[a]'(by omega)) := List.getElem?_eq_getElem (by omega)
      obtain ⟨ad, ha, hcell⟩ := hel _ _ hv
      refine ⟨ad, ha, ⟨by omega, by omega⟩, _, by rw [Int.toNat_natCast]; exact hcell, hc _ _ _ hv ⟨_, rfl, ?_⟩⟩
      rw [decide_eq_true hin', Bool.true_and] at hk
      exact hk
    · have hin' : ¬ a < x.n := by
        have : ¬ (a : Int) < (x.n : Int) := of_decide_eq_false hin
        omega
      rw [decide_eq_false hin', Bool.false_and] at hk
      exact hk
end Go.V

