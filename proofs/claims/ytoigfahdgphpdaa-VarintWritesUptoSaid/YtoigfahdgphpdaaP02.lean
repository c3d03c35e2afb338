/- Numbers and texts in bytes: what is computed, in plain words. -/
import Derived.Test.YtoigfahdgphpdaaV7
set_option linter.unusedVariables false
set_option linter.unusedSimpArgs false
namespace Go.Proofs.Ytoigfahdgphpdaa.P02
open Go Go.V Go.Proofs

theorem w64_id {x : Int} (h1 : -9223372036854775808 ≤ x) (h2 : x ≤ 9223372036854775807) : w64 x = x := by
  simp only [w64, IntKind.wrap, IntKind.bits, IntKind.signed, Int.reducePow, Nat.reduceSub, Bool.true_and, decide_eq_true_eq, ge_iff_le]
  by_cases h : 9223372036854775808 ≤ x % 18446744073709551616
  · rw [if_pos h]; omega
  · rw [if_neg h]; omega
theorem u8_id {x : Int} (h1 : 0 ≤ x) (h2 : x ≤ 255) : IntKind.wrap .u8 x = x := by
  simp only [IntKind.wrap, IntKind.bits, IntKind.signed, Int.reducePow, Nat.reduceSub, Bool.false_and, Bool.false_eq_true, if_false]
  omega
/-- the bytes of a count -/
def numB (n : Nat) : List UInt8 := if h : n < 128 then [n.toUInt8] else (n % 128 + 128).toUInt8 :: numB (n / 128)
termination_by n
decreasing_by omega
theorem numB_lt {n : Nat} (h : n < 128) : numB n = [n.toUInt8] := by rw [numB, dif_pos h]
theorem numB_ge {n : Nat} (h : ¬ n < 128) : numB n = (n % 128 + 128).toUInt8 :: numB (n / 128) := by rw [numB, dif_neg h]
theorem and127 {x : Int} (h1 : 0 ≤ x) (h2 : x ≤ 9223372036854775807) : bitAnd .i64 x 127 = x % 128 := by
  obtain ⟨n, rfl⟩ := Int.eq_ofNat_of_zero_le h1
  have e : (BitVec.ofInt IntKind.i64.bits (n : Int) &&& BitVec.ofInt IntKind.i64.bits 127).toNat = n % 128 := by
    show (BitVec.ofInt 64 (n : Int) &&& BitVec.ofInt 64 127).toNat = n % 128
    have e1 : (BitVec.ofInt 64 (n : Int)).toNat = n := by simp [BitVec.toNat_ofInt]; omega
    have e2 : (BitVec.ofInt 64 127).toNat = 2 ^ 7 - 1 := by decide
    rw [BitVec.toNat_and, e1, e2, Nat.and_two_pow_sub_one_eq_mod]
  unfold bitAnd
  rw [e]
  have := w64_id (x := ((n % 128 : Nat) : Int)) (by omega) (by omega)
  rw [show IntKind.wrap .i64 ((n % 128 : Nat) : Int) = ((n % 128 : Nat) : Int) from this]
  omega
theorem or128 {x : Int} (h1 : 0 ≤ x) (h2 : x < 128) : bitOr .i64 x 128 = x + 128 := by
  have h : ∀ i : Fin 128, bitOr .i64 (i.val : Int) 128 = (i.val : Int) + 128 := by decide
  have := h ⟨x.toNat, by omega⟩
  simpa [Int.toNat_of_nonneg h1] using this
/-- what is written, and the first error -/
abbrev St := List UInt8 × Int
def putN (s : St) (n : Int) : St := if s.2 ≠ 0 then s else if n < 0 ∨ 268435456 < n then (s.1, 2) else (s.1 ++ numB n.toNat, 0)
def putT (s : St) (t : ByteArray) : St := if s.2 ≠ 0 then s else if 200000 < t.size then (s.1, 9) else (s.1 ++ numB t.size ++ t.data.toList, 0)
theorem numB_len : ∀ (k n : Nat), n < 128 ^ (k + 1) → (numB n).length ≤ k + 1
  | 0, n, h => by rw [numB_lt (by omega)]; simp
  | k + 1, n, h => by
    by_cases h1 : n < 128
    · rw [numB_lt h1]; simp
    · rw [numB_ge h1]
      have : n / 128 < 128 ^ (k + 1) := by
        rw [Nat.div_lt_iff_lt_mul (by omega)]
        rw [Nat.pow_succ] at h
        exact h
      have := numB_len k _ this
      simp only [List.length_cons]
      omega
theorem numB_len5 {n : Nat} (h : n ≤ 268435456) : (numB n).length ≤ 5 := by
  refine numB_len 4 n ?_
  have : 128 ^ (4 + 1) = 34359738368 := by decide
  omega
/-- what Done gives -/
def doneV (st : St) : Value := if st.2 = 0 then .tuple #[.string ⟨st.1.toArray⟩, .int .i64 0] else .tuple #[.string ⟨#[]⟩, .int .i64 st.2]
end Go.Proofs.Ytoigfahdgphpdaa.P02

