/- Numbers and texts in bytes: what is computed, in plain words. -/
import Derived.Test.YtigbdoicgdmliaaV7
set_option linter.unusedVariables false
set_option linter.unusedSimpArgs false
namespace Go.Proofs.Ytigbdoicgdmliaa.P02
open Go Go.V Go.Proofs

theorem w64_id {x : Int} (h1 : -9223372036854775808 ≤ x) (h2 : x ≤ 9223372036854775807) : w64 x = x := by
  simp only [w64, IntKind.wrap, IntKind.bits, IntKind.signed, Int.reducePow, Nat.reduceSub, Bool.true_and, decide_eq_true_eq, ge_iff_le]
  by_cases h : 9223372036854775808 ≤ x % 18446744073709551616
  · rw [if_pos h]; omega
  · rw [if_neg h]; omega
theorem u8_id {x : Int} (h1 : 0 ≤ x) (h2 : x ≤ 255) : IntKind.wrap .u8 x = x := by
  simp only [IntKind.wrap, IntKind.bits, IntKind.signed, Int.reducePow, Nat.reduceSub, Bool.false_and, Bool.false_eq_true, if_false]
  omega
/-- the bytes of a count -/
def numB (n : Nat) : List UInt8 := if h : n < 128 then [n.toUInt8] else (n % 128 + 128).toUInt8 :: numB (n / 128)
termination_by n
decreasing_by omega
theorem numB_lt {n : Nat} (h : n < 128) : numB n = [n.toUInt8] := by rw [numB, dif_pos h]
theorem numB_ge {n : Nat} (h : ¬ n < 128) : numB n = (n % 128 + 128).toUInt8 :: numB (n / 128) := by rw [numB, dif_neg h]
theorem and127 {x : Int} (h1 : 0 ≤ x) (h2 : x ≤ 9223372036854775807) : bitAnd .i64 x 127 = x % 128 := by
  obtain ⟨n, rfl⟩ := Int.eq_ofNat_of_zero_le h1
  have e : (BitVec.ofInt IntKind.i64.bits (n : Int) &&& BitVec.ofInt IntKind.i64.bits 127).toNat = n % 128 := by
    show (BitVec.ofInt 64 (n : Int) &&& BitVec.ofInt 64 127).toNat = n % 128
    have e1 : (BitVec.ofInt 64 (n : Int)).toNat = n := by simp [BitVec.toNat_ofInt]; omega
    have e2 : (BitVec.ofInt 64 127).toNat = 2 ^ 7 - 1 := by decide
    rw [BitVec.toNat_and, e1, e2, Nat.and_two_pow_sub_one_eq_mod]
  unfold bitAnd
  rw [e]
  have := w64_id (x := ((n % 128 : Nat) : Int)) (by omega) (by omega)
  rw [show IntKind.wrap .i64 ((n % 128 : Nat) : Int) = ((n % 128 : Nat) : Int) from this]
  omega
theorem or128 {x : Int} (h1 : 0 ≤ x) (h2 : x < 128) : bitOr .i64 x 128 = x + 128 := by
  have h : ∀ i : Fin 128, bitOr .i64 (i.val : Int) 128 = (i.val : Int) + 128 := by decide
  have := h ⟨x.toNat, by omega⟩
  simpa [Int.toNat_of_nonneg h1] using this
/-- what is written, and the first error -/
abbrev St := List UInt8 × Int
def putN (s : St) (n : Int) : St := if s.2 ≠ 0 then s else if n < 0 ∨ 268435456 < n then (s.1, 2) else (s.1 ++ numB n.toNat, 0)
def putT (s : St) (t : ByteArray) : St := if s.2 ≠ 0 then s else if 200000 < t.size then (s.1, 9) else (s.1 ++ numB t.size ++ t.data.toList, 0)
theorem numB_len : ∀ (k n : Nat), n < 128 ^ (k + 1) → (numB n).length ≤ k + 1
  | 0, n, h => by rw [numB_lt (by omega)]; simp
  | k + 1, n, h => by
    by_cases h1 : n < 128
    · rw [numB_lt h1]; simp
    · rw [numB_ge h1]
      have : n / 128 < 128 ^ (k + 1) := by
        rw [Nat.div_lt_iff_lt_mul (by omega)]
        rw [Nat.pow_succ] at h
        exact h
      have := numB_len k _ this
      simp only [List.length_cons]
      omega
theorem numB_len5 {n : Nat} (h : n ≤ 268435456) : (numB n).length ≤ 5 := by
  refine numB_len 4 n ?_
  have : 128 ^ (4 + 1) = 34359738368 := by decide
  omega
/-- what Done gives -/
def doneV (st : St) : Value := if st.2 = 0 then .tuple #[.string ⟨st.1.toArray⟩, .int .i64 0] else .tuple #[.string ⟨#[]⟩, .int .i64 st.2]

/-! ### the reader -/
/-- a count at the head of a row of bytes: it, how many bytes it has, and what is wrong -/
def lookL : Nat → Nat → List UInt8 → Nat × Nat × Int
  | _, _, [] => (0, 0, 1)
  | k, n, c :: l => if k = 4 ∧ 1 < c.toNat then (0, 0, 2) else
    if 128 ≤ c.toNat then lookL (k + 1) (n + c.toNat % 128 * 128 ^ k) l
    else if c.toNat = 0 ∧ 0 < k then (0, 0, 3) else if 268435456 < n + c.toNat % 128 * 128 ^ k then (0, 0, 2) else (n + c.toNat % 128 * 128 ^ k, k + 1, 0)
theorem lookL_ok : ∀ (l : List UInt8) (k n : Nat), k ≤ 4 → ((lookL k n l).2.2 = 0 → (lookL k n l).1 ≤ 268435456 ∧ k < (lookL k n l).2.1 ∧ (lookL k n l).2.1 ≤ k + l.length ∧ (lookL k n l).2.1 ≤ 5) ∧ ((lookL k n l).2.2 ≠ 0 → (lookL k n l).1 = 0 ∧ (lookL k n l).2.1 = 0)
  | [], k, n, hk => by simp [lookL]
  | c :: l, k, n, hk => by
    unfold lookL
    split
    · simp
    · rename_i h1
      split
      · rename_i h2
        have ih := lookL_ok l (k + 1) (n + c.toNat % 128 * 128 ^ k) (by omega)
        refine ⟨fun h => ?_, ih.2⟩
        have := ih.1 h
        simp only [List.length_cons]
        omega
      · split
        · simp
        · split
          · simp
          · simp only [List.length_cons, ne_eq, not_true_eq_false, false_implies, and_true, true_implies]
            omega
/-- the reader: the text, its place, what is wrong -/
abbrev Rd := ByteArray × Nat × Int
def restL (r : Rd) : List UInt8 := r.1.data.toList.drop r.2.1
def takeM (ρ : Nat → Nat) (r : Rd) : (Nat × ByteArray) × Rd :=
  if r.2.2 ≠ 0 then ((0, ⟨#[]⟩), r) else
  let e := if (lookL 0 0 (restL r)).2.2 = 0 ∧ r.1.size - r.2.1 - (lookL 0 0 (restL r)).2.1 < ρ (lookL 0 0 (restL r)).1 then 1 else (lookL 0 0 (restL r)).2.2
  if e ≠ 0 then ((0, ⟨#[]⟩), (r.1, r.2.1, e)) else
    (((lookL 0 0 (restL r)).1, r.1.extract (r.2.1 + (lookL 0 0 (restL r)).2.1) (r.2.1 + (lookL 0 0 (restL r)).2.1 + ρ (lookL 0 0 (restL r)).1)), (r.1, r.2.1 + (lookL 0 0 (restL r)).2.1 + ρ (lookL 0 0 (restL r)).1, 0))
def numM (r : Rd) : Nat × Rd := ((takeM (fun _ => 0) r).1.1, (takeM (fun _ => 0) r).2)
def textM (r : Rd) : ByteArray × Rd := ((takeM id r).1.2, (takeM id r).2)
def failM (r : Rd) (e : Int) : Rd := if r.2.2 = 0 then (r.1, r.2.1, e) else r
def rdoneM (r : Rd) : Nat × Int := if r.2.2 = 0 ∧ r.2.1 < r.1.size then (r.2.1, 6) else (r.2.1, r.2.2)
theorem restL_len (r : Rd) (h : r.2.1 ≤ r.1.size) : (restL r).length + r.2.1 = r.1.size := by
  unfold restL
  have : r.1.data.toList.length = r.1.size := by simp
  rw [List.length_drop, this]
  omega
theorem takeM_le {ρ : Nat → Nat} {r : Rd} (h : r.2.1 ≤ r.1.size) : (takeM ρ r).2.1 = r.1 ∧ (takeM ρ r).2.2.1 ≤ r.1.size := by
  have hl := lookL_ok (restL r) 0 0 (by omega)
  have hr := restL_len r h
  unfold takeM
  split
  · exact ⟨rfl, h⟩
  · rename_i h0
    by_cases h1 : (lookL 0 0 (restL r)).2.2 = 0
    · have h2 := hl.1 h1
      by_cases h3 : r.1.size - r.2.1 - (lookL 0 0 (restL r)).2.1 < ρ (lookL 0 0 (restL r)).1
      · simp [h1, h3, h]
      · simp only [h1, h3, and_false, if_false, ne_eq, not_true_eq_false]
        refine ⟨trivial, ?_⟩
        show r.2.1 + (lookL 0 0 (restL r)).2.1 + ρ (lookL 0 0 (restL r)).1 ≤ r.1.size
        omega
    · simp [h1, h]
theorem drop_cons {s : ByteArray} {i : Nat} (h : i < s.size) : s.data.toList.drop i = (s.data.toList.getD i 0) :: s.data.toList.drop (i + 1) := by
  have h' : i < s.data.toList.length := by simpa using h
  rw [List.drop_eq_getElem_cons h']
  congr 1
  rw [List.getD_eq_getElem?_getD, List.getElem?_eq_getElem h']
  rfl
/-- n holds less than 128^k: or-ing 7 bits at place 7k on is adding -/
theorem orShift {n c : Nat} {k : Nat} (hk : k ≤ 4) (hn : n < 128 ^ k) (hc : c < 128) : bitOr .i64 (n : Int) (w64 ((w64 (c : Int)) * 2 ^ (min (Int.toNat (w64 (7 * (k : Int)))) (IntKind.bits .i64)))) = ((n + c * 128 ^ k : Nat) : Int) := by
  have e1 : w64 (c : Int) = c := w64_id (by omega) (by omega)
  have e2 : w64 (7 * (k : Int)) = 7 * k := w64_id (by omega) (by omega)
  have e3 : min (7 * (k : Int)).toNat (IntKind.bits .i64) = 7 * k := by
    simp only [IntKind.bits]
    omega
  have hp : (128 : Nat) ^ k = 2 ^ (7 * k) := by rw [Nat.pow_mul]
  have hb : 128 ^ k ≤ 268435456 := by
    have : (128 : Nat) ^ k ≤ 128 ^ 4 := Nat.pow_le_pow_right (by omega) hk
    have : (128 : Nat) ^ 4 = 268435456 := by decide
    omega
  have hm : c * 128 ^ k ≤ 127 * 268435456 := Nat.mul_le_mul (by omega) hb
  rw [e1, e2, e3]
  have e4 : (c : Int) * 2 ^ (7 * k) = ((c * 128 ^ k : Nat) : Int) := by rw [hp]; simp
  rw [e4, w64_id (x := ((c * 128 ^ k : Nat) : Int)) (by omega) (by omega)]
  have key : (BitVec.ofInt IntKind.i64.bits (n : Int) ||| BitVec.ofInt IntKind.i64.bits ((c * 128 ^ k : Nat) : Int)).toNat = n + c * 128 ^ k := by
    show (BitVec.ofInt 64 (n : Int) ||| BitVec.ofInt 64 ((c * 128 ^ k : Nat) : Int)).toNat = _
    have f1 : (BitVec.ofInt 64 (n : Int)).toNat = n := by
      rw [BitVec.toNat_ofInt]
      omega
    have f2 : (BitVec.ofInt 64 ((c * 128 ^ k : Nat) : Int)).toNat = c * 128 ^ k := by
      rw [BitVec.toNat_ofInt]
      omega
    rw [BitVec.toNat_or, f1, f2, hp]
    rw [hp] at hn
    have := Nat.two_pow_add_eq_or_of_lt hn c
    rw [Nat.or_comm, Nat.mul_comm, ← this, Nat.add_comm]
  unfold bitOr
  rw [key]
  exact w64_id (by omega) (by omega)
theorem and127u {c : UInt8} : bitAnd .u8 (c.toNat : Int) 127 = ((c.toNat % 128 : Nat) : Int) := by
  have h : ∀ i : Fin 256, bitAnd .u8 (i.val : Int) 127 = ((i.val % 128 : Nat) : Int) := by decide +kernel
  exact h ⟨c.toNat, c.toNat_lt⟩
theorem and128u {c : UInt8} : (bitAnd .u8 (c.toNat : Int) 128 != 0) = decide (128 ≤ c.toNat) := by
  have h : ∀ i : Fin 256, (bitAnd .u8 (i.val : Int) 128 != 0) = decide (128 ≤ i.val) := by decide +kernel
  exact h ⟨c.toNat, c.toNat_lt⟩
end Go.Proofs.Ytigbdoicgdmliaa.P02

