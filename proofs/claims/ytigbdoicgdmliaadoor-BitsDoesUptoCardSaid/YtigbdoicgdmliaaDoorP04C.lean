/- How many bits there are, the library's way: plain words. -/
import Derived.Test.YtigbdoicgdmliaaDoorP04B
import Derived.Test.YtigbdoicgdmliaaDoorV7
set_option linter.unusedVariables false
set_option linter.unusedSimpArgs false
namespace Go.Proofs.YtigbdoicgdmliaaDoor.P04
open Go Go.V
theorem and_split {k a M : Nat} (ha : a < 2 ^ k) (x : Nat) : x &&& (2 ^ k * M + a) = 2 ^ k * ((x / 2 ^ k) &&& M) + ((x % 2 ^ k) &&& a) := by
  apply Nat.eq_of_testBit_eq
  intro i
  have h2 : (x % 2 ^ k) &&& a < 2 ^ k := Nat.lt_of_le_of_lt Nat.and_le_right ha
  rw [Nat.testBit_and, Nat.testBit_two_pow_mul_add _ ha, Nat.testBit_two_pow_mul_add _ h2]
  split
  · rename_i hi
    rw [Nat.testBit_and, Nat.testBit_mod_two_pow, decide_eq_true hi, Bool.true_and]
  · rename_i hi
    rw [Nat.testBit_and, Nat.testBit_div_two_pow]
    congr 2
    omega
/-- the sum of the digits, and how great they are -/
def dsum (B : Nat) : Nat → Nat → Nat
  | 0, _ => 0
  | n + 1, y => y % B + dsum B n (y / B)
def dig (B lim : Nat) : Nat → Nat → Prop
  | 0, y => y = 0
  | n + 1, y => y % B ≤ lim ∧ dig B lim n (y / B)
def m4 : Nat → Nat
  | 0 => 0
  | n + 1 => 2 ^ 2 * m4 n + 1
def m16 : Nat → Nat
  | 0 => 0
  | n + 1 => 2 ^ 4 * m16 n + 3
def m256 : Nat → Nat
  | 0 => 0
  | n + 1 => 2 ^ 8 * m256 n + 15
def f1 (n x : Nat) : Nat := (x / 2 &&& m4 n) + (x &&& m4 n)
def f2 (n x : Nat) : Nat := (x / 4 &&& m16 n) + (x &&& m16 n)
def f3 (n x : Nat) : Nat := (x / 16 + x) &&& m256 n
theorem f1_succ (n x : Nat) : f1 (n + 1) x = (x % 2 + x / 2 % 2) + 4 * f1 n (x / 4) := by
  have e : m4 (n + 1) = 2 ^ 2 * m4 n + 1 := rfl
  unfold f1
  rw [e, and_split (by decide), and_split (by decide), Nat.and_one_is_mod, Nat.and_one_is_mod]
  have e1 : x / 2 / 2 ^ 2 = x / 4 / 2 := by omega
  rw [e1]
  have e2 : x / 2 ^ 2 = x / 4 := by omega
  rw [e2]
  omega
theorem f1_ok : ∀ (n x : Nat), dsum 4 n (f1 n x) = pc (2 * n) x ∧ dig 4 2 n (f1 n x)
  | 0, x => by simp [dsum, dig, pc, f1, m4]
  | n + 1, x => by
    have hs := f1_succ n x
    have h4 : f1 (n + 1) x % 4 = x % 2 + x / 2 % 2 := by omega
    have h5 : f1 (n + 1) x / 4 = f1 n (x / 4) := by omega
    obtain ⟨i1, i2⟩ := f1_ok n (x / 4)
    have e : 2 * (n + 1) = 2 * n + 1 + 1 := by omega
    have e2 : x / 2 / 2 = x / 4 := by omega
    refine ⟨?_, ?_, ?_⟩
    · rw [dsum, h4, h5, i1, e, pc, pc, e2]
      omega
    · rw [h4]; omega
    · rw [h5]; exact i2
theorem and3 (x : Nat) : (x % 2 ^ 4) &&& 3 = x % 4 := by
  have := Nat.and_two_pow_sub_one_eq_mod (x % 2 ^ 4) 2
  have e : (2 : Nat) ^ 2 - 1 = 3 := by decide
  rw [e] at this
  rw [this]
  omega
theorem and15 (x : Nat) : (x % 2 ^ 8) &&& 15 = x % 16 := by
  have := Nat.and_two_pow_sub_one_eq_mod (x % 2 ^ 8) 4
  have e : (2 : Nat) ^ 4 - 1 = 15 := by decide
  rw [e] at this
  rw [this]
  omega
theorem f2_succ (n x : Nat) : f2 (n + 1) x = (x % 4 + x / 4 % 4) + 16 * f2 n (x / 16) := by
  have e : m16 (n + 1) = 2 ^ 4 * m16 n + 3 := rfl
  unfold f2
  rw [e, and_split (by decide), and_split (by decide), and3, and3]
  have e1 : x / 4 / 2 ^ 4 = x / 16 / 4 := by omega
  rw [e1]
  have e2 : x / 2 ^ 4 = x / 16 := by omega
  rw [e2]
  omega
theorem f2_ok : ∀ (n x : Nat), dig 4 2 (2 * n) x → dsum 16 n (f2 n x) = dsum 4 (2 * n) x ∧ dig 16 4 n (f2 n x)
  | 0, x, _ => by simp [dsum, dig, f2, m16]
  | n + 1, x, h => by
    have e : 2 * (n + 1) = 2 * n + 1 + 1 := by omega
    rw [e] at h ⊢
    obtain ⟨d1, d2, d3⟩ := h
    have e2 : x / 4 / 4 = x / 16 := by omega
    rw [e2] at d3
    have hs := f2_succ n x
    have h4 : f2 (n + 1) x % 16 = x % 4 + x / 4 % 4 := by omega
    have h5 : f2 (n + 1) x / 16 = f2 n (x / 16) := by omega
    obtain ⟨i1, i2⟩ := f2_ok n (x / 16) d3
    refine ⟨?_, ?_, ?_⟩
    · rw [dsum, h4, h5, i1, dsum, dsum, e2]
      omega
    · rw [h4]; omega
    · rw [h5]; exact i2
theorem f3_succ (n x : Nat) (h0 : x % 16 ≤ 4) (h1 : x / 16 % 16 ≤ 4) (h2 : x / 256 % 16 ≤ 4) : f3 (n + 1) x = (x % 16 + x / 16 % 16) + 256 * f3 n (x / 256) := by
  have e : m256 (n + 1) = 2 ^ 8 * m256 n + 15 := rfl
  unfold f3
  rw [e, and_split (by decide), and15]
  have e0 : x / 16 / 16 = x / 256 := by omega
  have e1 : (x / 16 + x) / 2 ^ 8 = x / 256 / 16 + x / 256 := by omega
  rw [e1]
  omega
theorem dig0 {B lim : Nat} : ∀ {n x : Nat}, dig B lim n x → x % B ≤ lim
  | 0, x, h => by
    have : x = 0 := h
    rw [this, Nat.zero_mod]
    exact Nat.zero_le _
  | n + 1, x, h => h.1
theorem f3_ok : ∀ (n x : Nat), dig 16 4 (2 * n) x → dsum 256 n (f3 n x) = dsum 16 (2 * n) x ∧ dig 256 8 n (f3 n x)
  | 0, x, _ => by simp [dsum, dig, f3, m256]
  | n + 1, x, h => by
    have e : 2 * (n + 1) = 2 * n + 1 + 1 := by omega
    rw [e] at h ⊢
    obtain ⟨d1, d2, d3⟩ := h
    have e2 : x / 16 / 16 = x / 256 := by omega
    rw [e2] at d3
    have hs := f3_succ n x d1 d2 (dig0 d3)
    have h4 : f3 (n + 1) x % 256 = x % 16 + x / 16 % 16 := by omega
    have h5 : f3 (n + 1) x / 256 = f3 n (x / 256) := by omega
    obtain ⟨i1, i2⟩ := f3_ok n (x / 256) d3
    refine ⟨?_, ?_, ?_⟩
    · rw [dsum, h4, h5, i1, dsum, dsum, e2]
      omega
    · rw [h4]; omega
    · rw [h5]; exact i2
/-- the last steps: all bytes are added -/
def a1 (x : Nat) : Nat := x + x / 2 ^ 8
def a2 (x : Nat) : Nat := a1 x + a1 x / 2 ^ 16
def a3 (x : Nat) : Nat := a2 x + a2 x / 2 ^ 32
theorem a1_eq (x : Nat) : a1 x = x + x / 256 := rfl
def dg : Nat → Nat → Nat
  | 0, x => x % 256
  | i + 1, x => dg i (x / 256)
def rr : Nat → Nat
  | 0 => 0
  | n + 1 => 256 * rr n + 1
theorem dg_zero : ∀ i, dg i 0 = 0
  | 0 => rfl
  | i + 1 => by unfold dg; exact dg_zero i
theorem dig_add : ∀ {n B C x y : Nat}, dig 256 B n x → dig 256 C n y → B + C < 256 → dig 256 (B + C) n (x + y) ∧ ∀ i, dg i (x + y) = dg i x + dg i y
  | 0, B, C, x, y, h1, h2, _ => by
    have e1 : x = 0 := h1
    have e2 : y = 0 := h2
    subst e1 e2
    exact ⟨rfl, fun i => by rw [Nat.add_zero, dg_zero]⟩
  | n + 1, B, C, x, y, h1, h2, hb => by
    have a := h1.1
    have b := h2.1
    have e1 : (x + y) % 256 = x % 256 + y % 256 := by omega
    have e2 : (x + y) / 256 = x / 256 + y / 256 := by omega
    obtain ⟨i1, i2⟩ := dig_add h1.2 h2.2 hb
    refine ⟨⟨by omega, by rw [e2]; exact i1⟩, fun i => ?_⟩
    cases i with
    | zero => exact e1
    | succ i => unfold dg; rw [e2]; exact i2 i
theorem dig_more : ∀ {n B x : Nat}, dig 256 B n x → dig 256 B (n + 1) x
  | 0, B, x, h => by
    have e : x = 0 := h
    subst e
    exact ⟨Nat.zero_le _, rfl⟩
  | n + 1, B, x, h => ⟨h.1, dig_more h.2⟩
theorem dig_sh : ∀ {n B x : Nat}, dig 256 B n x → dig 256 B n (x / 256)
  | 0, B, x, h => by
    have e : x = 0 := h
    subst e
    rfl
  | n + 1, B, x, h => dig_more h.2
theorem dig_le : ∀ {n B x : Nat}, dig 256 B n x → x ≤ B * rr n
  | 0, B, x, h => by
    have e : x = 0 := h
    omega
  | n + 1, B, x, h => by
    have a := h.1
    have := dig_le h.2
    unfold rr
    rw [Nat.mul_add, Nat.mul_left_comm]
    omega
theorem last_ok {x : Nat} (h : dig 256 8 8 x) : a1 x < 18446744073709551616 ∧ a2 x < 18446744073709551616 ∧ a3 x < 9223372036854775808 ∧ a3 x % 128 = dsum 256 8 x := by
  obtain ⟨p1, q1⟩ := dig_add h (dig_sh h) (by decide)
  have e1 : a1 x = x + x / 256 := rfl
  rw [← e1] at p1 q1
  have e2 : a2 x = a1 x + a1 x / 256 / 256 := by unfold a2; rw [Nat.div_div_eq_div_mul]
  obtain ⟨p2, q2⟩ := dig_add p1 (dig_sh (dig_sh p1)) (by decide)
  rw [← e2] at p2 q2
  have e3 : a3 x = a2 x + a2 x / 256 / 256 / 256 / 256 := by unfold a3; simp only [Nat.div_div_eq_div_mul]
  obtain ⟨p3, q3⟩ := dig_add p2 (dig_sh (dig_sh (dig_sh (dig_sh p2)))) (by decide)
  rw [← e3] at p3 q3
  have l1 := dig_le p1
  have l2 := dig_le p2
  have l3 := dig_le p3
  have hr : rr 8 = 72340172838076673 := by decide
  rw [hr] at l1 l2 l3
  have hd : dsum 256 8 x = dg 0 (a3 x) := by
    have c : ∀ i y, dg i (y / 256) = dg (i + 1) y := fun i y => rfl
    simp only [q3, q2, q1, c]
    simp only [dsum, dg]
    omega
  have hs : dg 0 (a3 x) ≤ 64 := p3.1
  have hm : dg 0 (a3 x) = a3 x % 256 := rfl
  refine ⟨Nat.lt_of_le_of_lt l1 (by decide), Nat.lt_of_le_of_lt l2 (by decide), Nat.lt_of_le_of_lt l3 (by decide), ?_⟩
  rw [hd]
  omega
theorem f1_lt {x : Nat} (hx : x < 2 ^ 64) : f1 32 x < 2 ^ 64 := by
  unfold f1
  have h1 : x / 2 &&& m4 32 ≤ m4 32 := Nat.and_le_right
  have h2 : x &&& m4 32 ≤ m4 32 := Nat.and_le_right
  have : m4 32 = 6148914691236517205 := by decide
  omega
theorem f2_lt (x : Nat) : f2 16 x < 2 ^ 63 := by
  unfold f2
  have h1 : x / 4 &&& m16 16 ≤ m16 16 := Nat.and_le_right
  have h2 : x &&& m16 16 ≤ m16 16 := Nat.and_le_right
  have : m16 16 = 3689348814741910323 := by decide
  omega
theorem f3_lt (x : Nat) : f3 8 x < 2 ^ 63 := by
  unfold f3
  have h1 : (x / 16 + x) &&& m256 8 ≤ m256 8 := Nat.and_le_right
  have : m256 8 = 1085102592571150095 := by decide
  omega
theorem ones_eq (x : Nat) : a3 (f3 8 (f2 16 (f1 32 x))) % 128 = pc 64 x ∧ a1 (f3 8 (f2 16 (f1 32 x))) < 18446744073709551616 ∧ a2 (f3 8 (f2 16 (f1 32 x))) < 18446744073709551616 ∧ a3 (f3 8 (f2 16 (f1 32 x))) < 9223372036854775808 := by
  obtain ⟨p1, p2⟩ := f1_ok 32 x
  obtain ⟨p3, p4⟩ := f2_ok 16 (f1 32 x) p2
  obtain ⟨p5, p6⟩ := f3_ok 8 (f2 16 (f1 32 x)) p4
  obtain ⟨l1, l2, l3, l4⟩ := last_ok p6
  exact ⟨by rw [l4, p5, p3, p1], l1, l2, l3⟩
/-! ### the model's operations -/
theorem wrapN {x : Nat} (h : x < 2 ^ 64) : IntKind.wrap .u64 (x : Int) = (x : Int) := wrapu64 (by omega) (by omega)
theorem bAnd {x y : Nat} (hx : x < 2 ^ 64) (hy : y < 2 ^ 64) : bitAnd .u64 (x : Int) (y : Int) = ((x &&& y : Nat) : Int) := by
  unfold bitAnd
  have e : ∀ z : Nat, z < 2 ^ 64 → (BitVec.ofInt (IntKind.bits .u64) (z : Int)).toNat = z := fun z hz => by
    rw [BitVec.ofInt_natCast, BitVec.toNat_ofNat]
    exact Nat.mod_eq_of_lt hz
  rw [BitVec.toNat_and, e x hx, e y hy]
  exact wrapN (Nat.lt_of_le_of_lt Nat.and_le_left hx)
theorem bOr {x y : Nat} (hx : x < 2 ^ 64) (hy : y < 2 ^ 64) : bitOr .u64 (x : Int) (y : Int) = ((x ||| y : Nat) : Int) := by
  unfold bitOr
  have e : ∀ z : Nat, z < 2 ^ 64 → (BitVec.ofInt (IntKind.bits .u64) (z : Int)).toNat = z := fun z hz => by
    rw [BitVec.ofInt_natCast, BitVec.toNat_ofNat]
    exact Nat.mod_eq_of_lt hz
  rw [BitVec.toNat_or, e x hx, e y hy]
  exact wrapN (Nat.or_lt_two_pow hx hy)
theorem bNot {x y : Nat} (hx : x < 2 ^ 64) (hy : y < 2 ^ 64) : bitAndNot .u64 (x : Int) (y : Int) = ((andNot x y : Nat) : Int) := by
  unfold bitAndNot andNot
  have e : ∀ z : Nat, z < 2 ^ 64 → (BitVec.ofInt (IntKind.bits .u64) (z : Int)).toNat = z := fun z hz => by
    rw [BitVec.ofInt_natCast, BitVec.toNat_ofNat]
    exact Nat.mod_eq_of_lt hz
  rw [BitVec.toNat_and, BitVec.toNat_not, e x hx, e y hy]
  exact wrapN (Nat.lt_of_le_of_lt Nat.and_le_left hx)
theorem bAnd127 {x : Nat} (hx : x < 2 ^ 63) : bitAnd .i64 (x : Int) 127 = ((x % 128 : Nat) : Int) := by
  unfold bitAnd
  have e : ∀ z : Nat, z < 2 ^ 64 → (BitVec.ofInt (IntKind.bits .i64) (z : Int)).toNat = z := fun z hz => by
    rw [BitVec.ofInt_natCast, BitVec.toNat_ofNat]
    exact Nat.mod_eq_of_lt hz
  have h127 : (127 : Int) = ((127 : Nat) : Int) := rfl
  rw [h127, BitVec.toNat_and, e x (by omega), e 127 (by decide)]
  have := Nat.and_two_pow_sub_one_eq_mod x 7
  have e2 : (2 : Nat) ^ 7 - 1 = 127 := by decide
  rw [e2] at this
  rw [this]
  have : x % 2 ^ 7 < 128 := Nat.mod_lt _ (by decide)
  exact wrap64 (by omega) (by omega)
theorem fdivN (x k : Nat) : Int.fdiv (x : Int) (2 ^ k) = ((x / 2 ^ k : Nat) : Int) := by
  rw [Int.fdiv_eq_ediv_of_nonneg _ (by exact_mod_cast Nat.zero_le (2 ^ k))]
  simp
end Go.Proofs.YtigbdoicgdmliaaDoor.P04

