/- Numbers in writing, as digits and weftref01 write them. -/
import Derived.Test.YtigbdoicgdmliaaDoorN10
import Derived.Test.YtigbdoicgdmliaaDoorV20
import Derived.Test.YtigbdoicgdmliaaDoorS10
set_option linter.unusedVariables false
set_option linter.unusedSimpArgs false
-- tU8: 5
-- tBytes: 85
-- tStr: 9
-- itoa: 70
-- text: 51
-- rText: 71
-- rPlain: 79
namespace Go.Proofs.YtigbdoicgdmliaaDoor.C10D
open Go Go.V Go.Proofs Go.Proofs.YtigbdoicgdmliaaDoor.N10
attribute [local irreducible] Cvt ExtF CallF hrun App MkS
theorem itoa_len {n : Int} (h0 : -9223372036854775808 ≤ n) (h1 : n ≤ 9223372036854775807) : True := trivial
theorem wrap_u8 (x : Int) : IntKind.wrap .u8 x = x % 256 := by
  simp only [IntKind.wrap, IntKind.bits, IntKind.signed, Int.reducePow, Nat.reduceSub, Bool.false_and, Bool.false_eq_true, if_false]
theorem wrap_u64 (x : Int) : IntKind.wrap .u64 x = x % 18446744073709551616 := by
  simp only [IntKind.wrap, IntKind.bits, IntKind.signed, Int.reducePow, Nat.reduceSub, Bool.false_and, Bool.false_eq_true, if_false]
/-- the last digit, and what stands ahead of it -/
def dgt (u : Nat) : UInt8 := UInt8.ofNat (48 + u % 10)
def hdL (u : Nat) : List UInt8 := if u < 10 then [] else Lib.decDigits (u / 10)
theorem dec_eq (u : Nat) : Lib.decDigits u = hdL u ++ [dgt u] := by
  unfold hdL dgt
  by_cases h : u < 10
  · rw [if_pos h, Lib.decDigits, dif_pos h]
    have : u % 10 = u := by omega
    rw [this]
    rfl
  · rw [if_neg h, Lib.decDigits, dif_neg h]
theorem dgt_nat (u : Nat) : (dgt u).toNat = 48 + u % 10 := by
  unfold dgt
  rw [UInt8.toNat_ofNat']
  omega
theorem dec_len : ∀ (k u : Nat), u < 10 ^ (k + 1) → (Lib.decDigits u).length ≤ k + 1
  | 0, u, h => by
    rw [Lib.decDigits, dif_pos (by simpa using h)]
    simp
  | k + 1, u, h => by
    rw [Lib.decDigits]
    by_cases h1 : u < 10
    · rw [dif_pos h1]; simp
    · rw [dif_neg h1, List.length_append]
      have := dec_len k (u / 10) (by rw [Nat.pow_succ] at h; omega)
      simp only [List.length_cons, List.length_nil]
      omega
theorem dec_ne (u : Nat) : Lib.decDigits u ≠ [] := by rw [dec_eq]; simp
section
variable {H : Hp} {K : Value → Hp → Prop} {Z : List PanicEntry → Hp → Prop}
theorem text_ok {n : Int} (h0 : -9223372036854775808 ≤ n) (h1 : n ≤ 9223372036854775807) (ht : TabH Tryd.prog H "internal/strconv.uint64pow10" .u64 Lib.pow10Tab)
    (k : ∀ H', Fr no H H' → K (.string (str (Lib.itoa n))) H') : CallF Tryd.prog 51 #[.int .i64 n] H K Z := by
  refine V51_ok ?_
  unfold V51
  refine callF_below (v := .string (str (Lib.itoa n))) ?_ fun H' hf => ⟨_, rfl, k H' hf⟩
  intro w hw
  refine (Any.strconv_Itoa S10.lays_itoa n h0 h1 w (ht w hw)).mono ?_
  rintro e w' ⟨rfl, kk, os, rfl⟩
  refine ⟨rfl, rfl, rfl, rfl, ?_, fun j hj => ?_⟩
  · show w.heap.size ≤ (w.heap ++ os).size
    rw [Array.size_append]
    omega
  · show (w.heap ++ os)[j]? = w.heap[j]?
    exact Array.getElem?_append_left hj
theorem pvu1 : Tryd.prog.underlying 85 = some (.slice 5) := by kernel_rfl
theorem pvu2 : Tryd.prog.underlying 9 = some .string := by kernel_rfl
theorem pvu3 : Tryd.prog.underlying 5 = some (.int .u8) := by kernel_rfl
theorem one_ok {H A : Hp} {b : Nat} {c : UInt8} {x : Int} {K : Value → Hp → Prop} (hn : Newb H (.cells #[.int .u8 x] 5) b A) (hx : x = (c.toNat : Int)) (k : K (.string (str [c])) A) : Cvt Tryd.prog 85 9 A (.slice (some ⟨b, 0, none⟩) 1 1) K := by
  subst hx
  have hb : Blk A b (bv [c]) 5 := hn.blk
  exact bytesStr_ok pvu1 pvu3 pvu2 (Src.blk hb rfl) k
theorem dgt_int (u : Nat) : IntKind.wrap .u8 (48 + IntKind.wrap .u8 (Int.tmod (u : Int) 10)) = ((dgt u).toNat : Int) := by
  rw [dgt_nat, wrap_u8, wrap_u8, Int.tmod_eq_emod_of_nonneg (by omega)]
  omega
theorem rplain_ok {u : Nat} (hu : u ≤ 18446744073709551615) (k : ∀ H', Fr no H H' → K (.string (str (Lib.decDigits u))) H') : CallF Tryd.prog 79 #[.int .u64 (u : Int)] H K Z := by
  refine V79_ok ?_
  unfold V79
  intro b A hn
  refine one_ok hn (dgt_int u) ⟨_, rfl, ?_⟩
  have hlen := dec_len 19 u (by omega)
  refine ⟨fun n s B m => ∃ (v : Nat) (t : List UInt8), n = (v : Int) ∧ v ≤ u ∧ s = str t ∧ Lib.decDigits u = hdL v ++ t ∧ Fr no H B ∧ v = m, ⟨_, u, _, rfl, Nat.le_refl _, rfl, dec_eq u, hn.fr, rfl⟩, ?_⟩
  rintro n s B m ⟨v, t, rfl, hv, rfl, hd, hf, em⟩ scr
  subst em
  refine ⟨fun hge => ?_, fun hlt => ?_⟩
  · have hge' : 10 ≤ v := by have := of_decide_eq_true hge; omega
    have e : IntKind.wrap .u64 (Int.tdiv (v : Int) 10) = ((v / 10 : Nat) : Int) := by
      rw [wrap_u64, Int.tdiv_eq_ediv_of_nonneg (by omega)]
      omega
    rw [e]
    intro b1 C hn1
    have hl := congrArg List.length hd
    rw [List.length_append] at hl
    refine one_ok hn1 (dgt_int (v / 10)) ⟨_, rfl, by rw [str_size, str_size]; simp only [List.length_cons, List.length_nil]; omega, v / 10, by omega, v / 10, dgt (v / 10) :: t, rfl, by omega, str_app _ _, ?_, hf.trans hn1.fr, rfl⟩
    rw [hd]
    have : hdL v = hdL (v / 10) ++ [dgt (v / 10)] := by
      rw [← dec_eq, hdL, if_neg (by omega)]
    rw [this, List.append_assoc]
    rfl
  · have hlt' : v < 10 := by have := of_decide_eq_false hlt; omega
    have : hdL v = [] := by rw [hdL, if_pos hlt']
    rw [this, List.nil_append] at hd
    rw [← hd]
    exact k B hf
theorem rtext_ok {n : Int} (h0 : -9223372036854775808 ≤ n) (h1 : n ≤ 9223372036854775807) (k : ∀ H', Fr no H H' → K (.string (str (Lib.itoa n))) H') : CallF Tryd.prog 71 #[.int .i64 n] H K Z := by
  refine V71_ok ?_
  unfold V71
  refine ⟨fun hp => ?_, fun hp => ?_⟩
  · have hp' : 0 ≤ n := by have := of_decide_eq_true hp; omega
    have e : IntKind.wrap .u64 n = ((n.toNat : Nat) : Int) := by rw [wrap_u64]; omega
    rw [e]
    refine rplain_ok (by omega) fun H' hf => ⟨_, rfl, ?_⟩
    have hk := k H' hf
    rw [Lib.itoa, if_neg (by omega)] at hk
    exact hk
  · have hp' : n < 0 := by have := of_decide_eq_false hp; omega
    have e : IntKind.wrap .u64 (0 - IntKind.wrap .u64 n) = ((n.natAbs : Nat) : Int) := by rw [wrap_u64, wrap_u64]; omega
    rw [e]
    have hlen := dec_len 19 n.natAbs (by omega)
    refine rplain_ok (by omega) fun H' hf => ⟨_, rfl, ?_, ?_⟩
    · rw [str_size]
      show 1 + _ ≤ _
      omega
    · have hk := k H' hf
      rw [Lib.itoa, if_pos hp'] at hk
      have e2 : (⟨#[45]⟩ : ByteArray) ++ str (Lib.decDigits n.natAbs) = str (45 :: Lib.decDigits n.natAbs) := str_app [45] _
      rw [e2]
      exact hk
end
end Go.Proofs.YtigbdoicgdmliaaDoor.C10D

