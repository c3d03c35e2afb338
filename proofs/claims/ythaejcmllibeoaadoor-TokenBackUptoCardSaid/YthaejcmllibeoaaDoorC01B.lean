/- digits, and weftref01: numbers in writing, and read. -/
import Derived.Test.YthaejcmllibeoaaDoorC01
set_option linter.unusedVariables false
set_option linter.unusedSimpArgs false
-- tU8: 5
-- tBytes: 90
-- tStr: 9
-- text: 16
-- read: 27
-- rText: 17
-- rPlain: 52
-- rRead: 28
namespace Go.Proofs.YthaejcmllibeoaaDoor.C01
open Go Go.V Go.Proofs Go.Proofs.YthaejcmllibeoaaDoor.N01
attribute [local irreducible] Cvt ExtF CallF hrun App MkS
theorem wrap_u8 (x : Int) : IntKind.wrap .u8 x = x % 256 := by
  simp only [IntKind.wrap, IntKind.bits, IntKind.signed, Int.reducePow, Nat.reduceSub, Bool.false_and, Bool.false_eq_true, if_false]
theorem wrap_u64 (x : Int) : IntKind.wrap .u64 x = x % 18446744073709551616 := by
  simp only [IntKind.wrap, IntKind.bits, IntKind.signed, Int.reducePow, Nat.reduceSub, Bool.false_and, Bool.false_eq_true, if_false]
/-- the last digit, and what stands ahead of it -/
def dgt (u : Nat) : UInt8 := UInt8.ofNat (48 + u % 10)
def hdL (u : Nat) : List UInt8 := if u < 10 then [] else Lib.decDigits (u / 10)
theorem dec_eq (u : Nat) : Lib.decDigits u = hdL u ++ [dgt u] := by
  unfold hdL dgt
  by_cases h : u < 10
  · rw [if_pos h, Lib.decDigits, dif_pos h]
    have : u % 10 = u := by omega
    rw [this]
    rfl
  · rw [if_neg h, Lib.decDigits, dif_neg h]
theorem dgt_nat (u : Nat) : (dgt u).toNat = 48 + u % 10 := by
  unfold dgt
  rw [UInt8.toNat_ofNat']
  omega
theorem dec_len : ∀ (k u : Nat), u < 10 ^ (k + 1) → (Lib.decDigits u).length ≤ k + 1
  | 0, u, h => by
    rw [Lib.decDigits, dif_pos (by simpa using h)]
    simp
  | k + 1, u, h => by
    rw [Lib.decDigits]
    by_cases h1 : u < 10
    · rw [dif_pos h1]; simp
    · rw [dif_neg h1, List.length_append]
      have := dec_len k (u / 10) (by rw [Nat.pow_succ] at h; omega)
      simp only [List.length_cons, List.length_nil]
      omega
theorem dec_all (u : Nat) : (Lib.decDigits u).all isD = true := by
  induction u using Nat.strongRecOn with
  | ind u ih =>
    rw [dec_eq, List.all_append]
    have h1 : isD (dgt u) = true := by
      unfold isD
      rw [dgt_nat]
      simp only [Bool.and_eq_true, decide_eq_true_eq]
      omega
    unfold hdL
    by_cases h : u < 10
    · rw [if_pos h]; simp [h1]
    · rw [if_neg h, ih (u / 10) (by omega)]
      simp [h1]
theorem dec_val (u : Nat) : valL (Lib.decDigits u) = u := by
  induction u using Nat.strongRecOn with
  | ind u ih =>
    rw [dec_eq, val_snoc, dgt_nat]
    unfold hdL
    by_cases h : u < 10
    · rw [if_pos h]
      show 0 * 10 + _ = u
      omega
    · rw [if_neg h, ih (u / 10) (by omega)]
      omega
theorem dec_ne (u : Nat) : Lib.decDigits u ≠ [] := by rw [dec_eq]; simp
/-- a number's writing does not begin with 0 but as 0 -/
theorem dec_zero (u : Nat) : (Lib.decDigits u)[0]? = some 48 → (Lib.decDigits u).length ≤ 1 := by
  induction u using Nat.strongRecOn with
  | ind u ih =>
    intro h0
    by_cases h : u < 10
    · rw [Lib.decDigits, dif_pos h]; simp
    · rw [Lib.decDigits, dif_neg h] at h0
      exfalso
      rw [List.getElem?_append_left (List.length_pos_iff.2 (dec_ne _))] at h0
      have hl := ih (u / 10) (by omega) h0
      have hv := dec_val (u / 10)
      match hd : Lib.decDigits (u / 10), h0, hl with
      | [b], h0, _ =>
        rw [hd] at hv
        simp only [List.getElem?_cons_zero, Option.some.injEq] at h0
        subst h0
        have : (0 : Nat) = u / 10 := hv
        omega
theorem val_app_le (a b : List UInt8) : valL a ≤ valL (a ++ b) := by
  unfold valL
  rw [List.foldl_append]
  generalize List.foldl (fun n b => n * 10 + (UInt8.toNat b - 48)) 0 a = n
  induction b generalizing n with
  | nil => exact Nat.le_refl _
  | cons c b ih => exact Nat.le_trans (by omega) (ih (n * 10 + (c.toNat - 48)))
theorem val_take_le {l : List UInt8} (j : Nat) : valL (l.take j) ≤ valL l := by
  have := val_app_le (l.take j) (l.drop j)
  rwa [List.take_append_drop] at this
theorem parse_digits : ∀ (l : List UInt8) (acc : Nat), l.all isD = true → (acc + 1) * 10 ^ l.length ≤ 10 ^ 18 → Lib.parseUint10 acc l = .ok (l.foldl (fun n b => n * 10 + (b.toNat - 48)) acc)
  | [], acc, _, _ => rfl
  | c :: r, acc, ha, hb => by
    rw [List.all_cons, Bool.and_eq_true] at ha
    have hc : 48 ≤ c.toNat ∧ c.toNat ≤ 57 := by simpa [isD] using ha.1
    have hp : 1 ≤ 10 ^ r.length := Nat.one_le_pow _ _ (by omega)
    rw [List.length_cons, Nat.pow_succ] at hb
    have hb1 : (acc * 10 + 10) * 10 ^ r.length ≤ 10 ^ 18 := by
      have e : (acc * 10 + 10) * 10 ^ r.length = (acc + 1) * (10 ^ r.length * 10) := by
        rw [show acc * 10 + 10 = (acc + 1) * 10 by omega, Nat.mul_assoc, Nat.mul_comm 10]
      omega
    have hacc : acc * 10 + 10 ≤ 10 ^ 18 := Nat.le_trans (Nat.le_mul_of_pos_right _ hp) hb1
    rw [Lib.parseUint10, if_pos hc, if_neg (by omega), if_neg (by omega), parse_digits r _ ha.2]
    · rfl
    · exact Nat.le_trans (Nat.mul_le_mul_right _ (by omega)) hb1
theorem atoi_digits {l : List UInt8} (h0 : l ≠ []) (ha : l.all isD = true) (hl : l.length ≤ 9) : Lib.atoiAll l = .ok (valL l : Nat) := by
  obtain ⟨c, r, rfl⟩ : ∃ c r, l = c :: r := by
    cases l with
    | nil => exact absurd rfl h0
    | cons c r => exact ⟨c, r, rfl⟩
  have hc : 48 ≤ c.toNat ∧ c.toNat ≤ 57 := by
    rw [List.all_cons, Bool.and_eq_true] at ha
    simpa [isD] using ha.1
  have hv := val_lt _ ha
  have hv' : valL (c :: r) < 10 ^ 9 := Nat.lt_of_lt_of_le hv (Nat.pow_le_pow_right (by omega) hl)
  have hp : Lib.parseUint10 0 (c :: r) = .ok (valL (c :: r)) := parse_digits _ _ ha (by
    rw [Nat.zero_add, Nat.one_mul]
    exact Nat.pow_le_pow_right (by omega) (by omega))
  unfold Lib.atoiAll
  simp only
  rw [if_neg (by omega)]
  unfold Lib.parseMag
  rw [if_neg h0, hp]
  simp only
  rw [if_neg (by omega), if_neg (by omega), if_neg (by omega)]
section
variable {H : Hp} {K : Value → Hp → Prop} {Z : List PanicEntry → Hp → Prop}
theorem text_ok {n : Int} (h0 : -9223372036854775808 ≤ n) (h1 : n ≤ 9223372036854775807) (ht : TabH Tryd.prog H "internal/strconv.uint64pow10" .u64 Lib.pow10Tab)
    (k : ∀ H', Fr no H H' → K (.string (str (Lib.itoa n))) H') : CallF Tryd.prog 16 #[.int .i64 n] H K Z := by
  refine V16_ok ?_
  unfold V16
  refine callF_below (v := .string (str (Lib.itoa n))) ?_ fun H' hf => ⟨_, rfl, k H' hf⟩
  intro w hw
  refine (Any.strconv_Itoa S01.lays_itoa n h0 h1 w (ht w hw)).mono ?_
  rintro e w' ⟨rfl, kk, os, rfl⟩
  refine ⟨rfl, rfl, rfl, rfl, ?_, fun j hj => ?_⟩
  · show w.heap.size ≤ (w.heap ++ os).size
    rw [Array.size_append]
    omega
  · show (w.heap ++ os)[j]? = w.heap[j]?
    exact Array.getElem?_append_left hj
/-- all of them digits, so far -/
theorem take_all {l : List UInt8} {j : Nat} {b : UInt8} (hj : j < l.length) (hx : l[j]? = some b) (hall : (l.take j).all isD = true) (hb : isD b = true) : (l.take (j + 1)).all isD = true := by
  rw [List.take_succ_eq_append_getElem hj, List.all_append, hall]
  rw [List.getElem?_eq_getElem hj] at hx
  cases hx
  simp [hb]
theorem not_all {l : List UInt8} {j : Nat} {b : UInt8} (hx : l[j]? = some b) (hb : isD b = false) : l.all isD = false := List.all_eq_false.2 ⟨b, List.mem_of_getElem? hx, by rw [hb]; simp⟩
theorem read_ok {l : List UInt8} (hl : l.length ≤ 1000000000) (k : ∀ H', Fr no H H' → K (.tuple #[.int .i64 (readL l).1, .int .i64 (readL l).2]) H') : CallF Tryd.prog 27 #[.string (str l)] H K Z := by
  refine V27_ok ?_
  unfold V27
  simp only [str_nil, beq_str, str_size]
  have k0 := fun {a b : Int} (h : readL l = (a, b)) => (by have := k H (Fr.refl _ _); rw [h] at this; exact this : K (.tuple #[.int .i64 a, .int .i64 b]) H)
  refine ⟨fun he => k0 ?_, fun hne => ?_⟩
  · have : l = [] := of_decide_eq_true he
    subst this
    rfl
  have hne' : l ≠ [] := of_decide_eq_false hne
  refine ⟨fun t A m => ∃ j : Nat, A = H ∧ t = (j : Int) ∧ j ≤ l.length ∧ m = l.length - j ∧ (l.take j).all isD = true, ⟨_, 0, rfl, rfl, Nat.zero_le _, rfl, by simp⟩, ?_⟩
  rintro t A m ⟨j, rfl, rfl, hj, rfl, hall⟩ scr
  refine ⟨fun hlt => ?_, fun hge => ?_⟩
  · have hjl := dlt hlt
    have hx : l[j]? = some l[j] := List.getElem?_eq_getElem hjl
    generalize l[j] = b at hx
    refine IxS.mk hx (class_ok ⟨_, rfl, fun h1 => k0 ?_, fun h1 => ?_⟩)
    · have hb : isD b = false := by
        cases hD : isD b with
        | false => rfl
        | true => rw [not_both hD, hD] at h1; simp at h1
      unfold readL
      rw [if_neg hne', if_pos (not_all hx hb)]
    · have hb : isD b = true := by
        cases hL : isL b with
        | true => rw [hL] at h1; simp at h1
        | false =>
          cases hD : isD b with
          | true => rfl
          | false => rw [hL, hD] at h1; simp at h1
      exact ⟨l.length - (j + 1), by omega, j + 1, rfl, wi (by omega), hjl, rfl, take_all hjl hx hall hb⟩
  · have hjl : j = l.length := by have := dge hge; omega
    subst hjl
    rw [List.take_length] at hall
    have hall' : ¬ l.all isD = false := by rw [hall]; simp
    obtain ⟨c, r, hcr⟩ : ∃ c r, l = c :: r := by
      cases l with
      | nil => exact absurd rfl hne'
      | cons c r => exact ⟨c, r, rfl⟩
    have hx : l[0]? = some c := by rw [hcr]; rfl
    have big : decide ((l.length : Int) > 9) = true → ¬ (l[0]? = some 48 ∧ l.length > 1) → readL l = (0, 2) := by
      intro h9 h48
      have h9' := of_decide_eq_true h9
      unfold readL
      rw [if_neg hne', if_neg hall', if_neg h48, if_pos]
      have hc : c ≠ 48 := fun e => h48 ⟨by rw [hx, e], by omega⟩
      have hcD : isD c = true := by rw [hcr, List.all_cons, Bool.and_eq_true] at hall; exact hall.1
      have := val_ge (l := r) hcD hc
      rw [hcr] at h9' ⊢
      have h8 : 9 ≤ r.length := by simp only [List.length_cons] at h9'; omega
      have := Nat.pow_le_pow_right (show 0 < 10 by omega) h8
      omega
    have fin : decide ((l.length : Int) > 9) = false → ¬ (l[0]? = some 48 ∧ l.length > 1) → CallF Tryd.prog 59 #[.string (str l)] A (fun r1 H3 => ∃ y_0 : Int, ∃ y_1 : Value, r1 = .tuple #[.int .i64 y_0, y_1] ∧ 
    NilI y_1 fun isNil => (((!isNil) = true → K (.tuple #[.int .i64 0, .int .i64 2]) H3) ∧ ((!isNil) = false → 
    (((decide (y_0 > 268435456)) = true → K (.tuple #[.int .i64 0, .int .i64 2]) H3) ∧ ((decide (y_0 > 268435456)) = false → 
    K (.tuple #[.int .i64 y_0, .int .i64 0]) H3))))) Z := by
      intro h9 h48
      have h9' : l.length ≤ 9 := by have := of_decide_eq_false h9; omega
      refine callF_below (v := .tuple #[.int .i64 (valL l : Nat), .nilIface]) ?_ fun H' hf => ⟨_, _, rfl, ?_⟩
      · intro w hw
        refine (Any.strconv_Atoi_ok S01.lays_atoi (str l) (by rw [str_size]; omega) (valL l : Nat) (by rw [str_data]; exact atoi_digits hne' hall h9') w).mono ?_
        rintro e w' ⟨rfl, h⟩
        refine ⟨rfl, ?_⟩
        rcases h with rfl | ⟨t, rfl⟩
        · exact Go.RowKit.Below.refl _ _
        · exact Lib.bytesWorld_below _ _ _
      · have hk := k H' hf
        unfold readL at hk
        rw [if_neg hne', if_neg hall', if_neg h48] at hk
        refine ⟨(fun h => by cases h), fun _ => ⟨fun h => ?_, fun h => ?_⟩⟩
        · rw [if_pos (by have := of_decide_eq_true h; omega)] at hk
          exact hk
        · rw [if_neg (by have := of_decide_eq_false h; omega)] at hk
          exact hk
    refine IxS.mk (i := 0) hx ⟨fun h48 => ?_, fun h48 => ?_⟩
    · have e48 : c = 48 := by
        have h48' : (c.toNat : Int) = 48 := by simpa using h48
        apply UInt8.toNat_inj.1
        have : (48 : UInt8).toNat = 48 := rfl
        omega
      refine ⟨fun h1 => k0 ?_, fun h1 => ⟨fun h9 => k0 (big h9 ?_), fun h9 => fin h9 ?_⟩⟩
      · have h1' := of_decide_eq_true h1
        unfold readL
        rw [if_neg hne', if_neg hall', if_pos ⟨by rw [hx, e48], by omega⟩]
      · have h1' := of_decide_eq_false h1
        rintro ⟨_, h⟩
        omega
      · have h1' := of_decide_eq_false h1
        rintro ⟨_, h⟩
        omega
    · have e48 : ¬ (l[0]? = some 48 ∧ l.length > 1) := by
        rintro ⟨h, _⟩
        rw [hx] at h
        cases h
        simp at h48
      exact ⟨fun h9 => k0 (big h9 e48), fun h9 => fin h9 e48⟩
theorem rread_ok {l : List UInt8} (hl : l.length ≤ 1000000000) (k : K (.tuple #[.int .i64 (readL l).1, .int .i64 (readL l).2]) H) : CallF Tryd.prog 28 #[.string (str l)] H K Z := by
  refine V28_ok ?_
  unfold V28
  simp only [str_nil, beq_str, str_size]
  have k0 := fun {a b : Int} (h : readL l = (a, b)) => (by have := k; rw [h] at this; exact this : K (.tuple #[.int .i64 a, .int .i64 b]) H)
  refine ⟨fun he => k0 ?_, fun hne => ?_⟩
  · have : l = [] := of_decide_eq_true he
    subst this
    rfl
  have hne' : l ≠ [] := of_decide_eq_false hne
  refine ⟨fun t A m => ∃ j : Nat, A = H ∧ t = (j : Int) ∧ j ≤ l.length ∧ m = l.length - j ∧ (l.take j).all isD = true, ⟨_, 0, rfl, rfl, Nat.zero_le _, rfl, by simp⟩, ?_⟩
  rintro t A m ⟨j, rfl, rfl, hj, rfl, hall⟩ scr
  refine ⟨fun hlt => ?_, fun hge => ?_⟩
  · have hjl := dlt hlt
    have hx : l[j]? = some l[j] := List.getElem?_eq_getElem hjl
    generalize l[j] = b at hx
    refine IxS.mk hx (rdigit_ok ⟨_, rfl, fun h1 => k0 ?_, fun h1 => ?_⟩)
    · have hb : isD b = false := by simpa using h1
      unfold readL
      rw [if_neg hne', if_pos (not_all hx hb)]
    · have hb : isD b = true := by simpa using h1
      exact ⟨l.length - (j + 1), by omega, j + 1, rfl, wi (by omega), hjl, rfl, take_all hjl hx hall hb⟩
  have hjl : j = l.length := by have := dge hge; omega
  subst hjl
  rw [List.take_length] at hall
  have hall' : ¬ l.all isD = false := by rw [hall]; simp
  obtain ⟨c, r, hcr⟩ : ∃ c r, l = c :: r := by
    cases l with
    | nil => exact absurd rfl hne'
    | cons c r => exact ⟨c, r, rfl⟩
  have hx : l[0]? = some c := by rw [hcr]; rfl
  refine ⟨fun B => B = A ∧ ¬ (l[0]? = some 48 ∧ l.length > 1), ?_, IxS.mk (i := 0) hx ⟨fun h48 => ⟨fun h1 => k0 ?_, fun h1 => ⟨rfl, ?_⟩⟩, fun h48 => ⟨rfl, ?_⟩⟩⟩
  rotate_left
  · have e48 : c = 48 := by
      have h48' : (c.toNat : Int) = 48 := by simpa using h48
      apply UInt8.toNat_inj.1
      have : (48 : UInt8).toNat = 48 := rfl
      omega
    have h1' := of_decide_eq_true h1
    unfold readL
    rw [if_neg hne', if_neg hall', if_pos ⟨by rw [hx, e48], by omega⟩]
  · have h1' := of_decide_eq_false h1
    rintro ⟨_, h⟩
    omega
  · rintro ⟨h, _⟩
    rw [hx] at h
    cases h
    simp at h48
  rintro B ⟨rfl, h48⟩ scr1
  refine ⟨fun n t B' m => ∃ j : Nat, B' = B ∧ t = (j : Int) ∧ n = ((valL (l.take j) : Nat) : Int) ∧ valL (l.take j) ≤ 268435456 ∧ j ≤ l.length ∧ m = l.length - j, ⟨_, 0, rfl, rfl, rfl, Nat.zero_le _, Nat.zero_le _, rfl⟩, ?_⟩
  rintro n t B' m ⟨j, rfl, rfl, rfl, hv, hj, rfl⟩ scr2
  refine ⟨fun hlt => ?_, fun hge => ?_⟩
  · have hjl := dlt hlt
    have hx : l[j]? = some l[j] := List.getElem?_eq_getElem hjl
    have htk : l.take (j + 1) = l.take j ++ [l[j]] := List.take_succ_eq_append_getElem hjl
    have hb : isD l[j] = true := List.all_eq_true.1 hall _ (List.getElem_mem _)
    generalize l[j] = b at hx htk hb
    have hb' : 48 ≤ b.toNat ∧ b.toNat ≤ 57 := by simpa [isD] using hb
    have e : w64 (w64 (10 * ((valL (l.take j) : Nat) : Int)) + w64 (IntKind.wrap .u8 ((b.toNat : Int) - 48))) = ((valL (l.take (j + 1)) : Nat) : Int) := by
      rw [htk, val_snoc, wrap_u8, wid (x := 10 * _) (by omega) (by omega), wid (x := _ % 256) (by omega) (by omega), wid (by omega) (by omega)]
      omega
    refine IxS.mk hx ?_
    rw [e]
    refine ⟨fun h => k0 ?_, fun h => ⟨l.length - (j + 1), by omega, j + 1, rfl, wi (by omega), rfl, by have := of_decide_eq_false h; omega, hjl, rfl⟩⟩
    have h' := of_decide_eq_true h
    have := val_take_le (l := l) (j + 1)
    unfold readL
    rw [if_neg hne', if_neg hall', if_neg h48, if_pos (by omega)]
  · have hjl : j = l.length := by have := dge hge; omega
    subst hjl
    rw [List.take_length] at hv ⊢
    refine k0 ?_
    unfold readL
    rw [if_neg hne', if_neg hall', if_neg h48, if_neg (by omega)]
theorem pvu1 : Tryd.prog.underlying 90 = some (.slice 5) := by kernel_rfl
theorem pvu2 : Tryd.prog.underlying 9 = some .string := by kernel_rfl
theorem pvu3 : Tryd.prog.underlying 5 = some (.int .u8) := by kernel_rfl
theorem one_ok {H A : Hp} {b : Nat} {c : UInt8} {x : Int} {K : Value → Hp → Prop} (hn : Newb H (.cells #[.int .u8 x] 5) b A) (hx : x = (c.toNat : Int)) (k : K (.string (str [c])) A) : Cvt Tryd.prog 90 9 A (.slice (some ⟨b, 0, none⟩) 1 1) K := by
  subst hx
  have hb : Blk A b (bv [c]) 5 := hn.blk
  exact bytesStr_ok pvu1 pvu3 pvu2 (Src.blk hb rfl) k
theorem dgt_int (u : Nat) : IntKind.wrap .u8 (48 + IntKind.wrap .u8 (Int.tmod (u : Int) 10)) = ((dgt u).toNat : Int) := by
  rw [dgt_nat, wrap_u8, wrap_u8, Int.tmod_eq_emod_of_nonneg (by omega)]
  omega
theorem rplain_ok {u : Nat} (hu : u ≤ 18446744073709551615) (k : ∀ H', Fr no H H' → K (.string (str (Lib.decDigits u))) H') : CallF Tryd.prog 52 #[.int .u64 (u : Int)] H K Z := by
  refine V52_ok ?_
  unfold V52
  intro b A hn
  refine one_ok hn (dgt_int u) ⟨_, rfl, ?_⟩
  have hlen := dec_len 19 u (by omega)
  refine ⟨fun n s B m => ∃ (v : Nat) (t : List UInt8), n = (v : Int) ∧ v ≤ u ∧ s = str t ∧ Lib.decDigits u = hdL v ++ t ∧ Fr no H B ∧ v = m, ⟨_, u, _, rfl, Nat.le_refl _, rfl, dec_eq u, hn.fr, rfl⟩, ?_⟩
  rintro n s B m ⟨v, t, rfl, hv, rfl, hd, hf, em⟩ scr
  subst em
  refine ⟨fun hge => ?_, fun hlt => ?_⟩
  · have hge' : 10 ≤ v := by have := of_decide_eq_true hge; omega
    have e : IntKind.wrap .u64 (Int.tdiv (v : Int) 10) = ((v / 10 : Nat) : Int) := by
      rw [wrap_u64, Int.tdiv_eq_ediv_of_nonneg (by omega)]
      omega
    rw [e]
    intro b1 C hn1
    have hl := congrArg List.length hd
    rw [List.length_append] at hl
    refine one_ok hn1 (dgt_int (v / 10)) ⟨_, rfl, by rw [str_size, str_size]; simp only [List.length_cons, List.length_nil]; omega, v / 10, by omega, v / 10, dgt (v / 10) :: t, rfl, by omega, str_app _ _, ?_, hf.trans hn1.fr, rfl⟩
    rw [hd]
    have : hdL v = hdL (v / 10) ++ [dgt (v / 10)] := by
      rw [← dec_eq, hdL, if_neg (by omega)]
    rw [this, List.append_assoc]
    rfl
  · have hlt' : v < 10 := by have := of_decide_eq_false hlt; omega
    have : hdL v = [] := by rw [hdL, if_pos hlt']
    rw [this, List.nil_append] at hd
    rw [← hd]
    exact k B hf
theorem rtext_ok {n : Int} (h0 : -9223372036854775808 ≤ n) (h1 : n ≤ 9223372036854775807) (k : ∀ H', Fr no H H' → K (.string (str (Lib.itoa n))) H') : CallF Tryd.prog 17 #[.int .i64 n] H K Z := by
  refine V17_ok ?_
  unfold V17
  refine ⟨fun hp => ?_, fun hp => ?_⟩
  · have hp' : 0 ≤ n := by have := of_decide_eq_true hp; omega
    have e : IntKind.wrap .u64 n = ((n.toNat : Nat) : Int) := by rw [wrap_u64]; omega
    rw [e]
    refine rplain_ok (by omega) fun H' hf => ⟨_, rfl, ?_⟩
    have hk := k H' hf
    rw [Lib.itoa, if_neg (by omega)] at hk
    exact hk
  · have hp' : n < 0 := by have := of_decide_eq_false hp; omega
    have e : IntKind.wrap .u64 (0 - IntKind.wrap .u64 n) = ((n.natAbs : Nat) : Int) := by rw [wrap_u64, wrap_u64]; omega
    rw [e]
    have hlen := dec_len 19 n.natAbs (by omega)
    refine rplain_ok (by omega) fun H' hf => ⟨_, rfl, ?_, ?_⟩
    · rw [str_size]
      show 1 + _ ≤ _
      omega
    · have hk := k H' hf
      rw [Lib.itoa, if_pos hp'] at hk
      have e2 : (⟨#[45]⟩ : ByteArray) ++ str (Lib.decDigits n.natAbs) = str (45 :: Lib.decDigits n.natAbs) := str_app [45] _
      rw [e2]
      exact hk
end
end Go.Proofs.YthaejcmllibeoaaDoor.C01

