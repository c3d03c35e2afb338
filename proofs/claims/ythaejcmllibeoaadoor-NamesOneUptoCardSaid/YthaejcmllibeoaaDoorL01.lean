/- weftlaw01: the laws. -/
import Derived.Test.YthaejcmllibeoaaDoorC01B
set_option linter.unusedVariables false
set_option linter.unusedSimpArgs false
-- text: 16
-- read: 27
-- name: 25
-- split: 23
-- lawWrites: 3
-- lawReads: 6
-- lawNames: 5
-- lawBack: 7
-- works: 29
namespace Go.Proofs.YthaejcmllibeoaaDoor.L01
open Go Go.V Go.Proofs Go.Proofs.YthaejcmllibeoaaDoor.N01 Go.Proofs.YthaejcmllibeoaaDoor.C01
attribute [local irreducible] Cvt ExtF CallF hrun App MkS
/-- a text that is a number in writing is its number's -/
theorem dec_of_val {l : List UInt8} (h0 : l ≠ []) (ha : l.all isD = true) (hz : ¬ (l[0]? = some 48 ∧ l.length > 1)) : Lib.decDigits (valL l) = l := by
  have key : ∀ (n : Nat) (l : List UInt8), l.length = n → l ≠ [] → l.all isD = true → ¬ (l[0]? = some 48 ∧ l.length > 1) → Lib.decDigits (valL l) = l := by
    intro n
    induction n with
    | zero => intro l hl h0; exact absurd (List.eq_nil_of_length_eq_zero hl) h0
    | succ n ih =>
      intro l hl h0 ha hz
      obtain ⟨m, b, rfl⟩ : ∃ m b, l = m ++ [b] := by
        rcases List.eq_nil_or_concat l with rfl | ⟨m, b, h⟩
        · simp at hl
        · exact ⟨m, b, by rw [h, List.concat_eq_append]⟩
      rw [List.all_append, Bool.and_eq_true] at ha
      have hb : 48 ≤ b.toNat ∧ b.toNat ≤ 57 := by simpa [isD] using ha.2
      have ed : UInt8.ofNat (48 + (b.toNat - 48)) = b := by
        rw [show 48 + (b.toNat - 48) = b.toNat by omega]
        simp
      rw [val_snoc]
      cases m with
      | nil =>
        have e : valL [] * 10 + (b.toNat - 48) = b.toNat - 48 := by show 0 * 10 + _ = _; omega
        rw [e, Lib.decDigits, dif_pos (by omega), ed]
        rfl
      | cons c m =>
        have hc : c ≠ 48 := fun e => hz ⟨by rw [e]; rfl, by simp⟩
        have hcD : isD c = true := by rw [List.all_cons, Bool.and_eq_true] at ha; exact ha.1.1
        have hv := val_ge (l := m) hcD hc
        have hp : 1 ≤ 10 ^ m.length := Nat.one_le_pow _ _ (by omega)
        rw [Lib.decDigits, dif_neg (by omega)]
        have e1 : (valL (c :: m) * 10 + (b.toNat - 48)) / 10 = valL (c :: m) := by omega
        have e2 : (valL (c :: m) * 10 + (b.toNat - 48)) % 10 = b.toNat - 48 := by omega
        rw [e1, e2, ed, ih (c :: m) (by simpa using hl) (by simp) ha.1 (by
          rintro ⟨h, _⟩
          simp only [List.getElem?_cons_zero, Option.some.injEq] at h
          exact hc h)]
  exact key l.length l rfl h0 ha hz
theorem read_dec {u : Nat} (hu : u ≤ 268435456) : readL (Lib.decDigits u) = ((u : Int), 0) := by
  unfold readL
  rw [if_neg (dec_ne u), if_neg (by rw [dec_all]; simp), if_neg (by rintro ⟨h1, h2⟩; have := dec_zero u h1; omega), dec_val, if_neg (by omega)]
theorem dec_read {l : List UInt8} (h : (readL l).2 = 0) : Lib.itoa (readL l).1 = l := by
  unfold readL at h ⊢
  by_cases h1 : l = []
  · rw [if_pos h1] at h; cases h
  rw [if_neg h1] at h ⊢
  by_cases h2 : l.all isD = false
  · rw [if_pos h2] at h; cases h
  rw [if_neg h2] at h ⊢
  by_cases h3 : l[0]? = some 48 ∧ l.length > 1
  · rw [if_pos h3] at h; cases h
  rw [if_neg h3] at h ⊢
  by_cases h4 : valL l > 268435456
  · rw [if_pos h4] at h; cases h
  rw [if_neg h4]
  show Lib.itoa (valL l : Nat) = l
  rw [Lib.itoa, if_neg (by omega), Int.toNat_natCast]
  exact dec_of_val h1 (by simpa using h2) h3
theorem read_bound (l : List UInt8) : 0 ≤ (readL l).1 ∧ (readL l).1 ≤ 268435456 := by
  unfold readL
  by_cases h1 : l = []
  · rw [if_pos h1]; decide
  rw [if_neg h1]
  by_cases h2 : l.all isD = false
  · rw [if_pos h2]; decide
  rw [if_neg h2]
  by_cases h3 : l[0]? = some 48 ∧ l.length > 1
  · rw [if_pos h3]; decide
  rw [if_neg h3]
  by_cases h4 : valL l > 268435456
  · rw [if_pos h4]; decide
  rw [if_neg h4]
  exact ⟨by show 0 ≤ ((valL l : Nat) : Int); omega, by show ((valL l : Nat) : Int) ≤ _; omega⟩
theorem name_head {l : List UInt8} (h : nameL l = true) : splA l = l := by
  rw [name_split] at h
  simp only [Bool.and_eq_true, decide_eq_true_eq] at h
  have := spl_app l
  rw [h.2.1, List.append_nil] at this
  exact this
section
variable {H : Hp} {K : Value → Hp → Prop} {Z : List PanicEntry → Hp → Prop}
theorem writes_ok {n : Int} (h0 : -9223372036854775808 ≤ n) (h1 : n ≤ 9223372036854775807) (ht : TabH Tryd.prog H "internal/strconv.uint64pow10" .u64 Lib.pow10Tab)
    (k : ∀ H', Fr no H H' → K (.bool true) H') : CallF Tryd.prog 3 #[.int .i64 n] H K Z := by
  refine V3_ok ?_
  unfold V3
  refine text_ok h0 h1 ht fun H1 f1 => ⟨_, rfl, rtext_ok h0 h1 fun H2 f2 => ⟨_, rfl, ?_⟩⟩
  rw [beqS_iff.2 rfl]
  exact k H2 (f1.trans f2)
theorem reads_ok {l : List UInt8} (hl : l.length ≤ 1000000000) (k : ∀ H', Fr no H H' → K (.bool true) H') : CallF Tryd.prog 6 #[.string (str l)] H K Z := by
  refine V6_ok ?_
  unfold V6
  refine read_ok hl fun H1 f1 => ⟨_, _, rfl, rread_ok hl ⟨_, _, rfl, fun _ => ?_, fun h => ?_⟩⟩
  · rw [beq_self_eq_true]
    exact k H1 f1
  · rw [beq_self_eq_true] at h
    cases h
theorem names_ok {l : List UInt8} (hl : l.length ≤ 1000000000) (k : ∀ H', Fr no H H' → K (.bool true) H') : CallF Tryd.prog 5 #[.string (str l)] H K Z := by
  refine V5_ok ?_
  unfold V5
  refine split_ok hl fun H1 f1 => ⟨_, _, rfl, rsplit_ok hl ⟨_, _, rfl, name_ok hl fun H2 f2 => ⟨_, rfl, rname_ok hl ⟨_, rfl, fun _ => ⟨fun _ => ?_, fun h => ?_⟩, fun h => ?_⟩⟩⟩⟩
  · rw [beqS_iff.2 rfl]
    exact k H2 (f1.trans f2)
  · rw [beqS_iff.2 rfl] at h
    cases h
  · rw [beq_self_eq_true] at h
    cases h
theorem works_ok (ht : TabH Tryd.prog H "internal/strconv.uint64pow10" .u64 Lib.pow10Tab) (k : ∀ H', Fr no H H' → K (.bool true) H') : CallF Tryd.prog 29 #[] H K Z := by
  refine V29_ok ?_
  unfold V29
  refine split_ok (l := [97, 98, 49, 43, 99]) (by decide) fun H1 f1 => ⟨_, _, rfl, ?_⟩
  refine text_ok (by omega) (by omega) (ht.more f1) fun H2 f2 => ⟨_, rfl, fun _ => ?_, fun h => ?_⟩
  · refine name_ok (l := [97, 95, 49]) (by decide) fun H3 f3 => ⟨_, rfl, fun _ => ⟨fun _ => ?_, fun h => ?_⟩, fun h => ?_⟩
    · have : beqS (str (splB [97, 98, 49, 43, 99])) ⟨#[43, 99]⟩ = true := by
        show beqS (str (splB [97, 98, 49, 43, 99])) (str [43, 99]) = true
        rw [beq_str]
        decide
      rw [this]
      exact k H3 ((f1.trans f2).trans f3)
    · have : beqS (str (splA [97, 98, 49, 43, 99])) ⟨#[97, 98, 49]⟩ = true := by
        show beqS (str (splA [97, 98, 49, 43, 99])) (str [97, 98, 49]) = true
        rw [beq_str]
        decide
      rw [this] at h
      cases h
    · have : nameL [97, 95, 49] = true := by decide
      rw [this] at h
      cases h
  · have : beqS (str (Lib.itoa (-5))) ⟨#[45, 53]⟩ = true := by
      show beqS (str (Lib.itoa (-5))) (str [45, 53]) = true
      rw [beq_str, Lib.itoa, if_pos (by omega), Lib.decDigits, dif_pos (by decide)]
      decide
    rw [this] at h
    cases h
theorem back_ok {n : Int} {l : List UInt8} (hl : l.length ≤ 1000000000) (ht : TabH Tryd.prog H "internal/strconv.uint64pow10" .u64 Lib.pow10Tab)
    (k : ∀ H', Fr no H H' → K (.bool true) H') : CallF Tryd.prog 7 #[.int .i64 n, .string (str l)] H K Z := by
  refine V7_ok ?_
  unfold V7
  refine works_ok ht fun H1 f1 => ⟨_, rfl, (fun h => by cases h), fun _ => ?_⟩
  obtain ⟨u, hu, e⟩ : ∃ u : Nat, u ≤ 268435456 ∧ w64 (Int.tmod (IntKind.wrap .u64 n) 268435457) = (u : Int) := by
    refine ⟨((n % 18446744073709551616) % 268435457).toNat, by omega, ?_⟩
    rw [wrap_u64, Int.tmod_eq_emod_of_nonneg (by omega), wid (by omega) (by omega)]
    omega
  rw [e]
  have eu : Lib.itoa (u : Int) = Lib.decDigits u := by rw [Lib.itoa, if_neg (by omega), Int.toNat_natCast]
  have hlen := dec_len 8 u (by omega)
  have hA := splA_le l
  have hB : (splB l).length ≤ l.length := by
    have := congrArg List.length (spl_app l)
    rw [List.length_append] at this
    omega
  refine text_ok (by omega) (by omega) (ht.more f1) fun H2 f2 => ⟨_, rfl, ?_⟩
  rw [eu]
  refine read_ok (by omega) fun H3 f3 => ⟨_, _, rfl, ?_⟩
  rw [read_dec hu]
  refine read_ok hl fun H4 f4 => ⟨_, _, rfl, ?_⟩
  refine split_ok hl fun H5 f5 => ⟨_, _, rfl, ?_⟩
  have f15 := (((f1.trans f2).trans f3).trans f4).trans f5
  have fin : ∀ {H6 : Hp}, Fr no H H6 → ((str (splA l)).size + (str (splB l)).size ≤ 4611686018427387904 ∧ (((beqS (str (splA l) ++ str (splB l)) (str l)) = true → CallF Tryd.prog 25 #[.string (str l)] H6 (fun r5 H6 => 
    ∃ y2 : Bool, r5 = .bool y2 ∧ (((!y2) = true → K (.bool true) H6) ∧ ((!y2) = false → K (.bool (beqS (str (splA l)) (str l))) H6))) Z) ∧ 
    ((beqS (str (splA l) ++ str (splB l)) (str l)) = false → K (.bool false) H6))) := by
    intro H6 f6
    rw [str_size, str_size, str_app, spl_app]
    refine ⟨by omega, fun _ => ?_, fun h => ?_⟩
    · refine name_ok hl fun H7 f7 => ⟨_, rfl, fun _ => k _ (f6.trans f7), fun h => ?_⟩
      have hn : nameL l = true := by simpa using h
      rw [name_head hn, beqS_iff.2 rfl]
      exact k _ (f6.trans f7)
    · rw [beqS_iff.2 rfl] at h
      cases h
  refine ⟨fun _ => ⟨fun _ => ⟨fun _ => fin f15, fun h => ?_⟩, (fun h => by cases h)⟩, fun h => ?_⟩
  · have hok : (readL l).2 = 0 := by simpa using h
    have hb := read_bound l
    refine text_ok (by omega) (by omega) (ht.more f15) fun H6 f6 => ⟨_, rfl, fun _ => fin (f15.trans f6), fun h => ?_⟩
    rw [dec_read hok, beqS_iff.2 rfl] at h
    cases h
  · rw [beq_self_eq_true] at h
    cases h
theorem size_str {s : ByteArray} (h : s.size ≤ 1048576) : s.data.toList.length ≤ 1000000000 := by
  have : s.data.toList.length = s.size := by simp
  omega
theorem reads_okS {s : ByteArray} (h : s.size ≤ 1048576) (k : ∀ H', Fr no H H' → K (.bool true) H') : CallF Tryd.prog 6 #[.string s] H K Z := by
  rw [str_of s]
  exact reads_ok (size_str h) k
theorem names_okS {s : ByteArray} (h : s.size ≤ 1048576) (k : ∀ H', Fr no H H' → K (.bool true) H') : CallF Tryd.prog 5 #[.string s] H K Z := by
  rw [str_of s]
  exact names_ok (size_str h) k
theorem back_okS {n : Int} {s : ByteArray} (h : s.size ≤ 1048576) (ht : TabH Tryd.prog H "internal/strconv.uint64pow10" .u64 Lib.pow10Tab) (k : ∀ H', Fr no H H' → K (.bool true) H') : CallF Tryd.prog 7 #[.int .i64 n, .string s] H K Z := by
  rw [str_of s]
  exact back_ok (size_str h) ht k
end
end Go.Proofs.YthaejcmllibeoaaDoor.L01

