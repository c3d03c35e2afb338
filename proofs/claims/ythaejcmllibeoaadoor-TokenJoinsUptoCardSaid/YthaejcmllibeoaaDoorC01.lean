/- digits, and weftref01: what their functions do, on lists of bytes. -/
import Derived.Test.YthaejcmllibeoaaDoorN01
import Derived.Test.YthaejcmllibeoaaDoorV20
import Derived.Test.YthaejcmllibeoaaDoorS01
set_option linter.unusedVariables false
set_option linter.unusedSimpArgs false
-- tU8: 5
-- tBytes: 90
-- tStr: 9
-- itoa: 51
-- atoi: 59
-- trimLeft: 56
-- class: 55
-- text: 16
-- read: 27
-- name: 25
-- split: 23
-- rText: 17
-- rPlain: 52
-- rDigit: 58
-- rLetter: 57
-- rRead: 28
-- rName: 26
-- rSplit: 24
namespace Go.Proofs.YthaejcmllibeoaaDoor.C01
open Go Go.V Go.Proofs Go.Proofs.YthaejcmllibeoaaDoor.N01
attribute [local irreducible] Cvt ExtF CallF hrun App MkS
/-- a digit, a letter -/
def isD (b : UInt8) : Bool := decide (48 ≤ b.toNat) && decide (b.toNat ≤ 57)
def isL (b : UInt8) : Bool := (decide (65 ≤ b.toNat) && decide (b.toNat ≤ 90)) || ((decide (97 ≤ b.toNat) && decide (b.toNat ≤ 122)) || b.toNat == 95)
theorem not_both {b : UInt8} : isD b = true → isL b = false := by
  unfold isD isL
  simp only [Bool.and_eq_true, Bool.or_eq_false_iff, Bool.and_eq_false_iff, decide_eq_true_eq, decide_eq_false_iff_not, beq_eq_false_iff_ne]
  omega
def wordy (l : List UInt8) : Bool := match l with | [] => false | b :: _ => isL b
/-- what may stand in the first part -/
def inW (w : Bool) (b : UInt8) : Bool := isD b || (w && isL b)
def splA (l : List UInt8) : List UInt8 := l.takeWhile (inW (wordy l))
def splB (l : List UInt8) : List UInt8 := l.dropWhile (inW (wordy l))
theorem spl_app (l : List UInt8) : splA l ++ splB l = l := List.takeWhile_append_dropWhile
theorem splA_le (l : List UInt8) : (splA l).length ≤ l.length := by
  have := congrArg List.length (spl_app l)
  rw [List.length_append] at this
  omega
def nameL (l : List UInt8) : Bool := wordy l && (decide (l.length ≤ 16) && l.all fun b => isL b || isD b)
/-- a text's number, its bytes taken as digits -/
def valL (l : List UInt8) : Nat := l.foldl (fun n b => n * 10 + (b.toNat - 48)) 0
def readL (l : List UInt8) : Int × Int :=
  if l = [] then (0, 1) else if l.all isD = false then (0, 3) else if l[0]? = some 48 ∧ l.length > 1 then (0, 3) else if valL l > 268435456 then (0, 2) else ((valL l : Nat), 0)
theorem dropWhile_nil {p : UInt8 → Bool} : ∀ {l : List UInt8}, l.dropWhile p = [] ↔ ∀ x ∈ l, p x = true
  | [] => by simp
  | a :: l => by
    rw [List.dropWhile_cons]
    cases h : p a with
    | true => simp [h, dropWhile_nil (l := l)]
    | false => simp [h]
theorem takeWhile_at {p : UInt8 → Bool} : ∀ {l : List UInt8} {j : Nat}, (∀ i b, i < j → l[i]? = some b → p b = true) → (j = l.length ∨ ∃ b, l[j]? = some b ∧ p b = false) → l.takeWhile p = l.take j ∧ l.dropWhile p = l.drop j
  | [], j, _, h => by
    rcases h with h | ⟨b, h, _⟩
    · simp
    · simp at h
  | a :: l, 0, _, h => by
    rcases h with h | ⟨b, h, hb⟩
    · simp at h
    · simp only [List.getElem?_cons_zero, Option.some.injEq] at h
      subst h
      simp [List.takeWhile_cons, List.dropWhile_cons, hb]
  | a :: l, j + 1, hp, h => by
    have ha := hp 0 a (by omega) rfl
    have ih := takeWhile_at (p := p) (l := l) (j := j) (fun i b hi hb => hp (i + 1) b (by omega) (by rw [List.getElem?_cons_succ]; exact hb)) (by
      rcases h with h | ⟨b, h, hb⟩
      · left; simpa using h
      · right; rw [List.getElem?_cons_succ] at h; exact ⟨b, h, hb⟩)
    rw [List.takeWhile_cons, List.dropWhile_cons, ha]
    simp only [if_true]
    exact ⟨by rw [ih.1, List.take_succ_cons], by rw [ih.2, List.drop_succ_cons]⟩
theorem val_snoc (l : List UInt8) (b : UInt8) : valL (l ++ [b]) = valL l * 10 + (b.toNat - 48) := by
  unfold valL
  rw [List.foldl_append]
  rfl
theorem val_lt : ∀ l : List UInt8, l.all isD = true → valL l < 10 ^ l.length := by
  have key : ∀ (n : Nat) (l : List UInt8), l.length = n → l.all isD = true → valL l < 10 ^ n := by
    intro n
    induction n with
    | zero =>
      intro l hl _
      have : l = [] := List.eq_nil_of_length_eq_zero hl
      subst this
      decide
    | succ n ih =>
      intro l hl ha
      obtain ⟨m, b, rfl⟩ : ∃ m b, l = m ++ [b] := by
        rcases List.eq_nil_or_concat l with rfl | ⟨m, b, h⟩
        · simp at hl
        · exact ⟨m, b, by rw [h, List.concat_eq_append]⟩
      rw [List.length_append] at hl
      rw [List.all_append, Bool.and_eq_true] at ha
      have h1 := ih m (by simpa using hl) ha.1
      rw [val_snoc]
      have hb : isD b = true := by simpa using ha.2
      unfold isD at hb
      simp only [Bool.and_eq_true, decide_eq_true_eq] at hb
      rw [Nat.pow_succ]
      omega
  intro l ha
  exact key l.length l rfl ha
theorem val_ge : ∀ {a : UInt8} {l : List UInt8}, isD a = true → a ≠ 48 → 10 ^ l.length ≤ valL (a :: l) := by
  have key : ∀ (n : Nat) (a : UInt8) (l : List UInt8), l.length = n → isD a = true → a ≠ 48 → 10 ^ n ≤ valL (a :: l) := by
    intro n
    induction n with
    | zero =>
      intro a l hl ha h0
      have : l = [] := List.eq_nil_of_length_eq_zero hl
      subst this
      unfold isD at ha
      simp only [Bool.and_eq_true, decide_eq_true_eq] at ha
      have : a.toNat ≠ 48 := fun e => h0 (UInt8.toNat_inj.1 e)
      show 1 ≤ 0 * 10 + (a.toNat - 48)
      omega
    | succ n ih =>
      intro a l hl ha h0
      obtain ⟨m, b, rfl⟩ : ∃ m b, l = m ++ [b] := by
        rcases List.eq_nil_or_concat l with rfl | ⟨m, b, h⟩
        · simp at hl
        · exact ⟨m, b, by rw [h, List.concat_eq_append]⟩
      rw [List.length_append] at hl
      have h1 := ih a m (by simpa using hl) ha h0
      have := val_snoc (a :: m) b
      rw [List.cons_append] at this
      rw [this, Nat.pow_succ]
      omega
  intro a l ha h0
  exact key l.length a l rfl ha h0
section
variable {H : Hp} {K : Value → Hp → Prop} {Z : List PanicEntry → Hp → Prop}
theorem class_ok {b : UInt8} (k : K (.int .i64 (if isL b then 2 else if isD b then 1 else 0)) H) : CallF Tryd.prog 55 #[.int .u8 (b.toNat : Int)] H K Z := by
  refine V55_ok ?_
  unfold V55
  have c2 : isL b = true → K (.int .i64 2) H := fun h => by rw [if_pos h] at k; exact k
  have c1 : isD b = true → K (.int .i64 1) H := fun h => by rw [if_neg (by rw [not_both h]; simp), if_pos h] at k; exact k
  have c0 : isL b = false → isD b = false → K (.int .i64 0) H := fun h h' => by rw [if_neg (by rw [h]; simp), if_neg (by rw [h']; simp)] at k; exact k
  have hD : isD b = true ↔ 48 ≤ b.toNat ∧ b.toNat ≤ 57 := by simp [isD]
  have hL : isL b = true ↔ (65 ≤ b.toNat ∧ b.toNat ≤ 90) ∨ (97 ≤ b.toNat ∧ b.toNat ≤ 122) ∨ b.toNat = 95 := by simp [isL]
  have nD : isD b = false ↔ ¬ (48 ≤ b.toNat ∧ b.toNat ≤ 57) := by rw [← hD]; simp
  have nL : isL b = false ↔ ¬ ((65 ≤ b.toNat ∧ b.toNat ≤ 90) ∨ (97 ≤ b.toNat ∧ b.toNat ≤ 122) ∨ b.toNat = 95) := by rw [← hL]; simp
  rw [hL] at c2
  rw [hD] at c1
  rw [nL, nD] at c0
  clear k hD hL nD nL
  generalize b.toNat = n at *
  simp only [decide_eq_true_eq, decide_eq_false_iff_not, beq_iff_eq, beq_eq_false_iff_ne, ne_eq]
  refine ⟨fun a1 => ⟨fun a2 => c1 (by omega), fun a2 => ⟨fun a3 => ⟨fun a4 => ⟨fun _ => c2 (by omega), fun a5 => absurd a4 a5⟩, fun a4 => ⟨fun a5 => ⟨fun a6 => ⟨fun _ => c2 (by omega), fun a7 => absurd a6 a7⟩, fun a6 => ⟨fun a7 => c2 (by omega), fun a7 => c0 (by omega) (by omega)⟩⟩, fun a5 => ⟨fun a7 => c2 (by omega), fun a7 => c0 (by omega) (by omega)⟩⟩⟩, fun a3 => ⟨fun a5 => ⟨fun a6 => ⟨fun _ => c2 (by omega), fun a7 => absurd a6 a7⟩, fun a6 => ⟨fun a7 => c2 (by omega), fun a7 => c0 (by omega) (by omega)⟩⟩, fun a5 => ⟨fun a7 => c2 (by omega), fun a7 => c0 (by omega) (by omega)⟩⟩⟩⟩,
    fun a1 => ⟨fun a3 => ⟨fun a4 => ⟨fun _ => c2 (by omega), fun a5 => absurd a4 a5⟩, fun a4 => ⟨fun a5 => ⟨fun a6 => ⟨fun _ => c2 (by omega), fun a7 => absurd a6 a7⟩, fun a6 => ⟨fun a7 => c2 (by omega), fun a7 => c0 (by omega) (by omega)⟩⟩, fun a5 => ⟨fun a7 => c2 (by omega), fun a7 => c0 (by omega) (by omega)⟩⟩⟩, fun a3 => ⟨fun a5 => ⟨fun a6 => ⟨fun _ => c2 (by omega), fun a7 => absurd a6 a7⟩, fun a6 => ⟨fun a7 => c2 (by omega), fun a7 => c0 (by omega) (by omega)⟩⟩, fun a5 => ⟨fun a7 => c2 (by omega), fun a7 => c0 (by omega) (by omega)⟩⟩⟩⟩
theorem rdigit_ok {b : UInt8} (k : K (.bool (isD b)) H) : CallF Tryd.prog 58 #[.int .u8 (b.toNat : Int)] H K Z := by
  refine V58_ok ?_
  unfold V58
  have hD : ∀ c : Bool, (isD b = c) → K (.bool c) H := fun c hc => by rw [hc] at k; exact k
  refine ⟨fun a1 => hD _ ?_, fun a1 => hD _ ?_⟩
  · have a1' := of_decide_eq_true a1
    unfold isD
    rw [decide_eq_true (by omega), Bool.true_and]
    exact decide_eq_decide.2 (by omega)
  · have a1' := of_decide_eq_false a1
    unfold isD
    rw [decide_eq_false (by omega), Bool.false_and]
theorem rletter_ok {b : UInt8} (k : K (.bool (isL b)) H) : CallF Tryd.prog 57 #[.int .u8 (b.toNat : Int)] H K Z := by
  refine V57_ok ?_
  unfold V57
  have hD : ∀ c : Bool, (isL b = c) → K (.bool c) H := fun c hc => by rw [hc] at k; exact k
  have hL : isL b = true ↔ (65 ≤ b.toNat ∧ b.toNat ≤ 90) ∨ (97 ≤ b.toNat ∧ b.toNat ≤ 122) ∨ b.toNat = 95 := by simp [isL]
  have ht : ((65 ≤ b.toNat ∧ b.toNat ≤ 90) ∨ (97 ≤ b.toNat ∧ b.toNat ≤ 122)) → K (.bool true) H := fun h => hD true (hL.2 (by omega))
  have hu : ¬ ((65 ≤ b.toNat ∧ b.toNat ≤ 90) ∨ (97 ≤ b.toNat ∧ b.toNat ≤ 122)) → K (.bool ((b.toNat : Int) == 95)) H := fun h => hD _ (by
    rw [Bool.eq_iff_iff, hL, beq_iff_eq]
    omega)
  refine ⟨fun a1 => ⟨fun a2 => ht ?_, fun a2 => ⟨fun a3 => ⟨fun a4 => ht ?_, fun a4 => hu ?_⟩, fun a3 => hu ?_⟩⟩, fun a1 => ⟨fun a3 => ⟨fun a4 => ht ?_, fun a4 => hu ?_⟩, fun a3 => hu ?_⟩⟩ <;>
    simp only [decide_eq_true_eq, decide_eq_false_iff_not] at * <;> omega
/-- a loop's place in a text -/
theorem split_loop {l : List UInt8} {w : Bool} {j : Nat} (h1 : ∀ i b, i < j → l[i]? = some b → inW w b = true) (h2 : j = l.length ∨ ∃ b, l[j]? = some b ∧ inW w b = false) (hw : w = wordy l) : splA l = l.take j ∧ splB l = l.drop j := by
  subst hw
  exact takeWhile_at h1 h2
theorem split_ok {l : List UInt8} (hl : l.length ≤ 1000000000) (k : ∀ H', Fr no H H' → K (.tuple #[.string (str (splA l)), .string (str (splB l))]) H') : CallF Tryd.prog 23 #[.string (str l)] H K Z := by
  refine V23_ok ?_
  unfold V23
  rw [str_nil, beq_str, str_size]
  refine ⟨fun he => ?_, fun hne => ?_⟩
  · have : l = [] := of_decide_eq_true he
    subst this
    exact k H (Fr.refl _ _)
  · have hne' : l ≠ [] := of_decide_eq_false hne
    obtain ⟨c, l', rfl⟩ : ∃ c l', l = c :: l' := by
      cases l with
      | nil => exact absurd rfl hne'
      | cons c l' => exact ⟨c, l', rfl⟩
    refine IxS.mk (i := 0) rfl ?_
    refine class_ok ⟨_, rfl, fun h2 => ?_, fun h2 => ?_⟩
    · have hw : wordy (c :: l') = false := by
        show isL c = false
        cases hc : isL c with
        | false => rfl
        | true => rw [hc] at h2; simp at h2
      have htl : Lib.trimLeftS (str (c :: l')).data.toList (str [48, 49, 50, 51, 52, 53, 54, 55, 56, 57]).data.toList = splB (c :: l') := by
        rw [str_data, str_data]
        unfold Lib.trimLeftS splB
        rw [hw]
        congr 1
        funext b
        unfold inW
        rw [Bool.false_and, Bool.or_false, Bool.eq_iff_iff]
        simp only [List.contains_iff_mem, isD, Bool.and_eq_true, decide_eq_true_eq]
        constructor
        · intro hb
          simp only [List.mem_cons, List.not_mem_nil, or_false] at hb
          rcases hb with rfl | rfl | rfl | rfl | rfl | rfl | rfl | rfl | rfl | rfl <;> decide
        · intro hb
          have hn : b = UInt8.ofNat b.toNat := by simp
          have : b.toNat = 48 ∨ b.toNat = 49 ∨ b.toNat = 50 ∨ b.toNat = 51 ∨ b.toNat = 52 ∨ b.toNat = 53 ∨ b.toNat = 54 ∨ b.toNat = 55 ∨ b.toNat = 56 ∨ b.toNat = 57 := by omega
          rw [hn]
          rcases this with h | h | h | h | h | h | h | h | h | h <;> rw [h] <;> decide
      refine callF_below (v := .string (str (splB (c :: l')))) ?_ fun H' hf => ?_
      · intro w hw
        have := Any.strings_TrimLeft_laid S01.lays_trimLeft (by kernel_rfl) (str (c :: l')) (str [48, 49, 50, 51, 52, 53, 54, 55, 56, 57]) w (by decide) (by
          intro j b hb
          rw [str_data] at hb
          have hm := List.mem_of_getElem? hb
          simp only [List.mem_cons, List.not_mem_nil, or_false] at hm
          rcases hm with rfl | rfl | rfl | rfl | rfl | rfl | rfl | rfl | rfl | rfl <;> decide)
        rw [htl] at this
        exact this
      · refine ⟨_, rfl, ?_⟩
        have happ := spl_app (c :: l')
        have hlen := congrArg List.length happ
        rw [List.length_append] at hlen
        have e : w64 (((c :: l').length : Int) - ((str (splB (c :: l'))).size : Int)) = ((splA (c :: l')).length : Int) := by
          rw [str_size, wrap64 (by omega) (by omega)]
          omega
        rw [e]
        refine SlS.to (by omega) ?_
        have : (c :: l').take (splA (c :: l')).length = splA (c :: l') := by
          have h5 : (splA (c :: l') ++ splB (c :: l')).take (splA (c :: l')).length = splA (c :: l') := List.take_left
          rw [happ] at h5
          exact h5
        rw [this]
        exact k H' hf
    · have hw : wordy (c :: l') = true := by
        show isL c = true
        cases hc : isL c with
        | true => rfl
        | false => rw [hc] at h2; cases hd : isD c <;> rw [hd] at h2 <;> simp at h2
      generalize c :: l' = l at *
      refine ⟨fun t A m => ∃ j : Nat, A = H ∧ t = (j : Int) ∧ j ≤ l.length ∧ m = l.length - j ∧ ∀ i b, i < j → l[i]? = some b → inW true b = true, ⟨_, 0, rfl, rfl, Nat.zero_le _, rfl, fun i b hi => by omega⟩, ?_⟩
      rintro t A m ⟨j, rfl, rfl, hj, rfl, hall⟩ scr
      refine ⟨fun hlt => ?_, fun hge => ?_⟩
      · have hjl := dlt hlt
        have hx : l[j]? = some l[j] := List.getElem?_eq_getElem hjl
        generalize l[j] = b at hx
        refine IxS.mk hx (class_ok ⟨_, rfl, fun h1 => ?_, fun h1 => ?_⟩)
        · have hb : inW true b = false := by
            unfold inW
            cases hL : isL b with
            | true => rw [hL] at h1; simp at h1
            | false =>
              cases hD : isD b with
              | true => rw [hL, hD] at h1; simp at h1
              | false => rfl
          obtain ⟨e1, e2⟩ := split_loop hall (.inr ⟨b, hx, hb⟩) hw.symm
          refine SlS.to (by omega) ?_
          rw [← str_size]
          refine SlS.from (by omega) ?_
          rw [← e1, ← e2]
          exact k A (Fr.refl _ _)
        · have hb : inW true b = true := by
            unfold inW
            cases hL : isL b with
            | true => simp
            | false =>
              cases hD : isD b with
              | true => rfl
              | false => rw [hL, hD] at h1; simp at h1
          refine ⟨l.length - (j + 1), by omega, j + 1, rfl, wi (by omega), hjl, rfl, fun i b' hi hb' => ?_⟩
          by_cases hij : i = j
          · subst hij
            rw [hx] at hb'
            cases hb'
            exact hb
          · exact hall i b' (by omega) hb'
      · have hjl : j = l.length := by have := dge hge; omega
        subst hjl
        obtain ⟨e1, e2⟩ := split_loop hall (.inl rfl) hw.symm
        rw [List.take_length] at e1
        rw [List.drop_length] at e2
        have hk := k A (Fr.refl _ _)
        rw [e1, e2] at hk
        exact hk
theorem rsplit_ok {l : List UInt8} (hl : l.length ≤ 1000000000) (k : K (.tuple #[.string (str (splA l)), .string (str (splB l))]) H) : CallF Tryd.prog 24 #[.string (str l)] H K Z := by
  refine V24_ok ?_
  unfold V24
  simp only [str_size]
  refine ⟨fun w A => A = H ∧ w = wordy l, ?_, fun hp => ?_, fun hp => ?_⟩
  rotate_left
  · have hp' := of_decide_eq_true hp
    obtain ⟨c, l', rfl⟩ : ∃ c l', l = c :: l' := by
      cases l with
      | nil => simp at hp'
      | cons c l' => exact ⟨c, l', rfl⟩
    exact IxS.mk (i := 0) rfl (rletter_ok ⟨_, rfl, rfl, rfl⟩)
  · have hp' := of_decide_eq_false hp
    have : l = [] := List.eq_nil_of_length_eq_zero (by omega)
    subst this
    exact ⟨rfl, rfl⟩
  rintro w A ⟨rfl, hw⟩ scr
  refine ⟨fun t B m => ∃ j : Nat, B = A ∧ t = (j : Int) ∧ j ≤ l.length ∧ m = l.length - j ∧ ∀ i b, i < j → l[i]? = some b → inW w b = true, ⟨_, 0, rfl, rfl, Nat.zero_le _, rfl, fun i b hi => by omega⟩, ?_⟩
  rintro t B m ⟨j, rfl, rfl, hj, rfl, hall⟩ scr1
  have fin : (j = l.length ∨ ∃ b, l[j]? = some b ∧ inW w b = false) → SlS (str l) 0 (j : Int) fun cut => SlS (str l) (j : Int) (l.length : Int) fun cut1 => K (.tuple #[.string cut, .string cut1]) B := by
    intro hc
    obtain ⟨e1, e2⟩ := split_loop hall hc hw
    refine SlS.to hj ?_
    rw [← str_size l]
    refine SlS.from hj ?_
    rw [← e1, ← e2]
    exact k
  refine ⟨fun hlt => ?_, fun hge => fin (.inl (by have := dge hge; omega))⟩
  have hjl := dlt hlt
  have hx : l[j]? = some l[j] := List.getElem?_eq_getElem hjl
  generalize l[j] = b at hx
  have next : inW w b = true → ∃ m2, m2 < l.length - j ∧ ∃ j' : Nat, B = B ∧ w64 ((j : Int) + 1) = (j' : Int) ∧ j' ≤ l.length ∧ m2 = l.length - j' ∧ ∀ i b, i < j' → l[i]? = some b → inW w b = true := by
    intro hb
    refine ⟨l.length - (j + 1), by omega, j + 1, rfl, wi (by omega), hjl, rfl, fun i b' hi hb' => ?_⟩
    by_cases hij : i = j
    · subst hij
      rw [hx] at hb'
      cases hb'
      exact hb
    · exact hall i b' (by omega) hb'
  refine IxS.mk hx (rdigit_ok ⟨_, rfl, fun h1 => next (by unfold inW; rw [h1]; rfl), fun h1 => ⟨fun h2 => ?_, fun h2 => ?_⟩⟩)
  · refine IxS.mk hx (rletter_ok ⟨_, rfl, fun h3 => next (by unfold inW; rw [h2, h3]; simp), fun h3 => fin (.inr ⟨b, hx, ?_⟩)⟩)
    unfold inW
    rw [h1, h3]
    simp
  · refine fin (.inr ⟨b, hx, ?_⟩)
    unfold inW
    rw [h1, h2]
    rfl
/-- a name is all of its first part -/
theorem name_split {l : List UInt8} : nameL l = (decide (splA l ≠ []) && (decide (splB l = []) && (decide (l.length ≤ 16) && wordy l))) := by
  cases hl : l with
  | nil => rfl
  | cons c r =>
    rw [← hl]
    unfold nameL
    cases hw : wordy l with
    | false => simp
    | true =>
      have h1 : splA l ≠ [] := by
        unfold splA
        rw [hw, hl]
        have hc : isL c = true := by rw [hl] at hw; exact hw
        rw [List.takeWhile_cons]
        unfold inW
        rw [hc]
        simp
      have h2 : (splB l = []) ↔ (l.all fun b => isL b || isD b) = true := by
        unfold splB
        rw [hw, dropWhile_nil, List.all_eq_true]
        unfold inW
        simp only [Bool.true_and]
        constructor
        · intro h x hx; rw [Bool.or_comm]; exact h x hx
        · intro h x hx; rw [Bool.or_comm]; exact h x hx
      rw [decide_eq_true h1]
      simp only [Bool.true_and, Bool.and_true]
      by_cases h3 : splB l = []
      · rw [decide_eq_true h3, h2.1 h3]; simp
      · rw [decide_eq_false h3]
        cases ha : (l.all fun b => isL b || isD b) with
        | true => exact absurd (h2.2 ha) h3
        | false => simp
theorem name_ok {l : List UInt8} (hl : l.length ≤ 1000000000) (k : ∀ H', Fr no H H' → K (.bool (nameL l)) H') : CallF Tryd.prog 25 #[.string (str l)] H K Z := by
  refine V25_ok ?_
  unfold V25
  refine split_ok hl fun H1 f1 => ⟨_, _, rfl, ?_⟩
  have hk := k H1 f1
  rw [name_split] at hk
  simp only [str_nil, beq_str, str_size]
  refine ⟨fun h1 => ⟨fun h2 => ⟨fun h3 => ?_, fun h3 => ?_⟩, fun h2 => ?_⟩, fun h1 => ?_⟩
  · have h1' : splA l ≠ [] := by simpa using h1
    obtain ⟨c, r, rfl⟩ : ∃ c r, l = c :: r := by
      cases l with
      | nil => exact absurd rfl h1'
      | cons c r => exact ⟨c, r, rfl⟩
    refine IxS.mk (i := 0) rfl (class_ok ⟨_, rfl, ?_⟩)
    have h2' := of_decide_eq_true h2
    have h3' : (c :: r).length ≤ 16 := by have := of_decide_eq_true h3; omega
    rw [decide_eq_true h1', decide_eq_true h2', decide_eq_true h3'] at hk
    have e : (((if isL c = true then 2 else if isD c = true then 1 else 0) : Int) == 2) = wordy (c :: r) := by
      show _ = isL c
      cases hc : isL c with
      | true => rfl
      | false => cases hd : isD c <;> rfl
    rw [e]
    exact hk
  · have h3' : ¬ l.length ≤ 16 := by have := of_decide_eq_false h3; omega
    rw [decide_eq_false h3'] at hk
    simpa using hk
  · have h2' := of_decide_eq_false h2
    rw [decide_eq_false h2'] at hk
    simpa using hk
  · have h1' : splA l = [] := by simpa using h1
    have h1'' : ¬ splA l ≠ [] := fun h => h h1'
    rw [decide_eq_false h1''] at hk
    simpa using hk
theorem rname_ok {l : List UInt8} (hl : l.length ≤ 1000000000) (k : K (.bool (nameL l)) H) : CallF Tryd.prog 26 #[.string (str l)] H K Z := by
  refine V26_ok ?_
  unfold V26
  simp only [str_nil, beq_str, str_size]
  have no : nameL l = false → K (.bool false) H := fun h => by rw [h] at k; exact k
  refine ⟨fun A => A = H ∧ wordy l = true ∧ l.length ≤ 16, ?_, fun he => no ?_, fun hne => ⟨fun hb => no ?_, fun hb => ?_⟩⟩
  rotate_left
  · have : l = [] := of_decide_eq_true he
    subst this
    rfl
  · have : ¬ l.length ≤ 16 := by have := of_decide_eq_true hb; omega
    unfold nameL
    rw [decide_eq_false this]
    simp
  · have hne' : l ≠ [] := of_decide_eq_false hne
    have hb' : l.length ≤ 16 := by have := of_decide_eq_false hb; omega
    obtain ⟨c, r, rfl⟩ : ∃ c r, l = c :: r := by
      cases l with
      | nil => exact absurd rfl hne'
      | cons c r => exact ⟨c, r, rfl⟩
    refine IxS.mk (i := 0) rfl (rletter_ok ⟨_, rfl, fun h1 => no ?_, fun h1 => ⟨rfl, (by show isL c = true; simpa using h1), hb'⟩⟩)
    have : isL c = false := by simpa using h1
    unfold nameL
    rw [show wordy (c :: r) = isL c from rfl, this]
    rfl
  rintro A ⟨rfl, hw, hb⟩ scr
  refine ⟨fun t B m => ∃ j : Nat, B = A ∧ t = (j : Int) ∧ j ≤ l.length ∧ m = l.length - j ∧ ∀ b ∈ l.take j, (isL b || isD b) = true, ⟨_, 0, rfl, rfl, Nat.zero_le _, rfl, by simp⟩, ?_⟩
  rintro t B m ⟨j, rfl, rfl, hj, rfl, hall⟩ scr1
  refine ⟨fun hlt => ?_, fun hge => ?_⟩
  · have hjl := dlt hlt
    have hx : l[j]? = some l[j] := List.getElem?_eq_getElem hjl
    have htk : l.take (j + 1) = l.take j ++ [l[j]] := List.take_succ_eq_append_getElem hjl
    generalize l[j] = b at hx htk
    have next : (isL b || isD b) = true → ∃ m2, m2 < l.length - j ∧ ∃ j' : Nat, B = B ∧ w64 ((j : Int) + 1) = (j' : Int) ∧ j' ≤ l.length ∧ m2 = l.length - j' ∧ ∀ b ∈ l.take j', (isL b || isD b) = true := by
      intro hb
      refine ⟨l.length - (j + 1), by omega, j + 1, rfl, wi (by omega), hjl, rfl, fun b' hb' => ?_⟩
      rw [htk] at hb'
      rcases List.mem_append.1 hb' with h | h
      · exact hall b' h
      · rw [List.mem_singleton.1 h]; exact hb
    refine IxS.mk hx (rletter_ok ⟨_, rfl, fun h1 => ?_, fun h1 => next (by have : isL b = true := by simpa using h1
                                                                           rw [this]; rfl)⟩)
    have h1' : isL b = false := by simpa using h1
    refine IxS.mk hx (rdigit_ok ⟨_, rfl, fun h2 => no ?_, fun h2 => next (by have : isD b = true := by simpa using h2
                                                                             rw [this]; simp)⟩)
    have h2' : isD b = false := by simpa using h2
    have : (l.all fun b => isL b || isD b) = false := by
      rw [List.all_eq_false]
      exact ⟨b, List.mem_of_getElem? hx, by rw [h1', h2']; simp⟩
    unfold nameL
    rw [this]
    simp
  · have hjl : l.length ≤ j := by have := dge hge; omega
    rw [List.take_of_length_le hjl] at hall
    have : nameL l = true := by
      unfold nameL
      rw [hw, decide_eq_true hb, List.all_eq_true.2 hall]
      rfl
    rw [this] at k
    exact k
end
end Go.Proofs.YthaejcmllibeoaaDoor.C01

