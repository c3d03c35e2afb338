/- The conditions of digits' functions, and of weftref01's and weftlaw01's (printed by our own program vn.py; the kernel checks each against V5's comp). -/
import Derived.Test.YthaejcmllibeoaaDoorV8
import Derived.Test.YthaejcmllibeoaaDoorProg
set_option linter.unusedVariables false
set_option maxRecDepth 100000
-- class: 55
-- text: 16
-- read: 27
-- name: 25
-- split: 23
-- rText: 17
-- rPlain: 52
-- rDigit: 58
-- rLetter: 57
-- rRead: 28
-- rName: 26
-- rSplit: 24
-- lawWrites: 3
-- lawReads: 6
-- lawNames: 5
-- lawBack: 7
-- lWorks: 29
namespace Go.Proofs.YthaejcmllibeoaaDoor.N01
open Go Go.V Go.Proofs
/-- weft/digits.class -/
def V55 (H : Hp) (c : Int) (K : Value → Hp → Prop) (Z : List PanicEntry → Hp → Prop) : Prop :=
  (((decide (c ≥ 48)) = true → (((decide (c ≤ 57)) = true → K (.int .i64 1) H) ∧ ((decide (c ≤ 57)) = false → 
    (((decide (c ≥ 65)) = true → (((decide (c ≤ 90)) = true → (((decide (c ≤ 90)) = true → K (.int .i64 2) H) ∧ 
    ((decide (c ≤ 90)) = false → K (.int .i64 0) H))) ∧ ((decide (c ≤ 90)) = false → (((decide (c ≥ 97)) = true → 
    (((decide (c ≤ 122)) = true → (((decide (c ≤ 122)) = true → K (.int .i64 2) H) ∧ ((decide (c ≤ 122)) = false → 
    K (.int .i64 0) H))) ∧ ((decide (c ≤ 122)) = false → (((c == 95) = true → K (.int .i64 2) H) ∧ ((c == 95) = false → 
    K (.int .i64 0) H))))) ∧ ((decide (c ≥ 97)) = false → (((c == 95) = true → K (.int .i64 2) H) ∧ ((c == 95) = false → 
    K (.int .i64 0) H))))))) ∧ ((decide (c ≥ 65)) = false → (((decide (c ≥ 97)) = true → (((decide (c ≤ 122)) = true → 
    (((decide (c ≤ 122)) = true → K (.int .i64 2) H) ∧ ((decide (c ≤ 122)) = false → K (.int .i64 0) H))) ∧ 
    ((decide (c ≤ 122)) = false → (((c == 95) = true → K (.int .i64 2) H) ∧ ((c == 95) = false → K (.int .i64 0) H))))) ∧ 
    ((decide (c ≥ 97)) = false → (((c == 95) = true → K (.int .i64 2) H) ∧ ((c == 95) = false → K (.int .i64 0) H))))))))) ∧ 
    ((decide (c ≥ 48)) = false → (((decide (c ≥ 65)) = true → (((decide (c ≤ 90)) = true → (((decide (c ≤ 90)) = true → 
    K (.int .i64 2) H) ∧ ((decide (c ≤ 90)) = false → K (.int .i64 0) H))) ∧ ((decide (c ≤ 90)) = false → 
    (((decide (c ≥ 97)) = true → (((decide (c ≤ 122)) = true → (((decide (c ≤ 122)) = true → K (.int .i64 2) H) ∧ 
    ((decide (c ≤ 122)) = false → K (.int .i64 0) H))) ∧ ((decide (c ≤ 122)) = false → (((c == 95) = true → 
    K (.int .i64 2) H) ∧ ((c == 95) = false → K (.int .i64 0) H))))) ∧ ((decide (c ≥ 97)) = false → (((c == 95) = true → 
    K (.int .i64 2) H) ∧ ((c == 95) = false → K (.int .i64 0) H))))))) ∧ ((decide (c ≥ 65)) = false → 
    (((decide (c ≥ 97)) = true → (((decide (c ≤ 122)) = true → (((decide (c ≤ 122)) = true → K (.int .i64 2) H) ∧ 
    ((decide (c ≤ 122)) = false → K (.int .i64 0) H))) ∧ ((decide (c ≤ 122)) = false → (((c == 95) = true → 
    K (.int .i64 2) H) ∧ ((c == 95) = false → K (.int .i64 0) H))))) ∧ ((decide (c ≥ 97)) = false → (((c == 95) = true → 
    K (.int .i64 2) H) ∧ ((c == 95) = false → K (.int .i64 0) H))))))))
def aJ55 : Ann := (fun _ => none)
def aL55 : Ann := (fun _ => none)
theorem V55_ok {H : Hp} {c : Int} {K : Value → Hp → Prop} {Z : List PanicEntry → Hp → Prop} (h : V55 H c K Z) : CallF Tryd.prog 55 #[.int .u8 c] H K Z :=
  fnC_sound (P := Tryd.prog) (aJ := aJ55) (aL := aL55) (f := 55) (args := [.int .u8 c]) (Eq.mp (by kernel_rfl) h)
/-- weft/digits.Text -/
def V16 (H : Hp) (n : Int) (K : Value → Hp → Prop) (Z : List PanicEntry → Hp → Prop) : Prop :=
  CallF Tryd.prog 51 #[.int .i64 n] H (fun r H1 => ∃ y : ByteArray, r = .string y ∧ K (.string y) H1) Z
def aJ16 : Ann := (fun _ => none)
def aL16 : Ann := (fun _ => none)
theorem V16_ok {H : Hp} {n : Int} {K : Value → Hp → Prop} {Z : List PanicEntry → Hp → Prop} (h : V16 H n K Z) : CallF Tryd.prog 16 #[.int .i64 n] H K Z :=
  fnC_sound (P := Tryd.prog) (aJ := aJ16) (aL := aL16) (f := 16) (args := [.int .i64 n]) (Eq.mp (by kernel_rfl) h)
/-- weft/digits.Read -/
def V27 (H : Hp) (s : ByteArray) (K : Value → Hp → Prop) (Z : List PanicEntry → Hp → Prop) : Prop :=
  (((beqS s ⟨#[]⟩) = true → K (.tuple #[.int .i64 0, .int .i64 1]) H) ∧ ((beqS s ⟨#[]⟩) = false → ∃ I : Int → 
    Hp → Nat → Prop, (∃ m, I 0 H m) ∧ ∀ (t11 : Int), ∀ H1 m1, I t11 H1 m1 → ∀ scr : Nat → Value, (((decide (t11 < (s.size : Int))) = true → 
    IxS s t11 fun c => (CallF Tryd.prog 55 #[.int .u8 c] H1 (fun r H2 => ∃ y : Int, r = .int .i64 y ∧ 
    (((y != 1) = true → K (.tuple #[.int .i64 0, .int .i64 3]) H2) ∧ ((y != 1) = false → (∃ m2, m2 < m1 ∧ 
    I (w64 (t11 + 1)) H2 m2)))) Z)) ∧ ((decide (t11 < (s.size : Int))) = false → IxS s 0 fun c1 => (((c1 == 48) = true → 
    (((decide ((s.size : Int) > 1)) = true → K (.tuple #[.int .i64 0, .int .i64 3]) H1) ∧ ((decide ((s.size : Int) > 1)) = false → 
    (((decide ((s.size : Int) > 9)) = true → K (.tuple #[.int .i64 0, .int .i64 2]) H1) ∧ ((decide ((s.size : Int) > 9)) = false → 
    CallF Tryd.prog 59 #[.string s] H1 (fun r1 H3 => ∃ y_0 : Int, ∃ y_1 : Value, r1 = .tuple #[.int .i64 y_0, y_1] ∧ 
    NilI y_1 fun isNil => (((!isNil) = true → K (.tuple #[.int .i64 0, .int .i64 2]) H3) ∧ ((!isNil) = false → 
    (((decide (y_0 > 268435456)) = true → K (.tuple #[.int .i64 0, .int .i64 2]) H3) ∧ ((decide (y_0 > 268435456)) = false → 
    K (.tuple #[.int .i64 y_0, .int .i64 0]) H3))))) Z))))) ∧ ((c1 == 48) = false → (((decide ((s.size : Int) > 9)) = true → 
    K (.tuple #[.int .i64 0, .int .i64 2]) H1) ∧ ((decide ((s.size : Int) > 9)) = false → CallF Tryd.prog 59 #[.string s] H1 (fun r2 H4 => 
    ∃ y_01 : Int, ∃ y_11 : Value, r2 = .tuple #[.int .i64 y_01, y_11] ∧ NilI y_11 fun isNil1 => (((!isNil1) = true → 
    K (.tuple #[.int .i64 0, .int .i64 2]) H4) ∧ ((!isNil1) = false → (((decide (y_01 > 268435456)) = true → 
    K (.tuple #[.int .i64 0, .int .i64 2]) H4) ∧ ((decide (y_01 > 268435456)) = false → K (.tuple #[.int .i64 y_01, .int .i64 0]) H4))))) Z))))))))
def aJ27 : Ann := (fun _ => none)
def aL27 : Ann := (fun k => if k = 4 then some [(11, (.sc (.int .i64)))] else none)
theorem V27_ok {H : Hp} {s : ByteArray} {K : Value → Hp → Prop} {Z : List PanicEntry → Hp → Prop} (h : V27 H s K Z) : CallF Tryd.prog 27 #[.string s] H K Z :=
  fnC_sound (P := Tryd.prog) (aJ := aJ27) (aL := aL27) (f := 27) (args := [.string s]) (Eq.mp (by kernel_rfl) h)
/-- weft/digits.Name -/
def V25 (H : Hp) (s : ByteArray) (K : Value → Hp → Prop) (Z : List PanicEntry → Hp → Prop) : Prop :=
  CallF Tryd.prog 23 #[.string s] H (fun r H1 => ∃ y_0 : ByteArray, ∃ y_1 : ByteArray, r = .tuple #[.string y_0, .string y_1] ∧ 
    (((!(beqS y_0 ⟨#[]⟩)) = true → (((beqS y_1 ⟨#[]⟩) = true → (((decide ((s.size : Int) ≤ 16)) = true → 
    IxS s 0 fun c => (CallF Tryd.prog 55 #[.int .u8 c] H1 (fun r1 H2 => ∃ y : Int, r1 = .int .i64 y ∧ 
    K (.bool (y == 2)) H2) Z)) ∧ ((decide ((s.size : Int) ≤ 16)) = false → K (.bool false) H1))) ∧ ((beqS y_1 ⟨#[]⟩) = false → 
    K (.bool false) H1))) ∧ ((!(beqS y_0 ⟨#[]⟩)) = false → K (.bool false) H1))) Z
def aJ25 : Ann := (fun _ => none)
def aL25 : Ann := (fun _ => none)
theorem V25_ok {H : Hp} {s : ByteArray} {K : Value → Hp → Prop} {Z : List PanicEntry → Hp → Prop} (h : V25 H s K Z) : CallF Tryd.prog 25 #[.string s] H K Z :=
  fnC_sound (P := Tryd.prog) (aJ := aJ25) (aL := aL25) (f := 25) (args := [.string s]) (Eq.mp (by kernel_rfl) h)
/-- weft/digits.Split -/
def V23 (H : Hp) (s : ByteArray) (K : Value → Hp → Prop) (Z : List PanicEntry → Hp → Prop) : Prop :=
  (((beqS s ⟨#[]⟩) = true → K (.tuple #[.string ⟨#[]⟩, .string ⟨#[]⟩]) H) ∧ ((beqS s ⟨#[]⟩) = false → 
    IxS s 0 fun c => (CallF Tryd.prog 55 #[.int .u8 c] H (fun r H1 => ∃ y : Int, r = .int .i64 y ∧ (((y != 2) = true → 
    CallF Tryd.prog 56 #[.string s, .string ⟨#[48, 49, 50, 51, 52, 53, 54, 55, 56, 57]⟩] H1 (fun r1 H2 => 
    ∃ y1 : ByteArray, r1 = .string y1 ∧ SlS s 0 (w64 ((s.size : Int) - (y1.size : Int))) fun cut => (K (.tuple #[.string cut, .string y1]) H2)) Z) ∧ 
    ((y != 2) = false → ∃ I : Int → Hp → Nat → Prop, (∃ m, I 0 H1 m) ∧ ∀ (t25 : Int), ∀ H3 m1, I t25 H3 m1 → 
    ∀ scr : Nat → Value, (((decide (t25 < (s.size : Int))) = true → IxS s t25 fun c1 => (CallF Tryd.prog 55 #[.int .u8 c1] H3 (fun r2 H4 => 
    ∃ y2 : Int, r2 = .int .i64 y2 ∧ (((decide (y2 < 1)) = true → SlS s 0 t25 fun cut1 => (SlS s t25 (s.size : Int) fun cut2 => 
    (K (.tuple #[.string cut1, .string cut2]) H4))) ∧ ((decide (y2 < 1)) = false → (∃ m2, m2 < m1 ∧ I (w64 (t25 + 1)) H4 m2)))) Z)) ∧ 
    ((decide (t25 < (s.size : Int))) = false → K (.tuple #[.string s, .string ⟨#[]⟩]) H3))))) Z)))
def aJ23 : Ann := (fun _ => none)
def aL23 : Ann := (fun k => if k = 8 then some [(25, (.sc (.int .i64)))] else none)
theorem V23_ok {H : Hp} {s : ByteArray} {K : Value → Hp → Prop} {Z : List PanicEntry → Hp → Prop} (h : V23 H s K Z) : CallF Tryd.prog 23 #[.string s] H K Z :=
  fnC_sound (P := Tryd.prog) (aJ := aJ23) (aL := aL23) (f := 23) (args := [.string s]) (Eq.mp (by kernel_rfl) h)
/-- weft/weftref01.Text -/
def V17 (H : Hp) (n : Int) (K : Value → Hp → Prop) (Z : List PanicEntry → Hp → Prop) : Prop :=
  (((decide (n ≥ 0)) = true → CallF Tryd.prog 52 #[.int .u64 (IntKind.wrap .u64 n)] H (fun r H1 => ∃ y : ByteArray, r = .string y ∧ 
    K (.string y) H1) Z) ∧ ((decide (n ≥ 0)) = false → CallF Tryd.prog 52 #[.int .u64 (IntKind.wrap .u64 (0 - (IntKind.wrap .u64 n)))] H (fun r1 H2 => 
    ∃ y1 : ByteArray, r1 = .string y1 ∧ ((⟨#[45]⟩ : ByteArray).size + y1.size ≤ 4611686018427387904 ∧ 
    K (.string ((⟨#[45]⟩ : ByteArray) ++ y1)) H2)) Z))
def aJ17 : Ann := (fun _ => none)
def aL17 : Ann := (fun _ => none)
theorem V17_ok {H : Hp} {n : Int} {K : Value → Hp → Prop} {Z : List PanicEntry → Hp → Prop} (h : V17 H n K Z) : CallF Tryd.prog 17 #[.int .i64 n] H K Z :=
  fnC_sound (P := Tryd.prog) (aJ := aJ17) (aL := aL17) (f := 17) (args := [.int .i64 n]) (Eq.mp (by kernel_rfl) h)
/-- weft/weftref01.plain -/
def V52 (H : Hp) (n : Int) (K : Value → Hp → Prop) (Z : List PanicEntry → Hp → Prop) : Prop :=
  ∀ b H1, Newb H (.cells #[.int .u8 (IntKind.wrap .u8 (48 + (IntKind.wrap .u8 (Int.tmod n 10))))] 5) b H1 → 
    Cvt Tryd.prog 90 9 H1 (.slice (some ⟨b, 0, none⟩) 1 1) fun r H2 => ∃ cv : ByteArray, r = .string cv ∧ 
    ∃ I : Int → ByteArray → Hp → Nat → Prop, (∃ m, I n cv H2 m) ∧ ∀ (n1 : Int) (s : ByteArray), ∀ H3 m1, I n1 s H3 m1 → 
    ∀ scr : Nat → Value, (((decide (n1 ≥ 10)) = true → ∀ b1 H4, Newb H3 (.cells #[.int .u8 (IntKind.wrap .u8 (48 + (IntKind.wrap .u8 (Int.tmod (IntKind.wrap .u64 (Int.tdiv n1 10)) 10))))] 5) b1 H4 → 
    Cvt Tryd.prog 90 9 H4 (.slice (some ⟨b1, 0, none⟩) 1 1) fun r1 H5 => ∃ cv1 : ByteArray, r1 = .string cv1 ∧ 
    (cv1.size + s.size ≤ 4611686018427387904 ∧ (∃ m2, m2 < m1 ∧ I (IntKind.wrap .u64 (Int.tdiv n1 10)) (cv1 ++ s) H5 m2))) ∧ 
    ((decide (n1 ≥ 10)) = false → K (.string s) H3))
def aJ52 : Ann := (fun _ => none)
def aL52 : Ann := (fun k => if k = 2 then some [(0, (.sc (.int .u64))), (3, (.sc .str))] else none)
theorem V52_ok {H : Hp} {n : Int} {K : Value → Hp → Prop} {Z : List PanicEntry → Hp → Prop} (h : V52 H n K Z) : CallF Tryd.prog 52 #[.int .u64 n] H K Z :=
  fnC_sound (P := Tryd.prog) (aJ := aJ52) (aL := aL52) (f := 52) (args := [.int .u64 n]) (Eq.mp (by kernel_rfl) h)
/-- weft/weftref01.digit -/
def V58 (H : Hp) (c : Int) (K : Value → Hp → Prop) (Z : List PanicEntry → Hp → Prop) : Prop :=
  (((decide (c ≥ 48)) = true → K (.bool (decide (c ≤ 57))) H) ∧ ((decide (c ≥ 48)) = false → K (.bool false) H))
def aJ58 : Ann := (fun _ => none)
def aL58 : Ann := (fun _ => none)
theorem V58_ok {H : Hp} {c : Int} {K : Value → Hp → Prop} {Z : List PanicEntry → Hp → Prop} (h : V58 H c K Z) : CallF Tryd.prog 58 #[.int .u8 c] H K Z :=
  fnC_sound (P := Tryd.prog) (aJ := aJ58) (aL := aL58) (f := 58) (args := [.int .u8 c]) (Eq.mp (by kernel_rfl) h)
/-- weft/weftref01.letter -/
def V57 (H : Hp) (c : Int) (K : Value → Hp → Prop) (Z : List PanicEntry → Hp → Prop) : Prop :=
  (((decide (c ≥ 65)) = true → (((decide (c ≤ 90)) = true → K (.bool true) H) ∧ ((decide (c ≤ 90)) = false → 
    (((decide (c ≥ 97)) = true → (((decide (c ≤ 122)) = true → K (.bool true) H) ∧ ((decide (c ≤ 122)) = false → 
    K (.bool (c == 95)) H))) ∧ ((decide (c ≥ 97)) = false → K (.bool (c == 95)) H))))) ∧ ((decide (c ≥ 65)) = false → 
    (((decide (c ≥ 97)) = true → (((decide (c ≤ 122)) = true → K (.bool true) H) ∧ ((decide (c ≤ 122)) = false → 
    K (.bool (c == 95)) H))) ∧ ((decide (c ≥ 97)) = false → K (.bool (c == 95)) H))))
def aJ57 : Ann := (fun _ => none)
def aL57 : Ann := (fun _ => none)
theorem V57_ok {H : Hp} {c : Int} {K : Value → Hp → Prop} {Z : List PanicEntry → Hp → Prop} (h : V57 H c K Z) : CallF Tryd.prog 57 #[.int .u8 c] H K Z :=
  fnC_sound (P := Tryd.prog) (aJ := aJ57) (aL := aL57) (f := 57) (args := [.int .u8 c]) (Eq.mp (by kernel_rfl) h)
/-- weft/weftref01.Read -/
def V28 (H : Hp) (s : ByteArray) (K : Value → Hp → Prop) (Z : List PanicEntry → Hp → Prop) : Prop :=
  (((beqS s ⟨#[]⟩) = true → K (.tuple #[.int .i64 0, .int .i64 1]) H) ∧ ((beqS s ⟨#[]⟩) = false → ∃ I : Int → 
    Hp → Nat → Prop, (∃ m, I 0 H m) ∧ ∀ (i : Int), ∀ H1 m1, I i H1 m1 → ∀ scr : Nat → Value, (((decide (i < (s.size : Int))) = true → 
    IxS s i fun c => (CallF Tryd.prog 58 #[.int .u8 c] H1 (fun r H2 => ∃ y : Bool, r = .bool y ∧ (((!y) = true → 
    K (.tuple #[.int .i64 0, .int .i64 3]) H2) ∧ ((!y) = false → (∃ m2, m2 < m1 ∧ I (w64 (i + 1)) H2 m2)))) Z)) ∧ 
    ((decide (i < (s.size : Int))) = false → ∃ J : Hp → Prop, (∀ H3, J  H3 → ∀ scr1 : Nat → Value, ∃ I1 : Int → 
    Int → Hp → Nat → Prop, (∃ m3, I1 0 0 H3 m3) ∧ ∀ (n : Int) (i1 : Int), ∀ H4 m4, I1 n i1 H4 m4 → ∀ scr2 : Nat → 
    Value, (((decide (i1 < (s.size : Int))) = true → IxS s i1 fun c1 => (((decide ((w64 ((w64 (10 * n)) + (w64 (IntKind.wrap .u8 (c1 - 48))))) > 268435456)) = true → 
    K (.tuple #[.int .i64 0, .int .i64 2]) H4) ∧ ((decide ((w64 ((w64 (10 * n)) + (w64 (IntKind.wrap .u8 (c1 - 48))))) > 268435456)) = false → 
    (∃ m5, m5 < m4 ∧ I1 (w64 ((w64 (10 * n)) + (w64 (IntKind.wrap .u8 (c1 - 48))))) (w64 (i1 + 1)) H4 m5)))) ∧ 
    ((decide (i1 < (s.size : Int))) = false → K (.tuple #[.int .i64 n, .int .i64 0]) H4))) ∧ IxS s 0 fun c2 => 
    (((c2 == 48) = true → (((decide ((s.size : Int) > 1)) = true → K (.tuple #[.int .i64 0, .int .i64 3]) H1) ∧ 
    ((decide ((s.size : Int) > 1)) = false → (J  H1)))) ∧ ((c2 == 48) = false → (J  H1)))))))
def aJ28 : Ann := (fun k => if k = 10 then some [] else none)
def aL28 : Ann := (fun k => if k = 4 then some [(4, (.sc (.int .i64)))] else if k = 12 then some [(5, (.sc (.int .i64))), (6, (.sc (.int .i64)))] else none)
theorem V28_ok {H : Hp} {s : ByteArray} {K : Value → Hp → Prop} {Z : List PanicEntry → Hp → Prop} (h : V28 H s K Z) : CallF Tryd.prog 28 #[.string s] H K Z :=
  fnC_sound (P := Tryd.prog) (aJ := aJ28) (aL := aL28) (f := 28) (args := [.string s]) (Eq.mp (by kernel_rfl) h)
/-- weft/weftref01.Name -/
def V26 (H : Hp) (s : ByteArray) (K : Value → Hp → Prop) (Z : List PanicEntry → Hp → Prop) : Prop :=
  ∃ J : Hp → Prop, (∀ H1, J  H1 → ∀ scr : Nat → Value, ∃ I : Int → Hp → Nat → Prop, (∃ m, I 0 H1 m) ∧ 
    ∀ (i : Int), ∀ H2 m1, I i H2 m1 → ∀ scr1 : Nat → Value, (((decide (i < (s.size : Int))) = true → 
    IxS s i fun c => (CallF Tryd.prog 57 #[.int .u8 c] H2 (fun r H3 => ∃ y : Bool, r = .bool y ∧ (((!y) = true → 
    IxS s i fun c1 => (CallF Tryd.prog 58 #[.int .u8 c1] H3 (fun r1 H4 => ∃ y1 : Bool, r1 = .bool y1 ∧ 
    (((!y1) = true → K (.bool false) H4) ∧ ((!y1) = false → (∃ m2, m2 < m1 ∧ I (w64 (i + 1)) H4 m2)))) Z)) ∧ 
    ((!y) = false → (∃ m2, m2 < m1 ∧ I (w64 (i + 1)) H3 m2)))) Z)) ∧ ((decide (i < (s.size : Int))) = false → 
    K (.bool true) H2))) ∧ (((beqS s ⟨#[]⟩) = true → K (.bool false) H) ∧ ((beqS s ⟨#[]⟩) = false → (((decide ((s.size : Int) > 16)) = true → 
    K (.bool false) H) ∧ ((decide ((s.size : Int) > 16)) = false → IxS s 0 fun c2 => (CallF Tryd.prog 57 #[.int .u8 c2] H (fun r2 H5 => 
    ∃ y2 : Bool, r2 = .bool y2 ∧ (((!y2) = true → K (.bool false) H5) ∧ ((!y2) = false → (J  H5)))) Z)))))
def aJ26 : Ann := (fun k => if k = 3 then some [] else none)
def aL26 : Ann := (fun k => if k = 4 then some [(3, (.sc (.int .i64)))] else none)
theorem V26_ok {H : Hp} {s : ByteArray} {K : Value → Hp → Prop} {Z : List PanicEntry → Hp → Prop} (h : V26 H s K Z) : CallF Tryd.prog 26 #[.string s] H K Z :=
  fnC_sound (P := Tryd.prog) (aJ := aJ26) (aL := aL26) (f := 26) (args := [.string s]) (Eq.mp (by kernel_rfl) h)
/-- weft/weftref01.Split -/
def V24 (H : Hp) (s : ByteArray) (K : Value → Hp → Prop) (Z : List PanicEntry → Hp → Prop) : Prop :=
  ∃ J : Bool → Hp → Prop, (∀ (words : Bool), ∀ H1, J words H1 → ∀ scr : Nat → Value, ∃ I : Int → Hp → 
    Nat → Prop, (∃ m, I 0 H1 m) ∧ ∀ (i : Int), ∀ H2 m1, I i H2 m1 → ∀ scr1 : Nat → Value, (((decide (i < (s.size : Int))) = true → 
    IxS s i fun c => (CallF Tryd.prog 58 #[.int .u8 c] H2 (fun r H3 => ∃ y : Bool, r = .bool y ∧ ((y = true → 
    (∃ m2, m2 < m1 ∧ I (w64 (i + 1)) H3 m2)) ∧ (y = false → ((words = true → IxS s i fun c1 => (CallF Tryd.prog 57 #[.int .u8 c1] H3 (fun r1 H4 => 
    ∃ y1 : Bool, r1 = .bool y1 ∧ ((y1 = true → (∃ m2, m2 < m1 ∧ I (w64 (i + 1)) H4 m2)) ∧ (y1 = false → 
    SlS s 0 i fun cut => (SlS s i (s.size : Int) fun cut1 => (K (.tuple #[.string cut, .string cut1]) H4))))) Z)) ∧ 
    (words = false → SlS s 0 i fun cut2 => (SlS s i (s.size : Int) fun cut3 => (K (.tuple #[.string cut2, .string cut3]) H3))))))) Z)) ∧ 
    ((decide (i < (s.size : Int))) = false → SlS s 0 i fun cut4 => (SlS s i (s.size : Int) fun cut5 => 
    (K (.tuple #[.string cut4, .string cut5]) H2))))) ∧ (((decide ((s.size : Int) > 0)) = true → IxS s 0 fun c2 => 
    (CallF Tryd.prog 57 #[.int .u8 c2] H (fun r2 H5 => ∃ y2 : Bool, r2 = .bool y2 ∧ (J y2 H5)) Z)) ∧ 
    ((decide ((s.size : Int) > 0)) = false → (J false H)))
def aJ24 : Ann := (fun k => if k = 2 then some [(4, (.sc .bool))] else none)
def aL24 : Ann := (fun k => if k = 3 then some [(5, (.sc (.int .i64)))] else none)
theorem V24_ok {H : Hp} {s : ByteArray} {K : Value → Hp → Prop} {Z : List PanicEntry → Hp → Prop} (h : V24 H s K Z) : CallF Tryd.prog 24 #[.string s] H K Z :=
  fnC_sound (P := Tryd.prog) (aJ := aJ24) (aL := aL24) (f := 24) (args := [.string s]) (Eq.mp (by kernel_rfl) h)
/-- weft/weftlaw01.DigitsWrites -/
def V3 (H : Hp) (n : Int) (K : Value → Hp → Prop) (Z : List PanicEntry → Hp → Prop) : Prop :=
  CallF Tryd.prog 16 #[.int .i64 n] H (fun r H1 => ∃ y : ByteArray, r = .string y ∧ CallF Tryd.prog 17 #[.int .i64 n] H1 (fun r1 H2 => 
    ∃ y1 : ByteArray, r1 = .string y1 ∧ K (.bool (beqS y y1)) H2) Z) Z
def aJ3 : Ann := (fun _ => none)
def aL3 : Ann := (fun _ => none)
theorem V3_ok {H : Hp} {n : Int} {K : Value → Hp → Prop} {Z : List PanicEntry → Hp → Prop} (h : V3 H n K Z) : CallF Tryd.prog 3 #[.int .i64 n] H K Z :=
  fnC_sound (P := Tryd.prog) (aJ := aJ3) (aL := aL3) (f := 3) (args := [.int .i64 n]) (Eq.mp (by kernel_rfl) h)
/-- weft/weftlaw01.DigitsReads -/
def V6 (H : Hp) (s : ByteArray) (K : Value → Hp → Prop) (Z : List PanicEntry → Hp → Prop) : Prop :=
  CallF Tryd.prog 27 #[.string s] H (fun r H1 => ∃ y_0 : Int, ∃ y_1 : Int, r = .tuple #[.int .i64 y_0, .int .i64 y_1] ∧ 
    CallF Tryd.prog 28 #[.string s] H1 (fun r1 H2 => ∃ y_01 : Int, ∃ y_11 : Int, r1 = .tuple #[.int .i64 y_01, .int .i64 y_11] ∧ 
    (((y_0 == y_01) = true → K (.bool (y_1 == y_11)) H2) ∧ ((y_0 == y_01) = false → K (.bool false) H2))) Z) Z
def aJ6 : Ann := (fun _ => none)
def aL6 : Ann := (fun _ => none)
theorem V6_ok {H : Hp} {s : ByteArray} {K : Value → Hp → Prop} {Z : List PanicEntry → Hp → Prop} (h : V6 H s K Z) : CallF Tryd.prog 6 #[.string s] H K Z :=
  fnC_sound (P := Tryd.prog) (aJ := aJ6) (aL := aL6) (f := 6) (args := [.string s]) (Eq.mp (by kernel_rfl) h)
/-- weft/weftlaw01.DigitsNames -/
def V5 (H : Hp) (s : ByteArray) (K : Value → Hp → Prop) (Z : List PanicEntry → Hp → Prop) : Prop :=
  CallF Tryd.prog 23 #[.string s] H (fun r H1 => ∃ y_0 : ByteArray, ∃ y_1 : ByteArray, r = .tuple #[.string y_0, .string y_1] ∧ 
    CallF Tryd.prog 24 #[.string s] H1 (fun r1 H2 => ∃ y_01 : ByteArray, ∃ y_11 : ByteArray, r1 = .tuple #[.string y_01, .string y_11] ∧ 
    CallF Tryd.prog 25 #[.string s] H2 (fun r2 H3 => ∃ y : Bool, r2 = .bool y ∧ CallF Tryd.prog 26 #[.string s] H3 (fun r3 H4 => 
    ∃ y1 : Bool, r3 = .bool y1 ∧ (((y == y1) = true → (((beqS y_0 y_01) = true → K (.bool (beqS y_1 y_11)) H4) ∧ 
    ((beqS y_0 y_01) = false → K (.bool false) H4))) ∧ ((y == y1) = false → K (.bool false) H4))) Z) Z) Z) Z
def aJ5 : Ann := (fun _ => none)
def aL5 : Ann := (fun _ => none)
theorem V5_ok {H : Hp} {s : ByteArray} {K : Value → Hp → Prop} {Z : List PanicEntry → Hp → Prop} (h : V5 H s K Z) : CallF Tryd.prog 5 #[.string s] H K Z :=
  fnC_sound (P := Tryd.prog) (aJ := aJ5) (aL := aL5) (f := 5) (args := [.string s]) (Eq.mp (by kernel_rfl) h)
/-- weft/weftlaw01.DigitsBack -/
def V7 (H : Hp) (n : Int) (s : ByteArray) (K : Value → Hp → Prop) (Z : List PanicEntry → Hp → Prop) : Prop :=
  CallF Tryd.prog 29 #[] H (fun r H1 => ∃ y : Bool, r = .bool y ∧ (((!y) = true → K (.bool false) H1) ∧ 
    ((!y) = false → CallF Tryd.prog 16 #[.int .i64 (w64 (Int.tmod (IntKind.wrap .u64 n) 268435457))] H1 (fun r1 H2 => 
    ∃ y1 : ByteArray, r1 = .string y1 ∧ CallF Tryd.prog 27 #[.string y1] H2 (fun r2 H3 => ∃ y_0 : Int, ∃ y_1 : Int, r2 = .tuple #[.int .i64 y_0, .int .i64 y_1] ∧ 
    CallF Tryd.prog 27 #[.string s] H3 (fun r3 H4 => ∃ y_01 : Int, ∃ y_11 : Int, r3 = .tuple #[.int .i64 y_01, .int .i64 y_11] ∧ 
    CallF Tryd.prog 23 #[.string s] H4 (fun r4 H5 => ∃ y_02 : ByteArray, ∃ y_12 : ByteArray, r4 = .tuple #[.string y_02, .string y_12] ∧ 
    (((y_0 == (w64 (Int.tmod (IntKind.wrap .u64 n) 268435457))) = true → (((y_1 == 0) = true → (((y_11 != 0) = true → 
    (y_02.size + y_12.size ≤ 4611686018427387904 ∧ (((beqS (y_02 ++ y_12) s) = true → CallF Tryd.prog 25 #[.string s] H5 (fun r5 H6 => 
    ∃ y2 : Bool, r5 = .bool y2 ∧ (((!y2) = true → K (.bool true) H6) ∧ ((!y2) = false → K (.bool (beqS y_02 s)) H6))) Z) ∧ 
    ((beqS (y_02 ++ y_12) s) = false → K (.bool false) H5)))) ∧ ((y_11 != 0) = false → CallF Tryd.prog 16 #[.int .i64 y_01] H5 (fun r6 H7 => 
    ∃ y3 : ByteArray, r6 = .string y3 ∧ (((beqS y3 s) = true → (y_02.size + y_12.size ≤ 4611686018427387904 ∧ 
    (((beqS (y_02 ++ y_12) s) = true → CallF Tryd.prog 25 #[.string s] H7 (fun r7 H8 => ∃ y4 : Bool, r7 = .bool y4 ∧ 
    (((!y4) = true → K (.bool true) H8) ∧ ((!y4) = false → K (.bool (beqS y_02 s)) H8))) Z) ∧ ((beqS (y_02 ++ y_12) s) = false → 
    K (.bool false) H7)))) ∧ ((beqS y3 s) = false → K (.bool false) H7))) Z))) ∧ ((y_1 == 0) = false → 
    K (.bool false) H5))) ∧ ((y_0 == (w64 (Int.tmod (IntKind.wrap .u64 n) 268435457))) = false → K (.bool false) H5))) Z) Z) Z) Z))) Z
def aJ7 : Ann := (fun _ => none)
def aL7 : Ann := (fun _ => none)
theorem V7_ok {H : Hp} {n : Int} {s : ByteArray} {K : Value → Hp → Prop} {Z : List PanicEntry → Hp → Prop} (h : V7 H n s K Z) : CallF Tryd.prog 7 #[.int .i64 n, .string s] H K Z :=
  fnC_sound (P := Tryd.prog) (aJ := aJ7) (aL := aL7) (f := 7) (args := [.int .i64 n, .string s]) (Eq.mp (by kernel_rfl) h)
/-- weft/weftlaw01.works -/
def V29 (H : Hp)  (K : Value → Hp → Prop) (Z : List PanicEntry → Hp → Prop) : Prop :=
  CallF Tryd.prog 23 #[.string ⟨#[97, 98, 49, 43, 99]⟩] H (fun r H1 => ∃ y_0 : ByteArray, ∃ y_1 : ByteArray, r = .tuple #[.string y_0, .string y_1] ∧ 
    CallF Tryd.prog 16 #[.int .i64 (-5)] H1 (fun r1 H2 => ∃ y : ByteArray, r1 = .string y ∧ (((beqS y ⟨#[45, 53]⟩) = true → 
    CallF Tryd.prog 25 #[.string ⟨#[97, 95, 49]⟩] H2 (fun r2 H3 => ∃ y1 : Bool, r2 = .bool y1 ∧ ((y1 = true → 
    (((beqS y_0 ⟨#[97, 98, 49]⟩) = true → K (.bool (beqS y_1 ⟨#[43, 99]⟩)) H3) ∧ ((beqS y_0 ⟨#[97, 98, 49]⟩) = false → 
    K (.bool false) H3))) ∧ (y1 = false → K (.bool false) H3))) Z) ∧ ((beqS y ⟨#[45, 53]⟩) = false → 
    K (.bool false) H2))) Z) Z
def aJ29 : Ann := (fun _ => none)
def aL29 : Ann := (fun _ => none)
theorem V29_ok {H : Hp}  {K : Value → Hp → Prop} {Z : List PanicEntry → Hp → Prop} (h : V29 H  K Z) : CallF Tryd.prog 29 #[] H K Z :=
  fnC_sound (P := Tryd.prog) (aJ := aJ29) (aL := aL29) (f := 29) (args := []) (Eq.mp (by kernel_rfl) h)
end Go.Proofs.YthaejcmllibeoaaDoor.N01

