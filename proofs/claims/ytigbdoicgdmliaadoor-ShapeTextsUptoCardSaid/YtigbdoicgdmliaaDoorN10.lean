/- The conditions of shape's functions, and of weftref10's and weftlaw10's (printed by our own program vn.py; the kernel checks each against V5's comp). -/
import Derived.Test.YtigbdoicgdmliaaDoorV8
import Derived.Test.YtigbdoicgdmliaaDoorProg
set_option linter.unusedVariables false
set_option maxRecDepth 100000
-- great: 25
-- deep: 48
-- text: 51
-- rText: 71
-- rPlain: 79
-- sText: 26
-- sTag: 28
-- qText: 27
-- qtext: 52
-- qTag: 29
-- works: 30
-- structs: 53
-- cells: 31
-- cells1: 55
-- size: 32
-- cell: 33
-- begins: 34
-- begins1: 62
-- check: 54
-- fields: 58
-- room: 59
-- down: 60
-- look: 72
-- of: 73
-- of1: 81
-- ixS: 80
-- ixB: 74
-- conB: 61
-- bLen: 57
-- lawTexts: 5
-- lawAll: 6
namespace Go.Proofs.YtigbdoicgdmliaaDoor.N10
open Go Go.V Go.Proofs
/-- weft/weftlaw10.Great -/
def V25 (H : Hp) (l : Sl) (t_a : Int) (t_b : ByteArray) (t_c : Int) (t_d : Sl) (K : Value → Hp → Prop) (Z : List PanicEntry → Hp → Prop) : Prop :=
  ∀ bT H1, Newb H (.cells #[.int .i64 t_a, .string t_b, .int .i64 t_c, .slice t_d.a t_d.n t_d.c] 51) bT H1 → 
    ∃ J : Hp → Prop, (∀ H2, J  H2 → ∀ scr : Nat → Value, ∃ I : Int → Hp → Nat → Prop, (∃ m, I 0 H2 m) ∧ 
    ∀ (i : Int), ∀ H3 m1, I i H3 m1 → ∀ scr1 : Nat → Value, (((decide (i < (l.n : Int))) = true → ∃ J1 : Hp → 
    Prop, (∀ H4, J1  H4 → ∀ scr2 : Nat → Value, ∃ I1 : Int → Hp → Nat → Prop, (∃ m3, I1 0 H4 m3) ∧ ∀ (k : Int), ∀ H5 m4, I1 k H5 m4 → 
    ∀ scr3 : Nat → Value, IxA l.a l.n i 2 fun ad => (∃ x : Sl, hcell H5 (Addr.add ad 1) = some (.slice x.a x.n x.c) ∧ 
    (((decide (k < (x.n : Int))) = true → IxA l.a l.n i 2 fun ad1 => (∃ x1 : Sl, hcell H5 (Addr.add ad1 1) = some (.slice x1.a x1.n x1.c) ∧ 
    IxA x1.a x1.n k 5 fun ad2 => (∃ x2 : ByteArray, hcell H5 ad2 = some (.string x2) ∧ (((decide ((x2.size : Int) > 100)) = true → 
    K (.bool true) H5) ∧ ((decide ((x2.size : Int) > 100)) = false → IxA l.a l.n i 2 fun ad3 => (∃ x3 : Sl, hcell H5 (Addr.add ad3 1) = some (.slice x3.a x3.n x3.c) ∧ 
    IxA x3.a x3.n k 5 fun ad4 => (∃ x_a : Int, ∃ x_b : ByteArray, ∃ x_c : Int, ∃ x_d : Sl, (hcell H5 (Addr.add ad4 1) = some (.int .i64 x_a) ∧ 
    hcell H5 (Addr.add (Addr.add ad4 1) 1) = some (.string x_b) ∧ hcell H5 (Addr.add (Addr.add ad4 1) 2) = some (.int .i64 x_c) ∧ 
    hcell H5 (Addr.add (Addr.add ad4 1) 3) = some (.slice x_d.a x_d.n x_d.c) ∧ True) ∧ CallF Tryd.prog 48 #[.agg #[.int .i64 x_a, .string x_b, .int .i64 x_c, .slice x_d.a x_d.n x_d.c], .int .i64 8] H5 (fun r H6 => 
    ∃ y : Bool, r = .bool y ∧ ((y = true → K (.bool true) H6) ∧ (y = false → (∃ m5, m5 < m4 ∧ I1 (w64 (k + 1)) H6 m5)))) Z))))))) ∧ 
    ((decide (k < (x.n : Int))) = false → (∃ m2, m2 < m1 ∧ I (w64 (i + 1)) H5 m2))))) ∧ IxA l.a l.n i 2 fun ad5 => 
    (∃ x4 : ByteArray, hcell H3 ad5 = some (.string x4) ∧ (((decide ((x4.size : Int) > 100)) = true → 
    K (.bool true) H3) ∧ ((decide ((x4.size : Int) > 100)) = false → IxA l.a l.n i 2 fun ad6 => (∃ x5 : Sl, hcell H3 (Addr.add ad6 1) = some (.slice x5.a x5.n x5.c) ∧ 
    (((decide ((x5.n : Int) > 20)) = true → K (.bool true) H3) ∧ ((decide ((x5.n : Int) > 20)) = false → 
    (J1  H3)))))))) ∧ ((decide (i < (l.n : Int))) = false → K (.bool false) H3))) ∧ (((decide ((l.n : Int) > 30)) = true → 
    K (.bool true) H1) ∧ ((decide ((l.n : Int) > 30)) = false → ∃ x_a1 : Int, ∃ x_b1 : ByteArray, ∃ x_c1 : Int, ∃ x_d1 : Sl, (hcell H1 ⟨bT, 0, none⟩ = some (.int .i64 x_a1) ∧ 
    hcell H1 ⟨bT, 1, none⟩ = some (.string x_b1) ∧ hcell H1 ⟨bT, 2, none⟩ = some (.int .i64 x_c1) ∧ hcell H1 ⟨bT, 3, none⟩ = some (.slice x_d1.a x_d1.n x_d1.c) ∧ 
    True) ∧ CallF Tryd.prog 48 #[.agg #[.int .i64 x_a1, .string x_b1, .int .i64 x_c1, .slice x_d1.a x_d1.n x_d1.c], .int .i64 8] H1 (fun r1 H7 => 
    ∃ y1 : Bool, r1 = .bool y1 ∧ ((y1 = true → K (.bool true) H7) ∧ (y1 = false → (J  H7)))) Z))
def aJ25 : Ann := (fun k => if k = 3 then some [] else if k = 8 then some [] else none)
def aL25 : Ann := (fun k => if k = 4 then some [(5, (.sc (.int .i64)))] else if k = 9 then some [(6, (.sc (.int .i64)))] else none)
theorem V25_ok {H : Hp} {l : Sl} {t_a : Int} {t_b : ByteArray} {t_c : Int} {t_d : Sl} {K : Value → Hp → Prop} {Z : List PanicEntry → Hp → Prop} (h : V25 H l t_a t_b t_c t_d K Z) : CallF Tryd.prog 25 #[.slice l.a l.n l.c, .agg #[.int .i64 t_a, .string t_b, .int .i64 t_c, .slice t_d.a t_d.n t_d.c]] H K Z :=
  fnC_sound (P := Tryd.prog) (aJ := aJ25) (aL := aL25) (f := 25) (args := [.slice l.a l.n l.c, .agg #[.int .i64 t_a, .string t_b, .int .i64 t_c, .slice t_d.a t_d.n t_d.c]]) (Eq.mp (by kernel_rfl) h)
/-- weft/weftlaw10.deep -/
def V48 (H : Hp) (t_a : Int) (t_b : ByteArray) (t_c : Int) (t_d : Sl) (left : Int) (K : Value → Hp → Prop) (Z : List PanicEntry → Hp → Prop) : Prop :=
  ∀ bT H1, Newb H (.cells #[.int .i64 t_a, .string t_b, .int .i64 t_c, .slice t_d.a t_d.n t_d.c] 51) bT H1 → 
    ∃ J : Hp → Prop, (∀ H2, J  H2 → ∀ scr : Nat → Value, ∃ I : Int → Hp → Nat → Prop, (∃ m, I 0 H2 m) ∧ 
    ∀ (i : Int), ∀ H3 m1, I i H3 m1 → ∀ scr1 : Nat → Value, ∃ x : Sl, hcell H3 ⟨bT, 3, none⟩ = some (.slice x.a x.n x.c) ∧ 
    (((decide (i < (x.n : Int))) = true → ∃ x1 : Sl, hcell H3 ⟨bT, 3, none⟩ = some (.slice x1.a x1.n x1.c) ∧ 
    IxA x1.a x1.n i 4 fun ad => (∃ x_a : Int, ∃ x_b : ByteArray, ∃ x_c : Int, ∃ x_d : Sl, (hcell H3 ad = some (.int .i64 x_a) ∧ 
    hcell H3 (Addr.add ad 1) = some (.string x_b) ∧ hcell H3 (Addr.add ad 2) = some (.int .i64 x_c) ∧ 
    hcell H3 (Addr.add ad 3) = some (.slice x_d.a x_d.n x_d.c) ∧ True) ∧ CallF Tryd.prog 48 #[.agg #[.int .i64 x_a, .string x_b, .int .i64 x_c, .slice x_d.a x_d.n x_d.c], .int .i64 (w64 (left - 1))] H3 (fun r H4 => 
    ∃ y : Bool, r = .bool y ∧ ((y = true → K (.bool true) H4) ∧ (y = false → (∃ m2, m2 < m1 ∧ I (w64 (i + 1)) H4 m2)))) Z)) ∧ 
    ((decide (i < (x.n : Int))) = false → K (.bool false) H3))) ∧ (((left == 0) = true → K (.bool true) H1) ∧ 
    ((left == 0) = false → ∃ x2 : ByteArray, hcell H1 ⟨bT, 1, none⟩ = some (.string x2) ∧ (((decide ((x2.size : Int) > 100)) = true → 
    K (.bool true) H1) ∧ ((decide ((x2.size : Int) > 100)) = false → ∃ x3 : Sl, hcell H1 ⟨bT, 3, none⟩ = some (.slice x3.a x3.n x3.c) ∧ 
    (((decide ((x3.n : Int) > 3)) = true → K (.bool true) H1) ∧ ((decide ((x3.n : Int) > 3)) = false → 
    (J  H1)))))))
def aJ48 : Ann := (fun k => if k = 3 then some [] else none)
def aL48 : Ann := (fun k => if k = 4 then some [(5, (.sc (.int .i64)))] else none)
theorem V48_ok {H : Hp} {t_a : Int} {t_b : ByteArray} {t_c : Int} {t_d : Sl} {left : Int} {K : Value → Hp → Prop} {Z : List PanicEntry → Hp → Prop} (h : V48 H t_a t_b t_c t_d left K Z) : CallF Tryd.prog 48 #[.agg #[.int .i64 t_a, .string t_b, .int .i64 t_c, .slice t_d.a t_d.n t_d.c], .int .i64 left] H K Z :=
  fnC_sound (P := Tryd.prog) (aJ := aJ48) (aL := aL48) (f := 48) (args := [.agg #[.int .i64 t_a, .string t_b, .int .i64 t_c, .slice t_d.a t_d.n t_d.c], .int .i64 left]) (Eq.mp (by kernel_rfl) h)
/-- weft/digits.Text -/
def V51 (H : Hp) (n : Int) (K : Value → Hp → Prop) (Z : List PanicEntry → Hp → Prop) : Prop :=
  CallF Tryd.prog 70 #[.int .i64 n] H (fun r H1 => ∃ y : ByteArray, r = .string y ∧ K (.string y) H1) Z
def aJ51 : Ann := (fun _ => none)
def aL51 : Ann := (fun _ => none)
theorem V51_ok {H : Hp} {n : Int} {K : Value → Hp → Prop} {Z : List PanicEntry → Hp → Prop} (h : V51 H n K Z) : CallF Tryd.prog 51 #[.int .i64 n] H K Z :=
  fnC_sound (P := Tryd.prog) (aJ := aJ51) (aL := aL51) (f := 51) (args := [.int .i64 n]) (Eq.mp (by kernel_rfl) h)
/-- weft/weftref01.Text -/
def V71 (H : Hp) (n : Int) (K : Value → Hp → Prop) (Z : List PanicEntry → Hp → Prop) : Prop :=
  (((decide (n ≥ 0)) = true → CallF Tryd.prog 79 #[.int .u64 (IntKind.wrap .u64 n)] H (fun r H1 => ∃ y : ByteArray, r = .string y ∧ 
    K (.string y) H1) Z) ∧ ((decide (n ≥ 0)) = false → CallF Tryd.prog 79 #[.int .u64 (IntKind.wrap .u64 (0 - (IntKind.wrap .u64 n)))] H (fun r1 H2 => 
    ∃ y1 : ByteArray, r1 = .string y1 ∧ ((⟨#[45]⟩ : ByteArray).size + y1.size ≤ 4611686018427387904 ∧ 
    K (.string ((⟨#[45]⟩ : ByteArray) ++ y1)) H2)) Z))
def aJ71 : Ann := (fun _ => none)
def aL71 : Ann := (fun _ => none)
theorem V71_ok {H : Hp} {n : Int} {K : Value → Hp → Prop} {Z : List PanicEntry → Hp → Prop} (h : V71 H n K Z) : CallF Tryd.prog 71 #[.int .i64 n] H K Z :=
  fnC_sound (P := Tryd.prog) (aJ := aJ71) (aL := aL71) (f := 71) (args := [.int .i64 n]) (Eq.mp (by kernel_rfl) h)
/-- weft/weftref01.plain -/
def V79 (H : Hp) (n : Int) (K : Value → Hp → Prop) (Z : List PanicEntry → Hp → Prop) : Prop :=
  ∀ b H1, Newb H (.cells #[.int .u8 (IntKind.wrap .u8 (48 + (IntKind.wrap .u8 (Int.tmod n 10))))] 5) b H1 → 
    Cvt Tryd.prog 85 9 H1 (.slice (some ⟨b, 0, none⟩) 1 1) fun r H2 => ∃ cv : ByteArray, r = .string cv ∧ 
    ∃ I : Int → ByteArray → Hp → Nat → Prop, (∃ m, I n cv H2 m) ∧ ∀ (n1 : Int) (s : ByteArray), ∀ H3 m1, I n1 s H3 m1 → 
    ∀ scr : Nat → Value, (((decide (n1 ≥ 10)) = true → ∀ b1 H4, Newb H3 (.cells #[.int .u8 (IntKind.wrap .u8 (48 + (IntKind.wrap .u8 (Int.tmod (IntKind.wrap .u64 (Int.tdiv n1 10)) 10))))] 5) b1 H4 → 
    Cvt Tryd.prog 85 9 H4 (.slice (some ⟨b1, 0, none⟩) 1 1) fun r1 H5 => ∃ cv1 : ByteArray, r1 = .string cv1 ∧ 
    (cv1.size + s.size ≤ 4611686018427387904 ∧ (∃ m2, m2 < m1 ∧ I (IntKind.wrap .u64 (Int.tdiv n1 10)) (cv1 ++ s) H5 m2))) ∧ 
    ((decide (n1 ≥ 10)) = false → K (.string s) H3))
def aJ79 : Ann := (fun _ => none)
def aL79 : Ann := (fun k => if k = 2 then some [(0, (.sc (.int .u64))), (3, (.sc .str))] else none)
theorem V79_ok {H : Hp} {n : Int} {K : Value → Hp → Prop} {Z : List PanicEntry → Hp → Prop} (h : V79 H n K Z) : CallF Tryd.prog 79 #[.int .u64 n] H K Z :=
  fnC_sound (P := Tryd.prog) (aJ := aJ79) (aL := aL79) (f := 79) (args := [.int .u64 n]) (Eq.mp (by kernel_rfl) h)
/-- weft/shape.Text -/
def V26 (H : Hp) (t_a : Int) (t_b : ByteArray) (t_c : Int) (t_d : Sl) (K : Value → Hp → Prop) (Z : List PanicEntry → Hp → Prop) : Prop :=
  ∀ bT H1, Newb H (.cells #[.int .i64 t_a, .string t_b, .int .i64 t_c, .slice t_d.a t_d.n t_d.c] 51) bT H1 → 
    ∀ bB H2, Newb H1 (.cells #[.pointer none, .slice none 0 0] 87) bB H2 → ∃ I : Int → Hp → Nat → Prop, (∃ m, I 0 H2 m) ∧ 
    ∀ (t4 : Int), ∀ H3 m1, I t4 H3 m1 → ∀ scr : Nat → Value, (((decide (t4 < 4)) = true → ∃ x : Int, hcell H3 ⟨bT, 0, none⟩ = some (.int .i64 x) ∧ 
    (((x == 1) = true → CallF Tryd.prog 49 #[.pointer (some ⟨bB, 0, none⟩)] H3 (fun r H4 => ∃ y : ByteArray, r = .string y ∧ 
    (y.size + (⟨#[105, 110, 116]⟩ : ByteArray).size ≤ 4611686018427387904 ∧ K (.string (y ++ (⟨#[105, 110, 116]⟩ : ByteArray))) H4)) Z) ∧ 
    ((x == 1) = false → ∃ x1 : Int, hcell H3 ⟨bT, 0, none⟩ = some (.int .i64 x1) ∧ (((x1 == 2) = true → 
    CallF Tryd.prog 49 #[.pointer (some ⟨bB, 0, none⟩)] H3 (fun r1 H5 => ∃ y1 : ByteArray, r1 = .string y1 ∧ 
    (y1.size + (⟨#[112, 116, 114]⟩ : ByteArray).size ≤ 4611686018427387904 ∧ K (.string (y1 ++ (⟨#[112, 116, 114]⟩ : ByteArray))) H5)) Z) ∧ 
    ((x1 == 2) = false → ∃ x2 : Int, hcell H3 ⟨bT, 0, none⟩ = some (.int .i64 x2) ∧ (((x2 == 3) = true → 
    ∃ x3 : ByteArray, hcell H3 ⟨bT, 1, none⟩ = some (.string x3) ∧ CallF Tryd.prog 49 #[.pointer (some ⟨bB, 0, none⟩)] H3 (fun r2 H6 => 
    ∃ y2 : ByteArray, r2 = .string y2 ∧ (hcell H6 ⟨bT, 1, none⟩ = some (.string x3) ∧ (y2.size + (⟨#[115, 116, 114, 117, 99, 116, 32]⟩ : ByteArray).size ≤ 4611686018427387904 ∧ 
    ((y2 ++ (⟨#[115, 116, 114, 117, 99, 116, 32]⟩ : ByteArray)).size + x3.size ≤ 4611686018427387904 ∧ 
    K (.string ((y2 ++ (⟨#[115, 116, 114, 117, 99, 116, 32]⟩ : ByteArray)) ++ x3)) H6)))) Z) ∧ ((x2 == 3) = false → 
    ∃ x4 : Int, hcell H3 ⟨bT, 0, none⟩ = some (.int .i64 x4) ∧ (((x4 != 4) = true → CallF Tryd.prog 49 #[.pointer (some ⟨bB, 0, none⟩)] H3 (fun r3 H7 => 
    ∃ y3 : ByteArray, r3 = .string y3 ∧ (y3.size + (⟨#[63]⟩ : ByteArray).size ≤ 4611686018427387904 ∧ 
    K (.string (y3 ++ (⟨#[63]⟩ : ByteArray))) H7)) Z) ∧ ((x4 != 4) = false → ∃ x5 : Sl, hcell H3 ⟨bT, 3, none⟩ = some (.slice x5.a x5.n x5.c) ∧ 
    ((((x5.n : Int) != 1) = true → CallF Tryd.prog 49 #[.pointer (some ⟨bB, 0, none⟩)] H3 (fun r4 H8 => 
    ∃ y4 : ByteArray, r4 = .string y4 ∧ (y4.size + (⟨#[63]⟩ : ByteArray).size ≤ 4611686018427387904 ∧ 
    K (.string (y4 ++ (⟨#[63]⟩ : ByteArray))) H8)) Z) ∧ (((x5.n : Int) != 1) = false → ∃ x6 : Int, hcell H3 ⟨bT, 2, none⟩ = some (.int .i64 x6) ∧ 
    CallF Tryd.prog 51 #[.int .i64 x6] H3 (fun r5 H9 => ∃ y5 : ByteArray, r5 = .string y5 ∧ ((⟨#[91]⟩ : ByteArray).size + y5.size ≤ 4611686018427387904 ∧ 
    (((⟨#[91]⟩ : ByteArray) ++ y5).size + (⟨#[93]⟩ : ByteArray).size ≤ 4611686018427387904 ∧ CallF Tryd.prog 50 #[.pointer (some ⟨bB, 0, none⟩), .string (((⟨#[91]⟩ : ByteArray) ++ y5) ++ (⟨#[93]⟩ : ByteArray))] H9 (fun r6 H10 => 
    ∃ y_0 : Int, ∃ y_1 : Value, r6 = .tuple #[.int .i64 y_0, y_1] ∧ ∃ x7 : Sl, hcell H10 ⟨bT, 3, none⟩ = some (.slice x7.a x7.n x7.c) ∧ 
    IxA x7.a x7.n 0 4 fun ad => (∃ x_a : Int, ∃ x_b : ByteArray, ∃ x_c : Int, ∃ x_d : Sl, (hcell H10 ad = some (.int .i64 x_a) ∧ 
    hcell H10 (Addr.add ad 1) = some (.string x_b) ∧ hcell H10 (Addr.add ad 2) = some (.int .i64 x_c) ∧ 
    hcell H10 (Addr.add ad 3) = some (.slice x_d.a x_d.n x_d.c) ∧ True) ∧ StL ⟨bT, 0, none⟩ 0 [.int .i64 x_a, .string x_b, .int .i64 x_c, .slice x_d.a x_d.n x_d.c] H10 fun H11 => 
    (∃ m2, m2 < m1 ∧ I (w64 (t4 + 1)) H11 m2))) Z))) Z))))))))))) ∧ ((decide (t4 < 4)) = false → CallF Tryd.prog 49 #[.pointer (some ⟨bB, 0, none⟩)] H3 (fun r7 H12 => 
    ∃ y6 : ByteArray, r7 = .string y6 ∧ (y6.size + (⟨#[63]⟩ : ByteArray).size ≤ 4611686018427387904 ∧ 
    K (.string (y6 ++ (⟨#[63]⟩ : ByteArray))) H12)) Z))
def aJ26 : Ann := (fun k => if k = 2000009 then some [] else none)
def aL26 : Ann := (fun k => if k = 3 then some [(4, (.sc (.int .i64)))] else none)
theorem V26_ok {H : Hp} {t_a : Int} {t_b : ByteArray} {t_c : Int} {t_d : Sl} {K : Value → Hp → Prop} {Z : List PanicEntry → Hp → Prop} (h : V26 H t_a t_b t_c t_d K Z) : CallF Tryd.prog 26 #[.agg #[.int .i64 t_a, .string t_b, .int .i64 t_c, .slice t_d.a t_d.n t_d.c]] H K Z :=
  fnC_sound (P := Tryd.prog) (aJ := aJ26) (aL := aL26) (f := 26) (args := [.agg #[.int .i64 t_a, .string t_b, .int .i64 t_c, .slice t_d.a t_d.n t_d.c]]) (Eq.mp (by kernel_rfl) h)
/-- weft/shape.Tag -/
def V28 (H : Hp) (elem_a : Int) (elem_b : ByteArray) (elem_c : Int) (elem_d : Sl) (K : Value → Hp → Prop) (Z : List PanicEntry → Hp → Prop) : Prop :=
  ∀ bElem H1, Newb H (.cells #[.int .i64 elem_a, .string elem_b, .int .i64 elem_c, .slice elem_d.a elem_d.n elem_d.c] 51) bElem H1 → 
    ∃ x_a : Int, ∃ x_b : ByteArray, ∃ x_c : Int, ∃ x_d : Sl, (hcell H1 ⟨bElem, 0, none⟩ = some (.int .i64 x_a) ∧ 
    hcell H1 ⟨bElem, 1, none⟩ = some (.string x_b) ∧ hcell H1 ⟨bElem, 2, none⟩ = some (.int .i64 x_c) ∧ 
    hcell H1 ⟨bElem, 3, none⟩ = some (.slice x_d.a x_d.n x_d.c) ∧ True) ∧ CallF Tryd.prog 26 #[.agg #[.int .i64 x_a, .string x_b, .int .i64 x_c, .slice x_d.a x_d.n x_d.c]] H1 (fun r H2 => 
    ∃ y : ByteArray, r = .string y ∧ ((⟨#[91, 93]⟩ : ByteArray).size + y.size ≤ 4611686018427387904 ∧ 
    K (.string ((⟨#[91, 93]⟩ : ByteArray) ++ y)) H2)) Z
def aJ28 : Ann := (fun _ => none)
def aL28 : Ann := (fun _ => none)
theorem V28_ok {H : Hp} {elem_a : Int} {elem_b : ByteArray} {elem_c : Int} {elem_d : Sl} {K : Value → Hp → Prop} {Z : List PanicEntry → Hp → Prop} (h : V28 H elem_a elem_b elem_c elem_d K Z) : CallF Tryd.prog 28 #[.agg #[.int .i64 elem_a, .string elem_b, .int .i64 elem_c, .slice elem_d.a elem_d.n elem_d.c]] H K Z :=
  fnC_sound (P := Tryd.prog) (aJ := aJ28) (aL := aL28) (f := 28) (args := [.agg #[.int .i64 elem_a, .string elem_b, .int .i64 elem_c, .slice elem_d.a elem_d.n elem_d.c]]) (Eq.mp (by kernel_rfl) h)
/-- weft/weftref10.Text -/
def V27 (H : Hp) (t_a : Int) (t_b : ByteArray) (t_c : Int) (t_d : Sl) (K : Value → Hp → Prop) (Z : List PanicEntry → Hp → Prop) : Prop :=
  ∀ bT H1, Newb H (.cells #[.int .i64 t_a, .string t_b, .int .i64 t_c, .slice t_d.a t_d.n t_d.c] 51) bT H1 → 
    ∃ x_a : Int, ∃ x_b : ByteArray, ∃ x_c : Int, ∃ x_d : Sl, (hcell H1 ⟨bT, 0, none⟩ = some (.int .i64 x_a) ∧ 
    hcell H1 ⟨bT, 1, none⟩ = some (.string x_b) ∧ hcell H1 ⟨bT, 2, none⟩ = some (.int .i64 x_c) ∧ hcell H1 ⟨bT, 3, none⟩ = some (.slice x_d.a x_d.n x_d.c) ∧ 
    True) ∧ CallF Tryd.prog 52 #[.agg #[.int .i64 x_a, .string x_b, .int .i64 x_c, .slice x_d.a x_d.n x_d.c], .int .i64 1] H1 (fun r H2 => 
    ∃ y : ByteArray, r = .string y ∧ K (.string y) H2) Z
def aJ27 : Ann := (fun _ => none)
def aL27 : Ann := (fun _ => none)
theorem V27_ok {H : Hp} {t_a : Int} {t_b : ByteArray} {t_c : Int} {t_d : Sl} {K : Value → Hp → Prop} {Z : List PanicEntry → Hp → Prop} (h : V27 H t_a t_b t_c t_d K Z) : CallF Tryd.prog 27 #[.agg #[.int .i64 t_a, .string t_b, .int .i64 t_c, .slice t_d.a t_d.n t_d.c]] H K Z :=
  fnC_sound (P := Tryd.prog) (aJ := aJ27) (aL := aL27) (f := 27) (args := [.agg #[.int .i64 t_a, .string t_b, .int .i64 t_c, .slice t_d.a t_d.n t_d.c]]) (Eq.mp (by kernel_rfl) h)
/-- weft/weftref10.text -/
def V52 (H : Hp) (t_a : Int) (t_b : ByteArray) (t_c : Int) (t_d : Sl) (deep : Int) (K : Value → Hp → Prop) (Z : List PanicEntry → Hp → Prop) : Prop :=
  ∀ bT H1, Newb H (.cells #[.int .i64 t_a, .string t_b, .int .i64 t_c, .slice t_d.a t_d.n t_d.c] 51) bT H1 → 
    (((decide (deep > 4)) = true → K (.string ⟨#[63]⟩) H1) ∧ ((decide (deep > 4)) = false → ∃ x : Int, hcell H1 ⟨bT, 0, none⟩ = some (.int .i64 x) ∧ 
    (((x == 1) = true → K (.string ⟨#[105, 110, 116]⟩) H1) ∧ ((x == 1) = false → ∃ x1 : Int, hcell H1 ⟨bT, 0, none⟩ = some (.int .i64 x1) ∧ 
    (((x1 == 2) = true → K (.string ⟨#[112, 116, 114]⟩) H1) ∧ ((x1 == 2) = false → ∃ x2 : Int, hcell H1 ⟨bT, 0, none⟩ = some (.int .i64 x2) ∧ 
    (((x2 == 3) = true → ∃ x3 : ByteArray, hcell H1 ⟨bT, 1, none⟩ = some (.string x3) ∧ ((⟨#[115, 116, 114, 117, 99, 116, 32]⟩ : ByteArray).size + x3.size ≤ 4611686018427387904 ∧ 
    K (.string ((⟨#[115, 116, 114, 117, 99, 116, 32]⟩ : ByteArray) ++ x3)) H1)) ∧ ((x2 == 3) = false → 
    ∃ x4 : Int, hcell H1 ⟨bT, 0, none⟩ = some (.int .i64 x4) ∧ (((x4 == 4) = true → ∃ x5 : Sl, hcell H1 ⟨bT, 3, none⟩ = some (.slice x5.a x5.n x5.c) ∧ 
    ((((x5.n : Int) == 1) = true → ∃ x6 : Int, hcell H1 ⟨bT, 2, none⟩ = some (.int .i64 x6) ∧ ∃ x7 : Sl, hcell H1 ⟨bT, 3, none⟩ = some (.slice x7.a x7.n x7.c) ∧ 
    IxA x7.a x7.n 0 4 fun ad => (∃ x_a : Int, ∃ x_b : ByteArray, ∃ x_c : Int, ∃ x_d : Sl, (hcell H1 ad = some (.int .i64 x_a) ∧ 
    hcell H1 (Addr.add ad 1) = some (.string x_b) ∧ hcell H1 (Addr.add ad 2) = some (.int .i64 x_c) ∧ 
    hcell H1 (Addr.add ad 3) = some (.slice x_d.a x_d.n x_d.c) ∧ True) ∧ CallF Tryd.prog 71 #[.int .i64 x6] H1 (fun r H2 => 
    ∃ y : ByteArray, r = .string y ∧ ((hcell H2 ad = some (.int .i64 x_a) ∧ hcell H2 (Addr.add ad 1) = some (.string x_b) ∧ 
    hcell H2 (Addr.add ad 2) = some (.int .i64 x_c) ∧ hcell H2 (Addr.add ad 3) = some (.slice x_d.a x_d.n x_d.c) ∧ 
    True) ∧ (hcell H2 ⟨bT, 3, none⟩ = some (.slice x7.a x7.n x7.c) ∧ ((⟨#[91]⟩ : ByteArray).size + y.size ≤ 4611686018427387904 ∧ 
    (((⟨#[91]⟩ : ByteArray) ++ y).size + (⟨#[93]⟩ : ByteArray).size ≤ 4611686018427387904 ∧ CallF Tryd.prog 52 #[.agg #[.int .i64 x_a, .string x_b, .int .i64 x_c, .slice x_d.a x_d.n x_d.c], .int .i64 (w64 (deep + 1))] H2 (fun r1 H3 => 
    ∃ y1 : ByteArray, r1 = .string y1 ∧ ((((⟨#[91]⟩ : ByteArray) ++ y) ++ (⟨#[93]⟩ : ByteArray)).size + y1.size ≤ 4611686018427387904 ∧ 
    K (.string ((((⟨#[91]⟩ : ByteArray) ++ y) ++ (⟨#[93]⟩ : ByteArray)) ++ y1)) H3)) Z))))) Z)) ∧ (((x5.n : Int) == 1) = false → 
    K (.string ⟨#[63]⟩) H1))) ∧ ((x4 == 4) = false → K (.string ⟨#[63]⟩) H1))))))))))
def aJ52 : Ann := (fun k => if k = 2000010 then some [] else none)
def aL52 : Ann := (fun _ => none)
theorem V52_ok {H : Hp} {t_a : Int} {t_b : ByteArray} {t_c : Int} {t_d : Sl} {deep : Int} {K : Value → Hp → Prop} {Z : List PanicEntry → Hp → Prop} (h : V52 H t_a t_b t_c t_d deep K Z) : CallF Tryd.prog 52 #[.agg #[.int .i64 t_a, .string t_b, .int .i64 t_c, .slice t_d.a t_d.n t_d.c], .int .i64 deep] H K Z :=
  fnC_sound (P := Tryd.prog) (aJ := aJ52) (aL := aL52) (f := 52) (args := [.agg #[.int .i64 t_a, .string t_b, .int .i64 t_c, .slice t_d.a t_d.n t_d.c], .int .i64 deep]) (Eq.mp (by kernel_rfl) h)
/-- weft/weftref10.Tag -/
def V29 (H : Hp) (elem_a : Int) (elem_b : ByteArray) (elem_c : Int) (elem_d : Sl) (K : Value → Hp → Prop) (Z : List PanicEntry → Hp → Prop) : Prop :=
  ∀ bElem H1, Newb H (.cells #[.int .i64 elem_a, .string elem_b, .int .i64 elem_c, .slice elem_d.a elem_d.n elem_d.c] 51) bElem H1 → 
    ∃ x_a : Int, ∃ x_b : ByteArray, ∃ x_c : Int, ∃ x_d : Sl, (hcell H1 ⟨bElem, 0, none⟩ = some (.int .i64 x_a) ∧ 
    hcell H1 ⟨bElem, 1, none⟩ = some (.string x_b) ∧ hcell H1 ⟨bElem, 2, none⟩ = some (.int .i64 x_c) ∧ 
    hcell H1 ⟨bElem, 3, none⟩ = some (.slice x_d.a x_d.n x_d.c) ∧ True) ∧ CallF Tryd.prog 27 #[.agg #[.int .i64 x_a, .string x_b, .int .i64 x_c, .slice x_d.a x_d.n x_d.c]] H1 (fun r H2 => 
    ∃ y : ByteArray, r = .string y ∧ ((⟨#[91, 93]⟩ : ByteArray).size + y.size ≤ 4611686018427387904 ∧ 
    K (.string ((⟨#[91, 93]⟩ : ByteArray) ++ y)) H2)) Z
def aJ29 : Ann := (fun _ => none)
def aL29 : Ann := (fun _ => none)
theorem V29_ok {H : Hp} {elem_a : Int} {elem_b : ByteArray} {elem_c : Int} {elem_d : Sl} {K : Value → Hp → Prop} {Z : List PanicEntry → Hp → Prop} (h : V29 H elem_a elem_b elem_c elem_d K Z) : CallF Tryd.prog 29 #[.agg #[.int .i64 elem_a, .string elem_b, .int .i64 elem_c, .slice elem_d.a elem_d.n elem_d.c]] H K Z :=
  fnC_sound (P := Tryd.prog) (aJ := aJ29) (aL := aL29) (f := 29) (args := [.agg #[.int .i64 elem_a, .string elem_b, .int .i64 elem_c, .slice elem_d.a elem_d.n elem_d.c]]) (Eq.mp (by kernel_rfl) h)
/-- weft/weftlaw10.works -/
def V30 (H : Hp)  (K : Value → Hp → Prop) (Z : List PanicEntry → Hp → Prop) : Prop :=
  ∀ bS H1, Newb H (.cells #[.int .i64 0, .string ⟨#[]⟩, .int .i64 0, .slice none 0 0] 51) bS H1 → StL ⟨bS, 0, none⟩ 0 [.int .i64 3, .string ⟨#[83]⟩, .int .i64 0, .slice none 0 0] H1 fun H2 => 
    (∃ x_a : Int, ∃ x_b : ByteArray, ∃ x_c : Int, ∃ x_d : Sl, (hcell H2 ⟨bS, 0, none⟩ = some (.int .i64 x_a) ∧ 
    hcell H2 ⟨bS, 1, none⟩ = some (.string x_b) ∧ hcell H2 ⟨bS, 2, none⟩ = some (.int .i64 x_c) ∧ hcell H2 ⟨bS, 3, none⟩ = some (.slice x_d.a x_d.n x_d.c) ∧ 
    True) ∧ CallF Tryd.prog 53 #[] H2 (fun r H3 => ∃ y : Sl, r = .slice y.a y.n y.c ∧ ((hcell H3 ⟨bS, 0, none⟩ = some (.int .i64 x_a) ∧ 
    hcell H3 ⟨bS, 1, none⟩ = some (.string x_b) ∧ hcell H3 ⟨bS, 2, none⟩ = some (.int .i64 x_c) ∧ hcell H3 ⟨bS, 3, none⟩ = some (.slice x_d.a x_d.n x_d.c) ∧ 
    True) ∧ CallF Tryd.prog 31 #[.slice y.a y.n y.c, .agg #[.int .i64 x_a, .string x_b, .int .i64 x_c, .slice x_d.a x_d.n x_d.c]] H3 (fun r1 H4 => 
    ∃ y_0 : ByteArray, ∃ y_1 : Sl, ∃ y_2 : Int, r1 = .tuple #[.string y_0, .slice y_1.a y_1.n y_1.c, .int .i64 y_2] ∧ 
    ∃ x_a1 : Int, ∃ x_b1 : ByteArray, ∃ x_c1 : Int, ∃ x_d1 : Sl, (hcell H4 ⟨bS, 0, none⟩ = some (.int .i64 x_a1) ∧ 
    hcell H4 ⟨bS, 1, none⟩ = some (.string x_b1) ∧ hcell H4 ⟨bS, 2, none⟩ = some (.int .i64 x_c1) ∧ hcell H4 ⟨bS, 3, none⟩ = some (.slice x_d1.a x_d1.n x_d1.c) ∧ 
    True) ∧ CallF Tryd.prog 53 #[] H4 (fun r2 H5 => ∃ y1 : Sl, r2 = .slice y1.a y1.n y1.c ∧ ((hcell H5 ⟨bS, 0, none⟩ = some (.int .i64 x_a1) ∧ 
    hcell H5 ⟨bS, 1, none⟩ = some (.string x_b1) ∧ hcell H5 ⟨bS, 2, none⟩ = some (.int .i64 x_c1) ∧ hcell H5 ⟨bS, 3, none⟩ = some (.slice x_d1.a x_d1.n x_d1.c) ∧ 
    True) ∧ CallF Tryd.prog 32 #[.slice y1.a y1.n y1.c, .agg #[.int .i64 x_a1, .string x_b1, .int .i64 x_c1, .slice x_d1.a x_d1.n x_d1.c]] H5 (fun r3 H6 => 
    ∃ y_01 : Int, ∃ y_11 : Int, r3 = .tuple #[.int .i64 y_01, .int .i64 y_11] ∧ ∃ x_a2 : Int, ∃ x_b2 : ByteArray, ∃ x_c2 : Int, ∃ x_d2 : Sl, (hcell H6 ⟨bS, 0, none⟩ = some (.int .i64 x_a2) ∧ 
    hcell H6 ⟨bS, 1, none⟩ = some (.string x_b2) ∧ hcell H6 ⟨bS, 2, none⟩ = some (.int .i64 x_c2) ∧ hcell H6 ⟨bS, 3, none⟩ = some (.slice x_d2.a x_d2.n x_d2.c) ∧ 
    True) ∧ CallF Tryd.prog 53 #[] H6 (fun r4 H7 => ∃ y2 : Sl, r4 = .slice y2.a y2.n y2.c ∧ ((hcell H7 ⟨bS, 0, none⟩ = some (.int .i64 x_a2) ∧ 
    hcell H7 ⟨bS, 1, none⟩ = some (.string x_b2) ∧ hcell H7 ⟨bS, 2, none⟩ = some (.int .i64 x_c2) ∧ hcell H7 ⟨bS, 3, none⟩ = some (.slice x_d2.a x_d2.n x_d2.c) ∧ 
    True) ∧ CallF Tryd.prog 33 #[.slice y2.a y2.n y2.c, .agg #[.int .i64 x_a2, .string x_b2, .int .i64 x_c2, .slice x_d2.a x_d2.n x_d2.c], .int .i64 3] H7 (fun r5 H8 => 
    ∃ y_02 : Int, ∃ y_12 : Int, r5 = .tuple #[.int .i64 y_02, .int .i64 y_12] ∧ (((y_2 == 0) = true → 
    (((beqS y_0 ⟨#[112, 105, 112]⟩) = true → ((((y_1.n : Int) == 2) = true → (((y_01 == 5) = true → (((y_02 == 1) = true → 
    ∃ x_a3 : Int, ∃ x_b3 : ByteArray, ∃ x_c3 : Int, ∃ x_d3 : Sl, (hcell H8 ⟨bS, 0, none⟩ = some (.int .i64 x_a3) ∧ 
    hcell H8 ⟨bS, 1, none⟩ = some (.string x_b3) ∧ hcell H8 ⟨bS, 2, none⟩ = some (.int .i64 x_c3) ∧ hcell H8 ⟨bS, 3, none⟩ = some (.slice x_d3.a x_d3.n x_d3.c) ∧ 
    True) ∧ CallF Tryd.prog 53 #[] H8 (fun r6 H9 => ∃ y3 : Sl, r6 = .slice y3.a y3.n y3.c ∧ ((hcell H9 ⟨bS, 0, none⟩ = some (.int .i64 x_a3) ∧ 
    hcell H9 ⟨bS, 1, none⟩ = some (.string x_b3) ∧ hcell H9 ⟨bS, 2, none⟩ = some (.int .i64 x_c3) ∧ hcell H9 ⟨bS, 3, none⟩ = some (.slice x_d3.a x_d3.n x_d3.c) ∧ 
    True) ∧ CallF Tryd.prog 34 #[.slice y3.a y3.n y3.c, .agg #[.int .i64 x_a3, .string x_b3, .int .i64 x_c3, .slice x_d3.a x_d3.n x_d3.c], .int .i64 1, .string ⟨#[91, 93, 105, 110, 116]⟩] H9 (fun r7 H10 => 
    ∃ y4 : Bool, r7 = .bool y4 ∧ K (.bool y4) H10) Z)) Z) ∧ ((y_02 == 1) = false → K (.bool false) H8))) ∧ 
    ((y_01 == 5) = false → K (.bool false) H8))) ∧ (((y_1.n : Int) == 2) = false → K (.bool false) H8))) ∧ 
    ((beqS y_0 ⟨#[112, 105, 112]⟩) = false → K (.bool false) H8))) ∧ ((y_2 == 0) = false → K (.bool false) H8))) Z)) Z) Z)) Z) Z)) Z)
def aJ30 : Ann := (fun k => if k = 2000002 then some [] else if k = 2000003 then some [] else if k = 2000004 then some [] else if k = 2000005 then some [] else none)
def aL30 : Ann := (fun _ => none)
theorem V30_ok {H : Hp}  {K : Value → Hp → Prop} {Z : List PanicEntry → Hp → Prop} (h : V30 H  K Z) : CallF Tryd.prog 30 #[] H K Z :=
  fnC_sound (P := Tryd.prog) (aJ := aJ30) (aL := aL30) (f := 30) (args := []) (Eq.mp (by kernel_rfl) h)
/-- weft/weftlaw10.structs -/
def V53 (H : Hp)  (K : Value → Hp → Prop) (Z : List PanicEntry → Hp → Prop) : Prop :=
  ∀ b H1, Newb H (.cells #[.int .i64 1, .string ⟨#[]⟩, .int .i64 0, .slice none 0 0] 51) b H1 → ∀ b1 H2, Newb H1 (.cells #[.string ⟨#[97]⟩, .int .i64 2, .string ⟨#[]⟩, .int .i64 0, .slice none 0 0, .string ⟨#[98]⟩, .int .i64 4, .string ⟨#[]⟩, .int .i64 3, .slice (some ⟨b, 0, none⟩) 1 1, .string ⟨#[99]⟩, .int .i64 2, .string ⟨#[]⟩, .int .i64 0, .slice none 0 0] 83) b1 H2 → 
    ∀ b2 H3, Newb H2 (.cells #[.string ⟨#[83]⟩, .slice (some ⟨b1, 0, none⟩) 3 3] 81) b2 H3 → K (.slice (some ⟨b2, 0, none⟩) 1 1) H3
def aJ53 : Ann := (fun _ => none)
def aL53 : Ann := (fun _ => none)
theorem V53_ok {H : Hp}  {K : Value → Hp → Prop} {Z : List PanicEntry → Hp → Prop} (h : V53 H  K Z) : CallF Tryd.prog 53 #[] H K Z :=
  fnC_sound (P := Tryd.prog) (aJ := aJ53) (aL := aL53) (f := 53) (args := []) (Eq.mp (by kernel_rfl) h)
/-- weft/shape.Cells -/
def V31 (H : Hp) (l : Sl) (t_a : Int) (t_b : ByteArray) (t_c : Int) (t_d : Sl) (K : Value → Hp → Prop) (Z : List PanicEntry → Hp → Prop) : Prop :=
  ∀ bL H1, Newb H (.cells #[.slice l.a l.n l.c] 55) bL H1 → ∀ bT H2, Newb H1 (.cells #[.int .i64 t_a, .string t_b, .int .i64 t_c, .slice t_d.a t_d.n t_d.c] 51) bT H2 → 
    ∃ x : Sl, hcell H2 ⟨bL, 0, none⟩ = some (.slice x.a x.n x.c) ∧ ∃ x_a : Int, ∃ x_b : ByteArray, ∃ x_c : Int, ∃ x_d : Sl, (hcell H2 ⟨bT, 0, none⟩ = some (.int .i64 x_a) ∧ 
    hcell H2 ⟨bT, 1, none⟩ = some (.string x_b) ∧ hcell H2 ⟨bT, 2, none⟩ = some (.int .i64 x_c) ∧ hcell H2 ⟨bT, 3, none⟩ = some (.slice x_d.a x_d.n x_d.c) ∧ 
    True) ∧ CallF Tryd.prog 54 #[.slice x.a x.n x.c, .agg #[.int .i64 x_a, .string x_b, .int .i64 x_c, .slice x_d.a x_d.n x_d.c]] H2 (fun r H3 => 
    ∃ y : Int, r = .int .i64 y ∧ (((y != 0) = true → K (.tuple #[.string ⟨#[]⟩, .slice none 0 0, .int .i64 y]) H3) ∧ 
    ((y != 0) = false → ∀ bKinds H4, Newb H3 (.cells #[.pointer none, .slice none 0 0] 87) bKinds H4 → 
    ∀ bMarks H5, Newb H4 (.cells #[.slice none 0 0] 56) bMarks H5 → ∀ bLay H6, Newb H5 (.cells #[.nilFunc] 97) bLay H6 → 
    StL ⟨bLay, 0, none⟩ 0 [.func (.func 55) #[] #[.pointer (some ⟨bKinds, 0, none⟩), .pointer (some ⟨bMarks, 0, none⟩), .pointer (some ⟨bL, 0, none⟩), .pointer (some ⟨bLay, 0, none⟩)]] H6 fun H7 => 
    (∃ x1 : Value, hcell H7 ⟨bLay, 0, none⟩ = some (x1) ∧ ∃ x_a1 : Int, ∃ x_b1 : ByteArray, ∃ x_c1 : Int, ∃ x_d1 : Sl, (hcell H7 ⟨bT, 0, none⟩ = some (.int .i64 x_a1) ∧ 
    hcell H7 ⟨bT, 1, none⟩ = some (.string x_b1) ∧ hcell H7 ⟨bT, 2, none⟩ = some (.int .i64 x_c1) ∧ hcell H7 ⟨bT, 3, none⟩ = some (.slice x_d1.a x_d1.n x_d1.c) ∧ 
    True) ∧ callV Tryd.prog x1 [.agg #[.int .i64 x_a1, .string x_b1, .int .i64 x_c1, .slice x_d1.a x_d1.n x_d1.c]] H7 (fun r1 H8 => 
    r1 = .tuple #[] ∧ ∃ x2 : Sl, hcell H8 ⟨bMarks, 0, none⟩ = some (.slice x2.a x2.n x2.c) ∧ CallF Tryd.prog 49 #[.pointer (some ⟨bKinds, 0, none⟩)] H8 (fun r2 H9 => 
    ∃ y1 : ByteArray, r2 = .string y1 ∧ (hcell H9 ⟨bMarks, 0, none⟩ = some (.slice x2.a x2.n x2.c) ∧ 
    K (.tuple #[.string y1, .slice x2.a x2.n x2.c, .int .i64 0]) H9)) Z) Z)))) Z
def aJ31 : Ann := (fun k => if k = 2000009 then some [] else none)
def aL31 : Ann := (fun _ => none)
theorem V31_ok {H : Hp} {l : Sl} {t_a : Int} {t_b : ByteArray} {t_c : Int} {t_d : Sl} {K : Value → Hp → Prop} {Z : List PanicEntry → Hp → Prop} (h : V31 H l t_a t_b t_c t_d K Z) : CallF Tryd.prog 31 #[.slice l.a l.n l.c, .agg #[.int .i64 t_a, .string t_b, .int .i64 t_c, .slice t_d.a t_d.n t_d.c]] H K Z :=
  fnC_sound (P := Tryd.prog) (aJ := aJ31) (aL := aL31) (f := 31) (args := [.slice l.a l.n l.c, .agg #[.int .i64 t_a, .string t_b, .int .i64 t_c, .slice t_d.a t_d.n t_d.c]]) (Eq.mp (by kernel_rfl) h)
/-- weft/shape.Cells$1 -/
def V55 (H : Hp) (t_a : Int) (t_b : ByteArray) (t_c : Int) (t_d : Sl) (cap0 : Addr) (cap1 : Addr) (cap2 : Addr) (cap3 : Addr) (K : Value → Hp → Prop) (Z : List PanicEntry → Hp → Prop) : Prop :=
  ∀ bT H1, Newb H (.cells #[.int .i64 t_a, .string t_b, .int .i64 t_c, .slice t_d.a t_d.n t_d.c] 51) bT H1 → 
    ∃ x : Int, hcell H1 ⟨bT, 0, none⟩ = some (.int .i64 x) ∧ (((x == 1) = true → CallF Tryd.prog 56 #[.pointer (some cap0), .int .u8 105] H1 (fun r H2 => 
    ∃ y : Value, r = y ∧ K (.tuple #[]) H2) Z) ∧ ((x == 1) = false → (((x == 2) = true → CallF Tryd.prog 56 #[.pointer (some cap0), .int .u8 112] H1 (fun r1 H3 => 
    ∃ y1 : Value, r1 = y1 ∧ K (.tuple #[]) H3) Z) ∧ ((x == 2) = false → (((x == 3) = true → ∃ x1 : Sl, hcell H1 cap1 = some (.slice x1.a x1.n x1.c) ∧ 
    ∃ x2 : ByteArray, hcell H1 ⟨bT, 1, none⟩ = some (.string x2) ∧ CallF Tryd.prog 57 #[.pointer (some cap0)] H1 (fun r2 H4 => 
    ∃ y2 : Int, r2 = .int .i64 y2 ∧ (hcell H4 ⟨bT, 1, none⟩ = some (.string x2) ∧ (hcell H4 cap1 = some (.slice x1.a x1.n x1.c) ∧ 
    (hcell H4 cap1 = some (.slice x1.a x1.n x1.c) ∧ ∀ b H5, Newb H4 (.cells #[.int .i64 y2, .string x2] 64) b H5 → 
    (hcell H5 cap1 = some (.slice x1.a x1.n x1.c) ∧ App Tryd.prog #[56, 56] 56 H5 [.slice x1.a x1.n x1.c, .slice (some ⟨b, 0, none⟩) 1 1] fun ap H6 => 
    (StL cap1 0 [.slice ap.a ap.n ap.c] H6 fun H7 => (∃ x3 : Sl, hcell H7 cap2 = some (.slice x3.a x3.n x3.c) ∧ 
    ∃ x4 : ByteArray, hcell H7 ⟨bT, 1, none⟩ = some (.string x4) ∧ CallF Tryd.prog 58 #[.slice x3.a x3.n x3.c, .string x4] H7 (fun r3 H8 => 
    ∃ y3 : Sl, r3 = .slice y3.a y3.n y3.c ∧ ∃ I : Int → Hp → Nat → Prop, (∃ m, I 0 H8 m) ∧ ∀ (t46 : Int), ∀ H9 m1, I t46 H9 m1 → 
    ∀ scr : Nat → Value, (((decide (t46 < (y3.n : Int))) = true → IxA y3.a y3.n t46 5 fun ad => (∃ x_a : ByteArray, ∃ x_b : Int, ∃ x_c : ByteArray, ∃ x_d : Int, ∃ x_e : Sl, (hcell H9 ad = some (.string x_a) ∧ 
    hcell H9 (Addr.add ad 1) = some (.int .i64 x_b) ∧ hcell H9 (Addr.add ad 2) = some (.string x_c) ∧ 
    hcell H9 (Addr.add ad 3) = some (.int .i64 x_d) ∧ hcell H9 (Addr.add ad 4) = some (.slice x_e.a x_e.n x_e.c) ∧ 
    True) ∧ ∀ bF H10, Newb H9 (.cells #[.string ⟨#[]⟩, .int .i64 0, .string ⟨#[]⟩, .int .i64 0, .slice none 0 0] 83) bF H10 → 
    StL ⟨bF, 0, none⟩ 0 [.string x_a, .int .i64 x_b, .string x_c, .int .i64 x_d, .slice x_e.a x_e.n x_e.c] H10 fun H11 => 
    (∃ x5 : Value, hcell H11 cap3 = some (x5) ∧ ∃ x_a1 : Int, ∃ x_b1 : ByteArray, ∃ x_c1 : Int, ∃ x_d1 : Sl, (hcell H11 ⟨bF, 1, none⟩ = some (.int .i64 x_a1) ∧ 
    hcell H11 ⟨bF, 2, none⟩ = some (.string x_b1) ∧ hcell H11 ⟨bF, 3, none⟩ = some (.int .i64 x_c1) ∧ 
    hcell H11 ⟨bF, 4, none⟩ = some (.slice x_d1.a x_d1.n x_d1.c) ∧ True) ∧ callV Tryd.prog x5 [.agg #[.int .i64 x_a1, .string x_b1, .int .i64 x_c1, .slice x_d1.a x_d1.n x_d1.c]] H11 (fun r4 H12 => 
    r4 = .tuple #[] ∧ (∃ m2, m2 < m1 ∧ I (w64 (t46 + 1)) H12 m2)) Z))) ∧ ((decide (t46 < (y3.n : Int))) = false → 
    K (.tuple #[]) H9))) Z))))))) Z) ∧ ((x == 3) = false → ∃ x6 : Sl, hcell H1 cap1 = some (.slice x6.a x6.n x6.c) ∧ 
    ∃ x7 : Sl, hcell H1 ⟨bT, 3, none⟩ = some (.slice x7.a x7.n x7.c) ∧ IxA x7.a x7.n 0 4 fun ad1 => (∃ x_a2 : Int, ∃ x_b2 : ByteArray, ∃ x_c2 : Int, ∃ x_d2 : Sl, (hcell H1 ad1 = some (.int .i64 x_a2) ∧ 
    hcell H1 (Addr.add ad1 1) = some (.string x_b2) ∧ hcell H1 (Addr.add ad1 2) = some (.int .i64 x_c2) ∧ 
    hcell H1 (Addr.add ad1 3) = some (.slice x_d2.a x_d2.n x_d2.c) ∧ True) ∧ CallF Tryd.prog 57 #[.pointer (some cap0)] H1 (fun r5 H13 => 
    ∃ y4 : Int, r5 = .int .i64 y4 ∧ ((hcell H13 ad1 = some (.int .i64 x_a2) ∧ hcell H13 (Addr.add ad1 1) = some (.string x_b2) ∧ 
    hcell H13 (Addr.add ad1 2) = some (.int .i64 x_c2) ∧ hcell H13 (Addr.add ad1 3) = some (.slice x_d2.a x_d2.n x_d2.c) ∧ 
    True) ∧ (hcell H13 ⟨bT, 3, none⟩ = some (.slice x7.a x7.n x7.c) ∧ (hcell H13 cap1 = some (.slice x6.a x6.n x6.c) ∧ 
    CallF Tryd.prog 28 #[.agg #[.int .i64 x_a2, .string x_b2, .int .i64 x_c2, .slice x_d2.a x_d2.n x_d2.c]] H13 (fun r6 H14 => 
    ∃ y5 : ByteArray, r6 = .string y5 ∧ (hcell H14 cap1 = some (.slice x6.a x6.n x6.c) ∧ (hcell H14 cap1 = some (.slice x6.a x6.n x6.c) ∧ 
    ∀ b1 H15, Newb H14 (.cells #[.int .i64 y4, .string y5] 64) b1 H15 → (hcell H15 cap1 = some (.slice x6.a x6.n x6.c) ∧ 
    App Tryd.prog #[56, 56] 56 H15 [.slice x6.a x6.n x6.c, .slice (some ⟨b1, 0, none⟩) 1 1] fun ap1 H16 => 
    (StL cap1 0 [.slice ap1.a ap1.n ap1.c] H16 fun H17 => (∃ x8 : Value, hcell H17 cap3 = some (x8) ∧ 
    ∃ x9 : Sl, hcell H17 ⟨bT, 3, none⟩ = some (.slice x9.a x9.n x9.c) ∧ IxA x9.a x9.n 0 4 fun ad2 => 
    (∃ x_a3 : Int, ∃ x_b3 : ByteArray, ∃ x_c3 : Int, ∃ x_d3 : Sl, (hcell H17 ad2 = some (.int .i64 x_a3) ∧ 
    hcell H17 (Addr.add ad2 1) = some (.string x_b3) ∧ hcell H17 (Addr.add ad2 2) = some (.int .i64 x_c3) ∧ 
    hcell H17 (Addr.add ad2 3) = some (.slice x_d3.a x_d3.n x_d3.c) ∧ True) ∧ callV Tryd.prog x8 [.agg #[.int .i64 x_a3, .string x_b3, .int .i64 x_c3, .slice x_d3.a x_d3.n x_d3.c]] H17 (fun r7 H18 => 
    r7 = .tuple #[] ∧ K (.tuple #[]) H18) Z))))))) Z)))) Z)))))))
def aJ55 : Ann := (fun k => if k = 2000002 then some [] else if k = 2000009 then some [] else none)
def aL55 : Ann := (fun k => if k = 11 then some [(46, (.sc (.int .i64)))] else none)
theorem V55_ok {H : Hp} {t_a : Int} {t_b : ByteArray} {t_c : Int} {t_d : Sl} {cap0 : Addr} {cap1 : Addr} {cap2 : Addr} {cap3 : Addr} {K : Value → Hp → Prop} {Z : List PanicEntry → Hp → Prop} (h : V55 H t_a t_b t_c t_d cap0 cap1 cap2 cap3 K Z) : CallF Tryd.prog 55 #[.agg #[.int .i64 t_a, .string t_b, .int .i64 t_c, .slice t_d.a t_d.n t_d.c], .pointer (some cap0), .pointer (some cap1), .pointer (some cap2), .pointer (some cap3)] H K Z :=
  fnC_sound (P := Tryd.prog) (aJ := aJ55) (aL := aL55) (f := 55) (args := [.agg #[.int .i64 t_a, .string t_b, .int .i64 t_c, .slice t_d.a t_d.n t_d.c], .pointer (some cap0), .pointer (some cap1), .pointer (some cap2), .pointer (some cap3)]) (Eq.mp (by kernel_rfl) h)
/-- weft/shape.Size -/
def V32 (H : Hp) (l : Sl) (t_a : Int) (t_b : ByteArray) (t_c : Int) (t_d : Sl) (K : Value → Hp → Prop) (Z : List PanicEntry → Hp → Prop) : Prop :=
  ∀ bT H1, Newb H (.cells #[.int .i64 t_a, .string t_b, .int .i64 t_c, .slice t_d.a t_d.n t_d.c] 51) bT H1 → 
    ∃ x_a : Int, ∃ x_b : ByteArray, ∃ x_c : Int, ∃ x_d : Sl, (hcell H1 ⟨bT, 0, none⟩ = some (.int .i64 x_a) ∧ 
    hcell H1 ⟨bT, 1, none⟩ = some (.string x_b) ∧ hcell H1 ⟨bT, 2, none⟩ = some (.int .i64 x_c) ∧ hcell H1 ⟨bT, 3, none⟩ = some (.slice x_d.a x_d.n x_d.c) ∧ 
    True) ∧ CallF Tryd.prog 54 #[.slice l.a l.n l.c, .agg #[.int .i64 x_a, .string x_b, .int .i64 x_c, .slice x_d.a x_d.n x_d.c]] H1 (fun r H2 => 
    ∃ y : Int, r = .int .i64 y ∧ (((y != 0) = true → K (.tuple #[.int .i64 0, .int .i64 y]) H2) ∧ ((y != 0) = false → 
    ∃ x_a1 : Int, ∃ x_b1 : ByteArray, ∃ x_c1 : Int, ∃ x_d1 : Sl, (hcell H2 ⟨bT, 0, none⟩ = some (.int .i64 x_a1) ∧ 
    hcell H2 ⟨bT, 1, none⟩ = some (.string x_b1) ∧ hcell H2 ⟨bT, 2, none⟩ = some (.int .i64 x_c1) ∧ hcell H2 ⟨bT, 3, none⟩ = some (.slice x_d1.a x_d1.n x_d1.c) ∧ 
    True) ∧ CallF Tryd.prog 59 #[.slice l.a l.n l.c, .agg #[.int .i64 x_a1, .string x_b1, .int .i64 x_c1, .slice x_d1.a x_d1.n x_d1.c]] H2 (fun r1 H3 => 
    ∃ y_0 : Int, ∃ y_1 : Int, r1 = .tuple #[.int .i64 y_0, .int .i64 y_1] ∧ K (.tuple #[.int .i64 y_1, .int .i64 0]) H3) Z))) Z
def aJ32 : Ann := (fun _ => none)
def aL32 : Ann := (fun _ => none)
theorem V32_ok {H : Hp} {l : Sl} {t_a : Int} {t_b : ByteArray} {t_c : Int} {t_d : Sl} {K : Value → Hp → Prop} {Z : List PanicEntry → Hp → Prop} (h : V32 H l t_a t_b t_c t_d K Z) : CallF Tryd.prog 32 #[.slice l.a l.n l.c, .agg #[.int .i64 t_a, .string t_b, .int .i64 t_c, .slice t_d.a t_d.n t_d.c]] H K Z :=
  fnC_sound (P := Tryd.prog) (aJ := aJ32) (aL := aL32) (f := 32) (args := [.slice l.a l.n l.c, .agg #[.int .i64 t_a, .string t_b, .int .i64 t_c, .slice t_d.a t_d.n t_d.c]]) (Eq.mp (by kernel_rfl) h)
/-- weft/shape.Cell -/
def V33 (H : Hp) (l : Sl) (t_a : Int) (t_b : ByteArray) (t_c : Int) (t_d : Sl) (t2 : Int) (K : Value → Hp → Prop) (Z : List PanicEntry → Hp → Prop) : Prop :=
  ∀ bT H1, Newb H (.cells #[.int .i64 t_a, .string t_b, .int .i64 t_c, .slice t_d.a t_d.n t_d.c] 51) bT H1 → 
    ∃ x_a : Int, ∃ x_b : ByteArray, ∃ x_c : Int, ∃ x_d : Sl, (hcell H1 ⟨bT, 0, none⟩ = some (.int .i64 x_a) ∧ 
    hcell H1 ⟨bT, 1, none⟩ = some (.string x_b) ∧ hcell H1 ⟨bT, 2, none⟩ = some (.int .i64 x_c) ∧ hcell H1 ⟨bT, 3, none⟩ = some (.slice x_d.a x_d.n x_d.c) ∧ 
    True) ∧ CallF Tryd.prog 60 #[.slice l.a l.n l.c, .agg #[.int .i64 x_a, .string x_b, .int .i64 x_c, .slice x_d.a x_d.n x_d.c], .int .i64 t2] H1 (fun r H2 => 
    ∃ y_0 : Int, ∃ y_1 : Sl, ∃ y_2 : Int, r = .tuple #[.int .i64 y_0, .slice y_1.a y_1.n y_1.c, .int .i64 y_2] ∧ 
    K (.tuple #[.int .i64 y_0, .int .i64 y_2]) H2) Z
def aJ33 : Ann := (fun _ => none)
def aL33 : Ann := (fun _ => none)
theorem V33_ok {H : Hp} {l : Sl} {t_a : Int} {t_b : ByteArray} {t_c : Int} {t_d : Sl} {t2 : Int} {K : Value → Hp → Prop} {Z : List PanicEntry → Hp → Prop} (h : V33 H l t_a t_b t_c t_d t2 K Z) : CallF Tryd.prog 33 #[.slice l.a l.n l.c, .agg #[.int .i64 t_a, .string t_b, .int .i64 t_c, .slice t_d.a t_d.n t_d.c], .int .i64 t2] H K Z :=
  fnC_sound (P := Tryd.prog) (aJ := aJ33) (aL := aL33) (f := 33) (args := [.slice l.a l.n l.c, .agg #[.int .i64 t_a, .string t_b, .int .i64 t_c, .slice t_d.a t_d.n t_d.c], .int .i64 t2]) (Eq.mp (by kernel_rfl) h)
/-- weft/shape.Begins -/
def V34 (H : Hp) (l : Sl) (t_a : Int) (t_b : ByteArray) (t_c : Int) (t_d : Sl) (t2 : Int) (tag : ByteArray) (K : Value → Hp → Prop) (Z : List PanicEntry → Hp → Prop) : Prop :=
  ∀ bT H1, Newb H (.cells #[.int .i64 t_a, .string t_b, .int .i64 t_c, .slice t_d.a t_d.n t_d.c] 51) bT H1 → 
    ∀ bTag H2, Newb H1 (.cells #[.string tag] 9) bTag H2 → ∃ x_a : Int, ∃ x_b : ByteArray, ∃ x_c : Int, ∃ x_d : Sl, (hcell H2 ⟨bT, 0, none⟩ = some (.int .i64 x_a) ∧ 
    hcell H2 ⟨bT, 1, none⟩ = some (.string x_b) ∧ hcell H2 ⟨bT, 2, none⟩ = some (.int .i64 x_c) ∧ hcell H2 ⟨bT, 3, none⟩ = some (.slice x_d.a x_d.n x_d.c) ∧ 
    True) ∧ CallF Tryd.prog 60 #[.slice l.a l.n l.c, .agg #[.int .i64 x_a, .string x_b, .int .i64 x_c, .slice x_d.a x_d.n x_d.c], .int .i64 t2] H2 (fun r H3 => 
    ∃ y_0 : Int, ∃ y_1 : Sl, ∃ y_2 : Int, r = .tuple #[.int .i64 y_0, .slice y_1.a y_1.n y_1.c, .int .i64 y_2] ∧ 
    CallF Tryd.prog 61 #[.slice y_1.a y_1.n y_1.c, .func (.func 62) #[] #[.pointer (some ⟨bTag, 0, none⟩)]] H3 (fun r1 H4 => 
    ∃ y : Bool, r1 = .bool y ∧ K (.bool y) H4) Z) Z
def aJ34 : Ann := (fun _ => none)
def aL34 : Ann := (fun _ => none)
theorem V34_ok {H : Hp} {l : Sl} {t_a : Int} {t_b : ByteArray} {t_c : Int} {t_d : Sl} {t2 : Int} {tag : ByteArray} {K : Value → Hp → Prop} {Z : List PanicEntry → Hp → Prop} (h : V34 H l t_a t_b t_c t_d t2 tag K Z) : CallF Tryd.prog 34 #[.slice l.a l.n l.c, .agg #[.int .i64 t_a, .string t_b, .int .i64 t_c, .slice t_d.a t_d.n t_d.c], .int .i64 t2, .string tag] H K Z :=
  fnC_sound (P := Tryd.prog) (aJ := aJ34) (aL := aL34) (f := 34) (args := [.slice l.a l.n l.c, .agg #[.int .i64 t_a, .string t_b, .int .i64 t_c, .slice t_d.a t_d.n t_d.c], .int .i64 t2, .string tag]) (Eq.mp (by kernel_rfl) h)
/-- weft/shape.Begins$1 -/
def V62 (H : Hp) (s_a : ByteArray) (s_b : Int) (s_c : Int) (cap0 : Addr) (K : Value → Hp → Prop) (Z : List PanicEntry → Hp → Prop) : Prop :=
  ∀ bS H1, Newb H (.cells #[.string s_a, .int .i64 s_b, .int .i64 s_c] 108) bS H1 → ∃ x : ByteArray, hcell H1 ⟨bS, 0, none⟩ = some (.string x) ∧ 
    ∃ x1 : ByteArray, hcell H1 cap0 = some (.string x1) ∧ K (.bool (beqS x x1)) H1
def aJ62 : Ann := (fun _ => none)
def aL62 : Ann := (fun _ => none)
theorem V62_ok {H : Hp} {s_a : ByteArray} {s_b : Int} {s_c : Int} {cap0 : Addr} {K : Value → Hp → Prop} {Z : List PanicEntry → Hp → Prop} (h : V62 H s_a s_b s_c cap0 K Z) : CallF Tryd.prog 62 #[.agg #[.string s_a, .int .i64 s_b, .int .i64 s_c], .pointer (some cap0)] H K Z :=
  fnC_sound (P := Tryd.prog) (aJ := aJ62) (aL := aL62) (f := 62) (args := [.agg #[.string s_a, .int .i64 s_b, .int .i64 s_c], .pointer (some cap0)]) (Eq.mp (by kernel_rfl) h)
/-- weft/shape.Check -/
def V54 (H : Hp) (l : Sl) (t_a : Int) (t_b : ByteArray) (t_c : Int) (t_d : Sl) (K : Value → Hp → Prop) (Z : List PanicEntry → Hp → Prop) : Prop :=
  ∀ bT H1, Newb H (.cells #[.int .i64 t_a, .string t_b, .int .i64 t_c, .slice t_d.a t_d.n t_d.c] 51) bT H1 → 
    ∃ x_a : Int, ∃ x_b : ByteArray, ∃ x_c : Int, ∃ x_d : Sl, (hcell H1 ⟨bT, 0, none⟩ = some (.int .i64 x_a) ∧ 
    hcell H1 ⟨bT, 1, none⟩ = some (.string x_b) ∧ hcell H1 ⟨bT, 2, none⟩ = some (.int .i64 x_c) ∧ hcell H1 ⟨bT, 3, none⟩ = some (.slice x_d.a x_d.n x_d.c) ∧ 
    True) ∧ CallF Tryd.prog 72 #[.slice l.a l.n l.c, .agg #[.int .i64 x_a, .string x_b, .int .i64 x_c, .slice x_d.a x_d.n x_d.c], .int .i64 1] H1 (fun r H2 => 
    ∃ y : Int, r = .int .i64 y ∧ (((y != 0) = true → K (.int .i64 y) H2) ∧ ((y != 0) = false → ∃ x_a1 : Int, ∃ x_b1 : ByteArray, ∃ x_c1 : Int, ∃ x_d1 : Sl, (hcell H2 ⟨bT, 0, none⟩ = some (.int .i64 x_a1) ∧ 
    hcell H2 ⟨bT, 1, none⟩ = some (.string x_b1) ∧ hcell H2 ⟨bT, 2, none⟩ = some (.int .i64 x_c1) ∧ hcell H2 ⟨bT, 3, none⟩ = some (.slice x_d1.a x_d1.n x_d1.c) ∧ 
    True) ∧ CallF Tryd.prog 59 #[.slice l.a l.n l.c, .agg #[.int .i64 x_a1, .string x_b1, .int .i64 x_c1, .slice x_d1.a x_d1.n x_d1.c]] H2 (fun r1 H3 => 
    ∃ y_0 : Int, ∃ y_1 : Int, r1 = .tuple #[.int .i64 y_0, .int .i64 y_1] ∧ (((decide (y_0 > 64)) = true → 
    K (.int .i64 4) H3) ∧ ((decide (y_0 > 64)) = false → (((decide (y_1 > 1024)) = true → K (.int .i64 4) H3) ∧ 
    ((decide (y_1 > 1024)) = false → K (.int .i64 0) H3))))) Z))) Z
def aJ54 : Ann := (fun _ => none)
def aL54 : Ann := (fun _ => none)
theorem V54_ok {H : Hp} {l : Sl} {t_a : Int} {t_b : ByteArray} {t_c : Int} {t_d : Sl} {K : Value → Hp → Prop} {Z : List PanicEntry → Hp → Prop} (h : V54 H l t_a t_b t_c t_d K Z) : CallF Tryd.prog 54 #[.slice l.a l.n l.c, .agg #[.int .i64 t_a, .string t_b, .int .i64 t_c, .slice t_d.a t_d.n t_d.c]] H K Z :=
  fnC_sound (P := Tryd.prog) (aJ := aJ54) (aL := aL54) (f := 54) (args := [.slice l.a l.n l.c, .agg #[.int .i64 t_a, .string t_b, .int .i64 t_c, .slice t_d.a t_d.n t_d.c]]) (Eq.mp (by kernel_rfl) h)
/-- (weft/shape.structs).fields -/
def V58 (H : Hp) (l : Sl) (name : ByteArray) (K : Value → Hp → Prop) (Z : List PanicEntry → Hp → Prop) : Prop :=
  CallF Tryd.prog 73 #[.slice l.a l.n l.c, .string name] H (fun r H1 => ∃ y_0_a : ByteArray, ∃ y_0_b : Sl, ∃ y_1 : Bool, r = .tuple #[.agg #[.string y_0_a, .slice y_0_b.a y_0_b.n y_0_b.c], .bool y_1] ∧ 
    ∀ bS H2, Newb H1 (.cells #[.string ⟨#[]⟩, .slice none 0 0] 81) bS H2 → StL ⟨bS, 0, none⟩ 0 [.string y_0_a, .slice y_0_b.a y_0_b.n y_0_b.c] H2 fun H3 => 
    (∃ x : Sl, hcell H3 ⟨bS, 1, none⟩ = some (.slice x.a x.n x.c) ∧ K (.slice x.a x.n x.c) H3)) Z
def aJ58 : Ann := (fun _ => none)
def aL58 : Ann := (fun _ => none)
theorem V58_ok {H : Hp} {l : Sl} {name : ByteArray} {K : Value → Hp → Prop} {Z : List PanicEntry → Hp → Prop} (h : V58 H l name K Z) : CallF Tryd.prog 58 #[.slice l.a l.n l.c, .string name] H K Z :=
  fnC_sound (P := Tryd.prog) (aJ := aJ58) (aL := aL58) (f := 58) (args := [.slice l.a l.n l.c, .string name]) (Eq.mp (by kernel_rfl) h)
/-- (weft/shape.structs).room -/
def V59 (H : Hp) (l : Sl) (t_a : Int) (t_b : ByteArray) (t_c : Int) (t_d : Sl) (K : Value → Hp → Prop) (Z : List PanicEntry → Hp → Prop) : Prop :=
  ∀ bT H1, Newb H (.cells #[.int .i64 t_a, .string t_b, .int .i64 t_c, .slice t_d.a t_d.n t_d.c] 51) bT H1 → 
    ∃ x : Int, hcell H1 ⟨bT, 0, none⟩ = some (.int .i64 x) ∧ (((x == 3) = true → ∃ x1 : ByteArray, hcell H1 ⟨bT, 1, none⟩ = some (.string x1) ∧ 
    CallF Tryd.prog 58 #[.slice l.a l.n l.c, .string x1] H1 (fun r H2 => ∃ y : Sl, r = .slice y.a y.n y.c ∧ 
    ∃ I : Int → Int → Int → Hp → Nat → Prop, (∃ m, I 0 0 0 H2 m) ∧ ∀ (cells : Int) (places : Int) (t23 : Int), ∀ H3 m1, I cells places t23 H3 m1 → 
    ∀ scr : Nat → Value, (((decide (t23 < (y.n : Int))) = true → IxA y.a y.n t23 5 fun ad => (∃ x_a : ByteArray, ∃ x_b : Int, ∃ x_c : ByteArray, ∃ x_d : Int, ∃ x_e : Sl, (hcell H3 ad = some (.string x_a) ∧ 
    hcell H3 (Addr.add ad 1) = some (.int .i64 x_b) ∧ hcell H3 (Addr.add ad 2) = some (.string x_c) ∧ 
    hcell H3 (Addr.add ad 3) = some (.int .i64 x_d) ∧ hcell H3 (Addr.add ad 4) = some (.slice x_e.a x_e.n x_e.c) ∧ 
    True) ∧ ∀ bF H4, Newb H3 (.cells #[.string ⟨#[]⟩, .int .i64 0, .string ⟨#[]⟩, .int .i64 0, .slice none 0 0] 83) bF H4 → 
    StL ⟨bF, 0, none⟩ 0 [.string x_a, .int .i64 x_b, .string x_c, .int .i64 x_d, .slice x_e.a x_e.n x_e.c] H4 fun H5 => 
    (∃ x_a1 : Int, ∃ x_b1 : ByteArray, ∃ x_c1 : Int, ∃ x_d1 : Sl, (hcell H5 ⟨bF, 1, none⟩ = some (.int .i64 x_a1) ∧ 
    hcell H5 ⟨bF, 2, none⟩ = some (.string x_b1) ∧ hcell H5 ⟨bF, 3, none⟩ = some (.int .i64 x_c1) ∧ hcell H5 ⟨bF, 4, none⟩ = some (.slice x_d1.a x_d1.n x_d1.c) ∧ 
    True) ∧ CallF Tryd.prog 59 #[.slice l.a l.n l.c, .agg #[.int .i64 x_a1, .string x_b1, .int .i64 x_c1, .slice x_d1.a x_d1.n x_d1.c]] H5 (fun r1 H6 => 
    ∃ y_0 : Int, ∃ y_1 : Int, r1 = .tuple #[.int .i64 y_0, .int .i64 y_1] ∧ (∃ m2, m2 < m1 ∧ I (w64 (cells + y_0)) (w64 (places + y_1)) (w64 (t23 + 1)) H6 m2)) Z))) ∧ 
    ((decide (t23 < (y.n : Int))) = false → K (.tuple #[.int .i64 cells, .int .i64 places]) H3))) Z) ∧ 
    ((x == 3) = false → (((x == 4) = true → ∃ x2 : Sl, hcell H1 ⟨bT, 3, none⟩ = some (.slice x2.a x2.n x2.c) ∧ 
    IxA x2.a x2.n 0 4 fun ad1 => (∃ x_a2 : Int, ∃ x_b2 : ByteArray, ∃ x_c2 : Int, ∃ x_d2 : Sl, (hcell H1 ad1 = some (.int .i64 x_a2) ∧ 
    hcell H1 (Addr.add ad1 1) = some (.string x_b2) ∧ hcell H1 (Addr.add ad1 2) = some (.int .i64 x_c2) ∧ 
    hcell H1 (Addr.add ad1 3) = some (.slice x_d2.a x_d2.n x_d2.c) ∧ True) ∧ CallF Tryd.prog 59 #[.slice l.a l.n l.c, .agg #[.int .i64 x_a2, .string x_b2, .int .i64 x_c2, .slice x_d2.a x_d2.n x_d2.c]] H1 (fun r2 H7 => 
    ∃ y_01 : Int, ∃ y_11 : Int, r2 = .tuple #[.int .i64 y_01, .int .i64 y_11] ∧ ∃ x3 : Int, hcell H7 ⟨bT, 2, none⟩ = some (.int .i64 x3) ∧ 
    K (.tuple #[.int .i64 y_01, .int .i64 (w64 (y_11 * x3))]) H7) Z)) ∧ ((x == 4) = false → K (.tuple #[.int .i64 1, .int .i64 1]) H1))))
def aJ59 : Ann := (fun _ => none)
def aL59 : Ann := (fun k => if k = 5 then some [(6, (.sc (.int .i64))), (7, (.sc (.int .i64))), (23, (.sc (.int .i64)))] else none)
theorem V59_ok {H : Hp} {l : Sl} {t_a : Int} {t_b : ByteArray} {t_c : Int} {t_d : Sl} {K : Value → Hp → Prop} {Z : List PanicEntry → Hp → Prop} (h : V59 H l t_a t_b t_c t_d K Z) : CallF Tryd.prog 59 #[.slice l.a l.n l.c, .agg #[.int .i64 t_a, .string t_b, .int .i64 t_c, .slice t_d.a t_d.n t_d.c]] H K Z :=
  fnC_sound (P := Tryd.prog) (aJ := aJ59) (aL := aL59) (f := 59) (args := [.slice l.a l.n l.c, .agg #[.int .i64 t_a, .string t_b, .int .i64 t_c, .slice t_d.a t_d.n t_d.c]]) (Eq.mp (by kernel_rfl) h)
/-- (weft/shape.structs).down -/
def V60 (H : Hp) (l : Sl) (t_a : Int) (t_b : ByteArray) (t_c : Int) (t_d : Sl) (t2 : Int) (K : Value → Hp → Prop) (Z : List PanicEntry → Hp → Prop) : Prop :=
  ∀ bT H1, Newb H (.cells #[.int .i64 t_a, .string t_b, .int .i64 t_c, .slice t_d.a t_d.n t_d.c] 51) bT H1 → 
    ∃ x_a : Int, ∃ x_b : ByteArray, ∃ x_c : Int, ∃ x_d : Sl, (hcell H1 ⟨bT, 0, none⟩ = some (.int .i64 x_a) ∧ 
    hcell H1 ⟨bT, 1, none⟩ = some (.string x_b) ∧ hcell H1 ⟨bT, 2, none⟩ = some (.int .i64 x_c) ∧ hcell H1 ⟨bT, 3, none⟩ = some (.slice x_d.a x_d.n x_d.c) ∧ 
    True) ∧ CallF Tryd.prog 54 #[.slice l.a l.n l.c, .agg #[.int .i64 x_a, .string x_b, .int .i64 x_c, .slice x_d.a x_d.n x_d.c]] H1 (fun r H2 => 
    ∃ y : Int, r = .int .i64 y ∧ (((y != 0) = true → K (.tuple #[.int .i64 0, .slice none 0 0, .int .i64 y]) H2) ∧ 
    ((y != 0) = false → ∃ J : Hp → Prop, (∀ H3, J  H3 → ∀ scr : Nat → Value, ∃ I : Int → Int → Sl → Hp → 
    Nat → Prop, (∃ m, I t2 0 (⟨none, 0, 0⟩ : Sl) H3 m) ∧ ∀ (t21 : Int) (cell : Int) (begins : Sl), ∀ H4 m1, I t21 cell begins H4 m1 → 
    ∀ scr1 : Nat → Value, ∃ J1 : Hp → Prop, (∀ H5, J1  H5 → ∀ scr2 : Nat → Value, ∃ x : Int, hcell H5 ⟨bT, 0, none⟩ = some (.int .i64 x) ∧ 
    (((x == 4) = true → ∃ x1 : Sl, hcell H5 ⟨bT, 3, none⟩ = some (.slice x1.a x1.n x1.c) ∧ IxA x1.a x1.n 0 4 fun ad => 
    (∃ x_a1 : Int, ∃ x_b1 : ByteArray, ∃ x_c1 : Int, ∃ x_d1 : Sl, (hcell H5 ad = some (.int .i64 x_a1) ∧ 
    hcell H5 (Addr.add ad 1) = some (.string x_b1) ∧ hcell H5 (Addr.add ad 2) = some (.int .i64 x_c1) ∧ 
    hcell H5 (Addr.add ad 3) = some (.slice x_d1.a x_d1.n x_d1.c) ∧ True) ∧ CallF Tryd.prog 59 #[.slice l.a l.n l.c, .agg #[.int .i64 x_a1, .string x_b1, .int .i64 x_c1, .slice x_d1.a x_d1.n x_d1.c]] H5 (fun r1 H6 => 
    ∃ y_0 : Int, ∃ y_1 : Int, r1 = .tuple #[.int .i64 y_0, .int .i64 y_1] ∧ (y_1 ≠ 0 ∧ ((((Int.tmod t21 y_1) == 0) = true → 
    ∃ x2 : Sl, hcell H6 ⟨bT, 3, none⟩ = some (.slice x2.a x2.n x2.c) ∧ IxA x2.a x2.n 0 4 fun ad1 => (∃ x_a2 : Int, ∃ x_b2 : ByteArray, ∃ x_c2 : Int, ∃ x_d2 : Sl, (hcell H6 ad1 = some (.int .i64 x_a2) ∧ 
    hcell H6 (Addr.add ad1 1) = some (.string x_b2) ∧ hcell H6 (Addr.add ad1 2) = some (.int .i64 x_c2) ∧ 
    hcell H6 (Addr.add ad1 3) = some (.slice x_d2.a x_d2.n x_d2.c) ∧ True) ∧ (y_1 ≠ 0 ∧ ∃ x3 : Int, hcell H6 ⟨bT, 2, none⟩ = some (.int .i64 x3) ∧ 
    CallF Tryd.prog 28 #[.agg #[.int .i64 x_a2, .string x_b2, .int .i64 x_c2, .slice x_d2.a x_d2.n x_d2.c]] H6 (fun r2 H7 => 
    ∃ y1 : ByteArray, r2 = .string y1 ∧ (hcell H7 ⟨bT, 2, none⟩ = some (.int .i64 x3) ∧ ∀ b H8, Newb H7 (.cells #[.string y1, .int .i64 (w64 (Int.tdiv t21 y_1)), .int .i64 x3] 108) b H8 → 
    App Tryd.prog #[103, 103] 103 H8 [.slice begins.a begins.n begins.c, .slice (some ⟨b, 0, none⟩) 1 1] fun ap H9 => 
    (∃ x4 : Sl, hcell H9 ⟨bT, 3, none⟩ = some (.slice x4.a x4.n x4.c) ∧ IxA x4.a x4.n 0 4 fun ad2 => 
    (∃ x_a3 : Int, ∃ x_b3 : ByteArray, ∃ x_c3 : Int, ∃ x_d3 : Sl, (hcell H9 ad2 = some (.int .i64 x_a3) ∧ 
    hcell H9 (Addr.add ad2 1) = some (.string x_b3) ∧ hcell H9 (Addr.add ad2 2) = some (.int .i64 x_c3) ∧ 
    hcell H9 (Addr.add ad2 3) = some (.slice x_d3.a x_d3.n x_d3.c) ∧ True) ∧ (y_1 ≠ 0 ∧ StL ⟨bT, 0, none⟩ 0 [.int .i64 x_a3, .string x_b3, .int .i64 x_c3, .slice x_d3.a x_d3.n x_d3.c] H9 fun H10 => 
    (∃ m2, m2 < m1 ∧ I (Int.tmod t21 y_1) cell ap H10 m2)))))) Z))) ∧ (((Int.tmod t21 y_1) == 0) = false → 
    ∃ x5 : Sl, hcell H6 ⟨bT, 3, none⟩ = some (.slice x5.a x5.n x5.c) ∧ IxA x5.a x5.n 0 4 fun ad3 => (∃ x_a4 : Int, ∃ x_b4 : ByteArray, ∃ x_c4 : Int, ∃ x_d4 : Sl, (hcell H6 ad3 = some (.int .i64 x_a4) ∧ 
    hcell H6 (Addr.add ad3 1) = some (.string x_b4) ∧ hcell H6 (Addr.add ad3 2) = some (.int .i64 x_c4) ∧ 
    hcell H6 (Addr.add ad3 3) = some (.slice x_d4.a x_d4.n x_d4.c) ∧ True) ∧ (y_1 ≠ 0 ∧ StL ⟨bT, 0, none⟩ 0 [.int .i64 x_a4, .string x_b4, .int .i64 x_c4, .slice x_d4.a x_d4.n x_d4.c] H6 fun H11 => 
    (∃ m2, m2 < m1 ∧ I (Int.tmod t21 y_1) cell begins H11 m2))))))) Z)) ∧ ((x == 4) = false → ∃ J2 : Sl → 
    Hp → Prop, (∀ (begins1 : Sl), ∀ H12, J2 begins1 H12 → ∀ scr3 : Nat → Value, ∃ x6 : ByteArray, hcell H12 ⟨bT, 1, none⟩ = some (.string x6) ∧ 
    CallF Tryd.prog 58 #[.slice l.a l.n l.c, .string x6] H12 (fun r3 H13 => ∃ y2 : Sl, r3 = .slice y2.a y2.n y2.c ∧ 
    ∃ I1 : Int → Int → Int → Hp → Nat → Prop, (∃ m3, I1 t21 cell 0 H13 m3) ∧ ∀ (t22 : Int) (cell1 : Int) (t97 : Int), ∀ H14 m4, I1 t22 cell1 t97 H14 m4 → 
    ∀ scr4 : Nat → Value, (((decide (t97 < (y2.n : Int))) = true → IxA y2.a y2.n t97 5 fun ad4 => (∃ x_a5 : ByteArray, ∃ x_b5 : Int, ∃ x_c5 : ByteArray, ∃ x_d5 : Int, ∃ x_e : Sl, (hcell H14 ad4 = some (.string x_a5) ∧ 
    hcell H14 (Addr.add ad4 1) = some (.int .i64 x_b5) ∧ hcell H14 (Addr.add ad4 2) = some (.string x_c5) ∧ 
    hcell H14 (Addr.add ad4 3) = some (.int .i64 x_d5) ∧ hcell H14 (Addr.add ad4 4) = some (.slice x_e.a x_e.n x_e.c) ∧ 
    True) ∧ ∀ bF H15, Newb H14 (.cells #[.string ⟨#[]⟩, .int .i64 0, .string ⟨#[]⟩, .int .i64 0, .slice none 0 0] 83) bF H15 → 
    StL ⟨bF, 0, none⟩ 0 [.string x_a5, .int .i64 x_b5, .string x_c5, .int .i64 x_d5, .slice x_e.a x_e.n x_e.c] H15 fun H16 => 
    (∃ x_a6 : Int, ∃ x_b6 : ByteArray, ∃ x_c6 : Int, ∃ x_d6 : Sl, (hcell H16 ⟨bF, 1, none⟩ = some (.int .i64 x_a6) ∧ 
    hcell H16 ⟨bF, 2, none⟩ = some (.string x_b6) ∧ hcell H16 ⟨bF, 3, none⟩ = some (.int .i64 x_c6) ∧ 
    hcell H16 ⟨bF, 4, none⟩ = some (.slice x_d6.a x_d6.n x_d6.c) ∧ True) ∧ CallF Tryd.prog 59 #[.slice l.a l.n l.c, .agg #[.int .i64 x_a6, .string x_b6, .int .i64 x_c6, .slice x_d6.a x_d6.n x_d6.c]] H16 (fun r4 H17 => 
    ∃ y_01 : Int, ∃ y_11 : Int, r4 = .tuple #[.int .i64 y_01, .int .i64 y_11] ∧ (((decide (t22 < y_11)) = true → 
    ∃ x_a7 : Int, ∃ x_b7 : ByteArray, ∃ x_c7 : Int, ∃ x_d7 : Sl, (hcell H17 ⟨bF, 1, none⟩ = some (.int .i64 x_a7) ∧ 
    hcell H17 ⟨bF, 2, none⟩ = some (.string x_b7) ∧ hcell H17 ⟨bF, 3, none⟩ = some (.int .i64 x_c7) ∧ 
    hcell H17 ⟨bF, 4, none⟩ = some (.slice x_d7.a x_d7.n x_d7.c) ∧ True) ∧ StL ⟨bT, 0, none⟩ 0 [.int .i64 x_a7, .string x_b7, .int .i64 x_c7, .slice x_d7.a x_d7.n x_d7.c] H17 fun H18 => 
    (∃ m2, m2 < m1 ∧ I t22 cell1 begins1 H18 m2)) ∧ ((decide (t22 < y_11)) = false → (∃ m5, m5 < m4 ∧ 
    I1 (w64 (t22 - y_11)) (w64 (cell1 + y_01)) (w64 (t97 + 1)) H17 m5)))) Z))) ∧ ((decide (t97 < (y2.n : Int))) = false → 
    (∃ m2, m2 < m1 ∧ I t22 cell1 begins1 H14 m2)))) Z) ∧ (((t21 == 0) = true → ∃ x7 : ByteArray, hcell H5 ⟨bT, 1, none⟩ = some (.string x7) ∧ 
    ∀ b1 H19, Newb H5 (.cells #[.string x7, .int .i64 0, .int .i64 0] 108) b1 H19 → App Tryd.prog #[103, 103] 103 H19 [.slice begins.a begins.n begins.c, .slice (some ⟨b1, 0, none⟩) 1 1] fun ap1 H20 => 
    (J2 ap1 H20)) ∧ ((t21 == 0) = false → (J2 begins H5)))))) ∧ ∃ x8 : Int, hcell H4 ⟨bT, 0, none⟩ = some (.int .i64 x8) ∧ 
    (((x8 == 3) = true → (J1  H4)) ∧ ((x8 == 3) = false → ∃ x9 : Int, hcell H4 ⟨bT, 0, none⟩ = some (.int .i64 x9) ∧ 
    (((x9 == 4) = true → (J1  H4)) ∧ ((x9 == 4) = false → K (.tuple #[.int .i64 cell, .slice begins.a begins.n begins.c, .int .i64 0]) H4))))) ∧ 
    ∃ x_a8 : Int, ∃ x_b8 : ByteArray, ∃ x_c8 : Int, ∃ x_d8 : Sl, (hcell H2 ⟨bT, 0, none⟩ = some (.int .i64 x_a8) ∧ 
    hcell H2 ⟨bT, 1, none⟩ = some (.string x_b8) ∧ hcell H2 ⟨bT, 2, none⟩ = some (.int .i64 x_c8) ∧ hcell H2 ⟨bT, 3, none⟩ = some (.slice x_d8.a x_d8.n x_d8.c) ∧ 
    True) ∧ CallF Tryd.prog 59 #[.slice l.a l.n l.c, .agg #[.int .i64 x_a8, .string x_b8, .int .i64 x_c8, .slice x_d8.a x_d8.n x_d8.c]] H2 (fun r5 H21 => 
    ∃ y_02 : Int, ∃ y_12 : Int, r5 = .tuple #[.int .i64 y_02, .int .i64 y_12] ∧ (((decide (t2 < 0)) = true → 
    K (.tuple #[.int .i64 0, .slice none 0 0, .int .i64 2]) H21) ∧ ((decide (t2 < 0)) = false → (((decide (t2 ≥ y_12)) = true → 
    K (.tuple #[.int .i64 0, .slice none 0 0, .int .i64 2]) H21) ∧ ((decide (t2 ≥ y_12)) = false → (J  H21)))))) Z))) Z
def aJ60 : Ann := (fun k => if k = 7 then some [] else if k = 10 then some [] else if k = 17 then some [(13, (.sc .sl))] else if k = 2000013 then some [] else none)
def aL60 : Ann := (fun k => if k = 9 then some [(2, (.sc (.int .i64))), (12, (.sc (.int .i64))), (13, (.sc .sl))] else if k = 18 then some [(2, (.sc (.int .i64))), (12, (.sc (.int .i64))), (97, (.sc (.int .i64)))] else none)
theorem V60_ok {H : Hp} {l : Sl} {t_a : Int} {t_b : ByteArray} {t_c : Int} {t_d : Sl} {t2 : Int} {K : Value → Hp → Prop} {Z : List PanicEntry → Hp → Prop} (h : V60 H l t_a t_b t_c t_d t2 K Z) : CallF Tryd.prog 60 #[.slice l.a l.n l.c, .agg #[.int .i64 t_a, .string t_b, .int .i64 t_c, .slice t_d.a t_d.n t_d.c], .int .i64 t2] H K Z :=
  fnC_sound (P := Tryd.prog) (aJ := aJ60) (aL := aL60) (f := 60) (args := [.slice l.a l.n l.c, .agg #[.int .i64 t_a, .string t_b, .int .i64 t_c, .slice t_d.a t_d.n t_d.c], .int .i64 t2]) (Eq.mp (by kernel_rfl) h)
/-- (weft/shape.structs).look -/
def V72 (H : Hp) (l : Sl) (t_a : Int) (t_b : ByteArray) (t_c : Int) (t_d : Sl) (deep : Int) (K : Value → Hp → Prop) (Z : List PanicEntry → Hp → Prop) : Prop :=
  ∀ bT H1, Newb H (.cells #[.int .i64 t_a, .string t_b, .int .i64 t_c, .slice t_d.a t_d.n t_d.c] 51) bT H1 → 
    (((decide (deep > 4)) = true → K (.int .i64 10) H1) ∧ ((decide (deep > 4)) = false → ∃ J : Hp → Prop, (∀ H2, J  H2 → 
    ∀ scr : Nat → Value, ∃ x : ByteArray, hcell H2 ⟨bT, 1, none⟩ = some (.string x) ∧ CallF Tryd.prog 73 #[.slice l.a l.n l.c, .string x] H2 (fun r H3 => 
    ∃ y_0_a : ByteArray, ∃ y_0_b : Sl, ∃ y_1 : Bool, r = .tuple #[.agg #[.string y_0_a, .slice y_0_b.a y_0_b.n y_0_b.c], .bool y_1] ∧ 
    ∀ bS H4, Newb H3 (.cells #[.string ⟨#[]⟩, .slice none 0 0] 81) bS H4 → StL ⟨bS, 0, none⟩ 0 [.string y_0_a, .slice y_0_b.a y_0_b.n y_0_b.c] H4 fun H5 => 
    (∃ J1 : Hp → Prop, (∀ H6, J1  H6 → ∀ scr1 : Nat → Value, ∃ x1 : Sl, hcell H6 ⟨bS, 1, none⟩ = some (.slice x1.a x1.n x1.c) ∧ 
    ∃ I : Int → Hp → Nat → Prop, (∃ m, I 0 H6 m) ∧ ∀ (t69 : Int), ∀ H7 m1, I t69 H7 m1 → ∀ scr2 : Nat → 
    Value, (((decide (t69 < (x1.n : Int))) = true → IxA x1.a x1.n t69 5 fun ad => (∃ x_a : ByteArray, ∃ x_b : Int, ∃ x_c : ByteArray, ∃ x_d : Int, ∃ x_e : Sl, (hcell H7 ad = some (.string x_a) ∧ 
    hcell H7 (Addr.add ad 1) = some (.int .i64 x_b) ∧ hcell H7 (Addr.add ad 2) = some (.string x_c) ∧ 
    hcell H7 (Addr.add ad 3) = some (.int .i64 x_d) ∧ hcell H7 (Addr.add ad 4) = some (.slice x_e.a x_e.n x_e.c) ∧ 
    True) ∧ ∀ bF H8, Newb H7 (.cells #[.string ⟨#[]⟩, .int .i64 0, .string ⟨#[]⟩, .int .i64 0, .slice none 0 0] 83) bF H8 → 
    StL ⟨bF, 0, none⟩ 0 [.string x_a, .int .i64 x_b, .string x_c, .int .i64 x_d, .slice x_e.a x_e.n x_e.c] H8 fun H9 => 
    (∃ x_a1 : Int, ∃ x_b1 : ByteArray, ∃ x_c1 : Int, ∃ x_d1 : Sl, (hcell H9 ⟨bF, 1, none⟩ = some (.int .i64 x_a1) ∧ 
    hcell H9 ⟨bF, 2, none⟩ = some (.string x_b1) ∧ hcell H9 ⟨bF, 3, none⟩ = some (.int .i64 x_c1) ∧ hcell H9 ⟨bF, 4, none⟩ = some (.slice x_d1.a x_d1.n x_d1.c) ∧ 
    True) ∧ CallF Tryd.prog 72 #[.slice l.a l.n l.c, .agg #[.int .i64 x_a1, .string x_b1, .int .i64 x_c1, .slice x_d1.a x_d1.n x_d1.c], .int .i64 (w64 (deep + 1))] H9 (fun r1 H10 => 
    ∃ y : Int, r1 = .int .i64 y ∧ (((y != 0) = true → K (.int .i64 y) H10) ∧ ((y != 0) = false → (∃ m2, m2 < m1 ∧ 
    I (w64 (t69 + 1)) H10 m2)))) Z))) ∧ ((decide (t69 < (x1.n : Int))) = false → K (.int .i64 0) H7))) ∧ 
    (((!y_1) = true → K (.int .i64 7) H5) ∧ ((!y_1) = false → ∃ x2 : Sl, hcell H5 ⟨bS, 1, none⟩ = some (.slice x2.a x2.n x2.c) ∧ 
    ((((x2.n : Int) == 0) = true → K (.int .i64 3) H5) ∧ (((x2.n : Int) == 0) = false → ∃ x3 : Sl, hcell H5 ⟨bS, 1, none⟩ = some (.slice x3.a x3.n x3.c) ∧ 
    (((decide ((x3.n : Int) > 8)) = true → K (.int .i64 3) H5) ∧ ((decide ((x3.n : Int) > 8)) = false → 
    (J1  H5))))))))) Z) ∧ ∃ x4 : Int, hcell H1 ⟨bT, 0, none⟩ = some (.int .i64 x4) ∧ ∃ J2 : Bool → Hp → 
    Prop, (∀ (t16 : Bool), ∀ H11, J2 t16 H11 → ∀ scr3 : Nat → Value, ((t16 = true → K (.int .i64 0) H11) ∧ 
    (t16 = false → (((x4 == 4) = true → ∃ x5 : Sl, hcell H11 ⟨bT, 3, none⟩ = some (.slice x5.a x5.n x5.c) ∧ 
    ((((x5.n : Int) != 1) = true → K (.int .i64 3) H11) ∧ (((x5.n : Int) != 1) = false → ∃ x6 : Int, hcell H11 ⟨bT, 2, none⟩ = some (.int .i64 x6) ∧ 
    (((decide (x6 < 1)) = true → K (.int .i64 3) H11) ∧ ((decide (x6 < 1)) = false → ∃ x7 : Int, hcell H11 ⟨bT, 2, none⟩ = some (.int .i64 x7) ∧ 
    (((decide (x7 > 16)) = true → K (.int .i64 3) H11) ∧ ((decide (x7 > 16)) = false → ∃ x8 : Sl, hcell H11 ⟨bT, 3, none⟩ = some (.slice x8.a x8.n x8.c) ∧ 
    IxA x8.a x8.n 0 4 fun ad1 => (∃ x_a2 : Int, ∃ x_b2 : ByteArray, ∃ x_c2 : Int, ∃ x_d2 : Sl, (hcell H11 ad1 = some (.int .i64 x_a2) ∧ 
    hcell H11 (Addr.add ad1 1) = some (.string x_b2) ∧ hcell H11 (Addr.add ad1 2) = some (.int .i64 x_c2) ∧ 
    hcell H11 (Addr.add ad1 3) = some (.slice x_d2.a x_d2.n x_d2.c) ∧ True) ∧ CallF Tryd.prog 72 #[.slice l.a l.n l.c, .agg #[.int .i64 x_a2, .string x_b2, .int .i64 x_c2, .slice x_d2.a x_d2.n x_d2.c], .int .i64 (w64 (deep + 1))] H11 (fun r2 H12 => 
    ∃ y1 : Int, r2 = .int .i64 y1 ∧ K (.int .i64 y1) H12) Z)))))))) ∧ ((x4 == 4) = false → (((x4 == 3) = true → 
    (J  H11)) ∧ ((x4 == 3) = false → K (.int .i64 5) H11))))))) ∧ (((x4 == 1) = true → (J2 (x4 == 1) H1)) ∧ 
    ((x4 == 1) = false → (J2 (x4 == 2) H1)))))
def aJ72 : Ann := (fun k => if k = 7 then some [(16, (.sc .bool))] else if k = 13 then some [] else if k = 18 then some [] else none)
def aL72 : Ann := (fun k => if k = 19 then some [(69, (.sc (.int .i64)))] else none)
theorem V72_ok {H : Hp} {l : Sl} {t_a : Int} {t_b : ByteArray} {t_c : Int} {t_d : Sl} {deep : Int} {K : Value → Hp → Prop} {Z : List PanicEntry → Hp → Prop} (h : V72 H l t_a t_b t_c t_d deep K Z) : CallF Tryd.prog 72 #[.slice l.a l.n l.c, .agg #[.int .i64 t_a, .string t_b, .int .i64 t_c, .slice t_d.a t_d.n t_d.c], .int .i64 deep] H K Z :=
  fnC_sound (P := Tryd.prog) (aJ := aJ72) (aL := aL72) (f := 72) (args := [.slice l.a l.n l.c, .agg #[.int .i64 t_a, .string t_b, .int .i64 t_c, .slice t_d.a t_d.n t_d.c], .int .i64 deep]) (Eq.mp (by kernel_rfl) h)
/-- (weft/shape.structs).of -/
def V73 (H : Hp) (l : Sl) (name : ByteArray) (K : Value → Hp → Prop) (Z : List PanicEntry → Hp → Prop) : Prop :=
  ∀ bName H1, Newb H (.cells #[.string name] 9) bName H1 → ∀ b H2, Newb H1 (.cells #[.string ⟨#[]⟩, .slice none 0 0] 81) b H2 → 
    CallF Tryd.prog 80 #[.slice l.a l.n l.c, .func (.func 81) #[] #[.pointer (some ⟨bName, 0, none⟩)]] H2 (fun r H3 => 
    ∃ y : Int, r = .int .i64 y ∧ (((decide (y < 0)) = true → StL ⟨b, 0, none⟩ 0 [.string ⟨#[]⟩, .slice none 0 0] H3 fun H4 => 
    (∃ res_a : ByteArray, ∃ res_b : Sl, (hcell H4 ⟨b, 0, none⟩ = some (.string res_a) ∧ hcell H4 ⟨b, 1, none⟩ = some (.slice res_b.a res_b.n res_b.c) ∧ 
    True) ∧ K (.tuple #[.agg #[.string res_a, .slice res_b.a res_b.n res_b.c], .bool false]) H4)) ∧ ((decide (y < 0)) = false → 
    IxA l.a l.n y 2 fun ad => (∃ x_a : ByteArray, ∃ x_b : Sl, (hcell H3 ad = some (.string x_a) ∧ hcell H3 (Addr.add ad 1) = some (.slice x_b.a x_b.n x_b.c) ∧ 
    True) ∧ StL ⟨b, 0, none⟩ 0 [.string x_a, .slice x_b.a x_b.n x_b.c] H3 fun H5 => (∃ res_a1 : ByteArray, ∃ res_b1 : Sl, (hcell H5 ⟨b, 0, none⟩ = some (.string res_a1) ∧ 
    hcell H5 ⟨b, 1, none⟩ = some (.slice res_b1.a res_b1.n res_b1.c) ∧ True) ∧ K (.tuple #[.agg #[.string res_a1, .slice res_b1.a res_b1.n res_b1.c], .bool true]) H5))))) Z
def aJ73 : Ann := (fun _ => none)
def aL73 : Ann := (fun _ => none)
theorem V73_ok {H : Hp} {l : Sl} {name : ByteArray} {K : Value → Hp → Prop} {Z : List PanicEntry → Hp → Prop} (h : V73 H l name K Z) : CallF Tryd.prog 73 #[.slice l.a l.n l.c, .string name] H K Z :=
  fnC_sound (P := Tryd.prog) (aJ := aJ73) (aL := aL73) (f := 73) (args := [.slice l.a l.n l.c, .string name]) (Eq.mp (by kernel_rfl) h)
/-- (weft/shape.structs).of$1 -/
def V81 (H : Hp) (s_a : ByteArray) (s_b : Sl) (cap0 : Addr) (K : Value → Hp → Prop) (Z : List PanicEntry → Hp → Prop) : Prop :=
  ∀ bS H1, Newb H (.cells #[.string s_a, .slice s_b.a s_b.n s_b.c] 81) bS H1 → ∃ x : ByteArray, hcell H1 ⟨bS, 0, none⟩ = some (.string x) ∧ 
    ∃ x1 : ByteArray, hcell H1 cap0 = some (.string x1) ∧ K (.bool (beqS x x1)) H1
def aJ81 : Ann := (fun _ => none)
def aL81 : Ann := (fun _ => none)
theorem V81_ok {H : Hp} {s_a : ByteArray} {s_b : Sl} {cap0 : Addr} {K : Value → Hp → Prop} {Z : List PanicEntry → Hp → Prop} (h : V81 H s_a s_b cap0 K Z) : CallF Tryd.prog 81 #[.agg #[.string s_a, .slice s_b.a s_b.n s_b.c], .pointer (some cap0)] H K Z :=
  fnC_sound (P := Tryd.prog) (aJ := aJ81) (aL := aL81) (f := 81) (args := [.agg #[.string s_a, .slice s_b.a s_b.n s_b.c], .pointer (some cap0)]) (Eq.mp (by kernel_rfl) h)
/-- slices.IndexFunc[weft/shape.structs,weft/api.Struct] -/
def V80 (H : Hp) (s : Sl) (f : Value) (K : Value → Hp → Prop) (Z : List PanicEntry → Hp → Prop) : Prop :=
  ∃ I : Int → Hp → Nat → Prop, (∃ m, I 0 H m) ∧ ∀ (t8 : Int), ∀ H1 m1, I t8 H1 m1 → ∀ scr : Nat → Value, (((decide (t8 < (s.n : Int))) = true → 
    IxA s.a s.n t8 2 fun ad => (∃ x_a : ByteArray, ∃ x_b : Sl, (hcell H1 ad = some (.string x_a) ∧ hcell H1 (Addr.add ad 1) = some (.slice x_b.a x_b.n x_b.c) ∧ 
    True) ∧ callV Tryd.prog f [.agg #[.string x_a, .slice x_b.a x_b.n x_b.c]] H1 (fun r H2 => ∃ y : Bool, r = .bool y ∧ 
    ((y = true → K (.int .i64 t8) H2) ∧ (y = false → (∃ m2, m2 < m1 ∧ I (w64 (t8 + 1)) H2 m2)))) Z)) ∧ 
    ((decide (t8 < (s.n : Int))) = false → K (.int .i64 (-1)) H1))
def aJ80 : Ann := (fun _ => none)
def aL80 : Ann := (fun k => if k = 2 then some [(8, (.sc (.int .i64)))] else none)
theorem V80_ok {H : Hp} {s : Sl} {f : Value} {K : Value → Hp → Prop} {Z : List PanicEntry → Hp → Prop} (h : V80 H s f K Z) : CallF Tryd.prog 80 #[.slice s.a s.n s.c, f] H K Z :=
  fnC_sound (P := Tryd.prog) (aJ := aJ80) (aL := aL80) (f := 80) (args := [.slice s.a s.n s.c, f]) (Eq.mp (by kernel_rfl) h)
/-- slices.IndexFunc[[]weft/shape.start,weft/shape.start] -/
def V74 (H : Hp) (s : Sl) (f : Value) (K : Value → Hp → Prop) (Z : List PanicEntry → Hp → Prop) : Prop :=
  ∃ I : Int → Hp → Nat → Prop, (∃ m, I 0 H m) ∧ ∀ (t8 : Int), ∀ H1 m1, I t8 H1 m1 → ∀ scr : Nat → Value, (((decide (t8 < (s.n : Int))) = true → 
    IxA s.a s.n t8 3 fun ad => (∃ x_a : ByteArray, ∃ x_b : Int, ∃ x_c : Int, (hcell H1 ad = some (.string x_a) ∧ 
    hcell H1 (Addr.add ad 1) = some (.int .i64 x_b) ∧ hcell H1 (Addr.add ad 2) = some (.int .i64 x_c) ∧ 
    True) ∧ callV Tryd.prog f [.agg #[.string x_a, .int .i64 x_b, .int .i64 x_c]] H1 (fun r H2 => ∃ y : Bool, r = .bool y ∧ 
    ((y = true → K (.int .i64 t8) H2) ∧ (y = false → (∃ m2, m2 < m1 ∧ I (w64 (t8 + 1)) H2 m2)))) Z)) ∧ 
    ((decide (t8 < (s.n : Int))) = false → K (.int .i64 (-1)) H1))
def aJ74 : Ann := (fun _ => none)
def aL74 : Ann := (fun k => if k = 2 then some [(8, (.sc (.int .i64)))] else none)
theorem V74_ok {H : Hp} {s : Sl} {f : Value} {K : Value → Hp → Prop} {Z : List PanicEntry → Hp → Prop} (h : V74 H s f K Z) : CallF Tryd.prog 74 #[.slice s.a s.n s.c, f] H K Z :=
  fnC_sound (P := Tryd.prog) (aJ := aJ74) (aL := aL74) (f := 74) (args := [.slice s.a s.n s.c, f]) (Eq.mp (by kernel_rfl) h)
/-- slices.ContainsFunc[[]weft/shape.start,weft/shape.start] -/
def V61 (H : Hp) (s : Sl) (f : Value) (K : Value → Hp → Prop) (Z : List PanicEntry → Hp → Prop) : Prop :=
  CallF Tryd.prog 74 #[.slice s.a s.n s.c, f] H (fun r H1 => ∃ y : Int, r = .int .i64 y ∧ K (.bool (decide (y ≥ 0))) H1) Z
def aJ61 : Ann := (fun _ => none)
def aL61 : Ann := (fun _ => none)
theorem V61_ok {H : Hp} {s : Sl} {f : Value} {K : Value → Hp → Prop} {Z : List PanicEntry → Hp → Prop} (h : V61 H s f K Z) : CallF Tryd.prog 61 #[.slice s.a s.n s.c, f] H K Z :=
  fnC_sound (P := Tryd.prog) (aJ := aJ61) (aL := aL61) (f := 61) (args := [.slice s.a s.n s.c, f]) (Eq.mp (by kernel_rfl) h)
/-- (*strings.Builder).Len -/
def V57 (H : Hp) (b : Addr) (K : Value → Hp → Prop) (Z : List PanicEntry → Hp → Prop) : Prop :=
  ∃ x : Sl, hcell H (Addr.add b 1) = some (.slice x.a x.n x.c) ∧ K (.int .i64 (x.n : Int)) H
def aJ57 : Ann := (fun _ => none)
def aL57 : Ann := (fun _ => none)
theorem V57_ok {H : Hp} {b : Addr} {K : Value → Hp → Prop} {Z : List PanicEntry → Hp → Prop} (h : V57 H b K Z) : CallF Tryd.prog 57 #[.pointer (some b)] H K Z :=
  fnC_sound (P := Tryd.prog) (aJ := aJ57) (aL := aL57) (f := 57) (args := [.pointer (some b)]) (Eq.mp (by kernel_rfl) h)
/-- weft/weftlaw10.ShapeTexts -/
def V5 (H : Hp) (t_a : Int) (t_b : ByteArray) (t_c : Int) (t_d : Sl) (K : Value → Hp → Prop) (Z : List PanicEntry → Hp → Prop) : Prop :=
  ∀ bT H1, Newb H (.cells #[.int .i64 t_a, .string t_b, .int .i64 t_c, .slice t_d.a t_d.n t_d.c] 51) bT H1 → 
    ∃ x_a : Int, ∃ x_b : ByteArray, ∃ x_c : Int, ∃ x_d : Sl, (hcell H1 ⟨bT, 0, none⟩ = some (.int .i64 x_a) ∧ 
    hcell H1 ⟨bT, 1, none⟩ = some (.string x_b) ∧ hcell H1 ⟨bT, 2, none⟩ = some (.int .i64 x_c) ∧ hcell H1 ⟨bT, 3, none⟩ = some (.slice x_d.a x_d.n x_d.c) ∧ 
    True) ∧ CallF Tryd.prog 25 #[.slice none 0 0, .agg #[.int .i64 x_a, .string x_b, .int .i64 x_c, .slice x_d.a x_d.n x_d.c]] H1 (fun r H2 => 
    ∃ y : Bool, r = .bool y ∧ ((y = true → (((K (.bool true) H2) ∧ (K (.bool true) H2)) ∧ ((K (.bool true) H2) ∧ 
    (K (.bool true) H2)))) ∧ (y = false → ∃ x_a1 : Int, ∃ x_b1 : ByteArray, ∃ x_c1 : Int, ∃ x_d1 : Sl, (hcell H2 ⟨bT, 0, none⟩ = some (.int .i64 x_a1) ∧ 
    hcell H2 ⟨bT, 1, none⟩ = some (.string x_b1) ∧ hcell H2 ⟨bT, 2, none⟩ = some (.int .i64 x_c1) ∧ hcell H2 ⟨bT, 3, none⟩ = some (.slice x_d1.a x_d1.n x_d1.c) ∧ 
    True) ∧ ((CallF Tryd.prog 26 #[.agg #[.int .i64 x_a1, .string x_b1, .int .i64 x_c1, .slice x_d1.a x_d1.n x_d1.c]] H2 (fun r1 H3 => 
    ∃ y1 : ByteArray, r1 = .string y1 ∧ ∃ x_a2 : Int, ∃ x_b2 : ByteArray, ∃ x_c2 : Int, ∃ x_d2 : Sl, (hcell H3 ⟨bT, 0, none⟩ = some (.int .i64 x_a2) ∧ 
    hcell H3 ⟨bT, 1, none⟩ = some (.string x_b2) ∧ hcell H3 ⟨bT, 2, none⟩ = some (.int .i64 x_c2) ∧ hcell H3 ⟨bT, 3, none⟩ = some (.slice x_d2.a x_d2.n x_d2.c) ∧ 
    True) ∧ CallF Tryd.prog 27 #[.agg #[.int .i64 x_a2, .string x_b2, .int .i64 x_c2, .slice x_d2.a x_d2.n x_d2.c]] H3 (fun r2 H4 => 
    ∃ y2 : ByteArray, r2 = .string y2 ∧ (((beqS y1 y2) = true → ∃ x_a3 : Int, ∃ x_b3 : ByteArray, ∃ x_c3 : Int, ∃ x_d3 : Sl, (hcell H4 ⟨bT, 0, none⟩ = some (.int .i64 x_a3) ∧ 
    hcell H4 ⟨bT, 1, none⟩ = some (.string x_b3) ∧ hcell H4 ⟨bT, 2, none⟩ = some (.int .i64 x_c3) ∧ hcell H4 ⟨bT, 3, none⟩ = some (.slice x_d3.a x_d3.n x_d3.c) ∧ 
    True) ∧ ((CallF Tryd.prog 28 #[.agg #[.int .i64 x_a3, .string x_b3, .int .i64 x_c3, .slice x_d3.a x_d3.n x_d3.c]] H4 (fun r3 H5 => 
    ∃ y3 : ByteArray, r3 = .string y3 ∧ ∃ x_a4 : Int, ∃ x_b4 : ByteArray, ∃ x_c4 : Int, ∃ x_d4 : Sl, (hcell H5 ⟨bT, 0, none⟩ = some (.int .i64 x_a4) ∧ 
    hcell H5 ⟨bT, 1, none⟩ = some (.string x_b4) ∧ hcell H5 ⟨bT, 2, none⟩ = some (.int .i64 x_c4) ∧ hcell H5 ⟨bT, 3, none⟩ = some (.slice x_d4.a x_d4.n x_d4.c) ∧ 
    True) ∧ CallF Tryd.prog 29 #[.agg #[.int .i64 x_a4, .string x_b4, .int .i64 x_c4, .slice x_d4.a x_d4.n x_d4.c]] H5 (fun r4 H6 => 
    ∃ y4 : ByteArray, r4 = .string y4 ∧ (((beqS y3 y4) = true → CallF Tryd.prog 30 #[] H6 (fun r5 H7 => 
    ∃ y5 : Bool, r5 = .bool y5 ∧ K (.bool y5) H7) Z) ∧ ((beqS y3 y4) = false → K (.bool false) H6))) Z) Z) ∧ 
    (∃ x_a5 : Int, ∃ x_b5 : ByteArray, ∃ x_c5 : Int, ∃ x_d5 : Sl, (hcell H4 ⟨bT, 0, none⟩ = some (.int .i64 x_a5) ∧ 
    hcell H4 ⟨bT, 1, none⟩ = some (.string x_b5) ∧ hcell H4 ⟨bT, 2, none⟩ = some (.int .i64 x_c5) ∧ hcell H4 ⟨bT, 3, none⟩ = some (.slice x_d5.a x_d5.n x_d5.c) ∧ 
    True) ∧ CallF Tryd.prog 28 #[.agg #[.int .i64 x_a3, .string x_b3, .int .i64 x_c3, .slice x_d3.a x_d3.n x_d3.c]] H4 (fun r6 H8 => 
    ∃ y6 : ByteArray, r6 = .string y6 ∧ CallF Tryd.prog 29 #[.agg #[.int .i64 x_a5, .string x_b5, .int .i64 x_c5, .slice x_d5.a x_d5.n x_d5.c]] H8 (fun r7 H9 => 
    ∃ y7 : ByteArray, r7 = .string y7 ∧ (((beqS y6 y7) = true → CallF Tryd.prog 30 #[] H9 (fun r8 H10 => 
    ∃ y8 : Bool, r8 = .bool y8 ∧ K (.bool y8) H10) Z) ∧ ((beqS y6 y7) = false → K (.bool false) H9))) Z) Z))) ∧ 
    ((beqS y1 y2) = false → ((K (.bool false) H4) ∧ (K (.bool false) H4))))) Z) Z) ∧ (∃ x_a6 : Int, ∃ x_b6 : ByteArray, ∃ x_c6 : Int, ∃ x_d6 : Sl, (hcell H2 ⟨bT, 0, none⟩ = some (.int .i64 x_a6) ∧ 
    hcell H2 ⟨bT, 1, none⟩ = some (.string x_b6) ∧ hcell H2 ⟨bT, 2, none⟩ = some (.int .i64 x_c6) ∧ hcell H2 ⟨bT, 3, none⟩ = some (.slice x_d6.a x_d6.n x_d6.c) ∧ 
    True) ∧ CallF Tryd.prog 26 #[.agg #[.int .i64 x_a1, .string x_b1, .int .i64 x_c1, .slice x_d1.a x_d1.n x_d1.c]] H2 (fun r9 H11 => 
    ∃ y9 : ByteArray, r9 = .string y9 ∧ CallF Tryd.prog 27 #[.agg #[.int .i64 x_a6, .string x_b6, .int .i64 x_c6, .slice x_d6.a x_d6.n x_d6.c]] H11 (fun r10 H12 => 
    ∃ y10 : ByteArray, r10 = .string y10 ∧ (((beqS y9 y10) = true → ∃ x_a7 : Int, ∃ x_b7 : ByteArray, ∃ x_c7 : Int, ∃ x_d7 : Sl, (hcell H12 ⟨bT, 0, none⟩ = some (.int .i64 x_a7) ∧ 
    hcell H12 ⟨bT, 1, none⟩ = some (.string x_b7) ∧ hcell H12 ⟨bT, 2, none⟩ = some (.int .i64 x_c7) ∧ 
    hcell H12 ⟨bT, 3, none⟩ = some (.slice x_d7.a x_d7.n x_d7.c) ∧ True) ∧ ((CallF Tryd.prog 28 #[.agg #[.int .i64 x_a7, .string x_b7, .int .i64 x_c7, .slice x_d7.a x_d7.n x_d7.c]] H12 (fun r11 H13 => 
    ∃ y11 : ByteArray, r11 = .string y11 ∧ ∃ x_a8 : Int, ∃ x_b8 : ByteArray, ∃ x_c8 : Int, ∃ x_d8 : Sl, (hcell H13 ⟨bT, 0, none⟩ = some (.int .i64 x_a8) ∧ 
    hcell H13 ⟨bT, 1, none⟩ = some (.string x_b8) ∧ hcell H13 ⟨bT, 2, none⟩ = some (.int .i64 x_c8) ∧ 
    hcell H13 ⟨bT, 3, none⟩ = some (.slice x_d8.a x_d8.n x_d8.c) ∧ True) ∧ CallF Tryd.prog 29 #[.agg #[.int .i64 x_a8, .string x_b8, .int .i64 x_c8, .slice x_d8.a x_d8.n x_d8.c]] H13 (fun r12 H14 => 
    ∃ y12 : ByteArray, r12 = .string y12 ∧ (((beqS y11 y12) = true → CallF Tryd.prog 30 #[] H14 (fun r13 H15 => 
    ∃ y13 : Bool, r13 = .bool y13 ∧ K (.bool y13) H15) Z) ∧ ((beqS y11 y12) = false → K (.bool false) H14))) Z) Z) ∧ 
    (∃ x_a9 : Int, ∃ x_b9 : ByteArray, ∃ x_c9 : Int, ∃ x_d9 : Sl, (hcell H12 ⟨bT, 0, none⟩ = some (.int .i64 x_a9) ∧ 
    hcell H12 ⟨bT, 1, none⟩ = some (.string x_b9) ∧ hcell H12 ⟨bT, 2, none⟩ = some (.int .i64 x_c9) ∧ 
    hcell H12 ⟨bT, 3, none⟩ = some (.slice x_d9.a x_d9.n x_d9.c) ∧ True) ∧ CallF Tryd.prog 28 #[.agg #[.int .i64 x_a7, .string x_b7, .int .i64 x_c7, .slice x_d7.a x_d7.n x_d7.c]] H12 (fun r14 H16 => 
    ∃ y14 : ByteArray, r14 = .string y14 ∧ CallF Tryd.prog 29 #[.agg #[.int .i64 x_a9, .string x_b9, .int .i64 x_c9, .slice x_d9.a x_d9.n x_d9.c]] H16 (fun r15 H17 => 
    ∃ y15 : ByteArray, r15 = .string y15 ∧ (((beqS y14 y15) = true → CallF Tryd.prog 30 #[] H17 (fun r16 H18 => 
    ∃ y16 : Bool, r16 = .bool y16 ∧ K (.bool y16) H18) Z) ∧ ((beqS y14 y15) = false → K (.bool false) H17))) Z) Z))) ∧ 
    ((beqS y9 y10) = false → ((K (.bool false) H12) ∧ (K (.bool false) H12))))) Z) Z))))) Z
def aJ5 : Ann := (fun _ => none)
def aL5 : Ann := (fun _ => none)
theorem V5_ok {H : Hp} {t_a : Int} {t_b : ByteArray} {t_c : Int} {t_d : Sl} {K : Value → Hp → Prop} {Z : List PanicEntry → Hp → Prop} (h : V5 H t_a t_b t_c t_d K Z) : CallF Tryd.prog 5 #[.agg #[.int .i64 t_a, .string t_b, .int .i64 t_c, .slice t_d.a t_d.n t_d.c]] H K Z :=
  fnC_sound (P := Tryd.prog) (aJ := aJ5) (aL := aL5) (f := 5) (args := [.agg #[.int .i64 t_a, .string t_b, .int .i64 t_c, .slice t_d.a t_d.n t_d.c]]) (Eq.mp (by kernel_rfl) h)
/-- weft/weftlaw10.ShapeAll -/
def V6 (H : Hp) (l : Sl) (t_a : Int) (t_b : ByteArray) (t_c : Int) (t_d : Sl) (K : Value → Hp → Prop) (Z : List PanicEntry → Hp → Prop) : Prop :=
  ∀ bT H1, Newb H (.cells #[.int .i64 t_a, .string t_b, .int .i64 t_c, .slice t_d.a t_d.n t_d.c] 51) bT H1 → 
    CallF Tryd.prog 30 #[] H1 (fun r H2 => ∃ y : Bool, r = .bool y ∧ (((!y) = true → K (.bool false) H2) ∧ 
    ((!y) = false → ∃ x_a : Int, ∃ x_b : ByteArray, ∃ x_c : Int, ∃ x_d : Sl, (hcell H2 ⟨bT, 0, none⟩ = some (.int .i64 x_a) ∧ 
    hcell H2 ⟨bT, 1, none⟩ = some (.string x_b) ∧ hcell H2 ⟨bT, 2, none⟩ = some (.int .i64 x_c) ∧ hcell H2 ⟨bT, 3, none⟩ = some (.slice x_d.a x_d.n x_d.c) ∧ 
    True) ∧ CallF Tryd.prog 25 #[.slice l.a l.n l.c, .agg #[.int .i64 x_a, .string x_b, .int .i64 x_c, .slice x_d.a x_d.n x_d.c]] H2 (fun r1 H3 => 
    ∃ y1 : Bool, r1 = .bool y1 ∧ ((y1 = true → K (.bool true) H3) ∧ (y1 = false → ∃ x_a1 : Int, ∃ x_b1 : ByteArray, ∃ x_c1 : Int, ∃ x_d1 : Sl, (hcell H3 ⟨bT, 0, none⟩ = some (.int .i64 x_a1) ∧ 
    hcell H3 ⟨bT, 1, none⟩ = some (.string x_b1) ∧ hcell H3 ⟨bT, 2, none⟩ = some (.int .i64 x_c1) ∧ hcell H3 ⟨bT, 3, none⟩ = some (.slice x_d1.a x_d1.n x_d1.c) ∧ 
    True) ∧ CallF Tryd.prog 31 #[.slice l.a l.n l.c, .agg #[.int .i64 x_a1, .string x_b1, .int .i64 x_c1, .slice x_d1.a x_d1.n x_d1.c]] H3 (fun r2 H4 => 
    ∃ y_0 : ByteArray, ∃ y_1 : Sl, ∃ y_2 : Int, r2 = .tuple #[.string y_0, .slice y_1.a y_1.n y_1.c, .int .i64 y_2] ∧ 
    ∃ x_a2 : Int, ∃ x_b2 : ByteArray, ∃ x_c2 : Int, ∃ x_d2 : Sl, (hcell H4 ⟨bT, 0, none⟩ = some (.int .i64 x_a2) ∧ 
    hcell H4 ⟨bT, 1, none⟩ = some (.string x_b2) ∧ hcell H4 ⟨bT, 2, none⟩ = some (.int .i64 x_c2) ∧ hcell H4 ⟨bT, 3, none⟩ = some (.slice x_d2.a x_d2.n x_d2.c) ∧ 
    True) ∧ CallF Tryd.prog 32 #[.slice l.a l.n l.c, .agg #[.int .i64 x_a2, .string x_b2, .int .i64 x_c2, .slice x_d2.a x_d2.n x_d2.c]] H4 (fun r3 H5 => 
    ∃ y_01 : Int, ∃ y_11 : Int, r3 = .tuple #[.int .i64 y_01, .int .i64 y_11] ∧ ∃ J : Hp → Prop, (∀ H6, J  H6 → 
    ∀ scr : Nat → Value, MkS Tryd.prog 27 H6 (.int .i64 (y_0.size : Int)) (.int .i64 (y_0.size : Int)) fun mk H7 => 
    (∃ J1 : Int → Hp → Prop, (∀ (next : Int), ∀ H8, J1 next H8 → ∀ scr1 : Nat → Value, ∃ I : Int → Hp → 
    Nat → Prop, (∃ m, I 0 H8 m) ∧ ∀ (i : Int), ∀ H9 m1, I i H9 m1 → ∀ scr2 : Nat → Value, (((decide (i < (y_1.n : Int))) = true → 
    IxA y_1.a y_1.n i 2 fun ad => (∃ x : Int, hcell H9 ad = some (.int .i64 x) ∧ (((decide (x < 0)) = true → 
    K (.bool false) H9) ∧ ((decide (x < 0)) = false → IxA y_1.a y_1.n i 2 fun ad1 => (∃ x1 : Int, hcell H9 ad1 = some (.int .i64 x1) ∧ 
    (((decide (x1 ≥ (y_0.size : Int))) = true → K (.bool false) H9) ∧ ((decide (x1 ≥ (y_0.size : Int))) = false → 
    ∃ x_a3 : Int, ∃ x_b3 : ByteArray, ∃ x_c3 : Int, ∃ x_d3 : Sl, (hcell H9 ⟨bT, 0, none⟩ = some (.int .i64 x_a3) ∧ 
    hcell H9 ⟨bT, 1, none⟩ = some (.string x_b3) ∧ hcell H9 ⟨bT, 2, none⟩ = some (.int .i64 x_c3) ∧ hcell H9 ⟨bT, 3, none⟩ = some (.slice x_d3.a x_d3.n x_d3.c) ∧ 
    True) ∧ IxA y_1.a y_1.n i 2 fun ad2 => (∃ x2 : Int, hcell H9 ad2 = some (.int .i64 x2) ∧ IxA mk.a mk.n x2 1 fun ad3 => 
    (∃ x3 : Int, hcell H9 ad3 = some (.int .i64 x3) ∧ IxA y_1.a y_1.n i 2 fun ad4 => (∃ x4 : ByteArray, hcell H9 (Addr.add ad4 1) = some (.string x4) ∧ 
    CallF Tryd.prog 34 #[.slice l.a l.n l.c, .agg #[.int .i64 x_a3, .string x_b3, .int .i64 x_c3, .slice x_d3.a x_d3.n x_d3.c], .int .i64 x3, .string x4] H9 (fun r4 H10 => 
    ∃ y2 : Bool, r4 = .bool y2 ∧ (((!y2) = true → K (.bool false) H10) ∧ ((!y2) = false → (∃ m2, m2 < m1 ∧ 
    I (w64 (i + 1)) H10 m2)))) Z)))))))))) ∧ ((decide (i < (y_1.n : Int))) = false → K (.bool (next == (y_0.size : Int))) H9))) ∧ 
    ∃ I1 : Int → Int → Hp → Nat → Prop, (∃ m3, I1 0 0 H7 m3) ∧ ∀ (next1 : Int) (t12 : Int), ∀ H11 m4, I1 next1 t12 H11 m4 → 
    ∀ scr3 : Nat → Value, ∃ J2 : Hp → Prop, (∀ H12, J2  H12 → ∀ scr4 : Nat → Value, ∃ x_a4 : Int, ∃ x_b4 : ByteArray, ∃ x_c4 : Int, ∃ x_d4 : Sl, (hcell H12 ⟨bT, 0, none⟩ = some (.int .i64 x_a4) ∧ 
    hcell H12 ⟨bT, 1, none⟩ = some (.string x_b4) ∧ hcell H12 ⟨bT, 2, none⟩ = some (.int .i64 x_c4) ∧ 
    hcell H12 ⟨bT, 3, none⟩ = some (.slice x_d4.a x_d4.n x_d4.c) ∧ True) ∧ CallF Tryd.prog 33 #[.slice l.a l.n l.c, .agg #[.int .i64 x_a4, .string x_b4, .int .i64 x_c4, .slice x_d4.a x_d4.n x_d4.c], .int .i64 t12] H12 (fun r5 H13 => 
    ∃ y_02 : Int, ∃ y_12 : Int, r5 = .tuple #[.int .i64 y_02, .int .i64 y_12] ∧ (((y_12 != 0) = true → 
    K (.bool false) H13) ∧ ((y_12 != 0) = false → (((decide (y_02 < 0)) = true → K (.bool false) H13) ∧ 
    ((decide (y_02 < 0)) = false → (((decide (y_02 > next1)) = true → K (.bool false) H13) ∧ ((decide (y_02 > next1)) = false → 
    (((decide (y_02 ≥ (y_0.size : Int))) = true → K (.bool false) H13) ∧ ((decide (y_02 ≥ (y_0.size : Int))) = false → 
    (((y_02 == next1) = true → IxA mk.a mk.n y_02 1 fun ad5 => (StL ad5 0 [.int .i64 t12] H13 fun H14 => 
    (∃ m5, m5 < m4 ∧ I1 (w64 (next1 + 1)) (w64 (t12 + 1)) H14 m5))) ∧ ((y_02 == next1) = false → (∃ m5, m5 < m4 ∧ 
    I1 next1 (w64 (t12 + 1)) H13 m5)))))))))))) Z) ∧ (((decide (t12 < y_01)) = true → (((decide (t12 < 2000)) = true → 
    (J2  H11)) ∧ ((decide (t12 < 2000)) = false → (J1 next1 H11)))) ∧ ((decide (t12 < y_01)) = false → 
    (J1 next1 H11))))) ∧ (((y_2 != y_11) = true → (((y_2 == y_11) = true → (((beqS y_0 ⟨#[]⟩) = true → 
    K (.bool (y_01 == 0)) H5) ∧ ((beqS y_0 ⟨#[]⟩) = false → K (.bool false) H5))) ∧ ((y_2 == y_11) = false → 
    K (.bool false) H5))) ∧ ((y_2 != y_11) = false → (((y_2 != 0) = true → (((y_2 == y_11) = true → (((beqS y_0 ⟨#[]⟩) = true → 
    K (.bool (y_01 == 0)) H5) ∧ ((beqS y_0 ⟨#[]⟩) = false → K (.bool false) H5))) ∧ ((y_2 == y_11) = false → 
    K (.bool false) H5))) ∧ ((y_2 != 0) = false → (J  H5)))))) Z) Z))) Z))) Z
def aJ6 : Ann := (fun k => if k = 9 then some [] else if k = 14 then some [] else if k = 20 then some [(10, (.sc (.int .i64)))] else none)
def aL6 : Ann := (fun k => if k = 12 then some [(10, (.sc (.int .i64))), (12, (.sc (.int .i64)))] else if k = 21 then some [(15, (.sc (.int .i64)))] else none)
theorem V6_ok {H : Hp} {l : Sl} {t_a : Int} {t_b : ByteArray} {t_c : Int} {t_d : Sl} {K : Value → Hp → Prop} {Z : List PanicEntry → Hp → Prop} (h : V6 H l t_a t_b t_c t_d K Z) : CallF Tryd.prog 6 #[.slice l.a l.n l.c, .agg #[.int .i64 t_a, .string t_b, .int .i64 t_c, .slice t_d.a t_d.n t_d.c]] H K Z :=
  fnC_sound (P := Tryd.prog) (aJ := aJ6) (aL := aL6) (f := 6) (args := [.slice l.a l.n l.c, .agg #[.int .i64 t_a, .string t_b, .int .i64 t_c, .slice t_d.a t_d.n t_d.c]]) (Eq.mp (by kernel_rfl) h)
end Go.Proofs.YtigbdoicgdmliaaDoor.N10

