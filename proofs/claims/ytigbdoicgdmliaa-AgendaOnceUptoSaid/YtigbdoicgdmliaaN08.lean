/- The conditions of agenda's functions, and of weftref08's and weftlaw08's (printed by our own program vn.py; the kernel checks each against V5's comp). -/
import Derived.Test.YtigbdoicgdmliaaV8
import Derived.Test.YtigbdoicgdmliaaProg
set_option linter.unusedVariables false
set_option maxRecDepth 100000
-- of: 11
-- next: 12
-- putI: 15
-- takeI: 17
-- hasI: 19
-- lenI: 21
-- putS: 22
-- takeS: 23
-- hasS: 25
-- lenS: 26
-- rNext: 13
-- rHas: 20
-- rPut: 16
-- rTake: 18
-- works: 14
-- in: 24
-- lawDoes: 4
-- lawPicks: 3
-- lawOnce: 5
-- del: 54
namespace Go.Proofs.Ytigbdoicgdmliaa.N08
open Go Go.V Go.Proofs
/-- weft/agenda.Of -/
def V11 (H : Hp) (l : Sl) (K : Value → Hp → Prop) (Z : List PanicEntry → Hp → Prop) : Prop :=
  CallF Try.prog 52 #[.slice l.a l.n l.c] H (fun r H1 => ∃ y : Sl, r = .slice y.a y.n y.c ∧ ∀ b H2, Newb H1 (.cells #[.slice y.a y.n y.c, .int .i64 0] 104) b H2 → 
    K (.pointer (some ⟨b, 0, none⟩)) H2) Z
def aJ11 : Ann := (fun _ => none)
def aL11 : Ann := (fun _ => none)
theorem V11_ok {H : Hp} {l : Sl} {K : Value → Hp → Prop} {Z : List PanicEntry → Hp → Prop} (h : V11 H l K Z) : CallF Try.prog 11 #[.slice l.a l.n l.c] H K Z :=
  fnC_sound (P := Try.prog) (aJ := aJ11) (aL := aL11) (f := 11) (args := [.slice l.a l.n l.c]) (Eq.mp (by kernel_rfl) h)
/-- (*weft/agenda.Picks).Next -/
def V12 (H : Hp) (p : Option Addr) (K : Value → Hp → Prop) (Z : List PanicEntry → Hp → Prop) : Prop :=
  ∃ J : Hp → Prop, (∀ H1, J  H1 → ∀ scr : Nat → Value, nilck p fun ad => (∃ x : Int, hcell H1 (Addr.add ad 1) = some (.int .i64 x) ∧ 
    nilck p fun ad1 => (StL (Addr.add ad1 1) 0 [.int .i64 (w64 (x + 1))] H1 fun H2 => (nilck p fun ad2 => 
    (∃ x1 : Sl, hcell H2 ad2 = some (.slice x1.a x1.n x1.c) ∧ nilck p fun ad3 => (∃ x2 : Int, hcell H2 (Addr.add ad3 1) = some (.int .i64 x2) ∧ 
    IxA x1.a x1.n (w64 (x2 - 1)) 1 fun ad4 => (∃ x3 : Int, hcell H2 ad4 = some (.int .i64 x3) ∧ K (.int .i64 x3) H2))))))) ∧ 
    (((Option.isNone p) = true → K (.int .i64 0) H) ∧ ((Option.isNone p) = false → nilck p fun ad5 => 
    (∃ x4 : Int, hcell H (Addr.add ad5 1) = some (.int .i64 x4) ∧ nilck p fun ad6 => (∃ x5 : Sl, hcell H ad6 = some (.slice x5.a x5.n x5.c) ∧ 
    (((decide (x4 ≥ (x5.n : Int))) = true → K (.int .i64 0) H) ∧ ((decide (x4 ≥ (x5.n : Int))) = false → 
    (J  H)))))))
def aJ12 : Ann := (fun k => if k = 3 then some [] else none)
def aL12 : Ann := (fun _ => none)
theorem V12_ok {H : Hp} {p : Option Addr} {K : Value → Hp → Prop} {Z : List PanicEntry → Hp → Prop} (h : V12 H p K Z) : CallF Try.prog 12 #[.pointer p] H K Z :=
  fnC_sound (P := Try.prog) (aJ := aJ12) (aL := aL12) (f := 12) (args := [.pointer p]) (Eq.mp (by kernel_rfl) h)
/-- (*weft/agenda.Agenda[int]).Put -/
def V15 (H : Hp) (a : Addr) (x : Int) (K : Value → Hp → Prop) (Z : List PanicEntry → Hp → Prop) : Prop :=
  CallF Try.prog 53 #[.pointer (some a), .int .i64 x] H (fun r H1 => ∃ y_0 : Int, ∃ y_1 : Bool, r = .tuple #[.int .i64 y_0, .bool y_1] ∧ 
    ∃ J : Hp → Prop, (∀ H2, J  H2 → ∀ scr : Nat → Value, ∃ x1 : Sl, hcell H2 (Addr.add a 2) = some (.slice x1.a x1.n x1.c) ∧ 
    IxA x1.a x1.n y_0 1 fun ad => (∃ x2 : Bool, hcell H2 ad = some (.bool x2) ∧ ((x2 = true → K (.bool false) H2) ∧ 
    (x2 = false → ∃ x3 : Sl, hcell H2 (Addr.add a 2) = some (.slice x3.a x3.n x3.c) ∧ IxA x3.a x3.n y_0 1 fun ad1 => 
    (StL ad1 0 [.bool true] H2 fun H3 => (∃ x4 : Sl, hcell H3 (Addr.add a 3) = some (.slice x4.a x4.n x4.c) ∧ 
    ∀ b H4, Newb H3 (.cells #[.int .i64 y_0] 3) b H4 → App Try.prog #[22, 22] 22 H4 [.slice x4.a x4.n x4.c, .slice (some ⟨b, 0, none⟩) 1 1] fun ap H5 => 
    (StL (Addr.add a 3) 0 [.slice ap.a ap.n ap.c] H5 fun H6 => (K (.bool true) H6)))))))) ∧ ((y_1 = true → 
    ∃ x5 : Sl, hcell H1 (Addr.add a 2) = some (.slice x5.a x5.n x5.c) ∧ ∀ b1 H7, Newb H1 (.cells #[.bool false] 4) b1 H7 → 
    App Try.prog #[33, 33] 33 H7 [.slice x5.a x5.n x5.c, .slice (some ⟨b1, 0, none⟩) 1 1] fun ap1 H8 => 
    (StL (Addr.add a 2) 0 [.slice ap1.a ap1.n ap1.c] H8 fun H9 => (J  H9))) ∧ (y_1 = false → (J  H1)))) Z
def aJ15 : Ann := (fun k => if k = 4 then some [] else none)
def aL15 : Ann := (fun _ => none)
theorem V15_ok {H : Hp} {a : Addr} {x : Int} {K : Value → Hp → Prop} {Z : List PanicEntry → Hp → Prop} (h : V15 H a x K Z) : CallF Try.prog 15 #[.pointer (some a), .int .i64 x] H K Z :=
  fnC_sound (P := Try.prog) (aJ := aJ15) (aL := aL15) (f := 15) (args := [.pointer (some a), .int .i64 x]) (Eq.mp (by kernel_rfl) h)
/-- (*weft/agenda.Agenda[int]).Take -/
def V17 (H : Hp) (a : Addr) (n : Int) (K : Value → Hp → Prop) (Z : List PanicEntry → Hp → Prop) : Prop :=
  ∃ x : Sl, hcell H (Addr.add a 3) = some (.slice x.a x.n x.c) ∧ ((((x.n : Int) == 0) = true → K (.tuple #[.int .i64 0, .bool false]) H) ∧ 
    (((x.n : Int) == 0) = false → ∃ x1 : Sl, hcell H (Addr.add a 3) = some (.slice x1.a x1.n x1.c) ∧ 
    ((IntKind.wrap .u64 (x1.n : Int)) ≠ 0 ∧ ∃ x2 : Sl, hcell H (Addr.add a 3) = some (.slice x2.a x2.n x2.c) ∧ 
    IxA x2.a x2.n (w64 (Int.tmod (IntKind.wrap .u64 n) (IntKind.wrap .u64 (x1.n : Int)))) 1 fun ad => 
    (∃ x3 : Int, hcell H ad = some (.int .i64 x3) ∧ ∃ x4 : Sl, hcell H (Addr.add a 3) = some (.slice x4.a x4.n x4.c) ∧ 
    CallF Try.prog 54 #[.slice x4.a x4.n x4.c, .int .i64 (w64 (Int.tmod (IntKind.wrap .u64 n) (IntKind.wrap .u64 (x1.n : Int)))), .int .i64 (w64 ((w64 (Int.tmod (IntKind.wrap .u64 n) (IntKind.wrap .u64 (x1.n : Int)))) + 1))] H (fun r H1 => 
    ∃ y : Sl, r = .slice y.a y.n y.c ∧ StL (Addr.add a 3) 0 [.slice y.a y.n y.c] H1 fun H2 => (∃ x5 : Sl, hcell H2 (Addr.add a 2) = some (.slice x5.a x5.n x5.c) ∧ 
    IxA x5.a x5.n x3 1 fun ad1 => (StL ad1 0 [.bool false] H2 fun H3 => (CallF Try.prog 55 #[.pointer (some a), .int .i64 x3] H3 (fun r1 H4 => 
    ∃ y_0 : Int, ∃ y_1 : Bool, r1 = .tuple #[.int .i64 y_0, .bool y_1] ∧ K (.tuple #[.int .i64 y_0, .bool y_1]) H4) Z)))) Z))))
def aJ17 : Ann := (fun _ => none)
def aL17 : Ann := (fun _ => none)
theorem V17_ok {H : Hp} {a : Addr} {n : Int} {K : Value → Hp → Prop} {Z : List PanicEntry → Hp → Prop} (h : V17 H a n K Z) : CallF Try.prog 17 #[.pointer (some a), .int .i64 n] H K Z :=
  fnC_sound (P := Try.prog) (aJ := aJ17) (aL := aL17) (f := 17) (args := [.pointer (some a), .int .i64 n]) (Eq.mp (by kernel_rfl) h)
/-- (*weft/agenda.Agenda[int]).Has -/
def V19 (H : Hp) (a : Addr) (x : Int) (K : Value → Hp → Prop) (Z : List PanicEntry → Hp → Prop) : Prop :=
  CallF Try.prog 56 #[.pointer (some a), .int .i64 x] H (fun r H1 => ∃ y_0 : Int, ∃ y_1 : Bool, r = .tuple #[.int .i64 y_0, .bool y_1] ∧ 
    ((y_1 = true → ∃ x1 : Sl, hcell H1 (Addr.add a 2) = some (.slice x1.a x1.n x1.c) ∧ IxA x1.a x1.n y_0 1 fun ad => 
    (∃ x2 : Bool, hcell H1 ad = some (.bool x2) ∧ K (.bool x2) H1)) ∧ (y_1 = false → K (.bool false) H1))) Z
def aJ19 : Ann := (fun _ => none)
def aL19 : Ann := (fun _ => none)
theorem V19_ok {H : Hp} {a : Addr} {x : Int} {K : Value → Hp → Prop} {Z : List PanicEntry → Hp → Prop} (h : V19 H a x K Z) : CallF Try.prog 19 #[.pointer (some a), .int .i64 x] H K Z :=
  fnC_sound (P := Try.prog) (aJ := aJ19) (aL := aL19) (f := 19) (args := [.pointer (some a), .int .i64 x]) (Eq.mp (by kernel_rfl) h)
/-- (*weft/agenda.Agenda[int]).Len -/
def V21 (H : Hp) (a : Addr) (K : Value → Hp → Prop) (Z : List PanicEntry → Hp → Prop) : Prop :=
  ∃ x : Sl, hcell H (Addr.add a 3) = some (.slice x.a x.n x.c) ∧ K (.int .i64 (x.n : Int)) H
def aJ21 : Ann := (fun _ => none)
def aL21 : Ann := (fun _ => none)
theorem V21_ok {H : Hp} {a : Addr} {K : Value → Hp → Prop} {Z : List PanicEntry → Hp → Prop} (h : V21 H a K Z) : CallF Try.prog 21 #[.pointer (some a)] H K Z :=
  fnC_sound (P := Try.prog) (aJ := aJ21) (aL := aL21) (f := 21) (args := [.pointer (some a)]) (Eq.mp (by kernel_rfl) h)
/-- (*weft/agenda.Agenda[string]).Put -/
def V22 (H : Hp) (a : Addr) (x : ByteArray) (K : Value → Hp → Prop) (Z : List PanicEntry → Hp → Prop) : Prop :=
  CallF Try.prog 57 #[.pointer (some a), .string x] H (fun r H1 => ∃ y_0 : Int, ∃ y_1 : Bool, r = .tuple #[.int .i64 y_0, .bool y_1] ∧ 
    ∃ J : Hp → Prop, (∀ H2, J  H2 → ∀ scr : Nat → Value, ∃ x1 : Sl, hcell H2 (Addr.add a 2) = some (.slice x1.a x1.n x1.c) ∧ 
    IxA x1.a x1.n y_0 1 fun ad => (∃ x2 : Bool, hcell H2 ad = some (.bool x2) ∧ ((x2 = true → K (.bool false) H2) ∧ 
    (x2 = false → ∃ x3 : Sl, hcell H2 (Addr.add a 2) = some (.slice x3.a x3.n x3.c) ∧ IxA x3.a x3.n y_0 1 fun ad1 => 
    (StL ad1 0 [.bool true] H2 fun H3 => (∃ x4 : Sl, hcell H3 (Addr.add a 3) = some (.slice x4.a x4.n x4.c) ∧ 
    ∀ b H4, Newb H3 (.cells #[.int .i64 y_0] 3) b H4 → App Try.prog #[22, 22] 22 H4 [.slice x4.a x4.n x4.c, .slice (some ⟨b, 0, none⟩) 1 1] fun ap H5 => 
    (StL (Addr.add a 3) 0 [.slice ap.a ap.n ap.c] H5 fun H6 => (K (.bool true) H6)))))))) ∧ ((y_1 = true → 
    ∃ x5 : Sl, hcell H1 (Addr.add a 2) = some (.slice x5.a x5.n x5.c) ∧ ∀ b1 H7, Newb H1 (.cells #[.bool false] 4) b1 H7 → 
    App Try.prog #[33, 33] 33 H7 [.slice x5.a x5.n x5.c, .slice (some ⟨b1, 0, none⟩) 1 1] fun ap1 H8 => 
    (StL (Addr.add a 2) 0 [.slice ap1.a ap1.n ap1.c] H8 fun H9 => (J  H9))) ∧ (y_1 = false → (J  H1)))) Z
def aJ22 : Ann := (fun k => if k = 4 then some [] else none)
def aL22 : Ann := (fun _ => none)
theorem V22_ok {H : Hp} {a : Addr} {x : ByteArray} {K : Value → Hp → Prop} {Z : List PanicEntry → Hp → Prop} (h : V22 H a x K Z) : CallF Try.prog 22 #[.pointer (some a), .string x] H K Z :=
  fnC_sound (P := Try.prog) (aJ := aJ22) (aL := aL22) (f := 22) (args := [.pointer (some a), .string x]) (Eq.mp (by kernel_rfl) h)
/-- (*weft/agenda.Agenda[string]).Take -/
def V23 (H : Hp) (a : Addr) (n : Int) (K : Value → Hp → Prop) (Z : List PanicEntry → Hp → Prop) : Prop :=
  ∃ x : Sl, hcell H (Addr.add a 3) = some (.slice x.a x.n x.c) ∧ ((((x.n : Int) == 0) = true → K (.tuple #[.string ⟨#[]⟩, .bool false]) H) ∧ 
    (((x.n : Int) == 0) = false → ∃ x1 : Sl, hcell H (Addr.add a 3) = some (.slice x1.a x1.n x1.c) ∧ 
    ((IntKind.wrap .u64 (x1.n : Int)) ≠ 0 ∧ ∃ x2 : Sl, hcell H (Addr.add a 3) = some (.slice x2.a x2.n x2.c) ∧ 
    IxA x2.a x2.n (w64 (Int.tmod (IntKind.wrap .u64 n) (IntKind.wrap .u64 (x1.n : Int)))) 1 fun ad => 
    (∃ x3 : Int, hcell H ad = some (.int .i64 x3) ∧ ∃ x4 : Sl, hcell H (Addr.add a 3) = some (.slice x4.a x4.n x4.c) ∧ 
    CallF Try.prog 54 #[.slice x4.a x4.n x4.c, .int .i64 (w64 (Int.tmod (IntKind.wrap .u64 n) (IntKind.wrap .u64 (x1.n : Int)))), .int .i64 (w64 ((w64 (Int.tmod (IntKind.wrap .u64 n) (IntKind.wrap .u64 (x1.n : Int)))) + 1))] H (fun r H1 => 
    ∃ y : Sl, r = .slice y.a y.n y.c ∧ StL (Addr.add a 3) 0 [.slice y.a y.n y.c] H1 fun H2 => (∃ x5 : Sl, hcell H2 (Addr.add a 2) = some (.slice x5.a x5.n x5.c) ∧ 
    IxA x5.a x5.n x3 1 fun ad1 => (StL ad1 0 [.bool false] H2 fun H3 => (CallF Try.prog 58 #[.pointer (some a), .int .i64 x3] H3 (fun r1 H4 => 
    ∃ y_0 : ByteArray, ∃ y_1 : Bool, r1 = .tuple #[.string y_0, .bool y_1] ∧ K (.tuple #[.string y_0, .bool y_1]) H4) Z)))) Z))))
def aJ23 : Ann := (fun _ => none)
def aL23 : Ann := (fun _ => none)
theorem V23_ok {H : Hp} {a : Addr} {n : Int} {K : Value → Hp → Prop} {Z : List PanicEntry → Hp → Prop} (h : V23 H a n K Z) : CallF Try.prog 23 #[.pointer (some a), .int .i64 n] H K Z :=
  fnC_sound (P := Try.prog) (aJ := aJ23) (aL := aL23) (f := 23) (args := [.pointer (some a), .int .i64 n]) (Eq.mp (by kernel_rfl) h)
/-- (*weft/agenda.Agenda[string]).Has -/
def V25 (H : Hp) (a : Addr) (x : ByteArray) (K : Value → Hp → Prop) (Z : List PanicEntry → Hp → Prop) : Prop :=
  CallF Try.prog 59 #[.pointer (some a), .string x] H (fun r H1 => ∃ y_0 : Int, ∃ y_1 : Bool, r = .tuple #[.int .i64 y_0, .bool y_1] ∧ 
    ((y_1 = true → ∃ x1 : Sl, hcell H1 (Addr.add a 2) = some (.slice x1.a x1.n x1.c) ∧ IxA x1.a x1.n y_0 1 fun ad => 
    (∃ x2 : Bool, hcell H1 ad = some (.bool x2) ∧ K (.bool x2) H1)) ∧ (y_1 = false → K (.bool false) H1))) Z
def aJ25 : Ann := (fun _ => none)
def aL25 : Ann := (fun _ => none)
theorem V25_ok {H : Hp} {a : Addr} {x : ByteArray} {K : Value → Hp → Prop} {Z : List PanicEntry → Hp → Prop} (h : V25 H a x K Z) : CallF Try.prog 25 #[.pointer (some a), .string x] H K Z :=
  fnC_sound (P := Try.prog) (aJ := aJ25) (aL := aL25) (f := 25) (args := [.pointer (some a), .string x]) (Eq.mp (by kernel_rfl) h)
/-- (*weft/agenda.Agenda[string]).Len -/
def V26 (H : Hp) (a : Addr) (K : Value → Hp → Prop) (Z : List PanicEntry → Hp → Prop) : Prop :=
  ∃ x : Sl, hcell H (Addr.add a 3) = some (.slice x.a x.n x.c) ∧ K (.int .i64 (x.n : Int)) H
def aJ26 : Ann := (fun _ => none)
def aL26 : Ann := (fun _ => none)
theorem V26_ok {H : Hp} {a : Addr} {K : Value → Hp → Prop} {Z : List PanicEntry → Hp → Prop} (h : V26 H a K Z) : CallF Try.prog 26 #[.pointer (some a)] H K Z :=
  fnC_sound (P := Try.prog) (aJ := aJ26) (aL := aL26) (f := 26) (args := [.pointer (some a)]) (Eq.mp (by kernel_rfl) h)
/-- weft/weftref08.Next -/
def V13 (H : Hp) (l : Sl) (t1 : Int) (K : Value → Hp → Prop) (Z : List PanicEntry → Hp → Prop) : Prop :=
  (((decide (t1 < 0)) = true → K (.int .i64 0) H) ∧ ((decide (t1 < 0)) = false → (((decide (t1 ≥ (l.n : Int))) = true → 
    K (.int .i64 0) H) ∧ ((decide (t1 ≥ (l.n : Int))) = false → IxA l.a l.n t1 1 fun ad => (∃ x : Int, hcell H ad = some (.int .i64 x) ∧ 
    K (.int .i64 x) H)))))
def aJ13 : Ann := (fun _ => none)
def aL13 : Ann := (fun _ => none)
theorem V13_ok {H : Hp} {l : Sl} {t1 : Int} {K : Value → Hp → Prop} {Z : List PanicEntry → Hp → Prop} (h : V13 H l t1 K Z) : CallF Try.prog 13 #[.slice l.a l.n l.c, .int .i64 t1] H K Z :=
  fnC_sound (P := Try.prog) (aJ := aJ13) (aL := aL13) (f := 13) (args := [.slice l.a l.n l.c, .int .i64 t1]) (Eq.mp (by kernel_rfl) h)
/-- weft/weftref08.Has -/
def V20 (H : Hp) (l : Sl) (x : Int) (K : Value → Hp → Prop) (Z : List PanicEntry → Hp → Prop) : Prop :=
  ∃ I : Int → Hp → Nat → Prop, (∃ m, I 0 H m) ∧ ∀ (i : Int), ∀ H1 m1, I i H1 m1 → ∀ scr : Nat → Value, (((decide (i < (l.n : Int))) = true → 
    IxA l.a l.n i 1 fun ad => (∃ x1 : Int, hcell H1 ad = some (.int .i64 x1) ∧ (((x1 == x) = true → K (.bool true) H1) ∧ 
    ((x1 == x) = false → (∃ m2, m2 < m1 ∧ I (w64 (i + 1)) H1 m2))))) ∧ ((decide (i < (l.n : Int))) = false → 
    K (.bool false) H1))
def aJ20 : Ann := (fun _ => none)
def aL20 : Ann := (fun k => if k = 2 then some [(5, (.sc (.int .i64)))] else none)
theorem V20_ok {H : Hp} {l : Sl} {x : Int} {K : Value → Hp → Prop} {Z : List PanicEntry → Hp → Prop} (h : V20 H l x K Z) : CallF Try.prog 20 #[.slice l.a l.n l.c, .int .i64 x] H K Z :=
  fnC_sound (P := Try.prog) (aJ := aJ20) (aL := aL20) (f := 20) (args := [.slice l.a l.n l.c, .int .i64 x]) (Eq.mp (by kernel_rfl) h)
/-- weft/weftref08.Put -/
def V16 (H : Hp) (l : Sl) (x : Int) (K : Value → Hp → Prop) (Z : List PanicEntry → Hp → Prop) : Prop :=
  CallF Try.prog 20 #[.slice l.a l.n l.c, .int .i64 x] H (fun r H1 => ∃ y : Bool, r = .bool y ∧ ((y = true → 
    K (.tuple #[.slice l.a l.n l.c, .bool false]) H1) ∧ (y = false → ∀ b H2, Newb H1 (.cells #[] 3) b H2 → 
    App Try.prog #[22, 22] 22 H2 [.slice (some ⟨b, 0, none⟩) 0 0, .slice l.a l.n l.c] fun ap H3 => (∀ b1 H4, Newb H3 (.cells #[.int .i64 x] 3) b1 H4 → 
    App Try.prog #[22, 22] 22 H4 [.slice ap.a ap.n ap.c, .slice (some ⟨b1, 0, none⟩) 1 1] fun ap1 H5 => 
    (K (.tuple #[.slice ap1.a ap1.n ap1.c, .bool true]) H5))))) Z
def aJ16 : Ann := (fun _ => none)
def aL16 : Ann := (fun _ => none)
theorem V16_ok {H : Hp} {l : Sl} {x : Int} {K : Value → Hp → Prop} {Z : List PanicEntry → Hp → Prop} (h : V16 H l x K Z) : CallF Try.prog 16 #[.slice l.a l.n l.c, .int .i64 x] H K Z :=
  fnC_sound (P := Try.prog) (aJ := aJ16) (aL := aL16) (f := 16) (args := [.slice l.a l.n l.c, .int .i64 x]) (Eq.mp (by kernel_rfl) h)
/-- weft/weftref08.Take -/
def V18 (H : Hp) (l : Sl) (n : Int) (K : Value → Hp → Prop) (Z : List PanicEntry → Hp → Prop) : Prop :=
  ((((l.n : Int) == 0) = true → K (.tuple #[.slice l.a l.n l.c, .int .i64 0, .bool false]) H) ∧ (((l.n : Int) == 0) = false → 
    ((IntKind.wrap .u64 (l.n : Int)) ≠ 0 ∧ ∀ b H1, Newb H (.cells #[] 3) b H1 → (l.n ≤ l.c ∧ SlX l.a l.c 0 (w64 (Int.tmod (IntKind.wrap .u64 n) (IntKind.wrap .u64 (l.n : Int)))) 1 fun cut => 
    (App Try.prog #[22, 22] 22 H1 [.slice (some ⟨b, 0, none⟩) 0 0, .slice cut.a cut.n cut.c] fun ap H2 => 
    (l.n ≤ l.c ∧ SlX l.a l.c (w64 ((w64 (Int.tmod (IntKind.wrap .u64 n) (IntKind.wrap .u64 (l.n : Int)))) + 1)) (l.n : Int) 1 fun cut1 => 
    (IxA l.a l.n (w64 (Int.tmod (IntKind.wrap .u64 n) (IntKind.wrap .u64 (l.n : Int)))) 1 fun ad => ((App Try.prog #[22, 22] 22 H2 [.slice ap.a ap.n ap.c, .slice cut1.a cut1.n cut1.c] fun ap1 H3 => 
    (∃ x : Int, hcell H3 ad = some (.int .i64 x) ∧ K (.tuple #[.slice ap1.a ap1.n ap1.c, .int .i64 x, .bool true]) H3)) ∧ 
    (∃ x1 : Int, hcell H2 ad = some (.int .i64 x1) ∧ App Try.prog #[22, 22] 22 H2 [.slice ap.a ap.n ap.c, .slice cut1.a cut1.n cut1.c] fun ap2 H4 => 
    (K (.tuple #[.slice ap2.a ap2.n ap2.c, .int .i64 x1, .bool true]) H4))))))))))
def aJ18 : Ann := (fun _ => none)
def aL18 : Ann := (fun _ => none)
theorem V18_ok {H : Hp} {l : Sl} {n : Int} {K : Value → Hp → Prop} {Z : List PanicEntry → Hp → Prop} (h : V18 H l n K Z) : CallF Try.prog 18 #[.slice l.a l.n l.c, .int .i64 n] H K Z :=
  fnC_sound (P := Try.prog) (aJ := aJ18) (aL := aL18) (f := 18) (args := [.slice l.a l.n l.c, .int .i64 n]) (Eq.mp (by kernel_rfl) h)
/-- weft/weftlaw08.works -/
def V14 (H : Hp)  (K : Value → Hp → Prop) (Z : List PanicEntry → Hp → Prop) : Prop :=
  ∀ b H1, Newb H (.cells #[.slice none 0 0, .slice none 0 0, .slice none 0 0, .slice none 0 0] 52) b H1 → 
    CallF Try.prog 22 #[.pointer (some ⟨b, 0, none⟩), .string ⟨#[97]⟩] H1 (fun r H2 => ∃ y : Bool, r = .bool y ∧ 
    CallF Try.prog 22 #[.pointer (some ⟨b, 0, none⟩), .string ⟨#[98]⟩] H2 (fun r1 H3 => ∃ y1 : Bool, r1 = .bool y1 ∧ 
    CallF Try.prog 22 #[.pointer (some ⟨b, 0, none⟩), .string ⟨#[99]⟩] H3 (fun r2 H4 => ∃ y2 : Bool, r2 = .bool y2 ∧ 
    CallF Try.prog 23 #[.pointer (some ⟨b, 0, none⟩), .int .i64 4] H4 (fun r3 H5 => ∃ y_0 : ByteArray, ∃ y_1 : Bool, r3 = .tuple #[.string y_0, .bool y_1] ∧ 
    CallF Try.prog 23 #[.pointer (some ⟨b, 0, none⟩), .int .i64 0] H5 (fun r4 H6 => ∃ y_01 : ByteArray, ∃ y_11 : Bool, r4 = .tuple #[.string y_01, .bool y_11] ∧ 
    CallF Try.prog 23 #[.pointer (some ⟨b, 0, none⟩), .int .i64 (-1)] H6 (fun r5 H7 => ∃ y_02 : ByteArray, ∃ y_12 : Bool, r5 = .tuple #[.string y_02, .bool y_12] ∧ 
    ∀ b1 H8, Newb H7 (.cells #[.int .i64 7] 3) b1 H8 → CallF Try.prog 11 #[.slice (some ⟨b1, 0, none⟩) 1 1] H8 (fun r6 H9 => 
    ∃ y3 : Option Addr, r6 = .pointer y3 ∧ (((beqS y_0 ⟨#[98]⟩) = true → (((beqS y_01 ⟨#[97]⟩) = true → 
    (((beqS y_02 ⟨#[99]⟩) = true → ((y_12 = true → CallF Try.prog 12 #[.pointer y3] H9 (fun r7 H10 => 
    ∃ y4 : Int, r7 = .int .i64 y4 ∧ K (.bool (y4 == 7)) H10) Z) ∧ (y_12 = false → K (.bool false) H9))) ∧ 
    ((beqS y_02 ⟨#[99]⟩) = false → K (.bool false) H9))) ∧ ((beqS y_01 ⟨#[97]⟩) = false → K (.bool false) H9))) ∧ 
    ((beqS y_0 ⟨#[98]⟩) = false → K (.bool false) H9))) Z) Z) Z) Z) Z) Z) Z
def aJ14 : Ann := (fun _ => none)
def aL14 : Ann := (fun _ => none)
theorem V14_ok {H : Hp}  {K : Value → Hp → Prop} {Z : List PanicEntry → Hp → Prop} (h : V14 H  K Z) : CallF Try.prog 14 #[] H K Z :=
  fnC_sound (P := Try.prog) (aJ := aJ14) (aL := aL14) (f := 14) (args := []) (Eq.mp (by kernel_rfl) h)
/-- weft/weftlaw08.in -/
def V24 (H : Hp) (l : Sl) (x : ByteArray) (K : Value → Hp → Prop) (Z : List PanicEntry → Hp → Prop) : Prop :=
  ∃ I : Int → Hp → Nat → Prop, (∃ m, I 0 H m) ∧ ∀ (i : Int), ∀ H1 m1, I i H1 m1 → ∀ scr : Nat → Value, (((decide (i < (l.n : Int))) = true → 
    IxA l.a l.n i 1 fun ad => (∃ x1 : ByteArray, hcell H1 ad = some (.string x1) ∧ (((beqS x1 x) = true → 
    K (.bool true) H1) ∧ ((beqS x1 x) = false → (∃ m2, m2 < m1 ∧ I (w64 (i + 1)) H1 m2))))) ∧ ((decide (i < (l.n : Int))) = false → 
    K (.bool false) H1))
def aJ24 : Ann := (fun _ => none)
def aL24 : Ann := (fun k => if k = 2 then some [(5, (.sc (.int .i64)))] else none)
theorem V24_ok {H : Hp} {l : Sl} {x : ByteArray} {K : Value → Hp → Prop} {Z : List PanicEntry → Hp → Prop} (h : V24 H l x K Z) : CallF Try.prog 24 #[.slice l.a l.n l.c, .string x] H K Z :=
  fnC_sound (P := Try.prog) (aJ := aJ24) (aL := aL24) (f := 24) (args := [.slice l.a l.n l.c, .string x]) (Eq.mp (by kernel_rfl) h)
/-- weft/weftlaw08.AgendaDoes -/
def V4 (H : Hp) (l : Sl) (K : Value → Hp → Prop) (Z : List PanicEntry → Hp → Prop) : Prop :=
  ∀ b H1, Newb H (.cells #[.slice none 0 0, .slice none 0 0, .slice none 0 0, .slice none 0 0] 35) b H1 → 
    ∃ I : Sl → Int → Hp → Nat → Prop, (∃ m, I (⟨none, 0, 0⟩ : Sl) 0 H1 m) ∧ ∀ (m1 : Sl) (i : Int), ∀ H2 m2, I m1 i H2 m2 → 
    ∀ scr : Nat → Value, ∃ J : Hp → Prop, (∀ H3, J  H3 → ∀ scr1 : Nat → Value, IxA l.a l.n i 2 fun ad => 
    (∃ x : Int, hcell H3 (Addr.add ad 1) = some (.int .i64 x) ∧ ∃ J1 : Sl → Int → Int → Bool → Bool → 
    Hp → Prop, (∀ (m4 : Sl) (x1 : Int) (y : Int) (p : Bool) (q : Bool), ∀ H4, J1 m4 x1 y p q H4 → ∀ scr2 : Nat → 
    Value, (((x1 != y) = true → K (.bool false) H4) ∧ ((x1 != y) = false → (((!(p == q)) = true → K (.bool false) H4) ∧ 
    ((!(p == q)) = false → CallF Try.prog 21 #[.pointer (some ⟨b, 0, none⟩)] H4 (fun r H5 => ∃ y1 : Int, r = .int .i64 y1 ∧ 
    (((y1 != (m4.n : Int)) = true → K (.bool false) H5) ∧ ((y1 != (m4.n : Int)) = false → (∃ m3, m3 < m2 ∧ 
    I m4 (w64 (i + 1)) H5 m3)))) Z))))) ∧ IxA l.a l.n i 2 fun ad1 => (∃ x2 : Int, hcell H3 ad1 = some (.int .i64 x2) ∧ 
    (((x2 == 0) = true → CallF Try.prog 15 #[.pointer (some ⟨b, 0, none⟩), .int .i64 x] H3 (fun r1 H6 => 
    ∃ y2 : Bool, r1 = .bool y2 ∧ CallF Try.prog 16 #[.slice m1.a m1.n m1.c, .int .i64 x] H6 (fun r2 H7 => 
    ∃ y_0 : Sl, ∃ y_1 : Bool, r2 = .tuple #[.slice y_0.a y_0.n y_0.c, .bool y_1] ∧ (J1 y_0 0 0 y2 y_1 H7)) Z) Z) ∧ 
    ((x2 == 0) = false → (((x2 == 1) = true → CallF Try.prog 17 #[.pointer (some ⟨b, 0, none⟩), .int .i64 x] H3 (fun r3 H8 => 
    ∃ y_01 : Int, ∃ y_11 : Bool, r3 = .tuple #[.int .i64 y_01, .bool y_11] ∧ CallF Try.prog 18 #[.slice m1.a m1.n m1.c, .int .i64 x] H8 (fun r4 H9 => 
    ∃ y_02 : Sl, ∃ y_12 : Int, ∃ y_2 : Bool, r4 = .tuple #[.slice y_02.a y_02.n y_02.c, .int .i64 y_12, .bool y_2] ∧ 
    (J1 y_02 y_01 y_12 y_11 y_2 H9)) Z) Z) ∧ ((x2 == 1) = false → (((x2 == 2) = true → CallF Try.prog 19 #[.pointer (some ⟨b, 0, none⟩), .int .i64 x] H3 (fun r5 H10 => 
    ∃ y3 : Bool, r5 = .bool y3 ∧ CallF Try.prog 20 #[.slice m1.a m1.n m1.c, .int .i64 x] H10 (fun r6 H11 => 
    ∃ y4 : Bool, r6 = .bool y4 ∧ (J1 m1 0 0 y3 y4 H11)) Z) Z) ∧ ((x2 == 2) = false → (J1 m1 0 0 false false H3)))))))))) ∧ 
    (((decide (i < (l.n : Int))) = true → (((decide (i < 200)) = true → (J  H2)) ∧ ((decide (i < 200)) = false → 
    CallF Try.prog 14 #[] H2 (fun r7 H12 => ∃ y5 : Bool, r7 = .bool y5 ∧ K (.bool y5) H12) Z))) ∧ ((decide (i < (l.n : Int))) = false → 
    CallF Try.prog 14 #[] H2 (fun r8 H13 => ∃ y6 : Bool, r8 = .bool y6 ∧ K (.bool y6) H13) Z))
def aJ4 : Ann := (fun k => if k = 6 then some [] else if k = 18 then some [(4, (.sc .sl)), (7, (.sc (.int .i64))), (8, (.sc (.int .i64))), (9, (.sc .bool)), (10, (.sc .bool))] else none)
def aL4 : Ann := (fun k => if k = 4 then some [(4, (.sc .sl)), (5, (.sc (.int .i64)))] else none)
theorem V4_ok {H : Hp} {l : Sl} {K : Value → Hp → Prop} {Z : List PanicEntry → Hp → Prop} (h : V4 H l K Z) : CallF Try.prog 4 #[.slice l.a l.n l.c] H K Z :=
  fnC_sound (P := Try.prog) (aJ := aJ4) (aL := aL4) (f := 4) (args := [.slice l.a l.n l.c]) (Eq.mp (by kernel_rfl) h)
/-- weft/weftlaw08.AgendaPicks -/
def V3 (H : Hp) (l : Sl) (K : Value → Hp → Prop) (Z : List PanicEntry → Hp → Prop) : Prop :=
  (((decide ((l.n : Int) > 200)) = true → K (.bool true) H) ∧ ((decide ((l.n : Int) > 200)) = false → 
    ∀ b H1, Newb H (.cells #[] 3) b H1 → App Try.prog #[22, 22] 22 H1 [.slice (some ⟨b, 0, none⟩) 0 0, .slice l.a l.n l.c] fun ap H2 => 
    (CallF Try.prog 11 #[.slice ap.a ap.n ap.c] H2 (fun r H3 => ∃ y : Option Addr, r = .pointer y ∧ ∃ I : Int → 
    Hp → Nat → Prop, (∃ m, I 0 H3 m) ∧ ∀ (i : Int), ∀ H4 m1, I i H4 m1 → ∀ scr : Nat → Value, (((decide (i < (w64 ((l.n : Int) + 3)))) = true → 
    CallF Try.prog 12 #[.pointer y] H4 (fun r1 H5 => ∃ y1 : Int, r1 = .int .i64 y1 ∧ CallF Try.prog 13 #[.slice l.a l.n l.c, .int .i64 i] H5 (fun r2 H6 => 
    ∃ y2 : Int, r2 = .int .i64 y2 ∧ (((y1 != y2) = true → K (.bool false) H6) ∧ ((y1 != y2) = false → 
    CallF Try.prog 12 #[.pointer none] H6 (fun r3 H7 => ∃ y3 : Int, r3 = .int .i64 y3 ∧ (((y3 != 0) = true → 
    K (.bool false) H7) ∧ ((y3 != 0) = false → (∃ m2, m2 < m1 ∧ I (w64 (i + 1)) H7 m2)))) Z))) Z) Z) ∧ 
    ((decide (i < (w64 ((l.n : Int) + 3)))) = false → CallF Try.prog 14 #[] H4 (fun r4 H8 => ∃ y4 : Bool, r4 = .bool y4 ∧ 
    K (.bool y4) H8) Z))) Z)))
def aJ3 : Ann := (fun _ => none)
def aL3 : Ann := (fun k => if k = 6 then some [(5, (.sc (.int .i64)))] else none)
theorem V3_ok {H : Hp} {l : Sl} {K : Value → Hp → Prop} {Z : List PanicEntry → Hp → Prop} (h : V3 H l K Z) : CallF Try.prog 3 #[.slice l.a l.n l.c] H K Z :=
  fnC_sound (P := Try.prog) (aJ := aJ3) (aL := aL3) (f := 3) (args := [.slice l.a l.n l.c]) (Eq.mp (by kernel_rfl) h)
/-- weft/weftlaw08.AgendaOnce -/
def V5 (H : Hp) (l : Sl) (picks : Sl) (K : Value → Hp → Prop) (Z : List PanicEntry → Hp → Prop) : Prop :=
  CallF Try.prog 14 #[] H (fun r H1 => ∃ y : Bool, r = .bool y ∧ (((!y) = true → K (.bool false) H1) ∧ 
    ((!y) = false → ∃ J : Hp → Prop, (∀ H2, J  H2 → ∀ scr : Nat → Value, ∀ b H3, Newb H2 (.cells #[.slice none 0 0, .slice none 0 0, .slice none 0 0, .slice none 0 0] 52) b H3 → 
    ∀ b1 H4, Newb H3 (.cells #[.slice none 0 0, .slice none 0 0, .slice none 0 0, .slice none 0 0] 52) b1 H4 → 
    ∃ I : Sl → Int → Hp → Nat → Prop, (∃ m, I (⟨none, 0, 0⟩ : Sl) 0 H4 m) ∧ ∀ (m1 : Sl) (i : Int), ∀ H5 m2, I m1 i H5 m2 → 
    ∀ scr1 : Nat → Value, (((decide (i < (l.n : Int))) = true → IxA l.a l.n i 1 fun ad => (∃ x : ByteArray, hcell H5 ad = some (.string x) ∧ 
    (((decide ((x.size : Int) > 200)) = true → K (.bool true) H5) ∧ ((decide ((x.size : Int) > 200)) = false → 
    IxA l.a l.n i 1 fun ad1 => (∃ x1 : ByteArray, hcell H5 ad1 = some (.string x1) ∧ CallF Try.prog 22 #[.pointer (some ⟨b, 0, none⟩), .string x1] H5 (fun r1 H6 => 
    ∃ y1 : Bool, r1 = .bool y1 ∧ ((y1 = true → IxA l.a l.n i 1 fun ad2 => (∃ x2 : ByteArray, hcell H6 ad2 = some (.string x2) ∧ 
    ∀ b2 H7, Newb H6 (.cells #[.string x2] 9) b2 H7 → App Try.prog #[47, 47] 47 H7 [.slice m1.a m1.n m1.c, .slice (some ⟨b2, 0, none⟩) 1 1] fun ap H8 => 
    (IxA l.a l.n i 1 fun ad3 => (∃ x3 : ByteArray, hcell H8 ad3 = some (.string x3) ∧ CallF Try.prog 22 #[.pointer (some ⟨b1, 0, none⟩), .string x3] H8 (fun r2 H9 => 
    ∃ y2 : Bool, r2 = .bool y2 ∧ (∃ m3, m3 < m2 ∧ I ap (w64 (i + 1)) H9 m3)) Z)))) ∧ (y1 = false → IxA l.a l.n i 1 fun ad4 => 
    (∃ x4 : ByteArray, hcell H6 ad4 = some (.string x4) ∧ CallF Try.prog 22 #[.pointer (some ⟨b1, 0, none⟩), .string x4] H6 (fun r3 H10 => 
    ∃ y3 : Bool, r3 = .bool y3 ∧ (∃ m3, m3 < m2 ∧ I m1 (w64 (i + 1)) H10 m3)) Z)))) Z))))) ∧ ((decide (i < (l.n : Int))) = false → 
    CallF Try.prog 11 #[.slice picks.a picks.n picks.c] H5 (fun r4 H11 => ∃ y4 : Option Addr, r4 = .pointer y4 ∧ 
    ∃ I1 : Int → Int → Hp → Nat → Prop, (∃ m4, I1 0 0 H11 m4) ∧ ∀ (taken : Int) (i1 : Int), ∀ H12 m5, I1 taken i1 H12 m5 → 
    ∀ scr2 : Nat → Value, (((decide (i1 < (l.n : Int))) = true → CallF Try.prog 12 #[.pointer y4] H12 (fun r5 H13 => 
    ∃ y5 : Int, r5 = .int .i64 y5 ∧ CallF Try.prog 23 #[.pointer (some ⟨b, 0, none⟩), .int .i64 y5] H13 (fun r6 H14 => 
    ∃ y_0 : ByteArray, ∃ y_1 : Bool, r6 = .tuple #[.string y_0, .bool y_1] ∧ CallF Try.prog 23 #[.pointer (some ⟨b1, 0, none⟩), .int .i64 0] H14 (fun r7 H15 => 
    ∃ y_01 : ByteArray, ∃ y_11 : Bool, r7 = .tuple #[.string y_01, .bool y_11] ∧ ∃ J1 : Hp → Prop, (∀ H16, J1  H16 → 
    ∀ scr3 : Nat → Value, ∃ J2 : Int → Hp → Prop, (∀ (taken1 : Int), ∀ H17, J2 taken1 H17 → ∀ scr4 : Nat → 
    Value, ((y_1 = true → CallF Try.prog 24 #[.slice m1.a m1.n m1.c, .string y_0] H17 (fun r8 H18 => 
    ∃ y6 : Bool, r8 = .bool y6 ∧ (((!y6) = true → K (.bool false) H18) ∧ ((!y6) = false → CallF Try.prog 25 #[.pointer (some ⟨b, 0, none⟩), .string y_0] H18 (fun r9 H19 => 
    ∃ y7 : Bool, r9 = .bool y7 ∧ ((y7 = true → K (.bool false) H19) ∧ (y7 = false → (∃ m6, m6 < m5 ∧ 
    I1 taken1 (w64 (i1 + 1)) H19 m6)))) Z))) Z) ∧ (y_1 = false → (∃ m6, m6 < m5 ∧ I1 taken1 (w64 (i1 + 1)) H17 m6)))) ∧ 
    ((y_1 = true → (J2 (w64 (taken + 1)) H16)) ∧ (y_1 = false → (J2 taken H16)))) ∧ (((!(y_1 == y_11)) = true → 
    K (.bool false) H15) ∧ ((!(y_1 == y_11)) = false → ((y_1 = true → (((decide (i1 < (m1.n : Int))) = true → 
    IxA m1.a m1.n i1 1 fun ad5 => (∃ x5 : ByteArray, hcell H15 ad5 = some (.string x5) ∧ (((!(beqS y_01 x5)) = true → 
    K (.bool false) H15) ∧ ((!(beqS y_01 x5)) = false → (J1  H15))))) ∧ ((decide (i1 < (m1.n : Int))) = false → 
    (J1  H15)))) ∧ (y_1 = false → (J1  H15)))))) Z) Z) Z) ∧ ((decide (i1 < (l.n : Int))) = false → (((taken == (m1.n : Int)) = true → 
    CallF Try.prog 26 #[.pointer (some ⟨b, 0, none⟩)] H12 (fun r10 H20 => ∃ y8 : Int, r10 = .int .i64 y8 ∧ 
    K (.bool (y8 == 0)) H20) Z) ∧ ((taken == (m1.n : Int)) = false → K (.bool false) H12))))) Z))) ∧ 
    (((decide ((l.n : Int) > 100)) = true → K (.bool true) H1) ∧ ((decide ((l.n : Int) > 100)) = false → 
    (((decide ((picks.n : Int) > 100)) = true → K (.bool true) H1) ∧ ((decide ((picks.n : Int) > 100)) = false → 
    (J  H1)))))))) Z
def aJ5 : Ann := (fun k => if k = 5 then some [] else if k = 24 then some [] else if k = 26 then some [(10, (.sc (.int .i64)))] else none)
def aL5 : Ann := (fun k => if k = 8 then some [(7, (.sc .sl)), (8, (.sc (.int .i64)))] else if k = 18 then some [(10, (.sc (.int .i64))), (11, (.sc (.int .i64)))] else none)
theorem V5_ok {H : Hp} {l : Sl} {picks : Sl} {K : Value → Hp → Prop} {Z : List PanicEntry → Hp → Prop} (h : V5 H l picks K Z) : CallF Try.prog 5 #[.slice l.a l.n l.c, .slice picks.a picks.n picks.c] H K Z :=
  fnC_sound (P := Try.prog) (aJ := aJ5) (aL := aL5) (f := 5) (args := [.slice l.a l.n l.c, .slice picks.a picks.n picks.c]) (Eq.mp (by kernel_rfl) h)
/-- slices.Delete[[]int,int] -/
def V54 (H : Hp) (s : Sl) (i : Int) (j : Int) (K : Value → Hp → Prop) (Z : List PanicEntry → Hp → Prop) : Prop :=
  SlX3 s.a s.c i j (s.n : Int) 1 fun cut => (((i == j) = true → K (.slice s.a s.n s.c) H) ∧ ((i == j) = false → 
    (s.n ≤ s.c ∧ SlX s.a s.c 0 i 1 fun cut1 => (s.n ≤ s.c ∧ SlX s.a s.c j (s.n : Int) 1 fun cut2 => (App Try.prog #[22, 22] 22 H [.slice cut1.a cut1.n cut1.c, .slice cut2.a cut2.n cut2.c] fun ap H1 => 
    (ap.n ≤ ap.c ∧ SlX ap.a ap.c (ap.n : Int) (s.n : Int) 1 fun cut3 => (Blt Try.prog .clear #[22] 0 #[false] H1 [.slice cut3.a cut3.n cut3.c] fun r H2 => 
    r = .tuple #[] ∧ K (.slice ap.a ap.n ap.c) H2)))))))
def aJ54 : Ann := (fun _ => none)
def aL54 : Ann := (fun _ => none)
theorem V54_ok {H : Hp} {s : Sl} {i : Int} {j : Int} {K : Value → Hp → Prop} {Z : List PanicEntry → Hp → Prop} (h : V54 H s i j K Z) : CallF Try.prog 54 #[.slice s.a s.n s.c, .int .i64 i, .int .i64 j] H K Z :=
  fnC_sound (P := Try.prog) (aJ := aJ54) (aL := aL54) (f := 54) (args := [.slice s.a s.n s.c, .int .i64 i, .int .i64 j]) (Eq.mp (by kernel_rfl) h)
end Go.Proofs.Ytigbdoicgdmliaa.N08

