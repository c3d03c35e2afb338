import Derived.Test.YtigbdoicgdmliaaZ06
import Derived.Test.YtigbdoicgdmliaaProg
import Derived.Lib.UnsafeStr
section
/- The conditions of varint's functions, its reference's and its laws' (printed by our own program vn.py; the kernel checks each against V5's comp). -/
set_option linter.unusedVariables false
set_option maxRecDepth 100000
-- bWriteByte: 105
-- bWriteString: 106
-- bString: 67
-- bCopyCheck: 142
-- groups: 104
-- groupsL: 141
-- wNumber: 64
-- wText: 66
-- wDone: 33
-- rNumber: 69
-- new: 38
-- vText: 74
-- vNumber: 71
-- vDone: 40
-- vTake: 107
-- vLook: 143
-- vText1: 109
-- vNumber1: 108
-- vFail: 72
-- qNumber: 88
-- qFail: 113
-- qDone: 89
-- qnumber: 114
namespace Go.Proofs.Ytigbdoicgdmliaa.N02
open Go Go.V Go.Proofs
/-- (*strings.Builder).WriteByte -/
def V105 (H : Hp) (b : Addr) (c : Int) (K : Value → Hp → Prop) (Z : List PanicEntry → Hp → Prop) : Prop :=
  CallF Try.prog 142 #[.pointer (some b)] H (fun r H1 => r = .tuple #[] ∧ ∃ x : Sl, hcell H1 (Addr.add b 1) = some (.slice x.a x.n x.c) ∧ 
    ∀ b1 H2, Newb H1 (.cells #[.int .u8 c] 5) b1 H2 → App Try.prog #[66, 66] 66 H2 [.slice x.a x.n x.c, .slice (some ⟨b1, 0, none⟩) 1 1] fun ap H3 => 
    (StL (Addr.add b 1) 0 [.slice ap.a ap.n ap.c] H3 fun H4 => (K (.nilIface) H4))) Z
def aJ105 : Ann := (fun _ => none)
def aL105 : Ann := (fun _ => none)
theorem V105_ok {H : Hp} {b : Addr} {c : Int} {K : Value → Hp → Prop} {Z : List PanicEntry → Hp → Prop} (h : V105 H b c K Z) : CallF Try.prog 105 #[.pointer (some b), .int .u8 c] H K Z :=
  fnC_sound (P := Try.prog) (aJ := aJ105) (aL := aL105) (f := 105) (args := [.pointer (some b), .int .u8 c]) (Eq.mp (by kernel_rfl) h)
/-- (*strings.Builder).WriteString -/
def V106 (H : Hp) (b : Addr) (s : ByteArray) (K : Value → Hp → Prop) (Z : List PanicEntry → Hp → Prop) : Prop :=
  CallF Try.prog 142 #[.pointer (some b)] H (fun r H1 => r = .tuple #[] ∧ ∃ x : Sl, hcell H1 (Addr.add b 1) = some (.slice x.a x.n x.c) ∧ 
    App Try.prog #[66, 9] 66 H1 [.slice x.a x.n x.c, .string s] fun ap H2 => (StL (Addr.add b 1) 0 [.slice ap.a ap.n ap.c] H2 fun H3 => 
    (K (.tuple #[.int .i64 (s.size : Int), .nilIface]) H3))) Z
def aJ106 : Ann := (fun _ => none)
def aL106 : Ann := (fun _ => none)
theorem V106_ok {H : Hp} {b : Addr} {s : ByteArray} {K : Value → Hp → Prop} {Z : List PanicEntry → Hp → Prop} (h : V106 H b s K Z) : CallF Try.prog 106 #[.pointer (some b), .string s] H K Z :=
  fnC_sound (P := Try.prog) (aJ := aJ106) (aL := aL106) (f := 106) (args := [.pointer (some b), .string s]) (Eq.mp (by kernel_rfl) h)
/-- (*strings.Builder).String -/
def V67 (H : Hp) (b : Addr) (K : Value → Hp → Prop) (Z : List PanicEntry → Hp → Prop) : Prop :=
  ∃ x : Sl, hcell H (Addr.add b 1) = some (.slice x.a x.n x.c) ∧ ((Blt Try.prog .unsafeSliceData #[66] 168 #[false] H [.slice x.a x.n x.c] fun r H1 => 
    ∃ y : Option Addr, r = .pointer y ∧ ∃ x1 : Sl, hcell H1 (Addr.add b 1) = some (.slice x1.a x1.n x1.c) ∧ 
    Blt Try.prog .unsafeString #[168, 3] 9 #[false, false] H1 [.pointer y, .int .i64 (x1.n : Int)] fun r1 H2 => 
    ∃ y1 : ByteArray, r1 = .string y1 ∧ K (.string y1) H2) ∧ (∃ x2 : Sl, hcell H (Addr.add b 1) = some (.slice x2.a x2.n x2.c) ∧ 
    Blt Try.prog .unsafeSliceData #[66] 168 #[false] H [.slice x.a x.n x.c] fun r2 H3 => ∃ y2 : Option Addr, r2 = .pointer y2 ∧ 
    Blt Try.prog .unsafeString #[168, 3] 9 #[false, false] H3 [.pointer y2, .int .i64 (x2.n : Int)] fun r3 H4 => 
    ∃ y3 : ByteArray, r3 = .string y3 ∧ K (.string y3) H4))
def aJ67 : Ann := (fun _ => none)
def aL67 : Ann := (fun _ => none)
theorem V67_ok {H : Hp} {b : Addr} {K : Value → Hp → Prop} {Z : List PanicEntry → Hp → Prop} (h : V67 H b K Z) : CallF Try.prog 67 #[.pointer (some b)] H K Z :=
  fnC_sound (P := Try.prog) (aJ := aJ67) (aL := aL67) (f := 67) (args := [.pointer (some b)]) (Eq.mp (by kernel_rfl) h)
/-- (*strings.Builder).copyCheck -/
def V142 (H : Hp) (b : Addr) (K : Value → Hp → Prop) (Z : List PanicEntry → Hp → Prop) : Prop :=
  ∃ x : Option Addr, hcell H b = some (.pointer x) ∧ (((Option.isNone x) = true → Cvt Try.prog 65 199 H (.pointer (some b)) fun r H1 => 
    ∃ cv : Value, r = cv ∧ ExtF Try.prog 149 [cv] H1 fun r1 H2 => ∃ y : Value, r1 = y ∧ Cvt Try.prog 199 65 H2 (y) fun r2 H3 => 
    ∃ cv1 : Option Addr, r2 = .pointer cv1 ∧ StL b 0 [.pointer cv1] H3 fun H4 => (K (.tuple #[]) H4)) ∧ 
    ((Option.isNone x) = false → ∃ x1 : Option Addr, hcell H b = some (.pointer x1) ∧ PEq x1 b fun same => 
    (((!same) = true → False) ∧ ((!same) = false → K (.tuple #[]) H))))
def aJ142 : Ann := (fun _ => none)
def aL142 : Ann := (fun _ => none)
theorem V142_ok {H : Hp} {b : Addr} {K : Value → Hp → Prop} {Z : List PanicEntry → Hp → Prop} (h : V142 H b K Z) : CallF Try.prog 142 #[.pointer (some b)] H K Z :=
  fnC_sound (P := Try.prog) (aJ := aJ142) (aL := aL142) (f := 142) (args := [.pointer (some b)]) (Eq.mp (by kernel_rfl) h)
/-- weft/varint.groups -/
def V104 (H : Hp) (n : Int) (K : Value → Hp → Prop) (Z : List PanicEntry → Hp → Prop) : Prop :=
  ∀ bN H1, Newb H (.cells #[.int .i64 n] 3) bN H1 → K (.func (.func 141) #[] #[.pointer (some ⟨bN, 0, none⟩)]) H1
def aJ104 : Ann := (fun _ => none)
def aL104 : Ann := (fun _ => none)
theorem V104_ok {H : Hp} {n : Int} {K : Value → Hp → Prop} {Z : List PanicEntry → Hp → Prop} (h : V104 H n K Z) : CallF Try.prog 104 #[.int .i64 n] H K Z :=
  fnC_sound (P := Try.prog) (aJ := aJ104) (aL := aL104) (f := 104) (args := [.int .i64 n]) (Eq.mp (by kernel_rfl) h)
/-- weft/varint.groups$1 -/
def V141 (H : Hp) (yield : Value) (cap0 : Addr) (K : Value → Hp → Prop) (Z : List PanicEntry → Hp → Prop) : Prop :=
  ∃ I : Hp → Nat → Prop, (∃ m, I  H m) ∧ ∀ H1 m1, I  H1 m1 → ∀ scr : Nat → Value, ∃ x : Int, hcell H1 cap0 = some (.int .i64 x) ∧ 
    (((decide (x > 127)) = true → ∃ x1 : Int, hcell H1 cap0 = some (.int .i64 x1) ∧ callV Try.prog yield [.int .u8 (IntKind.wrap .u8 (bitOr .i64 (bitAnd .i64 x1 127) 128))] H1 (fun r H2 => 
    ∃ y : Bool, r = .bool y ∧ ((y = true → ∃ x2 : Int, hcell H2 cap0 = some (.int .i64 x2) ∧ StL cap0 0 [.int .i64 (Int.fdiv x2 (2 ^ 7))] H2 fun H3 => 
    (∃ m2, m2 < m1 ∧ I  H3 m2)) ∧ (y = false → ∃ x3 : Int, hcell H2 cap0 = some (.int .i64 x3) ∧ (((decide (x3 ≤ 127)) = true → 
    ∃ x4 : Int, hcell H2 cap0 = some (.int .i64 x4) ∧ callV Try.prog yield [.int .u8 (IntKind.wrap .u8 x4)] H2 (fun r1 H4 => 
    ∃ y1 : Bool, r1 = .bool y1 ∧ K (.tuple #[]) H4) Z) ∧ ((decide (x3 ≤ 127)) = false → K (.tuple #[]) H2))))) Z) ∧ 
    ((decide (x > 127)) = false → ∃ x5 : Int, hcell H1 cap0 = some (.int .i64 x5) ∧ (((decide (x5 ≤ 127)) = true → 
    ∃ x6 : Int, hcell H1 cap0 = some (.int .i64 x6) ∧ callV Try.prog yield [.int .u8 (IntKind.wrap .u8 x6)] H1 (fun r2 H5 => 
    ∃ y2 : Bool, r2 = .bool y2 ∧ K (.tuple #[]) H5) Z) ∧ ((decide (x5 ≤ 127)) = false → K (.tuple #[]) H1))))
def aJ141 : Ann := (fun _ => none)
def aL141 : Ann := (fun k => if k = 0 then some [] else none)
theorem V141_ok {H : Hp} {yield : Value} {cap0 : Addr} {K : Value → Hp → Prop} {Z : List PanicEntry → Hp → Prop} (h : V141 H yield cap0 K Z) : CallF Try.prog 141 #[yield, .pointer (some cap0)] H K Z :=
  fnC_sound (P := Try.prog) (aJ := aJ141) (aL := aL141) (f := 141) (args := [yield, .pointer (some cap0)]) (Eq.mp (by kernel_rfl) h)
/-- (*weft/varint.Writer).Number -/
def V64 (H : Hp) (w : Addr) (n : Int) (K : Value → Hp → Prop) (Z : List PanicEntry → Hp → Prop) : Prop :=
  ∀ bW H1, Newb H (.cells #[.pointer (some w)] 64) bW H1 → ∃ J : Hp → Prop, (∀ H2, J  H2 → ∀ scr : Nat → 
    Value, ∃ x : Option Addr, hcell H2 ⟨bW, 0, none⟩ = some (.pointer x) ∧ nilck x fun ad => (∃ x1 : Int, hcell H2 (Addr.add ad 2) = some (.int .i64 x1) ∧ 
    (((x1 != 0) = true → K (.tuple #[]) H2) ∧ ((x1 != 0) = false → CallF Try.prog 104 #[.int .i64 n] H2 (fun r H3 => 
    ∃ y : Value, r = y ∧ ∀ D H4, Newb H3 (.deferred (some [])) D H4 → ∀ l H5, Newb H4 (.loop (lrec Try.f64 64 5 [.pointer (some w), .int .i64 n, .pointer (some ⟨bW, 0, none⟩), undef, undef, (scr 5), (scr 6), (scr 7), (scr 8), (scr 9), (scr 10), (scr 11), (scr 12), (scr 13), (scr 14), (scr 15), (scr 16), (scr 17), (scr 18), (scr 19), (scr 20), .pointer x, .pointer (some ad), .pointer (some (Addr.add ad 2)), .int .i64 x1, .bool (x1 != 0), .int .i64 n, y, undef, undef, undef, undef, undef, undef] D)) l H5 → 
    callG Try.prog y [.func (.yield l) #[] #[]] H5 (fun _ H6 => endLoopK l H6 fun j H7 => jmpV j (H7[D]? = some (.deferred (some [])) ∧ 
    ∀ H8, H8 = H7.setIfInBounds D (.deferred none) → K (.tuple #[]) H8) (False) fun id => False) (fun _ _ => 
    False)) Z)))) ∧ ∃ x2 : Option Addr, hcell H1 ⟨bW, 0, none⟩ = some (.pointer x2) ∧ nilck x2 fun ad1 => 
    (∃ x3 : Int, hcell H1 (Addr.add ad1 2) = some (.int .i64 x3) ∧ (((x3 == 0) = true → (((decide (n < 0)) = true → 
    ∃ x4 : Option Addr, hcell H1 ⟨bW, 0, none⟩ = some (.pointer x4) ∧ nilck x4 fun ad2 => (StL (Addr.add ad2 2) 0 [.int .i64 2] H1 fun H9 => 
    (J  H9))) ∧ ((decide (n < 0)) = false → (((decide (n > 268435456)) = true → ∃ x5 : Option Addr, hcell H1 ⟨bW, 0, none⟩ = some (.pointer x5) ∧ 
    nilck x5 fun ad3 => (StL (Addr.add ad3 2) 0 [.int .i64 2] H1 fun H10 => (J  H10))) ∧ ((decide (n > 268435456)) = false → 
    (J  H1)))))) ∧ ((x3 == 0) = false → (J  H1))))
def aJ64 : Ann := (fun k => if k = 3 then some [] else none)
def aL64 : Ann := (fun _ => none)
theorem V64_ok {H : Hp} {w : Addr} {n : Int} {K : Value → Hp → Prop} {Z : List PanicEntry → Hp → Prop} (h : V64 H w n K Z) : CallF Try.prog 64 #[.pointer (some w), .int .i64 n] H K Z :=
  fnC_sound (P := Try.prog) (aJ := aJ64) (aL := aL64) (f := 64) (args := [.pointer (some w), .int .i64 n]) (Eq.mp (by kernel_rfl) h)
/-- a round of the loop over a function, number 5, in (*weft/varint.Writer).Number -/
def R64_5 (H11 : Hp) (bW : Nat) (l1 : Nat) (y28 : Int) (K : Value → Hp → Prop) : Prop :=
  (∃ r1, H11[l1]? = some (.loop r1) ∧ r1.state = .ready ∧ ∀ H12, H12 = H11.setIfInBounds l1 (.loop { r1 with state := .busy }) → 
    ∃ x6 : Option Addr, hcell H12 ⟨bW, 0, none⟩ = some (.pointer x6) ∧ nilck x6 fun ad4 => (CallF Try.prog 105 #[.pointer (some ad4), .int .u8 y28] H12 (fun r2 H13 => 
    ∃ y1 : Value, r2 = y1 ∧ endR l1 none H13 K) (fun _ _ => False)))
theorem R64_5_ok {H11 : Hp} {bW : Nat} {l1 : Nat} {y28 : Int} {u0 u1 u3 u4 u5 u6 u7 u8 u9 u10 u11 u12 u13 u14 u15 u16 u17 u18 u19 u20 u21 u22 u23 u24 u25 u26 u27 u28 u29 u30 u31 u32 u33 : Value} {K : Value → Hp → Prop} (h : R64_5 H11 bW l1 y28 K) : yldC Try.prog aJ64 aL64 Try.f64 64 5 l1 [u0, u1, .pointer (some ⟨bW, 0, none⟩), u3, u4, u5, u6, u7, u8, u9, u10, u11, u12, u13, u14, u15, u16, u17, u18, u19, u20, u21, u22, u23, u24, u25, u26, u27, u28, u29, u30, u31, u32, u33] [.int .u8 y28] H11 K := Eq.mp (by kernel_rfl) h
/-- (*weft/varint.Writer).Text -/
def V66 (H : Hp) (w : Addr) (s : ByteArray) (K : Value → Hp → Prop) (Z : List PanicEntry → Hp → Prop) : Prop :=
  ∃ x : Int, hcell H (Addr.add w 2) = some (.int .i64 x) ∧ (((x == 0) = true → (((decide ((s.size : Int) > 200000)) = true → 
    StL (Addr.add w 2) 0 [.int .i64 9] H fun H1 => (∃ x1 : Int, hcell H1 (Addr.add w 2) = some (.int .i64 x1) ∧ 
    (((x1 == 0) = true → CallF Try.prog 64 #[.pointer (some w), .int .i64 (s.size : Int)] H1 (fun r H2 => 
    r = .tuple #[] ∧ CallF Try.prog 106 #[.pointer (some w), .string s] H2 (fun r1 H3 => ∃ y_0 : Int, ∃ y_1 : Value, r1 = .tuple #[.int .i64 y_0, y_1] ∧ 
    K (.tuple #[]) H3) Z) Z) ∧ ((x1 == 0) = false → K (.tuple #[]) H1)))) ∧ ((decide ((s.size : Int) > 200000)) = false → 
    ∃ x2 : Int, hcell H (Addr.add w 2) = some (.int .i64 x2) ∧ (((x2 == 0) = true → CallF Try.prog 64 #[.pointer (some w), .int .i64 (s.size : Int)] H (fun r2 H4 => 
    r2 = .tuple #[] ∧ CallF Try.prog 106 #[.pointer (some w), .string s] H4 (fun r3 H5 => ∃ y_01 : Int, ∃ y_11 : Value, r3 = .tuple #[.int .i64 y_01, y_11] ∧ 
    K (.tuple #[]) H5) Z) Z) ∧ ((x2 == 0) = false → K (.tuple #[]) H))))) ∧ ((x == 0) = false → ∃ x3 : Int, hcell H (Addr.add w 2) = some (.int .i64 x3) ∧ 
    (((x3 == 0) = true → CallF Try.prog 64 #[.pointer (some w), .int .i64 (s.size : Int)] H (fun r4 H6 => 
    r4 = .tuple #[] ∧ CallF Try.prog 106 #[.pointer (some w), .string s] H6 (fun r5 H7 => ∃ y_02 : Int, ∃ y_12 : Value, r5 = .tuple #[.int .i64 y_02, y_12] ∧ 
    K (.tuple #[]) H7) Z) Z) ∧ ((x3 == 0) = false → K (.tuple #[]) H))))
def aJ66 : Ann := (fun _ => none)
def aL66 : Ann := (fun _ => none)
theorem V66_ok {H : Hp} {w : Addr} {s : ByteArray} {K : Value → Hp → Prop} {Z : List PanicEntry → Hp → Prop} (h : V66 H w s K Z) : CallF Try.prog 66 #[.pointer (some w), .string s] H K Z :=
  fnC_sound (P := Try.prog) (aJ := aJ66) (aL := aL66) (f := 66) (args := [.pointer (some w), .string s]) (Eq.mp (by kernel_rfl) h)
/-- (*weft/varint.Writer).Done -/
def V33 (H : Hp) (w : Addr) (K : Value → Hp → Prop) (Z : List PanicEntry → Hp → Prop) : Prop :=
  ∃ x : Int, hcell H (Addr.add w 2) = some (.int .i64 x) ∧ (((x != 0) = true → ∃ x1 : Int, hcell H (Addr.add w 2) = some (.int .i64 x1) ∧ 
    K (.tuple #[.string ⟨#[]⟩, .int .i64 x1]) H) ∧ ((x != 0) = false → CallF Try.prog 67 #[.pointer (some w)] H (fun r H1 => 
    ∃ y : ByteArray, r = .string y ∧ K (.tuple #[.string y, .int .i64 0]) H1) Z))
def aJ33 : Ann := (fun _ => none)
def aL33 : Ann := (fun _ => none)
theorem V33_ok {H : Hp} {w : Addr} {K : Value → Hp → Prop} {Z : List PanicEntry → Hp → Prop} (h : V33 H w K Z) : CallF Try.prog 33 #[.pointer (some w)] H K Z :=
  fnC_sound (P := Try.prog) (aJ := aJ33) (aL := aL33) (f := 33) (args := [.pointer (some w)]) (Eq.mp (by kernel_rfl) h)
/-- weft/weftref02.Number -/
def V69 (H : Hp) (n : Int) (K : Value → Hp → Prop) (Z : List PanicEntry → Hp → Prop) : Prop :=
  ∃ I : Int → ByteArray → Hp → Nat → Prop, (∃ m, I n ⟨#[]⟩ H m) ∧ ∀ (n1 : Int) (s : ByteArray), ∀ H1 m1, I n1 s H1 m1 → 
    ∀ scr : Nat → Value, (((decide (n1 ≥ 128)) = true → ∀ b H2, Newb H1 (.cells #[.int .u8 (IntKind.wrap .u8 ((IntKind.wrap .u8 (Int.tmod n1 128)) + 128))] 5) b H2 → 
    Cvt Try.prog 66 9 H2 (.slice (some ⟨b, 0, none⟩) 1 1) fun r H3 => ∃ cv : ByteArray, r = .string cv ∧ 
    (s.size + cv.size ≤ 4611686018427387904 ∧ (∃ m2, m2 < m1 ∧ I (w64 (Int.tdiv n1 128)) (s ++ cv) H3 m2))) ∧ 
    ((decide (n1 ≥ 128)) = false → ∀ b1 H4, Newb H1 (.cells #[.int .u8 (IntKind.wrap .u8 n1)] 5) b1 H4 → 
    Cvt Try.prog 66 9 H4 (.slice (some ⟨b1, 0, none⟩) 1 1) fun r1 H5 => ∃ cv1 : ByteArray, r1 = .string cv1 ∧ 
    (s.size + cv1.size ≤ 4611686018427387904 ∧ K (.string (s ++ cv1)) H5)))
def aJ69 : Ann := (fun _ => none)
def aL69 : Ann := (fun k => if k = 2 then some [(0, (.sc (.int .i64))), (3, (.sc .str))] else none)
theorem V69_ok {H : Hp} {n : Int} {K : Value → Hp → Prop} {Z : List PanicEntry → Hp → Prop} (h : V69 H n K Z) : CallF Try.prog 69 #[.int .i64 n] H K Z :=
  fnC_sound (P := Try.prog) (aJ := aJ69) (aL := aL69) (f := 69) (args := [.int .i64 n]) (Eq.mp (by kernel_rfl) h)
/-- weft/varint.New -/
def V38 (H : Hp) (s : ByteArray) (K : Value → Hp → Prop) (Z : List PanicEntry → Hp → Prop) : Prop :=
  ∀ b H1, Newb H (.cells #[.string s, .int .i64 0, .int .i64 0] 117) b H1 → K (.pointer (some ⟨b, 0, none⟩)) H1
def aJ38 : Ann := (fun _ => none)
def aL38 : Ann := (fun _ => none)
theorem V38_ok {H : Hp} {s : ByteArray} {K : Value → Hp → Prop} {Z : List PanicEntry → Hp → Prop} (h : V38 H s K Z) : CallF Try.prog 38 #[.string s] H K Z :=
  fnC_sound (P := Try.prog) (aJ := aJ38) (aL := aL38) (f := 38) (args := [.string s]) (Eq.mp (by kernel_rfl) h)
/-- (*weft/varint.Reader).Text -/
def V74 (H : Hp) (r : Addr) (K : Value → Hp → Prop) (Z : List PanicEntry → Hp → Prop) : Prop :=
  CallF Try.prog 107 #[.pointer (some r), .func (.func 109) #[] #[]] H (fun r1 H1 => ∃ y_0 : Int, ∃ y_1 : ByteArray, r1 = .tuple #[.int .i64 y_0, .string y_1] ∧ 
    K (.string y_1) H1) Z
def aJ74 : Ann := (fun _ => none)
def aL74 : Ann := (fun _ => none)
theorem V74_ok {H : Hp} {r : Addr} {K : Value → Hp → Prop} {Z : List PanicEntry → Hp → Prop} (h : V74 H r K Z) : CallF Try.prog 74 #[.pointer (some r)] H K Z :=
  fnC_sound (P := Try.prog) (aJ := aJ74) (aL := aL74) (f := 74) (args := [.pointer (some r)]) (Eq.mp (by kernel_rfl) h)
/-- (*weft/varint.Reader).Number -/
def V71 (H : Hp) (r : Addr) (K : Value → Hp → Prop) (Z : List PanicEntry → Hp → Prop) : Prop :=
  CallF Try.prog 107 #[.pointer (some r), .func (.func 108) #[] #[]] H (fun r1 H1 => ∃ y_0 : Int, ∃ y_1 : ByteArray, r1 = .tuple #[.int .i64 y_0, .string y_1] ∧ 
    K (.int .i64 y_0) H1) Z
def aJ71 : Ann := (fun _ => none)
def aL71 : Ann := (fun _ => none)
theorem V71_ok {H : Hp} {r : Addr} {K : Value → Hp → Prop} {Z : List PanicEntry → Hp → Prop} (h : V71 H r K Z) : CallF Try.prog 71 #[.pointer (some r)] H K Z :=
  fnC_sound (P := Try.prog) (aJ := aJ71) (aL := aL71) (f := 71) (args := [.pointer (some r)]) (Eq.mp (by kernel_rfl) h)
/-- (*weft/varint.Reader).Done -/
def V40 (H : Hp) (r : Addr) (K : Value → Hp → Prop) (Z : List PanicEntry → Hp → Prop) : Prop :=
  ∃ x : Int, hcell H (Addr.add r 2) = some (.int .i64 x) ∧ (((x == 0) = true → ∃ x1 : Int, hcell H (Addr.add r 1) = some (.int .i64 x1) ∧ 
    ∃ x2 : ByteArray, hcell H r = some (.string x2) ∧ (((decide (x1 < (x2.size : Int))) = true → ∃ x3 : Int, hcell H (Addr.add r 1) = some (.int .i64 x3) ∧ 
    K (.tuple #[.int .i64 x3, .int .i64 6]) H) ∧ ((decide (x1 < (x2.size : Int))) = false → ∃ x4 : Int, hcell H (Addr.add r 1) = some (.int .i64 x4) ∧ 
    ∃ x5 : Int, hcell H (Addr.add r 2) = some (.int .i64 x5) ∧ K (.tuple #[.int .i64 x4, .int .i64 x5]) H))) ∧ 
    ((x == 0) = false → ∃ x6 : Int, hcell H (Addr.add r 1) = some (.int .i64 x6) ∧ ∃ x7 : Int, hcell H (Addr.add r 2) = some (.int .i64 x7) ∧ 
    K (.tuple #[.int .i64 x6, .int .i64 x7]) H))
def aJ40 : Ann := (fun _ => none)
def aL40 : Ann := (fun _ => none)
theorem V40_ok {H : Hp} {r : Addr} {K : Value → Hp → Prop} {Z : List PanicEntry → Hp → Prop} (h : V40 H r K Z) : CallF Try.prog 40 #[.pointer (some r)] H K Z :=
  fnC_sound (P := Try.prog) (aJ := aJ40) (aL := aL40) (f := 40) (args := [.pointer (some r)]) (Eq.mp (by kernel_rfl) h)
/-- (*weft/varint.Reader).take -/
def V107 (H : Hp) (r : Addr) (rest : Value) (K : Value → Hp → Prop) (Z : List PanicEntry → Hp → Prop) : Prop :=
  ∃ x : Int, hcell H (Addr.add r 2) = some (.int .i64 x) ∧ (((x != 0) = true → K (.tuple #[.int .i64 0, .string ⟨#[]⟩]) H) ∧ 
    ((x != 0) = false → CallF Try.prog 143 #[.pointer (some r)] H (fun r1 H1 => ∃ y_0 : Int, ∃ y_1 : Int, ∃ y_2 : Int, r1 = .tuple #[.int .i64 y_0, .int .i64 y_1, .int .i64 y_2] ∧ 
    ∃ J : Int → Hp → Prop, (∀ (e : Int), ∀ H2, J e H2 → ∀ scr : Nat → Value, (((e != 0) = true → StL (Addr.add r 2) 0 [.int .i64 e] H2 fun H3 => 
    (K (.tuple #[.int .i64 0, .string ⟨#[]⟩]) H3)) ∧ ((e != 0) = false → ∃ x1 : Int, hcell H2 (Addr.add r 1) = some (.int .i64 x1) ∧ 
    callV Try.prog rest [.int .i64 y_0] H2 (fun r2 H4 => ∃ y : Int, r2 = .int .i64 y ∧ StL (Addr.add r 1) 0 [.int .i64 (w64 ((w64 (x1 + y_1)) + y))] H4 fun H5 => 
    (∃ x2 : ByteArray, hcell H5 r = some (.string x2) ∧ ∃ x3 : Int, hcell H5 (Addr.add r 1) = some (.int .i64 x3) ∧ 
    SlS x2 (w64 (x1 + y_1)) x3 fun cut => (K (.tuple #[.int .i64 y_0, .string cut]) H5))) Z))) ∧ (((y_2 == 0) = true → 
    ((callV Try.prog rest [.int .i64 y_0] H1 (fun r3 H6 => ∃ y1 : Int, r3 = .int .i64 y1 ∧ ∃ x4 : ByteArray, hcell H6 r = some (.string x4) ∧ 
    ∃ x5 : Int, hcell H6 (Addr.add r 1) = some (.int .i64 x5) ∧ (((decide (y1 > (w64 ((w64 ((x4.size : Int) - x5)) - y_1)))) = true → 
    (J 1 H6)) ∧ ((decide (y1 > (w64 ((w64 ((x4.size : Int) - x5)) - y_1)))) = false → (J y_2 H6)))) Z) ∧ 
    (∃ x6 : ByteArray, hcell H1 r = some (.string x6) ∧ ((callV Try.prog rest [.int .i64 y_0] H1 (fun r4 H7 => 
    ∃ y2 : Int, r4 = .int .i64 y2 ∧ ∃ x7 : Int, hcell H7 (Addr.add r 1) = some (.int .i64 x7) ∧ (((decide (y2 > (w64 ((w64 ((x6.size : Int) - x7)) - y_1)))) = true → 
    (J 1 H7)) ∧ ((decide (y2 > (w64 ((w64 ((x6.size : Int) - x7)) - y_1)))) = false → (J y_2 H7)))) Z) ∧ 
    (∃ x8 : Int, hcell H1 (Addr.add r 1) = some (.int .i64 x8) ∧ callV Try.prog rest [.int .i64 y_0] H1 (fun r5 H8 => 
    ∃ y3 : Int, r5 = .int .i64 y3 ∧ (((decide (y3 > (w64 ((w64 ((x6.size : Int) - x8)) - y_1)))) = true → 
    (J 1 H8)) ∧ ((decide (y3 > (w64 ((w64 ((x6.size : Int) - x8)) - y_1)))) = false → (J y_2 H8)))) Z))) ∧ 
    (∃ x9 : Int, hcell H1 (Addr.add r 1) = some (.int .i64 x9) ∧ ((callV Try.prog rest [.int .i64 y_0] H1 (fun r6 H9 => 
    ∃ y4 : Int, r6 = .int .i64 y4 ∧ ∃ x10 : ByteArray, hcell H9 r = some (.string x10) ∧ (((decide (y4 > (w64 ((w64 ((x10.size : Int) - x9)) - y_1)))) = true → 
    (J 1 H9)) ∧ ((decide (y4 > (w64 ((w64 ((x10.size : Int) - x9)) - y_1)))) = false → (J y_2 H9)))) Z) ∧ 
    (∃ x11 : ByteArray, hcell H1 r = some (.string x11) ∧ callV Try.prog rest [.int .i64 y_0] H1 (fun r7 H10 => 
    ∃ y5 : Int, r7 = .int .i64 y5 ∧ (((decide (y5 > (w64 ((w64 ((x11.size : Int) - x9)) - y_1)))) = true → 
    (J 1 H10)) ∧ ((decide (y5 > (w64 ((w64 ((x11.size : Int) - x9)) - y_1)))) = false → (J y_2 H10)))) Z))))) ∧ 
    ((y_2 == 0) = false → ((J y_2 H1) ∧ ((J y_2 H1) ∧ (J y_2 H1)) ∧ ((J y_2 H1) ∧ (J y_2 H1)))))) Z))
def aJ107 : Ann := (fun k => if k = 6 then some [(8, (.sc (.int .i64)))] else none)
def aL107 : Ann := (fun _ => none)
theorem V107_ok {H : Hp} {r : Addr} {rest : Value} {K : Value → Hp → Prop} {Z : List PanicEntry → Hp → Prop} (h : V107 H r rest K Z) : CallF Try.prog 107 #[.pointer (some r), rest] H K Z :=
  fnC_sound (P := Try.prog) (aJ := aJ107) (aL := aL107) (f := 107) (args := [.pointer (some r), rest]) (Eq.mp (by kernel_rfl) h)
/-- (*weft/varint.Reader).look -/
def V143 (H : Hp) (r : Addr) (K : Value → Hp → Prop) (Z : List PanicEntry → Hp → Prop) : Prop :=
  ∃ x : ByteArray, hcell H r = some (.string x) ∧ ∃ x1 : Int, hcell H (Addr.add r 1) = some (.int .i64 x1) ∧ 
    ∃ x2 : ByteArray, hcell H r = some (.string x2) ∧ ∃ x3 : Int, hcell H (Addr.add r 1) = some (.int .i64 x3) ∧ 
    SlS x x1 (if (w64 (x3 + 5)) < (x2.size : Int) then (w64 (x3 + 5)) else (x2.size : Int)) fun cut => 
    (Cvt Try.prog 9 66 H (.string cut) fun r1 H1 => ∃ cv : Sl, r1 = .slice cv.a cv.n cv.c ∧ ∃ I : Int → 
    Int → Hp → Nat → Prop, (∃ m, I 0 0 H1 m) ∧ ∀ (n : Int) (t30 : Int), ∀ H2 m1, I n t30 H2 m1 → ∀ scr : Nat → 
    Value, (((decide (t30 < (cv.n : Int))) = true → IxA cv.a cv.n t30 1 fun ad => (∃ x4 : Int, hcell H2 ad = some (.int .u8 x4) ∧ 
    ∃ J : Hp → Prop, (∀ H3, J  H3 → ∀ scr1 : Nat → Value, (0 ≤ (w64 (7 * t30)) ∧ ((((bitAnd .u8 x4 128) != 0) = true → 
    (∃ m2, m2 < m1 ∧ I (bitOr .i64 n (w64 ((w64 (bitAnd .u8 x4 127)) * 2 ^ (min (Int.toNat (w64 (7 * t30))) (IntKind.bits .i64))))) (w64 (t30 + 1)) H3 m2)) ∧ 
    (((bitAnd .u8 x4 128) != 0) = false → (((x4 == 0) = true → (((decide (t30 > 0)) = true → K (.tuple #[.int .i64 0, .int .i64 0, .int .i64 3]) H3) ∧ 
    ((decide (t30 > 0)) = false → (((decide ((bitOr .i64 n (w64 ((w64 (bitAnd .u8 x4 127)) * 2 ^ (min (Int.toNat (w64 (7 * t30))) (IntKind.bits .i64))))) > 268435456)) = true → 
    K (.tuple #[.int .i64 0, .int .i64 0, .int .i64 2]) H3) ∧ ((decide ((bitOr .i64 n (w64 ((w64 (bitAnd .u8 x4 127)) * 2 ^ (min (Int.toNat (w64 (7 * t30))) (IntKind.bits .i64))))) > 268435456)) = false → 
    K (.tuple #[.int .i64 (bitOr .i64 n (w64 ((w64 (bitAnd .u8 x4 127)) * 2 ^ (min (Int.toNat (w64 (7 * t30))) (IntKind.bits .i64))))), .int .i64 (w64 (t30 + 1)), .int .i64 0]) H3))))) ∧ 
    ((x4 == 0) = false → (((decide ((bitOr .i64 n (w64 ((w64 (bitAnd .u8 x4 127)) * 2 ^ (min (Int.toNat (w64 (7 * t30))) (IntKind.bits .i64))))) > 268435456)) = true → 
    K (.tuple #[.int .i64 0, .int .i64 0, .int .i64 2]) H3) ∧ ((decide ((bitOr .i64 n (w64 ((w64 (bitAnd .u8 x4 127)) * 2 ^ (min (Int.toNat (w64 (7 * t30))) (IntKind.bits .i64))))) > 268435456)) = false → 
    K (.tuple #[.int .i64 (bitOr .i64 n (w64 ((w64 (bitAnd .u8 x4 127)) * 2 ^ (min (Int.toNat (w64 (7 * t30))) (IntKind.bits .i64))))), .int .i64 (w64 (t30 + 1)), .int .i64 0]) H3)))))))) ∧ 
    (((t30 == 4) = true → (((decide (x4 > 1)) = true → K (.tuple #[.int .i64 0, .int .i64 0, .int .i64 2]) H2) ∧ 
    ((decide (x4 > 1)) = false → (J  H2)))) ∧ ((t30 == 4) = false → (J  H2))))) ∧ ((decide (t30 < (cv.n : Int))) = false → 
    K (.tuple #[.int .i64 0, .int .i64 0, .int .i64 1]) H2)))
def aJ143 : Ann := (fun k => if k = 7 then some [] else none)
def aL143 : Ann := (fun k => if k = 3 then some [(5, (.sc (.int .i64))), (30, (.sc (.int .i64)))] else none)
theorem V143_ok {H : Hp} {r : Addr} {K : Value → Hp → Prop} {Z : List PanicEntry → Hp → Prop} (h : V143 H r K Z) : CallF Try.prog 143 #[.pointer (some r)] H K Z :=
  fnC_sound (P := Try.prog) (aJ := aJ143) (aL := aL143) (f := 143) (args := [.pointer (some r)]) (Eq.mp (by kernel_rfl) h)
/-- (*weft/varint.Reader).Text$1 -/
def V109 (H : Hp) (n : Int) (K : Value → Hp → Prop) (Z : List PanicEntry → Hp → Prop) : Prop :=
  K (.int .i64 n) H
def aJ109 : Ann := (fun _ => none)
def aL109 : Ann := (fun _ => none)
theorem V109_ok {H : Hp} {n : Int} {K : Value → Hp → Prop} {Z : List PanicEntry → Hp → Prop} (h : V109 H n K Z) : CallF Try.prog 109 #[.int .i64 n] H K Z :=
  fnC_sound (P := Try.prog) (aJ := aJ109) (aL := aL109) (f := 109) (args := [.int .i64 n]) (Eq.mp (by kernel_rfl) h)
/-- (*weft/varint.Reader).Number$1 -/
def V108 (H : Hp) (t0 : Int) (K : Value → Hp → Prop) (Z : List PanicEntry → Hp → Prop) : Prop :=
  K (.int .i64 0) H
def aJ108 : Ann := (fun _ => none)
def aL108 : Ann := (fun _ => none)
theorem V108_ok {H : Hp} {t0 : Int} {K : Value → Hp → Prop} {Z : List PanicEntry → Hp → Prop} (h : V108 H t0 K Z) : CallF Try.prog 108 #[.int .i64 t0] H K Z :=
  fnC_sound (P := Try.prog) (aJ := aJ108) (aL := aL108) (f := 108) (args := [.int .i64 t0]) (Eq.mp (by kernel_rfl) h)
/-- (*weft/varint.Reader).Fail -/
def V72 (H : Hp) (r : Addr) (e : Int) (K : Value → Hp → Prop) (Z : List PanicEntry → Hp → Prop) : Prop :=
  ∃ x : Int, hcell H (Addr.add r 2) = some (.int .i64 x) ∧ (((x == 0) = true → StL (Addr.add r 2) 0 [.int .i64 e] H fun H1 => 
    (K (.tuple #[]) H1)) ∧ ((x == 0) = false → K (.tuple #[]) H))
def aJ72 : Ann := (fun _ => none)
def aL72 : Ann := (fun _ => none)
theorem V72_ok {H : Hp} {r : Addr} {e : Int} {K : Value → Hp → Prop} {Z : List PanicEntry → Hp → Prop} (h : V72 H r e K Z) : CallF Try.prog 72 #[.pointer (some r), .int .i64 e] H K Z :=
  fnC_sound (P := Try.prog) (aJ := aJ72) (aL := aL72) (f := 72) (args := [.pointer (some r), .int .i64 e]) (Eq.mp (by kernel_rfl) h)
/-- (*weft/weftref02.Reader).Number -/
def V88 (H : Hp) (r : Addr) (K : Value → Hp → Prop) (Z : List PanicEntry → Hp → Prop) : Prop :=
  ∃ x : ByteArray, hcell H r = some (.string x) ∧ ∃ x1 : Int, hcell H (Addr.add r 1) = some (.int .i64 x1) ∧ 
    CallF Try.prog 114 #[.string x, .int .i64 x1] H (fun r1 H1 => ∃ y_0 : Int, ∃ y_1 : Int, ∃ y_2 : Int, r1 = .tuple #[.int .i64 y_0, .int .i64 y_1, .int .i64 y_2] ∧ 
    ∃ x2 : Int, hcell H1 (Addr.add r 2) = some (.int .i64 x2) ∧ (((x2 != 0) = true → K (.int .i64 0) H1) ∧ 
    ((x2 != 0) = false → (((y_2 != 0) = true → StL (Addr.add r 2) 0 [.int .i64 y_2] H1 fun H2 => (K (.int .i64 0) H2)) ∧ 
    ((y_2 != 0) = false → StL (Addr.add r 1) 0 [.int .i64 y_1] H1 fun H3 => (K (.int .i64 y_0) H3)))))) Z
def aJ88 : Ann := (fun _ => none)
def aL88 : Ann := (fun _ => none)
theorem V88_ok {H : Hp} {r : Addr} {K : Value → Hp → Prop} {Z : List PanicEntry → Hp → Prop} (h : V88 H r K Z) : CallF Try.prog 88 #[.pointer (some r)] H K Z :=
  fnC_sound (P := Try.prog) (aJ := aJ88) (aL := aL88) (f := 88) (args := [.pointer (some r)]) (Eq.mp (by kernel_rfl) h)
/-- (*weft/weftref02.Reader).Fail -/
def V113 (H : Hp) (r : Addr) (e : Int) (K : Value → Hp → Prop) (Z : List PanicEntry → Hp → Prop) : Prop :=
  ∃ x : Int, hcell H (Addr.add r 2) = some (.int .i64 x) ∧ (((x == 0) = true → StL (Addr.add r 2) 0 [.int .i64 e] H fun H1 => 
    (K (.tuple #[]) H1)) ∧ ((x == 0) = false → K (.tuple #[]) H))
def aJ113 : Ann := (fun _ => none)
def aL113 : Ann := (fun _ => none)
theorem V113_ok {H : Hp} {r : Addr} {e : Int} {K : Value → Hp → Prop} {Z : List PanicEntry → Hp → Prop} (h : V113 H r e K Z) : CallF Try.prog 113 #[.pointer (some r), .int .i64 e] H K Z :=
  fnC_sound (P := Try.prog) (aJ := aJ113) (aL := aL113) (f := 113) (args := [.pointer (some r), .int .i64 e]) (Eq.mp (by kernel_rfl) h)
/-- (*weft/weftref02.Reader).Done -/
def V89 (H : Hp) (r : Addr) (K : Value → Hp → Prop) (Z : List PanicEntry → Hp → Prop) : Prop :=
  ∃ x : Int, hcell H (Addr.add r 2) = some (.int .i64 x) ∧ (((x == 0) = true → ∃ x1 : Int, hcell H (Addr.add r 1) = some (.int .i64 x1) ∧ 
    ∃ x2 : ByteArray, hcell H r = some (.string x2) ∧ (((decide (x1 < (x2.size : Int))) = true → ∃ x3 : Int, hcell H (Addr.add r 1) = some (.int .i64 x3) ∧ 
    K (.tuple #[.int .i64 x3, .int .i64 6]) H) ∧ ((decide (x1 < (x2.size : Int))) = false → ∃ x4 : Int, hcell H (Addr.add r 1) = some (.int .i64 x4) ∧ 
    ∃ x5 : Int, hcell H (Addr.add r 2) = some (.int .i64 x5) ∧ K (.tuple #[.int .i64 x4, .int .i64 x5]) H))) ∧ 
    ((x == 0) = false → ∃ x6 : Int, hcell H (Addr.add r 1) = some (.int .i64 x6) ∧ ∃ x7 : Int, hcell H (Addr.add r 2) = some (.int .i64 x7) ∧ 
    K (.tuple #[.int .i64 x6, .int .i64 x7]) H))
def aJ89 : Ann := (fun _ => none)
def aL89 : Ann := (fun _ => none)
theorem V89_ok {H : Hp} {r : Addr} {K : Value → Hp → Prop} {Z : List PanicEntry → Hp → Prop} (h : V89 H r K Z) : CallF Try.prog 89 #[.pointer (some r)] H K Z :=
  fnC_sound (P := Try.prog) (aJ := aJ89) (aL := aL89) (f := 89) (args := [.pointer (some r)]) (Eq.mp (by kernel_rfl) h)
/-- weft/weftref02.number -/
def V114 (H : Hp) (s : ByteArray) (t1 : Int) (K : Value → Hp → Prop) (Z : List PanicEntry → Hp → Prop) : Prop :=
  ∃ I : Int → Int → Hp → Nat → Prop, (∃ m, I 0 0 H m) ∧ ∀ (n : Int) (k : Int), ∀ H1 m1, I n k H1 m1 → 
    ∀ scr : Nat → Value, (((decide (k < 5)) = true → (((decide ((w64 (t1 + k)) ≥ (s.size : Int))) = true → 
    K (.tuple #[.int .i64 0, .int .i64 0, .int .i64 1]) H1) ∧ ((decide ((w64 (t1 + k)) ≥ (s.size : Int))) = false → 
    IxS s (w64 (t1 + k)) fun c => (∃ J : Hp → Prop, (∀ H2, J  H2 → ∀ scr1 : Nat → Value, (0 ≤ (w64 (7 * k)) ∧ 
    (((decide ((w64 c) < 128)) = true → ((((w64 c) == 0) = true → (((decide (k > 0)) = true → K (.tuple #[.int .i64 0, .int .i64 0, .int .i64 3]) H2) ∧ 
    ((decide (k > 0)) = false → (((decide ((w64 (n + (w64 ((Int.tmod (w64 c) 128) * 2 ^ (min (Int.toNat (w64 (7 * k))) (IntKind.bits .i64)))))) > 268435456)) = true → 
    K (.tuple #[.int .i64 0, .int .i64 0, .int .i64 2]) H2) ∧ ((decide ((w64 (n + (w64 ((Int.tmod (w64 c) 128) * 2 ^ (min (Int.toNat (w64 (7 * k))) (IntKind.bits .i64)))))) > 268435456)) = false → 
    K (.tuple #[.int .i64 (w64 (n + (w64 ((Int.tmod (w64 c) 128) * 2 ^ (min (Int.toNat (w64 (7 * k))) (IntKind.bits .i64)))))), .int .i64 (w64 ((w64 (t1 + k)) + 1)), .int .i64 0]) H2))))) ∧ 
    (((w64 c) == 0) = false → (((decide ((w64 (n + (w64 ((Int.tmod (w64 c) 128) * 2 ^ (min (Int.toNat (w64 (7 * k))) (IntKind.bits .i64)))))) > 268435456)) = true → 
    K (.tuple #[.int .i64 0, .int .i64 0, .int .i64 2]) H2) ∧ ((decide ((w64 (n + (w64 ((Int.tmod (w64 c) 128) * 2 ^ (min (Int.toNat (w64 (7 * k))) (IntKind.bits .i64)))))) > 268435456)) = false → 
    K (.tuple #[.int .i64 (w64 (n + (w64 ((Int.tmod (w64 c) 128) * 2 ^ (min (Int.toNat (w64 (7 * k))) (IntKind.bits .i64)))))), .int .i64 (w64 ((w64 (t1 + k)) + 1)), .int .i64 0]) H2))))) ∧ 
    ((decide ((w64 c) < 128)) = false → (∃ m2, m2 < m1 ∧ I (w64 (n + (w64 ((Int.tmod (w64 c) 128) * 2 ^ (min (Int.toNat (w64 (7 * k))) (IntKind.bits .i64)))))) (w64 (k + 1)) H2 m2))))) ∧ 
    (((k == 4) = true → (((decide ((w64 c) > 1)) = true → K (.tuple #[.int .i64 0, .int .i64 0, .int .i64 2]) H1) ∧ 
    ((decide ((w64 c) > 1)) = false → (J  H1)))) ∧ ((k == 4) = false → (J  H1))))))) ∧ ((decide (k < 5)) = false → 
    K (.tuple #[.int .i64 0, .int .i64 0, .int .i64 2]) H1))
def aJ114 : Ann := (fun k => if k = 10 then some [] else none)
def aL114 : Ann := (fun k => if k = 3 then some [(7, (.sc (.int .i64))), (8, (.sc (.int .i64)))] else none)
theorem V114_ok {H : Hp} {s : ByteArray} {t1 : Int} {K : Value → Hp → Prop} {Z : List PanicEntry → Hp → Prop} (h : V114 H s t1 K Z) : CallF Try.prog 114 #[.string s, .int .i64 t1] H K Z :=
  fnC_sound (P := Try.prog) (aJ := aJ114) (aL := aL114) (f := 114) (args := [.string s, .int .i64 t1]) (Eq.mp (by kernel_rfl) h)
end Go.Proofs.Ytigbdoicgdmliaa.N02
end

section
/- strings.Builder, wherever it lies in a block: what its methods do. -/
set_option linter.unusedVariables false
set_option linter.unusedSimpArgs false
-- tPB: 65
-- tUP: 199
-- tBld: 68
-- tBs: 66
-- tPU8: 168
-- tU8: 5
-- tStr: 9
-- tInt: 3
-- noEsc: 149
-- bWriteByte: 105
-- bWriteString: 106
-- bString: 67
-- bCopyCheck: 142
namespace Go.Proofs.Ytigbdoicgdmliaa.Bld
open Go Go.V Go.Proofs Go.Proofs.Ytigbdoicgdmliaa.N02

attribute [local irreducible] Cvt ExtF CallF hrun

/-- the row of a Builder's buffer -/
def bOwn (cs : List Value) (o : Nat) (i : Nat) : Prop := ∃ off n c, cs[o + 1]? = some (.slice (some ⟨i, off, none⟩) n c)
/-- A Builder at place o of block b: xs has been written. -/
structure BldS (H : Hp) (b o : Nat) (T : TypeId) (cs : List Value) (xs : List UInt8) : Prop where
  blk : Blk H b cs T
  ptr : ∃ p : Option Addr, cs[o]? = some (.pointer p) ∧ (p = none ∨ p = some ⟨b, o, none⟩)
  buf : ∃ s : Sl, cs[o + 1]? = some (.slice s.a s.n s.c) ∧ Row H 5 1 s (bv xs) ∧ ¬ own s b
  lies : liesAt Try.prog Try.prog.depth T (cs.length / Try.prog.cellsOf T) o 68 1 = true

theorem own_iff {s : Sl} {cs : List Value} {o : Nat} (h : cs[o + 1]? = some (.slice s.a s.n s.c)) (i : Nat) : bOwn cs o i ↔ own s i := by
  unfold bOwn own
  rw [h]
  constructor
  · rintro ⟨off, n, c, h⟩
    simp only [Option.some.injEq, Value.slice.injEq] at h
    exact ⟨off, h.1⟩
  · rintro ⟨off, h⟩
    exact ⟨off, s.n, s.c, by rw [h]⟩

/-- what a write has done: xs is there now -/
structure BldTo (H H' : Hp) (b o : Nat) (T : TypeId) (cs cs' : List Value) (xs : List UInt8) : Prop where
  st : BldS H' b o T cs' xs
  len : cs'.length = cs.length
  rest : ∀ i, i ≠ o → i ≠ o + 1 → cs'[i]? = cs[i]?
  fr : Fr (fun i => i = b ∨ bOwn cs o i) H H'
  own : ∀ i, bOwn cs' o i → bOwn cs o i ∨ H.size ≤ i

theorem blk_shape {H : Hp} {b : Nat} {T : TypeId} {cs : List Value} (hb : Blk H b cs T) : hshape H b = some (T, cs.length) := by
  unfold hshape
  have h' : H[b]? = some (.cells cs.toArray T (0, 0)) := hb
  rw [h']
  simp
theorem cv1 {P : Program} {tp tu t : TypeId} {z : Nat} (p1 : pureV P (underlying tp) = some (.pointer t)) (p2 : pureV P (underlying tu) = some .unsafePointer) (p3 : pureV P (sizeOf t) = some (z + 1))
    {H : Hp} {b o : Nat} {T : TypeId} {cs : List Value} {K : Value → Hp → Prop} (hb : Blk H b cs T) (ho : o < cs.length) (k : K (.pointer (some ⟨b, o, none⟩)) H) :
    Cvt P tp tu H (.pointer (some ⟨b, o, none⟩)) K := by
  unfold Cvt convert
  refine hrun_pv p1 ?_
  refine hrun_pv p2 ?_
  simp only [Conv.unsafePointer]
  refine hrun_pv p1 ?_
  refine hrun_pv p2 ?_
  have hsh := blk_shape hb
  simp only [Conv.seenAt, viewAt, cellsIn, shape, bind, Sem.bind, pure, hrun, hsh, Option.isSome_some, if_true]
  refine hrun_bind _ (hrun_pureV _ p3 ?_)
  have : ¬ (o ≥ cs.length) := by omega
  simp only [this, decide_false, Bool.false_and, Bool.false_eq_true, or_false]
  simpa [hrun] using k
theorem cv2 {P : Program} {tp tu t : TypeId} {z : Nat} (p1 : pureV P (underlying tp) = some (.pointer t)) (p2 : pureV P (underlying tu) = some .unsafePointer) (p3 : pureV P (sizeOf t) = some (z + 1))
    {H : Hp} {b o : Nat} {T : TypeId} {cs : List Value} {K : Value → Hp → Prop} (hb : Blk H b cs T) (hl : liesAt P P.depth T (cs.length / P.cellsOf T) o t 1 = true)
    (k : K (.pointer (some ⟨b, o, none⟩)) H) : Cvt P tu tp H (.pointer (some ⟨b, o, none⟩)) K := by
  unfold Cvt convert
  refine hrun_pv p2 ?_
  refine hrun_pv p1 ?_
  simp only [Conv.unsafePointer]
  refine hrun_pv p2 ?_
  refine hrun_pv p1 ?_
  have hsh := blk_shape hb
  simp only [Conv.seenAt, viewAt, variablesAt, shape, bind, Sem.bind, pure, hrun, hsh, Option.isSome_some, if_true, program]
  refine hrun_bind _ (hrun_pureV _ p3 ?_)
  simp only [hsh, hl, hrun, Sem.bind, Bool.or_true, if_true]
  exact k
theorem pvPB : pureV Try.prog (underlying 65) = some (.pointer 68) := by kernel_rfl
theorem pvUP : pureV Try.prog (underlying 199) = some .unsafePointer := by kernel_rfl
theorem pvSz : pureV Try.prog (sizeOf 68) = some (1 + 1) := by kernel_rfl

theorem pvNoEsc (v : Value) : pureV Try.prog (callFunc 149 #[v]) = some (.value v) := by kernel_rfl
theorem noEsc_ok {H : Hp} {K : Value → Hp → Prop} (v : Value) (k : K v H) : ExtF Try.prog 149 [v] H K := by
  unfold ExtF
  exact hrun_pureV _ (pvNoEsc v) k

theorem copyCheck {H : Hp} {b o : Nat} {T : TypeId} {cs : List Value} {xs : List UInt8} {Z : List PanicEntry → Hp → Prop} (h : BldS H b o T cs xs) :
    CallF Try.prog 142 #[.pointer (some ⟨b, o, none⟩)] H (fun r H' => r = .tuple #[] ∧ BldTo H H' b o T cs (cs.set o (.pointer (some ⟨b, o, none⟩))) xs ∧ H'.size = H.size) Z := by
  obtain ⟨hb, ⟨p, h0, hp⟩, ⟨s, h1, hr, hn⟩, hl⟩ := h
  have ho : o < cs.length := (List.getElem?_eq_some_iff.1 h0).1
  have hs1 : (cs.set o (.pointer (some ⟨b, o, none⟩)))[o + 1]? = some (.slice s.a s.n s.c) := by rw [List.getElem?_set_ne (by omega)]; exact h1
  refine V142_ok ?_
  unfold V142
  refine ⟨p, by rw [hb.ld]; exact h0, ?_, ?_⟩
  · intro hpn
    have hp' : p = none := by simpa using hpn
    subst hp'
    apply cv1 pvPB pvUP pvSz hb ho
    refine ⟨_, rfl, ?_⟩
    refine noEsc_ok _ ⟨_, rfl, ?_⟩
    refine cv2 pvPB pvUP pvSz hb hl ⟨_, rfl, ?_⟩
    refine st_blk hb ho rfl ?_
    intro H' hb' hf hs
    refine ⟨rfl, ⟨⟨hb', ⟨_, by rw [List.getElem?_set_self ho], .inr rfl⟩, ⟨s, hs1, hr.keep hf (fun i hi e => hn (e ▸ hi)), hn⟩, by simpa using hl⟩, by simp, ?_, hf.mono (fun i _ hi => .inl hi), ?_⟩, hs⟩
    · intro i hi _; exact List.getElem?_set_ne (Ne.symm hi)
    · intro i hi; rw [own_iff hs1] at hi; rw [own_iff h1]; exact .inl hi
  · intro hpn
    have hp' : p = some ⟨b, o, none⟩ := by
      rcases hp with rfl | h
      · simp at hpn
      · exact h
    subst hp'
    refine ⟨_, by rw [hb.ld]; exact h0, ?_⟩
    refine ⟨rfl, ?_, ?_⟩
    · intro h; simp at h
    · intro _
      have e : cs.set o (.pointer (some ⟨b, o, none⟩)) = cs := by
        apply List.ext_getElem?
        intro i
        by_cases hi : i = o
        · subst hi; rw [List.getElem?_set_self ho, h0]
        · rw [List.getElem?_set_ne (Ne.symm hi)]
      rw [e]
      exact ⟨rfl, ⟨⟨hb, ⟨_, h0, .inr rfl⟩, ⟨s, h1, hr, hn⟩, hl⟩, rfl, fun _ _ _ => rfl, Fr.refl _ _, fun i hi => .inl hi⟩, rfl⟩
theorem BldTo.trans {A B C : Hp} {b o : Nat} {T : TypeId} {c1 c2 c3 : List Value} {xs ys : List UInt8} (h : BldTo A B b o T c1 c2 xs) (k : BldTo B C b o T c2 c3 ys) : BldTo A C b o T c1 c3 ys := by
  refine ⟨k.st, k.len.trans h.len, fun i h1 h2 => (k.rest i h1 h2).trans (h.rest i h1 h2), ?_, ?_⟩
  · refine h.fr.step k.fr ?_
    intro i hi ht
    rcases ht with rfl | ht
    · exact .inl rfl
    · rcases h.own i ht with h' | h'
      · exact .inr h'
      · omega
  · intro i hi
    rcases k.own i hi with h' | h'
    · exact h.own i h'
    · exact .inr (Nat.le_trans h.fr.size h')
/-- nothing but new blocks -/
theorem BldS.keep {H H' : Hp} {b o : Nat} {T : TypeId} {cs : List Value} {xs : List UInt8} {S : Nat → Prop} (h : BldS H b o T cs xs) (hf : Fr S H H') (h1 : ¬ S b) (h2 : ∀ i, bOwn cs o i → ¬ S i) : BldS H' b o T cs xs := by
  obtain ⟨hb, hp, ⟨s, hs, hr, hn⟩, hl⟩ := h
  exact ⟨hf.blk hb h1, hp, ⟨s, hs, hr.keep hf (fun i hi => h2 i ((own_iff hs i).2 hi)), hn⟩, hl⟩

theorem BldS.own_lt {H : Hp} {b o : Nat} {T : TypeId} {cs : List Value} {xs : List UInt8} (h : BldS H b o T cs xs) {i : Nat} (hi : bOwn cs o i) : i < H.size := by
  obtain ⟨s, hs, hr, hn⟩ := h.buf
  exact hr.lt ((own_iff hs i).1 hi)
/-- on the way: new blocks below m are of others -/
structure Mid (A : Hp) (m : Nat) (H : Hp) (b o : Nat) (T : TypeId) (cs cs' : List Value) (xs : List UInt8) : Prop where
  st : BldS H b o T cs' xs
  len : cs'.length = cs.length
  rest : ∀ i, i ≠ o → i ≠ o + 1 → cs'[i]? = cs[i]?
  fr : Fr (fun i => i = b ∨ bOwn cs o i) A H
  own : ∀ i, bOwn cs' o i → bOwn cs o i ∨ m ≤ i
  sz : m ≤ H.size
  lo : A.size ≤ m
  ba : b < A.size
  oa : ∀ i, bOwn cs o i → i < A.size
theorem Mid.start {A H : Hp} {b o : Nat} {T : TypeId} {cs : List Value} {xs : List UInt8} (h : BldS A b o T cs xs) (hf : Fr no A H) : Mid A H.size H b o T cs cs xs :=
  ⟨h.keep hf (fun h => h) (fun _ _ h => h), rfl, fun _ _ _ => rfl, hf.of_no, fun _ h => .inl h, Nat.le_refl _, hf.size, h.blk.lt, fun _ => h.own_lt⟩
theorem Mid.step {A H H' : Hp} {m b o : Nat} {T : TypeId} {c1 c2 c3 : List Value} {xs ys : List UInt8} (h : Mid A m H b o T c1 c2 xs) (k : BldTo H H' b o T c2 c3 ys) : Mid A m H' b o T c1 c3 ys := by
  refine ⟨k.st, k.len.trans h.len, fun i h1 h2 => (k.rest i h1 h2).trans (h.rest i h1 h2), ?_, ?_, Nat.le_trans h.sz k.fr.size, h.lo, h.ba, h.oa⟩
  · refine h.fr.step k.fr ?_
    intro i hi ht
    rcases ht with rfl | ht
    · exact .inl rfl
    · rcases h.own i ht with h' | h'
      · exact .inr h'
      · have := h.lo; omega
  · intro i hi
    rcases k.own i hi with h' | h'
    · exact h.own i h'
    · exact .inr (Nat.le_trans h.sz h')
theorem Mid.other {A H H' : Hp} {m b o i : Nat} {T : TypeId} {c1 c2 : List Value} {xs : List UInt8} (h : Mid A m H b o T c1 c2 xs) (hf : Fr (fun j => j = i) H H') (h1 : A.size ≤ i) (h2 : i < m) : Mid A m H' b o T c1 c2 xs := by
  have hb := h.ba
  refine ⟨h.st.keep hf (by omega) ?_, h.len, h.rest, ?_, h.own, Nat.le_trans h.sz hf.size, h.lo, h.ba, h.oa⟩
  · intro j hj e
    rcases h.own j hj with h' | h'
    · have := h.oa j h'; omega
    · omega
  · refine h.fr.step hf ?_
    intro j hj e
    omega
theorem Mid.to {A H : Hp} {m b o : Nat} {T : TypeId} {c1 c2 : List Value} {xs : List UInt8} (h : Mid A m H b o T c1 c2 xs) : BldTo A H b o T c1 c2 xs :=
  ⟨h.st, h.len, h.rest, h.fr, fun i hi => (h.own i hi).imp id fun h' => Nat.le_trans h.lo h'⟩
/-- a block that is not the builder's stays -/
theorem BldTo.keep {H H' : Hp} {b o : Nat} {T : TypeId} {cs cs' : List Value} {xs : List UInt8} (h : BldTo H H' b o T cs cs' xs) {i : Nat} {x : Obj} (hx : H[i]? = some x) (h1 : i ≠ b) (h2 : ¬ bOwn cs o i) : H'[i]? = some x :=
  h.fr.at hx fun h => h.elim h1 h2

theorem pvu1 : Try.prog.underlying 66 = some (.slice 5) := by kernel_rfl
theorem pvu2 : Try.prog.underlying 9 = some .string := by kernel_rfl
theorem pvi : ∃ inf : TypeInfo, Try.prog.info? 5 = some inf ∧ inf.zero = some (.int .u8 0) ∧ inf.size = 1 ∧ inf.bytes = 1 := info_of (by kernel_rfl)

/-- append and store -/
theorem put_ok {T2 : TypeId} {y : Value} {m : Nat} {ty : TypeId} (ht : T2 = 66 ∨ T2 = 9) {H : Hp} {b o : Nat} {T : TypeId} {cs : List Value} {xs ys : List UInt8} (h : BldS H b o T cs xs) {s : Sl}
    (hs : hcell H (Addr.add ⟨b, o, none⟩ 1) = some (.slice s.a s.n s.c)) (hy : Src H 1 y m (bv ys)) (hl : xs.length + m ≤ 140737488355328) {K : Hp → Prop} (k : ∀ H' cs', BldTo H H' b o T cs cs' (xs ++ ys) → K H') :
    App Try.prog #[66, T2] ty H [.slice s.a s.n s.c, y] fun ap H3 => StL (Addr.add ⟨b, o, none⟩ 1) 0 [.slice ap.a ap.n ap.c] H3 K := by
  obtain ⟨hb, hp, ⟨s', h1, hr, hn⟩, hlies⟩ := h
  have e : s' = s := by
    rw [add_mk, hb.ld, h1] at hs
    cases s; cases s'
    simpa using hs
  subst e
  have ho : o + 1 < cs.length := (List.getElem?_eq_some_iff.1 h1).1
  obtain ⟨inf, i1, i2, i3, i4⟩ := pvi
  rw [← i3] at hr hy
  have hlen := hr.1
  rw [bv_length, i3] at hlen
  refine app_row pvu1 ?_ ?_ i1 i2 (by rw [i3]; rfl) (by rw [i4]; decide) hr hy (bv_one _) (by rw [i4]; omega) ?_
  · rcases ht with rfl | rfl
    · intro k; rw [pvu1]; simp
    · intro k; rw [pvu2]; simp
  · rcases ht with rfl | rfl
    · exact ⟨_, pvu1⟩
    · exact ⟨_, pvu2⟩
  · intro s2 H2 hr2 _ hf2 ho2
    have hb2 : Blk H2 b cs T := hf2.blk hb hn
    rw [add_mk]
    refine st_blk hb2 ho rfl ?_
    intro H3 hb3 hf3 _
    have hget : (cs.set (o + 1) (.slice s2.a s2.n s2.c))[o + 1]? = some (.slice s2.a s2.n s2.c) := List.getElem?_set_self ho
    have hn2 : ¬ own s2 b := by
      intro hc
      rcases ho2 b hc with h' | h'
      · exact hn h'
      · have := hb.lt; omega
    refine k H3 (cs.set (o + 1) (.slice s2.a s2.n s2.c)) ⟨⟨hb3, ?_, ⟨s2, hget, ?_, hn2⟩, by simpa using hlies⟩, by simp, ?_, ?_, ?_⟩
    · obtain ⟨p, hp1, hp2⟩ := hp
      exact ⟨p, by rw [List.getElem?_set_ne (by omega)]; exact hp1, hp2⟩
    · rw [bv_append]
      rw [i3] at hr2
      exact hr2.keep hf3 fun i hi e => hn2 (e ▸ hi)
    · intro i _ hi
      exact List.getElem?_set_ne (Ne.symm hi)
    · have hf2' : Fr (fun i => i = b ∨ bOwn cs o i) H H2 := hf2.mono fun i _ hi => .inr ((own_iff h1 i).2 hi)
      exact hf2'.step hf3 fun i _ hi => .inl hi
    · intro i hi
      rw [own_iff hget] at hi
      rw [own_iff h1]
      exact ho2 i hi

theorem writeByte {H : Hp} {b o : Nat} {T : TypeId} {cs : List Value} {xs : List UInt8} {c : UInt8} {K : Value → Hp → Prop} {Z : List PanicEntry → Hp → Prop} (h : BldS H b o T cs xs) (hl : xs.length + 1 ≤ 140737488355328)
    (k : ∀ H' cs', BldTo H H' b o T cs cs' (xs ++ [c]) → K .nilIface H') : CallF Try.prog 105 #[.pointer (some ⟨b, o, none⟩), .int .u8 (c.toNat : Int)] H K Z := by
  refine V105_ok ?_
  unfold V105
  refine (copyCheck h).mono ?_ fun _ _ h => h
  rintro r H1 ⟨rfl, h1, hs1⟩
  obtain ⟨hb, hp, ⟨s, hs, hr, hn⟩, hlies⟩ := h1.st
  refine ⟨rfl, s, by rw [add_mk, hb.ld]; exact hs, ?_⟩
  intro b1 H2 hn1
  have hb1 : Blk H2 b1 [.int .u8 (c.toNat : Int)] 5 := hn1.blk
  have hst2 : BldS H2 b o T _ xs := h1.st.keep (S := no) hn1.fr (fun h => h) (fun _ _ h => h)
  refine put_ok (.inl rfl) (ys := [c]) hst2 (by rw [add_mk, hst2.blk.ld]; exact hs) (Src.blk hb1 rfl) hl ?_
  intro H3 cs3 h3
  have h12 : BldTo H1 H2 b o T (cs.set o (.pointer (some ⟨b, o, none⟩))) (cs.set o (.pointer (some ⟨b, o, none⟩))) xs := ⟨hst2, rfl, fun _ _ _ => rfl, hn1.fr.of_no, fun i hi => .inl hi⟩
  exact k H3 cs3 ((h1.trans h12).trans h3)
theorem writeString {H : Hp} {b o : Nat} {T : TypeId} {cs : List Value} {xs : List UInt8} {t : ByteArray} {K : Value → Hp → Prop} {Z : List PanicEntry → Hp → Prop} (h : BldS H b o T cs xs) (hl : xs.length + t.size ≤ 140737488355328)
    (k : ∀ H' cs', BldTo H H' b o T cs cs' (xs ++ t.data.toList) → K (.tuple #[.int .i64 (t.size : Int), .nilIface]) H') : CallF Try.prog 106 #[.pointer (some ⟨b, o, none⟩), .string t] H K Z := by
  refine V106_ok ?_
  unfold V106
  refine (copyCheck h).mono ?_ fun _ _ h => h
  rintro r H1 ⟨rfl, h1, hs1⟩
  obtain ⟨hb, hp, ⟨s, hs, hr, hn⟩, hlies⟩ := h1.st
  refine ⟨rfl, s, by rw [add_mk, hb.ld]; exact hs, ?_⟩
  refine put_ok (.inr rfl) (ys := t.data.toList) h1.st (by rw [add_mk, hb.ld]; exact hs) (Src.str t) hl ?_
  intro H3 cs3 h3
  exact k H3 cs3 (h1.trans h3)
theorem sliceData_ok {P : Program} {ts : Array TypeId} {ty e E : TypeId} {cs : Array Bool} {H : Hp} {s : Sl} {sz : Nat} {xs : List Value} (hp : P.underlying ty = some (.pointer e)) (hr : Row H E sz s xs) {K : Value → Hp → Prop}
    (k : ∀ p H', Fr no H H' → (s.n = 0 ∨ (p = s.a ∧ H' = H)) → K (.pointer p) H') : Blt P .unsafeSliceData ts ty cs H [.slice s.a s.n s.c] K := by
  unfold Blt
  show hrun P (Builtin.unsafeSliceData_ ts ty #[.slice s.a s.n s.c] >>= fun v => pure (Next.value v)) H _ _
  refine hrun_bind _ (hrun.mono _ (K := K) (Z := fun _ _ => False) ?_ (fun v H' h => by simpa only [pure, hrun] using h) fun _ _ h => h)
  rcases hr.2 with ⟨h1, h2, h3⟩ | ⟨g, c, fr, ha, hg, h1, h2, h3, h4⟩
  · rw [h1, h2, h3]
    have hdef : Builtin.unsafeSliceData_ ts ty #[.slice none 0 0] = pure (.pointer none) := rfl
    rw [hdef]
    simp only [pure, hrun]
    exact k none H (Fr.refl _ _) (.inl h2)
  · rw [ha]
    have hdef : Builtin.unsafeSliceData_ ts ty #[.slice (some ⟨g, 0, none⟩) s.n s.c] =
      (do
        if s.c ≠ 0 then pure (.pointer (some ⟨g, 0, none⟩))
        else if (← viewAt g).isSome then pure (.pointer (some ⟨g, 0, none⟩))
        else pure (.pointer (some ⟨← newObj (.view ⟨g, 0, none⟩ (← elemOf ty)), 0, none⟩))) := rfl
    rw [hdef]
    by_cases hc : s.c = 0
    · rw [if_neg (by simpa using hc)]
      refine hrun_bind _ ?_
      have hsh : hshape H g = some (E, c.length) := by
        unfold hshape
        rw [hg]
        simp
      simp only [viewAt, shape, bind, Sem.bind, pure, hrun, hsh, Option.isSome_some, if_true, Option.isSome_none, Bool.false_eq_true, if_false]
      refine hrun_bind _ (hrun_pureV (a := e) _ ?_ ?_)
      · simp [elemOf, underlying, program, bind, Sem.bind, pure, pureV, hp]
      · simp only [newObj, Sem.bind, hrun]
        intro b H' hn
        exact k _ H' hn.fr (.inl (by omega))
    · rw [if_pos (by simpa using hc)]
      simp only [pure, hrun]
      exact k _ H (Fr.refl _ _) (.inr ⟨ha.symm, rfl⟩)

theorem str_ok {P : Program} {pt it ty e : TypeId} {cs : Array Bool} {H : Hp} {s : Sl} {xs : List UInt8} {p : Option Addr} (hp : P.underlying pt = some (.pointer e)) (hc : P.cellsOf e = 1) (hr : Row H e 1 s (bv xs)) (hl : xs.length < 2 ^ 63)
    (h : s.n = 0 ∨ p = s.a) {K : Value → Hp → Prop} (k : ∀ H', Fr (own s) H H' → Row H' e 1 s (bv xs) → K (.string ⟨xs.toArray⟩) H') : Blt P .unsafeString #[pt, it] ty cs H [.pointer p, .int .i64 (s.n : Int)] K := by
  have hlen := hr.1
  rw [bv_length, Nat.mul_one] at hlen
  have hmax : IntKind.i64.max = 9223372036854775807 := rfl
  unfold Blt
  show hrun P (Builtin.unsafeString_ #[pt, it] ty #[.pointer p, .int .i64 (s.n : Int)] >>= fun v => pure (Next.value v)) H _ _
  refine hrun_bind _ (hrun.mono _ (K := K) (Z := fun _ _ => False) ?_ (fun v H' h => by simpa only [pure, hrun] using h) fun _ _ h => h)
  have hdef : Builtin.unsafeString_ #[pt, it] ty #[.pointer p, .int .i64 (s.n : Int)] =
      (do
        let n ← asInt (.int .i64 (s.n : Int))
        if n < 0 then runtimePanic (.error "unsafe.String: len out of range")
        if n > IntKind.i64.max then unsupported (.unsafePointer "String: a length above the largest int")
        match p with
        | none => if n = 0 then pure (.string .empty)
                  else runtimePanic (.error "unsafe.String: ptr is nil and len is not zero")
        | some a =>
          if n = 0 then pure (.string .empty)
          else if ← variablesAt a (← elemOf pt) n.toNat then do
            let s ← loadBytes a .empty n.toNat
            freeze a n.toNat
            pure (.string s)
          else unsupported (.unsafePointer "String: not so many bytes at ptr")) := rfl
  rw [hdef]
  simp only [asInt, asIntOf, bind, pure, Sem.bind]
  have n1 : ¬ ((s.n : Int) < 0) := by omega
  have n2 : ¬ ((s.n : Int) > IntKind.i64.max) := by rw [hmax]; omega
  rw [if_neg n1, if_neg n2]
  by_cases h0 : s.n = 0
  · have hx : xs = [] := List.eq_nil_of_length_eq_zero (by omega)
    subst hx
    have : K (.string ByteArray.empty) H := k H (Fr.refl _ _) hr
    cases p <;> simpa [h0, hrun] using this
  · have hpa : p = s.a := by
      rcases h with h | h
      · exact absurd h h0
      · exact h
    subst hpa
    rcases hr.2 with ⟨_, h2, _⟩ | ⟨g, c, fr, ha, hg, h1, h2, h3, h4⟩
    · exact absurd h2 h0
    · rw [ha]
      simp only
      rw [if_neg (by omega)]
      refine hrun_bind _ (hrun_pureV (a := e) _ ?_ ?_)
      · simp [elemOf, underlying, program, bind, Sem.bind, pure, pureV, hp]
      have hsh : hshape H g = some (e, c.length) := by
        unfold hshape
        rw [hg]
        simp
      have hli : liesAt P P.depth e (c.length / P.cellsOf e) 0 e (s.n : Int).toNat = true := by
        refine Go.Lib.liesAt_bytes hc _ _ ?_
        rw [hc, h2]
        simpa using h1
      simp only [variablesAt, program, shape, bind, Sem.bind, pure, hrun, hsh, hli, if_true]
      have hn : (s.n : Int).toNat = xs.length := by omega
      rw [hn]
      refine hrun_bind _ (loadBytes_ok xs ⟨g, 0, none⟩ .empty ?_ ?_)
      · intro j x hj
        have hjl : j < xs.length := (List.getElem?_eq_some_iff.1 hj).1
        rw [add_mk]
        unfold hcell
        simp only [hg, Option.isSome_none, Bool.false_eq_true, if_false]
        have : (bv xs)[j]? = some (.int .u8 (x.toNat : Int)) := by simp [bv, hj]
        rw [← h3, List.getElem?_take, if_pos (by omega)] at this
        simpa using this
      · simp only [freeze, hrun, Sem.bind]
        have hfz : (hfreeze H ⟨g, 0, none⟩ xs.length)[g]? = some (.cells c.toArray e (if fr.1 == fr.2 then (0, xs.length) else (min fr.1 0, max fr.2 (xs.length)))) := by
          unfold hfreeze
          rw [if_neg (by omega), Array.getElem?_modify]
          simp [hg]
        have hfr : Fr (own s) H (hfreeze H ⟨g, 0, none⟩ xs.length) := by
          unfold hfreeze
          rw [if_neg (by omega)]
          refine ⟨by simp, fun i hi hn => ?_⟩
          rw [Array.getElem?_modify, if_neg]
          intro e
          exact hn ⟨0, by rw [ha]; simpa using e⟩
        have e : (ByteArray.empty.data ++ xs.toArray) = xs.toArray := by
          rw [show ByteArray.empty.data = #[] from rfl]
          simp
        rw [e]
        refine k _ hfr ⟨hr.1, .inr ⟨g, c, _, ha, hfz, h1, h2, h3, ?_⟩⟩
        split
        · simp only; omega
        · simp only; omega

theorem string {H : Hp} {b o : Nat} {T : TypeId} {cs : List Value} {xs : List UInt8} {K : Value → Hp → Prop} {Z : List PanicEntry → Hp → Prop} (h : BldS H b o T cs xs) (hl : xs.length < 2 ^ 63)
    (k : ∀ H', BldTo H H' b o T cs cs xs → K (.string ⟨xs.toArray⟩) H') : CallF Try.prog 67 #[.pointer (some ⟨b, o, none⟩)] H K Z := by
  refine V67_ok ?_
  unfold V67
  obtain ⟨s, hs, hr, hn⟩ := h.buf
  have hs' : ∀ H' : Hp, Fr no H H' → hcell H' (Addr.add ⟨b, o, none⟩ 1) = some (.slice s.a s.n s.c) := by
    intro H' hf
    rw [add_mk, (hf.blk h.blk fun h => h).ld]
    exact hs
  have pu : Try.prog.underlying 168 = some (.pointer 5) := by kernel_rfl
  have pc : Try.prog.cellsOf 5 = 1 := by kernel_rfl
  have fin : ∀ p H1, Fr no H H1 → (s.n = 0 ∨ (p = s.a ∧ H1 = H)) → Blt Try.prog .unsafeString #[168, 3] 9 #[false, false] H1 [.pointer p, .int .i64 (s.n : Int)] fun r1 H2 => ∃ y1 : ByteArray, r1 = .string y1 ∧ K (.string y1) H2 := by
    intro p H1 hf h1
    have hr1 := hr.keep hf fun _ _ h => h
    refine str_ok pu pc hr1 hl (h1.imp id fun h => h.1) ?_
    intro H2 hf2 hr2
    refine ⟨_, rfl, k H2 ⟨⟨?_, h.ptr, ⟨s, hs, hr2, hn⟩, h.lies⟩, rfl, fun _ _ _ => rfl, ?_, fun i hi => .inl hi⟩⟩
    · exact hf2.blk (hf.blk h.blk fun h => h) hn
    · have hf' : Fr (fun i => i = b ∨ bOwn cs o i) H H1 := hf.of_no
      exact hf'.step hf2 fun i _ hi => .inr ((own_iff hs i).2 hi)
  refine ⟨s, hs' H (Fr.refl _ _), sliceData_ok pu hr ?_, ⟨s, hs' H (Fr.refl _ _), sliceData_ok pu hr ?_⟩⟩
  · intro p H1 hf h1
    exact ⟨p, rfl, s, hs' H1 hf, fin p H1 hf h1⟩
  · intro p H1 hf h1
    exact ⟨p, rfl, fin p H1 hf h1⟩
end Go.Proofs.Ytigbdoicgdmliaa.Bld
end

section
/- Numbers and texts in bytes: what is computed, in plain words. -/
set_option linter.unusedVariables false
set_option linter.unusedSimpArgs false
namespace Go.Proofs.Ytigbdoicgdmliaa.P02
open Go Go.V Go.Proofs

theorem w64_id {x : Int} (h1 : -9223372036854775808 ≤ x) (h2 : x ≤ 9223372036854775807) : w64 x = x := by
  simp only [w64, IntKind.wrap, IntKind.bits, IntKind.signed, Int.reducePow, Nat.reduceSub, Bool.true_and, decide_eq_true_eq, ge_iff_le]
  by_cases h : 9223372036854775808 ≤ x % 18446744073709551616
  · rw [if_pos h]; omega
  · rw [if_neg h]; omega
theorem u8_id {x : Int} (h1 : 0 ≤ x) (h2 : x ≤ 255) : IntKind.wrap .u8 x = x := by
  simp only [IntKind.wrap, IntKind.bits, IntKind.signed, Int.reducePow, Nat.reduceSub, Bool.false_and, Bool.false_eq_true, if_false]
  omega
/-- the bytes of a count -/
def numB (n : Nat) : List UInt8 := if h : n < 128 then [n.toUInt8] else (n % 128 + 128).toUInt8 :: numB (n / 128)
termination_by n
decreasing_by omega
theorem numB_lt {n : Nat} (h : n < 128) : numB n = [n.toUInt8] := by rw [numB, dif_pos h]
theorem numB_ge {n : Nat} (h : ¬ n < 128) : numB n = (n % 128 + 128).toUInt8 :: numB (n / 128) := by rw [numB, dif_neg h]
theorem and127 {x : Int} (h1 : 0 ≤ x) (h2 : x ≤ 9223372036854775807) : bitAnd .i64 x 127 = x % 128 := by
  obtain ⟨n, rfl⟩ := Int.eq_ofNat_of_zero_le h1
  have e : (BitVec.ofInt IntKind.i64.bits (n : Int) &&& BitVec.ofInt IntKind.i64.bits 127).toNat = n % 128 := by
    show (BitVec.ofInt 64 (n : Int) &&& BitVec.ofInt 64 127).toNat = n % 128
    have e1 : (BitVec.ofInt 64 (n : Int)).toNat = n := by simp [BitVec.toNat_ofInt]; omega
    have e2 : (BitVec.ofInt 64 127).toNat = 2 ^ 7 - 1 := by decide
    rw [BitVec.toNat_and, e1, e2, Nat.and_two_pow_sub_one_eq_mod]
  unfold bitAnd
  rw [e]
  have := w64_id (x := ((n % 128 : Nat) : Int)) (by omega) (by omega)
  rw [show IntKind.wrap .i64 ((n % 128 : Nat) : Int) = ((n % 128 : Nat) : Int) from this]
  omega
theorem or128 {x : Int} (h1 : 0 ≤ x) (h2 : x < 128) : bitOr .i64 x 128 = x + 128 := by
  have h : ∀ i : Fin 128, bitOr .i64 (i.val : Int) 128 = (i.val : Int) + 128 := by decide
  have := h ⟨x.toNat, by omega⟩
  simpa [Int.toNat_of_nonneg h1] using this
/-- what is written, and the first error -/
abbrev St := List UInt8 × Int
def putN (s : St) (n : Int) : St := if s.2 ≠ 0 then s else if n < 0 ∨ 268435456 < n then (s.1, 2) else (s.1 ++ numB n.toNat, 0)
def putT (s : St) (t : ByteArray) : St := if s.2 ≠ 0 then s else if 200000 < t.size then (s.1, 9) else (s.1 ++ numB t.size ++ t.data.toList, 0)
theorem numB_len : ∀ (k n : Nat), n < 128 ^ (k + 1) → (numB n).length ≤ k + 1
  | 0, n, h => by rw [numB_lt (by omega)]; simp
  | k + 1, n, h => by
    by_cases h1 : n < 128
    · rw [numB_lt h1]; simp
    · rw [numB_ge h1]
      have : n / 128 < 128 ^ (k + 1) := by
        rw [Nat.div_lt_iff_lt_mul (by omega)]
        rw [Nat.pow_succ] at h
        exact h
      have := numB_len k _ this
      simp only [List.length_cons]
      omega
theorem numB_len5 {n : Nat} (h : n ≤ 268435456) : (numB n).length ≤ 5 := by
  refine numB_len 4 n ?_
  have : 128 ^ (4 + 1) = 34359738368 := by decide
  omega
/-- what Done gives -/
def doneV (st : St) : Value := if st.2 = 0 then .tuple #[.string ⟨st.1.toArray⟩, .int .i64 0] else .tuple #[.string ⟨#[]⟩, .int .i64 st.2]

/-! ### the reader -/
/-- a count at the head of a row of bytes: it, how many bytes it has, and what is wrong -/
def lookL : Nat → Nat → List UInt8 → Nat × Nat × Int
  | _, _, [] => (0, 0, 1)
  | k, n, c :: l => if k = 4 ∧ 1 < c.toNat then (0, 0, 2) else
    if 128 ≤ c.toNat then lookL (k + 1) (n + c.toNat % 128 * 128 ^ k) l
    else if c.toNat = 0 ∧ 0 < k then (0, 0, 3) else if 268435456 < n + c.toNat % 128 * 128 ^ k then (0, 0, 2) else (n + c.toNat % 128 * 128 ^ k, k + 1, 0)
theorem lookL_ok : ∀ (l : List UInt8) (k n : Nat), k ≤ 4 → ((lookL k n l).2.2 = 0 → (lookL k n l).1 ≤ 268435456 ∧ k < (lookL k n l).2.1 ∧ (lookL k n l).2.1 ≤ k + l.length ∧ (lookL k n l).2.1 ≤ 5) ∧ ((lookL k n l).2.2 ≠ 0 → (lookL k n l).1 = 0 ∧ (lookL k n l).2.1 = 0)
  | [], k, n, hk => by simp [lookL]
  | c :: l, k, n, hk => by
    unfold lookL
    split
    · simp
    · rename_i h1
      split
      · rename_i h2
        have ih := lookL_ok l (k + 1) (n + c.toNat % 128 * 128 ^ k) (by omega)
        refine ⟨fun h => ?_, ih.2⟩
        have := ih.1 h
        simp only [List.length_cons]
        omega
      · split
        · simp
        · split
          · simp
          · simp only [List.length_cons, ne_eq, not_true_eq_false, false_implies, and_true, true_implies]
            omega
/-- the reader: the text, its place, what is wrong -/
abbrev Rd := ByteArray × Nat × Int
def restL (r : Rd) : List UInt8 := r.1.data.toList.drop r.2.1
def takeM (ρ : Nat → Nat) (r : Rd) : (Nat × ByteArray) × Rd :=
  if r.2.2 ≠ 0 then ((0, ⟨#[]⟩), r) else
  let e := if (lookL 0 0 (restL r)).2.2 = 0 ∧ r.1.size - r.2.1 - (lookL 0 0 (restL r)).2.1 < ρ (lookL 0 0 (restL r)).1 then 1 else (lookL 0 0 (restL r)).2.2
  if e ≠ 0 then ((0, ⟨#[]⟩), (r.1, r.2.1, e)) else
    (((lookL 0 0 (restL r)).1, r.1.extract (r.2.1 + (lookL 0 0 (restL r)).2.1) (r.2.1 + (lookL 0 0 (restL r)).2.1 + ρ (lookL 0 0 (restL r)).1)), (r.1, r.2.1 + (lookL 0 0 (restL r)).2.1 + ρ (lookL 0 0 (restL r)).1, 0))
def numM (r : Rd) : Nat × Rd := ((takeM (fun _ => 0) r).1.1, (takeM (fun _ => 0) r).2)
def textM (r : Rd) : ByteArray × Rd := ((takeM id r).1.2, (takeM id r).2)
def failM (r : Rd) (e : Int) : Rd := if r.2.2 = 0 then (r.1, r.2.1, e) else r
def rdoneM (r : Rd) : Nat × Int := if r.2.2 = 0 ∧ r.2.1 < r.1.size then (r.2.1, 6) else (r.2.1, r.2.2)
theorem restL_len (r : Rd) (h : r.2.1 ≤ r.1.size) : (restL r).length + r.2.1 = r.1.size := by
  unfold restL
  have : r.1.data.toList.length = r.1.size := by simp
  rw [List.length_drop, this]
  omega
theorem takeM_le {ρ : Nat → Nat} {r : Rd} (h : r.2.1 ≤ r.1.size) : (takeM ρ r).2.1 = r.1 ∧ (takeM ρ r).2.2.1 ≤ r.1.size := by
  have hl := lookL_ok (restL r) 0 0 (by omega)
  have hr := restL_len r h
  unfold takeM
  split
  · exact ⟨rfl, h⟩
  · rename_i h0
    by_cases h1 : (lookL 0 0 (restL r)).2.2 = 0
    · have h2 := hl.1 h1
      by_cases h3 : r.1.size - r.2.1 - (lookL 0 0 (restL r)).2.1 < ρ (lookL 0 0 (restL r)).1
      · simp [h1, h3, h]
      · simp only [h1, h3, and_false, if_false, ne_eq, not_true_eq_false]
        refine ⟨trivial, ?_⟩
        show r.2.1 + (lookL 0 0 (restL r)).2.1 + ρ (lookL 0 0 (restL r)).1 ≤ r.1.size
        omega
    · simp [h1, h]
theorem drop_cons {s : ByteArray} {i : Nat} (h : i < s.size) : s.data.toList.drop i = (s.data.toList.getD i 0) :: s.data.toList.drop (i + 1) := by
  have h' : i < s.data.toList.length := by simpa using h
  rw [List.drop_eq_getElem_cons h']
  congr 1
  rw [List.getD_eq_getElem?_getD, List.getElem?_eq_getElem h']
  rfl
/-- n holds less than 128^k: or-ing 7 bits at place 7k on is adding -/
theorem orShift {n c : Nat} {k : Nat} (hk : k ≤ 4) (hn : n < 128 ^ k) (hc : c < 128) : bitOr .i64 (n : Int) (w64 ((w64 (c : Int)) * 2 ^ (min (Int.toNat (w64 (7 * (k : Int)))) (IntKind.bits .i64)))) = ((n + c * 128 ^ k : Nat) : Int) := by
  have e1 : w64 (c : Int) = c := w64_id (by omega) (by omega)
  have e2 : w64 (7 * (k : Int)) = 7 * k := w64_id (by omega) (by omega)
  have e3 : min (7 * (k : Int)).toNat (IntKind.bits .i64) = 7 * k := by
    simp only [IntKind.bits]
    omega
  have hp : (128 : Nat) ^ k = 2 ^ (7 * k) := by rw [Nat.pow_mul]
  have hb : 128 ^ k ≤ 268435456 := by
    have : (128 : Nat) ^ k ≤ 128 ^ 4 := Nat.pow_le_pow_right (by omega) hk
    have : (128 : Nat) ^ 4 = 268435456 := by decide
    omega
  have hm : c * 128 ^ k ≤ 127 * 268435456 := Nat.mul_le_mul (by omega) hb
  rw [e1, e2, e3]
  have e4 : (c : Int) * 2 ^ (7 * k) = ((c * 128 ^ k : Nat) : Int) := by rw [hp]; simp
  rw [e4, w64_id (x := ((c * 128 ^ k : Nat) : Int)) (by omega) (by omega)]
  have key : (BitVec.ofInt IntKind.i64.bits (n : Int) ||| BitVec.ofInt IntKind.i64.bits ((c * 128 ^ k : Nat) : Int)).toNat = n + c * 128 ^ k := by
    show (BitVec.ofInt 64 (n : Int) ||| BitVec.ofInt 64 ((c * 128 ^ k : Nat) : Int)).toNat = _
    have f1 : (BitVec.ofInt 64 (n : Int)).toNat = n := by
      rw [BitVec.toNat_ofInt]
      omega
    have f2 : (BitVec.ofInt 64 ((c * 128 ^ k : Nat) : Int)).toNat = c * 128 ^ k := by
      rw [BitVec.toNat_ofInt]
      omega
    rw [BitVec.toNat_or, f1, f2, hp]
    rw [hp] at hn
    have := Nat.two_pow_add_eq_or_of_lt hn c
    rw [Nat.or_comm, Nat.mul_comm, ← this, Nat.add_comm]
  unfold bitOr
  rw [key]
  exact w64_id (by omega) (by omega)
theorem and127u {c : UInt8} : bitAnd .u8 (c.toNat : Int) 127 = ((c.toNat % 128 : Nat) : Int) := by
  have h : ∀ i : Fin 256, bitAnd .u8 (i.val : Int) 127 = ((i.val % 128 : Nat) : Int) := by decide +kernel
  exact h ⟨c.toNat, c.toNat_lt⟩
theorem and128u {c : UInt8} : (bitAnd .u8 (c.toNat : Int) 128 != 0) = decide (128 ≤ c.toNat) := by
  have h : ∀ i : Fin 256, (bitAnd .u8 (i.val : Int) 128 != 0) = decide (128 ≤ i.val) := by decide +kernel
  exact h ⟨c.toNat, c.toNat_lt⟩
end Go.Proofs.Ytigbdoicgdmliaa.P02
end

section
/- varint.Writer, wherever it lies in a block: what its methods do. -/
set_option linter.unusedVariables false
set_option linter.unusedSimpArgs false
-- tPW: 64
-- tInt: 3
-- bWriteByte: 105
-- bWriteString: 106
-- bString: 67
-- groups: 104
-- groupsL: 141
-- wNumber: 64
-- wText: 66
-- wDone: 33
namespace Go.Proofs.Ytigbdoicgdmliaa.C02
open Go Go.V Go.Proofs Go.Proofs.Ytigbdoicgdmliaa.N02 Go.Proofs.Ytigbdoicgdmliaa.Bld Go.Proofs.Ytigbdoicgdmliaa.P02
attribute [local irreducible] Cvt ExtF CallF hrun

theorem okGroupsL : fnOk Try.prog 141 = true := by kernel_rfl
theorem groupsL_ok {H : Hp} {yield : Value} {bN : Nat} {x : Int} {K : Value → Hp → Prop} {Z : List PanicEntry → Hp → Prop} (Inv : List UInt8 → Hp → Prop) (hb : Blk H bN [.int .i64 x] 3) (hx : 0 ≤ x) (hx2 : x ≤ 4611686018427387904)
    (h0 : Inv [] H) (keep : ∀ done A B, Inv done A → Fr (fun j => j = bN) A B → Inv done B)
    (step : ∀ done (c : UInt8) A v, (∃ tl, done ++ c :: tl = numB x.toNat) → Inv done A → Blk A bN [v] 3 → callV Try.prog yield [.int .u8 (c.toNat : Int)] A (fun r B => r = .bool true ∧ Inv (done ++ [c]) B ∧ Blk B bN [v] 3) Z)
    (fin : ∀ A, Inv (numB x.toNat) A → K (.tuple #[]) A) : CallF Try.prog 141 #[yield, .pointer (some ⟨bN, 0, none⟩)] H K Z := by
  refine V141_ok ?_
  unfold V141
  refine ⟨fun A m => ∃ (y : Int) (done : List UInt8), 0 ≤ y ∧ y ≤ x ∧ m = y.toNat ∧ Blk A bN [.int .i64 y] 3 ∧ Inv done A ∧ done ++ numB y.toNat = numB x.toNat, ⟨x.toNat, x, [], hx, Int.le_refl _, rfl, hb, h0, rfl⟩, ?_⟩
  rintro A m ⟨y, done, hy0, hyx, rfl, hbA, hI, hd⟩ scr
  have hld : hcell A ⟨bN, 0, none⟩ = some (.int .i64 y) := hbA.ld 0
  refine ⟨y, hld, ?_, ?_⟩
  · intro hgt
    have hgt' : 127 < y := by simpa using hgt
    refine ⟨y, hld, ?_⟩
    have e : IntKind.wrap .u8 (bitOr .i64 (bitAnd .i64 y 127) 128) = ((y.toNat % 128 + 128).toUInt8.toNat : Int) := by
      rw [and127 hy0 (by omega), or128 (by omega) (by omega), u8_id (by omega) (by omega)]
      have : (y.toNat % 128 + 128).toUInt8.toNat = y.toNat % 128 + 128 := by
        rw [Nat.toUInt8, UInt8.toNat_ofNat']
        omega
      omega
    rw [e]
    refine callV_mono (step done _ A _ ⟨_, by rw [← hd, numB_ge (n := y.toNat) (by omega)]⟩ hI hbA) ?_ fun _ _ h => h
    rintro r B ⟨rfl, hI2, hbB⟩
    refine ⟨true, rfl, ?_, fun h => by cases h⟩
    intro _
    refine ⟨y, hbB.ld 0, ?_⟩
    refine st_blk hbB (by simp) rfl ?_
    intro C hbC hfC _
    have e2 : Int.fdiv y (2 ^ 7) = y / 128 := by
      rw [Int.fdiv_eq_ediv_of_nonneg _ (by decide)]
      rfl
    refine ⟨(y / 128).toNat, by omega, y / 128, done ++ [_], by omega, by omega, rfl, ?_, keep _ _ _ hI2 hfC, ?_⟩
    · rw [← e2]; exact hbC
    · rw [← hd, numB_ge (n := y.toNat) (by omega)]
      have : (y / 128).toNat = y.toNat / 128 := by omega
      rw [this]
      simp
  · intro hgt
    have hgt' : y ≤ 127 := by simpa using hgt
    refine ⟨y, hld, ?_, fun h => by simp at h; omega⟩
    intro _
    refine ⟨y, hld, ?_⟩
    have e : IntKind.wrap .u8 y = (y.toNat.toUInt8.toNat : Int) := by
      rw [u8_id (by omega) (by omega)]
      have : y.toNat.toUInt8.toNat = y.toNat := by
        rw [Nat.toUInt8, UInt8.toNat_ofNat']
        omega
      omega
    rw [e]
    refine callV_mono (step done _ A _ ⟨_, by rw [← hd, numB_lt (n := y.toNat) (by omega)]⟩ hI hbA) ?_ fun _ _ h => h
    rintro r B ⟨rfl, hI2, hbB⟩
    refine ⟨true, rfl, fin B ?_⟩
    rw [← hd, numB_lt (n := y.toNat) (by omega)]
    exact hI2
/-! ### the writer -/
structure WrS (H : Hp) (b o : Nat) (T : TypeId) (cs : List Value) (st : St) : Prop where
  bld : BldS H b o T cs st.1
  err : cs[o + 2]? = some (.int .i64 st.2)
structure WrTo (H H' : Hp) (b o : Nat) (T : TypeId) (cs cs' : List Value) (st : St) : Prop where
  st : WrS H' b o T cs' st
  len : cs'.length = cs.length
  rest : ∀ i, i ≠ o → i ≠ o + 1 → i ≠ o + 2 → cs'[i]? = cs[i]?
  fr : Fr (fun i => i = b ∨ bOwn cs o i) H H'
  own : ∀ i, bOwn cs' o i → bOwn cs o i ∨ H.size ≤ i
theorem WrTo.refl {H : Hp} {b o : Nat} {T : TypeId} {cs : List Value} {st : St} (h : WrS H b o T cs st) : WrTo H H b o T cs cs st :=
  ⟨h, rfl, fun _ _ _ _ => rfl, Fr.refl _ _, fun _ h => .inl h⟩
theorem WrTo.trans {A B C : Hp} {b o : Nat} {T : TypeId} {c1 c2 c3 : List Value} {xs ys : St} (h : WrTo A B b o T c1 c2 xs) (k : WrTo B C b o T c2 c3 ys) : WrTo A C b o T c1 c3 ys := by
  refine ⟨k.st, k.len.trans h.len, fun i h1 h2 h3 => (k.rest i h1 h2 h3).trans (h.rest i h1 h2 h3), ?_, ?_⟩
  · refine h.fr.step k.fr ?_
    intro i hi ht
    rcases ht with rfl | ht
    · exact .inl rfl
    · rcases h.own i ht with h' | h'
      · exact .inr h'
      · omega
  · intro i hi
    rcases k.own i hi with h' | h'
    · exact h.own i h'
    · exact .inr (Nat.le_trans h.fr.size h')
theorem WrTo.of_bld {A B : Hp} {b o : Nat} {T : TypeId} {c1 c2 : List Value} {st : St} {ys : List UInt8} (hs : WrS A b o T c1 st) (h : BldTo A B b o T c1 c2 ys) : WrTo A B b o T c1 c2 (ys, st.2) :=
  ⟨⟨h.st, by rw [h.rest (o + 2) (by omega) (by omega)]; exact hs.err⟩, h.len, fun i h1 h2 _ => h.rest i h1 h2, h.fr, h.own⟩
theorem WrS.lt {H : Hp} {b o : Nat} {T : TypeId} {cs : List Value} {st : St} (h : WrS H b o T cs st) : o + 2 < cs.length := (List.getElem?_eq_some_iff.1 h.err).1
theorem WrS.ldErr {H : Hp} {b o : Nat} {T : TypeId} {cs : List Value} {st : St} (h : WrS H b o T cs st) : hcell H (Addr.add ⟨b, o, none⟩ 2) = some (.int .i64 st.2) := by
  rw [add_mk, h.bld.blk.ld]
  exact h.err
/-- the error is written -/
theorem setErr {H : Hp} {b o : Nat} {T : TypeId} {cs : List Value} {st : St} {e : Int} {K : Hp → Prop} (h : WrS H b o T cs st) (k : ∀ H', WrTo H H' b o T cs (cs.set (o + 2) (.int .i64 e)) (st.1, e) → H'.size = H.size → K H') :
    StL (Addr.add ⟨b, o, none⟩ 2) 0 [.int .i64 e] H K := by
  rw [add_mk]
  refine st_blk h.bld.blk h.lt rfl ?_
  intro H' hb' hf hs
  obtain ⟨hb, ⟨p, hp1, hp2⟩, ⟨s, hs1, hr, hn⟩, hl⟩ := h.bld
  have hs1' : (cs.set (o + 2) (.int .i64 e))[o + 1]? = some (.slice s.a s.n s.c) := by rw [List.getElem?_set_ne (by omega)]; exact hs1
  refine k H' ⟨⟨⟨hb', ⟨p, by rw [List.getElem?_set_ne (by omega)]; exact hp1, hp2⟩, ⟨s, hs1', hr.keep hf (fun i hi e => hn (e ▸ hi)), hn⟩, by simpa using hl⟩, List.getElem?_set_self h.lt⟩, by simp, ?_, hf.mono fun i _ hi => .inl hi, ?_⟩ hs
  · intro i _ _ hi
    exact List.getElem?_set_ne (Ne.symm hi)
  · intro i hi
    rw [own_iff hs1'] at hi
    rw [own_iff hs1]
    exact .inl hi

theorem number {H : Hp} {b o : Nat} {T : TypeId} {cs : List Value} {st : St} {n : Int} {K : Value → Hp → Prop} {Z : List PanicEntry → Hp → Prop} (h : WrS H b o T cs st) (hl : st.1.length + 5 ≤ 140737488355328)
    (k : ∀ H' cs', WrTo H H' b o T cs cs' (putN st n) → K (.tuple #[]) H') : CallF Try.prog 64 #[.pointer (some ⟨b, o, none⟩), .int .i64 n] H K Z := by
  refine V64_ok ?_
  unfold V64
  intro bW H1 hn1
  have hbW : Blk H1 bW [.pointer (some ⟨b, o, none⟩)] 64 := hn1.blk
  have hbl := h.bld.blk.lt
  have hbW1 := hn1.eq
  have st1 : WrS H1 b o T cs st := ⟨h.bld.keep (S := no) hn1.fr (fun h => h) (fun _ _ h => h), h.err⟩
  have hld : ∀ {A : Hp}, Blk A bW [.pointer (some ⟨b, o, none⟩)] 64 → hcell A ⟨bW, 0, none⟩ = some (.pointer (some ⟨b, o, none⟩)) := fun h => h.ld 0
  have hownW : ¬ bOwn cs o bW := by
    intro hc
    have := h.bld.own_lt hc
    omega
  have to1 : WrTo H H1 b o T cs cs st := ⟨st1, rfl, fun _ _ _ _ => rfl, hn1.fr.of_no, fun _ h => .inl h⟩
  -- the error, and whether it is put
  let st2 : St := if st.2 = 0 ∧ (n < 0 ∨ 268435456 < n) then (st.1, 2) else st
  refine ⟨fun A => Blk A bW [.pointer (some ⟨b, o, none⟩)] 64 ∧ ∃ c2, WrTo H1 A b o T cs c2 st2, ?_, ?_⟩
  · rintro A ⟨hA, c2, to2⟩ scr
    refine ⟨_, hld hA, st2.2, to2.st.ldErr, ?_, ?_⟩
    · intro he
      have he' : st2.2 ≠ 0 := by simpa using he
      refine k A c2 ?_
      have : putN st n = st2 := by
        unfold putN
        by_cases h1 : st.2 = 0
        · by_cases h2 : n < 0 ∨ 268435456 < n
          · simp [st2, h1, h2]
          · simp [st2, h1, h2] at he'
        · simp [st2, h1]
      rw [this]
      exact to1.trans to2
    · intro he
      have he' : st2.2 = 0 := by simpa using he
      have hst : st.2 = 0 ∧ ¬ (n < 0 ∨ 268435456 < n) := by
        by_cases h1 : st.2 = 0 ∧ (n < 0 ∨ 268435456 < n)
        · simp [st2, h1] at he'
        · simp only [st2, if_neg h1] at he'
          exact ⟨he', fun h2 => h1 ⟨he', h2⟩⟩
      have hst2 : st2 = st := by simp only [st2, hst.1, hst.2, and_false, if_false]
      rw [hst2] at to2
      have hput : putN st n = (st.1 ++ numB n.toNat, 0) := by simp [putN, hst]
      refine V104_ok ?_
      unfold V104
      intro bN B hnB
      refine ⟨_, rfl, ?_⟩
      intro D C hnC l E hnE
      unfold callG
      simp only [okGroupsL, if_true]
      have sHA := to2.fr.size
      have e1 := hnB.eq
      have e2 := hnC.eq
      have e3 := hnE.eq
      have z1 := hnB.size
      have z2 := hnC.size
      have z3 := hnE.size
      have zW := hn1.size
      have hbN : Blk E bN [.int .i64 n] 3 := (hnE.fr.blk (hnC.fr.blk hnB.blk fun h => h) fun h => h)
      have hWE : Blk E bW [.pointer (some ⟨b, o, none⟩)] 64 := hnE.fr.blk (hnC.fr.blk (hnB.fr.blk hA fun h => h) fun h => h) fun h => h
      have hDE : E[D]? = some (.deferred (some [])) := hnE.fr.at hnC.get fun h => h
      have hlE := hnE.get
      have hfE : Fr no A E := (hnB.fr.trans hnC.fr).trans hnE.fr
      have bA := to2.st.bld.blk.lt
      have bWA := hA.lt
      have c2W : ¬ bOwn c2 o bW := by
        intro hc
        rcases to2.own _ hc with h' | h'
        · exact hownW h'
        · omega
      have bbW : b ≠ bW := by omega
      have hm := Mid.start to2.st.bld hfE
      -- the loop's record
      obtain ⟨ps, asg, body, hlr⟩ := lrec_eq (f := Try.f64) (n := 5) (by kernel_rfl)
      rw [hlr] at hlE
      have free : ∀ {X : Hp} {c3 : List Value} {ys : List UInt8}, Mid A E.size X b o T c2 c3 ys → ∀ i, (i = bW ∨ A.size ≤ i) → i < E.size → i ≠ b ∧ ¬ bOwn c3 o i := by
        intro X c3 ys hM i h1 h2
        refine ⟨by omega, fun hc => ?_⟩
        rcases hM.own _ hc with h' | h'
        · rcases h1 with rfl | h1
          · exact c2W h'
          · have := hM.oa i h'; omega
        · omega
      refine groupsL_ok (fun done X => ∃ c3, Mid A E.size X b o T c2 c3 (st.1 ++ done) ∧ Blk X bW [.pointer (some ⟨b, o, none⟩)] 64 ∧ X[D]? = some (.deferred (some [])) ∧ X[l]? = some (.loop ⟨.ready, none, _, _, ps, asg, body, D⟩))
        hbN (by omega) (by omega) ⟨c2, by simpa using hm, hWE, hDE, hlE⟩ ?_ ?_ ?_
      · rintro done X Y ⟨c3, hM, h1, h2, h3⟩ hf
        exact ⟨c3, hM.other hf (by omega) (by omega), hf.blk h1 (by omega), hf.at h2 (by omega), hf.at h3 (by omega)⟩
      · rintro done c X v ⟨tl, htl⟩ ⟨c3, hM, h1, h2, h3⟩ hbNX
        unfold callV
        simp only [List.nil_append]
        refine yldC_sound h3 rfl rfl (by rw [hlr]) (by rw [hlr]) (by rw [hlr]) (R64_5_ok ?_)
        unfold R64_5
        refine ⟨_, h3, rfl, ?_⟩
        intro X1 hX1
        obtain ⟨f1, g1, s1⟩ := setB h3 hX1
        have hM1 := hM.other f1 (by omega) (by omega)
        refine ⟨_, hld (f1.blk h1 (by omega)), ?_⟩
        have h5 := numB_len5 (n := n.toNat) (by omega)
        rw [← htl] at h5
        simp only [List.length_append, List.length_cons] at h5
        refine writeByte hM1.st (by simp only [List.length_append]; omega) ?_
        intro X2 c4 hto
        have k1 : ∀ {i : Nat} {x : Obj}, X1[i]? = some x → (i = bW ∨ A.size ≤ i) → i < E.size → X2[i]? = some x := fun hx h1 h2 => hto.keep hx (free hM1 _ h1 h2).1 (free hM1 _ h1 h2).2
        have g2 := k1 g1 (by omega) (by omega)
        refine ⟨_, rfl, _, g2, ?_⟩
        intro X3 hX3
        obtain ⟨f3, g3, s3⟩ := setB g2 hX3
        refine ⟨rfl, ⟨c4, by rw [← List.append_assoc]; exact (hM1.step hto).other f3 (by omega) (by omega), f3.blk (k1 (f1.blk h1 (by omega)) (by omega) (by omega)) (by omega), f3.at (k1 (f1.at h2 (by omega)) (by omega) (by omega)) (by omega), g3⟩, ?_⟩
        exact f3.blk (k1 (f1.blk hbNX (by omega)) (by omega) (by omega)) (by omega)
      · rintro X ⟨c3, hM, h1, h2, h3⟩
        refine ⟨_, h3, rfl, ?_⟩
        intro X1 hX1
        obtain ⟨f1, g1, s1⟩ := setB h3 hX1
        refine ⟨f1.at h2 (by omega), ?_⟩
        intro X2 hX2
        obtain ⟨f2, g2, s2⟩ := setB (f1.at h2 (by omega)) hX2
        have hM2 := (hM.other f1 (by omega) (by omega)).other f2 (by omega) (by omega)
        refine k X2 c3 ?_
        rw [hput]
        have := (to1.trans to2).trans (WrTo.of_bld to2.st hM2.to)
        rw [hst.1] at this
        exact this
  · refine ⟨_, hld hbW, st.2, st1.ldErr, ?_, ?_⟩
    · intro h0
      have h0' : st.2 = 0 := by simpa using h0
      have bad : n < 0 ∨ 268435456 < n → StL (Addr.add ⟨b, o, none⟩ 2) 0 [.int .i64 2] H1 fun A => Blk A bW [.pointer (some ⟨b, o, none⟩)] 64 ∧ ∃ c2, WrTo H1 A b o T cs c2 st2 := by
        intro hb
        have e : st2 = (st.1, 2) := by simp only [st2, h0', hb, and_self, if_true]
        rw [e]
        refine setErr st1 ?_
        intro A to2 _
        exact ⟨to2.fr.blk hbW (by rintro (h | h); · omega
                                  · exact hownW h), _, to2⟩
      refine ⟨?_, ?_⟩
      · intro h1
        exact ⟨_, hld hbW, bad (.inl (by simpa using h1))⟩
      · intro h1
        refine ⟨?_, ?_⟩
        · intro h2
          exact ⟨_, hld hbW, bad (.inr (by simpa using h2))⟩
        · intro h2
          have e : st2 = st := by
            have h1' : ¬ n < 0 := by simpa using h1
            have h2' : ¬ 268435456 < n := by simpa using h2
            simp only [st2, h1', h2', or_self, and_false, if_false]
          rw [e]
          exact ⟨hbW, cs, WrTo.refl st1⟩
    · intro h0
      have h0' : ¬ st.2 = 0 := by simpa using h0
      have e : st2 = st := by simp only [st2, h0', false_and, if_false]
      rw [e]
      exact ⟨hbW, cs, WrTo.refl st1⟩
theorem text {H : Hp} {b o : Nat} {T : TypeId} {cs : List Value} {st : St} {t : ByteArray} {K : Value → Hp → Prop} {Z : List PanicEntry → Hp → Prop} (h : WrS H b o T cs st) (hl : st.1.length + 200005 ≤ 140737488355328)
    (k : ∀ H' cs', WrTo H H' b o T cs cs' (putT st t) → K (.tuple #[]) H') : CallF Try.prog 66 #[.pointer (some ⟨b, o, none⟩), .string t] H K Z := by
  refine V66_ok ?_
  unfold V66
  have good : st.2 = 0 → t.size ≤ 200000 → CallF Try.prog 64 #[.pointer (some ⟨b, o, none⟩), .int .i64 (t.size : Int)] H (fun r H2 =>
      r = .tuple #[] ∧ CallF Try.prog 106 #[.pointer (some ⟨b, o, none⟩), .string t] H2 (fun r1 H3 => ∃ y_0 : Int, ∃ y_1 : Value, r1 = .tuple #[.int .i64 y_0, y_1] ∧ K (.tuple #[]) H3) Z) Z := by
    intro h0 hs
    have hp : putN st (t.size : Int) = (st.1 ++ numB t.size, 0) := by
      have e : (t.size : Int).toNat = t.size := by omega
      have : ¬ ((t.size : Int) < 0 ∨ 268435456 < (t.size : Int)) := by omega
      simp only [putN, h0, this, e, ne_eq, not_true_eq_false, if_false]
    refine number h (by omega) ?_
    intro A c2 h2
    rw [hp] at h2
    have h5 := numB_len5 (n := t.size) (by omega)
    refine ⟨rfl, writeString h2.st.bld (by simp only [List.length_append]; omega) ?_⟩
    intro B c3 h3
    refine ⟨_, _, rfl, k B c3 ?_⟩
    have e : putT st t = (st.1 ++ numB t.size ++ t.data.toList, 0) := by
      have : ¬ 200000 < t.size := by omega
      simp only [putT, h0, this, ne_eq, not_true_eq_false, if_false]
    rw [e]
    exact h2.trans (WrTo.of_bld h2.st h3)
  refine ⟨_, h.ldErr, ?_, ?_⟩
  · intro h0
    have h0' : st.2 = 0 := by simpa using h0
    refine ⟨?_, ?_⟩
    · intro h1
      have h1' : 200000 < t.size := by
        have : (t.size : Int) > 200000 := by simpa using h1
        omega
      refine setErr h ?_
      intro A hA _
      refine ⟨_, hA.st.ldErr, fun h => (by cases h), fun _ => k A (cs.set (o + 2) (.int .i64 9)) ?_⟩
      have e : putT st t = (st.1, 9) := by simp only [putT, h0', h1', ne_eq, not_true_eq_false, if_false, if_true]
      rw [e]
      exact hA
    · intro h1
      have h1' : t.size ≤ 200000 := by
        have : (t.size : Int) ≤ 200000 := by simpa using h1
        omega
      exact ⟨_, h.ldErr, fun _ => good h0' h1', fun h => absurd h0' (by simpa using h)⟩
  · intro h0
    have h0' : ¬ st.2 = 0 := by simpa using h0
    refine ⟨_, h.ldErr, fun h => absurd (by simpa using h) h0', fun _ => k H cs ?_⟩
    have e : putT st t = st := by simp only [putT, ne_eq, h0', not_false_eq_true, if_true]
    rw [e]
    exact WrTo.refl h
theorem done {H : Hp} {b o : Nat} {T : TypeId} {cs : List Value} {st : St} {K : Value → Hp → Prop} {Z : List PanicEntry → Hp → Prop} (h : WrS H b o T cs st) (hl : st.1.length < 2 ^ 63)
    (k : ∀ H', WrTo H H' b o T cs cs st → K (doneV st) H') : CallF Try.prog 33 #[.pointer (some ⟨b, o, none⟩)] H K Z := by
  refine V33_ok ?_
  unfold V33
  refine ⟨_, h.ldErr, ?_, ?_⟩
  · intro h0
    have h0' : ¬ st.2 = 0 := by simpa using h0
    refine ⟨_, h.ldErr, ?_⟩
    have := k H (WrTo.refl h)
    rw [doneV, if_neg h0'] at this
    exact this
  · intro h0
    have h0' : st.2 = 0 := by simpa using h0
    refine string h.bld hl ?_
    intro A hA
    refine ⟨_, rfl, ?_⟩
    have := k A (WrTo.of_bld h hA)
    rw [doneV, if_pos h0'] at this
    exact this
end Go.Proofs.Ytigbdoicgdmliaa.C02
end

section
/- varint.Reader and weftref02.Reader, wherever they lie in a block: what their methods do. -/
set_option linter.unusedVariables false
set_option linter.unusedSimpArgs false
-- tBs: 66
-- tU8: 5
-- tStr: 9
-- tRdr: 117
-- new: 38
-- vText: 74
-- vNumber: 71
-- vDone: 40
-- vTake: 107
-- vLook: 143
-- vText1: 109
-- vNumber1: 108
-- vFail: 72
namespace Go.Proofs.Ytigbdoicgdmliaa.C02R
open Go Go.V Go.Proofs Go.Proofs.Ytigbdoicgdmliaa.N02 Go.Proofs.Ytigbdoicgdmliaa.P02
attribute [local irreducible] Cvt ExtF CallF hrun
theorem pvu1 : Try.prog.underlying 66 = some (.slice 5) := by kernel_rfl
theorem pvu2 : Try.prog.underlying 9 = some .string := by kernel_rfl
theorem pvu3 : Try.prog.underlying 5 = some (.int .u8) := by kernel_rfl

/-- a reader (text, place, error) at place o of block b -/
structure RdS (H : Hp) (b o : Nat) (T : TypeId) (cs : List Value) (r : Rd) : Prop where
  blk : Blk H b cs T
  str : cs[o]? = some (.string r.1)
  at_ : cs[o + 1]? = some (.int .i64 (r.2.1 : Int))
  err : cs[o + 2]? = some (.int .i64 r.2.2)
  le : r.2.1 ≤ r.1.size
  big : r.1.size ≤ 4611686018427387904
structure RdTo (H H' : Hp) (b o : Nat) (T : TypeId) (cs cs' : List Value) (r : Rd) : Prop where
  st : RdS H' b o T cs' r
  len : cs'.length = cs.length
  rest : ∀ i, i ≠ o → i ≠ o + 1 → i ≠ o + 2 → cs'[i]? = cs[i]?
  fr : Fr (fun i => i = b) H H'
section
variable {H : Hp} {b o : Nat} {T : TypeId} {cs : List Value} {r : Rd}
theorem RdTo.refl (h : RdS H b o T cs r) : RdTo H H b o T cs cs r := ⟨h, rfl, fun _ _ _ _ => rfl, Fr.refl _ _⟩
theorem RdTo.trans {H1 H2 : Hp} {c1 c2 : List Value} {r1 r2 : Rd} (h : RdTo H H1 b o T cs c1 r1) (k : RdTo H1 H2 b o T c1 c2 r2) : RdTo H H2 b o T cs c2 r2 :=
  ⟨k.st, k.len.trans h.len, fun i a b c => (k.rest i a b c).trans (h.rest i a b c), h.fr.trans k.fr⟩
theorem RdS.keep {S : Nat → Prop} {H' : Hp} (h : RdS H b o T cs r) (hf : Fr S H H') (hs : ¬ S b) : RdS H' b o T cs r := ⟨hf.blk h.blk hs, h.str, h.at_, h.err, h.le, h.big⟩
theorem RdTo.pre {A B : Hp} {c2 : List Value} {r2 : Rd} (h : Fr no H A) (k : RdTo A B b o T cs c2 r2) : RdTo H B b o T cs c2 r2 := ⟨k.st, k.len, k.rest, (h.of_no).trans k.fr⟩
theorem RdS.ld0 (h : RdS H b o T cs r) : hcell H ⟨b, o, none⟩ = some (.string r.1) := by rw [h.blk.ld]; exact h.str
theorem RdS.ld1 (h : RdS H b o T cs r) : hcell H (Addr.add ⟨b, o, none⟩ 1) = some (.int .i64 (r.2.1 : Int)) := by rw [add_mk, h.blk.ld]; exact h.at_
theorem RdS.ld2 (h : RdS H b o T cs r) : hcell H (Addr.add ⟨b, o, none⟩ 2) = some (.int .i64 r.2.2) := by rw [add_mk, h.blk.ld]; exact h.err
theorem setAt {n : Nat} {v : Int} {K : Hp → Prop} (h : RdS H b o T cs r) (hv : v = (n : Int)) (hn : n ≤ r.1.size) (k : ∀ H', RdTo H H' b o T cs (cs.set (o + 1) (.int .i64 (n : Int))) (r.1, n, r.2.2) → K H') : StL (Addr.add ⟨b, o, none⟩ 1) 0 [.int .i64 v] H K := by
  subst hv
  rw [add_mk]
  have hl := (List.getElem?_eq_some_iff.1 h.at_).1
  refine st_blk h.blk hl rfl ?_
  intro A hA hf _
  exact k A ⟨⟨hA, by rw [List.getElem?_set_ne (by omega)]; exact h.str, List.getElem?_set_self hl, by rw [List.getElem?_set_ne (by omega)]; exact h.err, hn, h.big⟩, by simp, fun i _ hi _ => List.getElem?_set_ne (Ne.symm hi), hf⟩
theorem setE {e : Int} {K : Hp → Prop} (h : RdS H b o T cs r) (k : ∀ H', RdTo H H' b o T cs (cs.set (o + 2) (.int .i64 e)) (r.1, r.2.1, e) → K H') : StL (Addr.add ⟨b, o, none⟩ 2) 0 [.int .i64 e] H K := by
  rw [add_mk]
  have hl := (List.getElem?_eq_some_iff.1 h.err).1
  refine st_blk h.blk hl rfl ?_
  intro A hA hf _
  exact k A ⟨⟨hA, by rw [List.getElem?_set_ne (by omega)]; exact h.str, by rw [List.getElem?_set_ne (by omega)]; exact h.at_, List.getElem?_set_self hl, h.le, h.big⟩, by simp, fun i _ _ hi => List.getElem?_set_ne (Ne.symm hi), hf⟩

theorem new_ok {s : ByteArray} {K : Value → Hp → Prop} {Z : List PanicEntry → Hp → Prop} (hs : s.size ≤ 4611686018427387904) (k : ∀ b H', b = H.size → RdS H' b 0 117 [.string s, .int .i64 0, .int .i64 0] (s, 0, 0) → Fr no H H' → K (.pointer (some ⟨b, 0, none⟩)) H') : CallF Try.prog 38 #[.string s] H K Z := by
  refine V38_ok ?_
  unfold V38
  intro b A hn
  exact k b A hn.eq ⟨hn.blk, rfl, rfl, rfl, Nat.zero_le _, hs⟩ hn.fr
theorem fail_ok {e : Int} {K : Value → Hp → Prop} {Z : List PanicEntry → Hp → Prop} (h : RdS H b o T cs r) (k : ∀ H' cs', RdTo H H' b o T cs cs' (failM r e) → K (.tuple #[]) H') : CallF Try.prog 72 #[.pointer (some ⟨b, o, none⟩), .int .i64 e] H K Z := by
  refine V72_ok ?_
  unfold V72
  refine ⟨_, h.ld2, fun h0 => ?_, fun h0 => ?_⟩
  · have h0' : r.2.2 = 0 := by simpa using h0
    refine setE h ?_
    intro A hA
    exact k A _ (by rw [failM, if_pos h0']; exact hA)
  · have h0' : ¬ r.2.2 = 0 := by simpa using h0
    exact k H cs (by rw [failM, if_neg h0']; exact RdTo.refl h)
theorem done_ok {K : Value → Hp → Prop} {Z : List PanicEntry → Hp → Prop} (h : RdS H b o T cs r) (k : K (.tuple #[.int .i64 ((rdoneM r).1 : Int), .int .i64 (rdoneM r).2]) H) : CallF Try.prog 40 #[.pointer (some ⟨b, o, none⟩)] H K Z := by
  refine V40_ok ?_
  unfold V40
  unfold rdoneM at k
  refine ⟨_, h.ld2, fun h0 => ⟨_, h.ld1, _, h.ld0, fun h1 => ⟨_, h.ld1, ?_⟩, fun h1 => ⟨_, h.ld1, _, h.ld2, ?_⟩⟩, fun h0 => ⟨_, h.ld1, _, h.ld2, ?_⟩⟩
  · have h0' : r.2.2 = 0 := by simpa using h0
    have h1' : r.2.1 < r.1.size := by simpa using h1
    rw [if_pos ⟨h0', h1'⟩] at k
    exact k
  · have h1' : ¬ r.2.1 < r.1.size := by simpa using h1
    rw [if_neg (fun h => h1' h.2)] at k
    exact k
  · have h0' : ¬ r.2.2 = 0 := by simpa using h0
    rw [if_neg (fun h => h0' h.1)] at k
    exact k

theorem look_ok {K : Value → Hp → Prop} {Z : List PanicEntry → Hp → Prop} (h : RdS H b o T cs r) (k : ∀ H', Fr no H H' → K (.tuple #[.int .i64 ((lookL 0 0 (restL r)).1 : Int), .int .i64 ((lookL 0 0 (restL r)).2.1 : Int), .int .i64 (lookL 0 0 (restL r)).2.2]) H') :
    CallF Try.prog 143 #[.pointer (some ⟨b, o, none⟩)] H K Z := by
  refine V143_ok ?_
  unfold V143
  obtain ⟨s, at_, e⟩ := r
  have hle : at_ ≤ s.size := h.le
  have hbig : s.size ≤ 4611686018427387904 := h.big
  refine ⟨_, h.ld0, _, h.ld1, _, h.ld0, _, h.ld1, ?_⟩
  show SlS s (at_ : Int) (if w64 ((at_ : Int) + 5) < (s.size : Int) then w64 ((at_ : Int) + 5) else (s.size : Int)) _
  rw [w64_id (x := (at_ : Int) + 5) (by omega) (by omega)]
  have hhi : (if (at_ : Int) + 5 < (s.size : Int) then (at_ : Int) + 5 else (s.size : Int)) = ((min (at_ + 5) s.size : Nat) : Int) := by split <;> omega
  rw [hhi]
  refine ⟨⟨by omega, by omega, by omega⟩, ?_⟩
  have ex : (s.extract (at_ : Int).toNat ((min (at_ + 5) s.size : Nat) : Int).toNat).data.toList = (s.data.toList.drop at_).take 5 := by
    rw [Int.toNat_natCast, Int.toNat_natCast, ByteArray.data_extract, Array.toList_extract]
    rw [List.extract_eq_take_drop]
    have hlen : s.data.toList.length = s.size := by simp
    rcases Nat.le_total (at_ + 5) s.size with h1 | h1
    · rw [Nat.min_eq_left h1, Nat.add_sub_cancel_left]
    · rw [Nat.min_eq_right h1, List.take_of_length_le (by rw [List.length_drop, hlen]; exact Nat.le_refl _), List.take_of_length_le (by rw [List.length_drop, hlen]; omega)]
  refine strBytes_ok pvu2 pvu1 pvu3 ?_
  intro sl A hn hcell hf
  refine ⟨sl, rfl, ?_⟩
  rw [ex] at hcell
  have hsl : sl.n = ((s.data.toList.drop at_).take 5).length := by
    rw [hn, ← ex, Array.length_toList]
    rfl
  have hrest : restL (s, at_, e) = s.data.toList.drop at_ := rfl
  rw [hrest] at k
  generalize s.data.toList.drop at_ = L at *
  have hl5 : sl.n = min 5 L.length := by rw [hsl, List.length_take]
  refine ⟨fun n i B m => ∃ nn : Nat, B = A ∧ 0 ≤ i ∧ i ≤ 5 ∧ n = (nn : Int) ∧ nn < 128 ^ i.toNat ∧ m = 5 - i.toNat ∧ i.toNat ≤ 4 ∧ lookL i.toNat nn (L.drop i.toNat) = lookL 0 0 L, ⟨5, 0, rfl, by omega, by omega, rfl, by decide, rfl, by decide, rfl⟩, ?_⟩
  rintro n i B m ⟨nn, rfl, h0, h1, rfl, h2, rfl, h3, h4⟩ scr
  refine ⟨fun hlt => ?_, fun hge => ?_⟩
  · have hlt' : i < sl.n := by simpa using hlt
    have hiL : i.toNat < L.length := by omega
    have hd : L.drop i.toNat = L[i.toNat] :: L.drop (i.toNat + 1) := List.drop_eq_getElem_cons hiL
    have hg : (L.take 5)[i.toNat]? = some L[i.toNat] := by rw [List.getElem?_take, if_pos (by omega), List.getElem?_eq_getElem hiL]
    obtain ⟨ad, ha, hc⟩ := hcell _ _ hg
    generalize L[i.toNat] = c at *
    rw [hd] at h4
    have hi : ((i.toNat : Nat) : Int) = i := by omega
    have hor := orShift (n := nn) (c := c.toNat % 128) (k := i.toNat) h3 h2 (by omega)
    rw [hi] at hor
    refine ⟨ad, ha, ⟨h0, hlt'⟩, _, hc, fun C => C = B ∧ ¬ (i.toNat = 4 ∧ 1 < c.toNat), ?_, ?_, ?_⟩
    · rintro C ⟨rfl, hnot⟩ scr1
      rw [and127u, and128u, hor]
      refine ⟨by rw [w64_id (by omega) (by omega)]; omega, fun hm => ?_, fun hm => ?_⟩
      · have hm' : 128 ≤ c.toNat := by simpa using hm
        rw [lookL, if_neg hnot, if_pos hm'] at h4
        have hi4 : i.toNat ≠ 4 := by
          intro h
          exact hnot ⟨h, by omega⟩
        rw [w64_id (by omega) (by omega)]
        have e : (i + 1).toNat = i.toNat + 1 := by omega
        refine ⟨5 - (i.toNat + 1), by omega, _, rfl, by omega, by omega, rfl, ?_, by rw [e], by omega, by rw [e]; exact h4⟩
        rw [e, Nat.pow_succ]
        have : c.toNat % 128 * 128 ^ i.toNat ≤ 127 * 128 ^ i.toNat := Nat.mul_le_mul_right _ (by omega)
        omega
      · have hm' : ¬ 128 ≤ c.toNat := by simpa using hm
        have hk := k C hf
        rw [← h4, lookL, if_neg hnot, if_neg hm'] at hk
        refine ⟨fun hz => ⟨fun hp => ?_, fun hp => ⟨fun hr => ?_, fun hr => ?_⟩⟩, fun hz => ⟨fun hr => ?_, fun hr => ?_⟩⟩
        · have hz' : c.toNat = 0 := by
            have : (c.toNat : Int) = 0 := by simpa using hz
            omega
          have hp' : 0 < i := by simpa using hp
          rw [if_pos ⟨hz', by omega⟩] at hk
          exact hk
        · have hp' : ¬ 0 < i := by simpa using hp
          have hr' : 268435456 < nn + c.toNat % 128 * 128 ^ i.toNat := by
            have : ((nn + c.toNat % 128 * 128 ^ i.toNat : Nat) : Int) > 268435456 := by simpa using hr
            omega
          rw [if_neg (by omega), if_pos hr'] at hk
          exact hk
        · have hp' : ¬ 0 < i := by simpa using hp
          have hr' : ¬ 268435456 < nn + c.toNat % 128 * 128 ^ i.toNat := by
            have : ((nn + c.toNat % 128 * 128 ^ i.toNat : Nat) : Int) ≤ 268435456 := by simpa using hr
            omega
          rw [if_neg (by omega), if_neg hr'] at hk
          have e : w64 (i + 1) = ((i.toNat + 1 : Nat) : Int) := by rw [w64_id (by omega) (by omega)]; omega
          rw [e]
          exact hk
        · have hz' : ¬ c.toNat = 0 := by
            have : ¬ (c.toNat : Int) = 0 := by simpa using hz
            omega
          have hr' : 268435456 < nn + c.toNat % 128 * 128 ^ i.toNat := by
            have : ((nn + c.toNat % 128 * 128 ^ i.toNat : Nat) : Int) > 268435456 := by simpa using hr
            omega
          rw [if_neg (fun h => hz' h.1), if_pos hr'] at hk
          exact hk
        · have hz' : ¬ c.toNat = 0 := by
            have : ¬ (c.toNat : Int) = 0 := by simpa using hz
            omega
          have hr' : ¬ 268435456 < nn + c.toNat % 128 * 128 ^ i.toNat := by
            have : ((nn + c.toNat % 128 * 128 ^ i.toNat : Nat) : Int) ≤ 268435456 := by simpa using hr
            omega
          rw [if_neg (fun h => hz' h.1), if_neg hr'] at hk
          have e : w64 (i + 1) = ((i.toNat + 1 : Nat) : Int) := by rw [w64_id (by omega) (by omega)]; omega
          rw [e]
          exact hk
    · intro h4'
      have h4'' : i = 4 := by simpa using h4'
      refine ⟨fun hc1 => ?_, fun hc1 => ?_⟩
      · have hc1' : 1 < c.toNat := by
          have : (c.toNat : Int) > 1 := by simpa using hc1
          omega
        have hk := k B hf
        rw [← h4, lookL, if_pos ⟨by omega, hc1'⟩] at hk
        exact hk
      · have hc1' : ¬ 1 < c.toNat := by
          have : (c.toNat : Int) ≤ 1 := by simpa using hc1
          omega
        exact ⟨rfl, fun h => hc1' h.2⟩
    · intro h4'
      have h4'' : ¬ i = 4 := by simpa using h4'
      exact ⟨rfl, fun h => h4'' (by omega)⟩
  · have hge' : (sl.n : Int) ≤ i := by simpa using hge
    have hnil : L.drop i.toNat = [] := List.drop_eq_nil_of_le (by omega)
    have hk := k B hf
    rw [← h4, hnil] at hk
    exact hk

theorem takeM_err {ρ : Nat → Nat} {r : Rd} (h : r.2.2 ≠ 0) : takeM ρ r = ((0, ⟨#[]⟩), r) := by rw [takeM, if_pos h]
theorem takeM_bad {ρ : Nat → Nat} {r : Rd} (h : r.2.2 = 0) {e : Int} (he : e = if (lookL 0 0 (restL r)).2.2 = 0 ∧ r.1.size - r.2.1 - (lookL 0 0 (restL r)).2.1 < ρ (lookL 0 0 (restL r)).1 then 1 else (lookL 0 0 (restL r)).2.2) (h1 : e ≠ 0) : takeM ρ r = ((0, ⟨#[]⟩), (r.1, r.2.1, e)) := by
  rw [takeM, if_neg (by simpa using h)]
  simp only
  rw [← he, if_pos h1]
theorem takeM_good {ρ : Nat → Nat} {r : Rd} (h : r.2.2 = 0) (h1 : (lookL 0 0 (restL r)).2.2 = 0) (h2 : ¬ r.1.size - r.2.1 - (lookL 0 0 (restL r)).2.1 < ρ (lookL 0 0 (restL r)).1) :
    takeM ρ r = (((lookL 0 0 (restL r)).1, r.1.extract (r.2.1 + (lookL 0 0 (restL r)).2.1) (r.2.1 + (lookL 0 0 (restL r)).2.1 + ρ (lookL 0 0 (restL r)).1)), (r.1, r.2.1 + (lookL 0 0 (restL r)).2.1 + ρ (lookL 0 0 (restL r)).1, 0)) := by
  rw [takeM, if_neg (by simpa using h)]
  simp only [h1, h2, and_false, if_false, ne_eq, not_true_eq_false]
theorem take_ok {rest : Value} {ρ : Nat → Nat} {K : Value → Hp → Prop} {Z : List PanicEntry → Hp → Prop} (hρ : ∀ n, ρ n ≤ n) (hrest : ∀ (n : Nat) (A : Hp) (K' : Value → Hp → Prop), K' (.int .i64 (ρ n : Int)) A → callV Try.prog rest [.int .i64 (n : Int)] A K' Z)
    (h : RdS H b o T cs r) (k : ∀ H' cs', RdTo H H' b o T cs cs' (takeM ρ r).2 → K (.tuple #[.int .i64 ((takeM ρ r).1.1 : Int), .string (takeM ρ r).1.2]) H') :
    CallF Try.prog 107 #[.pointer (some ⟨b, o, none⟩), rest] H K Z := by
  refine V107_ok ?_
  unfold V107
  have hle := h.le
  have hbig := h.big
  have hl := lookL_ok (restL r) 0 0 (by omega)
  have hrl := restL_len r hle
  refine ⟨_, h.ld2, fun h0 => ?_, fun h0 => ?_⟩
  · have h0' : r.2.2 ≠ 0 := by simpa using h0
    have := k H cs (by rw [takeM_err h0']; exact RdTo.refl h)
    rw [takeM_err h0'] at this
    exact this
  have h0' : r.2.2 = 0 := by simpa using h0
  refine look_ok h ?_
  intro A hf
  have hA : RdS A b o T cs r := h.keep hf fun h => h
  have kk : ∀ B c2, RdTo A B b o T cs c2 (takeM ρ r).2 → K (.tuple #[.int .i64 ((takeM ρ r).1.1 : Int), .string (takeM ρ r).1.2]) B := fun B c2 hB => k B c2 (RdTo.pre hf hB)
  refine ⟨_, _, _, rfl, fun e B => B = A ∧ e = (if (lookL 0 0 (restL r)).2.2 = 0 ∧ r.1.size - r.2.1 - (lookL 0 0 (restL r)).2.1 < ρ (lookL 0 0 (restL r)).1 then 1 else (lookL 0 0 (restL r)).2.2), ?_, ?_, ?_⟩
  · rintro e B ⟨rfl, he⟩ scr
    refine ⟨fun h1 => ?_, fun h1 => ?_⟩
    · have h1' : e ≠ 0 := by simpa using h1
      have hb := takeM_bad (ρ := ρ) h0' he h1'
      refine setE hA ?_
      intro C hC
      have := kk C _ (by rw [hb]; exact hC)
      rw [hb] at this
      exact this
    · have h1' : e = 0 := by simpa using h1
      have hlk : (lookL 0 0 (restL r)).2.2 = 0 ∧ ¬ r.1.size - r.2.1 - (lookL 0 0 (restL r)).2.1 < ρ (lookL 0 0 (restL r)).1 := by
        rw [h1'] at he
        by_cases h2 : (lookL 0 0 (restL r)).2.2 = 0
        · refine ⟨h2, fun h3 => ?_⟩
          rw [if_pos ⟨h2, h3⟩] at he
          cases he
        · rw [if_neg (fun h => h2 h.1)] at he
          exact absurd he.symm h2
      have hg := takeM_good (ρ := ρ) h0' hlk.1 hlk.2
      have hll := hl.1 hlk.1
      have hr := hρ (lookL 0 0 (restL r)).1
      refine ⟨_, hA.ld1, hrest _ _ _ ⟨_, rfl, ?_⟩⟩
      rw [hg] at kk
      generalize lookL 0 0 (restL r) = L at *
      have e1 : w64 ((r.2.1 : Int) + (L.2.1 : Int)) = ((r.2.1 + L.2.1 : Nat) : Int) := by rw [w64_id (by omega) (by omega)]; omega
      rw [e1]
      have e2 : w64 (((r.2.1 + L.2.1 : Nat) : Int) + (ρ L.1 : Int)) = ((r.2.1 + L.2.1 + ρ L.1 : Nat) : Int) := by rw [w64_id (by omega) (by omega)]; omega
      refine setAt (n := r.2.1 + L.2.1 + ρ L.1) hA e2 (by omega) ?_
      intro C hC
      have hC' := hC
      rw [h0'] at hC'
      refine ⟨_, hC.st.ld0, _, hC.st.ld1, ?_⟩
      show SlS r.1 ((r.2.1 + L.2.1 : Nat) : Int) ((r.2.1 + L.2.1 + ρ L.1 : Nat) : Int) _
      refine ⟨⟨by omega, by omega, by omega⟩, ?_⟩
      rw [Int.toNat_natCast, Int.toNat_natCast]
      exact kk C _ hC'
  · intro h1
    have h1' : (lookL 0 0 (restL r)).2.2 = 0 := by simpa using h1
    have hll := hl.1 h1'
    have hr := hρ (lookL 0 0 (restL r)).1
    rw [h1']
    generalize lookL 0 0 (restL r) = L at *
    have e1 : w64 (w64 ((r.1.size : Int) - (r.2.1 : Int)) - (L.2.1 : Int)) = ((r.1.size - r.2.1 - L.2.1 : Nat) : Int) := by
      rw [w64_id (x := (r.1.size : Int) - (r.2.1 : Int)) (by omega) (by omega), w64_id (by omega) (by omega)]
      omega
    have fin : ((decide ((ρ L.1 : Int) > w64 (w64 ((r.1.size : Int) - (r.2.1 : Int)) - (L.2.1 : Int))) = true → (A = A ∧ (1 : Int) = if (0 : Int) = 0 ∧ r.1.size - r.2.1 - L.2.1 < ρ L.1 then 1 else 0)) ∧
        (decide ((ρ L.1 : Int) > w64 (w64 ((r.1.size : Int) - (r.2.1 : Int)) - (L.2.1 : Int))) = false → (A = A ∧ (0 : Int) = if (0 : Int) = 0 ∧ r.1.size - r.2.1 - L.2.1 < ρ L.1 then 1 else 0))) := by
      rw [e1]
      refine ⟨fun h => ⟨rfl, ?_⟩, fun h => ⟨rfl, ?_⟩⟩
      · have h' : ((ρ L.1 : Nat) : Int) > ((r.1.size - r.2.1 - L.2.1 : Nat) : Int) := of_decide_eq_true h
        rw [if_pos ⟨rfl, by omega⟩]
      · have h' : ¬ ((ρ L.1 : Nat) : Int) > ((r.1.size - r.2.1 - L.2.1 : Nat) : Int) := of_decide_eq_false h
        rw [if_neg]
        rintro ⟨_, h2⟩
        omega
    refine ⟨hrest _ _ _ ⟨_, rfl, _, hA.ld0, _, hA.ld1, fin⟩, ⟨_, hA.ld0, hrest _ _ _ ⟨_, rfl, _, hA.ld1, fin⟩, _, hA.ld1, hrest _ _ _ ⟨_, rfl, fin⟩⟩, _, hA.ld1, hrest _ _ _ ⟨_, rfl, _, hA.ld0, fin⟩, _, hA.ld0, hrest _ _ _ ⟨_, rfl, fin⟩⟩
  · intro h1
    have h1' : ¬ (lookL 0 0 (restL r)).2.2 = 0 := by simpa using h1
    have e : (lookL 0 0 (restL r)).2.2 = (if (lookL 0 0 (restL r)).2.2 = 0 ∧ r.1.size - r.2.1 - (lookL 0 0 (restL r)).2.1 < ρ (lookL 0 0 (restL r)).1 then 1 else (lookL 0 0 (restL r)).2.2) := by
      rw [if_neg (fun h => h1' h.1)]
    exact ⟨⟨rfl, e⟩, ⟨⟨rfl, e⟩, ⟨rfl, e⟩⟩, ⟨rfl, e⟩, ⟨rfl, e⟩⟩

theorem okN1 : fnOk Try.prog 108 = true := by kernel_rfl
theorem okT1 : fnOk Try.prog 109 = true := by kernel_rfl
theorem vnumber_ok {K : Value → Hp → Prop} {Z : List PanicEntry → Hp → Prop} (h : RdS H b o T cs r) (k : ∀ H' cs', RdTo H H' b o T cs cs' (numM r).2 → K (.int .i64 ((numM r).1 : Int)) H') : CallF Try.prog 71 #[.pointer (some ⟨b, o, none⟩)] H K Z := by
  refine V71_ok ?_
  unfold V71
  refine take_ok (ρ := fun _ => 0) (fun n => Nat.zero_le _) ?_ h ?_
  · intro n A K' hk
    unfold callV
    simp only [okN1, if_true]
    exact V108_ok hk
  · intro A c2 hA
    exact ⟨_, _, rfl, k A c2 hA⟩
theorem vtext_ok {K : Value → Hp → Prop} {Z : List PanicEntry → Hp → Prop} (h : RdS H b o T cs r) (k : ∀ H' cs', RdTo H H' b o T cs cs' (textM r).2 → K (.string (textM r).1) H') : CallF Try.prog 74 #[.pointer (some ⟨b, o, none⟩)] H K Z := by
  refine V74_ok ?_
  unfold V74
  refine take_ok (ρ := id) (fun n => Nat.le_refl _) ?_ h ?_
  · intro n A K' hk
    unfold callV
    simp only [okT1, if_true]
    exact V109_ok hk
  · intro A c2 hA
    exact ⟨_, _, rfl, k A c2 hA⟩
end
end Go.Proofs.Ytigbdoicgdmliaa.C02R
end

section
/- weftref02, the reference's writer: what its methods do. -/
set_option linter.unusedVariables false
set_option linter.unusedSimpArgs false
-- tBs: 66
-- tU8: 5
-- tStr: 9
-- rNumber: 69
namespace Go.Proofs.Ytigbdoicgdmliaa.Q02
open Go Go.V Go.Proofs Go.Proofs.Ytigbdoicgdmliaa.N02 Go.Proofs.Ytigbdoicgdmliaa.P02
attribute [local irreducible] Cvt ExtF CallF hrun
theorem pvu1 : Try.prog.underlying 66 = some (.slice 5) := by kernel_rfl
theorem pvu2 : Try.prog.underlying 9 = some .string := by kernel_rfl
theorem pvu3 : Try.prog.underlying 5 = some (.int .u8) := by kernel_rfl

theorem one_ok {H A : Hp} {b : Nat} {c : UInt8} {K : Value → Hp → Prop} (hn : Newb H (.cells #[.int .u8 (c.toNat : Int)] 5) b A) (k : K (.string ⟨#[c]⟩) A) : Cvt Try.prog 66 9 A (.slice (some ⟨b, 0, none⟩) 1 1) K := by
  have hb : Blk A b (bv [c]) 5 := hn.blk
  exact bytesStr_ok pvu1 pvu3 pvu2 (Src.blk hb rfl) k
theorem number {H : Hp} {n : Int} {K : Value → Hp → Prop} {Z : List PanicEntry → Hp → Prop} (h0 : 0 ≤ n) (h1 : n ≤ 268435456)
    (k : ∀ H', Fr no H H' → K (.string ⟨(numB n.toNat).toArray⟩) H') : CallF Try.prog 69 #[.int .i64 n] H K Z := by
  refine V69_ok ?_
  unfold V69
  have h5 := numB_len5 (n := n.toNat) (by omega)
  refine ⟨fun y s A m => ∃ done : List UInt8, 0 ≤ y ∧ y ≤ n ∧ m = y.toNat ∧ s = ⟨done.toArray⟩ ∧ done ++ numB y.toNat = numB n.toNat ∧ Fr no H A, ⟨n.toNat, [], h0, Int.le_refl _, rfl, rfl, rfl, Fr.refl _ _⟩, ?_⟩
  rintro y s A m ⟨done, hy0, hyn, rfl, rfl, hd, hf⟩ scr
  have hlen := congrArg List.length hd
  simp only [List.length_append] at hlen
  have hsz : (⟨done.toArray⟩ : ByteArray).size = done.length := rfl
  have hone : ∀ c : UInt8, (⟨#[c]⟩ : ByteArray).size = 1 := fun _ => rfl
  refine ⟨?_, ?_⟩
  · intro hge
    have hge' : 128 ≤ y := by simpa using hge
    intro b B hn
    have e : IntKind.wrap .u8 ((IntKind.wrap .u8 (Int.tmod y 128)) + 128) = ((y.toNat % 128 + 128).toUInt8.toNat : Int) := by
      have t : Int.tmod y 128 = y % 128 := Int.tmod_eq_emod_of_nonneg hy0
      rw [t, u8_id (x := y % 128) (by omega) (by omega), u8_id (by omega) (by omega)]
      have : (y.toNat % 128 + 128).toUInt8.toNat = y.toNat % 128 + 128 := by
        rw [Nat.toUInt8, UInt8.toNat_ofNat']
        omega
      omega
    rw [e] at hn
    refine one_ok hn ⟨_, rfl, ?_, y.toNat / 128, by omega, done ++ [(y.toNat % 128 + 128).toUInt8], ?_⟩
    · rw [hsz, hone]; omega
    · have t : Int.tdiv y 128 = y / 128 := Int.tdiv_eq_ediv_of_nonneg hy0
      rw [t, w64_id (by omega) (by omega)]
      refine ⟨by omega, by omega, by omega, ?_, ?_, hf.trans hn.fr⟩
      · apply ByteArray.ext
        simp
      · rw [← hd, numB_ge (n := y.toNat) (by omega)]
        have : (y / 128).toNat = y.toNat / 128 := by omega
        rw [this]
        simp
  · intro hge
    have hge' : y < 128 := by simpa using hge
    intro b B hn
    have e : IntKind.wrap .u8 y = (y.toNat.toUInt8.toNat : Int) := by
      rw [u8_id (by omega) (by omega)]
      have : y.toNat.toUInt8.toNat = y.toNat := by
        rw [Nat.toUInt8, UInt8.toNat_ofNat']
        omega
      omega
    rw [e] at hn
    refine one_ok hn ⟨_, rfl, ?_, ?_⟩
    · rw [hsz, hone]; omega
    · have := k B (hf.trans hn.fr)
      rw [← hd, numB_lt (n := y.toNat) (by omega)] at this
      have e : (⟨done.toArray⟩ : ByteArray) ++ ⟨#[y.toNat.toUInt8]⟩ = ⟨(done ++ [y.toNat.toUInt8]).toArray⟩ := by
        apply ByteArray.ext
        simp
      rw [e]
      exact this
/-- the reference's writer at place o of block b -/
structure RwS (H : Hp) (b o : Nat) (T : TypeId) (cs : List Value) (st : St) : Prop where
  blk : Blk H b cs T
  str : cs[o]? = some (.string ⟨st.1.toArray⟩)
  err : cs[o + 1]? = some (.int .i64 st.2)
/-- what is changed -/
structure RwTo (H H' : Hp) (b o : Nat) (T : TypeId) (cs cs' : List Value) (st : St) : Prop where
  st : RwS H' b o T cs' st
  len : cs'.length = cs.length
  rest : ∀ i, i ≠ o → i ≠ o + 1 → cs'[i]? = cs[i]?
  fr : Fr (fun i => i = b) H H'
theorem RwTo.refl {H : Hp} {b o : Nat} {T : TypeId} {cs : List Value} {st : St} (h : RwS H b o T cs st) : RwTo H H b o T cs cs st := ⟨h, rfl, fun _ _ _ => rfl, Fr.refl _ _⟩
theorem RwS.ld0 {H : Hp} {b o : Nat} {T : TypeId} {cs : List Value} {st : St} (h : RwS H b o T cs st) : hcell H ⟨b, o, none⟩ = some (.string ⟨st.1.toArray⟩) := by rw [h.blk.ld]; exact h.str
theorem RwS.ld1 {H : Hp} {b o : Nat} {T : TypeId} {cs : List Value} {st : St} (h : RwS H b o T cs st) : hcell H (Addr.add ⟨b, o, none⟩ 1) = some (.int .i64 st.2) := by rw [add_mk, h.blk.ld]; exact h.err
theorem setE {H : Hp} {b o : Nat} {T : TypeId} {cs : List Value} {st : St} {e : Int} {K : Hp → Prop} (h : RwS H b o T cs st) (k : ∀ H', RwTo H H' b o T cs (cs.set (o + 1) (.int .i64 e)) (st.1, e) → K H') :
    StL (Addr.add ⟨b, o, none⟩ 1) 0 [.int .i64 e] H K := by
  rw [add_mk]
  have hl := (List.getElem?_eq_some_iff.1 h.err).1
  refine st_blk h.blk hl rfl ?_
  intro A hA hf _
  exact k A ⟨⟨hA, by rw [List.getElem?_set_ne (by omega)]; exact h.str, List.getElem?_set_self hl⟩, by simp, fun i _ hi => List.getElem?_set_ne (Ne.symm hi), hf⟩
theorem setS {H : Hp} {b o : Nat} {T : TypeId} {cs : List Value} {st : St} {xs : List UInt8} {s : ByteArray} {K : Hp → Prop} (h : RwS H b o T cs st) (hs : s = ⟨xs.toArray⟩) (k : ∀ H', RwTo H H' b o T cs (cs.set o (.string ⟨xs.toArray⟩)) (xs, st.2) → K H') :
    StL ⟨b, o, none⟩ 0 [.string s] H K := by
  subst hs
  have hl := (List.getElem?_eq_some_iff.1 h.str).1
  refine st_blk h.blk hl rfl ?_
  intro A hA hf _
  exact k A ⟨⟨hA, List.getElem?_set_self hl, by rw [List.getElem?_set_ne (by omega)]; exact h.err⟩, by simp, fun i hi _ => List.getElem?_set_ne (Ne.symm hi), hf⟩
theorem RwTo.pre {A B C : Hp} {b o : Nat} {T : TypeId} {c1 c2 : List Value} {st : St} (h : Fr no A B) (k : RwTo B C b o T c1 c2 st) : RwTo A C b o T c1 c2 st := ⟨k.st, k.len, k.rest, (h.of_no).trans k.fr⟩
end Go.Proofs.Ytigbdoicgdmliaa.Q02
end
