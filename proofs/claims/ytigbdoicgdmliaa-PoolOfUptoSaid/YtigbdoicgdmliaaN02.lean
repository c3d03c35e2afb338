/- The conditions of varint's functions, its reference's and its laws' (printed by our own program vn.py; the kernel checks each against V5's comp). -/
import Derived.Test.YtigbdoicgdmliaaV8
import Derived.Test.YtigbdoicgdmliaaProg
set_option linter.unusedVariables false
set_option maxRecDepth 100000
-- bWriteByte: 105
-- bWriteString: 106
-- bString: 67
-- bCopyCheck: 142
-- groups: 104
-- groupsL: 141
-- wNumber: 64
-- wText: 66
-- wDone: 33
-- rNumber: 69
-- new: 38
-- vText: 74
-- vNumber: 71
-- vDone: 40
-- vTake: 107
-- vLook: 143
-- vText1: 109
-- vNumber1: 108
-- vFail: 72
-- qNumber: 88
-- qFail: 113
-- qDone: 89
-- qnumber: 114
namespace Go.Proofs.Ytigbdoicgdmliaa.N02
open Go Go.V Go.Proofs
/-- (*strings.Builder).WriteByte -/
def V105 (H : Hp) (b : Addr) (c : Int) (K : Value → Hp → Prop) (Z : List PanicEntry → Hp → Prop) : Prop :=
  CallF Try.prog 142 #[.pointer (some b)] H (fun r H1 => r = .tuple #[] ∧ ∃ x : Sl, hcell H1 (Addr.add b 1) = some (.slice x.a x.n x.c) ∧ 
    ∀ b1 H2, Newb H1 (.cells #[.int .u8 c] 5) b1 H2 → App Try.prog #[66, 66] 66 H2 [.slice x.a x.n x.c, .slice (some ⟨b1, 0, none⟩) 1 1] fun ap H3 => 
    (StL (Addr.add b 1) 0 [.slice ap.a ap.n ap.c] H3 fun H4 => (K (.nilIface) H4))) Z
def aJ105 : Ann := (fun _ => none)
def aL105 : Ann := (fun _ => none)
theorem V105_ok {H : Hp} {b : Addr} {c : Int} {K : Value → Hp → Prop} {Z : List PanicEntry → Hp → Prop} (h : V105 H b c K Z) : CallF Try.prog 105 #[.pointer (some b), .int .u8 c] H K Z :=
  fnC_sound (P := Try.prog) (aJ := aJ105) (aL := aL105) (f := 105) (args := [.pointer (some b), .int .u8 c]) (Eq.mp (by kernel_rfl) h)
/-- (*strings.Builder).WriteString -/
def V106 (H : Hp) (b : Addr) (s : ByteArray) (K : Value → Hp → Prop) (Z : List PanicEntry → Hp → Prop) : Prop :=
  CallF Try.prog 142 #[.pointer (some b)] H (fun r H1 => r = .tuple #[] ∧ ∃ x : Sl, hcell H1 (Addr.add b 1) = some (.slice x.a x.n x.c) ∧ 
    App Try.prog #[66, 9] 66 H1 [.slice x.a x.n x.c, .string s] fun ap H2 => (StL (Addr.add b 1) 0 [.slice ap.a ap.n ap.c] H2 fun H3 => 
    (K (.tuple #[.int .i64 (s.size : Int), .nilIface]) H3))) Z
def aJ106 : Ann := (fun _ => none)
def aL106 : Ann := (fun _ => none)
theorem V106_ok {H : Hp} {b : Addr} {s : ByteArray} {K : Value → Hp → Prop} {Z : List PanicEntry → Hp → Prop} (h : V106 H b s K Z) : CallF Try.prog 106 #[.pointer (some b), .string s] H K Z :=
  fnC_sound (P := Try.prog) (aJ := aJ106) (aL := aL106) (f := 106) (args := [.pointer (some b), .string s]) (Eq.mp (by kernel_rfl) h)
/-- (*strings.Builder).String -/
def V67 (H : Hp) (b : Addr) (K : Value → Hp → Prop) (Z : List PanicEntry → Hp → Prop) : Prop :=
  ∃ x : Sl, hcell H (Addr.add b 1) = some (.slice x.a x.n x.c) ∧ ((Blt Try.prog .unsafeSliceData #[66] 168 #[false] H [.slice x.a x.n x.c] fun r H1 => 
    ∃ y : Option Addr, r = .pointer y ∧ ∃ x1 : Sl, hcell H1 (Addr.add b 1) = some (.slice x1.a x1.n x1.c) ∧ 
    Blt Try.prog .unsafeString #[168, 3] 9 #[false, false] H1 [.pointer y, .int .i64 (x1.n : Int)] fun r1 H2 => 
    ∃ y1 : ByteArray, r1 = .string y1 ∧ K (.string y1) H2) ∧ (∃ x2 : Sl, hcell H (Addr.add b 1) = some (.slice x2.a x2.n x2.c) ∧ 
    Blt Try.prog .unsafeSliceData #[66] 168 #[false] H [.slice x.a x.n x.c] fun r2 H3 => ∃ y2 : Option Addr, r2 = .pointer y2 ∧ 
    Blt Try.prog .unsafeString #[168, 3] 9 #[false, false] H3 [.pointer y2, .int .i64 (x2.n : Int)] fun r3 H4 => 
    ∃ y3 : ByteArray, r3 = .string y3 ∧ K (.string y3) H4))
def aJ67 : Ann := (fun _ => none)
def aL67 : Ann := (fun _ => none)
theorem V67_ok {H : Hp} {b : Addr} {K : Value → Hp → Prop} {Z : List PanicEntry → Hp → Prop} (h : V67 H b K Z) : CallF Try.prog 67 #[.pointer (some b)] H K Z :=
  fnC_sound (P := Try.prog) (aJ := aJ67) (aL := aL67) (f := 67) (args := [.pointer (some b)]) (Eq.mp (by kernel_rfl) h)
/-- (*strings.Builder).copyCheck -/
def V142 (H : Hp) (b : Addr) (K : Value → Hp → Prop) (Z : List PanicEntry → Hp → Prop) : Prop :=
  ∃ x : Option Addr, hcell H b = some (.pointer x) ∧ (((Option.isNone x) = true → Cvt Try.prog 65 199 H (.pointer (some b)) fun r H1 => 
    ∃ cv : Value, r = cv ∧ ExtF Try.prog 149 [cv] H1 fun r1 H2 => ∃ y : Value, r1 = y ∧ Cvt Try.prog 199 65 H2 (y) fun r2 H3 => 
    ∃ cv1 : Option Addr, r2 = .pointer cv1 ∧ StL b 0 [.pointer cv1] H3 fun H4 => (K (.tuple #[]) H4)) ∧ 
    ((Option.isNone x) = false → ∃ x1 : Option Addr, hcell H b = some (.pointer x1) ∧ PEq x1 b fun same => 
    (((!same) = true → False) ∧ ((!same) = false → K (.tuple #[]) H))))
def aJ142 : Ann := (fun _ => none)
def aL142 : Ann := (fun _ => none)
theorem V142_ok {H : Hp} {b : Addr} {K : Value → Hp → Prop} {Z : List PanicEntry → Hp → Prop} (h : V142 H b K Z) : CallF Try.prog 142 #[.pointer (some b)] H K Z :=
  fnC_sound (P := Try.prog) (aJ := aJ142) (aL := aL142) (f := 142) (args := [.pointer (some b)]) (Eq.mp (by kernel_rfl) h)
/-- weft/varint.groups -/
def V104 (H : Hp) (n : Int) (K : Value → Hp → Prop) (Z : List PanicEntry → Hp → Prop) : Prop :=
  ∀ bN H1, Newb H (.cells #[.int .i64 n] 3) bN H1 → K (.func (.func 141) #[] #[.pointer (some ⟨bN, 0, none⟩)]) H1
def aJ104 : Ann := (fun _ => none)
def aL104 : Ann := (fun _ => none)
theorem V104_ok {H : Hp} {n : Int} {K : Value → Hp → Prop} {Z : List PanicEntry → Hp → Prop} (h : V104 H n K Z) : CallF Try.prog 104 #[.int .i64 n] H K Z :=
  fnC_sound (P := Try.prog) (aJ := aJ104) (aL := aL104) (f := 104) (args := [.int .i64 n]) (Eq.mp (by kernel_rfl) h)
/-- weft/varint.groups$1 -/
def V141 (H : Hp) (yield : Value) (cap0 : Addr) (K : Value → Hp → Prop) (Z : List PanicEntry → Hp → Prop) : Prop :=
  ∃ I : Hp → Nat → Prop, (∃ m, I  H m) ∧ ∀ H1 m1, I  H1 m1 → ∀ scr : Nat → Value, ∃ x : Int, hcell H1 cap0 = some (.int .i64 x) ∧ 
    (((decide (x > 127)) = true → ∃ x1 : Int, hcell H1 cap0 = some (.int .i64 x1) ∧ callV Try.prog yield [.int .u8 (IntKind.wrap .u8 (bitOr .i64 (bitAnd .i64 x1 127) 128))] H1 (fun r H2 => 
    ∃ y : Bool, r = .bool y ∧ ((y = true → ∃ x2 : Int, hcell H2 cap0 = some (.int .i64 x2) ∧ StL cap0 0 [.int .i64 (Int.fdiv x2 (2 ^ 7))] H2 fun H3 => 
    (∃ m2, m2 < m1 ∧ I  H3 m2)) ∧ (y = false → ∃ x3 : Int, hcell H2 cap0 = some (.int .i64 x3) ∧ (((decide (x3 ≤ 127)) = true → 
    ∃ x4 : Int, hcell H2 cap0 = some (.int .i64 x4) ∧ callV Try.prog yield [.int .u8 (IntKind.wrap .u8 x4)] H2 (fun r1 H4 => 
    ∃ y1 : Bool, r1 = .bool y1 ∧ K (.tuple #[]) H4) Z) ∧ ((decide (x3 ≤ 127)) = false → K (.tuple #[]) H2))))) Z) ∧ 
    ((decide (x > 127)) = false → ∃ x5 : Int, hcell H1 cap0 = some (.int .i64 x5) ∧ (((decide (x5 ≤ 127)) = true → 
    ∃ x6 : Int, hcell H1 cap0 = some (.int .i64 x6) ∧ callV Try.prog yield [.int .u8 (IntKind.wrap .u8 x6)] H1 (fun r2 H5 => 
    ∃ y2 : Bool, r2 = .bool y2 ∧ K (.tuple #[]) H5) Z) ∧ ((decide (x5 ≤ 127)) = false → K (.tuple #[]) H1))))
def aJ141 : Ann := (fun _ => none)
def aL141 : Ann := (fun k => if k = 0 then some [] else none)
theorem V141_ok {H : Hp} {yield : Value} {cap0 : Addr} {K : Value → Hp → Prop} {Z : List PanicEntry → Hp → Prop} (h : V141 H yield cap0 K Z) : CallF Try.prog 141 #[yield, .pointer (some cap0)] H K Z :=
  fnC_sound (P := Try.prog) (aJ := aJ141) (aL := aL141) (f := 141) (args := [yield, .pointer (some cap0)]) (Eq.mp (by kernel_rfl) h)
/-- (*weft/varint.Writer).Number -/
def V64 (H : Hp) (w : Addr) (n : Int) (K : Value → Hp → Prop) (Z : List PanicEntry → Hp → Prop) : Prop :=
  ∀ bW H1, Newb H (.cells #[.pointer (some w)] 64) bW H1 → ∃ J : Hp → Prop, (∀ H2, J  H2 → ∀ scr : Nat → 
    Value, ∃ x : Option Addr, hcell H2 ⟨bW, 0, none⟩ = some (.pointer x) ∧ nilck x fun ad => (∃ x1 : Int, hcell H2 (Addr.add ad 2) = some (.int .i64 x1) ∧ 
    (((x1 != 0) = true → K (.tuple #[]) H2) ∧ ((x1 != 0) = false → CallF Try.prog 104 #[.int .i64 n] H2 (fun r H3 => 
    ∃ y : Value, r = y ∧ ∀ D H4, Newb H3 (.deferred (some [])) D H4 → ∀ l H5, Newb H4 (.loop (lrec Try.f64 64 5 [.pointer (some w), .int .i64 n, .pointer (some ⟨bW, 0, none⟩), undef, undef, (scr 5), (scr 6), (scr 7), (scr 8), (scr 9), (scr 10), (scr 11), (scr 12), (scr 13), (scr 14), (scr 15), (scr 16), (scr 17), (scr 18), (scr 19), (scr 20), .pointer x, .pointer (some ad), .pointer (some (Addr.add ad 2)), .int .i64 x1, .bool (x1 != 0), .int .i64 n, y, undef, undef, undef, undef, undef, undef] D)) l H5 → 
    callG Try.prog y [.func (.yield l) #[] #[]] H5 (fun _ H6 => endLoopK l H6 fun j H7 => jmpV j (H7[D]? = some (.deferred (some [])) ∧ 
    ∀ H8, H8 = H7.setIfInBounds D (.deferred none) → K (.tuple #[]) H8) (False) fun id => False) (fun _ _ => 
    False)) Z)))) ∧ ∃ x2 : Option Addr, hcell H1 ⟨bW, 0, none⟩ = some (.pointer x2) ∧ nilck x2 fun ad1 => 
    (∃ x3 : Int, hcell H1 (Addr.add ad1 2) = some (.int .i64 x3) ∧ (((x3 == 0) = true → (((decide (n < 0)) = true → 
    ∃ x4 : Option Addr, hcell H1 ⟨bW, 0, none⟩ = some (.pointer x4) ∧ nilck x4 fun ad2 => (StL (Addr.add ad2 2) 0 [.int .i64 2] H1 fun H9 => 
    (J  H9))) ∧ ((decide (n < 0)) = false → (((decide (n > 268435456)) = true → ∃ x5 : Option Addr, hcell H1 ⟨bW, 0, none⟩ = some (.pointer x5) ∧ 
    nilck x5 fun ad3 => (StL (Addr.add ad3 2) 0 [.int .i64 2] H1 fun H10 => (J  H10))) ∧ ((decide (n > 268435456)) = false → 
    (J  H1)))))) ∧ ((x3 == 0) = false → (J  H1))))
def aJ64 : Ann := (fun k => if k = 3 then some [] else none)
def aL64 : Ann := (fun _ => none)
theorem V64_ok {H : Hp} {w : Addr} {n : Int} {K : Value → Hp → Prop} {Z : List PanicEntry → Hp → Prop} (h : V64 H w n K Z) : CallF Try.prog 64 #[.pointer (some w), .int .i64 n] H K Z :=
  fnC_sound (P := Try.prog) (aJ := aJ64) (aL := aL64) (f := 64) (args := [.pointer (some w), .int .i64 n]) (Eq.mp (by kernel_rfl) h)
/-- a round of the loop over a function, number 5, in (*weft/varint.Writer).Number -/
def R64_5 (H11 : Hp) (bW : Nat) (l1 : Nat) (y28 : Int) (K : Value → Hp → Prop) : Prop :=
  (∃ r1, H11[l1]? = some (.loop r1) ∧ r1.state = .ready ∧ ∀ H12, H12 = H11.setIfInBounds l1 (.loop { r1 with state := .busy }) → 
    ∃ x6 : Option Addr, hcell H12 ⟨bW, 0, none⟩ = some (.pointer x6) ∧ nilck x6 fun ad4 => (CallF Try.prog 105 #[.pointer (some ad4), .int .u8 y28] H12 (fun r2 H13 => 
    ∃ y1 : Value, r2 = y1 ∧ endR l1 none H13 K) (fun _ _ => False)))
theorem R64_5_ok {H11 : Hp} {bW : Nat} {l1 : Nat} {y28 : Int} {u0 u1 u3 u4 u5 u6 u7 u8 u9 u10 u11 u12 u13 u14 u15 u16 u17 u18 u19 u20 u21 u22 u23 u24 u25 u26 u27 u28 u29 u30 u31 u32 u33 : Value} {K : Value → Hp → Prop} (h : R64_5 H11 bW l1 y28 K) : yldC Try.prog aJ64 aL64 Try.f64 64 5 l1 [u0, u1, .pointer (some ⟨bW, 0, none⟩), u3, u4, u5, u6, u7, u8, u9, u10, u11, u12, u13, u14, u15, u16, u17, u18, u19, u20, u21, u22, u23, u24, u25, u26, u27, u28, u29, u30, u31, u32, u33] [.int .u8 y28] H11 K := Eq.mp (by kernel_rfl) h
/-- (*weft/varint.Writer).Text -/
def V66 (H : Hp) (w : Addr) (s : ByteArray) (K : Value → Hp → Prop) (Z : List PanicEntry → Hp → Prop) : Prop :=
  ∃ x : Int, hcell H (Addr.add w 2) = some (.int .i64 x) ∧ (((x == 0) = true → (((decide ((s.size : Int) > 200000)) = true → 
    StL (Addr.add w 2) 0 [.int .i64 9] H fun H1 => (∃ x1 : Int, hcell H1 (Addr.add w 2) = some (.int .i64 x1) ∧ 
    (((x1 == 0) = true → CallF Try.prog 64 #[.pointer (some w), .int .i64 (s.size : Int)] H1 (fun r H2 => 
    r = .tuple #[] ∧ CallF Try.prog 106 #[.pointer (some w), .string s] H2 (fun r1 H3 => ∃ y_0 : Int, ∃ y_1 : Value, r1 = .tuple #[.int .i64 y_0, y_1] ∧ 
    K (.tuple #[]) H3) Z) Z) ∧ ((x1 == 0) = false → K (.tuple #[]) H1)))) ∧ ((decide ((s.size : Int) > 200000)) = false → 
    ∃ x2 : Int, hcell H (Addr.add w 2) = some (.int .i64 x2) ∧ (((x2 == 0) = true → CallF Try.prog 64 #[.pointer (some w), .int .i64 (s.size : Int)] H (fun r2 H4 => 
    r2 = .tuple #[] ∧ CallF Try.prog 106 #[.pointer (some w), .string s] H4 (fun r3 H5 => ∃ y_01 : Int, ∃ y_11 : Value, r3 = .tuple #[.int .i64 y_01, y_11] ∧ 
    K (.tuple #[]) H5) Z) Z) ∧ ((x2 == 0) = false → K (.tuple #[]) H))))) ∧ ((x == 0) = false → ∃ x3 : Int, hcell H (Addr.add w 2) = some (.int .i64 x3) ∧ 
    (((x3 == 0) = true → CallF Try.prog 64 #[.pointer (some w), .int .i64 (s.size : Int)] H (fun r4 H6 => 
    r4 = .tuple #[] ∧ CallF Try.prog 106 #[.pointer (some w), .string s] H6 (fun r5 H7 => ∃ y_02 : Int, ∃ y_12 : Value, r5 = .tuple #[.int .i64 y_02, y_12] ∧ 
    K (.tuple #[]) H7) Z) Z) ∧ ((x3 == 0) = false → K (.tuple #[]) H))))
def aJ66 : Ann := (fun _ => none)
def aL66 : Ann := (fun _ => none)
theorem V66_ok {H : Hp} {w : Addr} {s : ByteArray} {K : Value → Hp → Prop} {Z : List PanicEntry → Hp → Prop} (h : V66 H w s K Z) : CallF Try.prog 66 #[.pointer (some w), .string s] H K Z :=
  fnC_sound (P := Try.prog) (aJ := aJ66) (aL := aL66) (f := 66) (args := [.pointer (some w), .string s]) (Eq.mp (by kernel_rfl) h)
/-- (*weft/varint.Writer).Done -/
def V33 (H : Hp) (w : Addr) (K : Value → Hp → Prop) (Z : List PanicEntry → Hp → Prop) : Prop :=
  ∃ x : Int, hcell H (Addr.add w 2) = some (.int .i64 x) ∧ (((x != 0) = true → ∃ x1 : Int, hcell H (Addr.add w 2) = some (.int .i64 x1) ∧ 
    K (.tuple #[.string ⟨#[]⟩, .int .i64 x1]) H) ∧ ((x != 0) = false → CallF Try.prog 67 #[.pointer (some w)] H (fun r H1 => 
    ∃ y : ByteArray, r = .string y ∧ K (.tuple #[.string y, .int .i64 0]) H1) Z))
def aJ33 : Ann := (fun _ => none)
def aL33 : Ann := (fun _ => none)
theorem V33_ok {H : Hp} {w : Addr} {K : Value → Hp → Prop} {Z : List PanicEntry → Hp → Prop} (h : V33 H w K Z) : CallF Try.prog 33 #[.pointer (some w)] H K Z :=
  fnC_sound (P := Try.prog) (aJ := aJ33) (aL := aL33) (f := 33) (args := [.pointer (some w)]) (Eq.mp (by kernel_rfl) h)
/-- weft/weftref02.Number -/
def V69 (H : Hp) (n : Int) (K : Value → Hp → Prop) (Z : List PanicEntry → Hp → Prop) : Prop :=
  ∃ I : Int → ByteArray → Hp → Nat → Prop, (∃ m, I n ⟨#[]⟩ H m) ∧ ∀ (n1 : Int) (s : ByteArray), ∀ H1 m1, I n1 s H1 m1 → 
    ∀ scr : Nat → Value, (((decide (n1 ≥ 128)) = true → ∀ b H2, Newb H1 (.cells #[.int .u8 (IntKind.wrap .u8 ((IntKind.wrap .u8 (Int.tmod n1 128)) + 128))] 5) b H2 → 
    Cvt Try.prog 66 9 H2 (.slice (some ⟨b, 0, none⟩) 1 1) fun r H3 => ∃ cv : ByteArray, r = .string cv ∧ 
    (s.size + cv.size ≤ 4611686018427387904 ∧ (∃ m2, m2 < m1 ∧ I (w64 (Int.tdiv n1 128)) (s ++ cv) H3 m2))) ∧ 
    ((decide (n1 ≥ 128)) = false → ∀ b1 H4, Newb H1 (.cells #[.int .u8 (IntKind.wrap .u8 n1)] 5) b1 H4 → 
    Cvt Try.prog 66 9 H4 (.slice (some ⟨b1, 0, none⟩) 1 1) fun r1 H5 => ∃ cv1 : ByteArray, r1 = .string cv1 ∧ 
    (s.size + cv1.size ≤ 4611686018427387904 ∧ K (.string (s ++ cv1)) H5)))
def aJ69 : Ann := (fun _ => none)
def aL69 : Ann := (fun k => if k = 2 then some [(0, (.sc (.int .i64))), (3, (.sc .str))] else none)
theorem V69_ok {H : Hp} {n : Int} {K : Value → Hp → Prop} {Z : List PanicEntry → Hp → Prop} (h : V69 H n K Z) : CallF Try.prog 69 #[.int .i64 n] H K Z :=
  fnC_sound (P := Try.prog) (aJ := aJ69) (aL := aL69) (f := 69) (args := [.int .i64 n]) (Eq.mp (by kernel_rfl) h)
/-- weft/varint.New -/
def V38 (H : Hp) (s : ByteArray) (K : Value → Hp → Prop) (Z : List PanicEntry → Hp → Prop) : Prop :=
  ∀ b H1, Newb H (.cells #[.string s, .int .i64 0, .int .i64 0] 117) b H1 → K (.pointer (some ⟨b, 0, none⟩)) H1
def aJ38 : Ann := (fun _ => none)
def aL38 : Ann := (fun _ => none)
theorem V38_ok {H : Hp} {s : ByteArray} {K : Value → Hp → Prop} {Z : List PanicEntry → Hp → Prop} (h : V38 H s K Z) : CallF Try.prog 38 #[.string s] H K Z :=
  fnC_sound (P := Try.prog) (aJ := aJ38) (aL := aL38) (f := 38) (args := [.string s]) (Eq.mp (by kernel_rfl) h)
/-- (*weft/varint.Reader).Text -/
def V74 (H : Hp) (r : Addr) (K : Value → Hp → Prop) (Z : List PanicEntry → Hp → Prop) : Prop :=
  CallF Try.prog 107 #[.pointer (some r), .func (.func 109) #[] #[]] H (fun r1 H1 => ∃ y_0 : Int, ∃ y_1 : ByteArray, r1 = .tuple #[.int .i64 y_0, .string y_1] ∧ 
    K (.string y_1) H1) Z
def aJ74 : Ann := (fun _ => none)
def aL74 : Ann := (fun _ => none)
theorem V74_ok {H : Hp} {r : Addr} {K : Value → Hp → Prop} {Z : List PanicEntry → Hp → Prop} (h : V74 H r K Z) : CallF Try.prog 74 #[.pointer (some r)] H K Z :=
  fnC_sound (P := Try.prog) (aJ := aJ74) (aL := aL74) (f := 74) (args := [.pointer (some r)]) (Eq.mp (by kernel_rfl) h)
/-- (*weft/varint.Reader).Number -/
def V71 (H : Hp) (r : Addr) (K : Value → Hp → Prop) (Z : List PanicEntry → Hp → Prop) : Prop :=
  CallF Try.prog 107 #[.pointer (some r), .func (.func 108) #[] #[]] H (fun r1 H1 => ∃ y_0 : Int, ∃ y_1 : ByteArray, r1 = .tuple #[.int .i64 y_0, .string y_1] ∧ 
    K (.int .i64 y_0) H1) Z
def aJ71 : Ann := (fun _ => none)
def aL71 : Ann := (fun _ => none)
theorem V71_ok {H : Hp} {r : Addr} {K : Value → Hp → Prop} {Z : List PanicEntry → Hp → Prop} (h : V71 H r K Z) : CallF Try.prog 71 #[.pointer (some r)] H K Z :=
  fnC_sound (P := Try.prog) (aJ := aJ71) (aL := aL71) (f := 71) (args := [.pointer (some r)]) (Eq.mp (by kernel_rfl) h)
/-- (*weft/varint.Reader).Done -/
def V40 (H : Hp) (r : Addr) (K : Value → Hp → Prop) (Z : List PanicEntry → Hp → Prop) : Prop :=
  ∃ x : Int, hcell H (Addr.add r 2) = some (.int .i64 x) ∧ (((x == 0) = true → ∃ x1 : Int, hcell H (Addr.add r 1) = some (.int .i64 x1) ∧ 
    ∃ x2 : ByteArray, hcell H r = some (.string x2) ∧ (((decide (x1 < (x2.size : Int))) = true → ∃ x3 : Int, hcell H (Addr.add r 1) = some (.int .i64 x3) ∧ 
    K (.tuple #[.int .i64 x3, .int .i64 6]) H) ∧ ((decide (x1 < (x2.size : Int))) = false → ∃ x4 : Int, hcell H (Addr.add r 1) = some (.int .i64 x4) ∧ 
    ∃ x5 : Int, hcell H (Addr.add r 2) = some (.int .i64 x5) ∧ K (.tuple #[.int .i64 x4, .int .i64 x5]) H))) ∧ 
    ((x == 0) = false → ∃ x6 : Int, hcell H (Addr.add r 1) = some (.int .i64 x6) ∧ ∃ x7 : Int, hcell H (Addr.add r 2) = some (.int .i64 x7) ∧ 
    K (.tuple #[.int .i64 x6, .int .i64 x7]) H))
def aJ40 : Ann := (fun _ => none)
def aL40 : Ann := (fun _ => none)
theorem V40_ok {H : Hp} {r : Addr} {K : Value → Hp → Prop} {Z : List PanicEntry → Hp → Prop} (h : V40 H r K Z) : CallF Try.prog 40 #[.pointer (some r)] H K Z :=
  fnC_sound (P := Try.prog) (aJ := aJ40) (aL := aL40) (f := 40) (args := [.pointer (some r)]) (Eq.mp (by kernel_rfl) h)
/-- (*weft/varint.Reader).take -/
def V107 (H : Hp) (r : Addr) (rest : Value) (K : Value → Hp → Prop) (Z : List PanicEntry → Hp → Prop) : Prop :=
  ∃ x : Int, hcell H (Addr.add r 2) = some (.int .i64 x) ∧ (((x != 0) = true → K (.tuple #[.int .i64 0, .string ⟨#[]⟩]) H) ∧ 
    ((x != 0) = false → CallF Try.prog 143 #[.pointer (some r)] H (fun r1 H1 => ∃ y_0 : Int, ∃ y_1 : Int, ∃ y_2 : Int, r1 = .tuple #[.int .i64 y_0, .int .i64 y_1, .int .i64 y_2] ∧ 
    ∃ J : Int → Hp → Prop, (∀ (e : Int), ∀ H2, J e H2 → ∀ scr : Nat → Value, (((e != 0) = true → StL (Addr.add r 2) 0 [.int .i64 e] H2 fun H3 => 
    (K (.tuple #[.int .i64 0, .string ⟨#[]⟩]) H3)) ∧ ((e != 0) = false → ∃ x1 : Int, hcell H2 (Addr.add r 1) = some (.int .i64 x1) ∧ 
    callV Try.prog rest [.int .i64 y_0] H2 (fun r2 H4 => ∃ y : Int, r2 = .int .i64 y ∧ StL (Addr.add r 1) 0 [.int .i64 (w64 ((w64 (x1 + y_1)) + y))] H4 fun H5 => 
    (∃ x2 : ByteArray, hcell H5 r = some (.string x2) ∧ ∃ x3 : Int, hcell H5 (Addr.add r 1) = some (.int .i64 x3) ∧ 
    SlS x2 (w64 (x1 + y_1)) x3 fun cut => (K (.tuple #[.int .i64 y_0, .string cut]) H5))) Z))) ∧ (((y_2 == 0) = true → 
    ((callV Try.prog rest [.int .i64 y_0] H1 (fun r3 H6 => ∃ y1 : Int, r3 = .int .i64 y1 ∧ ∃ x4 : ByteArray, hcell H6 r = some (.string x4) ∧ 
    ∃ x5 : Int, hcell H6 (Addr.add r 1) = some (.int .i64 x5) ∧ (((decide (y1 > (w64 ((w64 ((x4.size : Int) - x5)) - y_1)))) = true → 
    (J 1 H6)) ∧ ((decide (y1 > (w64 ((w64 ((x4.size : Int) - x5)) - y_1)))) = false → (J y_2 H6)))) Z) ∧ 
    (∃ x6 : ByteArray, hcell H1 r = some (.string x6) ∧ ((callV Try.prog rest [.int .i64 y_0] H1 (fun r4 H7 => 
    ∃ y2 : Int, r4 = .int .i64 y2 ∧ ∃ x7 : Int, hcell H7 (Addr.add r 1) = some (.int .i64 x7) ∧ (((decide (y2 > (w64 ((w64 ((x6.size : Int) - x7)) - y_1)))) = true → 
    (J 1 H7)) ∧ ((decide (y2 > (w64 ((w64 ((x6.size : Int) - x7)) - y_1)))) = false → (J y_2 H7)))) Z) ∧ 
    (∃ x8 : Int, hcell H1 (Addr.add r 1) = some (.int .i64 x8) ∧ callV Try.prog rest [.int .i64 y_0] H1 (fun r5 H8 => 
    ∃ y3 : Int, r5 = .int .i64 y3 ∧ (((decide (y3 > (w64 ((w64 ((x6.size : Int) - x8)) - y_1)))) = true → 
    (J 1 H8)) ∧ ((decide (y3 > (w64 ((w64 ((x6.size : Int) - x8)) - y_1)))) = false → (J y_2 H8)))) Z))) ∧ 
    (∃ x9 : Int, hcell H1 (Addr.add r 1) = some (.int .i64 x9) ∧ ((callV Try.prog rest [.int .i64 y_0] H1 (fun r6 H9 => 
    ∃ y4 : Int, r6 = .int .i64 y4 ∧ ∃ x10 : ByteArray, hcell H9 r = some (.string x10) ∧ (((decide (y4 > (w64 ((w64 ((x10.size : Int) - x9)) - y_1)))) = true → 
    (J 1 H9)) ∧ ((decide (y4 > (w64 ((w64 ((x10.size : Int) - x9)) - y_1)))) = false → (J y_2 H9)))) Z) ∧ 
    (∃ x11 : ByteArray, hcell H1 r = some (.string x11) ∧ callV Try.prog rest [.int .i64 y_0] H1 (fun r7 H10 => 
    ∃ y5 : Int, r7 = .int .i64 y5 ∧ (((decide (y5 > (w64 ((w64 ((x11.size : Int) - x9)) - y_1)))) = true → 
    (J 1 H10)) ∧ ((decide (y5 > (w64 ((w64 ((x11.size : Int) - x9)) - y_1)))) = false → (J y_2 H10)))) Z))))) ∧ 
    ((y_2 == 0) = false → ((J y_2 H1) ∧ ((J y_2 H1) ∧ (J y_2 H1)) ∧ ((J y_2 H1) ∧ (J y_2 H1)))))) Z))
def aJ107 : Ann := (fun k => if k = 6 then some [(8, (.sc (.int .i64)))] else none)
def aL107 : Ann := (fun _ => none)
theorem V107_ok {H : Hp} {r : Addr} {rest : Value} {K : Value → Hp → Prop} {Z : List PanicEntry → Hp → Prop} (h : V107 H r rest K Z) : CallF Try.prog 107 #[.pointer (some r), rest] H K Z :=
  fnC_sound (P := Try.prog) (aJ := aJ107) (aL := aL107) (f := 107) (args := [.pointer (some r), rest]) (Eq.mp (by kernel_rfl) h)
/-- (*weft/varint.Reader).look -/
def V143 (H : Hp) (r : Addr) (K : Value → Hp → Prop) (Z : List PanicEntry → Hp → Prop) : Prop :=
  ∃ x : ByteArray, hcell H r = some (.string x) ∧ ∃ x1 : Int, hcell H (Addr.add r 1) = some (.int .i64 x1) ∧ 
    ∃ x2 : ByteArray, hcell H r = some (.string x2) ∧ ∃ x3 : Int, hcell H (Addr.add r 1) = some (.int .i64 x3) ∧ 
    SlS x x1 (if (w64 (x3 + 5)) < (x2.size : Int) then (w64 (x3 + 5)) else (x2.size : Int)) fun cut => 
    (Cvt Try.prog 9 66 H (.string cut) fun r1 H1 => ∃ cv : Sl, r1 = .slice cv.a cv.n cv.c ∧ ∃ I : Int → 
    Int → Hp → Nat → Prop, (∃ m, I 0 0 H1 m) ∧ ∀ (n : Int) (t30 : Int), ∀ H2 m1, I n t30 H2 m1 → ∀ scr : Nat → 
    Value, (((decide (t30 < (cv.n : Int))) = true → IxA cv.a cv.n t30 1 fun ad => (∃ x4 : Int, hcell H2 ad = some (.int .u8 x4) ∧ 
    ∃ J : Hp → Prop, (∀ H3, J  H3 → ∀ scr1 : Nat → Value, (0 ≤ (w64 (7 * t30)) ∧ ((((bitAnd .u8 x4 128) != 0) = true → 
    (∃ m2, m2 < m1 ∧ I (bitOr .i64 n (w64 ((w64 (bitAnd .u8 x4 127)) * 2 ^ (min (Int.toNat (w64 (7 * t30))) (IntKind.bits .i64))))) (w64 (t30 + 1)) H3 m2)) ∧ 
    (((bitAnd .u8 x4 128) != 0) = false → (((x4 == 0) = true → (((decide (t30 > 0)) = true → K (.tuple #[.int .i64 0, .int .i64 0, .int .i64 3]) H3) ∧ 
    ((decide (t30 > 0)) = false → (((decide ((bitOr .i64 n (w64 ((w64 (bitAnd .u8 x4 127)) * 2 ^ (min (Int.toNat (w64 (7 * t30))) (IntKind.bits .i64))))) > 268435456)) = true → 
    K (.tuple #[.int .i64 0, .int .i64 0, .int .i64 2]) H3) ∧ ((decide ((bitOr .i64 n (w64 ((w64 (bitAnd .u8 x4 127)) * 2 ^ (min (Int.toNat (w64 (7 * t30))) (IntKind.bits .i64))))) > 268435456)) = false → 
    K (.tuple #[.int .i64 (bitOr .i64 n (w64 ((w64 (bitAnd .u8 x4 127)) * 2 ^ (min (Int.toNat (w64 (7 * t30))) (IntKind.bits .i64))))), .int .i64 (w64 (t30 + 1)), .int .i64 0]) H3))))) ∧ 
    ((x4 == 0) = false → (((decide ((bitOr .i64 n (w64 ((w64 (bitAnd .u8 x4 127)) * 2 ^ (min (Int.toNat (w64 (7 * t30))) (IntKind.bits .i64))))) > 268435456)) = true → 
    K (.tuple #[.int .i64 0, .int .i64 0, .int .i64 2]) H3) ∧ ((decide ((bitOr .i64 n (w64 ((w64 (bitAnd .u8 x4 127)) * 2 ^ (min (Int.toNat (w64 (7 * t30))) (IntKind.bits .i64))))) > 268435456)) = false → 
    K (.tuple #[.int .i64 (bitOr .i64 n (w64 ((w64 (bitAnd .u8 x4 127)) * 2 ^ (min (Int.toNat (w64 (7 * t30))) (IntKind.bits .i64))))), .int .i64 (w64 (t30 + 1)), .int .i64 0]) H3)))))))) ∧ 
    (((t30 == 4) = true → (((decide (x4 > 1)) = true → K (.tuple #[.int .i64 0, .int .i64 0, .int .i64 2]) H2) ∧ 
    ((decide (x4 > 1)) = false → (J  H2)))) ∧ ((t30 == 4) = false → (J  H2))))) ∧ ((decide (t30 < (cv.n : Int))) = false → 
    K (.tuple #[.int .i64 0, .int .i64 0, .int .i64 1]) H2)))
def aJ143 : Ann := (fun k => if k = 7 then some [] else none)
def aL143 : Ann := (fun k => if k = 3 then some [(5, (.sc (.int .i64))), (30, (.sc (.int .i64)))] else none)
theorem V143_ok {H : Hp} {r : Addr} {K : Value → Hp → Prop} {Z : List PanicEntry → Hp → Prop} (h : V143 H r K Z) : CallF Try.prog 143 #[.pointer (some r)] H K Z :=
  fnC_sound (P := Try.prog) (aJ := aJ143) (aL := aL143) (f := 143) (args := [.pointer (some r)]) (Eq.mp (by kernel_rfl) h)
/-- (*weft/varint.Reader).Text$1 -/
def V109 (H : Hp) (n : Int) (K : Value → Hp → Prop) (Z : List PanicEntry → Hp → Prop) : Prop :=
  K (.int .i64 n) H
def aJ109 : Ann := (fun _ => none)
def aL109 : Ann := (fun _ => none)
theorem V109_ok {H : Hp} {n : Int} {K : Value → Hp → Prop} {Z : List PanicEntry → Hp → Prop} (h : V109 H n K Z) : CallF Try.prog 109 #[.int .i64 n] H K Z :=
  fnC_sound (P := Try.prog) (aJ := aJ109) (aL := aL109) (f := 109) (args := [.int .i64 n]) (Eq.mp (by kernel_rfl) h)
/-- (*weft/varint.Reader).Number$1 -/
def V108 (H : Hp) (t0 : Int) (K : Value → Hp → Prop) (Z : List PanicEntry → Hp → Prop) : Prop :=
  K (.int .i64 0) H
def aJ108 : Ann := (fun _ => none)
def aL108 : Ann := (fun _ => none)
theorem V108_ok {H : Hp} {t0 : Int} {K : Value → Hp → Prop} {Z : List PanicEntry → Hp → Prop} (h : V108 H t0 K Z) : CallF Try.prog 108 #[.int .i64 t0] H K Z :=
  fnC_sound (P := Try.prog) (aJ := aJ108) (aL := aL108) (f := 108) (args := [.int .i64 t0]) (Eq.mp (by kernel_rfl) h)
/-- (*weft/varint.Reader).Fail -/
def V72 (H : Hp) (r : Addr) (e : Int) (K : Value → Hp → Prop) (Z : List PanicEntry → Hp → Prop) : Prop :=
  ∃ x : Int, hcell H (Addr.add r 2) = some (.int .i64 x) ∧ (((x == 0) = true → StL (Addr.add r 2) 0 [.int .i64 e] H fun H1 => 
    (K (.tuple #[]) H1)) ∧ ((x == 0) = false → K (.tuple #[]) H))
def aJ72 : Ann := (fun _ => none)
def aL72 : Ann := (fun _ => none)
theorem V72_ok {H : Hp} {r : Addr} {e : Int} {K : Value → Hp → Prop} {Z : List PanicEntry → Hp → Prop} (h : V72 H r e K Z) : CallF Try.prog 72 #[.pointer (some r), .int .i64 e] H K Z :=
  fnC_sound (P := Try.prog) (aJ := aJ72) (aL := aL72) (f := 72) (args := [.pointer (some r), .int .i64 e]) (Eq.mp (by kernel_rfl) h)
/-- (*weft/weftref02.Reader).Number -/
def V88 (H : Hp) (r : Addr) (K : Value → Hp → Prop) (Z : List PanicEntry → Hp → Prop) : Prop :=
  ∃ x : ByteArray, hcell H r = some (.string x) ∧ ∃ x1 : Int, hcell H (Addr.add r 1) = some (.int .i64 x1) ∧ 
    CallF Try.prog 114 #[.string x, .int .i64 x1] H (fun r1 H1 => ∃ y_0 : Int, ∃ y_1 : Int, ∃ y_2 : Int, r1 = .tuple #[.int .i64 y_0, .int .i64 y_1, .int .i64 y_2] ∧ 
    ∃ x2 : Int, hcell H1 (Addr.add r 2) = some (.int .i64 x2) ∧ (((x2 != 0) = true → K (.int .i64 0) H1) ∧ 
    ((x2 != 0) = false → (((y_2 != 0) = true → StL (Addr.add r 2) 0 [.int .i64 y_2] H1 fun H2 => (K (.int .i64 0) H2)) ∧ 
    ((y_2 != 0) = false → StL (Addr.add r 1) 0 [.int .i64 y_1] H1 fun H3 => (K (.int .i64 y_0) H3)))))) Z
def aJ88 : Ann := (fun _ => none)
def aL88 : Ann := (fun _ => none)
theorem V88_ok {H : Hp} {r : Addr} {K : Value → Hp → Prop} {Z : List PanicEntry → Hp → Prop} (h : V88 H r K Z) : CallF Try.prog 88 #[.pointer (some r)] H K Z :=
  fnC_sound (P := Try.prog) (aJ := aJ88) (aL := aL88) (f := 88) (args := [.pointer (some r)]) (Eq.mp (by kernel_rfl) h)
/-- (*weft/weftref02.Reader).Fail -/
def V113 (H : Hp) (r : Addr) (e : Int) (K : Value → Hp → Prop) (Z : List PanicEntry → Hp → Prop) : Prop :=
  ∃ x : Int, hcell H (Addr.add r 2) = some (.int .i64 x) ∧ (((x == 0) = true → StL (Addr.add r 2) 0 [.int .i64 e] H fun H1 => 
    (K (.tuple #[]) H1)) ∧ ((x == 0) = false → K (.tuple #[]) H))
def aJ113 : Ann := (fun _ => none)
def aL113 : Ann := (fun _ => none)
theorem V113_ok {H : Hp} {r : Addr} {e : Int} {K : Value → Hp → Prop} {Z : List PanicEntry → Hp → Prop} (h : V113 H r e K Z) : CallF Try.prog 113 #[.pointer (some r), .int .i64 e] H K Z :=
  fnC_sound (P := Try.prog) (aJ := aJ113) (aL := aL113) (f := 113) (args := [.pointer (some r), .int .i64 e]) (Eq.mp (by kernel_rfl) h)
/-- (*weft/weftref02.Reader).Done -/
def V89 (H : Hp) (r : Addr) (K : Value → Hp → Prop) (Z : List PanicEntry → Hp → Prop) : Prop :=
  ∃ x : Int, hcell H (Addr.add r 2) = some (.int .i64 x) ∧ (((x == 0) = true → ∃ x1 : Int, hcell H (Addr.add r 1) = some (.int .i64 x1) ∧ 
    ∃ x2 : ByteArray, hcell H r = some (.string x2) ∧ (((decide (x1 < (x2.size : Int))) = true → ∃ x3 : Int, hcell H (Addr.add r 1) = some (.int .i64 x3) ∧ 
    K (.tuple #[.int .i64 x3, .int .i64 6]) H) ∧ ((decide (x1 < (x2.size : Int))) = false → ∃ x4 : Int, hcell H (Addr.add r 1) = some (.int .i64 x4) ∧ 
    ∃ x5 : Int, hcell H (Addr.add r 2) = some (.int .i64 x5) ∧ K (.tuple #[.int .i64 x4, .int .i64 x5]) H))) ∧ 
    ((x == 0) = false → ∃ x6 : Int, hcell H (Addr.add r 1) = some (.int .i64 x6) ∧ ∃ x7 : Int, hcell H (Addr.add r 2) = some (.int .i64 x7) ∧ 
    K (.tuple #[.int .i64 x6, .int .i64 x7]) H))
def aJ89 : Ann := (fun _ => none)
def aL89 : Ann := (fun _ => none)
theorem V89_ok {H : Hp} {r : Addr} {K : Value → Hp → Prop} {Z : List PanicEntry → Hp → Prop} (h : V89 H r K Z) : CallF Try.prog 89 #[.pointer (some r)] H K Z :=
  fnC_sound (P := Try.prog) (aJ := aJ89) (aL := aL89) (f := 89) (args := [.pointer (some r)]) (Eq.mp (by kernel_rfl) h)
/-- weft/weftref02.number -/
def V114 (H : Hp) (s : ByteArray) (t1 : Int) (K : Value → Hp → Prop) (Z : List PanicEntry → Hp → Prop) : Prop :=
  ∃ I : Int → Int → Hp → Nat → Prop, (∃ m, I 0 0 H m) ∧ ∀ (n : Int) (k : Int), ∀ H1 m1, I n k H1 m1 → 
    ∀ scr : Nat → Value, (((decide (k < 5)) = true → (((decide ((w64 (t1 + k)) ≥ (s.size : Int))) = true → 
    K (.tuple #[.int .i64 0, .int .i64 0, .int .i64 1]) H1) ∧ ((decide ((w64 (t1 + k)) ≥ (s.size : Int))) = false → 
    IxS s (w64 (t1 + k)) fun c => (∃ J : Hp → Prop, (∀ H2, J  H2 → ∀ scr1 : Nat → Value, (0 ≤ (w64 (7 * k)) ∧ 
    (((decide ((w64 c) < 128)) = true → ((((w64 c) == 0) = true → (((decide (k > 0)) = true → K (.tuple #[.int .i64 0, .int .i64 0, .int .i64 3]) H2) ∧ 
    ((decide (k > 0)) = false → (((decide ((w64 (n + (w64 ((Int.tmod (w64 c) 128) * 2 ^ (min (Int.toNat (w64 (7 * k))) (IntKind.bits .i64)))))) > 268435456)) = true → 
    K (.tuple #[.int .i64 0, .int .i64 0, .int .i64 2]) H2) ∧ ((decide ((w64 (n + (w64 ((Int.tmod (w64 c) 128) * 2 ^ (min (Int.toNat (w64 (7 * k))) (IntKind.bits .i64)))))) > 268435456)) = false → 
    K (.tuple #[.int .i64 (w64 (n + (w64 ((Int.tmod (w64 c) 128) * 2 ^ (min (Int.toNat (w64 (7 * k))) (IntKind.bits .i64)))))), .int .i64 (w64 ((w64 (t1 + k)) + 1)), .int .i64 0]) H2))))) ∧ 
    (((w64 c) == 0) = false → (((decide ((w64 (n + (w64 ((Int.tmod (w64 c) 128) * 2 ^ (min (Int.toNat (w64 (7 * k))) (IntKind.bits .i64)))))) > 268435456)) = true → 
    K (.tuple #[.int .i64 0, .int .i64 0, .int .i64 2]) H2) ∧ ((decide ((w64 (n + (w64 ((Int.tmod (w64 c) 128) * 2 ^ (min (Int.toNat (w64 (7 * k))) (IntKind.bits .i64)))))) > 268435456)) = false → 
    K (.tuple #[.int .i64 (w64 (n + (w64 ((Int.tmod (w64 c) 128) * 2 ^ (min (Int.toNat (w64 (7 * k))) (IntKind.bits .i64)))))), .int .i64 (w64 ((w64 (t1 + k)) + 1)), .int .i64 0]) H2))))) ∧ 
    ((decide ((w64 c) < 128)) = false → (∃ m2, m2 < m1 ∧ I (w64 (n + (w64 ((Int.tmod (w64 c) 128) * 2 ^ (min (Int.toNat (w64 (7 * k))) (IntKind.bits .i64)))))) (w64 (k + 1)) H2 m2))))) ∧ 
    (((k == 4) = true → (((decide ((w64 c) > 1)) = true → K (.tuple #[.int .i64 0, .int .i64 0, .int .i64 2]) H1) ∧ 
    ((decide ((w64 c) > 1)) = false → (J  H1)))) ∧ ((k == 4) = false → (J  H1))))))) ∧ ((decide (k < 5)) = false → 
    K (.tuple #[.int .i64 0, .int .i64 0, .int .i64 2]) H1))
def aJ114 : Ann := (fun k => if k = 10 then some [] else none)
def aL114 : Ann := (fun k => if k = 3 then some [(7, (.sc (.int .i64))), (8, (.sc (.int .i64)))] else none)
theorem V114_ok {H : Hp} {s : ByteArray} {t1 : Int} {K : Value → Hp → Prop} {Z : List PanicEntry → Hp → Prop} (h : V114 H s t1 K Z) : CallF Try.prog 114 #[.string s, .int .i64 t1] H K Z :=
  fnC_sound (P := Try.prog) (aJ := aJ114) (aL := aL114) (f := 114) (args := [.string s, .int .i64 t1]) (Eq.mp (by kernel_rfl) h)
end Go.Proofs.Ytigbdoicgdmliaa.N02

