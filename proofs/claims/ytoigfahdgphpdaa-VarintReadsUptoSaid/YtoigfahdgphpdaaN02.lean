/- The conditions of varint's functions, its reference's and its laws' (printed by our own program vn.py; the kernel checks each against V5's comp). -/
import Derived.Test.YtoigfahdgphpdaaV8
import Derived.Test.YtoigfahdgphpdaaProg
set_option linter.unusedVariables false
set_option maxRecDepth 100000
-- bWriteByte: 84
-- bWriteString: 82
-- bString: 85
-- bCopyCheck: 99
-- groups: 83
-- groupsL: 100
-- wNumber: 61
-- wText: 60
-- wDone: 62
-- rNumber: 59
-- rwNumber: 17
-- rwText: 16
-- rwDone: 19
-- light: 15
-- write: 18
-- works: 25
-- lawWrites: 3
-- lawReads: 9
-- lawBack: 5
-- lawOne: 6
-- new: 26
-- vText: 27
-- vNumber: 28
-- vDone: 29
-- vTake: 66
-- vLook: 89
-- vText1: 67
-- vNumber1: 68
-- vFail: 36
-- qNumber: 34
-- qText: 35
-- qFail: 37
-- qDone: 38
-- qnumber: 72
namespace Go.Proofs.Ytoigfahdgphpdaa.N02
open Go Go.V Go.Proofs
/-- (*strings.Builder).WriteByte -/
def V84 (H : Hp) (b : Addr) (c : Int) (K : Value → Hp → Prop) (Z : List PanicEntry → Hp → Prop) : Prop :=
  CallF Try.prog 99 #[.pointer (some b)] H (fun r H1 => r = .tuple #[] ∧ ∃ x : Sl, hcell H1 (Addr.add b 1) = some (.slice x.a x.n x.c) ∧ 
    ∀ b1 H2, Newb H1 (.cells #[.int .u8 c] 5) b1 H2 → App Try.prog #[91, 91] 91 H2 [.slice x.a x.n x.c, .slice (some ⟨b1, 0, none⟩) 1 1] fun ap H3 => 
    (StL (Addr.add b 1) 0 [.slice ap.a ap.n ap.c] H3 fun H4 => (K (.nilIface) H4))) Z
def aJ84 : Ann := (fun _ => none)
def aL84 : Ann := (fun _ => none)
theorem V84_ok {H : Hp} {b : Addr} {c : Int} {K : Value → Hp → Prop} {Z : List PanicEntry → Hp → Prop} (h : V84 H b c K Z) : CallF Try.prog 84 #[.pointer (some b), .int .u8 c] H K Z :=
  fnC_sound (P := Try.prog) (aJ := aJ84) (aL := aL84) (f := 84) (args := [.pointer (some b), .int .u8 c]) (Eq.mp (by kernel_rfl) h)
/-- (*strings.Builder).WriteString -/
def V82 (H : Hp) (b : Addr) (s : ByteArray) (K : Value → Hp → Prop) (Z : List PanicEntry → Hp → Prop) : Prop :=
  CallF Try.prog 99 #[.pointer (some b)] H (fun r H1 => r = .tuple #[] ∧ ∃ x : Sl, hcell H1 (Addr.add b 1) = some (.slice x.a x.n x.c) ∧ 
    App Try.prog #[91, 9] 91 H1 [.slice x.a x.n x.c, .string s] fun ap H2 => (StL (Addr.add b 1) 0 [.slice ap.a ap.n ap.c] H2 fun H3 => 
    (K (.tuple #[.int .i64 (s.size : Int), .nilIface]) H3))) Z
def aJ82 : Ann := (fun _ => none)
def aL82 : Ann := (fun _ => none)
theorem V82_ok {H : Hp} {b : Addr} {s : ByteArray} {K : Value → Hp → Prop} {Z : List PanicEntry → Hp → Prop} (h : V82 H b s K Z) : CallF Try.prog 82 #[.pointer (some b), .string s] H K Z :=
  fnC_sound (P := Try.prog) (aJ := aJ82) (aL := aL82) (f := 82) (args := [.pointer (some b), .string s]) (Eq.mp (by kernel_rfl) h)
/-- (*strings.Builder).String -/
def V85 (H : Hp) (b : Addr) (K : Value → Hp → Prop) (Z : List PanicEntry → Hp → Prop) : Prop :=
  ∃ x : Sl, hcell H (Addr.add b 1) = some (.slice x.a x.n x.c) ∧ ((Blt Try.prog .unsafeSliceData #[91] 142 #[false] H [.slice x.a x.n x.c] fun r H1 => 
    ∃ y : Option Addr, r = .pointer y ∧ ∃ x1 : Sl, hcell H1 (Addr.add b 1) = some (.slice x1.a x1.n x1.c) ∧ 
    Blt Try.prog .unsafeString #[142, 3] 9 #[false, false] H1 [.pointer y, .int .i64 (x1.n : Int)] fun r1 H2 => 
    ∃ y1 : ByteArray, r1 = .string y1 ∧ K (.string y1) H2) ∧ (∃ x2 : Sl, hcell H (Addr.add b 1) = some (.slice x2.a x2.n x2.c) ∧ 
    Blt Try.prog .unsafeSliceData #[91] 142 #[false] H [.slice x.a x.n x.c] fun r2 H3 => ∃ y2 : Option Addr, r2 = .pointer y2 ∧ 
    Blt Try.prog .unsafeString #[142, 3] 9 #[false, false] H3 [.pointer y2, .int .i64 (x2.n : Int)] fun r3 H4 => 
    ∃ y3 : ByteArray, r3 = .string y3 ∧ K (.string y3) H4))
def aJ85 : Ann := (fun _ => none)
def aL85 : Ann := (fun _ => none)
theorem V85_ok {H : Hp} {b : Addr} {K : Value → Hp → Prop} {Z : List PanicEntry → Hp → Prop} (h : V85 H b K Z) : CallF Try.prog 85 #[.pointer (some b)] H K Z :=
  fnC_sound (P := Try.prog) (aJ := aJ85) (aL := aL85) (f := 85) (args := [.pointer (some b)]) (Eq.mp (by kernel_rfl) h)
/-- (*strings.Builder).copyCheck -/
def V99 (H : Hp) (b : Addr) (K : Value → Hp → Prop) (Z : List PanicEntry → Hp → Prop) : Prop :=
  ∃ x : Option Addr, hcell H b = some (.pointer x) ∧ (((Option.isNone x) = true → Cvt Try.prog 90 144 H (.pointer (some b)) fun r H1 => 
    ∃ cv : Value, r = cv ∧ ExtF Try.prog 104 [cv] H1 fun r1 H2 => ∃ y : Value, r1 = y ∧ Cvt Try.prog 144 90 H2 (y) fun r2 H3 => 
    ∃ cv1 : Option Addr, r2 = .pointer cv1 ∧ StL b 0 [.pointer cv1] H3 fun H4 => (K (.tuple #[]) H4)) ∧ 
    ((Option.isNone x) = false → ∃ x1 : Option Addr, hcell H b = some (.pointer x1) ∧ PEq x1 b fun same => 
    (((!same) = true → False) ∧ ((!same) = false → K (.tuple #[]) H))))
def aJ99 : Ann := (fun _ => none)
def aL99 : Ann := (fun _ => none)
theorem V99_ok {H : Hp} {b : Addr} {K : Value → Hp → Prop} {Z : List PanicEntry → Hp → Prop} (h : V99 H b K Z) : CallF Try.prog 99 #[.pointer (some b)] H K Z :=
  fnC_sound (P := Try.prog) (aJ := aJ99) (aL := aL99) (f := 99) (args := [.pointer (some b)]) (Eq.mp (by kernel_rfl) h)
/-- weft/varint.groups -/
def V83 (H : Hp) (n : Int) (K : Value → Hp → Prop) (Z : List PanicEntry → Hp → Prop) : Prop :=
  ∀ bN H1, Newb H (.cells #[.int .i64 n] 3) bN H1 → K (.func (.func 100) #[] #[.pointer (some ⟨bN, 0, none⟩)]) H1
def aJ83 : Ann := (fun _ => none)
def aL83 : Ann := (fun _ => none)
theorem V83_ok {H : Hp} {n : Int} {K : Value → Hp → Prop} {Z : List PanicEntry → Hp → Prop} (h : V83 H n K Z) : CallF Try.prog 83 #[.int .i64 n] H K Z :=
  fnC_sound (P := Try.prog) (aJ := aJ83) (aL := aL83) (f := 83) (args := [.int .i64 n]) (Eq.mp (by kernel_rfl) h)
/-- weft/varint.groups$1 -/
def V100 (H : Hp) (yield : Value) (cap0 : Addr) (K : Value → Hp → Prop) (Z : List PanicEntry → Hp → Prop) : Prop :=
  ∃ I : Hp → Nat → Prop, (∃ m, I  H m) ∧ ∀ H1 m1, I  H1 m1 → ∀ scr : Nat → Value, ∃ x : Int, hcell H1 cap0 = some (.int .i64 x) ∧ 
    (((decide (x > 127)) = true → ∃ x1 : Int, hcell H1 cap0 = some (.int .i64 x1) ∧ callV Try.prog yield [.int .u8 (IntKind.wrap .u8 (bitOr .i64 (bitAnd .i64 x1 127) 128))] H1 (fun r H2 => 
    ∃ y : Bool, r = .bool y ∧ ((y = true → ∃ x2 : Int, hcell H2 cap0 = some (.int .i64 x2) ∧ StL cap0 0 [.int .i64 (Int.fdiv x2 (2 ^ 7))] H2 fun H3 => 
    (∃ m2, m2 < m1 ∧ I  H3 m2)) ∧ (y = false → ∃ x3 : Int, hcell H2 cap0 = some (.int .i64 x3) ∧ (((decide (x3 ≤ 127)) = true → 
    ∃ x4 : Int, hcell H2 cap0 = some (.int .i64 x4) ∧ callV Try.prog yield [.int .u8 (IntKind.wrap .u8 x4)] H2 (fun r1 H4 => 
    ∃ y1 : Bool, r1 = .bool y1 ∧ K (.tuple #[]) H4) Z) ∧ ((decide (x3 ≤ 127)) = false → K (.tuple #[]) H2))))) Z) ∧ 
    ((decide (x > 127)) = false → ∃ x5 : Int, hcell H1 cap0 = some (.int .i64 x5) ∧ (((decide (x5 ≤ 127)) = true → 
    ∃ x6 : Int, hcell H1 cap0 = some (.int .i64 x6) ∧ callV Try.prog yield [.int .u8 (IntKind.wrap .u8 x6)] H1 (fun r2 H5 => 
    ∃ y2 : Bool, r2 = .bool y2 ∧ K (.tuple #[]) H5) Z) ∧ ((decide (x5 ≤ 127)) = false → K (.tuple #[]) H1))))
def aJ100 : Ann := (fun _ => none)
def aL100 : Ann := (fun k => if k = 0 then some [] else none)
theorem V100_ok {H : Hp} {yield : Value} {cap0 : Addr} {K : Value → Hp → Prop} {Z : List PanicEntry → Hp → Prop} (h : V100 H yield cap0 K Z) : CallF Try.prog 100 #[yield, .pointer (some cap0)] H K Z :=
  fnC_sound (P := Try.prog) (aJ := aJ100) (aL := aL100) (f := 100) (args := [yield, .pointer (some cap0)]) (Eq.mp (by kernel_rfl) h)
/-- (*weft/varint.Writer).Number -/
def V61 (H : Hp) (w : Addr) (n : Int) (K : Value → Hp → Prop) (Z : List PanicEntry → Hp → Prop) : Prop :=
  ∀ bW H1, Newb H (.cells #[.pointer (some w)] 89) bW H1 → ∃ J : Hp → Prop, (∀ H2, J  H2 → ∀ scr : Nat → 
    Value, ∃ x : Option Addr, hcell H2 ⟨bW, 0, none⟩ = some (.pointer x) ∧ nilck x fun ad => (∃ x1 : Int, hcell H2 (Addr.add ad 2) = some (.int .i64 x1) ∧ 
    (((x1 != 0) = true → K (.tuple #[]) H2) ∧ ((x1 != 0) = false → CallF Try.prog 83 #[.int .i64 n] H2 (fun r H3 => 
    ∃ y : Value, r = y ∧ ∀ D H4, Newb H3 (.deferred (some [])) D H4 → ∀ l H5, Newb H4 (.loop (lrec Try.f61 61 5 [.pointer (some w), .int .i64 n, .pointer (some ⟨bW, 0, none⟩), undef, undef, (scr 5), (scr 6), (scr 7), (scr 8), (scr 9), (scr 10), (scr 11), (scr 12), (scr 13), (scr 14), (scr 15), (scr 16), (scr 17), (scr 18), (scr 19), (scr 20), .pointer x, .pointer (some ad), .pointer (some (Addr.add ad 2)), .int .i64 x1, .bool (x1 != 0), .int .i64 n, y, undef, undef, undef, undef, undef, undef] D)) l H5 → 
    callG Try.prog y [.func (.yield l) #[] #[]] H5 (fun _ H6 => endLoopK l H6 fun j H7 => jmpV j (H7[D]? = some (.deferred (some [])) ∧ 
    ∀ H8, H8 = H7.setIfInBounds D (.deferred none) → K (.tuple #[]) H8) (False) fun id => False) (fun _ _ => 
    False)) Z)))) ∧ ∃ x2 : Option Addr, hcell H1 ⟨bW, 0, none⟩ = some (.pointer x2) ∧ nilck x2 fun ad1 => 
    (∃ x3 : Int, hcell H1 (Addr.add ad1 2) = some (.int .i64 x3) ∧ (((x3 == 0) = true → (((decide (n < 0)) = true → 
    ∃ x4 : Option Addr, hcell H1 ⟨bW, 0, none⟩ = some (.pointer x4) ∧ nilck x4 fun ad2 => (StL (Addr.add ad2 2) 0 [.int .i64 2] H1 fun H9 => 
    (J  H9))) ∧ ((decide (n < 0)) = false → (((decide (n > 268435456)) = true → ∃ x5 : Option Addr, hcell H1 ⟨bW, 0, none⟩ = some (.pointer x5) ∧ 
    nilck x5 fun ad3 => (StL (Addr.add ad3 2) 0 [.int .i64 2] H1 fun H10 => (J  H10))) ∧ ((decide (n > 268435456)) = false → 
    (J  H1)))))) ∧ ((x3 == 0) = false → (J  H1))))
def aJ61 : Ann := (fun k => if k = 3 then some [] else none)
def aL61 : Ann := (fun _ => none)
theorem V61_ok {H : Hp} {w : Addr} {n : Int} {K : Value → Hp → Prop} {Z : List PanicEntry → Hp → Prop} (h : V61 H w n K Z) : CallF Try.prog 61 #[.pointer (some w), .int .i64 n] H K Z :=
  fnC_sound (P := Try.prog) (aJ := aJ61) (aL := aL61) (f := 61) (args := [.pointer (some w), .int .i64 n]) (Eq.mp (by kernel_rfl) h)
/-- a round of the loop over a function, number 5, in (*weft/varint.Writer).Number -/
def R61_5 (H11 : Hp) (bW : Nat) (l1 : Nat) (y28 : Int) (K : Value → Hp → Prop) : Prop :=
  (∃ r1, H11[l1]? = some (.loop r1) ∧ r1.state = .ready ∧ ∀ H12, H12 = H11.setIfInBounds l1 (.loop { r1 with state := .busy }) → 
    ∃ x6 : Option Addr, hcell H12 ⟨bW, 0, none⟩ = some (.pointer x6) ∧ nilck x6 fun ad4 => (CallF Try.prog 84 #[.pointer (some ad4), .int .u8 y28] H12 (fun r2 H13 => 
    ∃ y1 : Value, r2 = y1 ∧ endR l1 none H13 K) (fun _ _ => False)))
theorem R61_5_ok {H11 : Hp} {bW : Nat} {l1 : Nat} {y28 : Int} {u0 u1 u3 u4 u5 u6 u7 u8 u9 u10 u11 u12 u13 u14 u15 u16 u17 u18 u19 u20 u21 u22 u23 u24 u25 u26 u27 u28 u29 u30 u31 u32 u33 : Value} {K : Value → Hp → Prop} (h : R61_5 H11 bW l1 y28 K) : yldC Try.prog aJ61 aL61 Try.f61 61 5 l1 [u0, u1, .pointer (some ⟨bW, 0, none⟩), u3, u4, u5, u6, u7, u8, u9, u10, u11, u12, u13, u14, u15, u16, u17, u18, u19, u20, u21, u22, u23, u24, u25, u26, u27, u28, u29, u30, u31, u32, u33] [.int .u8 y28] H11 K := Eq.mp (by kernel_rfl) h
/-- (*weft/varint.Writer).Text -/
def V60 (H : Hp) (w : Addr) (s : ByteArray) (K : Value → Hp → Prop) (Z : List PanicEntry → Hp → Prop) : Prop :=
  ∃ x : Int, hcell H (Addr.add w 2) = some (.int .i64 x) ∧ (((x == 0) = true → (((decide ((s.size : Int) > 200000)) = true → 
    StL (Addr.add w 2) 0 [.int .i64 9] H fun H1 => (∃ x1 : Int, hcell H1 (Addr.add w 2) = some (.int .i64 x1) ∧ 
    (((x1 == 0) = true → CallF Try.prog 61 #[.pointer (some w), .int .i64 (s.size : Int)] H1 (fun r H2 => 
    r = .tuple #[] ∧ CallF Try.prog 82 #[.pointer (some w), .string s] H2 (fun r1 H3 => ∃ y_0 : Int, ∃ y_1 : Value, r1 = .tuple #[.int .i64 y_0, y_1] ∧ 
    K (.tuple #[]) H3) Z) Z) ∧ ((x1 == 0) = false → K (.tuple #[]) H1)))) ∧ ((decide ((s.size : Int) > 200000)) = false → 
    ∃ x2 : Int, hcell H (Addr.add w 2) = some (.int .i64 x2) ∧ (((x2 == 0) = true → CallF Try.prog 61 #[.pointer (some w), .int .i64 (s.size : Int)] H (fun r2 H4 => 
    r2 = .tuple #[] ∧ CallF Try.prog 82 #[.pointer (some w), .string s] H4 (fun r3 H5 => ∃ y_01 : Int, ∃ y_11 : Value, r3 = .tuple #[.int .i64 y_01, y_11] ∧ 
    K (.tuple #[]) H5) Z) Z) ∧ ((x2 == 0) = false → K (.tuple #[]) H))))) ∧ ((x == 0) = false → ∃ x3 : Int, hcell H (Addr.add w 2) = some (.int .i64 x3) ∧ 
    (((x3 == 0) = true → CallF Try.prog 61 #[.pointer (some w), .int .i64 (s.size : Int)] H (fun r4 H6 => 
    r4 = .tuple #[] ∧ CallF Try.prog 82 #[.pointer (some w), .string s] H6 (fun r5 H7 => ∃ y_02 : Int, ∃ y_12 : Value, r5 = .tuple #[.int .i64 y_02, y_12] ∧ 
    K (.tuple #[]) H7) Z) Z) ∧ ((x3 == 0) = false → K (.tuple #[]) H))))
def aJ60 : Ann := (fun _ => none)
def aL60 : Ann := (fun _ => none)
theorem V60_ok {H : Hp} {w : Addr} {s : ByteArray} {K : Value → Hp → Prop} {Z : List PanicEntry → Hp → Prop} (h : V60 H w s K Z) : CallF Try.prog 60 #[.pointer (some w), .string s] H K Z :=
  fnC_sound (P := Try.prog) (aJ := aJ60) (aL := aL60) (f := 60) (args := [.pointer (some w), .string s]) (Eq.mp (by kernel_rfl) h)
/-- (*weft/varint.Writer).Done -/
def V62 (H : Hp) (w : Addr) (K : Value → Hp → Prop) (Z : List PanicEntry → Hp → Prop) : Prop :=
  ∃ x : Int, hcell H (Addr.add w 2) = some (.int .i64 x) ∧ (((x != 0) = true → ∃ x1 : Int, hcell H (Addr.add w 2) = some (.int .i64 x1) ∧ 
    K (.tuple #[.string ⟨#[]⟩, .int .i64 x1]) H) ∧ ((x != 0) = false → CallF Try.prog 85 #[.pointer (some w)] H (fun r H1 => 
    ∃ y : ByteArray, r = .string y ∧ K (.tuple #[.string y, .int .i64 0]) H1) Z))
def aJ62 : Ann := (fun _ => none)
def aL62 : Ann := (fun _ => none)
theorem V62_ok {H : Hp} {w : Addr} {K : Value → Hp → Prop} {Z : List PanicEntry → Hp → Prop} (h : V62 H w K Z) : CallF Try.prog 62 #[.pointer (some w)] H K Z :=
  fnC_sound (P := Try.prog) (aJ := aJ62) (aL := aL62) (f := 62) (args := [.pointer (some w)]) (Eq.mp (by kernel_rfl) h)
/-- weft/weftref02.Number -/
def V59 (H : Hp) (n : Int) (K : Value → Hp → Prop) (Z : List PanicEntry → Hp → Prop) : Prop :=
  ∃ I : Int → ByteArray → Hp → Nat → Prop, (∃ m, I n ⟨#[]⟩ H m) ∧ ∀ (n1 : Int) (s : ByteArray), ∀ H1 m1, I n1 s H1 m1 → 
    ∀ scr : Nat → Value, (((decide (n1 ≥ 128)) = true → ∀ b H2, Newb H1 (.cells #[.int .u8 (IntKind.wrap .u8 ((IntKind.wrap .u8 (Int.tmod n1 128)) + 128))] 5) b H2 → 
    Cvt Try.prog 91 9 H2 (.slice (some ⟨b, 0, none⟩) 1 1) fun r H3 => ∃ cv : ByteArray, r = .string cv ∧ 
    (s.size + cv.size ≤ 4611686018427387904 ∧ (∃ m2, m2 < m1 ∧ I (w64 (Int.tdiv n1 128)) (s ++ cv) H3 m2))) ∧ 
    ((decide (n1 ≥ 128)) = false → ∀ b1 H4, Newb H1 (.cells #[.int .u8 (IntKind.wrap .u8 n1)] 5) b1 H4 → 
    Cvt Try.prog 91 9 H4 (.slice (some ⟨b1, 0, none⟩) 1 1) fun r1 H5 => ∃ cv1 : ByteArray, r1 = .string cv1 ∧ 
    (s.size + cv1.size ≤ 4611686018427387904 ∧ K (.string (s ++ cv1)) H5)))
def aJ59 : Ann := (fun _ => none)
def aL59 : Ann := (fun k => if k = 2 then some [(0, (.sc (.int .i64))), (3, (.sc .str))] else none)
theorem V59_ok {H : Hp} {n : Int} {K : Value → Hp → Prop} {Z : List PanicEntry → Hp → Prop} (h : V59 H n K Z) : CallF Try.prog 59 #[.int .i64 n] H K Z :=
  fnC_sound (P := Try.prog) (aJ := aJ59) (aL := aL59) (f := 59) (args := [.int .i64 n]) (Eq.mp (by kernel_rfl) h)
/-- (*weft/weftref02.Writer).Number -/
def V17 (H : Hp) (w : Addr) (n : Int) (K : Value → Hp → Prop) (Z : List PanicEntry → Hp → Prop) : Prop :=
  ∃ x : Int, hcell H (Addr.add w 1) = some (.int .i64 x) ∧ (((x != 0) = true → K (.tuple #[]) H) ∧ ((x != 0) = false → 
    (((decide (n < 0)) = true → StL (Addr.add w 1) 0 [.int .i64 2] H fun H1 => (K (.tuple #[]) H1)) ∧ 
    ((decide (n < 0)) = false → (((decide (n > 268435456)) = true → StL (Addr.add w 1) 0 [.int .i64 2] H fun H2 => 
    (K (.tuple #[]) H2)) ∧ ((decide (n > 268435456)) = false → ((∃ x1 : ByteArray, hcell H w = some (.string x1) ∧ 
    CallF Try.prog 59 #[.int .i64 n] H (fun r H3 => ∃ y : ByteArray, r = .string y ∧ (x1.size + y.size ≤ 4611686018427387904 ∧ 
    StL w 0 [.string (x1 ++ y)] H3 fun H4 => (K (.tuple #[]) H4))) Z) ∧ (CallF Try.prog 59 #[.int .i64 n] H (fun r1 H5 => 
    ∃ y1 : ByteArray, r1 = .string y1 ∧ ∃ x2 : ByteArray, hcell H5 w = some (.string x2) ∧ (x2.size + y1.size ≤ 4611686018427387904 ∧ 
    StL w 0 [.string (x2 ++ y1)] H5 fun H6 => (K (.tuple #[]) H6))) Z))))))))
def aJ17 : Ann := (fun _ => none)
def aL17 : Ann := (fun _ => none)
theorem V17_ok {H : Hp} {w : Addr} {n : Int} {K : Value → Hp → Prop} {Z : List PanicEntry → Hp → Prop} (h : V17 H w n K Z) : CallF Try.prog 17 #[.pointer (some w), .int .i64 n] H K Z :=
  fnC_sound (P := Try.prog) (aJ := aJ17) (aL := aL17) (f := 17) (args := [.pointer (some w), .int .i64 n]) (Eq.mp (by kernel_rfl) h)
/-- (*weft/weftref02.Writer).Text -/
def V16 (H : Hp) (w : Addr) (s : ByteArray) (K : Value → Hp → Prop) (Z : List PanicEntry → Hp → Prop) : Prop :=
  ∃ x : Int, hcell H (Addr.add w 1) = some (.int .i64 x) ∧ (((x != 0) = true → K (.tuple #[]) H) ∧ ((x != 0) = false → 
    (((decide ((s.size : Int) > 200000)) = true → StL (Addr.add w 1) 0 [.int .i64 9] H fun H1 => (K (.tuple #[]) H1)) ∧ 
    ((decide ((s.size : Int) > 200000)) = false → ((∃ x1 : ByteArray, hcell H w = some (.string x1) ∧ 
    CallF Try.prog 59 #[.int .i64 (s.size : Int)] H (fun r H2 => ∃ y : ByteArray, r = .string y ∧ (x1.size + y.size ≤ 4611686018427387904 ∧ 
    ((x1 ++ y).size + s.size ≤ 4611686018427387904 ∧ StL w 0 [.string ((x1 ++ y) ++ s)] H2 fun H3 => 
    (K (.tuple #[]) H3)))) Z) ∧ (CallF Try.prog 59 #[.int .i64 (s.size : Int)] H (fun r1 H4 => ∃ y1 : ByteArray, r1 = .string y1 ∧ 
    ∃ x2 : ByteArray, hcell H4 w = some (.string x2) ∧ (x2.size + y1.size ≤ 4611686018427387904 ∧ ((x2 ++ y1).size + s.size ≤ 4611686018427387904 ∧ 
    StL w 0 [.string ((x2 ++ y1) ++ s)] H4 fun H5 => (K (.tuple #[]) H5)))) Z))))))
def aJ16 : Ann := (fun _ => none)
def aL16 : Ann := (fun _ => none)
theorem V16_ok {H : Hp} {w : Addr} {s : ByteArray} {K : Value → Hp → Prop} {Z : List PanicEntry → Hp → Prop} (h : V16 H w s K Z) : CallF Try.prog 16 #[.pointer (some w), .string s] H K Z :=
  fnC_sound (P := Try.prog) (aJ := aJ16) (aL := aL16) (f := 16) (args := [.pointer (some w), .string s]) (Eq.mp (by kernel_rfl) h)
/-- (*weft/weftref02.Writer).Done -/
def V19 (H : Hp) (w : Addr) (K : Value → Hp → Prop) (Z : List PanicEntry → Hp → Prop) : Prop :=
  ∃ x : Int, hcell H (Addr.add w 1) = some (.int .i64 x) ∧ (((x != 0) = true → ∃ x1 : Int, hcell H (Addr.add w 1) = some (.int .i64 x1) ∧ 
    K (.tuple #[.string ⟨#[]⟩, .int .i64 x1]) H) ∧ ((x != 0) = false → ∃ x2 : ByteArray, hcell H w = some (.string x2) ∧ 
    K (.tuple #[.string x2, .int .i64 0]) H))
def aJ19 : Ann := (fun _ => none)
def aL19 : Ann := (fun _ => none)
theorem V19_ok {H : Hp} {w : Addr} {K : Value → Hp → Prop} {Z : List PanicEntry → Hp → Prop} (h : V19 H w K Z) : CallF Try.prog 19 #[.pointer (some w)] H K Z :=
  fnC_sound (P := Try.prog) (aJ := aJ19) (aL := aL19) (f := 19) (args := [.pointer (some w)]) (Eq.mp (by kernel_rfl) h)
/-- weft/weftlaw02.light -/
def V15 (H : Hp) (l : Sl) (K : Value → Hp → Prop) (Z : List PanicEntry → Hp → Prop) : Prop :=
  ∃ I : Int → Int → Hp → Nat → Prop, (∃ m, I 0 0 H m) ∧ ∀ (n : Int) (i : Int), ∀ H1 m1, I n i H1 m1 → 
    ∀ scr : Nat → Value, (((decide (i < (l.n : Int))) = true → IxA l.a l.n i 3 fun ad => (∃ x : ByteArray, hcell H1 (Addr.add ad 2) = some (.string x) ∧ 
    (((decide (i ≥ 300)) = true → K (.bool false) H1) ∧ ((decide (i ≥ 300)) = false → (((decide ((w64 (n + (x.size : Int))) > 20000)) = true → 
    K (.bool false) H1) ∧ ((decide ((w64 (n + (x.size : Int))) > 20000)) = false → (∃ m2, m2 < m1 ∧ I (w64 (n + (x.size : Int))) (w64 (i + 1)) H1 m2))))))) ∧ 
    ((decide (i < (l.n : Int))) = false → K (.bool true) H1))
def aJ15 : Ann := (fun _ => none)
def aL15 : Ann := (fun k => if k = 3 then some [(3, (.sc (.int .i64))), (4, (.sc (.int .i64)))] else none)
theorem V15_ok {H : Hp} {l : Sl} {K : Value → Hp → Prop} {Z : List PanicEntry → Hp → Prop} (h : V15 H l K Z) : CallF Try.prog 15 #[.slice l.a l.n l.c] H K Z :=
  fnC_sound (P := Try.prog) (aJ := aJ15) (aL := aL15) (f := 15) (args := [.slice l.a l.n l.c]) (Eq.mp (by kernel_rfl) h)
/-- weft/weftlaw02.write -/
def V18 (H : Hp) (l : Sl) (K : Value → Hp → Prop) (Z : List PanicEntry → Hp → Prop) : Prop :=
  ∀ b H1, Newb H (.cells #[.pointer none, .slice none 0 0, .int .i64 0] 95) b H1 → ∃ I : Int → Hp → Nat → 
    Prop, (∃ m, I 0 H1 m) ∧ ∀ (i : Int), ∀ H2 m1, I i H2 m1 → ∀ scr : Nat → Value, (((decide (i < (l.n : Int))) = true → 
    IxA l.a l.n i 3 fun ad => (∃ x : Bool, hcell H2 ad = some (.bool x) ∧ ((x = true → IxA l.a l.n i 3 fun ad1 => 
    (∃ x1 : ByteArray, hcell H2 (Addr.add ad1 2) = some (.string x1) ∧ CallF Try.prog 60 #[.pointer (some ⟨b, 0, none⟩), .string x1] H2 (fun r H3 => 
    r = .tuple #[] ∧ (∃ m2, m2 < m1 ∧ I (w64 (i + 1)) H3 m2)) Z)) ∧ (x = false → IxA l.a l.n i 3 fun ad2 => 
    (∃ x2 : Int, hcell H2 (Addr.add ad2 1) = some (.int .i64 x2) ∧ CallF Try.prog 61 #[.pointer (some ⟨b, 0, none⟩), .int .i64 x2] H2 (fun r1 H4 => 
    r1 = .tuple #[] ∧ (∃ m2, m2 < m1 ∧ I (w64 (i + 1)) H4 m2)) Z))))) ∧ ((decide (i < (l.n : Int))) = false → 
    CallF Try.prog 62 #[.pointer (some ⟨b, 0, none⟩)] H2 (fun r2 H5 => ∃ y_0 : ByteArray, ∃ y_1 : Int, r2 = .tuple #[.string y_0, .int .i64 y_1] ∧ 
    K (.tuple #[.string y_0, .int .i64 y_1]) H5) Z))
def aJ18 : Ann := (fun _ => none)
def aL18 : Ann := (fun k => if k = 3 then some [(5, (.sc (.int .i64)))] else none)
theorem V18_ok {H : Hp} {l : Sl} {K : Value → Hp → Prop} {Z : List PanicEntry → Hp → Prop} (h : V18 H l K Z) : CallF Try.prog 18 #[.slice l.a l.n l.c] H K Z :=
  fnC_sound (P := Try.prog) (aJ := aJ18) (aL := aL18) (f := 18) (args := [.slice l.a l.n l.c]) (Eq.mp (by kernel_rfl) h)
/-- weft/weftlaw02.works -/
def V25 (H : Hp)  (K : Value → Hp → Prop) (Z : List PanicEntry → Hp → Prop) : Prop :=
  ∀ b H1, Newb H (.cells #[.bool false, .int .i64 300, .string ⟨#[]⟩, .bool true, .int .i64 0, .string ⟨#[97, 98]⟩] 29) b H1 → 
    CallF Try.prog 18 #[.slice (some ⟨b, 0, none⟩) 2 2] H1 (fun r H2 => ∃ y_0 : ByteArray, ∃ y_1 : Int, r = .tuple #[.string y_0, .int .i64 y_1] ∧ 
    (((beqS y_0 ⟨#[172, 2, 2, 97, 98]⟩) = true → K (.bool (y_1 == 0)) H2) ∧ ((beqS y_0 ⟨#[172, 2, 2, 97, 98]⟩) = false → 
    K (.bool false) H2))) Z
def aJ25 : Ann := (fun _ => none)
def aL25 : Ann := (fun _ => none)
theorem V25_ok {H : Hp}  {K : Value → Hp → Prop} {Z : List PanicEntry → Hp → Prop} (h : V25 H  K Z) : CallF Try.prog 25 #[] H K Z :=
  fnC_sound (P := Try.prog) (aJ := aJ25) (aL := aL25) (f := 25) (args := []) (Eq.mp (by kernel_rfl) h)
/-- weft/weftlaw02.VarintWrites -/
def V3 (H : Hp) (l : Sl) (K : Value → Hp → Prop) (Z : List PanicEntry → Hp → Prop) : Prop :=
  CallF Try.prog 15 #[.slice l.a l.n l.c] H (fun r H1 => ∃ y : Bool, r = .bool y ∧ (((!y) = true → K (.bool true) H1) ∧ 
    ((!y) = false → ∀ b H2, Newb H1 (.cells #[.string ⟨#[]⟩, .int .i64 0] 27) b H2 → ∃ I : Int → Hp → 
    Nat → Prop, (∃ m, I 0 H2 m) ∧ ∀ (i : Int), ∀ H3 m1, I i H3 m1 → ∀ scr : Nat → Value, (((decide (i < (l.n : Int))) = true → 
    IxA l.a l.n i 3 fun ad => (∃ x : Bool, hcell H3 ad = some (.bool x) ∧ ((x = true → IxA l.a l.n i 3 fun ad1 => 
    (∃ x1 : ByteArray, hcell H3 (Addr.add ad1 2) = some (.string x1) ∧ CallF Try.prog 16 #[.pointer (some ⟨b, 0, none⟩), .string x1] H3 (fun r1 H4 => 
    r1 = .tuple #[] ∧ (∃ m2, m2 < m1 ∧ I (w64 (i + 1)) H4 m2)) Z)) ∧ (x = false → IxA l.a l.n i 3 fun ad2 => 
    (∃ x2 : Int, hcell H3 (Addr.add ad2 1) = some (.int .i64 x2) ∧ CallF Try.prog 17 #[.pointer (some ⟨b, 0, none⟩), .int .i64 x2] H3 (fun r2 H5 => 
    r2 = .tuple #[] ∧ (∃ m2, m2 < m1 ∧ I (w64 (i + 1)) H5 m2)) Z))))) ∧ ((decide (i < (l.n : Int))) = false → 
    CallF Try.prog 18 #[.slice l.a l.n l.c] H3 (fun r3 H6 => ∃ y_0 : ByteArray, ∃ y_1 : Int, r3 = .tuple #[.string y_0, .int .i64 y_1] ∧ 
    CallF Try.prog 19 #[.pointer (some ⟨b, 0, none⟩)] H6 (fun r4 H7 => ∃ y_01 : ByteArray, ∃ y_11 : Int, r4 = .tuple #[.string y_01, .int .i64 y_11] ∧ 
    (((beqS y_0 y_01) = true → K (.bool (y_1 == y_11)) H7) ∧ ((beqS y_0 y_01) = false → K (.bool false) H7))) Z) Z))))) Z
def aJ3 : Ann := (fun _ => none)
def aL3 : Ann := (fun k => if k = 5 then some [(4, (.sc (.int .i64)))] else none)
theorem V3_ok {H : Hp} {l : Sl} {K : Value → Hp → Prop} {Z : List PanicEntry → Hp → Prop} (h : V3 H l K Z) : CallF Try.prog 3 #[.slice l.a l.n l.c] H K Z :=
  fnC_sound (P := Try.prog) (aJ := aJ3) (aL := aL3) (f := 3) (args := [.slice l.a l.n l.c]) (Eq.mp (by kernel_rfl) h)
/-- weft/weftlaw02.VarintReads -/
def V9 (H : Hp) (s : ByteArray) (l : Sl) (K : Value → Hp → Prop) (Z : List PanicEntry → Hp → Prop) : Prop :=
  CallF Try.prog 26 #[.string s] H (fun r H1 => ∃ y : Option Addr, r = .pointer y ∧ ∀ b H2, Newb H1 (.cells #[.string s, .int .i64 0, .int .i64 0] 58) b H2 → 
    (((Option.isNone y) = true → K (.bool false) H2) ∧ ((Option.isNone y) = false → ∃ I : Int → Hp → 
    Nat → Prop, (∃ m, I 0 H2 m) ∧ ∀ (i : Int), ∀ H3 m1, I i H3 m1 → ∀ scr : Nat → Value, ∃ J : Hp → Prop, (∀ H4, J  H4 → 
    ∀ scr1 : Nat → Value, IxA l.a l.n i 1 fun ad => (∃ x : Int, hcell H4 ad = some (.int .i64 x) ∧ (((x == 0) = true → 
    CallF Try.prog 28 #[.pointer y] H4 (fun r1 H5 => ∃ y1 : Int, r1 = .int .i64 y1 ∧ CallF Try.prog 34 #[.pointer (some ⟨b, 0, none⟩)] H5 (fun r2 H6 => 
    ∃ y2 : Int, r2 = .int .i64 y2 ∧ (((y1 != y2) = true → K (.bool false) H6) ∧ ((y1 != y2) = false → 
    CallF Try.prog 29 #[.pointer y] H6 (fun r3 H7 => ∃ y_0 : Int, ∃ y_1 : Int, r3 = .tuple #[.int .i64 y_0, .int .i64 y_1] ∧ 
    CallF Try.prog 38 #[.pointer (some ⟨b, 0, none⟩)] H7 (fun r4 H8 => ∃ y_01 : Int, ∃ y_11 : Int, r4 = .tuple #[.int .i64 y_01, .int .i64 y_11] ∧ 
    (((y_0 != y_01) = true → K (.bool false) H8) ∧ ((y_0 != y_01) = false → (((y_1 != y_11) = true → 
    K (.bool false) H8) ∧ ((y_1 != y_11) = false → (∃ m2, m2 < m1 ∧ I (w64 (i + 1)) H8 m2)))))) Z) Z))) Z) Z) ∧ 
    ((x == 0) = false → (((x == 1) = true → CallF Try.prog 27 #[.pointer y] H4 (fun r5 H9 => ∃ y3 : ByteArray, r5 = .string y3 ∧ 
    CallF Try.prog 35 #[.pointer (some ⟨b, 0, none⟩)] H9 (fun r6 H10 => ∃ y4 : ByteArray, r6 = .string y4 ∧ 
    (((!(beqS y3 y4)) = true → K (.bool false) H10) ∧ ((!(beqS y3 y4)) = false → CallF Try.prog 29 #[.pointer y] H10 (fun r7 H11 => 
    ∃ y_02 : Int, ∃ y_12 : Int, r7 = .tuple #[.int .i64 y_02, .int .i64 y_12] ∧ CallF Try.prog 38 #[.pointer (some ⟨b, 0, none⟩)] H11 (fun r8 H12 => 
    ∃ y_03 : Int, ∃ y_13 : Int, r8 = .tuple #[.int .i64 y_03, .int .i64 y_13] ∧ (((y_02 != y_03) = true → 
    K (.bool false) H12) ∧ ((y_02 != y_03) = false → (((y_12 != y_13) = true → K (.bool false) H12) ∧ 
    ((y_12 != y_13) = false → (∃ m2, m2 < m1 ∧ I (w64 (i + 1)) H12 m2)))))) Z) Z))) Z) Z) ∧ ((x == 1) = false → 
    (((x == 2) = true → CallF Try.prog 36 #[.pointer y, .int .i64 5] H4 (fun r9 H13 => r9 = .tuple #[] ∧ 
    CallF Try.prog 37 #[.pointer (some ⟨b, 0, none⟩), .int .i64 5] H13 (fun r10 H14 => r10 = .tuple #[] ∧ 
    CallF Try.prog 29 #[.pointer y] H14 (fun r11 H15 => ∃ y_04 : Int, ∃ y_14 : Int, r11 = .tuple #[.int .i64 y_04, .int .i64 y_14] ∧ 
    CallF Try.prog 38 #[.pointer (some ⟨b, 0, none⟩)] H15 (fun r12 H16 => ∃ y_05 : Int, ∃ y_15 : Int, r12 = .tuple #[.int .i64 y_05, .int .i64 y_15] ∧ 
    (((y_04 != y_05) = true → K (.bool false) H16) ∧ ((y_04 != y_05) = false → (((y_14 != y_15) = true → 
    K (.bool false) H16) ∧ ((y_14 != y_15) = false → (∃ m2, m2 < m1 ∧ I (w64 (i + 1)) H16 m2)))))) Z) Z) Z) Z) ∧ 
    ((x == 2) = false → (((x == 3) = true → CallF Try.prog 36 #[.pointer y, .int .i64 0] H4 (fun r13 H17 => 
    r13 = .tuple #[] ∧ CallF Try.prog 37 #[.pointer (some ⟨b, 0, none⟩), .int .i64 0] H17 (fun r14 H18 => 
    r14 = .tuple #[] ∧ CallF Try.prog 29 #[.pointer y] H18 (fun r15 H19 => ∃ y_06 : Int, ∃ y_16 : Int, r15 = .tuple #[.int .i64 y_06, .int .i64 y_16] ∧ 
    CallF Try.prog 38 #[.pointer (some ⟨b, 0, none⟩)] H19 (fun r16 H20 => ∃ y_07 : Int, ∃ y_17 : Int, r16 = .tuple #[.int .i64 y_07, .int .i64 y_17] ∧ 
    (((y_06 != y_07) = true → K (.bool false) H20) ∧ ((y_06 != y_07) = false → (((y_16 != y_17) = true → 
    K (.bool false) H20) ∧ ((y_16 != y_17) = false → (∃ m2, m2 < m1 ∧ I (w64 (i + 1)) H20 m2)))))) Z) Z) Z) Z) ∧ 
    ((x == 3) = false → CallF Try.prog 29 #[.pointer y] H4 (fun r17 H21 => ∃ y_08 : Int, ∃ y_18 : Int, r17 = .tuple #[.int .i64 y_08, .int .i64 y_18] ∧ 
    CallF Try.prog 38 #[.pointer (some ⟨b, 0, none⟩)] H21 (fun r18 H22 => ∃ y_09 : Int, ∃ y_19 : Int, r18 = .tuple #[.int .i64 y_09, .int .i64 y_19] ∧ 
    (((y_08 != y_09) = true → K (.bool false) H22) ∧ ((y_08 != y_09) = false → (((y_18 != y_19) = true → 
    K (.bool false) H22) ∧ ((y_18 != y_19) = false → (∃ m2, m2 < m1 ∧ I (w64 (i + 1)) H22 m2)))))) Z) Z)))))))))) ∧ 
    (((decide (i < (l.n : Int))) = true → (((decide (i < 300)) = true → (J  H3)) ∧ ((decide (i < 300)) = false → 
    CallF Try.prog 25 #[] H3 (fun r19 H23 => ∃ y5 : Bool, r19 = .bool y5 ∧ K (.bool y5) H23) Z))) ∧ ((decide (i < (l.n : Int))) = false → 
    CallF Try.prog 25 #[] H3 (fun r20 H24 => ∃ y6 : Bool, r20 = .bool y6 ∧ K (.bool y6) H24) Z))))) Z
def aJ9 : Ann := (fun k => if k = 8 then some [] else none)
def aL9 : Ann := (fun k => if k = 6 then some [(7, (.sc (.int .i64)))] else none)
theorem V9_ok {H : Hp} {s : ByteArray} {l : Sl} {K : Value → Hp → Prop} {Z : List PanicEntry → Hp → Prop} (h : V9 H s l K Z) : CallF Try.prog 9 #[.string s, .slice l.a l.n l.c] H K Z :=
  fnC_sound (P := Try.prog) (aJ := aJ9) (aL := aL9) (f := 9) (args := [.string s, .slice l.a l.n l.c]) (Eq.mp (by kernel_rfl) h)
/-- weft/weftlaw02.VarintBack -/
def V5 (H : Hp) (l : Sl) (K : Value → Hp → Prop) (Z : List PanicEntry → Hp → Prop) : Prop :=
  CallF Try.prog 25 #[] H (fun r H1 => ∃ y : Bool, r = .bool y ∧ (((!y) = true → K (.bool false) H1) ∧ 
    ((!y) = false → CallF Try.prog 15 #[.slice l.a l.n l.c] H1 (fun r1 H2 => ∃ y1 : Bool, r1 = .bool y1 ∧ 
    (((!y1) = true → K (.bool true) H2) ∧ ((!y1) = false → CallF Try.prog 18 #[.slice l.a l.n l.c] H2 (fun r2 H3 => 
    ∃ y_0 : ByteArray, ∃ y_1 : Int, r2 = .tuple #[.string y_0, .int .i64 y_1] ∧ (((y_1 != 0) = true → 
    K (.bool true) H3) ∧ ((y_1 != 0) = false → CallF Try.prog 26 #[.string y_0] H3 (fun r3 H4 => ∃ y2 : Option Addr, r3 = .pointer y2 ∧ 
    (((Option.isNone y2) = true → K (.bool false) H4) ∧ ((Option.isNone y2) = false → ∃ I : Int → Hp → 
    Nat → Prop, (∃ m, I 0 H4 m) ∧ ∀ (i : Int), ∀ H5 m1, I i H5 m1 → ∀ scr : Nat → Value, (((decide (i < (l.n : Int))) = true → 
    IxA l.a l.n i 3 fun ad => (∃ x : Bool, hcell H5 ad = some (.bool x) ∧ ((x = true → IxA l.a l.n i 3 fun ad1 => 
    ((CallF Try.prog 27 #[.pointer y2] H5 (fun r4 H6 => ∃ y3 : ByteArray, r4 = .string y3 ∧ ∃ x1 : ByteArray, hcell H6 (Addr.add ad1 2) = some (.string x1) ∧ 
    (((!(beqS y3 x1)) = true → ((K (.bool false) H6) ∧ (K (.bool false) H6))) ∧ ((!(beqS y3 x1)) = false → 
    IxA l.a l.n i 3 fun ad2 => (∃ x2 : Bool, hcell H6 ad2 = some (.bool x2) ∧ (((!x2) = true → IxA l.a l.n i 3 fun ad3 => 
    ((CallF Try.prog 28 #[.pointer y2] H6 (fun r5 H7 => ∃ y4 : Int, r5 = .int .i64 y4 ∧ ∃ x3 : Int, hcell H7 (Addr.add ad3 1) = some (.int .i64 x3) ∧ 
    (((y4 != x3) = true → K (.bool false) H7) ∧ ((y4 != x3) = false → (∃ m2, m2 < m1 ∧ I (w64 (i + 1)) H7 m2)))) Z) ∧ 
    (∃ x4 : Int, hcell H6 (Addr.add ad3 1) = some (.int .i64 x4) ∧ CallF Try.prog 28 #[.pointer y2] H6 (fun r6 H8 => 
    ∃ y5 : Int, r6 = .int .i64 y5 ∧ (((y5 != x4) = true → K (.bool false) H8) ∧ ((y5 != x4) = false → 
    (∃ m2, m2 < m1 ∧ I (w64 (i + 1)) H8 m2)))) Z))) ∧ ((!x2) = false → ((∃ m2, m2 < m1 ∧ I (w64 (i + 1)) H6 m2) ∧ 
    (∃ m2, m2 < m1 ∧ I (w64 (i + 1)) H6 m2)))))))) Z) ∧ (∃ x5 : ByteArray, hcell H5 (Addr.add ad1 2) = some (.string x5) ∧ 
    CallF Try.prog 27 #[.pointer y2] H5 (fun r7 H9 => ∃ y6 : ByteArray, r7 = .string y6 ∧ (((!(beqS y6 x5)) = true → 
    ((K (.bool false) H9) ∧ (K (.bool false) H9))) ∧ ((!(beqS y6 x5)) = false → IxA l.a l.n i 3 fun ad4 => 
    (∃ x6 : Bool, hcell H9 ad4 = some (.bool x6) ∧ (((!x6) = true → IxA l.a l.n i 3 fun ad5 => ((CallF Try.prog 28 #[.pointer y2] H9 (fun r8 H10 => 
    ∃ y7 : Int, r8 = .int .i64 y7 ∧ ∃ x7 : Int, hcell H10 (Addr.add ad5 1) = some (.int .i64 x7) ∧ (((y7 != x7) = true → 
    K (.bool false) H10) ∧ ((y7 != x7) = false → (∃ m2, m2 < m1 ∧ I (w64 (i + 1)) H10 m2)))) Z) ∧ (∃ x8 : Int, hcell H9 (Addr.add ad5 1) = some (.int .i64 x8) ∧ 
    CallF Try.prog 28 #[.pointer y2] H9 (fun r9 H11 => ∃ y8 : Int, r9 = .int .i64 y8 ∧ (((y8 != x8) = true → 
    K (.bool false) H11) ∧ ((y8 != x8) = false → (∃ m2, m2 < m1 ∧ I (w64 (i + 1)) H11 m2)))) Z))) ∧ ((!x6) = false → 
    ((∃ m2, m2 < m1 ∧ I (w64 (i + 1)) H9 m2) ∧ (∃ m2, m2 < m1 ∧ I (w64 (i + 1)) H9 m2)))))))) Z))) ∧ 
    (x = false → ((IxA l.a l.n i 3 fun ad6 => (∃ x9 : Bool, hcell H5 ad6 = some (.bool x9) ∧ (((!x9) = true → 
    IxA l.a l.n i 3 fun ad7 => ((CallF Try.prog 28 #[.pointer y2] H5 (fun r10 H12 => ∃ y9 : Int, r10 = .int .i64 y9 ∧ 
    ∃ x10 : Int, hcell H12 (Addr.add ad7 1) = some (.int .i64 x10) ∧ (((y9 != x10) = true → K (.bool false) H12) ∧ 
    ((y9 != x10) = false → (∃ m2, m2 < m1 ∧ I (w64 (i + 1)) H12 m2)))) Z) ∧ (∃ x11 : Int, hcell H5 (Addr.add ad7 1) = some (.int .i64 x11) ∧ 
    CallF Try.prog 28 #[.pointer y2] H5 (fun r11 H13 => ∃ y10 : Int, r11 = .int .i64 y10 ∧ (((y10 != x11) = true → 
    K (.bool false) H13) ∧ ((y10 != x11) = false → (∃ m2, m2 < m1 ∧ I (w64 (i + 1)) H13 m2)))) Z))) ∧ 
    ((!x9) = false → ((∃ m2, m2 < m1 ∧ I (w64 (i + 1)) H5 m2) ∧ (∃ m2, m2 < m1 ∧ I (w64 (i + 1)) H5 m2)))))) ∧ 
    (IxA l.a l.n i 3 fun ad8 => (∃ x12 : Bool, hcell H5 ad8 = some (.bool x12) ∧ (((!x12) = true → IxA l.a l.n i 3 fun ad9 => 
    ((CallF Try.prog 28 #[.pointer y2] H5 (fun r12 H14 => ∃ y11 : Int, r12 = .int .i64 y11 ∧ ∃ x13 : Int, hcell H14 (Addr.add ad9 1) = some (.int .i64 x13) ∧ 
    (((y11 != x13) = true → K (.bool false) H14) ∧ ((y11 != x13) = false → (∃ m2, m2 < m1 ∧ I (w64 (i + 1)) H14 m2)))) Z) ∧ 
    (∃ x14 : Int, hcell H5 (Addr.add ad9 1) = some (.int .i64 x14) ∧ CallF Try.prog 28 #[.pointer y2] H5 (fun r13 H15 => 
    ∃ y12 : Int, r13 = .int .i64 y12 ∧ (((y12 != x14) = true → K (.bool false) H15) ∧ ((y12 != x14) = false → 
    (∃ m2, m2 < m1 ∧ I (w64 (i + 1)) H15 m2)))) Z))) ∧ ((!x12) = false → ((∃ m2, m2 < m1 ∧ I (w64 (i + 1)) H5 m2) ∧ 
    (∃ m2, m2 < m1 ∧ I (w64 (i + 1)) H5 m2))))))))))) ∧ ((decide (i < (l.n : Int))) = false → CallF Try.prog 29 #[.pointer y2] H5 (fun r14 H16 => 
    ∃ y_01 : Int, ∃ y_11 : Int, r14 = .tuple #[.int .i64 y_01, .int .i64 y_11] ∧ (((y_01 == (y_0.size : Int)) = true → 
    K (.bool (y_11 == 0)) H16) ∧ ((y_01 == (y_0.size : Int)) = false → K (.bool false) H16))) Z))))) Z))) Z))) Z))) Z
def aJ5 : Ann := (fun _ => none)
def aL5 : Ann := (fun k => if k = 12 then some [(6, (.sc (.int .i64)))] else none)
theorem V5_ok {H : Hp} {l : Sl} {K : Value → Hp → Prop} {Z : List PanicEntry → Hp → Prop} (h : V5 H l K Z) : CallF Try.prog 5 #[.slice l.a l.n l.c] H K Z :=
  fnC_sound (P := Try.prog) (aJ := aJ5) (aL := aL5) (f := 5) (args := [.slice l.a l.n l.c]) (Eq.mp (by kernel_rfl) h)
/-- weft/weftlaw02.VarintOne -/
def V6 (H : Hp) (s : ByteArray) (K : Value → Hp → Prop) (Z : List PanicEntry → Hp → Prop) : Prop :=
  CallF Try.prog 25 #[] H (fun r H1 => ∃ y : Bool, r = .bool y ∧ (((!y) = true → K (.bool false) H1) ∧ 
    ((!y) = false → (((decide ((s.size : Int) > 20000)) = true → K (.bool true) H1) ∧ ((decide ((s.size : Int) > 20000)) = false → 
    CallF Try.prog 26 #[.string s] H1 (fun r1 H2 => ∃ y1 : Option Addr, r1 = .pointer y1 ∧ (((Option.isNone y1) = true → 
    K (.bool false) H2) ∧ ((Option.isNone y1) = false → CallF Try.prog 28 #[.pointer y1] H2 (fun r2 H3 => 
    ∃ y2 : Int, r2 = .int .i64 y2 ∧ CallF Try.prog 27 #[.pointer y1] H3 (fun r3 H4 => ∃ y3 : ByteArray, r3 = .string y3 ∧ 
    CallF Try.prog 29 #[.pointer y1] H4 (fun r4 H5 => ∃ y_0 : Int, ∃ y_1 : Int, r4 = .tuple #[.int .i64 y_0, .int .i64 y_1] ∧ 
    (((y_1 != 0) = true → K (.bool true) H5) ∧ ((y_1 != 0) = false → ∀ b H6, Newb H5 (.cells #[.bool false, .int .i64 y2, .string ⟨#[]⟩, .bool true, .int .i64 0, .string y3] 29) b H6 → 
    CallF Try.prog 18 #[.slice (some ⟨b, 0, none⟩) 2 2] H6 (fun r5 H7 => ∃ y_01 : ByteArray, ∃ y_11 : Int, r5 = .tuple #[.string y_01, .int .i64 y_11] ∧ 
    (((y_11 == 0) = true → K (.bool (beqS y_01 s)) H7) ∧ ((y_11 == 0) = false → K (.bool false) H7))) Z))) Z) Z) Z))) Z))))) Z
def aJ6 : Ann := (fun _ => none)
def aL6 : Ann := (fun _ => none)
theorem V6_ok {H : Hp} {s : ByteArray} {K : Value → Hp → Prop} {Z : List PanicEntry → Hp → Prop} (h : V6 H s K Z) : CallF Try.prog 6 #[.string s] H K Z :=
  fnC_sound (P := Try.prog) (aJ := aJ6) (aL := aL6) (f := 6) (args := [.string s]) (Eq.mp (by kernel_rfl) h)
/-- weft/varint.New -/
def V26 (H : Hp) (s : ByteArray) (K : Value → Hp → Prop) (Z : List PanicEntry → Hp → Prop) : Prop :=
  ∀ b H1, Newb H (.cells #[.string s, .int .i64 0, .int .i64 0] 106) b H1 → K (.pointer (some ⟨b, 0, none⟩)) H1
def aJ26 : Ann := (fun _ => none)
def aL26 : Ann := (fun _ => none)
theorem V26_ok {H : Hp} {s : ByteArray} {K : Value → Hp → Prop} {Z : List PanicEntry → Hp → Prop} (h : V26 H s K Z) : CallF Try.prog 26 #[.string s] H K Z :=
  fnC_sound (P := Try.prog) (aJ := aJ26) (aL := aL26) (f := 26) (args := [.string s]) (Eq.mp (by kernel_rfl) h)
/-- (*weft/varint.Reader).Text -/
def V27 (H : Hp) (r : Addr) (K : Value → Hp → Prop) (Z : List PanicEntry → Hp → Prop) : Prop :=
  CallF Try.prog 66 #[.pointer (some r), .func (.func 67) #[] #[]] H (fun r1 H1 => ∃ y_0 : Int, ∃ y_1 : ByteArray, r1 = .tuple #[.int .i64 y_0, .string y_1] ∧ 
    K (.string y_1) H1) Z
def aJ27 : Ann := (fun _ => none)
def aL27 : Ann := (fun _ => none)
theorem V27_ok {H : Hp} {r : Addr} {K : Value → Hp → Prop} {Z : List PanicEntry → Hp → Prop} (h : V27 H r K Z) : CallF Try.prog 27 #[.pointer (some r)] H K Z :=
  fnC_sound (P := Try.prog) (aJ := aJ27) (aL := aL27) (f := 27) (args := [.pointer (some r)]) (Eq.mp (by kernel_rfl) h)
/-- (*weft/varint.Reader).Number -/
def V28 (H : Hp) (r : Addr) (K : Value → Hp → Prop) (Z : List PanicEntry → Hp → Prop) : Prop :=
  CallF Try.prog 66 #[.pointer (some r), .func (.func 68) #[] #[]] H (fun r1 H1 => ∃ y_0 : Int, ∃ y_1 : ByteArray, r1 = .tuple #[.int .i64 y_0, .string y_1] ∧ 
    K (.int .i64 y_0) H1) Z
def aJ28 : Ann := (fun _ => none)
def aL28 : Ann := (fun _ => none)
theorem V28_ok {H : Hp} {r : Addr} {K : Value → Hp → Prop} {Z : List PanicEntry → Hp → Prop} (h : V28 H r K Z) : CallF Try.prog 28 #[.pointer (some r)] H K Z :=
  fnC_sound (P := Try.prog) (aJ := aJ28) (aL := aL28) (f := 28) (args := [.pointer (some r)]) (Eq.mp (by kernel_rfl) h)
/-- (*weft/varint.Reader).Done -/
def V29 (H : Hp) (r : Addr) (K : Value → Hp → Prop) (Z : List PanicEntry → Hp → Prop) : Prop :=
  ∃ x : Int, hcell H (Addr.add r 2) = some (.int .i64 x) ∧ (((x == 0) = true → ∃ x1 : Int, hcell H (Addr.add r 1) = some (.int .i64 x1) ∧ 
    ∃ x2 : ByteArray, hcell H r = some (.string x2) ∧ (((decide (x1 < (x2.size : Int))) = true → ∃ x3 : Int, hcell H (Addr.add r 1) = some (.int .i64 x3) ∧ 
    K (.tuple #[.int .i64 x3, .int .i64 6]) H) ∧ ((decide (x1 < (x2.size : Int))) = false → ∃ x4 : Int, hcell H (Addr.add r 1) = some (.int .i64 x4) ∧ 
    ∃ x5 : Int, hcell H (Addr.add r 2) = some (.int .i64 x5) ∧ K (.tuple #[.int .i64 x4, .int .i64 x5]) H))) ∧ 
    ((x == 0) = false → ∃ x6 : Int, hcell H (Addr.add r 1) = some (.int .i64 x6) ∧ ∃ x7 : Int, hcell H (Addr.add r 2) = some (.int .i64 x7) ∧ 
    K (.tuple #[.int .i64 x6, .int .i64 x7]) H))
def aJ29 : Ann := (fun _ => none)
def aL29 : Ann := (fun _ => none)
theorem V29_ok {H : Hp} {r : Addr} {K : Value → Hp → Prop} {Z : List PanicEntry → Hp → Prop} (h : V29 H r K Z) : CallF Try.prog 29 #[.pointer (some r)] H K Z :=
  fnC_sound (P := Try.prog) (aJ := aJ29) (aL := aL29) (f := 29) (args := [.pointer (some r)]) (Eq.mp (by kernel_rfl) h)
/-- (*weft/varint.Reader).take -/
def V66 (H : Hp) (r : Addr) (rest : Value) (K : Value → Hp → Prop) (Z : List PanicEntry → Hp → Prop) : Prop :=
  ∃ x : Int, hcell H (Addr.add r 2) = some (.int .i64 x) ∧ (((x != 0) = true → K (.tuple #[.int .i64 0, .string ⟨#[]⟩]) H) ∧ 
    ((x != 0) = false → CallF Try.prog 89 #[.pointer (some r)] H (fun r1 H1 => ∃ y_0 : Int, ∃ y_1 : Int, ∃ y_2 : Int, r1 = .tuple #[.int .i64 y_0, .int .i64 y_1, .int .i64 y_2] ∧ 
    ∃ J : Int → Hp → Prop, (∀ (e : Int), ∀ H2, J e H2 → ∀ scr : Nat → Value, (((e != 0) = true → StL (Addr.add r 2) 0 [.int .i64 e] H2 fun H3 => 
    (K (.tuple #[.int .i64 0, .string ⟨#[]⟩]) H3)) ∧ ((e != 0) = false → ∃ x1 : Int, hcell H2 (Addr.add r 1) = some (.int .i64 x1) ∧ 
    callV Try.prog rest [.int .i64 y_0] H2 (fun r2 H4 => ∃ y : Int, r2 = .int .i64 y ∧ StL (Addr.add r 1) 0 [.int .i64 (w64 ((w64 (x1 + y_1)) + y))] H4 fun H5 => 
    (∃ x2 : ByteArray, hcell H5 r = some (.string x2) ∧ ∃ x3 : Int, hcell H5 (Addr.add r 1) = some (.int .i64 x3) ∧ 
    SlS x2 (w64 (x1 + y_1)) x3 fun cut => (K (.tuple #[.int .i64 y_0, .string cut]) H5))) Z))) ∧ (((y_2 == 0) = true → 
    ((callV Try.prog rest [.int .i64 y_0] H1 (fun r3 H6 => ∃ y1 : Int, r3 = .int .i64 y1 ∧ ∃ x4 : ByteArray, hcell H6 r = some (.string x4) ∧ 
    ∃ x5 : Int, hcell H6 (Addr.add r 1) = some (.int .i64 x5) ∧ (((decide (y1 > (w64 ((w64 ((x4.size : Int) - x5)) - y_1)))) = true → 
    (J 1 H6)) ∧ ((decide (y1 > (w64 ((w64 ((x4.size : Int) - x5)) - y_1)))) = false → (J y_2 H6)))) Z) ∧ 
    (∃ x6 : ByteArray, hcell H1 r = some (.string x6) ∧ ((callV Try.prog rest [.int .i64 y_0] H1 (fun r4 H7 => 
    ∃ y2 : Int, r4 = .int .i64 y2 ∧ ∃ x7 : Int, hcell H7 (Addr.add r 1) = some (.int .i64 x7) ∧ (((decide (y2 > (w64 ((w64 ((x6.size : Int) - x7)) - y_1)))) = true → 
    (J 1 H7)) ∧ ((decide (y2 > (w64 ((w64 ((x6.size : Int) - x7)) - y_1)))) = false → (J y_2 H7)))) Z) ∧ 
    (∃ x8 : Int, hcell H1 (Addr.add r 1) = some (.int .i64 x8) ∧ callV Try.prog rest [.int .i64 y_0] H1 (fun r5 H8 => 
    ∃ y3 : Int, r5 = .int .i64 y3 ∧ (((decide (y3 > (w64 ((w64 ((x6.size : Int) - x8)) - y_1)))) = true → 
    (J 1 H8)) ∧ ((decide (y3 > (w64 ((w64 ((x6.size : Int) - x8)) - y_1)))) = false → (J y_2 H8)))) Z))) ∧ 
    (∃ x9 : Int, hcell H1 (Addr.add r 1) = some (.int .i64 x9) ∧ ((callV Try.prog rest [.int .i64 y_0] H1 (fun r6 H9 => 
    ∃ y4 : Int, r6 = .int .i64 y4 ∧ ∃ x10 : ByteArray, hcell H9 r = some (.string x10) ∧ (((decide (y4 > (w64 ((w64 ((x10.size : Int) - x9)) - y_1)))) = true → 
    (J 1 H9)) ∧ ((decide (y4 > (w64 ((w64 ((x10.size : Int) - x9)) - y_1)))) = false → (J y_2 H9)))) Z) ∧ 
    (∃ x11 : ByteArray, hcell H1 r = some (.string x11) ∧ callV Try.prog rest [.int .i64 y_0] H1 (fun r7 H10 => 
    ∃ y5 : Int, r7 = .int .i64 y5 ∧ (((decide (y5 > (w64 ((w64 ((x11.size : Int) - x9)) - y_1)))) = true → 
    (J 1 H10)) ∧ ((decide (y5 > (w64 ((w64 ((x11.size : Int) - x9)) - y_1)))) = false → (J y_2 H10)))) Z))))) ∧ 
    ((y_2 == 0) = false → ((J y_2 H1) ∧ ((J y_2 H1) ∧ (J y_2 H1)) ∧ ((J y_2 H1) ∧ (J y_2 H1)))))) Z))
def aJ66 : Ann := (fun k => if k = 6 then some [(8, (.sc (.int .i64)))] else none)
def aL66 : Ann := (fun _ => none)
theorem V66_ok {H : Hp} {r : Addr} {rest : Value} {K : Value → Hp → Prop} {Z : List PanicEntry → Hp → Prop} (h : V66 H r rest K Z) : CallF Try.prog 66 #[.pointer (some r), rest] H K Z :=
  fnC_sound (P := Try.prog) (aJ := aJ66) (aL := aL66) (f := 66) (args := [.pointer (some r), rest]) (Eq.mp (by kernel_rfl) h)
/-- (*weft/varint.Reader).look -/
def V89 (H : Hp) (r : Addr) (K : Value → Hp → Prop) (Z : List PanicEntry → Hp → Prop) : Prop :=
  ∃ x : ByteArray, hcell H r = some (.string x) ∧ ∃ x1 : Int, hcell H (Addr.add r 1) = some (.int .i64 x1) ∧ 
    ∃ x2 : ByteArray, hcell H r = some (.string x2) ∧ ∃ x3 : Int, hcell H (Addr.add r 1) = some (.int .i64 x3) ∧ 
    SlS x x1 (if (w64 (x3 + 5)) < (x2.size : Int) then (w64 (x3 + 5)) else (x2.size : Int)) fun cut => 
    (Cvt Try.prog 9 91 H (.string cut) fun r1 H1 => ∃ cv : Sl, r1 = .slice cv.a cv.n cv.c ∧ ∃ I : Int → 
    Int → Hp → Nat → Prop, (∃ m, I 0 0 H1 m) ∧ ∀ (n : Int) (t30 : Int), ∀ H2 m1, I n t30 H2 m1 → ∀ scr : Nat → 
    Value, (((decide (t30 < (cv.n : Int))) = true → IxA cv.a cv.n t30 1 fun ad => (∃ x4 : Int, hcell H2 ad = some (.int .u8 x4) ∧ 
    ∃ J : Hp → Prop, (∀ H3, J  H3 → ∀ scr1 : Nat → Value, (0 ≤ (w64 (7 * t30)) ∧ ((((bitAnd .u8 x4 128) != 0) = true → 
    (∃ m2, m2 < m1 ∧ I (bitOr .i64 n (w64 ((w64 (bitAnd .u8 x4 127)) * 2 ^ (min (Int.toNat (w64 (7 * t30))) (IntKind.bits .i64))))) (w64 (t30 + 1)) H3 m2)) ∧ 
    (((bitAnd .u8 x4 128) != 0) = false → (((x4 == 0) = true → (((decide (t30 > 0)) = true → K (.tuple #[.int .i64 0, .int .i64 0, .int .i64 3]) H3) ∧ 
    ((decide (t30 > 0)) = false → (((decide ((bitOr .i64 n (w64 ((w64 (bitAnd .u8 x4 127)) * 2 ^ (min (Int.toNat (w64 (7 * t30))) (IntKind.bits .i64))))) > 268435456)) = true → 
    K (.tuple #[.int .i64 0, .int .i64 0, .int .i64 2]) H3) ∧ ((decide ((bitOr .i64 n (w64 ((w64 (bitAnd .u8 x4 127)) * 2 ^ (min (Int.toNat (w64 (7 * t30))) (IntKind.bits .i64))))) > 268435456)) = false → 
    K (.tuple #[.int .i64 (bitOr .i64 n (w64 ((w64 (bitAnd .u8 x4 127)) * 2 ^ (min (Int.toNat (w64 (7 * t30))) (IntKind.bits .i64))))), .int .i64 (w64 (t30 + 1)), .int .i64 0]) H3))))) ∧ 
    ((x4 == 0) = false → (((decide ((bitOr .i64 n (w64 ((w64 (bitAnd .u8 x4 127)) * 2 ^ (min (Int.toNat (w64 (7 * t30))) (IntKind.bits .i64))))) > 268435456)) = true → 
    K (.tuple #[.int .i64 0, .int .i64 0, .int .i64 2]) H3) ∧ ((decide ((bitOr .i64 n (w64 ((w64 (bitAnd .u8 x4 127)) * 2 ^ (min (Int.toNat (w64 (7 * t30))) (IntKind.bits .i64))))) > 268435456)) = false → 
    K (.tuple #[.int .i64 (bitOr .i64 n (w64 ((w64 (bitAnd .u8 x4 127)) * 2 ^ (min (Int.toNat (w64 (7 * t30))) (IntKind.bits .i64))))), .int .i64 (w64 (t30 + 1)), .int .i64 0]) H3)))))))) ∧ 
    (((t30 == 4) = true → (((decide (x4 > 1)) = true → K (.tuple #[.int .i64 0, .int .i64 0, .int .i64 2]) H2) ∧ 
    ((decide (x4 > 1)) = false → (J  H2)))) ∧ ((t30 == 4) = false → (J  H2))))) ∧ ((decide (t30 < (cv.n : Int))) = false → 
    K (.tuple #[.int .i64 0, .int .i64 0, .int .i64 1]) H2)))
def aJ89 : Ann := (fun k => if k = 7 then some [] else none)
def aL89 : Ann := (fun k => if k = 3 then some [(5, (.sc (.int .i64))), (30, (.sc (.int .i64)))] else none)
theorem V89_ok {H : Hp} {r : Addr} {K : Value → Hp → Prop} {Z : List PanicEntry → Hp → Prop} (h : V89 H r K Z) : CallF Try.prog 89 #[.pointer (some r)] H K Z :=
  fnC_sound (P := Try.prog) (aJ := aJ89) (aL := aL89) (f := 89) (args := [.pointer (some r)]) (Eq.mp (by kernel_rfl) h)
/-- (*weft/varint.Reader).Text$1 -/
def V67 (H : Hp) (n : Int) (K : Value → Hp → Prop) (Z : List PanicEntry → Hp → Prop) : Prop :=
  K (.int .i64 n) H
def aJ67 : Ann := (fun _ => none)
def aL67 : Ann := (fun _ => none)
theorem V67_ok {H : Hp} {n : Int} {K : Value → Hp → Prop} {Z : List PanicEntry → Hp → Prop} (h : V67 H n K Z) : CallF Try.prog 67 #[.int .i64 n] H K Z :=
  fnC_sound (P := Try.prog) (aJ := aJ67) (aL := aL67) (f := 67) (args := [.int .i64 n]) (Eq.mp (by kernel_rfl) h)
/-- (*weft/varint.Reader).Number$1 -/
def V68 (H : Hp) (t0 : Int) (K : Value → Hp → Prop) (Z : List PanicEntry → Hp → Prop) : Prop :=
  K (.int .i64 0) H
def aJ68 : Ann := (fun _ => none)
def aL68 : Ann := (fun _ => none)
theorem V68_ok {H : Hp} {t0 : Int} {K : Value → Hp → Prop} {Z : List PanicEntry → Hp → Prop} (h : V68 H t0 K Z) : CallF Try.prog 68 #[.int .i64 t0] H K Z :=
  fnC_sound (P := Try.prog) (aJ := aJ68) (aL := aL68) (f := 68) (args := [.int .i64 t0]) (Eq.mp (by kernel_rfl) h)
/-- (*weft/varint.Reader).Fail -/
def V36 (H : Hp) (r : Addr) (e : Int) (K : Value → Hp → Prop) (Z : List PanicEntry → Hp → Prop) : Prop :=
  ∃ x : Int, hcell H (Addr.add r 2) = some (.int .i64 x) ∧ (((x == 0) = true → StL (Addr.add r 2) 0 [.int .i64 e] H fun H1 => 
    (K (.tuple #[]) H1)) ∧ ((x == 0) = false → K (.tuple #[]) H))
def aJ36 : Ann := (fun _ => none)
def aL36 : Ann := (fun _ => none)
theorem V36_ok {H : Hp} {r : Addr} {e : Int} {K : Value → Hp → Prop} {Z : List PanicEntry → Hp → Prop} (h : V36 H r e K Z) : CallF Try.prog 36 #[.pointer (some r), .int .i64 e] H K Z :=
  fnC_sound (P := Try.prog) (aJ := aJ36) (aL := aL36) (f := 36) (args := [.pointer (some r), .int .i64 e]) (Eq.mp (by kernel_rfl) h)
/-- (*weft/weftref02.Reader).Number -/
def V34 (H : Hp) (r : Addr) (K : Value → Hp → Prop) (Z : List PanicEntry → Hp → Prop) : Prop :=
  ∃ x : ByteArray, hcell H r = some (.string x) ∧ ∃ x1 : Int, hcell H (Addr.add r 1) = some (.int .i64 x1) ∧ 
    CallF Try.prog 72 #[.string x, .int .i64 x1] H (fun r1 H1 => ∃ y_0 : Int, ∃ y_1 : Int, ∃ y_2 : Int, r1 = .tuple #[.int .i64 y_0, .int .i64 y_1, .int .i64 y_2] ∧ 
    ∃ x2 : Int, hcell H1 (Addr.add r 2) = some (.int .i64 x2) ∧ (((x2 != 0) = true → K (.int .i64 0) H1) ∧ 
    ((x2 != 0) = false → (((y_2 != 0) = true → StL (Addr.add r 2) 0 [.int .i64 y_2] H1 fun H2 => (K (.int .i64 0) H2)) ∧ 
    ((y_2 != 0) = false → StL (Addr.add r 1) 0 [.int .i64 y_1] H1 fun H3 => (K (.int .i64 y_0) H3)))))) Z
def aJ34 : Ann := (fun _ => none)
def aL34 : Ann := (fun _ => none)
theorem V34_ok {H : Hp} {r : Addr} {K : Value → Hp → Prop} {Z : List PanicEntry → Hp → Prop} (h : V34 H r K Z) : CallF Try.prog 34 #[.pointer (some r)] H K Z :=
  fnC_sound (P := Try.prog) (aJ := aJ34) (aL := aL34) (f := 34) (args := [.pointer (some r)]) (Eq.mp (by kernel_rfl) h)
/-- (*weft/weftref02.Reader).Text -/
def V35 (H : Hp) (r : Addr) (K : Value → Hp → Prop) (Z : List PanicEntry → Hp → Prop) : Prop :=
  ∃ x : Int, hcell H (Addr.add r 1) = some (.int .i64 x) ∧ CallF Try.prog 34 #[.pointer (some r)] H (fun r1 H1 => 
    ∃ y : Int, r1 = .int .i64 y ∧ ∃ x1 : Int, hcell H1 (Addr.add r 2) = some (.int .i64 x1) ∧ (((x1 != 0) = true → 
    K (.string ⟨#[]⟩) H1) ∧ ((x1 != 0) = false → ∃ x2 : ByteArray, hcell H1 r = some (.string x2) ∧ ∃ x3 : Int, hcell H1 (Addr.add r 1) = some (.int .i64 x3) ∧ 
    (((decide (y > (w64 ((x2.size : Int) - x3)))) = true → StL (Addr.add r 1) 0 [.int .i64 x] H1 fun H2 => 
    (StL (Addr.add r 2) 0 [.int .i64 1] H2 fun H3 => (K (.string ⟨#[]⟩) H3))) ∧ ((decide (y > (w64 ((x2.size : Int) - x3)))) = false → 
    ∃ x4 : Int, hcell H1 (Addr.add r 1) = some (.int .i64 x4) ∧ StL (Addr.add r 1) 0 [.int .i64 (w64 (x4 + y))] H1 fun H4 => 
    (∃ x5 : ByteArray, hcell H4 r = some (.string x5) ∧ ∃ x6 : Int, hcell H4 (Addr.add r 1) = some (.int .i64 x6) ∧ 
    ∃ x7 : Int, hcell H4 (Addr.add r 1) = some (.int .i64 x7) ∧ SlS x5 (w64 (x6 - y)) x7 fun cut => (K (.string cut) H4))))))) Z
def aJ35 : Ann := (fun _ => none)
def aL35 : Ann := (fun _ => none)
theorem V35_ok {H : Hp} {r : Addr} {K : Value → Hp → Prop} {Z : List PanicEntry → Hp → Prop} (h : V35 H r K Z) : CallF Try.prog 35 #[.pointer (some r)] H K Z :=
  fnC_sound (P := Try.prog) (aJ := aJ35) (aL := aL35) (f := 35) (args := [.pointer (some r)]) (Eq.mp (by kernel_rfl) h)
/-- (*weft/weftref02.Reader).Fail -/
def V37 (H : Hp) (r : Addr) (e : Int) (K : Value → Hp → Prop) (Z : List PanicEntry → Hp → Prop) : Prop :=
  ∃ x : Int, hcell H (Addr.add r 2) = some (.int .i64 x) ∧ (((x == 0) = true → StL (Addr.add r 2) 0 [.int .i64 e] H fun H1 => 
    (K (.tuple #[]) H1)) ∧ ((x == 0) = false → K (.tuple #[]) H))
def aJ37 : Ann := (fun _ => none)
def aL37 : Ann := (fun _ => none)
theorem V37_ok {H : Hp} {r : Addr} {e : Int} {K : Value → Hp → Prop} {Z : List PanicEntry → Hp → Prop} (h : V37 H r e K Z) : CallF Try.prog 37 #[.pointer (some r), .int .i64 e] H K Z :=
  fnC_sound (P := Try.prog) (aJ := aJ37) (aL := aL37) (f := 37) (args := [.pointer (some r), .int .i64 e]) (Eq.mp (by kernel_rfl) h)
/-- (*weft/weftref02.Reader).Done -/
def V38 (H : Hp) (r : Addr) (K : Value → Hp → Prop) (Z : List PanicEntry → Hp → Prop) : Prop :=
  ∃ x : Int, hcell H (Addr.add r 2) = some (.int .i64 x) ∧ (((x == 0) = true → ∃ x1 : Int, hcell H (Addr.add r 1) = some (.int .i64 x1) ∧ 
    ∃ x2 : ByteArray, hcell H r = some (.string x2) ∧ (((decide (x1 < (x2.size : Int))) = true → ∃ x3 : Int, hcell H (Addr.add r 1) = some (.int .i64 x3) ∧ 
    K (.tuple #[.int .i64 x3, .int .i64 6]) H) ∧ ((decide (x1 < (x2.size : Int))) = false → ∃ x4 : Int, hcell H (Addr.add r 1) = some (.int .i64 x4) ∧ 
    ∃ x5 : Int, hcell H (Addr.add r 2) = some (.int .i64 x5) ∧ K (.tuple #[.int .i64 x4, .int .i64 x5]) H))) ∧ 
    ((x == 0) = false → ∃ x6 : Int, hcell H (Addr.add r 1) = some (.int .i64 x6) ∧ ∃ x7 : Int, hcell H (Addr.add r 2) = some (.int .i64 x7) ∧ 
    K (.tuple #[.int .i64 x6, .int .i64 x7]) H))
def aJ38 : Ann := (fun _ => none)
def aL38 : Ann := (fun _ => none)
theorem V38_ok {H : Hp} {r : Addr} {K : Value → Hp → Prop} {Z : List PanicEntry → Hp → Prop} (h : V38 H r K Z) : CallF Try.prog 38 #[.pointer (some r)] H K Z :=
  fnC_sound (P := Try.prog) (aJ := aJ38) (aL := aL38) (f := 38) (args := [.pointer (some r)]) (Eq.mp (by kernel_rfl) h)
/-- weft/weftref02.number -/
def V72 (H : Hp) (s : ByteArray) (t1 : Int) (K : Value → Hp → Prop) (Z : List PanicEntry → Hp → Prop) : Prop :=
  ∃ I : Int → Int → Hp → Nat → Prop, (∃ m, I 0 0 H m) ∧ ∀ (n : Int) (k : Int), ∀ H1 m1, I n k H1 m1 → 
    ∀ scr : Nat → Value, (((decide (k < 5)) = true → (((decide ((w64 (t1 + k)) ≥ (s.size : Int))) = true → 
    K (.tuple #[.int .i64 0, .int .i64 0, .int .i64 1]) H1) ∧ ((decide ((w64 (t1 + k)) ≥ (s.size : Int))) = false → 
    IxS s (w64 (t1 + k)) fun c => (∃ J : Hp → Prop, (∀ H2, J  H2 → ∀ scr1 : Nat → Value, (0 ≤ (w64 (7 * k)) ∧ 
    (((decide ((w64 c) < 128)) = true → ((((w64 c) == 0) = true → (((decide (k > 0)) = true → K (.tuple #[.int .i64 0, .int .i64 0, .int .i64 3]) H2) ∧ 
    ((decide (k > 0)) = false → (((decide ((w64 (n + (w64 ((Int.tmod (w64 c) 128) * 2 ^ (min (Int.toNat (w64 (7 * k))) (IntKind.bits .i64)))))) > 268435456)) = true → 
    K (.tuple #[.int .i64 0, .int .i64 0, .int .i64 2]) H2) ∧ ((decide ((w64 (n + (w64 ((Int.tmod (w64 c) 128) * 2 ^ (min (Int.toNat (w64 (7 * k))) (IntKind.bits .i64)))))) > 268435456)) = false → 
    K (.tuple #[.int .i64 (w64 (n + (w64 ((Int.tmod (w64 c) 128) * 2 ^ (min (Int.toNat (w64 (7 * k))) (IntKind.bits .i64)))))), .int .i64 (w64 ((w64 (t1 + k)) + 1)), .int .i64 0]) H2))))) ∧ 
    (((w64 c) == 0) = false → (((decide ((w64 (n + (w64 ((Int.tmod (w64 c) 128) * 2 ^ (min (Int.toNat (w64 (7 * k))) (IntKind.bits .i64)))))) > 268435456)) = true → 
    K (.tuple #[.int .i64 0, .int .i64 0, .int .i64 2]) H2) ∧ ((decide ((w64 (n + (w64 ((Int.tmod (w64 c) 128) * 2 ^ (min (Int.toNat (w64 (7 * k))) (IntKind.bits .i64)))))) > 268435456)) = false → 
    K (.tuple #[.int .i64 (w64 (n + (w64 ((Int.tmod (w64 c) 128) * 2 ^ (min (Int.toNat (w64 (7 * k))) (IntKind.bits .i64)))))), .int .i64 (w64 ((w64 (t1 + k)) + 1)), .int .i64 0]) H2))))) ∧ 
    ((decide ((w64 c) < 128)) = false → (∃ m2, m2 < m1 ∧ I (w64 (n + (w64 ((Int.tmod (w64 c) 128) * 2 ^ (min (Int.toNat (w64 (7 * k))) (IntKind.bits .i64)))))) (w64 (k + 1)) H2 m2))))) ∧ 
    (((k == 4) = true → (((decide ((w64 c) > 1)) = true → K (.tuple #[.int .i64 0, .int .i64 0, .int .i64 2]) H1) ∧ 
    ((decide ((w64 c) > 1)) = false → (J  H1)))) ∧ ((k == 4) = false → (J  H1))))))) ∧ ((decide (k < 5)) = false → 
    K (.tuple #[.int .i64 0, .int .i64 0, .int .i64 2]) H1))
def aJ72 : Ann := (fun k => if k = 10 then some [] else none)
def aL72 : Ann := (fun k => if k = 3 then some [(7, (.sc (.int .i64))), (8, (.sc (.int .i64)))] else none)
theorem V72_ok {H : Hp} {s : ByteArray} {t1 : Int} {K : Value → Hp → Prop} {Z : List PanicEntry → Hp → Prop} (h : V72 H s t1 K Z) : CallF Try.prog 72 #[.string s, .int .i64 t1] H K Z :=
  fnC_sound (P := Try.prog) (aJ := aJ72) (aL := aL72) (f := 72) (args := [.string s, .int .i64 t1]) (Eq.mp (by kernel_rfl) h)
end Go.Proofs.Ytoigfahdgphpdaa.N02

