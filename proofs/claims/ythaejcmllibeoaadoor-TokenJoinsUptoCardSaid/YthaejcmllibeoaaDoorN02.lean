/- The conditions of varint's functions, its reference's and its laws' (printed by our own program vn.py; the kernel checks each against V5's comp). -/
import Derived.Test.YthaejcmllibeoaaDoorV8
import Derived.Test.YthaejcmllibeoaaDoorProg
set_option linter.unusedVariables false
set_option maxRecDepth 100000
-- bWriteByte: 70
-- bWriteString: 71
-- bString: 72
-- bCopyCheck: 90
namespace Go.Proofs.YthaejcmllibeoaaDoor.N02
open Go Go.V Go.Proofs
/-- (*strings.Builder).WriteByte -/
def V70 (H : Hp) (b : Addr) (c : Int) (K : Value → Hp → Prop) (Z : List PanicEntry → Hp → Prop) : Prop :=
  CallF Tryd.prog 90 #[.pointer (some b)] H (fun r H1 => r = .tuple #[] ∧ ∃ x : Sl, hcell H1 (Addr.add b 1) = some (.slice x.a x.n x.c) ∧ 
    ∀ b1 H2, Newb H1 (.cells #[.int .u8 c] 5) b1 H2 → App Tryd.prog #[90, 90] 90 H2 [.slice x.a x.n x.c, .slice (some ⟨b1, 0, none⟩) 1 1] fun ap H3 => 
    (StL (Addr.add b 1) 0 [.slice ap.a ap.n ap.c] H3 fun H4 => (K (.nilIface) H4))) Z
def aJ70 : Ann := (fun _ => none)
def aL70 : Ann := (fun _ => none)
theorem V70_ok {H : Hp} {b : Addr} {c : Int} {K : Value → Hp → Prop} {Z : List PanicEntry → Hp → Prop} (h : V70 H b c K Z) : CallF Tryd.prog 70 #[.pointer (some b), .int .u8 c] H K Z :=
  fnC_sound (P := Tryd.prog) (aJ := aJ70) (aL := aL70) (f := 70) (args := [.pointer (some b), .int .u8 c]) (Eq.mp (by kernel_rfl) h)
/-- (*strings.Builder).WriteString -/
def V71 (H : Hp) (b : Addr) (s : ByteArray) (K : Value → Hp → Prop) (Z : List PanicEntry → Hp → Prop) : Prop :=
  CallF Tryd.prog 90 #[.pointer (some b)] H (fun r H1 => r = .tuple #[] ∧ ∃ x : Sl, hcell H1 (Addr.add b 1) = some (.slice x.a x.n x.c) ∧ 
    App Tryd.prog #[90, 9] 90 H1 [.slice x.a x.n x.c, .string s] fun ap H2 => (StL (Addr.add b 1) 0 [.slice ap.a ap.n ap.c] H2 fun H3 => 
    (K (.tuple #[.int .i64 (s.size : Int), .nilIface]) H3))) Z
def aJ71 : Ann := (fun _ => none)
def aL71 : Ann := (fun _ => none)
theorem V71_ok {H : Hp} {b : Addr} {s : ByteArray} {K : Value → Hp → Prop} {Z : List PanicEntry → Hp → Prop} (h : V71 H b s K Z) : CallF Tryd.prog 71 #[.pointer (some b), .string s] H K Z :=
  fnC_sound (P := Tryd.prog) (aJ := aJ71) (aL := aL71) (f := 71) (args := [.pointer (some b), .string s]) (Eq.mp (by kernel_rfl) h)
/-- (*strings.Builder).String -/
def V72 (H : Hp) (b : Addr) (K : Value → Hp → Prop) (Z : List PanicEntry → Hp → Prop) : Prop :=
  ∃ x : Sl, hcell H (Addr.add b 1) = some (.slice x.a x.n x.c) ∧ ((Blt Tryd.prog .unsafeSliceData #[90] 111 #[false] H [.slice x.a x.n x.c] fun r H1 => 
    ∃ y : Option Addr, r = .pointer y ∧ ∃ x1 : Sl, hcell H1 (Addr.add b 1) = some (.slice x1.a x1.n x1.c) ∧ 
    Blt Tryd.prog .unsafeString #[111, 3] 9 #[false, false] H1 [.pointer y, .int .i64 (x1.n : Int)] fun r1 H2 => 
    ∃ y1 : ByteArray, r1 = .string y1 ∧ K (.string y1) H2) ∧ (∃ x2 : Sl, hcell H (Addr.add b 1) = some (.slice x2.a x2.n x2.c) ∧ 
    Blt Tryd.prog .unsafeSliceData #[90] 111 #[false] H [.slice x.a x.n x.c] fun r2 H3 => ∃ y2 : Option Addr, r2 = .pointer y2 ∧ 
    Blt Tryd.prog .unsafeString #[111, 3] 9 #[false, false] H3 [.pointer y2, .int .i64 (x2.n : Int)] fun r3 H4 => 
    ∃ y3 : ByteArray, r3 = .string y3 ∧ K (.string y3) H4))
def aJ72 : Ann := (fun _ => none)
def aL72 : Ann := (fun _ => none)
theorem V72_ok {H : Hp} {b : Addr} {K : Value → Hp → Prop} {Z : List PanicEntry → Hp → Prop} (h : V72 H b K Z) : CallF Tryd.prog 72 #[.pointer (some b)] H K Z :=
  fnC_sound (P := Tryd.prog) (aJ := aJ72) (aL := aL72) (f := 72) (args := [.pointer (some b)]) (Eq.mp (by kernel_rfl) h)
/-- (*strings.Builder).copyCheck -/
def V90 (H : Hp) (b : Addr) (K : Value → Hp → Prop) (Z : List PanicEntry → Hp → Prop) : Prop :=
  ∃ x : Option Addr, hcell H b = some (.pointer x) ∧ (((Option.isNone x) = true → Cvt Tryd.prog 92 128 H (.pointer (some b)) fun r H1 => 
    ∃ cv : Value, r = cv ∧ ExtF Tryd.prog 103 [cv] H1 fun r1 H2 => ∃ y : Value, r1 = y ∧ Cvt Tryd.prog 128 92 H2 (y) fun r2 H3 => 
    ∃ cv1 : Option Addr, r2 = .pointer cv1 ∧ StL b 0 [.pointer cv1] H3 fun H4 => (K (.tuple #[]) H4)) ∧ 
    ((Option.isNone x) = false → ∃ x1 : Option Addr, hcell H b = some (.pointer x1) ∧ PEq x1 b fun same => 
    (((!same) = true → False) ∧ ((!same) = false → K (.tuple #[]) H))))
def aJ90 : Ann := (fun _ => none)
def aL90 : Ann := (fun _ => none)
theorem V90_ok {H : Hp} {b : Addr} {K : Value → Hp → Prop} {Z : List PanicEntry → Hp → Prop} (h : V90 H b K Z) : CallF Tryd.prog 90 #[.pointer (some b)] H K Z :=
  fnC_sound (P := Tryd.prog) (aJ := aJ90) (aL := aL90) (f := 90) (args := [.pointer (some b)]) (Eq.mp (by kernel_rfl) h)
end Go.Proofs.YthaejcmllibeoaaDoor.N02

