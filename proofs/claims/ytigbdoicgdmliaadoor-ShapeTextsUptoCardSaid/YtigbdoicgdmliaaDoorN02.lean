/- The conditions of varint's functions, its reference's and its laws' (printed by our own program vn.py; the kernel checks each against V5's comp). -/
import Derived.Test.YtigbdoicgdmliaaDoorV8
import Derived.Test.YtigbdoicgdmliaaDoorProg
set_option linter.unusedVariables false
set_option maxRecDepth 100000
-- bWriteByte: 56
-- bWriteString: 50
-- bString: 49
-- bCopyCheck: 69
namespace Go.Proofs.YtigbdoicgdmliaaDoor.N02
open Go Go.V Go.Proofs
/-- (*strings.Builder).WriteByte -/
def V56 (H : Hp) (b : Addr) (c : Int) (K : Value → Hp → Prop) (Z : List PanicEntry → Hp → Prop) : Prop :=
  CallF Tryd.prog 69 #[.pointer (some b)] H (fun r H1 => r = .tuple #[] ∧ ∃ x : Sl, hcell H1 (Addr.add b 1) = some (.slice x.a x.n x.c) ∧ 
    ∀ b1 H2, Newb H1 (.cells #[.int .u8 c] 5) b1 H2 → App Tryd.prog #[85, 85] 85 H2 [.slice x.a x.n x.c, .slice (some ⟨b1, 0, none⟩) 1 1] fun ap H3 => 
    (StL (Addr.add b 1) 0 [.slice ap.a ap.n ap.c] H3 fun H4 => (K (.nilIface) H4))) Z
def aJ56 : Ann := (fun _ => none)
def aL56 : Ann := (fun _ => none)
theorem V56_ok {H : Hp} {b : Addr} {c : Int} {K : Value → Hp → Prop} {Z : List PanicEntry → Hp → Prop} (h : V56 H b c K Z) : CallF Tryd.prog 56 #[.pointer (some b), .int .u8 c] H K Z :=
  fnC_sound (P := Tryd.prog) (aJ := aJ56) (aL := aL56) (f := 56) (args := [.pointer (some b), .int .u8 c]) (Eq.mp (by kernel_rfl) h)
/-- (*strings.Builder).WriteString -/
def V50 (H : Hp) (b : Addr) (s : ByteArray) (K : Value → Hp → Prop) (Z : List PanicEntry → Hp → Prop) : Prop :=
  CallF Tryd.prog 69 #[.pointer (some b)] H (fun r H1 => r = .tuple #[] ∧ ∃ x : Sl, hcell H1 (Addr.add b 1) = some (.slice x.a x.n x.c) ∧ 
    App Tryd.prog #[85, 9] 85 H1 [.slice x.a x.n x.c, .string s] fun ap H2 => (StL (Addr.add b 1) 0 [.slice ap.a ap.n ap.c] H2 fun H3 => 
    (K (.tuple #[.int .i64 (s.size : Int), .nilIface]) H3))) Z
def aJ50 : Ann := (fun _ => none)
def aL50 : Ann := (fun _ => none)
theorem V50_ok {H : Hp} {b : Addr} {s : ByteArray} {K : Value → Hp → Prop} {Z : List PanicEntry → Hp → Prop} (h : V50 H b s K Z) : CallF Tryd.prog 50 #[.pointer (some b), .string s] H K Z :=
  fnC_sound (P := Tryd.prog) (aJ := aJ50) (aL := aL50) (f := 50) (args := [.pointer (some b), .string s]) (Eq.mp (by kernel_rfl) h)
/-- (*strings.Builder).String -/
def V49 (H : Hp) (b : Addr) (K : Value → Hp → Prop) (Z : List PanicEntry → Hp → Prop) : Prop :=
  ∃ x : Sl, hcell H (Addr.add b 1) = some (.slice x.a x.n x.c) ∧ ((Blt Tryd.prog .unsafeSliceData #[85] 116 #[false] H [.slice x.a x.n x.c] fun r H1 => 
    ∃ y : Option Addr, r = .pointer y ∧ ∃ x1 : Sl, hcell H1 (Addr.add b 1) = some (.slice x1.a x1.n x1.c) ∧ 
    Blt Tryd.prog .unsafeString #[116, 3] 9 #[false, false] H1 [.pointer y, .int .i64 (x1.n : Int)] fun r1 H2 => 
    ∃ y1 : ByteArray, r1 = .string y1 ∧ K (.string y1) H2) ∧ (∃ x2 : Sl, hcell H (Addr.add b 1) = some (.slice x2.a x2.n x2.c) ∧ 
    Blt Tryd.prog .unsafeSliceData #[85] 116 #[false] H [.slice x.a x.n x.c] fun r2 H3 => ∃ y2 : Option Addr, r2 = .pointer y2 ∧ 
    Blt Tryd.prog .unsafeString #[116, 3] 9 #[false, false] H3 [.pointer y2, .int .i64 (x2.n : Int)] fun r3 H4 => 
    ∃ y3 : ByteArray, r3 = .string y3 ∧ K (.string y3) H4))
def aJ49 : Ann := (fun _ => none)
def aL49 : Ann := (fun _ => none)
theorem V49_ok {H : Hp} {b : Addr} {K : Value → Hp → Prop} {Z : List PanicEntry → Hp → Prop} (h : V49 H b K Z) : CallF Tryd.prog 49 #[.pointer (some b)] H K Z :=
  fnC_sound (P := Tryd.prog) (aJ := aJ49) (aL := aL49) (f := 49) (args := [.pointer (some b)]) (Eq.mp (by kernel_rfl) h)
/-- (*strings.Builder).copyCheck -/
def V69 (H : Hp) (b : Addr) (K : Value → Hp → Prop) (Z : List PanicEntry → Hp → Prop) : Prop :=
  ∃ x : Option Addr, hcell H b = some (.pointer x) ∧ (((Option.isNone x) = true → Cvt Tryd.prog 84 123 H (.pointer (some b)) fun r H1 => 
    ∃ cv : Value, r = cv ∧ ExtF Tryd.prog 77 [cv] H1 fun r1 H2 => ∃ y : Value, r1 = y ∧ Cvt Tryd.prog 123 84 H2 (y) fun r2 H3 => 
    ∃ cv1 : Option Addr, r2 = .pointer cv1 ∧ StL b 0 [.pointer cv1] H3 fun H4 => (K (.tuple #[]) H4)) ∧ 
    ((Option.isNone x) = false → ∃ x1 : Option Addr, hcell H b = some (.pointer x1) ∧ PEq x1 b fun same => 
    (((!same) = true → False) ∧ ((!same) = false → K (.tuple #[]) H))))
def aJ69 : Ann := (fun _ => none)
def aL69 : Ann := (fun _ => none)
theorem V69_ok {H : Hp} {b : Addr} {K : Value → Hp → Prop} {Z : List PanicEntry → Hp → Prop} (h : V69 H b K Z) : CallF Tryd.prog 69 #[.pointer (some b)] H K Z :=
  fnC_sound (P := Tryd.prog) (aJ := aJ69) (aL := aL69) (f := 69) (args := [.pointer (some b)]) (Eq.mp (by kernel_rfl) h)
end Go.Proofs.YtigbdoicgdmliaaDoor.N02

