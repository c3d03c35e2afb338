/- The conditions of token's functions, and of weftref09's and weftlaw09's (printed by our own program vn.py; the kernel checks each against V5's comp). -/
import Derived.Test.YthaejcmllibeoaaDoorV8
import Derived.Test.YthaejcmllibeoaaDoorProg
set_option linter.unusedVariables false
set_option maxRecDepth 100000
-- keys: 18
-- isKey: 21
-- all: 45
-- next: 65
-- put: 88
-- word: 89
-- join: 49
-- rKeys: 20
-- rIsKey: 22
-- rMark: 66
-- rLetter: 67
-- rDigit: 68
-- rWord: 69
-- rAll: 46
-- rJoin: 50
-- same5: 19
-- same: 47
-- works: 48
-- lawAll: 13
-- lawKeys: 4
-- lawJoins: 14
-- lawBack: 15
-- bs: 54
-- less: 76
-- snan: 77
-- nan: 93
namespace Go.Proofs.YthaejcmllibeoaaDoor.N09
open Go Go.V Go.Proofs
/-- weft/token.Keys -/
def V18 (H : Hp)  (K : Value → Hp → Prop) (Z : List PanicEntry → Hp → Prop) : Prop :=
  CallF Tryd.prog 53 #[.string ⟨#[97, 100, 100, 114, 32, 99, 97, 108, 108, 32, 99, 111, 112, 121, 32, 101, 108, 115, 101, 32, 101, 120, 116, 101, 114, 110, 32, 102, 110, 32, 102, 114, 101, 101, 32, 103, 108, 111, 98, 97, 108, 32, 105, 99, 97, 108, 108, 32, 105, 102, 32, 105, 110, 100, 101, 120, 32, 105, 110, 112, 117, 116, 32, 105, 110, 116, 32, 105, 115, 110, 117, 108, 108, 32, 108, 101, 115, 115, 32, 108, 111, 97, 100, 32, 109, 101, 109, 98, 101, 114, 32, 109, 105, 110, 117, 115, 32, 109, 111, 100, 117, 108, 101, 32, 110, 101, 119, 32, 110, 117, 108, 108, 32, 111, 98, 106, 32, 112, 108, 117, 115, 32, 112, 116, 114, 32, 114, 101, 116, 117, 114, 110, 32, 115, 97, 109, 101, 32, 115, 116, 97, 116, 105, 99, 32, 115, 116, 111, 114, 101, 32, 115, 116, 114, 117, 99, 116, 32, 116, 105, 109, 101, 115, 32, 118, 97, 114, 32, 119, 104, 105, 108, 101]⟩] H (fun r H1 => 
    ∃ y : Sl, r = .slice y.a y.n y.c ∧ K (.slice y.a y.n y.c) H1) Z
def aJ18 : Ann := (fun _ => none)
def aL18 : Ann := (fun _ => none)
theorem V18_ok {H : Hp}  {K : Value → Hp → Prop} {Z : List PanicEntry → Hp → Prop} (h : V18 H  K Z) : CallF Tryd.prog 18 #[] H K Z :=
  fnC_sound (P := Tryd.prog) (aJ := aJ18) (aL := aL18) (f := 18) (args := []) (Eq.mp (by kernel_rfl) h)
/-- weft/token.IsKey -/
def V21 (H : Hp) (s : ByteArray) (K : Value → Hp → Prop) (Z : List PanicEntry → Hp → Prop) : Prop :=
  CallF Tryd.prog 18 #[] H (fun r H1 => ∃ y : Sl, r = .slice y.a y.n y.c ∧ CallF Tryd.prog 54 #[.slice y.a y.n y.c, .string s] H1 (fun r1 H2 => 
    ∃ y_0 : Int, ∃ y_1 : Bool, r1 = .tuple #[.int .i64 y_0, .bool y_1] ∧ K (.bool y_1) H2) Z) Z
def aJ21 : Ann := (fun _ => none)
def aL21 : Ann := (fun _ => none)
theorem V21_ok {H : Hp} {s : ByteArray} {K : Value → Hp → Prop} {Z : List PanicEntry → Hp → Prop} (h : V21 H s K Z) : CallF Tryd.prog 21 #[.string s] H K Z :=
  fnC_sound (P := Tryd.prog) (aJ := aJ21) (aL := aL21) (f := 21) (args := [.string s]) (Eq.mp (by kernel_rfl) h)
/-- weft/token.All -/
def V45 (H : Hp) (s : ByteArray) (K : Value → Hp → Prop) (Z : List PanicEntry → Hp → Prop) : Prop :=
  (((decide ((s.size : Int) > 20000)) = true → K (.tuple #[.slice none 0 0, .int .i64 0, .int .i64 9]) H) ∧ 
    ((decide ((s.size : Int) > 20000)) = false → ∀ b H1, Newb H (.cells #[.string s, .int .i64 1, .slice none 0 0] 88) b H1 → 
    ∃ I : Hp → Nat → Prop, (∃ m, I  H1 m) ∧ ∀ H2 m1, I  H2 m1 → ∀ scr : Nat → Value, ∃ x : ByteArray, hcell H2 ⟨b, 0, none⟩ = some (.string x) ∧ 
    (((!(beqS x ⟨#[]⟩)) = true → CallF Tryd.prog 65 #[.pointer (some ⟨b, 0, none⟩)] H2 (fun r H3 => ∃ y : Int, r = .int .i64 y ∧ 
    (((y != 0) = true → ∃ x1 : Int, hcell H3 ⟨b, 1, none⟩ = some (.int .i64 x1) ∧ K (.tuple #[.slice none 0 0, .int .i64 x1, .int .i64 y]) H3) ∧ 
    ((y != 0) = false → (∃ m2, m2 < m1 ∧ I  H3 m2)))) Z) ∧ ((!(beqS x ⟨#[]⟩)) = false → ∃ x2 : Sl, hcell H2 ⟨b, 2, none⟩ = some (.slice x2.a x2.n x2.c) ∧ 
    K (.tuple #[.slice x2.a x2.n x2.c, .int .i64 0, .int .i64 0]) H2))))
def aJ45 : Ann := (fun _ => none)
def aL45 : Ann := (fun k => if k = 4 then some [] else none)
theorem V45_ok {H : Hp} {s : ByteArray} {K : Value → Hp → Prop} {Z : List PanicEntry → Hp → Prop} (h : V45 H s K Z) : CallF Tryd.prog 45 #[.string s] H K Z :=
  fnC_sound (P := Tryd.prog) (aJ := aJ45) (aL := aL45) (f := 45) (args := [.string s]) (Eq.mp (by kernel_rfl) h)
/-- (*weft/token.reader).next -/
def V65 (H : Hp) (r : Addr) (K : Value → Hp → Prop) (Z : List PanicEntry → Hp → Prop) : Prop :=
  ∃ x : ByteArray, hcell H r = some (.string x) ∧ IxS x 0 fun c => (((c == 35) = true → ∃ x1 : ByteArray, hcell H r = some (.string x1) ∧ 
    CallF Tryd.prog 86 #[.string x1, .int .u8 10] H (fun r1 H1 => ∃ y : Int, r1 = .int .i64 y ∧ (((decide (y < 0)) = true → 
    ∃ x2 : ByteArray, hcell H1 r = some (.string x2) ∧ ∃ x3 : ByteArray, hcell H1 r = some (.string x3) ∧ 
    SlS x3 (x2.size : Int) (x3.size : Int) fun cut => (StL r 0 [.string cut] H1 fun H2 => (K (.int .i64 0) H2))) ∧ 
    ((decide (y < 0)) = false → ∃ x4 : ByteArray, hcell H1 r = some (.string x4) ∧ SlS x4 y (x4.size : Int) fun cut1 => 
    (StL r 0 [.string cut1] H1 fun H3 => (K (.int .i64 0) H3))))) Z) ∧ ((c == 35) = false → (((c == 10) = true → 
    ∃ x5 : Int, hcell H (Addr.add r 1) = some (.int .i64 x5) ∧ StL (Addr.add r 1) 0 [.int .i64 (w64 (x5 + 1))] H fun H4 => 
    (∃ x6 : ByteArray, hcell H4 r = some (.string x6) ∧ SlS x6 1 (x6.size : Int) fun cut2 => (StL r 0 [.string cut2] H4 fun H5 => 
    (K (.int .i64 0) H5)))) ∧ ((c == 10) = false → (((c == 32) = true → (((c == 32) = true → ∃ x7 : ByteArray, hcell H r = some (.string x7) ∧ 
    SlS x7 1 (x7.size : Int) fun cut3 => (StL r 0 [.string cut3] H fun H6 => (K (.int .i64 0) H6))) ∧ 
    ((c == 32) = false → CallF Tryd.prog 86 #[.string ⟨#[123, 125, 40, 41, 91, 93, 59, 61, 44, 45]⟩, .int .u8 c] H (fun r2 H7 => 
    ∃ y1 : Int, r2 = .int .i64 y1 ∧ (((decide (y1 ≥ 0)) = true → CallF Tryd.prog 88 #[.pointer (some r), .int .i64 4, .int .i64 1] H7 (fun r3 H8 => 
    r3 = .tuple #[] ∧ K (.int .i64 0) H8) Z) ∧ ((decide (y1 ≥ 0)) = false → CallF Tryd.prog 89 #[.pointer (some r)] H7 (fun r4 H9 => 
    ∃ y2 : Int, r4 = .int .i64 y2 ∧ K (.int .i64 y2) H9) Z))) Z))) ∧ ((c == 32) = false → (((c == 9) = true → 
    (((c == 9) = true → ∃ x8 : ByteArray, hcell H r = some (.string x8) ∧ SlS x8 1 (x8.size : Int) fun cut4 => 
    (StL r 0 [.string cut4] H fun H10 => (K (.int .i64 0) H10))) ∧ ((c == 9) = false → CallF Tryd.prog 86 #[.string ⟨#[123, 125, 40, 41, 91, 93, 59, 61, 44, 45]⟩, .int .u8 c] H (fun r5 H11 => 
    ∃ y3 : Int, r5 = .int .i64 y3 ∧ (((decide (y3 ≥ 0)) = true → CallF Tryd.prog 88 #[.pointer (some r), .int .i64 4, .int .i64 1] H11 (fun r6 H12 => 
    r6 = .tuple #[] ∧ K (.int .i64 0) H12) Z) ∧ ((decide (y3 ≥ 0)) = false → CallF Tryd.prog 89 #[.pointer (some r)] H11 (fun r7 H13 => 
    ∃ y4 : Int, r7 = .int .i64 y4 ∧ K (.int .i64 y4) H13) Z))) Z))) ∧ ((c == 9) = false → (((c == 13) = true → 
    ∃ x9 : ByteArray, hcell H r = some (.string x9) ∧ SlS x9 1 (x9.size : Int) fun cut5 => (StL r 0 [.string cut5] H fun H14 => 
    (K (.int .i64 0) H14))) ∧ ((c == 13) = false → CallF Tryd.prog 86 #[.string ⟨#[123, 125, 40, 41, 91, 93, 59, 61, 44, 45]⟩, .int .u8 c] H (fun r8 H15 => 
    ∃ y5 : Int, r8 = .int .i64 y5 ∧ (((decide (y5 ≥ 0)) = true → CallF Tryd.prog 88 #[.pointer (some r), .int .i64 4, .int .i64 1] H15 (fun r9 H16 => 
    r9 = .tuple #[] ∧ K (.int .i64 0) H16) Z) ∧ ((decide (y5 ≥ 0)) = false → CallF Tryd.prog 89 #[.pointer (some r)] H15 (fun r10 H17 => 
    ∃ y6 : Int, r10 = .int .i64 y6 ∧ K (.int .i64 y6) H17) Z))) Z))))))))))
def aJ65 : Ann := (fun _ => none)
def aL65 : Ann := (fun _ => none)
theorem V65_ok {H : Hp} {r : Addr} {K : Value → Hp → Prop} {Z : List PanicEntry → Hp → Prop} (h : V65 H r K Z) : CallF Tryd.prog 65 #[.pointer (some r)] H K Z :=
  fnC_sound (P := Tryd.prog) (aJ := aJ65) (aL := aL65) (f := 65) (args := [.pointer (some r)]) (Eq.mp (by kernel_rfl) h)
/-- (*weft/token.reader).put -/
def V88 (H : Hp) (r : Addr) (kind : Int) (n : Int) (K : Value → Hp → Prop) (Z : List PanicEntry → Hp → Prop) : Prop :=
  ∃ J : Hp → Prop, (∀ H1, J  H1 → ∀ scr : Nat → Value, ∃ x : ByteArray, hcell H1 r = some (.string x) ∧ 
    SlS x n (x.size : Int) fun cut => (StL r 0 [.string cut] H1 fun H2 => (K (.tuple #[]) H2))) ∧ ∃ x1 : ByteArray, hcell H r = some (.string x1) ∧ 
    SlS x1 0 n fun cut1 => (∃ x2 : Int, hcell H (Addr.add r 1) = some (.int .i64 x2) ∧ ((∃ x3 : Sl, hcell H (Addr.add r 2) = some (.slice x3.a x3.n x3.c) ∧ 
    ∀ b H3, Newb H (.cells #[.int .i64 kind, .string cut1, .int .i64 x2] 64) b H3 → App Tryd.prog #[55, 55] 55 H3 [.slice x3.a x3.n x3.c, .slice (some ⟨b, 0, none⟩) 1 1] fun ap H4 => 
    (StL (Addr.add r 2) 0 [.slice ap.a ap.n ap.c] H4 fun H5 => (J  H5))) ∧ ((∃ x4 : Sl, hcell H (Addr.add r 2) = some (.slice x4.a x4.n x4.c) ∧ 
    ∀ b1 H6, Newb H (.cells #[.int .i64 kind, .string cut1, .int .i64 x2] 64) b1 H6 → App Tryd.prog #[55, 55] 55 H6 [.slice x4.a x4.n x4.c, .slice (some ⟨b1, 0, none⟩) 1 1] fun ap1 H7 => 
    (StL (Addr.add r 2) 0 [.slice ap1.a ap1.n ap1.c] H7 fun H8 => (J  H8))) ∧ (∀ b2 H9, Newb H (.cells #[.int .i64 kind, .string cut1, .int .i64 x2] 64) b2 H9 → 
    ∃ x5 : Sl, hcell H9 (Addr.add r 2) = some (.slice x5.a x5.n x5.c) ∧ App Tryd.prog #[55, 55] 55 H9 [.slice x5.a x5.n x5.c, .slice (some ⟨b2, 0, none⟩) 1 1] fun ap2 H10 => 
    (StL (Addr.add r 2) 0 [.slice ap2.a ap2.n ap2.c] H10 fun H11 => (J  H11))))))
def aJ88 : Ann := (fun k => if k = 1 then some [] else none)
def aL88 : Ann := (fun _ => none)
theorem V88_ok {H : Hp} {r : Addr} {kind : Int} {n : Int} {K : Value → Hp → Prop} {Z : List PanicEntry → Hp → Prop} (h : V88 H r kind n K Z) : CallF Tryd.prog 88 #[.pointer (some r), .int .i64 kind, .int .i64 n] H K Z :=
  fnC_sound (P := Tryd.prog) (aJ := aJ88) (aL := aL88) (f := 88) (args := [.pointer (some r), .int .i64 kind, .int .i64 n]) (Eq.mp (by kernel_rfl) h)
/-- (*weft/token.reader).word -/
def V89 (H : Hp) (r : Addr) (K : Value → Hp → Prop) (Z : List PanicEntry → Hp → Prop) : Prop :=
  ∃ x : ByteArray, hcell H r = some (.string x) ∧ CallF Tryd.prog 23 #[.string x] H (fun r1 H1 => ∃ y_0 : ByteArray, ∃ y_1 : ByteArray, r1 = .tuple #[.string y_0, .string y_1] ∧ 
    (((beqS y_0 ⟨#[]⟩) = true → K (.int .i64 16) H1) ∧ ((beqS y_0 ⟨#[]⟩) = false → ∃ J : Bool → Hp → 
    Prop, (∀ (t24 : Bool), ∀ H2, J t24 H2 → ∀ scr : Nat → Value, ((t24 = true → CallF Tryd.prog 23 #[.string y_1] H2 (fun r2 H3 => 
    ∃ y_01 : ByteArray, ∃ y_11 : ByteArray, r2 = .tuple #[.string y_01, .string y_11] ∧ (((!(beqS y_01 ⟨#[]⟩)) = true → 
    K (.int .i64 3) H3) ∧ ((!(beqS y_01 ⟨#[]⟩)) = false → CallF Tryd.prog 27 #[.string y_0] H3 (fun r3 H4 => 
    ∃ y_02 : Int, ∃ y_12 : Int, r3 = .tuple #[.int .i64 y_02, .int .i64 y_12] ∧ (((y_12 != 0) = true → 
    K (.int .i64 y_12) H4) ∧ ((y_12 != 0) = false → CallF Tryd.prog 88 #[.pointer (some r), .int .i64 3, .int .i64 (y_0.size : Int)] H4 (fun r4 H5 => 
    r4 = .tuple #[] ∧ K (.int .i64 0) H5) Z))) Z))) Z) ∧ (t24 = false → CallF Tryd.prog 21 #[.string y_0] H2 (fun r5 H6 => 
    ∃ y : Bool, r5 = .bool y ∧ ((y = true → CallF Tryd.prog 88 #[.pointer (some r), .int .i64 2, .int .i64 (y_0.size : Int)] H6 (fun r6 H7 => 
    r6 = .tuple #[] ∧ K (.int .i64 0) H7) Z) ∧ (y = false → CallF Tryd.prog 25 #[.string y_0] H6 (fun r7 H8 => 
    ∃ y1 : Bool, r7 = .bool y1 ∧ (((!y1) = true → K (.int .i64 11) H8) ∧ ((!y1) = false → CallF Tryd.prog 88 #[.pointer (some r), .int .i64 1, .int .i64 (y_0.size : Int)] H8 (fun r8 H9 => 
    r8 = .tuple #[] ∧ K (.int .i64 0) H9) Z))) Z))) Z))) ∧ IxS y_0 0 fun c => (((decide (c ≥ 48)) = true → 
    IxS y_0 0 fun c1 => (J (decide (c1 ≤ 57)) H1)) ∧ ((decide (c ≥ 48)) = false → (J false H1)))))) Z
def aJ89 : Ann := (fun k => if k = 6 then some [(24, (.sc .bool))] else none)
def aL89 : Ann := (fun _ => none)
theorem V89_ok {H : Hp} {r : Addr} {K : Value → Hp → Prop} {Z : List PanicEntry → Hp → Prop} (h : V89 H r K Z) : CallF Tryd.prog 89 #[.pointer (some r)] H K Z :=
  fnC_sound (P := Tryd.prog) (aJ := aJ89) (aL := aL89) (f := 89) (args := [.pointer (some r)]) (Eq.mp (by kernel_rfl) h)
/-- weft/token.Join -/
def V49 (H : Hp) (l : Sl) (K : Value → Hp → Prop) (Z : List PanicEntry → Hp → Prop) : Prop :=
  ∀ bB H1, Newb H (.cells #[.pointer none, .slice none 0 0] 94) bB H1 → ∃ I : Int → Hp → Nat → Prop, (∃ m, I 0 H1 m) ∧ 
    ∀ (t8 : Int), ∀ H2 m1, I t8 H2 m1 → ∀ scr : Nat → Value, (((decide (t8 < (l.n : Int))) = true → IxA l.a l.n t8 3 fun ad => 
    (∃ x_a : Int, ∃ x_b : ByteArray, ∃ x_c : Int, (hcell H2 ad = some (.int .i64 x_a) ∧ hcell H2 (Addr.add ad 1) = some (.string x_b) ∧ 
    hcell H2 (Addr.add ad 2) = some (.int .i64 x_c) ∧ True) ∧ ∀ bT H3, Newb H2 (.cells #[.int .i64 0, .string ⟨#[]⟩, .int .i64 0] 64) bT H3 → 
    StL ⟨bT, 0, none⟩ 0 [.int .i64 x_a, .string x_b, .int .i64 x_c] H3 fun H4 => (((decide (t8 > 0)) = true → 
    CallF Tryd.prog 70 #[.pointer (some ⟨bB, 0, none⟩), .int .u8 32] H4 (fun r H5 => ∃ y : Value, r = y ∧ 
    ∃ x : ByteArray, hcell H5 ⟨bT, 1, none⟩ = some (.string x) ∧ CallF Tryd.prog 71 #[.pointer (some ⟨bB, 0, none⟩), .string x] H5 (fun r1 H6 => 
    ∃ y_0 : Int, ∃ y_1 : Value, r1 = .tuple #[.int .i64 y_0, y_1] ∧ (∃ m2, m2 < m1 ∧ I (w64 (t8 + 1)) H6 m2)) Z) Z) ∧ 
    ((decide (t8 > 0)) = false → ∃ x1 : ByteArray, hcell H4 ⟨bT, 1, none⟩ = some (.string x1) ∧ CallF Tryd.prog 71 #[.pointer (some ⟨bB, 0, none⟩), .string x1] H4 (fun r2 H7 => 
    ∃ y_01 : Int, ∃ y_11 : Value, r2 = .tuple #[.int .i64 y_01, y_11] ∧ (∃ m2, m2 < m1 ∧ I (w64 (t8 + 1)) H7 m2)) Z)))) ∧ 
    ((decide (t8 < (l.n : Int))) = false → CallF Tryd.prog 72 #[.pointer (some ⟨bB, 0, none⟩)] H2 (fun r3 H8 => 
    ∃ y1 : ByteArray, r3 = .string y1 ∧ K (.string y1) H8) Z))
def aJ49 : Ann := (fun _ => none)
def aL49 : Ann := (fun k => if k = 3 then some [(8, (.sc (.int .i64)))] else none)
theorem V49_ok {H : Hp} {l : Sl} {K : Value → Hp → Prop} {Z : List PanicEntry → Hp → Prop} (h : V49 H l K Z) : CallF Tryd.prog 49 #[.slice l.a l.n l.c] H K Z :=
  fnC_sound (P := Tryd.prog) (aJ := aJ49) (aL := aL49) (f := 49) (args := [.slice l.a l.n l.c]) (Eq.mp (by kernel_rfl) h)
/-- weft/weftref09.Keys -/
def V20 (H : Hp)  (K : Value → Hp → Prop) (Z : List PanicEntry → Hp → Prop) : Prop :=
  ∀ b H1, Newb H (.cells #[.string ⟨#[97, 100, 100, 114]⟩, .string ⟨#[99, 97, 108, 108]⟩, .string ⟨#[99, 111, 112, 121]⟩, .string ⟨#[101, 108, 115, 101]⟩, .string ⟨#[101, 120, 116, 101, 114, 110]⟩, .string ⟨#[102, 110]⟩, .string ⟨#[102, 114, 101, 101]⟩, .string ⟨#[103, 108, 111, 98, 97, 108]⟩, .string ⟨#[105, 99, 97, 108, 108]⟩, .string ⟨#[105, 102]⟩, .string ⟨#[105, 110, 100, 101, 120]⟩, .string ⟨#[105, 110, 112, 117, 116]⟩, .string ⟨#[105, 110, 116]⟩, .string ⟨#[105, 115, 110, 117, 108, 108]⟩, .string ⟨#[108, 101, 115, 115]⟩, .string ⟨#[108, 111, 97, 100]⟩, .string ⟨#[109, 101, 109, 98, 101, 114]⟩, .string ⟨#[109, 105, 110, 117, 115]⟩, .string ⟨#[109, 111, 100, 117, 108, 101]⟩, .string ⟨#[110, 101, 119]⟩, .string ⟨#[110, 117, 108, 108]⟩, .string ⟨#[111, 98, 106]⟩, .string ⟨#[112, 108, 117, 115]⟩, .string ⟨#[112, 116, 114]⟩, .string ⟨#[114, 101, 116, 117, 114, 110]⟩, .string ⟨#[115, 97, 109, 101]⟩, .string ⟨#[115, 116, 97, 116, 105, 99]⟩, .string ⟨#[115, 116, 111, 114, 101]⟩, .string ⟨#[115, 116, 114, 117, 99, 116]⟩, .string ⟨#[116, 105, 109, 101, 115]⟩, .string ⟨#[118, 97, 114]⟩, .string ⟨#[119, 104, 105, 108, 101]⟩] 9) b H1 → 
    K (.slice (some ⟨b, 0, none⟩) 32 32) H1
def aJ20 : Ann := (fun _ => none)
def aL20 : Ann := (fun _ => none)
theorem V20_ok {H : Hp}  {K : Value → Hp → Prop} {Z : List PanicEntry → Hp → Prop} (h : V20 H  K Z) : CallF Tryd.prog 20 #[] H K Z :=
  fnC_sound (P := Tryd.prog) (aJ := aJ20) (aL := aL20) (f := 20) (args := []) (Eq.mp (by kernel_rfl) h)
/-- weft/weftref09.IsKey -/
def V22 (H : Hp) (s : ByteArray) (K : Value → Hp → Prop) (Z : List PanicEntry → Hp → Prop) : Prop :=
  CallF Tryd.prog 20 #[] H (fun r H1 => ∃ y : Sl, r = .slice y.a y.n y.c ∧ ∃ I : Int → Hp → Nat → Prop, (∃ m, I 0 H1 m) ∧ 
    ∀ (i : Int), ∀ H2 m1, I i H2 m1 → ∀ scr : Nat → Value, (((decide (i < (y.n : Int))) = true → IxA y.a y.n i 1 fun ad => 
    (∃ x : ByteArray, hcell H2 ad = some (.string x) ∧ (((beqS x s) = true → K (.bool true) H2) ∧ ((beqS x s) = false → 
    (∃ m2, m2 < m1 ∧ I (w64 (i + 1)) H2 m2))))) ∧ ((decide (i < (y.n : Int))) = false → K (.bool false) H2))) Z
def aJ22 : Ann := (fun _ => none)
def aL22 : Ann := (fun k => if k = 3 then some [(4, (.sc (.int .i64)))] else none)
theorem V22_ok {H : Hp} {s : ByteArray} {K : Value → Hp → Prop} {Z : List PanicEntry → Hp → Prop} (h : V22 H s K Z) : CallF Tryd.prog 22 #[.string s] H K Z :=
  fnC_sound (P := Tryd.prog) (aJ := aJ22) (aL := aL22) (f := 22) (args := [.string s]) (Eq.mp (by kernel_rfl) h)
/-- weft/weftref09.mark -/
def V66 (H : Hp) (c : Int) (K : Value → Hp → Prop) (Z : List PanicEntry → Hp → Prop) : Prop :=
  ∃ I : Int → Hp → Nat → Prop, (∃ m, I 0 H m) ∧ ∀ (i : Int), ∀ H1 m1, I i H1 m1 → ∀ scr : Nat → Value, (((decide (i < ((⟨#[123, 125, 40, 41, 91, 93, 59, 61, 44, 45]⟩ : ByteArray).size : Int))) = true → 
    IxS ⟨#[123, 125, 40, 41, 91, 93, 59, 61, 44, 45]⟩ i fun c1 => (((c1 == c) = true → K (.bool true) H1) ∧ 
    ((c1 == c) = false → (∃ m2, m2 < m1 ∧ I (w64 (i + 1)) H1 m2)))) ∧ ((decide (i < ((⟨#[123, 125, 40, 41, 91, 93, 59, 61, 44, 45]⟩ : ByteArray).size : Int))) = false → 
    K (.bool false) H1))
def aJ66 : Ann := (fun _ => none)
def aL66 : Ann := (fun k => if k = 3 then some [(4, (.sc (.int .i64)))] else none)
theorem V66_ok {H : Hp} {c : Int} {K : Value → Hp → Prop} {Z : List PanicEntry → Hp → Prop} (h : V66 H c K Z) : CallF Tryd.prog 66 #[.int .u8 c] H K Z :=
  fnC_sound (P := Tryd.prog) (aJ := aJ66) (aL := aL66) (f := 66) (args := [.int .u8 c]) (Eq.mp (by kernel_rfl) h)
/-- weft/weftref09.letter -/
def V67 (H : Hp) (c : Int) (K : Value → Hp → Prop) (Z : List PanicEntry → Hp → Prop) : Prop :=
  ∀ b H1, Newb H (.cells #[.int .u8 c] 5) b H1 → Cvt Tryd.prog 90 9 H1 (.slice (some ⟨b, 0, none⟩) 1 1) fun r H2 => 
    ∃ cv : ByteArray, r = .string cv ∧ CallF Tryd.prog 26 #[.string cv] H2 (fun r1 H3 => ∃ y : Bool, r1 = .bool y ∧ 
    K (.bool y) H3) Z
def aJ67 : Ann := (fun _ => none)
def aL67 : Ann := (fun _ => none)
theorem V67_ok {H : Hp} {c : Int} {K : Value → Hp → Prop} {Z : List PanicEntry → Hp → Prop} (h : V67 H c K Z) : CallF Tryd.prog 67 #[.int .u8 c] H K Z :=
  fnC_sound (P := Tryd.prog) (aJ := aJ67) (aL := aL67) (f := 67) (args := [.int .u8 c]) (Eq.mp (by kernel_rfl) h)
/-- weft/weftref09.digit -/
def V68 (H : Hp) (c : Int) (K : Value → Hp → Prop) (Z : List PanicEntry → Hp → Prop) : Prop :=
  (((decide (c ≥ 48)) = true → K (.bool (decide (c ≤ 57))) H) ∧ ((decide (c ≥ 48)) = false → K (.bool false) H))
def aJ68 : Ann := (fun _ => none)
def aL68 : Ann := (fun _ => none)
theorem V68_ok {H : Hp} {c : Int} {K : Value → Hp → Prop} {Z : List PanicEntry → Hp → Prop} (h : V68 H c K Z) : CallF Tryd.prog 68 #[.int .u8 c] H K Z :=
  fnC_sound (P := Tryd.prog) (aJ := aJ68) (aL := aL68) (f := 68) (args := [.int .u8 c]) (Eq.mp (by kernel_rfl) h)
/-- weft/weftref09.word -/
def V69 (H : Hp) (t : ByteArray) (behind : Bool) (K : Value → Hp → Prop) (Z : List PanicEntry → Hp → Prop) : Prop :=
  IxS t 0 fun c => (CallF Tryd.prog 68 #[.int .u8 c] H (fun r H1 => ∃ y : Bool, r = .bool y ∧ ((y = true → 
    ((behind = true → K (.tuple #[.int .i64 0, .int .i64 3]) H1) ∧ (behind = false → CallF Tryd.prog 28 #[.string t] H1 (fun r1 H2 => 
    ∃ y_0 : Int, ∃ y_1 : Int, r1 = .tuple #[.int .i64 y_0, .int .i64 y_1] ∧ K (.tuple #[.int .i64 3, .int .i64 y_1]) H2) Z))) ∧ 
    (y = false → CallF Tryd.prog 22 #[.string t] H1 (fun r2 H3 => ∃ y1 : Bool, r2 = .bool y1 ∧ ((y1 = true → 
    K (.tuple #[.int .i64 2, .int .i64 0]) H3) ∧ (y1 = false → CallF Tryd.prog 26 #[.string t] H3 (fun r3 H4 => 
    ∃ y2 : Bool, r3 = .bool y2 ∧ (((!y2) = true → K (.tuple #[.int .i64 0, .int .i64 11]) H4) ∧ ((!y2) = false → 
    K (.tuple #[.int .i64 1, .int .i64 0]) H4))) Z))) Z))) Z)
def aJ69 : Ann := (fun _ => none)
def aL69 : Ann := (fun _ => none)
theorem V69_ok {H : Hp} {t : ByteArray} {behind : Bool} {K : Value → Hp → Prop} {Z : List PanicEntry → Hp → Prop} (h : V69 H t behind K Z) : CallF Tryd.prog 69 #[.string t, .bool behind] H K Z :=
  fnC_sound (P := Tryd.prog) (aJ := aJ69) (aL := aL69) (f := 69) (args := [.string t, .bool behind]) (Eq.mp (by kernel_rfl) h)
/-- weft/weftref09.All -/
def V46 (H : Hp) (s : ByteArray) (K : Value → Hp → Prop) (Z : List PanicEntry → Hp → Prop) : Prop :=
  (((decide ((s.size : Int) > 20000)) = true → K (.tuple #[.slice none 0 0, .int .i64 0, .int .i64 9]) H) ∧ 
    ((decide ((s.size : Int) > 20000)) = false → ∃ I : Sl → Int → Int → Hp → Nat → Prop, (∃ m, I (⟨none, 0, 0⟩ : Sl) 1 0 H m) ∧ 
    ∀ (l : Sl) (line : Int) (i : Int), ∀ H1 m1, I l line i H1 m1 → ∀ scr : Nat → Value, (((decide (i < (s.size : Int))) = true → 
    IxS s i fun c => (((c == 10) = true → (∃ m2, m2 < m1 ∧ I l (w64 (line + 1)) (w64 (i + 1)) H1 m2)) ∧ 
    ((c == 10) = false → ∃ J : Bool → Hp → Prop, (∀ (t31 : Bool), ∀ H2, J t31 H2 → ∀ scr1 : Nat → Value, ((t31 = true → 
    (∃ m2, m2 < m1 ∧ I l line (w64 (i + 1)) H2 m2)) ∧ (t31 = false → (((c == 35) = true → ∃ I1 : Int → 
    Hp → Nat → Prop, (∃ m3, I1 i H2 m3) ∧ ∀ (i1 : Int), ∀ H3 m4, I1 i1 H3 m4 → ∀ scr2 : Nat → Value, (((decide (i1 < (s.size : Int))) = true → 
    IxS s i1 fun c1 => (((c1 != 10) = true → (∃ m5, m5 < m4 ∧ I1 (w64 (i1 + 1)) H3 m5)) ∧ ((c1 != 10) = false → 
    (∃ m2, m2 < m1 ∧ I l line i1 H3 m2)))) ∧ ((decide (i1 < (s.size : Int))) = false → (∃ m2, m2 < m1 ∧ 
    I l line i1 H3 m2)))) ∧ ((c == 35) = false → CallF Tryd.prog 66 #[.int .u8 c] H2 (fun r H4 => ∃ y : Bool, r = .bool y ∧ 
    ((y = true → ∀ b H5, Newb H4 (.cells #[.int .u8 c] 5) b H5 → Cvt Tryd.prog 90 9 H5 (.slice (some ⟨b, 0, none⟩) 1 1) fun r1 H6 => 
    ∃ cv : ByteArray, r1 = .string cv ∧ ∀ b1 H7, Newb H6 (.cells #[.int .i64 4, .string cv, .int .i64 line] 63) b1 H7 → 
    App Tryd.prog #[58, 58] 58 H7 [.slice l.a l.n l.c, .slice (some ⟨b1, 0, none⟩) 1 1] fun ap H8 => 
    (∃ m2, m2 < m1 ∧ I ap line (w64 (i + 1)) H8 m2)) ∧ (y = false → ∃ J1 : Bool → Hp → Prop, (∀ (t72 : Bool), ∀ H9, J1 t72 H9 → 
    ∀ scr3 : Nat → Value, ((t72 = true → SlS s i (s.size : Int) fun cut => (CallF Tryd.prog 24 #[.string cut] H9 (fun r2 H10 => 
    ∃ y_0 : ByteArray, ∃ y_1 : ByteArray, r2 = .tuple #[.string y_0, .string y_1] ∧ (((decide ((w64 (i + (y_0.size : Int))) < (s.size : Int))) = true → 
    IxS s (w64 (i + (y_0.size : Int))) fun c2 => (CallF Tryd.prog 67 #[.int .u8 c2] H10 (fun r3 H11 => 
    ∃ y1 : Bool, r3 = .bool y1 ∧ CallF Tryd.prog 69 #[.string y_0, .bool y1] H11 (fun r4 H12 => ∃ y_01 : Int, ∃ y_11 : Int, r4 = .tuple #[.int .i64 y_01, .int .i64 y_11] ∧ 
    (((y_11 != 0) = true → K (.tuple #[.slice none 0 0, .int .i64 line, .int .i64 y_11]) H12) ∧ ((y_11 != 0) = false → 
    ∀ b2 H13, Newb H12 (.cells #[.int .i64 y_01, .string y_0, .int .i64 line] 63) b2 H13 → App Tryd.prog #[58, 58] 58 H13 [.slice l.a l.n l.c, .slice (some ⟨b2, 0, none⟩) 1 1] fun ap1 H14 => 
    (∃ m2, m2 < m1 ∧ I ap1 line (w64 (i + (y_0.size : Int))) H14 m2)))) Z) Z)) ∧ ((decide ((w64 (i + (y_0.size : Int))) < (s.size : Int))) = false → 
    CallF Tryd.prog 69 #[.string y_0, .bool false] H10 (fun r5 H15 => ∃ y_02 : Int, ∃ y_12 : Int, r5 = .tuple #[.int .i64 y_02, .int .i64 y_12] ∧ 
    (((y_12 != 0) = true → K (.tuple #[.slice none 0 0, .int .i64 line, .int .i64 y_12]) H15) ∧ ((y_12 != 0) = false → 
    ∀ b3 H16, Newb H15 (.cells #[.int .i64 y_02, .string y_0, .int .i64 line] 63) b3 H16 → App Tryd.prog #[58, 58] 58 H16 [.slice l.a l.n l.c, .slice (some ⟨b3, 0, none⟩) 1 1] fun ap2 H17 => 
    (∃ m2, m2 < m1 ∧ I ap2 line (w64 (i + (y_0.size : Int))) H17 m2)))) Z))) Z)) ∧ (t72 = false → K (.tuple #[.slice none 0 0, .int .i64 line, .int .i64 16]) H9))) ∧ 
    CallF Tryd.prog 67 #[.int .u8 c] H4 (fun r6 H18 => ∃ y2 : Bool, r6 = .bool y2 ∧ ((y2 = true → (J1 true H18)) ∧ 
    (y2 = false → CallF Tryd.prog 68 #[.int .u8 c] H18 (fun r7 H19 => ∃ y3 : Bool, r7 = .bool y3 ∧ (J1 y3 H19)) Z))) Z))) Z))))) ∧ 
    (((c == 32) = true → (J true H1)) ∧ ((c == 32) = false → (((c == 9) = true → (J true H1)) ∧ ((c == 9) = false → 
    (J (c == 13) H1)))))))) ∧ ((decide (i < (s.size : Int))) = false → K (.tuple #[.slice l.a l.n l.c, .int .i64 0, .int .i64 0]) H1))))
def aJ46 : Ann := (fun k => if k = 13 then some [(31, (.sc .bool))] else if k = 21 then some [(72, (.sc .bool))] else none)
def aL46 : Ann := (fun k => if k = 6 then some [(5, (.sc .sl)), (6, (.sc (.int .i64))), (7, (.sc (.int .i64)))] else if k = 15 then some [(7, (.sc (.int .i64)))] else none)
theorem V46_ok {H : Hp} {s : ByteArray} {K : Value → Hp → Prop} {Z : List PanicEntry → Hp → Prop} (h : V46 H s K Z) : CallF Tryd.prog 46 #[.string s] H K Z :=
  fnC_sound (P := Tryd.prog) (aJ := aJ46) (aL := aL46) (f := 46) (args := [.string s]) (Eq.mp (by kernel_rfl) h)
/-- weft/weftref09.Join -/
def V50 (H : Hp) (l : Sl) (K : Value → Hp → Prop) (Z : List PanicEntry → Hp → Prop) : Prop :=
  ∃ I : ByteArray → Int → Hp → Nat → Prop, (∃ m, I ⟨#[]⟩ 0 H m) ∧ ∀ (s : ByteArray) (i : Int), ∀ H1 m1, I s i H1 m1 → 
    ∀ scr : Nat → Value, (((decide (i < (l.n : Int))) = true → (((decide (i > 0)) = true → (s.size + (⟨#[32]⟩ : ByteArray).size ≤ 4611686018427387904 ∧ 
    IxA l.a l.n i 3 fun ad => (∃ x : ByteArray, hcell H1 (Addr.add ad 1) = some (.string x) ∧ ((s ++ (⟨#[32]⟩ : ByteArray)).size + x.size ≤ 4611686018427387904 ∧ 
    (∃ m2, m2 < m1 ∧ I ((s ++ (⟨#[32]⟩ : ByteArray)) ++ x) (w64 (i + 1)) H1 m2))))) ∧ ((decide (i > 0)) = false → 
    IxA l.a l.n i 3 fun ad1 => (∃ x1 : ByteArray, hcell H1 (Addr.add ad1 1) = some (.string x1) ∧ (s.size + x1.size ≤ 4611686018427387904 ∧ 
    (∃ m2, m2 < m1 ∧ I (s ++ x1) (w64 (i + 1)) H1 m2)))))) ∧ ((decide (i < (l.n : Int))) = false → K (.string s) H1))
def aJ50 : Ann := (fun _ => none)
def aL50 : Ann := (fun k => if k = 3 then some [(3, (.sc .str)), (4, (.sc (.int .i64)))] else none)
theorem V50_ok {H : Hp} {l : Sl} {K : Value → Hp → Prop} {Z : List PanicEntry → Hp → Prop} (h : V50 H l K Z) : CallF Tryd.prog 50 #[.slice l.a l.n l.c] H K Z :=
  fnC_sound (P := Tryd.prog) (aJ := aJ50) (aL := aL50) (f := 50) (args := [.slice l.a l.n l.c]) (Eq.mp (by kernel_rfl) h)
/-- weft/weftref05.Same -/
def V19 (H : Hp) (a : Sl) (b : Sl) (K : Value → Hp → Prop) (Z : List PanicEntry → Hp → Prop) : Prop :=
  ((((a.n : Int) != (b.n : Int)) = true → K (.bool false) H) ∧ (((a.n : Int) != (b.n : Int)) = false → 
    ∃ I : Int → Hp → Nat → Prop, (∃ m, I 0 H m) ∧ ∀ (i : Int), ∀ H1 m1, I i H1 m1 → ∀ scr : Nat → Value, (((decide (i < (a.n : Int))) = true → 
    (((decide (i < (b.n : Int))) = true → IxA a.a a.n i 1 fun ad => (∃ x : ByteArray, hcell H1 ad = some (.string x) ∧ 
    IxA b.a b.n i 1 fun ad1 => (∃ x1 : ByteArray, hcell H1 ad1 = some (.string x1) ∧ (((!(beqS x x1)) = true → 
    K (.bool false) H1) ∧ ((!(beqS x x1)) = false → (∃ m2, m2 < m1 ∧ I (w64 (i + 1)) H1 m2)))))) ∧ ((decide (i < (b.n : Int))) = false → 
    K (.bool true) H1))) ∧ ((decide (i < (a.n : Int))) = false → K (.bool true) H1))))
def aJ19 : Ann := (fun _ => none)
def aL19 : Ann := (fun k => if k = 4 then some [(5, (.sc (.int .i64)))] else none)
theorem V19_ok {H : Hp} {a : Sl} {b : Sl} {K : Value → Hp → Prop} {Z : List PanicEntry → Hp → Prop} (h : V19 H a b K Z) : CallF Tryd.prog 19 #[.slice a.a a.n a.c, .slice b.a b.n b.c] H K Z :=
  fnC_sound (P := Tryd.prog) (aJ := aJ19) (aL := aL19) (f := 19) (args := [.slice a.a a.n a.c, .slice b.a b.n b.c]) (Eq.mp (by kernel_rfl) h)
/-- weft/weftlaw09.Same -/
def V47 (H : Hp) (a : Sl) (b : Sl) (K : Value → Hp → Prop) (Z : List PanicEntry → Hp → Prop) : Prop :=
  ((((a.n : Int) != (b.n : Int)) = true → K (.bool false) H) ∧ (((a.n : Int) != (b.n : Int)) = false → 
    ∃ I : Int → Hp → Nat → Prop, (∃ m, I 0 H m) ∧ ∀ (i : Int), ∀ H1 m1, I i H1 m1 → ∀ scr : Nat → Value, ∃ J : Hp → 
    Prop, (∀ H2, J  H2 → ∀ scr1 : Nat → Value, IxA a.a a.n i 3 fun ad => (∃ x : Int, hcell H2 ad = some (.int .i64 x) ∧ 
    IxA b.a b.n i 3 fun ad1 => (∃ x1 : Int, hcell H2 ad1 = some (.int .i64 x1) ∧ (((x != x1) = true → 
    K (.bool false) H2) ∧ ((x != x1) = false → IxA a.a a.n i 3 fun ad2 => (∃ x2 : ByteArray, hcell H2 (Addr.add ad2 1) = some (.string x2) ∧ 
    IxA b.a b.n i 3 fun ad3 => (∃ x3 : ByteArray, hcell H2 (Addr.add ad3 1) = some (.string x3) ∧ (((!(beqS x2 x3)) = true → 
    K (.bool false) H2) ∧ ((!(beqS x2 x3)) = false → IxA a.a a.n i 3 fun ad4 => (∃ x4 : Int, hcell H2 (Addr.add ad4 2) = some (.int .i64 x4) ∧ 
    IxA b.a b.n i 3 fun ad5 => (∃ x5 : Int, hcell H2 (Addr.add ad5 2) = some (.int .i64 x5) ∧ (((x4 != x5) = true → 
    K (.bool false) H2) ∧ ((x4 != x5) = false → (∃ m2, m2 < m1 ∧ I (w64 (i + 1)) H2 m2)))))))))))))) ∧ 
    (((decide (i < (a.n : Int))) = true → (((decide (i < (b.n : Int))) = true → (J  H1)) ∧ ((decide (i < (b.n : Int))) = false → 
    K (.bool true) H1))) ∧ ((decide (i < (a.n : Int))) = false → K (.bool true) H1))))
def aJ47 : Ann := (fun k => if k = 6 then some [] else none)
def aL47 : Ann := (fun k => if k = 4 then some [(5, (.sc (.int .i64)))] else none)
theorem V47_ok {H : Hp} {a : Sl} {b : Sl} {K : Value → Hp → Prop} {Z : List PanicEntry → Hp → Prop} (h : V47 H a b K Z) : CallF Tryd.prog 47 #[.slice a.a a.n a.c, .slice b.a b.n b.c] H K Z :=
  fnC_sound (P := Tryd.prog) (aJ := aJ47) (aL := aL47) (f := 47) (args := [.slice a.a a.n a.c, .slice b.a b.n b.c]) (Eq.mp (by kernel_rfl) h)
/-- weft/weftlaw09.works -/
def V48 (H : Hp)  (K : Value → Hp → Prop) (Z : List PanicEntry → Hp → Prop) : Prop :=
  CallF Tryd.prog 45 #[.string ⟨#[120, 32, 61, 32, 108, 111, 97, 100, 32, 112, 59, 32, 35, 32, 110, 111, 116, 101]⟩] H (fun r H1 => 
    ∃ y_0 : Sl, ∃ y_1 : Int, ∃ y_2 : Int, r = .tuple #[.slice y_0.a y_0.n y_0.c, .int .i64 y_1, .int .i64 y_2] ∧ 
    (((y_2 == 0) = true → ((((y_0.n : Int) == 5) = true → IxA y_0.a y_0.n 2 3 fun ad => (∃ x : Int, hcell H1 ad = some (.int .i64 x) ∧ 
    (((x == 2) = true → IxA y_0.a y_0.n 3 3 fun ad1 => (∃ x1 : ByteArray, hcell H1 (Addr.add ad1 1) = some (.string x1) ∧ 
    (((beqS x1 ⟨#[112]⟩) = true → CallF Tryd.prog 49 #[.slice y_0.a y_0.n y_0.c] H1 (fun r1 H2 => ∃ y : ByteArray, r1 = .string y ∧ 
    K (.bool (beqS y ⟨#[120, 32, 61, 32, 108, 111, 97, 100, 32, 112, 32, 59]⟩)) H2) Z) ∧ ((beqS x1 ⟨#[112]⟩) = false → 
    K (.bool false) H1)))) ∧ ((x == 2) = false → K (.bool false) H1)))) ∧ (((y_0.n : Int) == 5) = false → 
    K (.bool false) H1))) ∧ ((y_2 == 0) = false → K (.bool false) H1))) Z
def aJ48 : Ann := (fun _ => none)
def aL48 : Ann := (fun _ => none)
theorem V48_ok {H : Hp}  {K : Value → Hp → Prop} {Z : List PanicEntry → Hp → Prop} (h : V48 H  K Z) : CallF Tryd.prog 48 #[] H K Z :=
  fnC_sound (P := Tryd.prog) (aJ := aJ48) (aL := aL48) (f := 48) (args := []) (Eq.mp (by kernel_rfl) h)
/-- weft/weftlaw09.TokenAll -/
def V13 (H : Hp) (s : ByteArray) (K : Value → Hp → Prop) (Z : List PanicEntry → Hp → Prop) : Prop :=
  ∃ J : Hp → Prop, (∀ H1, J  H1 → ∀ scr : Nat → Value, CallF Tryd.prog 45 #[.string s] H1 (fun r H2 => 
    ∃ y_0 : Sl, ∃ y_1 : Int, ∃ y_2 : Int, r = .tuple #[.slice y_0.a y_0.n y_0.c, .int .i64 y_1, .int .i64 y_2] ∧ 
    CallF Tryd.prog 46 #[.string s] H2 (fun r1 H3 => ∃ y_01 : Sl, ∃ y_11 : Int, ∃ y_21 : Int, r1 = .tuple #[.slice y_01.a y_01.n y_01.c, .int .i64 y_11, .int .i64 y_21] ∧ 
    CallF Tryd.prog 47 #[.slice y_0.a y_0.n y_0.c, .slice y_01.a y_01.n y_01.c] H3 (fun r2 H4 => ∃ y : Bool, r2 = .bool y ∧ 
    ((y = true → (((y_1 == y_11) = true → (((y_2 == y_21) = true → CallF Tryd.prog 48 #[] H4 (fun r3 H5 => 
    ∃ y1 : Bool, r3 = .bool y1 ∧ K (.bool y1) H5) Z) ∧ ((y_2 == y_21) = false → K (.bool false) H4))) ∧ 
    ((y_1 == y_11) = false → K (.bool false) H4))) ∧ (y = false → K (.bool false) H4))) Z) Z) Z) ∧ (((decide ((s.size : Int) > 5000)) = true → 
    (((decide ((s.size : Int) ≤ 20000)) = true → K (.bool true) H) ∧ ((decide ((s.size : Int) ≤ 20000)) = false → 
    (J  H)))) ∧ ((decide ((s.size : Int) > 5000)) = false → (J  H)))
def aJ13 : Ann := (fun k => if k = 3 then some [] else none)
def aL13 : Ann := (fun _ => none)
theorem V13_ok {H : Hp} {s : ByteArray} {K : Value → Hp → Prop} {Z : List PanicEntry → Hp → Prop} (h : V13 H s K Z) : CallF Tryd.prog 13 #[.string s] H K Z :=
  fnC_sound (P := Tryd.prog) (aJ := aJ13) (aL := aL13) (f := 13) (args := [.string s]) (Eq.mp (by kernel_rfl) h)
/-- weft/weftlaw09.TokenKeys -/
def V4 (H : Hp) (s : ByteArray) (K : Value → Hp → Prop) (Z : List PanicEntry → Hp → Prop) : Prop :=
  CallF Tryd.prog 18 #[] H (fun r H1 => ∃ y : Sl, r = .slice y.a y.n y.c ∧ CallF Tryd.prog 18 #[] H1 (fun r1 H2 => 
    ∃ y1 : Sl, r1 = .slice y1.a y1.n y1.c ∧ ∃ I : Int → Hp → Nat → Prop, (∃ m, I 0 H2 m) ∧ ∀ (i : Int), ∀ H3 m1, I i H3 m1 → 
    ∀ scr : Nat → Value, (((decide (i < (y.n : Int))) = true → IxA y.a y.n i 1 fun ad => (StL ad 0 [.string ⟨#[]⟩] H3 fun H4 => 
    (∃ m2, m2 < m1 ∧ I (w64 (i + 1)) H4 m2))) ∧ ((decide (i < (y.n : Int))) = false → CallF Tryd.prog 20 #[] H3 (fun r2 H5 => 
    ∃ y2 : Sl, r2 = .slice y2.a y2.n y2.c ∧ CallF Tryd.prog 19 #[.slice y1.a y1.n y1.c, .slice y2.a y2.n y2.c] H5 (fun r3 H6 => 
    ∃ y3 : Bool, r3 = .bool y3 ∧ ((y3 = true → CallF Tryd.prog 18 #[] H6 (fun r4 H7 => ∃ y4 : Sl, r4 = .slice y4.a y4.n y4.c ∧ 
    CallF Tryd.prog 20 #[] H7 (fun r5 H8 => ∃ y5 : Sl, r5 = .slice y5.a y5.n y5.c ∧ CallF Tryd.prog 19 #[.slice y4.a y4.n y4.c, .slice y5.a y5.n y5.c] H8 (fun r6 H9 => 
    ∃ y6 : Bool, r6 = .bool y6 ∧ ((y6 = true → CallF Tryd.prog 21 #[.string s] H9 (fun r7 H10 => ∃ y7 : Bool, r7 = .bool y7 ∧ 
    CallF Tryd.prog 22 #[.string s] H10 (fun r8 H11 => ∃ y8 : Bool, r8 = .bool y8 ∧ K (.bool (y7 == y8)) H11) Z) Z) ∧ 
    (y6 = false → K (.bool false) H9))) Z) Z) Z) ∧ (y3 = false → K (.bool false) H6))) Z) Z))) Z) Z
def aJ4 : Ann := (fun _ => none)
def aL4 : Ann := (fun k => if k = 4 then some [(5, (.sc (.int .i64)))] else none)
theorem V4_ok {H : Hp} {s : ByteArray} {K : Value → Hp → Prop} {Z : List PanicEntry → Hp → Prop} (h : V4 H s K Z) : CallF Tryd.prog 4 #[.string s] H K Z :=
  fnC_sound (P := Tryd.prog) (aJ := aJ4) (aL := aL4) (f := 4) (args := [.string s]) (Eq.mp (by kernel_rfl) h)
/-- weft/weftlaw09.TokenJoins -/
def V14 (H : Hp) (l : Sl) (K : Value → Hp → Prop) (Z : List PanicEntry → Hp → Prop) : Prop :=
  (((decide ((l.n : Int) > 300)) = true → K (.bool true) H) ∧ ((decide ((l.n : Int) > 300)) = false → 
    ∃ I : Sl → Int → Hp → Nat → Prop, (∃ m, I (⟨none, 0, 0⟩ : Sl) 0 H m) ∧ ∀ (m1 : Sl) (i : Int), ∀ H1 m2, I m1 i H1 m2 → 
    ∀ scr : Nat → Value, (((decide (i < (l.n : Int))) = true → IxA l.a l.n i 3 fun ad => (∃ x : ByteArray, hcell H1 (Addr.add ad 1) = some (.string x) ∧ 
    (((decide ((x.size : Int) > 300)) = true → K (.bool true) H1) ∧ ((decide ((x.size : Int) > 300)) = false → 
    IxA l.a l.n i 3 fun ad1 => (∃ x1 : Int, hcell H1 ad1 = some (.int .i64 x1) ∧ IxA l.a l.n i 3 fun ad2 => 
    (∃ x2 : ByteArray, hcell H1 (Addr.add ad2 1) = some (.string x2) ∧ IxA l.a l.n i 3 fun ad3 => (∃ x3 : Int, hcell H1 (Addr.add ad3 2) = some (.int .i64 x3) ∧ 
    ∀ b H2, Newb H1 (.cells #[.int .i64 x1, .string x2, .int .i64 x3] 64) b H2 → App Tryd.prog #[55, 55] 55 H2 [.slice m1.a m1.n m1.c, .slice (some ⟨b, 0, none⟩) 1 1] fun ap H3 => 
    (∃ m3, m3 < m2 ∧ I ap (w64 (i + 1)) H3 m3)))))))) ∧ ((decide (i < (l.n : Int))) = false → CallF Tryd.prog 49 #[.slice m1.a m1.n m1.c] H1 (fun r H4 => 
    ∃ y : ByteArray, r = .string y ∧ CallF Tryd.prog 50 #[.slice l.a l.n l.c] H4 (fun r1 H5 => ∃ y1 : ByteArray, r1 = .string y1 ∧ 
    (((beqS y y1) = true → CallF Tryd.prog 48 #[] H5 (fun r2 H6 => ∃ y2 : Bool, r2 = .bool y2 ∧ K (.bool y2) H6) Z) ∧ 
    ((beqS y y1) = false → K (.bool false) H5))) Z) Z))))
def aJ14 : Ann := (fun _ => none)
def aL14 : Ann := (fun k => if k = 5 then some [(3, (.sc .sl)), (4, (.sc (.int .i64)))] else none)
theorem V14_ok {H : Hp} {l : Sl} {K : Value → Hp → Prop} {Z : List PanicEntry → Hp → Prop} (h : V14 H l K Z) : CallF Tryd.prog 14 #[.slice l.a l.n l.c] H K Z :=
  fnC_sound (P := Tryd.prog) (aJ := aJ14) (aL := aL14) (f := 14) (args := [.slice l.a l.n l.c]) (Eq.mp (by kernel_rfl) h)
/-- weft/weftlaw09.TokenBack -/
def V15 (H : Hp) (s : ByteArray) (note : ByteArray) (K : Value → Hp → Prop) (Z : List PanicEntry → Hp → Prop) : Prop :=
  CallF Tryd.prog 48 #[] H (fun r H1 => ∃ y : Bool, r = .bool y ∧ (((!y) = true → K (.bool false) H1) ∧ 
    ((!y) = false → ∃ J : Hp → Prop, (∀ H2, J  H2 → ∀ scr : Nat → Value, ∃ I : Int → Hp → Nat → Prop, (∃ m, I 0 H2 m) ∧ 
    ∀ (i : Int), ∀ H3 m1, I i H3 m1 → ∀ scr1 : Nat → Value, (((decide (i < (note.size : Int))) = true → 
    IxS note i fun c => (((c == 10) = true → K (.bool true) H3) ∧ ((c == 10) = false → (∃ m2, m2 < m1 ∧ 
    I (w64 (i + 1)) H3 m2)))) ∧ ((decide (i < (note.size : Int))) = false → CallF Tryd.prog 45 #[.string s] H3 (fun r1 H4 => 
    ∃ y_0 : Sl, ∃ y_1 : Int, ∃ y_2 : Int, r1 = .tuple #[.slice y_0.a y_0.n y_0.c, .int .i64 y_1, .int .i64 y_2] ∧ 
    (((y_2 != 0) = true → K (.bool true) H4) ∧ ((y_2 != 0) = false → ∃ I1 : ByteArray → Int → Hp → Nat → 
    Prop, (∃ m3, I1 ⟨#[]⟩ 0 H4 m3) ∧ ∀ (t : ByteArray) (i1 : Int), ∀ H5 m4, I1 t i1 H5 m4 → ∀ scr2 : Nat → 
    Value, (((decide (i1 < (y_0.n : Int))) = true → (t.size + (⟨#[9, 35]⟩ : ByteArray).size ≤ 4611686018427387904 ∧ 
    ((t ++ (⟨#[9, 35]⟩ : ByteArray)).size + note.size ≤ 4611686018427387904 ∧ (((t ++ (⟨#[9, 35]⟩ : ByteArray)) ++ note).size + (⟨#[10, 32]⟩ : ByteArray).size ≤ 4611686018427387904 ∧ 
    IxA y_0.a y_0.n i1 3 fun ad => (∃ x : ByteArray, hcell H5 (Addr.add ad 1) = some (.string x) ∧ ((((t ++ (⟨#[9, 35]⟩ : ByteArray)) ++ note) ++ (⟨#[10, 32]⟩ : ByteArray)).size + x.size ≤ 4611686018427387904 ∧ 
    (∃ m5, m5 < m4 ∧ I1 ((((t ++ (⟨#[9, 35]⟩ : ByteArray)) ++ note) ++ (⟨#[10, 32]⟩ : ByteArray)) ++ x) (w64 (i1 + 1)) H5 m5))))))) ∧ 
    ((decide (i1 < (y_0.n : Int))) = false → CallF Tryd.prog 49 #[.slice y_0.a y_0.n y_0.c] H5 (fun r2 H6 => 
    ∃ y1 : ByteArray, r2 = .string y1 ∧ CallF Tryd.prog 45 #[.string y1] H6 (fun r3 H7 => ∃ y_01 : Sl, ∃ y_11 : Int, ∃ y_21 : Int, r3 = .tuple #[.slice y_01.a y_01.n y_01.c, .int .i64 y_11, .int .i64 y_21] ∧ 
    CallF Tryd.prog 45 #[.string t] H7 (fun r4 H8 => ∃ y_02 : Sl, ∃ y_12 : Int, ∃ y_22 : Int, r4 = .tuple #[.slice y_02.a y_02.n y_02.c, .int .i64 y_12, .int .i64 y_22] ∧ 
    ∃ J1 : Hp → Prop, (∀ H9, J1  H9 → ∀ scr3 : Nat → Value, ∃ J2 : Hp → Prop, (∀ H10, J2  H10 → ∀ scr4 : Nat → 
    Value, ∃ I2 : Int → Hp → Nat → Prop, (∃ m6, I2 0 H10 m6) ∧ ∀ (i2 : Int), ∀ H11 m7, I2 i2 H11 m7 → 
    ∀ scr5 : Nat → Value, ∃ J3 : Hp → Prop, (∀ H12, J3  H12 → ∀ scr6 : Nat → Value, IxA y_01.a y_01.n i2 3 fun ad1 => 
    (∃ x1 : Int, hcell H12 ad1 = some (.int .i64 x1) ∧ IxA y_0.a y_0.n i2 3 fun ad2 => (∃ x2 : Int, hcell H12 ad2 = some (.int .i64 x2) ∧ 
    (((x1 != x2) = true → K (.bool false) H12) ∧ ((x1 != x2) = false → IxA y_01.a y_01.n i2 3 fun ad3 => 
    (∃ x3 : ByteArray, hcell H12 (Addr.add ad3 1) = some (.string x3) ∧ IxA y_0.a y_0.n i2 3 fun ad4 => 
    (∃ x4 : ByteArray, hcell H12 (Addr.add ad4 1) = some (.string x4) ∧ (((!(beqS x3 x4)) = true → K (.bool false) H12) ∧ 
    ((!(beqS x3 x4)) = false → IxA y_01.a y_01.n i2 3 fun ad5 => (∃ x5 : Int, hcell H12 (Addr.add ad5 2) = some (.int .i64 x5) ∧ 
    (((x5 != 1) = true → K (.bool false) H12) ∧ ((x5 != 1) = false → IxA y_02.a y_02.n i2 3 fun ad6 => 
    (∃ x6 : Int, hcell H12 ad6 = some (.int .i64 x6) ∧ IxA y_0.a y_0.n i2 3 fun ad7 => (∃ x7 : Int, hcell H12 ad7 = some (.int .i64 x7) ∧ 
    (((x6 != x7) = true → K (.bool false) H12) ∧ ((x6 != x7) = false → IxA y_02.a y_02.n i2 3 fun ad8 => 
    (∃ x8 : ByteArray, hcell H12 (Addr.add ad8 1) = some (.string x8) ∧ IxA y_0.a y_0.n i2 3 fun ad9 => 
    (∃ x9 : ByteArray, hcell H12 (Addr.add ad9 1) = some (.string x9) ∧ (((!(beqS x8 x9)) = true → K (.bool false) H12) ∧ 
    ((!(beqS x8 x9)) = false → IxA y_02.a y_02.n i2 3 fun ad10 => (∃ x10 : Int, hcell H12 (Addr.add ad10 2) = some (.int .i64 x10) ∧ 
    (((x10 != (w64 (i2 + 2))) = true → K (.bool false) H12) ∧ ((x10 != (w64 (i2 + 2))) = false → (∃ m8, m8 < m7 ∧ 
    I2 (w64 (i2 + 1)) H12 m8)))))))))))))))))))))))) ∧ (((decide (i2 < (y_0.n : Int))) = true → (((decide (i2 < (y_01.n : Int))) = true → 
    (((decide (i2 < (y_02.n : Int))) = true → (J3  H11)) ∧ ((decide (i2 < (y_02.n : Int))) = false → 
    K (.bool true) H11))) ∧ ((decide (i2 < (y_01.n : Int))) = false → K (.bool true) H11))) ∧ ((decide (i2 < (y_0.n : Int))) = false → 
    K (.bool true) H11))) ∧ (((y_21 != 0) = true → K (.bool false) H9) ∧ ((y_21 != 0) = false → (((y_22 != 0) = true → 
    K (.bool false) H9) ∧ ((y_22 != 0) = false → ((((y_01.n : Int) != (y_0.n : Int)) = true → K (.bool false) H9) ∧ 
    (((y_01.n : Int) != (y_0.n : Int)) = false → ((((y_02.n : Int) != (y_0.n : Int)) = true → K (.bool false) H9) ∧ 
    (((y_02.n : Int) != (y_0.n : Int)) = false → (J2  H9)))))))))) ∧ (((y_21 == 9) = true → K (.bool true) H8) ∧ 
    ((y_21 == 9) = false → (((y_22 == 9) = true → K (.bool true) H8) ∧ ((y_22 == 9) = false → (J1  H8)))))) Z) Z) Z))))) Z))) ∧ 
    (((decide ((s.size : Int) > 2000)) = true → K (.bool true) H1) ∧ ((decide ((s.size : Int) > 2000)) = false → 
    (((decide ((note.size : Int) > 20)) = true → K (.bool true) H1) ∧ ((decide ((note.size : Int) > 20)) = false → 
    (J  H1)))))))) Z
def aJ15 : Ann := (fun k => if k = 5 then some [] else if k = 22 then some [] else if k = 24 then some [] else if k = 27 then some [] else none)
def aL15 : Ann := (fun k => if k = 6 then some [(5, (.sc (.int .i64)))] else if k = 15 then some [(9, (.sc .str)), (10, (.sc (.int .i64)))] else if k = 25 then some [(17, (.sc (.int .i64)))] else none)
theorem V15_ok {H : Hp} {s : ByteArray} {note : ByteArray} {K : Value → Hp → Prop} {Z : List PanicEntry → Hp → Prop} (h : V15 H s note K Z) : CallF Tryd.prog 15 #[.string s, .string note] H K Z :=
  fnC_sound (P := Tryd.prog) (aJ := aJ15) (aL := aL15) (f := 15) (args := [.string s, .string note]) (Eq.mp (by kernel_rfl) h)
/-- slices.BinarySearch[[]string,string] -/
def V54 (H : Hp) (x : Sl) (target : ByteArray) (K : Value → Hp → Prop) (Z : List PanicEntry → Hp → Prop) : Prop :=
  ∃ I : Int → Int → Hp → Nat → Prop, (∃ m, I 0 (x.n : Int) H m) ∧ ∀ (i : Int) (j : Int), ∀ H1 m1, I i j H1 m1 → 
    ∀ scr : Nat → Value, (((decide (i < j)) = true → IxA x.a x.n (w64 (Int.fdiv (IntKind.wrap .u64 (w64 (i + j))) (2 ^ 1))) 1 fun ad => 
    (∃ x1 : ByteArray, hcell H1 ad = some (.string x1) ∧ CallF Tryd.prog 76 #[.string x1, .string target] H1 (fun r H2 => 
    ∃ y : Bool, r = .bool y ∧ ((y = true → (∃ m2, m2 < m1 ∧ I (w64 ((w64 (Int.fdiv (IntKind.wrap .u64 (w64 (i + j))) (2 ^ 1))) + 1)) j H2 m2)) ∧ 
    (y = false → (∃ m2, m2 < m1 ∧ I i (w64 (Int.fdiv (IntKind.wrap .u64 (w64 (i + j))) (2 ^ 1))) H2 m2)))) Z)) ∧ 
    ((decide (i < j)) = false → (((decide (i < (x.n : Int))) = true → IxA x.a x.n i 1 fun ad1 => (∃ x2 : ByteArray, hcell H1 ad1 = some (.string x2) ∧ 
    (((beqS x2 target) = true → K (.tuple #[.int .i64 i, .bool true]) H1) ∧ ((beqS x2 target) = false → 
    IxA x.a x.n i 1 fun ad2 => (∃ x3 : ByteArray, hcell H1 ad2 = some (.string x3) ∧ CallF Tryd.prog 77 #[.string x3] H1 (fun r1 H3 => 
    ∃ y1 : Bool, r1 = .bool y1 ∧ ((y1 = true → CallF Tryd.prog 77 #[.string target] H3 (fun r2 H4 => 
    ∃ y2 : Bool, r2 = .bool y2 ∧ K (.tuple #[.int .i64 i, .bool y2]) H4) Z) ∧ (y1 = false → K (.tuple #[.int .i64 i, .bool false]) H3))) Z))))) ∧ 
    ((decide (i < (x.n : Int))) = false → K (.tuple #[.int .i64 i, .bool false]) H1))))
def aJ54 : Ann := (fun _ => none)
def aL54 : Ann := (fun k => if k = 3 then some [(7, (.sc (.int .i64))), (8, (.sc (.int .i64)))] else none)
theorem V54_ok {H : Hp} {x : Sl} {target : ByteArray} {K : Value → Hp → Prop} {Z : List PanicEntry → Hp → Prop} (h : V54 H x target K Z) : CallF Tryd.prog 54 #[.slice x.a x.n x.c, .string target] H K Z :=
  fnC_sound (P := Tryd.prog) (aJ := aJ54) (aL := aL54) (f := 54) (args := [.slice x.a x.n x.c, .string target]) (Eq.mp (by kernel_rfl) h)
/-- cmp.Less[string] -/
def V76 (H : Hp) (x : ByteArray) (y : ByteArray) (K : Value → Hp → Prop) (Z : List PanicEntry → Hp → Prop) : Prop :=
  CallF Tryd.prog 93 #[.string x] H (fun r H1 => ∃ y1 : Bool, r = .bool y1 ∧ ((y1 = true → CallF Tryd.prog 93 #[.string y] H1 (fun r1 H2 => 
    ∃ y2 : Bool, r1 = .bool y2 ∧ (((!y2) = true → K (.bool true) H2) ∧ ((!y2) = false → K (.bool (ltS x y)) H2))) Z) ∧ 
    (y1 = false → K (.bool (ltS x y)) H1))) Z
def aJ76 : Ann := (fun _ => none)
def aL76 : Ann := (fun _ => none)
theorem V76_ok {H : Hp} {x : ByteArray} {y : ByteArray} {K : Value → Hp → Prop} {Z : List PanicEntry → Hp → Prop} (h : V76 H x y K Z) : CallF Tryd.prog 76 #[.string x, .string y] H K Z :=
  fnC_sound (P := Tryd.prog) (aJ := aJ76) (aL := aL76) (f := 76) (args := [.string x, .string y]) (Eq.mp (by kernel_rfl) h)
/-- slices.isNaN[string] -/
def V77 (H : Hp) (x : ByteArray) (K : Value → Hp → Prop) (Z : List PanicEntry → Hp → Prop) : Prop :=
  K (.bool (!(beqS x x))) H
def aJ77 : Ann := (fun _ => none)
def aL77 : Ann := (fun _ => none)
theorem V77_ok {H : Hp} {x : ByteArray} {K : Value → Hp → Prop} {Z : List PanicEntry → Hp → Prop} (h : V77 H x K Z) : CallF Tryd.prog 77 #[.string x] H K Z :=
  fnC_sound (P := Tryd.prog) (aJ := aJ77) (aL := aL77) (f := 77) (args := [.string x]) (Eq.mp (by kernel_rfl) h)
/-- cmp.isNaN[string] -/
def V93 (H : Hp) (x : ByteArray) (K : Value → Hp → Prop) (Z : List PanicEntry → Hp → Prop) : Prop :=
  K (.bool (!(beqS x x))) H
def aJ93 : Ann := (fun _ => none)
def aL93 : Ann := (fun _ => none)
theorem V93_ok {H : Hp} {x : ByteArray} {K : Value → Hp → Prop} {Z : List PanicEntry → Hp → Prop} (h : V93 H x K Z) : CallF Tryd.prog 93 #[.string x] H K Z :=
  fnC_sound (P := Tryd.prog) (aJ := aJ93) (aL := aL93) (f := 93) (args := [.string x]) (Eq.mp (by kernel_rfl) h)
end Go.Proofs.YthaejcmllibeoaaDoor.N09

