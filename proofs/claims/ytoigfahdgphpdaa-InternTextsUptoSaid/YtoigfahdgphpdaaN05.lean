/- The conditions of intern's functions, of slices' and cmp's that it calls, and of weftref05 and weftlaw05 (printed by our own program vn.py; the kernel checks each against V5's comp). -/
import Derived.Test.YtoigfahdgphpdaaV8
import Derived.Test.YtoigfahdgphpdaaProg
set_option linter.unusedVariables false
set_option maxRecDepth 100000
-- great: 42
-- same: 43
-- sortedS: 44
-- rSorted: 45
-- works: 46
-- rNumber: 47
-- putS: 48
-- lenS: 49
-- findS: 50
-- atS: 51
-- rising: 52
-- putI: 53
-- atI: 54
-- findI: 55
-- lenI: 56
-- risingI: 57
-- oneL: 58
-- risingS: 73
-- rInto: 74
-- sortedI: 75
-- placeS: 76
-- insert: 77
-- risingL: 78
-- placeI: 79
-- risingI1: 80
-- clone: 81
-- risingS1: 90
-- bsS: 91
-- placeS1: 92
-- cmpS: 93
-- bsI: 96
-- placeI1: 97
-- cmpI: 98
-- nanS: 101
-- nanI: 103
-- lawSorts: 12
-- lawTexts: 13
-- lawOne: 14
namespace Go.Proofs.Ytoigfahdgphpdaa.N05
open Go Go.V Go.Proofs
/-- cmp.isNaN[string] -/
def V101 (H : Hp) (x : ByteArray) (K : Value → Hp → Prop) (Z : List PanicEntry → Hp → Prop) : Prop :=
  K (.bool (!(beqS x x))) H
def aJ101 : Ann := (fun _ => none)
def aL101 : Ann := (fun _ => none)
theorem V101_ok {H : Hp} {x : ByteArray} {K : Value → Hp → Prop} {Z : List PanicEntry → Hp → Prop} (h : V101 H x K Z) : CallF Try.prog 101 #[.string x] H K Z :=
  fnC_sound (P := Try.prog) (aJ := aJ101) (aL := aL101) (f := 101) (args := [.string x]) (Eq.mp (by kernel_rfl) h)
/-- cmp.isNaN[int] -/
def V103 (H : Hp) (x : Int) (K : Value → Hp → Prop) (Z : List PanicEntry → Hp → Prop) : Prop :=
  K (.bool (x != x)) H
def aJ103 : Ann := (fun _ => none)
def aL103 : Ann := (fun _ => none)
theorem V103_ok {H : Hp} {x : Int} {K : Value → Hp → Prop} {Z : List PanicEntry → Hp → Prop} (h : V103 H x K Z) : CallF Try.prog 103 #[.int .i64 x] H K Z :=
  fnC_sound (P := Try.prog) (aJ := aJ103) (aL := aL103) (f := 103) (args := [.int .i64 x]) (Eq.mp (by kernel_rfl) h)
/-- cmp.Compare[string] -/
def V93 (H : Hp) (x : ByteArray) (y : ByteArray) (K : Value → Hp → Prop) (Z : List PanicEntry → Hp → Prop) : Prop :=
  CallF Try.prog 101 #[.string x] H (fun r H1 => ∃ y1 : Bool, r = .bool y1 ∧ CallF Try.prog 101 #[.string y] H1 (fun r1 H2 => 
    ∃ y2 : Bool, r1 = .bool y2 ∧ ((y1 = true → ((y2 = true → K (.int .i64 0) H2) ∧ (y2 = false → K (.int .i64 (-1)) H2))) ∧ 
    (y1 = false → ((y2 = true → K (.int .i64 1) H2) ∧ (y2 = false → (((ltS x y) = true → K (.int .i64 (-1)) H2) ∧ 
    ((ltS x y) = false → (((!((ltS x y) || (beqS x y))) = true → K (.int .i64 1) H2) ∧ ((!((ltS x y) || (beqS x y))) = false → 
    K (.int .i64 0) H2))))))))) Z) Z
def aJ93 : Ann := (fun _ => none)
def aL93 : Ann := (fun _ => none)
theorem V93_ok {H : Hp} {x : ByteArray} {y : ByteArray} {K : Value → Hp → Prop} {Z : List PanicEntry → Hp → Prop} (h : V93 H x y K Z) : CallF Try.prog 93 #[.string x, .string y] H K Z :=
  fnC_sound (P := Try.prog) (aJ := aJ93) (aL := aL93) (f := 93) (args := [.string x, .string y]) (Eq.mp (by kernel_rfl) h)
/-- cmp.Compare[int] -/
def V98 (H : Hp) (x : Int) (y : Int) (K : Value → Hp → Prop) (Z : List PanicEntry → Hp → Prop) : Prop :=
  CallF Try.prog 103 #[.int .i64 x] H (fun r H1 => ∃ y1 : Bool, r = .bool y1 ∧ CallF Try.prog 103 #[.int .i64 y] H1 (fun r1 H2 => 
    ∃ y2 : Bool, r1 = .bool y2 ∧ ((y1 = true → ((y2 = true → K (.int .i64 0) H2) ∧ (y2 = false → K (.int .i64 (-1)) H2))) ∧ 
    (y1 = false → ((y2 = true → K (.int .i64 1) H2) ∧ (y2 = false → (((decide (x < y)) = true → K (.int .i64 (-1)) H2) ∧ 
    ((decide (x < y)) = false → (((decide (x > y)) = true → K (.int .i64 1) H2) ∧ ((decide (x > y)) = false → 
    K (.int .i64 0) H2))))))))) Z) Z
def aJ98 : Ann := (fun _ => none)
def aL98 : Ann := (fun _ => none)
theorem V98_ok {H : Hp} {x : Int} {y : Int} {K : Value → Hp → Prop} {Z : List PanicEntry → Hp → Prop} (h : V98 H x y K Z) : CallF Try.prog 98 #[.int .i64 x, .int .i64 y] H K Z :=
  fnC_sound (P := Try.prog) (aJ := aJ98) (aL := aL98) (f := 98) (args := [.int .i64 x, .int .i64 y]) (Eq.mp (by kernel_rfl) h)
/-- (*weft/intern.Table[string]).place$1 -/
def V92 (H : Hp) (n : Int) (x : ByteArray) (cap0 : Addr) (K : Value → Hp → Prop) (Z : List PanicEntry → Hp → Prop) : Prop :=
  ∃ x1 : Option Addr, hcell H cap0 = some (.pointer x1) ∧ nilck x1 fun ad => (∃ x2 : Sl, hcell H ad = some (.slice x2.a x2.n x2.c) ∧ 
    IxA x2.a x2.n n 1 fun ad1 => (∃ x3 : ByteArray, hcell H ad1 = some (.string x3) ∧ CallF Try.prog 93 #[.string x3, .string x] H (fun r H1 => 
    ∃ y : Int, r = .int .i64 y ∧ K (.int .i64 y) H1) Z))
def aJ92 : Ann := (fun _ => none)
def aL92 : Ann := (fun _ => none)
theorem V92_ok {H : Hp} {n : Int} {x : ByteArray} {cap0 : Addr} {K : Value → Hp → Prop} {Z : List PanicEntry → Hp → Prop} (h : V92 H n x cap0 K Z) : CallF Try.prog 92 #[.int .i64 n, .string x, .pointer (some cap0)] H K Z :=
  fnC_sound (P := Try.prog) (aJ := aJ92) (aL := aL92) (f := 92) (args := [.int .i64 n, .string x, .pointer (some cap0)]) (Eq.mp (by kernel_rfl) h)
/-- (*weft/intern.Table[int]).place$1 -/
def V97 (H : Hp) (n : Int) (x : Int) (cap0 : Addr) (K : Value → Hp → Prop) (Z : List PanicEntry → Hp → Prop) : Prop :=
  ∃ x1 : Option Addr, hcell H cap0 = some (.pointer x1) ∧ nilck x1 fun ad => (∃ x2 : Sl, hcell H ad = some (.slice x2.a x2.n x2.c) ∧ 
    IxA x2.a x2.n n 1 fun ad1 => (∃ x3 : Int, hcell H ad1 = some (.int .i64 x3) ∧ CallF Try.prog 98 #[.int .i64 x3, .int .i64 x] H (fun r H1 => 
    ∃ y : Int, r = .int .i64 y ∧ K (.int .i64 y) H1) Z))
def aJ97 : Ann := (fun _ => none)
def aL97 : Ann := (fun _ => none)
theorem V97_ok {H : Hp} {n : Int} {x : Int} {cap0 : Addr} {K : Value → Hp → Prop} {Z : List PanicEntry → Hp → Prop} (h : V97 H n x cap0 K Z) : CallF Try.prog 97 #[.int .i64 n, .int .i64 x, .pointer (some cap0)] H K Z :=
  fnC_sound (P := Try.prog) (aJ := aJ97) (aL := aL97) (f := 97) (args := [.int .i64 n, .int .i64 x, .pointer (some cap0)]) (Eq.mp (by kernel_rfl) h)
/-- slices.BinarySearchFunc[[]int,int,string] -/
def V91 (H : Hp) (x : Sl) (target : ByteArray) (cmp : Value) (K : Value → Hp → Prop) (Z : List PanicEntry → Hp → Prop) : Prop :=
  ∃ I : Int → Int → Hp → Nat → Prop, (∃ m, I 0 (x.n : Int) H m) ∧ ∀ (i : Int) (j : Int), ∀ H1 m1, I i j H1 m1 → 
    ∀ scr : Nat → Value, (((decide (i < j)) = true → IxA x.a x.n (w64 (Int.fdiv (IntKind.wrap .u64 (w64 (i + j))) (2 ^ 1))) 1 fun ad => 
    (∃ x1 : Int, hcell H1 ad = some (.int .i64 x1) ∧ callV Try.prog cmp [.int .i64 x1, .string target] H1 (fun r H2 => 
    ∃ y : Int, r = .int .i64 y ∧ (((decide (y < 0)) = true → (∃ m2, m2 < m1 ∧ I (w64 ((w64 (Int.fdiv (IntKind.wrap .u64 (w64 (i + j))) (2 ^ 1))) + 1)) j H2 m2)) ∧ 
    ((decide (y < 0)) = false → (∃ m2, m2 < m1 ∧ I i (w64 (Int.fdiv (IntKind.wrap .u64 (w64 (i + j))) (2 ^ 1))) H2 m2)))) Z)) ∧ 
    ((decide (i < j)) = false → (((decide (i < (x.n : Int))) = true → IxA x.a x.n i 1 fun ad1 => (∃ x2 : Int, hcell H1 ad1 = some (.int .i64 x2) ∧ 
    callV Try.prog cmp [.int .i64 x2, .string target] H1 (fun r1 H3 => ∃ y1 : Int, r1 = .int .i64 y1 ∧ 
    K (.tuple #[.int .i64 i, .bool (y1 == 0)]) H3) Z)) ∧ ((decide (i < (x.n : Int))) = false → K (.tuple #[.int .i64 i, .bool false]) H1))))
def aJ91 : Ann := (fun _ => none)
def aL91 : Ann := (fun k => if k = 3 then some [(9, (.sc (.int .i64))), (10, (.sc (.int .i64)))] else none)
theorem V91_ok {H : Hp} {x : Sl} {target : ByteArray} {cmp : Value} {K : Value → Hp → Prop} {Z : List PanicEntry → Hp → Prop} (h : V91 H x target cmp K Z) : CallF Try.prog 91 #[.slice x.a x.n x.c, .string target, cmp] H K Z :=
  fnC_sound (P := Try.prog) (aJ := aJ91) (aL := aL91) (f := 91) (args := [.slice x.a x.n x.c, .string target, cmp]) (Eq.mp (by kernel_rfl) h)
/-- slices.BinarySearchFunc[[]int,int,int] -/
def V96 (H : Hp) (x : Sl) (target : Int) (cmp : Value) (K : Value → Hp → Prop) (Z : List PanicEntry → Hp → Prop) : Prop :=
  ∃ I : Int → Int → Hp → Nat → Prop, (∃ m, I 0 (x.n : Int) H m) ∧ ∀ (i : Int) (j : Int), ∀ H1 m1, I i j H1 m1 → 
    ∀ scr : Nat → Value, (((decide (i < j)) = true → IxA x.a x.n (w64 (Int.fdiv (IntKind.wrap .u64 (w64 (i + j))) (2 ^ 1))) 1 fun ad => 
    (∃ x1 : Int, hcell H1 ad = some (.int .i64 x1) ∧ callV Try.prog cmp [.int .i64 x1, .int .i64 target] H1 (fun r H2 => 
    ∃ y : Int, r = .int .i64 y ∧ (((decide (y < 0)) = true → (∃ m2, m2 < m1 ∧ I (w64 ((w64 (Int.fdiv (IntKind.wrap .u64 (w64 (i + j))) (2 ^ 1))) + 1)) j H2 m2)) ∧ 
    ((decide (y < 0)) = false → (∃ m2, m2 < m1 ∧ I i (w64 (Int.fdiv (IntKind.wrap .u64 (w64 (i + j))) (2 ^ 1))) H2 m2)))) Z)) ∧ 
    ((decide (i < j)) = false → (((decide (i < (x.n : Int))) = true → IxA x.a x.n i 1 fun ad1 => (∃ x2 : Int, hcell H1 ad1 = some (.int .i64 x2) ∧ 
    callV Try.prog cmp [.int .i64 x2, .int .i64 target] H1 (fun r1 H3 => ∃ y1 : Int, r1 = .int .i64 y1 ∧ 
    K (.tuple #[.int .i64 i, .bool (y1 == 0)]) H3) Z)) ∧ ((decide (i < (x.n : Int))) = false → K (.tuple #[.int .i64 i, .bool false]) H1))))
def aJ96 : Ann := (fun _ => none)
def aL96 : Ann := (fun k => if k = 3 then some [(9, (.sc (.int .i64))), (10, (.sc (.int .i64)))] else none)
theorem V96_ok {H : Hp} {x : Sl} {target : Int} {cmp : Value} {K : Value → Hp → Prop} {Z : List PanicEntry → Hp → Prop} (h : V96 H x target cmp K Z) : CallF Try.prog 96 #[.slice x.a x.n x.c, .int .i64 target, cmp] H K Z :=
  fnC_sound (P := Try.prog) (aJ := aJ96) (aL := aL96) (f := 96) (args := [.slice x.a x.n x.c, .int .i64 target, cmp]) (Eq.mp (by kernel_rfl) h)
/-- (*weft/intern.Table[string]).place -/
def V76 (H : Hp) (t : Addr) (x : ByteArray) (K : Value → Hp → Prop) (Z : List PanicEntry → Hp → Prop) : Prop :=
  ∀ bT H1, Newb H (.cells #[.pointer (some t)] 69) bT H1 → ∃ x1 : Option Addr, hcell H1 ⟨bT, 0, none⟩ = some (.pointer x1) ∧ 
    nilck x1 fun ad => (∃ x2 : Sl, hcell H1 (Addr.add ad 1) = some (.slice x2.a x2.n x2.c) ∧ CallF Try.prog 91 #[.slice x2.a x2.n x2.c, .string x, .func (.func 92) #[] #[.pointer (some ⟨bT, 0, none⟩)]] H1 (fun r H2 => 
    ∃ y_0 : Int, ∃ y_1 : Bool, r = .tuple #[.int .i64 y_0, .bool y_1] ∧ K (.tuple #[.int .i64 y_0, .bool y_1]) H2) Z)
def aJ76 : Ann := (fun _ => none)
def aL76 : Ann := (fun _ => none)
theorem V76_ok {H : Hp} {t : Addr} {x : ByteArray} {K : Value → Hp → Prop} {Z : List PanicEntry → Hp → Prop} (h : V76 H t x K Z) : CallF Try.prog 76 #[.pointer (some t), .string x] H K Z :=
  fnC_sound (P := Try.prog) (aJ := aJ76) (aL := aL76) (f := 76) (args := [.pointer (some t), .string x]) (Eq.mp (by kernel_rfl) h)
/-- (*weft/intern.Table[int]).place -/
def V79 (H : Hp) (t : Addr) (x : Int) (K : Value → Hp → Prop) (Z : List PanicEntry → Hp → Prop) : Prop :=
  ∀ bT H1, Newb H (.cells #[.pointer (some t)] 79) bT H1 → ∃ x1 : Option Addr, hcell H1 ⟨bT, 0, none⟩ = some (.pointer x1) ∧ 
    nilck x1 fun ad => (∃ x2 : Sl, hcell H1 (Addr.add ad 1) = some (.slice x2.a x2.n x2.c) ∧ CallF Try.prog 96 #[.slice x2.a x2.n x2.c, .int .i64 x, .func (.func 97) #[] #[.pointer (some ⟨bT, 0, none⟩)]] H1 (fun r H2 => 
    ∃ y_0 : Int, ∃ y_1 : Bool, r = .tuple #[.int .i64 y_0, .bool y_1] ∧ K (.tuple #[.int .i64 y_0, .bool y_1]) H2) Z)
def aJ79 : Ann := (fun _ => none)
def aL79 : Ann := (fun _ => none)
theorem V79_ok {H : Hp} {t : Addr} {x : Int} {K : Value → Hp → Prop} {Z : List PanicEntry → Hp → Prop} (h : V79 H t x K Z) : CallF Try.prog 79 #[.pointer (some t), .int .i64 x] H K Z :=
  fnC_sound (P := Try.prog) (aJ := aJ79) (aL := aL79) (f := 79) (args := [.pointer (some t), .int .i64 x]) (Eq.mp (by kernel_rfl) h)
/-- slices.Insert[[]int,int] -/
def V77 (H : Hp) (s : Sl) (i : Int) (v : Sl) (K : Value → Hp → Prop) (Z : List PanicEntry → Hp → Prop) : Prop :=
  (s.n ≤ s.c ∧ SlX s.a s.c i (s.n : Int) 1 fun cut => ((((v.n : Int) == 0) = true → K (.slice s.a s.n s.c) H) ∧ 
    (((v.n : Int) == 0) = false → (((i == (s.n : Int)) = true → App Try.prog #[42, 42] 42 H [.slice s.a s.n s.c, .slice v.a v.n v.c] fun ap H1 => 
    (K (.slice ap.a ap.n ap.c) H1)) ∧ ((i == (s.n : Int)) = false → (((decide ((w64 ((s.n : Int) + (v.n : Int))) > (s.c : Int))) = true → 
    (s.n ≤ s.c ∧ SlX s.a s.c 0 i 1 fun cut1 => (App Try.prog #[42, 3] 42 H [.slice cut1.a cut1.n cut1.c, .int .i64 (w64 ((w64 ((s.n : Int) + (v.n : Int))) - i))] fun ap1 H2 => 
    (ap1.n ≤ ap1.c ∧ SlX ap1.a ap1.c i (ap1.n : Int) 1 fun cut2 => (Cpy Try.prog #[42, 42] 3 H2 [.slice cut2.a cut2.n cut2.c, .slice v.a v.n v.c] fun cp H3 => 
    (ap1.n ≤ ap1.c ∧ SlX ap1.a ap1.c (w64 (i + (v.n : Int))) (ap1.n : Int) 1 fun cut3 => (s.n ≤ s.c ∧ 
    SlX s.a s.c i (s.n : Int) 1 fun cut4 => (Cpy Try.prog #[42, 42] 3 H3 [.slice cut3.a cut3.n cut3.c, .slice cut4.a cut4.n cut4.c] fun cp1 H4 => 
    (K (.slice ap1.a ap1.n ap1.c) H4))))))))) ∧ ((decide ((w64 ((s.n : Int) + (v.n : Int))) > (s.c : Int))) = false → 
    (s.n ≤ s.c ∧ SlX s.a s.c 0 (w64 ((s.n : Int) + (v.n : Int))) 1 fun cut5 => (cut5.n ≤ cut5.c ∧ SlX cut5.a cut5.c (w64 (i + (v.n : Int))) (cut5.n : Int) 1 fun cut6 => 
    (ExtF Try.prog 94 [.slice v.a v.n v.c, .slice cut6.a cut6.n cut6.c] H fun r H5 => ∃ y : Bool, r = .bool y ∧ 
    (((!y) = true → (cut5.n ≤ cut5.c ∧ SlX cut5.a cut5.c (w64 (i + (v.n : Int))) (cut5.n : Int) 1 fun cut7 => 
    (cut5.n ≤ cut5.c ∧ SlX cut5.a cut5.c i (cut5.n : Int) 1 fun cut8 => (Cpy Try.prog #[42, 42] 3 H5 [.slice cut7.a cut7.n cut7.c, .slice cut8.a cut8.n cut8.c] fun cp2 H6 => 
    (cut5.n ≤ cut5.c ∧ SlX cut5.a cut5.c i (cut5.n : Int) 1 fun cut9 => (Cpy Try.prog #[42, 42] 3 H6 [.slice cut9.a cut9.n cut9.c, .slice v.a v.n v.c] fun cp3 H7 => 
    (K (.slice cut5.a cut5.n cut5.c) H7))))))) ∧ ((!y) = false → (cut5.n ≤ cut5.c ∧ SlX cut5.a cut5.c (s.n : Int) (cut5.n : Int) 1 fun cut10 => 
    (Cpy Try.prog #[42, 42] 3 H5 [.slice cut10.a cut10.n cut10.c, .slice v.a v.n v.c] fun cp4 H8 => (cut5.n ≤ cut5.c ∧ 
    SlX cut5.a cut5.c i (cut5.n : Int) 1 fun cut11 => (CallF Try.prog 95 #[.slice cut11.a cut11.n cut11.c, .int .i64 (v.n : Int)] H8 (fun r1 H9 => 
    r1 = .tuple #[] ∧ K (.slice cut5.a cut5.n cut5.c) H9) Z))))))))))))))))
def aJ77 : Ann := (fun _ => none)
def aL77 : Ann := (fun _ => none)
theorem V77_ok {H : Hp} {s : Sl} {i : Int} {v : Sl} {K : Value → Hp → Prop} {Z : List PanicEntry → Hp → Prop} (h : V77 H s i v K Z) : CallF Try.prog 77 #[.slice s.a s.n s.c, .int .i64 i, .slice v.a v.n v.c] H K Z :=
  fnC_sound (P := Try.prog) (aJ := aJ77) (aL := aL77) (f := 77) (args := [.slice s.a s.n s.c, .int .i64 i, .slice v.a v.n v.c]) (Eq.mp (by kernel_rfl) h)
/-- slices.Clone[[]int,int] -/
def V81 (H : Hp) (s : Sl) (K : Value → Hp → Prop) (Z : List PanicEntry → Hp → Prop) : Prop :=
  (((Option.isNone s.a) = true → K (.slice none 0 0) H) ∧ ((Option.isNone s.a) = false → ∀ b H1, Newb H (.cells #[] 3) b H1 → 
    App Try.prog #[42, 42] 42 H1 [.slice (some ⟨b, 0, none⟩) 0 0, .slice s.a s.n s.c] fun ap H2 => (K (.slice ap.a ap.n ap.c) H2)))
def aJ81 : Ann := (fun _ => none)
def aL81 : Ann := (fun _ => none)
theorem V81_ok {H : Hp} {s : Sl} {K : Value → Hp → Prop} {Z : List PanicEntry → Hp → Prop} (h : V81 H s K Z) : CallF Try.prog 81 #[.slice s.a s.n s.c] H K Z :=
  fnC_sound (P := Try.prog) (aJ := aJ81) (aL := aL81) (f := 81) (args := [.slice s.a s.n s.c]) (Eq.mp (by kernel_rfl) h)
/-- (*weft/intern.Table[string]).Put -/
def V48 (H : Hp) (t : Addr) (x : ByteArray) (K : Value → Hp → Prop) (Z : List PanicEntry → Hp → Prop) : Prop :=
  CallF Try.prog 76 #[.pointer (some t), .string x] H (fun r H1 => ∃ y_0 : Int, ∃ y_1 : Bool, r = .tuple #[.int .i64 y_0, .bool y_1] ∧ 
    ((y_1 = true → ∃ x1 : Sl, hcell H1 (Addr.add t 1) = some (.slice x1.a x1.n x1.c) ∧ IxA x1.a x1.n y_0 1 fun ad => 
    (∃ x2 : Int, hcell H1 ad = some (.int .i64 x2) ∧ K (.tuple #[.int .i64 x2, .bool false]) H1)) ∧ (y_1 = false → 
    ∃ x3 : Sl, hcell H1 t = some (.slice x3.a x3.n x3.c) ∧ ∃ x4 : Sl, hcell H1 t = some (.slice x4.a x4.n x4.c) ∧ 
    ∀ b H2, Newb H1 (.cells #[.string x] 9) b H2 → App Try.prog #[65, 65] 65 H2 [.slice x4.a x4.n x4.c, .slice (some ⟨b, 0, none⟩) 1 1] fun ap H3 => 
    (StL t 0 [.slice ap.a ap.n ap.c] H3 fun H4 => (∃ x5 : Sl, hcell H4 (Addr.add t 1) = some (.slice x5.a x5.n x5.c) ∧ 
    ∀ b1 H5, Newb H4 (.cells #[.int .i64 (x3.n : Int)] 3) b1 H5 → CallF Try.prog 77 #[.slice x5.a x5.n x5.c, .int .i64 y_0, .slice (some ⟨b1, 0, none⟩) 1 1] H5 (fun r1 H6 => 
    ∃ y : Sl, r1 = .slice y.a y.n y.c ∧ StL (Addr.add t 1) 0 [.slice y.a y.n y.c] H6 fun H7 => (K (.tuple #[.int .i64 (x3.n : Int), .bool true]) H7)) Z))))) Z
def aJ48 : Ann := (fun _ => none)
def aL48 : Ann := (fun _ => none)
theorem V48_ok {H : Hp} {t : Addr} {x : ByteArray} {K : Value → Hp → Prop} {Z : List PanicEntry → Hp → Prop} (h : V48 H t x K Z) : CallF Try.prog 48 #[.pointer (some t), .string x] H K Z :=
  fnC_sound (P := Try.prog) (aJ := aJ48) (aL := aL48) (f := 48) (args := [.pointer (some t), .string x]) (Eq.mp (by kernel_rfl) h)
/-- (*weft/intern.Table[int]).Put -/
def V53 (H : Hp) (t : Addr) (x : Int) (K : Value → Hp → Prop) (Z : List PanicEntry → Hp → Prop) : Prop :=
  CallF Try.prog 79 #[.pointer (some t), .int .i64 x] H (fun r H1 => ∃ y_0 : Int, ∃ y_1 : Bool, r = .tuple #[.int .i64 y_0, .bool y_1] ∧ 
    ((y_1 = true → ∃ x1 : Sl, hcell H1 (Addr.add t 1) = some (.slice x1.a x1.n x1.c) ∧ IxA x1.a x1.n y_0 1 fun ad => 
    (∃ x2 : Int, hcell H1 ad = some (.int .i64 x2) ∧ K (.tuple #[.int .i64 x2, .bool false]) H1)) ∧ (y_1 = false → 
    ∃ x3 : Sl, hcell H1 t = some (.slice x3.a x3.n x3.c) ∧ ∃ x4 : Sl, hcell H1 t = some (.slice x4.a x4.n x4.c) ∧ 
    ∀ b H2, Newb H1 (.cells #[.int .i64 x] 3) b H2 → App Try.prog #[42, 42] 42 H2 [.slice x4.a x4.n x4.c, .slice (some ⟨b, 0, none⟩) 1 1] fun ap H3 => 
    (StL t 0 [.slice ap.a ap.n ap.c] H3 fun H4 => (∃ x5 : Sl, hcell H4 (Addr.add t 1) = some (.slice x5.a x5.n x5.c) ∧ 
    ∀ b1 H5, Newb H4 (.cells #[.int .i64 (x3.n : Int)] 3) b1 H5 → CallF Try.prog 77 #[.slice x5.a x5.n x5.c, .int .i64 y_0, .slice (some ⟨b1, 0, none⟩) 1 1] H5 (fun r1 H6 => 
    ∃ y : Sl, r1 = .slice y.a y.n y.c ∧ StL (Addr.add t 1) 0 [.slice y.a y.n y.c] H6 fun H7 => (K (.tuple #[.int .i64 (x3.n : Int), .bool true]) H7)) Z))))) Z
def aJ53 : Ann := (fun _ => none)
def aL53 : Ann := (fun _ => none)
theorem V53_ok {H : Hp} {t : Addr} {x : Int} {K : Value → Hp → Prop} {Z : List PanicEntry → Hp → Prop} (h : V53 H t x K Z) : CallF Try.prog 53 #[.pointer (some t), .int .i64 x] H K Z :=
  fnC_sound (P := Try.prog) (aJ := aJ53) (aL := aL53) (f := 53) (args := [.pointer (some t), .int .i64 x]) (Eq.mp (by kernel_rfl) h)
/-- (*weft/intern.Table[string]).Len -/
def V49 (H : Hp) (t : Addr) (K : Value → Hp → Prop) (Z : List PanicEntry → Hp → Prop) : Prop :=
  ∃ x : Sl, hcell H t = some (.slice x.a x.n x.c) ∧ K (.int .i64 (x.n : Int)) H
def aJ49 : Ann := (fun _ => none)
def aL49 : Ann := (fun _ => none)
theorem V49_ok {H : Hp} {t : Addr} {K : Value → Hp → Prop} {Z : List PanicEntry → Hp → Prop} (h : V49 H t K Z) : CallF Try.prog 49 #[.pointer (some t)] H K Z :=
  fnC_sound (P := Try.prog) (aJ := aJ49) (aL := aL49) (f := 49) (args := [.pointer (some t)]) (Eq.mp (by kernel_rfl) h)
/-- (*weft/intern.Table[int]).Len -/
def V56 (H : Hp) (t : Addr) (K : Value → Hp → Prop) (Z : List PanicEntry → Hp → Prop) : Prop :=
  ∃ x : Sl, hcell H t = some (.slice x.a x.n x.c) ∧ K (.int .i64 (x.n : Int)) H
def aJ56 : Ann := (fun _ => none)
def aL56 : Ann := (fun _ => none)
theorem V56_ok {H : Hp} {t : Addr} {K : Value → Hp → Prop} {Z : List PanicEntry → Hp → Prop} (h : V56 H t K Z) : CallF Try.prog 56 #[.pointer (some t)] H K Z :=
  fnC_sound (P := Try.prog) (aJ := aJ56) (aL := aL56) (f := 56) (args := [.pointer (some t)]) (Eq.mp (by kernel_rfl) h)
/-- (*weft/intern.Table[string]).Find -/
def V50 (H : Hp) (t : Addr) (x : ByteArray) (K : Value → Hp → Prop) (Z : List PanicEntry → Hp → Prop) : Prop :=
  CallF Try.prog 76 #[.pointer (some t), .string x] H (fun r H1 => ∃ y_0 : Int, ∃ y_1 : Bool, r = .tuple #[.int .i64 y_0, .bool y_1] ∧ 
    (((!y_1) = true → K (.tuple #[.int .i64 0, .bool false]) H1) ∧ ((!y_1) = false → ∃ x1 : Sl, hcell H1 (Addr.add t 1) = some (.slice x1.a x1.n x1.c) ∧ 
    IxA x1.a x1.n y_0 1 fun ad => (∃ x2 : Int, hcell H1 ad = some (.int .i64 x2) ∧ K (.tuple #[.int .i64 x2, .bool true]) H1)))) Z
def aJ50 : Ann := (fun _ => none)
def aL50 : Ann := (fun _ => none)
theorem V50_ok {H : Hp} {t : Addr} {x : ByteArray} {K : Value → Hp → Prop} {Z : List PanicEntry → Hp → Prop} (h : V50 H t x K Z) : CallF Try.prog 50 #[.pointer (some t), .string x] H K Z :=
  fnC_sound (P := Try.prog) (aJ := aJ50) (aL := aL50) (f := 50) (args := [.pointer (some t), .string x]) (Eq.mp (by kernel_rfl) h)
/-- (*weft/intern.Table[int]).Find -/
def V55 (H : Hp) (t : Addr) (x : Int) (K : Value → Hp → Prop) (Z : List PanicEntry → Hp → Prop) : Prop :=
  CallF Try.prog 79 #[.pointer (some t), .int .i64 x] H (fun r H1 => ∃ y_0 : Int, ∃ y_1 : Bool, r = .tuple #[.int .i64 y_0, .bool y_1] ∧ 
    (((!y_1) = true → K (.tuple #[.int .i64 0, .bool false]) H1) ∧ ((!y_1) = false → ∃ x1 : Sl, hcell H1 (Addr.add t 1) = some (.slice x1.a x1.n x1.c) ∧ 
    IxA x1.a x1.n y_0 1 fun ad => (∃ x2 : Int, hcell H1 ad = some (.int .i64 x2) ∧ K (.tuple #[.int .i64 x2, .bool true]) H1)))) Z
def aJ55 : Ann := (fun _ => none)
def aL55 : Ann := (fun _ => none)
theorem V55_ok {H : Hp} {t : Addr} {x : Int} {K : Value → Hp → Prop} {Z : List PanicEntry → Hp → Prop} (h : V55 H t x K Z) : CallF Try.prog 55 #[.pointer (some t), .int .i64 x] H K Z :=
  fnC_sound (P := Try.prog) (aJ := aJ55) (aL := aL55) (f := 55) (args := [.pointer (some t), .int .i64 x]) (Eq.mp (by kernel_rfl) h)
/-- (*weft/intern.Table[string]).At -/
def V51 (H : Hp) (t : Addr) (n : Int) (K : Value → Hp → Prop) (Z : List PanicEntry → Hp → Prop) : Prop :=
  (((decide (n < 0)) = true → K (.tuple #[.string ⟨#[]⟩, .bool false]) H) ∧ ((decide (n < 0)) = false → 
    ∃ x : Sl, hcell H t = some (.slice x.a x.n x.c) ∧ (((decide (n ≥ (x.n : Int))) = true → K (.tuple #[.string ⟨#[]⟩, .bool false]) H) ∧ 
    ((decide (n ≥ (x.n : Int))) = false → ∃ x1 : Sl, hcell H t = some (.slice x1.a x1.n x1.c) ∧ IxA x1.a x1.n n 1 fun ad => 
    (∃ x2 : ByteArray, hcell H ad = some (.string x2) ∧ K (.tuple #[.string x2, .bool true]) H)))))
def aJ51 : Ann := (fun _ => none)
def aL51 : Ann := (fun _ => none)
theorem V51_ok {H : Hp} {t : Addr} {n : Int} {K : Value → Hp → Prop} {Z : List PanicEntry → Hp → Prop} (h : V51 H t n K Z) : CallF Try.prog 51 #[.pointer (some t), .int .i64 n] H K Z :=
  fnC_sound (P := Try.prog) (aJ := aJ51) (aL := aL51) (f := 51) (args := [.pointer (some t), .int .i64 n]) (Eq.mp (by kernel_rfl) h)
/-- (*weft/intern.Table[int]).At -/
def V54 (H : Hp) (t : Addr) (n : Int) (K : Value → Hp → Prop) (Z : List PanicEntry → Hp → Prop) : Prop :=
  (((decide (n < 0)) = true → K (.tuple #[.int .i64 0, .bool false]) H) ∧ ((decide (n < 0)) = false → 
    ∃ x : Sl, hcell H t = some (.slice x.a x.n x.c) ∧ (((decide (n ≥ (x.n : Int))) = true → K (.tuple #[.int .i64 0, .bool false]) H) ∧ 
    ((decide (n ≥ (x.n : Int))) = false → ∃ x1 : Sl, hcell H t = some (.slice x1.a x1.n x1.c) ∧ IxA x1.a x1.n n 1 fun ad => 
    (∃ x2 : Int, hcell H ad = some (.int .i64 x2) ∧ K (.tuple #[.int .i64 x2, .bool true]) H)))))
def aJ54 : Ann := (fun _ => none)
def aL54 : Ann := (fun _ => none)
theorem V54_ok {H : Hp} {t : Addr} {n : Int} {K : Value → Hp → Prop} {Z : List PanicEntry → Hp → Prop} (h : V54 H t n K Z) : CallF Try.prog 54 #[.pointer (some t), .int .i64 n] H K Z :=
  fnC_sound (P := Try.prog) (aJ := aJ54) (aL := aL54) (f := 54) (args := [.pointer (some t), .int .i64 n]) (Eq.mp (by kernel_rfl) h)
/-- (*weft/intern.Table[string]).Rising -/
def V73 (H : Hp) (t : Addr) (K : Value → Hp → Prop) (Z : List PanicEntry → Hp → Prop) : Prop :=
  ∀ bT H1, Newb H (.cells #[.pointer (some t)] 69) bT H1 → K (.func (.func 90) #[] #[.pointer (some ⟨bT, 0, none⟩)]) H1
def aJ73 : Ann := (fun _ => none)
def aL73 : Ann := (fun _ => none)
theorem V73_ok {H : Hp} {t : Addr} {K : Value → Hp → Prop} {Z : List PanicEntry → Hp → Prop} (h : V73 H t K Z) : CallF Try.prog 73 #[.pointer (some t)] H K Z :=
  fnC_sound (P := Try.prog) (aJ := aJ73) (aL := aL73) (f := 73) (args := [.pointer (some t)]) (Eq.mp (by kernel_rfl) h)
/-- (*weft/intern.Table[int]).Rising -/
def V57 (H : Hp) (t : Addr) (K : Value → Hp → Prop) (Z : List PanicEntry → Hp → Prop) : Prop :=
  ∀ bT H1, Newb H (.cells #[.pointer (some t)] 79) bT H1 → K (.func (.func 80) #[] #[.pointer (some ⟨bT, 0, none⟩)]) H1
def aJ57 : Ann := (fun _ => none)
def aL57 : Ann := (fun _ => none)
theorem V57_ok {H : Hp} {t : Addr} {K : Value → Hp → Prop} {Z : List PanicEntry → Hp → Prop} (h : V57 H t K Z) : CallF Try.prog 57 #[.pointer (some t)] H K Z :=
  fnC_sound (P := Try.prog) (aJ := aJ57) (aL := aL57) (f := 57) (args := [.pointer (some t)]) (Eq.mp (by kernel_rfl) h)
/-- (*weft/intern.Table[string]).Rising$1 -/
def V90 (H : Hp) (yield : Value) (cap0 : Addr) (K : Value → Hp → Prop) (Z : List PanicEntry → Hp → Prop) : Prop :=
  ∃ x : Option Addr, hcell H cap0 = some (.pointer x) ∧ nilck x fun ad => (∃ x1 : Sl, hcell H (Addr.add ad 1) = some (.slice x1.a x1.n x1.c) ∧ 
    CallF Try.prog 81 #[.slice x1.a x1.n x1.c] H (fun r H1 => ∃ y : Sl, r = .slice y.a y.n y.c ∧ ∃ I : Int → 
    Hp → Nat → Prop, (∃ m, I 0 H1 m) ∧ ∀ (t11 : Int), ∀ H2 m1, I t11 H2 m1 → ∀ scr : Nat → Value, (((decide (t11 < (y.n : Int))) = true → 
    IxA y.a y.n t11 1 fun ad1 => (∃ x2 : Int, hcell H2 ad1 = some (.int .i64 x2) ∧ ∃ x3 : Option Addr, hcell H2 cap0 = some (.pointer x3) ∧ 
    nilck x3 fun ad2 => (∃ x4 : Sl, hcell H2 ad2 = some (.slice x4.a x4.n x4.c) ∧ IxA x4.a x4.n x2 1 fun ad3 => 
    (∃ x5 : ByteArray, hcell H2 ad3 = some (.string x5) ∧ callV Try.prog yield [.string x5, .int .i64 x2] H2 (fun r1 H3 => 
    ∃ y1 : Bool, r1 = .bool y1 ∧ (((!y1) = true → K (.tuple #[]) H3) ∧ ((!y1) = false → (∃ m2, m2 < m1 ∧ 
    I (w64 (t11 + 1)) H3 m2)))) Z)))) ∧ ((decide (t11 < (y.n : Int))) = false → K (.tuple #[]) H2))) Z)
def aJ90 : Ann := (fun _ => none)
def aL90 : Ann := (fun k => if k = 1 then some [(11, (.sc (.int .i64)))] else none)
theorem V90_ok {H : Hp} {yield : Value} {cap0 : Addr} {K : Value → Hp → Prop} {Z : List PanicEntry → Hp → Prop} (h : V90 H yield cap0 K Z) : CallF Try.prog 90 #[yield, .pointer (some cap0)] H K Z :=
  fnC_sound (P := Try.prog) (aJ := aJ90) (aL := aL90) (f := 90) (args := [yield, .pointer (some cap0)]) (Eq.mp (by kernel_rfl) h)
/-- (*weft/intern.Table[int]).Rising$1 -/
def V80 (H : Hp) (yield : Value) (cap0 : Addr) (K : Value → Hp → Prop) (Z : List PanicEntry → Hp → Prop) : Prop :=
  ∃ x : Option Addr, hcell H cap0 = some (.pointer x) ∧ nilck x fun ad => (∃ x1 : Sl, hcell H (Addr.add ad 1) = some (.slice x1.a x1.n x1.c) ∧ 
    CallF Try.prog 81 #[.slice x1.a x1.n x1.c] H (fun r H1 => ∃ y : Sl, r = .slice y.a y.n y.c ∧ ∃ I : Int → 
    Hp → Nat → Prop, (∃ m, I 0 H1 m) ∧ ∀ (t11 : Int), ∀ H2 m1, I t11 H2 m1 → ∀ scr : Nat → Value, (((decide (t11 < (y.n : Int))) = true → 
    IxA y.a y.n t11 1 fun ad1 => (∃ x2 : Int, hcell H2 ad1 = some (.int .i64 x2) ∧ ∃ x3 : Option Addr, hcell H2 cap0 = some (.pointer x3) ∧ 
    nilck x3 fun ad2 => (∃ x4 : Sl, hcell H2 ad2 = some (.slice x4.a x4.n x4.c) ∧ IxA x4.a x4.n x2 1 fun ad3 => 
    (∃ x5 : Int, hcell H2 ad3 = some (.int .i64 x5) ∧ callV Try.prog yield [.int .i64 x5, .int .i64 x2] H2 (fun r1 H3 => 
    ∃ y1 : Bool, r1 = .bool y1 ∧ (((!y1) = true → K (.tuple #[]) H3) ∧ ((!y1) = false → (∃ m2, m2 < m1 ∧ 
    I (w64 (t11 + 1)) H3 m2)))) Z)))) ∧ ((decide (t11 < (y.n : Int))) = false → K (.tuple #[]) H2))) Z)
def aJ80 : Ann := (fun _ => none)
def aL80 : Ann := (fun k => if k = 1 then some [(11, (.sc (.int .i64)))] else none)
theorem V80_ok {H : Hp} {yield : Value} {cap0 : Addr} {K : Value → Hp → Prop} {Z : List PanicEntry → Hp → Prop} (h : V80 H yield cap0 K Z) : CallF Try.prog 80 #[yield, .pointer (some cap0)] H K Z :=
  fnC_sound (P := Try.prog) (aJ := aJ80) (aL := aL80) (f := 80) (args := [yield, .pointer (some cap0)]) (Eq.mp (by kernel_rfl) h)
/-- weft/intern.Sorted[string] -/
def V44 (H : Hp) (l : Sl) (K : Value → Hp → Prop) (Z : List PanicEntry → Hp → Prop) : Prop :=
  ∀ b H1, Newb H (.cells #[.slice none 0 0, .slice none 0 0] 71) b H1 → ∃ I : Int → Hp → Nat → Prop, (∃ m, I 0 H1 m) ∧ 
    ∀ (t12 : Int), ∀ H2 m1, I t12 H2 m1 → ∀ scr : Nat → Value, (((decide (t12 < (l.n : Int))) = true → 
    IxA l.a l.n t12 1 fun ad => (∃ x : ByteArray, hcell H2 ad = some (.string x) ∧ CallF Try.prog 48 #[.pointer (some ⟨b, 0, none⟩), .string x] H2 (fun r H3 => 
    ∃ y_0 : Int, ∃ y_1 : Bool, r = .tuple #[.int .i64 y_0, .bool y_1] ∧ (∃ m2, m2 < m1 ∧ I (w64 (t12 + 1)) H3 m2)) Z)) ∧ 
    ((decide (t12 < (l.n : Int))) = false → ∀ bOut H4, Newb H2 (.cells #[.slice none 0 0] 65) bOut H4 → 
    CallF Try.prog 73 #[.pointer (some ⟨b, 0, none⟩)] H4 (fun r1 H5 => ∃ y : Value, r1 = y ∧ ∀ D H6, Newb H5 (.deferred (some [])) D H6 → 
    ∀ l1 H7, Newb H6 (.loop (lrec Try.f44 44 9 [.slice l.a l.n l.c, undef, .slice none 0 0, .pointer (some ⟨b, 0, none⟩), undef, (scr 5), .pointer (some ⟨bOut, 0, none⟩), undef, .agg #[.slice none 0 0, .slice none 0 0], .pointer (some ⟨b, 0, none⟩), .slice l.a l.n l.c, .int .i64 (l.n : Int), .int .i64 t12, .bool (decide (t12 < (l.n : Int))), (scr 14), (scr 15), (scr 16), (scr 17), (scr 18), (scr 19), .pointer (some ⟨b, 0, none⟩), y, undef, undef, undef, undef, undef, undef, undef] D)) l1 H7 → 
    callG Try.prog y [.func (.yield l1) #[] #[]] H7 (fun _ H8 => endLoopK l1 H8 fun j H9 => jmpV j (∃ x1 : Sl, hcell H9 ⟨bOut, 0, none⟩ = some (.slice x1.a x1.n x1.c) ∧ 
    (H9[D]? = some (.deferred (some [])) ∧ ∀ H10, H10 = H9.setIfInBounds D (.deferred none) → K (.slice x1.a x1.n x1.c) H10)) (False) fun id => 
    False) (fun _ _ => False)) Z))
def aJ44 : Ann := (fun _ => none)
def aL44 : Ann := (fun k => if k = 3 then some [(12, (.sc (.int .i64)))] else none)
theorem V44_ok {H : Hp} {l : Sl} {K : Value → Hp → Prop} {Z : List PanicEntry → Hp → Prop} (h : V44 H l K Z) : CallF Try.prog 44 #[.slice l.a l.n l.c] H K Z :=
  fnC_sound (P := Try.prog) (aJ := aJ44) (aL := aL44) (f := 44) (args := [.slice l.a l.n l.c]) (Eq.mp (by kernel_rfl) h)
/-- a round of the loop over a function, number 9, in weft/intern.Sorted[string] -/
def R44_9 (H11 : Hp) (bOut : Nat) (l2 : Nat) (y22 : ByteArray) (y23 : Int) (K : Value → Hp → Prop) : Prop :=
  (∃ r2, H11[l2]? = some (.loop r2) ∧ r2.state = .ready ∧ ∀ H12, H12 = H11.setIfInBounds l2 (.loop { r2 with state := .busy }) → 
    ∃ x2 : Sl, hcell H12 ⟨bOut, 0, none⟩ = some (.slice x2.a x2.n x2.c) ∧ ∀ b1 H13, Newb H12 (.cells #[.string y22] 9) b1 H13 → 
    App Try.prog #[65, 65] 65 H13 [.slice x2.a x2.n x2.c, .slice (some ⟨b1, 0, none⟩) 1 1] fun ap H14 => 
    (StL ⟨bOut, 0, none⟩ 0 [.slice ap.a ap.n ap.c] H14 fun H15 => (endR l2 none H15 K)))
theorem R44_9_ok {H11 : Hp} {bOut : Nat} {l2 : Nat} {y22 : ByteArray} {y23 : Int} {u0 u1 u2 u3 u4 u5 u7 u8 u9 u10 u11 u12 u13 u14 u15 u16 u17 u18 u19 u20 u21 u22 u23 u24 u25 u26 u27 u28 : Value} {K : Value → Hp → Prop} (h : R44_9 H11 bOut l2 y22 y23 K) : yldC Try.prog aJ44 aL44 Try.f44 44 9 l2 [u0, u1, u2, u3, u4, u5, .pointer (some ⟨bOut, 0, none⟩), u7, u8, u9, u10, u11, u12, u13, u14, u15, u16, u17, u18, u19, u20, u21, u22, u23, u24, u25, u26, u27, u28] [.string y22, .int .i64 y23] H11 K := Eq.mp (by kernel_rfl) h
/-- weft/intern.Sorted[int] -/
def V75 (H : Hp) (l : Sl) (K : Value → Hp → Prop) (Z : List PanicEntry → Hp → Prop) : Prop :=
  ∀ b H1, Newb H (.cells #[.slice none 0 0, .slice none 0 0] 81) b H1 → ∃ I : Int → Hp → Nat → Prop, (∃ m, I 0 H1 m) ∧ 
    ∀ (t12 : Int), ∀ H2 m1, I t12 H2 m1 → ∀ scr : Nat → Value, (((decide (t12 < (l.n : Int))) = true → 
    IxA l.a l.n t12 1 fun ad => (∃ x : Int, hcell H2 ad = some (.int .i64 x) ∧ CallF Try.prog 53 #[.pointer (some ⟨b, 0, none⟩), .int .i64 x] H2 (fun r H3 => 
    ∃ y_0 : Int, ∃ y_1 : Bool, r = .tuple #[.int .i64 y_0, .bool y_1] ∧ (∃ m2, m2 < m1 ∧ I (w64 (t12 + 1)) H3 m2)) Z)) ∧ 
    ((decide (t12 < (l.n : Int))) = false → ∀ bOut H4, Newb H2 (.cells #[.slice none 0 0] 42) bOut H4 → 
    CallF Try.prog 57 #[.pointer (some ⟨b, 0, none⟩)] H4 (fun r1 H5 => ∃ y : Value, r1 = y ∧ ∀ D H6, Newb H5 (.deferred (some [])) D H6 → 
    ∀ l1 H7, Newb H6 (.loop (lrec Try.f75 75 9 [.slice l.a l.n l.c, undef, .slice none 0 0, .pointer (some ⟨b, 0, none⟩), undef, (scr 5), .pointer (some ⟨bOut, 0, none⟩), undef, .agg #[.slice none 0 0, .slice none 0 0], .pointer (some ⟨b, 0, none⟩), .slice l.a l.n l.c, .int .i64 (l.n : Int), .int .i64 t12, .bool (decide (t12 < (l.n : Int))), (scr 14), (scr 15), (scr 16), (scr 17), (scr 18), (scr 19), .pointer (some ⟨b, 0, none⟩), y, undef, undef, undef, undef, undef, undef, undef] D)) l1 H7 → 
    callG Try.prog y [.func (.yield l1) #[] #[]] H7 (fun _ H8 => endLoopK l1 H8 fun j H9 => jmpV j (∃ x1 : Sl, hcell H9 ⟨bOut, 0, none⟩ = some (.slice x1.a x1.n x1.c) ∧ 
    (H9[D]? = some (.deferred (some [])) ∧ ∀ H10, H10 = H9.setIfInBounds D (.deferred none) → K (.slice x1.a x1.n x1.c) H10)) (False) fun id => 
    False) (fun _ _ => False)) Z))
def aJ75 : Ann := (fun _ => none)
def aL75 : Ann := (fun k => if k = 3 then some [(12, (.sc (.int .i64)))] else none)
theorem V75_ok {H : Hp} {l : Sl} {K : Value → Hp → Prop} {Z : List PanicEntry → Hp → Prop} (h : V75 H l K Z) : CallF Try.prog 75 #[.slice l.a l.n l.c] H K Z :=
  fnC_sound (P := Try.prog) (aJ := aJ75) (aL := aL75) (f := 75) (args := [.slice l.a l.n l.c]) (Eq.mp (by kernel_rfl) h)
/-- a round of the loop over a function, number 9, in weft/intern.Sorted[int] -/
def R75_9 (H11 : Hp) (bOut : Nat) (l2 : Nat) (y22 : Int) (y23 : Int) (K : Value → Hp → Prop) : Prop :=
  (∃ r2, H11[l2]? = some (.loop r2) ∧ r2.state = .ready ∧ ∀ H12, H12 = H11.setIfInBounds l2 (.loop { r2 with state := .busy }) → 
    ∃ x2 : Sl, hcell H12 ⟨bOut, 0, none⟩ = some (.slice x2.a x2.n x2.c) ∧ ∀ b1 H13, Newb H12 (.cells #[.int .i64 y22] 3) b1 H13 → 
    App Try.prog #[42, 42] 42 H13 [.slice x2.a x2.n x2.c, .slice (some ⟨b1, 0, none⟩) 1 1] fun ap H14 => 
    (StL ⟨bOut, 0, none⟩ 0 [.slice ap.a ap.n ap.c] H14 fun H15 => (endR l2 none H15 K)))
theorem R75_9_ok {H11 : Hp} {bOut : Nat} {l2 : Nat} {y22 : Int} {y23 : Int} {u0 u1 u2 u3 u4 u5 u7 u8 u9 u10 u11 u12 u13 u14 u15 u16 u17 u18 u19 u20 u21 u22 u23 u24 u25 u26 u27 u28 : Value} {K : Value → Hp → Prop} (h : R75_9 H11 bOut l2 y22 y23 K) : yldC Try.prog aJ75 aL75 Try.f75 75 9 l2 [u0, u1, u2, u3, u4, u5, .pointer (some ⟨bOut, 0, none⟩), u7, u8, u9, u10, u11, u12, u13, u14, u15, u16, u17, u18, u19, u20, u21, u22, u23, u24, u25, u26, u27, u28] [.int .i64 y22, .int .i64 y23] H11 K := Eq.mp (by kernel_rfl) h
/-- weft/weftref05.Number -/
def V47 (H : Hp) (l : Sl) (x : ByteArray) (K : Value → Hp → Prop) (Z : List PanicEntry → Hp → Prop) : Prop :=
  ∃ I : Int → Hp → Nat → Prop, (∃ m, I 0 H m) ∧ ∀ (i : Int), ∀ H1 m1, I i H1 m1 → ∀ scr : Nat → Value, (((decide (i < (l.n : Int))) = true → 
    IxA l.a l.n i 1 fun ad => (∃ x1 : ByteArray, hcell H1 ad = some (.string x1) ∧ (((beqS x1 x) = true → 
    K (.int .i64 i) H1) ∧ ((beqS x1 x) = false → (∃ m2, m2 < m1 ∧ I (w64 (i + 1)) H1 m2))))) ∧ ((decide (i < (l.n : Int))) = false → 
    K (.int .i64 (-1)) H1))
def aJ47 : Ann := (fun _ => none)
def aL47 : Ann := (fun k => if k = 2 then some [(5, (.sc (.int .i64)))] else none)
theorem V47_ok {H : Hp} {l : Sl} {x : ByteArray} {K : Value → Hp → Prop} {Z : List PanicEntry → Hp → Prop} (h : V47 H l x K Z) : CallF Try.prog 47 #[.slice l.a l.n l.c, .string x] H K Z :=
  fnC_sound (P := Try.prog) (aJ := aJ47) (aL := aL47) (f := 47) (args := [.slice l.a l.n l.c, .string x]) (Eq.mp (by kernel_rfl) h)
/-- weft/weftref05.Into -/
def V74 (H : Hp) (m : Sl) (x : ByteArray) (K : Value → Hp → Prop) (Z : List PanicEntry → Hp → Prop) : Prop :=
  ∃ I : Int → Hp → Nat → Prop, (∃ m1, I 0 H m1) ∧ ∀ (k : Int), ∀ H1 m2, I k H1 m2 → ∀ scr : Nat → Value, (((decide (k < (m.n : Int))) = true → 
    IxA m.a m.n k 1 fun ad => (∃ x1 : ByteArray, hcell H1 ad = some (.string x1) ∧ (((ltS x1 x) = true → 
    (∃ m3, m3 < m2 ∧ I (w64 (k + 1)) H1 m3)) ∧ ((ltS x1 x) = false → (((decide (k < (m.n : Int))) = true → 
    IxA m.a m.n k 1 fun ad1 => (∃ x2 : ByteArray, hcell H1 ad1 = some (.string x2) ∧ (((beqS x2 x) = true → 
    K (.slice m.a m.n m.c) H1) ∧ ((beqS x2 x) = false → ∀ b H2, Newb H1 (.cells #[] 9) b H2 → (m.n ≤ m.c ∧ 
    SlX m.a m.c 0 k 1 fun cut => (App Try.prog #[65, 65] 65 H2 [.slice (some ⟨b, 0, none⟩) 0 0, .slice cut.a cut.n cut.c] fun ap H3 => 
    (∀ b1 H4, Newb H3 (.cells #[.string x] 9) b1 H4 → App Try.prog #[65, 65] 65 H4 [.slice ap.a ap.n ap.c, .slice (some ⟨b1, 0, none⟩) 1 1] fun ap1 H5 => 
    (m.n ≤ m.c ∧ SlX m.a m.c k (m.n : Int) 1 fun cut1 => (App Try.prog #[65, 65] 65 H5 [.slice ap1.a ap1.n ap1.c, .slice cut1.a cut1.n cut1.c] fun ap2 H6 => 
    (K (.slice ap2.a ap2.n ap2.c) H6)))))))))) ∧ ((decide (k < (m.n : Int))) = false → ∀ b2 H7, Newb H1 (.cells #[] 9) b2 H7 → 
    (m.n ≤ m.c ∧ SlX m.a m.c 0 k 1 fun cut2 => (App Try.prog #[65, 65] 65 H7 [.slice (some ⟨b2, 0, none⟩) 0 0, .slice cut2.a cut2.n cut2.c] fun ap3 H8 => 
    (∀ b3 H9, Newb H8 (.cells #[.string x] 9) b3 H9 → App Try.prog #[65, 65] 65 H9 [.slice ap3.a ap3.n ap3.c, .slice (some ⟨b3, 0, none⟩) 1 1] fun ap4 H10 => 
    (m.n ≤ m.c ∧ SlX m.a m.c k (m.n : Int) 1 fun cut3 => (App Try.prog #[65, 65] 65 H10 [.slice ap4.a ap4.n ap4.c, .slice cut3.a cut3.n cut3.c] fun ap5 H11 => 
    (K (.slice ap5.a ap5.n ap5.c) H11)))))))))))) ∧ ((decide (k < (m.n : Int))) = false → (((decide (k < (m.n : Int))) = true → 
    IxA m.a m.n k 1 fun ad2 => (∃ x3 : ByteArray, hcell H1 ad2 = some (.string x3) ∧ (((beqS x3 x) = true → 
    K (.slice m.a m.n m.c) H1) ∧ ((beqS x3 x) = false → ∀ b4 H12, Newb H1 (.cells #[] 9) b4 H12 → (m.n ≤ m.c ∧ 
    SlX m.a m.c 0 k 1 fun cut4 => (App Try.prog #[65, 65] 65 H12 [.slice (some ⟨b4, 0, none⟩) 0 0, .slice cut4.a cut4.n cut4.c] fun ap6 H13 => 
    (∀ b5 H14, Newb H13 (.cells #[.string x] 9) b5 H14 → App Try.prog #[65, 65] 65 H14 [.slice ap6.a ap6.n ap6.c, .slice (some ⟨b5, 0, none⟩) 1 1] fun ap7 H15 => 
    (m.n ≤ m.c ∧ SlX m.a m.c k (m.n : Int) 1 fun cut5 => (App Try.prog #[65, 65] 65 H15 [.slice ap7.a ap7.n ap7.c, .slice cut5.a cut5.n cut5.c] fun ap8 H16 => 
    (K (.slice ap8.a ap8.n ap8.c) H16)))))))))) ∧ ((decide (k < (m.n : Int))) = false → ∀ b6 H17, Newb H1 (.cells #[] 9) b6 H17 → 
    (m.n ≤ m.c ∧ SlX m.a m.c 0 k 1 fun cut6 => (App Try.prog #[65, 65] 65 H17 [.slice (some ⟨b6, 0, none⟩) 0 0, .slice cut6.a cut6.n cut6.c] fun ap9 H18 => 
    (∀ b7 H19, Newb H18 (.cells #[.string x] 9) b7 H19 → App Try.prog #[65, 65] 65 H19 [.slice ap9.a ap9.n ap9.c, .slice (some ⟨b7, 0, none⟩) 1 1] fun ap10 H20 => 
    (m.n ≤ m.c ∧ SlX m.a m.c k (m.n : Int) 1 fun cut7 => (App Try.prog #[65, 65] 65 H20 [.slice ap10.a ap10.n ap10.c, .slice cut7.a cut7.n cut7.c] fun ap11 H21 => 
    (K (.slice ap11.a ap11.n ap11.c) H21))))))))))
def aJ74 : Ann := (fun _ => none)
def aL74 : Ann := (fun k => if k = 2 then some [(5, (.sc (.int .i64)))] else none)
theorem V74_ok {H : Hp} {m : Sl} {x : ByteArray} {K : Value → Hp → Prop} {Z : List PanicEntry → Hp → Prop} (h : V74 H m x K Z) : CallF Try.prog 74 #[.slice m.a m.n m.c, .string x] H K Z :=
  fnC_sound (P := Try.prog) (aJ := aJ74) (aL := aL74) (f := 74) (args := [.slice m.a m.n m.c, .string x]) (Eq.mp (by kernel_rfl) h)
/-- weft/weftref05.Sorted -/
def V45 (H : Hp) (l : Sl) (K : Value → Hp → Prop) (Z : List PanicEntry → Hp → Prop) : Prop :=
  ∃ I : Sl → Int → Hp → Nat → Prop, (∃ m, I (⟨none, 0, 0⟩ : Sl) 0 H m) ∧ ∀ (m1 : Sl) (i : Int), ∀ H1 m2, I m1 i H1 m2 → 
    ∀ scr : Nat → Value, (((decide (i < (l.n : Int))) = true → IxA l.a l.n i 1 fun ad => (∃ x : ByteArray, hcell H1 ad = some (.string x) ∧ 
    CallF Try.prog 74 #[.slice m1.a m1.n m1.c, .string x] H1 (fun r H2 => ∃ y : Sl, r = .slice y.a y.n y.c ∧ 
    (∃ m3, m3 < m2 ∧ I y (w64 (i + 1)) H2 m3)) Z)) ∧ ((decide (i < (l.n : Int))) = false → K (.slice m1.a m1.n m1.c) H1))
def aJ45 : Ann := (fun _ => none)
def aL45 : Ann := (fun k => if k = 3 then some [(3, (.sc .sl)), (4, (.sc (.int .i64)))] else none)
theorem V45_ok {H : Hp} {l : Sl} {K : Value → Hp → Prop} {Z : List PanicEntry → Hp → Prop} (h : V45 H l K Z) : CallF Try.prog 45 #[.slice l.a l.n l.c] H K Z :=
  fnC_sound (P := Try.prog) (aJ := aJ45) (aL := aL45) (f := 45) (args := [.slice l.a l.n l.c]) (Eq.mp (by kernel_rfl) h)
/-- weft/weftref05.Same -/
def V43 (H : Hp) (a : Sl) (b : Sl) (K : Value → Hp → Prop) (Z : List PanicEntry → Hp → Prop) : Prop :=
  ((((a.n : Int) != (b.n : Int)) = true → K (.bool false) H) ∧ (((a.n : Int) != (b.n : Int)) = false → 
    ∃ I : Int → Hp → Nat → Prop, (∃ m, I 0 H m) ∧ ∀ (i : Int), ∀ H1 m1, I i H1 m1 → ∀ scr : Nat → Value, (((decide (i < (a.n : Int))) = true → 
    (((decide (i < (b.n : Int))) = true → IxA a.a a.n i 1 fun ad => (∃ x : ByteArray, hcell H1 ad = some (.string x) ∧ 
    IxA b.a b.n i 1 fun ad1 => (∃ x1 : ByteArray, hcell H1 ad1 = some (.string x1) ∧ (((!(beqS x x1)) = true → 
    K (.bool false) H1) ∧ ((!(beqS x x1)) = false → (∃ m2, m2 < m1 ∧ I (w64 (i + 1)) H1 m2)))))) ∧ ((decide (i < (b.n : Int))) = false → 
    K (.bool true) H1))) ∧ ((decide (i < (a.n : Int))) = false → K (.bool true) H1))))
def aJ43 : Ann := (fun _ => none)
def aL43 : Ann := (fun k => if k = 4 then some [(5, (.sc (.int .i64)))] else none)
theorem V43_ok {H : Hp} {a : Sl} {b : Sl} {K : Value → Hp → Prop} {Z : List PanicEntry → Hp → Prop} (h : V43 H a b K Z) : CallF Try.prog 43 #[.slice a.a a.n a.c, .slice b.a b.n b.c] H K Z :=
  fnC_sound (P := Try.prog) (aJ := aJ43) (aL := aL43) (f := 43) (args := [.slice a.a a.n a.c, .slice b.a b.n b.c]) (Eq.mp (by kernel_rfl) h)
/-- weft/weftlaw05.great -/
def V42 (H : Hp) (l : Sl) (K : Value → Hp → Prop) (Z : List PanicEntry → Hp → Prop) : Prop :=
  ∃ I : Int → Int → Hp → Nat → Prop, (∃ m, I 0 0 H m) ∧ ∀ (n : Int) (i : Int), ∀ H1 m1, I n i H1 m1 → 
    ∀ scr : Nat → Value, (((decide (i < (l.n : Int))) = true → IxA l.a l.n i 1 fun ad => (∃ x : ByteArray, hcell H1 ad = some (.string x) ∧ 
    (((decide (i ≥ 200)) = true → K (.bool true) H1) ∧ ((decide (i ≥ 200)) = false → (((decide ((w64 (n + (x.size : Int))) > 20000)) = true → 
    K (.bool true) H1) ∧ ((decide ((w64 (n + (x.size : Int))) > 20000)) = false → (∃ m2, m2 < m1 ∧ I (w64 (n + (x.size : Int))) (w64 (i + 1)) H1 m2))))))) ∧ 
    ((decide (i < (l.n : Int))) = false → K (.bool false) H1))
def aJ42 : Ann := (fun _ => none)
def aL42 : Ann := (fun k => if k = 3 then some [(3, (.sc (.int .i64))), (4, (.sc (.int .i64)))] else none)
theorem V42_ok {H : Hp} {l : Sl} {K : Value → Hp → Prop} {Z : List PanicEntry → Hp → Prop} (h : V42 H l K Z) : CallF Try.prog 42 #[.slice l.a l.n l.c] H K Z :=
  fnC_sound (P := Try.prog) (aJ := aJ42) (aL := aL42) (f := 42) (args := [.slice l.a l.n l.c]) (Eq.mp (by kernel_rfl) h)
/-- weft/weftlaw05.works -/
def V46 (H : Hp)  (K : Value → Hp → Prop) (Z : List PanicEntry → Hp → Prop) : Prop :=
  ∀ b H1, Newb H (.cells #[.slice none 0 0, .slice none 0 0] 81) b H1 → CallF Try.prog 53 #[.pointer (some ⟨b, 0, none⟩), .int .i64 7] H1 (fun r H2 => 
    ∃ y_0 : Int, ∃ y_1 : Bool, r = .tuple #[.int .i64 y_0, .bool y_1] ∧ CallF Try.prog 53 #[.pointer (some ⟨b, 0, none⟩), .int .i64 5] H2 (fun r1 H3 => 
    ∃ y_01 : Int, ∃ y_11 : Bool, r1 = .tuple #[.int .i64 y_01, .bool y_11] ∧ CallF Try.prog 53 #[.pointer (some ⟨b, 0, none⟩), .int .i64 7] H3 (fun r2 H4 => 
    ∃ y_02 : Int, ∃ y_12 : Bool, r2 = .tuple #[.int .i64 y_02, .bool y_12] ∧ (((y_0 == 0) = true → ((y_1 = true → 
    (((y_01 == 1) = true → ((y_11 = true → (((y_02 == 0) = true → (((!y_12) = true → CallF Try.prog 56 #[.pointer (some ⟨b, 0, none⟩)] H4 (fun r3 H5 => 
    ∃ y : Int, r3 = .int .i64 y ∧ (((y == 2) = true → ∀ b1 H6, Newb H5 (.cells #[.int .i64 2, .int .i64 1, .int .i64 2] 3) b1 H6 → 
    CallF Try.prog 75 #[.slice (some ⟨b1, 0, none⟩) 3 3] H6 (fun r4 H7 => ∃ y1 : Sl, r4 = .slice y1.a y1.n y1.c ∧ 
    K (.bool ((y1.n : Int) == 2)) H7) Z) ∧ ((y == 2) = false → K (.bool false) H5))) Z) ∧ ((!y_12) = false → 
    K (.bool false) H4))) ∧ ((y_02 == 0) = false → K (.bool false) H4))) ∧ (y_11 = false → K (.bool false) H4))) ∧ 
    ((y_01 == 1) = false → K (.bool false) H4))) ∧ (y_1 = false → K (.bool false) H4))) ∧ ((y_0 == 0) = false → 
    K (.bool false) H4))) Z) Z) Z
def aJ46 : Ann := (fun _ => none)
def aL46 : Ann := (fun _ => none)
theorem V46_ok {H : Hp}  {K : Value → Hp → Prop} {Z : List PanicEntry → Hp → Prop} (h : V46 H  K Z) : CallF Try.prog 46 #[] H K Z :=
  fnC_sound (P := Try.prog) (aJ := aJ46) (aL := aL46) (f := 46) (args := []) (Eq.mp (by kernel_rfl) h)
/-- weft/weftlaw05.rising -/
def V52 (H : Hp) (t : Addr) (m : Sl) (K : Value → Hp → Prop) (Z : List PanicEntry → Hp → Prop) : Prop :=
  ∀ bM H1, Newb H (.cells #[.slice m.a m.n m.c] 65) bM H1 → ∃ x : Sl, hcell H1 ⟨bM, 0, none⟩ = some (.slice x.a x.n x.c) ∧ 
    CallF Try.prog 45 #[.slice x.a x.n x.c] H1 (fun r H2 => ∃ y : Sl, r = .slice y.a y.n y.c ∧ ∀ bWant H3, Newb H2 (.cells #[.slice none 0 0] 65) bWant H3 → 
    StL ⟨bWant, 0, none⟩ 0 [.slice y.a y.n y.c] H3 fun H4 => (∀ bI H5, Newb H4 (.cells #[.int .i64 0] 3) bI H5 → 
    StL ⟨bI, 0, none⟩ 0 [.int .i64 0] H5 fun H6 => (∀ bGood H7, Newb H6 (.cells #[.bool false] 4) bGood H7 → 
    StL ⟨bGood, 0, none⟩ 0 [.bool true] H7 fun H8 => (CallF Try.prog 73 #[.pointer (some t)] H8 (fun r1 H9 => 
    ∃ y1 : Value, r1 = y1 ∧ callV Try.prog y1 [.func (.func 78) #[] #[.pointer (some ⟨bGood, 0, none⟩), .pointer (some ⟨bI, 0, none⟩), .pointer (some ⟨bWant, 0, none⟩), .pointer (some ⟨bM, 0, none⟩)]] H9 (fun r2 H10 => 
    r2 = .tuple #[] ∧ ∃ x1 : Bool, hcell H10 ⟨bGood, 0, none⟩ = some (.bool x1) ∧ ((x1 = true → ∃ x2 : Int, hcell H10 ⟨bI, 0, none⟩ = some (.int .i64 x2) ∧ 
    ∃ x3 : Sl, hcell H10 ⟨bWant, 0, none⟩ = some (.slice x3.a x3.n x3.c) ∧ K (.bool (x2 == (x3.n : Int))) H10) ∧ 
    (x1 = false → K (.bool false) H10))) Z) Z)))) Z
def aJ52 : Ann := (fun _ => none)
def aL52 : Ann := (fun _ => none)
theorem V52_ok {H : Hp} {t : Addr} {m : Sl} {K : Value → Hp → Prop} {Z : List PanicEntry → Hp → Prop} (h : V52 H t m K Z) : CallF Try.prog 52 #[.pointer (some t), .slice m.a m.n m.c] H K Z :=
  fnC_sound (P := Try.prog) (aJ := aJ52) (aL := aL52) (f := 52) (args := [.pointer (some t), .slice m.a m.n m.c]) (Eq.mp (by kernel_rfl) h)
/-- weft/weftlaw05.rising$1 -/
def V78 (H : Hp) (x : ByteArray) (n : Int) (cap0 : Addr) (cap1 : Addr) (cap2 : Addr) (cap3 : Addr) (K : Value → Hp → Prop) (Z : List PanicEntry → Hp → Prop) : Prop :=
  ∃ x1 : Bool, hcell H cap0 = some (.bool x1) ∧ ((x1 = true → ∃ x2 : Int, hcell H cap1 = some (.int .i64 x2) ∧ 
    ∃ x3 : Sl, hcell H cap2 = some (.slice x3.a x3.n x3.c) ∧ (((decide (x2 < (x3.n : Int))) = true → 
    ∃ x4 : Sl, hcell H cap2 = some (.slice x4.a x4.n x4.c) ∧ ∃ x5 : Int, hcell H cap1 = some (.int .i64 x5) ∧ 
    IxA x4.a x4.n x5 1 fun ad => (∃ x6 : ByteArray, hcell H ad = some (.string x6) ∧ (((beqS x x6) = true → 
    ∃ x7 : Sl, hcell H cap3 = some (.slice x7.a x7.n x7.c) ∧ CallF Try.prog 47 #[.slice x7.a x7.n x7.c, .string x] H (fun r H1 => 
    ∃ y : Int, r = .int .i64 y ∧ StL cap0 0 [.bool (n == y)] H1 fun H2 => (∃ x8 : Int, hcell H2 cap1 = some (.int .i64 x8) ∧ 
    StL cap1 0 [.int .i64 (w64 (x8 + 1))] H2 fun H3 => (∃ x9 : Int, hcell H3 cap1 = some (.int .i64 x9) ∧ 
    K (.bool (decide (x9 < 300))) H3))) Z) ∧ ((beqS x x6) = false → StL cap0 0 [.bool false] H fun H4 => 
    (∃ x10 : Int, hcell H4 cap1 = some (.int .i64 x10) ∧ StL cap1 0 [.int .i64 (w64 (x10 + 1))] H4 fun H5 => 
    (∃ x11 : Int, hcell H5 cap1 = some (.int .i64 x11) ∧ K (.bool (decide (x11 < 300))) H5)))))) ∧ ((decide (x2 < (x3.n : Int))) = false → 
    StL cap0 0 [.bool false] H fun H6 => (∃ x12 : Int, hcell H6 cap1 = some (.int .i64 x12) ∧ StL cap1 0 [.int .i64 (w64 (x12 + 1))] H6 fun H7 => 
    (∃ x13 : Int, hcell H7 cap1 = some (.int .i64 x13) ∧ K (.bool (decide (x13 < 300))) H7))))) ∧ (x1 = false → 
    StL cap0 0 [.bool false] H fun H8 => (∃ x14 : Int, hcell H8 cap1 = some (.int .i64 x14) ∧ StL cap1 0 [.int .i64 (w64 (x14 + 1))] H8 fun H9 => 
    (∃ x15 : Int, hcell H9 cap1 = some (.int .i64 x15) ∧ K (.bool (decide (x15 < 300))) H9))))
def aJ78 : Ann := (fun _ => none)
def aL78 : Ann := (fun _ => none)
theorem V78_ok {H : Hp} {x : ByteArray} {n : Int} {cap0 : Addr} {cap1 : Addr} {cap2 : Addr} {cap3 : Addr} {K : Value → Hp → Prop} {Z : List PanicEntry → Hp → Prop} (h : V78 H x n cap0 cap1 cap2 cap3 K Z) : CallF Try.prog 78 #[.string x, .int .i64 n, .pointer (some cap0), .pointer (some cap1), .pointer (some cap2), .pointer (some cap3)] H K Z :=
  fnC_sound (P := Try.prog) (aJ := aJ78) (aL := aL78) (f := 78) (args := [.string x, .int .i64 n, .pointer (some cap0), .pointer (some cap1), .pointer (some cap2), .pointer (some cap3)]) (Eq.mp (by kernel_rfl) h)
/-- weft/weftlaw05.InternSorts -/
def V12 (H : Hp) (l : Sl) (K : Value → Hp → Prop) (Z : List PanicEntry → Hp → Prop) : Prop :=
  CallF Try.prog 42 #[.slice l.a l.n l.c] H (fun r H1 => ∃ y : Bool, r = .bool y ∧ ((y = true → K (.bool true) H1) ∧ 
    (y = false → CallF Try.prog 44 #[.slice l.a l.n l.c] H1 (fun r1 H2 => ∃ y1 : Sl, r1 = .slice y1.a y1.n y1.c ∧ 
    CallF Try.prog 45 #[.slice l.a l.n l.c] H2 (fun r2 H3 => ∃ y2 : Sl, r2 = .slice y2.a y2.n y2.c ∧ 
    CallF Try.prog 43 #[.slice y1.a y1.n y1.c, .slice y2.a y2.n y2.c] H3 (fun r3 H4 => ∃ y3 : Bool, r3 = .bool y3 ∧ 
    ((y3 = true → CallF Try.prog 46 #[] H4 (fun r4 H5 => ∃ y4 : Bool, r4 = .bool y4 ∧ K (.bool y4) H5) Z) ∧ 
    (y3 = false → K (.bool false) H4))) Z) Z) Z))) Z
def aJ12 : Ann := (fun _ => none)
def aL12 : Ann := (fun _ => none)
theorem V12_ok {H : Hp} {l : Sl} {K : Value → Hp → Prop} {Z : List PanicEntry → Hp → Prop} (h : V12 H l K Z) : CallF Try.prog 12 #[.slice l.a l.n l.c] H K Z :=
  fnC_sound (P := Try.prog) (aJ := aJ12) (aL := aL12) (f := 12) (args := [.slice l.a l.n l.c]) (Eq.mp (by kernel_rfl) h)
/-- weft/weftlaw05.InternTexts -/
def V13 (H : Hp) (l : Sl) (ask : Sl) (n : Int) (K : Value → Hp → Prop) (Z : List PanicEntry → Hp → Prop) : Prop :=
  ∃ J : Hp → Prop, (∀ H1, J  H1 → ∀ scr : Nat → Value, ∀ b H2, Newb H1 (.cells #[.slice none 0 0, .slice none 0 0] 71) b H2 → 
    ∃ I : Sl → Int → Hp → Nat → Prop, (∃ m, I (⟨none, 0, 0⟩ : Sl) 0 H2 m) ∧ ∀ (m1 : Sl) (i : Int), ∀ H3 m2, I m1 i H3 m2 → 
    ∀ scr1 : Nat → Value, (((decide (i < (l.n : Int))) = true → IxA l.a l.n i 1 fun ad => (∃ x : ByteArray, hcell H3 ad = some (.string x) ∧ 
    CallF Try.prog 47 #[.slice m1.a m1.n m1.c, .string x] H3 (fun r H4 => ∃ y : Int, r = .int .i64 y ∧ 
    IxA l.a l.n i 1 fun ad1 => (∃ x1 : ByteArray, hcell H4 ad1 = some (.string x1) ∧ CallF Try.prog 48 #[.pointer (some ⟨b, 0, none⟩), .string x1] H4 (fun r1 H5 => 
    ∃ y_0 : Int, ∃ y_1 : Bool, r1 = .tuple #[.int .i64 y_0, .bool y_1] ∧ (((!(y_1 == (decide (y < 0)))) = true → 
    K (.bool false) H5) ∧ ((!(y_1 == (decide (y < 0)))) = false → (((decide (y < 0)) = true → IxA l.a l.n i 1 fun ad2 => 
    (∃ x2 : ByteArray, hcell H5 ad2 = some (.string x2) ∧ ∀ b1 H6, Newb H5 (.cells #[.string x2] 9) b1 H6 → 
    App Try.prog #[65, 65] 65 H6 [.slice m1.a m1.n m1.c, .slice (some ⟨b1, 0, none⟩) 1 1] fun ap H7 => 
    (((y_0 != (m1.n : Int)) = true → K (.bool false) H7) ∧ ((y_0 != (m1.n : Int)) = false → CallF Try.prog 49 #[.pointer (some ⟨b, 0, none⟩)] H7 (fun r2 H8 => 
    ∃ y1 : Int, r2 = .int .i64 y1 ∧ (((y1 != (ap.n : Int)) = true → K (.bool false) H8) ∧ ((y1 != (ap.n : Int)) = false → 
    (∃ m3, m3 < m2 ∧ I ap (w64 (i + 1)) H8 m3)))) Z)))) ∧ ((decide (y < 0)) = false → (((y_0 != y) = true → 
    K (.bool false) H5) ∧ ((y_0 != y) = false → CallF Try.prog 49 #[.pointer (some ⟨b, 0, none⟩)] H5 (fun r3 H9 => 
    ∃ y2 : Int, r3 = .int .i64 y2 ∧ (((y2 != (m1.n : Int)) = true → K (.bool false) H9) ∧ ((y2 != (m1.n : Int)) = false → 
    (∃ m3, m3 < m2 ∧ I m1 (w64 (i + 1)) H9 m3)))) Z))))))) Z)) Z)) ∧ ((decide (i < (l.n : Int))) = false → 
    ∃ I1 : Int → Hp → Nat → Prop, (∃ m4, I1 0 H3 m4) ∧ ∀ (i1 : Int), ∀ H10 m5, I1 i1 H10 m5 → ∀ scr2 : Nat → 
    Value, (((decide (i1 < (ask.n : Int))) = true → IxA ask.a ask.n i1 1 fun ad3 => (∃ x3 : ByteArray, hcell H10 ad3 = some (.string x3) ∧ 
    CallF Try.prog 50 #[.pointer (some ⟨b, 0, none⟩), .string x3] H10 (fun r4 H11 => ∃ y_01 : Int, ∃ y_11 : Bool, r4 = .tuple #[.int .i64 y_01, .bool y_11] ∧ 
    IxA ask.a ask.n i1 1 fun ad4 => (∃ x4 : ByteArray, hcell H11 ad4 = some (.string x4) ∧ CallF Try.prog 47 #[.slice m1.a m1.n m1.c, .string x4] H11 (fun r5 H12 => 
    ∃ y3 : Int, r5 = .int .i64 y3 ∧ (((!(y_11 == (decide (y3 ≥ 0)))) = true → K (.bool false) H12) ∧ 
    ((!(y_11 == (decide (y3 ≥ 0)))) = false → IxA ask.a ask.n i1 1 fun ad5 => (∃ x5 : ByteArray, hcell H12 ad5 = some (.string x5) ∧ 
    CallF Try.prog 47 #[.slice m1.a m1.n m1.c, .string x5] H12 (fun r6 H13 => ∃ y4 : Int, r6 = .int .i64 y4 ∧ 
    (((y_01 != (if 0 < y4 then y4 else 0)) = true → K (.bool false) H13) ∧ ((y_01 != (if 0 < y4 then y4 else 0)) = false → 
    (∃ m6, m6 < m5 ∧ I1 (w64 (i1 + 1)) H13 m6)))) Z)))) Z)) Z)) ∧ ((decide (i1 < (ask.n : Int))) = false → 
    CallF Try.prog 51 #[.pointer (some ⟨b, 0, none⟩), .int .i64 n] H10 (fun r7 H14 => ∃ y_02 : ByteArray, ∃ y_12 : Bool, r7 = .tuple #[.string y_02, .bool y_12] ∧ 
    (((decide (n ≥ 0)) = true → (((decide (n < (m1.n : Int))) = true → IxA m1.a m1.n n 1 fun ad6 => (∃ x6 : ByteArray, hcell H14 ad6 = some (.string x6) ∧ 
    (((!(beqS y_02 x6)) = true → K (.bool false) H14) ∧ ((!(beqS y_02 x6)) = false → (((!y_12) = true → 
    K (.bool false) H14) ∧ ((!y_12) = false → (((decide (n < 0)) = true → (((!(beqS y_02 ⟨#[]⟩)) = true → 
    K (.bool false) H14) ∧ ((!(beqS y_02 ⟨#[]⟩)) = false → ((y_12 = true → K (.bool false) H14) ∧ (y_12 = false → 
    CallF Try.prog 52 #[.pointer (some ⟨b, 0, none⟩), .slice m1.a m1.n m1.c] H14 (fun r8 H15 => ∃ y5 : Bool, r8 = .bool y5 ∧ 
    ((y5 = true → CallF Try.prog 46 #[] H15 (fun r9 H16 => ∃ y6 : Bool, r9 = .bool y6 ∧ K (.bool y6) H16) Z) ∧ 
    (y5 = false → K (.bool false) H15))) Z))))) ∧ ((decide (n < 0)) = false → (((decide (n ≥ (m1.n : Int))) = true → 
    (((!(beqS y_02 ⟨#[]⟩)) = true → K (.bool false) H14) ∧ ((!(beqS y_02 ⟨#[]⟩)) = false → ((y_12 = true → 
    K (.bool false) H14) ∧ (y_12 = false → CallF Try.prog 52 #[.pointer (some ⟨b, 0, none⟩), .slice m1.a m1.n m1.c] H14 (fun r10 H17 => 
    ∃ y7 : Bool, r10 = .bool y7 ∧ ((y7 = true → CallF Try.prog 46 #[] H17 (fun r11 H18 => ∃ y8 : Bool, r11 = .bool y8 ∧ 
    K (.bool y8) H18) Z) ∧ (y7 = false → K (.bool false) H17))) Z))))) ∧ ((decide (n ≥ (m1.n : Int))) = false → 
    CallF Try.prog 52 #[.pointer (some ⟨b, 0, none⟩), .slice m1.a m1.n m1.c] H14 (fun r12 H19 => ∃ y9 : Bool, r12 = .bool y9 ∧ 
    ((y9 = true → CallF Try.prog 46 #[] H19 (fun r13 H20 => ∃ y10 : Bool, r13 = .bool y10 ∧ K (.bool y10) H20) Z) ∧ 
    (y9 = false → K (.bool false) H19))) Z)))))))))) ∧ ((decide (n < (m1.n : Int))) = false → (((decide (n < 0)) = true → 
    (((!(beqS y_02 ⟨#[]⟩)) = true → K (.bool false) H14) ∧ ((!(beqS y_02 ⟨#[]⟩)) = false → ((y_12 = true → 
    K (.bool false) H14) ∧ (y_12 = false → CallF Try.prog 52 #[.pointer (some ⟨b, 0, none⟩), .slice m1.a m1.n m1.c] H14 (fun r14 H21 => 
    ∃ y11 : Bool, r14 = .bool y11 ∧ ((y11 = true → CallF Try.prog 46 #[] H21 (fun r15 H22 => ∃ y12 : Bool, r15 = .bool y12 ∧ 
    K (.bool y12) H22) Z) ∧ (y11 = false → K (.bool false) H21))) Z))))) ∧ ((decide (n < 0)) = false → 
    (((decide (n ≥ (m1.n : Int))) = true → (((!(beqS y_02 ⟨#[]⟩)) = true → K (.bool false) H14) ∧ ((!(beqS y_02 ⟨#[]⟩)) = false → 
    ((y_12 = true → K (.bool false) H14) ∧ (y_12 = false → CallF Try.prog 52 #[.pointer (some ⟨b, 0, none⟩), .slice m1.a m1.n m1.c] H14 (fun r16 H23 => 
    ∃ y13 : Bool, r16 = .bool y13 ∧ ((y13 = true → CallF Try.prog 46 #[] H23 (fun r17 H24 => ∃ y14 : Bool, r17 = .bool y14 ∧ 
    K (.bool y14) H24) Z) ∧ (y13 = false → K (.bool false) H23))) Z))))) ∧ ((decide (n ≥ (m1.n : Int))) = false → 
    CallF Try.prog 52 #[.pointer (some ⟨b, 0, none⟩), .slice m1.a m1.n m1.c] H14 (fun r18 H25 => ∃ y15 : Bool, r18 = .bool y15 ∧ 
    ((y15 = true → CallF Try.prog 46 #[] H25 (fun r19 H26 => ∃ y16 : Bool, r19 = .bool y16 ∧ K (.bool y16) H26) Z) ∧ 
    (y15 = false → K (.bool false) H25))) Z))))))) ∧ ((decide (n ≥ 0)) = false → (((decide (n < 0)) = true → 
    (((!(beqS y_02 ⟨#[]⟩)) = true → K (.bool false) H14) ∧ ((!(beqS y_02 ⟨#[]⟩)) = false → ((y_12 = true → 
    K (.bool false) H14) ∧ (y_12 = false → CallF Try.prog 52 #[.pointer (some ⟨b, 0, none⟩), .slice m1.a m1.n m1.c] H14 (fun r20 H27 => 
    ∃ y17 : Bool, r20 = .bool y17 ∧ ((y17 = true → CallF Try.prog 46 #[] H27 (fun r21 H28 => ∃ y18 : Bool, r21 = .bool y18 ∧ 
    K (.bool y18) H28) Z) ∧ (y17 = false → K (.bool false) H27))) Z))))) ∧ ((decide (n < 0)) = false → 
    (((decide (n ≥ (m1.n : Int))) = true → (((!(beqS y_02 ⟨#[]⟩)) = true → K (.bool false) H14) ∧ ((!(beqS y_02 ⟨#[]⟩)) = false → 
    ((y_12 = true → K (.bool false) H14) ∧ (y_12 = false → CallF Try.prog 52 #[.pointer (some ⟨b, 0, none⟩), .slice m1.a m1.n m1.c] H14 (fun r22 H29 => 
    ∃ y19 : Bool, r22 = .bool y19 ∧ ((y19 = true → CallF Try.prog 46 #[] H29 (fun r23 H30 => ∃ y20 : Bool, r23 = .bool y20 ∧ 
    K (.bool y20) H30) Z) ∧ (y19 = false → K (.bool false) H29))) Z))))) ∧ ((decide (n ≥ (m1.n : Int))) = false → 
    CallF Try.prog 52 #[.pointer (some ⟨b, 0, none⟩), .slice m1.a m1.n m1.c] H14 (fun r24 H31 => ∃ y21 : Bool, r24 = .bool y21 ∧ 
    ((y21 = true → CallF Try.prog 46 #[] H31 (fun r25 H32 => ∃ y22 : Bool, r25 = .bool y22 ∧ K (.bool y22) H32) Z) ∧ 
    (y21 = false → K (.bool false) H31))) Z))))))) Z))))) ∧ CallF Try.prog 42 #[.slice l.a l.n l.c] H (fun r26 H33 => 
    ∃ y23 : Bool, r26 = .bool y23 ∧ ((y23 = true → K (.bool true) H33) ∧ (y23 = false → CallF Try.prog 42 #[.slice ask.a ask.n ask.c] H33 (fun r27 H34 => 
    ∃ y24 : Bool, r27 = .bool y24 ∧ ((y24 = true → K (.bool true) H34) ∧ (y24 = false → (J  H34)))) Z))) Z
def aJ13 : Ann := (fun k => if k = 3 then some [] else none)
def aL13 : Ann := (fun k => if k = 6 then some [(8, (.sc .sl)), (9, (.sc (.int .i64)))] else if k = 18 then some [(13, (.sc (.int .i64)))] else none)
theorem V13_ok {H : Hp} {l : Sl} {ask : Sl} {n : Int} {K : Value → Hp → Prop} {Z : List PanicEntry → Hp → Prop} (h : V13 H l ask n K Z) : CallF Try.prog 13 #[.slice l.a l.n l.c, .slice ask.a ask.n ask.c, .int .i64 n] H K Z :=
  fnC_sound (P := Try.prog) (aJ := aJ13) (aL := aL13) (f := 13) (args := [.slice l.a l.n l.c, .slice ask.a ask.n ask.c, .int .i64 n]) (Eq.mp (by kernel_rfl) h)
/-- weft/weftlaw05.InternOne -/
def V14 (H : Hp) (l : Sl) (stop : Int) (K : Value → Hp → Prop) (Z : List PanicEntry → Hp → Prop) : Prop :=
  ∀ bStop H1, Newb H (.cells #[.int .i64 stop] 3) bStop H1 → CallF Try.prog 46 #[] H1 (fun r H2 => ∃ y : Bool, r = .bool y ∧ 
    (((!y) = true → K (.bool false) H2) ∧ ((!y) = false → (((decide ((l.n : Int) > 200)) = true → K (.bool true) H2) ∧ 
    ((decide ((l.n : Int) > 200)) = false → ∀ b H3, Newb H2 (.cells #[.slice none 0 0, .slice none 0 0] 81) b H3 → 
    ∃ I : Sl → Int → Hp → Nat → Prop, (∃ m, I (⟨none, 0, 0⟩ : Sl) 0 H3 m) ∧ ∀ (t6 : Sl) (i : Int), ∀ H4 m1, I t6 i H4 m1 → 
    ∀ scr : Nat → Value, (((decide (i < (l.n : Int))) = true → IxA l.a l.n i 1 fun ad => (∃ x : Int, hcell H4 ad = some (.int .i64 x) ∧ 
    CallF Try.prog 53 #[.pointer (some ⟨b, 0, none⟩), .int .i64 x] H4 (fun r1 H5 => ∃ y_0 : Int, ∃ y_1 : Bool, r1 = .tuple #[.int .i64 y_0, .bool y_1] ∧ 
    ∀ b1 H6, Newb H5 (.cells #[.int .i64 y_0] 3) b1 H6 → App Try.prog #[42, 42] 42 H6 [.slice t6.a t6.n t6.c, .slice (some ⟨b1, 0, none⟩) 1 1] fun ap H7 => 
    (∃ m2, m2 < m1 ∧ I ap (w64 (i + 1)) H7 m2)) Z)) ∧ ((decide (i < (l.n : Int))) = false → ∃ I1 : Int → 
    Hp → Nat → Prop, (∃ m3, I1 0 H4 m3) ∧ ∀ (i1 : Int), ∀ H8 m4, I1 i1 H8 m4 → ∀ scr1 : Nat → Value, ∃ J : Hp → 
    Prop, (∀ H9, J  H9 → ∀ scr2 : Nat → Value, IxA t6.a t6.n i1 1 fun ad1 => (∃ x1 : Int, hcell H9 ad1 = some (.int .i64 x1) ∧ 
    CallF Try.prog 54 #[.pointer (some ⟨b, 0, none⟩), .int .i64 x1] H9 (fun r2 H10 => ∃ y_01 : Int, ∃ y_11 : Bool, r2 = .tuple #[.int .i64 y_01, .bool y_11] ∧ 
    IxA l.a l.n i1 1 fun ad2 => (∃ x2 : Int, hcell H10 ad2 = some (.int .i64 x2) ∧ CallF Try.prog 55 #[.pointer (some ⟨b, 0, none⟩), .int .i64 x2] H10 (fun r3 H11 => 
    ∃ y_02 : Int, ∃ y_12 : Bool, r3 = .tuple #[.int .i64 y_02, .bool y_12] ∧ IxA l.a l.n i1 1 fun ad3 => 
    (∃ x3 : Int, hcell H11 ad3 = some (.int .i64 x3) ∧ (((y_01 != x3) = true → K (.bool false) H11) ∧ 
    ((y_01 != x3) = false → (((!y_11) = true → K (.bool false) H11) ∧ ((!y_11) = false → IxA t6.a t6.n i1 1 fun ad4 => 
    (∃ x4 : Int, hcell H11 ad4 = some (.int .i64 x4) ∧ (((y_02 != x4) = true → K (.bool false) H11) ∧ 
    ((y_02 != x4) = false → (((!y_12) = true → K (.bool false) H11) ∧ ((!y_12) = false → (((decide (y_02 < 0)) = true → 
    K (.bool false) H11) ∧ ((decide (y_02 < 0)) = false → CallF Try.prog 56 #[.pointer (some ⟨b, 0, none⟩)] H11 (fun r4 H12 => 
    ∃ y1 : Int, r4 = .int .i64 y1 ∧ (((decide (y_02 ≥ y1)) = true → K (.bool false) H12) ∧ ((decide (y_02 ≥ y1)) = false → 
    (∃ m5, m5 < m4 ∧ I1 (w64 (i1 + 1)) H12 m5)))) Z))))))))))))) Z)) Z)) ∧ (((decide (i1 < (l.n : Int))) = true → 
    (((decide (i1 < (t6.n : Int))) = true → (J  H8)) ∧ ((decide (i1 < (t6.n : Int))) = false → ∃ x5 : Int, hcell H8 ⟨bStop, 0, none⟩ = some (.int .i64 x5) ∧ 
    StL ⟨bStop, 0, none⟩ 0 [.int .i64 (w64 (Int.tmod (IntKind.wrap .u64 x5) 20))] H8 fun H13 => (∀ bTold H14, Newb H13 (.cells #[.int .i64 0] 3) bTold H14 → 
    ∀ bLast H15, Newb H14 (.cells #[.int .i64 0] 3) bLast H15 → ∀ bGood H16, Newb H15 (.cells #[.bool false] 4) bGood H16 → 
    StL ⟨bTold, 0, none⟩ 0 [.int .i64 0] H16 fun H17 => (StL ⟨bLast, 0, none⟩ 0 [.int .i64 0] H17 fun H18 => 
    (StL ⟨bGood, 0, none⟩ 0 [.bool true] H18 fun H19 => (CallF Try.prog 57 #[.pointer (some ⟨b, 0, none⟩)] H19 (fun r5 H20 => 
    ∃ y2 : Value, r5 = y2 ∧ callV Try.prog y2 [.func (.func 58) #[] #[.pointer (some ⟨bGood, 0, none⟩), .pointer (some ⟨bTold, 0, none⟩), .pointer (some ⟨bLast, 0, none⟩), .pointer (some ⟨bStop, 0, none⟩)]] H20 (fun r6 H21 => 
    r6 = .tuple #[] ∧ ∃ x6 : Bool, hcell H21 ⟨bGood, 0, none⟩ = some (.bool x6) ∧ ((x6 = true → ((∃ x7 : Int, hcell H21 ⟨bTold, 0, none⟩ = some (.int .i64 x7) ∧ 
    ((∃ x8 : Int, hcell H21 ⟨bStop, 0, none⟩ = some (.int .i64 x8) ∧ CallF Try.prog 56 #[.pointer (some ⟨b, 0, none⟩)] H21 (fun r7 H22 => 
    ∃ y3 : Int, r7 = .int .i64 y3 ∧ K (.bool (x7 == (if y3 < (w64 (x8 + 1)) then y3 else (w64 (x8 + 1))))) H22) Z) ∧ 
    (CallF Try.prog 56 #[.pointer (some ⟨b, 0, none⟩)] H21 (fun r8 H23 => ∃ y4 : Int, r8 = .int .i64 y4 ∧ 
    ∃ x9 : Int, hcell H23 ⟨bStop, 0, none⟩ = some (.int .i64 x9) ∧ K (.bool (x7 == (if y4 < (w64 (x9 + 1)) then y4 else (w64 (x9 + 1))))) H23) Z))) ∧ 
    (∃ x10 : Int, hcell H21 ⟨bStop, 0, none⟩ = some (.int .i64 x10) ∧ ((∃ x11 : Int, hcell H21 ⟨bTold, 0, none⟩ = some (.int .i64 x11) ∧ 
    CallF Try.prog 56 #[.pointer (some ⟨b, 0, none⟩)] H21 (fun r9 H24 => ∃ y5 : Int, r9 = .int .i64 y5 ∧ 
    K (.bool (x11 == (if y5 < (w64 (x10 + 1)) then y5 else (w64 (x10 + 1))))) H24) Z) ∧ (CallF Try.prog 56 #[.pointer (some ⟨b, 0, none⟩)] H21 (fun r10 H25 => 
    ∃ y6 : Int, r10 = .int .i64 y6 ∧ ∃ x12 : Int, hcell H25 ⟨bTold, 0, none⟩ = some (.int .i64 x12) ∧ 
    K (.bool (x12 == (if y6 < (w64 (x10 + 1)) then y6 else (w64 (x10 + 1))))) H25) Z))) ∧ (CallF Try.prog 56 #[.pointer (some ⟨b, 0, none⟩)] H21 (fun r11 H26 => 
    ∃ y7 : Int, r11 = .int .i64 y7 ∧ ∃ x13 : Int, hcell H26 ⟨bTold, 0, none⟩ = some (.int .i64 x13) ∧ 
    ∃ x14 : Int, hcell H26 ⟨bStop, 0, none⟩ = some (.int .i64 x14) ∧ K (.bool (x13 == (if y7 < (w64 (x14 + 1)) then y7 else (w64 (x14 + 1))))) H26) Z))) ∧ 
    (x6 = false → (((K (.bool false) H21) ∧ (K (.bool false) H21)) ∧ ((K (.bool false) H21) ∧ (K (.bool false) H21)) ∧ 
    (K (.bool false) H21))))) Z) Z))))))) ∧ ((decide (i1 < (l.n : Int))) = false → ∃ x15 : Int, hcell H8 ⟨bStop, 0, none⟩ = some (.int .i64 x15) ∧ 
    StL ⟨bStop, 0, none⟩ 0 [.int .i64 (w64 (Int.tmod (IntKind.wrap .u64 x15) 20))] H8 fun H27 => (∀ bTold1 H28, Newb H27 (.cells #[.int .i64 0] 3) bTold1 H28 → 
    ∀ bLast1 H29, Newb H28 (.cells #[.int .i64 0] 3) bLast1 H29 → ∀ bGood1 H30, Newb H29 (.cells #[.bool false] 4) bGood1 H30 → 
    StL ⟨bTold1, 0, none⟩ 0 [.int .i64 0] H30 fun H31 => (StL ⟨bLast1, 0, none⟩ 0 [.int .i64 0] H31 fun H32 => 
    (StL ⟨bGood1, 0, none⟩ 0 [.bool true] H32 fun H33 => (CallF Try.prog 57 #[.pointer (some ⟨b, 0, none⟩)] H33 (fun r12 H34 => 
    ∃ y8 : Value, r12 = y8 ∧ callV Try.prog y8 [.func (.func 58) #[] #[.pointer (some ⟨bGood1, 0, none⟩), .pointer (some ⟨bTold1, 0, none⟩), .pointer (some ⟨bLast1, 0, none⟩), .pointer (some ⟨bStop, 0, none⟩)]] H34 (fun r13 H35 => 
    r13 = .tuple #[] ∧ ∃ x16 : Bool, hcell H35 ⟨bGood1, 0, none⟩ = some (.bool x16) ∧ ((x16 = true → 
    ((∃ x17 : Int, hcell H35 ⟨bTold1, 0, none⟩ = some (.int .i64 x17) ∧ ((∃ x18 : Int, hcell H35 ⟨bStop, 0, none⟩ = some (.int .i64 x18) ∧ 
    CallF Try.prog 56 #[.pointer (some ⟨b, 0, none⟩)] H35 (fun r14 H36 => ∃ y9 : Int, r14 = .int .i64 y9 ∧ 
    K (.bool (x17 == (if y9 < (w64 (x18 + 1)) then y9 else (w64 (x18 + 1))))) H36) Z) ∧ (CallF Try.prog 56 #[.pointer (some ⟨b, 0, none⟩)] H35 (fun r15 H37 => 
    ∃ y10 : Int, r15 = .int .i64 y10 ∧ ∃ x19 : Int, hcell H37 ⟨bStop, 0, none⟩ = some (.int .i64 x19) ∧ 
    K (.bool (x17 == (if y10 < (w64 (x19 + 1)) then y10 else (w64 (x19 + 1))))) H37) Z))) ∧ (∃ x20 : Int, hcell H35 ⟨bStop, 0, none⟩ = some (.int .i64 x20) ∧ 
    ((∃ x21 : Int, hcell H35 ⟨bTold1, 0, none⟩ = some (.int .i64 x21) ∧ CallF Try.prog 56 #[.pointer (some ⟨b, 0, none⟩)] H35 (fun r16 H38 => 
    ∃ y11 : Int, r16 = .int .i64 y11 ∧ K (.bool (x21 == (if y11 < (w64 (x20 + 1)) then y11 else (w64 (x20 + 1))))) H38) Z) ∧ 
    (CallF Try.prog 56 #[.pointer (some ⟨b, 0, none⟩)] H35 (fun r17 H39 => ∃ y12 : Int, r17 = .int .i64 y12 ∧ 
    ∃ x22 : Int, hcell H39 ⟨bTold1, 0, none⟩ = some (.int .i64 x22) ∧ K (.bool (x22 == (if y12 < (w64 (x20 + 1)) then y12 else (w64 (x20 + 1))))) H39) Z))) ∧ 
    (CallF Try.prog 56 #[.pointer (some ⟨b, 0, none⟩)] H35 (fun r18 H40 => ∃ y13 : Int, r18 = .int .i64 y13 ∧ 
    ∃ x23 : Int, hcell H40 ⟨bTold1, 0, none⟩ = some (.int .i64 x23) ∧ ∃ x24 : Int, hcell H40 ⟨bStop, 0, none⟩ = some (.int .i64 x24) ∧ 
    K (.bool (x23 == (if y13 < (w64 (x24 + 1)) then y13 else (w64 (x24 + 1))))) H40) Z))) ∧ (x16 = false → 
    (((K (.bool false) H35) ∧ (K (.bool false) H35)) ∧ ((K (.bool false) H35) ∧ (K (.bool false) H35)) ∧ 
    (K (.bool false) H35))))) Z) Z))))))))))))) Z
def aJ14 : Ann := (fun k => if k = 15 then some [] else none)
def aL14 : Ann := (fun k => if k = 8 then some [(6, (.sc .sl)), (7, (.sc (.int .i64)))] else if k = 13 then some [(10, (.sc (.int .i64)))] else none)
theorem V14_ok {H : Hp} {l : Sl} {stop : Int} {K : Value → Hp → Prop} {Z : List PanicEntry → Hp → Prop} (h : V14 H l stop K Z) : CallF Try.prog 14 #[.slice l.a l.n l.c, .int .i64 stop] H K Z :=
  fnC_sound (P := Try.prog) (aJ := aJ14) (aL := aL14) (f := 14) (args := [.slice l.a l.n l.c, .int .i64 stop]) (Eq.mp (by kernel_rfl) h)
/-- weft/weftlaw05.InternOne$1 -/
def V58 (H : Hp) (x : Int) (t1 : Int) (cap0 : Addr) (cap1 : Addr) (cap2 : Addr) (cap3 : Addr) (K : Value → Hp → Prop) (Z : List PanicEntry → Hp → Prop) : Prop :=
  ∃ x1 : Bool, hcell H cap0 = some (.bool x1) ∧ ((x1 = true → ∃ x2 : Int, hcell H cap1 = some (.int .i64 x2) ∧ 
    (((x2 == 0) = true → StL cap0 0 [.bool true] H fun H1 => (StL cap2 0 [.int .i64 x] H1 fun H2 => (∃ x3 : Int, hcell H2 cap1 = some (.int .i64 x3) ∧ 
    StL cap1 0 [.int .i64 (w64 (x3 + 1))] H2 fun H3 => (∃ x4 : Int, hcell H3 cap1 = some (.int .i64 x4) ∧ 
    ∃ x5 : Int, hcell H3 cap3 = some (.int .i64 x5) ∧ K (.bool (decide (x4 ≤ x5))) H3)))) ∧ ((x2 == 0) = false → 
    ∃ x6 : Int, hcell H cap2 = some (.int .i64 x6) ∧ StL cap0 0 [.bool (decide (x6 < x))] H fun H4 => 
    (StL cap2 0 [.int .i64 x] H4 fun H5 => (∃ x7 : Int, hcell H5 cap1 = some (.int .i64 x7) ∧ StL cap1 0 [.int .i64 (w64 (x7 + 1))] H5 fun H6 => 
    (∃ x8 : Int, hcell H6 cap1 = some (.int .i64 x8) ∧ ∃ x9 : Int, hcell H6 cap3 = some (.int .i64 x9) ∧ 
    K (.bool (decide (x8 ≤ x9))) H6)))))) ∧ (x1 = false → StL cap0 0 [.bool false] H fun H7 => (StL cap2 0 [.int .i64 x] H7 fun H8 => 
    (∃ x10 : Int, hcell H8 cap1 = some (.int .i64 x10) ∧ StL cap1 0 [.int .i64 (w64 (x10 + 1))] H8 fun H9 => 
    (∃ x11 : Int, hcell H9 cap1 = some (.int .i64 x11) ∧ ∃ x12 : Int, hcell H9 cap3 = some (.int .i64 x12) ∧ 
    K (.bool (decide (x11 ≤ x12))) H9)))))
def aJ58 : Ann := (fun _ => none)
def aL58 : Ann := (fun _ => none)
theorem V58_ok {H : Hp} {x : Int} {t1 : Int} {cap0 : Addr} {cap1 : Addr} {cap2 : Addr} {cap3 : Addr} {K : Value → Hp → Prop} {Z : List PanicEntry → Hp → Prop} (h : V58 H x t1 cap0 cap1 cap2 cap3 K Z) : CallF Try.prog 58 #[.int .i64 x, .int .i64 t1, .pointer (some cap0), .pointer (some cap1), .pointer (some cap2), .pointer (some cap3)] H K Z :=
  fnC_sound (P := Try.prog) (aJ := aJ58) (aL := aL58) (f := 58) (args := [.int .i64 x, .int .i64 t1, .pointer (some cap0), .pointer (some cap1), .pointer (some cap2), .pointer (some cap3)]) (Eq.mp (by kernel_rfl) h)
end Go.Proofs.Ytoigfahdgphpdaa.N05

