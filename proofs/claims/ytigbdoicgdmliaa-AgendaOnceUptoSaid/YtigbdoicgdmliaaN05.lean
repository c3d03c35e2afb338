/- The conditions of intern's functions, of slices' and cmp's that it calls, and of weftref05 and weftlaw05 (printed by our own program vn.py; the kernel checks each against V5's comp). -/
import Derived.Test.YtigbdoicgdmliaaV8
import Derived.Test.YtigbdoicgdmliaaProg
set_option linter.unusedVariables false
set_option maxRecDepth 100000
-- same: 50
-- sortedS: 60
-- rSorted: 61
-- rNumber: 31
-- putS: 57
-- findS: 59
-- atS: 58
-- putI: 53
-- atI: 55
-- findI: 56
-- risingS: 100
-- rInto: 101
-- placeS: 99
-- insert: 98
-- placeI: 97
-- clone: 52
-- risingS1: 139
-- bsS: 136
-- placeS1: 137
-- cmpS: 138
-- bsI: 131
-- placeI1: 132
-- cmpI: 133
-- nanS: 140
-- nanI: 147
namespace Go.Proofs.Ytigbdoicgdmliaa.N05
open Go Go.V Go.Proofs
/-- cmp.isNaN[string] -/
def V140 (H : Hp) (x : ByteArray) (K : Value → Hp → Prop) (Z : List PanicEntry → Hp → Prop) : Prop :=
  K (.bool (!(beqS x x))) H
def aJ140 : Ann := (fun _ => none)
def aL140 : Ann := (fun _ => none)
theorem V140_ok {H : Hp} {x : ByteArray} {K : Value → Hp → Prop} {Z : List PanicEntry → Hp → Prop} (h : V140 H x K Z) : CallF Try.prog 140 #[.string x] H K Z :=
  fnC_sound (P := Try.prog) (aJ := aJ140) (aL := aL140) (f := 140) (args := [.string x]) (Eq.mp (by kernel_rfl) h)
/-- cmp.isNaN[int] -/
def V147 (H : Hp) (x : Int) (K : Value → Hp → Prop) (Z : List PanicEntry → Hp → Prop) : Prop :=
  K (.bool (x != x)) H
def aJ147 : Ann := (fun _ => none)
def aL147 : Ann := (fun _ => none)
theorem V147_ok {H : Hp} {x : Int} {K : Value → Hp → Prop} {Z : List PanicEntry → Hp → Prop} (h : V147 H x K Z) : CallF Try.prog 147 #[.int .i64 x] H K Z :=
  fnC_sound (P := Try.prog) (aJ := aJ147) (aL := aL147) (f := 147) (args := [.int .i64 x]) (Eq.mp (by kernel_rfl) h)
/-- cmp.Compare[string] -/
def V138 (H : Hp) (x : ByteArray) (y : ByteArray) (K : Value → Hp → Prop) (Z : List PanicEntry → Hp → Prop) : Prop :=
  CallF Try.prog 140 #[.string x] H (fun r H1 => ∃ y1 : Bool, r = .bool y1 ∧ CallF Try.prog 140 #[.string y] H1 (fun r1 H2 => 
    ∃ y2 : Bool, r1 = .bool y2 ∧ ((y1 = true → ((y2 = true → K (.int .i64 0) H2) ∧ (y2 = false → K (.int .i64 (-1)) H2))) ∧ 
    (y1 = false → ((y2 = true → K (.int .i64 1) H2) ∧ (y2 = false → (((ltS x y) = true → K (.int .i64 (-1)) H2) ∧ 
    ((ltS x y) = false → (((!((ltS x y) || (beqS x y))) = true → K (.int .i64 1) H2) ∧ ((!((ltS x y) || (beqS x y))) = false → 
    K (.int .i64 0) H2))))))))) Z) Z
def aJ138 : Ann := (fun _ => none)
def aL138 : Ann := (fun _ => none)
theorem V138_ok {H : Hp} {x : ByteArray} {y : ByteArray} {K : Value → Hp → Prop} {Z : List PanicEntry → Hp → Prop} (h : V138 H x y K Z) : CallF Try.prog 138 #[.string x, .string y] H K Z :=
  fnC_sound (P := Try.prog) (aJ := aJ138) (aL := aL138) (f := 138) (args := [.string x, .string y]) (Eq.mp (by kernel_rfl) h)
/-- cmp.Compare[int] -/
def V133 (H : Hp) (x : Int) (y : Int) (K : Value → Hp → Prop) (Z : List PanicEntry → Hp → Prop) : Prop :=
  CallF Try.prog 147 #[.int .i64 x] H (fun r H1 => ∃ y1 : Bool, r = .bool y1 ∧ CallF Try.prog 147 #[.int .i64 y] H1 (fun r1 H2 => 
    ∃ y2 : Bool, r1 = .bool y2 ∧ ((y1 = true → ((y2 = true → K (.int .i64 0) H2) ∧ (y2 = false → K (.int .i64 (-1)) H2))) ∧ 
    (y1 = false → ((y2 = true → K (.int .i64 1) H2) ∧ (y2 = false → (((decide (x < y)) = true → K (.int .i64 (-1)) H2) ∧ 
    ((decide (x < y)) = false → (((decide (x > y)) = true → K (.int .i64 1) H2) ∧ ((decide (x > y)) = false → 
    K (.int .i64 0) H2))))))))) Z) Z
def aJ133 : Ann := (fun _ => none)
def aL133 : Ann := (fun _ => none)
theorem V133_ok {H : Hp} {x : Int} {y : Int} {K : Value → Hp → Prop} {Z : List PanicEntry → Hp → Prop} (h : V133 H x y K Z) : CallF Try.prog 133 #[.int .i64 x, .int .i64 y] H K Z :=
  fnC_sound (P := Try.prog) (aJ := aJ133) (aL := aL133) (f := 133) (args := [.int .i64 x, .int .i64 y]) (Eq.mp (by kernel_rfl) h)
/-- (*weft/intern.Table[string]).place$1 -/
def V137 (H : Hp) (n : Int) (x : ByteArray) (cap0 : Addr) (K : Value → Hp → Prop) (Z : List PanicEntry → Hp → Prop) : Prop :=
  ∃ x1 : Option Addr, hcell H cap0 = some (.pointer x1) ∧ nilck x1 fun ad => (∃ x2 : Sl, hcell H ad = some (.slice x2.a x2.n x2.c) ∧ 
    IxA x2.a x2.n n 1 fun ad1 => (∃ x3 : ByteArray, hcell H ad1 = some (.string x3) ∧ CallF Try.prog 138 #[.string x3, .string x] H (fun r H1 => 
    ∃ y : Int, r = .int .i64 y ∧ K (.int .i64 y) H1) Z))
def aJ137 : Ann := (fun _ => none)
def aL137 : Ann := (fun _ => none)
theorem V137_ok {H : Hp} {n : Int} {x : ByteArray} {cap0 : Addr} {K : Value → Hp → Prop} {Z : List PanicEntry → Hp → Prop} (h : V137 H n x cap0 K Z) : CallF Try.prog 137 #[.int .i64 n, .string x, .pointer (some cap0)] H K Z :=
  fnC_sound (P := Try.prog) (aJ := aJ137) (aL := aL137) (f := 137) (args := [.int .i64 n, .string x, .pointer (some cap0)]) (Eq.mp (by kernel_rfl) h)
/-- (*weft/intern.Table[int]).place$1 -/
def V132 (H : Hp) (n : Int) (x : Int) (cap0 : Addr) (K : Value → Hp → Prop) (Z : List PanicEntry → Hp → Prop) : Prop :=
  ∃ x1 : Option Addr, hcell H cap0 = some (.pointer x1) ∧ nilck x1 fun ad => (∃ x2 : Sl, hcell H ad = some (.slice x2.a x2.n x2.c) ∧ 
    IxA x2.a x2.n n 1 fun ad1 => (∃ x3 : Int, hcell H ad1 = some (.int .i64 x3) ∧ CallF Try.prog 133 #[.int .i64 x3, .int .i64 x] H (fun r H1 => 
    ∃ y : Int, r = .int .i64 y ∧ K (.int .i64 y) H1) Z))
def aJ132 : Ann := (fun _ => none)
def aL132 : Ann := (fun _ => none)
theorem V132_ok {H : Hp} {n : Int} {x : Int} {cap0 : Addr} {K : Value → Hp → Prop} {Z : List PanicEntry → Hp → Prop} (h : V132 H n x cap0 K Z) : CallF Try.prog 132 #[.int .i64 n, .int .i64 x, .pointer (some cap0)] H K Z :=
  fnC_sound (P := Try.prog) (aJ := aJ132) (aL := aL132) (f := 132) (args := [.int .i64 n, .int .i64 x, .pointer (some cap0)]) (Eq.mp (by kernel_rfl) h)
/-- slices.BinarySearchFunc[[]int,int,string] -/
def V136 (H : Hp) (x : Sl) (target : ByteArray) (cmp : Value) (K : Value → Hp → Prop) (Z : List PanicEntry → Hp → Prop) : Prop :=
  ∃ I : Int → Int → Hp → Nat → Prop, (∃ m, I 0 (x.n : Int) H m) ∧ ∀ (i : Int) (j : Int), ∀ H1 m1, I i j H1 m1 → 
    ∀ scr : Nat → Value, (((decide (i < j)) = true → IxA x.a x.n (w64 (Int.fdiv (IntKind.wrap .u64 (w64 (i + j))) (2 ^ 1))) 1 fun ad => 
    (∃ x1 : Int, hcell H1 ad = some (.int .i64 x1) ∧ callV Try.prog cmp [.int .i64 x1, .string target] H1 (fun r H2 => 
    ∃ y : Int, r = .int .i64 y ∧ (((decide (y < 0)) = true → (∃ m2, m2 < m1 ∧ I (w64 ((w64 (Int.fdiv (IntKind.wrap .u64 (w64 (i + j))) (2 ^ 1))) + 1)) j H2 m2)) ∧ 
    ((decide (y < 0)) = false → (∃ m2, m2 < m1 ∧ I i (w64 (Int.fdiv (IntKind.wrap .u64 (w64 (i + j))) (2 ^ 1))) H2 m2)))) Z)) ∧ 
    ((decide (i < j)) = false → (((decide (i < (x.n : Int))) = true → IxA x.a x.n i 1 fun ad1 => (∃ x2 : Int, hcell H1 ad1 = some (.int .i64 x2) ∧ 
    callV Try.prog cmp [.int .i64 x2, .string target] H1 (fun r1 H3 => ∃ y1 : Int, r1 = .int .i64 y1 ∧ 
    K (.tuple #[.int .i64 i, .bool (y1 == 0)]) H3) Z)) ∧ ((decide (i < (x.n : Int))) = false → K (.tuple #[.int .i64 i, .bool false]) H1))))
def aJ136 : Ann := (fun _ => none)
def aL136 : Ann := (fun k => if k = 3 then some [(9, (.sc (.int .i64))), (10, (.sc (.int .i64)))] else none)
theorem V136_ok {H : Hp} {x : Sl} {target : ByteArray} {cmp : Value} {K : Value → Hp → Prop} {Z : List PanicEntry → Hp → Prop} (h : V136 H x target cmp K Z) : CallF Try.prog 136 #[.slice x.a x.n x.c, .string target, cmp] H K Z :=
  fnC_sound (P := Try.prog) (aJ := aJ136) (aL := aL136) (f := 136) (args := [.slice x.a x.n x.c, .string target, cmp]) (Eq.mp (by kernel_rfl) h)
/-- slices.BinarySearchFunc[[]int,int,int] -/
def V131 (H : Hp) (x : Sl) (target : Int) (cmp : Value) (K : Value → Hp → Prop) (Z : List PanicEntry → Hp → Prop) : Prop :=
  ∃ I : Int → Int → Hp → Nat → Prop, (∃ m, I 0 (x.n : Int) H m) ∧ ∀ (i : Int) (j : Int), ∀ H1 m1, I i j H1 m1 → 
    ∀ scr : Nat → Value, (((decide (i < j)) = true → IxA x.a x.n (w64 (Int.fdiv (IntKind.wrap .u64 (w64 (i + j))) (2 ^ 1))) 1 fun ad => 
    (∃ x1 : Int, hcell H1 ad = some (.int .i64 x1) ∧ callV Try.prog cmp [.int .i64 x1, .int .i64 target] H1 (fun r H2 => 
    ∃ y : Int, r = .int .i64 y ∧ (((decide (y < 0)) = true → (∃ m2, m2 < m1 ∧ I (w64 ((w64 (Int.fdiv (IntKind.wrap .u64 (w64 (i + j))) (2 ^ 1))) + 1)) j H2 m2)) ∧ 
    ((decide (y < 0)) = false → (∃ m2, m2 < m1 ∧ I i (w64 (Int.fdiv (IntKind.wrap .u64 (w64 (i + j))) (2 ^ 1))) H2 m2)))) Z)) ∧ 
    ((decide (i < j)) = false → (((decide (i < (x.n : Int))) = true → IxA x.a x.n i 1 fun ad1 => (∃ x2 : Int, hcell H1 ad1 = some (.int .i64 x2) ∧ 
    callV Try.prog cmp [.int .i64 x2, .int .i64 target] H1 (fun r1 H3 => ∃ y1 : Int, r1 = .int .i64 y1 ∧ 
    K (.tuple #[.int .i64 i, .bool (y1 == 0)]) H3) Z)) ∧ ((decide (i < (x.n : Int))) = false → K (.tuple #[.int .i64 i, .bool false]) H1))))
def aJ131 : Ann := (fun _ => none)
def aL131 : Ann := (fun k => if k = 3 then some [(9, (.sc (.int .i64))), (10, (.sc (.int .i64)))] else none)
theorem V131_ok {H : Hp} {x : Sl} {target : Int} {cmp : Value} {K : Value → Hp → Prop} {Z : List PanicEntry → Hp → Prop} (h : V131 H x target cmp K Z) : CallF Try.prog 131 #[.slice x.a x.n x.c, .int .i64 target, cmp] H K Z :=
  fnC_sound (P := Try.prog) (aJ := aJ131) (aL := aL131) (f := 131) (args := [.slice x.a x.n x.c, .int .i64 target, cmp]) (Eq.mp (by kernel_rfl) h)
/-- (*weft/intern.Table[string]).place -/
def V99 (H : Hp) (t : Addr) (x : ByteArray) (K : Value → Hp → Prop) (Z : List PanicEntry → Hp → Prop) : Prop :=
  ∀ bT H1, Newb H (.cells #[.pointer (some t)] 155) bT H1 → ∃ x1 : Option Addr, hcell H1 ⟨bT, 0, none⟩ = some (.pointer x1) ∧ 
    nilck x1 fun ad => (∃ x2 : Sl, hcell H1 (Addr.add ad 1) = some (.slice x2.a x2.n x2.c) ∧ CallF Try.prog 136 #[.slice x2.a x2.n x2.c, .string x, .func (.func 137) #[] #[.pointer (some ⟨bT, 0, none⟩)]] H1 (fun r H2 => 
    ∃ y_0 : Int, ∃ y_1 : Bool, r = .tuple #[.int .i64 y_0, .bool y_1] ∧ K (.tuple #[.int .i64 y_0, .bool y_1]) H2) Z)
def aJ99 : Ann := (fun _ => none)
def aL99 : Ann := (fun _ => none)
theorem V99_ok {H : Hp} {t : Addr} {x : ByteArray} {K : Value → Hp → Prop} {Z : List PanicEntry → Hp → Prop} (h : V99 H t x K Z) : CallF Try.prog 99 #[.pointer (some t), .string x] H K Z :=
  fnC_sound (P := Try.prog) (aJ := aJ99) (aL := aL99) (f := 99) (args := [.pointer (some t), .string x]) (Eq.mp (by kernel_rfl) h)
/-- (*weft/intern.Table[int]).place -/
def V97 (H : Hp) (t : Addr) (x : Int) (K : Value → Hp → Prop) (Z : List PanicEntry → Hp → Prop) : Prop :=
  ∀ bT H1, Newb H (.cells #[.pointer (some t)] 153) bT H1 → ∃ x1 : Option Addr, hcell H1 ⟨bT, 0, none⟩ = some (.pointer x1) ∧ 
    nilck x1 fun ad => (∃ x2 : Sl, hcell H1 (Addr.add ad 1) = some (.slice x2.a x2.n x2.c) ∧ CallF Try.prog 131 #[.slice x2.a x2.n x2.c, .int .i64 x, .func (.func 132) #[] #[.pointer (some ⟨bT, 0, none⟩)]] H1 (fun r H2 => 
    ∃ y_0 : Int, ∃ y_1 : Bool, r = .tuple #[.int .i64 y_0, .bool y_1] ∧ K (.tuple #[.int .i64 y_0, .bool y_1]) H2) Z)
def aJ97 : Ann := (fun _ => none)
def aL97 : Ann := (fun _ => none)
theorem V97_ok {H : Hp} {t : Addr} {x : Int} {K : Value → Hp → Prop} {Z : List PanicEntry → Hp → Prop} (h : V97 H t x K Z) : CallF Try.prog 97 #[.pointer (some t), .int .i64 x] H K Z :=
  fnC_sound (P := Try.prog) (aJ := aJ97) (aL := aL97) (f := 97) (args := [.pointer (some t), .int .i64 x]) (Eq.mp (by kernel_rfl) h)
/-- slices.Insert[[]int,int] -/
def V98 (H : Hp) (s : Sl) (i : Int) (v : Sl) (K : Value → Hp → Prop) (Z : List PanicEntry → Hp → Prop) : Prop :=
  (s.n ≤ s.c ∧ SlX s.a s.c i (s.n : Int) 1 fun cut => ((((v.n : Int) == 0) = true → K (.slice s.a s.n s.c) H) ∧ 
    (((v.n : Int) == 0) = false → (((i == (s.n : Int)) = true → App Try.prog #[22, 22] 22 H [.slice s.a s.n s.c, .slice v.a v.n v.c] fun ap H1 => 
    (K (.slice ap.a ap.n ap.c) H1)) ∧ ((i == (s.n : Int)) = false → (((decide ((w64 ((s.n : Int) + (v.n : Int))) > (s.c : Int))) = true → 
    (s.n ≤ s.c ∧ SlX s.a s.c 0 i 1 fun cut1 => (App Try.prog #[22, 3] 22 H [.slice cut1.a cut1.n cut1.c, .int .i64 (w64 ((w64 ((s.n : Int) + (v.n : Int))) - i))] fun ap1 H2 => 
    (ap1.n ≤ ap1.c ∧ SlX ap1.a ap1.c i (ap1.n : Int) 1 fun cut2 => (Cpy Try.prog #[22, 22] 3 H2 [.slice cut2.a cut2.n cut2.c, .slice v.a v.n v.c] fun cp H3 => 
    (ap1.n ≤ ap1.c ∧ SlX ap1.a ap1.c (w64 (i + (v.n : Int))) (ap1.n : Int) 1 fun cut3 => (s.n ≤ s.c ∧ 
    SlX s.a s.c i (s.n : Int) 1 fun cut4 => (Cpy Try.prog #[22, 22] 3 H3 [.slice cut3.a cut3.n cut3.c, .slice cut4.a cut4.n cut4.c] fun cp1 H4 => 
    (K (.slice ap1.a ap1.n ap1.c) H4))))))))) ∧ ((decide ((w64 ((s.n : Int) + (v.n : Int))) > (s.c : Int))) = false → 
    (s.n ≤ s.c ∧ SlX s.a s.c 0 (w64 ((s.n : Int) + (v.n : Int))) 1 fun cut5 => (cut5.n ≤ cut5.c ∧ SlX cut5.a cut5.c (w64 (i + (v.n : Int))) (cut5.n : Int) 1 fun cut6 => 
    (ExtF Try.prog 134 [.slice v.a v.n v.c, .slice cut6.a cut6.n cut6.c] H fun r H5 => ∃ y : Bool, r = .bool y ∧ 
    (((!y) = true → (cut5.n ≤ cut5.c ∧ SlX cut5.a cut5.c (w64 (i + (v.n : Int))) (cut5.n : Int) 1 fun cut7 => 
    (cut5.n ≤ cut5.c ∧ SlX cut5.a cut5.c i (cut5.n : Int) 1 fun cut8 => (Cpy Try.prog #[22, 22] 3 H5 [.slice cut7.a cut7.n cut7.c, .slice cut8.a cut8.n cut8.c] fun cp2 H6 => 
    (cut5.n ≤ cut5.c ∧ SlX cut5.a cut5.c i (cut5.n : Int) 1 fun cut9 => (Cpy Try.prog #[22, 22] 3 H6 [.slice cut9.a cut9.n cut9.c, .slice v.a v.n v.c] fun cp3 H7 => 
    (K (.slice cut5.a cut5.n cut5.c) H7))))))) ∧ ((!y) = false → (cut5.n ≤ cut5.c ∧ SlX cut5.a cut5.c (s.n : Int) (cut5.n : Int) 1 fun cut10 => 
    (Cpy Try.prog #[22, 22] 3 H5 [.slice cut10.a cut10.n cut10.c, .slice v.a v.n v.c] fun cp4 H8 => (cut5.n ≤ cut5.c ∧ 
    SlX cut5.a cut5.c i (cut5.n : Int) 1 fun cut11 => (CallF Try.prog 135 #[.slice cut11.a cut11.n cut11.c, .int .i64 (v.n : Int)] H8 (fun r1 H9 => 
    r1 = .tuple #[] ∧ K (.slice cut5.a cut5.n cut5.c) H9) Z))))))))))))))))
def aJ98 : Ann := (fun _ => none)
def aL98 : Ann := (fun _ => none)
theorem V98_ok {H : Hp} {s : Sl} {i : Int} {v : Sl} {K : Value → Hp → Prop} {Z : List PanicEntry → Hp → Prop} (h : V98 H s i v K Z) : CallF Try.prog 98 #[.slice s.a s.n s.c, .int .i64 i, .slice v.a v.n v.c] H K Z :=
  fnC_sound (P := Try.prog) (aJ := aJ98) (aL := aL98) (f := 98) (args := [.slice s.a s.n s.c, .int .i64 i, .slice v.a v.n v.c]) (Eq.mp (by kernel_rfl) h)
/-- slices.Clone[[]int,int] -/
def V52 (H : Hp) (s : Sl) (K : Value → Hp → Prop) (Z : List PanicEntry → Hp → Prop) : Prop :=
  (((Option.isNone s.a) = true → K (.slice none 0 0) H) ∧ ((Option.isNone s.a) = false → ∀ b H1, Newb H (.cells #[] 3) b H1 → 
    App Try.prog #[22, 22] 22 H1 [.slice (some ⟨b, 0, none⟩) 0 0, .slice s.a s.n s.c] fun ap H2 => (K (.slice ap.a ap.n ap.c) H2)))
def aJ52 : Ann := (fun _ => none)
def aL52 : Ann := (fun _ => none)
theorem V52_ok {H : Hp} {s : Sl} {K : Value → Hp → Prop} {Z : List PanicEntry → Hp → Prop} (h : V52 H s K Z) : CallF Try.prog 52 #[.slice s.a s.n s.c] H K Z :=
  fnC_sound (P := Try.prog) (aJ := aJ52) (aL := aL52) (f := 52) (args := [.slice s.a s.n s.c]) (Eq.mp (by kernel_rfl) h)
/-- (*weft/intern.Table[string]).Put -/
def V57 (H : Hp) (t : Addr) (x : ByteArray) (K : Value → Hp → Prop) (Z : List PanicEntry → Hp → Prop) : Prop :=
  CallF Try.prog 99 #[.pointer (some t), .string x] H (fun r H1 => ∃ y_0 : Int, ∃ y_1 : Bool, r = .tuple #[.int .i64 y_0, .bool y_1] ∧ 
    ((y_1 = true → ∃ x1 : Sl, hcell H1 (Addr.add t 1) = some (.slice x1.a x1.n x1.c) ∧ IxA x1.a x1.n y_0 1 fun ad => 
    (∃ x2 : Int, hcell H1 ad = some (.int .i64 x2) ∧ K (.tuple #[.int .i64 x2, .bool false]) H1)) ∧ (y_1 = false → 
    ∃ x3 : Sl, hcell H1 t = some (.slice x3.a x3.n x3.c) ∧ ∃ x4 : Sl, hcell H1 t = some (.slice x4.a x4.n x4.c) ∧ 
    ∀ b H2, Newb H1 (.cells #[.string x] 9) b H2 → App Try.prog #[47, 47] 47 H2 [.slice x4.a x4.n x4.c, .slice (some ⟨b, 0, none⟩) 1 1] fun ap H3 => 
    (StL t 0 [.slice ap.a ap.n ap.c] H3 fun H4 => (∃ x5 : Sl, hcell H4 (Addr.add t 1) = some (.slice x5.a x5.n x5.c) ∧ 
    ∀ b1 H5, Newb H4 (.cells #[.int .i64 (x3.n : Int)] 3) b1 H5 → CallF Try.prog 98 #[.slice x5.a x5.n x5.c, .int .i64 y_0, .slice (some ⟨b1, 0, none⟩) 1 1] H5 (fun r1 H6 => 
    ∃ y : Sl, r1 = .slice y.a y.n y.c ∧ StL (Addr.add t 1) 0 [.slice y.a y.n y.c] H6 fun H7 => (K (.tuple #[.int .i64 (x3.n : Int), .bool true]) H7)) Z))))) Z
def aJ57 : Ann := (fun _ => none)
def aL57 : Ann := (fun _ => none)
theorem V57_ok {H : Hp} {t : Addr} {x : ByteArray} {K : Value → Hp → Prop} {Z : List PanicEntry → Hp → Prop} (h : V57 H t x K Z) : CallF Try.prog 57 #[.pointer (some t), .string x] H K Z :=
  fnC_sound (P := Try.prog) (aJ := aJ57) (aL := aL57) (f := 57) (args := [.pointer (some t), .string x]) (Eq.mp (by kernel_rfl) h)
/-- (*weft/intern.Table[int]).Put -/
def V53 (H : Hp) (t : Addr) (x : Int) (K : Value → Hp → Prop) (Z : List PanicEntry → Hp → Prop) : Prop :=
  CallF Try.prog 97 #[.pointer (some t), .int .i64 x] H (fun r H1 => ∃ y_0 : Int, ∃ y_1 : Bool, r = .tuple #[.int .i64 y_0, .bool y_1] ∧ 
    ((y_1 = true → ∃ x1 : Sl, hcell H1 (Addr.add t 1) = some (.slice x1.a x1.n x1.c) ∧ IxA x1.a x1.n y_0 1 fun ad => 
    (∃ x2 : Int, hcell H1 ad = some (.int .i64 x2) ∧ K (.tuple #[.int .i64 x2, .bool false]) H1)) ∧ (y_1 = false → 
    ∃ x3 : Sl, hcell H1 t = some (.slice x3.a x3.n x3.c) ∧ ∃ x4 : Sl, hcell H1 t = some (.slice x4.a x4.n x4.c) ∧ 
    ∀ b H2, Newb H1 (.cells #[.int .i64 x] 3) b H2 → App Try.prog #[22, 22] 22 H2 [.slice x4.a x4.n x4.c, .slice (some ⟨b, 0, none⟩) 1 1] fun ap H3 => 
    (StL t 0 [.slice ap.a ap.n ap.c] H3 fun H4 => (∃ x5 : Sl, hcell H4 (Addr.add t 1) = some (.slice x5.a x5.n x5.c) ∧ 
    ∀ b1 H5, Newb H4 (.cells #[.int .i64 (x3.n : Int)] 3) b1 H5 → CallF Try.prog 98 #[.slice x5.a x5.n x5.c, .int .i64 y_0, .slice (some ⟨b1, 0, none⟩) 1 1] H5 (fun r1 H6 => 
    ∃ y : Sl, r1 = .slice y.a y.n y.c ∧ StL (Addr.add t 1) 0 [.slice y.a y.n y.c] H6 fun H7 => (K (.tuple #[.int .i64 (x3.n : Int), .bool true]) H7)) Z))))) Z
def aJ53 : Ann := (fun _ => none)
def aL53 : Ann := (fun _ => none)
theorem V53_ok {H : Hp} {t : Addr} {x : Int} {K : Value → Hp → Prop} {Z : List PanicEntry → Hp → Prop} (h : V53 H t x K Z) : CallF Try.prog 53 #[.pointer (some t), .int .i64 x] H K Z :=
  fnC_sound (P := Try.prog) (aJ := aJ53) (aL := aL53) (f := 53) (args := [.pointer (some t), .int .i64 x]) (Eq.mp (by kernel_rfl) h)
/-- (*weft/intern.Table[string]).Find -/
def V59 (H : Hp) (t : Addr) (x : ByteArray) (K : Value → Hp → Prop) (Z : List PanicEntry → Hp → Prop) : Prop :=
  CallF Try.prog 99 #[.pointer (some t), .string x] H (fun r H1 => ∃ y_0 : Int, ∃ y_1 : Bool, r = .tuple #[.int .i64 y_0, .bool y_1] ∧ 
    (((!y_1) = true → K (.tuple #[.int .i64 0, .bool false]) H1) ∧ ((!y_1) = false → ∃ x1 : Sl, hcell H1 (Addr.add t 1) = some (.slice x1.a x1.n x1.c) ∧ 
    IxA x1.a x1.n y_0 1 fun ad => (∃ x2 : Int, hcell H1 ad = some (.int .i64 x2) ∧ K (.tuple #[.int .i64 x2, .bool true]) H1)))) Z
def aJ59 : Ann := (fun _ => none)
def aL59 : Ann := (fun _ => none)
theorem V59_ok {H : Hp} {t : Addr} {x : ByteArray} {K : Value → Hp → Prop} {Z : List PanicEntry → Hp → Prop} (h : V59 H t x K Z) : CallF Try.prog 59 #[.pointer (some t), .string x] H K Z :=
  fnC_sound (P := Try.prog) (aJ := aJ59) (aL := aL59) (f := 59) (args := [.pointer (some t), .string x]) (Eq.mp (by kernel_rfl) h)
/-- (*weft/intern.Table[int]).Find -/
def V56 (H : Hp) (t : Addr) (x : Int) (K : Value → Hp → Prop) (Z : List PanicEntry → Hp → Prop) : Prop :=
  CallF Try.prog 97 #[.pointer (some t), .int .i64 x] H (fun r H1 => ∃ y_0 : Int, ∃ y_1 : Bool, r = .tuple #[.int .i64 y_0, .bool y_1] ∧ 
    (((!y_1) = true → K (.tuple #[.int .i64 0, .bool false]) H1) ∧ ((!y_1) = false → ∃ x1 : Sl, hcell H1 (Addr.add t 1) = some (.slice x1.a x1.n x1.c) ∧ 
    IxA x1.a x1.n y_0 1 fun ad => (∃ x2 : Int, hcell H1 ad = some (.int .i64 x2) ∧ K (.tuple #[.int .i64 x2, .bool true]) H1)))) Z
def aJ56 : Ann := (fun _ => none)
def aL56 : Ann := (fun _ => none)
theorem V56_ok {H : Hp} {t : Addr} {x : Int} {K : Value → Hp → Prop} {Z : List PanicEntry → Hp → Prop} (h : V56 H t x K Z) : CallF Try.prog 56 #[.pointer (some t), .int .i64 x] H K Z :=
  fnC_sound (P := Try.prog) (aJ := aJ56) (aL := aL56) (f := 56) (args := [.pointer (some t), .int .i64 x]) (Eq.mp (by kernel_rfl) h)
/-- (*weft/intern.Table[string]).At -/
def V58 (H : Hp) (t : Addr) (n : Int) (K : Value → Hp → Prop) (Z : List PanicEntry → Hp → Prop) : Prop :=
  (((decide (n < 0)) = true → K (.tuple #[.string ⟨#[]⟩, .bool false]) H) ∧ ((decide (n < 0)) = false → 
    ∃ x : Sl, hcell H t = some (.slice x.a x.n x.c) ∧ (((decide (n ≥ (x.n : Int))) = true → K (.tuple #[.string ⟨#[]⟩, .bool false]) H) ∧ 
    ((decide (n ≥ (x.n : Int))) = false → ∃ x1 : Sl, hcell H t = some (.slice x1.a x1.n x1.c) ∧ IxA x1.a x1.n n 1 fun ad => 
    (∃ x2 : ByteArray, hcell H ad = some (.string x2) ∧ K (.tuple #[.string x2, .bool true]) H)))))
def aJ58 : Ann := (fun _ => none)
def aL58 : Ann := (fun _ => none)
theorem V58_ok {H : Hp} {t : Addr} {n : Int} {K : Value → Hp → Prop} {Z : List PanicEntry → Hp → Prop} (h : V58 H t n K Z) : CallF Try.prog 58 #[.pointer (some t), .int .i64 n] H K Z :=
  fnC_sound (P := Try.prog) (aJ := aJ58) (aL := aL58) (f := 58) (args := [.pointer (some t), .int .i64 n]) (Eq.mp (by kernel_rfl) h)
/-- (*weft/intern.Table[int]).At -/
def V55 (H : Hp) (t : Addr) (n : Int) (K : Value → Hp → Prop) (Z : List PanicEntry → Hp → Prop) : Prop :=
  (((decide (n < 0)) = true → K (.tuple #[.int .i64 0, .bool false]) H) ∧ ((decide (n < 0)) = false → 
    ∃ x : Sl, hcell H t = some (.slice x.a x.n x.c) ∧ (((decide (n ≥ (x.n : Int))) = true → K (.tuple #[.int .i64 0, .bool false]) H) ∧ 
    ((decide (n ≥ (x.n : Int))) = false → ∃ x1 : Sl, hcell H t = some (.slice x1.a x1.n x1.c) ∧ IxA x1.a x1.n n 1 fun ad => 
    (∃ x2 : Int, hcell H ad = some (.int .i64 x2) ∧ K (.tuple #[.int .i64 x2, .bool true]) H)))))
def aJ55 : Ann := (fun _ => none)
def aL55 : Ann := (fun _ => none)
theorem V55_ok {H : Hp} {t : Addr} {n : Int} {K : Value → Hp → Prop} {Z : List PanicEntry → Hp → Prop} (h : V55 H t n K Z) : CallF Try.prog 55 #[.pointer (some t), .int .i64 n] H K Z :=
  fnC_sound (P := Try.prog) (aJ := aJ55) (aL := aL55) (f := 55) (args := [.pointer (some t), .int .i64 n]) (Eq.mp (by kernel_rfl) h)
/-- (*weft/intern.Table[string]).Rising -/
def V100 (H : Hp) (t : Addr) (K : Value → Hp → Prop) (Z : List PanicEntry → Hp → Prop) : Prop :=
  ∀ bT H1, Newb H (.cells #[.pointer (some t)] 155) bT H1 → K (.func (.func 139) #[] #[.pointer (some ⟨bT, 0, none⟩)]) H1
def aJ100 : Ann := (fun _ => none)
def aL100 : Ann := (fun _ => none)
theorem V100_ok {H : Hp} {t : Addr} {K : Value → Hp → Prop} {Z : List PanicEntry → Hp → Prop} (h : V100 H t K Z) : CallF Try.prog 100 #[.pointer (some t)] H K Z :=
  fnC_sound (P := Try.prog) (aJ := aJ100) (aL := aL100) (f := 100) (args := [.pointer (some t)]) (Eq.mp (by kernel_rfl) h)
/-- (*weft/intern.Table[string]).Rising$1 -/
def V139 (H : Hp) (yield : Value) (cap0 : Addr) (K : Value → Hp → Prop) (Z : List PanicEntry → Hp → Prop) : Prop :=
  ∃ x : Option Addr, hcell H cap0 = some (.pointer x) ∧ nilck x fun ad => (∃ x1 : Sl, hcell H (Addr.add ad 1) = some (.slice x1.a x1.n x1.c) ∧ 
    CallF Try.prog 52 #[.slice x1.a x1.n x1.c] H (fun r H1 => ∃ y : Sl, r = .slice y.a y.n y.c ∧ ∃ I : Int → 
    Hp → Nat → Prop, (∃ m, I 0 H1 m) ∧ ∀ (t11 : Int), ∀ H2 m1, I t11 H2 m1 → ∀ scr : Nat → Value, (((decide (t11 < (y.n : Int))) = true → 
    IxA y.a y.n t11 1 fun ad1 => (∃ x2 : Int, hcell H2 ad1 = some (.int .i64 x2) ∧ ∃ x3 : Option Addr, hcell H2 cap0 = some (.pointer x3) ∧ 
    nilck x3 fun ad2 => (∃ x4 : Sl, hcell H2 ad2 = some (.slice x4.a x4.n x4.c) ∧ IxA x4.a x4.n x2 1 fun ad3 => 
    (∃ x5 : ByteArray, hcell H2 ad3 = some (.string x5) ∧ callV Try.prog yield [.string x5, .int .i64 x2] H2 (fun r1 H3 => 
    ∃ y1 : Bool, r1 = .bool y1 ∧ (((!y1) = true → K (.tuple #[]) H3) ∧ ((!y1) = false → (∃ m2, m2 < m1 ∧ 
    I (w64 (t11 + 1)) H3 m2)))) Z)))) ∧ ((decide (t11 < (y.n : Int))) = false → K (.tuple #[]) H2))) Z)
def aJ139 : Ann := (fun _ => none)
def aL139 : Ann := (fun k => if k = 1 then some [(11, (.sc (.int .i64)))] else none)
theorem V139_ok {H : Hp} {yield : Value} {cap0 : Addr} {K : Value → Hp → Prop} {Z : List PanicEntry → Hp → Prop} (h : V139 H yield cap0 K Z) : CallF Try.prog 139 #[yield, .pointer (some cap0)] H K Z :=
  fnC_sound (P := Try.prog) (aJ := aJ139) (aL := aL139) (f := 139) (args := [yield, .pointer (some cap0)]) (Eq.mp (by kernel_rfl) h)
/-- weft/intern.Sorted[string] -/
def V60 (H : Hp) (l : Sl) (K : Value → Hp → Prop) (Z : List PanicEntry → Hp → Prop) : Prop :=
  ∀ b H1, Newb H (.cells #[.slice none 0 0, .slice none 0 0] 50) b H1 → ∃ I : Int → Hp → Nat → Prop, (∃ m, I 0 H1 m) ∧ 
    ∀ (t12 : Int), ∀ H2 m1, I t12 H2 m1 → ∀ scr : Nat → Value, (((decide (t12 < (l.n : Int))) = true → 
    IxA l.a l.n t12 1 fun ad => (∃ x : ByteArray, hcell H2 ad = some (.string x) ∧ CallF Try.prog 57 #[.pointer (some ⟨b, 0, none⟩), .string x] H2 (fun r H3 => 
    ∃ y_0 : Int, ∃ y_1 : Bool, r = .tuple #[.int .i64 y_0, .bool y_1] ∧ (∃ m2, m2 < m1 ∧ I (w64 (t12 + 1)) H3 m2)) Z)) ∧ 
    ((decide (t12 < (l.n : Int))) = false → ∀ bOut H4, Newb H2 (.cells #[.slice none 0 0] 47) bOut H4 → 
    CallF Try.prog 100 #[.pointer (some ⟨b, 0, none⟩)] H4 (fun r1 H5 => ∃ y : Value, r1 = y ∧ ∀ D H6, Newb H5 (.deferred (some [])) D H6 → 
    ∀ l1 H7, Newb H6 (.loop (lrec Try.f60 60 9 [.slice l.a l.n l.c, undef, .slice none 0 0, .pointer (some ⟨b, 0, none⟩), undef, (scr 5), .pointer (some ⟨bOut, 0, none⟩), undef, .agg #[.slice none 0 0, .slice none 0 0], .pointer (some ⟨b, 0, none⟩), .slice l.a l.n l.c, .int .i64 (l.n : Int), .int .i64 t12, .bool (decide (t12 < (l.n : Int))), (scr 14), (scr 15), (scr 16), (scr 17), (scr 18), (scr 19), .pointer (some ⟨b, 0, none⟩), y, undef, undef, undef, undef, undef, undef, undef] D)) l1 H7 → 
    callG Try.prog y [.func (.yield l1) #[] #[]] H7 (fun _ H8 => endLoopK l1 H8 fun j H9 => jmpV j (∃ x1 : Sl, hcell H9 ⟨bOut, 0, none⟩ = some (.slice x1.a x1.n x1.c) ∧ 
    (H9[D]? = some (.deferred (some [])) ∧ ∀ H10, H10 = H9.setIfInBounds D (.deferred none) → K (.slice x1.a x1.n x1.c) H10)) (False) fun id => 
    False) (fun _ _ => False)) Z))
def aJ60 : Ann := (fun _ => none)
def aL60 : Ann := (fun k => if k = 3 then some [(12, (.sc (.int .i64)))] else none)
theorem V60_ok {H : Hp} {l : Sl} {K : Value → Hp → Prop} {Z : List PanicEntry → Hp → Prop} (h : V60 H l K Z) : CallF Try.prog 60 #[.slice l.a l.n l.c] H K Z :=
  fnC_sound (P := Try.prog) (aJ := aJ60) (aL := aL60) (f := 60) (args := [.slice l.a l.n l.c]) (Eq.mp (by kernel_rfl) h)
/-- a round of the loop over a function, number 9, in weft/intern.Sorted[string] -/
def R60_9 (H11 : Hp) (bOut : Nat) (l2 : Nat) (y22 : ByteArray) (y23 : Int) (K : Value → Hp → Prop) : Prop :=
  (∃ r2, H11[l2]? = some (.loop r2) ∧ r2.state = .ready ∧ ∀ H12, H12 = H11.setIfInBounds l2 (.loop { r2 with state := .busy }) → 
    ∃ x2 : Sl, hcell H12 ⟨bOut, 0, none⟩ = some (.slice x2.a x2.n x2.c) ∧ ∀ b1 H13, Newb H12 (.cells #[.string y22] 9) b1 H13 → 
    App Try.prog #[47, 47] 47 H13 [.slice x2.a x2.n x2.c, .slice (some ⟨b1, 0, none⟩) 1 1] fun ap H14 => 
    (StL ⟨bOut, 0, none⟩ 0 [.slice ap.a ap.n ap.c] H14 fun H15 => (endR l2 none H15 K)))
theorem R60_9_ok {H11 : Hp} {bOut : Nat} {l2 : Nat} {y22 : ByteArray} {y23 : Int} {u0 u1 u2 u3 u4 u5 u7 u8 u9 u10 u11 u12 u13 u14 u15 u16 u17 u18 u19 u20 u21 u22 u23 u24 u25 u26 u27 u28 : Value} {K : Value → Hp → Prop} (h : R60_9 H11 bOut l2 y22 y23 K) : yldC Try.prog aJ60 aL60 Try.f60 60 9 l2 [u0, u1, u2, u3, u4, u5, .pointer (some ⟨bOut, 0, none⟩), u7, u8, u9, u10, u11, u12, u13, u14, u15, u16, u17, u18, u19, u20, u21, u22, u23, u24, u25, u26, u27, u28] [.string y22, .int .i64 y23] H11 K := Eq.mp (by kernel_rfl) h
/-- weft/weftref05.Number -/
def V31 (H : Hp) (l : Sl) (x : ByteArray) (K : Value → Hp → Prop) (Z : List PanicEntry → Hp → Prop) : Prop :=
  ∃ I : Int → Hp → Nat → Prop, (∃ m, I 0 H m) ∧ ∀ (i : Int), ∀ H1 m1, I i H1 m1 → ∀ scr : Nat → Value, (((decide (i < (l.n : Int))) = true → 
    IxA l.a l.n i 1 fun ad => (∃ x1 : ByteArray, hcell H1 ad = some (.string x1) ∧ (((beqS x1 x) = true → 
    K (.int .i64 i) H1) ∧ ((beqS x1 x) = false → (∃ m2, m2 < m1 ∧ I (w64 (i + 1)) H1 m2))))) ∧ ((decide (i < (l.n : Int))) = false → 
    K (.int .i64 (-1)) H1))
def aJ31 : Ann := (fun _ => none)
def aL31 : Ann := (fun k => if k = 2 then some [(5, (.sc (.int .i64)))] else none)
theorem V31_ok {H : Hp} {l : Sl} {x : ByteArray} {K : Value → Hp → Prop} {Z : List PanicEntry → Hp → Prop} (h : V31 H l x K Z) : CallF Try.prog 31 #[.slice l.a l.n l.c, .string x] H K Z :=
  fnC_sound (P := Try.prog) (aJ := aJ31) (aL := aL31) (f := 31) (args := [.slice l.a l.n l.c, .string x]) (Eq.mp (by kernel_rfl) h)
/-- weft/weftref05.Into -/
def V101 (H : Hp) (m : Sl) (x : ByteArray) (K : Value → Hp → Prop) (Z : List PanicEntry → Hp → Prop) : Prop :=
  ∃ I : Int → Hp → Nat → Prop, (∃ m1, I 0 H m1) ∧ ∀ (k : Int), ∀ H1 m2, I k H1 m2 → ∀ scr : Nat → Value, (((decide (k < (m.n : Int))) = true → 
    IxA m.a m.n k 1 fun ad => (∃ x1 : ByteArray, hcell H1 ad = some (.string x1) ∧ (((ltS x1 x) = true → 
    (∃ m3, m3 < m2 ∧ I (w64 (k + 1)) H1 m3)) ∧ ((ltS x1 x) = false → (((decide (k < (m.n : Int))) = true → 
    IxA m.a m.n k 1 fun ad1 => (∃ x2 : ByteArray, hcell H1 ad1 = some (.string x2) ∧ (((beqS x2 x) = true → 
    K (.slice m.a m.n m.c) H1) ∧ ((beqS x2 x) = false → ∀ b H2, Newb H1 (.cells #[] 9) b H2 → (m.n ≤ m.c ∧ 
    SlX m.a m.c 0 k 1 fun cut => (App Try.prog #[47, 47] 47 H2 [.slice (some ⟨b, 0, none⟩) 0 0, .slice cut.a cut.n cut.c] fun ap H3 => 
    (∀ b1 H4, Newb H3 (.cells #[.string x] 9) b1 H4 → App Try.prog #[47, 47] 47 H4 [.slice ap.a ap.n ap.c, .slice (some ⟨b1, 0, none⟩) 1 1] fun ap1 H5 => 
    (m.n ≤ m.c ∧ SlX m.a m.c k (m.n : Int) 1 fun cut1 => (App Try.prog #[47, 47] 47 H5 [.slice ap1.a ap1.n ap1.c, .slice cut1.a cut1.n cut1.c] fun ap2 H6 => 
    (K (.slice ap2.a ap2.n ap2.c) H6)))))))))) ∧ ((decide (k < (m.n : Int))) = false → ∀ b2 H7, Newb H1 (.cells #[] 9) b2 H7 → 
    (m.n ≤ m.c ∧ SlX m.a m.c 0 k 1 fun cut2 => (App Try.prog #[47, 47] 47 H7 [.slice (some ⟨b2, 0, none⟩) 0 0, .slice cut2.a cut2.n cut2.c] fun ap3 H8 => 
    (∀ b3 H9, Newb H8 (.cells #[.string x] 9) b3 H9 → App Try.prog #[47, 47] 47 H9 [.slice ap3.a ap3.n ap3.c, .slice (some ⟨b3, 0, none⟩) 1 1] fun ap4 H10 => 
    (m.n ≤ m.c ∧ SlX m.a m.c k (m.n : Int) 1 fun cut3 => (App Try.prog #[47, 47] 47 H10 [.slice ap4.a ap4.n ap4.c, .slice cut3.a cut3.n cut3.c] fun ap5 H11 => 
    (K (.slice ap5.a ap5.n ap5.c) H11)))))))))))) ∧ ((decide (k < (m.n : Int))) = false → (((decide (k < (m.n : Int))) = true → 
    IxA m.a m.n k 1 fun ad2 => (∃ x3 : ByteArray, hcell H1 ad2 = some (.string x3) ∧ (((beqS x3 x) = true → 
    K (.slice m.a m.n m.c) H1) ∧ ((beqS x3 x) = false → ∀ b4 H12, Newb H1 (.cells #[] 9) b4 H12 → (m.n ≤ m.c ∧ 
    SlX m.a m.c 0 k 1 fun cut4 => (App Try.prog #[47, 47] 47 H12 [.slice (some ⟨b4, 0, none⟩) 0 0, .slice cut4.a cut4.n cut4.c] fun ap6 H13 => 
    (∀ b5 H14, Newb H13 (.cells #[.string x] 9) b5 H14 → App Try.prog #[47, 47] 47 H14 [.slice ap6.a ap6.n ap6.c, .slice (some ⟨b5, 0, none⟩) 1 1] fun ap7 H15 => 
    (m.n ≤ m.c ∧ SlX m.a m.c k (m.n : Int) 1 fun cut5 => (App Try.prog #[47, 47] 47 H15 [.slice ap7.a ap7.n ap7.c, .slice cut5.a cut5.n cut5.c] fun ap8 H16 => 
    (K (.slice ap8.a ap8.n ap8.c) H16)))))))))) ∧ ((decide (k < (m.n : Int))) = false → ∀ b6 H17, Newb H1 (.cells #[] 9) b6 H17 → 
    (m.n ≤ m.c ∧ SlX m.a m.c 0 k 1 fun cut6 => (App Try.prog #[47, 47] 47 H17 [.slice (some ⟨b6, 0, none⟩) 0 0, .slice cut6.a cut6.n cut6.c] fun ap9 H18 => 
    (∀ b7 H19, Newb H18 (.cells #[.string x] 9) b7 H19 → App Try.prog #[47, 47] 47 H19 [.slice ap9.a ap9.n ap9.c, .slice (some ⟨b7, 0, none⟩) 1 1] fun ap10 H20 => 
    (m.n ≤ m.c ∧ SlX m.a m.c k (m.n : Int) 1 fun cut7 => (App Try.prog #[47, 47] 47 H20 [.slice ap10.a ap10.n ap10.c, .slice cut7.a cut7.n cut7.c] fun ap11 H21 => 
    (K (.slice ap11.a ap11.n ap11.c) H21))))))))))
def aJ101 : Ann := (fun _ => none)
def aL101 : Ann := (fun k => if k = 2 then some [(5, (.sc (.int .i64)))] else none)
theorem V101_ok {H : Hp} {m : Sl} {x : ByteArray} {K : Value → Hp → Prop} {Z : List PanicEntry → Hp → Prop} (h : V101 H m x K Z) : CallF Try.prog 101 #[.slice m.a m.n m.c, .string x] H K Z :=
  fnC_sound (P := Try.prog) (aJ := aJ101) (aL := aL101) (f := 101) (args := [.slice m.a m.n m.c, .string x]) (Eq.mp (by kernel_rfl) h)
/-- weft/weftref05.Sorted -/
def V61 (H : Hp) (l : Sl) (K : Value → Hp → Prop) (Z : List PanicEntry → Hp → Prop) : Prop :=
  ∃ I : Sl → Int → Hp → Nat → Prop, (∃ m, I (⟨none, 0, 0⟩ : Sl) 0 H m) ∧ ∀ (m1 : Sl) (i : Int), ∀ H1 m2, I m1 i H1 m2 → 
    ∀ scr : Nat → Value, (((decide (i < (l.n : Int))) = true → IxA l.a l.n i 1 fun ad => (∃ x : ByteArray, hcell H1 ad = some (.string x) ∧ 
    CallF Try.prog 101 #[.slice m1.a m1.n m1.c, .string x] H1 (fun r H2 => ∃ y : Sl, r = .slice y.a y.n y.c ∧ 
    (∃ m3, m3 < m2 ∧ I y (w64 (i + 1)) H2 m3)) Z)) ∧ ((decide (i < (l.n : Int))) = false → K (.slice m1.a m1.n m1.c) H1))
def aJ61 : Ann := (fun _ => none)
def aL61 : Ann := (fun k => if k = 3 then some [(3, (.sc .sl)), (4, (.sc (.int .i64)))] else none)
theorem V61_ok {H : Hp} {l : Sl} {K : Value → Hp → Prop} {Z : List PanicEntry → Hp → Prop} (h : V61 H l K Z) : CallF Try.prog 61 #[.slice l.a l.n l.c] H K Z :=
  fnC_sound (P := Try.prog) (aJ := aJ61) (aL := aL61) (f := 61) (args := [.slice l.a l.n l.c]) (Eq.mp (by kernel_rfl) h)
/-- weft/weftref05.Same -/
def V50 (H : Hp) (a : Sl) (b : Sl) (K : Value → Hp → Prop) (Z : List PanicEntry → Hp → Prop) : Prop :=
  ((((a.n : Int) != (b.n : Int)) = true → K (.bool false) H) ∧ (((a.n : Int) != (b.n : Int)) = false → 
    ∃ I : Int → Hp → Nat → Prop, (∃ m, I 0 H m) ∧ ∀ (i : Int), ∀ H1 m1, I i H1 m1 → ∀ scr : Nat → Value, (((decide (i < (a.n : Int))) = true → 
    (((decide (i < (b.n : Int))) = true → IxA a.a a.n i 1 fun ad => (∃ x : ByteArray, hcell H1 ad = some (.string x) ∧ 
    IxA b.a b.n i 1 fun ad1 => (∃ x1 : ByteArray, hcell H1 ad1 = some (.string x1) ∧ (((!(beqS x x1)) = true → 
    K (.bool false) H1) ∧ ((!(beqS x x1)) = false → (∃ m2, m2 < m1 ∧ I (w64 (i + 1)) H1 m2)))))) ∧ ((decide (i < (b.n : Int))) = false → 
    K (.bool true) H1))) ∧ ((decide (i < (a.n : Int))) = false → K (.bool true) H1))))
def aJ50 : Ann := (fun _ => none)
def aL50 : Ann := (fun k => if k = 4 then some [(5, (.sc (.int .i64)))] else none)
theorem V50_ok {H : Hp} {a : Sl} {b : Sl} {K : Value → Hp → Prop} {Z : List PanicEntry → Hp → Prop} (h : V50 H a b K Z) : CallF Try.prog 50 #[.slice a.a a.n a.c, .slice b.a b.n b.c] H K Z :=
  fnC_sound (P := Try.prog) (aJ := aJ50) (aL := aL50) (f := 50) (args := [.slice a.a a.n a.c, .slice b.a b.n b.c]) (Eq.mp (by kernel_rfl) h)
end Go.Proofs.Ytigbdoicgdmliaa.N05

