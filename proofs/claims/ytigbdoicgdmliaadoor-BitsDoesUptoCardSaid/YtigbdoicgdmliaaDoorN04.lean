/- The conditions of bits' functions, and of weftref04's and weftlaw04's (printed by our own program vn.py; the kernel checks each against V5's comp). -/
import Derived.Test.YtigbdoicgdmliaaDoorV8
import Derived.Test.YtigbdoicgdmliaaDoorProg
set_option linter.unusedVariables false
set_option maxRecDepth 100000
-- add: 7
-- rAdd: 8
-- join: 9
-- rJoin: 10
-- has: 11
-- rHas: 12
-- len: 13
-- blocks: 14
-- rBlocks: 15
-- same: 16
-- rSame: 17
-- list: 18
-- works: 19
-- of: 20
-- less: 21
-- both: 22
-- each: 23
-- lawJ1: 24
-- find: 35
-- insert: 36
-- made: 37
-- join1: 38
-- blist: 39
-- equal: 41
-- list1: 42
-- less1: 43
-- both1: 44
-- each1: 45
-- clone: 46
-- beach: 47
-- bs: 63
-- find1: 64
-- rot: 66
-- merged: 67
-- merged1: 76
-- ones: 40
-- lawDoes: 3
-- lawJoins: 4
namespace Go.Proofs.YtigbdoicgdmliaaDoor.N04
open Go Go.V Go.Proofs
/-- math/bits.OnesCount64 -/
def V40 (H : Hp) (x : Int) (K : Value → Hp → Prop) (Z : List PanicEntry → Hp → Prop) : Prop :=
  K (.int .i64 (bitAnd .i64 (w64 (IntKind.wrap .u64 ((IntKind.wrap .u64 ((IntKind.wrap .u64 ((bitAnd .u64 (IntKind.wrap .u64 ((Int.fdiv (IntKind.wrap .u64 ((bitAnd .u64 (Int.fdiv (IntKind.wrap .u64 ((bitAnd .u64 (Int.fdiv x (2 ^ 1)) 6148914691236517205) + (bitAnd .u64 x 6148914691236517205))) (2 ^ 2)) 3689348814741910323) + (bitAnd .u64 (IntKind.wrap .u64 ((bitAnd .u64 (Int.fdiv x (2 ^ 1)) 6148914691236517205) + (bitAnd .u64 x 6148914691236517205))) 3689348814741910323))) (2 ^ 4)) + (IntKind.wrap .u64 ((bitAnd .u64 (Int.fdiv (IntKind.wrap .u64 ((bitAnd .u64 (Int.fdiv x (2 ^ 1)) 6148914691236517205) + (bitAnd .u64 x 6148914691236517205))) (2 ^ 2)) 3689348814741910323) + (bitAnd .u64 (IntKind.wrap .u64 ((bitAnd .u64 (Int.fdiv x (2 ^ 1)) 6148914691236517205) + (bitAnd .u64 x 6148914691236517205))) 3689348814741910323))))) 1085102592571150095) + (Int.fdiv (bitAnd .u64 (IntKind.wrap .u64 ((Int.fdiv (IntKind.wrap .u64 ((bitAnd .u64 (Int.fdiv (IntKind.wrap .u64 ((bitAnd .u64 (Int.fdiv x (2 ^ 1)) 6148914691236517205) + (bitAnd .u64 x 6148914691236517205))) (2 ^ 2)) 3689348814741910323) + (bitAnd .u64 (IntKind.wrap .u64 ((bitAnd .u64 (Int.fdiv x (2 ^ 1)) 6148914691236517205) + (bitAnd .u64 x 6148914691236517205))) 3689348814741910323))) (2 ^ 4)) + (IntKind.wrap .u64 ((bitAnd .u64 (Int.fdiv (IntKind.wrap .u64 ((bitAnd .u64 (Int.fdiv x (2 ^ 1)) 6148914691236517205) + (bitAnd .u64 x 6148914691236517205))) (2 ^ 2)) 3689348814741910323) + (bitAnd .u64 (IntKind.wrap .u64 ((bitAnd .u64 (Int.fdiv x (2 ^ 1)) 6148914691236517205) + (bitAnd .u64 x 6148914691236517205))) 3689348814741910323))))) 1085102592571150095) (2 ^ 8)))) + (Int.fdiv (IntKind.wrap .u64 ((bitAnd .u64 (IntKind.wrap .u64 ((Int.fdiv (IntKind.wrap .u64 ((bitAnd .u64 (Int.fdiv (IntKind.wrap .u64 ((bitAnd .u64 (Int.fdiv x (2 ^ 1)) 6148914691236517205) + (bitAnd .u64 x 6148914691236517205))) (2 ^ 2)) 3689348814741910323) + (bitAnd .u64 (IntKind.wrap .u64 ((bitAnd .u64 (Int.fdiv x (2 ^ 1)) 6148914691236517205) + (bitAnd .u64 x 6148914691236517205))) 3689348814741910323))) (2 ^ 4)) + (IntKind.wrap .u64 ((bitAnd .u64 (Int.fdiv (IntKind.wrap .u64 ((bitAnd .u64 (Int.fdiv x (2 ^ 1)) 6148914691236517205) + (bitAnd .u64 x 6148914691236517205))) (2 ^ 2)) 3689348814741910323) + (bitAnd .u64 (IntKind.wrap .u64 ((bitAnd .u64 (Int.fdiv x (2 ^ 1)) 6148914691236517205) + (bitAnd .u64 x 6148914691236517205))) 3689348814741910323))))) 1085102592571150095) + (Int.fdiv (bitAnd .u64 (IntKind.wrap .u64 ((Int.fdiv (IntKind.wrap .u64 ((bitAnd .u64 (Int.fdiv (IntKind.wrap .u64 ((bitAnd .u64 (Int.fdiv x (2 ^ 1)) 6148914691236517205) + (bitAnd .u64 x 6148914691236517205))) (2 ^ 2)) 3689348814741910323) + (bitAnd .u64 (IntKind.wrap .u64 ((bitAnd .u64 (Int.fdiv x (2 ^ 1)) 6148914691236517205) + (bitAnd .u64 x 6148914691236517205))) 3689348814741910323))) (2 ^ 4)) + (IntKind.wrap .u64 ((bitAnd .u64 (Int.fdiv (IntKind.wrap .u64 ((bitAnd .u64 (Int.fdiv x (2 ^ 1)) 6148914691236517205) + (bitAnd .u64 x 6148914691236517205))) (2 ^ 2)) 3689348814741910323) + (bitAnd .u64 (IntKind.wrap .u64 ((bitAnd .u64 (Int.fdiv x (2 ^ 1)) 6148914691236517205) + (bitAnd .u64 x 6148914691236517205))) 3689348814741910323))))) 1085102592571150095) (2 ^ 8)))) (2 ^ 16)))) + (Int.fdiv (IntKind.wrap .u64 ((IntKind.wrap .u64 ((bitAnd .u64 (IntKind.wrap .u64 ((Int.fdiv (IntKind.wrap .u64 ((bitAnd .u64 (Int.fdiv (IntKind.wrap .u64 ((bitAnd .u64 (Int.fdiv x (2 ^ 1)) 6148914691236517205) + (bitAnd .u64 x 6148914691236517205))) (2 ^ 2)) 3689348814741910323) + (bitAnd .u64 (IntKind.wrap .u64 ((bitAnd .u64 (Int.fdiv x (2 ^ 1)) 6148914691236517205) + (bitAnd .u64 x 6148914691236517205))) 3689348814741910323))) (2 ^ 4)) + (IntKind.wrap .u64 ((bitAnd .u64 (Int.fdiv (IntKind.wrap .u64 ((bitAnd .u64 (Int.fdiv x (2 ^ 1)) 6148914691236517205) + (bitAnd .u64 x 6148914691236517205))) (2 ^ 2)) 3689348814741910323) + (bitAnd .u64 (IntKind.wrap .u64 ((bitAnd .u64 (Int.fdiv x (2 ^ 1)) 6148914691236517205) + (bitAnd .u64 x 6148914691236517205))) 3689348814741910323))))) 1085102592571150095) + (Int.fdiv (bitAnd .u64 (IntKind.wrap .u64 ((Int.fdiv (IntKind.wrap .u64 ((bitAnd .u64 (Int.fdiv (IntKind.wrap .u64 ((bitAnd .u64 (Int.fdiv x (2 ^ 1)) 6148914691236517205) + (bitAnd .u64 x 6148914691236517205))) (2 ^ 2)) 3689348814741910323) + (bitAnd .u64 (IntKind.wrap .u64 ((bitAnd .u64 (Int.fdiv x (2 ^ 1)) 6148914691236517205) + (bitAnd .u64 x 6148914691236517205))) 3689348814741910323))) (2 ^ 4)) + (IntKind.wrap .u64 ((bitAnd .u64 (Int.fdiv (IntKind.wrap .u64 ((bitAnd .u64 (Int.fdiv x (2 ^ 1)) 6148914691236517205) + (bitAnd .u64 x 6148914691236517205))) (2 ^ 2)) 3689348814741910323) + (bitAnd .u64 (IntKind.wrap .u64 ((bitAnd .u64 (Int.fdiv x (2 ^ 1)) 6148914691236517205) + (bitAnd .u64 x 6148914691236517205))) 3689348814741910323))))) 1085102592571150095) (2 ^ 8)))) + (Int.fdiv (IntKind.wrap .u64 ((bitAnd .u64 (IntKind.wrap .u64 ((Int.fdiv (IntKind.wrap .u64 ((bitAnd .u64 (Int.fdiv (IntKind.wrap .u64 ((bitAnd .u64 (Int.fdiv x (2 ^ 1)) 6148914691236517205) + (bitAnd .u64 x 6148914691236517205))) (2 ^ 2)) 3689348814741910323) + (bitAnd .u64 (IntKind.wrap .u64 ((bitAnd .u64 (Int.fdiv x (2 ^ 1)) 6148914691236517205) + (bitAnd .u64 x 6148914691236517205))) 3689348814741910323))) (2 ^ 4)) + (IntKind.wrap .u64 ((bitAnd .u64 (Int.fdiv (IntKind.wrap .u64 ((bitAnd .u64 (Int.fdiv x (2 ^ 1)) 6148914691236517205) + (bitAnd .u64 x 6148914691236517205))) (2 ^ 2)) 3689348814741910323) + (bitAnd .u64 (IntKind.wrap .u64 ((bitAnd .u64 (Int.fdiv x (2 ^ 1)) 6148914691236517205) + (bitAnd .u64 x 6148914691236517205))) 3689348814741910323))))) 1085102592571150095) + (Int.fdiv (bitAnd .u64 (IntKind.wrap .u64 ((Int.fdiv (IntKind.wrap .u64 ((bitAnd .u64 (Int.fdiv (IntKind.wrap .u64 ((bitAnd .u64 (Int.fdiv x (2 ^ 1)) 6148914691236517205) + (bitAnd .u64 x 6148914691236517205))) (2 ^ 2)) 3689348814741910323) + (bitAnd .u64 (IntKind.wrap .u64 ((bitAnd .u64 (Int.fdiv x (2 ^ 1)) 6148914691236517205) + (bitAnd .u64 x 6148914691236517205))) 3689348814741910323))) (2 ^ 4)) + (IntKind.wrap .u64 ((bitAnd .u64 (Int.fdiv (IntKind.wrap .u64 ((bitAnd .u64 (Int.fdiv x (2 ^ 1)) 6148914691236517205) + (bitAnd .u64 x 6148914691236517205))) (2 ^ 2)) 3689348814741910323) + (bitAnd .u64 (IntKind.wrap .u64 ((bitAnd .u64 (Int.fdiv x (2 ^ 1)) 6148914691236517205) + (bitAnd .u64 x 6148914691236517205))) 3689348814741910323))))) 1085102592571150095) (2 ^ 8)))) (2 ^ 16)))) (2 ^ 32))))) 127)) H
def aJ40 : Ann := (fun _ => none)
def aL40 : Ann := (fun _ => none)
theorem V40_ok {H : Hp} {x : Int} {K : Value → Hp → Prop} {Z : List PanicEntry → Hp → Prop} (h : V40 H x K Z) : CallF Tryd.prog 40 #[.int .u64 x] H K Z :=
  fnC_sound (P := Tryd.prog) (aJ := aJ40) (aL := aL40) (f := 40) (args := [.int .u64 x]) (Eq.mp (by kernel_rfl) h)
/-- (*weft/bits.Set).Add -/
def V7 (H : Hp) (s : Option Addr) (n : Int) (K : Value → Hp → Prop) (Z : List PanicEntry → Hp → Prop) : Prop :=
  ∃ J : Hp → Prop, (∀ H1, J  H1 → ∀ scr : Nat → Value, (0 ≤ (Int.tmod n 64) ∧ CallF Tryd.prog 35 #[.pointer s, .int .i64 (w64 (Int.tdiv n 64))] H1 (fun r H2 => 
    ∃ y_0 : Int, ∃ y_1 : Bool, r = .tuple #[.int .i64 y_0, .bool y_1] ∧ (((!y_1) = true → nilck s fun ad => 
    (∃ x : Sl, hcell H2 ad = some (.slice x.a x.n x.c) ∧ ∀ b H3, Newb H2 (.cells #[.int .i64 (w64 (Int.tdiv n 64)), .int .u64 (IntKind.wrap .u64 (1 * 2 ^ (min (Int.toNat (Int.tmod n 64)) (IntKind.bits .u64))))] 70) b H3 → 
    CallF Tryd.prog 36 #[.slice x.a x.n x.c, .int .i64 y_0, .slice (some ⟨b, 0, none⟩) 1 1] H3 (fun r1 H4 => 
    ∃ y : Sl, r1 = .slice y.a y.n y.c ∧ nilck s fun ad1 => (StL ad1 0 [.slice y.a y.n y.c] H4 fun H5 => 
    (K (.bool true) H5))) Z)) ∧ ((!y_1) = false → nilck s fun ad2 => (∃ x1 : Sl, hcell H2 ad2 = some (.slice x1.a x1.n x1.c) ∧ 
    IxA x1.a x1.n y_0 2 fun ad3 => (∃ x2 : Int, hcell H2 (Addr.add ad3 1) = some (.int .u64 x2) ∧ nilck s fun ad4 => 
    (∃ x3 : Sl, hcell H2 ad4 = some (.slice x3.a x3.n x3.c) ∧ IxA x3.a x3.n y_0 2 fun ad5 => (∃ x4 : Int, hcell H2 (Addr.add ad5 1) = some (.int .u64 x4) ∧ 
    IxA x3.a x3.n y_0 2 fun ad6 => (StL (Addr.add ad6 1) 0 [.int .u64 (bitOr .u64 x4 (IntKind.wrap .u64 (1 * 2 ^ (min (Int.toNat (Int.tmod n 64)) (IntKind.bits .u64)))))] H2 fun H6 => 
    (K (.bool ((bitAnd .u64 x2 (IntKind.wrap .u64 (1 * 2 ^ (min (Int.toNat (Int.tmod n 64)) (IntKind.bits .u64))))) == 0)) H6))))))))) Z)) ∧ 
    (((Option.isNone s) = true → K (.bool false) H) ∧ ((Option.isNone s) = false → (((decide (n < 0)) = true → 
    K (.bool false) H) ∧ ((decide (n < 0)) = false → (((decide (n > 268435456)) = true → K (.bool false) H) ∧ 
    ((decide (n > 268435456)) = false → (J  H)))))))
def aJ7 : Ann := (fun k => if k = 3 then some [] else none)
def aL7 : Ann := (fun _ => none)
theorem V7_ok {H : Hp} {s : Option Addr} {n : Int} {K : Value → Hp → Prop} {Z : List PanicEntry → Hp → Prop} (h : V7 H s n K Z) : CallF Tryd.prog 7 #[.pointer s, .int .i64 n] H K Z :=
  fnC_sound (P := Tryd.prog) (aJ := aJ7) (aL := aL7) (f := 7) (args := [.pointer s, .int .i64 n]) (Eq.mp (by kernel_rfl) h)
/-- (weft/weftref04.Set).Add -/
def V8 (H : Hp) (s : Sl) (n : Int) (K : Value → Hp → Prop) (Z : List PanicEntry → Hp → Prop) : Prop :=
  ∃ J : Hp → Prop, (∀ H1, J  H1 → ∀ scr : Nat → Value, ∃ I : Int → Hp → Nat → Prop, (∃ m, I 0 H1 m) ∧ 
    ∀ (i : Int), ∀ H2 m1, I i H2 m1 → ∀ scr1 : Nat → Value, (((decide (i < (s.n : Int))) = true → IxA s.a s.n i 1 fun ad => 
    (∃ x : Int, hcell H2 ad = some (.int .i64 x) ∧ (((decide (x < n)) = true → (∃ m2, m2 < m1 ∧ I (w64 (i + 1)) H2 m2)) ∧ 
    ((decide (x < n)) = false → ∀ b H3, Newb H2 (.cells #[] 3) b H3 → (s.n ≤ s.c ∧ SlX s.a s.c 0 i 1 fun cut => 
    (App Tryd.prog #[28, 28] 28 H3 [.slice (some ⟨b, 0, none⟩) 0 0, .slice cut.a cut.n cut.c] fun ap H4 => 
    (∀ b1 H5, Newb H4 (.cells #[.int .i64 n] 3) b1 H5 → App Tryd.prog #[28, 28] 28 H5 [.slice ap.a ap.n ap.c, .slice (some ⟨b1, 0, none⟩) 1 1] fun ap1 H6 => 
    (s.n ≤ s.c ∧ SlX s.a s.c i (s.n : Int) 1 fun cut1 => (App Tryd.prog #[28, 28] 28 H6 [.slice ap1.a ap1.n ap1.c, .slice cut1.a cut1.n cut1.c] fun ap2 H7 => 
    (K (.tuple #[.slice ap2.a ap2.n ap2.c, .bool true]) H7)))))))))) ∧ ((decide (i < (s.n : Int))) = false → 
    ∀ b2 H8, Newb H2 (.cells #[] 3) b2 H8 → (s.n ≤ s.c ∧ SlX s.a s.c 0 i 1 fun cut2 => (App Tryd.prog #[28, 28] 28 H8 [.slice (some ⟨b2, 0, none⟩) 0 0, .slice cut2.a cut2.n cut2.c] fun ap3 H9 => 
    (∀ b3 H10, Newb H9 (.cells #[.int .i64 n] 3) b3 H10 → App Tryd.prog #[28, 28] 28 H10 [.slice ap3.a ap3.n ap3.c, .slice (some ⟨b3, 0, none⟩) 1 1] fun ap4 H11 => 
    (s.n ≤ s.c ∧ SlX s.a s.c i (s.n : Int) 1 fun cut3 => (App Tryd.prog #[28, 28] 28 H11 [.slice ap4.a ap4.n ap4.c, .slice cut3.a cut3.n cut3.c] fun ap5 H12 => 
    (K (.tuple #[.slice ap5.a ap5.n ap5.c, .bool true]) H12))))))))) ∧ (((decide (n < 0)) = true → K (.tuple #[.slice s.a s.n s.c, .bool false]) H) ∧ 
    ((decide (n < 0)) = false → (((decide (n > 268435456)) = true → K (.tuple #[.slice s.a s.n s.c, .bool false]) H) ∧ 
    ((decide (n > 268435456)) = false → CallF Tryd.prog 12 #[.slice s.a s.n s.c, .int .i64 n] H (fun r H13 => 
    ∃ y : Bool, r = .bool y ∧ ((y = true → K (.tuple #[.slice s.a s.n s.c, .bool false]) H13) ∧ (y = false → 
    (J  H13)))) Z))))
def aJ8 : Ann := (fun k => if k = 3 then some [] else none)
def aL8 : Ann := (fun k => if k = 4 then some [(6, (.sc (.int .i64)))] else none)
theorem V8_ok {H : Hp} {s : Sl} {n : Int} {K : Value → Hp → Prop} {Z : List PanicEntry → Hp → Prop} (h : V8 H s n K Z) : CallF Tryd.prog 8 #[.slice s.a s.n s.c, .int .i64 n] H K Z :=
  fnC_sound (P := Tryd.prog) (aJ := aJ8) (aL := aL8) (f := 8) (args := [.slice s.a s.n s.c, .int .i64 n]) (Eq.mp (by kernel_rfl) h)
/-- (*weft/bits.Set).Join -/
def V9 (H : Hp) (s : Option Addr) (t : Addr) (K : Value → Hp → Prop) (Z : List PanicEntry → Hp → Prop) : Prop :=
  (((Option.isNone s) = true → K (.int .i64 0) H) ∧ ((Option.isNone s) = false → CallF Tryd.prog 13 #[.pointer s] H (fun r H1 => 
    ∃ y : Int, r = .int .i64 y ∧ CallF Tryd.prog 37 #[.pointer s, .pointer (some t), .func (.func 38) #[] #[]] H1 (fun r1 H2 => 
    ∃ y1 : Option Addr, r1 = .pointer y1 ∧ nilck y1 fun ad => (∃ x : Sl, hcell H2 ad = some (.slice x.a x.n x.c) ∧ 
    nilck s fun ad1 => (StL ad1 0 [.slice x.a x.n x.c] H2 fun H3 => (CallF Tryd.prog 13 #[.pointer s] H3 (fun r2 H4 => 
    ∃ y2 : Int, r2 = .int .i64 y2 ∧ K (.int .i64 (w64 (y2 - y))) H4) Z)))) Z) Z))
def aJ9 : Ann := (fun _ => none)
def aL9 : Ann := (fun _ => none)
theorem V9_ok {H : Hp} {s : Option Addr} {t : Addr} {K : Value → Hp → Prop} {Z : List PanicEntry → Hp → Prop} (h : V9 H s t K Z) : CallF Tryd.prog 9 #[.pointer s, .pointer (some t)] H K Z :=
  fnC_sound (P := Tryd.prog) (aJ := aJ9) (aL := aL9) (f := 9) (args := [.pointer s, .pointer (some t)]) (Eq.mp (by kernel_rfl) h)
/-- (weft/weftref04.Set).Join -/
def V10 (H : Hp) (s : Sl) (t : Sl) (K : Value → Hp → Prop) (Z : List PanicEntry → Hp → Prop) : Prop :=
  ∃ I : Sl → Int → Int → Hp → Nat → Prop, (∃ m, I s 0 0 H m) ∧ ∀ (s1 : Sl) (n : Int) (i : Int), ∀ H1 m1, I s1 n i H1 m1 → 
    ∀ scr : Nat → Value, (((decide (i < (t.n : Int))) = true → IxA t.a t.n i 1 fun ad => (∃ x : Int, hcell H1 ad = some (.int .i64 x) ∧ 
    CallF Tryd.prog 8 #[.slice s1.a s1.n s1.c, .int .i64 x] H1 (fun r H2 => ∃ y_0 : Sl, ∃ y_1 : Bool, r = .tuple #[.slice y_0.a y_0.n y_0.c, .bool y_1] ∧ 
    ((y_1 = true → (∃ m2, m2 < m1 ∧ I y_0 (w64 (n + 1)) (w64 (i + 1)) H2 m2)) ∧ (y_1 = false → (∃ m2, m2 < m1 ∧ 
    I y_0 n (w64 (i + 1)) H2 m2)))) Z)) ∧ ((decide (i < (t.n : Int))) = false → K (.tuple #[.slice s1.a s1.n s1.c, .int .i64 n]) H1))
def aJ10 : Ann := (fun _ => none)
def aL10 : Ann := (fun k => if k = 3 then some [(0, (.sc .sl)), (6, (.sc (.int .i64))), (7, (.sc (.int .i64)))] else none)
theorem V10_ok {H : Hp} {s : Sl} {t : Sl} {K : Value → Hp → Prop} {Z : List PanicEntry → Hp → Prop} (h : V10 H s t K Z) : CallF Tryd.prog 10 #[.slice s.a s.n s.c, .slice t.a t.n t.c] H K Z :=
  fnC_sound (P := Tryd.prog) (aJ := aJ10) (aL := aL10) (f := 10) (args := [.slice s.a s.n s.c, .slice t.a t.n t.c]) (Eq.mp (by kernel_rfl) h)
/-- (*weft/bits.Set).Has -/
def V11 (H : Hp) (s : Option Addr) (n : Int) (K : Value → Hp → Prop) (Z : List PanicEntry → Hp → Prop) : Prop :=
  ∃ J : Hp → Prop, (∀ H1, J  H1 → ∀ scr : Nat → Value, CallF Tryd.prog 35 #[.pointer s, .int .i64 (w64 (Int.tdiv n 64))] H1 (fun r H2 => 
    ∃ y_0 : Int, ∃ y_1 : Bool, r = .tuple #[.int .i64 y_0, .bool y_1] ∧ ((y_1 = true → nilck s fun ad => 
    (∃ x : Sl, hcell H2 ad = some (.slice x.a x.n x.c) ∧ IxA x.a x.n y_0 2 fun ad1 => (∃ x1 : Int, hcell H2 (Addr.add ad1 1) = some (.int .u64 x1) ∧ 
    (0 ≤ (Int.tmod n 64) ∧ K (.bool ((bitAnd .u64 (Int.fdiv x1 (2 ^ (min (Int.toNat (Int.tmod n 64)) (IntKind.bits .u64)))) 1) == 1)) H2)))) ∧ 
    (y_1 = false → K (.bool false) H2))) Z) ∧ (((Option.isNone s) = true → K (.bool false) H) ∧ ((Option.isNone s) = false → 
    (((decide (n < 0)) = true → K (.bool false) H) ∧ ((decide (n < 0)) = false → (J  H)))))
def aJ11 : Ann := (fun k => if k = 3 then some [] else none)
def aL11 : Ann := (fun _ => none)
theorem V11_ok {H : Hp} {s : Option Addr} {n : Int} {K : Value → Hp → Prop} {Z : List PanicEntry → Hp → Prop} (h : V11 H s n K Z) : CallF Tryd.prog 11 #[.pointer s, .int .i64 n] H K Z :=
  fnC_sound (P := Tryd.prog) (aJ := aJ11) (aL := aL11) (f := 11) (args := [.pointer s, .int .i64 n]) (Eq.mp (by kernel_rfl) h)
/-- (weft/weftref04.Set).Has -/
def V12 (H : Hp) (s : Sl) (n : Int) (K : Value → Hp → Prop) (Z : List PanicEntry → Hp → Prop) : Prop :=
  ∃ I : Int → Hp → Nat → Prop, (∃ m, I 0 H m) ∧ ∀ (i : Int), ∀ H1 m1, I i H1 m1 → ∀ scr : Nat → Value, (((decide (i < (s.n : Int))) = true → 
    IxA s.a s.n i 1 fun ad => (∃ x : Int, hcell H1 ad = some (.int .i64 x) ∧ (((x == n) = true → K (.bool true) H1) ∧ 
    ((x == n) = false → (∃ m2, m2 < m1 ∧ I (w64 (i + 1)) H1 m2))))) ∧ ((decide (i < (s.n : Int))) = false → 
    K (.bool false) H1))
def aJ12 : Ann := (fun _ => none)
def aL12 : Ann := (fun k => if k = 2 then some [(5, (.sc (.int .i64)))] else none)
theorem V12_ok {H : Hp} {s : Sl} {n : Int} {K : Value → Hp → Prop} {Z : List PanicEntry → Hp → Prop} (h : V12 H s n K Z) : CallF Tryd.prog 12 #[.slice s.a s.n s.c, .int .i64 n] H K Z :=
  fnC_sound (P := Tryd.prog) (aJ := aJ12) (aL := aL12) (f := 12) (args := [.slice s.a s.n s.c, .int .i64 n]) (Eq.mp (by kernel_rfl) h)
/-- (*weft/bits.Set).Len -/
def V13 (H : Hp) (s : Addr) (K : Value → Hp → Prop) (Z : List PanicEntry → Hp → Prop) : Prop :=
  CallF Tryd.prog 39 #[.pointer (some s)] H (fun r H1 => ∃ y : Sl, r = .slice y.a y.n y.c ∧ ∃ I : Int → 
    Int → Hp → Nat → Prop, (∃ m, I 0 0 H1 m) ∧ ∀ (n : Int) (t9 : Int), ∀ H2 m1, I n t9 H2 m1 → ∀ scr : Nat → 
    Value, (((decide (t9 < (y.n : Int))) = true → IxA y.a y.n t9 2 fun ad => (∃ x_a : Int, ∃ x_b : Int, (hcell H2 ad = some (.int .i64 x_a) ∧ 
    hcell H2 (Addr.add ad 1) = some (.int .u64 x_b) ∧ True) ∧ ∀ bB H3, Newb H2 (.cells #[.int .i64 0, .int .u64 0] 70) bB H3 → 
    StL ⟨bB, 0, none⟩ 0 [.int .i64 x_a, .int .u64 x_b] H3 fun H4 => (∃ x : Int, hcell H4 ⟨bB, 1, none⟩ = some (.int .u64 x) ∧ 
    CallF Tryd.prog 40 #[.int .u64 x] H4 (fun r1 H5 => ∃ y1 : Int, r1 = .int .i64 y1 ∧ (∃ m2, m2 < m1 ∧ 
    I (w64 (n + y1)) (w64 (t9 + 1)) H5 m2)) Z))) ∧ ((decide (t9 < (y.n : Int))) = false → K (.int .i64 n) H2))) Z
def aJ13 : Ann := (fun _ => none)
def aL13 : Ann := (fun k => if k = 3 then some [(3, (.sc (.int .i64))), (9, (.sc (.int .i64)))] else none)
theorem V13_ok {H : Hp} {s : Addr} {K : Value → Hp → Prop} {Z : List PanicEntry → Hp → Prop} (h : V13 H s K Z) : CallF Tryd.prog 13 #[.pointer (some s)] H K Z :=
  fnC_sound (P := Tryd.prog) (aJ := aJ13) (aL := aL13) (f := 13) (args := [.pointer (some s)]) (Eq.mp (by kernel_rfl) h)
/-- (*weft/bits.Set).Blocks -/
def V14 (H : Hp) (s : Addr) (K : Value → Hp → Prop) (Z : List PanicEntry → Hp → Prop) : Prop :=
  CallF Tryd.prog 39 #[.pointer (some s)] H (fun r H1 => ∃ y : Sl, r = .slice y.a y.n y.c ∧ K (.int .i64 (y.n : Int)) H1) Z
def aJ14 : Ann := (fun _ => none)
def aL14 : Ann := (fun _ => none)
theorem V14_ok {H : Hp} {s : Addr} {K : Value → Hp → Prop} {Z : List PanicEntry → Hp → Prop} (h : V14 H s K Z) : CallF Tryd.prog 14 #[.pointer (some s)] H K Z :=
  fnC_sound (P := Tryd.prog) (aJ := aJ14) (aL := aL14) (f := 14) (args := [.pointer (some s)]) (Eq.mp (by kernel_rfl) h)
/-- (weft/weftref04.Set).Blocks -/
def V15 (H : Hp) (s : Sl) (K : Value → Hp → Prop) (Z : List PanicEntry → Hp → Prop) : Prop :=
  ∃ I : Int → Int → Hp → Nat → Prop, (∃ m, I 0 0 H m) ∧ ∀ (n : Int) (i : Int), ∀ H1 m1, I n i H1 m1 → 
    ∀ scr : Nat → Value, (((decide (i < (s.n : Int))) = true → (((i == 0) = true → (∃ m2, m2 < m1 ∧ I (w64 (n + 1)) (w64 (i + 1)) H1 m2)) ∧ 
    ((i == 0) = false → IxA s.a s.n i 1 fun ad => (∃ x : Int, hcell H1 ad = some (.int .i64 x) ∧ IxA s.a s.n (w64 (i - 1)) 1 fun ad1 => 
    (∃ x1 : Int, hcell H1 ad1 = some (.int .i64 x1) ∧ ((((w64 (Int.tdiv x 64)) != (w64 (Int.tdiv x1 64))) = true → 
    (∃ m2, m2 < m1 ∧ I (w64 (n + 1)) (w64 (i + 1)) H1 m2)) ∧ (((w64 (Int.tdiv x 64)) != (w64 (Int.tdiv x1 64))) = false → 
    (∃ m2, m2 < m1 ∧ I n (w64 (i + 1)) H1 m2)))))))) ∧ ((decide (i < (s.n : Int))) = false → K (.int .i64 n) H1))
def aJ15 : Ann := (fun _ => none)
def aL15 : Ann := (fun k => if k = 3 then some [(3, (.sc (.int .i64))), (4, (.sc (.int .i64)))] else none)
theorem V15_ok {H : Hp} {s : Sl} {K : Value → Hp → Prop} {Z : List PanicEntry → Hp → Prop} (h : V15 H s K Z) : CallF Tryd.prog 15 #[.slice s.a s.n s.c] H K Z :=
  fnC_sound (P := Tryd.prog) (aJ := aJ15) (aL := aL15) (f := 15) (args := [.slice s.a s.n s.c]) (Eq.mp (by kernel_rfl) h)
/-- (*weft/bits.Set).Same -/
def V16 (H : Hp) (s : Addr) (t : Addr) (K : Value → Hp → Prop) (Z : List PanicEntry → Hp → Prop) : Prop :=
  CallF Tryd.prog 39 #[.pointer (some s)] H (fun r H1 => ∃ y : Sl, r = .slice y.a y.n y.c ∧ CallF Tryd.prog 39 #[.pointer (some t)] H1 (fun r1 H2 => 
    ∃ y1 : Sl, r1 = .slice y1.a y1.n y1.c ∧ CallF Tryd.prog 41 #[.slice y.a y.n y.c, .slice y1.a y1.n y1.c] H2 (fun r2 H3 => 
    ∃ y2 : Bool, r2 = .bool y2 ∧ K (.bool y2) H3) Z) Z) Z
def aJ16 : Ann := (fun _ => none)
def aL16 : Ann := (fun _ => none)
theorem V16_ok {H : Hp} {s : Addr} {t : Addr} {K : Value → Hp → Prop} {Z : List PanicEntry → Hp → Prop} (h : V16 H s t K Z) : CallF Tryd.prog 16 #[.pointer (some s), .pointer (some t)] H K Z :=
  fnC_sound (P := Tryd.prog) (aJ := aJ16) (aL := aL16) (f := 16) (args := [.pointer (some s), .pointer (some t)]) (Eq.mp (by kernel_rfl) h)
/-- (weft/weftref04.Set).Same -/
def V17 (H : Hp) (s : Sl) (t : Sl) (K : Value → Hp → Prop) (Z : List PanicEntry → Hp → Prop) : Prop :=
  ((((s.n : Int) != (t.n : Int)) = true → K (.bool false) H) ∧ (((s.n : Int) != (t.n : Int)) = false → 
    ∃ I : Int → Hp → Nat → Prop, (∃ m, I 0 H m) ∧ ∀ (i : Int), ∀ H1 m1, I i H1 m1 → ∀ scr : Nat → Value, (((decide (i < (s.n : Int))) = true → 
    (((decide (i < (t.n : Int))) = true → IxA s.a s.n i 1 fun ad => (∃ x : Int, hcell H1 ad = some (.int .i64 x) ∧ 
    IxA t.a t.n i 1 fun ad1 => (∃ x1 : Int, hcell H1 ad1 = some (.int .i64 x1) ∧ (((x != x1) = true → 
    K (.bool false) H1) ∧ ((x != x1) = false → (∃ m2, m2 < m1 ∧ I (w64 (i + 1)) H1 m2)))))) ∧ ((decide (i < (t.n : Int))) = false → 
    K (.bool true) H1))) ∧ ((decide (i < (s.n : Int))) = false → K (.bool true) H1))))
def aJ17 : Ann := (fun _ => none)
def aL17 : Ann := (fun k => if k = 4 then some [(5, (.sc (.int .i64)))] else none)
theorem V17_ok {H : Hp} {s : Sl} {t : Sl} {K : Value → Hp → Prop} {Z : List PanicEntry → Hp → Prop} (h : V17 H s t K Z) : CallF Tryd.prog 17 #[.slice s.a s.n s.c, .slice t.a t.n t.c] H K Z :=
  fnC_sound (P := Tryd.prog) (aJ := aJ17) (aL := aL17) (f := 17) (args := [.slice s.a s.n s.c, .slice t.a t.n t.c]) (Eq.mp (by kernel_rfl) h)
/-- weft/weftlaw04.List -/
def V18 (H : Hp) (s : Addr) (K : Value → Hp → Prop) (Z : List PanicEntry → Hp → Prop) : Prop :=
  ∀ bL H1, Newb H (.cells #[.slice none 0 0] 28) bL H1 → CallF Tryd.prog 23 #[.pointer (some s)] H1 (fun r H2 => 
    ∃ y : Value, r = y ∧ callV Tryd.prog y [.func (.func 42) #[] #[.pointer (some ⟨bL, 0, none⟩)]] H2 (fun r1 H3 => 
    r1 = .tuple #[] ∧ ∃ x : Sl, hcell H3 ⟨bL, 0, none⟩ = some (.slice x.a x.n x.c) ∧ K (.slice x.a x.n x.c) H3) Z) Z
def aJ18 : Ann := (fun _ => none)
def aL18 : Ann := (fun _ => none)
theorem V18_ok {H : Hp} {s : Addr} {K : Value → Hp → Prop} {Z : List PanicEntry → Hp → Prop} (h : V18 H s K Z) : CallF Tryd.prog 18 #[.pointer (some s)] H K Z :=
  fnC_sound (P := Tryd.prog) (aJ := aJ18) (aL := aL18) (f := 18) (args := [.pointer (some s)]) (Eq.mp (by kernel_rfl) h)
/-- weft/weftlaw04.works -/
def V19 (H : Hp)  (K : Value → Hp → Prop) (Z : List PanicEntry → Hp → Prop) : Prop :=
  ∀ b H1, Newb H (.cells #[.int .i64 3, .int .i64 70, .int .i64 3] 3) b H1 → CallF Tryd.prog 20 #[.slice (some ⟨b, 0, none⟩) 3 3] H1 (fun r H2 => 
    ∃ y : Option Addr, r = .pointer y ∧ ∀ b1 H3, Newb H2 (.cells #[.int .i64 1, .int .i64 2] 3) b1 H3 → 
    CallF Tryd.prog 20 #[.slice (some ⟨b1, 0, none⟩) 2 2] H3 (fun r1 H4 => ∃ y1 : Option Addr, r1 = .pointer y1 ∧ 
    CallF Tryd.prog 13 #[.pointer y] H4 (fun r2 H5 => ∃ y2 : Int, r2 = .int .i64 y2 ∧ (((y2 == 2) = true → 
    CallF Tryd.prog 14 #[.pointer y] H5 (fun r3 H6 => ∃ y3 : Int, r3 = .int .i64 y3 ∧ (((y3 == 2) = true → 
    ∀ b2 H7, Newb H6 (.cells #[.int .i64 2, .int .i64 3] 3) b2 H7 → CallF Tryd.prog 20 #[.slice (some ⟨b2, 0, none⟩) 2 2] H7 (fun r4 H8 => 
    ∃ y4 : Option Addr, r4 = .pointer y4 ∧ CallF Tryd.prog 9 #[.pointer y1, .pointer y4] H8 (fun r5 H9 => 
    ∃ y5 : Int, r5 = .int .i64 y5 ∧ K (.bool (y5 == 1)) H9) Z) Z) ∧ ((y3 == 2) = false → K (.bool false) H6))) Z) ∧ 
    ((y2 == 2) = false → K (.bool false) H5))) Z) Z) Z
def aJ19 : Ann := (fun _ => none)
def aL19 : Ann := (fun _ => none)
theorem V19_ok {H : Hp}  {K : Value → Hp → Prop} {Z : List PanicEntry → Hp → Prop} (h : V19 H  K Z) : CallF Tryd.prog 19 #[] H K Z :=
  fnC_sound (P := Tryd.prog) (aJ := aJ19) (aL := aL19) (f := 19) (args := []) (Eq.mp (by kernel_rfl) h)
/-- weft/bits.Of -/
def V20 (H : Hp) (l : Sl) (K : Value → Hp → Prop) (Z : List PanicEntry → Hp → Prop) : Prop :=
  ∀ b H1, Newb H (.cells #[.slice none 0 0] 26) b H1 → ∃ I : Int → Hp → Nat → Prop, (∃ m, I 0 H1 m) ∧ 
    ∀ (t10 : Int), ∀ H2 m1, I t10 H2 m1 → ∀ scr : Nat → Value, (((decide (t10 < (l.n : Int))) = true → 
    IxA l.a l.n t10 1 fun ad => (∃ x : Int, hcell H2 ad = some (.int .i64 x) ∧ CallF Tryd.prog 7 #[.pointer (some ⟨b, 0, none⟩), .int .i64 x] H2 (fun r H3 => 
    ∃ y : Bool, r = .bool y ∧ (∃ m2, m2 < m1 ∧ I (w64 (t10 + 1)) H3 m2)) Z)) ∧ ((decide (t10 < (l.n : Int))) = false → 
    K (.pointer (some ⟨b, 0, none⟩)) H2))
def aJ20 : Ann := (fun _ => none)
def aL20 : Ann := (fun k => if k = 3 then some [(10, (.sc (.int .i64)))] else none)
theorem V20_ok {H : Hp} {l : Sl} {K : Value → Hp → Prop} {Z : List PanicEntry → Hp → Prop} (h : V20 H l K Z) : CallF Tryd.prog 20 #[.slice l.a l.n l.c] H K Z :=
  fnC_sound (P := Tryd.prog) (aJ := aJ20) (aL := aL20) (f := 20) (args := [.slice l.a l.n l.c]) (Eq.mp (by kernel_rfl) h)
/-- (*weft/bits.Set).Less -/
def V21 (H : Hp) (s : Addr) (t : Addr) (K : Value → Hp → Prop) (Z : List PanicEntry → Hp → Prop) : Prop :=
  CallF Tryd.prog 37 #[.pointer (some s), .pointer (some t), .func (.func 43) #[] #[]] H (fun r H1 => 
    ∃ y : Option Addr, r = .pointer y ∧ K (.pointer y) H1) Z
def aJ21 : Ann := (fun _ => none)
def aL21 : Ann := (fun _ => none)
theorem V21_ok {H : Hp} {s : Addr} {t : Addr} {K : Value → Hp → Prop} {Z : List PanicEntry → Hp → Prop} (h : V21 H s t K Z) : CallF Tryd.prog 21 #[.pointer (some s), .pointer (some t)] H K Z :=
  fnC_sound (P := Tryd.prog) (aJ := aJ21) (aL := aL21) (f := 21) (args := [.pointer (some s), .pointer (some t)]) (Eq.mp (by kernel_rfl) h)
/-- (*weft/bits.Set).Both -/
def V22 (H : Hp) (s : Addr) (t : Addr) (K : Value → Hp → Prop) (Z : List PanicEntry → Hp → Prop) : Prop :=
  CallF Tryd.prog 37 #[.pointer (some s), .pointer (some t), .func (.func 44) #[] #[]] H (fun r H1 => 
    ∃ y : Option Addr, r = .pointer y ∧ K (.pointer y) H1) Z
def aJ22 : Ann := (fun _ => none)
def aL22 : Ann := (fun _ => none)
theorem V22_ok {H : Hp} {s : Addr} {t : Addr} {K : Value → Hp → Prop} {Z : List PanicEntry → Hp → Prop} (h : V22 H s t K Z) : CallF Tryd.prog 22 #[.pointer (some s), .pointer (some t)] H K Z :=
  fnC_sound (P := Tryd.prog) (aJ := aJ22) (aL := aL22) (f := 22) (args := [.pointer (some s), .pointer (some t)]) (Eq.mp (by kernel_rfl) h)
/-- (*weft/bits.Set).Each -/
def V23 (H : Hp) (s : Addr) (K : Value → Hp → Prop) (Z : List PanicEntry → Hp → Prop) : Prop :=
  ∀ bS H1, Newb H (.cells #[.pointer (some s)] 23) bS H1 → K (.func (.func 45) #[] #[.pointer (some ⟨bS, 0, none⟩)]) H1
def aJ23 : Ann := (fun _ => none)
def aL23 : Ann := (fun _ => none)
theorem V23_ok {H : Hp} {s : Addr} {K : Value → Hp → Prop} {Z : List PanicEntry → Hp → Prop} (h : V23 H s K Z) : CallF Tryd.prog 23 #[.pointer (some s)] H K Z :=
  fnC_sound (P := Tryd.prog) (aJ := aJ23) (aL := aL23) (f := 23) (args := [.pointer (some s)]) (Eq.mp (by kernel_rfl) h)
/-- weft/weftlaw04.BitsJoins$1 -/
def V24 (H : Hp) (t0 : Int) (cap0 : Addr) (cap1 : Addr) (K : Value → Hp → Prop) (Z : List PanicEntry → Hp → Prop) : Prop :=
  ∃ x : Int, hcell H cap0 = some (.int .i64 x) ∧ StL cap0 0 [.int .i64 (w64 (x + 1))] H fun H1 => (∃ x1 : Int, hcell H1 cap0 = some (.int .i64 x1) ∧ 
    ∃ x2 : Int, hcell H1 cap1 = some (.int .i64 x2) ∧ K (.bool (decide (x1 ≤ x2))) H1)
def aJ24 : Ann := (fun _ => none)
def aL24 : Ann := (fun _ => none)
theorem V24_ok {H : Hp} {t0 : Int} {cap0 : Addr} {cap1 : Addr} {K : Value → Hp → Prop} {Z : List PanicEntry → Hp → Prop} (h : V24 H t0 cap0 cap1 K Z) : CallF Tryd.prog 24 #[.int .i64 t0, .pointer (some cap0), .pointer (some cap1)] H K Z :=
  fnC_sound (P := Tryd.prog) (aJ := aJ24) (aL := aL24) (f := 24) (args := [.int .i64 t0, .pointer (some cap0), .pointer (some cap1)]) (Eq.mp (by kernel_rfl) h)
/-- (*weft/bits.Set).find -/
def V35 (H : Hp) (s : Addr) (t1 : Int) (K : Value → Hp → Prop) (Z : List PanicEntry → Hp → Prop) : Prop :=
  ∃ x : Sl, hcell H s = some (.slice x.a x.n x.c) ∧ CallF Tryd.prog 63 #[.slice x.a x.n x.c, .int .i64 t1, .func (.func 64) #[] #[]] H (fun r H1 => 
    ∃ y_0 : Int, ∃ y_1 : Bool, r = .tuple #[.int .i64 y_0, .bool y_1] ∧ K (.tuple #[.int .i64 y_0, .bool y_1]) H1) Z
def aJ35 : Ann := (fun _ => none)
def aL35 : Ann := (fun _ => none)
theorem V35_ok {H : Hp} {s : Addr} {t1 : Int} {K : Value → Hp → Prop} {Z : List PanicEntry → Hp → Prop} (h : V35 H s t1 K Z) : CallF Tryd.prog 35 #[.pointer (some s), .int .i64 t1] H K Z :=
  fnC_sound (P := Tryd.prog) (aJ := aJ35) (aL := aL35) (f := 35) (args := [.pointer (some s), .int .i64 t1]) (Eq.mp (by kernel_rfl) h)
/-- slices.Insert[[]weft/bits.block,weft/bits.block] -/
def V36 (H : Hp) (s : Sl) (i : Int) (v : Sl) (K : Value → Hp → Prop) (Z : List PanicEntry → Hp → Prop) : Prop :=
  (s.n ≤ s.c ∧ SlX s.a s.c i (s.n : Int) 2 fun cut => ((((v.n : Int) == 0) = true → K (.slice s.a s.n s.c) H) ∧ 
    (((v.n : Int) == 0) = false → (((i == (s.n : Int)) = true → App Tryd.prog #[24, 24] 24 H [.slice s.a s.n s.c, .slice v.a v.n v.c] fun ap H1 => 
    (K (.slice ap.a ap.n ap.c) H1)) ∧ ((i == (s.n : Int)) = false → (((decide ((w64 ((s.n : Int) + (v.n : Int))) > (s.c : Int))) = true → 
    (s.n ≤ s.c ∧ SlX s.a s.c 0 i 2 fun cut1 => (App Tryd.prog #[24, 3] 24 H [.slice cut1.a cut1.n cut1.c, .int .i64 (w64 ((w64 ((s.n : Int) + (v.n : Int))) - i))] fun ap1 H2 => 
    (ap1.n ≤ ap1.c ∧ SlX ap1.a ap1.c i (ap1.n : Int) 2 fun cut2 => (Cpy Tryd.prog #[24, 24] 3 H2 [.slice cut2.a cut2.n cut2.c, .slice v.a v.n v.c] fun cp H3 => 
    (ap1.n ≤ ap1.c ∧ SlX ap1.a ap1.c (w64 (i + (v.n : Int))) (ap1.n : Int) 2 fun cut3 => (s.n ≤ s.c ∧ 
    SlX s.a s.c i (s.n : Int) 2 fun cut4 => (Cpy Tryd.prog #[24, 24] 3 H3 [.slice cut3.a cut3.n cut3.c, .slice cut4.a cut4.n cut4.c] fun cp1 H4 => 
    (K (.slice ap1.a ap1.n ap1.c) H4))))))))) ∧ ((decide ((w64 ((s.n : Int) + (v.n : Int))) > (s.c : Int))) = false → 
    (s.n ≤ s.c ∧ SlX s.a s.c 0 (w64 ((s.n : Int) + (v.n : Int))) 2 fun cut5 => (cut5.n ≤ cut5.c ∧ SlX cut5.a cut5.c (w64 (i + (v.n : Int))) (cut5.n : Int) 2 fun cut6 => 
    (ExtF Tryd.prog 65 [.slice v.a v.n v.c, .slice cut6.a cut6.n cut6.c] H fun r H5 => ∃ y : Bool, r = .bool y ∧ 
    (((!y) = true → (cut5.n ≤ cut5.c ∧ SlX cut5.a cut5.c (w64 (i + (v.n : Int))) (cut5.n : Int) 2 fun cut7 => 
    (cut5.n ≤ cut5.c ∧ SlX cut5.a cut5.c i (cut5.n : Int) 2 fun cut8 => (Cpy Tryd.prog #[24, 24] 3 H5 [.slice cut7.a cut7.n cut7.c, .slice cut8.a cut8.n cut8.c] fun cp2 H6 => 
    (cut5.n ≤ cut5.c ∧ SlX cut5.a cut5.c i (cut5.n : Int) 2 fun cut9 => (Cpy Tryd.prog #[24, 24] 3 H6 [.slice cut9.a cut9.n cut9.c, .slice v.a v.n v.c] fun cp3 H7 => 
    (K (.slice cut5.a cut5.n cut5.c) H7))))))) ∧ ((!y) = false → (cut5.n ≤ cut5.c ∧ SlX cut5.a cut5.c (s.n : Int) (cut5.n : Int) 2 fun cut10 => 
    (Cpy Tryd.prog #[24, 24] 3 H5 [.slice cut10.a cut10.n cut10.c, .slice v.a v.n v.c] fun cp4 H8 => 
    (cut5.n ≤ cut5.c ∧ SlX cut5.a cut5.c i (cut5.n : Int) 2 fun cut11 => (CallF Tryd.prog 66 #[.slice cut11.a cut11.n cut11.c, .int .i64 (v.n : Int)] H8 (fun r1 H9 => 
    r1 = .tuple #[] ∧ K (.slice cut5.a cut5.n cut5.c) H9) Z))))))))))))))))
def aJ36 : Ann := (fun _ => none)
def aL36 : Ann := (fun _ => none)
theorem V36_ok {H : Hp} {s : Sl} {i : Int} {v : Sl} {K : Value → Hp → Prop} {Z : List PanicEntry → Hp → Prop} (h : V36 H s i v K Z) : CallF Tryd.prog 36 #[.slice s.a s.n s.c, .int .i64 i, .slice v.a v.n v.c] H K Z :=
  fnC_sound (P := Tryd.prog) (aJ := aJ36) (aL := aL36) (f := 36) (args := [.slice s.a s.n s.c, .int .i64 i, .slice v.a v.n v.c]) (Eq.mp (by kernel_rfl) h)
/-- weft/bits.made -/
def V37 (H : Hp) (s : Addr) (t : Addr) (of : Value) (K : Value → Hp → Prop) (Z : List PanicEntry → Hp → Prop) : Prop :=
  ∀ bOf H1, Newb H (.cells (Value.cells of) 72) bOf H1 → ∀ b H2, Newb H1 (.cells #[.slice none 0 0] 26) b H2 → 
    ∀ bOut H3, Newb H2 (.cells #[.pointer none] 23) bOut H3 → StL ⟨bOut, 0, none⟩ 0 [.pointer (some ⟨b, 0, none⟩)] H3 fun H4 => 
    (CallF Tryd.prog 39 #[.pointer (some s)] H4 (fun r H5 => ∃ y : Sl, r = .slice y.a y.n y.c ∧ CallF Tryd.prog 39 #[.pointer (some t)] H5 (fun r1 H6 => 
    ∃ y1 : Sl, r1 = .slice y1.a y1.n y1.c ∧ CallF Tryd.prog 67 #[.slice y.a y.n y.c, .slice y1.a y1.n y1.c] H6 (fun r2 H7 => 
    ∃ y2 : Value, r2 = y2 ∧ ∀ D H8, Newb H7 (.deferred (some [])) D H8 → ∀ l H9, Newb H8 (.loop (lrec Tryd.f37 37 3 [.pointer (some s), .pointer (some t), of, undef, undef, .pointer (some ⟨bOf, 0, none⟩), .pointer none, .pointer (some ⟨bOut, 0, none⟩), undef, undef, undef, .agg #[.slice none 0 0], .pointer (some ⟨b, 0, none⟩), .pointer (some s), .slice y.a y.n y.c, .pointer (some t), .slice y1.a y1.n y1.c, y2, undef, undef, undef, undef, undef, undef, undef, undef, undef, undef, undef, undef, undef, undef, undef, undef, undef, undef, undef, undef, undef, undef, undef, undef] D)) l H9 → 
    callG Tryd.prog y2 [.func (.yield l) #[] #[]] H9 (fun _ H10 => endLoopK l H10 fun j H11 => jmpV j (∃ x : Option Addr, hcell H11 ⟨bOut, 0, none⟩ = some (.pointer x) ∧ 
    (H11[D]? = some (.deferred (some [])) ∧ ∀ H12, H12 = H11.setIfInBounds D (.deferred none) → K (.pointer x) H12)) (False) fun id => 
    False) (fun _ _ => False)) Z) Z) Z)
def aJ37 : Ann := (fun k => if k = 2000007 then some [] else none)
def aL37 : Ann := (fun _ => none)
theorem V37_ok {H : Hp} {s : Addr} {t : Addr} {of : Value} {K : Value → Hp → Prop} {Z : List PanicEntry → Hp → Prop} (h : V37 H s t of K Z) : CallF Tryd.prog 37 #[.pointer (some s), .pointer (some t), of] H K Z :=
  fnC_sound (P := Tryd.prog) (aJ := aJ37) (aL := aL37) (f := 37) (args := [.pointer (some s), .pointer (some t), of]) (Eq.mp (by kernel_rfl) h)
/-- a round of the loop over a function, number 3, in weft/bits.made -/
def R37_3 (H13 : Hp) (bOf : Nat) (bOut : Nat) (l1 : Nat) (y18_a : Int) (y18_b : Int) (y19_a : Int) (y19_b : Int) (K : Value → Hp → Prop) : Prop :=
  ∀ bX H14, Newb H13 (.cells #[.int .i64 0, .int .u64 0] 70) bX H14 → StL ⟨bX, 0, none⟩ 0 [.int .i64 y18_a, .int .u64 y18_b] H14 fun H15 => 
    (∀ bY H16, Newb H15 (.cells #[.int .i64 0, .int .u64 0] 70) bY H16 → StL ⟨bY, 0, none⟩ 0 [.int .i64 y19_a, .int .u64 y19_b] H16 fun H17 => 
    (∃ r3, H17[l1]? = some (.loop r3) ∧ r3.state = .ready ∧ ∀ H18, H18 = H17.setIfInBounds l1 (.loop { r3 with state := .busy }) → 
    ∃ x1 : Value, hcell H18 ⟨bOf, 0, none⟩ = some (x1) ∧ ∃ x2 : Int, hcell H18 ⟨bX, 1, none⟩ = some (.int .u64 x2) ∧ 
    ∃ x3 : Int, hcell H18 ⟨bY, 1, none⟩ = some (.int .u64 x3) ∧ callV Tryd.prog x1 [.int .u64 x2, .int .u64 x3] H18 (fun r4 H19 => 
    ∃ y3 : Int, r4 = .int .u64 y3 ∧ (((y3 != 0) = true → ∃ x4 : Option Addr, hcell H19 ⟨bOut, 0, none⟩ = some (.pointer x4) ∧ 
    ∃ x5 : Option Addr, hcell H19 ⟨bOut, 0, none⟩ = some (.pointer x5) ∧ nilck x5 fun ad => (∃ x6 : Sl, hcell H19 ad = some (.slice x6.a x6.n x6.c) ∧ 
    ∃ x7 : Int, hcell H19 ⟨bX, 0, none⟩ = some (.int .i64 x7) ∧ (hcell H19 ad = some (.slice x6.a x6.n x6.c) ∧ 
    (hcell H19 ⟨bOut, 0, none⟩ = some (.pointer x5) ∧ (hcell H19 ⟨bOut, 0, none⟩ = some (.pointer x4) ∧ 
    ∀ b1 H20, Newb H19 (.cells #[.int .i64 x7, .int .u64 y3] 70) b1 H20 → (hcell H20 ad = some (.slice x6.a x6.n x6.c) ∧ 
    (hcell H20 ⟨bOut, 0, none⟩ = some (.pointer x5) ∧ (hcell H20 ⟨bOut, 0, none⟩ = some (.pointer x4) ∧ 
    App Tryd.prog #[24, 24] 24 H20 [.slice x6.a x6.n x6.c, .slice (some ⟨b1, 0, none⟩) 1 1] fun ap H21 => 
    (hcell H21 ⟨bOut, 0, none⟩ = some (.pointer x4) ∧ nilck x4 fun ad1 => (StL ad1 0 [.slice ap.a ap.n ap.c] H21 fun H22 => 
    (endR l1 none H22 K))))))))))) ∧ ((y3 != 0) = false → endR l1 none H19 K))) (fun _ _ => False)))
theorem R37_3_ok {H13 : Hp} {bOf : Nat} {bOut : Nat} {l1 : Nat} {y18_a : Int} {y18_b : Int} {y19_a : Int} {y19_b : Int} {u0 u1 u2 u3 u4 u6 u8 u9 u10 u11 u12 u13 u14 u15 u16 u17 u18 u19 u20 u21 u22 u23 u24 u25 u26 u27 u28 u29 u30 u31 u32 u33 u34 u35 u36 u37 u38 u39 u40 u41 : Value} {K : Value → Hp → Prop} (h : R37_3 H13 bOf bOut l1 y18_a y18_b y19_a y19_b K) : yldC Tryd.prog aJ37 aL37 Tryd.f37 37 3 l1 [u0, u1, u2, u3, u4, .pointer (some ⟨bOf, 0, none⟩), u6, .pointer (some ⟨bOut, 0, none⟩), u8, u9, u10, u11, u12, u13, u14, u15, u16, u17, u18, u19, u20, u21, u22, u23, u24, u25, u26, u27, u28, u29, u30, u31, u32, u33, u34, u35, u36, u37, u38, u39, u40, u41] [.agg #[.int .i64 y18_a, .int .u64 y18_b], .agg #[.int .i64 y19_a, .int .u64 y19_b]] H13 K := Eq.mp (by kernel_rfl) h
/-- (*weft/bits.Set).Join$1 -/
def V38 (H : Hp) (x : Int) (y : Int) (K : Value → Hp → Prop) (Z : List PanicEntry → Hp → Prop) : Prop :=
  K (.int .u64 (bitOr .u64 x y)) H
def aJ38 : Ann := (fun _ => none)
def aL38 : Ann := (fun _ => none)
theorem V38_ok {H : Hp} {x : Int} {y : Int} {K : Value → Hp → Prop} {Z : List PanicEntry → Hp → Prop} (h : V38 H x y K Z) : CallF Tryd.prog 38 #[.int .u64 x, .int .u64 y] H K Z :=
  fnC_sound (P := Tryd.prog) (aJ := aJ38) (aL := aL38) (f := 38) (args := [.int .u64 x, .int .u64 y]) (Eq.mp (by kernel_rfl) h)
/-- (*weft/bits.Set).list -/
def V39 (H : Hp) (s : Option Addr) (K : Value → Hp → Prop) (Z : List PanicEntry → Hp → Prop) : Prop :=
  (((Option.isNone s) = true → K (.slice none 0 0) H) ∧ ((Option.isNone s) = false → nilck s fun ad => 
    (∃ x : Sl, hcell H ad = some (.slice x.a x.n x.c) ∧ K (.slice x.a x.n x.c) H)))
def aJ39 : Ann := (fun _ => none)
def aL39 : Ann := (fun _ => none)
theorem V39_ok {H : Hp} {s : Option Addr} {K : Value → Hp → Prop} {Z : List PanicEntry → Hp → Prop} (h : V39 H s K Z) : CallF Tryd.prog 39 #[.pointer s] H K Z :=
  fnC_sound (P := Tryd.prog) (aJ := aJ39) (aL := aL39) (f := 39) (args := [.pointer s]) (Eq.mp (by kernel_rfl) h)
/-- slices.Equal[[]weft/bits.block,weft/bits.block] -/
def V41 (H : Hp) (s1 : Sl) (s2 : Sl) (K : Value → Hp → Prop) (Z : List PanicEntry → Hp → Prop) : Prop :=
  ((((s1.n : Int) != (s2.n : Int)) = true → K (.bool false) H) ∧ (((s1.n : Int) != (s2.n : Int)) = false → 
    ∃ I : Int → Hp → Nat → Prop, (∃ m, I 0 H m) ∧ ∀ (t13 : Int), ∀ H1 m1, I t13 H1 m1 → ∀ scr : Nat → 
    Value, (((decide (t13 < (s1.n : Int))) = true → IxA s1.a s1.n t13 2 fun ad => (∃ x_a : Int, ∃ x_b : Int, (hcell H1 ad = some (.int .i64 x_a) ∧ 
    hcell H1 (Addr.add ad 1) = some (.int .u64 x_b) ∧ True) ∧ IxA s2.a s2.n t13 2 fun ad1 => (∃ x_a1 : Int, ∃ x_b1 : Int, (hcell H1 ad1 = some (.int .i64 x_a1) ∧ 
    hcell H1 (Addr.add ad1 1) = some (.int .u64 x_b1) ∧ True) ∧ (((!((x_a == x_a1) && ((x_b == x_b1) && true))) = true → 
    K (.bool false) H1) ∧ ((!((x_a == x_a1) && ((x_b == x_b1) && true))) = false → (∃ m2, m2 < m1 ∧ I (w64 (t13 + 1)) H1 m2)))))) ∧ 
    ((decide (t13 < (s1.n : Int))) = false → K (.bool true) H1))))
def aJ41 : Ann := (fun _ => none)
def aL41 : Ann := (fun k => if k = 4 then some [(13, (.sc (.int .i64)))] else none)
theorem V41_ok {H : Hp} {s1 : Sl} {s2 : Sl} {K : Value → Hp → Prop} {Z : List PanicEntry → Hp → Prop} (h : V41 H s1 s2 K Z) : CallF Tryd.prog 41 #[.slice s1.a s1.n s1.c, .slice s2.a s2.n s2.c] H K Z :=
  fnC_sound (P := Tryd.prog) (aJ := aJ41) (aL := aL41) (f := 41) (args := [.slice s1.a s1.n s1.c, .slice s2.a s2.n s2.c]) (Eq.mp (by kernel_rfl) h)
/-- weft/weftlaw04.List$1 -/
def V42 (H : Hp) (n : Int) (cap0 : Addr) (K : Value → Hp → Prop) (Z : List PanicEntry → Hp → Prop) : Prop :=
  ∃ x : Sl, hcell H cap0 = some (.slice x.a x.n x.c) ∧ ∀ b H1, Newb H (.cells #[.int .i64 n] 3) b H1 → 
    App Tryd.prog #[28, 28] 28 H1 [.slice x.a x.n x.c, .slice (some ⟨b, 0, none⟩) 1 1] fun ap H2 => (StL cap0 0 [.slice ap.a ap.n ap.c] H2 fun H3 => 
    (∃ x1 : Sl, hcell H3 cap0 = some (.slice x1.a x1.n x1.c) ∧ K (.bool (decide ((x1.n : Int) < 5000))) H3))
def aJ42 : Ann := (fun _ => none)
def aL42 : Ann := (fun _ => none)
theorem V42_ok {H : Hp} {n : Int} {cap0 : Addr} {K : Value → Hp → Prop} {Z : List PanicEntry → Hp → Prop} (h : V42 H n cap0 K Z) : CallF Tryd.prog 42 #[.int .i64 n, .pointer (some cap0)] H K Z :=
  fnC_sound (P := Tryd.prog) (aJ := aJ42) (aL := aL42) (f := 42) (args := [.int .i64 n, .pointer (some cap0)]) (Eq.mp (by kernel_rfl) h)
/-- (*weft/bits.Set).Less$1 -/
def V43 (H : Hp) (x : Int) (y : Int) (K : Value → Hp → Prop) (Z : List PanicEntry → Hp → Prop) : Prop :=
  K (.int .u64 (bitAndNot .u64 x y)) H
def aJ43 : Ann := (fun _ => none)
def aL43 : Ann := (fun _ => none)
theorem V43_ok {H : Hp} {x : Int} {y : Int} {K : Value → Hp → Prop} {Z : List PanicEntry → Hp → Prop} (h : V43 H x y K Z) : CallF Tryd.prog 43 #[.int .u64 x, .int .u64 y] H K Z :=
  fnC_sound (P := Tryd.prog) (aJ := aJ43) (aL := aL43) (f := 43) (args := [.int .u64 x, .int .u64 y]) (Eq.mp (by kernel_rfl) h)
/-- (*weft/bits.Set).Both$1 -/
def V44 (H : Hp) (x : Int) (y : Int) (K : Value → Hp → Prop) (Z : List PanicEntry → Hp → Prop) : Prop :=
  K (.int .u64 (bitAnd .u64 x y)) H
def aJ44 : Ann := (fun _ => none)
def aL44 : Ann := (fun _ => none)
theorem V44_ok {H : Hp} {x : Int} {y : Int} {K : Value → Hp → Prop} {Z : List PanicEntry → Hp → Prop} (h : V44 H x y K Z) : CallF Tryd.prog 44 #[.int .u64 x, .int .u64 y] H K Z :=
  fnC_sound (P := Tryd.prog) (aJ := aJ44) (aL := aL44) (f := 44) (args := [.int .u64 x, .int .u64 y]) (Eq.mp (by kernel_rfl) h)
/-- (*weft/bits.Set).Each$1 -/
def V45 (H : Hp) (yield : Value) (cap0 : Addr) (K : Value → Hp → Prop) (Z : List PanicEntry → Hp → Prop) : Prop :=
  ∃ x : Option Addr, hcell H cap0 = some (.pointer x) ∧ CallF Tryd.prog 39 #[.pointer x] H (fun r H1 => 
    ∃ y : Sl, r = .slice y.a y.n y.c ∧ CallF Tryd.prog 46 #[.slice y.a y.n y.c] H1 (fun r1 H2 => ∃ y1 : Sl, r1 = .slice y1.a y1.n y1.c ∧ 
    ∃ I : Int → Hp → Nat → Prop, (∃ m, I 0 H2 m) ∧ ∀ (t9 : Int), ∀ H3 m1, I t9 H3 m1 → ∀ scr : Nat → 
    Value, (((decide (t9 < (y1.n : Int))) = true → IxA y1.a y1.n t9 2 fun ad => (∃ x_a : Int, ∃ x_b : Int, (hcell H3 ad = some (.int .i64 x_a) ∧ 
    hcell H3 (Addr.add ad 1) = some (.int .u64 x_b) ∧ True) ∧ ∀ bB H4, Newb H3 (.cells #[.int .i64 0, .int .u64 0] 70) bB H4 → 
    StL ⟨bB, 0, none⟩ 0 [.int .i64 x_a, .int .u64 x_b] H4 fun H5 => (∃ x_a1 : Int, ∃ x_b1 : Int, (hcell H5 ⟨bB, 0, none⟩ = some (.int .i64 x_a1) ∧ 
    hcell H5 ⟨bB, 1, none⟩ = some (.int .u64 x_b1) ∧ True) ∧ CallF Tryd.prog 47 #[.agg #[.int .i64 x_a1, .int .u64 x_b1], yield] H5 (fun r2 H6 => 
    ∃ y2 : Bool, r2 = .bool y2 ∧ (((!y2) = true → K (.tuple #[]) H6) ∧ ((!y2) = false → (∃ m2, m2 < m1 ∧ 
    I (w64 (t9 + 1)) H6 m2)))) Z))) ∧ ((decide (t9 < (y1.n : Int))) = false → K (.tuple #[]) H3))) Z) Z
def aJ45 : Ann := (fun _ => none)
def aL45 : Ann := (fun k => if k = 1 then some [(9, (.sc (.int .i64)))] else none)
theorem V45_ok {H : Hp} {yield : Value} {cap0 : Addr} {K : Value → Hp → Prop} {Z : List PanicEntry → Hp → Prop} (h : V45 H yield cap0 K Z) : CallF Tryd.prog 45 #[yield, .pointer (some cap0)] H K Z :=
  fnC_sound (P := Tryd.prog) (aJ := aJ45) (aL := aL45) (f := 45) (args := [yield, .pointer (some cap0)]) (Eq.mp (by kernel_rfl) h)
/-- slices.Clone[[]weft/bits.block,weft/bits.block] -/
def V46 (H : Hp) (s : Sl) (K : Value → Hp → Prop) (Z : List PanicEntry → Hp → Prop) : Prop :=
  (((Option.isNone s.a) = true → K (.slice none 0 0) H) ∧ ((Option.isNone s.a) = false → ∀ b H1, Newb H (.cells #[] 70) b H1 → 
    App Tryd.prog #[24, 24] 24 H1 [.slice (some ⟨b, 0, none⟩) 0 0, .slice s.a s.n s.c] fun ap H2 => (K (.slice ap.a ap.n ap.c) H2)))
def aJ46 : Ann := (fun _ => none)
def aL46 : Ann := (fun _ => none)
theorem V46_ok {H : Hp} {s : Sl} {K : Value → Hp → Prop} {Z : List PanicEntry → Hp → Prop} (h : V46 H s K Z) : CallF Tryd.prog 46 #[.slice s.a s.n s.c] H K Z :=
  fnC_sound (P := Tryd.prog) (aJ := aJ46) (aL := aL46) (f := 46) (args := [.slice s.a s.n s.c]) (Eq.mp (by kernel_rfl) h)
/-- (weft/bits.block).each -/
def V47 (H : Hp) (b_a : Int) (b_b : Int) (yield : Value) (K : Value → Hp → Prop) (Z : List PanicEntry → Hp → Prop) : Prop :=
  ∀ bB H1, Newb H (.cells #[.int .i64 b_a, .int .u64 b_b] 70) bB H1 → ∃ x : Int, hcell H1 ⟨bB, 1, none⟩ = some (.int .u64 x) ∧ 
    ∃ I : Int → Hp → Nat → Prop, (∃ m, I x H1 m) ∧ ∀ (left : Int), ∀ H2 m1, I left H2 m1 → ∀ scr : Nat → 
    Value, (((left != 0) = true → ∃ x1 : Int, hcell H2 ⟨bB, 0, none⟩ = some (.int .i64 x1) ∧ CallF Tryd.prog 68 #[.int .u64 left] H2 (fun r H3 => 
    ∃ y : Int, r = .int .i64 y ∧ (hcell H3 ⟨bB, 0, none⟩ = some (.int .i64 x1) ∧ callV Tryd.prog yield [.int .i64 (w64 ((w64 (x1 * 64)) + y))] H3 (fun r1 H4 => 
    ∃ y1 : Bool, r1 = .bool y1 ∧ (((!y1) = true → K (.bool false) H4) ∧ ((!y1) = false → (∃ m2, m2 < m1 ∧ 
    I (bitAnd .u64 left (IntKind.wrap .u64 (left - 1))) H4 m2)))) Z)) Z) ∧ ((left != 0) = false → K (.bool true) H2))
def aJ47 : Ann := (fun k => if k = 2000004 then some [] else none)
def aL47 : Ann := (fun k => if k = 2 then some [(5, (.sc (.int .u64)))] else none)
theorem V47_ok {H : Hp} {b_a : Int} {b_b : Int} {yield : Value} {K : Value → Hp → Prop} {Z : List PanicEntry → Hp → Prop} (h : V47 H b_a b_b yield K Z) : CallF Tryd.prog 47 #[.agg #[.int .i64 b_a, .int .u64 b_b], yield] H K Z :=
  fnC_sound (P := Tryd.prog) (aJ := aJ47) (aL := aL47) (f := 47) (args := [.agg #[.int .i64 b_a, .int .u64 b_b], yield]) (Eq.mp (by kernel_rfl) h)
/-- slices.BinarySearchFunc[[]weft/bits.block,weft/bits.block,int] -/
def V63 (H : Hp) (x : Sl) (target : Int) (cmp : Value) (K : Value → Hp → Prop) (Z : List PanicEntry → Hp → Prop) : Prop :=
  ∃ I : Int → Int → Hp → Nat → Prop, (∃ m, I 0 (x.n : Int) H m) ∧ ∀ (i : Int) (j : Int), ∀ H1 m1, I i j H1 m1 → 
    ∀ scr : Nat → Value, (((decide (i < j)) = true → IxA x.a x.n (w64 (Int.fdiv (IntKind.wrap .u64 (w64 (i + j))) (2 ^ 1))) 2 fun ad => 
    (∃ x_a : Int, ∃ x_b : Int, (hcell H1 ad = some (.int .i64 x_a) ∧ hcell H1 (Addr.add ad 1) = some (.int .u64 x_b) ∧ 
    True) ∧ callV Tryd.prog cmp [.agg #[.int .i64 x_a, .int .u64 x_b], .int .i64 target] H1 (fun r H2 => 
    ∃ y : Int, r = .int .i64 y ∧ (((decide (y < 0)) = true → (∃ m2, m2 < m1 ∧ I (w64 ((w64 (Int.fdiv (IntKind.wrap .u64 (w64 (i + j))) (2 ^ 1))) + 1)) j H2 m2)) ∧ 
    ((decide (y < 0)) = false → (∃ m2, m2 < m1 ∧ I i (w64 (Int.fdiv (IntKind.wrap .u64 (w64 (i + j))) (2 ^ 1))) H2 m2)))) Z)) ∧ 
    ((decide (i < j)) = false → (((decide (i < (x.n : Int))) = true → IxA x.a x.n i 2 fun ad1 => (∃ x_a1 : Int, ∃ x_b1 : Int, (hcell H1 ad1 = some (.int .i64 x_a1) ∧ 
    hcell H1 (Addr.add ad1 1) = some (.int .u64 x_b1) ∧ True) ∧ callV Tryd.prog cmp [.agg #[.int .i64 x_a1, .int .u64 x_b1], .int .i64 target] H1 (fun r1 H3 => 
    ∃ y1 : Int, r1 = .int .i64 y1 ∧ K (.tuple #[.int .i64 i, .bool (y1 == 0)]) H3) Z)) ∧ ((decide (i < (x.n : Int))) = false → 
    K (.tuple #[.int .i64 i, .bool false]) H1))))
def aJ63 : Ann := (fun _ => none)
def aL63 : Ann := (fun k => if k = 3 then some [(9, (.sc (.int .i64))), (10, (.sc (.int .i64)))] else none)
theorem V63_ok {H : Hp} {x : Sl} {target : Int} {cmp : Value} {K : Value → Hp → Prop} {Z : List PanicEntry → Hp → Prop} (h : V63 H x target cmp K Z) : CallF Tryd.prog 63 #[.slice x.a x.n x.c, .int .i64 target, cmp] H K Z :=
  fnC_sound (P := Tryd.prog) (aJ := aJ63) (aL := aL63) (f := 63) (args := [.slice x.a x.n x.c, .int .i64 target, cmp]) (Eq.mp (by kernel_rfl) h)
/-- (*weft/bits.Set).find$1 -/
def V64 (H : Hp) (b_a : Int) (b_b : Int) (t1 : Int) (K : Value → Hp → Prop) (Z : List PanicEntry → Hp → Prop) : Prop :=
  ∀ bB H1, Newb H (.cells #[.int .i64 b_a, .int .u64 b_b] 70) bB H1 → ∃ x : Int, hcell H1 ⟨bB, 0, none⟩ = some (.int .i64 x) ∧ 
    K (.int .i64 (w64 (x - t1))) H1
def aJ64 : Ann := (fun _ => none)
def aL64 : Ann := (fun _ => none)
theorem V64_ok {H : Hp} {b_a : Int} {b_b : Int} {t1 : Int} {K : Value → Hp → Prop} {Z : List PanicEntry → Hp → Prop} (h : V64 H b_a b_b t1 K Z) : CallF Tryd.prog 64 #[.agg #[.int .i64 b_a, .int .u64 b_b], .int .i64 t1] H K Z :=
  fnC_sound (P := Tryd.prog) (aJ := aJ64) (aL := aL64) (f := 64) (args := [.agg #[.int .i64 b_a, .int .u64 b_b], .int .i64 t1]) (Eq.mp (by kernel_rfl) h)
/-- weft/bits.merged -/
def V67 (H : Hp) (a : Sl) (b : Sl) (K : Value → Hp → Prop) (Z : List PanicEntry → Hp → Prop) : Prop :=
  ∀ bA H1, Newb H (.cells #[.slice a.a a.n a.c] 24) bA H1 → ∀ bB H2, Newb H1 (.cells #[.slice b.a b.n b.c] 24) bB H2 → 
    K (.func (.func 76) #[] #[.pointer (some ⟨bA, 0, none⟩), .pointer (some ⟨bB, 0, none⟩)]) H2
def aJ67 : Ann := (fun _ => none)
def aL67 : Ann := (fun _ => none)
theorem V67_ok {H : Hp} {a : Sl} {b : Sl} {K : Value → Hp → Prop} {Z : List PanicEntry → Hp → Prop} (h : V67 H a b K Z) : CallF Tryd.prog 67 #[.slice a.a a.n a.c, .slice b.a b.n b.c] H K Z :=
  fnC_sound (P := Tryd.prog) (aJ := aJ67) (aL := aL67) (f := 67) (args := [.slice a.a a.n a.c, .slice b.a b.n b.c]) (Eq.mp (by kernel_rfl) h)
/-- weft/bits.merged$1 -/
def V76 (H : Hp) (yield : Value) (cap0 : Addr) (cap1 : Addr) (K : Value → Hp → Prop) (Z : List PanicEntry → Hp → Prop) : Prop :=
  ∃ x : Sl, hcell H cap0 = some (.slice x.a x.n x.c) ∧ ∃ x1 : Sl, hcell H cap1 = some (.slice x1.a x1.n x1.c) ∧ 
    ∃ I : Sl → Sl → Hp → Nat → Prop, (∃ m, I x x1 H m) ∧ ∀ (a : Sl) (b : Sl), ∀ H1 m1, I a b H1 m1 → 
    ∀ scr : Nat → Value, (((decide ((w64 ((a.n : Int) + (b.n : Int))) > 0)) = true → ∀ bX H2, Newb H1 (.cells #[.int .i64 0, .int .u64 0] 70) bX H2 → 
    ∀ bY H3, Newb H2 (.cells #[.int .i64 0, .int .u64 0] 70) bY H3 → ∃ J : Bool → Hp → Prop, (∀ (t26 : Bool), ∀ H4, J t26 H4 → 
    ∀ scr1 : Nat → Value, ((t26 = true → IxA a.a a.n 0 2 fun ad => (∃ x_a : Int, ∃ x_b : Int, (hcell H4 ad = some (.int .i64 x_a) ∧ 
    hcell H4 (Addr.add ad 1) = some (.int .u64 x_b) ∧ True) ∧ IxA a.a a.n 0 2 fun ad1 => (∃ x2 : Int, hcell H4 ad1 = some (.int .i64 x2) ∧ 
    (((hcell H4 ad = some (.int .i64 x_a) ∧ hcell H4 (Addr.add ad 1) = some (.int .u64 x_b) ∧ True) ∧ 
    StL ⟨bX, 0, none⟩ 0 [.int .i64 x_a, .int .u64 x_b] H4 fun H5 => (StL ⟨bY, 0, none⟩ 0 [.int .i64 x2, .int .u64 0] H5 fun H6 => 
    (a.n ≤ a.c ∧ SlX a.a a.c 1 (a.n : Int) 2 fun cut => (∃ x_a1 : Int, ∃ x_b1 : Int, (hcell H6 ⟨bX, 0, none⟩ = some (.int .i64 x_a1) ∧ 
    hcell H6 ⟨bX, 1, none⟩ = some (.int .u64 x_b1) ∧ True) ∧ ∃ x_a2 : Int, ∃ x_b2 : Int, (hcell H6 ⟨bY, 0, none⟩ = some (.int .i64 x_a2) ∧ 
    hcell H6 ⟨bY, 1, none⟩ = some (.int .u64 x_b2) ∧ True) ∧ callV Tryd.prog yield [.agg #[.int .i64 x_a1, .int .u64 x_b1], .agg #[.int .i64 x_a2, .int .u64 x_b2]] H6 (fun r H7 => 
    ∃ y : Bool, r = .bool y ∧ (((!y) = true → K (.tuple #[]) H7) ∧ ((!y) = false → (∃ m2, m2 < m1 ∧ I cut b H7 m2)))) Z)))) ∧ 
    (StL ⟨bX, 0, none⟩ 0 [.int .i64 x_a, .int .u64 x_b] H4 fun H8 => (hcell H8 ad1 = some (.int .i64 x2) ∧ 
    StL ⟨bY, 0, none⟩ 0 [.int .i64 x2, .int .u64 0] H8 fun H9 => (a.n ≤ a.c ∧ SlX a.a a.c 1 (a.n : Int) 2 fun cut1 => 
    (∃ x_a3 : Int, ∃ x_b3 : Int, (hcell H9 ⟨bX, 0, none⟩ = some (.int .i64 x_a3) ∧ hcell H9 ⟨bX, 1, none⟩ = some (.int .u64 x_b3) ∧ 
    True) ∧ ∃ x_a4 : Int, ∃ x_b4 : Int, (hcell H9 ⟨bY, 0, none⟩ = some (.int .i64 x_a4) ∧ hcell H9 ⟨bY, 1, none⟩ = some (.int .u64 x_b4) ∧ 
    True) ∧ callV Tryd.prog yield [.agg #[.int .i64 x_a3, .int .u64 x_b3], .agg #[.int .i64 x_a4, .int .u64 x_b4]] H9 (fun r1 H10 => 
    ∃ y1 : Bool, r1 = .bool y1 ∧ (((!y1) = true → K (.tuple #[]) H10) ∧ ((!y1) = false → (∃ m2, m2 < m1 ∧ 
    I cut1 b H10 m2)))) Z)))))))) ∧ (t26 = false → ∃ J1 : Bool → Hp → Prop, (∀ (t56 : Bool), ∀ H11, J1 t56 H11 → 
    ∀ scr2 : Nat → Value, ((t56 = true → IxA b.a b.n 0 2 fun ad2 => (∃ x3 : Int, hcell H11 ad2 = some (.int .i64 x3) ∧ 
    IxA b.a b.n 0 2 fun ad3 => (∃ x_a5 : Int, ∃ x_b5 : Int, (hcell H11 ad3 = some (.int .i64 x_a5) ∧ 
    hcell H11 (Addr.add ad3 1) = some (.int .u64 x_b5) ∧ True) ∧ ((hcell H11 ad3 = some (.int .i64 x_a5) ∧ 
    hcell H11 (Addr.add ad3 1) = some (.int .u64 x_b5) ∧ True) ∧ StL ⟨bX, 0, none⟩ 0 [.int .i64 x3, .int .u64 0] H11 fun H12 => 
    ((hcell H12 ad3 = some (.int .i64 x_a5) ∧ hcell H12 (Addr.add ad3 1) = some (.int .u64 x_b5) ∧ True) ∧ 
    StL ⟨bY, 0, none⟩ 0 [.int .i64 x_a5, .int .u64 x_b5] H12 fun H13 => (b.n ≤ b.c ∧ SlX b.a b.c 1 (b.n : Int) 2 fun cut2 => 
    (∃ x_a6 : Int, ∃ x_b6 : Int, (hcell H13 ⟨bX, 0, none⟩ = some (.int .i64 x_a6) ∧ hcell H13 ⟨bX, 1, none⟩ = some (.int .u64 x_b6) ∧ 
    True) ∧ ∃ x_a7 : Int, ∃ x_b7 : Int, (hcell H13 ⟨bY, 0, none⟩ = some (.int .i64 x_a7) ∧ hcell H13 ⟨bY, 1, none⟩ = some (.int .u64 x_b7) ∧ 
    True) ∧ callV Tryd.prog yield [.agg #[.int .i64 x_a6, .int .u64 x_b6], .agg #[.int .i64 x_a7, .int .u64 x_b7]] H13 (fun r2 H14 => 
    ∃ y2 : Bool, r2 = .bool y2 ∧ (((!y2) = true → K (.tuple #[]) H14) ∧ ((!y2) = false → (∃ m2, m2 < m1 ∧ 
    I a cut2 H14 m2)))) Z))))))) ∧ (t56 = false → IxA a.a a.n 0 2 fun ad4 => (∃ x_a8 : Int, ∃ x_b8 : Int, (hcell H11 ad4 = some (.int .i64 x_a8) ∧ 
    hcell H11 (Addr.add ad4 1) = some (.int .u64 x_b8) ∧ True) ∧ IxA b.a b.n 0 2 fun ad5 => (∃ x_a9 : Int, ∃ x_b9 : Int, (hcell H11 ad5 = some (.int .i64 x_a9) ∧ 
    hcell H11 (Addr.add ad5 1) = some (.int .u64 x_b9) ∧ True) ∧ StL ⟨bX, 0, none⟩ 0 [.int .i64 x_a8, .int .u64 x_b8] H11 fun H15 => 
    ((hcell H15 ad5 = some (.int .i64 x_a9) ∧ hcell H15 (Addr.add ad5 1) = some (.int .u64 x_b9) ∧ True) ∧ 
    StL ⟨bY, 0, none⟩ 0 [.int .i64 x_a9, .int .u64 x_b9] H15 fun H16 => (a.n ≤ a.c ∧ SlX a.a a.c 1 (a.n : Int) 2 fun cut3 => 
    (b.n ≤ b.c ∧ SlX b.a b.c 1 (b.n : Int) 2 fun cut4 => (∃ x_a10 : Int, ∃ x_b10 : Int, (hcell H16 ⟨bX, 0, none⟩ = some (.int .i64 x_a10) ∧ 
    hcell H16 ⟨bX, 1, none⟩ = some (.int .u64 x_b10) ∧ True) ∧ ∃ x_a11 : Int, ∃ x_b11 : Int, (hcell H16 ⟨bY, 0, none⟩ = some (.int .i64 x_a11) ∧ 
    hcell H16 ⟨bY, 1, none⟩ = some (.int .u64 x_b11) ∧ True) ∧ callV Tryd.prog yield [.agg #[.int .i64 x_a10, .int .u64 x_b10], .agg #[.int .i64 x_a11, .int .u64 x_b11]] H16 (fun r3 H17 => 
    ∃ y3 : Bool, r3 = .bool y3 ∧ (((!y3) = true → K (.tuple #[]) H17) ∧ ((!y3) = false → (∃ m2, m2 < m1 ∧ 
    I cut3 cut4 H17 m2)))) Z))))))))) ∧ ((((a.n : Int) == 0) = true → (J1 true H4)) ∧ (((a.n : Int) == 0) = false → 
    IxA b.a b.n 0 2 fun ad6 => (∃ x4 : Int, hcell H4 ad6 = some (.int .i64 x4) ∧ IxA a.a a.n 0 2 fun ad7 => 
    (∃ x5 : Int, hcell H4 ad7 = some (.int .i64 x5) ∧ (J1 (decide (x4 < x5)) H4)))))))) ∧ ((((b.n : Int) == 0) = true → 
    (J true H3)) ∧ (((b.n : Int) == 0) = false → (((decide ((a.n : Int) > 0)) = true → IxA a.a a.n 0 2 fun ad8 => 
    (∃ x6 : Int, hcell H3 ad8 = some (.int .i64 x6) ∧ IxA b.a b.n 0 2 fun ad9 => (∃ x7 : Int, hcell H3 ad9 = some (.int .i64 x7) ∧ 
    (J (decide (x6 < x7)) H3)))) ∧ ((decide ((a.n : Int) > 0)) = false → (J false H3)))))) ∧ ((decide ((w64 ((a.n : Int) + (b.n : Int))) > 0)) = false → 
    K (.tuple #[]) H1))
def aJ76 : Ann := (fun k => if k = 6 then some [(26, (.sc .bool))] else if k = 9 then some [(56, (.sc .bool))] else if k = 2000003 then some [] else if k = 2000006 then some [] else if k = 2000009 then some [] else none)
def aL76 : Ann := (fun k => if k = 1 then some [(4, (.sc .sl)), (5, (.sc .sl))] else none)
theorem V76_ok {H : Hp} {yield : Value} {cap0 : Addr} {cap1 : Addr} {K : Value → Hp → Prop} {Z : List PanicEntry → Hp → Prop} (h : V76 H yield cap0 cap1 K Z) : CallF Tryd.prog 76 #[yield, .pointer (some cap0), .pointer (some cap1)] H K Z :=
  fnC_sound (P := Tryd.prog) (aJ := aJ76) (aL := aL76) (f := 76) (args := [yield, .pointer (some cap0), .pointer (some cap1)]) (Eq.mp (by kernel_rfl) h)
/-- weft/weftlaw04.BitsDoes -/
def V3 (H : Hp) (l : Sl) (K : Value → Hp → Prop) (Z : List PanicEntry → Hp → Prop) : Prop :=
  ∀ b H1, Newb H (.cells #[.slice none 0 0] 26) b H1 → ∀ b1 H2, Newb H1 (.cells #[.slice none 0 0] 26) b1 H2 → 
    ∃ I : Sl → Sl → Int → Hp → Nat → Prop, (∃ m, I (⟨none, 0, 0⟩ : Sl) (⟨none, 0, 0⟩ : Sl) 0 H2 m) ∧ 
    ∀ (c : Sl) (d : Sl) (i : Int), ∀ H3 m1, I c d i H3 m1 → ∀ scr : Nat → Value, ∃ J : Hp → Prop, (∀ H4, J  H4 → 
    ∀ scr1 : Nat → Value, IxA l.a l.n i 2 fun ad => (∃ x : Int, hcell H4 (Addr.add ad 1) = some (.int .i64 x) ∧ 
    ∃ J1 : Sl → Sl → Int → Int → Bool → Bool → Hp → Prop, (∀ (c1 : Sl) (d1 : Sl) (m3 : Int) (k : Int) (x1 : Bool) (y : Bool), ∀ H5, J1 c1 d1 m3 k x1 y H5 → 
    ∀ scr2 : Nat → Value, (((!(x1 == y)) = true → K (.bool false) H5) ∧ ((!(x1 == y)) = false → (((m3 != k) = true → 
    K (.bool false) H5) ∧ ((m3 != k) = false → CallF Tryd.prog 11 #[.pointer (some ⟨b, 0, none⟩), .int .i64 x] H5 (fun r H6 => 
    ∃ y1 : Bool, r = .bool y1 ∧ CallF Tryd.prog 12 #[.slice c1.a c1.n c1.c, .int .i64 x] H6 (fun r1 H7 => 
    ∃ y2 : Bool, r1 = .bool y2 ∧ (((!(y1 == y2)) = true → K (.bool false) H7) ∧ ((!(y1 == y2)) = false → 
    CallF Tryd.prog 13 #[.pointer (some ⟨b, 0, none⟩)] H7 (fun r2 H8 => ∃ y3 : Int, r2 = .int .i64 y3 ∧ 
    (((y3 != (c1.n : Int)) = true → K (.bool false) H8) ∧ ((y3 != (c1.n : Int)) = false → CallF Tryd.prog 14 #[.pointer (some ⟨b, 0, none⟩)] H8 (fun r3 H9 => 
    ∃ y4 : Int, r3 = .int .i64 y4 ∧ CallF Tryd.prog 15 #[.slice c1.a c1.n c1.c] H9 (fun r4 H10 => ∃ y5 : Int, r4 = .int .i64 y5 ∧ 
    (((y4 != y5) = true → K (.bool false) H10) ∧ ((y4 != y5) = false → CallF Tryd.prog 16 #[.pointer (some ⟨b, 0, none⟩), .pointer (some ⟨b1, 0, none⟩)] H10 (fun r5 H11 => 
    ∃ y6 : Bool, r5 = .bool y6 ∧ CallF Tryd.prog 17 #[.slice c1.a c1.n c1.c, .slice d1.a d1.n d1.c] H11 (fun r6 H12 => 
    ∃ y7 : Bool, r6 = .bool y7 ∧ (((!(y6 == y7)) = true → K (.bool false) H12) ∧ ((!(y6 == y7)) = false → 
    (∃ m2, m2 < m1 ∧ I c1 d1 (w64 (i + 1)) H12 m2)))) Z) Z))) Z) Z))) Z))) Z) Z))))) ∧ IxA l.a l.n i 2 fun ad1 => 
    (∃ x2 : Int, hcell H4 ad1 = some (.int .i64 x2) ∧ (((x2 == 0) = true → CallF Tryd.prog 7 #[.pointer (some ⟨b, 0, none⟩), .int .i64 x] H4 (fun r7 H13 => 
    ∃ y8 : Bool, r7 = .bool y8 ∧ CallF Tryd.prog 8 #[.slice c.a c.n c.c, .int .i64 x] H13 (fun r8 H14 => 
    ∃ y_0 : Sl, ∃ y_1 : Bool, r8 = .tuple #[.slice y_0.a y_0.n y_0.c, .bool y_1] ∧ (J1 y_0 d 0 0 y8 y_1 H14)) Z) Z) ∧ 
    ((x2 == 0) = false → (((x2 == 1) = true → CallF Tryd.prog 7 #[.pointer (some ⟨b1, 0, none⟩), .int .i64 x] H4 (fun r9 H15 => 
    ∃ y9 : Bool, r9 = .bool y9 ∧ CallF Tryd.prog 8 #[.slice d.a d.n d.c, .int .i64 x] H15 (fun r10 H16 => 
    ∃ y_01 : Sl, ∃ y_11 : Bool, r10 = .tuple #[.slice y_01.a y_01.n y_01.c, .bool y_11] ∧ (J1 c y_01 0 0 y9 y_11 H16)) Z) Z) ∧ 
    ((x2 == 1) = false → (((x2 == 2) = true → CallF Tryd.prog 9 #[.pointer (some ⟨b, 0, none⟩), .pointer (some ⟨b1, 0, none⟩)] H4 (fun r11 H17 => 
    ∃ y10 : Int, r11 = .int .i64 y10 ∧ CallF Tryd.prog 10 #[.slice c.a c.n c.c, .slice d.a d.n d.c] H17 (fun r12 H18 => 
    ∃ y_02 : Sl, ∃ y_12 : Int, r12 = .tuple #[.slice y_02.a y_02.n y_02.c, .int .i64 y_12] ∧ (J1 y_02 d y10 y_12 false false H18)) Z) Z) ∧ 
    ((x2 == 2) = false → (((x2 == 3) = true → CallF Tryd.prog 9 #[.pointer (some ⟨b1, 0, none⟩), .pointer (some ⟨b, 0, none⟩)] H4 (fun r13 H19 => 
    ∃ y11 : Int, r13 = .int .i64 y11 ∧ CallF Tryd.prog 10 #[.slice d.a d.n d.c, .slice c.a c.n c.c] H19 (fun r14 H20 => 
    ∃ y_03 : Sl, ∃ y_13 : Int, r14 = .tuple #[.slice y_03.a y_03.n y_03.c, .int .i64 y_13] ∧ (J1 c y_03 y11 y_13 false false H20)) Z) Z) ∧ 
    ((x2 == 3) = false → (((x2 == 4) = true → CallF Tryd.prog 9 #[.pointer (some ⟨b, 0, none⟩), .pointer (some ⟨b, 0, none⟩)] H4 (fun r15 H21 => 
    ∃ y12 : Int, r15 = .int .i64 y12 ∧ (J1 c d y12 0 false false H21)) Z) ∧ ((x2 == 4) = false → (J1 c d 0 0 false false H4)))))))))))))) ∧ 
    (((decide (i < (l.n : Int))) = true → (((decide (i < 150)) = true → (J  H3)) ∧ ((decide (i < 150)) = false → 
    CallF Tryd.prog 18 #[.pointer (some ⟨b, 0, none⟩)] H3 (fun r16 H22 => ∃ y13 : Sl, r16 = .slice y13.a y13.n y13.c ∧ 
    CallF Tryd.prog 17 #[.slice y13.a y13.n y13.c, .slice c.a c.n c.c] H22 (fun r17 H23 => ∃ y14 : Bool, r17 = .bool y14 ∧ 
    ((y14 = true → CallF Tryd.prog 18 #[.pointer (some ⟨b1, 0, none⟩)] H23 (fun r18 H24 => ∃ y15 : Sl, r18 = .slice y15.a y15.n y15.c ∧ 
    CallF Tryd.prog 17 #[.slice y15.a y15.n y15.c, .slice d.a d.n d.c] H24 (fun r19 H25 => ∃ y16 : Bool, r19 = .bool y16 ∧ 
    K (.bool y16) H25) Z) Z) ∧ (y14 = false → K (.bool false) H23))) Z) Z))) ∧ ((decide (i < (l.n : Int))) = false → 
    CallF Tryd.prog 18 #[.pointer (some ⟨b, 0, none⟩)] H3 (fun r20 H26 => ∃ y17 : Sl, r20 = .slice y17.a y17.n y17.c ∧ 
    CallF Tryd.prog 17 #[.slice y17.a y17.n y17.c, .slice c.a c.n c.c] H26 (fun r21 H27 => ∃ y18 : Bool, r21 = .bool y18 ∧ 
    ((y18 = true → CallF Tryd.prog 18 #[.pointer (some ⟨b1, 0, none⟩)] H27 (fun r22 H28 => ∃ y19 : Sl, r22 = .slice y19.a y19.n y19.c ∧ 
    CallF Tryd.prog 17 #[.slice y19.a y19.n y19.c, .slice d.a d.n d.c] H28 (fun r23 H29 => ∃ y20 : Bool, r23 = .bool y20 ∧ 
    K (.bool y20) H29) Z) Z) ∧ (y18 = false → K (.bool false) H27))) Z) Z))
def aJ3 : Ann := (fun k => if k = 6 then some [] else if k = 24 then some [(5, (.sc .sl)), (6, (.sc .sl)), (9, (.sc (.int .i64))), (10, (.sc (.int .i64))), (11, (.sc .bool)), (12, (.sc .bool))] else none)
def aL3 : Ann := (fun k => if k = 4 then some [(5, (.sc .sl)), (6, (.sc .sl)), (7, (.sc (.int .i64)))] else none)
theorem V3_ok {H : Hp} {l : Sl} {K : Value → Hp → Prop} {Z : List PanicEntry → Hp → Prop} (h : V3 H l K Z) : CallF Tryd.prog 3 #[.slice l.a l.n l.c] H K Z :=
  fnC_sound (P := Tryd.prog) (aJ := aJ3) (aL := aL3) (f := 3) (args := [.slice l.a l.n l.c]) (Eq.mp (by kernel_rfl) h)
/-- weft/weftlaw04.BitsJoins -/
def V4 (H : Hp) (l : Sl) (m : Sl) (stop : Int) (K : Value → Hp → Prop) (Z : List PanicEntry → Hp → Prop) : Prop :=
  ∀ bStop H1, Newb H (.cells #[.int .i64 stop] 3) bStop H1 → CallF Tryd.prog 19 #[] H1 (fun r H2 => ∃ y : Bool, r = .bool y ∧ 
    (((!y) = true → K (.bool false) H2) ∧ ((!y) = false → ∃ J : Hp → Prop, (∀ H3, J  H3 → ∀ scr : Nat → 
    Value, CallF Tryd.prog 20 #[.slice l.a l.n l.c] H3 (fun r1 H4 => ∃ y1 : Option Addr, r1 = .pointer y1 ∧ 
    CallF Tryd.prog 20 #[.slice m.a m.n m.c] H4 (fun r2 H5 => ∃ y2 : Option Addr, r2 = .pointer y2 ∧ 
    CallF Tryd.prog 21 #[.pointer y1, .pointer y2] H5 (fun r3 H6 => ∃ y3 : Option Addr, r3 = .pointer y3 ∧ 
    CallF Tryd.prog 22 #[.pointer y1, .pointer y2] H6 (fun r4 H7 => ∃ y4 : Option Addr, r4 = .pointer y4 ∧ 
    ∃ J1 : Hp → Prop, (∀ H8, J1  H8 → ∀ scr1 : Nat → Value, CallF Tryd.prog 9 #[.pointer y3, .pointer y4] H8 (fun r5 H9 => 
    ∃ y5 : Int, r5 = .int .i64 y5 ∧ CallF Tryd.prog 16 #[.pointer y3, .pointer y1] H9 (fun r6 H10 => 
    ∃ y6 : Bool, r6 = .bool y6 ∧ (((!y6) = true → K (.bool false) H10) ∧ ((!y6) = false → CallF Tryd.prog 20 #[.slice m.a m.n m.c] H10 (fun r7 H11 => 
    ∃ y7 : Option Addr, r7 = .pointer y7 ∧ CallF Tryd.prog 9 #[.pointer y1, .pointer y2] H11 (fun r8 H12 => 
    ∃ y8 : Int, r8 = .int .i64 y8 ∧ CallF Tryd.prog 20 #[.slice l.a l.n l.c] H12 (fun r9 H13 => ∃ y9 : Option Addr, r9 = .pointer y9 ∧ 
    CallF Tryd.prog 9 #[.pointer y7, .pointer y9] H13 (fun r10 H14 => ∃ y10 : Int, r10 = .int .i64 y10 ∧ 
    ∃ J2 : Hp → Prop, (∀ H15, J2  H15 → ∀ scr2 : Nat → Value, ∀ bTold H16, Newb H15 (.cells #[.int .i64 0] 3) bTold H16 → 
    StL ⟨bTold, 0, none⟩ 0 [.int .i64 0] H16 fun H17 => (∃ x : Int, hcell H17 ⟨bStop, 0, none⟩ = some (.int .i64 x) ∧ 
    StL ⟨bStop, 0, none⟩ 0 [.int .i64 (w64 (Int.tmod (IntKind.wrap .u64 x) 20))] H17 fun H18 => (CallF Tryd.prog 23 #[.pointer y1] H18 (fun r11 H19 => 
    ∃ y11 : Value, r11 = y11 ∧ callV Tryd.prog y11 [.func (.func 24) #[] #[.pointer (some ⟨bTold, 0, none⟩), .pointer (some ⟨bStop, 0, none⟩)]] H19 (fun r12 H20 => 
    r12 = .tuple #[] ∧ ∃ x1 : Int, hcell H20 ⟨bTold, 0, none⟩ = some (.int .i64 x1) ∧ ∃ x2 : Int, hcell H20 ⟨bStop, 0, none⟩ = some (.int .i64 x2) ∧ 
    CallF Tryd.prog 13 #[.pointer y1] H20 (fun r13 H21 => ∃ y12 : Int, r13 = .int .i64 y12 ∧ (hcell H21 ⟨bStop, 0, none⟩ = some (.int .i64 x2) ∧ 
    (hcell H21 ⟨bTold, 0, none⟩ = some (.int .i64 x1) ∧ K (.bool (x1 == (if y12 < (w64 (x2 + 1)) then y12 else (w64 (x2 + 1))))) H21))) Z) Z) Z))) ∧ 
    CallF Tryd.prog 16 #[.pointer y1, .pointer y7] H14 (fun r14 H22 => ∃ y13 : Bool, r14 = .bool y13 ∧ 
    (((!y13) = true → K (.bool false) H22) ∧ ((!y13) = false → CallF Tryd.prog 13 #[.pointer y1] H22 (fun r15 H23 => 
    ∃ y14 : Int, r15 = .int .i64 y14 ∧ CallF Tryd.prog 13 #[.pointer y2] H23 (fun r16 H24 => ∃ y15 : Int, r16 = .int .i64 y15 ∧ 
    (((y14 != (w64 (y15 + y10))) = true → K (.bool false) H24) ∧ ((y14 != (w64 (y15 + y10))) = false → 
    (((decide (y8 < 0)) = true → K (.bool false) H24) ∧ ((decide (y8 < 0)) = false → (J2  H24)))))) Z) Z))) Z) Z) Z) Z) Z))) Z) Z) ∧ 
    CallF Tryd.prog 13 #[.pointer y3] H7 (fun r17 H25 => ∃ y16 : Int, r17 = .int .i64 y16 ∧ CallF Tryd.prog 13 #[.pointer y4] H25 (fun r18 H26 => 
    ∃ y17 : Int, r18 = .int .i64 y17 ∧ CallF Tryd.prog 13 #[.pointer y1] H26 (fun r19 H27 => ∃ y18 : Int, r19 = .int .i64 y18 ∧ 
    ((((w64 (y16 + y17)) != y18) = true → K (.bool false) H27) ∧ (((w64 (y16 + y17)) != y18) = false → 
    CallF Tryd.prog 22 #[.pointer y3, .pointer y4] H27 (fun r20 H28 => ∃ y19 : Option Addr, r20 = .pointer y19 ∧ 
    CallF Tryd.prog 13 #[.pointer y19] H28 (fun r21 H29 => ∃ y20 : Int, r21 = .int .i64 y20 ∧ (((y20 != 0) = true → 
    K (.bool false) H29) ∧ ((y20 != 0) = false → (J1  H29)))) Z) Z))) Z) Z) Z) Z) Z) Z) Z) ∧ (((decide ((l.n : Int) > 200)) = true → 
    K (.bool true) H2) ∧ ((decide ((l.n : Int) > 200)) = false → (((decide ((m.n : Int) > 200)) = true → 
    K (.bool true) H2) ∧ ((decide ((m.n : Int) > 200)) = false → (J  H2)))))))) Z
def aJ4 : Ann := (fun k => if k = 5 then some [] else if k = 9 then some [] else if k = 16 then some [] else if k = 2000019 then some [] else none)
def aL4 : Ann := (fun _ => none)
theorem V4_ok {H : Hp} {l : Sl} {m : Sl} {stop : Int} {K : Value → Hp → Prop} {Z : List PanicEntry → Hp → Prop} (h : V4 H l m stop K Z) : CallF Tryd.prog 4 #[.slice l.a l.n l.c, .slice m.a m.n m.c, .int .i64 stop] H K Z :=
  fnC_sound (P := Tryd.prog) (aJ := aJ4) (aL := aL4) (f := 4) (args := [.slice l.a l.n l.c, .slice m.a m.n m.c, .int .i64 stop]) (Eq.mp (by kernel_rfl) h)
end Go.Proofs.YtigbdoicgdmliaaDoor.N04

