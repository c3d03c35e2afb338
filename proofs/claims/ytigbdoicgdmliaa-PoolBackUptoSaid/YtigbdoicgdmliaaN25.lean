/- The conditions of pool's functions, and of weftref25's and weftlaw25's (printed by our own program vn.py; the kernel checks each against V5's comp). -/
import Derived.Test.YtigbdoicgdmliaaV8
import Derived.Test.YtigbdoicgdmliaaProg
set_option linter.unusedVariables false
set_option maxRecDepth 100000
-- of: 28
-- list: 63
-- number: 30
-- pat: 68
-- len: 36
-- shared: 65
-- write: 32
-- next: 75
-- wrong: 73
-- read: 39
-- rShared: 70
-- rBytes: 35
-- rOf: 29
-- great: 27
-- same: 34
-- lawOf: 6
-- lawBack: 7
-- works: 37
-- bs: 62
-- less: 102
-- nan: 103
namespace Go.Proofs.Ytigbdoicgdmliaa.N25
open Go Go.V Go.Proofs
/-- weft/pool.Of -/
def V28 (H : Hp) (l : Sl) (K : Value → Hp → Prop) (Z : List PanicEntry → Hp → Prop) : Prop :=
  CallF Try.prog 60 #[.slice l.a l.n l.c] H (fun r H1 => ∃ y : Sl, r = .slice y.a y.n y.c ∧ ∀ b H2, Newb H1 (.cells #[.slice y.a y.n y.c] 108) b H2 → 
    K (.pointer (some ⟨b, 0, none⟩)) H2) Z
def aJ28 : Ann := (fun _ => none)
def aL28 : Ann := (fun _ => none)
theorem V28_ok {H : Hp} {l : Sl} {K : Value → Hp → Prop} {Z : List PanicEntry → Hp → Prop} (h : V28 H l K Z) : CallF Try.prog 28 #[.slice l.a l.n l.c] H K Z :=
  fnC_sound (P := Try.prog) (aJ := aJ28) (aL := aL28) (f := 28) (args := [.slice l.a l.n l.c]) (Eq.mp (by kernel_rfl) h)
/-- (*weft/pool.Pool).list -/
def V63 (H : Hp) (p : Option Addr) (K : Value → Hp → Prop) (Z : List PanicEntry → Hp → Prop) : Prop :=
  (((Option.isNone p) = true → K (.slice none 0 0) H) ∧ ((Option.isNone p) = false → nilck p fun ad => 
    (∃ x : Sl, hcell H ad = some (.slice x.a x.n x.c) ∧ K (.slice x.a x.n x.c) H)))
def aJ63 : Ann := (fun _ => none)
def aL63 : Ann := (fun _ => none)
theorem V63_ok {H : Hp} {p : Option Addr} {K : Value → Hp → Prop} {Z : List PanicEntry → Hp → Prop} (h : V63 H p K Z) : CallF Try.prog 63 #[.pointer p] H K Z :=
  fnC_sound (P := Try.prog) (aJ := aJ63) (aL := aL63) (f := 63) (args := [.pointer p]) (Eq.mp (by kernel_rfl) h)
/-- (*weft/pool.Pool).Number -/
def V30 (H : Hp) (p : Option Addr) (s : ByteArray) (K : Value → Hp → Prop) (Z : List PanicEntry → Hp → Prop) : Prop :=
  CallF Try.prog 63 #[.pointer p] H (fun r H1 => ∃ y : Sl, r = .slice y.a y.n y.c ∧ CallF Try.prog 62 #[.slice y.a y.n y.c, .string s] H1 (fun r1 H2 => 
    ∃ y_0 : Int, ∃ y_1 : Bool, r1 = .tuple #[.int .i64 y_0, .bool y_1] ∧ (((!y_1) = true → K (.tuple #[.int .i64 0, .bool false]) H2) ∧ 
    ((!y_1) = false → K (.tuple #[.int .i64 y_0, .bool true]) H2))) Z) Z
def aJ30 : Ann := (fun _ => none)
def aL30 : Ann := (fun _ => none)
theorem V30_ok {H : Hp} {p : Option Addr} {s : ByteArray} {K : Value → Hp → Prop} {Z : List PanicEntry → Hp → Prop} (h : V30 H p s K Z) : CallF Try.prog 30 #[.pointer p, .string s] H K Z :=
  fnC_sound (P := Try.prog) (aJ := aJ30) (aL := aL30) (f := 30) (args := [.pointer p, .string s]) (Eq.mp (by kernel_rfl) h)
/-- (*weft/pool.Pool).At -/
def V68 (H : Hp) (p : Addr) (n : Int) (K : Value → Hp → Prop) (Z : List PanicEntry → Hp → Prop) : Prop :=
  CallF Try.prog 63 #[.pointer (some p)] H (fun r H1 => ∃ y : Sl, r = .slice y.a y.n y.c ∧ (((decide (n ≥ 0)) = true → 
    (((decide (n < (y.n : Int))) = true → IxA y.a y.n n 1 fun ad => (∃ x : ByteArray, hcell H1 ad = some (.string x) ∧ 
    K (.tuple #[.string x, .bool true]) H1)) ∧ ((decide (n < (y.n : Int))) = false → K (.tuple #[.string ⟨#[]⟩, .bool false]) H1))) ∧ 
    ((decide (n ≥ 0)) = false → K (.tuple #[.string ⟨#[]⟩, .bool false]) H1))) Z
def aJ68 : Ann := (fun _ => none)
def aL68 : Ann := (fun _ => none)
theorem V68_ok {H : Hp} {p : Addr} {n : Int} {K : Value → Hp → Prop} {Z : List PanicEntry → Hp → Prop} (h : V68 H p n K Z) : CallF Try.prog 68 #[.pointer (some p), .int .i64 n] H K Z :=
  fnC_sound (P := Try.prog) (aJ := aJ68) (aL := aL68) (f := 68) (args := [.pointer (some p), .int .i64 n]) (Eq.mp (by kernel_rfl) h)
/-- (*weft/pool.Pool).Len -/
def V36 (H : Hp) (p : Option Addr) (K : Value → Hp → Prop) (Z : List PanicEntry → Hp → Prop) : Prop :=
  CallF Try.prog 63 #[.pointer p] H (fun r H1 => ∃ y : Sl, r = .slice y.a y.n y.c ∧ K (.int .i64 (y.n : Int)) H1) Z
def aJ36 : Ann := (fun _ => none)
def aL36 : Ann := (fun _ => none)
theorem V36_ok {H : Hp} {p : Option Addr} {K : Value → Hp → Prop} {Z : List PanicEntry → Hp → Prop} (h : V36 H p K Z) : CallF Try.prog 36 #[.pointer p] H K Z :=
  fnC_sound (P := Try.prog) (aJ := aJ36) (aL := aL36) (f := 36) (args := [.pointer p]) (Eq.mp (by kernel_rfl) h)
/-- weft/pool.shared -/
def V65 (H : Hp) (a : ByteArray) (b : ByteArray) (K : Value → Hp → Prop) (Z : List PanicEntry → Hp → Prop) : Prop :=
  ∃ I : Int → Hp → Nat → Prop, (∃ m, I 0 H m) ∧ ∀ (n : Int), ∀ H1 m1, I n H1 m1 → ∀ scr : Nat → Value, (((decide (n < (if (b.size : Int) < (a.size : Int) then (b.size : Int) else (a.size : Int)))) = true → 
    IxS a n fun c => (IxS b n fun c1 => (((c == c1) = true → (∃ m2, m2 < m1 ∧ I (w64 (n + 1)) H1 m2)) ∧ 
    ((c == c1) = false → K (.int .i64 n) H1)))) ∧ ((decide (n < (if (b.size : Int) < (a.size : Int) then (b.size : Int) else (a.size : Int)))) = false → 
    K (.int .i64 n) H1))
def aJ65 : Ann := (fun _ => none)
def aL65 : Ann := (fun k => if k = 2 then some [(5, (.sc (.int .i64)))] else none)
theorem V65_ok {H : Hp} {a : ByteArray} {b : ByteArray} {K : Value → Hp → Prop} {Z : List PanicEntry → Hp → Prop} (h : V65 H a b K Z) : CallF Try.prog 65 #[.string a, .string b] H K Z :=
  fnC_sound (P := Try.prog) (aJ := aJ65) (aL := aL65) (f := 65) (args := [.string a, .string b]) (Eq.mp (by kernel_rfl) h)
/-- (*weft/pool.Pool).Write -/
def V32 (H : Hp) (p : Addr) (w : Addr) (K : Value → Hp → Prop) (Z : List PanicEntry → Hp → Prop) : Prop :=
  CallF Try.prog 63 #[.pointer (some p)] H (fun r H1 => ∃ y : Sl, r = .slice y.a y.n y.c ∧ CallF Try.prog 64 #[.pointer (some w), .int .i64 (y.n : Int)] H1 (fun r1 H2 => 
    r1 = .tuple #[] ∧ ∃ I : ByteArray → Int → Hp → Nat → Prop, (∃ m, I ⟨#[]⟩ 0 H2 m) ∧ ∀ (last : ByteArray) (t17 : Int), ∀ H3 m1, I last t17 H3 m1 → 
    ∀ scr : Nat → Value, (((decide (t17 < (y.n : Int))) = true → IxA y.a y.n t17 1 fun ad => (∃ x : ByteArray, hcell H3 ad = some (.string x) ∧ 
    CallF Try.prog 65 #[.string last, .string x] H3 (fun r2 H4 => ∃ y1 : Int, r2 = .int .i64 y1 ∧ CallF Try.prog 64 #[.pointer (some w), .int .i64 y1] H4 (fun r3 H5 => 
    r3 = .tuple #[] ∧ SlS x y1 (x.size : Int) fun cut => (CallF Try.prog 66 #[.pointer (some w), .string cut] H5 (fun r4 H6 => 
    r4 = .tuple #[] ∧ (∃ m2, m2 < m1 ∧ I x (w64 (t17 + 1)) H6 m2)) Z)) Z) Z)) ∧ ((decide (t17 < (y.n : Int))) = false → 
    K (.tuple #[]) H3))) Z) Z
def aJ32 : Ann := (fun _ => none)
def aL32 : Ann := (fun k => if k = 4 then some [(5, (.sc .str)), (17, (.sc (.int .i64)))] else none)
theorem V32_ok {H : Hp} {p : Addr} {w : Addr} {K : Value → Hp → Prop} {Z : List PanicEntry → Hp → Prop} (h : V32 H p w K Z) : CallF Try.prog 32 #[.pointer (some p), .pointer (some w)] H K Z :=
  fnC_sound (P := Try.prog) (aJ := aJ32) (aL := aL32) (f := 32) (args := [.pointer (some p), .pointer (some w)]) (Eq.mp (by kernel_rfl) h)
/-- weft/pool.next -/
def V75 (H : Hp) (last : ByteArray) (n : Int) (rest : ByteArray) (first : Bool) (K : Value → Hp → Prop) (Z : List PanicEntry → Hp → Prop) : Prop :=
  (((decide (n > (last.size : Int))) = true → K (.tuple #[.string ⟨#[]⟩, .int .i64 2]) H) ∧ ((decide (n > (last.size : Int))) = false → 
    SlS last 0 n fun cut => (cut.size + rest.size ≤ 4611686018427387904 ∧ (((decide (((cut ++ rest).size : Int) > 1000)) = true → 
    K (.tuple #[.string ⟨#[]⟩, .int .i64 9]) H) ∧ ((decide (((cut ++ rest).size : Int) > 1000)) = false → 
    (((!first) = true → ((((ltS (cut ++ rest) last) || (beqS (cut ++ rest) last)) = true → K (.tuple #[.string ⟨#[]⟩, .int .i64 13]) H) ∧ 
    (((ltS (cut ++ rest) last) || (beqS (cut ++ rest) last)) = false → CallF Try.prog 65 #[.string last, .string (cut ++ rest)] H (fun r H1 => 
    ∃ y : Int, r = .int .i64 y ∧ (((y != n) = true → K (.tuple #[.string ⟨#[]⟩, .int .i64 3]) H1) ∧ ((y != n) = false → 
    K (.tuple #[.string (cut ++ rest), .int .i64 0]) H1))) Z))) ∧ ((!first) = false → CallF Try.prog 65 #[.string last, .string (cut ++ rest)] H (fun r1 H2 => 
    ∃ y1 : Int, r1 = .int .i64 y1 ∧ (((y1 != n) = true → K (.tuple #[.string ⟨#[]⟩, .int .i64 3]) H2) ∧ 
    ((y1 != n) = false → K (.tuple #[.string (cut ++ rest), .int .i64 0]) H2))) Z)))))))
def aJ75 : Ann := (fun _ => none)
def aL75 : Ann := (fun _ => none)
theorem V75_ok {H : Hp} {last : ByteArray} {n : Int} {rest : ByteArray} {first : Bool} {K : Value → Hp → Prop} {Z : List PanicEntry → Hp → Prop} (h : V75 H last n rest first K Z) : CallF Try.prog 75 #[.string last, .int .i64 n, .string rest, .bool first] H K Z :=
  fnC_sound (P := Try.prog) (aJ := aJ75) (aL := aL75) (f := 75) (args := [.string last, .int .i64 n, .string rest, .bool first]) (Eq.mp (by kernel_rfl) h)
/-- weft/pool.wrong -/
def V73 (H : Hp) (r : Addr) (K : Value → Hp → Prop) (Z : List PanicEntry → Hp → Prop) : Prop :=
  CallF Try.prog 40 #[.pointer (some r)] H (fun r1 H1 => ∃ y_0 : Int, ∃ y_1 : Int, r1 = .tuple #[.int .i64 y_0, .int .i64 y_1] ∧ 
    (((y_1 != 6) = true → K (.int .i64 y_1) H1) ∧ ((y_1 != 6) = false → K (.int .i64 0) H1))) Z
def aJ73 : Ann := (fun _ => none)
def aL73 : Ann := (fun _ => none)
theorem V73_ok {H : Hp} {r : Addr} {K : Value → Hp → Prop} {Z : List PanicEntry → Hp → Prop} (h : V73 H r K Z) : CallF Try.prog 73 #[.pointer (some r)] H K Z :=
  fnC_sound (P := Try.prog) (aJ := aJ73) (aL := aL73) (f := 73) (args := [.pointer (some r)]) (Eq.mp (by kernel_rfl) h)
/-- weft/pool.Read -/
def V39 (H : Hp) (r : Option Addr) (K : Value → Hp → Prop) (Z : List PanicEntry → Hp → Prop) : Prop :=
  (((Option.isNone r) = true → K (.tuple #[.pointer none, .int .i64 7]) H) ∧ ((Option.isNone r) = false → 
    ∀ b H1, Newb H (.cells #[.slice none 0 0] 108) b H1 → CallF Try.prog 71 #[.pointer r] H1 (fun r1 H2 => 
    ∃ y : Int, r1 = .int .i64 y ∧ ∃ J : Hp → Prop, (∀ H3, J  H3 → ∀ scr : Nat → Value, ∃ I : ByteArray → 
    Int → Hp → Nat → Prop, (∃ m, I ⟨#[]⟩ 0 H3 m) ∧ ∀ (last : ByteArray) (i : Int), ∀ H4 m1, I last i H4 m1 → 
    ∀ scr1 : Nat → Value, ∃ J1 : Hp → Prop, (∀ H5, J1  H5 → ∀ scr2 : Nat → Value, CallF Try.prog 71 #[.pointer r] H5 (fun r2 H6 => 
    ∃ y1 : Int, r2 = .int .i64 y1 ∧ CallF Try.prog 74 #[.pointer r] H6 (fun r3 H7 => ∃ y2 : ByteArray, r3 = .string y2 ∧ 
    CallF Try.prog 73 #[.pointer r] H7 (fun r4 H8 => ∃ y3 : Int, r4 = .int .i64 y3 ∧ (((y3 != 0) = true → 
    CallF Try.prog 73 #[.pointer r] H8 (fun r5 H9 => ∃ y4 : Int, r5 = .int .i64 y4 ∧ (((y4 != 0) = true → 
    K (.tuple #[.pointer none, .int .i64 y4]) H9) ∧ ((y4 != 0) = false → K (.tuple #[.pointer (some ⟨b, 0, none⟩), .int .i64 0]) H9))) Z) ∧ 
    ((y3 != 0) = false → CallF Try.prog 75 #[.string last, .int .i64 y1, .string y2, .bool (i == 0)] H8 (fun r6 H10 => 
    ∃ y_0 : ByteArray, ∃ y_1 : Int, r6 = .tuple #[.string y_0, .int .i64 y_1] ∧ CallF Try.prog 72 #[.pointer r, .int .i64 y_1] H10 (fun r7 H11 => 
    r7 = .tuple #[] ∧ ∃ x : Sl, hcell H11 ⟨b, 0, none⟩ = some (.slice x.a x.n x.c) ∧ ∀ b1 H12, Newb H11 (.cells #[.string y_0] 9) b1 H12 → 
    App Try.prog #[47, 47] 47 H12 [.slice x.a x.n x.c, .slice (some ⟨b1, 0, none⟩) 1 1] fun ap H13 => 
    (StL ⟨b, 0, none⟩ 0 [.slice ap.a ap.n ap.c] H13 fun H14 => (∃ m2, m2 < m1 ∧ I y_0 (w64 (i + 1)) H14 m2))) Z) Z))) Z) Z) Z) ∧ 
    (((decide (i < y)) = true → CallF Try.prog 73 #[.pointer r] H4 (fun r8 H15 => ∃ y5 : Int, r8 = .int .i64 y5 ∧ 
    (((y5 == 0) = true → (J1  H15)) ∧ ((y5 == 0) = false → CallF Try.prog 73 #[.pointer r] H15 (fun r9 H16 => 
    ∃ y6 : Int, r9 = .int .i64 y6 ∧ (((y6 != 0) = true → K (.tuple #[.pointer none, .int .i64 y6]) H16) ∧ 
    ((y6 != 0) = false → K (.tuple #[.pointer (some ⟨b, 0, none⟩), .int .i64 0]) H16))) Z))) Z) ∧ ((decide (i < y)) = false → 
    CallF Try.prog 73 #[.pointer r] H4 (fun r10 H17 => ∃ y7 : Int, r10 = .int .i64 y7 ∧ (((y7 != 0) = true → 
    K (.tuple #[.pointer none, .int .i64 y7]) H17) ∧ ((y7 != 0) = false → K (.tuple #[.pointer (some ⟨b, 0, none⟩), .int .i64 0]) H17))) Z))) ∧ 
    (((decide (y > 6000)) = true → CallF Try.prog 72 #[.pointer r, .int .i64 4] H2 (fun r11 H18 => r11 = .tuple #[] ∧ 
    (J  H18)) Z) ∧ ((decide (y > 6000)) = false → (J  H2)))) Z))
def aJ39 : Ann := (fun k => if k = 7 then some [] else if k = 11 then some [] else none)
def aL39 : Ann := (fun k => if k = 9 then some [(6, (.sc .str)), (7, (.sc (.int .i64)))] else none)
theorem V39_ok {H : Hp} {r : Option Addr} {K : Value → Hp → Prop} {Z : List PanicEntry → Hp → Prop} (h : V39 H r K Z) : CallF Try.prog 39 #[.pointer r] H K Z :=
  fnC_sound (P := Try.prog) (aJ := aJ39) (aL := aL39) (f := 39) (args := [.pointer r]) (Eq.mp (by kernel_rfl) h)
/-- weft/weftref25.Shared -/
def V70 (H : Hp) (a : ByteArray) (b : ByteArray) (K : Value → Hp → Prop) (Z : List PanicEntry → Hp → Prop) : Prop :=
  ∃ I : Int → Hp → Nat → Prop, (∃ m, I 0 H m) ∧ ∀ (n : Int), ∀ H1 m1, I n H1 m1 → ∀ scr : Nat → Value, (((decide (n < (a.size : Int))) = true → 
    (((decide (n < (b.size : Int))) = true → IxS a n fun c => (IxS b n fun c1 => (((c == c1) = true → 
    (∃ m2, m2 < m1 ∧ I (w64 (n + 1)) H1 m2)) ∧ ((c == c1) = false → K (.int .i64 n) H1)))) ∧ ((decide (n < (b.size : Int))) = false → 
    K (.int .i64 n) H1))) ∧ ((decide (n < (a.size : Int))) = false → K (.int .i64 n) H1))
def aJ70 : Ann := (fun _ => none)
def aL70 : Ann := (fun k => if k = 2 then some [(5, (.sc (.int .i64)))] else none)
theorem V70_ok {H : Hp} {a : ByteArray} {b : ByteArray} {K : Value → Hp → Prop} {Z : List PanicEntry → Hp → Prop} (h : V70 H a b K Z) : CallF Try.prog 70 #[.string a, .string b] H K Z :=
  fnC_sound (P := Try.prog) (aJ := aJ70) (aL := aL70) (f := 70) (args := [.string a, .string b]) (Eq.mp (by kernel_rfl) h)
/-- weft/weftref25.Bytes -/
def V35 (H : Hp) (l : Sl) (K : Value → Hp → Prop) (Z : List PanicEntry → Hp → Prop) : Prop :=
  CallF Try.prog 69 #[.int .i64 (l.n : Int)] H (fun r H1 => ∃ y : ByteArray, r = .string y ∧ ∃ I : ByteArray → 
    ByteArray → Int → Hp → Nat → Prop, (∃ m, I y ⟨#[]⟩ 0 H1 m) ∧ ∀ (s : ByteArray) (last : ByteArray) (i : Int), ∀ H2 m1, I s last i H2 m1 → 
    ∀ scr : Nat → Value, (((decide (i < (l.n : Int))) = true → IxA l.a l.n i 1 fun ad => (∃ x : ByteArray, hcell H2 ad = some (.string x) ∧ 
    CallF Try.prog 70 #[.string last, .string x] H2 (fun r1 H3 => ∃ y1 : Int, r1 = .int .i64 y1 ∧ IxA l.a l.n i 1 fun ad1 => 
    (IxA l.a l.n i 1 fun ad2 => ((CallF Try.prog 69 #[.int .i64 y1] H3 (fun r2 H4 => ∃ y2 : ByteArray, r2 = .string y2 ∧ 
    (s.size + y2.size ≤ 4611686018427387904 ∧ ∃ x1 : ByteArray, hcell H4 ad1 = some (.string x1) ∧ ((CallF Try.prog 69 #[.int .i64 (w64 ((x1.size : Int) - y1))] H4 (fun r3 H5 => 
    ∃ y3 : ByteArray, r3 = .string y3 ∧ ((s ++ y2).size + y3.size ≤ 4611686018427387904 ∧ ∃ x2 : ByteArray, hcell H5 ad2 = some (.string x2) ∧ 
    SlS x2 y1 (x2.size : Int) fun cut => (((s ++ y2) ++ y3).size + cut.size ≤ 4611686018427387904 ∧ IxA l.a l.n i 1 fun ad3 => 
    (∃ x3 : ByteArray, hcell H5 ad3 = some (.string x3) ∧ (∃ m2, m2 < m1 ∧ I (((s ++ y2) ++ y3) ++ cut) x3 (w64 (i + 1)) H5 m2))))) Z) ∧ 
    (∃ x4 : ByteArray, hcell H4 ad2 = some (.string x4) ∧ SlS x4 y1 (x4.size : Int) fun cut1 => (CallF Try.prog 69 #[.int .i64 (w64 ((x1.size : Int) - y1))] H4 (fun r4 H6 => 
    ∃ y4 : ByteArray, r4 = .string y4 ∧ ((s ++ y2).size + y4.size ≤ 4611686018427387904 ∧ (((s ++ y2) ++ y4).size + cut1.size ≤ 4611686018427387904 ∧ 
    IxA l.a l.n i 1 fun ad4 => (∃ x5 : ByteArray, hcell H6 ad4 = some (.string x5) ∧ (∃ m2, m2 < m1 ∧ 
    I (((s ++ y2) ++ y4) ++ cut1) x5 (w64 (i + 1)) H6 m2))))) Z))))) Z) ∧ (∃ x6 : ByteArray, hcell H3 ad1 = some (.string x6) ∧ 
    ((CallF Try.prog 69 #[.int .i64 y1] H3 (fun r5 H7 => ∃ y5 : ByteArray, r5 = .string y5 ∧ (s.size + y5.size ≤ 4611686018427387904 ∧ 
    ((CallF Try.prog 69 #[.int .i64 (w64 ((x6.size : Int) - y1))] H7 (fun r6 H8 => ∃ y6 : ByteArray, r6 = .string y6 ∧ 
    ((s ++ y5).size + y6.size ≤ 4611686018427387904 ∧ ∃ x7 : ByteArray, hcell H8 ad2 = some (.string x7) ∧ 
    SlS x7 y1 (x7.size : Int) fun cut2 => (((s ++ y5) ++ y6).size + cut2.size ≤ 4611686018427387904 ∧ 
    IxA l.a l.n i 1 fun ad5 => (∃ x8 : ByteArray, hcell H8 ad5 = some (.string x8) ∧ (∃ m2, m2 < m1 ∧ 
    I (((s ++ y5) ++ y6) ++ cut2) x8 (w64 (i + 1)) H8 m2))))) Z) ∧ (∃ x9 : ByteArray, hcell H7 ad2 = some (.string x9) ∧ 
    SlS x9 y1 (x9.size : Int) fun cut3 => (CallF Try.prog 69 #[.int .i64 (w64 ((x6.size : Int) - y1))] H7 (fun r7 H9 => 
    ∃ y7 : ByteArray, r7 = .string y7 ∧ ((s ++ y5).size + y7.size ≤ 4611686018427387904 ∧ (((s ++ y5) ++ y7).size + cut3.size ≤ 4611686018427387904 ∧ 
    IxA l.a l.n i 1 fun ad6 => (∃ x10 : ByteArray, hcell H9 ad6 = some (.string x10) ∧ (∃ m2, m2 < m1 ∧ 
    I (((s ++ y5) ++ y7) ++ cut3) x10 (w64 (i + 1)) H9 m2))))) Z))))) Z) ∧ (∃ x11 : ByteArray, hcell H3 ad2 = some (.string x11) ∧ 
    SlS x11 y1 (x11.size : Int) fun cut4 => (CallF Try.prog 69 #[.int .i64 y1] H3 (fun r8 H10 => ∃ y8 : ByteArray, r8 = .string y8 ∧ 
    (s.size + y8.size ≤ 4611686018427387904 ∧ CallF Try.prog 69 #[.int .i64 (w64 ((x6.size : Int) - y1))] H10 (fun r9 H11 => 
    ∃ y9 : ByteArray, r9 = .string y9 ∧ ((s ++ y8).size + y9.size ≤ 4611686018427387904 ∧ (((s ++ y8) ++ y9).size + cut4.size ≤ 4611686018427387904 ∧ 
    IxA l.a l.n i 1 fun ad7 => (∃ x12 : ByteArray, hcell H11 ad7 = some (.string x12) ∧ (∃ m2, m2 < m1 ∧ 
    I (((s ++ y8) ++ y9) ++ cut4) x12 (w64 (i + 1)) H11 m2))))) Z)) Z)))) ∧ (∃ x13 : ByteArray, hcell H3 ad2 = some (.string x13) ∧ 
    SlS x13 y1 (x13.size : Int) fun cut5 => ((CallF Try.prog 69 #[.int .i64 y1] H3 (fun r10 H12 => ∃ y10 : ByteArray, r10 = .string y10 ∧ 
    (s.size + y10.size ≤ 4611686018427387904 ∧ ∃ x14 : ByteArray, hcell H12 ad1 = some (.string x14) ∧ 
    CallF Try.prog 69 #[.int .i64 (w64 ((x14.size : Int) - y1))] H12 (fun r11 H13 => ∃ y11 : ByteArray, r11 = .string y11 ∧ 
    ((s ++ y10).size + y11.size ≤ 4611686018427387904 ∧ (((s ++ y10) ++ y11).size + cut5.size ≤ 4611686018427387904 ∧ 
    IxA l.a l.n i 1 fun ad8 => (∃ x15 : ByteArray, hcell H13 ad8 = some (.string x15) ∧ (∃ m2, m2 < m1 ∧ 
    I (((s ++ y10) ++ y11) ++ cut5) x15 (w64 (i + 1)) H13 m2))))) Z)) Z) ∧ (∃ x16 : ByteArray, hcell H3 ad1 = some (.string x16) ∧ 
    CallF Try.prog 69 #[.int .i64 y1] H3 (fun r12 H14 => ∃ y12 : ByteArray, r12 = .string y12 ∧ (s.size + y12.size ≤ 4611686018427387904 ∧ 
    CallF Try.prog 69 #[.int .i64 (w64 ((x16.size : Int) - y1))] H14 (fun r13 H15 => ∃ y13 : ByteArray, r13 = .string y13 ∧ 
    ((s ++ y12).size + y13.size ≤ 4611686018427387904 ∧ (((s ++ y12) ++ y13).size + cut5.size ≤ 4611686018427387904 ∧ 
    IxA l.a l.n i 1 fun ad9 => (∃ x17 : ByteArray, hcell H15 ad9 = some (.string x17) ∧ (∃ m2, m2 < m1 ∧ 
    I (((s ++ y12) ++ y13) ++ cut5) x17 (w64 (i + 1)) H15 m2))))) Z)) Z)))))) Z)) ∧ ((decide (i < (l.n : Int))) = false → 
    K (.string s) H2))) Z
def aJ35 : Ann := (fun _ => none)
def aL35 : Ann := (fun k => if k = 4 then some [(3, (.sc .str)), (4, (.sc .str)), (5, (.sc (.int .i64)))] else none)
theorem V35_ok {H : Hp} {l : Sl} {K : Value → Hp → Prop} {Z : List PanicEntry → Hp → Prop} (h : V35 H l K Z) : CallF Try.prog 35 #[.slice l.a l.n l.c] H K Z :=
  fnC_sound (P := Try.prog) (aJ := aJ35) (aL := aL35) (f := 35) (args := [.slice l.a l.n l.c]) (Eq.mp (by kernel_rfl) h)
/-- weft/weftref25.Of -/
def V29 (H : Hp) (l : Sl) (K : Value → Hp → Prop) (Z : List PanicEntry → Hp → Prop) : Prop :=
  CallF Try.prog 61 #[.slice l.a l.n l.c] H (fun r H1 => ∃ y : Sl, r = .slice y.a y.n y.c ∧ K (.slice y.a y.n y.c) H1) Z
def aJ29 : Ann := (fun _ => none)
def aL29 : Ann := (fun _ => none)
theorem V29_ok {H : Hp} {l : Sl} {K : Value → Hp → Prop} {Z : List PanicEntry → Hp → Prop} (h : V29 H l K Z) : CallF Try.prog 29 #[.slice l.a l.n l.c] H K Z :=
  fnC_sound (P := Try.prog) (aJ := aJ29) (aL := aL29) (f := 29) (args := [.slice l.a l.n l.c]) (Eq.mp (by kernel_rfl) h)
/-- weft/weftlaw25.great -/
def V27 (H : Hp) (l : Sl) (K : Value → Hp → Prop) (Z : List PanicEntry → Hp → Prop) : Prop :=
  ∃ I : Int → Int → Hp → Nat → Prop, (∃ m, I 0 0 H m) ∧ ∀ (n : Int) (i : Int), ∀ H1 m1, I n i H1 m1 → 
    ∀ scr : Nat → Value, (((decide (i < (l.n : Int))) = true → IxA l.a l.n i 1 fun ad => (∃ x : ByteArray, hcell H1 ad = some (.string x) ∧ 
    (((decide (i ≥ 100)) = true → K (.bool true) H1) ∧ ((decide (i ≥ 100)) = false → (((decide ((w64 (n + (x.size : Int))) > 20000)) = true → 
    K (.bool true) H1) ∧ ((decide ((w64 (n + (x.size : Int))) > 20000)) = false → (∃ m2, m2 < m1 ∧ I (w64 (n + (x.size : Int))) (w64 (i + 1)) H1 m2))))))) ∧ 
    ((decide (i < (l.n : Int))) = false → K (.bool false) H1))
def aJ27 : Ann := (fun _ => none)
def aL27 : Ann := (fun k => if k = 3 then some [(3, (.sc (.int .i64))), (4, (.sc (.int .i64)))] else none)
theorem V27_ok {H : Hp} {l : Sl} {K : Value → Hp → Prop} {Z : List PanicEntry → Hp → Prop} (h : V27 H l K Z) : CallF Try.prog 27 #[.slice l.a l.n l.c] H K Z :=
  fnC_sound (P := Try.prog) (aJ := aJ27) (aL := aL27) (f := 27) (args := [.slice l.a l.n l.c]) (Eq.mp (by kernel_rfl) h)
/-- weft/weftlaw25.same -/
def V34 (H : Hp) (p : Addr) (l : Sl) (K : Value → Hp → Prop) (Z : List PanicEntry → Hp → Prop) : Prop :=
  CallF Try.prog 36 #[.pointer (some p)] H (fun r H1 => ∃ y : Int, r = .int .i64 y ∧ (((y != (l.n : Int)) = true → 
    K (.bool false) H1) ∧ ((y != (l.n : Int)) = false → ∃ I : Int → Hp → Nat → Prop, (∃ m, I 0 H1 m) ∧ 
    ∀ (i : Int), ∀ H2 m1, I i H2 m1 → ∀ scr : Nat → Value, (((decide (i < (l.n : Int))) = true → CallF Try.prog 68 #[.pointer (some p), .int .i64 i] H2 (fun r1 H3 => 
    ∃ y_0 : ByteArray, ∃ y_1 : Bool, r1 = .tuple #[.string y_0, .bool y_1] ∧ IxA l.a l.n i 1 fun ad => 
    (∃ x : ByteArray, hcell H3 ad = some (.string x) ∧ CallF Try.prog 30 #[.pointer (some p), .string x] H3 (fun r2 H4 => 
    ∃ y_01 : Int, ∃ y_11 : Bool, r2 = .tuple #[.int .i64 y_01, .bool y_11] ∧ IxA l.a l.n i 1 fun ad1 => 
    (∃ x1 : ByteArray, hcell H4 ad1 = some (.string x1) ∧ (((!(beqS y_0 x1)) = true → K (.bool false) H4) ∧ 
    ((!(beqS y_0 x1)) = false → (((!y_1) = true → K (.bool false) H4) ∧ ((!y_1) = false → (((y_01 != i) = true → 
    K (.bool false) H4) ∧ ((y_01 != i) = false → (((!y_11) = true → K (.bool false) H4) ∧ ((!y_11) = false → 
    (∃ m2, m2 < m1 ∧ I (w64 (i + 1)) H4 m2))))))))))) Z)) Z) ∧ ((decide (i < (l.n : Int))) = false → 
    CallF Try.prog 68 #[.pointer (some p), .int .i64 (l.n : Int)] H2 (fun r3 H5 => ∃ y_02 : ByteArray, ∃ y_12 : Bool, r3 = .tuple #[.string y_02, .bool y_12] ∧ 
    CallF Try.prog 68 #[.pointer (some p), .int .i64 (-1)] H5 (fun r4 H6 => ∃ y_03 : ByteArray, ∃ y_13 : Bool, r4 = .tuple #[.string y_03, .bool y_13] ∧ 
    (((!y_12) = true → K (.bool (!y_13)) H6) ∧ ((!y_12) = false → K (.bool false) H6))) Z) Z))))) Z
def aJ34 : Ann := (fun _ => none)
def aL34 : Ann := (fun k => if k = 4 then some [(5, (.sc (.int .i64)))] else none)
theorem V34_ok {H : Hp} {p : Addr} {l : Sl} {K : Value → Hp → Prop} {Z : List PanicEntry → Hp → Prop} (h : V34 H p l K Z) : CallF Try.prog 34 #[.pointer (some p), .slice l.a l.n l.c] H K Z :=
  fnC_sound (P := Try.prog) (aJ := aJ34) (aL := aL34) (f := 34) (args := [.pointer (some p), .slice l.a l.n l.c]) (Eq.mp (by kernel_rfl) h)
/-- weft/weftlaw25.PoolOf -/
def V6 (H : Hp) (l : Sl) (ask : ByteArray) (K : Value → Hp → Prop) (Z : List PanicEntry → Hp → Prop) : Prop :=
  CallF Try.prog 27 #[.slice l.a l.n l.c] H (fun r H1 => ∃ y : Bool, r = .bool y ∧ ((y = true → K (.bool true) H1) ∧ 
    (y = false → ∀ b H2, Newb H1 (.cells #[] 9) b H2 → App Try.prog #[47, 47] 47 H2 [.slice (some ⟨b, 0, none⟩) 0 0, .slice l.a l.n l.c] fun ap H3 => 
    (CallF Try.prog 28 #[.slice ap.a ap.n ap.c] H3 (fun r1 H4 => ∃ y1 : Option Addr, r1 = .pointer y1 ∧ 
    CallF Try.prog 29 #[.slice l.a l.n l.c] H4 (fun r2 H5 => ∃ y2 : Sl, r2 = .slice y2.a y2.n y2.c ∧ 
    CallF Try.prog 30 #[.pointer y1, .string ask] H5 (fun r3 H6 => ∃ y_0 : Int, ∃ y_1 : Bool, r3 = .tuple #[.int .i64 y_0, .bool y_1] ∧ 
    CallF Try.prog 31 #[.slice y2.a y2.n y2.c, .string ask] H6 (fun r4 H7 => ∃ y3 : Int, r4 = .int .i64 y3 ∧ 
    ∀ b1 H8, Newb H7 (.cells #[.pointer none, .slice none 0 0, .int .i64 0] 71) b1 H8 → CallF Try.prog 32 #[.pointer y1, .pointer (some ⟨b1, 0, none⟩)] H8 (fun r5 H9 => 
    r5 = .tuple #[] ∧ CallF Try.prog 33 #[.pointer (some ⟨b1, 0, none⟩)] H9 (fun r6 H10 => ∃ y_01 : ByteArray, ∃ y_11 : Int, r6 = .tuple #[.string y_01, .int .i64 y_11] ∧ 
    CallF Try.prog 30 #[.pointer none, .string ask] H10 (fun r7 H11 => ∃ y_02 : Int, ∃ y_12 : Bool, r7 = .tuple #[.int .i64 y_02, .bool y_12] ∧ 
    CallF Try.prog 34 #[.pointer y1, .slice y2.a y2.n y2.c] H11 (fun r8 H12 => ∃ y4 : Bool, r8 = .bool y4 ∧ 
    ((y4 = true → (((y_1 == (decide (y3 ≥ 0))) = true → (((y_0 == (if y3 < 0 then 0 else y3)) = true → 
    CallF Try.prog 35 #[.slice y2.a y2.n y2.c] H12 (fun r9 H13 => ∃ y5 : ByteArray, r9 = .string y5 ∧ 
    (((beqS y_01 y5) = true → (((y_11 == 0) = true → CallF Try.prog 36 #[.pointer none] H13 (fun r10 H14 => 
    ∃ y6 : Int, r10 = .int .i64 y6 ∧ (((y6 == 0) = true → (((!y_12) = true → CallF Try.prog 37 #[] H14 (fun r11 H15 => 
    ∃ y7 : Bool, r11 = .bool y7 ∧ K (.bool y7) H15) Z) ∧ ((!y_12) = false → K (.bool false) H14))) ∧ 
    ((y6 == 0) = false → K (.bool false) H14))) Z) ∧ ((y_11 == 0) = false → K (.bool false) H13))) ∧ 
    ((beqS y_01 y5) = false → K (.bool false) H13))) Z) ∧ ((y_0 == (if y3 < 0 then 0 else y3)) = false → 
    K (.bool false) H12))) ∧ ((y_1 == (decide (y3 ≥ 0))) = false → K (.bool false) H12))) ∧ (y4 = false → 
    K (.bool false) H12))) Z) Z) Z) Z) Z) Z) Z) Z)))) Z
def aJ6 : Ann := (fun _ => none)
def aL6 : Ann := (fun _ => none)
theorem V6_ok {H : Hp} {l : Sl} {ask : ByteArray} {K : Value → Hp → Prop} {Z : List PanicEntry → Hp → Prop} (h : V6 H l ask K Z) : CallF Try.prog 6 #[.slice l.a l.n l.c, .string ask] H K Z :=
  fnC_sound (P := Try.prog) (aJ := aJ6) (aL := aL6) (f := 6) (args := [.slice l.a l.n l.c, .string ask]) (Eq.mp (by kernel_rfl) h)
/-- weft/weftlaw25.PoolBack -/
def V7 (H : Hp) (l : Sl) (more : ByteArray) (s : ByteArray) (K : Value → Hp → Prop) (Z : List PanicEntry → Hp → Prop) : Prop :=
  CallF Try.prog 37 #[] H (fun r H1 => ∃ y : Bool, r = .bool y ∧ (((!y) = true → K (.bool false) H1) ∧ 
    ((!y) = false → ∃ J : Hp → Prop, (∀ H2, J  H2 → ∀ scr : Nat → Value, ∃ I : Int → Hp → Nat → Prop, (∃ m, I 0 H2 m) ∧ 
    ∀ (i : Int), ∀ H3 m1, I i H3 m1 → ∀ scr1 : Nat → Value, (((decide (i < (l.n : Int))) = true → IxA l.a l.n i 1 fun ad => 
    (∃ x : ByteArray, hcell H3 ad = some (.string x) ∧ (((decide ((x.size : Int) > 1000)) = true → K (.bool true) H3) ∧ 
    ((decide ((x.size : Int) > 1000)) = false → (∃ m2, m2 < m1 ∧ I (w64 (i + 1)) H3 m2))))) ∧ ((decide (i < (l.n : Int))) = false → 
    ∀ b H4, Newb H3 (.cells #[.pointer none, .slice none 0 0, .int .i64 0] 71) b H4 → CallF Try.prog 28 #[.slice l.a l.n l.c] H4 (fun r1 H5 => 
    ∃ y1 : Option Addr, r1 = .pointer y1 ∧ CallF Try.prog 32 #[.pointer y1, .pointer (some ⟨b, 0, none⟩)] H5 (fun r2 H6 => 
    r2 = .tuple #[] ∧ CallF Try.prog 33 #[.pointer (some ⟨b, 0, none⟩)] H6 (fun r3 H7 => ∃ y_0 : ByteArray, ∃ y_1 : Int, r3 = .tuple #[.string y_0, .int .i64 y_1] ∧ 
    (y_0.size + more.size ≤ 4611686018427387904 ∧ CallF Try.prog 38 #[.string (y_0 ++ more)] H7 (fun r4 H8 => 
    ∃ y2 : Option Addr, r4 = .pointer y2 ∧ ∃ J1 : Hp → Prop, (∀ H9, J1  H9 → ∀ scr2 : Nat → Value, CallF Try.prog 39 #[.pointer y2] H9 (fun r5 H10 => 
    ∃ y_01 : Option Addr, ∃ y_11 : Int, r5 = .tuple #[.pointer y_01, .int .i64 y_11] ∧ CallF Try.prog 40 #[.pointer y2] H10 (fun r6 H11 => 
    ∃ y_02 : Int, ∃ y_12 : Int, r6 = .tuple #[.int .i64 y_02, .int .i64 y_12] ∧ ∃ J2 : Hp → Prop, (∀ H12, J2  H12 → 
    ∀ scr3 : Nat → Value, CallF Try.prog 38 #[.string s] H12 (fun r7 H13 => ∃ y3 : Option Addr, r7 = .pointer y3 ∧ 
    (((Option.isNone y3) = true → K (.bool false) H13) ∧ ((Option.isNone y3) = false → CallF Try.prog 39 #[.pointer y3] H13 (fun r8 H14 => 
    ∃ y_03 : Option Addr, ∃ y_13 : Int, r8 = .tuple #[.pointer y_03, .int .i64 y_13] ∧ CallF Try.prog 40 #[.pointer y3] H14 (fun r9 H15 => 
    ∃ y_04 : Int, ∃ y_14 : Int, r9 = .tuple #[.int .i64 y_04, .int .i64 y_14] ∧ (((y_13 != 0) = true → 
    K (.bool (Option.isNone y_03)) H15) ∧ ((y_13 != 0) = false → ∀ b1 H16, Newb H15 (.cells #[.pointer none, .slice none 0 0, .int .i64 0] 71) b1 H16 → 
    CallF Try.prog 32 #[.pointer y_03, .pointer (some ⟨b1, 0, none⟩)] H16 (fun r10 H17 => r10 = .tuple #[] ∧ 
    CallF Try.prog 33 #[.pointer (some ⟨b1, 0, none⟩)] H17 (fun r11 H18 => ∃ y_05 : ByteArray, ∃ y_15 : Int, r11 = .tuple #[.string y_05, .int .i64 y_15] ∧ 
    (((y_15 == 0) = true → (((decide (y_04 ≤ (s.size : Int))) = true → SlS s 0 y_04 fun cut => (K (.bool (beqS y_05 cut)) H18)) ∧ 
    ((decide (y_04 ≤ (s.size : Int))) = false → K (.bool false) H18))) ∧ ((y_15 == 0) = false → K (.bool false) H18))) Z) Z))) Z) Z))) Z) ∧ 
    (((y_11 != 0) = true → K (.bool false) H11) ∧ ((y_11 != 0) = false → (((y_02 != (y_0.size : Int)) = true → 
    K (.bool false) H11) ∧ ((y_02 != (y_0.size : Int)) = false → CallF Try.prog 29 #[.slice l.a l.n l.c] H11 (fun r12 H19 => 
    ∃ y4 : Sl, r12 = .slice y4.a y4.n y4.c ∧ CallF Try.prog 34 #[.pointer y_01, .slice y4.a y4.n y4.c] H19 (fun r13 H20 => 
    ∃ y5 : Bool, r13 = .bool y5 ∧ (((!y5) = true → K (.bool false) H20) ∧ ((!y5) = false → (J2  H20)))) Z) Z))))) Z) Z) ∧ 
    (((y_1 != 0) = true → K (.bool false) H8) ∧ ((y_1 != 0) = false → (((Option.isNone y2) = true → K (.bool false) H8) ∧ 
    ((Option.isNone y2) = false → (J1  H8)))))) Z)) Z) Z) Z))) ∧ CallF Try.prog 27 #[.slice l.a l.n l.c] H1 (fun r14 H21 => 
    ∃ y6 : Bool, r14 = .bool y6 ∧ ((y6 = true → K (.bool true) H21) ∧ (y6 = false → ∀ b2 H22, Newb H21 (.cells #[.string more, .string s] 9) b2 H22 → 
    CallF Try.prog 27 #[.slice (some ⟨b2, 0, none⟩) 2 2] H22 (fun r15 H23 => ∃ y7 : Bool, r15 = .bool y7 ∧ 
    ((y7 = true → K (.bool true) H23) ∧ (y7 = false → (J  H23)))) Z))) Z))) Z
def aJ7 : Ann := (fun k => if k = 5 then some [] else if k = 16 then some [] else if k = 20 then some [] else none)
def aL7 : Ann := (fun k => if k = 6 then some [(7, (.sc (.int .i64)))] else none)
theorem V7_ok {H : Hp} {l : Sl} {more : ByteArray} {s : ByteArray} {K : Value → Hp → Prop} {Z : List PanicEntry → Hp → Prop} (h : V7 H l more s K Z) : CallF Try.prog 7 #[.slice l.a l.n l.c, .string more, .string s] H K Z :=
  fnC_sound (P := Try.prog) (aJ := aJ7) (aL := aL7) (f := 7) (args := [.slice l.a l.n l.c, .string more, .string s]) (Eq.mp (by kernel_rfl) h)
/-- weft/weftlaw25.works -/
def V37 (H : Hp)  (K : Value → Hp → Prop) (Z : List PanicEntry → Hp → Prop) : Prop :=
  ∀ b H1, Newb H (.cells #[.pointer none, .slice none 0 0, .int .i64 0] 71) b H1 → ∀ b1 H2, Newb H1 (.cells #[.string ⟨#[98]⟩, .string ⟨#[97, 98]⟩, .string ⟨#[97]⟩] 9) b1 H2 → 
    CallF Try.prog 28 #[.slice (some ⟨b1, 0, none⟩) 3 3] H2 (fun r H3 => ∃ y : Option Addr, r = .pointer y ∧ 
    CallF Try.prog 32 #[.pointer y, .pointer (some ⟨b, 0, none⟩)] H3 (fun r1 H4 => r1 = .tuple #[] ∧ 
    CallF Try.prog 33 #[.pointer (some ⟨b, 0, none⟩)] H4 (fun r2 H5 => ∃ y_0 : ByteArray, ∃ y_1 : Int, r2 = .tuple #[.string y_0, .int .i64 y_1] ∧ 
    (((y_1 == 0) = true → K (.bool (beqS y_0 ⟨#[3, 0, 1, 97, 1, 1, 98, 0, 1, 98]⟩)) H5) ∧ ((y_1 == 0) = false → 
    K (.bool false) H5))) Z) Z) Z
def aJ37 : Ann := (fun _ => none)
def aL37 : Ann := (fun _ => none)
theorem V37_ok {H : Hp}  {K : Value → Hp → Prop} {Z : List PanicEntry → Hp → Prop} (h : V37 H  K Z) : CallF Try.prog 37 #[] H K Z :=
  fnC_sound (P := Try.prog) (aJ := aJ37) (aL := aL37) (f := 37) (args := []) (Eq.mp (by kernel_rfl) h)
/-- slices.BinarySearch[[]string,string] -/
def V62 (H : Hp) (x : Sl) (target : ByteArray) (K : Value → Hp → Prop) (Z : List PanicEntry → Hp → Prop) : Prop :=
  ∃ I : Int → Int → Hp → Nat → Prop, (∃ m, I 0 (x.n : Int) H m) ∧ ∀ (i : Int) (j : Int), ∀ H1 m1, I i j H1 m1 → 
    ∀ scr : Nat → Value, (((decide (i < j)) = true → IxA x.a x.n (w64 (Int.fdiv (IntKind.wrap .u64 (w64 (i + j))) (2 ^ 1))) 1 fun ad => 
    (∃ x1 : ByteArray, hcell H1 ad = some (.string x1) ∧ CallF Try.prog 102 #[.string x1, .string target] H1 (fun r H2 => 
    ∃ y : Bool, r = .bool y ∧ ((y = true → (∃ m2, m2 < m1 ∧ I (w64 ((w64 (Int.fdiv (IntKind.wrap .u64 (w64 (i + j))) (2 ^ 1))) + 1)) j H2 m2)) ∧ 
    (y = false → (∃ m2, m2 < m1 ∧ I i (w64 (Int.fdiv (IntKind.wrap .u64 (w64 (i + j))) (2 ^ 1))) H2 m2)))) Z)) ∧ 
    ((decide (i < j)) = false → (((decide (i < (x.n : Int))) = true → IxA x.a x.n i 1 fun ad1 => (∃ x2 : ByteArray, hcell H1 ad1 = some (.string x2) ∧ 
    (((beqS x2 target) = true → K (.tuple #[.int .i64 i, .bool true]) H1) ∧ ((beqS x2 target) = false → 
    IxA x.a x.n i 1 fun ad2 => (∃ x3 : ByteArray, hcell H1 ad2 = some (.string x3) ∧ CallF Try.prog 103 #[.string x3] H1 (fun r1 H3 => 
    ∃ y1 : Bool, r1 = .bool y1 ∧ ((y1 = true → CallF Try.prog 103 #[.string target] H3 (fun r2 H4 => 
    ∃ y2 : Bool, r2 = .bool y2 ∧ K (.tuple #[.int .i64 i, .bool y2]) H4) Z) ∧ (y1 = false → K (.tuple #[.int .i64 i, .bool false]) H3))) Z))))) ∧ 
    ((decide (i < (x.n : Int))) = false → K (.tuple #[.int .i64 i, .bool false]) H1))))
def aJ62 : Ann := (fun _ => none)
def aL62 : Ann := (fun k => if k = 3 then some [(7, (.sc (.int .i64))), (8, (.sc (.int .i64)))] else none)
theorem V62_ok {H : Hp} {x : Sl} {target : ByteArray} {K : Value → Hp → Prop} {Z : List PanicEntry → Hp → Prop} (h : V62 H x target K Z) : CallF Try.prog 62 #[.slice x.a x.n x.c, .string target] H K Z :=
  fnC_sound (P := Try.prog) (aJ := aJ62) (aL := aL62) (f := 62) (args := [.slice x.a x.n x.c, .string target]) (Eq.mp (by kernel_rfl) h)
/-- cmp.Less[string] -/
def V102 (H : Hp) (x : ByteArray) (y : ByteArray) (K : Value → Hp → Prop) (Z : List PanicEntry → Hp → Prop) : Prop :=
  CallF Try.prog 140 #[.string x] H (fun r H1 => ∃ y1 : Bool, r = .bool y1 ∧ ((y1 = true → CallF Try.prog 140 #[.string y] H1 (fun r1 H2 => 
    ∃ y2 : Bool, r1 = .bool y2 ∧ (((!y2) = true → K (.bool true) H2) ∧ ((!y2) = false → K (.bool (ltS x y)) H2))) Z) ∧ 
    (y1 = false → K (.bool (ltS x y)) H1))) Z
def aJ102 : Ann := (fun _ => none)
def aL102 : Ann := (fun _ => none)
theorem V102_ok {H : Hp} {x : ByteArray} {y : ByteArray} {K : Value → Hp → Prop} {Z : List PanicEntry → Hp → Prop} (h : V102 H x y K Z) : CallF Try.prog 102 #[.string x, .string y] H K Z :=
  fnC_sound (P := Try.prog) (aJ := aJ102) (aL := aL102) (f := 102) (args := [.string x, .string y]) (Eq.mp (by kernel_rfl) h)
/-- slices.isNaN[string] -/
def V103 (H : Hp) (x : ByteArray) (K : Value → Hp → Prop) (Z : List PanicEntry → Hp → Prop) : Prop :=
  K (.bool (!(beqS x x))) H
def aJ103 : Ann := (fun _ => none)
def aL103 : Ann := (fun _ => none)
theorem V103_ok {H : Hp} {x : ByteArray} {K : Value → Hp → Prop} {Z : List PanicEntry → Hp → Prop} (h : V103 H x K Z) : CallF Try.prog 103 #[.string x] H K Z :=
  fnC_sound (P := Try.prog) (aJ := aJ103) (aL := aL103) (f := 103) (args := [.string x]) (Eq.mp (by kernel_rfl) h)
end Go.Proofs.Ytigbdoicgdmliaa.N25

