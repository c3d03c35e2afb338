import Derived.Test.YtigbdoicgdmliaaZ05
import Derived.Test.YtigbdoicgdmliaaProg
section
/- The conditions of pool's functions, and of weftref25's and weftlaw25's (printed by our own program vn.py; the kernel checks each against V5's comp). -/
set_option linter.unusedVariables false
set_option maxRecDepth 100000
-- of: 28
-- list: 63
-- number: 30
-- pat: 68
-- len: 36
-- shared: 65
-- write: 32
-- next: 75
-- wrong: 73
-- read: 39
-- rShared: 70
-- rBytes: 35
-- rOf: 29
-- great: 27
-- same: 34
-- lawOf: 6
-- lawBack: 7
-- works: 37
-- bs: 62
-- less: 102
-- nan: 103
namespace Go.Proofs.Ytigbdoicgdmliaa.N25
open Go Go.V Go.Proofs
/-- weft/pool.Of -/
def V28 (H : Hp) (l : Sl) (K : Value → Hp → Prop) (Z : List PanicEntry → Hp → Prop) : Prop :=
  CallF Try.prog 60 #[.slice l.a l.n l.c] H (fun r H1 => ∃ y : Sl, r = .slice y.a y.n y.c ∧ ∀ b H2, Newb H1 (.cells #[.slice y.a y.n y.c] 108) b H2 → 
    K (.pointer (some ⟨b, 0, none⟩)) H2) Z
def aJ28 : Ann := (fun _ => none)
def aL28 : Ann := (fun _ => none)
theorem V28_ok {H : Hp} {l : Sl} {K : Value → Hp → Prop} {Z : List PanicEntry → Hp → Prop} (h : V28 H l K Z) : CallF Try.prog 28 #[.slice l.a l.n l.c] H K Z :=
  fnC_sound (P := Try.prog) (aJ := aJ28) (aL := aL28) (f := 28) (args := [.slice l.a l.n l.c]) (Eq.mp (by kernel_rfl) h)
/-- (*weft/pool.Pool).list -/
def V63 (H : Hp) (p : Option Addr) (K : Value → Hp → Prop) (Z : List PanicEntry → Hp → Prop) : Prop :=
  (((Option.isNone p) = true → K (.slice none 0 0) H) ∧ ((Option.isNone p) = false → nilck p fun ad => 
    (∃ x : Sl, hcell H ad = some (.slice x.a x.n x.c) ∧ K (.slice x.a x.n x.c) H)))
def aJ63 : Ann := (fun _ => none)
def aL63 : Ann := (fun _ => none)
theorem V63_ok {H : Hp} {p : Option Addr} {K : Value → Hp → Prop} {Z : List PanicEntry → Hp → Prop} (h : V63 H p K Z) : CallF Try.prog 63 #[.pointer p] H K Z :=
  fnC_sound (P := Try.prog) (aJ := aJ63) (aL := aL63) (f := 63) (args := [.pointer p]) (Eq.mp (by kernel_rfl) h)
/-- (*weft/pool.Pool).Number -/
def V30 (H : Hp) (p : Option Addr) (s : ByteArray) (K : Value → Hp → Prop) (Z : List PanicEntry → Hp → Prop) : Prop :=
  CallF Try.prog 63 #[.pointer p] H (fun r H1 => ∃ y : Sl, r = .slice y.a y.n y.c ∧ CallF Try.prog 62 #[.slice y.a y.n y.c, .string s] H1 (fun r1 H2 => 
    ∃ y_0 : Int, ∃ y_1 : Bool, r1 = .tuple #[.int .i64 y_0, .bool y_1] ∧ (((!y_1) = true → K (.tuple #[.int .i64 0, .bool false]) H2) ∧ 
    ((!y_1) = false → K (.tuple #[.int .i64 y_0, .bool true]) H2))) Z) Z
def aJ30 : Ann := (fun _ => none)
def aL30 : Ann := (fun _ => none)
theorem V30_ok {H : Hp} {p : Option Addr} {s : ByteArray} {K : Value → Hp → Prop} {Z : List PanicEntry → Hp → Prop} (h : V30 H p s K Z) : CallF Try.prog 30 #[.pointer p, .string s] H K Z :=
  fnC_sound (P := Try.prog) (aJ := aJ30) (aL := aL30) (f := 30) (args := [.pointer p, .string s]) (Eq.mp (by kernel_rfl) h)
/-- (*weft/pool.Pool).At -/
def V68 (H : Hp) (p : Addr) (n : Int) (K : Value → Hp → Prop) (Z : List PanicEntry → Hp → Prop) : Prop :=
  CallF Try.prog 63 #[.pointer (some p)] H (fun r H1 => ∃ y : Sl, r = .slice y.a y.n y.c ∧ (((decide (n ≥ 0)) = true → 
    (((decide (n < (y.n : Int))) = true → IxA y.a y.n n 1 fun ad => (∃ x : ByteArray, hcell H1 ad = some (.string x) ∧ 
    K (.tuple #[.string x, .bool true]) H1)) ∧ ((decide (n < (y.n : Int))) = false → K (.tuple #[.string ⟨#[]⟩, .bool false]) H1))) ∧ 
    ((decide (n ≥ 0)) = false → K (.tuple #[.string ⟨#[]⟩, .bool false]) H1))) Z
def aJ68 : Ann := (fun _ => none)
def aL68 : Ann := (fun _ => none)
theorem V68_ok {H : Hp} {p : Addr} {n : Int} {K : Value → Hp → Prop} {Z : List PanicEntry → Hp → Prop} (h : V68 H p n K Z) : CallF Try.prog 68 #[.pointer (some p), .int .i64 n] H K Z :=
  fnC_sound (P := Try.prog) (aJ := aJ68) (aL := aL68) (f := 68) (args := [.pointer (some p), .int .i64 n]) (Eq.mp (by kernel_rfl) h)
/-- (*weft/pool.Pool).Len -/
def V36 (H : Hp) (p : Option Addr) (K : Value → Hp → Prop) (Z : List PanicEntry → Hp → Prop) : Prop :=
  CallF Try.prog 63 #[.pointer p] H (fun r H1 => ∃ y : Sl, r = .slice y.a y.n y.c ∧ K (.int .i64 (y.n : Int)) H1) Z
def aJ36 : Ann := (fun _ => none)
def aL36 : Ann := (fun _ => none)
theorem V36_ok {H : Hp} {p : Option Addr} {K : Value → Hp → Prop} {Z : List PanicEntry → Hp → Prop} (h : V36 H p K Z) : CallF Try.prog 36 #[.pointer p] H K Z :=
  fnC_sound (P := Try.prog) (aJ := aJ36) (aL := aL36) (f := 36) (args := [.pointer p]) (Eq.mp (by kernel_rfl) h)
/-- weft/pool.shared -/
def V65 (H : Hp) (a : ByteArray) (b : ByteArray) (K : Value → Hp → Prop) (Z : List PanicEntry → Hp → Prop) : Prop :=
  ∃ I : Int → Hp → Nat → Prop, (∃ m, I 0 H m) ∧ ∀ (n : Int), ∀ H1 m1, I n H1 m1 → ∀ scr : Nat → Value, (((decide (n < (if (b.size : Int) < (a.size : Int) then (b.size : Int) else (a.size : Int)))) = true → 
    IxS a n fun c => (IxS b n fun c1 => (((c == c1) = true → (∃ m2, m2 < m1 ∧ I (w64 (n + 1)) H1 m2)) ∧ 
    ((c == c1) = false → K (.int .i64 n) H1)))) ∧ ((decide (n < (if (b.size : Int) < (a.size : Int) then (b.size : Int) else (a.size : Int)))) = false → 
    K (.int .i64 n) H1))
def aJ65 : Ann := (fun _ => none)
def aL65 : Ann := (fun k => if k = 2 then some [(5, (.sc (.int .i64)))] else none)
theorem V65_ok {H : Hp} {a : ByteArray} {b : ByteArray} {K : Value → Hp → Prop} {Z : List PanicEntry → Hp → Prop} (h : V65 H a b K Z) : CallF Try.prog 65 #[.string a, .string b] H K Z :=
  fnC_sound (P := Try.prog) (aJ := aJ65) (aL := aL65) (f := 65) (args := [.string a, .string b]) (Eq.mp (by kernel_rfl) h)
/-- (*weft/pool.Pool).Write -/
def V32 (H : Hp) (p : Addr) (w : Addr) (K : Value → Hp → Prop) (Z : List PanicEntry → Hp → Prop) : Prop :=
  CallF Try.prog 63 #[.pointer (some p)] H (fun r H1 => ∃ y : Sl, r = .slice y.a y.n y.c ∧ CallF Try.prog 64 #[.pointer (some w), .int .i64 (y.n : Int)] H1 (fun r1 H2 => 
    r1 = .tuple #[] ∧ ∃ I : ByteArray → Int → Hp → Nat → Prop, (∃ m, I ⟨#[]⟩ 0 H2 m) ∧ ∀ (last : ByteArray) (t17 : Int), ∀ H3 m1, I last t17 H3 m1 → 
    ∀ scr : Nat → Value, (((decide (t17 < (y.n : Int))) = true → IxA y.a y.n t17 1 fun ad => (∃ x : ByteArray, hcell H3 ad = some (.string x) ∧ 
    CallF Try.prog 65 #[.string last, .string x] H3 (fun r2 H4 => ∃ y1 : Int, r2 = .int .i64 y1 ∧ CallF Try.prog 64 #[.pointer (some w), .int .i64 y1] H4 (fun r3 H5 => 
    r3 = .tuple #[] ∧ SlS x y1 (x.size : Int) fun cut => (CallF Try.prog 66 #[.pointer (some w), .string cut] H5 (fun r4 H6 => 
    r4 = .tuple #[] ∧ (∃ m2, m2 < m1 ∧ I x (w64 (t17 + 1)) H6 m2)) Z)) Z) Z)) ∧ ((decide (t17 < (y.n : Int))) = false → 
    K (.tuple #[]) H3))) Z) Z
def aJ32 : Ann := (fun _ => none)
def aL32 : Ann := (fun k => if k = 4 then some [(5, (.sc .str)), (17, (.sc (.int .i64)))] else none)
theorem V32_ok {H : Hp} {p : Addr} {w : Addr} {K : Value → Hp → Prop} {Z : List PanicEntry → Hp → Prop} (h : V32 H p w K Z) : CallF Try.prog 32 #[.pointer (some p), .pointer (some w)] H K Z :=
  fnC_sound (P := Try.prog) (aJ := aJ32) (aL := aL32) (f := 32) (args := [.pointer (some p), .pointer (some w)]) (Eq.mp (by kernel_rfl) h)
/-- weft/pool.next -/
def V75 (H : Hp) (last : ByteArray) (n : Int) (rest : ByteArray) (first : Bool) (K : Value → Hp → Prop) (Z : List PanicEntry → Hp → Prop) : Prop :=
  (((decide (n > (last.size : Int))) = true → K (.tuple #[.string ⟨#[]⟩, .int .i64 2]) H) ∧ ((decide (n > (last.size : Int))) = false → 
    SlS last 0 n fun cut => (cut.size + rest.size ≤ 4611686018427387904 ∧ (((decide (((cut ++ rest).size : Int) > 1000)) = true → 
    K (.tuple #[.string ⟨#[]⟩, .int .i64 9]) H) ∧ ((decide (((cut ++ rest).size : Int) > 1000)) = false → 
    (((!first) = true → ((((ltS (cut ++ rest) last) || (beqS (cut ++ rest) last)) = true → K (.tuple #[.string ⟨#[]⟩, .int .i64 13]) H) ∧ 
    (((ltS (cut ++ rest) last) || (beqS (cut ++ rest) last)) = false → CallF Try.prog 65 #[.string last, .string (cut ++ rest)] H (fun r H1 => 
    ∃ y : Int, r = .int .i64 y ∧ (((y != n) = true → K (.tuple #[.string ⟨#[]⟩, .int .i64 3]) H1) ∧ ((y != n) = false → 
    K (.tuple #[.string (cut ++ rest), .int .i64 0]) H1))) Z))) ∧ ((!first) = false → CallF Try.prog 65 #[.string last, .string (cut ++ rest)] H (fun r1 H2 => 
    ∃ y1 : Int, r1 = .int .i64 y1 ∧ (((y1 != n) = true → K (.tuple #[.string ⟨#[]⟩, .int .i64 3]) H2) ∧ 
    ((y1 != n) = false → K (.tuple #[.string (cut ++ rest), .int .i64 0]) H2))) Z)))))))
def aJ75 : Ann := (fun _ => none)
def aL75 : Ann := (fun _ => none)
theorem V75_ok {H : Hp} {last : ByteArray} {n : Int} {rest : ByteArray} {first : Bool} {K : Value → Hp → Prop} {Z : List PanicEntry → Hp → Prop} (h : V75 H last n rest first K Z) : CallF Try.prog 75 #[.string last, .int .i64 n, .string rest, .bool first] H K Z :=
  fnC_sound (P := Try.prog) (aJ := aJ75) (aL := aL75) (f := 75) (args := [.string last, .int .i64 n, .string rest, .bool first]) (Eq.mp (by kernel_rfl) h)
/-- weft/pool.wrong -/
def V73 (H : Hp) (r : Addr) (K : Value → Hp → Prop) (Z : List PanicEntry → Hp → Prop) : Prop :=
  CallF Try.prog 40 #[.pointer (some r)] H (fun r1 H1 => ∃ y_0 : Int, ∃ y_1 : Int, r1 = .tuple #[.int .i64 y_0, .int .i64 y_1] ∧ 
    (((y_1 != 6) = true → K (.int .i64 y_1) H1) ∧ ((y_1 != 6) = false → K (.int .i64 0) H1))) Z
def aJ73 : Ann := (fun _ => none)
def aL73 : Ann := (fun _ => none)
theorem V73_ok {H : Hp} {r : Addr} {K : Value → Hp → Prop} {Z : List PanicEntry → Hp → Prop} (h : V73 H r K Z) : CallF Try.prog 73 #[.pointer (some r)] H K Z :=
  fnC_sound (P := Try.prog) (aJ := aJ73) (aL := aL73) (f := 73) (args := [.pointer (some r)]) (Eq.mp (by kernel_rfl) h)
/-- weft/pool.Read -/
def V39 (H : Hp) (r : Option Addr) (K : Value → Hp → Prop) (Z : List PanicEntry → Hp → Prop) : Prop :=
  (((Option.isNone r) = true → K (.tuple #[.pointer none, .int .i64 7]) H) ∧ ((Option.isNone r) = false → 
    ∀ b H1, Newb H (.cells #[.slice none 0 0] 108) b H1 → CallF Try.prog 71 #[.pointer r] H1 (fun r1 H2 => 
    ∃ y : Int, r1 = .int .i64 y ∧ ∃ J : Hp → Prop, (∀ H3, J  H3 → ∀ scr : Nat → Value, ∃ I : ByteArray → 
    Int → Hp → Nat → Prop, (∃ m, I ⟨#[]⟩ 0 H3 m) ∧ ∀ (last : ByteArray) (i : Int), ∀ H4 m1, I last i H4 m1 → 
    ∀ scr1 : Nat → Value, ∃ J1 : Hp → Prop, (∀ H5, J1  H5 → ∀ scr2 : Nat → Value, CallF Try.prog 71 #[.pointer r] H5 (fun r2 H6 => 
    ∃ y1 : Int, r2 = .int .i64 y1 ∧ CallF Try.prog 74 #[.pointer r] H6 (fun r3 H7 => ∃ y2 : ByteArray, r3 = .string y2 ∧ 
    CallF Try.prog 73 #[.pointer r] H7 (fun r4 H8 => ∃ y3 : Int, r4 = .int .i64 y3 ∧ (((y3 != 0) = true → 
    CallF Try.prog 73 #[.pointer r] H8 (fun r5 H9 => ∃ y4 : Int, r5 = .int .i64 y4 ∧ (((y4 != 0) = true → 
    K (.tuple #[.pointer none, .int .i64 y4]) H9) ∧ ((y4 != 0) = false → K (.tuple #[.pointer (some ⟨b, 0, none⟩), .int .i64 0]) H9))) Z) ∧ 
    ((y3 != 0) = false → CallF Try.prog 75 #[.string last, .int .i64 y1, .string y2, .bool (i == 0)] H8 (fun r6 H10 => 
    ∃ y_0 : ByteArray, ∃ y_1 : Int, r6 = .tuple #[.string y_0, .int .i64 y_1] ∧ CallF Try.prog 72 #[.pointer r, .int .i64 y_1] H10 (fun r7 H11 => 
    r7 = .tuple #[] ∧ ∃ x : Sl, hcell H11 ⟨b, 0, none⟩ = some (.slice x.a x.n x.c) ∧ ∀ b1 H12, Newb H11 (.cells #[.string y_0] 9) b1 H12 → 
    App Try.prog #[47, 47] 47 H12 [.slice x.a x.n x.c, .slice (some ⟨b1, 0, none⟩) 1 1] fun ap H13 => 
    (StL ⟨b, 0, none⟩ 0 [.slice ap.a ap.n ap.c] H13 fun H14 => (∃ m2, m2 < m1 ∧ I y_0 (w64 (i + 1)) H14 m2))) Z) Z))) Z) Z) Z) ∧ 
    (((decide (i < y)) = true → CallF Try.prog 73 #[.pointer r] H4 (fun r8 H15 => ∃ y5 : Int, r8 = .int .i64 y5 ∧ 
    (((y5 == 0) = true → (J1  H15)) ∧ ((y5 == 0) = false → CallF Try.prog 73 #[.pointer r] H15 (fun r9 H16 => 
    ∃ y6 : Int, r9 = .int .i64 y6 ∧ (((y6 != 0) = true → K (.tuple #[.pointer none, .int .i64 y6]) H16) ∧ 
    ((y6 != 0) = false → K (.tuple #[.pointer (some ⟨b, 0, none⟩), .int .i64 0]) H16))) Z))) Z) ∧ ((decide (i < y)) = false → 
    CallF Try.prog 73 #[.pointer r] H4 (fun r10 H17 => ∃ y7 : Int, r10 = .int .i64 y7 ∧ (((y7 != 0) = true → 
    K (.tuple #[.pointer none, .int .i64 y7]) H17) ∧ ((y7 != 0) = false → K (.tuple #[.pointer (some ⟨b, 0, none⟩), .int .i64 0]) H17))) Z))) ∧ 
    (((decide (y > 6000)) = true → CallF Try.prog 72 #[.pointer r, .int .i64 4] H2 (fun r11 H18 => r11 = .tuple #[] ∧ 
    (J  H18)) Z) ∧ ((decide (y > 6000)) = false → (J  H2)))) Z))
def aJ39 : Ann := (fun k => if k = 7 then some [] else if k = 11 then some [] else none)
def aL39 : Ann := (fun k => if k = 9 then some [(6, (.sc .str)), (7, (.sc (.int .i64)))] else none)
theorem V39_ok {H : Hp} {r : Option Addr} {K : Value → Hp → Prop} {Z : List PanicEntry → Hp → Prop} (h : V39 H r K Z) : CallF Try.prog 39 #[.pointer r] H K Z :=
  fnC_sound (P := Try.prog) (aJ := aJ39) (aL := aL39) (f := 39) (args := [.pointer r]) (Eq.mp (by kernel_rfl) h)
/-- weft/weftref25.Shared -/
def V70 (H : Hp) (a : ByteArray) (b : ByteArray) (K : Value → Hp → Prop) (Z : List PanicEntry → Hp → Prop) : Prop :=
  ∃ I : Int → Hp → Nat → Prop, (∃ m, I 0 H m) ∧ ∀ (n : Int), ∀ H1 m1, I n H1 m1 → ∀ scr : Nat → Value, (((decide (n < (a.size : Int))) = true → 
    (((decide (n < (b.size : Int))) = true → IxS a n fun c => (IxS b n fun c1 => (((c == c1) = true → 
    (∃ m2, m2 < m1 ∧ I (w64 (n + 1)) H1 m2)) ∧ ((c == c1) = false → K (.int .i64 n) H1)))) ∧ ((decide (n < (b.size : Int))) = false → 
    K (.int .i64 n) H1))) ∧ ((decide (n < (a.size : Int))) = false → K (.int .i64 n) H1))
def aJ70 : Ann := (fun _ => none)
def aL70 : Ann := (fun k => if k = 2 then some [(5, (.sc (.int .i64)))] else none)
theorem V70_ok {H : Hp} {a : ByteArray} {b : ByteArray} {K : Value → Hp → Prop} {Z : List PanicEntry → Hp → Prop} (h : V70 H a b K Z) : CallF Try.prog 70 #[.string a, .string b] H K Z :=
  fnC_sound (P := Try.prog) (aJ := aJ70) (aL := aL70) (f := 70) (args := [.string a, .string b]) (Eq.mp (by kernel_rfl) h)
/-- weft/weftref25.Bytes -/
def V35 (H : Hp) (l : Sl) (K : Value → Hp → Prop) (Z : List PanicEntry → Hp → Prop) : Prop :=
  CallF Try.prog 69 #[.int .i64 (l.n : Int)] H (fun r H1 => ∃ y : ByteArray, r = .string y ∧ ∃ I : ByteArray → 
    ByteArray → Int → Hp → Nat → Prop, (∃ m, I y ⟨#[]⟩ 0 H1 m) ∧ ∀ (s : ByteArray) (last : ByteArray) (i : Int), ∀ H2 m1, I s last i H2 m1 → 
    ∀ scr : Nat → Value, (((decide (i < (l.n : Int))) = true → IxA l.a l.n i 1 fun ad => (∃ x : ByteArray, hcell H2 ad = some (.string x) ∧ 
    CallF Try.prog 70 #[.string last, .string x] H2 (fun r1 H3 => ∃ y1 : Int, r1 = .int .i64 y1 ∧ IxA l.a l.n i 1 fun ad1 => 
    (IxA l.a l.n i 1 fun ad2 => ((CallF Try.prog 69 #[.int .i64 y1] H3 (fun r2 H4 => ∃ y2 : ByteArray, r2 = .string y2 ∧ 
    (s.size + y2.size ≤ 4611686018427387904 ∧ ∃ x1 : ByteArray, hcell H4 ad1 = some (.string x1) ∧ ((CallF Try.prog 69 #[.int .i64 (w64 ((x1.size : Int) - y1))] H4 (fun r3 H5 => 
    ∃ y3 : ByteArray, r3 = .string y3 ∧ ((s ++ y2).size + y3.size ≤ 4611686018427387904 ∧ ∃ x2 : ByteArray, hcell H5 ad2 = some (.string x2) ∧ 
    SlS x2 y1 (x2.size : Int) fun cut => (((s ++ y2) ++ y3).size + cut.size ≤ 4611686018427387904 ∧ IxA l.a l.n i 1 fun ad3 => 
    (∃ x3 : ByteArray, hcell H5 ad3 = some (.string x3) ∧ (∃ m2, m2 < m1 ∧ I (((s ++ y2) ++ y3) ++ cut) x3 (w64 (i + 1)) H5 m2))))) Z) ∧ 
    (∃ x4 : ByteArray, hcell H4 ad2 = some (.string x4) ∧ SlS x4 y1 (x4.size : Int) fun cut1 => (CallF Try.prog 69 #[.int .i64 (w64 ((x1.size : Int) - y1))] H4 (fun r4 H6 => 
    ∃ y4 : ByteArray, r4 = .string y4 ∧ ((s ++ y2).size + y4.size ≤ 4611686018427387904 ∧ (((s ++ y2) ++ y4).size + cut1.size ≤ 4611686018427387904 ∧ 
    IxA l.a l.n i 1 fun ad4 => (∃ x5 : ByteArray, hcell H6 ad4 = some (.string x5) ∧ (∃ m2, m2 < m1 ∧ 
    I (((s ++ y2) ++ y4) ++ cut1) x5 (w64 (i + 1)) H6 m2))))) Z))))) Z) ∧ (∃ x6 : ByteArray, hcell H3 ad1 = some (.string x6) ∧ 
    ((CallF Try.prog 69 #[.int .i64 y1] H3 (fun r5 H7 => ∃ y5 : ByteArray, r5 = .string y5 ∧ (s.size + y5.size ≤ 4611686018427387904 ∧ 
    ((CallF Try.prog 69 #[.int .i64 (w64 ((x6.size : Int) - y1))] H7 (fun r6 H8 => ∃ y6 : ByteArray, r6 = .string y6 ∧ 
    ((s ++ y5).size + y6.size ≤ 4611686018427387904 ∧ ∃ x7 : ByteArray, hcell H8 ad2 = some (.string x7) ∧ 
    SlS x7 y1 (x7.size : Int) fun cut2 => (((s ++ y5) ++ y6).size + cut2.size ≤ 4611686018427387904 ∧ 
    IxA l.a l.n i 1 fun ad5 => (∃ x8 : ByteArray, hcell H8 ad5 = some (.string x8) ∧ (∃ m2, m2 < m1 ∧ 
    I (((s ++ y5) ++ y6) ++ cut2) x8 (w64 (i + 1)) H8 m2))))) Z) ∧ (∃ x9 : ByteArray, hcell H7 ad2 = some (.string x9) ∧ 
    SlS x9 y1 (x9.size : Int) fun cut3 => (CallF Try.prog 69 #[.int .i64 (w64 ((x6.size : Int) - y1))] H7 (fun r7 H9 => 
    ∃ y7 : ByteArray, r7 = .string y7 ∧ ((s ++ y5).size + y7.size ≤ 4611686018427387904 ∧ (((s ++ y5) ++ y7).size + cut3.size ≤ 4611686018427387904 ∧ 
    IxA l.a l.n i 1 fun ad6 => (∃ x10 : ByteArray, hcell H9 ad6 = some (.string x10) ∧ (∃ m2, m2 < m1 ∧ 
    I (((s ++ y5) ++ y7) ++ cut3) x10 (w64 (i + 1)) H9 m2))))) Z))))) Z) ∧ (∃ x11 : ByteArray, hcell H3 ad2 = some (.string x11) ∧ 
    SlS x11 y1 (x11.size : Int) fun cut4 => (CallF Try.prog 69 #[.int .i64 y1] H3 (fun r8 H10 => ∃ y8 : ByteArray, r8 = .string y8 ∧ 
    (s.size + y8.size ≤ 4611686018427387904 ∧ CallF Try.prog 69 #[.int .i64 (w64 ((x6.size : Int) - y1))] H10 (fun r9 H11 => 
    ∃ y9 : ByteArray, r9 = .string y9 ∧ ((s ++ y8).size + y9.size ≤ 4611686018427387904 ∧ (((s ++ y8) ++ y9).size + cut4.size ≤ 4611686018427387904 ∧ 
    IxA l.a l.n i 1 fun ad7 => (∃ x12 : ByteArray, hcell H11 ad7 = some (.string x12) ∧ (∃ m2, m2 < m1 ∧ 
    I (((s ++ y8) ++ y9) ++ cut4) x12 (w64 (i + 1)) H11 m2))))) Z)) Z)))) ∧ (∃ x13 : ByteArray, hcell H3 ad2 = some (.string x13) ∧ 
    SlS x13 y1 (x13.size : Int) fun cut5 => ((CallF Try.prog 69 #[.int .i64 y1] H3 (fun r10 H12 => ∃ y10 : ByteArray, r10 = .string y10 ∧ 
    (s.size + y10.size ≤ 4611686018427387904 ∧ ∃ x14 : ByteArray, hcell H12 ad1 = some (.string x14) ∧ 
    CallF Try.prog 69 #[.int .i64 (w64 ((x14.size : Int) - y1))] H12 (fun r11 H13 => ∃ y11 : ByteArray, r11 = .string y11 ∧ 
    ((s ++ y10).size + y11.size ≤ 4611686018427387904 ∧ (((s ++ y10) ++ y11).size + cut5.size ≤ 4611686018427387904 ∧ 
    IxA l.a l.n i 1 fun ad8 => (∃ x15 : ByteArray, hcell H13 ad8 = some (.string x15) ∧ (∃ m2, m2 < m1 ∧ 
    I (((s ++ y10) ++ y11) ++ cut5) x15 (w64 (i + 1)) H13 m2))))) Z)) Z) ∧ (∃ x16 : ByteArray, hcell H3 ad1 = some (.string x16) ∧ 
    CallF Try.prog 69 #[.int .i64 y1] H3 (fun r12 H14 => ∃ y12 : ByteArray, r12 = .string y12 ∧ (s.size + y12.size ≤ 4611686018427387904 ∧ 
    CallF Try.prog 69 #[.int .i64 (w64 ((x16.size : Int) - y1))] H14 (fun r13 H15 => ∃ y13 : ByteArray, r13 = .string y13 ∧ 
    ((s ++ y12).size + y13.size ≤ 4611686018427387904 ∧ (((s ++ y12) ++ y13).size + cut5.size ≤ 4611686018427387904 ∧ 
    IxA l.a l.n i 1 fun ad9 => (∃ x17 : ByteArray, hcell H15 ad9 = some (.string x17) ∧ (∃ m2, m2 < m1 ∧ 
    I (((s ++ y12) ++ y13) ++ cut5) x17 (w64 (i + 1)) H15 m2))))) Z)) Z)))))) Z)) ∧ ((decide (i < (l.n : Int))) = false → 
    K (.string s) H2))) Z
def aJ35 : Ann := (fun _ => none)
def aL35 : Ann := (fun k => if k = 4 then some [(3, (.sc .str)), (4, (.sc .str)), (5, (.sc (.int .i64)))] else none)
theorem V35_ok {H : Hp} {l : Sl} {K : Value → Hp → Prop} {Z : List PanicEntry → Hp → Prop} (h : V35 H l K Z) : CallF Try.prog 35 #[.slice l.a l.n l.c] H K Z :=
  fnC_sound (P := Try.prog) (aJ := aJ35) (aL := aL35) (f := 35) (args := [.slice l.a l.n l.c]) (Eq.mp (by kernel_rfl) h)
/-- weft/weftref25.Of -/
def V29 (H : Hp) (l : Sl) (K : Value → Hp → Prop) (Z : List PanicEntry → Hp → Prop) : Prop :=
  CallF Try.prog 61 #[.slice l.a l.n l.c] H (fun r H1 => ∃ y : Sl, r = .slice y.a y.n y.c ∧ K (.slice y.a y.n y.c) H1) Z
def aJ29 : Ann := (fun _ => none)
def aL29 : Ann := (fun _ => none)
theorem V29_ok {H : Hp} {l : Sl} {K : Value → Hp → Prop} {Z : List PanicEntry → Hp → Prop} (h : V29 H l K Z) : CallF Try.prog 29 #[.slice l.a l.n l.c] H K Z :=
  fnC_sound (P := Try.prog) (aJ := aJ29) (aL := aL29) (f := 29) (args := [.slice l.a l.n l.c]) (Eq.mp (by kernel_rfl) h)
/-- weft/weftlaw25.great -/
def V27 (H : Hp) (l : Sl) (K : Value → Hp → Prop) (Z : List PanicEntry → Hp → Prop) : Prop :=
  ∃ I : Int → Int → Hp → Nat → Prop, (∃ m, I 0 0 H m) ∧ ∀ (n : Int) (i : Int), ∀ H1 m1, I n i H1 m1 → 
    ∀ scr : Nat → Value, (((decide (i < (l.n : Int))) = true → IxA l.a l.n i 1 fun ad => (∃ x : ByteArray, hcell H1 ad = some (.string x) ∧ 
    (((decide (i ≥ 100)) = true → K (.bool true) H1) ∧ ((decide (i ≥ 100)) = false → (((decide ((w64 (n + (x.size : Int))) > 20000)) = true → 
    K (.bool true) H1) ∧ ((decide ((w64 (n + (x.size : Int))) > 20000)) = false → (∃ m2, m2 < m1 ∧ I (w64 (n + (x.size : Int))) (w64 (i + 1)) H1 m2))))))) ∧ 
    ((decide (i < (l.n : Int))) = false → K (.bool false) H1))
def aJ27 : Ann := (fun _ => none)
def aL27 : Ann := (fun k => if k = 3 then some [(3, (.sc (.int .i64))), (4, (.sc (.int .i64)))] else none)
theorem V27_ok {H : Hp} {l : Sl} {K : Value → Hp → Prop} {Z : List PanicEntry → Hp → Prop} (h : V27 H l K Z) : CallF Try.prog 27 #[.slice l.a l.n l.c] H K Z :=
  fnC_sound (P := Try.prog) (aJ := aJ27) (aL := aL27) (f := 27) (args := [.slice l.a l.n l.c]) (Eq.mp (by kernel_rfl) h)
/-- weft/weftlaw25.same -/
def V34 (H : Hp) (p : Addr) (l : Sl) (K : Value → Hp → Prop) (Z : List PanicEntry → Hp → Prop) : Prop :=
  CallF Try.prog 36 #[.pointer (some p)] H (fun r H1 => ∃ y : Int, r = .int .i64 y ∧ (((y != (l.n : Int)) = true → 
    K (.bool false) H1) ∧ ((y != (l.n : Int)) = false → ∃ I : Int → Hp → Nat → Prop, (∃ m, I 0 H1 m) ∧ 
    ∀ (i : Int), ∀ H2 m1, I i H2 m1 → ∀ scr : Nat → Value, (((decide (i < (l.n : Int))) = true → CallF Try.prog 68 #[.pointer (some p), .int .i64 i] H2 (fun r1 H3 => 
    ∃ y_0 : ByteArray, ∃ y_1 : Bool, r1 = .tuple #[.string y_0, .bool y_1] ∧ IxA l.a l.n i 1 fun ad => 
    (∃ x : ByteArray, hcell H3 ad = some (.string x) ∧ CallF Try.prog 30 #[.pointer (some p), .string x] H3 (fun r2 H4 => 
    ∃ y_01 : Int, ∃ y_11 : Bool, r2 = .tuple #[.int .i64 y_01, .bool y_11] ∧ IxA l.a l.n i 1 fun ad1 => 
    (∃ x1 : ByteArray, hcell H4 ad1 = some (.string x1) ∧ (((!(beqS y_0 x1)) = true → K (.bool false) H4) ∧ 
    ((!(beqS y_0 x1)) = false → (((!y_1) = true → K (.bool false) H4) ∧ ((!y_1) = false → (((y_01 != i) = true → 
    K (.bool false) H4) ∧ ((y_01 != i) = false → (((!y_11) = true → K (.bool false) H4) ∧ ((!y_11) = false → 
    (∃ m2, m2 < m1 ∧ I (w64 (i + 1)) H4 m2))))))))))) Z)) Z) ∧ ((decide (i < (l.n : Int))) = false → 
    CallF Try.prog 68 #[.pointer (some p), .int .i64 (l.n : Int)] H2 (fun r3 H5 => ∃ y_02 : ByteArray, ∃ y_12 : Bool, r3 = .tuple #[.string y_02, .bool y_12] ∧ 
    CallF Try.prog 68 #[.pointer (some p), .int .i64 (-1)] H5 (fun r4 H6 => ∃ y_03 : ByteArray, ∃ y_13 : Bool, r4 = .tuple #[.string y_03, .bool y_13] ∧ 
    (((!y_12) = true → K (.bool (!y_13)) H6) ∧ ((!y_12) = false → K (.bool false) H6))) Z) Z))))) Z
def aJ34 : Ann := (fun _ => none)
def aL34 : Ann := (fun k => if k = 4 then some [(5, (.sc (.int .i64)))] else none)
theorem V34_ok {H : Hp} {p : Addr} {l : Sl} {K : Value → Hp → Prop} {Z : List PanicEntry → Hp → Prop} (h : V34 H p l K Z) : CallF Try.prog 34 #[.pointer (some p), .slice l.a l.n l.c] H K Z :=
  fnC_sound (P := Try.prog) (aJ := aJ34) (aL := aL34) (f := 34) (args := [.pointer (some p), .slice l.a l.n l.c]) (Eq.mp (by kernel_rfl) h)
/-- weft/weftlaw25.PoolOf -/
def V6 (H : Hp) (l : Sl) (ask : ByteArray) (K : Value → Hp → Prop) (Z : List PanicEntry → Hp → Prop) : Prop :=
  CallF Try.prog 27 #[.slice l.a l.n l.c] H (fun r H1 => ∃ y : Bool, r = .bool y ∧ ((y = true → K (.bool true) H1) ∧ 
    (y = false → ∀ b H2, Newb H1 (.cells #[] 9) b H2 → App Try.prog #[47, 47] 47 H2 [.slice (some ⟨b, 0, none⟩) 0 0, .slice l.a l.n l.c] fun ap H3 => 
    (CallF Try.prog 28 #[.slice ap.a ap.n ap.c] H3 (fun r1 H4 => ∃ y1 : Option Addr, r1 = .pointer y1 ∧ 
    CallF Try.prog 29 #[.slice l.a l.n l.c] H4 (fun r2 H5 => ∃ y2 : Sl, r2 = .slice y2.a y2.n y2.c ∧ 
    CallF Try.prog 30 #[.pointer y1, .string ask] H5 (fun r3 H6 => ∃ y_0 : Int, ∃ y_1 : Bool, r3 = .tuple #[.int .i64 y_0, .bool y_1] ∧ 
    CallF Try.prog 31 #[.slice y2.a y2.n y2.c, .string ask] H6 (fun r4 H7 => ∃ y3 : Int, r4 = .int .i64 y3 ∧ 
    ∀ b1 H8, Newb H7 (.cells #[.pointer none, .slice none 0 0, .int .i64 0] 71) b1 H8 → CallF Try.prog 32 #[.pointer y1, .pointer (some ⟨b1, 0, none⟩)] H8 (fun r5 H9 => 
    r5 = .tuple #[] ∧ CallF Try.prog 33 #[.pointer (some ⟨b1, 0, none⟩)] H9 (fun r6 H10 => ∃ y_01 : ByteArray, ∃ y_11 : Int, r6 = .tuple #[.string y_01, .int .i64 y_11] ∧ 
    CallF Try.prog 30 #[.pointer none, .string ask] H10 (fun r7 H11 => ∃ y_02 : Int, ∃ y_12 : Bool, r7 = .tuple #[.int .i64 y_02, .bool y_12] ∧ 
    CallF Try.prog 34 #[.pointer y1, .slice y2.a y2.n y2.c] H11 (fun r8 H12 => ∃ y4 : Bool, r8 = .bool y4 ∧ 
    ((y4 = true → (((y_1 == (decide (y3 ≥ 0))) = true → (((y_0 == (if y3 < 0 then 0 else y3)) = true → 
    CallF Try.prog 35 #[.slice y2.a y2.n y2.c] H12 (fun r9 H13 => ∃ y5 : ByteArray, r9 = .string y5 ∧ 
    (((beqS y_01 y5) = true → (((y_11 == 0) = true → CallF Try.prog 36 #[.pointer none] H13 (fun r10 H14 => 
    ∃ y6 : Int, r10 = .int .i64 y6 ∧ (((y6 == 0) = true → (((!y_12) = true → CallF Try.prog 37 #[] H14 (fun r11 H15 => 
    ∃ y7 : Bool, r11 = .bool y7 ∧ K (.bool y7) H15) Z) ∧ ((!y_12) = false → K (.bool false) H14))) ∧ 
    ((y6 == 0) = false → K (.bool false) H14))) Z) ∧ ((y_11 == 0) = false → K (.bool false) H13))) ∧ 
    ((beqS y_01 y5) = false → K (.bool false) H13))) Z) ∧ ((y_0 == (if y3 < 0 then 0 else y3)) = false → 
    K (.bool false) H12))) ∧ ((y_1 == (decide (y3 ≥ 0))) = false → K (.bool false) H12))) ∧ (y4 = false → 
    K (.bool false) H12))) Z) Z) Z) Z) Z) Z) Z) Z)))) Z
def aJ6 : Ann := (fun _ => none)
def aL6 : Ann := (fun _ => none)
theorem V6_ok {H : Hp} {l : Sl} {ask : ByteArray} {K : Value → Hp → Prop} {Z : List PanicEntry → Hp → Prop} (h : V6 H l ask K Z) : CallF Try.prog 6 #[.slice l.a l.n l.c, .string ask] H K Z :=
  fnC_sound (P := Try.prog) (aJ := aJ6) (aL := aL6) (f := 6) (args := [.slice l.a l.n l.c, .string ask]) (Eq.mp (by kernel_rfl) h)
/-- weft/weftlaw25.PoolBack -/
def V7 (H : Hp) (l : Sl) (more : ByteArray) (s : ByteArray) (K : Value → Hp → Prop) (Z : List PanicEntry → Hp → Prop) : Prop :=
  CallF Try.prog 37 #[] H (fun r H1 => ∃ y : Bool, r = .bool y ∧ (((!y) = true → K (.bool false) H1) ∧ 
    ((!y) = false → ∃ J : Hp → Prop, (∀ H2, J  H2 → ∀ scr : Nat → Value, ∃ I : Int → Hp → Nat → Prop, (∃ m, I 0 H2 m) ∧ 
    ∀ (i : Int), ∀ H3 m1, I i H3 m1 → ∀ scr1 : Nat → Value, (((decide (i < (l.n : Int))) = true → IxA l.a l.n i 1 fun ad => 
    (∃ x : ByteArray, hcell H3 ad = some (.string x) ∧ (((decide ((x.size : Int) > 1000)) = true → K (.bool true) H3) ∧ 
    ((decide ((x.size : Int) > 1000)) = false → (∃ m2, m2 < m1 ∧ I (w64 (i + 1)) H3 m2))))) ∧ ((decide (i < (l.n : Int))) = false → 
    ∀ b H4, Newb H3 (.cells #[.pointer none, .slice none 0 0, .int .i64 0] 71) b H4 → CallF Try.prog 28 #[.slice l.a l.n l.c] H4 (fun r1 H5 => 
    ∃ y1 : Option Addr, r1 = .pointer y1 ∧ CallF Try.prog 32 #[.pointer y1, .pointer (some ⟨b, 0, none⟩)] H5 (fun r2 H6 => 
    r2 = .tuple #[] ∧ CallF Try.prog 33 #[.pointer (some ⟨b, 0, none⟩)] H6 (fun r3 H7 => ∃ y_0 : ByteArray, ∃ y_1 : Int, r3 = .tuple #[.string y_0, .int .i64 y_1] ∧ 
    (y_0.size + more.size ≤ 4611686018427387904 ∧ CallF Try.prog 38 #[.string (y_0 ++ more)] H7 (fun r4 H8 => 
    ∃ y2 : Option Addr, r4 = .pointer y2 ∧ ∃ J1 : Hp → Prop, (∀ H9, J1  H9 → ∀ scr2 : Nat → Value, CallF Try.prog 39 #[.pointer y2] H9 (fun r5 H10 => 
    ∃ y_01 : Option Addr, ∃ y_11 : Int, r5 = .tuple #[.pointer y_01, .int .i64 y_11] ∧ CallF Try.prog 40 #[.pointer y2] H10 (fun r6 H11 => 
    ∃ y_02 : Int, ∃ y_12 : Int, r6 = .tuple #[.int .i64 y_02, .int .i64 y_12] ∧ ∃ J2 : Hp → Prop, (∀ H12, J2  H12 → 
    ∀ scr3 : Nat → Value, CallF Try.prog 38 #[.string s] H12 (fun r7 H13 => ∃ y3 : Option Addr, r7 = .pointer y3 ∧ 
    (((Option.isNone y3) = true → K (.bool false) H13) ∧ ((Option.isNone y3) = false → CallF Try.prog 39 #[.pointer y3] H13 (fun r8 H14 => 
    ∃ y_03 : Option Addr, ∃ y_13 : Int, r8 = .tuple #[.pointer y_03, .int .i64 y_13] ∧ CallF Try.prog 40 #[.pointer y3] H14 (fun r9 H15 => 
    ∃ y_04 : Int, ∃ y_14 : Int, r9 = .tuple #[.int .i64 y_04, .int .i64 y_14] ∧ (((y_13 != 0) = true → 
    K (.bool (Option.isNone y_03)) H15) ∧ ((y_13 != 0) = false → ∀ b1 H16, Newb H15 (.cells #[.pointer none, .slice none 0 0, .int .i64 0] 71) b1 H16 → 
    CallF Try.prog 32 #[.pointer y_03, .pointer (some ⟨b1, 0, none⟩)] H16 (fun r10 H17 => r10 = .tuple #[] ∧ 
    CallF Try.prog 33 #[.pointer (some ⟨b1, 0, none⟩)] H17 (fun r11 H18 => ∃ y_05 : ByteArray, ∃ y_15 : Int, r11 = .tuple #[.string y_05, .int .i64 y_15] ∧ 
    (((y_15 == 0) = true → (((decide (y_04 ≤ (s.size : Int))) = true → SlS s 0 y_04 fun cut => (K (.bool (beqS y_05 cut)) H18)) ∧ 
    ((decide (y_04 ≤ (s.size : Int))) = false → K (.bool false) H18))) ∧ ((y_15 == 0) = false → K (.bool false) H18))) Z) Z))) Z) Z))) Z) ∧ 
    (((y_11 != 0) = true → K (.bool false) H11) ∧ ((y_11 != 0) = false → (((y_02 != (y_0.size : Int)) = true → 
    K (.bool false) H11) ∧ ((y_02 != (y_0.size : Int)) = false → CallF Try.prog 29 #[.slice l.a l.n l.c] H11 (fun r12 H19 => 
    ∃ y4 : Sl, r12 = .slice y4.a y4.n y4.c ∧ CallF Try.prog 34 #[.pointer y_01, .slice y4.a y4.n y4.c] H19 (fun r13 H20 => 
    ∃ y5 : Bool, r13 = .bool y5 ∧ (((!y5) = true → K (.bool false) H20) ∧ ((!y5) = false → (J2  H20)))) Z) Z))))) Z) Z) ∧ 
    (((y_1 != 0) = true → K (.bool false) H8) ∧ ((y_1 != 0) = false → (((Option.isNone y2) = true → K (.bool false) H8) ∧ 
    ((Option.isNone y2) = false → (J1  H8)))))) Z)) Z) Z) Z))) ∧ CallF Try.prog 27 #[.slice l.a l.n l.c] H1 (fun r14 H21 => 
    ∃ y6 : Bool, r14 = .bool y6 ∧ ((y6 = true → K (.bool true) H21) ∧ (y6 = false → ∀ b2 H22, Newb H21 (.cells #[.string more, .string s] 9) b2 H22 → 
    CallF Try.prog 27 #[.slice (some ⟨b2, 0, none⟩) 2 2] H22 (fun r15 H23 => ∃ y7 : Bool, r15 = .bool y7 ∧ 
    ((y7 = true → K (.bool true) H23) ∧ (y7 = false → (J  H23)))) Z))) Z))) Z
def aJ7 : Ann := (fun k => if k = 5 then some [] else if k = 16 then some [] else if k = 20 then some [] else none)
def aL7 : Ann := (fun k => if k = 6 then some [(7, (.sc (.int .i64)))] else none)
theorem V7_ok {H : Hp} {l : Sl} {more : ByteArray} {s : ByteArray} {K : Value → Hp → Prop} {Z : List PanicEntry → Hp → Prop} (h : V7 H l more s K Z) : CallF Try.prog 7 #[.slice l.a l.n l.c, .string more, .string s] H K Z :=
  fnC_sound (P := Try.prog) (aJ := aJ7) (aL := aL7) (f := 7) (args := [.slice l.a l.n l.c, .string more, .string s]) (Eq.mp (by kernel_rfl) h)
/-- weft/weftlaw25.works -/
def V37 (H : Hp)  (K : Value → Hp → Prop) (Z : List PanicEntry → Hp → Prop) : Prop :=
  ∀ b H1, Newb H (.cells #[.pointer none, .slice none 0 0, .int .i64 0] 71) b H1 → ∀ b1 H2, Newb H1 (.cells #[.string ⟨#[98]⟩, .string ⟨#[97, 98]⟩, .string ⟨#[97]⟩] 9) b1 H2 → 
    CallF Try.prog 28 #[.slice (some ⟨b1, 0, none⟩) 3 3] H2 (fun r H3 => ∃ y : Option Addr, r = .pointer y ∧ 
    CallF Try.prog 32 #[.pointer y, .pointer (some ⟨b, 0, none⟩)] H3 (fun r1 H4 => r1 = .tuple #[] ∧ 
    CallF Try.prog 33 #[.pointer (some ⟨b, 0, none⟩)] H4 (fun r2 H5 => ∃ y_0 : ByteArray, ∃ y_1 : Int, r2 = .tuple #[.string y_0, .int .i64 y_1] ∧ 
    (((y_1 == 0) = true → K (.bool (beqS y_0 ⟨#[3, 0, 1, 97, 1, 1, 98, 0, 1, 98]⟩)) H5) ∧ ((y_1 == 0) = false → 
    K (.bool false) H5))) Z) Z) Z
def aJ37 : Ann := (fun _ => none)
def aL37 : Ann := (fun _ => none)
theorem V37_ok {H : Hp}  {K : Value → Hp → Prop} {Z : List PanicEntry → Hp → Prop} (h : V37 H  K Z) : CallF Try.prog 37 #[] H K Z :=
  fnC_sound (P := Try.prog) (aJ := aJ37) (aL := aL37) (f := 37) (args := []) (Eq.mp (by kernel_rfl) h)
/-- slices.BinarySearch[[]string,string] -/
def V62 (H : Hp) (x : Sl) (target : ByteArray) (K : Value → Hp → Prop) (Z : List PanicEntry → Hp → Prop) : Prop :=
  ∃ I : Int → Int → Hp → Nat → Prop, (∃ m, I 0 (x.n : Int) H m) ∧ ∀ (i : Int) (j : Int), ∀ H1 m1, I i j H1 m1 → 
    ∀ scr : Nat → Value, (((decide (i < j)) = true → IxA x.a x.n (w64 (Int.fdiv (IntKind.wrap .u64 (w64 (i + j))) (2 ^ 1))) 1 fun ad => 
    (∃ x1 : ByteArray, hcell H1 ad = some (.string x1) ∧ CallF Try.prog 102 #[.string x1, .string target] H1 (fun r H2 => 
    ∃ y : Bool, r = .bool y ∧ ((y = true → (∃ m2, m2 < m1 ∧ I (w64 ((w64 (Int.fdiv (IntKind.wrap .u64 (w64 (i + j))) (2 ^ 1))) + 1)) j H2 m2)) ∧ 
    (y = false → (∃ m2, m2 < m1 ∧ I i (w64 (Int.fdiv (IntKind.wrap .u64 (w64 (i + j))) (2 ^ 1))) H2 m2)))) Z)) ∧ 
    ((decide (i < j)) = false → (((decide (i < (x.n : Int))) = true → IxA x.a x.n i 1 fun ad1 => (∃ x2 : ByteArray, hcell H1 ad1 = some (.string x2) ∧ 
    (((beqS x2 target) = true → K (.tuple #[.int .i64 i, .bool true]) H1) ∧ ((beqS x2 target) = false → 
    IxA x.a x.n i 1 fun ad2 => (∃ x3 : ByteArray, hcell H1 ad2 = some (.string x3) ∧ CallF Try.prog 103 #[.string x3] H1 (fun r1 H3 => 
    ∃ y1 : Bool, r1 = .bool y1 ∧ ((y1 = true → CallF Try.prog 103 #[.string target] H3 (fun r2 H4 => 
    ∃ y2 : Bool, r2 = .bool y2 ∧ K (.tuple #[.int .i64 i, .bool y2]) H4) Z) ∧ (y1 = false → K (.tuple #[.int .i64 i, .bool false]) H3))) Z))))) ∧ 
    ((decide (i < (x.n : Int))) = false → K (.tuple #[.int .i64 i, .bool false]) H1))))
def aJ62 : Ann := (fun _ => none)
def aL62 : Ann := (fun k => if k = 3 then some [(7, (.sc (.int .i64))), (8, (.sc (.int .i64)))] else none)
theorem V62_ok {H : Hp} {x : Sl} {target : ByteArray} {K : Value → Hp → Prop} {Z : List PanicEntry → Hp → Prop} (h : V62 H x target K Z) : CallF Try.prog 62 #[.slice x.a x.n x.c, .string target] H K Z :=
  fnC_sound (P := Try.prog) (aJ := aJ62) (aL := aL62) (f := 62) (args := [.slice x.a x.n x.c, .string target]) (Eq.mp (by kernel_rfl) h)
/-- cmp.Less[string] -/
def V102 (H : Hp) (x : ByteArray) (y : ByteArray) (K : Value → Hp → Prop) (Z : List PanicEntry → Hp → Prop) : Prop :=
  CallF Try.prog 140 #[.string x] H (fun r H1 => ∃ y1 : Bool, r = .bool y1 ∧ ((y1 = true → CallF Try.prog 140 #[.string y] H1 (fun r1 H2 => 
    ∃ y2 : Bool, r1 = .bool y2 ∧ (((!y2) = true → K (.bool true) H2) ∧ ((!y2) = false → K (.bool (ltS x y)) H2))) Z) ∧ 
    (y1 = false → K (.bool (ltS x y)) H1))) Z
def aJ102 : Ann := (fun _ => none)
def aL102 : Ann := (fun _ => none)
theorem V102_ok {H : Hp} {x : ByteArray} {y : ByteArray} {K : Value → Hp → Prop} {Z : List PanicEntry → Hp → Prop} (h : V102 H x y K Z) : CallF Try.prog 102 #[.string x, .string y] H K Z :=
  fnC_sound (P := Try.prog) (aJ := aJ102) (aL := aL102) (f := 102) (args := [.string x, .string y]) (Eq.mp (by kernel_rfl) h)
/-- slices.isNaN[string] -/
def V103 (H : Hp) (x : ByteArray) (K : Value → Hp → Prop) (Z : List PanicEntry → Hp → Prop) : Prop :=
  K (.bool (!(beqS x x))) H
def aJ103 : Ann := (fun _ => none)
def aL103 : Ann := (fun _ => none)
theorem V103_ok {H : Hp} {x : ByteArray} {K : Value → Hp → Prop} {Z : List PanicEntry → Hp → Prop} (h : V103 H x K Z) : CallF Try.prog 103 #[.string x] H K Z :=
  fnC_sound (P := Try.prog) (aJ := aJ103) (aL := aL103) (f := 103) (args := [.string x]) (Eq.mp (by kernel_rfl) h)
end Go.Proofs.Ytigbdoicgdmliaa.N25
end

section
/- The conditions of intern's functions, of slices' and cmp's that it calls, and of weftref05 and weftlaw05 (printed by our own program vn.py; the kernel checks each against V5's comp). -/
set_option linter.unusedVariables false
set_option maxRecDepth 100000
-- same: 50
-- sortedS: 60
-- rSorted: 61
-- rNumber: 31
-- putS: 57
-- findS: 59
-- atS: 58
-- putI: 53
-- atI: 55
-- findI: 56
-- risingS: 100
-- rInto: 101
-- placeS: 99
-- insert: 98
-- placeI: 97
-- clone: 52
-- risingS1: 139
-- bsS: 136
-- placeS1: 137
-- cmpS: 138
-- bsI: 131
-- placeI1: 132
-- cmpI: 133
-- nanS: 140
-- nanI: 147
namespace Go.Proofs.Ytigbdoicgdmliaa.N05
open Go Go.V Go.Proofs
/-- cmp.isNaN[string] -/
def V140 (H : Hp) (x : ByteArray) (K : Value → Hp → Prop) (Z : List PanicEntry → Hp → Prop) : Prop :=
  K (.bool (!(beqS x x))) H
def aJ140 : Ann := (fun _ => none)
def aL140 : Ann := (fun _ => none)
theorem V140_ok {H : Hp} {x : ByteArray} {K : Value → Hp → Prop} {Z : List PanicEntry → Hp → Prop} (h : V140 H x K Z) : CallF Try.prog 140 #[.string x] H K Z :=
  fnC_sound (P := Try.prog) (aJ := aJ140) (aL := aL140) (f := 140) (args := [.string x]) (Eq.mp (by kernel_rfl) h)
/-- cmp.isNaN[int] -/
def V147 (H : Hp) (x : Int) (K : Value → Hp → Prop) (Z : List PanicEntry → Hp → Prop) : Prop :=
  K (.bool (x != x)) H
def aJ147 : Ann := (fun _ => none)
def aL147 : Ann := (fun _ => none)
theorem V147_ok {H : Hp} {x : Int} {K : Value → Hp → Prop} {Z : List PanicEntry → Hp → Prop} (h : V147 H x K Z) : CallF Try.prog 147 #[.int .i64 x] H K Z :=
  fnC_sound (P := Try.prog) (aJ := aJ147) (aL := aL147) (f := 147) (args := [.int .i64 x]) (Eq.mp (by kernel_rfl) h)
/-- cmp.Compare[string] -/
def V138 (H : Hp) (x : ByteArray) (y : ByteArray) (K : Value → Hp → Prop) (Z : List PanicEntry → Hp → Prop) : Prop :=
  CallF Try.prog 140 #[.string x] H (fun r H1 => ∃ y1 : Bool, r = .bool y1 ∧ CallF Try.prog 140 #[.string y] H1 (fun r1 H2 => 
    ∃ y2 : Bool, r1 = .bool y2 ∧ ((y1 = true → ((y2 = true → K (.int .i64 0) H2) ∧ (y2 = false → K (.int .i64 (-1)) H2))) ∧ 
    (y1 = false → ((y2 = true → K (.int .i64 1) H2) ∧ (y2 = false → (((ltS x y) = true → K (.int .i64 (-1)) H2) ∧ 
    ((ltS x y) = false → (((!((ltS x y) || (beqS x y))) = true → K (.int .i64 1) H2) ∧ ((!((ltS x y) || (beqS x y))) = false → 
    K (.int .i64 0) H2))))))))) Z) Z
def aJ138 : Ann := (fun _ => none)
def aL138 : Ann := (fun _ => none)
theorem V138_ok {H : Hp} {x : ByteArray} {y : ByteArray} {K : Value → Hp → Prop} {Z : List PanicEntry → Hp → Prop} (h : V138 H x y K Z) : CallF Try.prog 138 #[.string x, .string y] H K Z :=
  fnC_sound (P := Try.prog) (aJ := aJ138) (aL := aL138) (f := 138) (args := [.string x, .string y]) (Eq.mp (by kernel_rfl) h)
/-- cmp.Compare[int] -/
def V133 (H : Hp) (x : Int) (y : Int) (K : Value → Hp → Prop) (Z : List PanicEntry → Hp → Prop) : Prop :=
  CallF Try.prog 147 #[.int .i64 x] H (fun r H1 => ∃ y1 : Bool, r = .bool y1 ∧ CallF Try.prog 147 #[.int .i64 y] H1 (fun r1 H2 => 
    ∃ y2 : Bool, r1 = .bool y2 ∧ ((y1 = true → ((y2 = true → K (.int .i64 0) H2) ∧ (y2 = false → K (.int .i64 (-1)) H2))) ∧ 
    (y1 = false → ((y2 = true → K (.int .i64 1) H2) ∧ (y2 = false → (((decide (x < y)) = true → K (.int .i64 (-1)) H2) ∧ 
    ((decide (x < y)) = false → (((decide (x > y)) = true → K (.int .i64 1) H2) ∧ ((decide (x > y)) = false → 
    K (.int .i64 0) H2))))))))) Z) Z
def aJ133 : Ann := (fun _ => none)
def aL133 : Ann := (fun _ => none)
theorem V133_ok {H : Hp} {x : Int} {y : Int} {K : Value → Hp → Prop} {Z : List PanicEntry → Hp → Prop} (h : V133 H x y K Z) : CallF Try.prog 133 #[.int .i64 x, .int .i64 y] H K Z :=
  fnC_sound (P := Try.prog) (aJ := aJ133) (aL := aL133) (f := 133) (args := [.int .i64 x, .int .i64 y]) (Eq.mp (by kernel_rfl) h)
/-- (*weft/intern.Table[string]).place$1 -/
def V137 (H : Hp) (n : Int) (x : ByteArray) (cap0 : Addr) (K : Value → Hp → Prop) (Z : List PanicEntry → Hp → Prop) : Prop :=
  ∃ x1 : Option Addr, hcell H cap0 = some (.pointer x1) ∧ nilck x1 fun ad => (∃ x2 : Sl, hcell H ad = some (.slice x2.a x2.n x2.c) ∧ 
    IxA x2.a x2.n n 1 fun ad1 => (∃ x3 : ByteArray, hcell H ad1 = some (.string x3) ∧ CallF Try.prog 138 #[.string x3, .string x] H (fun r H1 => 
    ∃ y : Int, r = .int .i64 y ∧ K (.int .i64 y) H1) Z))
def aJ137 : Ann := (fun _ => none)
def aL137 : Ann := (fun _ => none)
theorem V137_ok {H : Hp} {n : Int} {x : ByteArray} {cap0 : Addr} {K : Value → Hp → Prop} {Z : List PanicEntry → Hp → Prop} (h : V137 H n x cap0 K Z) : CallF Try.prog 137 #[.int .i64 n, .string x, .pointer (some cap0)] H K Z :=
  fnC_sound (P := Try.prog) (aJ := aJ137) (aL := aL137) (f := 137) (args := [.int .i64 n, .string x, .pointer (some cap0)]) (Eq.mp (by kernel_rfl) h)
/-- (*weft/intern.Table[int]).place$1 -/
def V132 (H : Hp) (n : Int) (x : Int) (cap0 : Addr) (K : Value → Hp → Prop) (Z : List PanicEntry → Hp → Prop) : Prop :=
  ∃ x1 : Option Addr, hcell H cap0 = some (.pointer x1) ∧ nilck x1 fun ad => (∃ x2 : Sl, hcell H ad = some (.slice x2.a x2.n x2.c) ∧ 
    IxA x2.a x2.n n 1 fun ad1 => (∃ x3 : Int, hcell H ad1 = some (.int .i64 x3) ∧ CallF Try.prog 133 #[.int .i64 x3, .int .i64 x] H (fun r H1 => 
    ∃ y : Int, r = .int .i64 y ∧ K (.int .i64 y) H1) Z))
def aJ132 : Ann := (fun _ => none)
def aL132 : Ann := (fun _ => none)
theorem V132_ok {H : Hp} {n : Int} {x : Int} {cap0 : Addr} {K : Value → Hp → Prop} {Z : List PanicEntry → Hp → Prop} (h : V132 H n x cap0 K Z) : CallF Try.prog 132 #[.int .i64 n, .int .i64 x, .pointer (some cap0)] H K Z :=
  fnC_sound (P := Try.prog) (aJ := aJ132) (aL := aL132) (f := 132) (args := [.int .i64 n, .int .i64 x, .pointer (some cap0)]) (Eq.mp (by kernel_rfl) h)
/-- slices.BinarySearchFunc[[]int,int,string] -/
def V136 (H : Hp) (x : Sl) (target : ByteArray) (cmp : Value) (K : Value → Hp → Prop) (Z : List PanicEntry → Hp → Prop) : Prop :=
  ∃ I : Int → Int → Hp → Nat → Prop, (∃ m, I 0 (x.n : Int) H m) ∧ ∀ (i : Int) (j : Int), ∀ H1 m1, I i j H1 m1 → 
    ∀ scr : Nat → Value, (((decide (i < j)) = true → IxA x.a x.n (w64 (Int.fdiv (IntKind.wrap .u64 (w64 (i + j))) (2 ^ 1))) 1 fun ad => 
    (∃ x1 : Int, hcell H1 ad = some (.int .i64 x1) ∧ callV Try.prog cmp [.int .i64 x1, .string target] H1 (fun r H2 => 
    ∃ y : Int, r = .int .i64 y ∧ (((decide (y < 0)) = true → (∃ m2, m2 < m1 ∧ I (w64 ((w64 (Int.fdiv (IntKind.wrap .u64 (w64 (i + j))) (2 ^ 1))) + 1)) j H2 m2)) ∧ 
    ((decide (y < 0)) = false → (∃ m2, m2 < m1 ∧ I i (w64 (Int.fdiv (IntKind.wrap .u64 (w64 (i + j))) (2 ^ 1))) H2 m2)))) Z)) ∧ 
    ((decide (i < j)) = false → (((decide (i < (x.n : Int))) = true → IxA x.a x.n i 1 fun ad1 => (∃ x2 : Int, hcell H1 ad1 = some (.int .i64 x2) ∧ 
    callV Try.prog cmp [.int .i64 x2, .string target] H1 (fun r1 H3 => ∃ y1 : Int, r1 = .int .i64 y1 ∧ 
    K (.tuple #[.int .i64 i, .bool (y1 == 0)]) H3) Z)) ∧ ((decide (i < (x.n : Int))) = false → K (.tuple #[.int .i64 i, .bool false]) H1))))
def aJ136 : Ann := (fun _ => none)
def aL136 : Ann := (fun k => if k = 3 then some [(9, (.sc (.int .i64))), (10, (.sc (.int .i64)))] else none)
theorem V136_ok {H : Hp} {x : Sl} {target : ByteArray} {cmp : Value} {K : Value → Hp → Prop} {Z : List PanicEntry → Hp → Prop} (h : V136 H x target cmp K Z) : CallF Try.prog 136 #[.slice x.a x.n x.c, .string target, cmp] H K Z :=
  fnC_sound (P := Try.prog) (aJ := aJ136) (aL := aL136) (f := 136) (args := [.slice x.a x.n x.c, .string target, cmp]) (Eq.mp (by kernel_rfl) h)
/-- slices.BinarySearchFunc[[]int,int,int] -/
def V131 (H : Hp) (x : Sl) (target : Int) (cmp : Value) (K : Value → Hp → Prop) (Z : List PanicEntry → Hp → Prop) : Prop :=
  ∃ I : Int → Int → Hp → Nat → Prop, (∃ m, I 0 (x.n : Int) H m) ∧ ∀ (i : Int) (j : Int), ∀ H1 m1, I i j H1 m1 → 
    ∀ scr : Nat → Value, (((decide (i < j)) = true → IxA x.a x.n (w64 (Int.fdiv (IntKind.wrap .u64 (w64 (i + j))) (2 ^ 1))) 1 fun ad => 
    (∃ x1 : Int, hcell H1 ad = some (.int .i64 x1) ∧ callV Try.prog cmp [.int .i64 x1, .int .i64 target] H1 (fun r H2 => 
    ∃ y : Int, r = .int .i64 y ∧ (((decide (y < 0)) = true → (∃ m2, m2 < m1 ∧ I (w64 ((w64 (Int.fdiv (IntKind.wrap .u64 (w64 (i + j))) (2 ^ 1))) + 1)) j H2 m2)) ∧ 
    ((decide (y < 0)) = false → (∃ m2, m2 < m1 ∧ I i (w64 (Int.fdiv (IntKind.wrap .u64 (w64 (i + j))) (2 ^ 1))) H2 m2)))) Z)) ∧ 
    ((decide (i < j)) = false → (((decide (i < (x.n : Int))) = true → IxA x.a x.n i 1 fun ad1 => (∃ x2 : Int, hcell H1 ad1 = some (.int .i64 x2) ∧ 
    callV Try.prog cmp [.int .i64 x2, .int .i64 target] H1 (fun r1 H3 => ∃ y1 : Int, r1 = .int .i64 y1 ∧ 
    K (.tuple #[.int .i64 i, .bool (y1 == 0)]) H3) Z)) ∧ ((decide (i < (x.n : Int))) = false → K (.tuple #[.int .i64 i, .bool false]) H1))))
def aJ131 : Ann := (fun _ => none)
def aL131 : Ann := (fun k => if k = 3 then some [(9, (.sc (.int .i64))), (10, (.sc (.int .i64)))] else none)
theorem V131_ok {H : Hp} {x : Sl} {target : Int} {cmp : Value} {K : Value → Hp → Prop} {Z : List PanicEntry → Hp → Prop} (h : V131 H x target cmp K Z) : CallF Try.prog 131 #[.slice x.a x.n x.c, .int .i64 target, cmp] H K Z :=
  fnC_sound (P := Try.prog) (aJ := aJ131) (aL := aL131) (f := 131) (args := [.slice x.a x.n x.c, .int .i64 target, cmp]) (Eq.mp (by kernel_rfl) h)
/-- (*weft/intern.Table[string]).place -/
def V99 (H : Hp) (t : Addr) (x : ByteArray) (K : Value → Hp → Prop) (Z : List PanicEntry → Hp → Prop) : Prop :=
  ∀ bT H1, Newb H (.cells #[.pointer (some t)] 155) bT H1 → ∃ x1 : Option Addr, hcell H1 ⟨bT, 0, none⟩ = some (.pointer x1) ∧ 
    nilck x1 fun ad => (∃ x2 : Sl, hcell H1 (Addr.add ad 1) = some (.slice x2.a x2.n x2.c) ∧ CallF Try.prog 136 #[.slice x2.a x2.n x2.c, .string x, .func (.func 137) #[] #[.pointer (some ⟨bT, 0, none⟩)]] H1 (fun r H2 => 
    ∃ y_0 : Int, ∃ y_1 : Bool, r = .tuple #[.int .i64 y_0, .bool y_1] ∧ K (.tuple #[.int .i64 y_0, .bool y_1]) H2) Z)
def aJ99 : Ann := (fun _ => none)
def aL99 : Ann := (fun _ => none)
theorem V99_ok {H : Hp} {t : Addr} {x : ByteArray} {K : Value → Hp → Prop} {Z : List PanicEntry → Hp → Prop} (h : V99 H t x K Z) : CallF Try.prog 99 #[.pointer (some t), .string x] H K Z :=
  fnC_sound (P := Try.prog) (aJ := aJ99) (aL := aL99) (f := 99) (args := [.pointer (some t), .string x]) (Eq.mp (by kernel_rfl) h)
/-- (*weft/intern.Table[int]).place -/
def V97 (H : Hp) (t : Addr) (x : Int) (K : Value → Hp → Prop) (Z : List PanicEntry → Hp → Prop) : Prop :=
  ∀ bT H1, Newb H (.cells #[.pointer (some t)] 153) bT H1 → ∃ x1 : Option Addr, hcell H1 ⟨bT, 0, none⟩ = some (.pointer x1) ∧ 
    nilck x1 fun ad => (∃ x2 : Sl, hcell H1 (Addr.add ad 1) = some (.slice x2.a x2.n x2.c) ∧ CallF Try.prog 131 #[.slice x2.a x2.n x2.c, .int .i64 x, .func (.func 132) #[] #[.pointer (some ⟨bT, 0, none⟩)]] H1 (fun r H2 => 
    ∃ y_0 : Int, ∃ y_1 : Bool, r = .tuple #[.int .i64 y_0, .bool y_1] ∧ K (.tuple #[.int .i64 y_0, .bool y_1]) H2) Z)
def aJ97 : Ann := (fun _ => none)
def aL97 : Ann := (fun _ => none)
theorem V97_ok {H : Hp} {t : Addr} {x : Int} {K : Value → Hp → Prop} {Z : List PanicEntry → Hp → Prop} (h : V97 H t x K Z) : CallF Try.prog 97 #[.pointer (some t), .int .i64 x] H K Z :=
  fnC_sound (P := Try.prog) (aJ := aJ97) (aL := aL97) (f := 97) (args := [.pointer (some t), .int .i64 x]) (Eq.mp (by kernel_rfl) h)
/-- slices.Insert[[]int,int] -/
def V98 (H : Hp) (s : Sl) (i : Int) (v : Sl) (K : Value → Hp → Prop) (Z : List PanicEntry → Hp → Prop) : Prop :=
  (s.n ≤ s.c ∧ SlX s.a s.c i (s.n : Int) 1 fun cut => ((((v.n : Int) == 0) = true → K (.slice s.a s.n s.c) H) ∧ 
    (((v.n : Int) == 0) = false → (((i == (s.n : Int)) = true → App Try.prog #[22, 22] 22 H [.slice s.a s.n s.c, .slice v.a v.n v.c] fun ap H1 => 
    (K (.slice ap.a ap.n ap.c) H1)) ∧ ((i == (s.n : Int)) = false → (((decide ((w64 ((s.n : Int) + (v.n : Int))) > (s.c : Int))) = true → 
    (s.n ≤ s.c ∧ SlX s.a s.c 0 i 1 fun cut1 => (App Try.prog #[22, 3] 22 H [.slice cut1.a cut1.n cut1.c, .int .i64 (w64 ((w64 ((s.n : Int) + (v.n : Int))) - i))] fun ap1 H2 => 
    (ap1.n ≤ ap1.c ∧ SlX ap1.a ap1.c i (ap1.n : Int) 1 fun cut2 => (Cpy Try.prog #[22, 22] 3 H2 [.slice cut2.a cut2.n cut2.c, .slice v.a v.n v.c] fun cp H3 => 
    (ap1.n ≤ ap1.c ∧ SlX ap1.a ap1.c (w64 (i + (v.n : Int))) (ap1.n : Int) 1 fun cut3 => (s.n ≤ s.c ∧ 
    SlX s.a s.c i (s.n : Int) 1 fun cut4 => (Cpy Try.prog #[22, 22] 3 H3 [.slice cut3.a cut3.n cut3.c, .slice cut4.a cut4.n cut4.c] fun cp1 H4 => 
    (K (.slice ap1.a ap1.n ap1.c) H4))))))))) ∧ ((decide ((w64 ((s.n : Int) + (v.n : Int))) > (s.c : Int))) = false → 
    (s.n ≤ s.c ∧ SlX s.a s.c 0 (w64 ((s.n : Int) + (v.n : Int))) 1 fun cut5 => (cut5.n ≤ cut5.c ∧ SlX cut5.a cut5.c (w64 (i + (v.n : Int))) (cut5.n : Int) 1 fun cut6 => 
    (ExtF Try.prog 134 [.slice v.a v.n v.c, .slice cut6.a cut6.n cut6.c] H fun r H5 => ∃ y : Bool, r = .bool y ∧ 
    (((!y) = true → (cut5.n ≤ cut5.c ∧ SlX cut5.a cut5.c (w64 (i + (v.n : Int))) (cut5.n : Int) 1 fun cut7 => 
    (cut5.n ≤ cut5.c ∧ SlX cut5.a cut5.c i (cut5.n : Int) 1 fun cut8 => (Cpy Try.prog #[22, 22] 3 H5 [.slice cut7.a cut7.n cut7.c, .slice cut8.a cut8.n cut8.c] fun cp2 H6 => 
    (cut5.n ≤ cut5.c ∧ SlX cut5.a cut5.c i (cut5.n : Int) 1 fun cut9 => (Cpy Try.prog #[22, 22] 3 H6 [.slice cut9.a cut9.n cut9.c, .slice v.a v.n v.c] fun cp3 H7 => 
    (K (.slice cut5.a cut5.n cut5.c) H7))))))) ∧ ((!y) = false → (cut5.n ≤ cut5.c ∧ SlX cut5.a cut5.c (s.n : Int) (cut5.n : Int) 1 fun cut10 => 
    (Cpy Try.prog #[22, 22] 3 H5 [.slice cut10.a cut10.n cut10.c, .slice v.a v.n v.c] fun cp4 H8 => (cut5.n ≤ cut5.c ∧ 
    SlX cut5.a cut5.c i (cut5.n : Int) 1 fun cut11 => (CallF Try.prog 135 #[.slice cut11.a cut11.n cut11.c, .int .i64 (v.n : Int)] H8 (fun r1 H9 => 
    r1 = .tuple #[] ∧ K (.slice cut5.a cut5.n cut5.c) H9) Z))))))))))))))))
def aJ98 : Ann := (fun _ => none)
def aL98 : Ann := (fun _ => none)
theorem V98_ok {H : Hp} {s : Sl} {i : Int} {v : Sl} {K : Value → Hp → Prop} {Z : List PanicEntry → Hp → Prop} (h : V98 H s i v K Z) : CallF Try.prog 98 #[.slice s.a s.n s.c, .int .i64 i, .slice v.a v.n v.c] H K Z :=
  fnC_sound (P := Try.prog) (aJ := aJ98) (aL := aL98) (f := 98) (args := [.slice s.a s.n s.c, .int .i64 i, .slice v.a v.n v.c]) (Eq.mp (by kernel_rfl) h)
/-- slices.Clone[[]int,int] -/
def V52 (H : Hp) (s : Sl) (K : Value → Hp → Prop) (Z : List PanicEntry → Hp → Prop) : Prop :=
  (((Option.isNone s.a) = true → K (.slice none 0 0) H) ∧ ((Option.isNone s.a) = false → ∀ b H1, Newb H (.cells #[] 3) b H1 → 
    App Try.prog #[22, 22] 22 H1 [.slice (some ⟨b, 0, none⟩) 0 0, .slice s.a s.n s.c] fun ap H2 => (K (.slice ap.a ap.n ap.c) H2)))
def aJ52 : Ann := (fun _ => none)
def aL52 : Ann := (fun _ => none)
theorem V52_ok {H : Hp} {s : Sl} {K : Value → Hp → Prop} {Z : List PanicEntry → Hp → Prop} (h : V52 H s K Z) : CallF Try.prog 52 #[.slice s.a s.n s.c] H K Z :=
  fnC_sound (P := Try.prog) (aJ := aJ52) (aL := aL52) (f := 52) (args := [.slice s.a s.n s.c]) (Eq.mp (by kernel_rfl) h)
/-- (*weft/intern.Table[string]).Put -/
def V57 (H : Hp) (t : Addr) (x : ByteArray) (K : Value → Hp → Prop) (Z : List PanicEntry → Hp → Prop) : Prop :=
  CallF Try.prog 99 #[.pointer (some t), .string x] H (fun r H1 => ∃ y_0 : Int, ∃ y_1 : Bool, r = .tuple #[.int .i64 y_0, .bool y_1] ∧ 
    ((y_1 = true → ∃ x1 : Sl, hcell H1 (Addr.add t 1) = some (.slice x1.a x1.n x1.c) ∧ IxA x1.a x1.n y_0 1 fun ad => 
    (∃ x2 : Int, hcell H1 ad = some (.int .i64 x2) ∧ K (.tuple #[.int .i64 x2, .bool false]) H1)) ∧ (y_1 = false → 
    ∃ x3 : Sl, hcell H1 t = some (.slice x3.a x3.n x3.c) ∧ ∃ x4 : Sl, hcell H1 t = some (.slice x4.a x4.n x4.c) ∧ 
    ∀ b H2, Newb H1 (.cells #[.string x] 9) b H2 → App Try.prog #[47, 47] 47 H2 [.slice x4.a x4.n x4.c, .slice (some ⟨b, 0, none⟩) 1 1] fun ap H3 => 
    (StL t 0 [.slice ap.a ap.n ap.c] H3 fun H4 => (∃ x5 : Sl, hcell H4 (Addr.add t 1) = some (.slice x5.a x5.n x5.c) ∧ 
    ∀ b1 H5, Newb H4 (.cells #[.int .i64 (x3.n : Int)] 3) b1 H5 → CallF Try.prog 98 #[.slice x5.a x5.n x5.c, .int .i64 y_0, .slice (some ⟨b1, 0, none⟩) 1 1] H5 (fun r1 H6 => 
    ∃ y : Sl, r1 = .slice y.a y.n y.c ∧ StL (Addr.add t 1) 0 [.slice y.a y.n y.c] H6 fun H7 => (K (.tuple #[.int .i64 (x3.n : Int), .bool true]) H7)) Z))))) Z
def aJ57 : Ann := (fun _ => none)
def aL57 : Ann := (fun _ => none)
theorem V57_ok {H : Hp} {t : Addr} {x : ByteArray} {K : Value → Hp → Prop} {Z : List PanicEntry → Hp → Prop} (h : V57 H t x K Z) : CallF Try.prog 57 #[.pointer (some t), .string x] H K Z :=
  fnC_sound (P := Try.prog) (aJ := aJ57) (aL := aL57) (f := 57) (args := [.pointer (some t), .string x]) (Eq.mp (by kernel_rfl) h)
/-- (*weft/intern.Table[int]).Put -/
def V53 (H : Hp) (t : Addr) (x : Int) (K : Value → Hp → Prop) (Z : List PanicEntry → Hp → Prop) : Prop :=
  CallF Try.prog 97 #[.pointer (some t), .int .i64 x] H (fun r H1 => ∃ y_0 : Int, ∃ y_1 : Bool, r = .tuple #[.int .i64 y_0, .bool y_1] ∧ 
    ((y_1 = true → ∃ x1 : Sl, hcell H1 (Addr.add t 1) = some (.slice x1.a x1.n x1.c) ∧ IxA x1.a x1.n y_0 1 fun ad => 
    (∃ x2 : Int, hcell H1 ad = some (.int .i64 x2) ∧ K (.tuple #[.int .i64 x2, .bool false]) H1)) ∧ (y_1 = false → 
    ∃ x3 : Sl, hcell H1 t = some (.slice x3.a x3.n x3.c) ∧ ∃ x4 : Sl, hcell H1 t = some (.slice x4.a x4.n x4.c) ∧ 
    ∀ b H2, Newb H1 (.cells #[.int .i64 x] 3) b H2 → App Try.prog #[22, 22] 22 H2 [.slice x4.a x4.n x4.c, .slice (some ⟨b, 0, none⟩) 1 1] fun ap H3 => 
    (StL t 0 [.slice ap.a ap.n ap.c] H3 fun H4 => (∃ x5 : Sl, hcell H4 (Addr.add t 1) = some (.slice x5.a x5.n x5.c) ∧ 
    ∀ b1 H5, Newb H4 (.cells #[.int .i64 (x3.n : Int)] 3) b1 H5 → CallF Try.prog 98 #[.slice x5.a x5.n x5.c, .int .i64 y_0, .slice (some ⟨b1, 0, none⟩) 1 1] H5 (fun r1 H6 => 
    ∃ y : Sl, r1 = .slice y.a y.n y.c ∧ StL (Addr.add t 1) 0 [.slice y.a y.n y.c] H6 fun H7 => (K (.tuple #[.int .i64 (x3.n : Int), .bool true]) H7)) Z))))) Z
def aJ53 : Ann := (fun _ => none)
def aL53 : Ann := (fun _ => none)
theorem V53_ok {H : Hp} {t : Addr} {x : Int} {K : Value → Hp → Prop} {Z : List PanicEntry → Hp → Prop} (h : V53 H t x K Z) : CallF Try.prog 53 #[.pointer (some t), .int .i64 x] H K Z :=
  fnC_sound (P := Try.prog) (aJ := aJ53) (aL := aL53) (f := 53) (args := [.pointer (some t), .int .i64 x]) (Eq.mp (by kernel_rfl) h)
/-- (*weft/intern.Table[string]).Find -/
def V59 (H : Hp) (t : Addr) (x : ByteArray) (K : Value → Hp → Prop) (Z : List PanicEntry → Hp → Prop) : Prop :=
  CallF Try.prog 99 #[.pointer (some t), .string x] H (fun r H1 => ∃ y_0 : Int, ∃ y_1 : Bool, r = .tuple #[.int .i64 y_0, .bool y_1] ∧ 
    (((!y_1) = true → K (.tuple #[.int .i64 0, .bool false]) H1) ∧ ((!y_1) = false → ∃ x1 : Sl, hcell H1 (Addr.add t 1) = some (.slice x1.a x1.n x1.c) ∧ 
    IxA x1.a x1.n y_0 1 fun ad => (∃ x2 : Int, hcell H1 ad = some (.int .i64 x2) ∧ K (.tuple #[.int .i64 x2, .bool true]) H1)))) Z
def aJ59 : Ann := (fun _ => none)
def aL59 : Ann := (fun _ => none)
theorem V59_ok {H : Hp} {t : Addr} {x : ByteArray} {K : Value → Hp → Prop} {Z : List PanicEntry → Hp → Prop} (h : V59 H t x K Z) : CallF Try.prog 59 #[.pointer (some t), .string x] H K Z :=
  fnC_sound (P := Try.prog) (aJ := aJ59) (aL := aL59) (f := 59) (args := [.pointer (some t), .string x]) (Eq.mp (by kernel_rfl) h)
/-- (*weft/intern.Table[int]).Find -/
def V56 (H : Hp) (t : Addr) (x : Int) (K : Value → Hp → Prop) (Z : List PanicEntry → Hp → Prop) : Prop :=
  CallF Try.prog 97 #[.pointer (some t), .int .i64 x] H (fun r H1 => ∃ y_0 : Int, ∃ y_1 : Bool, r = .tuple #[.int .i64 y_0, .bool y_1] ∧ 
    (((!y_1) = true → K (.tuple #[.int .i64 0, .bool false]) H1) ∧ ((!y_1) = false → ∃ x1 : Sl, hcell H1 (Addr.add t 1) = some (.slice x1.a x1.n x1.c) ∧ 
    IxA x1.a x1.n y_0 1 fun ad => (∃ x2 : Int, hcell H1 ad = some (.int .i64 x2) ∧ K (.tuple #[.int .i64 x2, .bool true]) H1)))) Z
def aJ56 : Ann := (fun _ => none)
def aL56 : Ann := (fun _ => none)
theorem V56_ok {H : Hp} {t : Addr} {x : Int} {K : Value → Hp → Prop} {Z : List PanicEntry → Hp → Prop} (h : V56 H t x K Z) : CallF Try.prog 56 #[.pointer (some t), .int .i64 x] H K Z :=
  fnC_sound (P := Try.prog) (aJ := aJ56) (aL := aL56) (f := 56) (args := [.pointer (some t), .int .i64 x]) (Eq.mp (by kernel_rfl) h)
/-- (*weft/intern.Table[string]).At -/
def V58 (H : Hp) (t : Addr) (n : Int) (K : Value → Hp → Prop) (Z : List PanicEntry → Hp → Prop) : Prop :=
  (((decide (n < 0)) = true → K (.tuple #[.string ⟨#[]⟩, .bool false]) H) ∧ ((decide (n < 0)) = false → 
    ∃ x : Sl, hcell H t = some (.slice x.a x.n x.c) ∧ (((decide (n ≥ (x.n : Int))) = true → K (.tuple #[.string ⟨#[]⟩, .bool false]) H) ∧ 
    ((decide (n ≥ (x.n : Int))) = false → ∃ x1 : Sl, hcell H t = some (.slice x1.a x1.n x1.c) ∧ IxA x1.a x1.n n 1 fun ad => 
    (∃ x2 : ByteArray, hcell H ad = some (.string x2) ∧ K (.tuple #[.string x2, .bool true]) H)))))
def aJ58 : Ann := (fun _ => none)
def aL58 : Ann := (fun _ => none)
theorem V58_ok {H : Hp} {t : Addr} {n : Int} {K : Value → Hp → Prop} {Z : List PanicEntry → Hp → Prop} (h : V58 H t n K Z) : CallF Try.prog 58 #[.pointer (some t), .int .i64 n] H K Z :=
  fnC_sound (P := Try.prog) (aJ := aJ58) (aL := aL58) (f := 58) (args := [.pointer (some t), .int .i64 n]) (Eq.mp (by kernel_rfl) h)
/-- (*weft/intern.Table[int]).At -/
def V55 (H : Hp) (t : Addr) (n : Int) (K : Value → Hp → Prop) (Z : List PanicEntry → Hp → Prop) : Prop :=
  (((decide (n < 0)) = true → K (.tuple #[.int .i64 0, .bool false]) H) ∧ ((decide (n < 0)) = false → 
    ∃ x : Sl, hcell H t = some (.slice x.a x.n x.c) ∧ (((decide (n ≥ (x.n : Int))) = true → K (.tuple #[.int .i64 0, .bool false]) H) ∧ 
    ((decide (n ≥ (x.n : Int))) = false → ∃ x1 : Sl, hcell H t = some (.slice x1.a x1.n x1.c) ∧ IxA x1.a x1.n n 1 fun ad => 
    (∃ x2 : Int, hcell H ad = some (.int .i64 x2) ∧ K (.tuple #[.int .i64 x2, .bool true]) H)))))
def aJ55 : Ann := (fun _ => none)
def aL55 : Ann := (fun _ => none)
theorem V55_ok {H : Hp} {t : Addr} {n : Int} {K : Value → Hp → Prop} {Z : List PanicEntry → Hp → Prop} (h : V55 H t n K Z) : CallF Try.prog 55 #[.pointer (some t), .int .i64 n] H K Z :=
  fnC_sound (P := Try.prog) (aJ := aJ55) (aL := aL55) (f := 55) (args := [.pointer (some t), .int .i64 n]) (Eq.mp (by kernel_rfl) h)
/-- (*weft/intern.Table[string]).Rising -/
def V100 (H : Hp) (t : Addr) (K : Value → Hp → Prop) (Z : List PanicEntry → Hp → Prop) : Prop :=
  ∀ bT H1, Newb H (.cells #[.pointer (some t)] 155) bT H1 → K (.func (.func 139) #[] #[.pointer (some ⟨bT, 0, none⟩)]) H1
def aJ100 : Ann := (fun _ => none)
def aL100 : Ann := (fun _ => none)
theorem V100_ok {H : Hp} {t : Addr} {K : Value → Hp → Prop} {Z : List PanicEntry → Hp → Prop} (h : V100 H t K Z) : CallF Try.prog 100 #[.pointer (some t)] H K Z :=
  fnC_sound (P := Try.prog) (aJ := aJ100) (aL := aL100) (f := 100) (args := [.pointer (some t)]) (Eq.mp (by kernel_rfl) h)
/-- (*weft/intern.Table[string]).Rising$1 -/
def V139 (H : Hp) (yield : Value) (cap0 : Addr) (K : Value → Hp → Prop) (Z : List PanicEntry → Hp → Prop) : Prop :=
  ∃ x : Option Addr, hcell H cap0 = some (.pointer x) ∧ nilck x fun ad => (∃ x1 : Sl, hcell H (Addr.add ad 1) = some (.slice x1.a x1.n x1.c) ∧ 
    CallF Try.prog 52 #[.slice x1.a x1.n x1.c] H (fun r H1 => ∃ y : Sl, r = .slice y.a y.n y.c ∧ ∃ I : Int → 
    Hp → Nat → Prop, (∃ m, I 0 H1 m) ∧ ∀ (t11 : Int), ∀ H2 m1, I t11 H2 m1 → ∀ scr : Nat → Value, (((decide (t11 < (y.n : Int))) = true → 
    IxA y.a y.n t11 1 fun ad1 => (∃ x2 : Int, hcell H2 ad1 = some (.int .i64 x2) ∧ ∃ x3 : Option Addr, hcell H2 cap0 = some (.pointer x3) ∧ 
    nilck x3 fun ad2 => (∃ x4 : Sl, hcell H2 ad2 = some (.slice x4.a x4.n x4.c) ∧ IxA x4.a x4.n x2 1 fun ad3 => 
    (∃ x5 : ByteArray, hcell H2 ad3 = some (.string x5) ∧ callV Try.prog yield [.string x5, .int .i64 x2] H2 (fun r1 H3 => 
    ∃ y1 : Bool, r1 = .bool y1 ∧ (((!y1) = true → K (.tuple #[]) H3) ∧ ((!y1) = false → (∃ m2, m2 < m1 ∧ 
    I (w64 (t11 + 1)) H3 m2)))) Z)))) ∧ ((decide (t11 < (y.n : Int))) = false → K (.tuple #[]) H2))) Z)
def aJ139 : Ann := (fun _ => none)
def aL139 : Ann := (fun k => if k = 1 then some [(11, (.sc (.int .i64)))] else none)
theorem V139_ok {H : Hp} {yield : Value} {cap0 : Addr} {K : Value → Hp → Prop} {Z : List PanicEntry → Hp → Prop} (h : V139 H yield cap0 K Z) : CallF Try.prog 139 #[yield, .pointer (some cap0)] H K Z :=
  fnC_sound (P := Try.prog) (aJ := aJ139) (aL := aL139) (f := 139) (args := [yield, .pointer (some cap0)]) (Eq.mp (by kernel_rfl) h)
/-- weft/intern.Sorted[string] -/
def V60 (H : Hp) (l : Sl) (K : Value → Hp → Prop) (Z : List PanicEntry → Hp → Prop) : Prop :=
  ∀ b H1, Newb H (.cells #[.slice none 0 0, .slice none 0 0] 50) b H1 → ∃ I : Int → Hp → Nat → Prop, (∃ m, I 0 H1 m) ∧ 
    ∀ (t12 : Int), ∀ H2 m1, I t12 H2 m1 → ∀ scr : Nat → Value, (((decide (t12 < (l.n : Int))) = true → 
    IxA l.a l.n t12 1 fun ad => (∃ x : ByteArray, hcell H2 ad = some (.string x) ∧ CallF Try.prog 57 #[.pointer (some ⟨b, 0, none⟩), .string x] H2 (fun r H3 => 
    ∃ y_0 : Int, ∃ y_1 : Bool, r = .tuple #[.int .i64 y_0, .bool y_1] ∧ (∃ m2, m2 < m1 ∧ I (w64 (t12 + 1)) H3 m2)) Z)) ∧ 
    ((decide (t12 < (l.n : Int))) = false → ∀ bOut H4, Newb H2 (.cells #[.slice none 0 0] 47) bOut H4 → 
    CallF Try.prog 100 #[.pointer (some ⟨b, 0, none⟩)] H4 (fun r1 H5 => ∃ y : Value, r1 = y ∧ ∀ D H6, Newb H5 (.deferred (some [])) D H6 → 
    ∀ l1 H7, Newb H6 (.loop (lrec Try.f60 60 9 [.slice l.a l.n l.c, undef, .slice none 0 0, .pointer (some ⟨b, 0, none⟩), undef, (scr 5), .pointer (some ⟨bOut, 0, none⟩), undef, .agg #[.slice none 0 0, .slice none 0 0], .pointer (some ⟨b, 0, none⟩), .slice l.a l.n l.c, .int .i64 (l.n : Int), .int .i64 t12, .bool (decide (t12 < (l.n : Int))), (scr 14), (scr 15), (scr 16), (scr 17), (scr 18), (scr 19), .pointer (some ⟨b, 0, none⟩), y, undef, undef, undef, undef, undef, undef, undef] D)) l1 H7 → 
    callG Try.prog y [.func (.yield l1) #[] #[]] H7 (fun _ H8 => endLoopK l1 H8 fun j H9 => jmpV j (∃ x1 : Sl, hcell H9 ⟨bOut, 0, none⟩ = some (.slice x1.a x1.n x1.c) ∧ 
    (H9[D]? = some (.deferred (some [])) ∧ ∀ H10, H10 = H9.setIfInBounds D (.deferred none) → K (.slice x1.a x1.n x1.c) H10)) (False) fun id => 
    False) (fun _ _ => False)) Z))
def aJ60 : Ann := (fun _ => none)
def aL60 : Ann := (fun k => if k = 3 then some [(12, (.sc (.int .i64)))] else none)
theorem V60_ok {H : Hp} {l : Sl} {K : Value → Hp → Prop} {Z : List PanicEntry → Hp → Prop} (h : V60 H l K Z) : CallF Try.prog 60 #[.slice l.a l.n l.c] H K Z :=
  fnC_sound (P := Try.prog) (aJ := aJ60) (aL := aL60) (f := 60) (args := [.slice l.a l.n l.c]) (Eq.mp (by kernel_rfl) h)
/-- a round of the loop over a function, number 9, in weft/intern.Sorted[string] -/
def R60_9 (H11 : Hp) (bOut : Nat) (l2 : Nat) (y22 : ByteArray) (y23 : Int) (K : Value → Hp → Prop) : Prop :=
  (∃ r2, H11[l2]? = some (.loop r2) ∧ r2.state = .ready ∧ ∀ H12, H12 = H11.setIfInBounds l2 (.loop { r2 with state := .busy }) → 
    ∃ x2 : Sl, hcell H12 ⟨bOut, 0, none⟩ = some (.slice x2.a x2.n x2.c) ∧ ∀ b1 H13, Newb H12 (.cells #[.string y22] 9) b1 H13 → 
    App Try.prog #[47, 47] 47 H13 [.slice x2.a x2.n x2.c, .slice (some ⟨b1, 0, none⟩) 1 1] fun ap H14 => 
    (StL ⟨bOut, 0, none⟩ 0 [.slice ap.a ap.n ap.c] H14 fun H15 => (endR l2 none H15 K)))
theorem R60_9_ok {H11 : Hp} {bOut : Nat} {l2 : Nat} {y22 : ByteArray} {y23 : Int} {u0 u1 u2 u3 u4 u5 u7 u8 u9 u10 u11 u12 u13 u14 u15 u16 u17 u18 u19 u20 u21 u22 u23 u24 u25 u26 u27 u28 : Value} {K : Value → Hp → Prop} (h : R60_9 H11 bOut l2 y22 y23 K) : yldC Try.prog aJ60 aL60 Try.f60 60 9 l2 [u0, u1, u2, u3, u4, u5, .pointer (some ⟨bOut, 0, none⟩), u7, u8, u9, u10, u11, u12, u13, u14, u15, u16, u17, u18, u19, u20, u21, u22, u23, u24, u25, u26, u27, u28] [.string y22, .int .i64 y23] H11 K := Eq.mp (by kernel_rfl) h
/-- weft/weftref05.Number -/
def V31 (H : Hp) (l : Sl) (x : ByteArray) (K : Value → Hp → Prop) (Z : List PanicEntry → Hp → Prop) : Prop :=
  ∃ I : Int → Hp → Nat → Prop, (∃ m, I 0 H m) ∧ ∀ (i : Int), ∀ H1 m1, I i H1 m1 → ∀ scr : Nat → Value, (((decide (i < (l.n : Int))) = true → 
    IxA l.a l.n i 1 fun ad => (∃ x1 : ByteArray, hcell H1 ad = some (.string x1) ∧ (((beqS x1 x) = true → 
    K (.int .i64 i) H1) ∧ ((beqS x1 x) = false → (∃ m2, m2 < m1 ∧ I (w64 (i + 1)) H1 m2))))) ∧ ((decide (i < (l.n : Int))) = false → 
    K (.int .i64 (-1)) H1))
def aJ31 : Ann := (fun _ => none)
def aL31 : Ann := (fun k => if k = 2 then some [(5, (.sc (.int .i64)))] else none)
theorem V31_ok {H : Hp} {l : Sl} {x : ByteArray} {K : Value → Hp → Prop} {Z : List PanicEntry → Hp → Prop} (h : V31 H l x K Z) : CallF Try.prog 31 #[.slice l.a l.n l.c, .string x] H K Z :=
  fnC_sound (P := Try.prog) (aJ := aJ31) (aL := aL31) (f := 31) (args := [.slice l.a l.n l.c, .string x]) (Eq.mp (by kernel_rfl) h)
/-- weft/weftref05.Into -/
def V101 (H : Hp) (m : Sl) (x : ByteArray) (K : Value → Hp → Prop) (Z : List PanicEntry → Hp → Prop) : Prop :=
  ∃ I : Int → Hp → Nat → Prop, (∃ m1, I 0 H m1) ∧ ∀ (k : Int), ∀ H1 m2, I k H1 m2 → ∀ scr : Nat → Value, (((decide (k < (m.n : Int))) = true → 
    IxA m.a m.n k 1 fun ad => (∃ x1 : ByteArray, hcell H1 ad = some (.string x1) ∧ (((ltS x1 x) = true → 
    (∃ m3, m3 < m2 ∧ I (w64 (k + 1)) H1 m3)) ∧ ((ltS x1 x) = false → (((decide (k < (m.n : Int))) = true → 
    IxA m.a m.n k 1 fun ad1 => (∃ x2 : ByteArray, hcell H1 ad1 = some (.string x2) ∧ (((beqS x2 x) = true → 
    K (.slice m.a m.n m.c) H1) ∧ ((beqS x2 x) = false → ∀ b H2, Newb H1 (.cells #[] 9) b H2 → (m.n ≤ m.c ∧ 
    SlX m.a m.c 0 k 1 fun cut => (App Try.prog #[47, 47] 47 H2 [.slice (some ⟨b, 0, none⟩) 0 0, .slice cut.a cut.n cut.c] fun ap H3 => 
    (∀ b1 H4, Newb H3 (.cells #[.string x] 9) b1 H4 → App Try.prog #[47, 47] 47 H4 [.slice ap.a ap.n ap.c, .slice (some ⟨b1, 0, none⟩) 1 1] fun ap1 H5 => 
    (m.n ≤ m.c ∧ SlX m.a m.c k (m.n : Int) 1 fun cut1 => (App Try.prog #[47, 47] 47 H5 [.slice ap1.a ap1.n ap1.c, .slice cut1.a cut1.n cut1.c] fun ap2 H6 => 
    (K (.slice ap2.a ap2.n ap2.c) H6)))))))))) ∧ ((decide (k < (m.n : Int))) = false → ∀ b2 H7, Newb H1 (.cells #[] 9) b2 H7 → 
    (m.n ≤ m.c ∧ SlX m.a m.c 0 k 1 fun cut2 => (App Try.prog #[47, 47] 47 H7 [.slice (some ⟨b2, 0, none⟩) 0 0, .slice cut2.a cut2.n cut2.c] fun ap3 H8 => 
    (∀ b3 H9, Newb H8 (.cells #[.string x] 9) b3 H9 → App Try.prog #[47, 47] 47 H9 [.slice ap3.a ap3.n ap3.c, .slice (some ⟨b3, 0, none⟩) 1 1] fun ap4 H10 => 
    (m.n ≤ m.c ∧ SlX m.a m.c k (m.n : Int) 1 fun cut3 => (App Try.prog #[47, 47] 47 H10 [.slice ap4.a ap4.n ap4.c, .slice cut3.a cut3.n cut3.c] fun ap5 H11 => 
    (K (.slice ap5.a ap5.n ap5.c) H11)))))))))))) ∧ ((decide (k < (m.n : Int))) = false → (((decide (k < (m.n : Int))) = true → 
    IxA m.a m.n k 1 fun ad2 => (∃ x3 : ByteArray, hcell H1 ad2 = some (.string x3) ∧ (((beqS x3 x) = true → 
    K (.slice m.a m.n m.c) H1) ∧ ((beqS x3 x) = false → ∀ b4 H12, Newb H1 (.cells #[] 9) b4 H12 → (m.n ≤ m.c ∧ 
    SlX m.a m.c 0 k 1 fun cut4 => (App Try.prog #[47, 47] 47 H12 [.slice (some ⟨b4, 0, none⟩) 0 0, .slice cut4.a cut4.n cut4.c] fun ap6 H13 => 
    (∀ b5 H14, Newb H13 (.cells #[.string x] 9) b5 H14 → App Try.prog #[47, 47] 47 H14 [.slice ap6.a ap6.n ap6.c, .slice (some ⟨b5, 0, none⟩) 1 1] fun ap7 H15 => 
    (m.n ≤ m.c ∧ SlX m.a m.c k (m.n : Int) 1 fun cut5 => (App Try.prog #[47, 47] 47 H15 [.slice ap7.a ap7.n ap7.c, .slice cut5.a cut5.n cut5.c] fun ap8 H16 => 
    (K (.slice ap8.a ap8.n ap8.c) H16)))))))))) ∧ ((decide (k < (m.n : Int))) = false → ∀ b6 H17, Newb H1 (.cells #[] 9) b6 H17 → 
    (m.n ≤ m.c ∧ SlX m.a m.c 0 k 1 fun cut6 => (App Try.prog #[47, 47] 47 H17 [.slice (some ⟨b6, 0, none⟩) 0 0, .slice cut6.a cut6.n cut6.c] fun ap9 H18 => 
    (∀ b7 H19, Newb H18 (.cells #[.string x] 9) b7 H19 → App Try.prog #[47, 47] 47 H19 [.slice ap9.a ap9.n ap9.c, .slice (some ⟨b7, 0, none⟩) 1 1] fun ap10 H20 => 
    (m.n ≤ m.c ∧ SlX m.a m.c k (m.n : Int) 1 fun cut7 => (App Try.prog #[47, 47] 47 H20 [.slice ap10.a ap10.n ap10.c, .slice cut7.a cut7.n cut7.c] fun ap11 H21 => 
    (K (.slice ap11.a ap11.n ap11.c) H21))))))))))
def aJ101 : Ann := (fun _ => none)
def aL101 : Ann := (fun k => if k = 2 then some [(5, (.sc (.int .i64)))] else none)
theorem V101_ok {H : Hp} {m : Sl} {x : ByteArray} {K : Value → Hp → Prop} {Z : List PanicEntry → Hp → Prop} (h : V101 H m x K Z) : CallF Try.prog 101 #[.slice m.a m.n m.c, .string x] H K Z :=
  fnC_sound (P := Try.prog) (aJ := aJ101) (aL := aL101) (f := 101) (args := [.slice m.a m.n m.c, .string x]) (Eq.mp (by kernel_rfl) h)
/-- weft/weftref05.Sorted -/
def V61 (H : Hp) (l : Sl) (K : Value → Hp → Prop) (Z : List PanicEntry → Hp → Prop) : Prop :=
  ∃ I : Sl → Int → Hp → Nat → Prop, (∃ m, I (⟨none, 0, 0⟩ : Sl) 0 H m) ∧ ∀ (m1 : Sl) (i : Int), ∀ H1 m2, I m1 i H1 m2 → 
    ∀ scr : Nat → Value, (((decide (i < (l.n : Int))) = true → IxA l.a l.n i 1 fun ad => (∃ x : ByteArray, hcell H1 ad = some (.string x) ∧ 
    CallF Try.prog 101 #[.slice m1.a m1.n m1.c, .string x] H1 (fun r H2 => ∃ y : Sl, r = .slice y.a y.n y.c ∧ 
    (∃ m3, m3 < m2 ∧ I y (w64 (i + 1)) H2 m3)) Z)) ∧ ((decide (i < (l.n : Int))) = false → K (.slice m1.a m1.n m1.c) H1))
def aJ61 : Ann := (fun _ => none)
def aL61 : Ann := (fun k => if k = 3 then some [(3, (.sc .sl)), (4, (.sc (.int .i64)))] else none)
theorem V61_ok {H : Hp} {l : Sl} {K : Value → Hp → Prop} {Z : List PanicEntry → Hp → Prop} (h : V61 H l K Z) : CallF Try.prog 61 #[.slice l.a l.n l.c] H K Z :=
  fnC_sound (P := Try.prog) (aJ := aJ61) (aL := aL61) (f := 61) (args := [.slice l.a l.n l.c]) (Eq.mp (by kernel_rfl) h)
/-- weft/weftref05.Same -/
def V50 (H : Hp) (a : Sl) (b : Sl) (K : Value → Hp → Prop) (Z : List PanicEntry → Hp → Prop) : Prop :=
  ((((a.n : Int) != (b.n : Int)) = true → K (.bool false) H) ∧ (((a.n : Int) != (b.n : Int)) = false → 
    ∃ I : Int → Hp → Nat → Prop, (∃ m, I 0 H m) ∧ ∀ (i : Int), ∀ H1 m1, I i H1 m1 → ∀ scr : Nat → Value, (((decide (i < (a.n : Int))) = true → 
    (((decide (i < (b.n : Int))) = true → IxA a.a a.n i 1 fun ad => (∃ x : ByteArray, hcell H1 ad = some (.string x) ∧ 
    IxA b.a b.n i 1 fun ad1 => (∃ x1 : ByteArray, hcell H1 ad1 = some (.string x1) ∧ (((!(beqS x x1)) = true → 
    K (.bool false) H1) ∧ ((!(beqS x x1)) = false → (∃ m2, m2 < m1 ∧ I (w64 (i + 1)) H1 m2)))))) ∧ ((decide (i < (b.n : Int))) = false → 
    K (.bool true) H1))) ∧ ((decide (i < (a.n : Int))) = false → K (.bool true) H1))))
def aJ50 : Ann := (fun _ => none)
def aL50 : Ann := (fun k => if k = 4 then some [(5, (.sc (.int .i64)))] else none)
theorem V50_ok {H : Hp} {a : Sl} {b : Sl} {K : Value → Hp → Prop} {Z : List PanicEntry → Hp → Prop} (h : V50 H a b K Z) : CallF Try.prog 50 #[.slice a.a a.n a.c, .slice b.a b.n b.c] H K Z :=
  fnC_sound (P := Try.prog) (aJ := aJ50) (aL := aL50) (f := 50) (args := [.slice a.a a.n a.c, .slice b.a b.n b.c]) (Eq.mp (by kernel_rfl) h)
end Go.Proofs.Ytigbdoicgdmliaa.N05
end

section
/- intern.Table over texts: what its methods do. -/
set_option linter.unusedVariables false
set_option linter.unusedSimpArgs false
-- tInt: 3
-- tE: 9
-- tTs: 47
-- tInts: 22
-- tBool: 4
-- put: 57
-- find: 59
-- atF: 58
-- place: 99
-- place1: 137
-- bs: 136
-- cmp: 138
-- nan: 140
-- rising: 100
-- rising1: 139
-- sorted: 60
-- clone: 52
-- tTab: 50
-- tPTab: 155
-- insert: 98
-- overlaps: 134
-- rot: 135
namespace Go.Proofs.Ytigbdoicgdmliaa.C05S
open Go Go.V Go.Proofs Go.Proofs.Ytigbdoicgdmliaa.N05
attribute [local irreducible] Cvt ExtF CallF hrun
abbrev val (x : ByteArray) : Value := .string x
abbrev lt (x y : ByteArray) : Bool := ltS x y
theorem lin : Lin lt := linS
abbrev Tb := TbS val lt 9 3
abbrev TbT := TbTo val lt 9 3
theorem uInts : Try.prog.underlying 22 = some (.slice 3) := by kernel_rfl
theorem uInt : Try.prog.underlying 3 = some (.int .i64) := by kernel_rfl
theorem uTs : Try.prog.underlying 47 = some (.slice 9) := by kernel_rfl
theorem info_of {x : Option TypeInfo} {z : Option Value} {a b : Nat} (h : (x.map fun i => (i.zero, i.size, i.bytes)) = some (z, a, b)) : ∃ inf : TypeInfo, x = some inf ∧ inf.zero = z ∧ inf.size = a ∧ inf.bytes = b := by
  cases x with
  | none => cases h
  | some i =>
    simp only [Option.map_some, Option.some.injEq, Prod.mk.injEq] at h
    exact ⟨i, rfl, h.1, h.2.1, h.2.2⟩
theorem iInt : ∃ inf : TypeInfo, Try.prog.info? 3 = some inf ∧ inf.zero = some (.int .i64 0) ∧ inf.size = 1 ∧ inf.bytes = 8 := info_of (by kernel_rfl)
theorem iE : ∃ inf : TypeInfo, Try.prog.info? 9 = some inf ∧ inf.zero = some (.string ⟨#[]⟩) ∧ inf.size = 1 ∧ inf.bytes = 16 := info_of (by kernel_rfl)

section
variable {H : Hp} {b o : Nat} {T : TypeId} {cs : List Value} {ts : List ByteArray} {os : List Nat}
theorem nan_ok {x : ByteArray} {K : Value → Hp → Prop} {Z : List PanicEntry → Hp → Prop} (k : K (.bool false) H) : CallF Try.prog 140 #[.string x] H K Z := by
  refine V140_ok ?_
  unfold V140
  rw [beqS_iff.2 rfl]
  exact k
theorem cmp_ok {x y : ByteArray} {K : Value → Hp → Prop} {Z : List PanicEntry → Hp → Prop} (k : K (.int .i64 (cmpT lt x y)) H) : CallF Try.prog 138 #[.string x, .string y] H K Z := by
  refine V138_ok ?_
  unfold V138
  refine nan_ok ⟨_, rfl, nan_ok ⟨_, rfl, (fun h => by cases h), fun _ => ⟨(fun h => by cases h), fun _ => ?_⟩⟩⟩
  unfold cmpT at k
  refine ⟨fun h1 => ?_, fun h1 => ?_⟩
  · have h1' : lt x y = true := h1
    rw [if_pos h1'] at k
    exact k
  · have h1' : ¬ lt x y = true := by
      have : lt x y = false := h1
      rw [this]
      decide
    rw [if_neg h1'] at k
    refine ⟨fun h2 => ?_, fun h2 => ?_⟩
    · have h2' : lt y x = true := by
        rcases lin.tot x y with h | h | h
        · exact absurd h h1'
        · rw [beqS_iff.2 h, Bool.or_true] at h2
          cases h2
        · exact h
      rw [if_pos h2'] at k
      exact k
    · have h2' : ¬ lt y x = true := by
        intro h
        have e1 : ltS x y = false := h1
        have e2 : beqS x y = false := by
          cases e : beqS x y with
          | false => rfl
          | true =>
            rw [beqS_iff.1 e] at h
            rw [lin.irr] at h
            cases h
        rw [e1, e2] at h2
        cases h2
      rw [if_neg h2'] at k
      exact k
theorem okP1 : fnOk Try.prog 137 = true := by kernel_rfl
theorem place_ok {x : ByteArray} {K : Value → Hp → Prop} {Z : List PanicEntry → Hp → Prop} (h : Tb H b o T cs ts os) (hbig : ts.length ≤ 1000000000)
    (k : ∀ p H', Split os.length (cAt lt ts os x) p → Fr no H H' → K (.tuple #[.int .i64 (p : Int), .bool (decide (p < os.length) && (cAt lt ts os x p == 0))]) H') : CallF Try.prog 99 #[.pointer (some ⟨b, o, none⟩), .string x] H K Z := by
  refine V99_ok ?_
  unfold V99
  intro bT A hn
  have hA : Tb A b o T cs ts os := h.keep (S := no) hn.fr (fun h => h) (fun _ _ h => h)
  obtain ⟨s1, s2, c1, c2, _⟩ := h.rows
  have hT := hn.get
  have hld : hcell A ⟨bT, 0, none⟩ = some (.pointer (some ⟨b, o, none⟩)) := by
    unfold hcell
    simp only [hT, Option.isSome_none, Bool.false_eq_true, if_false]
    rfl
  have hb1 : hcell A (Addr.add ⟨b, o, none⟩ 1) = some (.slice s2.a s2.n s2.c) := by rw [add_mk, hA.blk.ld]; exact c2
  have hb0 : hcell A ⟨b, o, none⟩ = some (.slice s1.a s1.n s1.c) := by rw [hA.blk.ld]; exact c1
  obtain ⟨n1, e1⟩ := hA.thing c1
  obtain ⟨n2, e2⟩ := hA.order c2
  have hlen := h.ok.len
  have hbs : BsV Try.prog A s2 (.string x) (.func (.func 137) #[] #[.pointer (some ⟨bT, 0, none⟩)]) (fun r H2 => ∃ y_0 : Int, ∃ y_1 : Bool, r = .tuple #[.int .i64 y_0, .bool y_1] ∧ K (.tuple #[.int .i64 y_0, .bool y_1]) H2) Z := ?_
  · refine ⟨_, hld, s2, hb1, V136_ok ?_⟩
    unfold BsV at hbs
    unfold V136
    exact hbs
  refine bs_ok (xs := os.map fun (k : Nat) => (k : Int)) (c := cAt lt ts os x) (by rw [List.length_map]; exact n2) (by omega) ?_ ?_ ?_ ?_
  · intro i v hv
    rw [List.getElem?_map] at hv
    cases hk : os[i]? with
    | none => rw [hk] at hv; cases hv
    | some k' =>
      rw [hk] at hv
      simp only [Option.map_some, Option.some.injEq] at hv
      subst hv
      exact e2 i k' hk
  · intro i v K' hv hK
    rw [List.getElem?_map] at hv
    cases hk : os[i]? with
    | none => rw [hk] at hv; cases hv
    | some k' =>
      rw [hk] at hv
      simp only [Option.map_some, Option.some.injEq] at hv
      subst hv
      have hk' := h.ok.ltn hk
      have hx : ts[k']? = some ts[k'] := List.getElem?_eq_getElem hk'
      unfold callV
      simp only [okP1, if_true]
      refine V137_ok ?_
      unfold V137
      obtain ⟨ad, ha, hc⟩ := e1 _ _ hx
      refine ⟨_, hld, s1, hb0, ad, ha, ⟨by omega, by omega⟩, _, by rw [Int.toNat_natCast]; exact hc, ?_⟩
      refine cmp_ok ?_
      refine ⟨_, rfl, ?_⟩
      rw [cAt_eq hk hx] at hK
      exact hK
  · intro i j hij hj
    rw [n2] at hj
    exact h.ok.mono lin x i j hij hj
  · intro p hp
    rw [n2] at hp ⊢
    exact ⟨_, _, rfl, k p A hp hn.fr⟩

/-- a thing's number, or none -/
theorem find_ok {x : ByteArray} {K : Value → Hp → Prop} {Z : List PanicEntry → Hp → Prop} (h : Tb H b o T cs ts os) (hbig : ts.length ≤ 1000000000)
    (k1 : ∀ (n : Nat) H', ts[n]? = some x → Fr no H H' → K (.tuple #[.int .i64 (n : Int), .bool true]) H') (k2 : ∀ H', x ∉ ts → Fr no H H' → K (.tuple #[.int .i64 0, .bool false]) H') :
    CallF Try.prog 59 #[.pointer (some ⟨b, o, none⟩), .string x] H K Z := by
  refine V59_ok ?_
  unfold V59
  refine place_ok h hbig ?_
  intro p A hp hf
  have hA : Tb A b o T cs ts os := h.keep hf (fun h => h) (fun _ _ h => h)
  obtain ⟨s1, s2, c1, c2, _⟩ := h.rows
  obtain ⟨n2, e2⟩ := hA.order c2
  refine ⟨_, _, rfl, fun hno => ?_, fun hyes => ?_⟩
  · refine k2 A (h.ok.miss lin hp ?_) hf
    rintro ⟨h1, h2⟩
    rw [decide_eq_true h1, h2] at hno
    simp at hno
  · have hy : p < os.length ∧ cAt lt ts os x p = 0 := by simpa using hyes
    obtain ⟨n, h1, h2⟩ := h.ok.hit lin hy.1 hy.2
    obtain ⟨ad, ha, hc⟩ := e2 _ _ h1
    exact ⟨s2, by rw [add_mk, hA.blk.ld]; exact c2, ad, ha, ⟨by omega, by omega⟩, _, by rw [Int.toNat_natCast]; exact hc, k1 n A h2 hf⟩
theorem at_ok {n : Int} {K : Value → Hp → Prop} {Z : List PanicEntry → Hp → Prop} (h : Tb H b o T cs ts os)
    (k1 : ∀ x, 0 ≤ n → ts[n.toNat]? = some x → K (.tuple #[.string x, .bool true]) H) (k2 : (n < 0 ∨ (ts.length : Int) ≤ n) → K (.tuple #[.string ⟨#[]⟩, .bool false]) H) :
    CallF Try.prog 58 #[.pointer (some ⟨b, o, none⟩), .int .i64 n] H K Z := by
  refine V58_ok ?_
  unfold V58
  obtain ⟨s1, s2, c1, c2, _⟩ := h.rows
  obtain ⟨n1, e1⟩ := h.thing c1
  have hb0 : hcell H ⟨b, o, none⟩ = some (.slice s1.a s1.n s1.c) := by rw [h.blk.ld]; exact c1
  refine ⟨fun h0 => k2 (.inl (of_decide_eq_true h0)), fun h0 => ⟨s1, hb0, fun h1 => ?_, fun h1 => ?_⟩⟩
  · have h1' : n ≥ (s1.n : Int) := of_decide_eq_true h1
    exact k2 (.inr (by omega))
  · have h0' : ¬ n < 0 := of_decide_eq_false h0
    have h1' : ¬ n ≥ (s1.n : Int) := of_decide_eq_false h1
    have hx : ts[n.toNat]? = some (ts[n.toNat]'(by omega)) := List.getElem?_eq_getElem (by omega)
    obtain ⟨ad, ha, hc⟩ := e1 _ _ hx
    exact ⟨s1, hb0, ad, ha, ⟨by omega, by omega⟩, _, hc, k1 _ (by omega) hx⟩

theorem ins_call {s : Sl} {xs : List Nat} {i b1 n : Nat} {K : Value → Hp → Prop} {Z : List PanicEntry → Hp → Prop} (hr : Row H 3 1 s (numV xs)) (hnf : Nf H s) (hv : Blk H b1 [.int .i64 (n : Int)] 3) (hne : ¬ own s b1) (hin : i ≤ s.n) (hbig : s.n ≤ 1000000000)
    (k : ∀ s' H', Row H' 3 1 s' (numV (xs.take i ++ [n] ++ xs.drop i)) → Nf H' s' → s'.n = s.n + 1 → Fr (own s) H H' → (∀ j, own s' j → own s j ∨ H.size ≤ j) → K (.slice s'.a s'.n s'.c) H') :
    CallF Try.prog 98 #[.slice s.a s.n s.c, .int .i64 (i : Int), .slice (some ⟨b1, 0, none⟩) 1 1] H K Z := by
  obtain ⟨inf, i1, i2, i3, i4⟩ := iInt
  have hins : InsV Try.prog 22 3 134 135 1 H s (i : Int) ⟨some ⟨b1, 0, none⟩, 1, 1⟩ K Z := by
    refine ins_ok (f := Try.f134) (inf := inf) (ps := #[22, 22]) (rs := #[4]) (z := .int .i64 0) (by kernel_rfl) (by kernel_rfl) (by kernel_rfl) (by kernel_rfl) (by kernel_rfl) rfl uInts uInt i1 i2 (by rw [i3]; rfl) (by rw [i4]; decide) i3 (by decide) hr hnf (numV_one _) hv rfl ?_ hne hin (by rw [i4]; omega) ?_
    · intro v hv'
      simp only [List.mem_singleton] at hv'
      subst hv'
      rfl
    · intro s' H' h1 h2 h3 h4 h5
      refine k s' H' ?_ h2 h3 h4 h5
      rw [Nat.mul_one] at h1
      unfold numV at h1 ⊢
      rw [List.map_append, List.map_append, List.map_take, List.map_drop]
      exact h1
  refine V98_ok (s := s) (i := (i : Int)) (v := ⟨some ⟨b1, 0, none⟩, 1, 1⟩) ?_
  unfold InsV at hins
  unfold V98
  exact hins
/-- a thing is put -/
theorem put_ok {x : ByteArray} {K : Value → Hp → Prop} {Z : List PanicEntry → Hp → Prop} (h : Tb H b o T cs ts os) (hbig : ts.length ≤ 2000000)
    (k1 : ∀ (n : Nat) H', ts[n]? = some x → TbT H H' b o T cs cs ts os → K (.tuple #[.int .i64 (n : Int), .bool false]) H')
    (k2 : ∀ H' cs' os', x ∉ ts → TbT H H' b o T cs cs' (ts ++ [x]) os' → K (.tuple #[.int .i64 (ts.length : Int), .bool true]) H') :
    CallF Try.prog 57 #[.pointer (some ⟨b, o, none⟩), .string x] H K Z := by
  refine V57_ok ?_
  unfold V57
  refine place_ok h (by omega) ?_
  intro p A hp hf
  have hA : Tb A b o T cs ts os := h.keep hf (fun h => h) (fun _ _ h => h)
  have toA : TbT H A b o T cs cs ts os := TbTo.of_no h hf
  obtain ⟨s1, s2, c1, c2, r1, r2, nf2, ap12⟩ := hA.rows
  obtain ⟨n1, e1⟩ := hA.thing c1
  obtain ⟨n2, e2⟩ := hA.order c2
  have hlen := h.ok.len
  have hb0 : hcell A ⟨b, o, none⟩ = some (.slice s1.a s1.n s1.c) := by rw [hA.blk.ld]; exact c1
  refine ⟨_, _, rfl, fun hyes => ?_, fun hno => ?_⟩
  · have hy : p < os.length ∧ cAt lt ts os x p = 0 := by simpa using hyes
    obtain ⟨n, h1, h2⟩ := h.ok.hit lin hy.1 hy.2
    obtain ⟨ad, ha, hc⟩ := e2 _ _ h1
    exact ⟨s2, by rw [add_mk, hA.blk.ld]; exact c2, ad, ha, ⟨by omega, by omega⟩, _, by rw [Int.toNat_natCast]; exact hc, k1 n A h2 toA⟩
  have hmiss : ¬ (p < os.length ∧ cAt lt ts os x p = 0) := by
    rintro ⟨h1, h2⟩
    rw [decide_eq_true h1, h2] at hno
    simp at hno
  have hnot := h.ok.miss lin hp hmiss
  have hput := h.ok.put lin hp hmiss
  refine ⟨s1, hb0, s1, hb0, ?_⟩
  intro bx B hnB
  have bB : Blk B bx [.string x] 9 := hnB.blk
  have eB := hnB.eq
  have fB := hnB.fr
  obtain ⟨infE, j1, j2, j3, j4⟩ := iE
  have r1B := r1.keep fB (fun _ _ h => h)
  rw [← j3] at r1B
  refine app_row2 uTs (by intro k; rw [uTs]; simp) ⟨_, uTs⟩ j1 j2 (by rw [j3]; rfl) (by rw [j4]; decide) r1B (Src.blk bB (by rw [j3]; rfl)) ?_ (by rw [j4]; omega) ?_
  · intro v hv'
    simp only [List.mem_singleton] at hv'
    subst hv'
    rfl
  intro sa C rC nC fC oC _
  rw [j3] at rC
  have hbA := hA.blk.lt
  have nob1 : ¬ own s1 b := fun hc => hA.nob ((tOwn_iff c1 c2 b).2 (.inl hc))
  have nob2 : ¬ own s2 b := fun hc => hA.nob ((tOwn_iff c1 c2 b).2 (.inr hc))
  have szB := hnB.size
  have bkC : Blk C b cs T := fC.blk (fB.blk hA.blk fun h => h) nob1
  have ho : o < cs.length := (List.getElem?_eq_some_iff.1 c1).1
  have ho1 : o + 1 < cs.length := (List.getElem?_eq_some_iff.1 c2).1
  refine st_blk bkC ho rfl ?_
  intro D bkD fD szD
  have gD2 : (cs.set o (.slice sa.a sa.n sa.c))[o + 1]? = some (.slice s2.a s2.n s2.c) := by rw [List.getElem?_set_ne (by omega)]; exact c2
  refine ⟨s2, by rw [add_mk, bkD.ld]; exact gD2, ?_⟩
  intro bn E hnE
  have bE : Blk E bn [.int .i64 (s1.n : Int)] 3 := hnE.blk
  have eE := hnE.eq
  have fE := hnE.fr
  have sCB := fC.size
  have lt2 : ∀ i, own s2 i → i < A.size := fun i hi => r2.lt hi
  have lt1 : ∀ i, own s1 i → i < A.size := fun i hi => r1.lt hi
  have ne2 : ∀ i, own s2 i → ¬ own s1 i := fun i h2 h1 => ap12 i h1 h2
  have r2E : Row E 3 1 s2 (numV os) := (((r2.keep fB (fun _ _ h => h)).keep fC ne2).keep fD (fun i hi e => nob2 (e ▸ hi))).keep fE (fun _ _ h => h)
  have nfE : Nf E s2 := (((nf2.keep fB (fun _ _ h => h)).keep fC ne2).keep fD (fun i hi e => nob2 (e ▸ hi))).keep fE (fun _ _ h => h)
  have ple : p ≤ s2.n := by rw [n2]; exact hp.le
  refine ins_call (n := s1.n) r2E nfE bE (fun hc => by have := lt2 _ hc; omega) ple (by omega) ?_
  intro sb F rF nfF nF fF oF
  have sED := fE.size
  have sFE := fF.size
  have bkE : Blk E b _ T := fE.blk bkD fun h => h
  have bkF : Blk F b _ T := fF.blk bkE nob2
  refine ⟨sb, rfl, ?_⟩
  rw [add_mk]
  refine st_blk bkF (by rw [List.length_set]; exact ho1) rfl ?_
  intro G bkG fG szG
  have nsa : ∀ i, own sa i → own s1 i ∨ A.size + 1 ≤ i := by
    intro i hi
    rcases oC i hi with h | h
    · exact .inl h
    · exact .inr (by omega)
  have nsab : ¬ own sa b := by
    intro hc
    rcases nsa b hc with h | h
    · exact nob1 h
    · omega
  have nsa2 : ∀ i, own sa i → ¬ own s2 i := by
    intro i hi h2
    rcases nsa i hi with h | h
    · exact ap12 i h h2
    · have := lt2 i h2; omega
  have nsbb : ¬ own sb b := by
    intro hc
    rcases oF b hc with h | h
    · exact nob2 h
    · omega
  have saltC : ∀ i, own sa i → i < C.size := fun i hi => rC.lt hi
  have rsG : Row G 9 1 sa (ts.map val ++ [.string x]) := (((rC.keep fD (fun i hi e => nsab (e ▸ hi))).keep fE (fun _ _ h => h)).keep fF nsa2).keep fG (fun i hi e => nsab (e ▸ hi))
  have rbG : Row G 3 1 sb (numV (os.take p ++ [s1.n] ++ os.drop p)) := rF.keep fG (fun i hi e => nsbb (e ▸ hi))
  have nbG : Nf G sb := nfF.keep fG (fun i hi e => nsbb (e ▸ hi))
  rw [n1] at rbG
  have g1 : ((cs.set o (.slice sa.a sa.n sa.c)).set (o + 1) (.slice sb.a sb.n sb.c))[o]? = some (.slice sa.a sa.n sa.c) := by rw [List.getElem?_set_ne (by omega)]; exact List.getElem?_set_self ho
  have g2 : ((cs.set o (.slice sa.a sa.n sa.c)).set (o + 1) (.slice sb.a sb.n sb.c))[o + 1]? = some (.slice sb.a sb.n sb.c) := List.getElem?_set_self (by rw [List.length_set]; exact ho1)
  have apart : ∀ i, own sa i → own sb i → False := by
    intro i ha hb'
    rcases oF i hb' with h | h
    · exact nsa2 i ha h
    · have := saltC i ha
      have := fD.size
      omega
  have hS : Tb G b o T ((cs.set o (.slice sa.a sa.n sa.c)).set (o + 1) (.slice sb.a sb.n sb.c)) (ts ++ [x]) (os.take p ++ [ts.length] ++ os.drop p) := by
    refine ⟨bkG, ⟨sa, sb, g1, g2, by rw [List.map_append]; exact rsG, rbG, nbG, apart⟩, ?_, hput⟩
    intro hc
    rcases (tOwn_iff g1 g2 b).1 hc with h | h
    · exact nsab h
    · exact nsbb h
  have hk := k2 G _ _ hnot (toA.trans ⟨hS, by simp, ?_, ?_, ?_⟩)
  · rw [← n1] at hk
    exact hk
  · intro i h1 h2
    rw [List.getElem?_set_ne (Ne.symm h2), List.getElem?_set_ne (Ne.symm h1)]
  · have q0 : Fr (fun i => i = b ∨ tOwn cs o i) A B := fB.of_no
    refine ((((q0.step fC ?_).step fD ?_).step (fE.of_no (S := no)) ?_).step fF ?_).step fG ?_
    · intro i _ hi; exact .inr ((tOwn_iff c1 c2 i).2 (.inl hi))
    · intro i _ hi; exact .inl hi
    · intro i _ hi; exact hi.elim
    · intro i _ hi; exact .inr ((tOwn_iff c1 c2 i).2 (.inr hi))
    · intro i _ hi; exact .inl hi
  · intro i hi
    rcases (tOwn_iff g1 g2 i).1 hi with h | h
    · rcases nsa i h with h' | h'
      · exact .inl ((tOwn_iff c1 c2 i).2 (.inl h'))
      · exact .inr (by omega)
    · rcases oF i h with h' | h'
      · exact .inl ((tOwn_iff c1 c2 i).2 (.inr h'))
      · have := fD.size
        exact .inr (by omega)

theorem clone_call {s : Sl} {xs : List Nat} {K : Value → Hp → Prop} {Z : List PanicEntry → Hp → Prop} (hr : Row H 3 1 s (numV xs)) (hbig : s.n ≤ 1000000000)
    (k : ∀ s' H', Row H' 3 1 s' (numV xs) → s'.n = s.n → Fr no H H' → (∀ i, own s' i → H.size ≤ i) → K (.slice s'.a s'.n s'.c) H') : CallF Try.prog 52 #[.slice s.a s.n s.c] H K Z := by
  obtain ⟨inf, i1, i2, i3, i4⟩ := iInt
  have hc : CloneV Try.prog 22 3 H s K Z := by
    refine Go.V.clone_ok uInts i1 i2 (by rw [i3]; rfl) (by rw [i4]; decide) (by rw [i3]; exact hr) (numV_one _) (by rw [i4]; omega) ?_
    intro s' H' h1 h2 h3 h4 _
    rw [i3] at h1
    exact k s' H' h1 h2 h3 h4
  refine V52_ok ?_
  unfold CloneV at hc
  unfold V52
  exact hc
theorem okR1 : fnOk Try.prog 139 = true := by kernel_rfl
/-- all things are told, rising -/
theorem rising1_ok {bT : Nat} {yield : Value} {S : Nat → Prop} {Inv : Nat → Nat → Hp → Prop} {Fin : Nat → Hp → Prop} {K : Value → Hp → Prop} {Z : List PanicEntry → Hp → Prop} (h : Tb H b o T cs ts os) (hbig : ts.length ≤ 2000000) (hT : Blk H bT [.pointer (some ⟨b, o, none⟩)] 155)
    (hSb : ¬ S b) (hSo : ∀ i, tOwn cs o i → ¬ S i) (hST : ¬ S bT) (hS : ∀ i, S i → i < H.size) (start : ∀ A, Fr no H A → Inv A.size 0 A)
    (step : ∀ (m j : Nat) (A : Hp) (k : Nat) (x : ByteArray), os[j]? = some k → ts[k]? = some x → H.size ≤ m → m ≤ A.size → Tb A b o T cs ts os → Inv m j A → callV Try.prog yield [.string x, .int .i64 (k : Int)] A (fun r B => ∃ y : Bool, r = .bool y ∧ Fr (fun i => S i ∨ m ≤ i) A B ∧ (y = true → Inv m (j + 1) B) ∧ (y = false → Fin (j + 1) B)) Z)
    (fin1 : ∀ m A, Inv m os.length A → K (.tuple #[]) A) (fin2 : ∀ j A, j < os.length → Fin (j + 1) A → K (.tuple #[]) A) :
    CallF Try.prog 139 #[yield, .pointer (some ⟨bT, 0, none⟩)] H K Z := by
  refine V139_ok ?_
  unfold V139
  obtain ⟨s1, s2, c1, c2, r1, r2, nf, ap⟩ := h.rows
  obtain ⟨n2, e2⟩ := h.order c2
  have hlen := h.ok.len
  have hb := h.blk.lt
  have hbT := hT.lt
  refine ⟨_, hT.ld 0, s2, by rw [add_mk, h.blk.ld]; exact c2, ?_⟩
  refine clone_call r2 (by omega) ?_
  intro y A rA nA fA oA
  refine ⟨y, rfl, ?_⟩
  have hsz := fA.size
  refine ⟨fun t B m => ∃ j : Nat, t = (j : Int) ∧ j ≤ os.length ∧ m = os.length - j ∧ Inv A.size j B ∧ Fr (fun i => S i ∨ A.size ≤ i) A B, ⟨_, 0, rfl, Nat.zero_le _, rfl, start A fA, Fr.refl _ _⟩, ?_⟩
  rintro t B m ⟨j, rfl, hj, rfl, hI, fB⟩ scr
  have fHB : Fr (fun i => S i ∨ A.size ≤ i) H B := (fA.of_no).trans fB
  have hB : Tb B b o T cs ts os := h.keep fHB (by rintro (h' | h'); · exact hSb h'
                                                  · omega) (fun i hi => by
    rintro (h' | h')
    · exact hSo i hi h'
    · have := h.own_lt hi; omega)
  have hTB : Blk B bT [.pointer (some ⟨b, o, none⟩)] 155 := fHB.blk hT (by
    rintro (h' | h')
    · exact hST h'
    · omega)
  have rB : Row B 3 1 y (numV os) := rA.keep fB (fun i hi => by
    rintro (h' | h')
    · have := hS i h'; have := oA i hi; omega
    · have := rA.lt hi; omega)
  refine ⟨fun hlt => ?_, fun hge => ?_⟩
  · have hlt' : j < os.length := by
      have : (j : Int) < (y.n : Int) := of_decide_eq_true hlt
      omega
    obtain ⟨k, x, hk, hx⟩ := h.ok.get hlt'
    obtain ⟨g, hg⟩ := rB.some (by omega)
    have hld : hcell B (Addr.add ⟨g, 0, none⟩ (j * 1)) = some (.int .i64 (k : Int)) := by
      rw [rB.ld hg (j * 1) (by unfold numV; rw [List.length_map]; omega), Nat.mul_one]
      unfold numV
      rw [List.getElem?_map, hk]
      rfl
    obtain ⟨n1, e1⟩ := hB.thing c1
    obtain ⟨ad, ha, hc⟩ := e1 _ _ hx
    have hkl := h.ok.ltn hk
    refine ⟨_, hg, ⟨by omega, by omega⟩, _, by rw [Int.toNat_natCast]; exact hld, _, hTB.ld 0, s1, by rw [hB.blk.ld]; exact c1, ad, ha, ⟨by omega, by omega⟩, _, by rw [Int.toNat_natCast]; exact hc, ?_⟩
    refine callV_mono (step A.size j B k x hk hx hsz fB.size hB hI) ?_ fun _ _ h => h
    rintro r C ⟨y1, rfl, fC, hy1, hy2⟩
    refine ⟨y1, rfl, fun hn => ?_, fun hn => ?_⟩
    · have hy : y1 = false := by simpa using hn
      exact fin2 j C hlt' (hy2 hy)
    · have hy : y1 = true := by simpa using hn
      have e : w64 ((j : Int) + 1) = ((j + 1 : Nat) : Int) := by rw [wrap64 (by omega) (by omega)]; omega
      rw [e]
      exact ⟨os.length - (j + 1), by omega, j + 1, rfl, hlt', rfl, hy1 hy, fB.trans fC⟩
  · have hge' : j = os.length := by
      have : ¬ (j : Int) < (y.n : Int) := of_decide_eq_false hge
      omega
    subst hge'
    exact fin1 _ B hI

theorem tb_nil {A : Hp} {b : Nat} (hb : Blk A b [.slice none 0 0, .slice none 0 0] 50) : Tb A b 0 50 [.slice none 0 0, .slice none 0 0] [] [] := by
  refine ⟨hb, ⟨⟨none, 0, 0⟩, ⟨none, 0, 0⟩, rfl, rfl, Row.nil _ _ _, Row.nil _ _ _, ?_, ?_⟩, ?_, Tbl.nil⟩
  · intro g o e; cases e
  · rintro i ⟨o, e⟩; cases e
  · rintro ⟨off, n, c, e | e⟩ <;> simp at e
theorem tOwn_nil {i : Nat} : ¬ tOwn [.slice none 0 0, .slice none 0 0] 0 i := by
  rintro ⟨off, n, c, e | e⟩ <;> simp at e
theorem mem_put {ts xs : List ByteArray} {j : Nat} {x : ByteArray} (hx : xs[j]? = some x) (hm : ∀ z, z ∈ ts ↔ z ∈ xs.take j) : (x ∈ ts → ∀ z, z ∈ ts ↔ z ∈ xs.take (j + 1)) ∧ (∀ z, z ∈ ts ++ [x] ↔ z ∈ xs.take (j + 1)) := by
  obtain ⟨hj, rfl⟩ := List.getElem?_eq_some_iff.1 hx
  rw [List.take_succ_eq_append_getElem hj]
  refine ⟨fun h z => ?_, fun z => ?_⟩
  · rw [List.mem_append, ← hm z, List.mem_singleton]
    constructor
    · exact .inl
    · rintro (h' | rfl)
      · exact h'
      · exact h
  · rw [List.mem_append, List.mem_append, ← hm z]
set_option maxRecDepth 10000 in
theorem sorted_ok {l : Sl} {xs : List ByteArray} {K : Value → Hp → Prop} {Z : List PanicEntry → Hp → Prop} (h : Els val H l xs) (hbig : xs.length ≤ 2000000)
    (k : ∀ s' H' ys, Rising lt ys → (∀ z, z ∈ ys ↔ z ∈ xs) → ys.length ≤ xs.length → Row H' 9 1 s' (ys.map val) → Fr no H H' → (∀ i, own s' i → H.size ≤ i) → K (.slice s'.a s'.n s'.c) H') :
    CallF Try.prog 60 #[.slice l.a l.n l.c] H K Z := by
  refine V60_ok ?_
  unfold V60
  intro b A hnA
  have bA := hnA.blk
  have eA := hnA.eq
  have zA := hnA.size
  have hl := h.len
  have tA := tb_nil bA
  have hno : ∀ {B c2 t2 o2}, TbT A B b 0 50 [.slice none 0 0, .slice none 0 0] c2 t2 o2 → Fr no H B := by
    intro B c2 t2 o2 hB
    refine hnA.fr.step hB.fr ?_
    rintro i hi (h' | h')
    · omega
    · exact (tOwn_nil h').elim
  refine ⟨fun t B m => ∃ (j : Nat) (c2 : List Value) (ts : List ByteArray) (os : List Nat), t = (j : Int) ∧ j ≤ xs.length ∧ m = xs.length - j ∧ ts.length ≤ j ∧ (∀ z, z ∈ ts ↔ z ∈ xs.take j) ∧ TbT A B b 0 50 [.slice none 0 0, .slice none 0 0] c2 ts os,
    ⟨_, 0, _, [], [], rfl, Nat.zero_le _, rfl, Nat.le_refl _, by simp, TbTo.refl tA⟩, ?_⟩
  rintro t B m ⟨j, c2, ts, os, rfl, hj, rfl, htl, hmem, hB⟩ scr
  have hE := h.keep (hno hB) (fun _ _ h => h)
  refine ⟨fun hlt => ?_, fun hge => ?_⟩
  · have hlt' : j < xs.length := by
      have : (j : Int) < (l.n : Int) := of_decide_eq_true hlt
      omega
    have hx : xs[j]? = some xs[j] := List.getElem?_eq_getElem hlt'
    obtain ⟨ad, ha, hc⟩ := hE.el _ _ hx
    obtain ⟨m1, m2⟩ := mem_put hx hmem
    have e : w64 ((j : Int) + 1) = ((j + 1 : Nat) : Int) := by rw [wrap64 (by omega) (by omega)]; omega
    rw [e]
    refine ⟨ad, ha, ⟨by omega, by omega⟩, _, by rw [Int.toNat_natCast]; exact hc, ?_⟩
    refine put_ok hB.st (by omega) ?_ ?_
    · intro n C hn hC
      exact ⟨_, _, rfl, xs.length - (j + 1), by omega, j + 1, c2, ts, os, rfl, hlt', rfl, by omega, m1 (List.mem_of_getElem? hn), hB.trans hC⟩
    · intro C c3 os' hn hC
      exact ⟨_, _, rfl, xs.length - (j + 1), by omega, j + 1, c3, _, os', rfl, hlt', rfl, by rw [List.length_append, List.length_singleton]; omega, m2, hB.trans hC⟩
  · have hge' : j = xs.length := by
      have : ¬ (j : Int) < (l.n : Int) := of_decide_eq_false hge
      omega
    subst hge'
    rw [List.take_length] at hmem
    intro bOut C hnC
    have eC := hnC.eq
    have zC := hnC.size
    refine V100_ok ?_
    unfold V100
    intro bT D0 hnT
    have eT := hnT.eq
    have zT := hnT.size
    refine ⟨_, rfl, ?_⟩
    intro D E0 hnD l1 F hnL
    have eD := hnD.eq
    have zD := hnD.size
    have eL := hnL.eq
    have zL := hnL.size
    have fBF : Fr no B F := ((hnC.fr.trans hnT.fr).trans hnD.fr).trans hnL.fr
    have hTF : Blk F bT [.pointer (some ⟨b, 0, none⟩)] 155 := hnL.fr.blk (hnD.fr.blk hnT.blk fun h => h) fun h => h
    have hOF : Blk F bOut [.slice none 0 0] 47 := hnL.fr.blk (hnD.fr.blk (hnT.fr.blk hnC.blk fun h => h) fun h => h) fun h => h
    have hDF : F[D]? = some (.deferred (some [])) := hnL.fr.at hnD.get fun h => h
    have hLF := hnL.get
    obtain ⟨ps, asg, body, hlr⟩ := lrec_eq (f := Try.f60) (n := 9) (by kernel_rfl)
    rw [hlr] at hLF
    obtain ⟨tmps, hLF, hy⟩ : ∃ tmps : List Value, F[l1]? = some (.loop ⟨.ready, none, 60, tmps.toArray, ps, asg, body, D⟩) ∧ ∀ (X : Hp) (x : ByteArray) (n : Int) (K' : Value → Hp → Prop), R60_9 X bOut l1 x n K' → yldC Try.prog aJ60 aL60 Try.f60 60 9 l1 tmps [.string x, .int .i64 n] X K' := ⟨_, hLF, fun X x n K' h => R60_9_ok h⟩
    have hbB := hB.st.blk.lt
    have tF : Tb F b 0 50 c2 ts os := hB.st.keep fBF (fun h => h) (fun _ _ h => h)
    have hlen := hB.st.ok.len
    obtain ⟨infE, j1, j2, j3, j4⟩ := iE
    unfold callG
    simp only [okR1, if_true]
    refine rising1_ok (S := fun i => i = bOut ∨ i = l1) (Fin := fun _ _ => False)
      (Inv := fun m j X => F.size ≤ m ∧ X[l1]? = some (.loop ⟨.ready, none, 60, tmps.toArray, ps, asg, body, D⟩) ∧ X[D]? = some (.deferred (some [])) ∧ Fr no B X ∧ ∃ so : Sl, Blk X bOut [.slice so.a so.n so.c] 47 ∧ Row X 9 1 so ((riseL ts (os.take j)).map val) ∧ (∀ i, own so i → m ≤ i))
      tF (by omega) hTF (by omega) (fun i hi => by have := hB.st.own_lt hi; omega) (by omega) (by omega) ?_ ?_ ?_ ?_
    · intro X fX
      exact ⟨fX.size, fX.at hLF fun h => h, fX.at hDF fun h => h, fBF.trans fX, ⟨none, 0, 0⟩, fX.blk hOF fun h => h, Row.nil _ _ _, by rintro i ⟨o, e⟩; cases e⟩
    · rintro m j X k' x hk hx hmF hmX hTb ⟨hFm, hL, hD, hBX, so, hO, rO, oO⟩
      have hjl : j < os.length := (List.getElem?_eq_some_iff.1 hk).1
      have hrl := hB.st.ok.rise_len (j := j) (by omega)
      unfold callV
      simp only [List.nil_append]
      refine yldC_sound hL rfl rfl (by rw [hlr]) (by rw [hlr]) (by rw [hlr]) (hy _ _ _ _ ?_)
      unfold R60_9
      refine ⟨_, hL, rfl, ?_⟩
      intro X1 hX1
      obtain ⟨f1, g1, z1⟩ := setB hL hX1
      have hO1 : Blk X1 bOut [.slice so.a so.n so.c] 47 := f1.blk hO (by omega)
      refine ⟨so, hO1.ld 0, ?_⟩
      intro b1 X2 hn2
      have e2 := hn2.eq
      have z2 := hn2.size
      have rO1 : Row X1 9 1 so ((riseL ts (os.take j)).map val) := rO.keep f1 (fun i hi e => by have := oO i hi; omega)
      have rO2 := rO1.keep hn2.fr (fun _ _ h => h)
      rw [← j3] at rO2
      have hson : so.n = j := by
        have := rO.1
        rw [List.length_map, hrl, Nat.mul_one] at this
        exact this.symm
      have bb1 : Blk X2 b1 [.string x] 9 := hn2.blk
      refine app_row2 uTs (by intro k; rw [uTs]; simp) ⟨_, uTs⟩ j1 j2 (by rw [j3]; rfl) (by rw [j4]; decide) rO2 (Src.blk bb1 (by rw [j3]; rfl)) ?_ (by rw [j4]; omega) ?_
      · intro v hv'
        simp only [List.mem_singleton] at hv'
        subst hv'
        rfl
      intro sp X3 r3 n3 f3 o3 _
      rw [j3] at r3
      have hsob : ¬ own so bOut := fun hc => by have := oO _ hc; omega
      have hO3 : Blk X3 bOut [.slice so.a so.n so.c] 47 := f3.blk (hn2.fr.blk hO1 fun h => h) hsob
      refine st_blk hO3 (by simp) rfl ?_
      intro X4 hO4 f4 z4
      have z3 := f3.size
      have hL4 : X4[l1]? = some (.loop _) := f4.at (f3.at (hn2.fr.at g1 fun h => h) (fun hc => by have := oO _ hc; omega)) (by omega)
      refine ⟨_, hL4, ?_⟩
      intro X5 hX5
      obtain ⟨f5, g5, z5⟩ := setB hL4 hX5
      have hspb : ¬ own sp bOut := by
        intro hc
        rcases o3 _ hc with h' | h'
        · exact hsob h'
        · omega
      have hspm : ∀ i, own sp i → m ≤ i := by
        intro i hi
        rcases o3 _ hi with h' | h'
        · exact oO i h'
        · omega
      have hD5 : X5[D]? = some (.deferred (some [])) := f5.at (f4.at (f3.at (hn2.fr.at (f1.at hD (by omega)) fun h => h) (fun hc => by have := oO _ hc; omega)) (by omega)) (by omega)
      have hO5 : Blk X5 bOut [.slice sp.a sp.n sp.c] 47 := f5.blk hO4 (by omega)
      have r5 : Row X5 9 1 sp ((riseL ts (os.take (j + 1))).map val) := by
        rw [rise_succ hk hx, List.map_append]
        exact (r3.keep f4 (fun i hi e => hspb (e ▸ hi))).keep f5 (fun i hi e => by have := hspm i hi; omega)
      have fB5 : Fr no B X5 := by
        refine ((((hBX.step f1 ?_).step hn2.fr (fun _ _ h => h)).step f3 ?_).step f4 ?_).step f5 ?_
        · intro i hi e; omega
        · intro i hi hc; have := oO i hc; omega
        · intro i hi e; omega
        · intro i hi e; omega
      refine ⟨true, rfl, ?_, fun _ => ⟨hFm, g5, hD5, fB5, sp, hO5, r5, hspm⟩, fun h => by cases h⟩
      have q : Fr (fun i => (i = bOut ∨ i = l1) ∨ m ≤ i) X X1 := f1.mono fun i _ e => .inl (.inr e)
      refine (((q.step hn2.fr (fun _ _ h => h.elim)).step f3 ?_).step f4 ?_).step f5 ?_
      · intro i _ hc; exact .inr (oO i hc)
      · intro i _ e; exact .inl (.inl e)
      · intro i _ e; exact .inl (.inr e)
    · rintro m X ⟨hFm, hL, hD, hBX, so, hO, rO, oO⟩
      refine ⟨_, hL, rfl, ?_⟩
      intro X1 hX1
      obtain ⟨f1, g1, z1⟩ := setB hL hX1
      refine ⟨so, (f1.blk hO (by omega)).ld 0, f1.at hD (by omega), ?_⟩
      intro X2 hX2
      obtain ⟨f2, g2, z2⟩ := setB (f1.at hD (by omega)) hX2
      rw [List.take_length] at rO
      have hfr : Fr no H X2 := by
        refine (((hno hB).trans hBX).step f1 ?_).step f2 ?_
        · intro i hi e
          have := (hno hB).size
          omega
        · intro i hi e
          have := (hno hB).size
          omega
      have hrl := hB.st.ok.rise_len (j := os.length) (Nat.le_refl _)
      rw [List.take_length] at hrl
      refine k so X2 (riseL ts os) hB.st.ok.rising (fun z => (hB.st.ok.rise_mem z).trans (hmem z)) (by omega) ?_ hfr ?_
      · exact (rO.keep f1 (fun i hi e => by have := oO i hi; omega)).keep f2 (fun i hi e => by have := oO i hi; omega)
      · intro i hi
        have := oO i hi
        have := (hno hB).size
        have := fBF.size
        omega
    · intro j X _ h
      exact h.elim
end
end Go.Proofs.Ytigbdoicgdmliaa.C05S
end
