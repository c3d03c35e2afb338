/- The conditions of tarjan's functions, and of weftref07's, weftref06's and weftlaw07's (printed by our own program vn.py; the kernel checks each against V5's comp). -/
import Derived.Test.YtoigfahdgphpdaaV8
import Derived.Test.YtoigfahdgphpdaaProg
set_option linter.unusedVariables false
set_option maxRecDepth 100000
-- made: 63
-- run: 64
-- visit: 86
-- leave: 87
-- parts: 22
-- leads: 40
-- round: 32
-- contains: 65
-- index: 88
-- rReach: 69
-- rFree: 70
-- rMember: 71
-- rParts: 31
-- rLeads: 41
-- rRound: 33
-- sameInts: 39
-- lSame: 30
-- lEdges: 23
-- lRound: 24
-- lWorks: 20
-- lGreat: 21
-- lawBehind: 4
-- lawParts: 7
-- lawTurned: 8
-- lawLeads: 10
-- lawMore: 11
namespace Go.Proofs.Ytoigfahdgphpdaa.N07
open Go Go.V Go.Proofs
/-- slices.Index[[]int,int] -/
def V88 (H : Hp) (s : Sl) (v : Int) (K : Value → Hp → Prop) (Z : List PanicEntry → Hp → Prop) : Prop :=
  ∃ I : Int → Hp → Nat → Prop, (∃ m, I 0 H m) ∧ ∀ (t8 : Int), ∀ H1 m1, I t8 H1 m1 → ∀ scr : Nat → Value, (((decide (t8 < (s.n : Int))) = true → 
    IxA s.a s.n t8 1 fun ad => (∃ x : Int, hcell H1 ad = some (.int .i64 x) ∧ (((v == x) = true → K (.int .i64 t8) H1) ∧ 
    ((v == x) = false → (∃ m2, m2 < m1 ∧ I (w64 (t8 + 1)) H1 m2))))) ∧ ((decide (t8 < (s.n : Int))) = false → 
    K (.int .i64 (-1)) H1))
def aJ88 : Ann := (fun _ => none)
def aL88 : Ann := (fun k => if k = 2 then some [(8, (.sc (.int .i64)))] else none)
theorem V88_ok {H : Hp} {s : Sl} {v : Int} {K : Value → Hp → Prop} {Z : List PanicEntry → Hp → Prop} (h : V88 H s v K Z) : CallF Try.prog 88 #[.slice s.a s.n s.c, .int .i64 v] H K Z :=
  fnC_sound (P := Try.prog) (aJ := aJ88) (aL := aL88) (f := 88) (args := [.slice s.a s.n s.c, .int .i64 v]) (Eq.mp (by kernel_rfl) h)
/-- slices.Contains[[]int,int] -/
def V65 (H : Hp) (s : Sl) (v : Int) (K : Value → Hp → Prop) (Z : List PanicEntry → Hp → Prop) : Prop :=
  CallF Try.prog 88 #[.slice s.a s.n s.c, .int .i64 v] H (fun r H1 => ∃ y : Int, r = .int .i64 y ∧ K (.bool (decide (y ≥ 0))) H1) Z
def aJ65 : Ann := (fun _ => none)
def aL65 : Ann := (fun _ => none)
theorem V65_ok {H : Hp} {s : Sl} {v : Int} {K : Value → Hp → Prop} {Z : List PanicEntry → Hp → Prop} (h : V65 H s v K Z) : CallF Try.prog 65 #[.slice s.a s.n s.c, .int .i64 v] H K Z :=
  fnC_sound (P := Try.prog) (aJ := aJ65) (aL := aL65) (f := 65) (args := [.slice s.a s.n s.c, .int .i64 v]) (Eq.mp (by kernel_rfl) h)
/-- weft/tarjan.made -/
def V63 (H : Hp) (n : Int) (l : Sl) (K : Value → Hp → Prop) (Z : List PanicEntry → Hp → Prop) : Prop :=
  ∃ J : Hp → Prop, (∀ H1, J  H1 → ∀ scr : Nat → Value, MkS Try.prog 97 H1 (.int .i64 n) (.int .i64 n) fun mk H2 => 
    (∃ I : Int → Hp → Nat → Prop, (∃ m, I 0 H2 m) ∧ ∀ (t18 : Int), ∀ H3 m1, I t18 H3 m1 → ∀ scr1 : Nat → 
    Value, (((decide (t18 < (l.n : Int))) = true → IxA l.a l.n t18 2 fun ad => (∃ x_a : Int, ∃ x_b : Int, (hcell H3 ad = some (.int .i64 x_a) ∧ 
    hcell H3 (Addr.add ad 1) = some (.int .i64 x_b) ∧ True) ∧ ∀ bE H4, Newb H3 (.cells #[.int .i64 0, .int .i64 0] 96) bE H4 → 
    StL ⟨bE, 0, none⟩ 0 [.int .i64 x_a, .int .i64 x_b] H4 fun H5 => (∃ x : Int, hcell H5 ⟨bE, 0, none⟩ = some (.int .i64 x) ∧ 
    (((decide (x ≥ 0)) = true → ∃ x1 : Int, hcell H5 ⟨bE, 0, none⟩ = some (.int .i64 x1) ∧ (((decide (x1 < n)) = true → 
    ∃ x2 : Int, hcell H5 ⟨bE, 1, none⟩ = some (.int .i64 x2) ∧ (((decide (x2 ≥ 0)) = true → ∃ x3 : Int, hcell H5 ⟨bE, 1, none⟩ = some (.int .i64 x3) ∧ 
    (((decide (x3 < n)) = true → ∃ x4 : Int, hcell H5 ⟨bE, 1, none⟩ = some (.int .i64 x4) ∧ ((∃ x5 : Int, hcell H5 ⟨bE, 0, none⟩ = some (.int .i64 x5) ∧ 
    ((∃ x6 : Int, hcell H5 ⟨bE, 0, none⟩ = some (.int .i64 x6) ∧ IxA mk.a mk.n x6 1 fun ad1 => ((∃ x7 : Sl, hcell H5 ad1 = some (.slice x7.a x7.n x7.c) ∧ 
    ∀ b H6, Newb H5 (.cells #[.int .i64 x4] 3) b H6 → App Try.prog #[42, 42] 42 H6 [.slice x7.a x7.n x7.c, .slice (some ⟨b, 0, none⟩) 1 1] fun ap H7 => 
    (IxA mk.a mk.n x5 1 fun ad2 => (StL ad2 0 [.slice ap.a ap.n ap.c] H7 fun H8 => (∃ m2, m2 < m1 ∧ I (w64 (t18 + 1)) H8 m2)))) ∧ 
    (∀ b1 H9, Newb H5 (.cells #[.int .i64 x4] 3) b1 H9 → ∃ x8 : Sl, hcell H9 ad1 = some (.slice x8.a x8.n x8.c) ∧ 
    App Try.prog #[42, 42] 42 H9 [.slice x8.a x8.n x8.c, .slice (some ⟨b1, 0, none⟩) 1 1] fun ap1 H10 => 
    (IxA mk.a mk.n x5 1 fun ad3 => (StL ad3 0 [.slice ap1.a ap1.n ap1.c] H10 fun H11 => (∃ m2, m2 < m1 ∧ 
    I (w64 (t18 + 1)) H11 m2)))))) ∧ (∀ b2 H12, Newb H5 (.cells #[.int .i64 x4] 3) b2 H12 → ∃ x9 : Int, hcell H12 ⟨bE, 0, none⟩ = some (.int .i64 x9) ∧ 
    IxA mk.a mk.n x9 1 fun ad4 => (∃ x10 : Sl, hcell H12 ad4 = some (.slice x10.a x10.n x10.c) ∧ App Try.prog #[42, 42] 42 H12 [.slice x10.a x10.n x10.c, .slice (some ⟨b2, 0, none⟩) 1 1] fun ap2 H13 => 
    (IxA mk.a mk.n x5 1 fun ad5 => (StL ad5 0 [.slice ap2.a ap2.n ap2.c] H13 fun H14 => (∃ m2, m2 < m1 ∧ 
    I (w64 (t18 + 1)) H14 m2))))))) ∧ (∃ x11 : Int, hcell H5 ⟨bE, 0, none⟩ = some (.int .i64 x11) ∧ IxA mk.a mk.n x11 1 fun ad6 => 
    ((∃ x12 : Int, hcell H5 ⟨bE, 0, none⟩ = some (.int .i64 x12) ∧ ((∃ x13 : Sl, hcell H5 ad6 = some (.slice x13.a x13.n x13.c) ∧ 
    ∀ b3 H15, Newb H5 (.cells #[.int .i64 x4] 3) b3 H15 → App Try.prog #[42, 42] 42 H15 [.slice x13.a x13.n x13.c, .slice (some ⟨b3, 0, none⟩) 1 1] fun ap3 H16 => 
    (IxA mk.a mk.n x12 1 fun ad7 => (StL ad7 0 [.slice ap3.a ap3.n ap3.c] H16 fun H17 => (∃ m2, m2 < m1 ∧ 
    I (w64 (t18 + 1)) H17 m2)))) ∧ (∀ b4 H18, Newb H5 (.cells #[.int .i64 x4] 3) b4 H18 → ∃ x14 : Sl, hcell H18 ad6 = some (.slice x14.a x14.n x14.c) ∧ 
    App Try.prog #[42, 42] 42 H18 [.slice x14.a x14.n x14.c, .slice (some ⟨b4, 0, none⟩) 1 1] fun ap4 H19 => 
    (IxA mk.a mk.n x12 1 fun ad8 => (StL ad8 0 [.slice ap4.a ap4.n ap4.c] H19 fun H20 => (∃ m2, m2 < m1 ∧ 
    I (w64 (t18 + 1)) H20 m2)))))) ∧ (∃ x15 : Sl, hcell H5 ad6 = some (.slice x15.a x15.n x15.c) ∧ ((∃ x16 : Int, hcell H5 ⟨bE, 0, none⟩ = some (.int .i64 x16) ∧ 
    ∀ b5 H21, Newb H5 (.cells #[.int .i64 x4] 3) b5 H21 → App Try.prog #[42, 42] 42 H21 [.slice x15.a x15.n x15.c, .slice (some ⟨b5, 0, none⟩) 1 1] fun ap5 H22 => 
    (IxA mk.a mk.n x16 1 fun ad9 => (StL ad9 0 [.slice ap5.a ap5.n ap5.c] H22 fun H23 => (∃ m2, m2 < m1 ∧ 
    I (w64 (t18 + 1)) H23 m2)))) ∧ (∀ b6 H24, Newb H5 (.cells #[.int .i64 x4] 3) b6 H24 → ((∃ x17 : Int, hcell H24 ⟨bE, 0, none⟩ = some (.int .i64 x17) ∧ 
    App Try.prog #[42, 42] 42 H24 [.slice x15.a x15.n x15.c, .slice (some ⟨b6, 0, none⟩) 1 1] fun ap6 H25 => 
    (IxA mk.a mk.n x17 1 fun ad10 => (StL ad10 0 [.slice ap6.a ap6.n ap6.c] H25 fun H26 => (∃ m2, m2 < m1 ∧ 
    I (w64 (t18 + 1)) H26 m2)))) ∧ (App Try.prog #[42, 42] 42 H24 [.slice x15.a x15.n x15.c, .slice (some ⟨b6, 0, none⟩) 1 1] fun ap7 H27 => 
    (∃ x18 : Int, hcell H27 ⟨bE, 0, none⟩ = some (.int .i64 x18) ∧ IxA mk.a mk.n x18 1 fun ad11 => (StL ad11 0 [.slice ap7.a ap7.n ap7.c] H27 fun H28 => 
    (∃ m2, m2 < m1 ∧ I (w64 (t18 + 1)) H28 m2)))))))) ∧ (∀ b7 H29, Newb H5 (.cells #[.int .i64 x4] 3) b7 H29 → 
    ∃ x19 : Sl, hcell H29 ad6 = some (.slice x19.a x19.n x19.c) ∧ ((∃ x20 : Int, hcell H29 ⟨bE, 0, none⟩ = some (.int .i64 x20) ∧ 
    App Try.prog #[42, 42] 42 H29 [.slice x19.a x19.n x19.c, .slice (some ⟨b7, 0, none⟩) 1 1] fun ap8 H30 => 
    (IxA mk.a mk.n x20 1 fun ad12 => (StL ad12 0 [.slice ap8.a ap8.n ap8.c] H30 fun H31 => (∃ m2, m2 < m1 ∧ 
    I (w64 (t18 + 1)) H31 m2)))) ∧ (App Try.prog #[42, 42] 42 H29 [.slice x19.a x19.n x19.c, .slice (some ⟨b7, 0, none⟩) 1 1] fun ap9 H32 => 
    (∃ x21 : Int, hcell H32 ⟨bE, 0, none⟩ = some (.int .i64 x21) ∧ IxA mk.a mk.n x21 1 fun ad13 => (StL ad13 0 [.slice ap9.a ap9.n ap9.c] H32 fun H33 => 
    (∃ m2, m2 < m1 ∧ I (w64 (t18 + 1)) H33 m2)))))))) ∧ (∀ b8 H34, Newb H5 (.cells #[.int .i64 x4] 3) b8 H34 → 
    ∃ x22 : Int, hcell H34 ⟨bE, 0, none⟩ = some (.int .i64 x22) ∧ IxA mk.a mk.n x22 1 fun ad14 => (∃ x23 : Sl, hcell H34 ad14 = some (.slice x23.a x23.n x23.c) ∧ 
    ((∃ x24 : Int, hcell H34 ⟨bE, 0, none⟩ = some (.int .i64 x24) ∧ App Try.prog #[42, 42] 42 H34 [.slice x23.a x23.n x23.c, .slice (some ⟨b8, 0, none⟩) 1 1] fun ap10 H35 => 
    (IxA mk.a mk.n x24 1 fun ad15 => (StL ad15 0 [.slice ap10.a ap10.n ap10.c] H35 fun H36 => (∃ m2, m2 < m1 ∧ 
    I (w64 (t18 + 1)) H36 m2)))) ∧ (App Try.prog #[42, 42] 42 H34 [.slice x23.a x23.n x23.c, .slice (some ⟨b8, 0, none⟩) 1 1] fun ap11 H37 => 
    (∃ x25 : Int, hcell H37 ⟨bE, 0, none⟩ = some (.int .i64 x25) ∧ IxA mk.a mk.n x25 1 fun ad16 => (StL ad16 0 [.slice ap11.a ap11.n ap11.c] H37 fun H38 => 
    (∃ m2, m2 < m1 ∧ I (w64 (t18 + 1)) H38 m2))))))))) ∧ ((decide (x3 < n)) = false → (∃ m2, m2 < m1 ∧ 
    I (w64 (t18 + 1)) H5 m2)))) ∧ ((decide (x2 ≥ 0)) = false → (∃ m2, m2 < m1 ∧ I (w64 (t18 + 1)) H5 m2)))) ∧ 
    ((decide (x1 < n)) = false → (∃ m2, m2 < m1 ∧ I (w64 (t18 + 1)) H5 m2)))) ∧ ((decide (x ≥ 0)) = false → 
    (∃ m2, m2 < m1 ∧ I (w64 (t18 + 1)) H5 m2)))))) ∧ ((decide (t18 < (l.n : Int))) = false → K (.slice mk.a mk.n mk.c) H3)))) ∧ 
    (((decide (n < 0)) = true → K (.slice none 0 0) H) ∧ ((decide (n < 0)) = false → (((decide (n > 20000)) = true → 
    K (.slice none 0 0) H) ∧ ((decide (n > 20000)) = false → (J  H)))))
def aJ63 : Ann := (fun k => if k = 3 then some [] else none)
def aL63 : Ann := (fun k => if k = 5 then some [(18, (.sc (.int .i64)))] else none)
theorem V63_ok {H : Hp} {n : Int} {l : Sl} {K : Value → Hp → Prop} {Z : List PanicEntry → Hp → Prop} (h : V63 H n l K Z) : CallF Try.prog 63 #[.int .i64 n, .slice l.a l.n l.c] H K Z :=
  fnC_sound (P := Try.prog) (aJ := aJ63) (aL := aL63) (f := 63) (args := [.int .i64 n, .slice l.a l.n l.c]) (Eq.mp (by kernel_rfl) h)
/-- (*weft/tarjan.search).visit -/
def V86 (H : Hp) (s : Addr) (n : Int) (number : Int) (K : Value → Hp → Prop) (Z : List PanicEntry → Hp → Prop) : Prop :=
  ∃ x : Sl, hcell H (Addr.add s 1) = some (.slice x.a x.n x.c) ∧ ∃ x1 : Sl, hcell H (Addr.add s 2) = some (.slice x1.a x1.n x1.c) ∧ 
    ∃ x2 : Sl, hcell H (Addr.add s 3) = some (.slice x2.a x2.n x2.c) ∧ IxA x.a x.n n 1 fun ad => (StL ad 0 [.int .i64 number] H fun H1 => 
    (IxA x1.a x1.n n 1 fun ad1 => (StL ad1 0 [.int .i64 number] H1 fun H2 => (IxA x2.a x2.n n 1 fun ad2 => 
    (StL ad2 0 [.bool true] H2 fun H3 => (∃ x3 : Sl, hcell H3 (Addr.add s 4) = some (.slice x3.a x3.n x3.c) ∧ 
    ∀ b H4, Newb H3 (.cells #[.int .i64 n] 3) b H4 → App Try.prog #[42, 42] 42 H4 [.slice x3.a x3.n x3.c, .slice (some ⟨b, 0, none⟩) 1 1] fun ap H5 => 
    (StL (Addr.add s 4) 0 [.slice ap.a ap.n ap.c] H5 fun H6 => (∃ x4 : Sl, hcell H6 (Addr.add s 7) = some (.slice x4.a x4.n x4.c) ∧ 
    ∀ b1 H7, Newb H6 (.cells #[.int .i64 n, .int .i64 0] 131) b1 H7 → App Try.prog #[102, 102] 102 H7 [.slice x4.a x4.n x4.c, .slice (some ⟨b1, 0, none⟩) 1 1] fun ap1 H8 => 
    (StL (Addr.add s 7) 0 [.slice ap1.a ap1.n ap1.c] H8 fun H9 => (K (.tuple #[]) H9))))))))))
def aJ86 : Ann := (fun _ => none)
def aL86 : Ann := (fun _ => none)
theorem V86_ok {H : Hp} {s : Addr} {n : Int} {number : Int} {K : Value → Hp → Prop} {Z : List PanicEntry → Hp → Prop} (h : V86 H s n number K Z) : CallF Try.prog 86 #[.pointer (some s), .int .i64 n, .int .i64 number] H K Z :=
  fnC_sound (P := Try.prog) (aJ := aJ86) (aL := aL86) (f := 86) (args := [.pointer (some s), .int .i64 n, .int .i64 number]) (Eq.mp (by kernel_rfl) h)
/-- (*weft/tarjan.search).leave -/
def V87 (H : Hp) (s : Addr) (n : Int) (K : Value → Hp → Prop) (Z : List PanicEntry → Hp → Prop) : Prop :=
  ∃ x : Sl, hcell H (Addr.add s 7) = some (.slice x.a x.n x.c) ∧ ∃ x1 : Sl, hcell H (Addr.add s 7) = some (.slice x1.a x1.n x1.c) ∧ 
    (x.n ≤ x.c ∧ SlX x.a x.c 0 (w64 ((x1.n : Int) - 1)) 2 fun cut => (StL (Addr.add s 7) 0 [.slice cut.a cut.n cut.c] H fun H1 => 
    (∃ J : Hp → Prop, (∀ H2, J  H2 → ∀ scr : Nat → Value, ∃ x2 : Sl, hcell H2 (Addr.add s 2) = some (.slice x2.a x2.n x2.c) ∧ 
    IxA x2.a x2.n n 1 fun ad => (∃ x3 : Int, hcell H2 ad = some (.int .i64 x3) ∧ ∃ x4 : Sl, hcell H2 (Addr.add s 1) = some (.slice x4.a x4.n x4.c) ∧ 
    IxA x4.a x4.n n 1 fun ad1 => (∃ x5 : Int, hcell H2 ad1 = some (.int .i64 x5) ∧ (((x3 != x5) = true → 
    K (.tuple #[]) H2) ∧ ((x3 != x5) = false → ∃ I : Hp → Nat → Prop, (∃ m, I  H2 m) ∧ ∀ H3 m1, I  H3 m1 → 
    ∀ scr1 : Nat → Value, ∃ x6 : Sl, hcell H3 (Addr.add s 3) = some (.slice x6.a x6.n x6.c) ∧ IxA x6.a x6.n n 1 fun ad2 => 
    (∃ x7 : Bool, hcell H3 ad2 = some (.bool x7) ∧ ((x7 = true → ∃ x8 : Sl, hcell H3 (Addr.add s 4) = some (.slice x8.a x8.n x8.c) ∧ 
    ∃ x9 : Sl, hcell H3 (Addr.add s 4) = some (.slice x9.a x9.n x9.c) ∧ IxA x8.a x8.n (w64 ((x9.n : Int) - 1)) 1 fun ad3 => 
    (∃ x10 : Int, hcell H3 ad3 = some (.int .i64 x10) ∧ ∃ x11 : Sl, hcell H3 (Addr.add s 4) = some (.slice x11.a x11.n x11.c) ∧ 
    ∃ x12 : Sl, hcell H3 (Addr.add s 4) = some (.slice x12.a x12.n x12.c) ∧ (x11.n ≤ x11.c ∧ SlX x11.a x11.c 0 (w64 ((x12.n : Int) - 1)) 1 fun cut1 => 
    (StL (Addr.add s 4) 0 [.slice cut1.a cut1.n cut1.c] H3 fun H4 => (∃ x13 : Sl, hcell H4 (Addr.add s 5) = some (.slice x13.a x13.n x13.c) ∧ 
    ∃ x14 : Sl, hcell H4 (Addr.add s 3) = some (.slice x14.a x14.n x14.c) ∧ ∃ x15 : Int, hcell H4 (Addr.add s 6) = some (.int .i64 x15) ∧ 
    IxA x13.a x13.n x10 1 fun ad4 => (StL ad4 0 [.int .i64 x15] H4 fun H5 => (IxA x14.a x14.n x10 1 fun ad5 => 
    (StL ad5 0 [.bool false] H5 fun H6 => (∃ m2, m2 < m1 ∧ I  H6 m2))))))))) ∧ (x7 = false → ∃ x16 : Int, hcell H3 (Addr.add s 6) = some (.int .i64 x16) ∧ 
    StL (Addr.add s 6) 0 [.int .i64 (w64 (x16 + 1))] H3 fun H7 => (K (.tuple #[]) H7))))))))) ∧ ∃ x17 : Sl, hcell H1 (Addr.add s 7) = some (.slice x17.a x17.n x17.c) ∧ 
    (((decide ((x17.n : Int) > 0)) = true → ∃ x18 : Sl, hcell H1 (Addr.add s 7) = some (.slice x18.a x18.n x18.c) ∧ 
    ∃ x19 : Sl, hcell H1 (Addr.add s 7) = some (.slice x19.a x19.n x19.c) ∧ IxA x18.a x18.n (w64 ((x19.n : Int) - 1)) 2 fun ad6 => 
    (∃ x20 : Int, hcell H1 ad6 = some (.int .i64 x20) ∧ ∃ x21 : Sl, hcell H1 (Addr.add s 2) = some (.slice x21.a x21.n x21.c) ∧ 
    ∃ x22 : Sl, hcell H1 (Addr.add s 2) = some (.slice x22.a x22.n x22.c) ∧ IxA x22.a x22.n x20 1 fun ad7 => 
    (∃ x23 : Int, hcell H1 ad7 = some (.int .i64 x23) ∧ ∃ x24 : Sl, hcell H1 (Addr.add s 2) = some (.slice x24.a x24.n x24.c) ∧ 
    IxA x24.a x24.n n 1 fun ad8 => (∃ x25 : Int, hcell H1 ad8 = some (.int .i64 x25) ∧ IxA x21.a x21.n x20 1 fun ad9 => 
    (StL ad9 0 [.int .i64 (if x25 < x23 then x25 else x23)] H1 fun H8 => (J  H8)))))) ∧ ((decide ((x17.n : Int) > 0)) = false → 
    (J  H1))))))
def aJ87 : Ann := (fun k => if k = 4 then some [] else none)
def aL87 : Ann := (fun k => if k = 5 then some [] else none)
theorem V87_ok {H : Hp} {s : Addr} {n : Int} {K : Value → Hp → Prop} {Z : List PanicEntry → Hp → Prop} (h : V87 H s n K Z) : CallF Try.prog 87 #[.pointer (some s), .int .i64 n] H K Z :=
  fnC_sound (P := Try.prog) (aJ := aJ87) (aL := aL87) (f := 87) (args := [.pointer (some s), .int .i64 n]) (Eq.mp (by kernel_rfl) h)
/-- (weft/tarjan.graph).run -/
def V64 (H : Hp) (g : Sl) (K : Value → Hp → Prop) (Z : List PanicEntry → Hp → Prop) : Prop :=
  ∃ J : Option Addr → Hp → Prop, (∀ (s : Option Addr), ∀ H1, J s H1 → ∀ scr : Nat → Value, ∃ I : Int → 
    Int → Hp → Nat → Prop, (∃ m, I 0 0 H1 m) ∧ ∀ (met : Int) (t23 : Int), ∀ H2 m1, I met t23 H2 m1 → 
    ∀ scr1 : Nat → Value, (((decide (t23 < (g.n : Int))) = true → ∃ J1 : Int → Hp → Prop, (∀ (met1 : Int), ∀ H3, J1 met1 H3 → 
    ∀ scr2 : Nat → Value, ∃ J2 : Int → Hp → Prop, (∀ (met2 : Int), ∀ H4, J2 met2 H4 → ∀ scr3 : Nat → 
    Value, ∃ I1 : Int → Hp → Nat → Prop, (∃ m3, I1 met2 H4 m3) ∧ ∀ (met3 : Int), ∀ H5 m4, I1 met3 H5 m4 → 
    ∀ scr4 : Nat → Value, nilck s fun ad => (∃ x : Sl, hcell H5 (Addr.add ad 7) = some (.slice x.a x.n x.c) ∧ 
    (((decide ((x.n : Int) > 0)) = true → nilck s fun ad1 => (∃ x1 : Sl, hcell H5 (Addr.add ad1 7) = some (.slice x1.a x1.n x1.c) ∧ 
    nilck s fun ad2 => (∃ x2 : Sl, hcell H5 (Addr.add ad2 7) = some (.slice x2.a x2.n x2.c) ∧ IxA x1.a x1.n (w64 ((x2.n : Int) - 1)) 2 fun ad3 => 
    (∃ I2 : Int → Hp → Nat → Prop, (∃ m6, I2 met3 H5 m6) ∧ ∀ (met4 : Int), ∀ H6 m7, I2 met4 H6 m7 → ∀ scr5 : Nat → 
    Value, ∃ x3 : Int, hcell H6 (Addr.add ad3 1) = some (.int .i64 x3) ∧ ∃ x4 : Int, hcell H6 ad3 = some (.int .i64 x4) ∧ 
    IxA g.a g.n x4 1 fun ad4 => (∃ x5 : Sl, hcell H6 ad4 = some (.slice x5.a x5.n x5.c) ∧ (((decide (x3 < (x5.n : Int))) = true → 
    ∃ x6 : Int, hcell H6 ad3 = some (.int .i64 x6) ∧ IxA g.a g.n x6 1 fun ad5 => (∃ x7 : Sl, hcell H6 ad5 = some (.slice x7.a x7.n x7.c) ∧ 
    ∃ x8 : Int, hcell H6 (Addr.add ad3 1) = some (.int .i64 x8) ∧ IxA x7.a x7.n x8 1 fun ad6 => (∃ x9 : Int, hcell H6 ad6 = some (.int .i64 x9) ∧ 
    ∃ x10 : Int, hcell H6 (Addr.add ad3 1) = some (.int .i64 x10) ∧ StL (Addr.add ad3 1) 0 [.int .i64 (w64 (x10 + 1))] H6 fun H7 => 
    (nilck s fun ad7 => (∃ x11 : Sl, hcell H7 (Addr.add ad7 1) = some (.slice x11.a x11.n x11.c) ∧ IxA x11.a x11.n x9 1 fun ad8 => 
    (∃ x12 : Int, hcell H7 ad8 = some (.int .i64 x12) ∧ (((x12 == 0) = true → CallF Try.prog 86 #[.pointer s, .int .i64 x9, .int .i64 (w64 (met4 + 1))] H7 (fun r H8 => 
    r = .tuple #[] ∧ (∃ m5, m5 < m4 ∧ I1 (w64 (met4 + 1)) H8 m5)) Z) ∧ ((x12 == 0) = false → nilck s fun ad9 => 
    (∃ x13 : Sl, hcell H7 (Addr.add ad9 3) = some (.slice x13.a x13.n x13.c) ∧ IxA x13.a x13.n x9 1 fun ad10 => 
    (∃ x14 : Bool, hcell H7 ad10 = some (.bool x14) ∧ ((x14 = true → nilck s fun ad11 => (∃ x15 : Sl, hcell H7 (Addr.add ad11 2) = some (.slice x15.a x15.n x15.c) ∧ 
    ∃ x16 : Int, hcell H7 ad3 = some (.int .i64 x16) ∧ nilck s fun ad12 => (∃ x17 : Sl, hcell H7 (Addr.add ad12 2) = some (.slice x17.a x17.n x17.c) ∧ 
    ∃ x18 : Int, hcell H7 ad3 = some (.int .i64 x18) ∧ IxA x17.a x17.n x18 1 fun ad13 => (∃ x19 : Int, hcell H7 ad13 = some (.int .i64 x19) ∧ 
    nilck s fun ad14 => (∃ x20 : Sl, hcell H7 (Addr.add ad14 1) = some (.slice x20.a x20.n x20.c) ∧ IxA x20.a x20.n x9 1 fun ad15 => 
    (∃ x21 : Int, hcell H7 ad15 = some (.int .i64 x21) ∧ IxA x15.a x15.n x16 1 fun ad16 => (StL ad16 0 [.int .i64 (if x21 < x19 then x21 else x19)] H7 fun H9 => 
    (∃ m8, m8 < m7 ∧ I2 met4 H9 m8)))))))) ∧ (x14 = false → (∃ m8, m8 < m7 ∧ I2 met4 H7 m8))))))))))))) ∧ 
    ((decide (x3 < (x5.n : Int))) = false → ∃ x22 : Int, hcell H6 ad3 = some (.int .i64 x22) ∧ CallF Try.prog 87 #[.pointer s, .int .i64 x22] H6 (fun r1 H10 => 
    r1 = .tuple #[] ∧ (∃ m5, m5 < m4 ∧ I1 met4 H10 m5)) Z))))))) ∧ ((decide ((x.n : Int) > 0)) = false → 
    (∃ m2, m2 < m1 ∧ I met3 (w64 (t23 + 1)) H5 m2))))) ∧ (J2 met1 H3)) ∧ nilck s fun ad17 => (∃ x23 : Sl, hcell H2 (Addr.add ad17 1) = some (.slice x23.a x23.n x23.c) ∧ 
    IxA x23.a x23.n t23 1 fun ad18 => (∃ x24 : Int, hcell H2 ad18 = some (.int .i64 x24) ∧ (((x24 == 0) = true → 
    CallF Try.prog 86 #[.pointer s, .int .i64 t23, .int .i64 (w64 (met + 1))] H2 (fun r2 H11 => r2 = .tuple #[] ∧ 
    (J1 (w64 (met + 1)) H11)) Z) ∧ ((x24 == 0) = false → (J1 met H2)))))) ∧ ((decide (t23 < (g.n : Int))) = false → 
    K (.pointer s) H2))) ∧ ((MkS Try.prog 42 H (.int .i64 (g.n : Int)) (.int .i64 (g.n : Int)) fun mk H12 => 
    ((MkS Try.prog 42 H12 (.int .i64 (g.n : Int)) (.int .i64 (g.n : Int)) fun mk1 H13 => ((MkS Try.prog 101 H13 (.int .i64 (g.n : Int)) (.int .i64 (g.n : Int)) fun mk2 H14 => 
    (MkS Try.prog 42 H14 (.int .i64 (g.n : Int)) (.int .i64 (g.n : Int)) fun mk3 H15 => (∀ b H16, Newb H15 (.cells #[.slice g.a g.n g.c, .slice mk.a mk.n mk.c, .slice mk1.a mk1.n mk1.c, .slice mk2.a mk2.n mk2.c, .slice none 0 0, .slice mk3.a mk3.n mk3.c, .int .i64 0, .slice none 0 0] 104) b H16 → 
    (J (some ⟨b, 0, none⟩) H16)))) ∧ (MkS Try.prog 42 H13 (.int .i64 (g.n : Int)) (.int .i64 (g.n : Int)) fun mk4 H17 => 
    (MkS Try.prog 101 H17 (.int .i64 (g.n : Int)) (.int .i64 (g.n : Int)) fun mk5 H18 => (∀ b1 H19, Newb H18 (.cells #[.slice g.a g.n g.c, .slice mk.a mk.n mk.c, .slice mk1.a mk1.n mk1.c, .slice mk5.a mk5.n mk5.c, .slice none 0 0, .slice mk4.a mk4.n mk4.c, .int .i64 0, .slice none 0 0] 104) b1 H19 → 
    (J (some ⟨b1, 0, none⟩) H19)))))) ∧ (MkS Try.prog 101 H12 (.int .i64 (g.n : Int)) (.int .i64 (g.n : Int)) fun mk6 H20 => 
    ((MkS Try.prog 42 H20 (.int .i64 (g.n : Int)) (.int .i64 (g.n : Int)) fun mk7 H21 => (MkS Try.prog 42 H21 (.int .i64 (g.n : Int)) (.int .i64 (g.n : Int)) fun mk8 H22 => 
    (∀ b2 H23, Newb H22 (.cells #[.slice g.a g.n g.c, .slice mk.a mk.n mk.c, .slice mk7.a mk7.n mk7.c, .slice mk6.a mk6.n mk6.c, .slice none 0 0, .slice mk8.a mk8.n mk8.c, .int .i64 0, .slice none 0 0] 104) b2 H23 → 
    (J (some ⟨b2, 0, none⟩) H23)))) ∧ (MkS Try.prog 42 H20 (.int .i64 (g.n : Int)) (.int .i64 (g.n : Int)) fun mk9 H24 => 
    (MkS Try.prog 42 H24 (.int .i64 (g.n : Int)) (.int .i64 (g.n : Int)) fun mk10 H25 => (∀ b3 H26, Newb H25 (.cells #[.slice g.a g.n g.c, .slice mk.a mk.n mk.c, .slice mk10.a mk10.n mk10.c, .slice mk6.a mk6.n mk6.c, .slice none 0 0, .slice mk9.a mk9.n mk9.c, .int .i64 0, .slice none 0 0] 104) b3 H26 → 
    (J (some ⟨b3, 0, none⟩) H26)))))) ∧ (MkS Try.prog 42 H12 (.int .i64 (g.n : Int)) (.int .i64 (g.n : Int)) fun mk11 H27 => 
    ((MkS Try.prog 42 H27 (.int .i64 (g.n : Int)) (.int .i64 (g.n : Int)) fun mk12 H28 => (MkS Try.prog 101 H28 (.int .i64 (g.n : Int)) (.int .i64 (g.n : Int)) fun mk13 H29 => 
    (∀ b4 H30, Newb H29 (.cells #[.slice g.a g.n g.c, .slice mk.a mk.n mk.c, .slice mk12.a mk12.n mk12.c, .slice mk13.a mk13.n mk13.c, .slice none 0 0, .slice mk11.a mk11.n mk11.c, .int .i64 0, .slice none 0 0] 104) b4 H30 → 
    (J (some ⟨b4, 0, none⟩) H30)))) ∧ (MkS Try.prog 101 H27 (.int .i64 (g.n : Int)) (.int .i64 (g.n : Int)) fun mk14 H31 => 
    (MkS Try.prog 42 H31 (.int .i64 (g.n : Int)) (.int .i64 (g.n : Int)) fun mk15 H32 => (∀ b5 H33, Newb H32 (.cells #[.slice g.a g.n g.c, .slice mk.a mk.n mk.c, .slice mk15.a mk15.n mk15.c, .slice mk14.a mk14.n mk14.c, .slice none 0 0, .slice mk11.a mk11.n mk11.c, .int .i64 0, .slice none 0 0] 104) b5 H33 → 
    (J (some ⟨b5, 0, none⟩) H33)))))))) ∧ (MkS Try.prog 42 H (.int .i64 (g.n : Int)) (.int .i64 (g.n : Int)) fun mk16 H34 => 
    ((MkS Try.prog 42 H34 (.int .i64 (g.n : Int)) (.int .i64 (g.n : Int)) fun mk17 H35 => ((MkS Try.prog 101 H35 (.int .i64 (g.n : Int)) (.int .i64 (g.n : Int)) fun mk18 H36 => 
    (MkS Try.prog 42 H36 (.int .i64 (g.n : Int)) (.int .i64 (g.n : Int)) fun mk19 H37 => (∀ b6 H38, Newb H37 (.cells #[.slice g.a g.n g.c, .slice mk17.a mk17.n mk17.c, .slice mk16.a mk16.n mk16.c, .slice mk18.a mk18.n mk18.c, .slice none 0 0, .slice mk19.a mk19.n mk19.c, .int .i64 0, .slice none 0 0] 104) b6 H38 → 
    (J (some ⟨b6, 0, none⟩) H38)))) ∧ (MkS Try.prog 42 H35 (.int .i64 (g.n : Int)) (.int .i64 (g.n : Int)) fun mk20 H39 => 
    (MkS Try.prog 101 H39 (.int .i64 (g.n : Int)) (.int .i64 (g.n : Int)) fun mk21 H40 => (∀ b7 H41, Newb H40 (.cells #[.slice g.a g.n g.c, .slice mk17.a mk17.n mk17.c, .slice mk16.a mk16.n mk16.c, .slice mk21.a mk21.n mk21.c, .slice none 0 0, .slice mk20.a mk20.n mk20.c, .int .i64 0, .slice none 0 0] 104) b7 H41 → 
    (J (some ⟨b7, 0, none⟩) H41)))))) ∧ (MkS Try.prog 101 H34 (.int .i64 (g.n : Int)) (.int .i64 (g.n : Int)) fun mk22 H42 => 
    ((MkS Try.prog 42 H42 (.int .i64 (g.n : Int)) (.int .i64 (g.n : Int)) fun mk23 H43 => (MkS Try.prog 42 H43 (.int .i64 (g.n : Int)) (.int .i64 (g.n : Int)) fun mk24 H44 => 
    (∀ b8 H45, Newb H44 (.cells #[.slice g.a g.n g.c, .slice mk23.a mk23.n mk23.c, .slice mk16.a mk16.n mk16.c, .slice mk22.a mk22.n mk22.c, .slice none 0 0, .slice mk24.a mk24.n mk24.c, .int .i64 0, .slice none 0 0] 104) b8 H45 → 
    (J (some ⟨b8, 0, none⟩) H45)))) ∧ (MkS Try.prog 42 H42 (.int .i64 (g.n : Int)) (.int .i64 (g.n : Int)) fun mk25 H46 => 
    (MkS Try.prog 42 H46 (.int .i64 (g.n : Int)) (.int .i64 (g.n : Int)) fun mk26 H47 => (∀ b9 H48, Newb H47 (.cells #[.slice g.a g.n g.c, .slice mk26.a mk26.n mk26.c, .slice mk16.a mk16.n mk16.c, .slice mk22.a mk22.n mk22.c, .slice none 0 0, .slice mk25.a mk25.n mk25.c, .int .i64 0, .slice none 0 0] 104) b9 H48 → 
    (J (some ⟨b9, 0, none⟩) H48)))))) ∧ (MkS Try.prog 42 H34 (.int .i64 (g.n : Int)) (.int .i64 (g.n : Int)) fun mk27 H49 => 
    ((MkS Try.prog 42 H49 (.int .i64 (g.n : Int)) (.int .i64 (g.n : Int)) fun mk28 H50 => (MkS Try.prog 101 H50 (.int .i64 (g.n : Int)) (.int .i64 (g.n : Int)) fun mk29 H51 => 
    (∀ b10 H52, Newb H51 (.cells #[.slice g.a g.n g.c, .slice mk28.a mk28.n mk28.c, .slice mk16.a mk16.n mk16.c, .slice mk29.a mk29.n mk29.c, .slice none 0 0, .slice mk27.a mk27.n mk27.c, .int .i64 0, .slice none 0 0] 104) b10 H52 → 
    (J (some ⟨b10, 0, none⟩) H52)))) ∧ (MkS Try.prog 101 H49 (.int .i64 (g.n : Int)) (.int .i64 (g.n : Int)) fun mk30 H53 => 
    (MkS Try.prog 42 H53 (.int .i64 (g.n : Int)) (.int .i64 (g.n : Int)) fun mk31 H54 => (∀ b11 H55, Newb H54 (.cells #[.slice g.a g.n g.c, .slice mk31.a mk31.n mk31.c, .slice mk16.a mk16.n mk16.c, .slice mk30.a mk30.n mk30.c, .slice none 0 0, .slice mk27.a mk27.n mk27.c, .int .i64 0, .slice none 0 0] 104) b11 H55 → 
    (J (some ⟨b11, 0, none⟩) H55)))))))) ∧ (MkS Try.prog 101 H (.int .i64 (g.n : Int)) (.int .i64 (g.n : Int)) fun mk32 H56 => 
    ((MkS Try.prog 42 H56 (.int .i64 (g.n : Int)) (.int .i64 (g.n : Int)) fun mk33 H57 => ((MkS Try.prog 42 H57 (.int .i64 (g.n : Int)) (.int .i64 (g.n : Int)) fun mk34 H58 => 
    (MkS Try.prog 42 H58 (.int .i64 (g.n : Int)) (.int .i64 (g.n : Int)) fun mk35 H59 => (∀ b12 H60, Newb H59 (.cells #[.slice g.a g.n g.c, .slice mk33.a mk33.n mk33.c, .slice mk34.a mk34.n mk34.c, .slice mk32.a mk32.n mk32.c, .slice none 0 0, .slice mk35.a mk35.n mk35.c, .int .i64 0, .slice none 0 0] 104) b12 H60 → 
    (J (some ⟨b12, 0, none⟩) H60)))) ∧ (MkS Try.prog 42 H57 (.int .i64 (g.n : Int)) (.int .i64 (g.n : Int)) fun mk36 H61 => 
    (MkS Try.prog 42 H61 (.int .i64 (g.n : Int)) (.int .i64 (g.n : Int)) fun mk37 H62 => (∀ b13 H63, Newb H62 (.cells #[.slice g.a g.n g.c, .slice mk33.a mk33.n mk33.c, .slice mk37.a mk37.n mk37.c, .slice mk32.a mk32.n mk32.c, .slice none 0 0, .slice mk36.a mk36.n mk36.c, .int .i64 0, .slice none 0 0] 104) b13 H63 → 
    (J (some ⟨b13, 0, none⟩) H63)))))) ∧ (MkS Try.prog 42 H56 (.int .i64 (g.n : Int)) (.int .i64 (g.n : Int)) fun mk38 H64 => 
    ((MkS Try.prog 42 H64 (.int .i64 (g.n : Int)) (.int .i64 (g.n : Int)) fun mk39 H65 => (MkS Try.prog 42 H65 (.int .i64 (g.n : Int)) (.int .i64 (g.n : Int)) fun mk40 H66 => 
    (∀ b14 H67, Newb H66 (.cells #[.slice g.a g.n g.c, .slice mk39.a mk39.n mk39.c, .slice mk38.a mk38.n mk38.c, .slice mk32.a mk32.n mk32.c, .slice none 0 0, .slice mk40.a mk40.n mk40.c, .int .i64 0, .slice none 0 0] 104) b14 H67 → 
    (J (some ⟨b14, 0, none⟩) H67)))) ∧ (MkS Try.prog 42 H64 (.int .i64 (g.n : Int)) (.int .i64 (g.n : Int)) fun mk41 H68 => 
    (MkS Try.prog 42 H68 (.int .i64 (g.n : Int)) (.int .i64 (g.n : Int)) fun mk42 H69 => (∀ b15 H70, Newb H69 (.cells #[.slice g.a g.n g.c, .slice mk42.a mk42.n mk42.c, .slice mk38.a mk38.n mk38.c, .slice mk32.a mk32.n mk32.c, .slice none 0 0, .slice mk41.a mk41.n mk41.c, .int .i64 0, .slice none 0 0] 104) b15 H70 → 
    (J (some ⟨b15, 0, none⟩) H70)))))) ∧ (MkS Try.prog 42 H56 (.int .i64 (g.n : Int)) (.int .i64 (g.n : Int)) fun mk43 H71 => 
    ((MkS Try.prog 42 H71 (.int .i64 (g.n : Int)) (.int .i64 (g.n : Int)) fun mk44 H72 => (MkS Try.prog 42 H72 (.int .i64 (g.n : Int)) (.int .i64 (g.n : Int)) fun mk45 H73 => 
    (∀ b16 H74, Newb H73 (.cells #[.slice g.a g.n g.c, .slice mk44.a mk44.n mk44.c, .slice mk45.a mk45.n mk45.c, .slice mk32.a mk32.n mk32.c, .slice none 0 0, .slice mk43.a mk43.n mk43.c, .int .i64 0, .slice none 0 0] 104) b16 H74 → 
    (J (some ⟨b16, 0, none⟩) H74)))) ∧ (MkS Try.prog 42 H71 (.int .i64 (g.n : Int)) (.int .i64 (g.n : Int)) fun mk46 H75 => 
    (MkS Try.prog 42 H75 (.int .i64 (g.n : Int)) (.int .i64 (g.n : Int)) fun mk47 H76 => (∀ b17 H77, Newb H76 (.cells #[.slice g.a g.n g.c, .slice mk47.a mk47.n mk47.c, .slice mk46.a mk46.n mk46.c, .slice mk32.a mk32.n mk32.c, .slice none 0 0, .slice mk43.a mk43.n mk43.c, .int .i64 0, .slice none 0 0] 104) b17 H77 → 
    (J (some ⟨b17, 0, none⟩) H77)))))))) ∧ (MkS Try.prog 42 H (.int .i64 (g.n : Int)) (.int .i64 (g.n : Int)) fun mk48 H78 => 
    ((MkS Try.prog 42 H78 (.int .i64 (g.n : Int)) (.int .i64 (g.n : Int)) fun mk49 H79 => ((MkS Try.prog 42 H79 (.int .i64 (g.n : Int)) (.int .i64 (g.n : Int)) fun mk50 H80 => 
    (MkS Try.prog 101 H80 (.int .i64 (g.n : Int)) (.int .i64 (g.n : Int)) fun mk51 H81 => (∀ b18 H82, Newb H81 (.cells #[.slice g.a g.n g.c, .slice mk49.a mk49.n mk49.c, .slice mk50.a mk50.n mk50.c, .slice mk51.a mk51.n mk51.c, .slice none 0 0, .slice mk48.a mk48.n mk48.c, .int .i64 0, .slice none 0 0] 104) b18 H82 → 
    (J (some ⟨b18, 0, none⟩) H82)))) ∧ (MkS Try.prog 101 H79 (.int .i64 (g.n : Int)) (.int .i64 (g.n : Int)) fun mk52 H83 => 
    (MkS Try.prog 42 H83 (.int .i64 (g.n : Int)) (.int .i64 (g.n : Int)) fun mk53 H84 => (∀ b19 H85, Newb H84 (.cells #[.slice g.a g.n g.c, .slice mk49.a mk49.n mk49.c, .slice mk53.a mk53.n mk53.c, .slice mk52.a mk52.n mk52.c, .slice none 0 0, .slice mk48.a mk48.n mk48.c, .int .i64 0, .slice none 0 0] 104) b19 H85 → 
    (J (some ⟨b19, 0, none⟩) H85)))))) ∧ (MkS Try.prog 42 H78 (.int .i64 (g.n : Int)) (.int .i64 (g.n : Int)) fun mk54 H86 => 
    ((MkS Try.prog 42 H86 (.int .i64 (g.n : Int)) (.int .i64 (g.n : Int)) fun mk55 H87 => (MkS Try.prog 101 H87 (.int .i64 (g.n : Int)) (.int .i64 (g.n : Int)) fun mk56 H88 => 
    (∀ b20 H89, Newb H88 (.cells #[.slice g.a g.n g.c, .slice mk55.a mk55.n mk55.c, .slice mk54.a mk54.n mk54.c, .slice mk56.a mk56.n mk56.c, .slice none 0 0, .slice mk48.a mk48.n mk48.c, .int .i64 0, .slice none 0 0] 104) b20 H89 → 
    (J (some ⟨b20, 0, none⟩) H89)))) ∧ (MkS Try.prog 101 H86 (.int .i64 (g.n : Int)) (.int .i64 (g.n : Int)) fun mk57 H90 => 
    (MkS Try.prog 42 H90 (.int .i64 (g.n : Int)) (.int .i64 (g.n : Int)) fun mk58 H91 => (∀ b21 H92, Newb H91 (.cells #[.slice g.a g.n g.c, .slice mk58.a mk58.n mk58.c, .slice mk54.a mk54.n mk54.c, .slice mk57.a mk57.n mk57.c, .slice none 0 0, .slice mk48.a mk48.n mk48.c, .int .i64 0, .slice none 0 0] 104) b21 H92 → 
    (J (some ⟨b21, 0, none⟩) H92)))))) ∧ (MkS Try.prog 101 H78 (.int .i64 (g.n : Int)) (.int .i64 (g.n : Int)) fun mk59 H93 => 
    ((MkS Try.prog 42 H93 (.int .i64 (g.n : Int)) (.int .i64 (g.n : Int)) fun mk60 H94 => (MkS Try.prog 42 H94 (.int .i64 (g.n : Int)) (.int .i64 (g.n : Int)) fun mk61 H95 => 
    (∀ b22 H96, Newb H95 (.cells #[.slice g.a g.n g.c, .slice mk60.a mk60.n mk60.c, .slice mk61.a mk61.n mk61.c, .slice mk59.a mk59.n mk59.c, .slice none 0 0, .slice mk48.a mk48.n mk48.c, .int .i64 0, .slice none 0 0] 104) b22 H96 → 
    (J (some ⟨b22, 0, none⟩) H96)))) ∧ (MkS Try.prog 42 H93 (.int .i64 (g.n : Int)) (.int .i64 (g.n : Int)) fun mk62 H97 => 
    (MkS Try.prog 42 H97 (.int .i64 (g.n : Int)) (.int .i64 (g.n : Int)) fun mk63 H98 => (∀ b23 H99, Newb H98 (.cells #[.slice g.a g.n g.c, .slice mk63.a mk63.n mk63.c, .slice mk62.a mk62.n mk62.c, .slice mk59.a mk59.n mk59.c, .slice none 0 0, .slice mk48.a mk48.n mk48.c, .int .i64 0, .slice none 0 0] 104) b23 H99 → 
    (J (some ⟨b23, 0, none⟩) H99)))))))))
def aJ64 : Ann := (fun k => if k = 3 then some [(4, (.sc .ptr))] else if k = 10 then some [(5, (.sc (.int .i64)))] else none)
def aL64 : Ann := (fun k => if k = 5 then some [(5, (.sc (.int .i64))), (23, (.sc (.int .i64)))] else if k = 10 then some [(5, (.sc (.int .i64)))] else if k = 12 then some [(5, (.sc (.int .i64)))] else none)
theorem V64_ok {H : Hp} {g : Sl} {K : Value → Hp → Prop} {Z : List PanicEntry → Hp → Prop} (h : V64 H g K Z) : CallF Try.prog 64 #[.slice g.a g.n g.c] H K Z :=
  fnC_sound (P := Try.prog) (aJ := aJ64) (aL := aL64) (f := 64) (args := [.slice g.a g.n g.c]) (Eq.mp (by kernel_rfl) h)
/-- weft/tarjan.Parts -/
def V22 (H : Hp) (n : Int) (l : Sl) (K : Value → Hp → Prop) (Z : List PanicEntry → Hp → Prop) : Prop :=
  CallF Try.prog 63 #[.int .i64 n, .slice l.a l.n l.c] H (fun r H1 => ∃ y : Sl, r = .slice y.a y.n y.c ∧ 
    CallF Try.prog 64 #[.slice y.a y.n y.c] H1 (fun r1 H2 => ∃ y1 : Option Addr, r1 = .pointer y1 ∧ nilck y1 fun ad => 
    (∃ x : Int, hcell H2 (Addr.add ad 6) = some (.int .i64 x) ∧ MkS Try.prog 38 H2 (.int .i64 x) (.int .i64 x) fun mk H3 => 
    (nilck y1 fun ad1 => (∃ x1 : Sl, hcell H3 (Addr.add ad1 5) = some (.slice x1.a x1.n x1.c) ∧ ∃ I : Int → 
    Hp → Nat → Prop, (∃ m, I 0 H3 m) ∧ ∀ (t37 : Int), ∀ H4 m1, I t37 H4 m1 → ∀ scr : Nat → Value, (((decide (t37 < (x1.n : Int))) = true → 
    IxA x1.a x1.n t37 1 fun ad2 => (∃ x2 : Int, hcell H4 ad2 = some (.int .i64 x2) ∧ IxA mk.a mk.n x2 1 fun ad3 => 
    (∃ x3 : Sl, hcell H4 ad3 = some (.slice x3.a x3.n x3.c) ∧ ∀ b H5, Newb H4 (.cells #[.int .i64 t37] 3) b H5 → 
    App Try.prog #[42, 42] 42 H5 [.slice x3.a x3.n x3.c, .slice (some ⟨b, 0, none⟩) 1 1] fun ap H6 => 
    (IxA mk.a mk.n x2 1 fun ad4 => (StL ad4 0 [.slice ap.a ap.n ap.c] H6 fun H7 => (∃ m2, m2 < m1 ∧ I (w64 (t37 + 1)) H7 m2)))))) ∧ 
    ((decide (t37 < (x1.n : Int))) = false → nilck y1 fun ad5 => (∃ x4 : Int, hcell H4 (Addr.add ad5 6) = some (.int .i64 x4) ∧ 
    MkS Try.prog 38 H4 (.int .i64 x4) (.int .i64 x4) fun mk1 H8 => (nilck y1 fun ad6 => (∃ x5 : Int, hcell H8 (Addr.add ad6 6) = some (.int .i64 x5) ∧ 
    MkS Try.prog 42 H8 (.int .i64 x5) (.int .i64 x5) fun mk2 H9 => (nilck y1 fun ad7 => (∃ x6 : Sl, hcell H9 (Addr.add ad7 5) = some (.slice x6.a x6.n x6.c) ∧ 
    ∃ I1 : Int → Hp → Nat → Prop, (∃ m3, I1 0 H9 m3) ∧ ∀ (t68 : Int), ∀ H10 m4, I1 t68 H10 m4 → ∀ scr1 : Nat → 
    Value, (((decide (t68 < (x6.n : Int))) = true → IxA x6.a x6.n t68 1 fun ad8 => (∃ x7 : Int, hcell H10 ad8 = some (.int .i64 x7) ∧ 
    IxA y.a y.n t68 1 fun ad9 => (∃ x8 : Sl, hcell H10 ad9 = some (.slice x8.a x8.n x8.c) ∧ ∃ I2 : Int → 
    Hp → Nat → Prop, (∃ m6, I2 0 H10 m6) ∧ ∀ (t78 : Int), ∀ H11 m7, I2 t78 H11 m7 → ∀ scr2 : Nat → Value, (((decide (t78 < (x8.n : Int))) = true → 
    IxA x8.a x8.n t78 1 fun ad10 => (∃ x9 : Int, hcell H11 ad10 = some (.int .i64 x9) ∧ nilck y1 fun ad11 => 
    (∃ x10 : Sl, hcell H11 (Addr.add ad11 5) = some (.slice x10.a x10.n x10.c) ∧ IxA x10.a x10.n x9 1 fun ad12 => 
    (∃ x11 : Int, hcell H11 ad12 = some (.int .i64 x11) ∧ (((x11 != x7) = true → IxA mk1.a mk1.n x11 1 fun ad13 => 
    (∃ x12 : Sl, hcell H11 ad13 = some (.slice x12.a x12.n x12.c) ∧ CallF Try.prog 65 #[.slice x12.a x12.n x12.c, .int .i64 x7] H11 (fun r2 H12 => 
    ∃ y2 : Bool, r2 = .bool y2 ∧ (((!y2) = true → IxA mk1.a mk1.n x11 1 fun ad14 => (∃ x13 : Sl, hcell H12 ad14 = some (.slice x13.a x13.n x13.c) ∧ 
    ∀ b1 H13, Newb H12 (.cells #[.int .i64 x7] 3) b1 H13 → App Try.prog #[42, 42] 42 H13 [.slice x13.a x13.n x13.c, .slice (some ⟨b1, 0, none⟩) 1 1] fun ap1 H14 => 
    (IxA mk1.a mk1.n x11 1 fun ad15 => (StL ad15 0 [.slice ap1.a ap1.n ap1.c] H14 fun H15 => (IxA mk2.a mk2.n x7 1 fun ad16 => 
    (∃ x14 : Int, hcell H15 ad16 = some (.int .i64 x14) ∧ IxA mk2.a mk2.n x7 1 fun ad17 => (StL ad17 0 [.int .i64 (w64 (x14 + 1))] H15 fun H16 => 
    (∃ m8, m8 < m7 ∧ I2 (w64 (t78 + 1)) H16 m8)))))))) ∧ ((!y2) = false → (∃ m8, m8 < m7 ∧ I2 (w64 (t78 + 1)) H12 m8)))) Z)) ∧ 
    ((x11 != x7) = false → (∃ m8, m8 < m7 ∧ I2 (w64 (t78 + 1)) H11 m8))))))) ∧ ((decide (t78 < (x8.n : Int))) = false → 
    (∃ m5, m5 < m4 ∧ I1 (w64 (t68 + 1)) H11 m5)))))) ∧ ((decide (t68 < (x6.n : Int))) = false → nilck y1 fun ad18 => 
    (∃ x15 : Int, hcell H10 (Addr.add ad18 6) = some (.int .i64 x15) ∧ ∃ I3 : Sl → Int → Hp → Nat → Prop, (∃ m9, I3 (⟨none, 0, 0⟩ : Sl) 0 H10 m9) ∧ 
    ∀ (out : Sl) (t123 : Int), ∀ H17 m10, I3 out t123 H17 m10 → ∀ scr3 : Nat → Value, (((decide (t123 < x15)) = true → 
    nilck y1 fun ad19 => (∃ x16 : Int, hcell H17 (Addr.add ad19 6) = some (.int .i64 x16) ∧ ∃ I4 : Int → 
    Int → Hp → Nat → Prop, (∃ m12, I4 (-1) 0 H17 m12) ∧ ∀ (best : Int) (t129 : Int), ∀ H18 m13, I4 best t129 H18 m13 → 
    ∀ scr4 : Nat → Value, (((decide (t129 < x16)) = true → IxA mk2.a mk2.n t129 1 fun ad20 => (∃ x17 : Int, hcell H18 ad20 = some (.int .i64 x17) ∧ 
    (((x17 == 0) = true → (((decide (best < 0)) = true → (∃ m14, m14 < m13 ∧ I4 t129 (w64 (t129 + 1)) H18 m14)) ∧ 
    ((decide (best < 0)) = false → IxA mk.a mk.n t129 1 fun ad21 => (∃ x18 : Sl, hcell H18 ad21 = some (.slice x18.a x18.n x18.c) ∧ 
    IxA x18.a x18.n 0 1 fun ad22 => (∃ x19 : Int, hcell H18 ad22 = some (.int .i64 x19) ∧ IxA mk.a mk.n best 1 fun ad23 => 
    (∃ x20 : Sl, hcell H18 ad23 = some (.slice x20.a x20.n x20.c) ∧ IxA x20.a x20.n 0 1 fun ad24 => (∃ x21 : Int, hcell H18 ad24 = some (.int .i64 x21) ∧ 
    (((decide (x19 < x21)) = true → (∃ m14, m14 < m13 ∧ I4 t129 (w64 (t129 + 1)) H18 m14)) ∧ ((decide (x19 < x21)) = false → 
    (∃ m14, m14 < m13 ∧ I4 best (w64 (t129 + 1)) H18 m14)))))))))) ∧ ((x17 == 0) = false → (∃ m14, m14 < m13 ∧ 
    I4 best (w64 (t129 + 1)) H18 m14))))) ∧ ((decide (t129 < x16)) = false → IxA mk.a mk.n best 1 fun ad25 => 
    (∃ x22 : Sl, hcell H18 ad25 = some (.slice x22.a x22.n x22.c) ∧ ∀ b2 H19, Newb H18 (.cells #[.slice x22.a x22.n x22.c] 42) b2 H19 → 
    App Try.prog #[38, 38] 38 H19 [.slice out.a out.n out.c, .slice (some ⟨b2, 0, none⟩) 1 1] fun ap2 H20 => 
    (IxA mk2.a mk2.n best 1 fun ad26 => (StL ad26 0 [.int .i64 (-1)] H20 fun H21 => (IxA mk1.a mk1.n best 1 fun ad27 => 
    (∃ x23 : Sl, hcell H21 ad27 = some (.slice x23.a x23.n x23.c) ∧ ∃ I5 : Int → Hp → Nat → Prop, (∃ m15, I5 0 H21 m15) ∧ 
    ∀ (t173 : Int), ∀ H22 m16, I5 t173 H22 m16 → ∀ scr5 : Nat → Value, (((decide (t173 < (x23.n : Int))) = true → 
    IxA x23.a x23.n t173 1 fun ad28 => (∃ x24 : Int, hcell H22 ad28 = some (.int .i64 x24) ∧ IxA mk2.a mk2.n x24 1 fun ad29 => 
    (∃ x25 : Int, hcell H22 ad29 = some (.int .i64 x25) ∧ IxA mk2.a mk2.n x24 1 fun ad30 => (StL ad30 0 [.int .i64 (w64 (x25 - 1))] H22 fun H23 => 
    (∃ m17, m17 < m16 ∧ I5 (w64 (t173 + 1)) H23 m17))))) ∧ ((decide (t173 < (x23.n : Int))) = false → 
    (∃ m11, m11 < m10 ∧ I3 ap2 (w64 (t123 + 1)) H22 m11)))))))))))) ∧ ((decide (t123 < x15)) = false → 
    K (.slice out.a out.n out.c) H17)))))))))))))))) Z) Z
def aJ22 : Ann := (fun _ => none)
def aL22 : Ann := (fun k => if k = 5 then some [(37, (.sc (.int .i64)))] else if k = 12 then some [(68, (.sc (.int .i64)))] else if k = 15 then some [(78, (.sc (.int .i64)))] else if k = 25 then some [(17, (.sc .sl)), (123, (.sc (.int .i64)))] else if k = 28 then some [(18, (.sc (.int .i64))), (129, (.sc (.int .i64)))] else if k = 36 then some [(173, (.sc (.int .i64)))] else none)
theorem V22_ok {H : Hp} {n : Int} {l : Sl} {K : Value → Hp → Prop} {Z : List PanicEntry → Hp → Prop} (h : V22 H n l K Z) : CallF Try.prog 22 #[.int .i64 n, .slice l.a l.n l.c] H K Z :=
  fnC_sound (P := Try.prog) (aJ := aJ22) (aL := aL22) (f := 22) (args := [.int .i64 n, .slice l.a l.n l.c]) (Eq.mp (by kernel_rfl) h)
/-- weft/tarjan.Leads -/
def V40 (H : Hp) (n : Int) (l : Sl) (t2 : Sl) (K : Value → Hp → Prop) (Z : List PanicEntry → Hp → Prop) : Prop :=
  CallF Try.prog 63 #[.int .i64 n, .slice l.a l.n l.c] H (fun r H1 => ∃ y : Sl, r = .slice y.a y.n y.c ∧ 
    MkS Try.prog 101 H1 (.int .i64 (y.n : Int)) (.int .i64 (y.n : Int)) fun mk H2 => (∃ I : Sl → Int → 
    Hp → Nat → Prop, (∃ m, I (⟨none, 0, 0⟩ : Sl) 0 H2 m) ∧ ∀ (todo : Sl) (t24 : Int), ∀ H3 m1, I todo t24 H3 m1 → 
    ∀ scr : Nat → Value, (((decide (t24 < (t2.n : Int))) = true → IxA t2.a t2.n t24 1 fun ad => (∃ x : Int, hcell H3 ad = some (.int .i64 x) ∧ 
    (((decide (x ≥ 0)) = true → (((decide (x < (y.n : Int))) = true → ∀ b H4, Newb H3 (.cells #[.int .i64 x] 3) b H4 → 
    App Try.prog #[42, 42] 42 H4 [.slice todo.a todo.n todo.c, .slice (some ⟨b, 0, none⟩) 1 1] fun ap H5 => 
    (∃ m2, m2 < m1 ∧ I ap (w64 (t24 + 1)) H5 m2)) ∧ ((decide (x < (y.n : Int))) = false → (∃ m2, m2 < m1 ∧ 
    I todo (w64 (t24 + 1)) H3 m2)))) ∧ ((decide (x ≥ 0)) = false → (∃ m2, m2 < m1 ∧ I todo (w64 (t24 + 1)) H3 m2))))) ∧ 
    ((decide (t24 < (t2.n : Int))) = false → ∃ I1 : Sl → Hp → Nat → Prop, (∃ m3, I1 todo H3 m3) ∧ ∀ (todo1 : Sl), ∀ H6 m4, I1 todo1 H6 m4 → 
    ∀ scr1 : Nat → Value, (((decide ((todo1.n : Int) > 0)) = true → IxA todo1.a todo1.n (w64 ((todo1.n : Int) - 1)) 1 fun ad1 => 
    (∃ x1 : Int, hcell H6 ad1 = some (.int .i64 x1) ∧ (todo1.n ≤ todo1.c ∧ SlX todo1.a todo1.c 0 (w64 ((todo1.n : Int) - 1)) 1 fun cut => 
    (IxA mk.a mk.n x1 1 fun ad2 => (∃ x2 : Bool, hcell H6 ad2 = some (.bool x2) ∧ (((!x2) = true → IxA mk.a mk.n x1 1 fun ad3 => 
    (StL ad3 0 [.bool true] H6 fun H7 => (IxA y.a y.n x1 1 fun ad4 => (∃ x3 : Sl, hcell H7 ad4 = some (.slice x3.a x3.n x3.c) ∧ 
    App Try.prog #[42, 42] 42 H7 [.slice cut.a cut.n cut.c, .slice x3.a x3.n x3.c] fun ap1 H8 => (∃ m5, m5 < m4 ∧ 
    I1 ap1 H8 m5))))) ∧ ((!x2) = false → (∃ m5, m5 < m4 ∧ I1 cut H6 m5)))))))) ∧ ((decide ((todo1.n : Int) > 0)) = false → 
    ∃ I2 : Sl → Int → Hp → Nat → Prop, (∃ m6, I2 (⟨none, 0, 0⟩ : Sl) 0 H6 m6) ∧ ∀ (out : Sl) (t71 : Int), ∀ H9 m7, I2 out t71 H9 m7 → 
    ∀ scr2 : Nat → Value, (((decide (t71 < (mk.n : Int))) = true → IxA mk.a mk.n t71 1 fun ad5 => (∃ x4 : Bool, hcell H9 ad5 = some (.bool x4) ∧ 
    ((x4 = true → ∀ b1 H10, Newb H9 (.cells #[.int .i64 t71] 3) b1 H10 → App Try.prog #[42, 42] 42 H10 [.slice out.a out.n out.c, .slice (some ⟨b1, 0, none⟩) 1 1] fun ap2 H11 => 
    (∃ m8, m8 < m7 ∧ I2 ap2 (w64 (t71 + 1)) H11 m8)) ∧ (x4 = false → (∃ m8, m8 < m7 ∧ I2 out (w64 (t71 + 1)) H9 m8))))) ∧ 
    ((decide (t71 < (mk.n : Int))) = false → K (.slice out.a out.n out.c) H9)))))))) Z
def aJ40 : Ann := (fun _ => none)
def aL40 : Ann := (fun k => if k = 5 then some [(9, (.sc .sl)), (24, (.sc (.int .i64)))] else if k = 10 then some [(9, (.sc .sl))] else if k = 17 then some [(10, (.sc .sl)), (71, (.sc (.int .i64)))] else none)
theorem V40_ok {H : Hp} {n : Int} {l : Sl} {t2 : Sl} {K : Value → Hp → Prop} {Z : List PanicEntry → Hp → Prop} (h : V40 H n l t2 K Z) : CallF Try.prog 40 #[.int .i64 n, .slice l.a l.n l.c, .slice t2.a t2.n t2.c] H K Z :=
  fnC_sound (P := Try.prog) (aJ := aJ40) (aL := aL40) (f := 40) (args := [.int .i64 n, .slice l.a l.n l.c, .slice t2.a t2.n t2.c]) (Eq.mp (by kernel_rfl) h)
/-- weft/tarjan.Round -/
def V32 (H : Hp) (n : Int) (l : Sl) (K : Value → Hp → Prop) (Z : List PanicEntry → Hp → Prop) : Prop :=
  CallF Try.prog 63 #[.int .i64 n, .slice l.a l.n l.c] H (fun r H1 => ∃ y : Sl, r = .slice y.a y.n y.c ∧ 
    ∃ I : Int → Hp → Nat → Prop, (∃ m, I 0 H1 m) ∧ ∀ (t13 : Int), ∀ H2 m1, I t13 H2 m1 → ∀ scr : Nat → 
    Value, (((decide (t13 < (y.n : Int))) = true → IxA y.a y.n t13 1 fun ad => (∃ x : Sl, hcell H2 ad = some (.slice x.a x.n x.c) ∧ 
    CallF Try.prog 65 #[.slice x.a x.n x.c, .int .i64 t13] H2 (fun r1 H3 => ∃ y1 : Bool, r1 = .bool y1 ∧ 
    ((y1 = true → K (.bool true) H3) ∧ (y1 = false → (∃ m2, m2 < m1 ∧ I (w64 (t13 + 1)) H3 m2)))) Z)) ∧ 
    ((decide (t13 < (y.n : Int))) = false → CallF Try.prog 64 #[.slice y.a y.n y.c] H2 (fun r2 H4 => 
    ∃ y2 : Option Addr, r2 = .pointer y2 ∧ nilck y2 fun ad1 => (∃ x1 : Int, hcell H4 (Addr.add ad1 6) = some (.int .i64 x1) ∧ 
    K (.bool (decide (x1 < (y.n : Int)))) H4)) Z))) Z
def aJ32 : Ann := (fun _ => none)
def aL32 : Ann := (fun k => if k = 3 then some [(13, (.sc (.int .i64)))] else none)
theorem V32_ok {H : Hp} {n : Int} {l : Sl} {K : Value → Hp → Prop} {Z : List PanicEntry → Hp → Prop} (h : V32 H n l K Z) : CallF Try.prog 32 #[.int .i64 n, .slice l.a l.n l.c] H K Z :=
  fnC_sound (P := Try.prog) (aJ := aJ32) (aL := aL32) (f := 32) (args := [.int .i64 n, .slice l.a l.n l.c]) (Eq.mp (by kernel_rfl) h)
/-- weft/weftref07.member -/
def V71 (H : Hp) (n : Int) (k : Int) (K : Value → Hp → Prop) (Z : List PanicEntry → Hp → Prop) : Prop :=
  (((decide (k ≥ 0)) = true → K (.bool (decide (k < n))) H) ∧ ((decide (k ≥ 0)) = false → K (.bool false) H))
def aJ71 : Ann := (fun _ => none)
def aL71 : Ann := (fun _ => none)
theorem V71_ok {H : Hp} {n : Int} {k : Int} {K : Value → Hp → Prop} {Z : List PanicEntry → Hp → Prop} (h : V71 H n k K Z) : CallF Try.prog 71 #[.int .i64 n, .int .i64 k] H K Z :=
  fnC_sound (P := Try.prog) (aJ := aJ71) (aL := aL71) (f := 71) (args := [.int .i64 n, .int .i64 k]) (Eq.mp (by kernel_rfl) h)
/-- weft/weftref07.Reach -/
def V69 (H : Hp) (n : Int) (l : Sl) (K : Value → Hp → Prop) (Z : List PanicEntry → Hp → Prop) : Prop :=
  MkS Try.prog 110 H (.int .i64 (if n < 0 then 0 else n)) (.int .i64 (if n < 0 then 0 else n)) fun mk H1 => 
    (∃ I : Int → Hp → Nat → Prop, (∃ m, I 0 H1 m) ∧ ∀ (i : Int), ∀ H2 m1, I i H2 m1 → ∀ scr : Nat → Value, (((decide (i < (if n < 0 then 0 else n))) = true → 
    MkS Try.prog 101 H2 (.int .i64 (if n < 0 then 0 else n)) (.int .i64 (if n < 0 then 0 else n)) fun mk1 H3 => 
    (IxA mk.a mk.n i 1 fun ad => (StL ad 0 [.slice mk1.a mk1.n mk1.c] H3 fun H4 => (IxA mk.a mk.n i 1 fun ad1 => 
    (∃ x : Sl, hcell H4 ad1 = some (.slice x.a x.n x.c) ∧ IxA x.a x.n i 1 fun ad2 => (StL ad2 0 [.bool true] H4 fun H5 => 
    (∃ m2, m2 < m1 ∧ I (w64 (i + 1)) H5 m2))))))) ∧ ((decide (i < (if n < 0 then 0 else n))) = false → 
    ∃ I1 : Int → Hp → Nat → Prop, (∃ m3, I1 0 H2 m3) ∧ ∀ (i1 : Int), ∀ H6 m4, I1 i1 H6 m4 → ∀ scr1 : Nat → 
    Value, (((decide (i1 < (l.n : Int))) = true → IxA l.a l.n i1 2 fun ad3 => (∃ x1 : Int, hcell H6 ad3 = some (.int .i64 x1) ∧ 
    CallF Try.prog 71 #[.int .i64 (if n < 0 then 0 else n), .int .i64 x1] H6 (fun r H7 => ∃ y : Bool, r = .bool y ∧ 
    ((y = true → IxA l.a l.n i1 2 fun ad4 => (∃ x2 : Int, hcell H7 (Addr.add ad4 1) = some (.int .i64 x2) ∧ 
    CallF Try.prog 71 #[.int .i64 (if n < 0 then 0 else n), .int .i64 x2] H7 (fun r1 H8 => ∃ y1 : Bool, r1 = .bool y1 ∧ 
    ((y1 = true → IxA l.a l.n i1 2 fun ad5 => (∃ x3 : Int, hcell H8 ad5 = some (.int .i64 x3) ∧ IxA mk.a mk.n x3 1 fun ad6 => 
    (∃ x4 : Sl, hcell H8 ad6 = some (.slice x4.a x4.n x4.c) ∧ IxA l.a l.n i1 2 fun ad7 => (∃ x5 : Int, hcell H8 (Addr.add ad7 1) = some (.int .i64 x5) ∧ 
    IxA x4.a x4.n x5 1 fun ad8 => (StL ad8 0 [.bool true] H8 fun H9 => (∃ m5, m5 < m4 ∧ I1 (w64 (i1 + 1)) H9 m5)))))) ∧ 
    (y1 = false → (∃ m5, m5 < m4 ∧ I1 (w64 (i1 + 1)) H8 m5)))) Z)) ∧ (y = false → (∃ m5, m5 < m4 ∧ I1 (w64 (i1 + 1)) H7 m5)))) Z)) ∧ 
    ((decide (i1 < (l.n : Int))) = false → ∃ I2 : Int → Hp → Nat → Prop, (∃ m6, I2 0 H6 m6) ∧ ∀ (k : Int), ∀ H10 m7, I2 k H10 m7 → 
    ∀ scr2 : Nat → Value, (((decide (k < (if n < 0 then 0 else n))) = true → ∃ I3 : Int → Hp → Nat → 
    Prop, (∃ m9, I3 0 H10 m9) ∧ ∀ (i2 : Int), ∀ H11 m10, I3 i2 H11 m10 → ∀ scr3 : Nat → Value, (((decide (i2 < (if n < 0 then 0 else n))) = true → 
    ∃ I4 : Int → Hp → Nat → Prop, (∃ m12, I4 0 H11 m12) ∧ ∀ (j : Int), ∀ H12 m13, I4 j H12 m13 → ∀ scr4 : Nat → 
    Value, ∃ J : Hp → Prop, (∀ H13, J  H13 → ∀ scr5 : Nat → Value, IxA mk.a mk.n i2 1 fun ad9 => (∃ x6 : Sl, hcell H13 ad9 = some (.slice x6.a x6.n x6.c) ∧ 
    IxA mk.a mk.n i2 1 fun ad10 => (∃ x7 : Sl, hcell H13 ad10 = some (.slice x7.a x7.n x7.c) ∧ IxA x7.a x7.n j 1 fun ad11 => 
    (∃ x8 : Bool, hcell H13 ad11 = some (.bool x8) ∧ ((x8 = true → IxA x6.a x6.n j 1 fun ad12 => (StL ad12 0 [.bool true] H13 fun H14 => 
    (∃ m14, m14 < m13 ∧ I4 (w64 (j + 1)) H14 m14))) ∧ (x8 = false → IxA mk.a mk.n k 1 fun ad13 => (∃ x9 : Sl, hcell H13 ad13 = some (.slice x9.a x9.n x9.c) ∧ 
    IxA x9.a x9.n j 1 fun ad14 => (∃ x10 : Bool, hcell H13 ad14 = some (.bool x10) ∧ IxA x6.a x6.n j 1 fun ad15 => 
    (StL ad15 0 [.bool x10] H13 fun H15 => (∃ m14, m14 < m13 ∧ I4 (w64 (j + 1)) H15 m14)))))))))) ∧ (((decide (j < (if n < 0 then 0 else n))) = true → 
    IxA mk.a mk.n i2 1 fun ad16 => (∃ x11 : Sl, hcell H12 ad16 = some (.slice x11.a x11.n x11.c) ∧ IxA x11.a x11.n k 1 fun ad17 => 
    (∃ x12 : Bool, hcell H12 ad17 = some (.bool x12) ∧ ((x12 = true → (J  H12)) ∧ (x12 = false → (∃ m11, m11 < m10 ∧ 
    I3 (w64 (i2 + 1)) H12 m11)))))) ∧ ((decide (j < (if n < 0 then 0 else n))) = false → (∃ m11, m11 < m10 ∧ 
    I3 (w64 (i2 + 1)) H12 m11)))) ∧ ((decide (i2 < (if n < 0 then 0 else n))) = false → (∃ m8, m8 < m7 ∧ 
    I2 (w64 (k + 1)) H11 m8)))) ∧ ((decide (k < (if n < 0 then 0 else n))) = false → K (.slice mk.a mk.n mk.c) H10)))))))
def aJ69 : Ann := (fun k => if k = 22 then some [] else none)
def aL69 : Ann := (fun k => if k = 4 then some [(6, (.sc (.int .i64)))] else if k = 9 then some [(7, (.sc (.int .i64)))] else if k = 14 then some [(8, (.sc (.int .i64)))] else if k = 17 then some [(9, (.sc (.int .i64)))] else if k = 20 then some [(10, (.sc (.int .i64)))] else none)
theorem V69_ok {H : Hp} {n : Int} {l : Sl} {K : Value → Hp → Prop} {Z : List PanicEntry → Hp → Prop} (h : V69 H n l K Z) : CallF Try.prog 69 #[.int .i64 n, .slice l.a l.n l.c] H K Z :=
  fnC_sound (P := Try.prog) (aJ := aJ69) (aL := aL69) (f := 69) (args := [.int .i64 n, .slice l.a l.n l.c]) (Eq.mp (by kernel_rfl) h)
/-- weft/weftref07.free -/
def V70 (H : Hp) (m : Sl) (done : Sl) (i : Int) (K : Value → Hp → Prop) (Z : List PanicEntry → Hp → Prop) : Prop :=
  ∃ I : Int → Hp → Nat → Prop, (∃ m1, I 0 H m1) ∧ ∀ (j : Int), ∀ H1 m2, I j H1 m2 → ∀ scr : Nat → Value, (((decide (j < (m.n : Int))) = true → 
    IxA m.a m.n i 1 fun ad => (∃ x : Sl, hcell H1 ad = some (.slice x.a x.n x.c) ∧ IxA x.a x.n j 1 fun ad1 => 
    (∃ x1 : Bool, hcell H1 ad1 = some (.bool x1) ∧ ((x1 = true → IxA m.a m.n j 1 fun ad2 => (∃ x2 : Sl, hcell H1 ad2 = some (.slice x2.a x2.n x2.c) ∧ 
    IxA x2.a x2.n i 1 fun ad3 => (∃ x3 : Bool, hcell H1 ad3 = some (.bool x3) ∧ (((!x3) = true → IxA done.a done.n j 1 fun ad4 => 
    (∃ x4 : Bool, hcell H1 ad4 = some (.bool x4) ∧ (((!x4) = true → K (.bool false) H1) ∧ ((!x4) = false → 
    (∃ m3, m3 < m2 ∧ I (w64 (j + 1)) H1 m3))))) ∧ ((!x3) = false → (∃ m3, m3 < m2 ∧ I (w64 (j + 1)) H1 m3)))))) ∧ 
    (x1 = false → (∃ m3, m3 < m2 ∧ I (w64 (j + 1)) H1 m3)))))) ∧ ((decide (j < (m.n : Int))) = false → 
    K (.bool true) H1))
def aJ70 : Ann := (fun _ => none)
def aL70 : Ann := (fun k => if k = 2 then some [(7, (.sc (.int .i64)))] else none)
theorem V70_ok {H : Hp} {m : Sl} {done : Sl} {i : Int} {K : Value → Hp → Prop} {Z : List PanicEntry → Hp → Prop} (h : V70 H m done i K Z) : CallF Try.prog 70 #[.slice m.a m.n m.c, .slice done.a done.n done.c, .int .i64 i] H K Z :=
  fnC_sound (P := Try.prog) (aJ := aJ70) (aL := aL70) (f := 70) (args := [.slice m.a m.n m.c, .slice done.a done.n done.c, .int .i64 i]) (Eq.mp (by kernel_rfl) h)
/-- weft/weftref07.Parts -/
def V31 (H : Hp) (n : Int) (l : Sl) (K : Value → Hp → Prop) (Z : List PanicEntry → Hp → Prop) : Prop :=
  (((decide (n > 20000)) = true → K (.slice none 0 0) H) ∧ ((decide (n > 20000)) = false → CallF Try.prog 69 #[.int .i64 n, .slice l.a l.n l.c] H (fun r H1 => 
    ∃ y : Sl, r = .slice y.a y.n y.c ∧ MkS Try.prog 101 H1 (.int .i64 (y.n : Int)) (.int .i64 (y.n : Int)) fun mk H2 => 
    (∃ I : Sl → Int → Hp → Nat → Prop, (∃ m, I (⟨none, 0, 0⟩ : Sl) 0 H2 m) ∧ ∀ (out : Sl) (t21 : Int), ∀ H3 m1, I out t21 H3 m1 → 
    ∀ scr : Nat → Value, (((decide (t21 < (y.n : Int))) = true → ∃ I1 : Sl → Int → Hp → Nat → Prop, (∃ m3, I1 out 0 H3 m3) ∧ 
    ∀ (out1 : Sl) (i : Int), ∀ H4 m4, I1 out1 i H4 m4 → ∀ scr1 : Nat → Value, (((decide (i < (y.n : Int))) = true → 
    ∃ J : Bool → Hp → Prop, (∀ (t39 : Bool), ∀ H5, J t39 H5 → ∀ scr2 : Nat → Value, ((t39 = true → ∃ I2 : Sl → 
    Int → Hp → Nat → Prop, (∃ m6, I2 (⟨none, 0, 0⟩ : Sl) 0 H5 m6) ∧ ∀ (p : Sl) (j : Int), ∀ H6 m7, I2 p j H6 m7 → 
    ∀ scr3 : Nat → Value, (((decide (j < (y.n : Int))) = true → IxA y.a y.n i 1 fun ad => (∃ x : Sl, hcell H6 ad = some (.slice x.a x.n x.c) ∧ 
    IxA x.a x.n j 1 fun ad1 => (∃ x1 : Bool, hcell H6 ad1 = some (.bool x1) ∧ ((x1 = true → IxA y.a y.n j 1 fun ad2 => 
    (∃ x2 : Sl, hcell H6 ad2 = some (.slice x2.a x2.n x2.c) ∧ IxA x2.a x2.n i 1 fun ad3 => (∃ x3 : Bool, hcell H6 ad3 = some (.bool x3) ∧ 
    ((x3 = true → ∀ b H7, Newb H6 (.cells #[.int .i64 j] 3) b H7 → App Try.prog #[42, 42] 42 H7 [.slice p.a p.n p.c, .slice (some ⟨b, 0, none⟩) 1 1] fun ap H8 => 
    (IxA mk.a mk.n j 1 fun ad4 => (StL ad4 0 [.bool true] H8 fun H9 => (∃ m8, m8 < m7 ∧ I2 ap (w64 (j + 1)) H9 m8)))) ∧ 
    (x3 = false → (∃ m8, m8 < m7 ∧ I2 p (w64 (j + 1)) H6 m8)))))) ∧ (x1 = false → (∃ m8, m8 < m7 ∧ I2 p (w64 (j + 1)) H6 m8)))))) ∧ 
    ((decide (j < (y.n : Int))) = false → ∀ b1 H10, Newb H6 (.cells #[.slice p.a p.n p.c] 42) b1 H10 → 
    App Try.prog #[38, 38] 38 H10 [.slice out1.a out1.n out1.c, .slice (some ⟨b1, 0, none⟩) 1 1] fun ap1 H11 => 
    (∃ m2, m2 < m1 ∧ I ap1 (w64 (t21 + 1)) H11 m2)))) ∧ (t39 = false → (∃ m5, m5 < m4 ∧ I1 out1 (w64 (i + 1)) H5 m5)))) ∧ 
    IxA mk.a mk.n i 1 fun ad5 => (∃ x4 : Bool, hcell H4 ad5 = some (.bool x4) ∧ (((!x4) = true → CallF Try.prog 70 #[.slice y.a y.n y.c, .slice mk.a mk.n mk.c, .int .i64 i] H4 (fun r1 H12 => 
    ∃ y1 : Bool, r1 = .bool y1 ∧ (J y1 H12)) Z) ∧ ((!x4) = false → (J false H4))))) ∧ ((decide (i < (y.n : Int))) = false → 
    (∃ m2, m2 < m1 ∧ I out1 (w64 (t21 + 1)) H4 m2)))) ∧ ((decide (t21 < (y.n : Int))) = false → K (.slice out.a out.n out.c) H3)))) Z))
def aJ31 : Ann := (fun k => if k = 12 then some [(39, (.sc .bool))] else none)
def aL31 : Ann := (fun k => if k = 7 then some [(7, (.sc .sl)), (21, (.sc (.int .i64)))] else if k = 9 then some [(7, (.sc .sl)), (8, (.sc (.int .i64)))] else if k = 14 then some [(9, (.sc .sl)), (10, (.sc (.int .i64)))] else none)
theorem V31_ok {H : Hp} {n : Int} {l : Sl} {K : Value → Hp → Prop} {Z : List PanicEntry → Hp → Prop} (h : V31 H n l K Z) : CallF Try.prog 31 #[.int .i64 n, .slice l.a l.n l.c] H K Z :=
  fnC_sound (P := Try.prog) (aJ := aJ31) (aL := aL31) (f := 31) (args := [.int .i64 n, .slice l.a l.n l.c]) (Eq.mp (by kernel_rfl) h)
/-- weft/weftref07.Leads -/
def V41 (H : Hp) (n : Int) (l : Sl) (t2 : Sl) (K : Value → Hp → Prop) (Z : List PanicEntry → Hp → Prop) : Prop :=
  (((decide (n > 20000)) = true → K (.slice none 0 0) H) ∧ ((decide (n > 20000)) = false → CallF Try.prog 69 #[.int .i64 n, .slice l.a l.n l.c] H (fun r H1 => 
    ∃ y : Sl, r = .slice y.a y.n y.c ∧ ∃ I : Sl → Int → Hp → Nat → Prop, (∃ m, I (⟨none, 0, 0⟩ : Sl) 0 H1 m) ∧ 
    ∀ (out : Sl) (j : Int), ∀ H2 m1, I out j H2 m1 → ∀ scr : Nat → Value, (((decide (j < (y.n : Int))) = true → 
    ∃ I1 : Bool → Int → Hp → Nat → Prop, (∃ m3, I1 false 0 H2 m3) ∧ ∀ (is : Bool) (i : Int), ∀ H3 m4, I1 is i H3 m4 → 
    ∀ scr1 : Nat → Value, (((decide (i < (t2.n : Int))) = true → ((is = true → (∃ m5, m5 < m4 ∧ I1 true (w64 (i + 1)) H3 m5)) ∧ 
    (is = false → IxA t2.a t2.n i 1 fun ad => (∃ x : Int, hcell H3 ad = some (.int .i64 x) ∧ CallF Try.prog 71 #[.int .i64 n, .int .i64 x] H3 (fun r1 H4 => 
    ∃ y1 : Bool, r1 = .bool y1 ∧ ((y1 = true → IxA t2.a t2.n i 1 fun ad1 => (∃ x1 : Int, hcell H4 ad1 = some (.int .i64 x1) ∧ 
    IxA y.a y.n x1 1 fun ad2 => (∃ x2 : Sl, hcell H4 ad2 = some (.slice x2.a x2.n x2.c) ∧ IxA x2.a x2.n j 1 fun ad3 => 
    (∃ x3 : Bool, hcell H4 ad3 = some (.bool x3) ∧ (∃ m5, m5 < m4 ∧ I1 x3 (w64 (i + 1)) H4 m5))))) ∧ 
    (y1 = false → (∃ m5, m5 < m4 ∧ I1 false (w64 (i + 1)) H4 m5)))) Z)))) ∧ ((decide (i < (t2.n : Int))) = false → 
    ((is = true → ∀ b H5, Newb H3 (.cells #[.int .i64 j] 3) b H5 → App Try.prog #[42, 42] 42 H5 [.slice out.a out.n out.c, .slice (some ⟨b, 0, none⟩) 1 1] fun ap H6 => 
    (∃ m2, m2 < m1 ∧ I ap (w64 (j + 1)) H6 m2)) ∧ (is = false → (∃ m2, m2 < m1 ∧ I out (w64 (j + 1)) H3 m2)))))) ∧ 
    ((decide (j < (y.n : Int))) = false → K (.slice out.a out.n out.c) H2))) Z))
def aJ41 : Ann := (fun _ => none)
def aL41 : Ann := (fun k => if k = 6 then some [(8, (.sc .sl)), (9, (.sc (.int .i64)))] else if k = 10 then some [(10, (.sc .bool)), (11, (.sc (.int .i64)))] else none)
theorem V41_ok {H : Hp} {n : Int} {l : Sl} {t2 : Sl} {K : Value → Hp → Prop} {Z : List PanicEntry → Hp → Prop} (h : V41 H n l t2 K Z) : CallF Try.prog 41 #[.int .i64 n, .slice l.a l.n l.c, .slice t2.a t2.n t2.c] H K Z :=
  fnC_sound (P := Try.prog) (aJ := aJ41) (aL := aL41) (f := 41) (args := [.int .i64 n, .slice l.a l.n l.c, .slice t2.a t2.n t2.c]) (Eq.mp (by kernel_rfl) h)
/-- weft/weftref07.Round -/
def V33 (H : Hp) (n : Int) (l : Sl) (K : Value → Hp → Prop) (Z : List PanicEntry → Hp → Prop) : Prop :=
  ∃ I : Int → Hp → Nat → Prop, (∃ m, I 0 H m) ∧ ∀ (i : Int), ∀ H1 m1, I i H1 m1 → ∀ scr : Nat → Value, (((decide (i < (l.n : Int))) = true → 
    (((decide (n ≤ 20000)) = true → IxA l.a l.n i 2 fun ad => (∃ x : Int, hcell H1 ad = some (.int .i64 x) ∧ 
    CallF Try.prog 71 #[.int .i64 n, .int .i64 x] H1 (fun r H2 => ∃ y : Bool, r = .bool y ∧ ((y = true → 
    IxA l.a l.n i 2 fun ad1 => (∃ x1 : Int, hcell H2 ad1 = some (.int .i64 x1) ∧ IxA l.a l.n i 2 fun ad2 => 
    (∃ x2 : Int, hcell H2 (Addr.add ad2 1) = some (.int .i64 x2) ∧ (((x1 == x2) = true → K (.bool true) H2) ∧ 
    ((x1 == x2) = false → (∃ m2, m2 < m1 ∧ I (w64 (i + 1)) H2 m2)))))) ∧ (y = false → (∃ m2, m2 < m1 ∧ 
    I (w64 (i + 1)) H2 m2)))) Z)) ∧ ((decide (n ≤ 20000)) = false → (∃ m2, m2 < m1 ∧ I (w64 (i + 1)) H1 m2)))) ∧ 
    ((decide (i < (l.n : Int))) = false → CallF Try.prog 31 #[.int .i64 n, .slice l.a l.n l.c] H1 (fun r1 H3 => 
    ∃ y1 : Sl, r1 = .slice y1.a y1.n y1.c ∧ ∃ I1 : Int → Hp → Nat → Prop, (∃ m3, I1 0 H3 m3) ∧ ∀ (i1 : Int), ∀ H4 m4, I1 i1 H4 m4 → 
    ∀ scr1 : Nat → Value, (((decide (i1 < (y1.n : Int))) = true → IxA y1.a y1.n i1 1 fun ad3 => (∃ x3 : Sl, hcell H4 ad3 = some (.slice x3.a x3.n x3.c) ∧ 
    (((decide ((x3.n : Int) > 1)) = true → K (.bool true) H4) ∧ ((decide ((x3.n : Int) > 1)) = false → 
    (∃ m5, m5 < m4 ∧ I1 (w64 (i1 + 1)) H4 m5))))) ∧ ((decide (i1 < (y1.n : Int))) = false → K (.bool false) H4))) Z))
def aJ33 : Ann := (fun _ => none)
def aL33 : Ann := (fun k => if k = 2 then some [(5, (.sc (.int .i64)))] else if k = 8 then some [(7, (.sc (.int .i64)))] else none)
theorem V33_ok {H : Hp} {n : Int} {l : Sl} {K : Value → Hp → Prop} {Z : List PanicEntry → Hp → Prop} (h : V33 H n l K Z) : CallF Try.prog 33 #[.int .i64 n, .slice l.a l.n l.c] H K Z :=
  fnC_sound (P := Try.prog) (aJ := aJ33) (aL := aL33) (f := 33) (args := [.int .i64 n, .slice l.a l.n l.c]) (Eq.mp (by kernel_rfl) h)
/-- weft/weftref06.SameInts -/
def V39 (H : Hp) (a : Sl) (b : Sl) (K : Value → Hp → Prop) (Z : List PanicEntry → Hp → Prop) : Prop :=
  ((((a.n : Int) != (b.n : Int)) = true → K (.bool false) H) ∧ (((a.n : Int) != (b.n : Int)) = false → 
    ∃ I : Int → Hp → Nat → Prop, (∃ m, I 0 H m) ∧ ∀ (i : Int), ∀ H1 m1, I i H1 m1 → ∀ scr : Nat → Value, (((decide (i < (a.n : Int))) = true → 
    (((decide (i < (b.n : Int))) = true → IxA a.a a.n i 1 fun ad => (∃ x : Int, hcell H1 ad = some (.int .i64 x) ∧ 
    IxA b.a b.n i 1 fun ad1 => (∃ x1 : Int, hcell H1 ad1 = some (.int .i64 x1) ∧ (((x != x1) = true → 
    K (.bool false) H1) ∧ ((x != x1) = false → (∃ m2, m2 < m1 ∧ I (w64 (i + 1)) H1 m2)))))) ∧ ((decide (i < (b.n : Int))) = false → 
    K (.bool true) H1))) ∧ ((decide (i < (a.n : Int))) = false → K (.bool true) H1))))
def aJ39 : Ann := (fun _ => none)
def aL39 : Ann := (fun k => if k = 4 then some [(5, (.sc (.int .i64)))] else none)
theorem V39_ok {H : Hp} {a : Sl} {b : Sl} {K : Value → Hp → Prop} {Z : List PanicEntry → Hp → Prop} (h : V39 H a b K Z) : CallF Try.prog 39 #[.slice a.a a.n a.c, .slice b.a b.n b.c] H K Z :=
  fnC_sound (P := Try.prog) (aJ := aJ39) (aL := aL39) (f := 39) (args := [.slice a.a a.n a.c, .slice b.a b.n b.c]) (Eq.mp (by kernel_rfl) h)
/-- weft/weftlaw07.same -/
def V30 (H : Hp) (a : Sl) (b : Sl) (K : Value → Hp → Prop) (Z : List PanicEntry → Hp → Prop) : Prop :=
  ((((a.n : Int) != (b.n : Int)) = true → K (.bool false) H) ∧ (((a.n : Int) != (b.n : Int)) = false → 
    ∃ I : Int → Hp → Nat → Prop, (∃ m, I 0 H m) ∧ ∀ (i : Int), ∀ H1 m1, I i H1 m1 → ∀ scr : Nat → Value, (((decide (i < (a.n : Int))) = true → 
    (((decide (i < (b.n : Int))) = true → IxA a.a a.n i 1 fun ad => (∃ x : Sl, hcell H1 ad = some (.slice x.a x.n x.c) ∧ 
    IxA b.a b.n i 1 fun ad1 => (∃ x1 : Sl, hcell H1 ad1 = some (.slice x1.a x1.n x1.c) ∧ CallF Try.prog 39 #[.slice x.a x.n x.c, .slice x1.a x1.n x1.c] H1 (fun r H2 => 
    ∃ y : Bool, r = .bool y ∧ (((!y) = true → K (.bool false) H2) ∧ ((!y) = false → (∃ m2, m2 < m1 ∧ 
    I (w64 (i + 1)) H2 m2)))) Z))) ∧ ((decide (i < (b.n : Int))) = false → K (.bool true) H1))) ∧ ((decide (i < (a.n : Int))) = false → 
    K (.bool true) H1))))
def aJ30 : Ann := (fun _ => none)
def aL30 : Ann := (fun k => if k = 4 then some [(5, (.sc (.int .i64)))] else none)
theorem V30_ok {H : Hp} {a : Sl} {b : Sl} {K : Value → Hp → Prop} {Z : List PanicEntry → Hp → Prop} (h : V30 H a b K Z) : CallF Try.prog 30 #[.slice a.a a.n a.c, .slice b.a b.n b.c] H K Z :=
  fnC_sound (P := Try.prog) (aJ := aJ30) (aL := aL30) (f := 30) (args := [.slice a.a a.n a.c, .slice b.a b.n b.c]) (Eq.mp (by kernel_rfl) h)
/-- weft/weftlaw07.edges -/
def V23 (H : Hp) (l : Sl) (K : Value → Hp → Prop) (Z : List PanicEntry → Hp → Prop) : Prop :=
  ∃ I : Sl → Int → Hp → Nat → Prop, (∃ m, I (⟨none, 0, 0⟩ : Sl) 0 H m) ∧ ∀ (m1 : Sl) (i : Int), ∀ H1 m2, I m1 i H1 m2 → 
    ∀ scr : Nat → Value, (((decide (i < (l.n : Int))) = true → IxA l.a l.n i 2 fun ad => (∃ x : Int, hcell H1 ad = some (.int .i64 x) ∧ 
    IxA l.a l.n i 2 fun ad1 => (∃ x1 : Int, hcell H1 (Addr.add ad1 1) = some (.int .i64 x1) ∧ ∀ b H2, Newb H1 (.cells #[.int .i64 x, .int .i64 x1] 96) b H2 → 
    App Try.prog #[40, 40] 40 H2 [.slice m1.a m1.n m1.c, .slice (some ⟨b, 0, none⟩) 1 1] fun ap H3 => 
    (∃ m3, m3 < m2 ∧ I ap (w64 (i + 1)) H3 m3)))) ∧ ((decide (i < (l.n : Int))) = false → K (.slice m1.a m1.n m1.c) H1))
def aJ23 : Ann := (fun _ => none)
def aL23 : Ann := (fun k => if k = 3 then some [(3, (.sc .sl)), (4, (.sc (.int .i64)))] else none)
theorem V23_ok {H : Hp} {l : Sl} {K : Value → Hp → Prop} {Z : List PanicEntry → Hp → Prop} (h : V23 H l K Z) : CallF Try.prog 23 #[.slice l.a l.n l.c] H K Z :=
  fnC_sound (P := Try.prog) (aJ := aJ23) (aL := aL23) (f := 23) (args := [.slice l.a l.n l.c]) (Eq.mp (by kernel_rfl) h)
/-- weft/weftlaw07.round -/
def V24 (H : Hp) (n : Int) (l : Sl) (p : Sl) (K : Value → Hp → Prop) (Z : List PanicEntry → Hp → Prop) : Prop :=
  ∃ I : Int → Hp → Nat → Prop, (∃ m, I 0 H m) ∧ ∀ (i : Int), ∀ H1 m1, I i H1 m1 → ∀ scr : Nat → Value, (((decide (i < (p.n : Int))) = true → 
    IxA p.a p.n i 1 fun ad => (∃ x : Int, hcell H1 ad = some (.int .i64 x) ∧ ∀ b H2, Newb H1 (.cells #[.int .i64 x] 3) b H2 → 
    CallF Try.prog 41 #[.int .i64 n, .slice l.a l.n l.c, .slice (some ⟨b, 0, none⟩) 1 1] H2 (fun r H3 => 
    ∃ y : Sl, r = .slice y.a y.n y.c ∧ ∃ I1 : Int → Hp → Nat → Prop, (∃ m3, I1 0 H3 m3) ∧ ∀ (k : Int), ∀ H4 m4, I1 k H4 m4 → 
    ∀ scr1 : Nat → Value, (((decide (k < (p.n : Int))) = true → ∃ I2 : Bool → Int → Hp → Nat → Prop, (∃ m6, I2 false 0 H4 m6) ∧ 
    ∀ (is : Bool) (j : Int), ∀ H5 m7, I2 is j H5 m7 → ∀ scr2 : Nat → Value, (((decide (j < (y.n : Int))) = true → 
    ((is = true → (∃ m8, m8 < m7 ∧ I2 true (w64 (j + 1)) H5 m8)) ∧ (is = false → IxA y.a y.n j 1 fun ad1 => 
    (∃ x1 : Int, hcell H5 ad1 = some (.int .i64 x1) ∧ IxA p.a p.n k 1 fun ad2 => (∃ x2 : Int, hcell H5 ad2 = some (.int .i64 x2) ∧ 
    (∃ m8, m8 < m7 ∧ I2 (x1 == x2) (w64 (j + 1)) H5 m8)))))) ∧ ((decide (j < (y.n : Int))) = false → 
    (((!is) = true → K (.bool false) H5) ∧ ((!is) = false → (∃ m5, m5 < m4 ∧ I1 (w64 (k + 1)) H5 m5)))))) ∧ 
    ((decide (k < (p.n : Int))) = false → (∃ m2, m2 < m1 ∧ I (w64 (i + 1)) H4 m2)))) Z)) ∧ ((decide (i < (p.n : Int))) = false → 
    K (.bool true) H1))
def aJ24 : Ann := (fun _ => none)
def aL24 : Ann := (fun k => if k = 2 then some [(7, (.sc (.int .i64)))] else if k = 6 then some [(9, (.sc (.int .i64)))] else if k = 10 then some [(10, (.sc .bool)), (11, (.sc (.int .i64)))] else none)
theorem V24_ok {H : Hp} {n : Int} {l : Sl} {p : Sl} {K : Value → Hp → Prop} {Z : List PanicEntry → Hp → Prop} (h : V24 H n l p K Z) : CallF Try.prog 24 #[.int .i64 n, .slice l.a l.n l.c, .slice p.a p.n p.c] H K Z :=
  fnC_sound (P := Try.prog) (aJ := aJ24) (aL := aL24) (f := 24) (args := [.int .i64 n, .slice l.a l.n l.c, .slice p.a p.n p.c]) (Eq.mp (by kernel_rfl) h)
/-- weft/weftlaw07.works -/
def V20 (H : Hp)  (K : Value → Hp → Prop) (Z : List PanicEntry → Hp → Prop) : Prop :=
  ∀ b H1, Newb H (.cells #[.int .i64 0, .int .i64 1, .int .i64 1, .int .i64 2, .int .i64 2, .int .i64 1, .int .i64 3, .int .i64 0] 96) b H1 → 
    CallF Try.prog 22 #[.int .i64 4, .slice (some ⟨b, 0, none⟩) 4 4] H1 (fun r H2 => ∃ y : Sl, r = .slice y.a y.n y.c ∧ 
    ((((y.n : Int) == 3) = true → IxA y.a y.n 0 1 fun ad => (∃ x : Sl, hcell H2 ad = some (.slice x.a x.n x.c) ∧ 
    ((((x.n : Int) == 2) = true → IxA y.a y.n 0 1 fun ad1 => (∃ x1 : Sl, hcell H2 ad1 = some (.slice x1.a x1.n x1.c) ∧ 
    IxA x1.a x1.n 0 1 fun ad2 => (∃ x2 : Int, hcell H2 ad2 = some (.int .i64 x2) ∧ (((x2 == 1) = true → 
    IxA y.a y.n 2 1 fun ad3 => (∃ x3 : Sl, hcell H2 ad3 = some (.slice x3.a x3.n x3.c) ∧ IxA x3.a x3.n 0 1 fun ad4 => 
    (∃ x4 : Int, hcell H2 ad4 = some (.int .i64 x4) ∧ K (.bool (x4 == 3)) H2))) ∧ ((x2 == 1) = false → 
    K (.bool false) H2))))) ∧ (((x.n : Int) == 2) = false → K (.bool false) H2)))) ∧ (((y.n : Int) == 3) = false → 
    K (.bool false) H2))) Z
def aJ20 : Ann := (fun _ => none)
def aL20 : Ann := (fun _ => none)
theorem V20_ok {H : Hp}  {K : Value → Hp → Prop} {Z : List PanicEntry → Hp → Prop} (h : V20 H  K Z) : CallF Try.prog 20 #[] H K Z :=
  fnC_sound (P := Try.prog) (aJ := aJ20) (aL := aL20) (f := 20) (args := []) (Eq.mp (by kernel_rfl) h)
/-- weft/weftlaw07.great -/
def V21 (H : Hp) (n : Int) (l : Sl) (K : Value → Hp → Prop) (Z : List PanicEntry → Hp → Prop) : Prop :=
  (((decide (n > 60)) = true → (((decide (n ≤ 20000)) = true → K (.bool true) H) ∧ ((decide (n ≤ 20000)) = false → 
    K (.bool (decide ((l.n : Int) > 200))) H))) ∧ ((decide (n > 60)) = false → K (.bool (decide ((l.n : Int) > 200))) H))
def aJ21 : Ann := (fun _ => none)
def aL21 : Ann := (fun _ => none)
theorem V21_ok {H : Hp} {n : Int} {l : Sl} {K : Value → Hp → Prop} {Z : List PanicEntry → Hp → Prop} (h : V21 H n l K Z) : CallF Try.prog 21 #[.int .i64 n, .slice l.a l.n l.c] H K Z :=
  fnC_sound (P := Try.prog) (aJ := aJ21) (aL := aL21) (f := 21) (args := [.int .i64 n, .slice l.a l.n l.c]) (Eq.mp (by kernel_rfl) h)
/-- weft/weftlaw07.TarjanBehind -/
def V4 (H : Hp) (n : Int) (l : Sl) (K : Value → Hp → Prop) (Z : List PanicEntry → Hp → Prop) : Prop :=
  CallF Try.prog 20 #[] H (fun r H1 => ∃ y : Bool, r = .bool y ∧ (((!y) = true → K (.bool false) H1) ∧ 
    ((!y) = false → ∃ J : Hp → Prop, (∀ H2, J  H2 → ∀ scr : Nat → Value, CallF Try.prog 23 #[.slice l.a l.n l.c] H2 (fun r1 H3 => 
    ∃ y1 : Sl, r1 = .slice y1.a y1.n y1.c ∧ CallF Try.prog 22 #[.int .i64 n, .slice y1.a y1.n y1.c] H3 (fun r2 H4 => 
    ∃ y2 : Sl, r2 = .slice y2.a y2.n y2.c ∧ MkS Try.prog 42 H4 (.int .i64 (if n < 0 then 0 else n)) (.int .i64 (if n < 0 then 0 else n)) fun mk H5 => 
    (∃ I : Int → Int → Hp → Nat → Prop, (∃ m, I 0 0 H5 m) ∧ ∀ (seen : Int) (i : Int), ∀ H6 m1, I seen i H6 m1 → 
    ∀ scr1 : Nat → Value, (((decide (i < (y2.n : Int))) = true → ∃ I1 : Int → Int → Hp → Nat → Prop, (∃ m3, I1 seen 0 H6 m3) ∧ 
    ∀ (seen1 : Int) (k : Int), ∀ H7 m4, I1 seen1 k H7 m4 → ∀ scr2 : Nat → Value, IxA y2.a y2.n i 1 fun ad => 
    (∃ x : Sl, hcell H7 ad = some (.slice x.a x.n x.c) ∧ (((decide (k < (x.n : Int))) = true → IxA y2.a y2.n i 1 fun ad1 => 
    (∃ x1 : Sl, hcell H7 ad1 = some (.slice x1.a x1.n x1.c) ∧ IxA x1.a x1.n k 1 fun ad2 => (∃ x2 : Int, hcell H7 ad2 = some (.int .i64 x2) ∧ 
    (((decide (x2 < 0)) = true → K (.bool false) H7) ∧ ((decide (x2 < 0)) = false → IxA y2.a y2.n i 1 fun ad3 => 
    (∃ x3 : Sl, hcell H7 ad3 = some (.slice x3.a x3.n x3.c) ∧ IxA x3.a x3.n k 1 fun ad4 => (∃ x4 : Int, hcell H7 ad4 = some (.int .i64 x4) ∧ 
    (((decide (x4 ≥ (mk.n : Int))) = true → K (.bool false) H7) ∧ ((decide (x4 ≥ (mk.n : Int))) = false → 
    IxA y2.a y2.n i 1 fun ad5 => (∃ x5 : Sl, hcell H7 ad5 = some (.slice x5.a x5.n x5.c) ∧ IxA x5.a x5.n k 1 fun ad6 => 
    (∃ x6 : Int, hcell H7 ad6 = some (.int .i64 x6) ∧ IxA mk.a mk.n x6 1 fun ad7 => (∃ x7 : Int, hcell H7 ad7 = some (.int .i64 x7) ∧ 
    (((x7 != 0) = true → K (.bool false) H7) ∧ ((x7 != 0) = false → IxA y2.a y2.n i 1 fun ad8 => (∃ x8 : Sl, hcell H7 ad8 = some (.slice x8.a x8.n x8.c) ∧ 
    IxA x8.a x8.n k 1 fun ad9 => (∃ x9 : Int, hcell H7 ad9 = some (.int .i64 x9) ∧ IxA mk.a mk.n x9 1 fun ad10 => 
    (StL ad10 0 [.int .i64 (w64 (i + 1))] H7 fun H8 => (∃ m5, m5 < m4 ∧ I1 (w64 (seen1 + 1)) (w64 (k + 1)) H8 m5)))))))))))))))))) ∧ 
    ((decide (k < (x.n : Int))) = false → IxA y2.a y2.n i 1 fun ad11 => (∃ x10 : Sl, hcell H7 ad11 = some (.slice x10.a x10.n x10.c) ∧ 
    (((decide ((x10.n : Int) > 1)) = true → IxA y2.a y2.n i 1 fun ad12 => (∃ x11 : Sl, hcell H7 ad12 = some (.slice x11.a x11.n x11.c) ∧ 
    CallF Try.prog 24 #[.int .i64 n, .slice l.a l.n l.c, .slice x11.a x11.n x11.c] H7 (fun r3 H9 => ∃ y3 : Bool, r3 = .bool y3 ∧ 
    (((!y3) = true → K (.bool false) H9) ∧ ((!y3) = false → (∃ m2, m2 < m1 ∧ I seen1 (w64 (i + 1)) H9 m2)))) Z)) ∧ 
    ((decide ((x10.n : Int) > 1)) = false → (∃ m2, m2 < m1 ∧ I seen1 (w64 (i + 1)) H7 m2)))))))) ∧ ((decide (i < (y2.n : Int))) = false → 
    ∃ I2 : Int → Hp → Nat → Prop, (∃ m6, I2 0 H6 m6) ∧ ∀ (i1 : Int), ∀ H10 m7, I2 i1 H10 m7 → ∀ scr3 : Nat → 
    Value, (((decide (i1 < (l.n : Int))) = true → IxA l.a l.n i1 2 fun ad13 => (∃ x12 : Int, hcell H10 ad13 = some (.int .i64 x12) ∧ 
    IxA l.a l.n i1 2 fun ad14 => (∃ x13 : Int, hcell H10 (Addr.add ad14 1) = some (.int .i64 x13) ∧ (((decide (x12 ≥ 0)) = true → 
    (((decide (x12 < (mk.n : Int))) = true → (((decide (x13 ≥ 0)) = true → (((decide (x13 < (mk.n : Int))) = true → 
    IxA mk.a mk.n x12 1 fun ad15 => (∃ x14 : Int, hcell H10 ad15 = some (.int .i64 x14) ∧ IxA mk.a mk.n x13 1 fun ad16 => 
    (∃ x15 : Int, hcell H10 ad16 = some (.int .i64 x15) ∧ (((decide (x14 < x15)) = true → K (.bool false) H10) ∧ 
    ((decide (x14 < x15)) = false → (∃ m8, m8 < m7 ∧ I2 (w64 (i1 + 1)) H10 m8)))))) ∧ ((decide (x13 < (mk.n : Int))) = false → 
    (∃ m8, m8 < m7 ∧ I2 (w64 (i1 + 1)) H10 m8)))) ∧ ((decide (x13 ≥ 0)) = false → (∃ m8, m8 < m7 ∧ I2 (w64 (i1 + 1)) H10 m8)))) ∧ 
    ((decide (x12 < (mk.n : Int))) = false → (∃ m8, m8 < m7 ∧ I2 (w64 (i1 + 1)) H10 m8)))) ∧ ((decide (x12 ≥ 0)) = false → 
    (∃ m8, m8 < m7 ∧ I2 (w64 (i1 + 1)) H10 m8)))))) ∧ ((decide (i1 < (l.n : Int))) = false → K (.bool (seen == (mk.n : Int))) H10)))))) Z) Z) ∧ 
    CallF Try.prog 21 #[.int .i64 n, .slice l.a l.n l.c] H1 (fun r4 H11 => ∃ y4 : Bool, r4 = .bool y4 ∧ 
    ((y4 = true → K (.bool true) H11) ∧ (y4 = false → (((decide (n > 60)) = true → K (.bool true) H11) ∧ 
    ((decide (n > 60)) = false → (J  H11)))))) Z))) Z
def aJ4 : Ann := (fun k => if k = 5 then some [] else none)
def aL4 : Ann := (fun k => if k = 9 then some [(7, (.sc (.int .i64))), (8, (.sc (.int .i64)))] else if k = 12 then some [(7, (.sc (.int .i64))), (9, (.sc (.int .i64)))] else if k = 21 then some [(10, (.sc (.int .i64)))] else none)
theorem V4_ok {H : Hp} {n : Int} {l : Sl} {K : Value → Hp → Prop} {Z : List PanicEntry → Hp → Prop} (h : V4 H n l K Z) : CallF Try.prog 4 #[.int .i64 n, .slice l.a l.n l.c] H K Z :=
  fnC_sound (P := Try.prog) (aJ := aJ4) (aL := aL4) (f := 4) (args := [.int .i64 n, .slice l.a l.n l.c]) (Eq.mp (by kernel_rfl) h)
/-- weft/weftlaw07.TarjanParts -/
def V7 (H : Hp) (n : Int) (l : Sl) (K : Value → Hp → Prop) (Z : List PanicEntry → Hp → Prop) : Prop :=
  CallF Try.prog 21 #[.int .i64 n, .slice l.a l.n l.c] H (fun r H1 => ∃ y : Bool, r = .bool y ∧ ((y = true → 
    K (.bool true) H1) ∧ (y = false → CallF Try.prog 23 #[.slice l.a l.n l.c] H1 (fun r1 H2 => ∃ y1 : Sl, r1 = .slice y1.a y1.n y1.c ∧ 
    CallF Try.prog 22 #[.int .i64 n, .slice y1.a y1.n y1.c] H2 (fun r2 H3 => ∃ y2 : Sl, r2 = .slice y2.a y2.n y2.c ∧ 
    CallF Try.prog 31 #[.int .i64 n, .slice l.a l.n l.c] H3 (fun r3 H4 => ∃ y3 : Sl, r3 = .slice y3.a y3.n y3.c ∧ 
    CallF Try.prog 30 #[.slice y2.a y2.n y2.c, .slice y3.a y3.n y3.c] H4 (fun r4 H5 => ∃ y4 : Bool, r4 = .bool y4 ∧ 
    ((y4 = true → CallF Try.prog 23 #[.slice l.a l.n l.c] H5 (fun r5 H6 => ∃ y5 : Sl, r5 = .slice y5.a y5.n y5.c ∧ 
    CallF Try.prog 32 #[.int .i64 n, .slice y5.a y5.n y5.c] H6 (fun r6 H7 => ∃ y6 : Bool, r6 = .bool y6 ∧ 
    CallF Try.prog 33 #[.int .i64 n, .slice l.a l.n l.c] H7 (fun r7 H8 => ∃ y7 : Bool, r7 = .bool y7 ∧ 
    (((y6 == y7) = true → CallF Try.prog 20 #[] H8 (fun r8 H9 => ∃ y8 : Bool, r8 = .bool y8 ∧ K (.bool y8) H9) Z) ∧ 
    ((y6 == y7) = false → K (.bool false) H8))) Z) Z) Z) ∧ (y4 = false → K (.bool false) H5))) Z) Z) Z) Z))) Z
def aJ7 : Ann := (fun _ => none)
def aL7 : Ann := (fun _ => none)
theorem V7_ok {H : Hp} {n : Int} {l : Sl} {K : Value → Hp → Prop} {Z : List PanicEntry → Hp → Prop} (h : V7 H n l K Z) : CallF Try.prog 7 #[.int .i64 n, .slice l.a l.n l.c] H K Z :=
  fnC_sound (P := Try.prog) (aJ := aJ7) (aL := aL7) (f := 7) (args := [.int .i64 n, .slice l.a l.n l.c]) (Eq.mp (by kernel_rfl) h)
/-- weft/weftlaw07.TarjanTurned -/
def V8 (H : Hp) (n : Int) (l : Sl) (K : Value → Hp → Prop) (Z : List PanicEntry → Hp → Prop) : Prop :=
  CallF Try.prog 20 #[] H (fun r H1 => ∃ y : Bool, r = .bool y ∧ (((!y) = true → K (.bool false) H1) ∧ 
    ((!y) = false → ∃ J : Hp → Prop, (∀ H2, J  H2 → ∀ scr : Nat → Value, ∃ I : Sl → Int → Hp → Nat → 
    Prop, (∃ m, I (⟨none, 0, 0⟩ : Sl) 0 H2 m) ∧ ∀ (m1 : Sl) (i : Int), ∀ H3 m2, I m1 i H3 m2 → ∀ scr1 : Nat → 
    Value, (((decide (i < (l.n : Int))) = true → IxA l.a l.n i 2 fun ad => (∃ x : Int, hcell H3 (Addr.add ad 1) = some (.int .i64 x) ∧ 
    IxA l.a l.n i 2 fun ad1 => (∃ x1 : Int, hcell H3 ad1 = some (.int .i64 x1) ∧ ∀ b H4, Newb H3 (.cells #[.int .i64 x, .int .i64 x1] 45) b H4 → 
    App Try.prog #[35, 35] 35 H4 [.slice m1.a m1.n m1.c, .slice (some ⟨b, 0, none⟩) 1 1] fun ap H5 => 
    (∃ m3, m3 < m2 ∧ I ap (w64 (i + 1)) H5 m3)))) ∧ ((decide (i < (l.n : Int))) = false → CallF Try.prog 23 #[.slice l.a l.n l.c] H3 (fun r1 H6 => 
    ∃ y1 : Sl, r1 = .slice y1.a y1.n y1.c ∧ CallF Try.prog 22 #[.int .i64 n, .slice y1.a y1.n y1.c] H6 (fun r2 H7 => 
    ∃ y2 : Sl, r2 = .slice y2.a y2.n y2.c ∧ CallF Try.prog 23 #[.slice m1.a m1.n m1.c] H7 (fun r3 H8 => 
    ∃ y3 : Sl, r3 = .slice y3.a y3.n y3.c ∧ CallF Try.prog 22 #[.int .i64 n, .slice y3.a y3.n y3.c] H8 (fun r4 H9 => 
    ∃ y4 : Sl, r4 = .slice y4.a y4.n y4.c ∧ ∃ J1 : Hp → Prop, (∀ H10, J1  H10 → ∀ scr2 : Nat → Value, ∃ I1 : Int → 
    Hp → Nat → Prop, (∃ m4, I1 0 H10 m4) ∧ ∀ (i1 : Int), ∀ H11 m5, I1 i1 H11 m5 → ∀ scr3 : Nat → Value, (((decide (i1 < (y2.n : Int))) = true → 
    ∃ I2 : Bool → Int → Hp → Nat → Prop, (∃ m7, I2 false 0 H11 m7) ∧ ∀ (found : Bool) (k : Int), ∀ H12 m8, I2 found k H12 m8 → 
    ∀ scr4 : Nat → Value, (((decide (k < (y4.n : Int))) = true → ((found = true → (∃ m9, m9 < m8 ∧ I2 true (w64 (k + 1)) H12 m9)) ∧ 
    (found = false → (y2.n ≤ y2.c ∧ SlX y2.a y2.c i1 (w64 (i1 + 1)) 1 fun cut => (y4.n ≤ y4.c ∧ SlX y4.a y4.c k (w64 (k + 1)) 1 fun cut1 => 
    (CallF Try.prog 30 #[.slice cut.a cut.n cut.c, .slice cut1.a cut1.n cut1.c] H12 (fun r5 H13 => ∃ y5 : Bool, r5 = .bool y5 ∧ 
    (∃ m9, m9 < m8 ∧ I2 y5 (w64 (k + 1)) H13 m9)) Z)))))) ∧ ((decide (k < (y4.n : Int))) = false → (((!found) = true → 
    K (.bool false) H12) ∧ ((!found) = false → (∃ m6, m6 < m5 ∧ I1 (w64 (i1 + 1)) H12 m6)))))) ∧ ((decide (i1 < (y2.n : Int))) = false → 
    K (.bool true) H11))) ∧ ((((y2.n : Int) != (y4.n : Int)) = true → K (.bool false) H9) ∧ (((y2.n : Int) != (y4.n : Int)) = false → 
    CallF Try.prog 23 #[.slice l.a l.n l.c] H9 (fun r6 H14 => ∃ y6 : Sl, r6 = .slice y6.a y6.n y6.c ∧ 
    CallF Try.prog 32 #[.int .i64 n, .slice y6.a y6.n y6.c] H14 (fun r7 H15 => ∃ y7 : Bool, r7 = .bool y7 ∧ 
    CallF Try.prog 23 #[.slice m1.a m1.n m1.c] H15 (fun r8 H16 => ∃ y8 : Sl, r8 = .slice y8.a y8.n y8.c ∧ 
    CallF Try.prog 32 #[.int .i64 n, .slice y8.a y8.n y8.c] H16 (fun r9 H17 => ∃ y9 : Bool, r9 = .bool y9 ∧ 
    (((!(y7 == y9)) = true → K (.bool false) H17) ∧ ((!(y7 == y9)) = false → (J1  H17)))) Z) Z) Z) Z))) Z) Z) Z) Z))) ∧ 
    CallF Try.prog 21 #[.int .i64 n, .slice l.a l.n l.c] H1 (fun r10 H18 => ∃ y10 : Bool, r10 = .bool y10 ∧ 
    ((y10 = true → K (.bool true) H18) ∧ (y10 = false → (((decide (n > 60)) = true → K (.bool true) H18) ∧ 
    ((decide (n > 60)) = false → (J  H18)))))) Z))) Z
def aJ8 : Ann := (fun k => if k = 5 then some [] else if k = 13 then some [] else none)
def aL8 : Ann := (fun k => if k = 7 then some [(5, (.sc .sl)), (6, (.sc (.int .i64)))] else if k = 14 then some [(9, (.sc (.int .i64)))] else if k = 18 then some [(10, (.sc .bool)), (11, (.sc (.int .i64)))] else none)
theorem V8_ok {H : Hp} {n : Int} {l : Sl} {K : Value → Hp → Prop} {Z : List PanicEntry → Hp → Prop} (h : V8 H n l K Z) : CallF Try.prog 8 #[.int .i64 n, .slice l.a l.n l.c] H K Z :=
  fnC_sound (P := Try.prog) (aJ := aJ8) (aL := aL8) (f := 8) (args := [.int .i64 n, .slice l.a l.n l.c]) (Eq.mp (by kernel_rfl) h)
/-- weft/weftlaw07.TarjanLeads -/
def V10 (H : Hp) (n : Int) (l : Sl) (t2 : Sl) (K : Value → Hp → Prop) (Z : List PanicEntry → Hp → Prop) : Prop :=
  CallF Try.prog 21 #[.int .i64 n, .slice l.a l.n l.c] H (fun r H1 => ∃ y : Bool, r = .bool y ∧ ((y = true → 
    K (.bool true) H1) ∧ (y = false → (((decide ((t2.n : Int) > 60)) = true → K (.bool true) H1) ∧ ((decide ((t2.n : Int) > 60)) = false → 
    CallF Try.prog 23 #[.slice l.a l.n l.c] H1 (fun r1 H2 => ∃ y1 : Sl, r1 = .slice y1.a y1.n y1.c ∧ 
    CallF Try.prog 40 #[.int .i64 n, .slice y1.a y1.n y1.c, .slice t2.a t2.n t2.c] H2 (fun r2 H3 => ∃ y2 : Sl, r2 = .slice y2.a y2.n y2.c ∧ 
    CallF Try.prog 41 #[.int .i64 n, .slice l.a l.n l.c, .slice t2.a t2.n t2.c] H3 (fun r3 H4 => ∃ y3 : Sl, r3 = .slice y3.a y3.n y3.c ∧ 
    CallF Try.prog 39 #[.slice y2.a y2.n y2.c, .slice y3.a y3.n y3.c] H4 (fun r4 H5 => ∃ y4 : Bool, r4 = .bool y4 ∧ 
    ((y4 = true → CallF Try.prog 20 #[] H5 (fun r5 H6 => ∃ y5 : Bool, r5 = .bool y5 ∧ K (.bool y5) H6) Z) ∧ 
    (y4 = false → K (.bool false) H5))) Z) Z) Z) Z))))) Z
def aJ10 : Ann := (fun _ => none)
def aL10 : Ann := (fun _ => none)
theorem V10_ok {H : Hp} {n : Int} {l : Sl} {t2 : Sl} {K : Value → Hp → Prop} {Z : List PanicEntry → Hp → Prop} (h : V10 H n l t2 K Z) : CallF Try.prog 10 #[.int .i64 n, .slice l.a l.n l.c, .slice t2.a t2.n t2.c] H K Z :=
  fnC_sound (P := Try.prog) (aJ := aJ10) (aL := aL10) (f := 10) (args := [.int .i64 n, .slice l.a l.n l.c, .slice t2.a t2.n t2.c]) (Eq.mp (by kernel_rfl) h)
/-- weft/weftlaw07.TarjanMore -/
def V11 (H : Hp) (n : Int) (l : Sl) (m : Sl) (K : Value → Hp → Prop) (Z : List PanicEntry → Hp → Prop) : Prop :=
  CallF Try.prog 20 #[] H (fun r H1 => ∃ y : Bool, r = .bool y ∧ (((!y) = true → K (.bool false) H1) ∧ 
    ((!y) = false → ∃ J : Hp → Prop, (∀ H2, J  H2 → ∀ scr : Nat → Value, ∀ b H3, Newb H2 (.cells #[] 45) b H3 → 
    App Try.prog #[35, 35] 35 H3 [.slice (some ⟨b, 0, none⟩) 0 0, .slice l.a l.n l.c] fun ap H4 => (App Try.prog #[35, 35] 35 H4 [.slice ap.a ap.n ap.c, .slice m.a m.n m.c] fun ap1 H5 => 
    (∃ J1 : Hp → Prop, (∀ H6, J1  H6 → ∀ scr1 : Nat → Value, ∃ I : Int → Hp → Nat → Prop, (∃ m1, I 0 H6 m1) ∧ 
    ∀ (i : Int), ∀ H7 m2, I i H7 m2 → ∀ scr2 : Nat → Value, (((decide (i < n)) = true → CallF Try.prog 23 #[.slice l.a l.n l.c] H7 (fun r1 H8 => 
    ∃ y1 : Sl, r1 = .slice y1.a y1.n y1.c ∧ ∀ b1 H9, Newb H8 (.cells #[.int .i64 i] 3) b1 H9 → CallF Try.prog 40 #[.int .i64 n, .slice y1.a y1.n y1.c, .slice (some ⟨b1, 0, none⟩) 1 1] H9 (fun r2 H10 => 
    ∃ y2 : Sl, r2 = .slice y2.a y2.n y2.c ∧ CallF Try.prog 23 #[.slice ap1.a ap1.n ap1.c] H10 (fun r3 H11 => 
    ∃ y3 : Sl, r3 = .slice y3.a y3.n y3.c ∧ ∀ b2 H12, Newb H11 (.cells #[.int .i64 i] 3) b2 H12 → CallF Try.prog 40 #[.int .i64 n, .slice y3.a y3.n y3.c, .slice (some ⟨b2, 0, none⟩) 1 1] H12 (fun r4 H13 => 
    ∃ y4 : Sl, r4 = .slice y4.a y4.n y4.c ∧ ∃ I1 : Int → Int → Hp → Nat → Prop, (∃ m4, I1 0 0 H13 m4) ∧ 
    ∀ (k : Int) (j : Int), ∀ H14 m5, I1 k j H14 m5 → ∀ scr3 : Nat → Value, (((decide (j < (y4.n : Int))) = true → 
    (((decide (k < (y2.n : Int))) = true → IxA y4.a y4.n j 1 fun ad => (∃ x : Int, hcell H14 ad = some (.int .i64 x) ∧ 
    IxA y2.a y2.n k 1 fun ad1 => (∃ x1 : Int, hcell H14 ad1 = some (.int .i64 x1) ∧ (((x == x1) = true → 
    (∃ m6, m6 < m5 ∧ I1 (w64 (k + 1)) (w64 (j + 1)) H14 m6)) ∧ ((x == x1) = false → (∃ m6, m6 < m5 ∧ 
    I1 k (w64 (j + 1)) H14 m6)))))) ∧ ((decide (k < (y2.n : Int))) = false → (((decide (k < (y2.n : Int))) = true → 
    K (.bool false) H14) ∧ ((decide (k < (y2.n : Int))) = false → (∃ m3, m3 < m2 ∧ I (w64 (i + 1)) H14 m3)))))) ∧ 
    ((decide (j < (y4.n : Int))) = false → (((decide (k < (y2.n : Int))) = true → K (.bool false) H14) ∧ 
    ((decide (k < (y2.n : Int))) = false → (∃ m3, m3 < m2 ∧ I (w64 (i + 1)) H14 m3)))))) Z) Z) Z) Z) ∧ 
    ((decide (i < n)) = false → K (.bool true) H7))) ∧ CallF Try.prog 23 #[.slice ap1.a ap1.n ap1.c] H5 (fun r5 H15 => 
    ∃ y5 : Sl, r5 = .slice y5.a y5.n y5.c ∧ CallF Try.prog 22 #[.int .i64 n, .slice y5.a y5.n y5.c] H15 (fun r6 H16 => 
    ∃ y6 : Sl, r6 = .slice y6.a y6.n y6.c ∧ CallF Try.prog 23 #[.slice l.a l.n l.c] H16 (fun r7 H17 => 
    ∃ y7 : Sl, r7 = .slice y7.a y7.n y7.c ∧ CallF Try.prog 22 #[.int .i64 n, .slice y7.a y7.n y7.c] H17 (fun r8 H18 => 
    ∃ y8 : Sl, r8 = .slice y8.a y8.n y8.c ∧ (((decide ((y6.n : Int) > (y8.n : Int))) = true → K (.bool false) H18) ∧ 
    ((decide ((y6.n : Int) > (y8.n : Int))) = false → CallF Try.prog 23 #[.slice l.a l.n l.c] H18 (fun r9 H19 => 
    ∃ y9 : Sl, r9 = .slice y9.a y9.n y9.c ∧ CallF Try.prog 32 #[.int .i64 n, .slice y9.a y9.n y9.c] H19 (fun r10 H20 => 
    ∃ y10 : Bool, r10 = .bool y10 ∧ ((y10 = true → CallF Try.prog 23 #[.slice ap1.a ap1.n ap1.c] H20 (fun r11 H21 => 
    ∃ y11 : Sl, r11 = .slice y11.a y11.n y11.c ∧ CallF Try.prog 32 #[.int .i64 n, .slice y11.a y11.n y11.c] H21 (fun r12 H22 => 
    ∃ y12 : Bool, r12 = .bool y12 ∧ (((!y12) = true → K (.bool false) H22) ∧ ((!y12) = false → (J1  H22)))) Z) Z) ∧ 
    (y10 = false → (J1  H20)))) Z) Z))) Z) Z) Z) Z))) ∧ CallF Try.prog 21 #[.int .i64 n, .slice l.a l.n l.c] H1 (fun r13 H23 => 
    ∃ y13 : Bool, r13 = .bool y13 ∧ ((y13 = true → K (.bool true) H23) ∧ (y13 = false → (((decide ((m.n : Int) > 50)) = true → 
    K (.bool true) H23) ∧ ((decide ((m.n : Int) > 50)) = false → (((decide (n > 60)) = true → K (.bool true) H23) ∧ 
    ((decide (n > 60)) = false → (J  H23)))))))) Z))) Z
def aJ11 : Ann := (fun k => if k = 5 then some [] else if k = 8 then some [] else none)
def aL11 : Ann := (fun k => if k = 9 then some [(8, (.sc (.int .i64)))] else if k = 15 then some [(11, (.sc (.int .i64))), (12, (.sc (.int .i64)))] else none)
theorem V11_ok {H : Hp} {n : Int} {l : Sl} {m : Sl} {K : Value → Hp → Prop} {Z : List PanicEntry → Hp → Prop} (h : V11 H n l m K Z) : CallF Try.prog 11 #[.int .i64 n, .slice l.a l.n l.c, .slice m.a m.n m.c] H K Z :=
  fnC_sound (P := Try.prog) (aJ := aJ11) (aL := aL11) (f := 11) (args := [.int .i64 n, .slice l.a l.n l.c, .slice m.a m.n m.c]) (Eq.mp (by kernel_rfl) h)
end Go.Proofs.Ytoigfahdgphpdaa.N07

