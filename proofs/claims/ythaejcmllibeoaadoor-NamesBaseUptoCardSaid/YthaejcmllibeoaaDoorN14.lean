/- The conditions of names' functions, and of weftref14's and weftlaw14's (printed by our own program vn.py; the kernel checks each against V5's comp). -/
import Derived.Test.YthaejcmllibeoaaDoorV8
import Derived.Test.YthaejcmllibeoaaDoorProg
set_option linter.unusedVariables false
set_option maxRecDepth 100000
-- right: 60
-- cellRight: 84
-- write: 61
-- text: 31
-- readX: 35
-- number: 87
-- read: 63
-- base: 43
-- of: 36
-- cell: 38
-- object: 41
-- rCount: 85
-- rRight: 62
-- rText: 33
-- rParts: 64
-- rRead: 40
-- rBase: 44
-- rOf: 37
-- rCell: 39
-- rObject: 42
-- own: 32
-- great: 30
-- works: 34
-- lawTexts: 8
-- lawReads: 11
-- lawMade: 10
-- lawOne: 9
-- lawBase: 12
namespace Go.Proofs.YthaejcmllibeoaaDoor.N14
open Go Go.V Go.Proofs
/-- (weft/names.Node).right -/
def V60 (H : Hp) (n_a : Int) (n_b : ByteArray) (n_c : Int) (n_d : ByteArray) (n_e : Int) (n_f : Int) (K : Value → Hp → Prop) (Z : List PanicEntry → Hp → Prop) : Prop :=
  ∀ bN H1, Newb H (.cells #[.int .i64 n_a, .string n_b, .int .i64 n_c, .string n_d, .int .i64 n_e, .int .i64 n_f] 41) bN H1 → 
    ∃ x_a : Int, ∃ x_b : ByteArray, ∃ x_c : Int, ∃ x_d : ByteArray, ∃ x_e : Int, ∃ x_f : Int, (hcell H1 ⟨bN, 0, none⟩ = some (.int .i64 x_a) ∧ 
    hcell H1 ⟨bN, 1, none⟩ = some (.string x_b) ∧ hcell H1 ⟨bN, 2, none⟩ = some (.int .i64 x_c) ∧ hcell H1 ⟨bN, 3, none⟩ = some (.string x_d) ∧ 
    hcell H1 ⟨bN, 4, none⟩ = some (.int .i64 x_e) ∧ hcell H1 ⟨bN, 5, none⟩ = some (.int .i64 x_f) ∧ True) ∧ 
    ∀ bRest H2, Newb H1 (.cells #[.int .i64 0, .string ⟨#[]⟩, .int .i64 0, .string ⟨#[]⟩, .int .i64 0, .int .i64 0] 41) bRest H2 → 
    StL ⟨bRest, 0, none⟩ 0 [.int .i64 x_a, .string x_b, .int .i64 x_c, .string x_d, .int .i64 x_e, .int .i64 x_f] H2 fun H3 => 
    (StL ⟨bRest, 0, none⟩ 0 [.int .i64 0] H3 fun H4 => (StL ⟨bRest, 1, none⟩ 0 [.string ⟨#[]⟩] H4 fun H5 => 
    (StL ⟨bRest, 2, none⟩ 0 [.int .i64 0] H5 fun H6 => (∃ J : Hp → Prop, (∀ H7, J  H7 → ∀ scr : Nat → 
    Value, ∃ x : Int, hcell H7 ⟨bN, 0, none⟩ = some (.int .i64 x) ∧ ∃ J1 : Int → Hp → Prop, (∀ (least : Int), ∀ H8, J1 least H8 → 
    ∀ scr1 : Nat → Value, ∃ x1 : Int, hcell H8 ⟨bN, 4, none⟩ = some (.int .i64 x1) ∧ (((decide (x1 ≥ least)) = true → 
    ∃ x2 : Int, hcell H8 ⟨bN, 4, none⟩ = some (.int .i64 x2) ∧ (((decide (x2 ≤ 268435456)) = true → ∃ x_a1 : Int, ∃ x_b1 : ByteArray, ∃ x_c1 : Int, ∃ x_d1 : ByteArray, ∃ x_e1 : Int, ∃ x_f1 : Int, (hcell H8 ⟨bRest, 0, none⟩ = some (.int .i64 x_a1) ∧ 
    hcell H8 ⟨bRest, 1, none⟩ = some (.string x_b1) ∧ hcell H8 ⟨bRest, 2, none⟩ = some (.int .i64 x_c1) ∧ 
    hcell H8 ⟨bRest, 3, none⟩ = some (.string x_d1) ∧ hcell H8 ⟨bRest, 4, none⟩ = some (.int .i64 x_e1) ∧ 
    hcell H8 ⟨bRest, 5, none⟩ = some (.int .i64 x_f1) ∧ True) ∧ ∃ x3 : Int, hcell H8 ⟨bN, 4, none⟩ = some (.int .i64 x3) ∧ 
    K (.bool (((x_a1 == 0) && ((x_b1 == ⟨#[]⟩) && ((x_c1 == 0) && ((x_d1 == ⟨#[]⟩) && ((x_e1 == x3) && ((x_f1 == (-1)) && true)))))))) H8) ∧ 
    ((decide (x2 ≤ 268435456)) = false → K (.bool false) H8))) ∧ ((decide (x1 ≥ least)) = false → K (.bool false) H8))) ∧ 
    ∃ J2 : Hp → Prop, (∀ H9, J2  H9 → ∀ scr2 : Nat → Value, ∃ x4 : ByteArray, hcell H9 ⟨bN, 3, none⟩ = some (.string x4) ∧ 
    CallF Tryd.prog 25 #[.string x4] H9 (fun r H10 => ∃ y : Bool, r = .bool y ∧ ((y = true → ∃ x_a2 : Int, ∃ x_b2 : ByteArray, ∃ x_c2 : Int, ∃ x_d2 : ByteArray, ∃ x_e2 : Int, ∃ x_f2 : Int, (hcell H10 ⟨bRest, 0, none⟩ = some (.int .i64 x_a2) ∧ 
    hcell H10 ⟨bRest, 1, none⟩ = some (.string x_b2) ∧ hcell H10 ⟨bRest, 2, none⟩ = some (.int .i64 x_c2) ∧ 
    hcell H10 ⟨bRest, 3, none⟩ = some (.string x_d2) ∧ hcell H10 ⟨bRest, 4, none⟩ = some (.int .i64 x_e2) ∧ 
    hcell H10 ⟨bRest, 5, none⟩ = some (.int .i64 x_f2) ∧ True) ∧ ∃ x5 : ByteArray, hcell H10 ⟨bN, 3, none⟩ = some (.string x5) ∧ 
    ∃ x6 : Int, hcell H10 ⟨bN, 5, none⟩ = some (.int .i64 x6) ∧ (((((x_a2 == 0) && ((x_b2 == ⟨#[]⟩) && ((x_c2 == 0) && ((x_d2 == x5) && ((x_e2 == 0) && ((x_f2 == x6) && true))))))) = true → 
    ∃ x_a3 : Int, ∃ x_b3 : ByteArray, ∃ x_c3 : Int, ∃ x_d3 : ByteArray, ∃ x_e3 : Int, ∃ x_f3 : Int, (hcell H10 ⟨bN, 0, none⟩ = some (.int .i64 x_a3) ∧ 
    hcell H10 ⟨bN, 1, none⟩ = some (.string x_b3) ∧ hcell H10 ⟨bN, 2, none⟩ = some (.int .i64 x_c3) ∧ 
    hcell H10 ⟨bN, 3, none⟩ = some (.string x_d3) ∧ hcell H10 ⟨bN, 4, none⟩ = some (.int .i64 x_e3) ∧ 
    hcell H10 ⟨bN, 5, none⟩ = some (.int .i64 x_f3) ∧ True) ∧ CallF Tryd.prog 84 #[.agg #[.int .i64 x_a3, .string x_b3, .int .i64 x_c3, .string x_d3, .int .i64 x_e3, .int .i64 x_f3]] H10 (fun r1 H11 => 
    ∃ y1 : Bool, r1 = .bool y1 ∧ K (.bool y1) H11) Z) ∧ ((((x_a2 == 0) && ((x_b2 == ⟨#[]⟩) && ((x_c2 == 0) && ((x_d2 == x5) && ((x_e2 == 0) && ((x_f2 == x6) && true))))))) = false → 
    K (.bool false) H10))) ∧ (y = false → K (.bool false) H10))) Z) ∧ (((x == 5) = true → ∃ x7 : ByteArray, hcell H7 ⟨bN, 1, none⟩ = some (.string x7) ∧ 
    (((!(beqS x7 ⟨#[]⟩)) = true → K (.bool false) H7) ∧ ((!(beqS x7 ⟨#[]⟩)) = false → ∃ x8 : Int, hcell H7 ⟨bN, 2, none⟩ = some (.int .i64 x8) ∧ 
    (((x8 != 0) = true → K (.bool false) H7) ∧ ((x8 != 0) = false → (J2  H7)))))) ∧ ((x == 5) = false → 
    (((x == 6) = true → (J2  H7)) ∧ ((x == 6) = false → (((x == 1) = true → ∃ x9 : ByteArray, hcell H7 ⟨bN, 3, none⟩ = some (.string x9) ∧ 
    CallF Tryd.prog 25 #[.string x9] H7 (fun r2 H12 => ∃ y2 : Bool, r2 = .bool y2 ∧ ((y2 = true → ∃ x_a4 : Int, ∃ x_b4 : ByteArray, ∃ x_c4 : Int, ∃ x_d4 : ByteArray, ∃ x_e4 : Int, ∃ x_f4 : Int, (hcell H12 ⟨bRest, 0, none⟩ = some (.int .i64 x_a4) ∧ 
    hcell H12 ⟨bRest, 1, none⟩ = some (.string x_b4) ∧ hcell H12 ⟨bRest, 2, none⟩ = some (.int .i64 x_c4) ∧ 
    hcell H12 ⟨bRest, 3, none⟩ = some (.string x_d4) ∧ hcell H12 ⟨bRest, 4, none⟩ = some (.int .i64 x_e4) ∧ 
    hcell H12 ⟨bRest, 5, none⟩ = some (.int .i64 x_f4) ∧ True) ∧ ∃ x10 : ByteArray, hcell H12 ⟨bN, 3, none⟩ = some (.string x10) ∧ 
    K (.bool (((x_a4 == 0) && ((x_b4 == ⟨#[]⟩) && ((x_c4 == 0) && ((x_d4 == x10) && ((x_e4 == 0) && ((x_f4 == (-1)) && true)))))))) H12) ∧ 
    (y2 = false → K (.bool false) H12))) Z) ∧ ((x == 1) = false → (((x == 7) = true → ∃ x11 : Int, hcell H7 ⟨bN, 4, none⟩ = some (.int .i64 x11) ∧ 
    (((decide (x11 ≥ 1)) = true → ∃ x12 : Int, hcell H7 ⟨bN, 4, none⟩ = some (.int .i64 x12) ∧ (((decide (x12 ≤ 268435456)) = true → 
    ∃ x_a5 : Int, ∃ x_b5 : ByteArray, ∃ x_c5 : Int, ∃ x_d5 : ByteArray, ∃ x_e5 : Int, ∃ x_f5 : Int, (hcell H7 ⟨bRest, 0, none⟩ = some (.int .i64 x_a5) ∧ 
    hcell H7 ⟨bRest, 1, none⟩ = some (.string x_b5) ∧ hcell H7 ⟨bRest, 2, none⟩ = some (.int .i64 x_c5) ∧ 
    hcell H7 ⟨bRest, 3, none⟩ = some (.string x_d5) ∧ hcell H7 ⟨bRest, 4, none⟩ = some (.int .i64 x_e5) ∧ 
    hcell H7 ⟨bRest, 5, none⟩ = some (.int .i64 x_f5) ∧ True) ∧ ∃ x13 : Int, hcell H7 ⟨bN, 4, none⟩ = some (.int .i64 x13) ∧ 
    ∃ x14 : Int, hcell H7 ⟨bN, 5, none⟩ = some (.int .i64 x14) ∧ (((((x_a5 == 0) && ((x_b5 == ⟨#[]⟩) && ((x_c5 == 0) && ((x_d5 == ⟨#[]⟩) && ((x_e5 == x13) && ((x_f5 == x14) && true))))))) = true → 
    ∃ x_a6 : Int, ∃ x_b6 : ByteArray, ∃ x_c6 : Int, ∃ x_d6 : ByteArray, ∃ x_e6 : Int, ∃ x_f6 : Int, (hcell H7 ⟨bN, 0, none⟩ = some (.int .i64 x_a6) ∧ 
    hcell H7 ⟨bN, 1, none⟩ = some (.string x_b6) ∧ hcell H7 ⟨bN, 2, none⟩ = some (.int .i64 x_c6) ∧ hcell H7 ⟨bN, 3, none⟩ = some (.string x_d6) ∧ 
    hcell H7 ⟨bN, 4, none⟩ = some (.int .i64 x_e6) ∧ hcell H7 ⟨bN, 5, none⟩ = some (.int .i64 x_f6) ∧ 
    True) ∧ CallF Tryd.prog 84 #[.agg #[.int .i64 x_a6, .string x_b6, .int .i64 x_c6, .string x_d6, .int .i64 x_e6, .int .i64 x_f6]] H7 (fun r3 H13 => 
    ∃ y3 : Bool, r3 = .bool y3 ∧ K (.bool y3) H13) Z) ∧ ((((x_a5 == 0) && ((x_b5 == ⟨#[]⟩) && ((x_c5 == 0) && ((x_d5 == ⟨#[]⟩) && ((x_e5 == x13) && ((x_f5 == x14) && true))))))) = false → 
    K (.bool false) H7))) ∧ ((decide (x12 ≤ 268435456)) = false → K (.bool false) H7))) ∧ ((decide (x11 ≥ 1)) = false → 
    K (.bool false) H7))) ∧ ((x == 7) = false → (((x == 4) = true → ∃ x_a7 : Int, ∃ x_b7 : ByteArray, ∃ x_c7 : Int, ∃ x_d7 : ByteArray, ∃ x_e7 : Int, ∃ x_f7 : Int, (hcell H7 ⟨bRest, 0, none⟩ = some (.int .i64 x_a7) ∧ 
    hcell H7 ⟨bRest, 1, none⟩ = some (.string x_b7) ∧ hcell H7 ⟨bRest, 2, none⟩ = some (.int .i64 x_c7) ∧ 
    hcell H7 ⟨bRest, 3, none⟩ = some (.string x_d7) ∧ hcell H7 ⟨bRest, 4, none⟩ = some (.int .i64 x_e7) ∧ 
    hcell H7 ⟨bRest, 5, none⟩ = some (.int .i64 x_f7) ∧ True) ∧ K (.bool (((x_a7 == 0) && ((x_b7 == ⟨#[]⟩) && ((x_c7 == 0) && ((x_d7 == ⟨#[]⟩) && ((x_e7 == 0) && ((x_f7 == (-1)) && true)))))))) H7) ∧ 
    ((x == 4) = false → (((x == 3) = true → (J1 1 H7)) ∧ ((x == 3) = false → (((x == 2) = true → (J1 0 H7)) ∧ 
    ((x == 2) = false → K (.bool false) H7))))))))))))))) ∧ ∃ x15 : Int, hcell H6 ⟨bN, 0, none⟩ = some (.int .i64 x15) ∧ 
    (((x15 != 5) = true → ∃ x16 : ByteArray, hcell H6 ⟨bN, 1, none⟩ = some (.string x16) ∧ CallF Tryd.prog 25 #[.string x16] H6 (fun r4 H14 => 
    ∃ y4 : Bool, r4 = .bool y4 ∧ (((!y4) = true → K (.bool false) H14) ∧ ((!y4) = false → ∃ x17 : Int, hcell H14 ⟨bN, 2, none⟩ = some (.int .i64 x17) ∧ 
    (((decide (x17 < 0)) = true → K (.bool false) H14) ∧ ((decide (x17 < 0)) = false → ∃ x18 : Int, hcell H14 ⟨bN, 2, none⟩ = some (.int .i64 x18) ∧ 
    (((decide (x18 > 268435456)) = true → K (.bool false) H14) ∧ ((decide (x18 > 268435456)) = false → 
    (J  H14)))))))) Z) ∧ ((x15 != 5) = false → (J  H6)))))))
def aJ60 : Ann := (fun k => if k = 5 then some [] else if k = 16 then some [] else if k = 21 then some [(4, (.sc (.int .i64)))] else none)
def aL60 : Ann := (fun _ => none)
theorem V60_ok {H : Hp} {n_a : Int} {n_b : ByteArray} {n_c : Int} {n_d : ByteArray} {n_e : Int} {n_f : Int} {K : Value → Hp → Prop} {Z : List PanicEntry → Hp → Prop} (h : V60 H n_a n_b n_c n_d n_e n_f K Z) : CallF Tryd.prog 60 #[.agg #[.int .i64 n_a, .string n_b, .int .i64 n_c, .string n_d, .int .i64 n_e, .int .i64 n_f]] H K Z :=
  fnC_sound (P := Tryd.prog) (aJ := aJ60) (aL := aL60) (f := 60) (args := [.agg #[.int .i64 n_a, .string n_b, .int .i64 n_c, .string n_d, .int .i64 n_e, .int .i64 n_f]]) (Eq.mp (by kernel_rfl) h)
/-- (weft/names.Node).cellRight -/
def V84 (H : Hp) (n_a : Int) (n_b : ByteArray) (n_c : Int) (n_d : ByteArray) (n_e : Int) (n_f : Int) (K : Value → Hp → Prop) (Z : List PanicEntry → Hp → Prop) : Prop :=
  ∀ bN H1, Newb H (.cells #[.int .i64 n_a, .string n_b, .int .i64 n_c, .string n_d, .int .i64 n_e, .int .i64 n_f] 41) bN H1 → 
    ∃ x : Int, hcell H1 ⟨bN, 5, none⟩ = some (.int .i64 x) ∧ (((decide (x ≥ (-1))) = true → ∃ x1 : Int, hcell H1 ⟨bN, 5, none⟩ = some (.int .i64 x1) ∧ 
    K (.bool (decide (x1 ≤ 268435456))) H1) ∧ ((decide (x ≥ (-1))) = false → K (.bool false) H1))
def aJ84 : Ann := (fun _ => none)
def aL84 : Ann := (fun _ => none)
theorem V84_ok {H : Hp} {n_a : Int} {n_b : ByteArray} {n_c : Int} {n_d : ByteArray} {n_e : Int} {n_f : Int} {K : Value → Hp → Prop} {Z : List PanicEntry → Hp → Prop} (h : V84 H n_a n_b n_c n_d n_e n_f K Z) : CallF Tryd.prog 84 #[.agg #[.int .i64 n_a, .string n_b, .int .i64 n_c, .string n_d, .int .i64 n_e, .int .i64 n_f]] H K Z :=
  fnC_sound (P := Tryd.prog) (aJ := aJ84) (aL := aL84) (f := 84) (args := [.agg #[.int .i64 n_a, .string n_b, .int .i64 n_c, .string n_d, .int .i64 n_e, .int .i64 n_f]]) (Eq.mp (by kernel_rfl) h)
/-- (weft/names.Node).write -/
def V61 (H : Hp) (n_a : Int) (n_b : ByteArray) (n_c : Int) (n_d : ByteArray) (n_e : Int) (n_f : Int) (K : Value → Hp → Prop) (Z : List PanicEntry → Hp → Prop) : Prop :=
  ∀ bN H1, Newb H (.cells #[.int .i64 n_a, .string n_b, .int .i64 n_c, .string n_d, .int .i64 n_e, .int .i64 n_f] 41) bN H1 → 
    ∀ bB H2, Newb H1 (.cells #[.pointer none, .slice none 0 0] 94) bB H2 → ∃ x : ByteArray, hcell H2 ⟨bN, 1, none⟩ = some (.string x) ∧ 
    CallF Tryd.prog 71 #[.pointer (some ⟨bB, 0, none⟩), .string x] H2 (fun r H3 => ∃ y_0 : Int, ∃ y_1 : Value, r = .tuple #[.int .i64 y_0, y_1] ∧ 
    ∃ J : Hp → Prop, (∀ H4, J  H4 → ∀ scr : Nat → Value, ∃ J1 : Hp → Prop, (∀ H5, J1  H5 → ∀ scr1 : Nat → 
    Value, ∃ J2 : Hp → Prop, (∀ H6, J2  H6 → ∀ scr2 : Nat → Value, ∃ x1 : Int, hcell H6 ⟨bN, 5, none⟩ = some (.int .i64 x1) ∧ 
    (((x1 != (-1)) = true → ∃ x2 : Int, hcell H6 ⟨bN, 5, none⟩ = some (.int .i64 x2) ∧ CallF Tryd.prog 16 #[.int .i64 x2] H6 (fun r1 H7 => 
    ∃ y : ByteArray, r1 = .string y ∧ ((⟨#[43]⟩ : ByteArray).size + y.size ≤ 4611686018427387904 ∧ CallF Tryd.prog 71 #[.pointer (some ⟨bB, 0, none⟩), .string ((⟨#[43]⟩ : ByteArray) ++ y)] H7 (fun r2 H8 => 
    ∃ y_01 : Int, ∃ y_11 : Value, r2 = .tuple #[.int .i64 y_01, y_11] ∧ CallF Tryd.prog 72 #[.pointer (some ⟨bB, 0, none⟩)] H8 (fun r3 H9 => 
    ∃ y1 : ByteArray, r3 = .string y1 ∧ K (.string y1) H9) Z) Z)) Z) ∧ ((x1 != (-1)) = false → CallF Tryd.prog 72 #[.pointer (some ⟨bB, 0, none⟩)] H6 (fun r4 H10 => 
    ∃ y2 : ByteArray, r4 = .string y2 ∧ K (.string y2) H10) Z))) ∧ ∃ x3 : Int, hcell H5 ⟨bN, 0, none⟩ = some (.int .i64 x3) ∧ 
    ∃ J3 : Bool → Hp → Prop, (∀ (t28 : Bool), ∀ H11, J3 t28 H11 → ∀ scr3 : Nat → Value, ((t28 = true → 
    ∃ x4 : ByteArray, hcell H11 ⟨bN, 3, none⟩ = some (.string x4) ∧ CallF Tryd.prog 71 #[.pointer (some ⟨bB, 0, none⟩), .string x4] H11 (fun r5 H12 => 
    ∃ y_02 : Int, ∃ y_12 : Value, r5 = .tuple #[.int .i64 y_02, y_12] ∧ (J2  H12)) Z) ∧ (t28 = false → 
    (((x3 == 4) = true → CallF Tryd.prog 70 #[.pointer (some ⟨bB, 0, none⟩), .int .u8 41] H11 (fun r6 H13 => 
    ∃ y3 : Value, r6 = y3 ∧ (J2  H13)) Z) ∧ ((x3 == 4) = false → ∃ x5 : Int, hcell H11 ⟨bN, 4, none⟩ = some (.int .i64 x5) ∧ 
    CallF Tryd.prog 16 #[.int .i64 x5] H11 (fun r7 H14 => ∃ y4 : ByteArray, r7 = .string y4 ∧ CallF Tryd.prog 71 #[.pointer (some ⟨bB, 0, none⟩), .string y4] H14 (fun r8 H15 => 
    ∃ y_03 : Int, ∃ y_13 : Value, r8 = .tuple #[.int .i64 y_03, y_13] ∧ (J2  H15)) Z) Z))))) ∧ (((x3 == 1) = true → 
    (J3 (x3 == 1) H5)) ∧ ((x3 == 1) = false → (((x3 == 5) = true → (J3 (x3 == 5) H5)) ∧ ((x3 == 5) = false → 
    (J3 (x3 == 6) H5)))))) ∧ ∃ x6 : Int, hcell H4 ⟨bN, 0, none⟩ = some (.int .i64 x6) ∧ (((x6 != 5) = true → 
    ∃ x7 : Int, hcell H4 ⟨bN, 0, none⟩ = some (.int .i64 x7) ∧ IxS ⟨#[32, 46, 36, 64, 40, 32, 37, 35]⟩ x7 fun c => 
    (CallF Tryd.prog 70 #[.pointer (some ⟨bB, 0, none⟩), .int .u8 c] H4 (fun r9 H16 => ∃ y5 : Value, r9 = y5 ∧ 
    (J1  H16)) Z)) ∧ ((x6 != 5) = false → (J1  H4)))) ∧ ∃ x8 : Int, hcell H3 ⟨bN, 2, none⟩ = some (.int .i64 x8) ∧ 
    (((decide (x8 > 0)) = true → ∃ x9 : Int, hcell H3 ⟨bN, 2, none⟩ = some (.int .i64 x9) ∧ CallF Tryd.prog 16 #[.int .i64 x9] H3 (fun r10 H17 => 
    ∃ y6 : ByteArray, r10 = .string y6 ∧ ((⟨#[126]⟩ : ByteArray).size + y6.size ≤ 4611686018427387904 ∧ 
    CallF Tryd.prog 71 #[.pointer (some ⟨bB, 0, none⟩), .string ((⟨#[126]⟩ : ByteArray) ++ y6)] H17 (fun r11 H18 => 
    ∃ y_04 : Int, ∃ y_14 : Value, r11 = .tuple #[.int .i64 y_04, y_14] ∧ (J  H18)) Z)) Z) ∧ ((decide (x8 > 0)) = false → 
    (J  H3)))) Z
def aJ61 : Ann := (fun k => if k = 5 then some [] else if k = 7 then some [] else if k = 12 then some [(28, (.sc .bool))] else if k = 15 then some [] else none)
def aL61 : Ann := (fun _ => none)
theorem V61_ok {H : Hp} {n_a : Int} {n_b : ByteArray} {n_c : Int} {n_d : ByteArray} {n_e : Int} {n_f : Int} {K : Value → Hp → Prop} {Z : List PanicEntry → Hp → Prop} (h : V61 H n_a n_b n_c n_d n_e n_f K Z) : CallF Tryd.prog 61 #[.agg #[.int .i64 n_a, .string n_b, .int .i64 n_c, .string n_d, .int .i64 n_e, .int .i64 n_f]] H K Z :=
  fnC_sound (P := Tryd.prog) (aJ := aJ61) (aL := aL61) (f := 61) (args := [.agg #[.int .i64 n_a, .string n_b, .int .i64 n_c, .string n_d, .int .i64 n_e, .int .i64 n_f]]) (Eq.mp (by kernel_rfl) h)
/-- weft/names.Text -/
def V31 (H : Hp) (n_a : Int) (n_b : ByteArray) (n_c : Int) (n_d : ByteArray) (n_e : Int) (n_f : Int) (K : Value → Hp → Prop) (Z : List PanicEntry → Hp → Prop) : Prop :=
  ∀ bN H1, Newb H (.cells #[.int .i64 n_a, .string n_b, .int .i64 n_c, .string n_d, .int .i64 n_e, .int .i64 n_f] 41) bN H1 → 
    ∃ x_a : Int, ∃ x_b : ByteArray, ∃ x_c : Int, ∃ x_d : ByteArray, ∃ x_e : Int, ∃ x_f : Int, (hcell H1 ⟨bN, 0, none⟩ = some (.int .i64 x_a) ∧ 
    hcell H1 ⟨bN, 1, none⟩ = some (.string x_b) ∧ hcell H1 ⟨bN, 2, none⟩ = some (.int .i64 x_c) ∧ hcell H1 ⟨bN, 3, none⟩ = some (.string x_d) ∧ 
    hcell H1 ⟨bN, 4, none⟩ = some (.int .i64 x_e) ∧ hcell H1 ⟨bN, 5, none⟩ = some (.int .i64 x_f) ∧ True) ∧ 
    CallF Tryd.prog 60 #[.agg #[.int .i64 x_a, .string x_b, .int .i64 x_c, .string x_d, .int .i64 x_e, .int .i64 x_f]] H1 (fun r H2 => 
    ∃ y : Bool, r = .bool y ∧ (((!y) = true → K (.tuple #[.string ⟨#[]⟩, .int .i64 11]) H2) ∧ ((!y) = false → 
    ∃ x_a1 : Int, ∃ x_b1 : ByteArray, ∃ x_c1 : Int, ∃ x_d1 : ByteArray, ∃ x_e1 : Int, ∃ x_f1 : Int, (hcell H2 ⟨bN, 0, none⟩ = some (.int .i64 x_a1) ∧ 
    hcell H2 ⟨bN, 1, none⟩ = some (.string x_b1) ∧ hcell H2 ⟨bN, 2, none⟩ = some (.int .i64 x_c1) ∧ hcell H2 ⟨bN, 3, none⟩ = some (.string x_d1) ∧ 
    hcell H2 ⟨bN, 4, none⟩ = some (.int .i64 x_e1) ∧ hcell H2 ⟨bN, 5, none⟩ = some (.int .i64 x_f1) ∧ 
    True) ∧ CallF Tryd.prog 61 #[.agg #[.int .i64 x_a1, .string x_b1, .int .i64 x_c1, .string x_d1, .int .i64 x_e1, .int .i64 x_f1]] H2 (fun r1 H3 => 
    ∃ y1 : ByteArray, r1 = .string y1 ∧ K (.tuple #[.string y1, .int .i64 0]) H3) Z))) Z
def aJ31 : Ann := (fun _ => none)
def aL31 : Ann := (fun _ => none)
theorem V31_ok {H : Hp} {n_a : Int} {n_b : ByteArray} {n_c : Int} {n_d : ByteArray} {n_e : Int} {n_f : Int} {K : Value → Hp → Prop} {Z : List PanicEntry → Hp → Prop} (h : V31 H n_a n_b n_c n_d n_e n_f K Z) : CallF Tryd.prog 31 #[.agg #[.int .i64 n_a, .string n_b, .int .i64 n_c, .string n_d, .int .i64 n_e, .int .i64 n_f]] H K Z :=
  fnC_sound (P := Tryd.prog) (aJ := aJ31) (aL := aL31) (f := 31) (args := [.agg #[.int .i64 n_a, .string n_b, .int .i64 n_c, .string n_d, .int .i64 n_e, .int .i64 n_f]]) (Eq.mp (by kernel_rfl) h)
/-- weft/names.Read -/
def V35 (H : Hp) (s : ByteArray) (K : Value → Hp → Prop) (Z : List PanicEntry → Hp → Prop) : Prop :=
  ∀ b H1, Newb H (.cells #[.int .i64 0, .string ⟨#[]⟩, .int .i64 0, .string ⟨#[]⟩, .int .i64 0, .int .i64 0] 41) b H1 → 
    CallF Tryd.prog 63 #[.string s] H1 (fun r H2 => ∃ y_0_a : Int, ∃ y_0_b : ByteArray, ∃ y_0_c : Int, ∃ y_0_d : ByteArray, ∃ y_0_e : Int, ∃ y_0_f : Int, ∃ y_1 : Bool, r = .tuple #[.agg #[.int .i64 y_0_a, .string y_0_b, .int .i64 y_0_c, .string y_0_d, .int .i64 y_0_e, .int .i64 y_0_f], .bool y_1] ∧ 
    ∀ bN H3, Newb H2 (.cells #[.int .i64 0, .string ⟨#[]⟩, .int .i64 0, .string ⟨#[]⟩, .int .i64 0, .int .i64 0] 41) bN H3 → 
    StL ⟨bN, 0, none⟩ 0 [.int .i64 y_0_a, .string y_0_b, .int .i64 y_0_c, .string y_0_d, .int .i64 y_0_e, .int .i64 y_0_f] H3 fun H4 => 
    (((!y_1) = true → StL ⟨b, 0, none⟩ 0 [.int .i64 0, .string ⟨#[]⟩, .int .i64 0, .string ⟨#[]⟩, .int .i64 0, .int .i64 0] H4 fun H5 => 
    (∃ res_a : Int, ∃ res_b : ByteArray, ∃ res_c : Int, ∃ res_d : ByteArray, ∃ res_e : Int, ∃ res_f : Int, (hcell H5 ⟨b, 0, none⟩ = some (.int .i64 res_a) ∧ 
    hcell H5 ⟨b, 1, none⟩ = some (.string res_b) ∧ hcell H5 ⟨b, 2, none⟩ = some (.int .i64 res_c) ∧ hcell H5 ⟨b, 3, none⟩ = some (.string res_d) ∧ 
    hcell H5 ⟨b, 4, none⟩ = some (.int .i64 res_e) ∧ hcell H5 ⟨b, 5, none⟩ = some (.int .i64 res_f) ∧ 
    True) ∧ K (.tuple #[.agg #[.int .i64 res_a, .string res_b, .int .i64 res_c, .string res_d, .int .i64 res_e, .int .i64 res_f], .int .i64 11]) H5)) ∧ 
    ((!y_1) = false → ∃ x_a : Int, ∃ x_b : ByteArray, ∃ x_c : Int, ∃ x_d : ByteArray, ∃ x_e : Int, ∃ x_f : Int, (hcell H4 ⟨bN, 0, none⟩ = some (.int .i64 x_a) ∧ 
    hcell H4 ⟨bN, 1, none⟩ = some (.string x_b) ∧ hcell H4 ⟨bN, 2, none⟩ = some (.int .i64 x_c) ∧ hcell H4 ⟨bN, 3, none⟩ = some (.string x_d) ∧ 
    hcell H4 ⟨bN, 4, none⟩ = some (.int .i64 x_e) ∧ hcell H4 ⟨bN, 5, none⟩ = some (.int .i64 x_f) ∧ True) ∧ 
    CallF Tryd.prog 60 #[.agg #[.int .i64 x_a, .string x_b, .int .i64 x_c, .string x_d, .int .i64 x_e, .int .i64 x_f]] H4 (fun r1 H6 => 
    ∃ y : Bool, r1 = .bool y ∧ (((!y) = true → StL ⟨b, 0, none⟩ 0 [.int .i64 0, .string ⟨#[]⟩, .int .i64 0, .string ⟨#[]⟩, .int .i64 0, .int .i64 0] H6 fun H7 => 
    (∃ res_a1 : Int, ∃ res_b1 : ByteArray, ∃ res_c1 : Int, ∃ res_d1 : ByteArray, ∃ res_e1 : Int, ∃ res_f1 : Int, (hcell H7 ⟨b, 0, none⟩ = some (.int .i64 res_a1) ∧ 
    hcell H7 ⟨b, 1, none⟩ = some (.string res_b1) ∧ hcell H7 ⟨b, 2, none⟩ = some (.int .i64 res_c1) ∧ 
    hcell H7 ⟨b, 3, none⟩ = some (.string res_d1) ∧ hcell H7 ⟨b, 4, none⟩ = some (.int .i64 res_e1) ∧ 
    hcell H7 ⟨b, 5, none⟩ = some (.int .i64 res_f1) ∧ True) ∧ K (.tuple #[.agg #[.int .i64 res_a1, .string res_b1, .int .i64 res_c1, .string res_d1, .int .i64 res_e1, .int .i64 res_f1], .int .i64 11]) H7)) ∧ 
    ((!y) = false → ∃ x_a1 : Int, ∃ x_b1 : ByteArray, ∃ x_c1 : Int, ∃ x_d1 : ByteArray, ∃ x_e1 : Int, ∃ x_f1 : Int, (hcell H6 ⟨bN, 0, none⟩ = some (.int .i64 x_a1) ∧ 
    hcell H6 ⟨bN, 1, none⟩ = some (.string x_b1) ∧ hcell H6 ⟨bN, 2, none⟩ = some (.int .i64 x_c1) ∧ hcell H6 ⟨bN, 3, none⟩ = some (.string x_d1) ∧ 
    hcell H6 ⟨bN, 4, none⟩ = some (.int .i64 x_e1) ∧ hcell H6 ⟨bN, 5, none⟩ = some (.int .i64 x_f1) ∧ 
    True) ∧ CallF Tryd.prog 61 #[.agg #[.int .i64 x_a1, .string x_b1, .int .i64 x_c1, .string x_d1, .int .i64 x_e1, .int .i64 x_f1]] H6 (fun r2 H8 => 
    ∃ y1 : ByteArray, r2 = .string y1 ∧ (((!(beqS y1 s)) = true → StL ⟨b, 0, none⟩ 0 [.int .i64 0, .string ⟨#[]⟩, .int .i64 0, .string ⟨#[]⟩, .int .i64 0, .int .i64 0] H8 fun H9 => 
    (∃ res_a2 : Int, ∃ res_b2 : ByteArray, ∃ res_c2 : Int, ∃ res_d2 : ByteArray, ∃ res_e2 : Int, ∃ res_f2 : Int, (hcell H9 ⟨b, 0, none⟩ = some (.int .i64 res_a2) ∧ 
    hcell H9 ⟨b, 1, none⟩ = some (.string res_b2) ∧ hcell H9 ⟨b, 2, none⟩ = some (.int .i64 res_c2) ∧ 
    hcell H9 ⟨b, 3, none⟩ = some (.string res_d2) ∧ hcell H9 ⟨b, 4, none⟩ = some (.int .i64 res_e2) ∧ 
    hcell H9 ⟨b, 5, none⟩ = some (.int .i64 res_f2) ∧ True) ∧ K (.tuple #[.agg #[.int .i64 res_a2, .string res_b2, .int .i64 res_c2, .string res_d2, .int .i64 res_e2, .int .i64 res_f2], .int .i64 11]) H9)) ∧ 
    ((!(beqS y1 s)) = false → ∃ x_a2 : Int, ∃ x_b2 : ByteArray, ∃ x_c2 : Int, ∃ x_d2 : ByteArray, ∃ x_e2 : Int, ∃ x_f2 : Int, (hcell H8 ⟨bN, 0, none⟩ = some (.int .i64 x_a2) ∧ 
    hcell H8 ⟨bN, 1, none⟩ = some (.string x_b2) ∧ hcell H8 ⟨bN, 2, none⟩ = some (.int .i64 x_c2) ∧ hcell H8 ⟨bN, 3, none⟩ = some (.string x_d2) ∧ 
    hcell H8 ⟨bN, 4, none⟩ = some (.int .i64 x_e2) ∧ hcell H8 ⟨bN, 5, none⟩ = some (.int .i64 x_f2) ∧ 
    True) ∧ StL ⟨b, 0, none⟩ 0 [.int .i64 x_a2, .string x_b2, .int .i64 x_c2, .string x_d2, .int .i64 x_e2, .int .i64 x_f2] H8 fun H10 => 
    (∃ res_a3 : Int, ∃ res_b3 : ByteArray, ∃ res_c3 : Int, ∃ res_d3 : ByteArray, ∃ res_e3 : Int, ∃ res_f3 : Int, (hcell H10 ⟨b, 0, none⟩ = some (.int .i64 res_a3) ∧ 
    hcell H10 ⟨b, 1, none⟩ = some (.string res_b3) ∧ hcell H10 ⟨b, 2, none⟩ = some (.int .i64 res_c3) ∧ 
    hcell H10 ⟨b, 3, none⟩ = some (.string res_d3) ∧ hcell H10 ⟨b, 4, none⟩ = some (.int .i64 res_e3) ∧ 
    hcell H10 ⟨b, 5, none⟩ = some (.int .i64 res_f3) ∧ True) ∧ K (.tuple #[.agg #[.int .i64 res_a3, .string res_b3, .int .i64 res_c3, .string res_d3, .int .i64 res_e3, .int .i64 res_f3], .int .i64 0]) H10)))) Z))) Z))) Z
def aJ35 : Ann := (fun _ => none)
def aL35 : Ann := (fun _ => none)
theorem V35_ok {H : Hp} {s : ByteArray} {K : Value → Hp → Prop} {Z : List PanicEntry → Hp → Prop} (h : V35 H s K Z) : CallF Tryd.prog 35 #[.string s] H K Z :=
  fnC_sound (P := Tryd.prog) (aJ := aJ35) (aL := aL35) (f := 35) (args := [.string s]) (Eq.mp (by kernel_rfl) h)
/-- weft/names.number -/
def V87 (H : Hp) (s : ByteArray) (K : Value → Hp → Prop) (Z : List PanicEntry → Hp → Prop) : Prop :=
  CallF Tryd.prog 27 #[.string s] H (fun r H1 => ∃ y_0 : Int, ∃ y_1 : Int, r = .tuple #[.int .i64 y_0, .int .i64 y_1] ∧ 
    K (.tuple #[.int .i64 y_0, .bool (y_1 == 0)]) H1) Z
def aJ87 : Ann := (fun _ => none)
def aL87 : Ann := (fun _ => none)
theorem V87_ok {H : Hp} {s : ByteArray} {K : Value → Hp → Prop} {Z : List PanicEntry → Hp → Prop} (h : V87 H s K Z) : CallF Tryd.prog 87 #[.string s] H K Z :=
  fnC_sound (P := Tryd.prog) (aJ := aJ87) (aL := aL87) (f := 87) (args := [.string s]) (Eq.mp (by kernel_rfl) h)
/-- weft/names.read -/
def V63 (H : Hp) (s : ByteArray) (K : Value → Hp → Prop) (Z : List PanicEntry → Hp → Prop) : Prop :=
  ∀ b H1, Newb H (.cells #[.int .i64 0, .string ⟨#[]⟩, .int .i64 0, .string ⟨#[]⟩, .int .i64 0, .int .i64 0] 41) b H1 → 
    ∀ bN H2, Newb H1 (.cells #[.int .i64 0, .string ⟨#[]⟩, .int .i64 0, .string ⟨#[]⟩, .int .i64 0, .int .i64 0] 41) bN H2 → 
    StL ⟨bN, 0, none⟩ 0 [.int .i64 0, .string ⟨#[]⟩, .int .i64 0, .string ⟨#[]⟩, .int .i64 0, .int .i64 (-1)] H2 fun H3 => 
    (∃ J : ByteArray → Bool → Hp → Prop, (∀ (s1 : ByteArray) (ok : Bool), ∀ H4, J s1 ok H4 → ∀ scr : Nat → 
    Value, CallF Tryd.prog 23 #[.string s1] H4 (fun r H5 => ∃ y_0 : ByteArray, ∃ y_1 : ByteArray, r = .tuple #[.string y_0, .string y_1] ∧ 
    (((beqS y_1 ⟨#[]⟩) = true → StL ⟨bN, 0, none⟩ 0 [.int .i64 5] H5 fun H6 => (StL ⟨bN, 3, none⟩ 0 [.string y_0] H6 fun H7 => 
    (∃ x_a : Int, ∃ x_b : ByteArray, ∃ x_c : Int, ∃ x_d : ByteArray, ∃ x_e : Int, ∃ x_f : Int, (hcell H7 ⟨bN, 0, none⟩ = some (.int .i64 x_a) ∧ 
    hcell H7 ⟨bN, 1, none⟩ = some (.string x_b) ∧ hcell H7 ⟨bN, 2, none⟩ = some (.int .i64 x_c) ∧ hcell H7 ⟨bN, 3, none⟩ = some (.string x_d) ∧ 
    hcell H7 ⟨bN, 4, none⟩ = some (.int .i64 x_e) ∧ hcell H7 ⟨bN, 5, none⟩ = some (.int .i64 x_f) ∧ True) ∧ 
    StL ⟨b, 0, none⟩ 0 [.int .i64 x_a, .string x_b, .int .i64 x_c, .string x_d, .int .i64 x_e, .int .i64 x_f] H7 fun H8 => 
    (∃ res_a : Int, ∃ res_b : ByteArray, ∃ res_c : Int, ∃ res_d : ByteArray, ∃ res_e : Int, ∃ res_f : Int, (hcell H8 ⟨b, 0, none⟩ = some (.int .i64 res_a) ∧ 
    hcell H8 ⟨b, 1, none⟩ = some (.string res_b) ∧ hcell H8 ⟨b, 2, none⟩ = some (.int .i64 res_c) ∧ hcell H8 ⟨b, 3, none⟩ = some (.string res_d) ∧ 
    hcell H8 ⟨b, 4, none⟩ = some (.int .i64 res_e) ∧ hcell H8 ⟨b, 5, none⟩ = some (.int .i64 res_f) ∧ 
    True) ∧ K (.tuple #[.agg #[.int .i64 res_a, .string res_b, .int .i64 res_c, .string res_d, .int .i64 res_e, .int .i64 res_f], .bool true]) H8)))) ∧ 
    ((beqS y_1 ⟨#[]⟩) = false → StL ⟨bN, 1, none⟩ 0 [.string y_0] H5 fun H9 => (∃ J1 : Bool → ByteArray → 
    Hp → Prop, (∀ (ok1 : Bool) (rest : ByteArray), ∀ H10, J1 ok1 rest H10 → ∀ scr1 : Nat → Value, IxS rest 0 fun c => 
    (CallF Tryd.prog 86 #[.string ⟨#[32, 46, 36, 64, 40, 32, 37, 35]⟩, .int .u8 c] H10 (fun r1 H11 => 
    ∃ y : Int, r1 = .int .i64 y ∧ StL ⟨bN, 0, none⟩ 0 [.int .i64 y] H11 fun H12 => (∃ J2 : Bool → Hp → 
    Prop, (∀ (ok2 : Bool), ∀ H13, J2 ok2 H13 → ∀ scr2 : Nat → Value, ∃ x_a1 : Int, ∃ x_b1 : ByteArray, ∃ x_c1 : Int, ∃ x_d1 : ByteArray, ∃ x_e1 : Int, ∃ x_f1 : Int, (hcell H13 ⟨bN, 0, none⟩ = some (.int .i64 x_a1) ∧ 
    hcell H13 ⟨bN, 1, none⟩ = some (.string x_b1) ∧ hcell H13 ⟨bN, 2, none⟩ = some (.int .i64 x_c1) ∧ 
    hcell H13 ⟨bN, 3, none⟩ = some (.string x_d1) ∧ hcell H13 ⟨bN, 4, none⟩ = some (.int .i64 x_e1) ∧ 
    hcell H13 ⟨bN, 5, none⟩ = some (.int .i64 x_f1) ∧ True) ∧ StL ⟨b, 0, none⟩ 0 [.int .i64 x_a1, .string x_b1, .int .i64 x_c1, .string x_d1, .int .i64 x_e1, .int .i64 x_f1] H13 fun H14 => 
    (∃ res_a1 : Int, ∃ res_b1 : ByteArray, ∃ res_c1 : Int, ∃ res_d1 : ByteArray, ∃ res_e1 : Int, ∃ res_f1 : Int, (hcell H14 ⟨b, 0, none⟩ = some (.int .i64 res_a1) ∧ 
    hcell H14 ⟨b, 1, none⟩ = some (.string res_b1) ∧ hcell H14 ⟨b, 2, none⟩ = some (.int .i64 res_c1) ∧ 
    hcell H14 ⟨b, 3, none⟩ = some (.string res_d1) ∧ hcell H14 ⟨b, 4, none⟩ = some (.int .i64 res_e1) ∧ 
    hcell H14 ⟨b, 5, none⟩ = some (.int .i64 res_f1) ∧ True) ∧ K (.tuple #[.agg #[.int .i64 res_a1, .string res_b1, .int .i64 res_c1, .string res_d1, .int .i64 res_e1, .int .i64 res_f1], .bool ok2]) H14)) ∧ 
    SlS rest 1 (rest.size : Int) fun cut => (∃ x : Int, hcell H12 ⟨bN, 0, none⟩ = some (.int .i64 x) ∧ 
    ∃ J3 : Bool → Hp → Prop, (∀ (t72 : Bool), ∀ H15, J3 t72 H15 → ∀ scr3 : Nat → Value, ((t72 = true → 
    StL ⟨bN, 3, none⟩ 0 [.string cut] H15 fun H16 => (J2 ok1 H16)) ∧ (t72 = false → (((x == 4) = true → 
    ∃ x_a2 : Int, ∃ x_b2 : ByteArray, ∃ x_c2 : Int, ∃ x_d2 : ByteArray, ∃ x_e2 : Int, ∃ x_f2 : Int, (hcell H15 ⟨bN, 0, none⟩ = some (.int .i64 x_a2) ∧ 
    hcell H15 ⟨bN, 1, none⟩ = some (.string x_b2) ∧ hcell H15 ⟨bN, 2, none⟩ = some (.int .i64 x_c2) ∧ 
    hcell H15 ⟨bN, 3, none⟩ = some (.string x_d2) ∧ hcell H15 ⟨bN, 4, none⟩ = some (.int .i64 x_e2) ∧ 
    hcell H15 ⟨bN, 5, none⟩ = some (.int .i64 x_f2) ∧ True) ∧ StL ⟨b, 0, none⟩ 0 [.int .i64 x_a2, .string x_b2, .int .i64 x_c2, .string x_d2, .int .i64 x_e2, .int .i64 x_f2] H15 fun H17 => 
    (∃ res_a2 : Int, ∃ res_b2 : ByteArray, ∃ res_c2 : Int, ∃ res_d2 : ByteArray, ∃ res_e2 : Int, ∃ res_f2 : Int, (hcell H17 ⟨b, 0, none⟩ = some (.int .i64 res_a2) ∧ 
    hcell H17 ⟨b, 1, none⟩ = some (.string res_b2) ∧ hcell H17 ⟨b, 2, none⟩ = some (.int .i64 res_c2) ∧ 
    hcell H17 ⟨b, 3, none⟩ = some (.string res_d2) ∧ hcell H17 ⟨b, 4, none⟩ = some (.int .i64 res_e2) ∧ 
    hcell H17 ⟨b, 5, none⟩ = some (.int .i64 res_f2) ∧ True) ∧ K (.tuple #[.agg #[.int .i64 res_a2, .string res_b2, .int .i64 res_c2, .string res_d2, .int .i64 res_e2, .int .i64 res_f2], .bool (beqS cut ⟨#[41]⟩)]) H17)) ∧ 
    ((x == 4) = false → ∃ J4 : Bool → Hp → Prop, (∀ (t82 : Bool), ∀ H18, J4 t82 H18 → ∀ scr4 : Nat → 
    Value, ((t82 = true → CallF Tryd.prog 87 #[.string cut] H18 (fun r2 H19 => ∃ y_01 : Int, ∃ y_11 : Bool, r2 = .tuple #[.int .i64 y_01, .bool y_11] ∧ 
    StL ⟨bN, 4, none⟩ 0 [.int .i64 y_01] H19 fun H20 => (J2 y_11 H20)) Z) ∧ (t82 = false → (J2 false H18)))) ∧ 
    (((x == 2) = true → (J4 (x == 2) H15)) ∧ ((x == 2) = false → (((x == 3) = true → (J4 (x == 3) H15)) ∧ 
    ((x == 3) = false → (J4 (x == 7) H15)))))))))) ∧ (((x == 1) = true → (J3 (x == 1) H12)) ∧ ((x == 1) = false → 
    (J3 (x == 6) H12)))))) Z)) ∧ IxS y_1 0 fun c1 => (((c1 == 126) = true → SlS y_1 1 (y_1.size : Int) fun cut1 => 
    (CallF Tryd.prog 23 #[.string cut1] H9 (fun r3 H21 => ∃ y_02 : ByteArray, ∃ y_12 : ByteArray, r3 = .tuple #[.string y_02, .string y_12] ∧ 
    CallF Tryd.prog 87 #[.string y_02] H21 (fun r4 H22 => ∃ y_03 : Int, ∃ y_13 : Bool, r4 = .tuple #[.int .i64 y_03, .bool y_13] ∧ 
    StL ⟨bN, 2, none⟩ 0 [.int .i64 y_03] H22 fun H23 => (∃ J5 : Bool → Hp → Prop, (∀ (t62 : Bool), ∀ H24, J5 t62 H24 → 
    ∀ scr5 : Nat → Value, ((t62 = true → ∃ x_a3 : Int, ∃ x_b3 : ByteArray, ∃ x_c3 : Int, ∃ x_d3 : ByteArray, ∃ x_e3 : Int, ∃ x_f3 : Int, (hcell H24 ⟨bN, 0, none⟩ = some (.int .i64 x_a3) ∧ 
    hcell H24 ⟨bN, 1, none⟩ = some (.string x_b3) ∧ hcell H24 ⟨bN, 2, none⟩ = some (.int .i64 x_c3) ∧ 
    hcell H24 ⟨bN, 3, none⟩ = some (.string x_d3) ∧ hcell H24 ⟨bN, 4, none⟩ = some (.int .i64 x_e3) ∧ 
    hcell H24 ⟨bN, 5, none⟩ = some (.int .i64 x_f3) ∧ True) ∧ StL ⟨b, 0, none⟩ 0 [.int .i64 x_a3, .string x_b3, .int .i64 x_c3, .string x_d3, .int .i64 x_e3, .int .i64 x_f3] H24 fun H25 => 
    (∃ res_a3 : Int, ∃ res_b3 : ByteArray, ∃ res_c3 : Int, ∃ res_d3 : ByteArray, ∃ res_e3 : Int, ∃ res_f3 : Int, (hcell H25 ⟨b, 0, none⟩ = some (.int .i64 res_a3) ∧ 
    hcell H25 ⟨b, 1, none⟩ = some (.string res_b3) ∧ hcell H25 ⟨b, 2, none⟩ = some (.int .i64 res_c3) ∧ 
    hcell H25 ⟨b, 3, none⟩ = some (.string res_d3) ∧ hcell H25 ⟨b, 4, none⟩ = some (.int .i64 res_e3) ∧ 
    hcell H25 ⟨b, 5, none⟩ = some (.int .i64 res_f3) ∧ True) ∧ K (.tuple #[.agg #[.int .i64 res_a3, .string res_b3, .int .i64 res_c3, .string res_d3, .int .i64 res_e3, .int .i64 res_f3], .bool false]) H25)) ∧ 
    (t62 = false → (J1 y_13 y_12 H24)))) ∧ (((!y_13) = true → (J5 true H23)) ∧ ((!y_13) = false → (J5 (beqS y_12 ⟨#[]⟩) H23))))) Z) Z)) ∧ 
    ((c1 == 126) = false → (J1 ok y_1 H9))))))) Z) ∧ CallF Tryd.prog 86 #[.string s, .int .u8 43] H3 (fun r5 H26 => 
    ∃ y1 : Int, r5 = .int .i64 y1 ∧ (((decide (y1 ≥ 0)) = true → SlS s (w64 (y1 + 1)) (s.size : Int) fun cut2 => 
    (CallF Tryd.prog 87 #[.string cut2] H26 (fun r6 H27 => ∃ y_04 : Int, ∃ y_14 : Bool, r6 = .tuple #[.int .i64 y_04, .bool y_14] ∧ 
    StL ⟨bN, 5, none⟩ 0 [.int .i64 y_04] H27 fun H28 => (((!y_14) = true → ∃ x_a4 : Int, ∃ x_b4 : ByteArray, ∃ x_c4 : Int, ∃ x_d4 : ByteArray, ∃ x_e4 : Int, ∃ x_f4 : Int, (hcell H28 ⟨bN, 0, none⟩ = some (.int .i64 x_a4) ∧ 
    hcell H28 ⟨bN, 1, none⟩ = some (.string x_b4) ∧ hcell H28 ⟨bN, 2, none⟩ = some (.int .i64 x_c4) ∧ 
    hcell H28 ⟨bN, 3, none⟩ = some (.string x_d4) ∧ hcell H28 ⟨bN, 4, none⟩ = some (.int .i64 x_e4) ∧ 
    hcell H28 ⟨bN, 5, none⟩ = some (.int .i64 x_f4) ∧ True) ∧ StL ⟨b, 0, none⟩ 0 [.int .i64 x_a4, .string x_b4, .int .i64 x_c4, .string x_d4, .int .i64 x_e4, .int .i64 x_f4] H28 fun H29 => 
    (∃ res_a4 : Int, ∃ res_b4 : ByteArray, ∃ res_c4 : Int, ∃ res_d4 : ByteArray, ∃ res_e4 : Int, ∃ res_f4 : Int, (hcell H29 ⟨b, 0, none⟩ = some (.int .i64 res_a4) ∧ 
    hcell H29 ⟨b, 1, none⟩ = some (.string res_b4) ∧ hcell H29 ⟨b, 2, none⟩ = some (.int .i64 res_c4) ∧ 
    hcell H29 ⟨b, 3, none⟩ = some (.string res_d4) ∧ hcell H29 ⟨b, 4, none⟩ = some (.int .i64 res_e4) ∧ 
    hcell H29 ⟨b, 5, none⟩ = some (.int .i64 res_f4) ∧ True) ∧ K (.tuple #[.agg #[.int .i64 res_a4, .string res_b4, .int .i64 res_c4, .string res_d4, .int .i64 res_e4, .int .i64 res_f4], .bool false]) H29)) ∧ 
    ((!y_14) = false → SlS s 0 y1 fun cut3 => (J cut3 y_14 H28)))) Z)) ∧ ((decide (y1 ≥ 0)) = false → 
    (J s true H26)))) Z)
def aJ63 : Ann := (fun k => if k = 9 then some [(0, (.sc .str)), (5, (.sc .bool))] else if k = 18 then some [(62, (.sc .bool))] else if k = 19 then some [(5, (.sc .bool)), (8, (.sc .str))] else if k = 25 then some [(72, (.sc .bool))] else if k = 31 then some [(82, (.sc .bool))] else if k = 32 then some [(5, (.sc .bool))] else none)
def aL63 : Ann := (fun _ => none)
theorem V63_ok {H : Hp} {s : ByteArray} {K : Value → Hp → Prop} {Z : List PanicEntry → Hp → Prop} (h : V63 H s K Z) : CallF Tryd.prog 63 #[.string s] H K Z :=
  fnC_sound (P := Tryd.prog) (aJ := aJ63) (aL := aL63) (f := 63) (args := [.string s]) (Eq.mp (by kernel_rfl) h)
/-- weft/names.Base -/
def V43 (H : Hp) (s : ByteArray) (K : Value → Hp → Prop) (Z : List PanicEntry → Hp → Prop) : Prop :=
  CallF Tryd.prog 35 #[.string s] H (fun r H1 => ∃ y_0_a : Int, ∃ y_0_b : ByteArray, ∃ y_0_c : Int, ∃ y_0_d : ByteArray, ∃ y_0_e : Int, ∃ y_0_f : Int, ∃ y_1 : Int, r = .tuple #[.agg #[.int .i64 y_0_a, .string y_0_b, .int .i64 y_0_c, .string y_0_d, .int .i64 y_0_e, .int .i64 y_0_f], .int .i64 y_1] ∧ 
    ∀ bN H2, Newb H1 (.cells #[.int .i64 0, .string ⟨#[]⟩, .int .i64 0, .string ⟨#[]⟩, .int .i64 0, .int .i64 0] 41) bN H2 → 
    StL ⟨bN, 0, none⟩ 0 [.int .i64 y_0_a, .string y_0_b, .int .i64 y_0_c, .string y_0_d, .int .i64 y_0_e, .int .i64 y_0_f] H2 fun H3 => 
    (((y_1 != 0) = true → K (.string ⟨#[]⟩) H3) ∧ ((y_1 != 0) = false → StL ⟨bN, 2, none⟩ 0 [.int .i64 0] H3 fun H4 => 
    (∃ x_a : Int, ∃ x_b : ByteArray, ∃ x_c : Int, ∃ x_d : ByteArray, ∃ x_e : Int, ∃ x_f : Int, (hcell H4 ⟨bN, 0, none⟩ = some (.int .i64 x_a) ∧ 
    hcell H4 ⟨bN, 1, none⟩ = some (.string x_b) ∧ hcell H4 ⟨bN, 2, none⟩ = some (.int .i64 x_c) ∧ hcell H4 ⟨bN, 3, none⟩ = some (.string x_d) ∧ 
    hcell H4 ⟨bN, 4, none⟩ = some (.int .i64 x_e) ∧ hcell H4 ⟨bN, 5, none⟩ = some (.int .i64 x_f) ∧ True) ∧ 
    CallF Tryd.prog 61 #[.agg #[.int .i64 x_a, .string x_b, .int .i64 x_c, .string x_d, .int .i64 x_e, .int .i64 x_f]] H4 (fun r1 H5 => 
    ∃ y : ByteArray, r1 = .string y ∧ K (.string y) H5) Z)))) Z
def aJ43 : Ann := (fun _ => none)
def aL43 : Ann := (fun _ => none)
theorem V43_ok {H : Hp} {s : ByteArray} {K : Value → Hp → Prop} {Z : List PanicEntry → Hp → Prop} (h : V43 H s K Z) : CallF Tryd.prog 43 #[.string s] H K Z :=
  fnC_sound (P := Tryd.prog) (aJ := aJ43) (aL := aL43) (f := 43) (args := [.string s]) (Eq.mp (by kernel_rfl) h)
/-- weft/names.Of -/
def V36 (H : Hp) (kind : Int) (fn : ByteArray) (name : ByteArray) (n : Int) (K : Value → Hp → Prop) (Z : List PanicEntry → Hp → Prop) : Prop :=
  CallF Tryd.prog 31 #[.agg #[.int .i64 kind, .string fn, .int .i64 0, .string name, .int .i64 n, .int .i64 (-1)]] H (fun r H1 => 
    ∃ y_0 : ByteArray, ∃ y_1 : Int, r = .tuple #[.string y_0, .int .i64 y_1] ∧ K (.string y_0) H1) Z
def aJ36 : Ann := (fun _ => none)
def aL36 : Ann := (fun _ => none)
theorem V36_ok {H : Hp} {kind : Int} {fn : ByteArray} {name : ByteArray} {n : Int} {K : Value → Hp → Prop} {Z : List PanicEntry → Hp → Prop} (h : V36 H kind fn name n K Z) : CallF Tryd.prog 36 #[.int .i64 kind, .string fn, .string name, .int .i64 n] H K Z :=
  fnC_sound (P := Tryd.prog) (aJ := aJ36) (aL := aL36) (f := 36) (args := [.int .i64 kind, .string fn, .string name, .int .i64 n]) (Eq.mp (by kernel_rfl) h)
/-- weft/names.Cell -/
def V38 (H : Hp) (obj : ByteArray) (k : Int) (K : Value → Hp → Prop) (Z : List PanicEntry → Hp → Prop) : Prop :=
  CallF Tryd.prog 35 #[.string obj] H (fun r H1 => ∃ y_0_a : Int, ∃ y_0_b : ByteArray, ∃ y_0_c : Int, ∃ y_0_d : ByteArray, ∃ y_0_e : Int, ∃ y_0_f : Int, ∃ y_1 : Int, r = .tuple #[.agg #[.int .i64 y_0_a, .string y_0_b, .int .i64 y_0_c, .string y_0_d, .int .i64 y_0_e, .int .i64 y_0_f], .int .i64 y_1] ∧ 
    ∀ bN H2, Newb H1 (.cells #[.int .i64 0, .string ⟨#[]⟩, .int .i64 0, .string ⟨#[]⟩, .int .i64 0, .int .i64 0] 41) bN H2 → 
    StL ⟨bN, 0, none⟩ 0 [.int .i64 y_0_a, .string y_0_b, .int .i64 y_0_c, .string y_0_d, .int .i64 y_0_e, .int .i64 y_0_f] H2 fun H3 => 
    (((y_1 != 0) = true → K (.string ⟨#[]⟩) H3) ∧ ((y_1 != 0) = false → ∃ x : Int, hcell H3 ⟨bN, 0, none⟩ = some (.int .i64 x) ∧ 
    (((decide (x < 5)) = true → K (.string ⟨#[]⟩) H3) ∧ ((decide (x < 5)) = false → ∃ x1 : Int, hcell H3 ⟨bN, 5, none⟩ = some (.int .i64 x1) ∧ 
    (((x1 != (-1)) = true → K (.string ⟨#[]⟩) H3) ∧ ((x1 != (-1)) = false → (((decide (k < 0)) = true → 
    K (.string ⟨#[]⟩) H3) ∧ ((decide (k < 0)) = false → StL ⟨bN, 5, none⟩ 0 [.int .i64 k] H3 fun H4 => 
    (∃ x_a : Int, ∃ x_b : ByteArray, ∃ x_c : Int, ∃ x_d : ByteArray, ∃ x_e : Int, ∃ x_f : Int, (hcell H4 ⟨bN, 0, none⟩ = some (.int .i64 x_a) ∧ 
    hcell H4 ⟨bN, 1, none⟩ = some (.string x_b) ∧ hcell H4 ⟨bN, 2, none⟩ = some (.int .i64 x_c) ∧ hcell H4 ⟨bN, 3, none⟩ = some (.string x_d) ∧ 
    hcell H4 ⟨bN, 4, none⟩ = some (.int .i64 x_e) ∧ hcell H4 ⟨bN, 5, none⟩ = some (.int .i64 x_f) ∧ True) ∧ 
    CallF Tryd.prog 31 #[.agg #[.int .i64 x_a, .string x_b, .int .i64 x_c, .string x_d, .int .i64 x_e, .int .i64 x_f]] H4 (fun r1 H5 => 
    ∃ y_0 : ByteArray, ∃ y_11 : Int, r1 = .tuple #[.string y_0, .int .i64 y_11] ∧ K (.string y_0) H5) Z)))))))))) Z
def aJ38 : Ann := (fun _ => none)
def aL38 : Ann := (fun _ => none)
theorem V38_ok {H : Hp} {obj : ByteArray} {k : Int} {K : Value → Hp → Prop} {Z : List PanicEntry → Hp → Prop} (h : V38 H obj k K Z) : CallF Tryd.prog 38 #[.string obj, .int .i64 k] H K Z :=
  fnC_sound (P := Tryd.prog) (aJ := aJ38) (aL := aL38) (f := 38) (args := [.string obj, .int .i64 k]) (Eq.mp (by kernel_rfl) h)
/-- weft/names.Object -/
def V41 (H : Hp) (s : ByteArray) (K : Value → Hp → Prop) (Z : List PanicEntry → Hp → Prop) : Prop :=
  CallF Tryd.prog 35 #[.string s] H (fun r H1 => ∃ y_0_a : Int, ∃ y_0_b : ByteArray, ∃ y_0_c : Int, ∃ y_0_d : ByteArray, ∃ y_0_e : Int, ∃ y_0_f : Int, ∃ y_1 : Int, r = .tuple #[.agg #[.int .i64 y_0_a, .string y_0_b, .int .i64 y_0_c, .string y_0_d, .int .i64 y_0_e, .int .i64 y_0_f], .int .i64 y_1] ∧ 
    ∀ bN H2, Newb H1 (.cells #[.int .i64 0, .string ⟨#[]⟩, .int .i64 0, .string ⟨#[]⟩, .int .i64 0, .int .i64 0] 41) bN H2 → 
    StL ⟨bN, 0, none⟩ 0 [.int .i64 y_0_a, .string y_0_b, .int .i64 y_0_c, .string y_0_d, .int .i64 y_0_e, .int .i64 y_0_f] H2 fun H3 => 
    (((y_1 != 0) = true → K (.tuple #[.string ⟨#[]⟩, .int .i64 0, .bool false]) H3) ∧ ((y_1 != 0) = false → 
    ∃ x : Int, hcell H3 ⟨bN, 5, none⟩ = some (.int .i64 x) ∧ (((x == (-1)) = true → K (.tuple #[.string ⟨#[]⟩, .int .i64 0, .bool false]) H3) ∧ 
    ((x == (-1)) = false → ∃ x1 : Int, hcell H3 ⟨bN, 5, none⟩ = some (.int .i64 x1) ∧ StL ⟨bN, 5, none⟩ 0 [.int .i64 (-1)] H3 fun H4 => 
    (∃ x_a : Int, ∃ x_b : ByteArray, ∃ x_c : Int, ∃ x_d : ByteArray, ∃ x_e : Int, ∃ x_f : Int, (hcell H4 ⟨bN, 0, none⟩ = some (.int .i64 x_a) ∧ 
    hcell H4 ⟨bN, 1, none⟩ = some (.string x_b) ∧ hcell H4 ⟨bN, 2, none⟩ = some (.int .i64 x_c) ∧ hcell H4 ⟨bN, 3, none⟩ = some (.string x_d) ∧ 
    hcell H4 ⟨bN, 4, none⟩ = some (.int .i64 x_e) ∧ hcell H4 ⟨bN, 5, none⟩ = some (.int .i64 x_f) ∧ True) ∧ 
    CallF Tryd.prog 61 #[.agg #[.int .i64 x_a, .string x_b, .int .i64 x_c, .string x_d, .int .i64 x_e, .int .i64 x_f]] H4 (fun r1 H5 => 
    ∃ y : ByteArray, r1 = .string y ∧ K (.tuple #[.string y, .int .i64 x1, .bool true]) H5) Z)))))) Z
def aJ41 : Ann := (fun _ => none)
def aL41 : Ann := (fun _ => none)
theorem V41_ok {H : Hp} {s : ByteArray} {K : Value → Hp → Prop} {Z : List PanicEntry → Hp → Prop} (h : V41 H s K Z) : CallF Tryd.prog 41 #[.string s] H K Z :=
  fnC_sound (P := Tryd.prog) (aJ := aJ41) (aL := aL41) (f := 41) (args := [.string s]) (Eq.mp (by kernel_rfl) h)
/-- weft/weftref14.count -/
def V85 (H : Hp) (n : Int) (K : Value → Hp → Prop) (Z : List PanicEntry → Hp → Prop) : Prop :=
  (((decide (n ≥ 0)) = true → K (.bool (decide (n ≤ 268435456))) H) ∧ ((decide (n ≥ 0)) = false → K (.bool false) H))
def aJ85 : Ann := (fun _ => none)
def aL85 : Ann := (fun _ => none)
theorem V85_ok {H : Hp} {n : Int} {K : Value → Hp → Prop} {Z : List PanicEntry → Hp → Prop} (h : V85 H n K Z) : CallF Tryd.prog 85 #[.int .i64 n] H K Z :=
  fnC_sound (P := Tryd.prog) (aJ := aJ85) (aL := aL85) (f := 85) (args := [.int .i64 n]) (Eq.mp (by kernel_rfl) h)
/-- weft/weftref14.Right -/
def V62 (H : Hp) (n_a : Int) (n_b : ByteArray) (n_c : Int) (n_d : ByteArray) (n_e : Int) (n_f : Int) (K : Value → Hp → Prop) (Z : List PanicEntry → Hp → Prop) : Prop :=
  ∀ bN H1, Newb H (.cells #[.int .i64 n_a, .string n_b, .int .i64 n_c, .string n_d, .int .i64 n_e, .int .i64 n_f] 37) bN H1 → 
    ∃ J : Hp → Prop, (∀ H2, J  H2 → ∀ scr : Nat → Value, ∃ J1 : Bool → Hp → Prop, (∀ (named : Bool), ∀ H3, J1 named H3 → 
    ∀ scr1 : Nat → Value, ∃ J2 : Bool → Hp → Prop, (∀ (numbered : Bool), ∀ H4, J2 numbered H4 → ∀ scr2 : Nat → 
    Value, ∃ J3 : Hp → Prop, (∀ H5, J3  H5 → ∀ scr3 : Nat → Value, ∃ x : Int, hcell H5 ⟨bN, 0, none⟩ = some (.int .i64 x) ∧ 
    (((decide (x ≥ 5)) = true → K (.bool true) H5) ∧ ((decide (x ≥ 5)) = false → ∃ x1 : Int, hcell H5 ⟨bN, 5, none⟩ = some (.int .i64 x1) ∧ 
    K (.bool (x1 == (-1))) H5))) ∧ ∃ J4 : Bool → Hp → Prop, (∀ (t62 : Bool), ∀ H6, J4 t62 H6 → ∀ scr4 : Nat → 
    Value, ((t62 = true → K (.bool false) H6) ∧ (t62 = false → ∃ J5 : Bool → Hp → Prop, (∀ (t91 : Bool), ∀ H7, J5 t91 H7 → 
    ∀ scr5 : Nat → Value, ((t91 = true → K (.bool false) H7) ∧ (t91 = false → (((!numbered) = true → 
    ∃ x2 : Int, hcell H7 ⟨bN, 4, none⟩ = some (.int .i64 x2) ∧ (((x2 != 0) = true → K (.bool false) H7) ∧ 
    ((x2 != 0) = false → ∃ x3 : Int, hcell H7 ⟨bN, 4, none⟩ = some (.int .i64 x3) ∧ (((x3 == 0) = true → 
    ∃ x4 : Int, hcell H7 ⟨bN, 0, none⟩ = some (.int .i64 x4) ∧ (((x4 == 3) = true → K (.bool false) H7) ∧ 
    ((x4 == 3) = false → ∃ x5 : Int, hcell H7 ⟨bN, 0, none⟩ = some (.int .i64 x5) ∧ (((x5 == 7) = true → 
    K (.bool false) H7) ∧ ((x5 == 7) = false → (J3  H7)))))) ∧ ((x3 == 0) = false → (J3  H7)))))) ∧ ((!numbered) = false → 
    ∃ x6 : Int, hcell H7 ⟨bN, 4, none⟩ = some (.int .i64 x6) ∧ (((x6 == 0) = true → ∃ x7 : Int, hcell H7 ⟨bN, 0, none⟩ = some (.int .i64 x7) ∧ 
    (((x7 == 3) = true → K (.bool false) H7) ∧ ((x7 == 3) = false → ∃ x8 : Int, hcell H7 ⟨bN, 0, none⟩ = some (.int .i64 x8) ∧ 
    (((x8 == 7) = true → K (.bool false) H7) ∧ ((x8 == 7) = false → (J3  H7)))))) ∧ ((x6 == 0) = false → 
    (J3  H7)))))))) ∧ ∃ x9 : ByteArray, hcell H6 ⟨bN, 3, none⟩ = some (.string x9) ∧ (((!(named == (!(beqS x9 ⟨#[]⟩)))) = true → 
    (J5 true H6)) ∧ ((!(named == (!(beqS x9 ⟨#[]⟩)))) = false → ((named = true → ∃ x10 : ByteArray, hcell H6 ⟨bN, 3, none⟩ = some (.string x10) ∧ 
    CallF Tryd.prog 26 #[.string x10] H6 (fun r H8 => ∃ y : Bool, r = .bool y ∧ (J5 (!y) H8)) Z) ∧ (named = false → 
    (J5 false H6)))))))) ∧ ∃ x11 : Int, hcell H4 ⟨bN, 0, none⟩ = some (.int .i64 x11) ∧ ∃ x12 : ByteArray, hcell H4 ⟨bN, 1, none⟩ = some (.string x12) ∧ 
    (((!((x11 == 5) == (beqS x12 ⟨#[]⟩))) = true → (J4 true H4)) ∧ ((!((x11 == 5) == (beqS x12 ⟨#[]⟩))) = false → 
    ∃ x13 : ByteArray, hcell H4 ⟨bN, 1, none⟩ = some (.string x13) ∧ (((!(beqS x13 ⟨#[]⟩)) = true → ∃ x14 : ByteArray, hcell H4 ⟨bN, 1, none⟩ = some (.string x14) ∧ 
    CallF Tryd.prog 26 #[.string x14] H4 (fun r1 H9 => ∃ y1 : Bool, r1 = .bool y1 ∧ (((!y1) = true → 
    (J4 true H9)) ∧ ((!y1) = false → ∃ x15 : Int, hcell H9 ⟨bN, 0, none⟩ = some (.int .i64 x15) ∧ (((x15 == 5) = true → 
    ∃ x16 : Int, hcell H9 ⟨bN, 2, none⟩ = some (.int .i64 x16) ∧ (J4 (x16 != 0) H9)) ∧ ((x15 == 5) = false → 
    (J4 false H9)))))) Z) ∧ ((!(beqS x13 ⟨#[]⟩)) = false → ∃ x17 : Int, hcell H4 ⟨bN, 0, none⟩ = some (.int .i64 x17) ∧ 
    (((x17 == 5) = true → ∃ x18 : Int, hcell H4 ⟨bN, 2, none⟩ = some (.int .i64 x18) ∧ (J4 (x18 != 0) H4)) ∧ 
    ((x17 == 5) = false → (J4 false H4)))))))) ∧ ∃ x19 : Int, hcell H3 ⟨bN, 0, none⟩ = some (.int .i64 x19) ∧ 
    (((x19 == 2) = true → (J2 true H3)) ∧ ((x19 == 2) = false → ∃ x20 : Int, hcell H3 ⟨bN, 0, none⟩ = some (.int .i64 x20) ∧ 
    (((x20 == 3) = true → (J2 true H3)) ∧ ((x20 == 3) = false → ∃ x21 : Int, hcell H3 ⟨bN, 0, none⟩ = some (.int .i64 x21) ∧ 
    (J2 (x21 == 7) H3)))))) ∧ ∃ x22 : Int, hcell H2 ⟨bN, 0, none⟩ = some (.int .i64 x22) ∧ (((x22 == 1) = true → 
    (J1 true H2)) ∧ ((x22 == 1) = false → ∃ x23 : Int, hcell H2 ⟨bN, 0, none⟩ = some (.int .i64 x23) ∧ 
    (((x23 == 5) = true → (J1 true H2)) ∧ ((x23 == 5) = false → ∃ x24 : Int, hcell H2 ⟨bN, 0, none⟩ = some (.int .i64 x24) ∧ 
    (J1 (x24 == 6) H2)))))) ∧ ∃ x25 : Int, hcell H1 ⟨bN, 0, none⟩ = some (.int .i64 x25) ∧ (((decide (x25 < 1)) = true → 
    K (.bool false) H1) ∧ ((decide (x25 < 1)) = false → ∃ x26 : Int, hcell H1 ⟨bN, 0, none⟩ = some (.int .i64 x26) ∧ 
    (((decide (x26 > 7)) = true → K (.bool false) H1) ∧ ((decide (x26 > 7)) = false → ∃ x27 : Int, hcell H1 ⟨bN, 2, none⟩ = some (.int .i64 x27) ∧ 
    CallF Tryd.prog 85 #[.int .i64 x27] H1 (fun r2 H10 => ∃ y2 : Bool, r2 = .bool y2 ∧ (((!y2) = true → 
    K (.bool false) H10) ∧ ((!y2) = false → ∃ x28 : Int, hcell H10 ⟨bN, 4, none⟩ = some (.int .i64 x28) ∧ 
    CallF Tryd.prog 85 #[.int .i64 x28] H10 (fun r3 H11 => ∃ y3 : Bool, r3 = .bool y3 ∧ (((!y3) = true → 
    K (.bool false) H11) ∧ ((!y3) = false → ∃ x29 : Int, hcell H11 ⟨bN, 5, none⟩ = some (.int .i64 x29) ∧ 
    (((x29 != (-1)) = true → ∃ x30 : Int, hcell H11 ⟨bN, 5, none⟩ = some (.int .i64 x30) ∧ CallF Tryd.prog 85 #[.int .i64 x30] H11 (fun r4 H12 => 
    ∃ y4 : Bool, r4 = .bool y4 ∧ (((!y4) = true → K (.bool false) H12) ∧ ((!y4) = false → (J  H12)))) Z) ∧ 
    ((x29 != (-1)) = false → (J  H11)))))) Z))) Z))))
def aJ62 : Ann := (fun k => if k = 3 then some [] else if k = 4 then some [(3, (.sc .bool))] else if k = 5 then some [(4, (.sc .bool))] else if k = 6 then some [(62, (.sc .bool))] else if k = 8 then some [(91, (.sc .bool))] else if k = 11 then some [] else none)
def aL62 : Ann := (fun _ => none)
theorem V62_ok {H : Hp} {n_a : Int} {n_b : ByteArray} {n_c : Int} {n_d : ByteArray} {n_e : Int} {n_f : Int} {K : Value → Hp → Prop} {Z : List PanicEntry → Hp → Prop} (h : V62 H n_a n_b n_c n_d n_e n_f K Z) : CallF Tryd.prog 62 #[.agg #[.int .i64 n_a, .string n_b, .int .i64 n_c, .string n_d, .int .i64 n_e, .int .i64 n_f]] H K Z :=
  fnC_sound (P := Tryd.prog) (aJ := aJ62) (aL := aL62) (f := 62) (args := [.agg #[.int .i64 n_a, .string n_b, .int .i64 n_c, .string n_d, .int .i64 n_e, .int .i64 n_f]]) (Eq.mp (by kernel_rfl) h)
/-- weft/weftref14.Text -/
def V33 (H : Hp) (n_a : Int) (n_b : ByteArray) (n_c : Int) (n_d : ByteArray) (n_e : Int) (n_f : Int) (K : Value → Hp → Prop) (Z : List PanicEntry → Hp → Prop) : Prop :=
  ∀ bN H1, Newb H (.cells #[.int .i64 n_a, .string n_b, .int .i64 n_c, .string n_d, .int .i64 n_e, .int .i64 n_f] 37) bN H1 → 
    ∃ x_a : Int, ∃ x_b : ByteArray, ∃ x_c : Int, ∃ x_d : ByteArray, ∃ x_e : Int, ∃ x_f : Int, (hcell H1 ⟨bN, 0, none⟩ = some (.int .i64 x_a) ∧ 
    hcell H1 ⟨bN, 1, none⟩ = some (.string x_b) ∧ hcell H1 ⟨bN, 2, none⟩ = some (.int .i64 x_c) ∧ hcell H1 ⟨bN, 3, none⟩ = some (.string x_d) ∧ 
    hcell H1 ⟨bN, 4, none⟩ = some (.int .i64 x_e) ∧ hcell H1 ⟨bN, 5, none⟩ = some (.int .i64 x_f) ∧ True) ∧ 
    CallF Tryd.prog 62 #[.agg #[.int .i64 x_a, .string x_b, .int .i64 x_c, .string x_d, .int .i64 x_e, .int .i64 x_f]] H1 (fun r H2 => 
    ∃ y : Bool, r = .bool y ∧ (((!y) = true → K (.tuple #[.string ⟨#[]⟩, .int .i64 11]) H2) ∧ ((!y) = false → 
    ∃ x : ByteArray, hcell H2 ⟨bN, 1, none⟩ = some (.string x) ∧ ∃ J : ByteArray → Hp → Prop, (∀ (s : ByteArray), ∀ H3, J s H3 → 
    ∀ scr : Nat → Value, ∃ J1 : ByteArray → Hp → Prop, (∀ (s1 : ByteArray), ∀ H4, J1 s1 H4 → ∀ scr1 : Nat → 
    Value, ∃ x1 : Int, hcell H4 ⟨bN, 5, none⟩ = some (.int .i64 x1) ∧ (((decide (x1 ≥ 0)) = true → (s1.size + (⟨#[43]⟩ : ByteArray).size ≤ 4611686018427387904 ∧ 
    ∃ x2 : Int, hcell H4 ⟨bN, 5, none⟩ = some (.int .i64 x2) ∧ CallF Tryd.prog 17 #[.int .i64 x2] H4 (fun r1 H5 => 
    ∃ y1 : ByteArray, r1 = .string y1 ∧ ((s1 ++ (⟨#[43]⟩ : ByteArray)).size + y1.size ≤ 4611686018427387904 ∧ 
    K (.tuple #[.string ((s1 ++ (⟨#[43]⟩ : ByteArray)) ++ y1), .int .i64 0]) H5)) Z)) ∧ ((decide (x1 ≥ 0)) = false → 
    K (.tuple #[.string s1, .int .i64 0]) H4))) ∧ ∃ x3 : Int, hcell H3 ⟨bN, 0, none⟩ = some (.int .i64 x3) ∧ 
    (((x3 == 1) = true → (s.size + (⟨#[46]⟩ : ByteArray).size ≤ 4611686018427387904 ∧ ∃ x4 : ByteArray, hcell H3 ⟨bN, 3, none⟩ = some (.string x4) ∧ 
    ((s ++ (⟨#[46]⟩ : ByteArray)).size + x4.size ≤ 4611686018427387904 ∧ (J1 ((s ++ (⟨#[46]⟩ : ByteArray)) ++ x4) H3)))) ∧ 
    ((x3 == 1) = false → (((x3 == 2) = true → (s.size + (⟨#[36]⟩ : ByteArray).size ≤ 4611686018427387904 ∧ 
    ∃ x5 : Int, hcell H3 ⟨bN, 4, none⟩ = some (.int .i64 x5) ∧ CallF Tryd.prog 17 #[.int .i64 x5] H3 (fun r2 H6 => 
    ∃ y2 : ByteArray, r2 = .string y2 ∧ ((s ++ (⟨#[36]⟩ : ByteArray)).size + y2.size ≤ 4611686018427387904 ∧ 
    (J1 ((s ++ (⟨#[36]⟩ : ByteArray)) ++ y2) H6))) Z)) ∧ ((x3 == 2) = false → (((x3 == 3) = true → (s.size + (⟨#[64]⟩ : ByteArray).size ≤ 4611686018427387904 ∧ 
    ∃ x6 : Int, hcell H3 ⟨bN, 4, none⟩ = some (.int .i64 x6) ∧ CallF Tryd.prog 17 #[.int .i64 x6] H3 (fun r3 H7 => 
    ∃ y3 : ByteArray, r3 = .string y3 ∧ ((s ++ (⟨#[64]⟩ : ByteArray)).size + y3.size ≤ 4611686018427387904 ∧ 
    (J1 ((s ++ (⟨#[64]⟩ : ByteArray)) ++ y3) H7))) Z)) ∧ ((x3 == 3) = false → (((x3 == 4) = true → (s.size + (⟨#[40, 41]⟩ : ByteArray).size ≤ 4611686018427387904 ∧ 
    (J1 (s ++ (⟨#[40, 41]⟩ : ByteArray)) H3))) ∧ ((x3 == 4) = false → (((x3 == 5) = true → ∃ x7 : ByteArray, hcell H3 ⟨bN, 3, none⟩ = some (.string x7) ∧ 
    (J1 x7 H3)) ∧ ((x3 == 5) = false → (((x3 == 6) = true → (s.size + (⟨#[37]⟩ : ByteArray).size ≤ 4611686018427387904 ∧ 
    ∃ x8 : ByteArray, hcell H3 ⟨bN, 3, none⟩ = some (.string x8) ∧ ((s ++ (⟨#[37]⟩ : ByteArray)).size + x8.size ≤ 4611686018427387904 ∧ 
    (J1 ((s ++ (⟨#[37]⟩ : ByteArray)) ++ x8) H3)))) ∧ ((x3 == 6) = false → (((x3 == 7) = true → (s.size + (⟨#[35]⟩ : ByteArray).size ≤ 4611686018427387904 ∧ 
    ∃ x9 : Int, hcell H3 ⟨bN, 4, none⟩ = some (.int .i64 x9) ∧ CallF Tryd.prog 17 #[.int .i64 x9] H3 (fun r4 H8 => 
    ∃ y4 : ByteArray, r4 = .string y4 ∧ ((s ++ (⟨#[35]⟩ : ByteArray)).size + y4.size ≤ 4611686018427387904 ∧ 
    (J1 ((s ++ (⟨#[35]⟩ : ByteArray)) ++ y4) H8))) Z)) ∧ ((x3 == 7) = false → (J1 s H3)))))))))))))))) ∧ 
    ∃ x10 : Int, hcell H2 ⟨bN, 2, none⟩ = some (.int .i64 x10) ∧ (((decide (x10 > 0)) = true → (x.size + (⟨#[126]⟩ : ByteArray).size ≤ 4611686018427387904 ∧ 
    ∃ x11 : Int, hcell H2 ⟨bN, 2, none⟩ = some (.int .i64 x11) ∧ CallF Tryd.prog 17 #[.int .i64 x11] H2 (fun r5 H9 => 
    ∃ y5 : ByteArray, r5 = .string y5 ∧ ((x ++ (⟨#[126]⟩ : ByteArray)).size + y5.size ≤ 4611686018427387904 ∧ 
    (J ((x ++ (⟨#[126]⟩ : ByteArray)) ++ y5) H9))) Z)) ∧ ((decide (x10 > 0)) = false → (J x H2)))))) Z
def aJ33 : Ann := (fun k => if k = 6 then some [(4, (.sc .str))] else if k = 21 then some [(4, (.sc .str))] else none)
def aL33 : Ann := (fun _ => none)
theorem V33_ok {H : Hp} {n_a : Int} {n_b : ByteArray} {n_c : Int} {n_d : ByteArray} {n_e : Int} {n_f : Int} {K : Value → Hp → Prop} {Z : List PanicEntry → Hp → Prop} (h : V33 H n_a n_b n_c n_d n_e n_f K Z) : CallF Tryd.prog 33 #[.agg #[.int .i64 n_a, .string n_b, .int .i64 n_c, .string n_d, .int .i64 n_e, .int .i64 n_f]] H K Z :=
  fnC_sound (P := Tryd.prog) (aJ := aJ33) (aL := aL33) (f := 33) (args := [.agg #[.int .i64 n_a, .string n_b, .int .i64 n_c, .string n_d, .int .i64 n_e, .int .i64 n_f]]) (Eq.mp (by kernel_rfl) h)
/-- weft/weftref14.parts -/
def V64 (H : Hp) (s : ByteArray) (K : Value → Hp → Prop) (Z : List PanicEntry → Hp → Prop) : Prop :=
  CallF Tryd.prog 24 #[.string s] H (fun r H1 => ∃ y_0 : ByteArray, ∃ y_1 : ByteArray, r = .tuple #[.string y_0, .string y_1] ∧ 
    ∃ J : ByteArray → Int → Hp → Prop, (∀ (rest : ByteArray) (copied : Int), ∀ H2, J rest copied H2 → 
    ∀ scr : Nat → Value, ∃ J1 : ByteArray → ByteArray → ByteArray → Hp → Prop, (∀ (rest1 : ByteArray) (mark : ByteArray) (tail : ByteArray), ∀ H3, J1 rest1 mark tail H3 → 
    ∀ scr1 : Nat → Value, (((!(beqS rest1 ⟨#[]⟩)) = true → IxS rest1 0 fun c => (((c == 43) = true → 
    SlS rest1 1 (rest1.size : Int) fun cut => (CallF Tryd.prog 28 #[.string cut] H3 (fun r1 H4 => ∃ y_01 : Int, ∃ y_11 : Int, r1 = .tuple #[.int .i64 y_01, .int .i64 y_11] ∧ 
    K (.tuple #[.string y_0, .int .i64 copied, .string mark, .string tail, .int .i64 y_01]) H4) Z)) ∧ 
    ((c == 43) = false → K (.tuple #[.string y_0, .int .i64 copied, .string mark, .string tail, .int .i64 (-1)]) H3))) ∧ 
    ((!(beqS rest1 ⟨#[]⟩)) = false → K (.tuple #[.string y_0, .int .i64 copied, .string mark, .string tail, .int .i64 (-1)]) H3))) ∧ 
    ∃ J2 : Bool → Hp → Prop, (∀ (t45 : Bool), ∀ H5, J2 t45 H5 → ∀ scr2 : Nat → Value, ((t45 = true → 
    SlS rest 0 1 fun cut1 => (SlS rest 1 (rest.size : Int) fun cut2 => (CallF Tryd.prog 24 #[.string cut2] H5 (fun r2 H6 => 
    ∃ y_02 : ByteArray, ∃ y_12 : ByteArray, r2 = .tuple #[.string y_02, .string y_12] ∧ (((beqS cut1 ⟨#[40]⟩) = true → 
    (((beqS y_12 ⟨#[41]⟩) = true → (J1 ⟨#[]⟩ cut1 y_02 H6)) ∧ ((beqS y_12 ⟨#[41]⟩) = false → (J1 y_12 cut1 y_02 H6)))) ∧ 
    ((beqS cut1 ⟨#[40]⟩) = false → (J1 y_12 cut1 y_02 H6)))) Z))) ∧ (t45 = false → (J1 rest ⟨#[]⟩ ⟨#[]⟩ H5)))) ∧ 
    (((!(beqS rest ⟨#[]⟩)) = true → IxS rest 0 fun c1 => (J2 (c1 != 43) H2)) ∧ ((!(beqS rest ⟨#[]⟩)) = false → 
    (J2 false H2)))) ∧ ∃ J3 : Bool → Hp → Prop, (∀ (t26 : Bool), ∀ H7, J3 t26 H7 → ∀ scr3 : Nat → Value, ((t26 = true → 
    SlS y_1 1 (y_1.size : Int) fun cut3 => (CallF Tryd.prog 24 #[.string cut3] H7 (fun r3 H8 => ∃ y_03 : ByteArray, ∃ y_13 : ByteArray, r3 = .tuple #[.string y_03, .string y_13] ∧ 
    CallF Tryd.prog 28 #[.string y_03] H8 (fun r4 H9 => ∃ y_04 : Int, ∃ y_14 : Int, r4 = .tuple #[.int .i64 y_04, .int .i64 y_14] ∧ 
    (J y_13 y_04 H9)) Z) Z)) ∧ (t26 = false → (J y_1 0 H7)))) ∧ (((!(beqS y_1 ⟨#[]⟩)) = true → IxS y_1 0 fun c2 => 
    (J3 (c2 == 126) H1)) ∧ ((!(beqS y_1 ⟨#[]⟩)) = false → (J3 false H1)))) Z
def aJ64 : Ann := (fun k => if k = 4 then some [(26, (.sc .bool))] else if k = 7 then some [(8, (.sc .str)), (9, (.sc (.int .i64)))] else if k = 9 then some [(45, (.sc .bool))] else if k = 13 then some [(8, (.sc .str)), (13, (.sc .str)), (14, (.sc .str))] else none)
def aL64 : Ann := (fun _ => none)
theorem V64_ok {H : Hp} {s : ByteArray} {K : Value → Hp → Prop} {Z : List PanicEntry → Hp → Prop} (h : V64 H s K Z) : CallF Tryd.prog 64 #[.string s] H K Z :=
  fnC_sound (P := Tryd.prog) (aJ := aJ64) (aL := aL64) (f := 64) (args := [.string s]) (Eq.mp (by kernel_rfl) h)
/-- weft/weftref14.Read -/
def V40 (H : Hp) (s : ByteArray) (K : Value → Hp → Prop) (Z : List PanicEntry → Hp → Prop) : Prop :=
  ∀ b H1, Newb H (.cells #[.int .i64 0, .string ⟨#[]⟩, .int .i64 0, .string ⟨#[]⟩, .int .i64 0, .int .i64 0] 37) b H1 → 
    CallF Tryd.prog 64 #[.string s] H1 (fun r H2 => ∃ y_0 : ByteArray, ∃ y_1 : Int, ∃ y_2 : ByteArray, ∃ y_3 : ByteArray, ∃ y_4 : Int, r = .tuple #[.string y_0, .int .i64 y_1, .string y_2, .string y_3, .int .i64 y_4] ∧ 
    CallF Tryd.prog 28 #[.string y_3] H2 (fun r1 H3 => ∃ y_01 : Int, ∃ y_11 : Int, r1 = .tuple #[.int .i64 y_01, .int .i64 y_11] ∧ 
    ∀ b1 H4, Newb H3 (.cells #[.int .i64 1, .string y_0, .int .i64 y_1, .string y_3, .int .i64 0, .int .i64 (-1), .int .i64 2, .string y_0, .int .i64 y_1, .string ⟨#[]⟩, .int .i64 y_01, .int .i64 (-1), .int .i64 3, .string y_0, .int .i64 y_1, .string ⟨#[]⟩, .int .i64 y_01, .int .i64 (-1), .int .i64 4, .string y_0, .int .i64 y_1, .string ⟨#[]⟩, .int .i64 0, .int .i64 (-1), .int .i64 5, .string ⟨#[]⟩, .int .i64 0, .string y_0, .int .i64 0, .int .i64 y_4, .int .i64 6, .string y_0, .int .i64 y_1, .string y_3, .int .i64 0, .int .i64 y_4, .int .i64 7, .string y_0, .int .i64 y_1, .string ⟨#[]⟩, .int .i64 y_01, .int .i64 y_4] 37) b1 H4 → 
    ∃ I : Int → Hp → Nat → Prop, (∃ m, I 0 H4 m) ∧ ∀ (i : Int), ∀ H5 m1, I i H5 m1 → ∀ scr : Nat → Value, (((decide (i < (7 : Int))) = true → 
    IxA (some ⟨b1, 0, none⟩) 7 i 6 fun ad => (∃ x_a : Int, ∃ x_b : ByteArray, ∃ x_c : Int, ∃ x_d : ByteArray, ∃ x_e : Int, ∃ x_f : Int, (hcell H5 ad = some (.int .i64 x_a) ∧ 
    hcell H5 (Addr.add ad 1) = some (.string x_b) ∧ hcell H5 (Addr.add ad 2) = some (.int .i64 x_c) ∧ 
    hcell H5 (Addr.add ad 3) = some (.string x_d) ∧ hcell H5 (Addr.add ad 4) = some (.int .i64 x_e) ∧ 
    hcell H5 (Addr.add ad 5) = some (.int .i64 x_f) ∧ True) ∧ CallF Tryd.prog 33 #[.agg #[.int .i64 x_a, .string x_b, .int .i64 x_c, .string x_d, .int .i64 x_e, .int .i64 x_f]] H5 (fun r2 H6 => 
    ∃ y_02 : ByteArray, ∃ y_12 : Int, r2 = .tuple #[.string y_02, .int .i64 y_12] ∧ (((y_12 == 0) = true → 
    (((beqS y_02 s) = true → (((!(beqS y_2 ⟨#[]⟩)) = true → IxA (some ⟨b1, 0, none⟩) 7 i 6 fun ad1 => 
    (∃ x_a1 : Int, ∃ x_b1 : ByteArray, ∃ x_c1 : Int, ∃ x_d1 : ByteArray, ∃ x_e1 : Int, ∃ x_f1 : Int, (hcell H6 ad1 = some (.int .i64 x_a1) ∧ 
    hcell H6 (Addr.add ad1 1) = some (.string x_b1) ∧ hcell H6 (Addr.add ad1 2) = some (.int .i64 x_c1) ∧ 
    hcell H6 (Addr.add ad1 3) = some (.string x_d1) ∧ hcell H6 (Addr.add ad1 4) = some (.int .i64 x_e1) ∧ 
    hcell H6 (Addr.add ad1 5) = some (.int .i64 x_f1) ∧ True) ∧ StL ⟨b, 0, none⟩ 0 [.int .i64 x_a1, .string x_b1, .int .i64 x_c1, .string x_d1, .int .i64 x_e1, .int .i64 x_f1] H6 fun H7 => 
    (∃ res_a : Int, ∃ res_b : ByteArray, ∃ res_c : Int, ∃ res_d : ByteArray, ∃ res_e : Int, ∃ res_f : Int, (hcell H7 ⟨b, 0, none⟩ = some (.int .i64 res_a) ∧ 
    hcell H7 ⟨b, 1, none⟩ = some (.string res_b) ∧ hcell H7 ⟨b, 2, none⟩ = some (.int .i64 res_c) ∧ hcell H7 ⟨b, 3, none⟩ = some (.string res_d) ∧ 
    hcell H7 ⟨b, 4, none⟩ = some (.int .i64 res_e) ∧ hcell H7 ⟨b, 5, none⟩ = some (.int .i64 res_f) ∧ 
    True) ∧ K (.tuple #[.agg #[.int .i64 res_a, .string res_b, .int .i64 res_c, .string res_d, .int .i64 res_e, .int .i64 res_f], .int .i64 0]) H7))) ∧ 
    ((!(beqS y_2 ⟨#[]⟩)) = false → IxA (some ⟨b1, 0, none⟩) 7 i 6 fun ad2 => (∃ x : Int, hcell H6 ad2 = some (.int .i64 x) ∧ 
    (((x == 5) = true → IxA (some ⟨b1, 0, none⟩) 7 i 6 fun ad3 => (∃ x_a2 : Int, ∃ x_b2 : ByteArray, ∃ x_c2 : Int, ∃ x_d2 : ByteArray, ∃ x_e2 : Int, ∃ x_f2 : Int, (hcell H6 ad3 = some (.int .i64 x_a2) ∧ 
    hcell H6 (Addr.add ad3 1) = some (.string x_b2) ∧ hcell H6 (Addr.add ad3 2) = some (.int .i64 x_c2) ∧ 
    hcell H6 (Addr.add ad3 3) = some (.string x_d2) ∧ hcell H6 (Addr.add ad3 4) = some (.int .i64 x_e2) ∧ 
    hcell H6 (Addr.add ad3 5) = some (.int .i64 x_f2) ∧ True) ∧ StL ⟨b, 0, none⟩ 0 [.int .i64 x_a2, .string x_b2, .int .i64 x_c2, .string x_d2, .int .i64 x_e2, .int .i64 x_f2] H6 fun H8 => 
    (∃ res_a1 : Int, ∃ res_b1 : ByteArray, ∃ res_c1 : Int, ∃ res_d1 : ByteArray, ∃ res_e1 : Int, ∃ res_f1 : Int, (hcell H8 ⟨b, 0, none⟩ = some (.int .i64 res_a1) ∧ 
    hcell H8 ⟨b, 1, none⟩ = some (.string res_b1) ∧ hcell H8 ⟨b, 2, none⟩ = some (.int .i64 res_c1) ∧ 
    hcell H8 ⟨b, 3, none⟩ = some (.string res_d1) ∧ hcell H8 ⟨b, 4, none⟩ = some (.int .i64 res_e1) ∧ 
    hcell H8 ⟨b, 5, none⟩ = some (.int .i64 res_f1) ∧ True) ∧ K (.tuple #[.agg #[.int .i64 res_a1, .string res_b1, .int .i64 res_c1, .string res_d1, .int .i64 res_e1, .int .i64 res_f1], .int .i64 0]) H8))) ∧ 
    ((x == 5) = false → (∃ m2, m2 < m1 ∧ I (w64 (i + 1)) H6 m2))))))) ∧ ((beqS y_02 s) = false → (∃ m2, m2 < m1 ∧ 
    I (w64 (i + 1)) H6 m2)))) ∧ ((y_12 == 0) = false → (∃ m2, m2 < m1 ∧ I (w64 (i + 1)) H6 m2)))) Z)) ∧ 
    ((decide (i < (7 : Int))) = false → StL ⟨b, 0, none⟩ 0 [.int .i64 0, .string ⟨#[]⟩, .int .i64 0, .string ⟨#[]⟩, .int .i64 0, .int .i64 0] H5 fun H9 => 
    (∃ res_a2 : Int, ∃ res_b2 : ByteArray, ∃ res_c2 : Int, ∃ res_d2 : ByteArray, ∃ res_e2 : Int, ∃ res_f2 : Int, (hcell H9 ⟨b, 0, none⟩ = some (.int .i64 res_a2) ∧ 
    hcell H9 ⟨b, 1, none⟩ = some (.string res_b2) ∧ hcell H9 ⟨b, 2, none⟩ = some (.int .i64 res_c2) ∧ 
    hcell H9 ⟨b, 3, none⟩ = some (.string res_d2) ∧ hcell H9 ⟨b, 4, none⟩ = some (.int .i64 res_e2) ∧ 
    hcell H9 ⟨b, 5, none⟩ = some (.int .i64 res_f2) ∧ True) ∧ K (.tuple #[.agg #[.int .i64 res_a2, .string res_b2, .int .i64 res_c2, .string res_d2, .int .i64 res_e2, .int .i64 res_f2], .int .i64 11]) H9)))) Z) Z
def aJ40 : Ann := (fun _ => none)
def aL40 : Ann := (fun k => if k = 5 then some [(12, (.sc (.int .i64)))] else none)
theorem V40_ok {H : Hp} {s : ByteArray} {K : Value → Hp → Prop} {Z : List PanicEntry → Hp → Prop} (h : V40 H s K Z) : CallF Tryd.prog 40 #[.string s] H K Z :=
  fnC_sound (P := Tryd.prog) (aJ := aJ40) (aL := aL40) (f := 40) (args := [.string s]) (Eq.mp (by kernel_rfl) h)
/-- weft/weftref14.Base -/
def V44 (H : Hp) (s : ByteArray) (K : Value → Hp → Prop) (Z : List PanicEntry → Hp → Prop) : Prop :=
  CallF Tryd.prog 40 #[.string s] H (fun r H1 => ∃ y_0_a : Int, ∃ y_0_b : ByteArray, ∃ y_0_c : Int, ∃ y_0_d : ByteArray, ∃ y_0_e : Int, ∃ y_0_f : Int, ∃ y_1 : Int, r = .tuple #[.agg #[.int .i64 y_0_a, .string y_0_b, .int .i64 y_0_c, .string y_0_d, .int .i64 y_0_e, .int .i64 y_0_f], .int .i64 y_1] ∧ 
    ∀ bN H2, Newb H1 (.cells #[.int .i64 0, .string ⟨#[]⟩, .int .i64 0, .string ⟨#[]⟩, .int .i64 0, .int .i64 0] 37) bN H2 → 
    StL ⟨bN, 0, none⟩ 0 [.int .i64 y_0_a, .string y_0_b, .int .i64 y_0_c, .string y_0_d, .int .i64 y_0_e, .int .i64 y_0_f] H2 fun H3 => 
    (((y_1 != 0) = true → K (.string ⟨#[]⟩) H3) ∧ ((y_1 != 0) = false → StL ⟨bN, 2, none⟩ 0 [.int .i64 0] H3 fun H4 => 
    (∃ x_a : Int, ∃ x_b : ByteArray, ∃ x_c : Int, ∃ x_d : ByteArray, ∃ x_e : Int, ∃ x_f : Int, (hcell H4 ⟨bN, 0, none⟩ = some (.int .i64 x_a) ∧ 
    hcell H4 ⟨bN, 1, none⟩ = some (.string x_b) ∧ hcell H4 ⟨bN, 2, none⟩ = some (.int .i64 x_c) ∧ hcell H4 ⟨bN, 3, none⟩ = some (.string x_d) ∧ 
    hcell H4 ⟨bN, 4, none⟩ = some (.int .i64 x_e) ∧ hcell H4 ⟨bN, 5, none⟩ = some (.int .i64 x_f) ∧ True) ∧ 
    CallF Tryd.prog 33 #[.agg #[.int .i64 x_a, .string x_b, .int .i64 x_c, .string x_d, .int .i64 x_e, .int .i64 x_f]] H4 (fun r1 H5 => 
    ∃ y_0 : ByteArray, ∃ y_11 : Int, r1 = .tuple #[.string y_0, .int .i64 y_11] ∧ K (.string y_0) H5) Z)))) Z
def aJ44 : Ann := (fun _ => none)
def aL44 : Ann := (fun _ => none)
theorem V44_ok {H : Hp} {s : ByteArray} {K : Value → Hp → Prop} {Z : List PanicEntry → Hp → Prop} (h : V44 H s K Z) : CallF Tryd.prog 44 #[.string s] H K Z :=
  fnC_sound (P := Tryd.prog) (aJ := aJ44) (aL := aL44) (f := 44) (args := [.string s]) (Eq.mp (by kernel_rfl) h)
/-- weft/weftref14.Of -/
def V37 (H : Hp) (kind : Int) (fn : ByteArray) (name : ByteArray) (n : Int) (K : Value → Hp → Prop) (Z : List PanicEntry → Hp → Prop) : Prop :=
  CallF Tryd.prog 33 #[.agg #[.int .i64 kind, .string fn, .int .i64 0, .string name, .int .i64 n, .int .i64 (-1)]] H (fun r H1 => 
    ∃ y_0 : ByteArray, ∃ y_1 : Int, r = .tuple #[.string y_0, .int .i64 y_1] ∧ K (.string y_0) H1) Z
def aJ37 : Ann := (fun _ => none)
def aL37 : Ann := (fun _ => none)
theorem V37_ok {H : Hp} {kind : Int} {fn : ByteArray} {name : ByteArray} {n : Int} {K : Value → Hp → Prop} {Z : List PanicEntry → Hp → Prop} (h : V37 H kind fn name n K Z) : CallF Tryd.prog 37 #[.int .i64 kind, .string fn, .string name, .int .i64 n] H K Z :=
  fnC_sound (P := Tryd.prog) (aJ := aJ37) (aL := aL37) (f := 37) (args := [.int .i64 kind, .string fn, .string name, .int .i64 n]) (Eq.mp (by kernel_rfl) h)
/-- weft/weftref14.Cell -/
def V39 (H : Hp) (obj : ByteArray) (k : Int) (K : Value → Hp → Prop) (Z : List PanicEntry → Hp → Prop) : Prop :=
  CallF Tryd.prog 40 #[.string obj] H (fun r H1 => ∃ y_0_a : Int, ∃ y_0_b : ByteArray, ∃ y_0_c : Int, ∃ y_0_d : ByteArray, ∃ y_0_e : Int, ∃ y_0_f : Int, ∃ y_1 : Int, r = .tuple #[.agg #[.int .i64 y_0_a, .string y_0_b, .int .i64 y_0_c, .string y_0_d, .int .i64 y_0_e, .int .i64 y_0_f], .int .i64 y_1] ∧ 
    ∀ bN H2, Newb H1 (.cells #[.int .i64 0, .string ⟨#[]⟩, .int .i64 0, .string ⟨#[]⟩, .int .i64 0, .int .i64 0] 37) bN H2 → 
    StL ⟨bN, 0, none⟩ 0 [.int .i64 y_0_a, .string y_0_b, .int .i64 y_0_c, .string y_0_d, .int .i64 y_0_e, .int .i64 y_0_f] H2 fun H3 => 
    (((y_1 != 0) = true → K (.string ⟨#[]⟩) H3) ∧ ((y_1 != 0) = false → ∃ x : Int, hcell H3 ⟨bN, 0, none⟩ = some (.int .i64 x) ∧ 
    (((decide (x < 5)) = true → K (.string ⟨#[]⟩) H3) ∧ ((decide (x < 5)) = false → ∃ x1 : Int, hcell H3 ⟨bN, 5, none⟩ = some (.int .i64 x1) ∧ 
    (((x1 != (-1)) = true → K (.string ⟨#[]⟩) H3) ∧ ((x1 != (-1)) = false → (((decide (k < 0)) = true → 
    K (.string ⟨#[]⟩) H3) ∧ ((decide (k < 0)) = false → StL ⟨bN, 5, none⟩ 0 [.int .i64 k] H3 fun H4 => 
    (∃ x_a : Int, ∃ x_b : ByteArray, ∃ x_c : Int, ∃ x_d : ByteArray, ∃ x_e : Int, ∃ x_f : Int, (hcell H4 ⟨bN, 0, none⟩ = some (.int .i64 x_a) ∧ 
    hcell H4 ⟨bN, 1, none⟩ = some (.string x_b) ∧ hcell H4 ⟨bN, 2, none⟩ = some (.int .i64 x_c) ∧ hcell H4 ⟨bN, 3, none⟩ = some (.string x_d) ∧ 
    hcell H4 ⟨bN, 4, none⟩ = some (.int .i64 x_e) ∧ hcell H4 ⟨bN, 5, none⟩ = some (.int .i64 x_f) ∧ True) ∧ 
    CallF Tryd.prog 33 #[.agg #[.int .i64 x_a, .string x_b, .int .i64 x_c, .string x_d, .int .i64 x_e, .int .i64 x_f]] H4 (fun r1 H5 => 
    ∃ y_0 : ByteArray, ∃ y_11 : Int, r1 = .tuple #[.string y_0, .int .i64 y_11] ∧ K (.string y_0) H5) Z)))))))))) Z
def aJ39 : Ann := (fun _ => none)
def aL39 : Ann := (fun _ => none)
theorem V39_ok {H : Hp} {obj : ByteArray} {k : Int} {K : Value → Hp → Prop} {Z : List PanicEntry → Hp → Prop} (h : V39 H obj k K Z) : CallF Tryd.prog 39 #[.string obj, .int .i64 k] H K Z :=
  fnC_sound (P := Tryd.prog) (aJ := aJ39) (aL := aL39) (f := 39) (args := [.string obj, .int .i64 k]) (Eq.mp (by kernel_rfl) h)
/-- weft/weftref14.Object -/
def V42 (H : Hp) (s : ByteArray) (K : Value → Hp → Prop) (Z : List PanicEntry → Hp → Prop) : Prop :=
  CallF Tryd.prog 40 #[.string s] H (fun r H1 => ∃ y_0_a : Int, ∃ y_0_b : ByteArray, ∃ y_0_c : Int, ∃ y_0_d : ByteArray, ∃ y_0_e : Int, ∃ y_0_f : Int, ∃ y_1 : Int, r = .tuple #[.agg #[.int .i64 y_0_a, .string y_0_b, .int .i64 y_0_c, .string y_0_d, .int .i64 y_0_e, .int .i64 y_0_f], .int .i64 y_1] ∧ 
    ∀ bN H2, Newb H1 (.cells #[.int .i64 0, .string ⟨#[]⟩, .int .i64 0, .string ⟨#[]⟩, .int .i64 0, .int .i64 0] 37) bN H2 → 
    StL ⟨bN, 0, none⟩ 0 [.int .i64 y_0_a, .string y_0_b, .int .i64 y_0_c, .string y_0_d, .int .i64 y_0_e, .int .i64 y_0_f] H2 fun H3 => 
    (((y_1 != 0) = true → K (.tuple #[.string ⟨#[]⟩, .int .i64 0, .bool false]) H3) ∧ ((y_1 != 0) = false → 
    ∃ x : Int, hcell H3 ⟨bN, 5, none⟩ = some (.int .i64 x) ∧ (((decide (x < 0)) = true → K (.tuple #[.string ⟨#[]⟩, .int .i64 0, .bool false]) H3) ∧ 
    ((decide (x < 0)) = false → ∃ x1 : Int, hcell H3 ⟨bN, 5, none⟩ = some (.int .i64 x1) ∧ StL ⟨bN, 5, none⟩ 0 [.int .i64 (-1)] H3 fun H4 => 
    (∃ x_a : Int, ∃ x_b : ByteArray, ∃ x_c : Int, ∃ x_d : ByteArray, ∃ x_e : Int, ∃ x_f : Int, (hcell H4 ⟨bN, 0, none⟩ = some (.int .i64 x_a) ∧ 
    hcell H4 ⟨bN, 1, none⟩ = some (.string x_b) ∧ hcell H4 ⟨bN, 2, none⟩ = some (.int .i64 x_c) ∧ hcell H4 ⟨bN, 3, none⟩ = some (.string x_d) ∧ 
    hcell H4 ⟨bN, 4, none⟩ = some (.int .i64 x_e) ∧ hcell H4 ⟨bN, 5, none⟩ = some (.int .i64 x_f) ∧ True) ∧ 
    CallF Tryd.prog 33 #[.agg #[.int .i64 x_a, .string x_b, .int .i64 x_c, .string x_d, .int .i64 x_e, .int .i64 x_f]] H4 (fun r1 H5 => 
    ∃ y_0 : ByteArray, ∃ y_11 : Int, r1 = .tuple #[.string y_0, .int .i64 y_11] ∧ K (.tuple #[.string y_0, .int .i64 x1, .bool true]) H5) Z)))))) Z
def aJ42 : Ann := (fun _ => none)
def aL42 : Ann := (fun _ => none)
theorem V42_ok {H : Hp} {s : ByteArray} {K : Value → Hp → Prop} {Z : List PanicEntry → Hp → Prop} (h : V42 H s K Z) : CallF Tryd.prog 42 #[.string s] H K Z :=
  fnC_sound (P := Tryd.prog) (aJ := aJ42) (aL := aL42) (f := 42) (args := [.string s]) (Eq.mp (by kernel_rfl) h)
/-- weft/weftlaw14.own -/
def V32 (H : Hp) (n_a : Int) (n_b : ByteArray) (n_c : Int) (n_d : ByteArray) (n_e : Int) (n_f : Int) (K : Value → Hp → Prop) (Z : List PanicEntry → Hp → Prop) : Prop :=
  ∀ bN H1, Newb H (.cells #[.int .i64 n_a, .string n_b, .int .i64 n_c, .string n_d, .int .i64 n_e, .int .i64 n_f] 37) bN H1 → 
    ∀ b H2, Newb H1 (.cells #[.int .i64 0, .string ⟨#[]⟩, .int .i64 0, .string ⟨#[]⟩, .int .i64 0, .int .i64 0] 41) b H2 → 
    ∃ x : Int, hcell H2 ⟨bN, 0, none⟩ = some (.int .i64 x) ∧ ∃ x1 : ByteArray, hcell H2 ⟨bN, 1, none⟩ = some (.string x1) ∧ 
    ∃ x2 : Int, hcell H2 ⟨bN, 2, none⟩ = some (.int .i64 x2) ∧ ∃ x3 : ByteArray, hcell H2 ⟨bN, 3, none⟩ = some (.string x3) ∧ 
    ∃ x4 : Int, hcell H2 ⟨bN, 4, none⟩ = some (.int .i64 x4) ∧ ∃ x5 : Int, hcell H2 ⟨bN, 5, none⟩ = some (.int .i64 x5) ∧ 
    StL ⟨b, 0, none⟩ 0 [.int .i64 x, .string x1, .int .i64 x2, .string x3, .int .i64 x4, .int .i64 x5] H2 fun H3 => 
    (∃ res_a : Int, ∃ res_b : ByteArray, ∃ res_c : Int, ∃ res_d : ByteArray, ∃ res_e : Int, ∃ res_f : Int, (hcell H3 ⟨b, 0, none⟩ = some (.int .i64 res_a) ∧ 
    hcell H3 ⟨b, 1, none⟩ = some (.string res_b) ∧ hcell H3 ⟨b, 2, none⟩ = some (.int .i64 res_c) ∧ hcell H3 ⟨b, 3, none⟩ = some (.string res_d) ∧ 
    hcell H3 ⟨b, 4, none⟩ = some (.int .i64 res_e) ∧ hcell H3 ⟨b, 5, none⟩ = some (.int .i64 res_f) ∧ 
    True) ∧ K (.agg #[.int .i64 res_a, .string res_b, .int .i64 res_c, .string res_d, .int .i64 res_e, .int .i64 res_f]) H3)
def aJ32 : Ann := (fun _ => none)
def aL32 : Ann := (fun _ => none)
theorem V32_ok {H : Hp} {n_a : Int} {n_b : ByteArray} {n_c : Int} {n_d : ByteArray} {n_e : Int} {n_f : Int} {K : Value → Hp → Prop} {Z : List PanicEntry → Hp → Prop} (h : V32 H n_a n_b n_c n_d n_e n_f K Z) : CallF Tryd.prog 32 #[.agg #[.int .i64 n_a, .string n_b, .int .i64 n_c, .string n_d, .int .i64 n_e, .int .i64 n_f]] H K Z :=
  fnC_sound (P := Tryd.prog) (aJ := aJ32) (aL := aL32) (f := 32) (args := [.agg #[.int .i64 n_a, .string n_b, .int .i64 n_c, .string n_d, .int .i64 n_e, .int .i64 n_f]]) (Eq.mp (by kernel_rfl) h)
/-- weft/weftlaw14.great -/
def V30 (H : Hp) (n_a : Int) (n_b : ByteArray) (n_c : Int) (n_d : ByteArray) (n_e : Int) (n_f : Int) (K : Value → Hp → Prop) (Z : List PanicEntry → Hp → Prop) : Prop :=
  ∀ bN H1, Newb H (.cells #[.int .i64 n_a, .string n_b, .int .i64 n_c, .string n_d, .int .i64 n_e, .int .i64 n_f] 37) bN H1 → 
    ∃ x : ByteArray, hcell H1 ⟨bN, 1, none⟩ = some (.string x) ∧ (((decide ((x.size : Int) > 200)) = true → 
    K (.bool true) H1) ∧ ((decide ((x.size : Int) > 200)) = false → ∃ x1 : ByteArray, hcell H1 ⟨bN, 3, none⟩ = some (.string x1) ∧ 
    K (.bool (decide ((x1.size : Int) > 200))) H1))
def aJ30 : Ann := (fun _ => none)
def aL30 : Ann := (fun _ => none)
theorem V30_ok {H : Hp} {n_a : Int} {n_b : ByteArray} {n_c : Int} {n_d : ByteArray} {n_e : Int} {n_f : Int} {K : Value → Hp → Prop} {Z : List PanicEntry → Hp → Prop} (h : V30 H n_a n_b n_c n_d n_e n_f K Z) : CallF Tryd.prog 30 #[.agg #[.int .i64 n_a, .string n_b, .int .i64 n_c, .string n_d, .int .i64 n_e, .int .i64 n_f]] H K Z :=
  fnC_sound (P := Tryd.prog) (aJ := aJ30) (aL := aL30) (f := 30) (args := [.agg #[.int .i64 n_a, .string n_b, .int .i64 n_c, .string n_d, .int .i64 n_e, .int .i64 n_f]]) (Eq.mp (by kernel_rfl) h)
/-- weft/weftlaw14.works -/
def V34 (H : Hp)  (K : Value → Hp → Prop) (Z : List PanicEntry → Hp → Prop) : Prop :=
  CallF Tryd.prog 35 #[.string ⟨#[102, 126, 51, 46, 112]⟩] H (fun r H1 => ∃ y_0_a : Int, ∃ y_0_b : ByteArray, ∃ y_0_c : Int, ∃ y_0_d : ByteArray, ∃ y_0_e : Int, ∃ y_0_f : Int, ∃ y_1 : Int, r = .tuple #[.agg #[.int .i64 y_0_a, .string y_0_b, .int .i64 y_0_c, .string y_0_d, .int .i64 y_0_e, .int .i64 y_0_f], .int .i64 y_1] ∧ 
    ∀ bN H2, Newb H1 (.cells #[.int .i64 0, .string ⟨#[]⟩, .int .i64 0, .string ⟨#[]⟩, .int .i64 0, .int .i64 0] 41) bN H2 → 
    StL ⟨bN, 0, none⟩ 0 [.int .i64 y_0_a, .string y_0_b, .int .i64 y_0_c, .string y_0_d, .int .i64 y_0_e, .int .i64 y_0_f] H2 fun H3 => 
    (((y_1 == 0) = true → ∃ x_a : Int, ∃ x_b : ByteArray, ∃ x_c : Int, ∃ x_d : ByteArray, ∃ x_e : Int, ∃ x_f : Int, (hcell H3 ⟨bN, 0, none⟩ = some (.int .i64 x_a) ∧ 
    hcell H3 ⟨bN, 1, none⟩ = some (.string x_b) ∧ hcell H3 ⟨bN, 2, none⟩ = some (.int .i64 x_c) ∧ hcell H3 ⟨bN, 3, none⟩ = some (.string x_d) ∧ 
    hcell H3 ⟨bN, 4, none⟩ = some (.int .i64 x_e) ∧ hcell H3 ⟨bN, 5, none⟩ = some (.int .i64 x_f) ∧ True) ∧ 
    (((((x_a == 1) && ((x_b == ⟨#[102]⟩) && ((x_c == 3) && ((x_d == ⟨#[112]⟩) && ((x_e == 0) && ((x_f == (-1)) && true))))))) = true → 
    CallF Tryd.prog 43 #[.string ⟨#[102, 126, 51, 46, 112]⟩] H3 (fun r1 H4 => ∃ y : ByteArray, r1 = .string y ∧ 
    (((beqS y ⟨#[102, 46, 112]⟩) = true → CallF Tryd.prog 38 #[.string ⟨#[102, 37, 120]⟩, .int .i64 2] H4 (fun r2 H5 => 
    ∃ y1 : ByteArray, r2 = .string y1 ∧ K (.bool (beqS y1 ⟨#[102, 37, 120, 43, 50]⟩)) H5) Z) ∧ ((beqS y ⟨#[102, 46, 112]⟩) = false → 
    K (.bool false) H4))) Z) ∧ ((((x_a == 1) && ((x_b == ⟨#[102]⟩) && ((x_c == 3) && ((x_d == ⟨#[112]⟩) && ((x_e == 0) && ((x_f == (-1)) && true))))))) = false → 
    K (.bool false) H3))) ∧ ((y_1 == 0) = false → K (.bool false) H3))) Z
def aJ34 : Ann := (fun _ => none)
def aL34 : Ann := (fun _ => none)
theorem V34_ok {H : Hp}  {K : Value → Hp → Prop} {Z : List PanicEntry → Hp → Prop} (h : V34 H  K Z) : CallF Tryd.prog 34 #[] H K Z :=
  fnC_sound (P := Tryd.prog) (aJ := aJ34) (aL := aL34) (f := 34) (args := []) (Eq.mp (by kernel_rfl) h)
/-- weft/weftlaw14.NamesTexts -/
def V8 (H : Hp) (n_a : Int) (n_b : ByteArray) (n_c : Int) (n_d : ByteArray) (n_e : Int) (n_f : Int) (K : Value → Hp → Prop) (Z : List PanicEntry → Hp → Prop) : Prop :=
  ∀ bN H1, Newb H (.cells #[.int .i64 n_a, .string n_b, .int .i64 n_c, .string n_d, .int .i64 n_e, .int .i64 n_f] 37) bN H1 → 
    ∃ x_a : Int, ∃ x_b : ByteArray, ∃ x_c : Int, ∃ x_d : ByteArray, ∃ x_e : Int, ∃ x_f : Int, (hcell H1 ⟨bN, 0, none⟩ = some (.int .i64 x_a) ∧ 
    hcell H1 ⟨bN, 1, none⟩ = some (.string x_b) ∧ hcell H1 ⟨bN, 2, none⟩ = some (.int .i64 x_c) ∧ hcell H1 ⟨bN, 3, none⟩ = some (.string x_d) ∧ 
    hcell H1 ⟨bN, 4, none⟩ = some (.int .i64 x_e) ∧ hcell H1 ⟨bN, 5, none⟩ = some (.int .i64 x_f) ∧ True) ∧ 
    CallF Tryd.prog 30 #[.agg #[.int .i64 x_a, .string x_b, .int .i64 x_c, .string x_d, .int .i64 x_e, .int .i64 x_f]] H1 (fun r H2 => 
    ∃ y : Bool, r = .bool y ∧ ((y = true → K (.bool true) H2) ∧ (y = false → ∃ x_a1 : Int, ∃ x_b1 : ByteArray, ∃ x_c1 : Int, ∃ x_d1 : ByteArray, ∃ x_e1 : Int, ∃ x_f1 : Int, (hcell H2 ⟨bN, 0, none⟩ = some (.int .i64 x_a1) ∧ 
    hcell H2 ⟨bN, 1, none⟩ = some (.string x_b1) ∧ hcell H2 ⟨bN, 2, none⟩ = some (.int .i64 x_c1) ∧ hcell H2 ⟨bN, 3, none⟩ = some (.string x_d1) ∧ 
    hcell H2 ⟨bN, 4, none⟩ = some (.int .i64 x_e1) ∧ hcell H2 ⟨bN, 5, none⟩ = some (.int .i64 x_f1) ∧ 
    True) ∧ CallF Tryd.prog 32 #[.agg #[.int .i64 x_a1, .string x_b1, .int .i64 x_c1, .string x_d1, .int .i64 x_e1, .int .i64 x_f1]] H2 (fun r1 H3 => 
    ∃ y_a : Int, ∃ y_b : ByteArray, ∃ y_c : Int, ∃ y_d : ByteArray, ∃ y_e : Int, ∃ y_f : Int, r1 = .agg #[.int .i64 y_a, .string y_b, .int .i64 y_c, .string y_d, .int .i64 y_e, .int .i64 y_f] ∧ 
    CallF Tryd.prog 31 #[.agg #[.int .i64 y_a, .string y_b, .int .i64 y_c, .string y_d, .int .i64 y_e, .int .i64 y_f]] H3 (fun r2 H4 => 
    ∃ y_0 : ByteArray, ∃ y_1 : Int, r2 = .tuple #[.string y_0, .int .i64 y_1] ∧ ∃ x_a2 : Int, ∃ x_b2 : ByteArray, ∃ x_c2 : Int, ∃ x_d2 : ByteArray, ∃ x_e2 : Int, ∃ x_f2 : Int, (hcell H4 ⟨bN, 0, none⟩ = some (.int .i64 x_a2) ∧ 
    hcell H4 ⟨bN, 1, none⟩ = some (.string x_b2) ∧ hcell H4 ⟨bN, 2, none⟩ = some (.int .i64 x_c2) ∧ hcell H4 ⟨bN, 3, none⟩ = some (.string x_d2) ∧ 
    hcell H4 ⟨bN, 4, none⟩ = some (.int .i64 x_e2) ∧ hcell H4 ⟨bN, 5, none⟩ = some (.int .i64 x_f2) ∧ 
    True) ∧ CallF Tryd.prog 33 #[.agg #[.int .i64 x_a2, .string x_b2, .int .i64 x_c2, .string x_d2, .int .i64 x_e2, .int .i64 x_f2]] H4 (fun r3 H5 => 
    ∃ y_01 : ByteArray, ∃ y_11 : Int, r3 = .tuple #[.string y_01, .int .i64 y_11] ∧ (((beqS y_0 y_01) = true → 
    (((y_1 == y_11) = true → CallF Tryd.prog 34 #[] H5 (fun r4 H6 => ∃ y1 : Bool, r4 = .bool y1 ∧ K (.bool y1) H6) Z) ∧ 
    ((y_1 == y_11) = false → K (.bool false) H5))) ∧ ((beqS y_0 y_01) = false → K (.bool false) H5))) Z) Z) Z))) Z
def aJ8 : Ann := (fun _ => none)
def aL8 : Ann := (fun _ => none)
theorem V8_ok {H : Hp} {n_a : Int} {n_b : ByteArray} {n_c : Int} {n_d : ByteArray} {n_e : Int} {n_f : Int} {K : Value → Hp → Prop} {Z : List PanicEntry → Hp → Prop} (h : V8 H n_a n_b n_c n_d n_e n_f K Z) : CallF Tryd.prog 8 #[.agg #[.int .i64 n_a, .string n_b, .int .i64 n_c, .string n_d, .int .i64 n_e, .int .i64 n_f]] H K Z :=
  fnC_sound (P := Tryd.prog) (aJ := aJ8) (aL := aL8) (f := 8) (args := [.agg #[.int .i64 n_a, .string n_b, .int .i64 n_c, .string n_d, .int .i64 n_e, .int .i64 n_f]]) (Eq.mp (by kernel_rfl) h)
/-- weft/weftlaw14.NamesReads -/
def V11 (H : Hp) (s : ByteArray) (K : Value → Hp → Prop) (Z : List PanicEntry → Hp → Prop) : Prop :=
  (((decide ((s.size : Int) > 300)) = true → K (.bool true) H) ∧ ((decide ((s.size : Int) > 300)) = false → 
    CallF Tryd.prog 35 #[.string s] H (fun r H1 => ∃ y_0_a : Int, ∃ y_0_b : ByteArray, ∃ y_0_c : Int, ∃ y_0_d : ByteArray, ∃ y_0_e : Int, ∃ y_0_f : Int, ∃ y_1 : Int, r = .tuple #[.agg #[.int .i64 y_0_a, .string y_0_b, .int .i64 y_0_c, .string y_0_d, .int .i64 y_0_e, .int .i64 y_0_f], .int .i64 y_1] ∧ 
    ∀ bA H2, Newb H1 (.cells #[.int .i64 0, .string ⟨#[]⟩, .int .i64 0, .string ⟨#[]⟩, .int .i64 0, .int .i64 0] 41) bA H2 → 
    StL ⟨bA, 0, none⟩ 0 [.int .i64 y_0_a, .string y_0_b, .int .i64 y_0_c, .string y_0_d, .int .i64 y_0_e, .int .i64 y_0_f] H2 fun H3 => 
    (CallF Tryd.prog 40 #[.string s] H3 (fun r1 H4 => ∃ y_0_a1 : Int, ∃ y_0_b1 : ByteArray, ∃ y_0_c1 : Int, ∃ y_0_d1 : ByteArray, ∃ y_0_e1 : Int, ∃ y_0_f1 : Int, ∃ y_11 : Int, r1 = .tuple #[.agg #[.int .i64 y_0_a1, .string y_0_b1, .int .i64 y_0_c1, .string y_0_d1, .int .i64 y_0_e1, .int .i64 y_0_f1], .int .i64 y_11] ∧ 
    ∀ bB H5, Newb H4 (.cells #[.int .i64 0, .string ⟨#[]⟩, .int .i64 0, .string ⟨#[]⟩, .int .i64 0, .int .i64 0] 37) bB H5 → 
    StL ⟨bB, 0, none⟩ 0 [.int .i64 y_0_a1, .string y_0_b1, .int .i64 y_0_c1, .string y_0_d1, .int .i64 y_0_e1, .int .i64 y_0_f1] H5 fun H6 => 
    (CallF Tryd.prog 41 #[.string s] H6 (fun r2 H7 => ∃ y_0 : ByteArray, ∃ y_12 : Int, ∃ y_2 : Bool, r2 = .tuple #[.string y_0, .int .i64 y_12, .bool y_2] ∧ 
    CallF Tryd.prog 42 #[.string s] H7 (fun r3 H8 => ∃ y_01 : ByteArray, ∃ y_13 : Int, ∃ y_21 : Bool, r3 = .tuple #[.string y_01, .int .i64 y_13, .bool y_21] ∧ 
    ∃ x_a : Int, ∃ x_b : ByteArray, ∃ x_c : Int, ∃ x_d : ByteArray, ∃ x_e : Int, ∃ x_f : Int, (hcell H8 ⟨bB, 0, none⟩ = some (.int .i64 x_a) ∧ 
    hcell H8 ⟨bB, 1, none⟩ = some (.string x_b) ∧ hcell H8 ⟨bB, 2, none⟩ = some (.int .i64 x_c) ∧ hcell H8 ⟨bB, 3, none⟩ = some (.string x_d) ∧ 
    hcell H8 ⟨bB, 4, none⟩ = some (.int .i64 x_e) ∧ hcell H8 ⟨bB, 5, none⟩ = some (.int .i64 x_f) ∧ True) ∧ 
    ((∃ x_a1 : Int, ∃ x_b1 : ByteArray, ∃ x_c1 : Int, ∃ x_d1 : ByteArray, ∃ x_e1 : Int, ∃ x_f1 : Int, (hcell H8 ⟨bA, 0, none⟩ = some (.int .i64 x_a1) ∧ 
    hcell H8 ⟨bA, 1, none⟩ = some (.string x_b1) ∧ hcell H8 ⟨bA, 2, none⟩ = some (.int .i64 x_c1) ∧ hcell H8 ⟨bA, 3, none⟩ = some (.string x_d1) ∧ 
    hcell H8 ⟨bA, 4, none⟩ = some (.int .i64 x_e1) ∧ hcell H8 ⟨bA, 5, none⟩ = some (.int .i64 x_f1) ∧ 
    True) ∧ CallF Tryd.prog 32 #[.agg #[.int .i64 x_a, .string x_b, .int .i64 x_c, .string x_d, .int .i64 x_e, .int .i64 x_f]] H8 (fun r4 H9 => 
    ∃ y_a : Int, ∃ y_b : ByteArray, ∃ y_c : Int, ∃ y_d : ByteArray, ∃ y_e : Int, ∃ y_f : Int, r4 = .agg #[.int .i64 y_a, .string y_b, .int .i64 y_c, .string y_d, .int .i64 y_e, .int .i64 y_f] ∧ 
    (((((x_a1 == y_a) && ((x_b1 == y_b) && ((x_c1 == y_c) && ((x_d1 == y_d) && ((x_e1 == y_e) && ((x_f1 == y_f) && true))))))) = true → 
    (((y_1 == y_11) = true → CallF Tryd.prog 43 #[.string s] H9 (fun r5 H10 => ∃ y : ByteArray, r5 = .string y ∧ 
    CallF Tryd.prog 44 #[.string s] H10 (fun r6 H11 => ∃ y1 : ByteArray, r6 = .string y1 ∧ (((beqS y y1) = true → 
    (((beqS y_0 y_01) = true → (((y_12 == y_13) = true → (((y_2 == y_21) = true → CallF Tryd.prog 34 #[] H11 (fun r7 H12 => 
    ∃ y2 : Bool, r7 = .bool y2 ∧ K (.bool y2) H12) Z) ∧ ((y_2 == y_21) = false → K (.bool false) H11))) ∧ 
    ((y_12 == y_13) = false → K (.bool false) H11))) ∧ ((beqS y_0 y_01) = false → K (.bool false) H11))) ∧ 
    ((beqS y y1) = false → K (.bool false) H11))) Z) Z) ∧ ((y_1 == y_11) = false → K (.bool false) H9))) ∧ 
    ((((x_a1 == y_a) && ((x_b1 == y_b) && ((x_c1 == y_c) && ((x_d1 == y_d) && ((x_e1 == y_e) && ((x_f1 == y_f) && true))))))) = false → 
    K (.bool false) H9))) Z) ∧ (CallF Tryd.prog 32 #[.agg #[.int .i64 x_a, .string x_b, .int .i64 x_c, .string x_d, .int .i64 x_e, .int .i64 x_f]] H8 (fun r8 H13 => 
    ∃ y_a1 : Int, ∃ y_b1 : ByteArray, ∃ y_c1 : Int, ∃ y_d1 : ByteArray, ∃ y_e1 : Int, ∃ y_f1 : Int, r8 = .agg #[.int .i64 y_a1, .string y_b1, .int .i64 y_c1, .string y_d1, .int .i64 y_e1, .int .i64 y_f1] ∧ 
    ∃ x_a2 : Int, ∃ x_b2 : ByteArray, ∃ x_c2 : Int, ∃ x_d2 : ByteArray, ∃ x_e2 : Int, ∃ x_f2 : Int, (hcell H13 ⟨bA, 0, none⟩ = some (.int .i64 x_a2) ∧ 
    hcell H13 ⟨bA, 1, none⟩ = some (.string x_b2) ∧ hcell H13 ⟨bA, 2, none⟩ = some (.int .i64 x_c2) ∧ 
    hcell H13 ⟨bA, 3, none⟩ = some (.string x_d2) ∧ hcell H13 ⟨bA, 4, none⟩ = some (.int .i64 x_e2) ∧ 
    hcell H13 ⟨bA, 5, none⟩ = some (.int .i64 x_f2) ∧ True) ∧ (((((x_a2 == y_a1) && ((x_b2 == y_b1) && ((x_c2 == y_c1) && ((x_d2 == y_d1) && ((x_e2 == y_e1) && ((x_f2 == y_f1) && true))))))) = true → 
    (((y_1 == y_11) = true → CallF Tryd.prog 43 #[.string s] H13 (fun r9 H14 => ∃ y3 : ByteArray, r9 = .string y3 ∧ 
    CallF Tryd.prog 44 #[.string s] H14 (fun r10 H15 => ∃ y4 : ByteArray, r10 = .string y4 ∧ (((beqS y3 y4) = true → 
    (((beqS y_0 y_01) = true → (((y_12 == y_13) = true → (((y_2 == y_21) = true → CallF Tryd.prog 34 #[] H15 (fun r11 H16 => 
    ∃ y5 : Bool, r11 = .bool y5 ∧ K (.bool y5) H16) Z) ∧ ((y_2 == y_21) = false → K (.bool false) H15))) ∧ 
    ((y_12 == y_13) = false → K (.bool false) H15))) ∧ ((beqS y_0 y_01) = false → K (.bool false) H15))) ∧ 
    ((beqS y3 y4) = false → K (.bool false) H15))) Z) Z) ∧ ((y_1 == y_11) = false → K (.bool false) H13))) ∧ 
    ((((x_a2 == y_a1) && ((x_b2 == y_b1) && ((x_c2 == y_c1) && ((x_d2 == y_d1) && ((x_e2 == y_e1) && ((x_f2 == y_f1) && true))))))) = false → 
    K (.bool false) H13))) Z))) Z) Z)) Z)) Z))
def aJ11 : Ann := (fun _ => none)
def aL11 : Ann := (fun _ => none)
theorem V11_ok {H : Hp} {s : ByteArray} {K : Value → Hp → Prop} {Z : List PanicEntry → Hp → Prop} (h : V11 H s K Z) : CallF Tryd.prog 11 #[.string s] H K Z :=
  fnC_sound (P := Tryd.prog) (aJ := aJ11) (aL := aL11) (f := 11) (args := [.string s]) (Eq.mp (by kernel_rfl) h)
/-- weft/weftlaw14.NamesMade -/
def V10 (H : Hp) (kind : Int) (name : ByteArray) (n : Int) (K : Value → Hp → Prop) (Z : List PanicEntry → Hp → Prop) : Prop :=
  (((decide ((name.size : Int) > 300)) = true → K (.bool true) H) ∧ ((decide ((name.size : Int) > 300)) = false → 
    ∃ I : Int → Hp → Nat → Prop, (∃ m, I 0 H m) ∧ ∀ (i : Int), ∀ H1 m1, I i H1 m1 → ∀ scr : Nat → Value, (((decide (i < 2)) = true → 
    ∀ b H2, Newb H1 (.cells #[.string ⟨#[102]⟩, .string name] 9) b H2 → IxA (some ⟨b, 0, none⟩) 2 i 1 fun ad => 
    (∃ x : ByteArray, hcell H2 ad = some (.string x) ∧ CallF Tryd.prog 36 #[.int .i64 kind, .string x, .string name, .int .i64 n] H2 (fun r H3 => 
    ∃ y : ByteArray, r = .string y ∧ CallF Tryd.prog 37 #[.int .i64 kind, .string x, .string name, .int .i64 n] H3 (fun r1 H4 => 
    ∃ y1 : ByteArray, r1 = .string y1 ∧ (((!(beqS y y1)) = true → K (.bool false) H4) ∧ ((!(beqS y y1)) = false → 
    CallF Tryd.prog 36 #[.int .i64 kind, .string x, .string ⟨#[]⟩, .int .i64 n] H4 (fun r2 H5 => ∃ y2 : ByteArray, r2 = .string y2 ∧ 
    CallF Tryd.prog 37 #[.int .i64 kind, .string x, .string ⟨#[]⟩, .int .i64 n] H5 (fun r3 H6 => ∃ y3 : ByteArray, r3 = .string y3 ∧ 
    (((!(beqS y2 y3)) = true → K (.bool false) H6) ∧ ((!(beqS y2 y3)) = false → CallF Tryd.prog 36 #[.int .i64 kind, .string ⟨#[]⟩, .string name, .int .i64 n] H6 (fun r4 H7 => 
    ∃ y4 : ByteArray, r4 = .string y4 ∧ CallF Tryd.prog 37 #[.int .i64 kind, .string ⟨#[]⟩, .string name, .int .i64 n] H7 (fun r5 H8 => 
    ∃ y5 : ByteArray, r5 = .string y5 ∧ (((!(beqS y4 y5)) = true → K (.bool false) H8) ∧ ((!(beqS y4 y5)) = false → 
    (∃ m2, m2 < m1 ∧ I (w64 (i + 1)) H8 m2)))) Z) Z))) Z) Z))) Z) Z)) ∧ ((decide (i < 2)) = false → CallF Tryd.prog 38 #[.string name, .int .i64 n] H1 (fun r6 H9 => 
    ∃ y6 : ByteArray, r6 = .string y6 ∧ CallF Tryd.prog 39 #[.string name, .int .i64 n] H9 (fun r7 H10 => 
    ∃ y7 : ByteArray, r7 = .string y7 ∧ (((beqS y6 y7) = true → CallF Tryd.prog 34 #[] H10 (fun r8 H11 => 
    ∃ y8 : Bool, r8 = .bool y8 ∧ K (.bool y8) H11) Z) ∧ ((beqS y6 y7) = false → K (.bool false) H10))) Z) Z))))
def aJ10 : Ann := (fun _ => none)
def aL10 : Ann := (fun k => if k = 4 then some [(7, (.sc (.int .i64)))] else none)
theorem V10_ok {H : Hp} {kind : Int} {name : ByteArray} {n : Int} {K : Value → Hp → Prop} {Z : List PanicEntry → Hp → Prop} (h : V10 H kind name n K Z) : CallF Tryd.prog 10 #[.int .i64 kind, .string name, .int .i64 n] H K Z :=
  fnC_sound (P := Tryd.prog) (aJ := aJ10) (aL := aL10) (f := 10) (args := [.int .i64 kind, .string name, .int .i64 n]) (Eq.mp (by kernel_rfl) h)
/-- weft/weftlaw14.NamesOne -/
def V9 (H : Hp) (a_a : Int) (a_b : ByteArray) (a_c : Int) (a_d : ByteArray) (a_e : Int) (a_f : Int) (b_a : Int) (b_b : ByteArray) (b_c : Int) (b_d : ByteArray) (b_e : Int) (b_f : Int) (s : ByteArray) (K : Value → Hp → Prop) (Z : List PanicEntry → Hp → Prop) : Prop :=
  ∀ bA H1, Newb H (.cells #[.int .i64 a_a, .string a_b, .int .i64 a_c, .string a_d, .int .i64 a_e, .int .i64 a_f] 37) bA H1 → 
    ∀ bB H2, Newb H1 (.cells #[.int .i64 b_a, .string b_b, .int .i64 b_c, .string b_d, .int .i64 b_e, .int .i64 b_f] 37) bB H2 → 
    CallF Tryd.prog 34 #[] H2 (fun r H3 => ∃ y : Bool, r = .bool y ∧ (((!y) = true → K (.bool false) H3) ∧ 
    ((!y) = false → ∃ J : Hp → Prop, (∀ H4, J  H4 → ∀ scr : Nat → Value, ∃ x_a : Int, ∃ x_b : ByteArray, ∃ x_c : Int, ∃ x_d : ByteArray, ∃ x_e : Int, ∃ x_f : Int, (hcell H4 ⟨bA, 0, none⟩ = some (.int .i64 x_a) ∧ 
    hcell H4 ⟨bA, 1, none⟩ = some (.string x_b) ∧ hcell H4 ⟨bA, 2, none⟩ = some (.int .i64 x_c) ∧ hcell H4 ⟨bA, 3, none⟩ = some (.string x_d) ∧ 
    hcell H4 ⟨bA, 4, none⟩ = some (.int .i64 x_e) ∧ hcell H4 ⟨bA, 5, none⟩ = some (.int .i64 x_f) ∧ True) ∧ 
    CallF Tryd.prog 32 #[.agg #[.int .i64 x_a, .string x_b, .int .i64 x_c, .string x_d, .int .i64 x_e, .int .i64 x_f]] H4 (fun r1 H5 => 
    ∃ y_a : Int, ∃ y_b : ByteArray, ∃ y_c : Int, ∃ y_d : ByteArray, ∃ y_e : Int, ∃ y_f : Int, r1 = .agg #[.int .i64 y_a, .string y_b, .int .i64 y_c, .string y_d, .int .i64 y_e, .int .i64 y_f] ∧ 
    CallF Tryd.prog 31 #[.agg #[.int .i64 y_a, .string y_b, .int .i64 y_c, .string y_d, .int .i64 y_e, .int .i64 y_f]] H5 (fun r2 H6 => 
    ∃ y_0 : ByteArray, ∃ y_1 : Int, r2 = .tuple #[.string y_0, .int .i64 y_1] ∧ ∃ x_a1 : Int, ∃ x_b1 : ByteArray, ∃ x_c1 : Int, ∃ x_d1 : ByteArray, ∃ x_e1 : Int, ∃ x_f1 : Int, (hcell H6 ⟨bB, 0, none⟩ = some (.int .i64 x_a1) ∧ 
    hcell H6 ⟨bB, 1, none⟩ = some (.string x_b1) ∧ hcell H6 ⟨bB, 2, none⟩ = some (.int .i64 x_c1) ∧ hcell H6 ⟨bB, 3, none⟩ = some (.string x_d1) ∧ 
    hcell H6 ⟨bB, 4, none⟩ = some (.int .i64 x_e1) ∧ hcell H6 ⟨bB, 5, none⟩ = some (.int .i64 x_f1) ∧ 
    True) ∧ CallF Tryd.prog 32 #[.agg #[.int .i64 x_a1, .string x_b1, .int .i64 x_c1, .string x_d1, .int .i64 x_e1, .int .i64 x_f1]] H6 (fun r3 H7 => 
    ∃ y_a1 : Int, ∃ y_b1 : ByteArray, ∃ y_c1 : Int, ∃ y_d1 : ByteArray, ∃ y_e1 : Int, ∃ y_f1 : Int, r3 = .agg #[.int .i64 y_a1, .string y_b1, .int .i64 y_c1, .string y_d1, .int .i64 y_e1, .int .i64 y_f1] ∧ 
    CallF Tryd.prog 31 #[.agg #[.int .i64 y_a1, .string y_b1, .int .i64 y_c1, .string y_d1, .int .i64 y_e1, .int .i64 y_f1]] H7 (fun r4 H8 => 
    ∃ y_01 : ByteArray, ∃ y_11 : Int, r4 = .tuple #[.string y_01, .int .i64 y_11] ∧ ∃ J1 : Hp → Prop, (∀ H9, J1  H9 → 
    ∀ scr1 : Nat → Value, ∃ J2 : Hp → Prop, (∀ H10, J2  H10 → ∀ scr2 : Nat → Value, CallF Tryd.prog 35 #[.string s] H10 (fun r5 H11 => 
    ∃ y_0_a : Int, ∃ y_0_b : ByteArray, ∃ y_0_c : Int, ∃ y_0_d : ByteArray, ∃ y_0_e : Int, ∃ y_0_f : Int, ∃ y_12 : Int, r5 = .tuple #[.agg #[.int .i64 y_0_a, .string y_0_b, .int .i64 y_0_c, .string y_0_d, .int .i64 y_0_e, .int .i64 y_0_f], .int .i64 y_12] ∧ 
    ∀ bN H12, Newb H11 (.cells #[.int .i64 0, .string ⟨#[]⟩, .int .i64 0, .string ⟨#[]⟩, .int .i64 0, .int .i64 0] 41) bN H12 → 
    StL ⟨bN, 0, none⟩ 0 [.int .i64 y_0_a, .string y_0_b, .int .i64 y_0_c, .string y_0_d, .int .i64 y_0_e, .int .i64 y_0_f] H12 fun H13 => 
    (((y_12 != 0) = true → K (.bool true) H13) ∧ ((y_12 != 0) = false → ∃ x_a2 : Int, ∃ x_b2 : ByteArray, ∃ x_c2 : Int, ∃ x_d2 : ByteArray, ∃ x_e2 : Int, ∃ x_f2 : Int, (hcell H13 ⟨bN, 0, none⟩ = some (.int .i64 x_a2) ∧ 
    hcell H13 ⟨bN, 1, none⟩ = some (.string x_b2) ∧ hcell H13 ⟨bN, 2, none⟩ = some (.int .i64 x_c2) ∧ 
    hcell H13 ⟨bN, 3, none⟩ = some (.string x_d2) ∧ hcell H13 ⟨bN, 4, none⟩ = some (.int .i64 x_e2) ∧ 
    hcell H13 ⟨bN, 5, none⟩ = some (.int .i64 x_f2) ∧ True) ∧ CallF Tryd.prog 31 #[.agg #[.int .i64 x_a2, .string x_b2, .int .i64 x_c2, .string x_d2, .int .i64 x_e2, .int .i64 x_f2]] H13 (fun r6 H14 => 
    ∃ y_02 : ByteArray, ∃ y_13 : Int, r6 = .tuple #[.string y_02, .int .i64 y_13] ∧ (((y_13 == 0) = true → 
    K (.bool (beqS y_02 s)) H14) ∧ ((y_13 == 0) = false → K (.bool false) H14))) Z))) Z) ∧ (((y_1 == 0) = true → 
    (((y_11 == 0) = true → ∃ x_a3 : Int, ∃ x_b3 : ByteArray, ∃ x_c3 : Int, ∃ x_d3 : ByteArray, ∃ x_e3 : Int, ∃ x_f3 : Int, (hcell H9 ⟨bA, 0, none⟩ = some (.int .i64 x_a3) ∧ 
    hcell H9 ⟨bA, 1, none⟩ = some (.string x_b3) ∧ hcell H9 ⟨bA, 2, none⟩ = some (.int .i64 x_c3) ∧ hcell H9 ⟨bA, 3, none⟩ = some (.string x_d3) ∧ 
    hcell H9 ⟨bA, 4, none⟩ = some (.int .i64 x_e3) ∧ hcell H9 ⟨bA, 5, none⟩ = some (.int .i64 x_f3) ∧ 
    True) ∧ ∃ x_a4 : Int, ∃ x_b4 : ByteArray, ∃ x_c4 : Int, ∃ x_d4 : ByteArray, ∃ x_e4 : Int, ∃ x_f4 : Int, (hcell H9 ⟨bB, 0, none⟩ = some (.int .i64 x_a4) ∧ 
    hcell H9 ⟨bB, 1, none⟩ = some (.string x_b4) ∧ hcell H9 ⟨bB, 2, none⟩ = some (.int .i64 x_c4) ∧ hcell H9 ⟨bB, 3, none⟩ = some (.string x_d4) ∧ 
    hcell H9 ⟨bB, 4, none⟩ = some (.int .i64 x_e4) ∧ hcell H9 ⟨bB, 5, none⟩ = some (.int .i64 x_f4) ∧ 
    True) ∧ (((!((beqS y_0 y_01) == (((x_a3 == x_a4) && ((x_b3 == x_b4) && ((x_c3 == x_c4) && ((x_d3 == x_d4) && ((x_e3 == x_e4) && ((x_f3 == x_f4) && true))))))))) = true → 
    K (.bool false) H9) ∧ ((!((beqS y_0 y_01) == (((x_a3 == x_a4) && ((x_b3 == x_b4) && ((x_c3 == x_c4) && ((x_d3 == x_d4) && ((x_e3 == x_e4) && ((x_f3 == x_f4) && true))))))))) = false → 
    (J2  H9)))) ∧ ((y_11 == 0) = false → (J2  H9)))) ∧ ((y_1 == 0) = false → (J2  H9)))) ∧ (((y_1 == 0) = true → 
    CallF Tryd.prog 35 #[.string y_0] H8 (fun r7 H15 => ∃ y_0_a1 : Int, ∃ y_0_b1 : ByteArray, ∃ y_0_c1 : Int, ∃ y_0_d1 : ByteArray, ∃ y_0_e1 : Int, ∃ y_0_f1 : Int, ∃ y_14 : Int, r7 = .tuple #[.agg #[.int .i64 y_0_a1, .string y_0_b1, .int .i64 y_0_c1, .string y_0_d1, .int .i64 y_0_e1, .int .i64 y_0_f1], .int .i64 y_14] ∧ 
    ∀ bN1 H16, Newb H15 (.cells #[.int .i64 0, .string ⟨#[]⟩, .int .i64 0, .string ⟨#[]⟩, .int .i64 0, .int .i64 0] 41) bN1 H16 → 
    StL ⟨bN1, 0, none⟩ 0 [.int .i64 y_0_a1, .string y_0_b1, .int .i64 y_0_c1, .string y_0_d1, .int .i64 y_0_e1, .int .i64 y_0_f1] H16 fun H17 => 
    (((y_14 != 0) = true → ((K (.bool false) H17) ∧ (K (.bool false) H17))) ∧ ((y_14 != 0) = false → 
    ∃ x_a5 : Int, ∃ x_b5 : ByteArray, ∃ x_c5 : Int, ∃ x_d5 : ByteArray, ∃ x_e5 : Int, ∃ x_f5 : Int, (hcell H17 ⟨bA, 0, none⟩ = some (.int .i64 x_a5) ∧ 
    hcell H17 ⟨bA, 1, none⟩ = some (.string x_b5) ∧ hcell H17 ⟨bA, 2, none⟩ = some (.int .i64 x_c5) ∧ 
    hcell H17 ⟨bA, 3, none⟩ = some (.string x_d5) ∧ hcell H17 ⟨bA, 4, none⟩ = some (.int .i64 x_e5) ∧ 
    hcell H17 ⟨bA, 5, none⟩ = some (.int .i64 x_f5) ∧ True) ∧ ((∃ x_a6 : Int, ∃ x_b6 : ByteArray, ∃ x_c6 : Int, ∃ x_d6 : ByteArray, ∃ x_e6 : Int, ∃ x_f6 : Int, (hcell H17 ⟨bN1, 0, none⟩ = some (.int .i64 x_a6) ∧ 
    hcell H17 ⟨bN1, 1, none⟩ = some (.string x_b6) ∧ hcell H17 ⟨bN1, 2, none⟩ = some (.int .i64 x_c6) ∧ 
    hcell H17 ⟨bN1, 3, none⟩ = some (.string x_d6) ∧ hcell H17 ⟨bN1, 4, none⟩ = some (.int .i64 x_e6) ∧ 
    hcell H17 ⟨bN1, 5, none⟩ = some (.int .i64 x_f6) ∧ True) ∧ CallF Tryd.prog 32 #[.agg #[.int .i64 x_a5, .string x_b5, .int .i64 x_c5, .string x_d5, .int .i64 x_e5, .int .i64 x_f5]] H17 (fun r8 H18 => 
    ∃ y_a2 : Int, ∃ y_b2 : ByteArray, ∃ y_c2 : Int, ∃ y_d2 : ByteArray, ∃ y_e2 : Int, ∃ y_f2 : Int, r8 = .agg #[.int .i64 y_a2, .string y_b2, .int .i64 y_c2, .string y_d2, .int .i64 y_e2, .int .i64 y_f2] ∧ 
    (((!((x_a6 == y_a2) && ((x_b6 == y_b2) && ((x_c6 == y_c2) && ((x_d6 == y_d2) && ((x_e6 == y_e2) && ((x_f6 == y_f2) && true))))))) = true → 
    K (.bool false) H18) ∧ ((!((x_a6 == y_a2) && ((x_b6 == y_b2) && ((x_c6 == y_c2) && ((x_d6 == y_d2) && ((x_e6 == y_e2) && ((x_f6 == y_f2) && true))))))) = false → 
    (J1  H18)))) Z) ∧ (CallF Tryd.prog 32 #[.agg #[.int .i64 x_a5, .string x_b5, .int .i64 x_c5, .string x_d5, .int .i64 x_e5, .int .i64 x_f5]] H17 (fun r9 H19 => 
    ∃ y_a3 : Int, ∃ y_b3 : ByteArray, ∃ y_c3 : Int, ∃ y_d3 : ByteArray, ∃ y_e3 : Int, ∃ y_f3 : Int, r9 = .agg #[.int .i64 y_a3, .string y_b3, .int .i64 y_c3, .string y_d3, .int .i64 y_e3, .int .i64 y_f3] ∧ 
    ∃ x_a7 : Int, ∃ x_b7 : ByteArray, ∃ x_c7 : Int, ∃ x_d7 : ByteArray, ∃ x_e7 : Int, ∃ x_f7 : Int, (hcell H19 ⟨bN1, 0, none⟩ = some (.int .i64 x_a7) ∧ 
    hcell H19 ⟨bN1, 1, none⟩ = some (.string x_b7) ∧ hcell H19 ⟨bN1, 2, none⟩ = some (.int .i64 x_c7) ∧ 
    hcell H19 ⟨bN1, 3, none⟩ = some (.string x_d7) ∧ hcell H19 ⟨bN1, 4, none⟩ = some (.int .i64 x_e7) ∧ 
    hcell H19 ⟨bN1, 5, none⟩ = some (.int .i64 x_f7) ∧ True) ∧ (((!((x_a7 == y_a3) && ((x_b7 == y_b3) && ((x_c7 == y_c3) && ((x_d7 == y_d3) && ((x_e7 == y_e3) && ((x_f7 == y_f3) && true))))))) = true → 
    K (.bool false) H19) ∧ ((!((x_a7 == y_a3) && ((x_b7 == y_b3) && ((x_c7 == y_c3) && ((x_d7 == y_d3) && ((x_e7 == y_e3) && ((x_f7 == y_f3) && true))))))) = false → 
    (J1  H19)))) Z))))) Z) ∧ ((y_1 == 0) = false → (J1  H8)))) Z) Z) Z) Z) ∧ ∃ x_a8 : Int, ∃ x_b8 : ByteArray, ∃ x_c8 : Int, ∃ x_d8 : ByteArray, ∃ x_e8 : Int, ∃ x_f8 : Int, (hcell H3 ⟨bA, 0, none⟩ = some (.int .i64 x_a8) ∧ 
    hcell H3 ⟨bA, 1, none⟩ = some (.string x_b8) ∧ hcell H3 ⟨bA, 2, none⟩ = some (.int .i64 x_c8) ∧ hcell H3 ⟨bA, 3, none⟩ = some (.string x_d8) ∧ 
    hcell H3 ⟨bA, 4, none⟩ = some (.int .i64 x_e8) ∧ hcell H3 ⟨bA, 5, none⟩ = some (.int .i64 x_f8) ∧ 
    True) ∧ CallF Tryd.prog 30 #[.agg #[.int .i64 x_a8, .string x_b8, .int .i64 x_c8, .string x_d8, .int .i64 x_e8, .int .i64 x_f8]] H3 (fun r10 H20 => 
    ∃ y1 : Bool, r10 = .bool y1 ∧ ((y1 = true → K (.bool true) H20) ∧ (y1 = false → ∃ x_a9 : Int, ∃ x_b9 : ByteArray, ∃ x_c9 : Int, ∃ x_d9 : ByteArray, ∃ x_e9 : Int, ∃ x_f9 : Int, (hcell H20 ⟨bB, 0, none⟩ = some (.int .i64 x_a9) ∧ 
    hcell H20 ⟨bB, 1, none⟩ = some (.string x_b9) ∧ hcell H20 ⟨bB, 2, none⟩ = some (.int .i64 x_c9) ∧ 
    hcell H20 ⟨bB, 3, none⟩ = some (.string x_d9) ∧ hcell H20 ⟨bB, 4, none⟩ = some (.int .i64 x_e9) ∧ 
    hcell H20 ⟨bB, 5, none⟩ = some (.int .i64 x_f9) ∧ True) ∧ CallF Tryd.prog 30 #[.agg #[.int .i64 x_a9, .string x_b9, .int .i64 x_c9, .string x_d9, .int .i64 x_e9, .int .i64 x_f9]] H20 (fun r11 H21 => 
    ∃ y2 : Bool, r11 = .bool y2 ∧ ((y2 = true → K (.bool true) H21) ∧ (y2 = false → (((decide ((s.size : Int) > 300)) = true → 
    K (.bool true) H21) ∧ ((decide ((s.size : Int) > 300)) = false → (J  H21)))))) Z))) Z))) Z
def aJ9 : Ann := (fun k => if k = 5 then some [] else if k = 11 then some [] else if k = 13 then some [] else none)
def aL9 : Ann := (fun _ => none)
theorem V9_ok {H : Hp} {a_a : Int} {a_b : ByteArray} {a_c : Int} {a_d : ByteArray} {a_e : Int} {a_f : Int} {b_a : Int} {b_b : ByteArray} {b_c : Int} {b_d : ByteArray} {b_e : Int} {b_f : Int} {s : ByteArray} {K : Value → Hp → Prop} {Z : List PanicEntry → Hp → Prop} (h : V9 H a_a a_b a_c a_d a_e a_f b_a b_b b_c b_d b_e b_f s K Z) : CallF Tryd.prog 9 #[.agg #[.int .i64 a_a, .string a_b, .int .i64 a_c, .string a_d, .int .i64 a_e, .int .i64 a_f], .agg #[.int .i64 b_a, .string b_b, .int .i64 b_c, .string b_d, .int .i64 b_e, .int .i64 b_f], .string s] H K Z :=
  fnC_sound (P := Tryd.prog) (aJ := aJ9) (aL := aL9) (f := 9) (args := [.agg #[.int .i64 a_a, .string a_b, .int .i64 a_c, .string a_d, .int .i64 a_e, .int .i64 a_f], .agg #[.int .i64 b_a, .string b_b, .int .i64 b_c, .string b_d, .int .i64 b_e, .int .i64 b_f], .string s]) (Eq.mp (by kernel_rfl) h)
/-- weft/weftlaw14.NamesBase -/
def V12 (H : Hp) (s : ByteArray) (K : Value → Hp → Prop) (Z : List PanicEntry → Hp → Prop) : Prop :=
  CallF Tryd.prog 34 #[] H (fun r H1 => ∃ y : Bool, r = .bool y ∧ (((!y) = true → K (.bool false) H1) ∧ 
    ((!y) = false → (((decide ((s.size : Int) > 300)) = true → K (.bool true) H1) ∧ ((decide ((s.size : Int) > 300)) = false → 
    CallF Tryd.prog 35 #[.string s] H1 (fun r1 H2 => ∃ y_0_a : Int, ∃ y_0_b : ByteArray, ∃ y_0_c : Int, ∃ y_0_d : ByteArray, ∃ y_0_e : Int, ∃ y_0_f : Int, ∃ y_1 : Int, r1 = .tuple #[.agg #[.int .i64 y_0_a, .string y_0_b, .int .i64 y_0_c, .string y_0_d, .int .i64 y_0_e, .int .i64 y_0_f], .int .i64 y_1] ∧ 
    ∀ bN H3, Newb H2 (.cells #[.int .i64 0, .string ⟨#[]⟩, .int .i64 0, .string ⟨#[]⟩, .int .i64 0, .int .i64 0] 41) bN H3 → 
    StL ⟨bN, 0, none⟩ 0 [.int .i64 y_0_a, .string y_0_b, .int .i64 y_0_c, .string y_0_d, .int .i64 y_0_e, .int .i64 y_0_f] H3 fun H4 => 
    (CallF Tryd.prog 43 #[.string s] H4 (fun r2 H5 => ∃ y1 : ByteArray, r2 = .string y1 ∧ CallF Tryd.prog 41 #[.string s] H5 (fun r3 H6 => 
    ∃ y_0 : ByteArray, ∃ y_11 : Int, ∃ y_2 : Bool, r3 = .tuple #[.string y_0, .int .i64 y_11, .bool y_2] ∧ 
    (((y_1 != 0) = true → (((beqS y1 ⟨#[]⟩) = true → (((beqS y_0 ⟨#[]⟩) = true → K (.bool (!y_2)) H6) ∧ 
    ((beqS y_0 ⟨#[]⟩) = false → K (.bool false) H6))) ∧ ((beqS y1 ⟨#[]⟩) = false → K (.bool false) H6))) ∧ 
    ((y_1 != 0) = false → CallF Tryd.prog 35 #[.string y1] H6 (fun r4 H7 => ∃ y_0_a1 : Int, ∃ y_0_b1 : ByteArray, ∃ y_0_c1 : Int, ∃ y_0_d1 : ByteArray, ∃ y_0_e1 : Int, ∃ y_0_f1 : Int, ∃ y_12 : Int, r4 = .tuple #[.agg #[.int .i64 y_0_a1, .string y_0_b1, .int .i64 y_0_c1, .string y_0_d1, .int .i64 y_0_e1, .int .i64 y_0_f1], .int .i64 y_12] ∧ 
    ∀ bM H8, Newb H7 (.cells #[.int .i64 0, .string ⟨#[]⟩, .int .i64 0, .string ⟨#[]⟩, .int .i64 0, .int .i64 0] 41) bM H8 → 
    StL ⟨bM, 0, none⟩ 0 [.int .i64 y_0_a1, .string y_0_b1, .int .i64 y_0_c1, .string y_0_d1, .int .i64 y_0_e1, .int .i64 y_0_f1] H8 fun H9 => 
    (∃ J : Hp → Prop, (∀ H10, J  H10 → ∀ scr : Nat → Value, (((!y_2) = true → K (.bool true) H10) ∧ ((!y_2) = false → 
    CallF Tryd.prog 41 #[.string y_0] H10 (fun r5 H11 => ∃ y_01 : ByteArray, ∃ y_13 : Int, ∃ y_21 : Bool, r5 = .tuple #[.string y_01, .int .i64 y_13, .bool y_21] ∧ 
    (((!y_21) = true → CallF Tryd.prog 38 #[.string y_0, .int .i64 y_11] H11 (fun r6 H12 => ∃ y2 : ByteArray, r6 = .string y2 ∧ 
    (((beqS y2 s) = true → ∃ x : Int, hcell H12 ⟨bN, 5, none⟩ = some (.int .i64 x) ∧ K (.bool (y_11 == x)) H12) ∧ 
    ((beqS y2 s) = false → K (.bool false) H12))) Z) ∧ ((!y_21) = false → K (.bool false) H11))) Z))) ∧ 
    (((y_12 != 0) = true → K (.bool false) H9) ∧ ((y_12 != 0) = false → CallF Tryd.prog 43 #[.string y1] H9 (fun r7 H13 => 
    ∃ y3 : ByteArray, r7 = .string y3 ∧ (((!(beqS y3 y1)) = true → K (.bool false) H13) ∧ ((!(beqS y3 y1)) = false → 
    ∃ x1 : Int, hcell H13 ⟨bM, 0, none⟩ = some (.int .i64 x1) ∧ ∃ x2 : Int, hcell H13 ⟨bN, 0, none⟩ = some (.int .i64 x2) ∧ 
    (((x1 != x2) = true → K (.bool false) H13) ∧ ((x1 != x2) = false → ∃ x3 : Int, hcell H13 ⟨bM, 2, none⟩ = some (.int .i64 x3) ∧ 
    (((x3 != 0) = true → K (.bool false) H13) ∧ ((x3 != 0) = false → ∃ x4 : Int, hcell H13 ⟨bN, 5, none⟩ = some (.int .i64 x4) ∧ 
    (((!(y_2 == (decide (x4 ≥ 0)))) = true → K (.bool false) H13) ∧ ((!(y_2 == (decide (x4 ≥ 0)))) = false → 
    (J  H13)))))))))) Z)))) Z))) Z) Z)) Z))))) Z
def aJ12 : Ann := (fun k => if k = 13 then some [] else none)
def aL12 : Ann := (fun _ => none)
theorem V12_ok {H : Hp} {s : ByteArray} {K : Value → Hp → Prop} {Z : List PanicEntry → Hp → Prop} (h : V12 H s K Z) : CallF Tryd.prog 12 #[.string s] H K Z :=
  fnC_sound (P := Tryd.prog) (aJ := aJ12) (aL := aL12) (f := 12) (args := [.string s]) (Eq.mp (by kernel_rfl) h)
end Go.Proofs.YthaejcmllibeoaaDoor.N14

