import Derived.Test.YtjpkbenogloihaaGreatDoorZ08
import Derived.Test.YtjpkbenogloihaaGreatDoorProg
import Derived.Shelf.Strconv.Itoa3
import Derived.Shelf.Strconv.AtoiAll
import Derived.Shelf.Strings.SlTrimAscii
import Derived.Shelf.Small.Strs
import Derived.Shelf.Strings.SplitShaped
import Derived.Shelf.Strings.Search3
import Derived.Test.YtjpkbenogloihaaGreatDoorChecked
set_option linter.unusedVariables false
set_option linter.unusedSimpArgs false
section
set_option maxRecDepth 100000
namespace Go.Proofs.YtjpkbenogloihaaGreatDoor.N14
open Go Go.V Go.Proofs
def V84 (H : Hp) (n_a : Int) (n_b : ByteArray) (n_c : Int) (n_d : ByteArray) (n_e n_f : Int) (K : Value → Hp → Prop) (Z : List PanicEntry → Hp → Prop) : Prop :=
 ∀ bN H1, Newb H (.cells #[.int .i64 n_a, .string n_b, .int .i64 n_c, .string n_d, .int .i64 n_e, .int .i64 n_f] 76) bN H1 →
  ∃ (x_a : Int) (x_b : ByteArray) (x_c : Int) (x_d : ByteArray) (x_e x_f : Int), (hcell H1 ⟨bN, 0, none⟩ = some (.int .i64 x_a) ∧
  hcell H1 ⟨bN, 1, none⟩ = some (.string x_b) ∧ hcell H1 ⟨bN, 2, none⟩ = some (.int .i64 x_c) ∧ hcell H1 ⟨bN, 3, none⟩ = some (.string x_d) ∧
  hcell H1 ⟨bN, 4, none⟩ = some (.int .i64 x_e) ∧ hcell H1 ⟨bN, 5, none⟩ = some (.int .i64 x_f) ∧ True) ∧
  ∀ bRest H2, Newb H1 (.cells #[.int .i64 0, .string ⟨#[]⟩, .int .i64 0, .string ⟨#[]⟩, .int .i64 0, .int .i64 0] 76) bRest H2 →
  StL ⟨bRest, 0, none⟩ 0 [.int .i64 x_a, .string x_b, .int .i64 x_c, .string x_d, .int .i64 x_e, .int .i64 x_f] H2 fun H3 =>
  (StL ⟨bRest, 0, none⟩ 0 [.int .i64 0] H3 fun H4 => (StL ⟨bRest, 1, none⟩ 0 [.string ⟨#[]⟩] H4 fun H5 =>
  (StL ⟨bRest, 2, none⟩ 0 [.int .i64 0] H5 fun H6 => (∃ J : Hp → Prop, (∀ H7, J  H7 → ∀ scr : Nat →
  Value, ∃ x : Int, hcell H7 ⟨bN, 0, none⟩ = some (.int .i64 x) ∧ ∃ J1 : Int → Hp → Prop, (∀ (least : Int), ∀ H8, J1 least H8 →
  ∀ scr1 : Nat → Value, ∃ x1 : Int, hcell H8 ⟨bN, 4, none⟩ = some (.int .i64 x1) ∧ (((decide (x1 ≥ least)) = true →
  ∃ x2 : Int, hcell H8 ⟨bN, 4, none⟩ = some (.int .i64 x2) ∧ (((decide (x2 ≤ 268435456)) = true → ∃ (x_a1 : Int) (x_b1 : ByteArray) (x_c1 : Int) (x_d1 : ByteArray) (x_e1 x_f1 : Int), (hcell H8 ⟨bRest, 0, none⟩ = some (.int .i64 x_a1) ∧
  hcell H8 ⟨bRest, 1, none⟩ = some (.string x_b1) ∧ hcell H8 ⟨bRest, 2, none⟩ = some (.int .i64 x_c1) ∧
  hcell H8 ⟨bRest, 3, none⟩ = some (.string x_d1) ∧ hcell H8 ⟨bRest, 4, none⟩ = some (.int .i64 x_e1) ∧
  hcell H8 ⟨bRest, 5, none⟩ = some (.int .i64 x_f1) ∧ True) ∧ ∃ x3 : Int, hcell H8 ⟨bN, 4, none⟩ = some (.int .i64 x3) ∧
  K (.bool (((x_a1 == 0) && ((x_b1 == ⟨#[]⟩) && ((x_c1 == 0) && ((x_d1 == ⟨#[]⟩) && ((x_e1 == x3) && ((x_f1 == (-1)) && true)))))))) H8) ∧
  ((decide (x2 ≤ 268435456)) = false → K (.bool false) H8))) ∧ ((decide (x1 ≥ least)) = false → K (.bool false) H8))) ∧
  ∃ J2 : Hp → Prop, (∀ H9, J2  H9 → ∀ scr2 : Nat → Value, ∃ x4 : ByteArray, hcell H9 ⟨bN, 3, none⟩ = some (.string x4) ∧
  CallF Tryz.prog 109 #[.string x4] H9 (fun r H10 => ∃ y : Bool, r = .bool y ∧ ((y = true → ∃ (x_a2 : Int) (x_b2 : ByteArray) (x_c2 : Int) (x_d2 : ByteArray) (x_e2 x_f2 : Int), (hcell H10 ⟨bRest, 0, none⟩ = some (.int .i64 x_a2) ∧
  hcell H10 ⟨bRest, 1, none⟩ = some (.string x_b2) ∧ hcell H10 ⟨bRest, 2, none⟩ = some (.int .i64 x_c2) ∧
  hcell H10 ⟨bRest, 3, none⟩ = some (.string x_d2) ∧ hcell H10 ⟨bRest, 4, none⟩ = some (.int .i64 x_e2) ∧
  hcell H10 ⟨bRest, 5, none⟩ = some (.int .i64 x_f2) ∧ True) ∧ ∃ x5 : ByteArray, hcell H10 ⟨bN, 3, none⟩ = some (.string x5) ∧
  ∃ x6 : Int, hcell H10 ⟨bN, 5, none⟩ = some (.int .i64 x6) ∧ (((((x_a2 == 0) && ((x_b2 == ⟨#[]⟩) && ((x_c2 == 0) && ((x_d2 == x5) && ((x_e2 == 0) && ((x_f2 == x6) && true))))))) = true →
  ∃ (x_a3 : Int) (x_b3 : ByteArray) (x_c3 : Int) (x_d3 : ByteArray) (x_e3 x_f3 : Int), (hcell H10 ⟨bN, 0, none⟩ = some (.int .i64 x_a3) ∧
  hcell H10 ⟨bN, 1, none⟩ = some (.string x_b3) ∧ hcell H10 ⟨bN, 2, none⟩ = some (.int .i64 x_c3) ∧
  hcell H10 ⟨bN, 3, none⟩ = some (.string x_d3) ∧ hcell H10 ⟨bN, 4, none⟩ = some (.int .i64 x_e3) ∧
  hcell H10 ⟨bN, 5, none⟩ = some (.int .i64 x_f3) ∧ True) ∧ CallF Tryz.prog 110 #[.agg #[.int .i64 x_a3, .string x_b3, .int .i64 x_c3, .string x_d3, .int .i64 x_e3, .int .i64 x_f3]] H10 (fun r1 H11 =>
  ∃ y1 : Bool, r1 = .bool y1 ∧ K (.bool y1) H11) Z) ∧ ((((x_a2 == 0) && ((x_b2 == ⟨#[]⟩) && ((x_c2 == 0) && ((x_d2 == x5) && ((x_e2 == 0) && ((x_f2 == x6) && true))))))) = false →
  K (.bool false) H10))) ∧ (y = false → K (.bool false) H10))) Z) ∧ (((x == 5) = true → ∃ x7 : ByteArray, hcell H7 ⟨bN, 1, none⟩ = some (.string x7) ∧
  (((!(beqS x7 ⟨#[]⟩)) = true → K (.bool false) H7) ∧ ((!(beqS x7 ⟨#[]⟩)) = false → ∃ x8 : Int, hcell H7 ⟨bN, 2, none⟩ = some (.int .i64 x8) ∧
  (((x8 != 0) = true → K (.bool false) H7) ∧ ((x8 != 0) = false → (J2  H7)))))) ∧ ((x == 5) = false →
  (((x == 6) = true → (J2  H7)) ∧ ((x == 6) = false → (((x == 1) = true → ∃ x9 : ByteArray, hcell H7 ⟨bN, 3, none⟩ = some (.string x9) ∧
  CallF Tryz.prog 109 #[.string x9] H7 (fun r2 H12 => ∃ y2 : Bool, r2 = .bool y2 ∧ ((y2 = true → ∃ (x_a4 : Int) (x_b4 : ByteArray) (x_c4 : Int) (x_d4 : ByteArray) (x_e4 x_f4 : Int), (hcell H12 ⟨bRest, 0, none⟩ = some (.int .i64 x_a4) ∧
  hcell H12 ⟨bRest, 1, none⟩ = some (.string x_b4) ∧ hcell H12 ⟨bRest, 2, none⟩ = some (.int .i64 x_c4) ∧
  hcell H12 ⟨bRest, 3, none⟩ = some (.string x_d4) ∧ hcell H12 ⟨bRest, 4, none⟩ = some (.int .i64 x_e4) ∧
  hcell H12 ⟨bRest, 5, none⟩ = some (.int .i64 x_f4) ∧ True) ∧ ∃ x10 : ByteArray, hcell H12 ⟨bN, 3, none⟩ = some (.string x10) ∧
  K (.bool (((x_a4 == 0) && ((x_b4 == ⟨#[]⟩) && ((x_c4 == 0) && ((x_d4 == x10) && ((x_e4 == 0) && ((x_f4 == (-1)) && true)))))))) H12) ∧
  (y2 = false → K (.bool false) H12))) Z) ∧ ((x == 1) = false → (((x == 7) = true → ∃ x11 : Int, hcell H7 ⟨bN, 4, none⟩ = some (.int .i64 x11) ∧
  (((decide (x11 ≥ 1)) = true → ∃ x12 : Int, hcell H7 ⟨bN, 4, none⟩ = some (.int .i64 x12) ∧ (((decide (x12 ≤ 268435456)) = true →
  ∃ (x_a5 : Int) (x_b5 : ByteArray) (x_c5 : Int) (x_d5 : ByteArray) (x_e5 x_f5 : Int), (hcell H7 ⟨bRest, 0, none⟩ = some (.int .i64 x_a5) ∧
  hcell H7 ⟨bRest, 1, none⟩ = some (.string x_b5) ∧ hcell H7 ⟨bRest, 2, none⟩ = some (.int .i64 x_c5) ∧
  hcell H7 ⟨bRest, 3, none⟩ = some (.string x_d5) ∧ hcell H7 ⟨bRest, 4, none⟩ = some (.int .i64 x_e5) ∧
  hcell H7 ⟨bRest, 5, none⟩ = some (.int .i64 x_f5) ∧ True) ∧ ∃ x13 : Int, hcell H7 ⟨bN, 4, none⟩ = some (.int .i64 x13) ∧
  ∃ x14 : Int, hcell H7 ⟨bN, 5, none⟩ = some (.int .i64 x14) ∧ (((((x_a5 == 0) && ((x_b5 == ⟨#[]⟩) && ((x_c5 == 0) && ((x_d5 == ⟨#[]⟩) && ((x_e5 == x13) && ((x_f5 == x14) && true))))))) = true →
  ∃ (x_a6 : Int) (x_b6 : ByteArray) (x_c6 : Int) (x_d6 : ByteArray) (x_e6 x_f6 : Int), (hcell H7 ⟨bN, 0, none⟩ = some (.int .i64 x_a6) ∧
  hcell H7 ⟨bN, 1, none⟩ = some (.string x_b6) ∧ hcell H7 ⟨bN, 2, none⟩ = some (.int .i64 x_c6) ∧ hcell H7 ⟨bN, 3, none⟩ = some (.string x_d6) ∧
  hcell H7 ⟨bN, 4, none⟩ = some (.int .i64 x_e6) ∧ hcell H7 ⟨bN, 5, none⟩ = some (.int .i64 x_f6) ∧
  True) ∧ CallF Tryz.prog 110 #[.agg #[.int .i64 x_a6, .string x_b6, .int .i64 x_c6, .string x_d6, .int .i64 x_e6, .int .i64 x_f6]] H7 (fun r3 H13 =>
  ∃ y3 : Bool, r3 = .bool y3 ∧ K (.bool y3) H13) Z) ∧ ((((x_a5 == 0) && ((x_b5 == ⟨#[]⟩) && ((x_c5 == 0) && ((x_d5 == ⟨#[]⟩) && ((x_e5 == x13) && ((x_f5 == x14) && true))))))) = false →
  K (.bool false) H7))) ∧ ((decide (x12 ≤ 268435456)) = false → K (.bool false) H7))) ∧ ((decide (x11 ≥ 1)) = false →
  K (.bool false) H7))) ∧ ((x == 7) = false → (((x == 4) = true → ∃ (x_a7 : Int) (x_b7 : ByteArray) (x_c7 : Int) (x_d7 : ByteArray) (x_e7 x_f7 : Int), (hcell H7 ⟨bRest, 0, none⟩ = some (.int .i64 x_a7) ∧
  hcell H7 ⟨bRest, 1, none⟩ = some (.string x_b7) ∧ hcell H7 ⟨bRest, 2, none⟩ = some (.int .i64 x_c7) ∧
  hcell H7 ⟨bRest, 3, none⟩ = some (.string x_d7) ∧ hcell H7 ⟨bRest, 4, none⟩ = some (.int .i64 x_e7) ∧
  hcell H7 ⟨bRest, 5, none⟩ = some (.int .i64 x_f7) ∧ True) ∧ K (.bool (((x_a7 == 0) && ((x_b7 == ⟨#[]⟩) && ((x_c7 == 0) && ((x_d7 == ⟨#[]⟩) && ((x_e7 == 0) && ((x_f7 == (-1)) && true)))))))) H7) ∧
  ((x == 4) = false → (((x == 3) = true → (J1 1 H7)) ∧ ((x == 3) = false → (((x == 2) = true → (J1 0 H7)) ∧
  ((x == 2) = false → K (.bool false) H7))))))))))))))) ∧ ∃ x15 : Int, hcell H6 ⟨bN, 0, none⟩ = some (.int .i64 x15) ∧
  (((x15 != 5) = true → ∃ x16 : ByteArray, hcell H6 ⟨bN, 1, none⟩ = some (.string x16) ∧ CallF Tryz.prog 109 #[.string x16] H6 (fun r4 H14 =>
  ∃ y4 : Bool, r4 = .bool y4 ∧ (((!y4) = true → K (.bool false) H14) ∧ ((!y4) = false → ∃ x17 : Int, hcell H14 ⟨bN, 2, none⟩ = some (.int .i64 x17) ∧
  (((decide (x17 < 0)) = true → K (.bool false) H14) ∧ ((decide (x17 < 0)) = false → ∃ x18 : Int, hcell H14 ⟨bN, 2, none⟩ = some (.int .i64 x18) ∧
  (((decide (x18 > 268435456)) = true → K (.bool false) H14) ∧ ((decide (x18 > 268435456)) = false →
  (J  H14)))))))) Z) ∧ ((x15 != 5) = false → (J  H6)))))))
def aJ84 : Ann := (fun k => if k = 5 then some [] else if k = 16 then some [] else if k = 21 then some [(4, (.sc (.int .i64)))] else none)
theorem V84_ok {H n_a n_b n_c n_d n_e n_f K Z} (h : V84 H n_a n_b n_c n_d n_e n_f K Z) : CallF Tryz.prog 84 #[.agg #[.int .i64 n_a, .string n_b, .int .i64 n_c, .string n_d, .int .i64 n_e, .int .i64 n_f]] H K Z :=
 fnC_sound (aJ := aJ84) (aL := fun _ => none) (Eq.mp (by kernel_rfl) h)
def V110 (H : Hp) (n_a : Int) (n_b : ByteArray) (n_c : Int) (n_d : ByteArray) (n_e n_f : Int) (K : Value → Hp → Prop) (Z : List PanicEntry → Hp → Prop) : Prop :=
 ∀ bN H1, Newb H (.cells #[.int .i64 n_a, .string n_b, .int .i64 n_c, .string n_d, .int .i64 n_e, .int .i64 n_f] 76) bN H1 →
  ∃ x : Int, hcell H1 ⟨bN, 5, none⟩ = some (.int .i64 x) ∧ (((decide (x ≥ (-1))) = true → ∃ x1 : Int, hcell H1 ⟨bN, 5, none⟩ = some (.int .i64 x1) ∧
  K (.bool (decide (x1 ≤ 268435456))) H1) ∧ ((decide (x ≥ (-1))) = false → K (.bool false) H1))
theorem V110_ok {H n_a n_b n_c n_d n_e n_f K Z} (h : V110 H n_a n_b n_c n_d n_e n_f K Z) : CallF Tryz.prog 110 #[.agg #[.int .i64 n_a, .string n_b, .int .i64 n_c, .string n_d, .int .i64 n_e, .int .i64 n_f]] H K Z :=
 fnC_sound (aJ := fun _ => none) (aL := fun _ => none) (Eq.mp (by kernel_rfl) h)
def V85 (H : Hp) (n_a : Int) (n_b : ByteArray) (n_c : Int) (n_d : ByteArray) (n_e n_f : Int) (K : Value → Hp → Prop) (Z : List PanicEntry → Hp → Prop) : Prop :=
 ∀ bN H1, Newb H (.cells #[.int .i64 n_a, .string n_b, .int .i64 n_c, .string n_d, .int .i64 n_e, .int .i64 n_f] 76) bN H1 →
  ∀ bB H2, Newb H1 (.cells #[.pointer none, .slice none 0 0] 135) bB H2 → ∃ x : ByteArray, hcell H2 ⟨bN, 1, none⟩ = some (.string x) ∧
  CallF Tryz.prog 111 #[.pointer (some ⟨bB, 0, none⟩), .string x] H2 (fun r H3 => ∃ (y_0 : Int) (y_1 : Value), r = .tuple #[.int .i64 y_0, y_1] ∧
  ∃ J : Hp → Prop, (∀ H4, J  H4 → ∀ scr : Nat → Value, ∃ J1 : Hp → Prop, (∀ H5, J1  H5 → ∀ scr1 : Nat →
  Value, ∃ J2 : Hp → Prop, (∀ H6, J2  H6 → ∀ scr2 : Nat → Value, ∃ x1 : Int, hcell H6 ⟨bN, 5, none⟩ = some (.int .i64 x1) ∧
  (((x1 != (-1)) = true → ∃ x2 : Int, hcell H6 ⟨bN, 5, none⟩ = some (.int .i64 x2) ∧ CallF Tryz.prog 112 #[.int .i64 x2] H6 (fun r1 H7 =>
  ∃ y : ByteArray, r1 = .string y ∧ ((⟨#[43]⟩ : ByteArray).size + y.size ≤ 4611686018427387904 ∧ CallF Tryz.prog 111 #[.pointer (some ⟨bB, 0, none⟩), .string ((⟨#[43]⟩ : ByteArray) ++ y)] H7 (fun r2 H8 =>
  ∃ (y_01 : Int) (y_11 : Value), r2 = .tuple #[.int .i64 y_01, y_11] ∧ CallF Tryz.prog 114 #[.pointer (some ⟨bB, 0, none⟩)] H8 (fun r3 H9 =>
  ∃ y1 : ByteArray, r3 = .string y1 ∧ K (.string y1) H9) Z) Z)) Z) ∧ ((x1 != (-1)) = false → CallF Tryz.prog 114 #[.pointer (some ⟨bB, 0, none⟩)] H6 (fun r4 H10 =>
  ∃ y2 : ByteArray, r4 = .string y2 ∧ K (.string y2) H10) Z))) ∧ ∃ x3 : Int, hcell H5 ⟨bN, 0, none⟩ = some (.int .i64 x3) ∧
  ∃ J3 : Bool → Hp → Prop, (∀ (t28 : Bool), ∀ H11, J3 t28 H11 → ∀ scr3 : Nat → Value, ((t28 = true →
  ∃ x4 : ByteArray, hcell H11 ⟨bN, 3, none⟩ = some (.string x4) ∧ CallF Tryz.prog 111 #[.pointer (some ⟨bB, 0, none⟩), .string x4] H11 (fun r5 H12 =>
  ∃ (y_02 : Int) (y_12 : Value), r5 = .tuple #[.int .i64 y_02, y_12] ∧ (J2  H12)) Z) ∧ (t28 = false →
  (((x3 == 4) = true → CallF Tryz.prog 113 #[.pointer (some ⟨bB, 0, none⟩), .int .u8 41] H11 (fun r6 H13 =>
  ∃ y3 : Value, r6 = y3 ∧ (J2  H13)) Z) ∧ ((x3 == 4) = false → ∃ x5 : Int, hcell H11 ⟨bN, 4, none⟩ = some (.int .i64 x5) ∧
  CallF Tryz.prog 112 #[.int .i64 x5] H11 (fun r7 H14 => ∃ y4 : ByteArray, r7 = .string y4 ∧ CallF Tryz.prog 111 #[.pointer (some ⟨bB, 0, none⟩), .string y4] H14 (fun r8 H15 =>
  ∃ (y_03 : Int) (y_13 : Value), r8 = .tuple #[.int .i64 y_03, y_13] ∧ (J2  H15)) Z) Z))))) ∧ (((x3 == 1) = true →
  (J3 (x3 == 1) H5)) ∧ ((x3 == 1) = false → (((x3 == 5) = true → (J3 (x3 == 5) H5)) ∧ ((x3 == 5) = false →
  (J3 (x3 == 6) H5)))))) ∧ ∃ x6 : Int, hcell H4 ⟨bN, 0, none⟩ = some (.int .i64 x6) ∧ (((x6 != 5) = true →
  ∃ x7 : Int, hcell H4 ⟨bN, 0, none⟩ = some (.int .i64 x7) ∧ IxS ⟨#[32, 46, 36, 64, 40, 32, 37, 35]⟩ x7 fun c =>
  (CallF Tryz.prog 113 #[.pointer (some ⟨bB, 0, none⟩), .int .u8 c] H4 (fun r9 H16 => ∃ y5 : Value, r9 = y5 ∧
  (J1  H16)) Z)) ∧ ((x6 != 5) = false → (J1  H4)))) ∧ ∃ x8 : Int, hcell H3 ⟨bN, 2, none⟩ = some (.int .i64 x8) ∧
  (((decide (x8 > 0)) = true → ∃ x9 : Int, hcell H3 ⟨bN, 2, none⟩ = some (.int .i64 x9) ∧ CallF Tryz.prog 112 #[.int .i64 x9] H3 (fun r10 H17 =>
  ∃ y6 : ByteArray, r10 = .string y6 ∧ ((⟨#[126]⟩ : ByteArray).size + y6.size ≤ 4611686018427387904 ∧
  CallF Tryz.prog 111 #[.pointer (some ⟨bB, 0, none⟩), .string ((⟨#[126]⟩ : ByteArray) ++ y6)] H17 (fun r11 H18 =>
  ∃ (y_04 : Int) (y_14 : Value), r11 = .tuple #[.int .i64 y_04, y_14] ∧ (J  H18)) Z)) Z) ∧ ((decide (x8 > 0)) = false →
  (J  H3)))) Z
def aJ85 : Ann := (fun k => if k = 5 then some [] else if k = 7 then some [] else if k = 12 then some [(28, (.sc .bool))] else if k = 15 then some [] else none)
theorem V85_ok {H n_a n_b n_c n_d n_e n_f K Z} (h : V85 H n_a n_b n_c n_d n_e n_f K Z) : CallF Tryz.prog 85 #[.agg #[.int .i64 n_a, .string n_b, .int .i64 n_c, .string n_d, .int .i64 n_e, .int .i64 n_f]] H K Z :=
 fnC_sound (aJ := aJ85) (aL := fun _ => none) (Eq.mp (by kernel_rfl) h)
def V52 (H : Hp) (n_a : Int) (n_b : ByteArray) (n_c : Int) (n_d : ByteArray) (n_e n_f : Int) (K : Value → Hp → Prop) (Z : List PanicEntry → Hp → Prop) : Prop :=
 ∀ bN H1, Newb H (.cells #[.int .i64 n_a, .string n_b, .int .i64 n_c, .string n_d, .int .i64 n_e, .int .i64 n_f] 76) bN H1 →
  ∃ (x_a : Int) (x_b : ByteArray) (x_c : Int) (x_d : ByteArray) (x_e x_f : Int), (hcell H1 ⟨bN, 0, none⟩ = some (.int .i64 x_a) ∧
  hcell H1 ⟨bN, 1, none⟩ = some (.string x_b) ∧ hcell H1 ⟨bN, 2, none⟩ = some (.int .i64 x_c) ∧ hcell H1 ⟨bN, 3, none⟩ = some (.string x_d) ∧
  hcell H1 ⟨bN, 4, none⟩ = some (.int .i64 x_e) ∧ hcell H1 ⟨bN, 5, none⟩ = some (.int .i64 x_f) ∧ True) ∧
  CallF Tryz.prog 84 #[.agg #[.int .i64 x_a, .string x_b, .int .i64 x_c, .string x_d, .int .i64 x_e, .int .i64 x_f]] H1 (fun r H2 =>
  ∃ y : Bool, r = .bool y ∧ (((!y) = true → K (.tuple #[.string ⟨#[]⟩, .int .i64 11]) H2) ∧ ((!y) = false →
  ∃ (x_a1 : Int) (x_b1 : ByteArray) (x_c1 : Int) (x_d1 : ByteArray) (x_e1 x_f1 : Int), (hcell H2 ⟨bN, 0, none⟩ = some (.int .i64 x_a1) ∧
  hcell H2 ⟨bN, 1, none⟩ = some (.string x_b1) ∧ hcell H2 ⟨bN, 2, none⟩ = some (.int .i64 x_c1) ∧ hcell H2 ⟨bN, 3, none⟩ = some (.string x_d1) ∧
  hcell H2 ⟨bN, 4, none⟩ = some (.int .i64 x_e1) ∧ hcell H2 ⟨bN, 5, none⟩ = some (.int .i64 x_f1) ∧
  True) ∧ CallF Tryz.prog 85 #[.agg #[.int .i64 x_a1, .string x_b1, .int .i64 x_c1, .string x_d1, .int .i64 x_e1, .int .i64 x_f1]] H2 (fun r1 H3 =>
  ∃ y1 : ByteArray, r1 = .string y1 ∧ K (.tuple #[.string y1, .int .i64 0]) H3) Z))) Z
theorem V52_ok {H n_a n_b n_c n_d n_e n_f K Z} (h : V52 H n_a n_b n_c n_d n_e n_f K Z) : CallF Tryz.prog 52 #[.agg #[.int .i64 n_a, .string n_b, .int .i64 n_c, .string n_d, .int .i64 n_e, .int .i64 n_f]] H K Z :=
 fnC_sound (aJ := fun _ => none) (aL := fun _ => none) (Eq.mp (by kernel_rfl) h)
def V51 (H : Hp) (s : ByteArray) (K : Value → Hp → Prop) (Z : List PanicEntry → Hp → Prop) : Prop :=
 ∀ b H1, Newb H (.cells #[.int .i64 0, .string ⟨#[]⟩, .int .i64 0, .string ⟨#[]⟩, .int .i64 0, .int .i64 0] 76) b H1 →
  CallF Tryz.prog 83 #[.string s] H1 (fun r H2 => ∃ (y_0_a : Int) (y_0_b : ByteArray) (y_0_c : Int) (y_0_d : ByteArray) (y_0_e y_0_f : Int) (y_1 : Bool), r = .tuple #[.agg #[.int .i64 y_0_a, .string y_0_b, .int .i64 y_0_c, .string y_0_d, .int .i64 y_0_e, .int .i64 y_0_f], .bool y_1] ∧
  ∀ bN H3, Newb H2 (.cells #[.int .i64 0, .string ⟨#[]⟩, .int .i64 0, .string ⟨#[]⟩, .int .i64 0, .int .i64 0] 76) bN H3 →
  StL ⟨bN, 0, none⟩ 0 [.int .i64 y_0_a, .string y_0_b, .int .i64 y_0_c, .string y_0_d, .int .i64 y_0_e, .int .i64 y_0_f] H3 fun H4 =>
  (((!y_1) = true → StL ⟨b, 0, none⟩ 0 [.int .i64 0, .string ⟨#[]⟩, .int .i64 0, .string ⟨#[]⟩, .int .i64 0, .int .i64 0] H4 fun H5 =>
  (∃ (res_a : Int) (res_b : ByteArray) (res_c : Int) (res_d : ByteArray) (res_e res_f : Int), (hcell H5 ⟨b, 0, none⟩ = some (.int .i64 res_a) ∧
  hcell H5 ⟨b, 1, none⟩ = some (.string res_b) ∧ hcell H5 ⟨b, 2, none⟩ = some (.int .i64 res_c) ∧ hcell H5 ⟨b, 3, none⟩ = some (.string res_d) ∧
  hcell H5 ⟨b, 4, none⟩ = some (.int .i64 res_e) ∧ hcell H5 ⟨b, 5, none⟩ = some (.int .i64 res_f) ∧
  True) ∧ K (.tuple #[.agg #[.int .i64 res_a, .string res_b, .int .i64 res_c, .string res_d, .int .i64 res_e, .int .i64 res_f], .int .i64 11]) H5)) ∧
  ((!y_1) = false → ∃ (x_a : Int) (x_b : ByteArray) (x_c : Int) (x_d : ByteArray) (x_e x_f : Int), (hcell H4 ⟨bN, 0, none⟩ = some (.int .i64 x_a) ∧
  hcell H4 ⟨bN, 1, none⟩ = some (.string x_b) ∧ hcell H4 ⟨bN, 2, none⟩ = some (.int .i64 x_c) ∧ hcell H4 ⟨bN, 3, none⟩ = some (.string x_d) ∧
  hcell H4 ⟨bN, 4, none⟩ = some (.int .i64 x_e) ∧ hcell H4 ⟨bN, 5, none⟩ = some (.int .i64 x_f) ∧ True) ∧
  CallF Tryz.prog 84 #[.agg #[.int .i64 x_a, .string x_b, .int .i64 x_c, .string x_d, .int .i64 x_e, .int .i64 x_f]] H4 (fun r1 H6 =>
  ∃ y : Bool, r1 = .bool y ∧ (((!y) = true → StL ⟨b, 0, none⟩ 0 [.int .i64 0, .string ⟨#[]⟩, .int .i64 0, .string ⟨#[]⟩, .int .i64 0, .int .i64 0] H6 fun H7 =>
  (∃ (res_a1 : Int) (res_b1 : ByteArray) (res_c1 : Int) (res_d1 : ByteArray) (res_e1 res_f1 : Int), (hcell H7 ⟨b, 0, none⟩ = some (.int .i64 res_a1) ∧
  hcell H7 ⟨b, 1, none⟩ = some (.string res_b1) ∧ hcell H7 ⟨b, 2, none⟩ = some (.int .i64 res_c1) ∧
  hcell H7 ⟨b, 3, none⟩ = some (.string res_d1) ∧ hcell H7 ⟨b, 4, none⟩ = some (.int .i64 res_e1) ∧
  hcell H7 ⟨b, 5, none⟩ = some (.int .i64 res_f1) ∧ True) ∧ K (.tuple #[.agg #[.int .i64 res_a1, .string res_b1, .int .i64 res_c1, .string res_d1, .int .i64 res_e1, .int .i64 res_f1], .int .i64 11]) H7)) ∧
  ((!y) = false → ∃ (x_a1 : Int) (x_b1 : ByteArray) (x_c1 : Int) (x_d1 : ByteArray) (x_e1 x_f1 : Int), (hcell H6 ⟨bN, 0, none⟩ = some (.int .i64 x_a1) ∧
  hcell H6 ⟨bN, 1, none⟩ = some (.string x_b1) ∧ hcell H6 ⟨bN, 2, none⟩ = some (.int .i64 x_c1) ∧ hcell H6 ⟨bN, 3, none⟩ = some (.string x_d1) ∧
  hcell H6 ⟨bN, 4, none⟩ = some (.int .i64 x_e1) ∧ hcell H6 ⟨bN, 5, none⟩ = some (.int .i64 x_f1) ∧
  True) ∧ CallF Tryz.prog 85 #[.agg #[.int .i64 x_a1, .string x_b1, .int .i64 x_c1, .string x_d1, .int .i64 x_e1, .int .i64 x_f1]] H6 (fun r2 H8 =>
  ∃ y1 : ByteArray, r2 = .string y1 ∧ (((!(beqS y1 s)) = true → StL ⟨b, 0, none⟩ 0 [.int .i64 0, .string ⟨#[]⟩, .int .i64 0, .string ⟨#[]⟩, .int .i64 0, .int .i64 0] H8 fun H9 =>
  (∃ (res_a2 : Int) (res_b2 : ByteArray) (res_c2 : Int) (res_d2 : ByteArray) (res_e2 res_f2 : Int), (hcell H9 ⟨b, 0, none⟩ = some (.int .i64 res_a2) ∧
  hcell H9 ⟨b, 1, none⟩ = some (.string res_b2) ∧ hcell H9 ⟨b, 2, none⟩ = some (.int .i64 res_c2) ∧
  hcell H9 ⟨b, 3, none⟩ = some (.string res_d2) ∧ hcell H9 ⟨b, 4, none⟩ = some (.int .i64 res_e2) ∧
  hcell H9 ⟨b, 5, none⟩ = some (.int .i64 res_f2) ∧ True) ∧ K (.tuple #[.agg #[.int .i64 res_a2, .string res_b2, .int .i64 res_c2, .string res_d2, .int .i64 res_e2, .int .i64 res_f2], .int .i64 11]) H9)) ∧
  ((!(beqS y1 s)) = false → ∃ (x_a2 : Int) (x_b2 : ByteArray) (x_c2 : Int) (x_d2 : ByteArray) (x_e2 x_f2 : Int), (hcell H8 ⟨bN, 0, none⟩ = some (.int .i64 x_a2) ∧
  hcell H8 ⟨bN, 1, none⟩ = some (.string x_b2) ∧ hcell H8 ⟨bN, 2, none⟩ = some (.int .i64 x_c2) ∧ hcell H8 ⟨bN, 3, none⟩ = some (.string x_d2) ∧
  hcell H8 ⟨bN, 4, none⟩ = some (.int .i64 x_e2) ∧ hcell H8 ⟨bN, 5, none⟩ = some (.int .i64 x_f2) ∧
  True) ∧ StL ⟨b, 0, none⟩ 0 [.int .i64 x_a2, .string x_b2, .int .i64 x_c2, .string x_d2, .int .i64 x_e2, .int .i64 x_f2] H8 fun H10 =>
  (∃ (res_a3 : Int) (res_b3 : ByteArray) (res_c3 : Int) (res_d3 : ByteArray) (res_e3 res_f3 : Int), (hcell H10 ⟨b, 0, none⟩ = some (.int .i64 res_a3) ∧
  hcell H10 ⟨b, 1, none⟩ = some (.string res_b3) ∧ hcell H10 ⟨b, 2, none⟩ = some (.int .i64 res_c3) ∧
  hcell H10 ⟨b, 3, none⟩ = some (.string res_d3) ∧ hcell H10 ⟨b, 4, none⟩ = some (.int .i64 res_e3) ∧
  hcell H10 ⟨b, 5, none⟩ = some (.int .i64 res_f3) ∧ True) ∧ K (.tuple #[.agg #[.int .i64 res_a3, .string res_b3, .int .i64 res_c3, .string res_d3, .int .i64 res_e3, .int .i64 res_f3], .int .i64 0]) H10)))) Z))) Z))) Z
theorem V51_ok {H s K Z} (h : V51 H s K Z) : CallF Tryz.prog 51 #[.string s] H K Z :=
 fnC_sound (aJ := fun _ => none) (aL := fun _ => none) (Eq.mp (by kernel_rfl) h)
def V107 (H : Hp) (s : ByteArray) (K : Value → Hp → Prop) (Z : List PanicEntry → Hp → Prop) : Prop :=
 CallF Tryz.prog 138 #[.string s] H (fun r H1 => ∃ y_0 y_1 : Int, r = .tuple #[.int .i64 y_0, .int .i64 y_1] ∧
  K (.tuple #[.int .i64 y_0, .bool (y_1 == 0)]) H1) Z
theorem V107_ok {H s K Z} (h : V107 H s K Z) : CallF Tryz.prog 107 #[.string s] H K Z :=
 fnC_sound (aJ := fun _ => none) (aL := fun _ => none) (Eq.mp (by kernel_rfl) h)
def V83 (H : Hp) (s : ByteArray) (K : Value → Hp → Prop) (Z : List PanicEntry → Hp → Prop) : Prop :=
 ∀ b H1, Newb H (.cells #[.int .i64 0, .string ⟨#[]⟩, .int .i64 0, .string ⟨#[]⟩, .int .i64 0, .int .i64 0] 76) b H1 →
  ∀ bN H2, Newb H1 (.cells #[.int .i64 0, .string ⟨#[]⟩, .int .i64 0, .string ⟨#[]⟩, .int .i64 0, .int .i64 0] 76) bN H2 →
  StL ⟨bN, 0, none⟩ 0 [.int .i64 0, .string ⟨#[]⟩, .int .i64 0, .string ⟨#[]⟩, .int .i64 0, .int .i64 (-1)] H2 fun H3 =>
  (∃ J : ByteArray → Bool → Hp → Prop, (∀ (s1 : ByteArray) (ok : Bool), ∀ H4, J s1 ok H4 → ∀ scr : Nat →
  Value, CallF Tryz.prog 108 #[.string s1] H4 (fun r H5 => ∃ y_0 y_1 : ByteArray, r = .tuple #[.string y_0, .string y_1] ∧
  (((beqS y_1 ⟨#[]⟩) = true → StL ⟨bN, 0, none⟩ 0 [.int .i64 5] H5 fun H6 => (StL ⟨bN, 3, none⟩ 0 [.string y_0] H6 fun H7 =>
  (∃ (x_a : Int) (x_b : ByteArray) (x_c : Int) (x_d : ByteArray) (x_e x_f : Int), (hcell H7 ⟨bN, 0, none⟩ = some (.int .i64 x_a) ∧
  hcell H7 ⟨bN, 1, none⟩ = some (.string x_b) ∧ hcell H7 ⟨bN, 2, none⟩ = some (.int .i64 x_c) ∧ hcell H7 ⟨bN, 3, none⟩ = some (.string x_d) ∧
  hcell H7 ⟨bN, 4, none⟩ = some (.int .i64 x_e) ∧ hcell H7 ⟨bN, 5, none⟩ = some (.int .i64 x_f) ∧ True) ∧
  StL ⟨b, 0, none⟩ 0 [.int .i64 x_a, .string x_b, .int .i64 x_c, .string x_d, .int .i64 x_e, .int .i64 x_f] H7 fun H8 =>
  (∃ (res_a : Int) (res_b : ByteArray) (res_c : Int) (res_d : ByteArray) (res_e res_f : Int), (hcell H8 ⟨b, 0, none⟩ = some (.int .i64 res_a) ∧
  hcell H8 ⟨b, 1, none⟩ = some (.string res_b) ∧ hcell H8 ⟨b, 2, none⟩ = some (.int .i64 res_c) ∧ hcell H8 ⟨b, 3, none⟩ = some (.string res_d) ∧
  hcell H8 ⟨b, 4, none⟩ = some (.int .i64 res_e) ∧ hcell H8 ⟨b, 5, none⟩ = some (.int .i64 res_f) ∧
  True) ∧ K (.tuple #[.agg #[.int .i64 res_a, .string res_b, .int .i64 res_c, .string res_d, .int .i64 res_e, .int .i64 res_f], .bool true]) H8)))) ∧
  ((beqS y_1 ⟨#[]⟩) = false → StL ⟨bN, 1, none⟩ 0 [.string y_0] H5 fun H9 => (∃ J1 : Bool → ByteArray →
  Hp → Prop, (∀ (ok1 : Bool) (rest : ByteArray), ∀ H10, J1 ok1 rest H10 → ∀ scr1 : Nat → Value, IxS rest 0 fun c =>
  (CallF Tryz.prog 106 #[.string ⟨#[32, 46, 36, 64, 40, 32, 37, 35]⟩, .int .u8 c] H10 (fun r1 H11 =>
  ∃ y : Int, r1 = .int .i64 y ∧ StL ⟨bN, 0, none⟩ 0 [.int .i64 y] H11 fun H12 => (∃ J2 : Bool → Hp →
  Prop, (∀ (ok2 : Bool), ∀ H13, J2 ok2 H13 → ∀ scr2 : Nat → Value, ∃ (x_a1 : Int) (x_b1 : ByteArray) (x_c1 : Int) (x_d1 : ByteArray) (x_e1 x_f1 : Int), (hcell H13 ⟨bN, 0, none⟩ = some (.int .i64 x_a1) ∧
  hcell H13 ⟨bN, 1, none⟩ = some (.string x_b1) ∧ hcell H13 ⟨bN, 2, none⟩ = some (.int .i64 x_c1) ∧
  hcell H13 ⟨bN, 3, none⟩ = some (.string x_d1) ∧ hcell H13 ⟨bN, 4, none⟩ = some (.int .i64 x_e1) ∧
  hcell H13 ⟨bN, 5, none⟩ = some (.int .i64 x_f1) ∧ True) ∧ StL ⟨b, 0, none⟩ 0 [.int .i64 x_a1, .string x_b1, .int .i64 x_c1, .string x_d1, .int .i64 x_e1, .int .i64 x_f1] H13 fun H14 =>
  (∃ (res_a1 : Int) (res_b1 : ByteArray) (res_c1 : Int) (res_d1 : ByteArray) (res_e1 res_f1 : Int), (hcell H14 ⟨b, 0, none⟩ = some (.int .i64 res_a1) ∧
  hcell H14 ⟨b, 1, none⟩ = some (.string res_b1) ∧ hcell H14 ⟨b, 2, none⟩ = some (.int .i64 res_c1) ∧
  hcell H14 ⟨b, 3, none⟩ = some (.string res_d1) ∧ hcell H14 ⟨b, 4, none⟩ = some (.int .i64 res_e1) ∧
  hcell H14 ⟨b, 5, none⟩ = some (.int .i64 res_f1) ∧ True) ∧ K (.tuple #[.agg #[.int .i64 res_a1, .string res_b1, .int .i64 res_c1, .string res_d1, .int .i64 res_e1, .int .i64 res_f1], .bool ok2]) H14)) ∧
  SlS rest 1 (rest.size : Int) fun cut => (∃ x : Int, hcell H12 ⟨bN, 0, none⟩ = some (.int .i64 x) ∧
  ∃ J3 : Bool → Hp → Prop, (∀ (t72 : Bool), ∀ H15, J3 t72 H15 → ∀ scr3 : Nat → Value, ((t72 = true →
  StL ⟨bN, 3, none⟩ 0 [.string cut] H15 fun H16 => (J2 ok1 H16)) ∧ (t72 = false → (((x == 4) = true →
  ∃ (x_a2 : Int) (x_b2 : ByteArray) (x_c2 : Int) (x_d2 : ByteArray) (x_e2 x_f2 : Int), (hcell H15 ⟨bN, 0, none⟩ = some (.int .i64 x_a2) ∧
  hcell H15 ⟨bN, 1, none⟩ = some (.string x_b2) ∧ hcell H15 ⟨bN, 2, none⟩ = some (.int .i64 x_c2) ∧
  hcell H15 ⟨bN, 3, none⟩ = some (.string x_d2) ∧ hcell H15 ⟨bN, 4, none⟩ = some (.int .i64 x_e2) ∧
  hcell H15 ⟨bN, 5, none⟩ = some (.int .i64 x_f2) ∧ True) ∧ StL ⟨b, 0, none⟩ 0 [.int .i64 x_a2, .string x_b2, .int .i64 x_c2, .string x_d2, .int .i64 x_e2, .int .i64 x_f2] H15 fun H17 =>
  (∃ (res_a2 : Int) (res_b2 : ByteArray) (res_c2 : Int) (res_d2 : ByteArray) (res_e2 res_f2 : Int), (hcell H17 ⟨b, 0, none⟩ = some (.int .i64 res_a2) ∧
  hcell H17 ⟨b, 1, none⟩ = some (.string res_b2) ∧ hcell H17 ⟨b, 2, none⟩ = some (.int .i64 res_c2) ∧
  hcell H17 ⟨b, 3, none⟩ = some (.string res_d2) ∧ hcell H17 ⟨b, 4, none⟩ = some (.int .i64 res_e2) ∧
  hcell H17 ⟨b, 5, none⟩ = some (.int .i64 res_f2) ∧ True) ∧ K (.tuple #[.agg #[.int .i64 res_a2, .string res_b2, .int .i64 res_c2, .string res_d2, .int .i64 res_e2, .int .i64 res_f2], .bool (beqS cut ⟨#[41]⟩)]) H17)) ∧
  ((x == 4) = false → ∃ J4 : Bool → Hp → Prop, (∀ (t82 : Bool), ∀ H18, J4 t82 H18 → ∀ scr4 : Nat →
  Value, ((t82 = true → CallF Tryz.prog 107 #[.string cut] H18 (fun r2 H19 => ∃ (y_01 : Int) (y_11 : Bool), r2 = .tuple #[.int .i64 y_01, .bool y_11] ∧
  StL ⟨bN, 4, none⟩ 0 [.int .i64 y_01] H19 fun H20 => (J2 y_11 H20)) Z) ∧ (t82 = false → (J2 false H18)))) ∧
  (((x == 2) = true → (J4 (x == 2) H15)) ∧ ((x == 2) = false → (((x == 3) = true → (J4 (x == 3) H15)) ∧
  ((x == 3) = false → (J4 (x == 7) H15)))))))))) ∧ (((x == 1) = true → (J3 (x == 1) H12)) ∧ ((x == 1) = false →
  (J3 (x == 6) H12)))))) Z)) ∧ IxS y_1 0 fun c1 => (((c1 == 126) = true → SlS y_1 1 (y_1.size : Int) fun cut1 =>
  (CallF Tryz.prog 108 #[.string cut1] H9 (fun r3 H21 => ∃ y_02 y_12 : ByteArray, r3 = .tuple #[.string y_02, .string y_12] ∧
  CallF Tryz.prog 107 #[.string y_02] H21 (fun r4 H22 => ∃ (y_03 : Int) (y_13 : Bool), r4 = .tuple #[.int .i64 y_03, .bool y_13] ∧
  StL ⟨bN, 2, none⟩ 0 [.int .i64 y_03] H22 fun H23 => (∃ J5 : Bool → Hp → Prop, (∀ (t62 : Bool), ∀ H24, J5 t62 H24 →
  ∀ scr5 : Nat → Value, ((t62 = true → ∃ (x_a3 : Int) (x_b3 : ByteArray) (x_c3 : Int) (x_d3 : ByteArray) (x_e3 x_f3 : Int), (hcell H24 ⟨bN, 0, none⟩ = some (.int .i64 x_a3) ∧
  hcell H24 ⟨bN, 1, none⟩ = some (.string x_b3) ∧ hcell H24 ⟨bN, 2, none⟩ = some (.int .i64 x_c3) ∧
  hcell H24 ⟨bN, 3, none⟩ = some (.string x_d3) ∧ hcell H24 ⟨bN, 4, none⟩ = some (.int .i64 x_e3) ∧
  hcell H24 ⟨bN, 5, none⟩ = some (.int .i64 x_f3) ∧ True) ∧ StL ⟨b, 0, none⟩ 0 [.int .i64 x_a3, .string x_b3, .int .i64 x_c3, .string x_d3, .int .i64 x_e3, .int .i64 x_f3] H24 fun H25 =>
  (∃ (res_a3 : Int) (res_b3 : ByteArray) (res_c3 : Int) (res_d3 : ByteArray) (res_e3 res_f3 : Int), (hcell H25 ⟨b, 0, none⟩ = some (.int .i64 res_a3) ∧
  hcell H25 ⟨b, 1, none⟩ = some (.string res_b3) ∧ hcell H25 ⟨b, 2, none⟩ = some (.int .i64 res_c3) ∧
  hcell H25 ⟨b, 3, none⟩ = some (.string res_d3) ∧ hcell H25 ⟨b, 4, none⟩ = some (.int .i64 res_e3) ∧
  hcell H25 ⟨b, 5, none⟩ = some (.int .i64 res_f3) ∧ True) ∧ K (.tuple #[.agg #[.int .i64 res_a3, .string res_b3, .int .i64 res_c3, .string res_d3, .int .i64 res_e3, .int .i64 res_f3], .bool false]) H25)) ∧
  (t62 = false → (J1 y_13 y_12 H24)))) ∧ (((!y_13) = true → (J5 true H23)) ∧ ((!y_13) = false → (J5 (beqS y_12 ⟨#[]⟩) H23))))) Z) Z)) ∧
  ((c1 == 126) = false → (J1 ok y_1 H9))))))) Z) ∧ CallF Tryz.prog 106 #[.string s, .int .u8 43] H3 (fun r5 H26 =>
  ∃ y1 : Int, r5 = .int .i64 y1 ∧ (((decide (y1 ≥ 0)) = true → SlS s (w64 (y1 + 1)) (s.size : Int) fun cut2 =>
  (CallF Tryz.prog 107 #[.string cut2] H26 (fun r6 H27 => ∃ (y_04 : Int) (y_14 : Bool), r6 = .tuple #[.int .i64 y_04, .bool y_14] ∧
  StL ⟨bN, 5, none⟩ 0 [.int .i64 y_04] H27 fun H28 => (((!y_14) = true → ∃ (x_a4 : Int) (x_b4 : ByteArray) (x_c4 : Int) (x_d4 : ByteArray) (x_e4 x_f4 : Int), (hcell H28 ⟨bN, 0, none⟩ = some (.int .i64 x_a4) ∧
  hcell H28 ⟨bN, 1, none⟩ = some (.string x_b4) ∧ hcell H28 ⟨bN, 2, none⟩ = some (.int .i64 x_c4) ∧
  hcell H28 ⟨bN, 3, none⟩ = some (.string x_d4) ∧ hcell H28 ⟨bN, 4, none⟩ = some (.int .i64 x_e4) ∧
  hcell H28 ⟨bN, 5, none⟩ = some (.int .i64 x_f4) ∧ True) ∧ StL ⟨b, 0, none⟩ 0 [.int .i64 x_a4, .string x_b4, .int .i64 x_c4, .string x_d4, .int .i64 x_e4, .int .i64 x_f4] H28 fun H29 =>
  (∃ (res_a4 : Int) (res_b4 : ByteArray) (res_c4 : Int) (res_d4 : ByteArray) (res_e4 res_f4 : Int), (hcell H29 ⟨b, 0, none⟩ = some (.int .i64 res_a4) ∧
  hcell H29 ⟨b, 1, none⟩ = some (.string res_b4) ∧ hcell H29 ⟨b, 2, none⟩ = some (.int .i64 res_c4) ∧
  hcell H29 ⟨b, 3, none⟩ = some (.string res_d4) ∧ hcell H29 ⟨b, 4, none⟩ = some (.int .i64 res_e4) ∧
  hcell H29 ⟨b, 5, none⟩ = some (.int .i64 res_f4) ∧ True) ∧ K (.tuple #[.agg #[.int .i64 res_a4, .string res_b4, .int .i64 res_c4, .string res_d4, .int .i64 res_e4, .int .i64 res_f4], .bool false]) H29)) ∧
  ((!y_14) = false → SlS s 0 y1 fun cut3 => (J cut3 y_14 H28)))) Z)) ∧ ((decide (y1 ≥ 0)) = false →
  (J s true H26)))) Z)
def aJ83 : Ann := (fun k => if k = 9 then some [(0, (.sc .str)), (5, (.sc .bool))] else if k = 18 then some [(62, (.sc .bool))] else if k = 19 then some [(5, (.sc .bool)), (8, (.sc .str))] else if k = 25 then some [(72, (.sc .bool))] else if k = 31 then some [(82, (.sc .bool))] else if k = 32 then some [(5, (.sc .bool))] else none)
theorem V83_ok {H s K Z} (h : V83 H s K Z) : CallF Tryz.prog 83 #[.string s] H K Z :=
 fnC_sound (aJ := aJ83) (aL := fun _ => none) (Eq.mp (by kernel_rfl) h)
def V21 (H : Hp) (obj : ByteArray) (k : Int) (K : Value → Hp → Prop) (Z : List PanicEntry → Hp → Prop) : Prop :=
 CallF Tryz.prog 51 #[.string obj] H (fun r H1 => ∃ (y_0_a : Int) (y_0_b : ByteArray) (y_0_c : Int) (y_0_d : ByteArray) (y_0_e y_0_f y_1 : Int), r = .tuple #[.agg #[.int .i64 y_0_a, .string y_0_b, .int .i64 y_0_c, .string y_0_d, .int .i64 y_0_e, .int .i64 y_0_f], .int .i64 y_1] ∧
  ∀ bN H2, Newb H1 (.cells #[.int .i64 0, .string ⟨#[]⟩, .int .i64 0, .string ⟨#[]⟩, .int .i64 0, .int .i64 0] 76) bN H2 →
  StL ⟨bN, 0, none⟩ 0 [.int .i64 y_0_a, .string y_0_b, .int .i64 y_0_c, .string y_0_d, .int .i64 y_0_e, .int .i64 y_0_f] H2 fun H3 =>
  (((y_1 != 0) = true → K (.string ⟨#[]⟩) H3) ∧ ((y_1 != 0) = false → ∃ x : Int, hcell H3 ⟨bN, 0, none⟩ = some (.int .i64 x) ∧
  (((decide (x < 5)) = true → K (.string ⟨#[]⟩) H3) ∧ ((decide (x < 5)) = false → ∃ x1 : Int, hcell H3 ⟨bN, 5, none⟩ = some (.int .i64 x1) ∧
  (((x1 != (-1)) = true → K (.string ⟨#[]⟩) H3) ∧ ((x1 != (-1)) = false → (((decide (k < 0)) = true →
  K (.string ⟨#[]⟩) H3) ∧ ((decide (k < 0)) = false → StL ⟨bN, 5, none⟩ 0 [.int .i64 k] H3 fun H4 =>
  (∃ (x_a : Int) (x_b : ByteArray) (x_c : Int) (x_d : ByteArray) (x_e x_f : Int), (hcell H4 ⟨bN, 0, none⟩ = some (.int .i64 x_a) ∧
  hcell H4 ⟨bN, 1, none⟩ = some (.string x_b) ∧ hcell H4 ⟨bN, 2, none⟩ = some (.int .i64 x_c) ∧ hcell H4 ⟨bN, 3, none⟩ = some (.string x_d) ∧
  hcell H4 ⟨bN, 4, none⟩ = some (.int .i64 x_e) ∧ hcell H4 ⟨bN, 5, none⟩ = some (.int .i64 x_f) ∧ True) ∧
  CallF Tryz.prog 52 #[.agg #[.int .i64 x_a, .string x_b, .int .i64 x_c, .string x_d, .int .i64 x_e, .int .i64 x_f]] H4 (fun r1 H5 =>
  ∃ (y_0 : ByteArray) (y_11 : Int), r1 = .tuple #[.string y_0, .int .i64 y_11] ∧ K (.string y_0) H5) Z)))))))))) Z
theorem V21_ok {H obj k K Z} (h : V21 H obj k K Z) : CallF Tryz.prog 21 #[.string obj, .int .i64 k] H K Z :=
 fnC_sound (aJ := fun _ => none) (aL := fun _ => none) (Eq.mp (by kernel_rfl) h)
end Go.Proofs.YtjpkbenogloihaaGreatDoor.N14
end
section
set_option maxRecDepth 100000
namespace Go.Proofs.YtjpkbenogloihaaGreatDoor.N01
open Go Go.V Go.Proofs
def V139 (H : Hp) (c : Int) (K : Value → Hp → Prop) (Z : List PanicEntry → Hp → Prop) : Prop :=
 (((decide (c ≥ 48)) = true → (((decide (c ≤ 57)) = true → K (.int .i64 1) H) ∧ ((decide (c ≤ 57)) = false →
  (((decide (c ≥ 65)) = true → (((decide (c ≤ 90)) = true → (((decide (c ≤ 90)) = true → K (.int .i64 2) H) ∧
  ((decide (c ≤ 90)) = false → K (.int .i64 0) H))) ∧ ((decide (c ≤ 90)) = false → (((decide (c ≥ 97)) = true →
  (((decide (c ≤ 122)) = true → (((decide (c ≤ 122)) = true → K (.int .i64 2) H) ∧ ((decide (c ≤ 122)) = false →
  K (.int .i64 0) H))) ∧ ((decide (c ≤ 122)) = false → (((c == 95) = true → K (.int .i64 2) H) ∧ ((c == 95) = false →
  K (.int .i64 0) H))))) ∧ ((decide (c ≥ 97)) = false → (((c == 95) = true → K (.int .i64 2) H) ∧ ((c == 95) = false →
  K (.int .i64 0) H))))))) ∧ ((decide (c ≥ 65)) = false → (((decide (c ≥ 97)) = true → (((decide (c ≤ 122)) = true →
  (((decide (c ≤ 122)) = true → K (.int .i64 2) H) ∧ ((decide (c ≤ 122)) = false → K (.int .i64 0) H))) ∧
  ((decide (c ≤ 122)) = false → (((c == 95) = true → K (.int .i64 2) H) ∧ ((c == 95) = false → K (.int .i64 0) H))))) ∧
  ((decide (c ≥ 97)) = false → (((c == 95) = true → K (.int .i64 2) H) ∧ ((c == 95) = false → K (.int .i64 0) H))))))))) ∧
  ((decide (c ≥ 48)) = false → (((decide (c ≥ 65)) = true → (((decide (c ≤ 90)) = true → (((decide (c ≤ 90)) = true →
  K (.int .i64 2) H) ∧ ((decide (c ≤ 90)) = false → K (.int .i64 0) H))) ∧ ((decide (c ≤ 90)) = false →
  (((decide (c ≥ 97)) = true → (((decide (c ≤ 122)) = true → (((decide (c ≤ 122)) = true → K (.int .i64 2) H) ∧
  ((decide (c ≤ 122)) = false → K (.int .i64 0) H))) ∧ ((decide (c ≤ 122)) = false → (((c == 95) = true →
  K (.int .i64 2) H) ∧ ((c == 95) = false → K (.int .i64 0) H))))) ∧ ((decide (c ≥ 97)) = false → (((c == 95) = true →
  K (.int .i64 2) H) ∧ ((c == 95) = false → K (.int .i64 0) H))))))) ∧ ((decide (c ≥ 65)) = false →
  (((decide (c ≥ 97)) = true → (((decide (c ≤ 122)) = true → (((decide (c ≤ 122)) = true → K (.int .i64 2) H) ∧
  ((decide (c ≤ 122)) = false → K (.int .i64 0) H))) ∧ ((decide (c ≤ 122)) = false → (((c == 95) = true →
  K (.int .i64 2) H) ∧ ((c == 95) = false → K (.int .i64 0) H))))) ∧ ((decide (c ≥ 97)) = false → (((c == 95) = true →
  K (.int .i64 2) H) ∧ ((c == 95) = false → K (.int .i64 0) H))))))))
theorem V139_ok {H c K Z} (h : V139 H c K Z) : CallF Tryz.prog 139 #[.int .u8 c] H K Z :=
 fnC_sound (aJ := fun _ => none) (aL := fun _ => none) (Eq.mp (by kernel_rfl) h)
def V112 (H : Hp) (n : Int) (K : Value → Hp → Prop) (Z : List PanicEntry → Hp → Prop) : Prop :=
 CallF Tryz.prog 142 #[.int .i64 n] H (fun r H1 => ∃ y : ByteArray, r = .string y ∧ K (.string y) H1) Z
theorem V112_ok {H n K Z} (h : V112 H n K Z) : CallF Tryz.prog 112 #[.int .i64 n] H K Z :=
 fnC_sound (aJ := fun _ => none) (aL := fun _ => none) (Eq.mp (by kernel_rfl) h)
def V138 (H : Hp) (s : ByteArray) (K : Value → Hp → Prop) (Z : List PanicEntry → Hp → Prop) : Prop :=
 (((beqS s ⟨#[]⟩) = true → K (.tuple #[.int .i64 0, .int .i64 1]) H) ∧ ((beqS s ⟨#[]⟩) = false → ∃ I : Int →
  Hp → Nat → Prop, (∃ m, I 0 H m) ∧ ∀ (t11 : Int), ∀ H1 m1, I t11 H1 m1 → ∀ scr : Nat → Value, (((decide (t11 < (s.size : Int))) = true →
  IxS s t11 fun c => (CallF Tryz.prog 139 #[.int .u8 c] H1 (fun r H2 => ∃ y : Int, r = .int .i64 y ∧
  (((y != 1) = true → K (.tuple #[.int .i64 0, .int .i64 3]) H2) ∧ ((y != 1) = false → (∃ m2, m2 < m1 ∧
  I (w64 (t11 + 1)) H2 m2)))) Z)) ∧ ((decide (t11 < (s.size : Int))) = false → IxS s 0 fun c1 => (((c1 == 48) = true →
  (((decide ((s.size : Int) > 1)) = true → K (.tuple #[.int .i64 0, .int .i64 3]) H1) ∧ ((decide ((s.size : Int) > 1)) = false →
  (((decide ((s.size : Int) > 9)) = true → K (.tuple #[.int .i64 0, .int .i64 2]) H1) ∧ ((decide ((s.size : Int) > 9)) = false →
  CallF Tryz.prog 157 #[.string s] H1 (fun r1 H3 => ∃ (y_0 : Int) (y_1 : Value), r1 = .tuple #[.int .i64 y_0, y_1] ∧
  NilI y_1 fun isNil => (((!isNil) = true → K (.tuple #[.int .i64 0, .int .i64 2]) H3) ∧ ((!isNil) = false →
  (((decide (y_0 > 268435456)) = true → K (.tuple #[.int .i64 0, .int .i64 2]) H3) ∧ ((decide (y_0 > 268435456)) = false →
  K (.tuple #[.int .i64 y_0, .int .i64 0]) H3))))) Z))))) ∧ ((c1 == 48) = false → (((decide ((s.size : Int) > 9)) = true →
  K (.tuple #[.int .i64 0, .int .i64 2]) H1) ∧ ((decide ((s.size : Int) > 9)) = false → CallF Tryz.prog 157 #[.string s] H1 (fun r2 H4 =>
  ∃ (y_01 : Int) (y_11 : Value), r2 = .tuple #[.int .i64 y_01, y_11] ∧ NilI y_11 fun isNil1 => (((!isNil1) = true →
  K (.tuple #[.int .i64 0, .int .i64 2]) H4) ∧ ((!isNil1) = false → (((decide (y_01 > 268435456)) = true →
  K (.tuple #[.int .i64 0, .int .i64 2]) H4) ∧ ((decide (y_01 > 268435456)) = false → K (.tuple #[.int .i64 y_01, .int .i64 0]) H4))))) Z))))))))
def aL138 : Ann := (fun k => if k = 4 then some [(11, (.sc (.int .i64)))] else none)
theorem V138_ok {H s K Z} (h : V138 H s K Z) : CallF Tryz.prog 138 #[.string s] H K Z :=
 fnC_sound (aJ := fun _ => none) (aL := aL138) (Eq.mp (by kernel_rfl) h)
def V109 (H : Hp) (s : ByteArray) (K : Value → Hp → Prop) (Z : List PanicEntry → Hp → Prop) : Prop :=
 CallF Tryz.prog 108 #[.string s] H (fun r H1 => ∃ y_0 y_1 : ByteArray, r = .tuple #[.string y_0, .string y_1] ∧
  (((!(beqS y_0 ⟨#[]⟩)) = true → (((beqS y_1 ⟨#[]⟩) = true → (((decide ((s.size : Int) ≤ 16)) = true →
  IxS s 0 fun c => (CallF Tryz.prog 139 #[.int .u8 c] H1 (fun r1 H2 => ∃ y : Int, r1 = .int .i64 y ∧
  K (.bool (y == 2)) H2) Z)) ∧ ((decide ((s.size : Int) ≤ 16)) = false → K (.bool false) H1))) ∧ ((beqS y_1 ⟨#[]⟩) = false →
  K (.bool false) H1))) ∧ ((!(beqS y_0 ⟨#[]⟩)) = false → K (.bool false) H1))) Z
theorem V109_ok {H s K Z} (h : V109 H s K Z) : CallF Tryz.prog 109 #[.string s] H K Z :=
 fnC_sound (aJ := fun _ => none) (aL := fun _ => none) (Eq.mp (by kernel_rfl) h)
def V108 (H : Hp) (s : ByteArray) (K : Value → Hp → Prop) (Z : List PanicEntry → Hp → Prop) : Prop :=
 (((beqS s ⟨#[]⟩) = true → K (.tuple #[.string ⟨#[]⟩, .string ⟨#[]⟩]) H) ∧ ((beqS s ⟨#[]⟩) = false →
  IxS s 0 fun c => (CallF Tryz.prog 139 #[.int .u8 c] H (fun r H1 => ∃ y : Int, r = .int .i64 y ∧ (((y != 2) = true →
  CallF Tryz.prog 140 #[.string s, .string ⟨#[48, 49, 50, 51, 52, 53, 54, 55, 56, 57]⟩] H1 (fun r1 H2 =>
  ∃ y1 : ByteArray, r1 = .string y1 ∧ SlS s 0 (w64 ((s.size : Int) - (y1.size : Int))) fun cut => (K (.tuple #[.string cut, .string y1]) H2)) Z) ∧
  ((y != 2) = false → ∃ I : Int → Hp → Nat → Prop, (∃ m, I 0 H1 m) ∧ ∀ (t25 : Int), ∀ H3 m1, I t25 H3 m1 →
  ∀ scr : Nat → Value, (((decide (t25 < (s.size : Int))) = true → IxS s t25 fun c1 => (CallF Tryz.prog 139 #[.int .u8 c1] H3 (fun r2 H4 =>
  ∃ y2 : Int, r2 = .int .i64 y2 ∧ (((decide (y2 < 1)) = true → SlS s 0 t25 fun cut1 => (SlS s t25 (s.size : Int) fun cut2 =>
  (K (.tuple #[.string cut1, .string cut2]) H4))) ∧ ((decide (y2 < 1)) = false → (∃ m2, m2 < m1 ∧ I (w64 (t25 + 1)) H4 m2)))) Z)) ∧
  ((decide (t25 < (s.size : Int))) = false → K (.tuple #[.string s, .string ⟨#[]⟩]) H3))))) Z)))
def aL108 : Ann := (fun k => if k = 8 then some [(25, (.sc (.int .i64)))] else none)
theorem V108_ok {H s K Z} (h : V108 H s K Z) : CallF Tryz.prog 108 #[.string s] H K Z :=
 fnC_sound (aJ := fun _ => none) (aL := aL108) (Eq.mp (by kernel_rfl) h)
end Go.Proofs.YtjpkbenogloihaaGreatDoor.N01
end
section
set_option maxRecDepth 100000
namespace Go.Proofs.YtjpkbenogloihaaGreatDoor.S01
open Go Go.Proofs Go.Shelf
def lays_itoa_ren : Go.Shelf.Ren := ⟨fun | 171 => 142 | 243 => 159 | 246 => 176 | 283 => 184 | 284 => 185 | 285 => 186 | 286 => 187 | 129 => 192 | 317 => 191 | 318 => 193 | 319 => 194 | 320 => 195 | 337 => 198 | 338 => 199 | n => n, fun | 3 => 3 | 9 => 9 | 2 => 2 | 4 => 4 | 171 => 197 | 0 => 0 | 53 => 178 | 37 => 133 | 5 => 5 | 173 => 200 | 212 => 209 | 51 => 188 | 20 => 20 | 213 => 210 | 46 => 168 | 232 => 217 | 233 => 218 | n => n, fun | 17 => 5 | 18 => 6 | 19 => 7 | n => n⟩
theorem lays_itoa : Go.Proofs.LaysM.n171 Tryz.prog lays_itoa_ren where
 mixed := by kernel_rfl
 f129 := Tryz.func192.trans (congrArg some (by kernel_rfl))
 f171 := Tryz.func142.trans (congrArg some (by kernel_rfl))
 f243 := Tryz.func159.trans (congrArg some (by kernel_rfl))
 f246 := Tryz.func176.trans (congrArg some (by kernel_rfl))
 f283 := Tryz.func184.trans (congrArg some (by kernel_rfl))
 f284 := Tryz.func185.trans (congrArg some (by kernel_rfl))
 f285 := Tryz.func186.trans (congrArg some (by kernel_rfl))
 f286 := Tryz.func187.trans (congrArg some (by kernel_rfl))
 f317 := Tryz.func191.trans (congrArg some (by kernel_rfl))
 f318 := Tryz.func193.trans (congrArg some (by kernel_rfl))
 f319 := Tryz.func194.trans (congrArg some (by kernel_rfl))
 f320 := Tryz.func195.trans (congrArg some (by kernel_rfl))
 f337 := Tryz.func198.trans (congrArg some (by kernel_rfl))
 f338 := Tryz.func199.trans (congrArg some (by kernel_rfl))
 t0 := Tryz.underlying0
 a0 := Tryz.isAgg0
 z0 := Tryz.sizeOf0
 v0 := Tryz.zeroValue0
 t2 := Tryz.underlying2
 a2 := Tryz.isAgg2
 z2 := Tryz.sizeOf2
 v2 := Tryz.zeroValue2
 t3 := Tryz.underlying3
 a3 := Tryz.isAgg3
 z3 := Tryz.sizeOf3
 v3 := Tryz.zeroValue3
 t4 := Tryz.underlying4
 a4 := Tryz.isAgg4
 z4 := Tryz.sizeOf4
 v4 := Tryz.zeroValue4
 t5 := Tryz.underlying5
 a5 := Tryz.isAgg5
 z5 := Tryz.sizeOf5
 v5 := Tryz.zeroValue5
 t9 := Tryz.underlying9
 a9 := Tryz.isAgg9
 z9 := Tryz.sizeOf9
 v9 := Tryz.zeroValue9
 t20 := Tryz.underlying20
 a20 := Tryz.isAgg20
 z20 := Tryz.sizeOf20
 v20 := Tryz.zeroValue20
 t37 := Tryz.underlying133
 a37 := Tryz.isAgg133
 z37 := Tryz.sizeOf133
 v37 := Tryz.zeroValue133
 t46 := Tryz.underlying168
 a46 := Tryz.isAgg168
 z46 := Tryz.sizeOf168
 v46 := Tryz.zeroValue168
 t51 := Tryz.underlying188
 a51 := Tryz.isAgg188
 z51 := Tryz.sizeOf188
 v51 := Tryz.zeroValue188
 t53 := Tryz.underlying178
 a53 := Tryz.isAgg178
 z53 := Tryz.sizeOf178
 v53 := Tryz.zeroValue178
 t171 := Tryz.underlying197
 a171 := Tryz.isAgg197
 z171 := Tryz.sizeOf197
 v171 := Tryz.zeroValue197
 t173 := Tryz.underlying200
 a173 := Tryz.isAgg200
 z173 := Tryz.sizeOf200
 v173 := Tryz.zeroValue200
 t212 := Tryz.underlying209
 a212 := Tryz.isAgg209
 z212 := Tryz.sizeOf209
 v212 := Tryz.zeroValue209
 t213 := Tryz.underlying210
 a213 := Tryz.isAgg210
 z213 := Tryz.sizeOf210
 t232 := Tryz.underlying217
 a232 := Tryz.isAgg217
 z232 := Tryz.sizeOf217
 v232 := Tryz.zeroValue217
 t233 := Tryz.underlying218
 a233 := Tryz.isAgg218
 z233 := Tryz.sizeOf218
 v233 := Tryz.zeroValue218
 g17 := by kernel_rfl
 g18 := by kernel_rfl
 g19 := by kernel_rfl
 i0 := by kernel_rfl
 i2 := by kernel_rfl
 i3 := by kernel_rfl
 i4 := by kernel_rfl
 i5 := by kernel_rfl
 i9 := by kernel_rfl
 i20 := by kernel_rfl
 i37 := by kernel_rfl
 i46 := by kernel_rfl
 i51 := by kernel_rfl
 i53 := by kernel_rfl
 i171 := by kernel_rfl
 i173 := by kernel_rfl
 i212 := by kernel_rfl
 i232 := by kernel_rfl
 i233 := by kernel_rfl
 m17 := by kernel_rfl
 m18 := by kernel_rfl
 m19 := by kernel_rfl
def lays_atoi_ren : Go.Shelf.Ren := ⟨fun | 172 => 157 | 244 => 174 | 245 => 175 | 247 => 179 | 279 => 180 | 280 => 181 | 281 => 182 | 282 => 183 | 287 => 188 | 316 => 189 | 171 => 142 | 205 => 190 | 321 => 196 | 322 => 197 | 243 => 159 | 246 => 176 | 283 => 184 | 284 => 185 | 285 => 186 | 286 => 187 | 129 => 192 | 317 => 191 | 318 => 193 | 319 => 194 | 320 => 195 | 337 => 198 | 338 => 199 | n => n, fun | 9 => 9 | 3 => 3 | 75 => 137 | 76 => 138 | 4 => 4 | 5 => 5 | 167 => 191 | 37 => 133 | 0 => 0 | 85 => 192 | 2 => 2 | 168 => 194 | 53 => 178 | 175 => 202 | 46 => 168 | 210 => 206 | 127 => 167 | 145 => 215 | 143 => 213 | 21 => 21 | 171 => 197 | 173 => 200 | 212 => 209 | 51 => 188 | 20 => 20 | 213 => 210 | 232 => 217 | 233 => 218 | 80 => 111 | n => n, fun | 15 => 3 | 16 => 4 | 17 => 5 | 18 => 6 | 19 => 7 | n => n⟩
theorem lays_atoi : Go.Proofs.LaysC.n172 Tryz.prog lays_atoi_ren where
 mixed := by kernel_rfl
 f129 := Tryz.func192.trans (congrArg some (by kernel_rfl))
 f171 := Tryz.func142.trans (congrArg some (by kernel_rfl))
 f172 := Tryz.func157.trans (congrArg some (by kernel_rfl))
 f205 := Tryz.func190.trans (congrArg some (by kernel_rfl))
 f243 := Tryz.func159.trans (congrArg some (by kernel_rfl))
 f244 := Tryz.func174.trans (congrArg some (by kernel_rfl))
 f245 := Tryz.func175.trans (congrArg some (by kernel_rfl))
 f246 := Tryz.func176.trans (congrArg some (by kernel_rfl))
 f247 := Tryz.func179.trans (congrArg some (by kernel_rfl))
 f279 := Tryz.func180.trans (congrArg some (by kernel_rfl))
 f280 := Tryz.func181.trans (congrArg some (by kernel_rfl))
 f281 := Tryz.func182.trans (congrArg some (by kernel_rfl))
 f282 := Tryz.func183.trans (congrArg some (by kernel_rfl))
 f283 := Tryz.func184.trans (congrArg some (by kernel_rfl))
 f284 := Tryz.func185.trans (congrArg some (by kernel_rfl))
 f285 := Tryz.func186.trans (congrArg some (by kernel_rfl))
 f286 := Tryz.func187.trans (congrArg some (by kernel_rfl))
 f287 := Tryz.func188.trans (congrArg some (by kernel_rfl))
 f316 := Tryz.func189.trans (congrArg some (by kernel_rfl))
 f317 := Tryz.func191.trans (congrArg some (by kernel_rfl))
 f318 := Tryz.func193.trans (congrArg some (by kernel_rfl))
 f319 := Tryz.func194.trans (congrArg some (by kernel_rfl))
 f320 := Tryz.func195.trans (congrArg some (by kernel_rfl))
 f321 := Tryz.func196.trans (congrArg some (by kernel_rfl))
 f322 := Tryz.func197.trans (congrArg some (by kernel_rfl))
 f337 := Tryz.func198.trans (congrArg some (by kernel_rfl))
 f338 := Tryz.func199.trans (congrArg some (by kernel_rfl))
 t0 := Tryz.underlying0
 a0 := Tryz.isAgg0
 z0 := Tryz.sizeOf0
 v0 := Tryz.zeroValue0
 t2 := Tryz.underlying2
 a2 := Tryz.isAgg2
 z2 := Tryz.sizeOf2
 v2 := Tryz.zeroValue2
 t3 := Tryz.underlying3
 a3 := Tryz.isAgg3
 z3 := Tryz.sizeOf3
 v3 := Tryz.zeroValue3
 t4 := Tryz.underlying4
 a4 := Tryz.isAgg4
 z4 := Tryz.sizeOf4
 v4 := Tryz.zeroValue4
 t5 := Tryz.underlying5
 a5 := Tryz.isAgg5
 z5 := Tryz.sizeOf5
 v5 := Tryz.zeroValue5
 t9 := Tryz.underlying9
 a9 := Tryz.isAgg9
 z9 := Tryz.sizeOf9
 v9 := Tryz.zeroValue9
 t20 := Tryz.underlying20
 a20 := Tryz.isAgg20
 z20 := Tryz.sizeOf20
 v20 := Tryz.zeroValue20
 t21 := Tryz.underlying21
 a21 := Tryz.isAgg21
 z21 := Tryz.sizeOf21
 v21 := Tryz.zeroValue21
 t37 := Tryz.underlying133
 a37 := Tryz.isAgg133
 z37 := Tryz.sizeOf133
 v37 := Tryz.zeroValue133
 t46 := Tryz.underlying168
 a46 := Tryz.isAgg168
 z46 := Tryz.sizeOf168
 v46 := Tryz.zeroValue168
 t51 := Tryz.underlying188
 a51 := Tryz.isAgg188
 z51 := Tryz.sizeOf188
 v51 := Tryz.zeroValue188
 t53 := Tryz.underlying178
 a53 := Tryz.isAgg178
 z53 := Tryz.sizeOf178
 v53 := Tryz.zeroValue178
 t75 := Tryz.underlying137
 a75 := Tryz.isAgg137
 z75 := Tryz.sizeOf137
 v75 := Tryz.zeroValue137
 t76 := Tryz.underlying138
 a76 := Tryz.isAgg138
 z76 := Tryz.sizeOf138
 v76 := Tryz.zeroValue138
 t85 := Tryz.underlying192
 a85 := Tryz.isAgg192
 z85 := Tryz.sizeOf192
 v85 := Tryz.zeroValue192
 t127 := Tryz.underlying167
 a127 := Tryz.isAgg167
 z127 := Tryz.sizeOf167
 v127 := Tryz.zeroValue167
 t143 := Tryz.underlying213
 a143 := Tryz.isAgg213
 z143 := Tryz.sizeOf213
 v143 := Tryz.zeroValue213
 t145 := Tryz.underlying215
 a145 := Tryz.isAgg215
 z145 := Tryz.sizeOf215
 v145 := Tryz.zeroValue215
 t167 := Tryz.underlying191
 a167 := Tryz.isAgg191
 z167 := Tryz.sizeOf191
 v167 := Tryz.zeroValue191
 t168 := Tryz.underlying194
 a168 := Tryz.isAgg194
 z168 := Tryz.sizeOf194
 v168 := Tryz.zeroValue194
 t171 := Tryz.underlying197
 a171 := Tryz.isAgg197
 z171 := Tryz.sizeOf197
 v171 := Tryz.zeroValue197
 t173 := Tryz.underlying200
 a173 := Tryz.isAgg200
 z173 := Tryz.sizeOf200
 v173 := Tryz.zeroValue200
 t175 := Tryz.underlying202
 a175 := Tryz.isAgg202
 z175 := Tryz.sizeOf202
 v175 := Tryz.zeroValue202
 t210 := Tryz.underlying206
 a210 := Tryz.isAgg206
 z210 := Tryz.sizeOf206
 v210 := Tryz.zeroValue206
 t212 := Tryz.underlying209
 a212 := Tryz.isAgg209
 z212 := Tryz.sizeOf209
 v212 := Tryz.zeroValue209
 t213 := Tryz.underlying210
 a213 := Tryz.isAgg210
 z213 := Tryz.sizeOf210
 t232 := Tryz.underlying217
 a232 := Tryz.isAgg217
 z232 := Tryz.sizeOf217
 v232 := Tryz.zeroValue217
 t233 := Tryz.underlying218
 a233 := Tryz.isAgg218
 z233 := Tryz.sizeOf218
 v233 := Tryz.zeroValue218
 g15 := by kernel_rfl
 g16 := by kernel_rfl
 g17 := by kernel_rfl
 g18 := by kernel_rfl
 g19 := by kernel_rfl
 t80 := Tryz.underlying111
 a80 := Tryz.isAgg111
 z80 := Tryz.sizeOf111
 v80 := Tryz.zeroValue111
 i0 := by kernel_rfl
 i2 := by kernel_rfl
 i3 := by kernel_rfl
 i4 := by kernel_rfl
 i5 := by kernel_rfl
 i9 := by kernel_rfl
 i20 := by kernel_rfl
 i21 := by kernel_rfl
 i37 := by kernel_rfl
 i46 := by kernel_rfl
 i51 := by kernel_rfl
 i53 := by kernel_rfl
 i75 := by kernel_rfl
 i76 := by kernel_rfl
 i80 := by kernel_rfl
 i85 := by kernel_rfl
 i127 := by kernel_rfl
 i143 := by kernel_rfl
 i145 := by kernel_rfl
 i167 := by kernel_rfl
 i168 := by kernel_rfl
 i171 := by kernel_rfl
 i173 := by kernel_rfl
 i175 := by kernel_rfl
 i210 := by kernel_rfl
 i212 := by kernel_rfl
 i232 := by kernel_rfl
 i233 := by kernel_rfl
 m15 := by kernel_rfl
 m16 := by kernel_rfl
 m17 := by kernel_rfl
 m18 := by kernel_rfl
 m19 := by kernel_rfl
 c0 := by kernel_rfl
 c2 := by kernel_rfl
 c3 := by kernel_rfl
 c4 := by kernel_rfl
 c5 := by kernel_rfl
 c9 := by kernel_rfl
 c20 := by kernel_rfl
 c21 := by kernel_rfl
 c37 := by kernel_rfl
 c46 := by kernel_rfl
 c51 := by kernel_rfl
 c53 := by kernel_rfl
 c75 := by kernel_rfl
 c76 := by kernel_rfl
 c80 := by kernel_rfl
 c85 := by kernel_rfl
 c127 := by kernel_rfl
 c143 := by kernel_rfl
 c145 := by kernel_rfl
 c167 := by kernel_rfl
 c168 := by kernel_rfl
 c171 := by kernel_rfl
 c173 := by kernel_rfl
 c175 := by kernel_rfl
 c210 := by kernel_rfl
 c212 := by kernel_rfl
 c213 := by kernel_rfl
 c232 := by kernel_rfl
 c233 := by kernel_rfl
def lays_trimLeft_ren : Go.Shelf.Ren := ⟨fun | 161 => 140 | 231 => 129 | 227 => 131 | 233 => 132 | 235 => 134 | 228 => 151 | 197 => 152 | 151 => 153 | 260 => 168 | 152 => 169 | 137 => 106 | 119 => 177 | 224 => 172 | 225 => 171 | 217 => 137 | 266 => 156 | n => n, fun | 9 => 9 | 4 => 4 | 3 => 3 | 5 => 5 | 117 => 162 | 116 => 161 | 0 => 0 | 124 => 165 | 105 => 171 | 21 => 21 | 119 => 183 | 46 => 168 | 139 => 186 | 138 => 185 | n => n, fun | 3 => 1 | 4 => 2 | n => n⟩
theorem lays_trimLeft : Go.Proofs.Lays.n161 Tryz.prog lays_trimLeft_ren where
 mixed := by kernel_rfl
 f119 := Tryz.func177.trans (congrArg some (by kernel_rfl))
 f137 := Tryz.func106.trans (congrArg some (by kernel_rfl))
 f151 := Tryz.func153.trans (congrArg some (by kernel_rfl))
 f152 := Tryz.func169.trans (congrArg some (by kernel_rfl))
 f161 := Tryz.func140.trans (congrArg some (by kernel_rfl))
 f197 := Tryz.func152.trans (congrArg some (by kernel_rfl))
 f217 := Tryz.func137.trans (congrArg some (by kernel_rfl))
 f224 := Tryz.func172.trans (congrArg some (by kernel_rfl))
 f225 := Tryz.func171.trans (congrArg some (by kernel_rfl))
 f227 := Tryz.func131.trans (congrArg some (by kernel_rfl))
 f228 := Tryz.func151.trans (congrArg some (by kernel_rfl))
 f231 := Tryz.func129.trans (congrArg some (by kernel_rfl))
 f233 := Tryz.func132.trans (congrArg some (by kernel_rfl))
 f235 := Tryz.func134.trans (congrArg some (by kernel_rfl))
 f260 := Tryz.func168.trans (congrArg some (by kernel_rfl))
 f266 := Tryz.func156.trans (congrArg some (by kernel_rfl))
 t0 := Tryz.underlying0
 a0 := Tryz.isAgg0
 z0 := Tryz.sizeOf0
 v0 := Tryz.zeroValue0
 t3 := Tryz.underlying3
 a3 := Tryz.isAgg3
 z3 := Tryz.sizeOf3
 v3 := Tryz.zeroValue3
 t4 := Tryz.underlying4
 a4 := Tryz.isAgg4
 z4 := Tryz.sizeOf4
 v4 := Tryz.zeroValue4
 t5 := Tryz.underlying5
 a5 := Tryz.isAgg5
 z5 := Tryz.sizeOf5
 v5 := Tryz.zeroValue5
 t9 := Tryz.underlying9
 a9 := Tryz.isAgg9
 z9 := Tryz.sizeOf9
 v9 := Tryz.zeroValue9
 t21 := Tryz.underlying21
 a21 := Tryz.isAgg21
 z21 := Tryz.sizeOf21
 v21 := Tryz.zeroValue21
 t46 := Tryz.underlying168
 a46 := Tryz.isAgg168
 z46 := Tryz.sizeOf168
 v46 := Tryz.zeroValue168
 t105 := Tryz.underlying171
 a105 := Tryz.isAgg171
 z105 := Tryz.sizeOf171
 v105 := Tryz.zeroValue171
 t116 := Tryz.underlying161
 a116 := Tryz.isAgg161
 z116 := Tryz.sizeOf161
 t117 := Tryz.underlying162
 a117 := Tryz.isAgg162
 z117 := Tryz.sizeOf162
 v117 := Tryz.zeroValue162
 t119 := Tryz.underlying183
 a119 := Tryz.isAgg183
 z119 := Tryz.sizeOf183
 t124 := Tryz.underlying165
 a124 := Tryz.isAgg165
 z124 := Tryz.sizeOf165
 v124 := Tryz.zeroValue165
 t138 := Tryz.underlying185
 a138 := Tryz.isAgg185
 z138 := Tryz.sizeOf185
 v138 := Tryz.zeroValue185
 t139 := Tryz.underlying186
 a139 := Tryz.isAgg186
 z139 := Tryz.sizeOf186
 v139 := Tryz.zeroValue186
 g3 := by kernel_rfl
 g4 := by kernel_rfl
def lays_indexByte_ren : Go.Shelf.Ren := ⟨fun | 137 => 106 | 217 => 137 | 266 => 156 | n => n, fun | 9 => 9 | 5 => 5 | 3 => 3 | n => n, fun | n => n⟩
theorem lays_indexByte : Go.Proofs.Lays.n137 Tryz.prog lays_indexByte_ren where
 mixed := by kernel_rfl
 f137 := Tryz.func106.trans (congrArg some (by kernel_rfl))
 f217 := Tryz.func137.trans (congrArg some (by kernel_rfl))
 f266 := Tryz.func156.trans (congrArg some (by kernel_rfl))
 t3 := Tryz.underlying3
 a3 := Tryz.isAgg3
 z3 := Tryz.sizeOf3
 v3 := Tryz.zeroValue3
 t5 := Tryz.underlying5
 a5 := Tryz.isAgg5
 z5 := Tryz.sizeOf5
 v5 := Tryz.zeroValue5
 t9 := Tryz.underlying9
 a9 := Tryz.isAgg9
 z9 := Tryz.sizeOf9
 v9 := Tryz.zeroValue9
def lays_trim_ren : Go.Shelf.Ren := ⟨fun | 160 => 103 | 232 => 130 | 231 => 129 | 227 => 131 | 234 => 133 | 233 => 132 | 236 => 135 | 235 => 134 | 228 => 151 | 271 => 154 | 151 => 153 | 197 => 152 | 120 => 170 | 152 => 169 | 260 => 168 | 137 => 106 | 119 => 177 | 224 => 172 | 225 => 171 | 217 => 137 | 266 => 156 | n => n, fun | 9 => 9 | 4 => 4 | 3 => 3 | 5 => 5 | 117 => 162 | 116 => 161 | 0 => 0 | 124 => 165 | 21 => 21 | 105 => 171 | 46 => 168 | 119 => 183 | 139 => 186 | 138 => 185 | n => n, fun | 3 => 1 | 4 => 2 | n => n⟩
theorem lays_trim : Go.Proofs.Lays.n160 Tryz.prog lays_trim_ren where
 mixed := by kernel_rfl
 f119 := Tryz.func177.trans (congrArg some (by kernel_rfl))
 f120 := Tryz.func170.trans (congrArg some (by kernel_rfl))
 f137 := Tryz.func106.trans (congrArg some (by kernel_rfl))
 f151 := Tryz.func153.trans (congrArg some (by kernel_rfl))
 f152 := Tryz.func169.trans (congrArg some (by kernel_rfl))
 f160 := Tryz.func103.trans (congrArg some (by kernel_rfl))
 f197 := Tryz.func152.trans (congrArg some (by kernel_rfl))
 f217 := Tryz.func137.trans (congrArg some (by kernel_rfl))
 f224 := Tryz.func172.trans (congrArg some (by kernel_rfl))
 f225 := Tryz.func171.trans (congrArg some (by kernel_rfl))
 f227 := Tryz.func131.trans (congrArg some (by kernel_rfl))
 f228 := Tryz.func151.trans (congrArg some (by kernel_rfl))
 f231 := Tryz.func129.trans (congrArg some (by kernel_rfl))
 f232 := Tryz.func130.trans (congrArg some (by kernel_rfl))
 f233 := Tryz.func132.trans (congrArg some (by kernel_rfl))
 f234 := Tryz.func133.trans (congrArg some (by kernel_rfl))
 f235 := Tryz.func134.trans (congrArg some (by kernel_rfl))
 f236 := Tryz.func135.trans (congrArg some (by kernel_rfl))
 f260 := Tryz.func168.trans (congrArg some (by kernel_rfl))
 f266 := Tryz.func156.trans (congrArg some (by kernel_rfl))
 f271 := Tryz.func154.trans (congrArg some (by kernel_rfl))
 t0 := Tryz.underlying0
 a0 := Tryz.isAgg0
 z0 := Tryz.sizeOf0
 v0 := Tryz.zeroValue0
 t3 := Tryz.underlying3
 a3 := Tryz.isAgg3
 z3 := Tryz.sizeOf3
 v3 := Tryz.zeroValue3
 t4 := Tryz.underlying4
 a4 := Tryz.isAgg4
 z4 := Tryz.sizeOf4
 v4 := Tryz.zeroValue4
 t5 := Tryz.underlying5
 a5 := Tryz.isAgg5
 z5 := Tryz.sizeOf5
 v5 := Tryz.zeroValue5
 t9 := Tryz.underlying9
 a9 := Tryz.isAgg9
 z9 := Tryz.sizeOf9
 v9 := Tryz.zeroValue9
 t21 := Tryz.underlying21
 a21 := Tryz.isAgg21
 z21 := Tryz.sizeOf21
 v21 := Tryz.zeroValue21
 t46 := Tryz.underlying168
 a46 := Tryz.isAgg168
 z46 := Tryz.sizeOf168
 v46 := Tryz.zeroValue168
 t105 := Tryz.underlying171
 a105 := Tryz.isAgg171
 z105 := Tryz.sizeOf171
 v105 := Tryz.zeroValue171
 t116 := Tryz.underlying161
 a116 := Tryz.isAgg161
 z116 := Tryz.sizeOf161
 t117 := Tryz.underlying162
 a117 := Tryz.isAgg162
 z117 := Tryz.sizeOf162
 v117 := Tryz.zeroValue162
 t119 := Tryz.underlying183
 a119 := Tryz.isAgg183
 z119 := Tryz.sizeOf183
 t124 := Tryz.underlying165
 a124 := Tryz.isAgg165
 z124 := Tryz.sizeOf165
 v124 := Tryz.zeroValue165
 t138 := Tryz.underlying185
 a138 := Tryz.isAgg185
 z138 := Tryz.sizeOf185
 v138 := Tryz.zeroValue185
 t139 := Tryz.underlying186
 a139 := Tryz.isAgg186
 z139 := Tryz.sizeOf186
 v139 := Tryz.zeroValue186
 g3 := by kernel_rfl
 g4 := by kernel_rfl
def lays_index_ren : Go.Shelf.Ren := ⟨fun | 219 => 155 | 217 => 137 | 225 => 171 | 224 => 172 | 267 => 173 | 266 => 156 | 314 => 178 | n => n, fun | 9 => 9 | 3 => 3 | 4 => 4 | 5 => 5 | 46 => 168 | 146 => 189 | 51 => 188 | n => n, fun | 1 => 0 | n => n⟩
theorem lays_index : Go.Proofs.Lays.n219 Tryz.prog lays_index_ren where
 mixed := by kernel_rfl
 f217 := Tryz.func137.trans (congrArg some (by kernel_rfl))
 f219 := Tryz.func155.trans (congrArg some (by kernel_rfl))
 f224 := Tryz.func172.trans (congrArg some (by kernel_rfl))
 f225 := Tryz.func171.trans (congrArg some (by kernel_rfl))
 f266 := Tryz.func156.trans (congrArg some (by kernel_rfl))
 f267 := Tryz.func173.trans (congrArg some (by kernel_rfl))
 f314 := Tryz.func178.trans (congrArg some (by kernel_rfl))
 t3 := Tryz.underlying3
 a3 := Tryz.isAgg3
 z3 := Tryz.sizeOf3
 v3 := Tryz.zeroValue3
 t4 := Tryz.underlying4
 a4 := Tryz.isAgg4
 z4 := Tryz.sizeOf4
 v4 := Tryz.zeroValue4
 t5 := Tryz.underlying5
 a5 := Tryz.isAgg5
 z5 := Tryz.sizeOf5
 v5 := Tryz.zeroValue5
 t9 := Tryz.underlying9
 a9 := Tryz.isAgg9
 z9 := Tryz.sizeOf9
 v9 := Tryz.zeroValue9
 t46 := Tryz.underlying168
 a46 := Tryz.isAgg168
 z46 := Tryz.sizeOf168
 v46 := Tryz.zeroValue168
 t51 := Tryz.underlying188
 a51 := Tryz.isAgg188
 z51 := Tryz.sizeOf188
 v51 := Tryz.zeroValue188
 t146 := Tryz.underlying189
 a146 := Tryz.isAgg189
 z146 := Tryz.sizeOf189
 v146 := Tryz.zeroValue189
 g1 := by kernel_rfl
end Go.Proofs.YtjpkbenogloihaaGreatDoor.S01
end
