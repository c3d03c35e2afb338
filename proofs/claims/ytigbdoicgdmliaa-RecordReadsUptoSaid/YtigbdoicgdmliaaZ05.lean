import Derived.Test.YtigbdoicgdmliaaZ04
import Derived.Test.YtigbdoicgdmliaaProg
section
/- The conditions of record's functions, and of weftref26's and weftlaw26's (printed by our own program vn.py; the kernel checks each against V5's comp). -/
set_option linter.unusedVariables false
set_option maxRecDepth 100000
-- lawReads: 8
-- lawBytes: 9
-- lawBack: 10
-- works: 45
-- greatTexts: 41
-- great24: 46
-- greatKeeps: 92
-- great15: 91
-- same24: 44
-- same15: 90
-- sameObj: 115
-- cmp15: 116
-- ints15: 144
-- texts15: 145
-- texts: 51
-- texts1: 96
-- bytes: 48
-- bytes1: 94
-- read: 42
-- rtext: 76
-- good: 110
-- thStr: 77
-- thObj: 78
-- thFn: 80
-- thCon: 82
-- thMark: 111
-- robject: 79
-- rfunction: 81
-- rcon: 83
-- rmark: 112
-- summary: 95
-- summary1: 123
-- summary11: 125
-- summary2: 128
-- summary3: 130
-- wtext: 120
-- wnumber: 126
-- wfail: 146
-- liStr: 121
-- liObj: 122
-- liMark: 124
-- liFn: 127
-- liCon: 129
-- xTexts: 47
-- xBytes: 49
-- xRead: 43
-- xtext: 84
-- xtexts: 85
-- xmany: 86
-- xobject: 87
-- xsummary: 93
-- xwtext: 117
-- xwtexts: 118
-- xwnumber: 119
-- same5: 50
-- number5: 31
-- into5: 101
namespace Go.Proofs.Ytigbdoicgdmliaa.N26
open Go Go.V Go.Proofs
/-- weft/weftlaw26.RecordReads -/
def V8 (H : Hp) (l : Sl) (b : ByteArray) (K : Value → Hp → Prop) (Z : List PanicEntry → Hp → Prop) : Prop :=
  ∃ J : Hp → Prop, (∀ H1, J  H1 → ∀ scr : Nat → Value, CallF Try.prog 29 #[.slice l.a l.n l.c] H1 (fun r H2 => 
    ∃ y : Sl, r = .slice y.a y.n y.c ∧ CallF Try.prog 28 #[.slice y.a y.n y.c] H2 (fun r1 H3 => ∃ y1 : Option Addr, r1 = .pointer y1 ∧ 
    CallF Try.prog 42 #[.pointer y1, .string b] H3 (fun r2 H4 => ∃ y_0_a : ByteArray, ∃ y_0_b : Sl, ∃ y_0_c : Sl, ∃ y_0_d : Sl, ∃ y_0_e : Sl, ∃ y_0_f : Sl, ∃ y_0_g : Sl, ∃ y_1 : Int, r2 = .tuple #[.agg #[.string y_0_a, .slice y_0_b.a y_0_b.n y_0_b.c, .slice y_0_c.a y_0_c.n y_0_c.c, .slice y_0_d.a y_0_d.n y_0_d.c, .slice y_0_e.a y_0_e.n y_0_e.c, .slice y_0_f.a y_0_f.n y_0_f.c, .slice y_0_g.a y_0_g.n y_0_g.c], .int .i64 y_1] ∧ 
    ∀ bX H5, Newb H4 (.cells #[.string ⟨#[]⟩, .slice none 0 0, .slice none 0 0, .slice none 0 0, .slice none 0 0, .slice none 0 0, .slice none 0 0] 90) bX H5 → 
    StL ⟨bX, 0, none⟩ 0 [.string y_0_a, .slice y_0_b.a y_0_b.n y_0_b.c, .slice y_0_c.a y_0_c.n y_0_c.c, .slice y_0_d.a y_0_d.n y_0_d.c, .slice y_0_e.a y_0_e.n y_0_e.c, .slice y_0_f.a y_0_f.n y_0_f.c, .slice y_0_g.a y_0_g.n y_0_g.c] H5 fun H6 => 
    (CallF Try.prog 43 #[.slice y.a y.n y.c, .string b] H6 (fun r3 H7 => ∃ y_0_a1 : ByteArray, ∃ y_0_b1 : Sl, ∃ y_0_c1 : Sl, ∃ y_0_d1 : Sl, ∃ y_0_e1 : Sl, ∃ y_0_f1 : Sl, ∃ y_0_g1 : Sl, ∃ y_11 : Int, r3 = .tuple #[.agg #[.string y_0_a1, .slice y_0_b1.a y_0_b1.n y_0_b1.c, .slice y_0_c1.a y_0_c1.n y_0_c1.c, .slice y_0_d1.a y_0_d1.n y_0_d1.c, .slice y_0_e1.a y_0_e1.n y_0_e1.c, .slice y_0_f1.a y_0_f1.n y_0_f1.c, .slice y_0_g1.a y_0_g1.n y_0_g1.c], .int .i64 y_11] ∧ 
    ∀ bY H8, Newb H7 (.cells #[.string ⟨#[]⟩, .slice none 0 0, .slice none 0 0, .slice none 0 0, .slice none 0 0, .slice none 0 0, .slice none 0 0] 90) bY H8 → 
    StL ⟨bY, 0, none⟩ 0 [.string y_0_a1, .slice y_0_b1.a y_0_b1.n y_0_b1.c, .slice y_0_c1.a y_0_c1.n y_0_c1.c, .slice y_0_d1.a y_0_d1.n y_0_d1.c, .slice y_0_e1.a y_0_e1.n y_0_e1.c, .slice y_0_f1.a y_0_f1.n y_0_f1.c, .slice y_0_g1.a y_0_g1.n y_0_g1.c] H8 fun H9 => 
    (∃ x_a : ByteArray, ∃ x_b : Sl, ∃ x_c : Sl, ∃ x_d : Sl, ∃ x_e : Sl, ∃ x_f : Sl, ∃ x_g : Sl, (hcell H9 ⟨bX, 0, none⟩ = some (.string x_a) ∧ 
    hcell H9 ⟨bX, 1, none⟩ = some (.slice x_b.a x_b.n x_b.c) ∧ hcell H9 ⟨bX, 2, none⟩ = some (.slice x_c.a x_c.n x_c.c) ∧ 
    hcell H9 ⟨bX, 3, none⟩ = some (.slice x_d.a x_d.n x_d.c) ∧ hcell H9 ⟨bX, 4, none⟩ = some (.slice x_e.a x_e.n x_e.c) ∧ 
    hcell H9 ⟨bX, 5, none⟩ = some (.slice x_f.a x_f.n x_f.c) ∧ hcell H9 ⟨bX, 6, none⟩ = some (.slice x_g.a x_g.n x_g.c) ∧ 
    True) ∧ ∃ x_a1 : ByteArray, ∃ x_b1 : Sl, ∃ x_c1 : Sl, ∃ x_d1 : Sl, ∃ x_e1 : Sl, ∃ x_f1 : Sl, ∃ x_g1 : Sl, (hcell H9 ⟨bY, 0, none⟩ = some (.string x_a1) ∧ 
    hcell H9 ⟨bY, 1, none⟩ = some (.slice x_b1.a x_b1.n x_b1.c) ∧ hcell H9 ⟨bY, 2, none⟩ = some (.slice x_c1.a x_c1.n x_c1.c) ∧ 
    hcell H9 ⟨bY, 3, none⟩ = some (.slice x_d1.a x_d1.n x_d1.c) ∧ hcell H9 ⟨bY, 4, none⟩ = some (.slice x_e1.a x_e1.n x_e1.c) ∧ 
    hcell H9 ⟨bY, 5, none⟩ = some (.slice x_f1.a x_f1.n x_f1.c) ∧ hcell H9 ⟨bY, 6, none⟩ = some (.slice x_g1.a x_g1.n x_g1.c) ∧ 
    True) ∧ CallF Try.prog 44 #[.agg #[.string x_a, .slice x_b.a x_b.n x_b.c, .slice x_c.a x_c.n x_c.c, .slice x_d.a x_d.n x_d.c, .slice x_e.a x_e.n x_e.c, .slice x_f.a x_f.n x_f.c, .slice x_g.a x_g.n x_g.c], .agg #[.string x_a1, .slice x_b1.a x_b1.n x_b1.c, .slice x_c1.a x_c1.n x_c1.c, .slice x_d1.a x_d1.n x_d1.c, .slice x_e1.a x_e1.n x_e1.c, .slice x_f1.a x_f1.n x_f1.c, .slice x_g1.a x_g1.n x_g1.c]] H9 (fun r4 H10 => 
    ∃ y2 : Bool, r4 = .bool y2 ∧ ((y2 = true → (((y_1 == y_11) = true → CallF Try.prog 45 #[] H10 (fun r5 H11 => 
    ∃ y3 : Bool, r5 = .bool y3 ∧ K (.bool y3) H11) Z) ∧ ((y_1 == y_11) = false → K (.bool false) H10))) ∧ 
    (y2 = false → K (.bool false) H10))) Z)) Z)) Z) Z) Z) ∧ CallF Try.prog 41 #[.slice l.a l.n l.c] H (fun r6 H12 => 
    ∃ y4 : Bool, r6 = .bool y4 ∧ ((y4 = true → K (.bool true) H12) ∧ (y4 = false → (((decide ((b.size : Int) > 3000)) = true → 
    K (.bool true) H12) ∧ ((decide ((b.size : Int) > 3000)) = false → (J  H12)))))) Z
def aJ8 : Ann := (fun k => if k = 3 then some [] else none)
def aL8 : Ann := (fun _ => none)
theorem V8_ok {H : Hp} {l : Sl} {b : ByteArray} {K : Value → Hp → Prop} {Z : List PanicEntry → Hp → Prop} (h : V8 H l b K Z) : CallF Try.prog 8 #[.slice l.a l.n l.c, .string b] H K Z :=
  fnC_sound (P := Try.prog) (aJ := aJ8) (aL := aL8) (f := 8) (args := [.slice l.a l.n l.c, .string b]) (Eq.mp (by kernel_rfl) h)
/-- weft/weftlaw26.RecordBytes -/
def V9 (H : Hp) (s_a : ByteArray) (s_b : Sl) (s_c : Sl) (s_d : Sl) (s_e : Sl) (s_f : Sl) (s_g : Sl) (more : Sl) (K : Value → Hp → Prop) (Z : List PanicEntry → Hp → Prop) : Prop :=
  ∀ bS H1, Newb H (.cells #[.string s_a, .slice s_b.a s_b.n s_b.c, .slice s_c.a s_c.n s_c.c, .slice s_d.a s_d.n s_d.c, .slice s_e.a s_e.n s_e.c, .slice s_f.a s_f.n s_f.c, .slice s_g.a s_g.n s_g.c] 90) bS H1 → 
    ∃ J : Hp → Prop, (∀ H2, J  H2 → ∀ scr : Nat → Value, ∃ x_a : ByteArray, ∃ x_b : Sl, ∃ x_c : Sl, ∃ x_d : Sl, ∃ x_e : Sl, ∃ x_f : Sl, ∃ x_g : Sl, (hcell H2 ⟨bS, 0, none⟩ = some (.string x_a) ∧ 
    hcell H2 ⟨bS, 1, none⟩ = some (.slice x_b.a x_b.n x_b.c) ∧ hcell H2 ⟨bS, 2, none⟩ = some (.slice x_c.a x_c.n x_c.c) ∧ 
    hcell H2 ⟨bS, 3, none⟩ = some (.slice x_d.a x_d.n x_d.c) ∧ hcell H2 ⟨bS, 4, none⟩ = some (.slice x_e.a x_e.n x_e.c) ∧ 
    hcell H2 ⟨bS, 5, none⟩ = some (.slice x_f.a x_f.n x_f.c) ∧ hcell H2 ⟨bS, 6, none⟩ = some (.slice x_g.a x_g.n x_g.c) ∧ 
    True) ∧ CallF Try.prog 47 #[.agg #[.string x_a, .slice x_b.a x_b.n x_b.c, .slice x_c.a x_c.n x_c.c, .slice x_d.a x_d.n x_d.c, .slice x_e.a x_e.n x_e.c, .slice x_f.a x_f.n x_f.c, .slice x_g.a x_g.n x_g.c]] H2 (fun r H3 => 
    ∃ y : Sl, r = .slice y.a y.n y.c ∧ ∀ b H4, Newb H3 (.cells #[] 9) b H4 → App Try.prog #[47, 47] 47 H4 [.slice (some ⟨b, 0, none⟩) 0 0, .slice y.a y.n y.c] fun ap H5 => 
    (App Try.prog #[47, 47] 47 H5 [.slice ap.a ap.n ap.c, .slice more.a more.n more.c] fun ap1 H6 => 
    (CallF Try.prog 29 #[.slice ap1.a ap1.n ap1.c] H6 (fun r1 H7 => ∃ y1 : Sl, r1 = .slice y1.a y1.n y1.c ∧ 
    CallF Try.prog 29 #[.slice more.a more.n more.c] H7 (fun r2 H8 => ∃ y2 : Sl, r2 = .slice y2.a y2.n y2.c ∧ 
    ∃ x_a1 : ByteArray, ∃ x_b1 : Sl, ∃ x_c1 : Sl, ∃ x_d1 : Sl, ∃ x_e1 : Sl, ∃ x_f1 : Sl, ∃ x_g1 : Sl, (hcell H8 ⟨bS, 0, none⟩ = some (.string x_a1) ∧ 
    hcell H8 ⟨bS, 1, none⟩ = some (.slice x_b1.a x_b1.n x_b1.c) ∧ hcell H8 ⟨bS, 2, none⟩ = some (.slice x_c1.a x_c1.n x_c1.c) ∧ 
    hcell H8 ⟨bS, 3, none⟩ = some (.slice x_d1.a x_d1.n x_d1.c) ∧ hcell H8 ⟨bS, 4, none⟩ = some (.slice x_e1.a x_e1.n x_e1.c) ∧ 
    hcell H8 ⟨bS, 5, none⟩ = some (.slice x_f1.a x_f1.n x_f1.c) ∧ hcell H8 ⟨bS, 6, none⟩ = some (.slice x_g1.a x_g1.n x_g1.c) ∧ 
    True) ∧ CallF Try.prog 28 #[.slice y1.a y1.n y1.c] H8 (fun r3 H9 => ∃ y3 : Option Addr, r3 = .pointer y3 ∧ 
    ((hcell H9 ⟨bS, 0, none⟩ = some (.string x_a1) ∧ hcell H9 ⟨bS, 1, none⟩ = some (.slice x_b1.a x_b1.n x_b1.c) ∧ 
    hcell H9 ⟨bS, 2, none⟩ = some (.slice x_c1.a x_c1.n x_c1.c) ∧ hcell H9 ⟨bS, 3, none⟩ = some (.slice x_d1.a x_d1.n x_d1.c) ∧ 
    hcell H9 ⟨bS, 4, none⟩ = some (.slice x_e1.a x_e1.n x_e1.c) ∧ hcell H9 ⟨bS, 5, none⟩ = some (.slice x_f1.a x_f1.n x_f1.c) ∧ 
    hcell H9 ⟨bS, 6, none⟩ = some (.slice x_g1.a x_g1.n x_g1.c) ∧ True) ∧ CallF Try.prog 48 #[.pointer y3, .agg #[.string x_a1, .slice x_b1.a x_b1.n x_b1.c, .slice x_c1.a x_c1.n x_c1.c, .slice x_d1.a x_d1.n x_d1.c, .slice x_e1.a x_e1.n x_e1.c, .slice x_f1.a x_f1.n x_f1.c, .slice x_g1.a x_g1.n x_g1.c]] H9 (fun r4 H10 => 
    ∃ y_0 : ByteArray, ∃ y_1 : Int, r4 = .tuple #[.string y_0, .int .i64 y_1] ∧ ∃ x_a2 : ByteArray, ∃ x_b2 : Sl, ∃ x_c2 : Sl, ∃ x_d2 : Sl, ∃ x_e2 : Sl, ∃ x_f2 : Sl, ∃ x_g2 : Sl, (hcell H10 ⟨bS, 0, none⟩ = some (.string x_a2) ∧ 
    hcell H10 ⟨bS, 1, none⟩ = some (.slice x_b2.a x_b2.n x_b2.c) ∧ hcell H10 ⟨bS, 2, none⟩ = some (.slice x_c2.a x_c2.n x_c2.c) ∧ 
    hcell H10 ⟨bS, 3, none⟩ = some (.slice x_d2.a x_d2.n x_d2.c) ∧ hcell H10 ⟨bS, 4, none⟩ = some (.slice x_e2.a x_e2.n x_e2.c) ∧ 
    hcell H10 ⟨bS, 5, none⟩ = some (.slice x_f2.a x_f2.n x_f2.c) ∧ hcell H10 ⟨bS, 6, none⟩ = some (.slice x_g2.a x_g2.n x_g2.c) ∧ 
    True) ∧ CallF Try.prog 49 #[.slice y1.a y1.n y1.c, .agg #[.string x_a2, .slice x_b2.a x_b2.n x_b2.c, .slice x_c2.a x_c2.n x_c2.c, .slice x_d2.a x_d2.n x_d2.c, .slice x_e2.a x_e2.n x_e2.c, .slice x_f2.a x_f2.n x_f2.c, .slice x_g2.a x_g2.n x_g2.c]] H10 (fun r5 H11 => 
    ∃ y_01 : ByteArray, ∃ y_11 : Int, r5 = .tuple #[.string y_01, .int .i64 y_11] ∧ ∃ x_a3 : ByteArray, ∃ x_b3 : Sl, ∃ x_c3 : Sl, ∃ x_d3 : Sl, ∃ x_e3 : Sl, ∃ x_f3 : Sl, ∃ x_g3 : Sl, (hcell H11 ⟨bS, 0, none⟩ = some (.string x_a3) ∧ 
    hcell H11 ⟨bS, 1, none⟩ = some (.slice x_b3.a x_b3.n x_b3.c) ∧ hcell H11 ⟨bS, 2, none⟩ = some (.slice x_c3.a x_c3.n x_c3.c) ∧ 
    hcell H11 ⟨bS, 3, none⟩ = some (.slice x_d3.a x_d3.n x_d3.c) ∧ hcell H11 ⟨bS, 4, none⟩ = some (.slice x_e3.a x_e3.n x_e3.c) ∧ 
    hcell H11 ⟨bS, 5, none⟩ = some (.slice x_f3.a x_f3.n x_f3.c) ∧ hcell H11 ⟨bS, 6, none⟩ = some (.slice x_g3.a x_g3.n x_g3.c) ∧ 
    True) ∧ CallF Try.prog 28 #[.slice y2.a y2.n y2.c] H11 (fun r6 H12 => ∃ y4 : Option Addr, r6 = .pointer y4 ∧ 
    ((hcell H12 ⟨bS, 0, none⟩ = some (.string x_a3) ∧ hcell H12 ⟨bS, 1, none⟩ = some (.slice x_b3.a x_b3.n x_b3.c) ∧ 
    hcell H12 ⟨bS, 2, none⟩ = some (.slice x_c3.a x_c3.n x_c3.c) ∧ hcell H12 ⟨bS, 3, none⟩ = some (.slice x_d3.a x_d3.n x_d3.c) ∧ 
    hcell H12 ⟨bS, 4, none⟩ = some (.slice x_e3.a x_e3.n x_e3.c) ∧ hcell H12 ⟨bS, 5, none⟩ = some (.slice x_f3.a x_f3.n x_f3.c) ∧ 
    hcell H12 ⟨bS, 6, none⟩ = some (.slice x_g3.a x_g3.n x_g3.c) ∧ True) ∧ CallF Try.prog 48 #[.pointer y4, .agg #[.string x_a3, .slice x_b3.a x_b3.n x_b3.c, .slice x_c3.a x_c3.n x_c3.c, .slice x_d3.a x_d3.n x_d3.c, .slice x_e3.a x_e3.n x_e3.c, .slice x_f3.a x_f3.n x_f3.c, .slice x_g3.a x_g3.n x_g3.c]] H12 (fun r7 H13 => 
    ∃ y_02 : ByteArray, ∃ y_12 : Int, r7 = .tuple #[.string y_02, .int .i64 y_12] ∧ ∃ x_a4 : ByteArray, ∃ x_b4 : Sl, ∃ x_c4 : Sl, ∃ x_d4 : Sl, ∃ x_e4 : Sl, ∃ x_f4 : Sl, ∃ x_g4 : Sl, (hcell H13 ⟨bS, 0, none⟩ = some (.string x_a4) ∧ 
    hcell H13 ⟨bS, 1, none⟩ = some (.slice x_b4.a x_b4.n x_b4.c) ∧ hcell H13 ⟨bS, 2, none⟩ = some (.slice x_c4.a x_c4.n x_c4.c) ∧ 
    hcell H13 ⟨bS, 3, none⟩ = some (.slice x_d4.a x_d4.n x_d4.c) ∧ hcell H13 ⟨bS, 4, none⟩ = some (.slice x_e4.a x_e4.n x_e4.c) ∧ 
    hcell H13 ⟨bS, 5, none⟩ = some (.slice x_f4.a x_f4.n x_f4.c) ∧ hcell H13 ⟨bS, 6, none⟩ = some (.slice x_g4.a x_g4.n x_g4.c) ∧ 
    True) ∧ CallF Try.prog 49 #[.slice y2.a y2.n y2.c, .agg #[.string x_a4, .slice x_b4.a x_b4.n x_b4.c, .slice x_c4.a x_c4.n x_c4.c, .slice x_d4.a x_d4.n x_d4.c, .slice x_e4.a x_e4.n x_e4.c, .slice x_f4.a x_f4.n x_f4.c, .slice x_g4.a x_g4.n x_g4.c]] H13 (fun r8 H14 => 
    ∃ y_03 : ByteArray, ∃ y_13 : Int, r8 = .tuple #[.string y_03, .int .i64 y_13] ∧ ∃ x_a5 : ByteArray, ∃ x_b5 : Sl, ∃ x_c5 : Sl, ∃ x_d5 : Sl, ∃ x_e5 : Sl, ∃ x_f5 : Sl, ∃ x_g5 : Sl, (hcell H14 ⟨bS, 0, none⟩ = some (.string x_a5) ∧ 
    hcell H14 ⟨bS, 1, none⟩ = some (.slice x_b5.a x_b5.n x_b5.c) ∧ hcell H14 ⟨bS, 2, none⟩ = some (.slice x_c5.a x_c5.n x_c5.c) ∧ 
    hcell H14 ⟨bS, 3, none⟩ = some (.slice x_d5.a x_d5.n x_d5.c) ∧ hcell H14 ⟨bS, 4, none⟩ = some (.slice x_e5.a x_e5.n x_e5.c) ∧ 
    hcell H14 ⟨bS, 5, none⟩ = some (.slice x_f5.a x_f5.n x_f5.c) ∧ hcell H14 ⟨bS, 6, none⟩ = some (.slice x_g5.a x_g5.n x_g5.c) ∧ 
    True) ∧ CallF Try.prog 51 #[.agg #[.string x_a5, .slice x_b5.a x_b5.n x_b5.c, .slice x_c5.a x_c5.n x_c5.c, .slice x_d5.a x_d5.n x_d5.c, .slice x_e5.a x_e5.n x_e5.c, .slice x_f5.a x_f5.n x_f5.c, .slice x_g5.a x_g5.n x_g5.c]] H14 (fun r9 H15 => 
    ∃ y5 : Sl, r9 = .slice y5.a y5.n y5.c ∧ CallF Try.prog 50 #[.slice y5.a y5.n y5.c, .slice y.a y.n y.c] H15 (fun r10 H16 => 
    ∃ y6 : Bool, r10 = .bool y6 ∧ ((y6 = true → (((beqS y_0 y_01) = true → (((y_1 == y_11) = true → (((beqS y_02 y_03) = true → 
    (((y_12 == y_13) = true → CallF Try.prog 45 #[] H16 (fun r11 H17 => ∃ y7 : Bool, r11 = .bool y7 ∧ 
    K (.bool y7) H17) Z) ∧ ((y_12 == y_13) = false → K (.bool false) H16))) ∧ ((beqS y_02 y_03) = false → 
    K (.bool false) H16))) ∧ ((y_1 == y_11) = false → K (.bool false) H16))) ∧ ((beqS y_0 y_01) = false → 
    K (.bool false) H16))) ∧ (y6 = false → K (.bool false) H16))) Z) Z) Z) Z)) Z) Z) Z)) Z) Z) Z))) Z) ∧ 
    ∃ x_a6 : ByteArray, ∃ x_b6 : Sl, ∃ x_c6 : Sl, ∃ x_d6 : Sl, ∃ x_e6 : Sl, ∃ x_f6 : Sl, ∃ x_g6 : Sl, (hcell H1 ⟨bS, 0, none⟩ = some (.string x_a6) ∧ 
    hcell H1 ⟨bS, 1, none⟩ = some (.slice x_b6.a x_b6.n x_b6.c) ∧ hcell H1 ⟨bS, 2, none⟩ = some (.slice x_c6.a x_c6.n x_c6.c) ∧ 
    hcell H1 ⟨bS, 3, none⟩ = some (.slice x_d6.a x_d6.n x_d6.c) ∧ hcell H1 ⟨bS, 4, none⟩ = some (.slice x_e6.a x_e6.n x_e6.c) ∧ 
    hcell H1 ⟨bS, 5, none⟩ = some (.slice x_f6.a x_f6.n x_f6.c) ∧ hcell H1 ⟨bS, 6, none⟩ = some (.slice x_g6.a x_g6.n x_g6.c) ∧ 
    True) ∧ CallF Try.prog 46 #[.agg #[.string x_a6, .slice x_b6.a x_b6.n x_b6.c, .slice x_c6.a x_c6.n x_c6.c, .slice x_d6.a x_d6.n x_d6.c, .slice x_e6.a x_e6.n x_e6.c, .slice x_f6.a x_f6.n x_f6.c, .slice x_g6.a x_g6.n x_g6.c]] H1 (fun r12 H18 => 
    ∃ y8 : Bool, r12 = .bool y8 ∧ ((y8 = true → K (.bool true) H18) ∧ (y8 = false → CallF Try.prog 41 #[.slice more.a more.n more.c] H18 (fun r13 H19 => 
    ∃ y9 : Bool, r13 = .bool y9 ∧ ((y9 = true → K (.bool true) H19) ∧ (y9 = false → (J  H19)))) Z))) Z
def aJ9 : Ann := (fun k => if k = 3 then some [] else if k = 2000006 then some [] else if k = 2000008 then some [] else none)
def aL9 : Ann := (fun _ => none)
theorem V9_ok {H : Hp} {s_a : ByteArray} {s_b : Sl} {s_c : Sl} {s_d : Sl} {s_e : Sl} {s_f : Sl} {s_g : Sl} {more : Sl} {K : Value → Hp → Prop} {Z : List PanicEntry → Hp → Prop} (h : V9 H s_a s_b s_c s_d s_e s_f s_g more K Z) : CallF Try.prog 9 #[.agg #[.string s_a, .slice s_b.a s_b.n s_b.c, .slice s_c.a s_c.n s_c.c, .slice s_d.a s_d.n s_d.c, .slice s_e.a s_e.n s_e.c, .slice s_f.a s_f.n s_f.c, .slice s_g.a s_g.n s_g.c], .slice more.a more.n more.c] H K Z :=
  fnC_sound (P := Try.prog) (aJ := aJ9) (aL := aL9) (f := 9) (args := [.agg #[.string s_a, .slice s_b.a s_b.n s_b.c, .slice s_c.a s_c.n s_c.c, .slice s_d.a s_d.n s_d.c, .slice s_e.a s_e.n s_e.c, .slice s_f.a s_f.n s_f.c, .slice s_g.a s_g.n s_g.c], .slice more.a more.n more.c]) (Eq.mp (by kernel_rfl) h)
/-- weft/weftlaw26.RecordBack -/
def V10 (H : Hp) (s_a : ByteArray) (s_b : Sl) (s_c : Sl) (s_d : Sl) (s_e : Sl) (s_f : Sl) (s_g : Sl) (l : Sl) (b : ByteArray) (K : Value → Hp → Prop) (Z : List PanicEntry → Hp → Prop) : Prop :=
  ∀ bS H1, Newb H (.cells #[.string s_a, .slice s_b.a s_b.n s_b.c, .slice s_c.a s_c.n s_c.c, .slice s_d.a s_d.n s_d.c, .slice s_e.a s_e.n s_e.c, .slice s_f.a s_f.n s_f.c, .slice s_g.a s_g.n s_g.c] 90) bS H1 → 
    CallF Try.prog 45 #[] H1 (fun r H2 => ∃ y : Bool, r = .bool y ∧ (((!y) = true → K (.bool false) H2) ∧ 
    ((!y) = false → ∃ J : Hp → Prop, (∀ H3, J  H3 → ∀ scr : Nat → Value, ∀ b1 H4, Newb H3 (.cells #[] 9) b1 H4 → 
    ∃ x_a : ByteArray, ∃ x_b : Sl, ∃ x_c : Sl, ∃ x_d : Sl, ∃ x_e : Sl, ∃ x_f : Sl, ∃ x_g : Sl, (hcell H4 ⟨bS, 0, none⟩ = some (.string x_a) ∧ 
    hcell H4 ⟨bS, 1, none⟩ = some (.slice x_b.a x_b.n x_b.c) ∧ hcell H4 ⟨bS, 2, none⟩ = some (.slice x_c.a x_c.n x_c.c) ∧ 
    hcell H4 ⟨bS, 3, none⟩ = some (.slice x_d.a x_d.n x_d.c) ∧ hcell H4 ⟨bS, 4, none⟩ = some (.slice x_e.a x_e.n x_e.c) ∧ 
    hcell H4 ⟨bS, 5, none⟩ = some (.slice x_f.a x_f.n x_f.c) ∧ hcell H4 ⟨bS, 6, none⟩ = some (.slice x_g.a x_g.n x_g.c) ∧ 
    True) ∧ CallF Try.prog 51 #[.agg #[.string x_a, .slice x_b.a x_b.n x_b.c, .slice x_c.a x_c.n x_c.c, .slice x_d.a x_d.n x_d.c, .slice x_e.a x_e.n x_e.c, .slice x_f.a x_f.n x_f.c, .slice x_g.a x_g.n x_g.c]] H4 (fun r1 H5 => 
    ∃ y1 : Sl, r1 = .slice y1.a y1.n y1.c ∧ App Try.prog #[47, 47] 47 H5 [.slice (some ⟨b1, 0, none⟩) 0 0, .slice y1.a y1.n y1.c] fun ap H6 => 
    (App Try.prog #[47, 47] 47 H6 [.slice ap.a ap.n ap.c, .slice l.a l.n l.c] fun ap1 H7 => (CallF Try.prog 28 #[.slice ap1.a ap1.n ap1.c] H7 (fun r2 H8 => 
    ∃ y2 : Option Addr, r2 = .pointer y2 ∧ ∃ x_a1 : ByteArray, ∃ x_b1 : Sl, ∃ x_c1 : Sl, ∃ x_d1 : Sl, ∃ x_e1 : Sl, ∃ x_f1 : Sl, ∃ x_g1 : Sl, (hcell H8 ⟨bS, 0, none⟩ = some (.string x_a1) ∧ 
    hcell H8 ⟨bS, 1, none⟩ = some (.slice x_b1.a x_b1.n x_b1.c) ∧ hcell H8 ⟨bS, 2, none⟩ = some (.slice x_c1.a x_c1.n x_c1.c) ∧ 
    hcell H8 ⟨bS, 3, none⟩ = some (.slice x_d1.a x_d1.n x_d1.c) ∧ hcell H8 ⟨bS, 4, none⟩ = some (.slice x_e1.a x_e1.n x_e1.c) ∧ 
    hcell H8 ⟨bS, 5, none⟩ = some (.slice x_f1.a x_f1.n x_f1.c) ∧ hcell H8 ⟨bS, 6, none⟩ = some (.slice x_g1.a x_g1.n x_g1.c) ∧ 
    True) ∧ CallF Try.prog 48 #[.pointer y2, .agg #[.string x_a1, .slice x_b1.a x_b1.n x_b1.c, .slice x_c1.a x_c1.n x_c1.c, .slice x_d1.a x_d1.n x_d1.c, .slice x_e1.a x_e1.n x_e1.c, .slice x_f1.a x_f1.n x_f1.c, .slice x_g1.a x_g1.n x_g1.c]] H8 (fun r3 H9 => 
    ∃ y_0 : ByteArray, ∃ y_1 : Int, r3 = .tuple #[.string y_0, .int .i64 y_1] ∧ ∃ J1 : Hp → Prop, (∀ H10, J1  H10 → 
    ∀ scr1 : Nat → Value, CallF Try.prog 28 #[.slice l.a l.n l.c] H10 (fun r4 H11 => ∃ y3 : Option Addr, r4 = .pointer y3 ∧ 
    CallF Try.prog 42 #[.pointer y3, .string b] H11 (fun r5 H12 => ∃ y_0_a : ByteArray, ∃ y_0_b : Sl, ∃ y_0_c : Sl, ∃ y_0_d : Sl, ∃ y_0_e : Sl, ∃ y_0_f : Sl, ∃ y_0_g : Sl, ∃ y_11 : Int, r5 = .tuple #[.agg #[.string y_0_a, .slice y_0_b.a y_0_b.n y_0_b.c, .slice y_0_c.a y_0_c.n y_0_c.c, .slice y_0_d.a y_0_d.n y_0_d.c, .slice y_0_e.a y_0_e.n y_0_e.c, .slice y_0_f.a y_0_f.n y_0_f.c, .slice y_0_g.a y_0_g.n y_0_g.c], .int .i64 y_11] ∧ 
    ∀ bX H13, Newb H12 (.cells #[.string ⟨#[]⟩, .slice none 0 0, .slice none 0 0, .slice none 0 0, .slice none 0 0, .slice none 0 0, .slice none 0 0] 90) bX H13 → 
    StL ⟨bX, 0, none⟩ 0 [.string y_0_a, .slice y_0_b.a y_0_b.n y_0_b.c, .slice y_0_c.a y_0_c.n y_0_c.c, .slice y_0_d.a y_0_d.n y_0_d.c, .slice y_0_e.a y_0_e.n y_0_e.c, .slice y_0_f.a y_0_f.n y_0_f.c, .slice y_0_g.a y_0_g.n y_0_g.c] H13 fun H14 => 
    (((y_11 != 0) = true → ∃ x_a2 : ByteArray, ∃ x_b2 : Sl, ∃ x_c2 : Sl, ∃ x_d2 : Sl, ∃ x_e2 : Sl, ∃ x_f2 : Sl, ∃ x_g2 : Sl, (hcell H14 ⟨bX, 0, none⟩ = some (.string x_a2) ∧ 
    hcell H14 ⟨bX, 1, none⟩ = some (.slice x_b2.a x_b2.n x_b2.c) ∧ hcell H14 ⟨bX, 2, none⟩ = some (.slice x_c2.a x_c2.n x_c2.c) ∧ 
    hcell H14 ⟨bX, 3, none⟩ = some (.slice x_d2.a x_d2.n x_d2.c) ∧ hcell H14 ⟨bX, 4, none⟩ = some (.slice x_e2.a x_e2.n x_e2.c) ∧ 
    hcell H14 ⟨bX, 5, none⟩ = some (.slice x_f2.a x_f2.n x_f2.c) ∧ hcell H14 ⟨bX, 6, none⟩ = some (.slice x_g2.a x_g2.n x_g2.c) ∧ 
    True) ∧ CallF Try.prog 44 #[.agg #[.string x_a2, .slice x_b2.a x_b2.n x_b2.c, .slice x_c2.a x_c2.n x_c2.c, .slice x_d2.a x_d2.n x_d2.c, .slice x_e2.a x_e2.n x_e2.c, .slice x_f2.a x_f2.n x_f2.c, .slice x_g2.a x_g2.n x_g2.c], .agg #[.string ⟨#[]⟩, .slice none 0 0, .slice none 0 0, .slice none 0 0, .slice none 0 0, .slice none 0 0, .slice none 0 0]] H14 (fun r6 H15 => 
    ∃ y4 : Bool, r6 = .bool y4 ∧ K (.bool y4) H15) Z) ∧ ((y_11 != 0) = false → ∃ x_a3 : ByteArray, ∃ x_b3 : Sl, ∃ x_c3 : Sl, ∃ x_d3 : Sl, ∃ x_e3 : Sl, ∃ x_f3 : Sl, ∃ x_g3 : Sl, (hcell H14 ⟨bX, 0, none⟩ = some (.string x_a3) ∧ 
    hcell H14 ⟨bX, 1, none⟩ = some (.slice x_b3.a x_b3.n x_b3.c) ∧ hcell H14 ⟨bX, 2, none⟩ = some (.slice x_c3.a x_c3.n x_c3.c) ∧ 
    hcell H14 ⟨bX, 3, none⟩ = some (.slice x_d3.a x_d3.n x_d3.c) ∧ hcell H14 ⟨bX, 4, none⟩ = some (.slice x_e3.a x_e3.n x_e3.c) ∧ 
    hcell H14 ⟨bX, 5, none⟩ = some (.slice x_f3.a x_f3.n x_f3.c) ∧ hcell H14 ⟨bX, 6, none⟩ = some (.slice x_g3.a x_g3.n x_g3.c) ∧ 
    True) ∧ CallF Try.prog 48 #[.pointer y3, .agg #[.string x_a3, .slice x_b3.a x_b3.n x_b3.c, .slice x_c3.a x_c3.n x_c3.c, .slice x_d3.a x_d3.n x_d3.c, .slice x_e3.a x_e3.n x_e3.c, .slice x_f3.a x_f3.n x_f3.c, .slice x_g3.a x_g3.n x_g3.c]] H14 (fun r7 H16 => 
    ∃ y_01 : ByteArray, ∃ y_12 : Int, r7 = .tuple #[.string y_01, .int .i64 y_12] ∧ (((y_12 == 0) = true → 
    K (.bool (beqS y_01 b)) H16) ∧ ((y_12 == 0) = false → K (.bool false) H16))) Z))) Z) Z) ∧ (((y_1 == 0) = true → 
    CallF Try.prog 42 #[.pointer y2, .string y_0] H9 (fun r8 H17 => ∃ y_0_a1 : ByteArray, ∃ y_0_b1 : Sl, ∃ y_0_c1 : Sl, ∃ y_0_d1 : Sl, ∃ y_0_e1 : Sl, ∃ y_0_f1 : Sl, ∃ y_0_g1 : Sl, ∃ y_13 : Int, r8 = .tuple #[.agg #[.string y_0_a1, .slice y_0_b1.a y_0_b1.n y_0_b1.c, .slice y_0_c1.a y_0_c1.n y_0_c1.c, .slice y_0_d1.a y_0_d1.n y_0_d1.c, .slice y_0_e1.a y_0_e1.n y_0_e1.c, .slice y_0_f1.a y_0_f1.n y_0_f1.c, .slice y_0_g1.a y_0_g1.n y_0_g1.c], .int .i64 y_13] ∧ 
    ∀ bX1 H18, Newb H17 (.cells #[.string ⟨#[]⟩, .slice none 0 0, .slice none 0 0, .slice none 0 0, .slice none 0 0, .slice none 0 0, .slice none 0 0] 90) bX1 H18 → 
    StL ⟨bX1, 0, none⟩ 0 [.string y_0_a1, .slice y_0_b1.a y_0_b1.n y_0_b1.c, .slice y_0_c1.a y_0_c1.n y_0_c1.c, .slice y_0_d1.a y_0_d1.n y_0_d1.c, .slice y_0_e1.a y_0_e1.n y_0_e1.c, .slice y_0_f1.a y_0_f1.n y_0_f1.c, .slice y_0_g1.a y_0_g1.n y_0_g1.c] H18 fun H19 => 
    (((y_13 != 0) = true → K (.bool false) H19) ∧ ((y_13 != 0) = false → ∃ x_a4 : ByteArray, ∃ x_b4 : Sl, ∃ x_c4 : Sl, ∃ x_d4 : Sl, ∃ x_e4 : Sl, ∃ x_f4 : Sl, ∃ x_g4 : Sl, (hcell H19 ⟨bX1, 0, none⟩ = some (.string x_a4) ∧ 
    hcell H19 ⟨bX1, 1, none⟩ = some (.slice x_b4.a x_b4.n x_b4.c) ∧ hcell H19 ⟨bX1, 2, none⟩ = some (.slice x_c4.a x_c4.n x_c4.c) ∧ 
    hcell H19 ⟨bX1, 3, none⟩ = some (.slice x_d4.a x_d4.n x_d4.c) ∧ hcell H19 ⟨bX1, 4, none⟩ = some (.slice x_e4.a x_e4.n x_e4.c) ∧ 
    hcell H19 ⟨bX1, 5, none⟩ = some (.slice x_f4.a x_f4.n x_f4.c) ∧ hcell H19 ⟨bX1, 6, none⟩ = some (.slice x_g4.a x_g4.n x_g4.c) ∧ 
    True) ∧ ∃ x_a5 : ByteArray, ∃ x_b5 : Sl, ∃ x_c5 : Sl, ∃ x_d5 : Sl, ∃ x_e5 : Sl, ∃ x_f5 : Sl, ∃ x_g5 : Sl, (hcell H19 ⟨bS, 0, none⟩ = some (.string x_a5) ∧ 
    hcell H19 ⟨bS, 1, none⟩ = some (.slice x_b5.a x_b5.n x_b5.c) ∧ hcell H19 ⟨bS, 2, none⟩ = some (.slice x_c5.a x_c5.n x_c5.c) ∧ 
    hcell H19 ⟨bS, 3, none⟩ = some (.slice x_d5.a x_d5.n x_d5.c) ∧ hcell H19 ⟨bS, 4, none⟩ = some (.slice x_e5.a x_e5.n x_e5.c) ∧ 
    hcell H19 ⟨bS, 5, none⟩ = some (.slice x_f5.a x_f5.n x_f5.c) ∧ hcell H19 ⟨bS, 6, none⟩ = some (.slice x_g5.a x_g5.n x_g5.c) ∧ 
    True) ∧ CallF Try.prog 44 #[.agg #[.string x_a4, .slice x_b4.a x_b4.n x_b4.c, .slice x_c4.a x_c4.n x_c4.c, .slice x_d4.a x_d4.n x_d4.c, .slice x_e4.a x_e4.n x_e4.c, .slice x_f4.a x_f4.n x_f4.c, .slice x_g4.a x_g4.n x_g4.c], .agg #[.string x_a5, .slice x_b5.a x_b5.n x_b5.c, .slice x_c5.a x_c5.n x_c5.c, .slice x_d5.a x_d5.n x_d5.c, .slice x_e5.a x_e5.n x_e5.c, .slice x_f5.a x_f5.n x_f5.c, .slice x_g5.a x_g5.n x_g5.c]] H19 (fun r9 H20 => 
    ∃ y5 : Bool, r9 = .bool y5 ∧ (((!y5) = true → K (.bool false) H20) ∧ ((!y5) = false → (J1  H20)))) Z))) Z) ∧ 
    ((y_1 == 0) = false → (J1  H9)))) Z) Z))) Z) ∧ ∃ x_a6 : ByteArray, ∃ x_b6 : Sl, ∃ x_c6 : Sl, ∃ x_d6 : Sl, ∃ x_e6 : Sl, ∃ x_f6 : Sl, ∃ x_g6 : Sl, (hcell H2 ⟨bS, 0, none⟩ = some (.string x_a6) ∧ 
    hcell H2 ⟨bS, 1, none⟩ = some (.slice x_b6.a x_b6.n x_b6.c) ∧ hcell H2 ⟨bS, 2, none⟩ = some (.slice x_c6.a x_c6.n x_c6.c) ∧ 
    hcell H2 ⟨bS, 3, none⟩ = some (.slice x_d6.a x_d6.n x_d6.c) ∧ hcell H2 ⟨bS, 4, none⟩ = some (.slice x_e6.a x_e6.n x_e6.c) ∧ 
    hcell H2 ⟨bS, 5, none⟩ = some (.slice x_f6.a x_f6.n x_f6.c) ∧ hcell H2 ⟨bS, 6, none⟩ = some (.slice x_g6.a x_g6.n x_g6.c) ∧ 
    True) ∧ CallF Try.prog 46 #[.agg #[.string x_a6, .slice x_b6.a x_b6.n x_b6.c, .slice x_c6.a x_c6.n x_c6.c, .slice x_d6.a x_d6.n x_d6.c, .slice x_e6.a x_e6.n x_e6.c, .slice x_f6.a x_f6.n x_f6.c, .slice x_g6.a x_g6.n x_g6.c]] H2 (fun r10 H21 => 
    ∃ y6 : Bool, r10 = .bool y6 ∧ ((y6 = true → K (.bool true) H21) ∧ (y6 = false → CallF Try.prog 41 #[.slice l.a l.n l.c] H21 (fun r11 H22 => 
    ∃ y7 : Bool, r11 = .bool y7 ∧ ((y7 = true → K (.bool true) H22) ∧ (y7 = false → (((decide ((b.size : Int) > 3000)) = true → 
    K (.bool true) H22) ∧ ((decide ((b.size : Int) > 3000)) = false → (J  H22)))))) Z))) Z))) Z
def aJ10 : Ann := (fun k => if k = 5 then some [] else if k = 11 then some [] else none)
def aL10 : Ann := (fun _ => none)
theorem V10_ok {H : Hp} {s_a : ByteArray} {s_b : Sl} {s_c : Sl} {s_d : Sl} {s_e : Sl} {s_f : Sl} {s_g : Sl} {l : Sl} {b : ByteArray} {K : Value → Hp → Prop} {Z : List PanicEntry → Hp → Prop} (h : V10 H s_a s_b s_c s_d s_e s_f s_g l b K Z) : CallF Try.prog 10 #[.agg #[.string s_a, .slice s_b.a s_b.n s_b.c, .slice s_c.a s_c.n s_c.c, .slice s_d.a s_d.n s_d.c, .slice s_e.a s_e.n s_e.c, .slice s_f.a s_f.n s_f.c, .slice s_g.a s_g.n s_g.c], .slice l.a l.n l.c, .string b] H K Z :=
  fnC_sound (P := Try.prog) (aJ := aJ10) (aL := aL10) (f := 10) (args := [.agg #[.string s_a, .slice s_b.a s_b.n s_b.c, .slice s_c.a s_c.n s_c.c, .slice s_d.a s_d.n s_d.c, .slice s_e.a s_e.n s_e.c, .slice s_f.a s_f.n s_f.c, .slice s_g.a s_g.n s_g.c], .slice l.a l.n l.c, .string b]) (Eq.mp (by kernel_rfl) h)
/-- weft/weftlaw26.works -/
def V45 (H : Hp)  (K : Value → Hp → Prop) (Z : List PanicEntry → Hp → Prop) : Prop :=
  ∀ b H1, Newb H (.cells #[.string ⟨#[97]⟩] 9) b H1 → CallF Try.prog 28 #[.slice (some ⟨b, 0, none⟩) 1 1] H1 (fun r H2 => 
    ∃ y : Option Addr, r = .pointer y ∧ CallF Try.prog 48 #[.pointer y, .agg #[.string ⟨#[97]⟩, .slice none 0 0, .slice none 0 0, .slice none 0 0, .slice none 0 0, .slice none 0 0, .slice none 0 0]] H2 (fun r1 H3 => 
    ∃ y_0 : ByteArray, ∃ y_1 : Int, r1 = .tuple #[.string y_0, .int .i64 y_1] ∧ CallF Try.prog 42 #[.pointer y, .string y_0] H3 (fun r2 H4 => 
    ∃ y_0_a : ByteArray, ∃ y_0_b : Sl, ∃ y_0_c : Sl, ∃ y_0_d : Sl, ∃ y_0_e : Sl, ∃ y_0_f : Sl, ∃ y_0_g : Sl, ∃ y_11 : Int, r2 = .tuple #[.agg #[.string y_0_a, .slice y_0_b.a y_0_b.n y_0_b.c, .slice y_0_c.a y_0_c.n y_0_c.c, .slice y_0_d.a y_0_d.n y_0_d.c, .slice y_0_e.a y_0_e.n y_0_e.c, .slice y_0_f.a y_0_f.n y_0_f.c, .slice y_0_g.a y_0_g.n y_0_g.c], .int .i64 y_11] ∧ 
    ∀ bX H5, Newb H4 (.cells #[.string ⟨#[]⟩, .slice none 0 0, .slice none 0 0, .slice none 0 0, .slice none 0 0, .slice none 0 0, .slice none 0 0] 90) bX H5 → 
    StL ⟨bX, 0, none⟩ 0 [.string y_0_a, .slice y_0_b.a y_0_b.n y_0_b.c, .slice y_0_c.a y_0_c.n y_0_c.c, .slice y_0_d.a y_0_d.n y_0_d.c, .slice y_0_e.a y_0_e.n y_0_e.c, .slice y_0_f.a y_0_f.n y_0_f.c, .slice y_0_g.a y_0_g.n y_0_g.c] H5 fun H6 => 
    (((y_1 == 0) = true → (((y_11 == 0) = true → (((beqS y_0 ⟨#[0, 0, 0, 0, 0, 0, 0]⟩) = true → ∃ x : ByteArray, hcell H6 ⟨bX, 0, none⟩ = some (.string x) ∧ 
    K (.bool (beqS x ⟨#[97]⟩)) H6) ∧ ((beqS y_0 ⟨#[0, 0, 0, 0, 0, 0, 0]⟩) = false → K (.bool false) H6))) ∧ 
    ((y_11 == 0) = false → K (.bool false) H6))) ∧ ((y_1 == 0) = false → K (.bool false) H6))) Z) Z) Z
def aJ45 : Ann := (fun _ => none)
def aL45 : Ann := (fun _ => none)
theorem V45_ok {H : Hp}  {K : Value → Hp → Prop} {Z : List PanicEntry → Hp → Prop} (h : V45 H  K Z) : CallF Try.prog 45 #[] H K Z :=
  fnC_sound (P := Try.prog) (aJ := aJ45) (aL := aL45) (f := 45) (args := []) (Eq.mp (by kernel_rfl) h)
/-- weft/weftlaw21.GreatTexts -/
def V41 (H : Hp) (l : Sl) (K : Value → Hp → Prop) (Z : List PanicEntry → Hp → Prop) : Prop :=
  ∃ I : Int → Hp → Nat → Prop, (∃ m, I 0 H m) ∧ ∀ (i : Int), ∀ H1 m1, I i H1 m1 → ∀ scr : Nat → Value, (((decide (i < (l.n : Int))) = true → 
    (((decide (i ≥ 60)) = true → K (.bool true) H1) ∧ ((decide (i ≥ 60)) = false → IxA l.a l.n i 1 fun ad => 
    (∃ x : ByteArray, hcell H1 ad = some (.string x) ∧ (((decide ((x.size : Int) > 100)) = true → K (.bool true) H1) ∧ 
    ((decide ((x.size : Int) > 100)) = false → (∃ m2, m2 < m1 ∧ I (w64 (i + 1)) H1 m2))))))) ∧ ((decide (i < (l.n : Int))) = false → 
    K (.bool false) H1))
def aJ41 : Ann := (fun _ => none)
def aL41 : Ann := (fun k => if k = 2 then some [(3, (.sc (.int .i64)))] else none)
theorem V41_ok {H : Hp} {l : Sl} {K : Value → Hp → Prop} {Z : List PanicEntry → Hp → Prop} (h : V41 H l K Z) : CallF Try.prog 41 #[.slice l.a l.n l.c] H K Z :=
  fnC_sound (P := Try.prog) (aJ := aJ41) (aL := aL41) (f := 41) (args := [.slice l.a l.n l.c]) (Eq.mp (by kernel_rfl) h)
/-- weft/weftlaw24.Great -/
def V46 (H : Hp) (s_a : ByteArray) (s_b : Sl) (s_c : Sl) (s_d : Sl) (s_e : Sl) (s_f : Sl) (s_g : Sl) (K : Value → Hp → Prop) (Z : List PanicEntry → Hp → Prop) : Prop :=
  ∀ bS H1, Newb H (.cells #[.string s_a, .slice s_b.a s_b.n s_b.c, .slice s_c.a s_c.n s_c.c, .slice s_d.a s_d.n s_d.c, .slice s_e.a s_e.n s_e.c, .slice s_f.a s_f.n s_f.c, .slice s_g.a s_g.n s_g.c] 90) bS H1 → 
    ∃ x : ByteArray, hcell H1 ⟨bS, 0, none⟩ = some (.string x) ∧ (((decide ((x.size : Int) > 100)) = true → 
    K (.bool true) H1) ∧ ((decide ((x.size : Int) > 100)) = false → ∃ x_a : Sl, ∃ x_b : Sl, ∃ x_c : Sl, (hcell H1 ⟨bS, 4, none⟩ = some (.slice x_a.a x_a.n x_a.c) ∧ 
    hcell H1 ⟨bS, 5, none⟩ = some (.slice x_b.a x_b.n x_b.c) ∧ hcell H1 ⟨bS, 6, none⟩ = some (.slice x_c.a x_c.n x_c.c) ∧ 
    True) ∧ CallF Try.prog 91 #[.agg #[.slice x_a.a x_a.n x_a.c, .slice x_b.a x_b.n x_b.c, .slice x_c.a x_c.n x_c.c], .int .i64 80] H1 (fun r H2 => 
    ∃ y : Bool, r = .bool y ∧ ((y = true → K (.bool true) H2) ∧ (y = false → ∃ x1 : Sl, hcell H2 ⟨bS, 1, none⟩ = some (.slice x1.a x1.n x1.c) ∧ 
    CallF Try.prog 41 #[.slice x1.a x1.n x1.c] H2 (fun r1 H3 => ∃ y1 : Bool, r1 = .bool y1 ∧ ((y1 = true → 
    K (.bool true) H3) ∧ (y1 = false → ∃ x2 : Sl, hcell H3 ⟨bS, 2, none⟩ = some (.slice x2.a x2.n x2.c) ∧ 
    CallF Try.prog 41 #[.slice x2.a x2.n x2.c] H3 (fun r2 H4 => ∃ y2 : Bool, r2 = .bool y2 ∧ ((y2 = true → 
    K (.bool true) H4) ∧ (y2 = false → ∃ x3 : Sl, hcell H4 ⟨bS, 3, none⟩ = some (.slice x3.a x3.n x3.c) ∧ 
    (((decide ((x3.n : Int) > 200)) = true → K (.bool true) H4) ∧ ((decide ((x3.n : Int) > 200)) = false → 
    ∃ x4 : Sl, hcell H4 ⟨bS, 3, none⟩ = some (.slice x4.a x4.n x4.c) ∧ CallF Try.prog 92 #[.slice x4.a x4.n x4.c] H4 (fun r3 H5 => 
    ∃ y3 : Bool, r3 = .bool y3 ∧ K (.bool y3) H5) Z))))) Z))) Z))) Z))
def aJ46 : Ann := (fun _ => none)
def aL46 : Ann := (fun _ => none)
theorem V46_ok {H : Hp} {s_a : ByteArray} {s_b : Sl} {s_c : Sl} {s_d : Sl} {s_e : Sl} {s_f : Sl} {s_g : Sl} {K : Value → Hp → Prop} {Z : List PanicEntry → Hp → Prop} (h : V46 H s_a s_b s_c s_d s_e s_f s_g K Z) : CallF Try.prog 46 #[.agg #[.string s_a, .slice s_b.a s_b.n s_b.c, .slice s_c.a s_c.n s_c.c, .slice s_d.a s_d.n s_d.c, .slice s_e.a s_e.n s_e.c, .slice s_f.a s_f.n s_f.c, .slice s_g.a s_g.n s_g.c]] H K Z :=
  fnC_sound (P := Try.prog) (aJ := aJ46) (aL := aL46) (f := 46) (args := [.agg #[.string s_a, .slice s_b.a s_b.n s_b.c, .slice s_c.a s_c.n s_c.c, .slice s_d.a s_d.n s_d.c, .slice s_e.a s_e.n s_e.c, .slice s_f.a s_f.n s_f.c, .slice s_g.a s_g.n s_g.c]]) (Eq.mp (by kernel_rfl) h)
/-- weft/weftlaw24.greatKeeps -/
def V92 (H : Hp) (l : Sl) (K : Value → Hp → Prop) (Z : List PanicEntry → Hp → Prop) : Prop :=
  ∃ I : Int → Hp → Nat → Prop, (∃ m, I 0 H m) ∧ ∀ (i : Int), ∀ H1 m1, I i H1 m1 → ∀ scr : Nat → Value, (((decide (i < (l.n : Int))) = true → 
    IxA l.a l.n i 1 fun ad => (∃ x : ByteArray, hcell H1 ad = some (.string x) ∧ (((decide ((x.size : Int) > 100)) = true → 
    K (.bool true) H1) ∧ ((decide ((x.size : Int) > 100)) = false → (∃ m2, m2 < m1 ∧ I (w64 (i + 1)) H1 m2))))) ∧ 
    ((decide (i < (l.n : Int))) = false → K (.bool false) H1))
def aJ92 : Ann := (fun _ => none)
def aL92 : Ann := (fun k => if k = 2 then some [(3, (.sc (.int .i64)))] else none)
theorem V92_ok {H : Hp} {l : Sl} {K : Value → Hp → Prop} {Z : List PanicEntry → Hp → Prop} (h : V92 H l K Z) : CallF Try.prog 92 #[.slice l.a l.n l.c] H K Z :=
  fnC_sound (P := Try.prog) (aJ := aJ92) (aL := aL92) (f := 92) (args := [.slice l.a l.n l.c]) (Eq.mp (by kernel_rfl) h)
/-- weft/weftlaw15.Great -/
def V91 (H : Hp) (s_a : Sl) (s_b : Sl) (s_c : Sl) (most : Int) (K : Value → Hp → Prop) (Z : List PanicEntry → Hp → Prop) : Prop :=
  ∀ bS H1, Newb H (.cells #[.slice s_a.a s_a.n s_a.c, .slice s_b.a s_b.n s_b.c, .slice s_c.a s_c.n s_c.c] 88) bS H1 → 
    ∃ J : Hp → Prop, (∀ H2, J  H2 → ∀ scr : Nat → Value, ∃ I : Int → Int → Hp → Nat → Prop, (∃ m, I 0 0 H2 m) ∧ 
    ∀ (n : Int) (i : Int), ∀ H3 m1, I n i H3 m1 → ∀ scr1 : Nat → Value, ∃ x : Sl, hcell H3 ⟨bS, 0, none⟩ = some (.slice x.a x.n x.c) ∧ 
    (((decide (i < (x.n : Int))) = true → ∃ x1 : Sl, hcell H3 ⟨bS, 0, none⟩ = some (.slice x1.a x1.n x1.c) ∧ 
    IxA x1.a x1.n i 3 fun ad => (∃ x2 : ByteArray, hcell H3 ad = some (.string x2) ∧ ∃ x3 : Sl, hcell H3 ⟨bS, 0, none⟩ = some (.slice x3.a x3.n x3.c) ∧ 
    IxA x3.a x3.n i 3 fun ad1 => (∃ x4 : ByteArray, hcell H3 (Addr.add ad1 1) = some (.string x4) ∧ ∃ x5 : Sl, hcell H3 ⟨bS, 0, none⟩ = some (.slice x5.a x5.n x5.c) ∧ 
    IxA x5.a x5.n i 3 fun ad2 => (∃ x6 : Sl, hcell H3 (Addr.add ad2 2) = some (.slice x6.a x6.n x6.c) ∧ 
    ∃ I1 : Int → Int → Hp → Nat → Prop, (∃ m3, I1 (w64 ((w64 ((w64 (n + (x2.size : Int))) + (x4.size : Int))) + (w64 (10 * (x6.n : Int))))) 0 H3 m3) ∧ 
    ∀ (n1 : Int) (k : Int), ∀ H4 m4, I1 n1 k H4 m4 → ∀ scr2 : Nat → Value, ∃ x7 : Sl, hcell H4 ⟨bS, 0, none⟩ = some (.slice x7.a x7.n x7.c) ∧ 
    IxA x7.a x7.n i 3 fun ad3 => (∃ x8 : Sl, hcell H4 (Addr.add ad3 2) = some (.slice x8.a x8.n x8.c) ∧ 
    (((decide (k < (x8.n : Int))) = true → (((decide (k < 100)) = true → ∃ x9 : Sl, hcell H4 ⟨bS, 0, none⟩ = some (.slice x9.a x9.n x9.c) ∧ 
    IxA x9.a x9.n i 3 fun ad4 => (∃ x10 : Sl, hcell H4 (Addr.add ad4 2) = some (.slice x10.a x10.n x10.c) ∧ 
    IxA x10.a x10.n k 2 fun ad5 => (∃ x11 : ByteArray, hcell H4 (Addr.add ad5 1) = some (.string x11) ∧ 
    (∃ m5, m5 < m4 ∧ I1 (w64 (n1 + (x11.size : Int))) (w64 (k + 1)) H4 m5)))) ∧ ((decide (k < 100)) = false → 
    (((decide (n1 > 30000)) = true → K (.bool true) H4) ∧ ((decide (n1 > 30000)) = false → (∃ m2, m2 < m1 ∧ 
    I n1 (w64 (i + 1)) H4 m2)))))) ∧ ((decide (k < (x8.n : Int))) = false → (((decide (n1 > 30000)) = true → 
    K (.bool true) H4) ∧ ((decide (n1 > 30000)) = false → (∃ m2, m2 < m1 ∧ I n1 (w64 (i + 1)) H4 m2)))))))))) ∧ 
    ((decide (i < (x.n : Int))) = false → ∃ I2 : Int → Int → Hp → Nat → Prop, (∃ m6, I2 n 0 H3 m6) ∧ 
    ∀ (n2 : Int) (i1 : Int), ∀ H5 m7, I2 n2 i1 H5 m7 → ∀ scr3 : Nat → Value, ∃ x12 : Sl, hcell H5 ⟨bS, 1, none⟩ = some (.slice x12.a x12.n x12.c) ∧ 
    (((decide (i1 < (x12.n : Int))) = true → ∃ x13 : Sl, hcell H5 ⟨bS, 1, none⟩ = some (.slice x13.a x13.n x13.c) ∧ 
    IxA x13.a x13.n i1 3 fun ad6 => (∃ x14 : ByteArray, hcell H5 ad6 = some (.string x14) ∧ ∃ x15 : Sl, hcell H5 ⟨bS, 1, none⟩ = some (.slice x15.a x15.n x15.c) ∧ 
    IxA x15.a x15.n i1 3 fun ad7 => (∃ x16 : ByteArray, hcell H5 (Addr.add ad7 1) = some (.string x16) ∧ 
    ∃ x17 : Sl, hcell H5 ⟨bS, 1, none⟩ = some (.slice x17.a x17.n x17.c) ∧ IxA x17.a x17.n i1 3 fun ad8 => 
    (∃ x18 : ByteArray, hcell H5 (Addr.add ad8 2) = some (.string x18) ∧ (((decide ((w64 ((w64 ((w64 (n2 + (x14.size : Int))) + (x16.size : Int))) + (x18.size : Int))) > 30000)) = true → 
    K (.bool true) H5) ∧ ((decide ((w64 ((w64 ((w64 (n2 + (x14.size : Int))) + (x16.size : Int))) + (x18.size : Int))) > 30000)) = false → 
    (∃ m8, m8 < m7 ∧ I2 (w64 ((w64 ((w64 (n2 + (x14.size : Int))) + (x16.size : Int))) + (x18.size : Int))) (w64 (i1 + 1)) H5 m8))))))) ∧ 
    ((decide (i1 < (x12.n : Int))) = false → ∃ I3 : Int → Int → Hp → Nat → Prop, (∃ m9, I3 n2 0 H5 m9) ∧ 
    ∀ (n3 : Int) (i2 : Int), ∀ H6 m10, I3 n3 i2 H6 m10 → ∀ scr4 : Nat → Value, ∃ x19 : Sl, hcell H6 ⟨bS, 2, none⟩ = some (.slice x19.a x19.n x19.c) ∧ 
    (((decide (i2 < (x19.n : Int))) = true → ∃ x20 : Sl, hcell H6 ⟨bS, 2, none⟩ = some (.slice x20.a x20.n x20.c) ∧ 
    IxA x20.a x20.n i2 6 fun ad9 => (∃ x_a : Int, ∃ x_b : ByteArray, ∃ x_c : ByteArray, ∃ x_d : Int, ∃ x_e : ByteArray, ∃ x_f : Sl, (hcell H6 ad9 = some (.int .i64 x_a) ∧ 
    hcell H6 (Addr.add ad9 1) = some (.string x_b) ∧ hcell H6 (Addr.add ad9 2) = some (.string x_c) ∧ 
    hcell H6 (Addr.add ad9 3) = some (.int .i64 x_d) ∧ hcell H6 (Addr.add ad9 4) = some (.string x_e) ∧ 
    hcell H6 (Addr.add ad9 5) = some (.slice x_f.a x_f.n x_f.c) ∧ True) ∧ ∀ bC H7, Newb H6 (.cells #[.int .i64 0, .string ⟨#[]⟩, .string ⟨#[]⟩, .int .i64 0, .string ⟨#[]⟩, .slice none 0 0] 136) bC H7 → 
    StL ⟨bC, 0, none⟩ 0 [.int .i64 x_a, .string x_b, .string x_c, .int .i64 x_d, .string x_e, .slice x_f.a x_f.n x_f.c] H7 fun H8 => 
    (∃ x21 : ByteArray, hcell H8 ⟨bC, 1, none⟩ = some (.string x21) ∧ ∃ x22 : ByteArray, hcell H8 ⟨bC, 2, none⟩ = some (.string x22) ∧ 
    ∃ x23 : ByteArray, hcell H8 ⟨bC, 4, none⟩ = some (.string x23) ∧ ∃ x24 : Sl, hcell H8 ⟨bC, 5, none⟩ = some (.slice x24.a x24.n x24.c) ∧ 
    ∃ I4 : Int → Int → Hp → Nat → Prop, (∃ m12, I4 (w64 ((w64 ((w64 ((w64 (n3 + (x21.size : Int))) + (x22.size : Int))) + (x23.size : Int))) + (w64 (10 * (x24.n : Int))))) 0 H8 m12) ∧ 
    ∀ (n4 : Int) (k1 : Int), ∀ H9 m13, I4 n4 k1 H9 m13 → ∀ scr5 : Nat → Value, ∃ x25 : Sl, hcell H9 ⟨bC, 5, none⟩ = some (.slice x25.a x25.n x25.c) ∧ 
    (((decide (k1 < (x25.n : Int))) = true → (((decide (k1 < 100)) = true → ∃ x26 : Sl, hcell H9 ⟨bC, 5, none⟩ = some (.slice x26.a x26.n x26.c) ∧ 
    IxA x26.a x26.n k1 1 fun ad10 => (∃ x27 : ByteArray, hcell H9 ad10 = some (.string x27) ∧ (∃ m14, m14 < m13 ∧ 
    I4 (w64 (n4 + (x27.size : Int))) (w64 (k1 + 1)) H9 m14))) ∧ ((decide (k1 < 100)) = false → (((decide (n4 > 60000)) = true → 
    K (.bool true) H9) ∧ ((decide (n4 > 60000)) = false → (∃ m11, m11 < m10 ∧ I3 n4 (w64 (i2 + 1)) H9 m11)))))) ∧ 
    ((decide (k1 < (x25.n : Int))) = false → (((decide (n4 > 60000)) = true → K (.bool true) H9) ∧ ((decide (n4 > 60000)) = false → 
    (∃ m11, m11 < m10 ∧ I3 n4 (w64 (i2 + 1)) H9 m11)))))))) ∧ ((decide (i2 < (x19.n : Int))) = false → 
    K (.bool false) H6))))))) ∧ ∃ x28 : Sl, hcell H1 ⟨bS, 0, none⟩ = some (.slice x28.a x28.n x28.c) ∧ 
    (((decide ((x28.n : Int) > most)) = true → K (.bool true) H1) ∧ ((decide ((x28.n : Int) > most)) = false → 
    ∃ x29 : Sl, hcell H1 ⟨bS, 1, none⟩ = some (.slice x29.a x29.n x29.c) ∧ (((decide ((x29.n : Int) > most)) = true → 
    K (.bool true) H1) ∧ ((decide ((x29.n : Int) > most)) = false → ∃ x30 : Sl, hcell H1 ⟨bS, 2, none⟩ = some (.slice x30.a x30.n x30.c) ∧ 
    (((decide ((x30.n : Int) > most)) = true → K (.bool true) H1) ∧ ((decide ((x30.n : Int) > most)) = false → 
    (J  H1)))))))
def aJ91 : Ann := (fun k => if k = 3 then some [] else none)
def aL91 : Ann := (fun k => if k = 5 then some [(5, (.sc (.int .i64))), (6, (.sc (.int .i64)))] else if k = 9 then some [(5, (.sc (.int .i64))), (7, (.sc (.int .i64)))] else if k = 15 then some [(5, (.sc (.int .i64))), (8, (.sc (.int .i64)))] else if k = 21 then some [(5, (.sc (.int .i64))), (9, (.sc (.int .i64)))] else if k = 26 then some [(5, (.sc (.int .i64))), (11, (.sc (.int .i64)))] else none)
theorem V91_ok {H : Hp} {s_a : Sl} {s_b : Sl} {s_c : Sl} {most : Int} {K : Value → Hp → Prop} {Z : List PanicEntry → Hp → Prop} (h : V91 H s_a s_b s_c most K Z) : CallF Try.prog 91 #[.agg #[.slice s_a.a s_a.n s_a.c, .slice s_b.a s_b.n s_b.c, .slice s_c.a s_c.n s_c.c], .int .i64 most] H K Z :=
  fnC_sound (P := Try.prog) (aJ := aJ91) (aL := aL91) (f := 91) (args := [.agg #[.slice s_a.a s_a.n s_a.c, .slice s_b.a s_b.n s_b.c, .slice s_c.a s_c.n s_c.c], .int .i64 most]) (Eq.mp (by kernel_rfl) h)
/-- weft/weftref24.Same -/
def V44 (H : Hp) (a_a : ByteArray) (a_b : Sl) (a_c : Sl) (a_d : Sl) (a_e : Sl) (a_f : Sl) (a_g : Sl) (b_a : ByteArray) (b_b : Sl) (b_c : Sl) (b_d : Sl) (b_e : Sl) (b_f : Sl) (b_g : Sl) (K : Value → Hp → Prop) (Z : List PanicEntry → Hp → Prop) : Prop :=
  ∀ bA H1, Newb H (.cells #[.string a_a, .slice a_b.a a_b.n a_b.c, .slice a_c.a a_c.n a_c.c, .slice a_d.a a_d.n a_d.c, .slice a_e.a a_e.n a_e.c, .slice a_f.a a_f.n a_f.c, .slice a_g.a a_g.n a_g.c] 90) bA H1 → 
    ∀ bB H2, Newb H1 (.cells #[.string b_a, .slice b_b.a b_b.n b_b.c, .slice b_c.a b_c.n b_c.c, .slice b_d.a b_d.n b_d.c, .slice b_e.a b_e.n b_e.c, .slice b_f.a b_f.n b_f.c, .slice b_g.a b_g.n b_g.c] 90) bB H2 → 
    ∃ x : ByteArray, hcell H2 ⟨bA, 0, none⟩ = some (.string x) ∧ ∃ x1 : ByteArray, hcell H2 ⟨bB, 0, none⟩ = some (.string x1) ∧ 
    (((beqS x x1) = true → ∃ x2 : Sl, hcell H2 ⟨bA, 1, none⟩ = some (.slice x2.a x2.n x2.c) ∧ ∃ x3 : Sl, hcell H2 ⟨bB, 1, none⟩ = some (.slice x3.a x3.n x3.c) ∧ 
    CallF Try.prog 50 #[.slice x2.a x2.n x2.c, .slice x3.a x3.n x3.c] H2 (fun r H3 => ∃ y : Bool, r = .bool y ∧ 
    ((y = true → ∃ x4 : Sl, hcell H3 ⟨bA, 2, none⟩ = some (.slice x4.a x4.n x4.c) ∧ ∃ x5 : Sl, hcell H3 ⟨bB, 2, none⟩ = some (.slice x5.a x5.n x5.c) ∧ 
    CallF Try.prog 50 #[.slice x4.a x4.n x4.c, .slice x5.a x5.n x5.c] H3 (fun r1 H4 => ∃ y1 : Bool, r1 = .bool y1 ∧ 
    ((y1 = true → ∃ x6 : Sl, hcell H4 ⟨bA, 3, none⟩ = some (.slice x6.a x6.n x6.c) ∧ ∃ x7 : Sl, hcell H4 ⟨bB, 3, none⟩ = some (.slice x7.a x7.n x7.c) ∧ 
    CallF Try.prog 50 #[.slice x6.a x6.n x6.c, .slice x7.a x7.n x7.c] H4 (fun r2 H5 => ∃ y2 : Bool, r2 = .bool y2 ∧ 
    ((y2 = true → ∃ x_a : Sl, ∃ x_b : Sl, ∃ x_c : Sl, (hcell H5 ⟨bA, 4, none⟩ = some (.slice x_a.a x_a.n x_a.c) ∧ 
    hcell H5 ⟨bA, 5, none⟩ = some (.slice x_b.a x_b.n x_b.c) ∧ hcell H5 ⟨bA, 6, none⟩ = some (.slice x_c.a x_c.n x_c.c) ∧ 
    True) ∧ ∃ x_a1 : Sl, ∃ x_b1 : Sl, ∃ x_c1 : Sl, (hcell H5 ⟨bB, 4, none⟩ = some (.slice x_a1.a x_a1.n x_a1.c) ∧ 
    hcell H5 ⟨bB, 5, none⟩ = some (.slice x_b1.a x_b1.n x_b1.c) ∧ hcell H5 ⟨bB, 6, none⟩ = some (.slice x_c1.a x_c1.n x_c1.c) ∧ 
    True) ∧ CallF Try.prog 90 #[.agg #[.slice x_a.a x_a.n x_a.c, .slice x_b.a x_b.n x_b.c, .slice x_c.a x_c.n x_c.c], .agg #[.slice x_a1.a x_a1.n x_a1.c, .slice x_b1.a x_b1.n x_b1.c, .slice x_c1.a x_c1.n x_c1.c]] H5 (fun r3 H6 => 
    ∃ y3 : Bool, r3 = .bool y3 ∧ K (.bool y3) H6) Z) ∧ (y2 = false → K (.bool false) H5))) Z) ∧ (y1 = false → 
    K (.bool false) H4))) Z) ∧ (y = false → K (.bool false) H3))) Z) ∧ ((beqS x x1) = false → K (.bool false) H2))
def aJ44 : Ann := (fun _ => none)
def aL44 : Ann := (fun _ => none)
theorem V44_ok {H : Hp} {a_a : ByteArray} {a_b : Sl} {a_c : Sl} {a_d : Sl} {a_e : Sl} {a_f : Sl} {a_g : Sl} {b_a : ByteArray} {b_b : Sl} {b_c : Sl} {b_d : Sl} {b_e : Sl} {b_f : Sl} {b_g : Sl} {K : Value → Hp → Prop} {Z : List PanicEntry → Hp → Prop} (h : V44 H a_a a_b a_c a_d a_e a_f a_g b_a b_b b_c b_d b_e b_f b_g K Z) : CallF Try.prog 44 #[.agg #[.string a_a, .slice a_b.a a_b.n a_b.c, .slice a_c.a a_c.n a_c.c, .slice a_d.a a_d.n a_d.c, .slice a_e.a a_e.n a_e.c, .slice a_f.a a_f.n a_f.c, .slice a_g.a a_g.n a_g.c], .agg #[.string b_a, .slice b_b.a b_b.n b_b.c, .slice b_c.a b_c.n b_c.c, .slice b_d.a b_d.n b_d.c, .slice b_e.a b_e.n b_e.c, .slice b_f.a b_f.n b_f.c, .slice b_g.a b_g.n b_g.c]] H K Z :=
  fnC_sound (P := Try.prog) (aJ := aJ44) (aL := aL44) (f := 44) (args := [.agg #[.string a_a, .slice a_b.a a_b.n a_b.c, .slice a_c.a a_c.n a_c.c, .slice a_d.a a_d.n a_d.c, .slice a_e.a a_e.n a_e.c, .slice a_f.a a_f.n a_f.c, .slice a_g.a a_g.n a_g.c], .agg #[.string b_a, .slice b_b.a b_b.n b_b.c, .slice b_c.a b_c.n b_c.c, .slice b_d.a b_d.n b_d.c, .slice b_e.a b_e.n b_e.c, .slice b_f.a b_f.n b_f.c, .slice b_g.a b_g.n b_g.c]]) (Eq.mp (by kernel_rfl) h)
/-- weft/weftref15.Same -/
def V90 (H : Hp) (a_a : Sl) (a_b : Sl) (a_c : Sl) (b_a : Sl) (b_b : Sl) (b_c : Sl) (K : Value → Hp → Prop) (Z : List PanicEntry → Hp → Prop) : Prop :=
  ∀ bA H1, Newb H (.cells #[.slice a_a.a a_a.n a_a.c, .slice a_b.a a_b.n a_b.c, .slice a_c.a a_c.n a_c.c] 88) bA H1 → 
    ∀ bB H2, Newb H1 (.cells #[.slice b_a.a b_a.n b_a.c, .slice b_b.a b_b.n b_b.c, .slice b_c.a b_c.n b_c.c] 88) bB H2 → 
    ∃ J : Hp → Prop, (∀ H3, J  H3 → ∀ scr : Nat → Value, ∃ I : Int → Hp → Nat → Prop, (∃ m, I 0 H3 m) ∧ 
    ∀ (i : Int), ∀ H4 m1, I i H4 m1 → ∀ scr1 : Nat → Value, ∃ x : Sl, hcell H4 ⟨bA, 0, none⟩ = some (.slice x.a x.n x.c) ∧ 
    (((decide (i < (x.n : Int))) = true → ∃ x1 : Sl, hcell H4 ⟨bA, 0, none⟩ = some (.slice x1.a x1.n x1.c) ∧ 
    IxA x1.a x1.n i 3 fun ad => (∃ x_a : ByteArray, ∃ x_b : ByteArray, ∃ x_c : Sl, (hcell H4 ad = some (.string x_a) ∧ 
    hcell H4 (Addr.add ad 1) = some (.string x_b) ∧ hcell H4 (Addr.add ad 2) = some (.slice x_c.a x_c.n x_c.c) ∧ 
    True) ∧ ∃ x2 : Sl, hcell H4 ⟨bB, 0, none⟩ = some (.slice x2.a x2.n x2.c) ∧ IxA x2.a x2.n i 3 fun ad1 => 
    (∃ x_a1 : ByteArray, ∃ x_b1 : ByteArray, ∃ x_c1 : Sl, (hcell H4 ad1 = some (.string x_a1) ∧ hcell H4 (Addr.add ad1 1) = some (.string x_b1) ∧ 
    hcell H4 (Addr.add ad1 2) = some (.slice x_c1.a x_c1.n x_c1.c) ∧ True) ∧ CallF Try.prog 115 #[.agg #[.string x_a, .string x_b, .slice x_c.a x_c.n x_c.c], .agg #[.string x_a1, .string x_b1, .slice x_c1.a x_c1.n x_c1.c]] H4 (fun r H5 => 
    ∃ y : Bool, r = .bool y ∧ (((!y) = true → K (.bool false) H5) ∧ ((!y) = false → (∃ m2, m2 < m1 ∧ 
    I (w64 (i + 1)) H5 m2)))) Z))) ∧ ((decide (i < (x.n : Int))) = false → ∃ I1 : Int → Hp → Nat → Prop, (∃ m3, I1 0 H4 m3) ∧ 
    ∀ (i1 : Int), ∀ H6 m4, I1 i1 H6 m4 → ∀ scr2 : Nat → Value, ∃ x3 : Sl, hcell H6 ⟨bA, 1, none⟩ = some (.slice x3.a x3.n x3.c) ∧ 
    (((decide (i1 < (x3.n : Int))) = true → ∃ x4 : Sl, hcell H6 ⟨bA, 1, none⟩ = some (.slice x4.a x4.n x4.c) ∧ 
    IxA x4.a x4.n i1 3 fun ad2 => (∃ x_a2 : ByteArray, ∃ x_b2 : ByteArray, ∃ x_c2 : ByteArray, (hcell H6 ad2 = some (.string x_a2) ∧ 
    hcell H6 (Addr.add ad2 1) = some (.string x_b2) ∧ hcell H6 (Addr.add ad2 2) = some (.string x_c2) ∧ 
    True) ∧ ∃ x5 : Sl, hcell H6 ⟨bB, 1, none⟩ = some (.slice x5.a x5.n x5.c) ∧ IxA x5.a x5.n i1 3 fun ad3 => 
    (∃ x_a3 : ByteArray, ∃ x_b3 : ByteArray, ∃ x_c3 : ByteArray, (hcell H6 ad3 = some (.string x_a3) ∧ 
    hcell H6 (Addr.add ad3 1) = some (.string x_b3) ∧ hcell H6 (Addr.add ad3 2) = some (.string x_c3) ∧ 
    True) ∧ (((!((x_a2 == x_a3) && ((x_b2 == x_b3) && ((x_c2 == x_c3) && true)))) = true → K (.bool false) H6) ∧ 
    ((!((x_a2 == x_a3) && ((x_b2 == x_b3) && ((x_c2 == x_c3) && true)))) = false → (∃ m5, m5 < m4 ∧ I1 (w64 (i1 + 1)) H6 m5)))))) ∧ 
    ((decide (i1 < (x3.n : Int))) = false → ∃ I2 : Int → Hp → Nat → Prop, (∃ m6, I2 0 H6 m6) ∧ ∀ (i2 : Int), ∀ H7 m7, I2 i2 H7 m7 → 
    ∀ scr3 : Nat → Value, ∃ x6 : Sl, hcell H7 ⟨bA, 2, none⟩ = some (.slice x6.a x6.n x6.c) ∧ (((decide (i2 < (x6.n : Int))) = true → 
    ∃ x7 : Sl, hcell H7 ⟨bA, 2, none⟩ = some (.slice x7.a x7.n x7.c) ∧ IxA x7.a x7.n i2 6 fun ad4 => 
    (∃ x_a4 : Int, ∃ x_b4 : ByteArray, ∃ x_c4 : ByteArray, ∃ x_d : Int, ∃ x_e : ByteArray, ∃ x_f : Sl, (hcell H7 ad4 = some (.int .i64 x_a4) ∧ 
    hcell H7 (Addr.add ad4 1) = some (.string x_b4) ∧ hcell H7 (Addr.add ad4 2) = some (.string x_c4) ∧ 
    hcell H7 (Addr.add ad4 3) = some (.int .i64 x_d) ∧ hcell H7 (Addr.add ad4 4) = some (.string x_e) ∧ 
    hcell H7 (Addr.add ad4 5) = some (.slice x_f.a x_f.n x_f.c) ∧ True) ∧ ∃ x8 : Sl, hcell H7 ⟨bB, 2, none⟩ = some (.slice x8.a x8.n x8.c) ∧ 
    IxA x8.a x8.n i2 6 fun ad5 => (∃ x_a5 : Int, ∃ x_b5 : ByteArray, ∃ x_c5 : ByteArray, ∃ x_d1 : Int, ∃ x_e1 : ByteArray, ∃ x_f1 : Sl, (hcell H7 ad5 = some (.int .i64 x_a5) ∧ 
    hcell H7 (Addr.add ad5 1) = some (.string x_b5) ∧ hcell H7 (Addr.add ad5 2) = some (.string x_c5) ∧ 
    hcell H7 (Addr.add ad5 3) = some (.int .i64 x_d1) ∧ hcell H7 (Addr.add ad5 4) = some (.string x_e1) ∧ 
    hcell H7 (Addr.add ad5 5) = some (.slice x_f1.a x_f1.n x_f1.c) ∧ True) ∧ CallF Try.prog 116 #[.agg #[.int .i64 x_a4, .string x_b4, .string x_c4, .int .i64 x_d, .string x_e, .slice x_f.a x_f.n x_f.c], .agg #[.int .i64 x_a5, .string x_b5, .string x_c5, .int .i64 x_d1, .string x_e1, .slice x_f1.a x_f1.n x_f1.c]] H7 (fun r1 H8 => 
    ∃ y1 : Int, r1 = .int .i64 y1 ∧ (((y1 != 0) = true → K (.bool false) H8) ∧ ((y1 != 0) = false → (∃ m8, m8 < m7 ∧ 
    I2 (w64 (i2 + 1)) H8 m8)))) Z))) ∧ ((decide (i2 < (x6.n : Int))) = false → K (.bool true) H7))))))) ∧ 
    ∃ x9 : Sl, hcell H2 ⟨bA, 0, none⟩ = some (.slice x9.a x9.n x9.c) ∧ ∃ x10 : Sl, hcell H2 ⟨bB, 0, none⟩ = some (.slice x10.a x10.n x10.c) ∧ 
    ((((x9.n : Int) != (x10.n : Int)) = true → K (.bool false) H2) ∧ (((x9.n : Int) != (x10.n : Int)) = false → 
    ∃ x11 : Sl, hcell H2 ⟨bA, 1, none⟩ = some (.slice x11.a x11.n x11.c) ∧ ∃ x12 : Sl, hcell H2 ⟨bB, 1, none⟩ = some (.slice x12.a x12.n x12.c) ∧ 
    ((((x11.n : Int) != (x12.n : Int)) = true → K (.bool false) H2) ∧ (((x11.n : Int) != (x12.n : Int)) = false → 
    ∃ x13 : Sl, hcell H2 ⟨bA, 2, none⟩ = some (.slice x13.a x13.n x13.c) ∧ ∃ x14 : Sl, hcell H2 ⟨bB, 2, none⟩ = some (.slice x14.a x14.n x14.c) ∧ 
    ((((x13.n : Int) != (x14.n : Int)) = true → K (.bool false) H2) ∧ (((x13.n : Int) != (x14.n : Int)) = false → 
    (J  H2)))))))
def aJ90 : Ann := (fun k => if k = 3 then some [] else none)
def aL90 : Ann := (fun k => if k = 4 then some [(5, (.sc (.int .i64)))] else if k = 9 then some [(6, (.sc (.int .i64)))] else if k = 14 then some [(7, (.sc (.int .i64)))] else none)
theorem V90_ok {H : Hp} {a_a : Sl} {a_b : Sl} {a_c : Sl} {b_a : Sl} {b_b : Sl} {b_c : Sl} {K : Value → Hp → Prop} {Z : List PanicEntry → Hp → Prop} (h : V90 H a_a a_b a_c b_a b_b b_c K Z) : CallF Try.prog 90 #[.agg #[.slice a_a.a a_a.n a_a.c, .slice a_b.a a_b.n a_b.c, .slice a_c.a a_c.n a_c.c], .agg #[.slice b_a.a b_a.n b_a.c, .slice b_b.a b_b.n b_b.c, .slice b_c.a b_c.n b_c.c]] H K Z :=
  fnC_sound (P := Try.prog) (aJ := aJ90) (aL := aL90) (f := 90) (args := [.agg #[.slice a_a.a a_a.n a_a.c, .slice a_b.a a_b.n a_b.c, .slice a_c.a a_c.n a_c.c], .agg #[.slice b_a.a b_a.n b_a.c, .slice b_b.a b_b.n b_b.c, .slice b_c.a b_c.n b_c.c]]) (Eq.mp (by kernel_rfl) h)
/-- weft/weftref15.SameObj -/
def V115 (H : Hp) (a_a : ByteArray) (a_b : ByteArray) (a_c : Sl) (b_a : ByteArray) (b_b : ByteArray) (b_c : Sl) (K : Value → Hp → Prop) (Z : List PanicEntry → Hp → Prop) : Prop :=
  ∀ bA H1, Newb H (.cells #[.string a_a, .string a_b, .slice a_c.a a_c.n a_c.c] 128) bA H1 → ∀ bB H2, Newb H1 (.cells #[.string b_a, .string b_b, .slice b_c.a b_c.n b_c.c] 128) bB H2 → 
    ∃ J : Hp → Prop, (∀ H3, J  H3 → ∀ scr : Nat → Value, ∃ I : Int → Hp → Nat → Prop, (∃ m, I 0 H3 m) ∧ 
    ∀ (i : Int), ∀ H4 m1, I i H4 m1 → ∀ scr1 : Nat → Value, ∃ x : Sl, hcell H4 ⟨bA, 2, none⟩ = some (.slice x.a x.n x.c) ∧ 
    (((decide (i < (x.n : Int))) = true → ∃ x1 : Sl, hcell H4 ⟨bB, 2, none⟩ = some (.slice x1.a x1.n x1.c) ∧ 
    (((decide (i < (x1.n : Int))) = true → ∃ x2 : Sl, hcell H4 ⟨bA, 2, none⟩ = some (.slice x2.a x2.n x2.c) ∧ 
    IxA x2.a x2.n i 2 fun ad => (∃ x_a : Int, ∃ x_b : ByteArray, (hcell H4 ad = some (.int .i64 x_a) ∧ 
    hcell H4 (Addr.add ad 1) = some (.string x_b) ∧ True) ∧ ∃ x3 : Sl, hcell H4 ⟨bB, 2, none⟩ = some (.slice x3.a x3.n x3.c) ∧ 
    IxA x3.a x3.n i 2 fun ad1 => (∃ x_a1 : Int, ∃ x_b1 : ByteArray, (hcell H4 ad1 = some (.int .i64 x_a1) ∧ 
    hcell H4 (Addr.add ad1 1) = some (.string x_b1) ∧ True) ∧ (((!((x_a == x_a1) && ((x_b == x_b1) && true))) = true → 
    K (.bool false) H4) ∧ ((!((x_a == x_a1) && ((x_b == x_b1) && true))) = false → (∃ m2, m2 < m1 ∧ I (w64 (i + 1)) H4 m2)))))) ∧ 
    ((decide (i < (x1.n : Int))) = false → K (.bool true) H4))) ∧ ((decide (i < (x.n : Int))) = false → 
    K (.bool true) H4))) ∧ ∃ x4 : ByteArray, hcell H2 ⟨bA, 0, none⟩ = some (.string x4) ∧ ∃ x5 : ByteArray, hcell H2 ⟨bB, 0, none⟩ = some (.string x5) ∧ 
    (((!(beqS x4 x5)) = true → K (.bool false) H2) ∧ ((!(beqS x4 x5)) = false → ∃ x6 : ByteArray, hcell H2 ⟨bA, 1, none⟩ = some (.string x6) ∧ 
    ∃ x7 : ByteArray, hcell H2 ⟨bB, 1, none⟩ = some (.string x7) ∧ (((!(beqS x6 x7)) = true → K (.bool false) H2) ∧ 
    ((!(beqS x6 x7)) = false → ∃ x8 : Sl, hcell H2 ⟨bA, 2, none⟩ = some (.slice x8.a x8.n x8.c) ∧ ∃ x9 : Sl, hcell H2 ⟨bB, 2, none⟩ = some (.slice x9.a x9.n x9.c) ∧ 
    ((((x8.n : Int) != (x9.n : Int)) = true → K (.bool false) H2) ∧ (((x8.n : Int) != (x9.n : Int)) = false → 
    (J  H2)))))))
def aJ115 : Ann := (fun k => if k = 3 then some [] else none)
def aL115 : Ann := (fun k => if k = 4 then some [(5, (.sc (.int .i64)))] else none)
theorem V115_ok {H : Hp} {a_a : ByteArray} {a_b : ByteArray} {a_c : Sl} {b_a : ByteArray} {b_b : ByteArray} {b_c : Sl} {K : Value → Hp → Prop} {Z : List PanicEntry → Hp → Prop} (h : V115 H a_a a_b a_c b_a b_b b_c K Z) : CallF Try.prog 115 #[.agg #[.string a_a, .string a_b, .slice a_c.a a_c.n a_c.c], .agg #[.string b_a, .string b_b, .slice b_c.a b_c.n b_c.c]] H K Z :=
  fnC_sound (P := Try.prog) (aJ := aJ115) (aL := aL115) (f := 115) (args := [.agg #[.string a_a, .string a_b, .slice a_c.a a_c.n a_c.c], .agg #[.string b_a, .string b_b, .slice b_c.a b_c.n b_c.c]]) (Eq.mp (by kernel_rfl) h)
/-- weft/weftref15.Compare -/
def V116 (H : Hp) (a_a : Int) (a_b : ByteArray) (a_c : ByteArray) (a_d : Int) (a_e : ByteArray) (a_f : Sl) (b_a : Int) (b_b : ByteArray) (b_c : ByteArray) (b_d : Int) (b_e : ByteArray) (b_f : Sl) (K : Value → Hp → Prop) (Z : List PanicEntry → Hp → Prop) : Prop :=
  ∀ bA H1, Newb H (.cells #[.int .i64 a_a, .string a_b, .string a_c, .int .i64 a_d, .string a_e, .slice a_f.a a_f.n a_f.c] 136) bA H1 → 
    ∀ bB H2, Newb H1 (.cells #[.int .i64 b_a, .string b_b, .string b_c, .int .i64 b_d, .string b_e, .slice b_f.a b_f.n b_f.c] 136) bB H2 → 
    ∃ x : Int, hcell H2 ⟨bA, 0, none⟩ = some (.int .i64 x) ∧ ∃ x1 : Int, hcell H2 ⟨bB, 0, none⟩ = some (.int .i64 x1) ∧ 
    ∃ x2 : ByteArray, hcell H2 ⟨bA, 1, none⟩ = some (.string x2) ∧ ∃ x3 : ByteArray, hcell H2 ⟨bB, 1, none⟩ = some (.string x3) ∧ 
    ∃ x4 : ByteArray, hcell H2 ⟨bA, 2, none⟩ = some (.string x4) ∧ ∃ x5 : ByteArray, hcell H2 ⟨bB, 2, none⟩ = some (.string x5) ∧ 
    ∃ x6 : Int, hcell H2 ⟨bA, 3, none⟩ = some (.int .i64 x6) ∧ ∃ x7 : Int, hcell H2 ⟨bB, 3, none⟩ = some (.int .i64 x7) ∧ 
    ∃ x8 : ByteArray, hcell H2 ⟨bA, 4, none⟩ = some (.string x8) ∧ ∃ x9 : ByteArray, hcell H2 ⟨bB, 4, none⟩ = some (.string x9) ∧ 
    CallF Try.prog 144 #[.int .i64 x, .int .i64 x1] H2 (fun r H3 => ∃ y : Int, r = .int .i64 y ∧ (hcell H3 ⟨bB, 4, none⟩ = some (.string x9) ∧ 
    (hcell H3 ⟨bA, 4, none⟩ = some (.string x8) ∧ (hcell H3 ⟨bB, 3, none⟩ = some (.int .i64 x7) ∧ (hcell H3 ⟨bA, 3, none⟩ = some (.int .i64 x6) ∧ 
    (hcell H3 ⟨bB, 2, none⟩ = some (.string x5) ∧ (hcell H3 ⟨bA, 2, none⟩ = some (.string x4) ∧ (hcell H3 ⟨bB, 1, none⟩ = some (.string x3) ∧ 
    (hcell H3 ⟨bA, 1, none⟩ = some (.string x2) ∧ CallF Try.prog 145 #[.string x2, .string x3] H3 (fun r1 H4 => 
    ∃ y1 : Int, r1 = .int .i64 y1 ∧ (hcell H4 ⟨bB, 4, none⟩ = some (.string x9) ∧ (hcell H4 ⟨bA, 4, none⟩ = some (.string x8) ∧ 
    (hcell H4 ⟨bB, 3, none⟩ = some (.int .i64 x7) ∧ (hcell H4 ⟨bA, 3, none⟩ = some (.int .i64 x6) ∧ (hcell H4 ⟨bB, 2, none⟩ = some (.string x5) ∧ 
    (hcell H4 ⟨bA, 2, none⟩ = some (.string x4) ∧ CallF Try.prog 145 #[.string x4, .string x5] H4 (fun r2 H5 => 
    ∃ y2 : Int, r2 = .int .i64 y2 ∧ (hcell H5 ⟨bB, 4, none⟩ = some (.string x9) ∧ (hcell H5 ⟨bA, 4, none⟩ = some (.string x8) ∧ 
    (hcell H5 ⟨bB, 3, none⟩ = some (.int .i64 x7) ∧ (hcell H5 ⟨bA, 3, none⟩ = some (.int .i64 x6) ∧ CallF Try.prog 144 #[.int .i64 x6, .int .i64 x7] H5 (fun r3 H6 => 
    ∃ y3 : Int, r3 = .int .i64 y3 ∧ (hcell H6 ⟨bB, 4, none⟩ = some (.string x9) ∧ (hcell H6 ⟨bA, 4, none⟩ = some (.string x8) ∧ 
    CallF Try.prog 145 #[.string x8, .string x9] H6 (fun r4 H7 => ∃ y4 : Int, r4 = .int .i64 y4 ∧ ∀ b H8, Newb H7 (.cells #[.int .i64 y, .int .i64 y1, .int .i64 y2, .int .i64 y3, .int .i64 y4] 3) b H8 → 
    ∃ J : Sl → Hp → Prop, (∀ (l : Sl), ∀ H9, J l H9 → ∀ scr : Nat → Value, ∃ x10 : Sl, hcell H9 ⟨bA, 5, none⟩ = some (.slice x10.a x10.n x10.c) ∧ 
    ∃ x11 : Sl, hcell H9 ⟨bB, 5, none⟩ = some (.slice x11.a x11.n x11.c) ∧ CallF Try.prog 144 #[.int .i64 (x10.n : Int), .int .i64 (x11.n : Int)] H9 (fun r5 H10 => 
    ∃ y5 : Int, r5 = .int .i64 y5 ∧ ∀ b1 H11, Newb H10 (.cells #[.int .i64 y5] 3) b1 H11 → App Try.prog #[22, 22] 22 H11 [.slice l.a l.n l.c, .slice (some ⟨b1, 0, none⟩) 1 1] fun ap H12 => 
    (∃ I : Int → Hp → Nat → Prop, (∃ m, I 0 H12 m) ∧ ∀ (i : Int), ∀ H13 m1, I i H13 m1 → ∀ scr1 : Nat → 
    Value, (((decide (i < (ap.n : Int))) = true → IxA ap.a ap.n i 1 fun ad => (∃ x12 : Int, hcell H13 ad = some (.int .i64 x12) ∧ 
    (((x12 != 0) = true → IxA ap.a ap.n i 1 fun ad1 => (∃ x13 : Int, hcell H13 ad1 = some (.int .i64 x13) ∧ 
    K (.int .i64 x13) H13)) ∧ ((x12 != 0) = false → (∃ m2, m2 < m1 ∧ I (w64 (i + 1)) H13 m2))))) ∧ ((decide (i < (ap.n : Int))) = false → 
    K (.int .i64 0) H13)))) Z) ∧ ∃ I1 : Sl → Int → Hp → Nat → Prop, (∃ m3, I1 (⟨(some ⟨b, 0, none⟩), 5, 5⟩ : Sl) 0 H8 m3) ∧ 
    ∀ (l1 : Sl) (i1 : Int), ∀ H14 m4, I1 l1 i1 H14 m4 → ∀ scr2 : Nat → Value, ∃ x14 : Sl, hcell H14 ⟨bA, 5, none⟩ = some (.slice x14.a x14.n x14.c) ∧ 
    (((decide (i1 < (x14.n : Int))) = true → ∃ x15 : Sl, hcell H14 ⟨bB, 5, none⟩ = some (.slice x15.a x15.n x15.c) ∧ 
    (((decide (i1 < (x15.n : Int))) = true → ∃ x16 : Sl, hcell H14 ⟨bA, 5, none⟩ = some (.slice x16.a x16.n x16.c) ∧ 
    IxA x16.a x16.n i1 1 fun ad2 => (∃ x17 : ByteArray, hcell H14 ad2 = some (.string x17) ∧ ∃ x18 : Sl, hcell H14 ⟨bB, 5, none⟩ = some (.slice x18.a x18.n x18.c) ∧ 
    IxA x18.a x18.n i1 1 fun ad3 => (∃ x19 : ByteArray, hcell H14 ad3 = some (.string x19) ∧ CallF Try.prog 145 #[.string x17, .string x19] H14 (fun r6 H15 => 
    ∃ y6 : Int, r6 = .int .i64 y6 ∧ ∀ b2 H16, Newb H15 (.cells #[.int .i64 y6] 3) b2 H16 → App Try.prog #[22, 22] 22 H16 [.slice l1.a l1.n l1.c, .slice (some ⟨b2, 0, none⟩) 1 1] fun ap1 H17 => 
    (∃ m5, m5 < m4 ∧ I1 ap1 (w64 (i1 + 1)) H17 m5)) Z))) ∧ ((decide (i1 < (x15.n : Int))) = false → (J l1 H14)))) ∧ 
    ((decide (i1 < (x14.n : Int))) = false → (J l1 H14)))) Z))) Z))))) Z))))))) Z))))))))) Z
def aJ116 : Ann := (fun k => if k = 6 then some [(5, (.sc .sl))] else if k = 2000001 then some [] else none)
def aL116 : Ann := (fun k => if k = 3 then some [(5, (.sc .sl)), (6, (.sc (.int .i64)))] else if k = 8 then some [(7, (.sc (.int .i64)))] else none)
theorem V116_ok {H : Hp} {a_a : Int} {a_b : ByteArray} {a_c : ByteArray} {a_d : Int} {a_e : ByteArray} {a_f : Sl} {b_a : Int} {b_b : ByteArray} {b_c : ByteArray} {b_d : Int} {b_e : ByteArray} {b_f : Sl} {K : Value → Hp → Prop} {Z : List PanicEntry → Hp → Prop} (h : V116 H a_a a_b a_c a_d a_e a_f b_a b_b b_c b_d b_e b_f K Z) : CallF Try.prog 116 #[.agg #[.int .i64 a_a, .string a_b, .string a_c, .int .i64 a_d, .string a_e, .slice a_f.a a_f.n a_f.c], .agg #[.int .i64 b_a, .string b_b, .string b_c, .int .i64 b_d, .string b_e, .slice b_f.a b_f.n b_f.c]] H K Z :=
  fnC_sound (P := Try.prog) (aJ := aJ116) (aL := aL116) (f := 116) (args := [.agg #[.int .i64 a_a, .string a_b, .string a_c, .int .i64 a_d, .string a_e, .slice a_f.a a_f.n a_f.c], .agg #[.int .i64 b_a, .string b_b, .string b_c, .int .i64 b_d, .string b_e, .slice b_f.a b_f.n b_f.c]]) (Eq.mp (by kernel_rfl) h)
/-- weft/weftref15.ints -/
def V144 (H : Hp) (a : Int) (b : Int) (K : Value → Hp → Prop) (Z : List PanicEntry → Hp → Prop) : Prop :=
  (((decide (a < b)) = true → K (.int .i64 (-1)) H) ∧ ((decide (a < b)) = false → (((decide (a > b)) = true → 
    K (.int .i64 1) H) ∧ ((decide (a > b)) = false → K (.int .i64 0) H))))
def aJ144 : Ann := (fun _ => none)
def aL144 : Ann := (fun _ => none)
theorem V144_ok {H : Hp} {a : Int} {b : Int} {K : Value → Hp → Prop} {Z : List PanicEntry → Hp → Prop} (h : V144 H a b K Z) : CallF Try.prog 144 #[.int .i64 a, .int .i64 b] H K Z :=
  fnC_sound (P := Try.prog) (aJ := aJ144) (aL := aL144) (f := 144) (args := [.int .i64 a, .int .i64 b]) (Eq.mp (by kernel_rfl) h)
/-- weft/weftref15.texts -/
def V145 (H : Hp) (a : ByteArray) (b : ByteArray) (K : Value → Hp → Prop) (Z : List PanicEntry → Hp → Prop) : Prop :=
  (((ltS a b) = true → K (.int .i64 (-1)) H) ∧ ((ltS a b) = false → (((!((ltS a b) || (beqS a b))) = true → 
    K (.int .i64 1) H) ∧ ((!((ltS a b) || (beqS a b))) = false → K (.int .i64 0) H))))
def aJ145 : Ann := (fun _ => none)
def aL145 : Ann := (fun _ => none)
theorem V145_ok {H : Hp} {a : ByteArray} {b : ByteArray} {K : Value → Hp → Prop} {Z : List PanicEntry → Hp → Prop} (h : V145 H a b K Z) : CallF Try.prog 145 #[.string a, .string b] H K Z :=
  fnC_sound (P := Try.prog) (aJ := aJ145) (aL := aL145) (f := 145) (args := [.string a, .string b]) (Eq.mp (by kernel_rfl) h)
/-- weft/record.Texts -/
def V51 (H : Hp) (s_a : ByteArray) (s_b : Sl) (s_c : Sl) (s_d : Sl) (s_e : Sl) (s_f : Sl) (s_g : Sl) (K : Value → Hp → Prop) (Z : List PanicEntry → Hp → Prop) : Prop :=
  ∀ bS H1, Newb H (.cells #[.string s_a, .slice s_b.a s_b.n s_b.c, .slice s_c.a s_c.n s_c.c, .slice s_d.a s_d.n s_d.c, .slice s_e.a s_e.n s_e.c, .slice s_f.a s_f.n s_f.c, .slice s_g.a s_g.n s_g.c] 90) bS H1 → 
    ∀ bL H2, Newb H1 (.cells #[.slice none 0 0] 47) bL H2 → ∀ b H3, Newb H2 (.cells #[.pointer none, .slice none 0 0, .int .i64 0, .pointer none, .func (.func 96) #[] #[.pointer (some ⟨bL, 0, none⟩)], .int .i64 0] 152) b H3 → 
    ∃ x_a : ByteArray, ∃ x_b : Sl, ∃ x_c : Sl, ∃ x_d : Sl, ∃ x_e : Sl, ∃ x_f : Sl, ∃ x_g : Sl, (hcell H3 ⟨bS, 0, none⟩ = some (.string x_a) ∧ 
    hcell H3 ⟨bS, 1, none⟩ = some (.slice x_b.a x_b.n x_b.c) ∧ hcell H3 ⟨bS, 2, none⟩ = some (.slice x_c.a x_c.n x_c.c) ∧ 
    hcell H3 ⟨bS, 3, none⟩ = some (.slice x_d.a x_d.n x_d.c) ∧ hcell H3 ⟨bS, 4, none⟩ = some (.slice x_e.a x_e.n x_e.c) ∧ 
    hcell H3 ⟨bS, 5, none⟩ = some (.slice x_f.a x_f.n x_f.c) ∧ hcell H3 ⟨bS, 6, none⟩ = some (.slice x_g.a x_g.n x_g.c) ∧ 
    True) ∧ CallF Try.prog 95 #[.pointer (some ⟨b, 0, none⟩), .agg #[.string x_a, .slice x_b.a x_b.n x_b.c, .slice x_c.a x_c.n x_c.c, .slice x_d.a x_d.n x_d.c, .slice x_e.a x_e.n x_e.c, .slice x_f.a x_f.n x_f.c, .slice x_g.a x_g.n x_g.c]] H3 (fun r H4 => 
    r = .tuple #[] ∧ ∃ x : Sl, hcell H4 ⟨bL, 0, none⟩ = some (.slice x.a x.n x.c) ∧ CallF Try.prog 60 #[.slice x.a x.n x.c] H4 (fun r1 H5 => 
    ∃ y : Sl, r1 = .slice y.a y.n y.c ∧ K (.slice y.a y.n y.c) H5) Z) Z
def aJ51 : Ann := (fun _ => none)
def aL51 : Ann := (fun _ => none)
theorem V51_ok {H : Hp} {s_a : ByteArray} {s_b : Sl} {s_c : Sl} {s_d : Sl} {s_e : Sl} {s_f : Sl} {s_g : Sl} {K : Value → Hp → Prop} {Z : List PanicEntry → Hp → Prop} (h : V51 H s_a s_b s_c s_d s_e s_f s_g K Z) : CallF Try.prog 51 #[.agg #[.string s_a, .slice s_b.a s_b.n s_b.c, .slice s_c.a s_c.n s_c.c, .slice s_d.a s_d.n s_d.c, .slice s_e.a s_e.n s_e.c, .slice s_f.a s_f.n s_f.c, .slice s_g.a s_g.n s_g.c]] H K Z :=
  fnC_sound (P := Try.prog) (aJ := aJ51) (aL := aL51) (f := 51) (args := [.agg #[.string s_a, .slice s_b.a s_b.n s_b.c, .slice s_c.a s_c.n s_c.c, .slice s_d.a s_d.n s_d.c, .slice s_e.a s_e.n s_e.c, .slice s_f.a s_f.n s_f.c, .slice s_g.a s_g.n s_g.c]]) (Eq.mp (by kernel_rfl) h)
/-- weft/record.Texts$1 -/
def V96 (H : Hp) (t : ByteArray) (cap0 : Addr) (K : Value → Hp → Prop) (Z : List PanicEntry → Hp → Prop) : Prop :=
  ∃ x : Sl, hcell H cap0 = some (.slice x.a x.n x.c) ∧ ∀ b H1, Newb H (.cells #[.string t] 9) b H1 → 
    App Try.prog #[47, 47] 47 H1 [.slice x.a x.n x.c, .slice (some ⟨b, 0, none⟩) 1 1] fun ap H2 => (StL cap0 0 [.slice ap.a ap.n ap.c] H2 fun H3 => 
    (K (.tuple #[]) H3))
def aJ96 : Ann := (fun _ => none)
def aL96 : Ann := (fun _ => none)
theorem V96_ok {H : Hp} {t : ByteArray} {cap0 : Addr} {K : Value → Hp → Prop} {Z : List PanicEntry → Hp → Prop} (h : V96 H t cap0 K Z) : CallF Try.prog 96 #[.string t, .pointer (some cap0)] H K Z :=
  fnC_sound (P := Try.prog) (aJ := aJ96) (aL := aL96) (f := 96) (args := [.string t, .pointer (some cap0)]) (Eq.mp (by kernel_rfl) h)
/-- weft/record.Bytes -/
def V48 (H : Hp) (p : Addr) (s_a : ByteArray) (s_b : Sl) (s_c : Sl) (s_d : Sl) (s_e : Sl) (s_f : Sl) (s_g : Sl) (K : Value → Hp → Prop) (Z : List PanicEntry → Hp → Prop) : Prop :=
  ∀ bS H1, Newb H (.cells #[.string s_a, .slice s_b.a s_b.n s_b.c, .slice s_c.a s_c.n s_c.c, .slice s_d.a s_d.n s_d.c, .slice s_e.a s_e.n s_e.c, .slice s_f.a s_f.n s_f.c, .slice s_g.a s_g.n s_g.c] 90) bS H1 → 
    ∀ b H2, Newb H1 (.cells #[.pointer none, .slice none 0 0, .int .i64 0, .pointer (some p), .func (.func 94) #[] #[], .int .i64 0] 152) b H2 → 
    ∃ x_a : ByteArray, ∃ x_b : Sl, ∃ x_c : Sl, ∃ x_d : Sl, ∃ x_e : Sl, ∃ x_f : Sl, ∃ x_g : Sl, (hcell H2 ⟨bS, 0, none⟩ = some (.string x_a) ∧ 
    hcell H2 ⟨bS, 1, none⟩ = some (.slice x_b.a x_b.n x_b.c) ∧ hcell H2 ⟨bS, 2, none⟩ = some (.slice x_c.a x_c.n x_c.c) ∧ 
    hcell H2 ⟨bS, 3, none⟩ = some (.slice x_d.a x_d.n x_d.c) ∧ hcell H2 ⟨bS, 4, none⟩ = some (.slice x_e.a x_e.n x_e.c) ∧ 
    hcell H2 ⟨bS, 5, none⟩ = some (.slice x_f.a x_f.n x_f.c) ∧ hcell H2 ⟨bS, 6, none⟩ = some (.slice x_g.a x_g.n x_g.c) ∧ 
    True) ∧ CallF Try.prog 95 #[.pointer (some ⟨b, 0, none⟩), .agg #[.string x_a, .slice x_b.a x_b.n x_b.c, .slice x_c.a x_c.n x_c.c, .slice x_d.a x_d.n x_d.c, .slice x_e.a x_e.n x_e.c, .slice x_f.a x_f.n x_f.c, .slice x_g.a x_g.n x_g.c]] H2 (fun r H3 => 
    r = .tuple #[] ∧ ∃ x : Int, hcell H3 ⟨b, 5, none⟩ = some (.int .i64 x) ∧ (((x != 0) = true → ∃ x1 : Int, hcell H3 ⟨b, 5, none⟩ = some (.int .i64 x1) ∧ 
    K (.tuple #[.string ⟨#[]⟩, .int .i64 x1]) H3) ∧ ((x != 0) = false → CallF Try.prog 33 #[.pointer (some ⟨b, 0, none⟩)] H3 (fun r1 H4 => 
    ∃ y_0 : ByteArray, ∃ y_1 : Int, r1 = .tuple #[.string y_0, .int .i64 y_1] ∧ K (.tuple #[.string y_0, .int .i64 y_1]) H4) Z))) Z
def aJ48 : Ann := (fun _ => none)
def aL48 : Ann := (fun _ => none)
theorem V48_ok {H : Hp} {p : Addr} {s_a : ByteArray} {s_b : Sl} {s_c : Sl} {s_d : Sl} {s_e : Sl} {s_f : Sl} {s_g : Sl} {K : Value → Hp → Prop} {Z : List PanicEntry → Hp → Prop} (h : V48 H p s_a s_b s_c s_d s_e s_f s_g K Z) : CallF Try.prog 48 #[.pointer (some p), .agg #[.string s_a, .slice s_b.a s_b.n s_b.c, .slice s_c.a s_c.n s_c.c, .slice s_d.a s_d.n s_d.c, .slice s_e.a s_e.n s_e.c, .slice s_f.a s_f.n s_f.c, .slice s_g.a s_g.n s_g.c]] H K Z :=
  fnC_sound (P := Try.prog) (aJ := aJ48) (aL := aL48) (f := 48) (args := [.pointer (some p), .agg #[.string s_a, .slice s_b.a s_b.n s_b.c, .slice s_c.a s_c.n s_c.c, .slice s_d.a s_d.n s_d.c, .slice s_e.a s_e.n s_e.c, .slice s_f.a s_f.n s_f.c, .slice s_g.a s_g.n s_g.c]]) (Eq.mp (by kernel_rfl) h)
/-- weft/record.Bytes$1 -/
def V94 (H : Hp) (t0 : ByteArray) (K : Value → Hp → Prop) (Z : List PanicEntry → Hp → Prop) : Prop :=
  K (.tuple #[]) H
def aJ94 : Ann := (fun _ => none)
def aL94 : Ann := (fun _ => none)
theorem V94_ok {H : Hp} {t0 : ByteArray} {K : Value → Hp → Prop} {Z : List PanicEntry → Hp → Prop} (h : V94 H t0 K Z) : CallF Try.prog 94 #[.string t0] H K Z :=
  fnC_sound (P := Try.prog) (aJ := aJ94) (aL := aL94) (f := 94) (args := [.string t0]) (Eq.mp (by kernel_rfl) h)
/-- weft/record.Read -/
def V42 (H : Hp) (p : Addr) (b : ByteArray) (K : Value → Hp → Prop) (Z : List PanicEntry → Hp → Prop) : Prop :=
  ∀ b1 H1, Newb H (.cells #[.string ⟨#[]⟩, .slice none 0 0, .slice none 0 0, .slice none 0 0, .slice none 0 0, .slice none 0 0, .slice none 0 0] 90) b1 H1 → 
    CallF Try.prog 38 #[.string b] H1 (fun r H2 => ∃ y : Option Addr, r = .pointer y ∧ ∀ b2 H3, Newb H2 (.cells #[.pointer y, .pointer (some p)] 123) b2 H3 → 
    CallF Try.prog 76 #[.pointer (some ⟨b2, 0, none⟩)] H3 (fun r1 H4 => ∃ y1 : ByteArray, r1 = .string y1 ∧ 
    ∀ bS H5, Newb H4 (.cells #[.string ⟨#[]⟩, .slice none 0 0, .slice none 0 0, .slice none 0 0, .slice none 0 0, .slice none 0 0, .slice none 0 0] 90) bS H5 → 
    StL ⟨bS, 0, none⟩ 0 [.string y1, .slice none 0 0, .slice none 0 0, .slice none 0 0, .slice none 0 0, .slice none 0 0, .slice none 0 0] H5 fun H6 => 
    (CallF Try.prog 77 #[.pointer (some ⟨b2, 0, none⟩), .func (.func 76) #[.pointer (some ⟨b2, 0, none⟩)] #[]] H6 (fun r2 H7 => 
    ∃ y2 : Sl, r2 = .slice y2.a y2.n y2.c ∧ StL ⟨bS, 1, none⟩ 0 [.slice y2.a y2.n y2.c] H7 fun H8 => 
    (CallF Try.prog 77 #[.pointer (some ⟨b2, 0, none⟩), .func (.func 76) #[.pointer (some ⟨b2, 0, none⟩)] #[]] H8 (fun r3 H9 => 
    ∃ y3 : Sl, r3 = .slice y3.a y3.n y3.c ∧ StL ⟨bS, 2, none⟩ 0 [.slice y3.a y3.n y3.c] H9 fun H10 => 
    (CallF Try.prog 77 #[.pointer (some ⟨b2, 0, none⟩), .func (.func 76) #[.pointer (some ⟨b2, 0, none⟩)] #[]] H10 (fun r4 H11 => 
    ∃ y4 : Sl, r4 = .slice y4.a y4.n y4.c ∧ StL ⟨bS, 3, none⟩ 0 [.slice y4.a y4.n y4.c] H11 fun H12 => 
    (CallF Try.prog 78 #[.pointer (some ⟨b2, 0, none⟩), .func (.func 79) #[.pointer (some ⟨b2, 0, none⟩)] #[]] H12 (fun r5 H13 => 
    ∃ y5 : Sl, r5 = .slice y5.a y5.n y5.c ∧ StL ⟨bS, 4, none⟩ 0 [.slice y5.a y5.n y5.c] H13 fun H14 => 
    (CallF Try.prog 80 #[.pointer (some ⟨b2, 0, none⟩), .func (.func 81) #[.pointer (some ⟨b2, 0, none⟩)] #[]] H14 (fun r6 H15 => 
    ∃ y6 : Sl, r6 = .slice y6.a y6.n y6.c ∧ StL ⟨bS, 5, none⟩ 0 [.slice y6.a y6.n y6.c] H15 fun H16 => 
    (CallF Try.prog 82 #[.pointer (some ⟨b2, 0, none⟩), .func (.func 83) #[.pointer (some ⟨b2, 0, none⟩)] #[]] H16 (fun r7 H17 => 
    ∃ y7 : Sl, r7 = .slice y7.a y7.n y7.c ∧ StL ⟨bS, 6, none⟩ 0 [.slice y7.a y7.n y7.c] H17 fun H18 => 
    (∃ x : Option Addr, hcell H18 ⟨b2, 0, none⟩ = some (.pointer x) ∧ CallF Try.prog 40 #[.pointer x] H18 (fun r8 H19 => 
    ∃ y_0 : Int, ∃ y_1 : Int, r8 = .tuple #[.int .i64 y_0, .int .i64 y_1] ∧ (((y_1 != 0) = true → StL ⟨b1, 0, none⟩ 0 [.string ⟨#[]⟩, .slice none 0 0, .slice none 0 0, .slice none 0 0, .slice none 0 0, .slice none 0 0, .slice none 0 0] H19 fun H20 => 
    (∃ res_a : ByteArray, ∃ res_b : Sl, ∃ res_c : Sl, ∃ res_d : Sl, ∃ res_e : Sl, ∃ res_f : Sl, ∃ res_g : Sl, (hcell H20 ⟨b1, 0, none⟩ = some (.string res_a) ∧ 
    hcell H20 ⟨b1, 1, none⟩ = some (.slice res_b.a res_b.n res_b.c) ∧ hcell H20 ⟨b1, 2, none⟩ = some (.slice res_c.a res_c.n res_c.c) ∧ 
    hcell H20 ⟨b1, 3, none⟩ = some (.slice res_d.a res_d.n res_d.c) ∧ hcell H20 ⟨b1, 4, none⟩ = some (.slice res_e.a res_e.n res_e.c) ∧ 
    hcell H20 ⟨b1, 5, none⟩ = some (.slice res_f.a res_f.n res_f.c) ∧ hcell H20 ⟨b1, 6, none⟩ = some (.slice res_g.a res_g.n res_g.c) ∧ 
    True) ∧ K (.tuple #[.agg #[.string res_a, .slice res_b.a res_b.n res_b.c, .slice res_c.a res_c.n res_c.c, .slice res_d.a res_d.n res_d.c, .slice res_e.a res_e.n res_e.c, .slice res_f.a res_f.n res_f.c, .slice res_g.a res_g.n res_g.c], .int .i64 y_1]) H20)) ∧ 
    ((y_1 != 0) = false → ∃ x_a : ByteArray, ∃ x_b : Sl, ∃ x_c : Sl, ∃ x_d : Sl, ∃ x_e : Sl, ∃ x_f : Sl, ∃ x_g : Sl, (hcell H19 ⟨bS, 0, none⟩ = some (.string x_a) ∧ 
    hcell H19 ⟨bS, 1, none⟩ = some (.slice x_b.a x_b.n x_b.c) ∧ hcell H19 ⟨bS, 2, none⟩ = some (.slice x_c.a x_c.n x_c.c) ∧ 
    hcell H19 ⟨bS, 3, none⟩ = some (.slice x_d.a x_d.n x_d.c) ∧ hcell H19 ⟨bS, 4, none⟩ = some (.slice x_e.a x_e.n x_e.c) ∧ 
    hcell H19 ⟨bS, 5, none⟩ = some (.slice x_f.a x_f.n x_f.c) ∧ hcell H19 ⟨bS, 6, none⟩ = some (.slice x_g.a x_g.n x_g.c) ∧ 
    True) ∧ StL ⟨b1, 0, none⟩ 0 [.string x_a, .slice x_b.a x_b.n x_b.c, .slice x_c.a x_c.n x_c.c, .slice x_d.a x_d.n x_d.c, .slice x_e.a x_e.n x_e.c, .slice x_f.a x_f.n x_f.c, .slice x_g.a x_g.n x_g.c] H19 fun H21 => 
    (∃ res_a1 : ByteArray, ∃ res_b1 : Sl, ∃ res_c1 : Sl, ∃ res_d1 : Sl, ∃ res_e1 : Sl, ∃ res_f1 : Sl, ∃ res_g1 : Sl, (hcell H21 ⟨b1, 0, none⟩ = some (.string res_a1) ∧ 
    hcell H21 ⟨b1, 1, none⟩ = some (.slice res_b1.a res_b1.n res_b1.c) ∧ hcell H21 ⟨b1, 2, none⟩ = some (.slice res_c1.a res_c1.n res_c1.c) ∧ 
    hcell H21 ⟨b1, 3, none⟩ = some (.slice res_d1.a res_d1.n res_d1.c) ∧ hcell H21 ⟨b1, 4, none⟩ = some (.slice res_e1.a res_e1.n res_e1.c) ∧ 
    hcell H21 ⟨b1, 5, none⟩ = some (.slice res_f1.a res_f1.n res_f1.c) ∧ hcell H21 ⟨b1, 6, none⟩ = some (.slice res_g1.a res_g1.n res_g1.c) ∧ 
    True) ∧ K (.tuple #[.agg #[.string res_a1, .slice res_b1.a res_b1.n res_b1.c, .slice res_c1.a res_c1.n res_c1.c, .slice res_d1.a res_d1.n res_d1.c, .slice res_e1.a res_e1.n res_e1.c, .slice res_f1.a res_f1.n res_f1.c, .slice res_g1.a res_g1.n res_g1.c], .int .i64 0]) H21)))) Z)) Z)) Z)) Z)) Z)) Z)) Z)) Z) Z
def aJ42 : Ann := (fun _ => none)
def aL42 : Ann := (fun _ => none)
theorem V42_ok {H : Hp} {p : Addr} {b : ByteArray} {K : Value → Hp → Prop} {Z : List PanicEntry → Hp → Prop} (h : V42 H p b K Z) : CallF Try.prog 42 #[.pointer (some p), .string b] H K Z :=
  fnC_sound (P := Try.prog) (aJ := aJ42) (aL := aL42) (f := 42) (args := [.pointer (some p), .string b]) (Eq.mp (by kernel_rfl) h)
/-- (*weft/record.reader).text -/
def V76 (H : Hp) (r : Addr) (K : Value → Hp → Prop) (Z : List PanicEntry → Hp → Prop) : Prop :=
  ∃ x : Option Addr, hcell H r = some (.pointer x) ∧ CallF Try.prog 71 #[.pointer x] H (fun r1 H1 => 
    ∃ y : Int, r1 = .int .i64 y ∧ CallF Try.prog 110 #[.pointer (some r)] H1 (fun r2 H2 => ∃ y1 : Bool, r2 = .bool y1 ∧ 
    (((!y1) = true → K (.string ⟨#[]⟩) H2) ∧ ((!y1) = false → ∃ x1 : Option Addr, hcell H2 (Addr.add r 1) = some (.pointer x1) ∧ 
    CallF Try.prog 68 #[.pointer x1, .int .i64 y] H2 (fun r3 H3 => ∃ y_0 : ByteArray, ∃ y_1 : Bool, r3 = .tuple #[.string y_0, .bool y_1] ∧ 
    (((!y_1) = true → ∃ x2 : Option Addr, hcell H3 r = some (.pointer x2) ∧ CallF Try.prog 72 #[.pointer x2, .int .i64 2] H3 (fun r4 H4 => 
    r4 = .tuple #[] ∧ K (.string y_0) H4) Z) ∧ ((!y_1) = false → K (.string y_0) H3))) Z))) Z) Z
def aJ76 : Ann := (fun _ => none)
def aL76 : Ann := (fun _ => none)
theorem V76_ok {H : Hp} {r : Addr} {K : Value → Hp → Prop} {Z : List PanicEntry → Hp → Prop} (h : V76 H r K Z) : CallF Try.prog 76 #[.pointer (some r)] H K Z :=
  fnC_sound (P := Try.prog) (aJ := aJ76) (aL := aL76) (f := 76) (args := [.pointer (some r)]) (Eq.mp (by kernel_rfl) h)
/-- (*weft/record.reader).good -/
def V110 (H : Hp) (r : Addr) (K : Value → Hp → Prop) (Z : List PanicEntry → Hp → Prop) : Prop :=
  ∃ x : Option Addr, hcell H r = some (.pointer x) ∧ CallF Try.prog 40 #[.pointer x] H (fun r1 H1 => 
    ∃ y_0 : Int, ∃ y_1 : Int, r1 = .tuple #[.int .i64 y_0, .int .i64 y_1] ∧ (((y_1 == 0) = true → K (.bool true) H1) ∧ 
    ((y_1 == 0) = false → K (.bool (y_1 == 6)) H1))) Z
def aJ110 : Ann := (fun _ => none)
def aL110 : Ann := (fun _ => none)
theorem V110_ok {H : Hp} {r : Addr} {K : Value → Hp → Prop} {Z : List PanicEntry → Hp → Prop} (h : V110 H r K Z) : CallF Try.prog 110 #[.pointer (some r)] H K Z :=
  fnC_sound (P := Try.prog) (aJ := aJ110) (aL := aL110) (f := 110) (args := [.pointer (some r)]) (Eq.mp (by kernel_rfl) h)
/-- weft/record.things[string] -/
def V77 (H : Hp) (r : Addr) (one : Value) (K : Value → Hp → Prop) (Z : List PanicEntry → Hp → Prop) : Prop :=
  ∃ x : Option Addr, hcell H r = some (.pointer x) ∧ CallF Try.prog 71 #[.pointer x] H (fun r1 H1 => 
    ∃ y : Int, r1 = .int .i64 y ∧ ∃ J : Hp → Prop, (∀ H2, J  H2 → ∀ scr : Nat → Value, ∃ I : Sl → Int → 
    Hp → Nat → Prop, (∃ m, I (⟨none, 0, 0⟩ : Sl) 0 H2 m) ∧ ∀ (l : Sl) (i : Int), ∀ H3 m1, I l i H3 m1 → 
    ∀ scr1 : Nat → Value, (((decide (i < y)) = true → CallF Try.prog 110 #[.pointer (some r)] H3 (fun r2 H4 => 
    ∃ y1 : Bool, r2 = .bool y1 ∧ ((y1 = true → callV Try.prog one [] H4 (fun r3 H5 => ∃ y2 : ByteArray, r3 = .string y2 ∧ 
    ∀ b H6, Newb H5 (.cells #[.string y2] 9) b H6 → App Try.prog #[47, 47] 47 H6 [.slice l.a l.n l.c, .slice (some ⟨b, 0, none⟩) 1 1] fun ap H7 => 
    (∃ m2, m2 < m1 ∧ I ap (w64 (i + 1)) H7 m2)) Z) ∧ (y1 = false → K (.slice l.a l.n l.c) H4))) Z) ∧ 
    ((decide (i < y)) = false → K (.slice l.a l.n l.c) H3))) ∧ (((decide (y > 6000)) = true → ∃ x1 : Option Addr, hcell H1 r = some (.pointer x1) ∧ 
    CallF Try.prog 72 #[.pointer x1, .int .i64 4] H1 (fun r4 H8 => r4 = .tuple #[] ∧ (J  H8)) Z) ∧ ((decide (y > 6000)) = false → 
    (J  H1)))) Z
def aJ77 : Ann := (fun k => if k = 4 then some [] else none)
def aL77 : Ann := (fun k => if k = 6 then some [(6, (.sc .sl)), (7, (.sc (.int .i64)))] else none)
theorem V77_ok {H : Hp} {r : Addr} {one : Value} {K : Value → Hp → Prop} {Z : List PanicEntry → Hp → Prop} (h : V77 H r one K Z) : CallF Try.prog 77 #[.pointer (some r), one] H K Z :=
  fnC_sound (P := Try.prog) (aJ := aJ77) (aL := aL77) (f := 77) (args := [.pointer (some r), one]) (Eq.mp (by kernel_rfl) h)
/-- weft/record.things[weft/api.Obj] -/
def V78 (H : Hp) (r : Addr) (one : Value) (K : Value → Hp → Prop) (Z : List PanicEntry → Hp → Prop) : Prop :=
  ∃ x : Option Addr, hcell H r = some (.pointer x) ∧ CallF Try.prog 71 #[.pointer x] H (fun r1 H1 => 
    ∃ y : Int, r1 = .int .i64 y ∧ ∃ J : Hp → Prop, (∀ H2, J  H2 → ∀ scr : Nat → Value, ∃ I : Sl → Int → 
    Hp → Nat → Prop, (∃ m, I (⟨none, 0, 0⟩ : Sl) 0 H2 m) ∧ ∀ (l : Sl) (i : Int), ∀ H3 m1, I l i H3 m1 → 
    ∀ scr1 : Nat → Value, (((decide (i < y)) = true → CallF Try.prog 110 #[.pointer (some r)] H3 (fun r2 H4 => 
    ∃ y1 : Bool, r2 = .bool y1 ∧ ((y1 = true → callV Try.prog one [] H4 (fun r3 H5 => ∃ y_a : ByteArray, ∃ y_b : ByteArray, ∃ y_c : Sl, r3 = .agg #[.string y_a, .string y_b, .slice y_c.a y_c.n y_c.c] ∧ 
    ∀ b H6, Newb H5 (.cells #[.string y_a, .string y_b, .slice y_c.a y_c.n y_c.c] 128) b H6 → App Try.prog #[84, 84] 84 H6 [.slice l.a l.n l.c, .slice (some ⟨b, 0, none⟩) 1 1] fun ap H7 => 
    (∃ m2, m2 < m1 ∧ I ap (w64 (i + 1)) H7 m2)) Z) ∧ (y1 = false → K (.slice l.a l.n l.c) H4))) Z) ∧ 
    ((decide (i < y)) = false → K (.slice l.a l.n l.c) H3))) ∧ (((decide (y > 6000)) = true → ∃ x1 : Option Addr, hcell H1 r = some (.pointer x1) ∧ 
    CallF Try.prog 72 #[.pointer x1, .int .i64 4] H1 (fun r4 H8 => r4 = .tuple #[] ∧ (J  H8)) Z) ∧ ((decide (y > 6000)) = false → 
    (J  H1)))) Z
def aJ78 : Ann := (fun k => if k = 4 then some [] else none)
def aL78 : Ann := (fun k => if k = 6 then some [(6, (.sc .sl)), (7, (.sc (.int .i64)))] else none)
theorem V78_ok {H : Hp} {r : Addr} {one : Value} {K : Value → Hp → Prop} {Z : List PanicEntry → Hp → Prop} (h : V78 H r one K Z) : CallF Try.prog 78 #[.pointer (some r), one] H K Z :=
  fnC_sound (P := Try.prog) (aJ := aJ78) (aL := aL78) (f := 78) (args := [.pointer (some r), one]) (Eq.mp (by kernel_rfl) h)
/-- weft/record.things[weft/api.Fn] -/
def V80 (H : Hp) (r : Addr) (one : Value) (K : Value → Hp → Prop) (Z : List PanicEntry → Hp → Prop) : Prop :=
  ∃ x : Option Addr, hcell H r = some (.pointer x) ∧ CallF Try.prog 71 #[.pointer x] H (fun r1 H1 => 
    ∃ y : Int, r1 = .int .i64 y ∧ ∃ J : Hp → Prop, (∀ H2, J  H2 → ∀ scr : Nat → Value, ∃ I : Sl → Int → 
    Hp → Nat → Prop, (∃ m, I (⟨none, 0, 0⟩ : Sl) 0 H2 m) ∧ ∀ (l : Sl) (i : Int), ∀ H3 m1, I l i H3 m1 → 
    ∀ scr1 : Nat → Value, (((decide (i < y)) = true → CallF Try.prog 110 #[.pointer (some r)] H3 (fun r2 H4 => 
    ∃ y1 : Bool, r2 = .bool y1 ∧ ((y1 = true → callV Try.prog one [] H4 (fun r3 H5 => ∃ y_a : ByteArray, ∃ y_b : ByteArray, ∃ y_c : ByteArray, r3 = .agg #[.string y_a, .string y_b, .string y_c] ∧ 
    ∀ b H6, Newb H5 (.cells #[.string y_a, .string y_b, .string y_c] 132) b H6 → App Try.prog #[85, 85] 85 H6 [.slice l.a l.n l.c, .slice (some ⟨b, 0, none⟩) 1 1] fun ap H7 => 
    (∃ m2, m2 < m1 ∧ I ap (w64 (i + 1)) H7 m2)) Z) ∧ (y1 = false → K (.slice l.a l.n l.c) H4))) Z) ∧ 
    ((decide (i < y)) = false → K (.slice l.a l.n l.c) H3))) ∧ (((decide (y > 6000)) = true → ∃ x1 : Option Addr, hcell H1 r = some (.pointer x1) ∧ 
    CallF Try.prog 72 #[.pointer x1, .int .i64 4] H1 (fun r4 H8 => r4 = .tuple #[] ∧ (J  H8)) Z) ∧ ((decide (y > 6000)) = false → 
    (J  H1)))) Z
def aJ80 : Ann := (fun k => if k = 4 then some [] else none)
def aL80 : Ann := (fun k => if k = 6 then some [(6, (.sc .sl)), (7, (.sc (.int .i64)))] else none)
theorem V80_ok {H : Hp} {r : Addr} {one : Value} {K : Value → Hp → Prop} {Z : List PanicEntry → Hp → Prop} (h : V80 H r one K Z) : CallF Try.prog 80 #[.pointer (some r), one] H K Z :=
  fnC_sound (P := Try.prog) (aJ := aJ80) (aL := aL80) (f := 80) (args := [.pointer (some r), one]) (Eq.mp (by kernel_rfl) h)
/-- weft/record.things[weft/api.Con] -/
def V82 (H : Hp) (r : Addr) (one : Value) (K : Value → Hp → Prop) (Z : List PanicEntry → Hp → Prop) : Prop :=
  ∃ x : Option Addr, hcell H r = some (.pointer x) ∧ CallF Try.prog 71 #[.pointer x] H (fun r1 H1 => 
    ∃ y : Int, r1 = .int .i64 y ∧ ∃ J : Hp → Prop, (∀ H2, J  H2 → ∀ scr : Nat → Value, ∃ I : Sl → Int → 
    Hp → Nat → Prop, (∃ m, I (⟨none, 0, 0⟩ : Sl) 0 H2 m) ∧ ∀ (l : Sl) (i : Int), ∀ H3 m1, I l i H3 m1 → 
    ∀ scr1 : Nat → Value, (((decide (i < y)) = true → CallF Try.prog 110 #[.pointer (some r)] H3 (fun r2 H4 => 
    ∃ y1 : Bool, r2 = .bool y1 ∧ ((y1 = true → callV Try.prog one [] H4 (fun r3 H5 => ∃ y_a : Int, ∃ y_b : ByteArray, ∃ y_c : ByteArray, ∃ y_d : Int, ∃ y_e : ByteArray, ∃ y_f : Sl, r3 = .agg #[.int .i64 y_a, .string y_b, .string y_c, .int .i64 y_d, .string y_e, .slice y_f.a y_f.n y_f.c] ∧ 
    ∀ b H6, Newb H5 (.cells #[.int .i64 y_a, .string y_b, .string y_c, .int .i64 y_d, .string y_e, .slice y_f.a y_f.n y_f.c] 136) b H6 → 
    App Try.prog #[86, 86] 86 H6 [.slice l.a l.n l.c, .slice (some ⟨b, 0, none⟩) 1 1] fun ap H7 => (∃ m2, m2 < m1 ∧ 
    I ap (w64 (i + 1)) H7 m2)) Z) ∧ (y1 = false → K (.slice l.a l.n l.c) H4))) Z) ∧ ((decide (i < y)) = false → 
    K (.slice l.a l.n l.c) H3))) ∧ (((decide (y > 6000)) = true → ∃ x1 : Option Addr, hcell H1 r = some (.pointer x1) ∧ 
    CallF Try.prog 72 #[.pointer x1, .int .i64 4] H1 (fun r4 H8 => r4 = .tuple #[] ∧ (J  H8)) Z) ∧ ((decide (y > 6000)) = false → 
    (J  H1)))) Z
def aJ82 : Ann := (fun k => if k = 4 then some [] else none)
def aL82 : Ann := (fun k => if k = 6 then some [(6, (.sc .sl)), (7, (.sc (.int .i64)))] else none)
theorem V82_ok {H : Hp} {r : Addr} {one : Value} {K : Value → Hp → Prop} {Z : List PanicEntry → Hp → Prop} (h : V82 H r one K Z) : CallF Try.prog 82 #[.pointer (some r), one] H K Z :=
  fnC_sound (P := Try.prog) (aJ := aJ82) (aL := aL82) (f := 82) (args := [.pointer (some r), one]) (Eq.mp (by kernel_rfl) h)
/-- weft/record.things[weft/api.Mark] -/
def V111 (H : Hp) (r : Addr) (one : Value) (K : Value → Hp → Prop) (Z : List PanicEntry → Hp → Prop) : Prop :=
  ∃ x : Option Addr, hcell H r = some (.pointer x) ∧ CallF Try.prog 71 #[.pointer x] H (fun r1 H1 => 
    ∃ y : Int, r1 = .int .i64 y ∧ ∃ J : Hp → Prop, (∀ H2, J  H2 → ∀ scr : Nat → Value, ∃ I : Sl → Int → 
    Hp → Nat → Prop, (∃ m, I (⟨none, 0, 0⟩ : Sl) 0 H2 m) ∧ ∀ (l : Sl) (i : Int), ∀ H3 m1, I l i H3 m1 → 
    ∀ scr1 : Nat → Value, (((decide (i < y)) = true → CallF Try.prog 110 #[.pointer (some r)] H3 (fun r2 H4 => 
    ∃ y1 : Bool, r2 = .bool y1 ∧ ((y1 = true → callV Try.prog one [] H4 (fun r3 H5 => ∃ y_a : Int, ∃ y_b : ByteArray, r3 = .agg #[.int .i64 y_a, .string y_b] ∧ 
    ∀ b H6, Newb H5 (.cells #[.int .i64 y_a, .string y_b] 174) b H6 → App Try.prog #[126, 126] 126 H6 [.slice l.a l.n l.c, .slice (some ⟨b, 0, none⟩) 1 1] fun ap H7 => 
    (∃ m2, m2 < m1 ∧ I ap (w64 (i + 1)) H7 m2)) Z) ∧ (y1 = false → K (.slice l.a l.n l.c) H4))) Z) ∧ 
    ((decide (i < y)) = false → K (.slice l.a l.n l.c) H3))) ∧ (((decide (y > 6000)) = true → ∃ x1 : Option Addr, hcell H1 r = some (.pointer x1) ∧ 
    CallF Try.prog 72 #[.pointer x1, .int .i64 4] H1 (fun r4 H8 => r4 = .tuple #[] ∧ (J  H8)) Z) ∧ ((decide (y > 6000)) = false → 
    (J  H1)))) Z
def aJ111 : Ann := (fun k => if k = 4 then some [] else none)
def aL111 : Ann := (fun k => if k = 6 then some [(6, (.sc .sl)), (7, (.sc (.int .i64)))] else none)
theorem V111_ok {H : Hp} {r : Addr} {one : Value} {K : Value → Hp → Prop} {Z : List PanicEntry → Hp → Prop} (h : V111 H r one K Z) : CallF Try.prog 111 #[.pointer (some r), one] H K Z :=
  fnC_sound (P := Try.prog) (aJ := aJ111) (aL := aL111) (f := 111) (args := [.pointer (some r), one]) (Eq.mp (by kernel_rfl) h)
/-- (*weft/record.reader).object -/
def V79 (H : Hp) (r : Addr) (K : Value → Hp → Prop) (Z : List PanicEntry → Hp → Prop) : Prop :=
  ∀ b H1, Newb H (.cells #[.string ⟨#[]⟩, .string ⟨#[]⟩, .slice none 0 0] 128) b H1 → CallF Try.prog 76 #[.pointer (some r)] H1 (fun r1 H2 => 
    ∃ y : ByteArray, r1 = .string y ∧ ∀ bO H3, Newb H2 (.cells #[.string ⟨#[]⟩, .string ⟨#[]⟩, .slice none 0 0] 128) bO H3 → 
    StL ⟨bO, 0, none⟩ 0 [.string y, .string ⟨#[]⟩, .slice none 0 0] H3 fun H4 => (CallF Try.prog 76 #[.pointer (some r)] H4 (fun r2 H5 => 
    ∃ y1 : ByteArray, r2 = .string y1 ∧ StL ⟨bO, 1, none⟩ 0 [.string y1] H5 fun H6 => (CallF Try.prog 111 #[.pointer (some r), .func (.func 112) #[.pointer (some r)] #[]] H6 (fun r3 H7 => 
    ∃ y2 : Sl, r3 = .slice y2.a y2.n y2.c ∧ StL ⟨bO, 2, none⟩ 0 [.slice y2.a y2.n y2.c] H7 fun H8 => 
    (∃ x_a : ByteArray, ∃ x_b : ByteArray, ∃ x_c : Sl, (hcell H8 ⟨bO, 0, none⟩ = some (.string x_a) ∧ 
    hcell H8 ⟨bO, 1, none⟩ = some (.string x_b) ∧ hcell H8 ⟨bO, 2, none⟩ = some (.slice x_c.a x_c.n x_c.c) ∧ 
    True) ∧ StL ⟨b, 0, none⟩ 0 [.string x_a, .string x_b, .slice x_c.a x_c.n x_c.c] H8 fun H9 => (∃ res_a : ByteArray, ∃ res_b : ByteArray, ∃ res_c : Sl, (hcell H9 ⟨b, 0, none⟩ = some (.string res_a) ∧ 
    hcell H9 ⟨b, 1, none⟩ = some (.string res_b) ∧ hcell H9 ⟨b, 2, none⟩ = some (.slice res_c.a res_c.n res_c.c) ∧ 
    True) ∧ K (.agg #[.string res_a, .string res_b, .slice res_c.a res_c.n res_c.c]) H9))) Z)) Z)) Z
def aJ79 : Ann := (fun _ => none)
def aL79 : Ann := (fun _ => none)
theorem V79_ok {H : Hp} {r : Addr} {K : Value → Hp → Prop} {Z : List PanicEntry → Hp → Prop} (h : V79 H r K Z) : CallF Try.prog 79 #[.pointer (some r)] H K Z :=
  fnC_sound (P := Try.prog) (aJ := aJ79) (aL := aL79) (f := 79) (args := [.pointer (some r)]) (Eq.mp (by kernel_rfl) h)
/-- (*weft/record.reader).function -/
def V81 (H : Hp) (r : Addr) (K : Value → Hp → Prop) (Z : List PanicEntry → Hp → Prop) : Prop :=
  ∀ b H1, Newb H (.cells #[.string ⟨#[]⟩, .string ⟨#[]⟩, .string ⟨#[]⟩] 132) b H1 → CallF Try.prog 76 #[.pointer (some r)] H1 (fun r1 H2 => 
    ∃ y : ByteArray, r1 = .string y ∧ ∀ bF H3, Newb H2 (.cells #[.string ⟨#[]⟩, .string ⟨#[]⟩, .string ⟨#[]⟩] 132) bF H3 → 
    StL ⟨bF, 0, none⟩ 0 [.string y, .string ⟨#[]⟩, .string ⟨#[]⟩] H3 fun H4 => (CallF Try.prog 76 #[.pointer (some r)] H4 (fun r2 H5 => 
    ∃ y1 : ByteArray, r2 = .string y1 ∧ StL ⟨bF, 1, none⟩ 0 [.string y1] H5 fun H6 => (CallF Try.prog 76 #[.pointer (some r)] H6 (fun r3 H7 => 
    ∃ y2 : ByteArray, r3 = .string y2 ∧ StL ⟨bF, 2, none⟩ 0 [.string y2] H7 fun H8 => (∃ x_a : ByteArray, ∃ x_b : ByteArray, ∃ x_c : ByteArray, (hcell H8 ⟨bF, 0, none⟩ = some (.string x_a) ∧ 
    hcell H8 ⟨bF, 1, none⟩ = some (.string x_b) ∧ hcell H8 ⟨bF, 2, none⟩ = some (.string x_c) ∧ True) ∧ 
    StL ⟨b, 0, none⟩ 0 [.string x_a, .string x_b, .string x_c] H8 fun H9 => (∃ res_a : ByteArray, ∃ res_b : ByteArray, ∃ res_c : ByteArray, (hcell H9 ⟨b, 0, none⟩ = some (.string res_a) ∧ 
    hcell H9 ⟨b, 1, none⟩ = some (.string res_b) ∧ hcell H9 ⟨b, 2, none⟩ = some (.string res_c) ∧ True) ∧ 
    K (.agg #[.string res_a, .string res_b, .string res_c]) H9))) Z)) Z)) Z
def aJ81 : Ann := (fun _ => none)
def aL81 : Ann := (fun _ => none)
theorem V81_ok {H : Hp} {r : Addr} {K : Value → Hp → Prop} {Z : List PanicEntry → Hp → Prop} (h : V81 H r K Z) : CallF Try.prog 81 #[.pointer (some r)] H K Z :=
  fnC_sound (P := Try.prog) (aJ := aJ81) (aL := aL81) (f := 81) (args := [.pointer (some r)]) (Eq.mp (by kernel_rfl) h)
/-- (*weft/record.reader).con -/
def V83 (H : Hp) (r : Addr) (K : Value → Hp → Prop) (Z : List PanicEntry → Hp → Prop) : Prop :=
  ∀ b H1, Newb H (.cells #[.int .i64 0, .string ⟨#[]⟩, .string ⟨#[]⟩, .int .i64 0, .string ⟨#[]⟩, .slice none 0 0] 136) b H1 → 
    ∃ x : Option Addr, hcell H1 r = some (.pointer x) ∧ CallF Try.prog 71 #[.pointer x] H1 (fun r1 H2 => 
    ∃ y : Int, r1 = .int .i64 y ∧ ∀ bC H3, Newb H2 (.cells #[.int .i64 0, .string ⟨#[]⟩, .string ⟨#[]⟩, .int .i64 0, .string ⟨#[]⟩, .slice none 0 0] 136) bC H3 → 
    StL ⟨bC, 0, none⟩ 0 [.int .i64 y, .string ⟨#[]⟩, .string ⟨#[]⟩, .int .i64 0, .string ⟨#[]⟩, .slice none 0 0] H3 fun H4 => 
    (CallF Try.prog 76 #[.pointer (some r)] H4 (fun r2 H5 => ∃ y1 : ByteArray, r2 = .string y1 ∧ StL ⟨bC, 1, none⟩ 0 [.string y1] H5 fun H6 => 
    (CallF Try.prog 76 #[.pointer (some r)] H6 (fun r3 H7 => ∃ y2 : ByteArray, r3 = .string y2 ∧ StL ⟨bC, 2, none⟩ 0 [.string y2] H7 fun H8 => 
    (∃ x1 : Option Addr, hcell H8 r = some (.pointer x1) ∧ CallF Try.prog 71 #[.pointer x1] H8 (fun r4 H9 => 
    ∃ y3 : Int, r4 = .int .i64 y3 ∧ StL ⟨bC, 3, none⟩ 0 [.int .i64 y3] H9 fun H10 => (CallF Try.prog 76 #[.pointer (some r)] H10 (fun r5 H11 => 
    ∃ y4 : ByteArray, r5 = .string y4 ∧ StL ⟨bC, 4, none⟩ 0 [.string y4] H11 fun H12 => (CallF Try.prog 77 #[.pointer (some r), .func (.func 76) #[.pointer (some r)] #[]] H12 (fun r6 H13 => 
    ∃ y5 : Sl, r6 = .slice y5.a y5.n y5.c ∧ StL ⟨bC, 5, none⟩ 0 [.slice y5.a y5.n y5.c] H13 fun H14 => 
    (∃ x_a : Int, ∃ x_b : ByteArray, ∃ x_c : ByteArray, ∃ x_d : Int, ∃ x_e : ByteArray, ∃ x_f : Sl, (hcell H14 ⟨bC, 0, none⟩ = some (.int .i64 x_a) ∧ 
    hcell H14 ⟨bC, 1, none⟩ = some (.string x_b) ∧ hcell H14 ⟨bC, 2, none⟩ = some (.string x_c) ∧ hcell H14 ⟨bC, 3, none⟩ = some (.int .i64 x_d) ∧ 
    hcell H14 ⟨bC, 4, none⟩ = some (.string x_e) ∧ hcell H14 ⟨bC, 5, none⟩ = some (.slice x_f.a x_f.n x_f.c) ∧ 
    True) ∧ StL ⟨b, 0, none⟩ 0 [.int .i64 x_a, .string x_b, .string x_c, .int .i64 x_d, .string x_e, .slice x_f.a x_f.n x_f.c] H14 fun H15 => 
    (∃ res_a : Int, ∃ res_b : ByteArray, ∃ res_c : ByteArray, ∃ res_d : Int, ∃ res_e : ByteArray, ∃ res_f : Sl, (hcell H15 ⟨b, 0, none⟩ = some (.int .i64 res_a) ∧ 
    hcell H15 ⟨b, 1, none⟩ = some (.string res_b) ∧ hcell H15 ⟨b, 2, none⟩ = some (.string res_c) ∧ hcell H15 ⟨b, 3, none⟩ = some (.int .i64 res_d) ∧ 
    hcell H15 ⟨b, 4, none⟩ = some (.string res_e) ∧ hcell H15 ⟨b, 5, none⟩ = some (.slice res_f.a res_f.n res_f.c) ∧ 
    True) ∧ K (.agg #[.int .i64 res_a, .string res_b, .string res_c, .int .i64 res_d, .string res_e, .slice res_f.a res_f.n res_f.c]) H15))) Z)) Z)) Z)) Z)) Z)) Z
def aJ83 : Ann := (fun _ => none)
def aL83 : Ann := (fun _ => none)
theorem V83_ok {H : Hp} {r : Addr} {K : Value → Hp → Prop} {Z : List PanicEntry → Hp → Prop} (h : V83 H r K Z) : CallF Try.prog 83 #[.pointer (some r)] H K Z :=
  fnC_sound (P := Try.prog) (aJ := aJ83) (aL := aL83) (f := 83) (args := [.pointer (some r)]) (Eq.mp (by kernel_rfl) h)
/-- (*weft/record.reader).mark -/
def V112 (H : Hp) (r : Addr) (K : Value → Hp → Prop) (Z : List PanicEntry → Hp → Prop) : Prop :=
  ∀ b H1, Newb H (.cells #[.int .i64 0, .string ⟨#[]⟩] 174) b H1 → ∃ x : Option Addr, hcell H1 r = some (.pointer x) ∧ 
    CallF Try.prog 71 #[.pointer x] H1 (fun r1 H2 => ∃ y : Int, r1 = .int .i64 y ∧ CallF Try.prog 76 #[.pointer (some r)] H2 (fun r2 H3 => 
    ∃ y1 : ByteArray, r2 = .string y1 ∧ StL ⟨b, 0, none⟩ 0 [.int .i64 y, .string y1] H3 fun H4 => (∃ res_a : Int, ∃ res_b : ByteArray, (hcell H4 ⟨b, 0, none⟩ = some (.int .i64 res_a) ∧ 
    hcell H4 ⟨b, 1, none⟩ = some (.string res_b) ∧ True) ∧ K (.agg #[.int .i64 res_a, .string res_b]) H4)) Z) Z
def aJ112 : Ann := (fun _ => none)
def aL112 : Ann := (fun _ => none)
theorem V112_ok {H : Hp} {r : Addr} {K : Value → Hp → Prop} {Z : List PanicEntry → Hp → Prop} (h : V112 H r K Z) : CallF Try.prog 112 #[.pointer (some r)] H K Z :=
  fnC_sound (P := Try.prog) (aJ := aJ112) (aL := aL112) (f := 112) (args := [.pointer (some r)]) (Eq.mp (by kernel_rfl) h)
/-- (*weft/record.writer).summary -/
def V95 (H : Hp) (w : Addr) (s_a : ByteArray) (s_b : Sl) (s_c : Sl) (s_d : Sl) (s_e : Sl) (s_f : Sl) (s_g : Sl) (K : Value → Hp → Prop) (Z : List PanicEntry → Hp → Prop) : Prop :=
  ∀ bW H1, Newb H (.cells #[.pointer (some w)] 150) bW H1 → ∀ bS H2, Newb H1 (.cells #[.string s_a, .slice s_b.a s_b.n s_b.c, .slice s_c.a s_c.n s_c.c, .slice s_d.a s_d.n s_d.c, .slice s_e.a s_e.n s_e.c, .slice s_f.a s_f.n s_f.c, .slice s_g.a s_g.n s_g.c] 90) bS H2 → 
    ∃ x : Option Addr, hcell H2 ⟨bW, 0, none⟩ = some (.pointer x) ∧ ∃ x1 : ByteArray, hcell H2 ⟨bS, 0, none⟩ = some (.string x1) ∧ 
    CallF Try.prog 120 #[.pointer x, .string x1] H2 (fun r H3 => r = .tuple #[] ∧ ∃ x2 : Option Addr, hcell H3 ⟨bW, 0, none⟩ = some (.pointer x2) ∧ 
    ∃ x3 : Sl, hcell H3 ⟨bS, 1, none⟩ = some (.slice x3.a x3.n x3.c) ∧ ∃ x4 : Option Addr, hcell H3 ⟨bW, 0, none⟩ = some (.pointer x4) ∧ 
    CallF Try.prog 121 #[.pointer x2, .slice x3.a x3.n x3.c, .func (.func 120) #[.pointer x4] #[]] H3 (fun r1 H4 => 
    r1 = .tuple #[] ∧ ∃ x5 : Option Addr, hcell H4 ⟨bW, 0, none⟩ = some (.pointer x5) ∧ ∃ x6 : Sl, hcell H4 ⟨bS, 2, none⟩ = some (.slice x6.a x6.n x6.c) ∧ 
    ∃ x7 : Option Addr, hcell H4 ⟨bW, 0, none⟩ = some (.pointer x7) ∧ CallF Try.prog 121 #[.pointer x5, .slice x6.a x6.n x6.c, .func (.func 120) #[.pointer x7] #[]] H4 (fun r2 H5 => 
    r2 = .tuple #[] ∧ ∃ x8 : Option Addr, hcell H5 ⟨bW, 0, none⟩ = some (.pointer x8) ∧ ∃ x9 : Sl, hcell H5 ⟨bS, 3, none⟩ = some (.slice x9.a x9.n x9.c) ∧ 
    ∃ x10 : Option Addr, hcell H5 ⟨bW, 0, none⟩ = some (.pointer x10) ∧ CallF Try.prog 121 #[.pointer x8, .slice x9.a x9.n x9.c, .func (.func 120) #[.pointer x10] #[]] H5 (fun r3 H6 => 
    r3 = .tuple #[] ∧ ∃ x11 : Option Addr, hcell H6 ⟨bW, 0, none⟩ = some (.pointer x11) ∧ ∃ x12 : Sl, hcell H6 ⟨bS, 4, none⟩ = some (.slice x12.a x12.n x12.c) ∧ 
    CallF Try.prog 122 #[.pointer x11, .slice x12.a x12.n x12.c, .func (.func 123) #[] #[.pointer (some ⟨bW, 0, none⟩)]] H6 (fun r4 H7 => 
    r4 = .tuple #[] ∧ ∃ x13 : Option Addr, hcell H7 ⟨bW, 0, none⟩ = some (.pointer x13) ∧ ∃ x14 : Sl, hcell H7 ⟨bS, 5, none⟩ = some (.slice x14.a x14.n x14.c) ∧ 
    CallF Try.prog 127 #[.pointer x13, .slice x14.a x14.n x14.c, .func (.func 128) #[] #[.pointer (some ⟨bW, 0, none⟩)]] H7 (fun r5 H8 => 
    r5 = .tuple #[] ∧ ∃ x15 : Option Addr, hcell H8 ⟨bW, 0, none⟩ = some (.pointer x15) ∧ ∃ x16 : Sl, hcell H8 ⟨bS, 6, none⟩ = some (.slice x16.a x16.n x16.c) ∧ 
    CallF Try.prog 129 #[.pointer x15, .slice x16.a x16.n x16.c, .func (.func 130) #[] #[.pointer (some ⟨bW, 0, none⟩)]] H8 (fun r6 H9 => 
    r6 = .tuple #[] ∧ K (.tuple #[]) H9) Z) Z) Z) Z) Z) Z) Z
def aJ95 : Ann := (fun _ => none)
def aL95 : Ann := (fun _ => none)
theorem V95_ok {H : Hp} {w : Addr} {s_a : ByteArray} {s_b : Sl} {s_c : Sl} {s_d : Sl} {s_e : Sl} {s_f : Sl} {s_g : Sl} {K : Value → Hp → Prop} {Z : List PanicEntry → Hp → Prop} (h : V95 H w s_a s_b s_c s_d s_e s_f s_g K Z) : CallF Try.prog 95 #[.pointer (some w), .agg #[.string s_a, .slice s_b.a s_b.n s_b.c, .slice s_c.a s_c.n s_c.c, .slice s_d.a s_d.n s_d.c, .slice s_e.a s_e.n s_e.c, .slice s_f.a s_f.n s_f.c, .slice s_g.a s_g.n s_g.c]] H K Z :=
  fnC_sound (P := Try.prog) (aJ := aJ95) (aL := aL95) (f := 95) (args := [.pointer (some w), .agg #[.string s_a, .slice s_b.a s_b.n s_b.c, .slice s_c.a s_c.n s_c.c, .slice s_d.a s_d.n s_d.c, .slice s_e.a s_e.n s_e.c, .slice s_f.a s_f.n s_f.c, .slice s_g.a s_g.n s_g.c]]) (Eq.mp (by kernel_rfl) h)
/-- (*weft/record.writer).summary$1 -/
def V123 (H : Hp) (o_a : ByteArray) (o_b : ByteArray) (o_c : Sl) (cap0 : Addr) (K : Value → Hp → Prop) (Z : List PanicEntry → Hp → Prop) : Prop :=
  ∀ bO H1, Newb H (.cells #[.string o_a, .string o_b, .slice o_c.a o_c.n o_c.c] 128) bO H1 → ∃ x : Option Addr, hcell H1 cap0 = some (.pointer x) ∧ 
    ∃ x1 : ByteArray, hcell H1 ⟨bO, 0, none⟩ = some (.string x1) ∧ CallF Try.prog 120 #[.pointer x, .string x1] H1 (fun r H2 => 
    r = .tuple #[] ∧ ∃ x2 : Option Addr, hcell H2 cap0 = some (.pointer x2) ∧ ∃ x3 : ByteArray, hcell H2 ⟨bO, 1, none⟩ = some (.string x3) ∧ 
    CallF Try.prog 120 #[.pointer x2, .string x3] H2 (fun r1 H3 => r1 = .tuple #[] ∧ ∃ x4 : Option Addr, hcell H3 cap0 = some (.pointer x4) ∧ 
    ∃ x5 : Sl, hcell H3 ⟨bO, 2, none⟩ = some (.slice x5.a x5.n x5.c) ∧ CallF Try.prog 124 #[.pointer x4, .slice x5.a x5.n x5.c, .func (.func 125) #[] #[.pointer (some cap0)]] H3 (fun r2 H4 => 
    r2 = .tuple #[] ∧ K (.tuple #[]) H4) Z) Z) Z
def aJ123 : Ann := (fun _ => none)
def aL123 : Ann := (fun _ => none)
theorem V123_ok {H : Hp} {o_a : ByteArray} {o_b : ByteArray} {o_c : Sl} {cap0 : Addr} {K : Value → Hp → Prop} {Z : List PanicEntry → Hp → Prop} (h : V123 H o_a o_b o_c cap0 K Z) : CallF Try.prog 123 #[.agg #[.string o_a, .string o_b, .slice o_c.a o_c.n o_c.c], .pointer (some cap0)] H K Z :=
  fnC_sound (P := Try.prog) (aJ := aJ123) (aL := aL123) (f := 123) (args := [.agg #[.string o_a, .string o_b, .slice o_c.a o_c.n o_c.c], .pointer (some cap0)]) (Eq.mp (by kernel_rfl) h)
/-- (*weft/record.writer).summary$1$1 -/
def V125 (H : Hp) (m_a : Int) (m_b : ByteArray) (cap0 : Addr) (K : Value → Hp → Prop) (Z : List PanicEntry → Hp → Prop) : Prop :=
  ∀ bM H1, Newb H (.cells #[.int .i64 m_a, .string m_b] 174) bM H1 → ∃ x : Option Addr, hcell H1 cap0 = some (.pointer x) ∧ 
    ∃ x1 : Int, hcell H1 ⟨bM, 0, none⟩ = some (.int .i64 x1) ∧ CallF Try.prog 126 #[.pointer x, .int .i64 x1] H1 (fun r H2 => 
    r = .tuple #[] ∧ ∃ x2 : Option Addr, hcell H2 cap0 = some (.pointer x2) ∧ ∃ x3 : ByteArray, hcell H2 ⟨bM, 1, none⟩ = some (.string x3) ∧ 
    CallF Try.prog 120 #[.pointer x2, .string x3] H2 (fun r1 H3 => r1 = .tuple #[] ∧ K (.tuple #[]) H3) Z) Z
def aJ125 : Ann := (fun _ => none)
def aL125 : Ann := (fun _ => none)
theorem V125_ok {H : Hp} {m_a : Int} {m_b : ByteArray} {cap0 : Addr} {K : Value → Hp → Prop} {Z : List PanicEntry → Hp → Prop} (h : V125 H m_a m_b cap0 K Z) : CallF Try.prog 125 #[.agg #[.int .i64 m_a, .string m_b], .pointer (some cap0)] H K Z :=
  fnC_sound (P := Try.prog) (aJ := aJ125) (aL := aL125) (f := 125) (args := [.agg #[.int .i64 m_a, .string m_b], .pointer (some cap0)]) (Eq.mp (by kernel_rfl) h)
/-- (*weft/record.writer).summary$2 -/
def V128 (H : Hp) (f_a : ByteArray) (f_b : ByteArray) (f_c : ByteArray) (cap0 : Addr) (K : Value → Hp → Prop) (Z : List PanicEntry → Hp → Prop) : Prop :=
  ∀ bF H1, Newb H (.cells #[.string f_a, .string f_b, .string f_c] 132) bF H1 → ∃ x : Option Addr, hcell H1 cap0 = some (.pointer x) ∧ 
    ∃ x1 : ByteArray, hcell H1 ⟨bF, 0, none⟩ = some (.string x1) ∧ CallF Try.prog 120 #[.pointer x, .string x1] H1 (fun r H2 => 
    r = .tuple #[] ∧ ∃ x2 : Option Addr, hcell H2 cap0 = some (.pointer x2) ∧ ∃ x3 : ByteArray, hcell H2 ⟨bF, 1, none⟩ = some (.string x3) ∧ 
    CallF Try.prog 120 #[.pointer x2, .string x3] H2 (fun r1 H3 => r1 = .tuple #[] ∧ ∃ x4 : Option Addr, hcell H3 cap0 = some (.pointer x4) ∧ 
    ∃ x5 : ByteArray, hcell H3 ⟨bF, 2, none⟩ = some (.string x5) ∧ CallF Try.prog 120 #[.pointer x4, .string x5] H3 (fun r2 H4 => 
    r2 = .tuple #[] ∧ K (.tuple #[]) H4) Z) Z) Z
def aJ128 : Ann := (fun _ => none)
def aL128 : Ann := (fun _ => none)
theorem V128_ok {H : Hp} {f_a : ByteArray} {f_b : ByteArray} {f_c : ByteArray} {cap0 : Addr} {K : Value → Hp → Prop} {Z : List PanicEntry → Hp → Prop} (h : V128 H f_a f_b f_c cap0 K Z) : CallF Try.prog 128 #[.agg #[.string f_a, .string f_b, .string f_c], .pointer (some cap0)] H K Z :=
  fnC_sound (P := Try.prog) (aJ := aJ128) (aL := aL128) (f := 128) (args := [.agg #[.string f_a, .string f_b, .string f_c], .pointer (some cap0)]) (Eq.mp (by kernel_rfl) h)
/-- (*weft/record.writer).summary$3 -/
def V130 (H : Hp) (c_a : Int) (c_b : ByteArray) (c_c : ByteArray) (c_d : Int) (c_e : ByteArray) (c_f : Sl) (cap0 : Addr) (K : Value → Hp → Prop) (Z : List PanicEntry → Hp → Prop) : Prop :=
  ∀ bC H1, Newb H (.cells #[.int .i64 c_a, .string c_b, .string c_c, .int .i64 c_d, .string c_e, .slice c_f.a c_f.n c_f.c] 136) bC H1 → 
    ∃ x : Option Addr, hcell H1 cap0 = some (.pointer x) ∧ ∃ x1 : Int, hcell H1 ⟨bC, 0, none⟩ = some (.int .i64 x1) ∧ 
    CallF Try.prog 126 #[.pointer x, .int .i64 x1] H1 (fun r H2 => r = .tuple #[] ∧ ∃ x2 : Option Addr, hcell H2 cap0 = some (.pointer x2) ∧ 
    ∃ x3 : ByteArray, hcell H2 ⟨bC, 1, none⟩ = some (.string x3) ∧ CallF Try.prog 120 #[.pointer x2, .string x3] H2 (fun r1 H3 => 
    r1 = .tuple #[] ∧ ∃ x4 : Option Addr, hcell H3 cap0 = some (.pointer x4) ∧ ∃ x5 : ByteArray, hcell H3 ⟨bC, 2, none⟩ = some (.string x5) ∧ 
    CallF Try.prog 120 #[.pointer x4, .string x5] H3 (fun r2 H4 => r2 = .tuple #[] ∧ ∃ x6 : Option Addr, hcell H4 cap0 = some (.pointer x6) ∧ 
    ∃ x7 : Int, hcell H4 ⟨bC, 3, none⟩ = some (.int .i64 x7) ∧ CallF Try.prog 126 #[.pointer x6, .int .i64 x7] H4 (fun r3 H5 => 
    r3 = .tuple #[] ∧ ∃ x8 : Option Addr, hcell H5 cap0 = some (.pointer x8) ∧ ∃ x9 : ByteArray, hcell H5 ⟨bC, 4, none⟩ = some (.string x9) ∧ 
    CallF Try.prog 120 #[.pointer x8, .string x9] H5 (fun r4 H6 => r4 = .tuple #[] ∧ ∃ x10 : Option Addr, hcell H6 cap0 = some (.pointer x10) ∧ 
    ∃ x11 : Sl, hcell H6 ⟨bC, 5, none⟩ = some (.slice x11.a x11.n x11.c) ∧ ∃ x12 : Option Addr, hcell H6 cap0 = some (.pointer x12) ∧ 
    CallF Try.prog 121 #[.pointer x10, .slice x11.a x11.n x11.c, .func (.func 120) #[.pointer x12] #[]] H6 (fun r5 H7 => 
    r5 = .tuple #[] ∧ K (.tuple #[]) H7) Z) Z) Z) Z) Z) Z
def aJ130 : Ann := (fun _ => none)
def aL130 : Ann := (fun _ => none)
theorem V130_ok {H : Hp} {c_a : Int} {c_b : ByteArray} {c_c : ByteArray} {c_d : Int} {c_e : ByteArray} {c_f : Sl} {cap0 : Addr} {K : Value → Hp → Prop} {Z : List PanicEntry → Hp → Prop} (h : V130 H c_a c_b c_c c_d c_e c_f cap0 K Z) : CallF Try.prog 130 #[.agg #[.int .i64 c_a, .string c_b, .string c_c, .int .i64 c_d, .string c_e, .slice c_f.a c_f.n c_f.c], .pointer (some cap0)] H K Z :=
  fnC_sound (P := Try.prog) (aJ := aJ130) (aL := aL130) (f := 130) (args := [.agg #[.int .i64 c_a, .string c_b, .string c_c, .int .i64 c_d, .string c_e, .slice c_f.a c_f.n c_f.c], .pointer (some cap0)]) (Eq.mp (by kernel_rfl) h)
/-- (*weft/record.writer).text -/
def V120 (H : Hp) (w : Addr) (s : ByteArray) (K : Value → Hp → Prop) (Z : List PanicEntry → Hp → Prop) : Prop :=
  ∃ x : Value, hcell H (Addr.add w 4) = some (x) ∧ callV Try.prog x [.string s] H (fun r H1 => r = .tuple #[] ∧ 
    ∃ x1 : Option Addr, hcell H1 (Addr.add w 3) = some (.pointer x1) ∧ CallF Try.prog 30 #[.pointer x1, .string s] H1 (fun r1 H2 => 
    ∃ y_0 : Int, ∃ y_1 : Bool, r1 = .tuple #[.int .i64 y_0, .bool y_1] ∧ (((!y_1) = true → CallF Try.prog 146 #[.pointer (some w), .int .i64 7] H2 (fun r2 H3 => 
    r2 = .tuple #[] ∧ CallF Try.prog 126 #[.pointer (some w), .int .i64 y_0] H3 (fun r3 H4 => r3 = .tuple #[] ∧ 
    K (.tuple #[]) H4) Z) Z) ∧ ((!y_1) = false → CallF Try.prog 126 #[.pointer (some w), .int .i64 y_0] H2 (fun r4 H5 => 
    r4 = .tuple #[] ∧ K (.tuple #[]) H5) Z))) Z) Z
def aJ120 : Ann := (fun _ => none)
def aL120 : Ann := (fun _ => none)
theorem V120_ok {H : Hp} {w : Addr} {s : ByteArray} {K : Value → Hp → Prop} {Z : List PanicEntry → Hp → Prop} (h : V120 H w s K Z) : CallF Try.prog 120 #[.pointer (some w), .string s] H K Z :=
  fnC_sound (P := Try.prog) (aJ := aJ120) (aL := aL120) (f := 120) (args := [.pointer (some w), .string s]) (Eq.mp (by kernel_rfl) h)
/-- (*weft/record.writer).number -/
def V126 (H : Hp) (w : Addr) (n : Int) (K : Value → Hp → Prop) (Z : List PanicEntry → Hp → Prop) : Prop :=
  (((decide (n < 0)) = true → CallF Try.prog 146 #[.pointer (some w), .int .i64 2] H (fun r H1 => r = .tuple #[] ∧ 
    K (.tuple #[]) H1) Z) ∧ ((decide (n < 0)) = false → (((decide (n > 268435456)) = true → CallF Try.prog 146 #[.pointer (some w), .int .i64 2] H (fun r1 H2 => 
    r1 = .tuple #[] ∧ K (.tuple #[]) H2) Z) ∧ ((decide (n > 268435456)) = false → CallF Try.prog 64 #[.pointer (some w), .int .i64 n] H (fun r2 H3 => 
    r2 = .tuple #[] ∧ K (.tuple #[]) H3) Z))))
def aJ126 : Ann := (fun _ => none)
def aL126 : Ann := (fun _ => none)
theorem V126_ok {H : Hp} {w : Addr} {n : Int} {K : Value → Hp → Prop} {Z : List PanicEntry → Hp → Prop} (h : V126 H w n K Z) : CallF Try.prog 126 #[.pointer (some w), .int .i64 n] H K Z :=
  fnC_sound (P := Try.prog) (aJ := aJ126) (aL := aL126) (f := 126) (args := [.pointer (some w), .int .i64 n]) (Eq.mp (by kernel_rfl) h)
/-- (*weft/record.writer).fail -/
def V146 (H : Hp) (w : Addr) (e : Int) (K : Value → Hp → Prop) (Z : List PanicEntry → Hp → Prop) : Prop :=
  ∃ x : Int, hcell H (Addr.add w 5) = some (.int .i64 x) ∧ (((x == 0) = true → StL (Addr.add w 5) 0 [.int .i64 e] H fun H1 => 
    (K (.tuple #[]) H1)) ∧ ((x == 0) = false → K (.tuple #[]) H))
def aJ146 : Ann := (fun _ => none)
def aL146 : Ann := (fun _ => none)
theorem V146_ok {H : Hp} {w : Addr} {e : Int} {K : Value → Hp → Prop} {Z : List PanicEntry → Hp → Prop} (h : V146 H w e K Z) : CallF Try.prog 146 #[.pointer (some w), .int .i64 e] H K Z :=
  fnC_sound (P := Try.prog) (aJ := aJ146) (aL := aL146) (f := 146) (args := [.pointer (some w), .int .i64 e]) (Eq.mp (by kernel_rfl) h)
/-- weft/record.list[string] -/
def V121 (H : Hp) (w : Addr) (l : Sl) (one : Value) (K : Value → Hp → Prop) (Z : List PanicEntry → Hp → Prop) : Prop :=
  CallF Try.prog 126 #[.pointer (some w), .int .i64 (l.n : Int)] H (fun r H1 => r = .tuple #[] ∧ ∃ I : Int → 
    Hp → Nat → Prop, (∃ m, I 0 H1 m) ∧ ∀ (t14 : Int), ∀ H2 m1, I t14 H2 m1 → ∀ scr : Nat → Value, (((decide (t14 < (l.n : Int))) = true → 
    IxA l.a l.n t14 1 fun ad => (∃ x : ByteArray, hcell H2 ad = some (.string x) ∧ callV Try.prog one [.string x] H2 (fun r1 H3 => 
    r1 = .tuple #[] ∧ (∃ m2, m2 < m1 ∧ I (w64 (t14 + 1)) H3 m2)) Z)) ∧ ((decide (t14 < (l.n : Int))) = false → 
    K (.tuple #[]) H2))) Z
def aJ121 : Ann := (fun _ => none)
def aL121 : Ann := (fun k => if k = 2 then some [(14, (.sc (.int .i64)))] else none)
theorem V121_ok {H : Hp} {w : Addr} {l : Sl} {one : Value} {K : Value → Hp → Prop} {Z : List PanicEntry → Hp → Prop} (h : V121 H w l one K Z) : CallF Try.prog 121 #[.pointer (some w), .slice l.a l.n l.c, one] H K Z :=
  fnC_sound (P := Try.prog) (aJ := aJ121) (aL := aL121) (f := 121) (args := [.pointer (some w), .slice l.a l.n l.c, one]) (Eq.mp (by kernel_rfl) h)
/-- weft/record.list[weft/api.Obj] -/
def V122 (H : Hp) (w : Addr) (l : Sl) (one : Value) (K : Value → Hp → Prop) (Z : List PanicEntry → Hp → Prop) : Prop :=
  CallF Try.prog 126 #[.pointer (some w), .int .i64 (l.n : Int)] H (fun r H1 => r = .tuple #[] ∧ ∃ I : Int → 
    Hp → Nat → Prop, (∃ m, I 0 H1 m) ∧ ∀ (t14 : Int), ∀ H2 m1, I t14 H2 m1 → ∀ scr : Nat → Value, (((decide (t14 < (l.n : Int))) = true → 
    IxA l.a l.n t14 3 fun ad => (∃ x_a : ByteArray, ∃ x_b : ByteArray, ∃ x_c : Sl, (hcell H2 ad = some (.string x_a) ∧ 
    hcell H2 (Addr.add ad 1) = some (.string x_b) ∧ hcell H2 (Addr.add ad 2) = some (.slice x_c.a x_c.n x_c.c) ∧ 
    True) ∧ ∀ bX H3, Newb H2 (.cells #[.string ⟨#[]⟩, .string ⟨#[]⟩, .slice none 0 0] 128) bX H3 → StL ⟨bX, 0, none⟩ 0 [.string x_a, .string x_b, .slice x_c.a x_c.n x_c.c] H3 fun H4 => 
    (∃ x_a1 : ByteArray, ∃ x_b1 : ByteArray, ∃ x_c1 : Sl, (hcell H4 ⟨bX, 0, none⟩ = some (.string x_a1) ∧ 
    hcell H4 ⟨bX, 1, none⟩ = some (.string x_b1) ∧ hcell H4 ⟨bX, 2, none⟩ = some (.slice x_c1.a x_c1.n x_c1.c) ∧ 
    True) ∧ callV Try.prog one [.agg #[.string x_a1, .string x_b1, .slice x_c1.a x_c1.n x_c1.c]] H4 (fun r1 H5 => 
    r1 = .tuple #[] ∧ (∃ m2, m2 < m1 ∧ I (w64 (t14 + 1)) H5 m2)) Z))) ∧ ((decide (t14 < (l.n : Int))) = false → 
    K (.tuple #[]) H2))) Z
def aJ122 : Ann := (fun _ => none)
def aL122 : Ann := (fun k => if k = 2 then some [(14, (.sc (.int .i64)))] else none)
theorem V122_ok {H : Hp} {w : Addr} {l : Sl} {one : Value} {K : Value → Hp → Prop} {Z : List PanicEntry → Hp → Prop} (h : V122 H w l one K Z) : CallF Try.prog 122 #[.pointer (some w), .slice l.a l.n l.c, one] H K Z :=
  fnC_sound (P := Try.prog) (aJ := aJ122) (aL := aL122) (f := 122) (args := [.pointer (some w), .slice l.a l.n l.c, one]) (Eq.mp (by kernel_rfl) h)
/-- weft/record.list[weft/api.Mark] -/
def V124 (H : Hp) (w : Addr) (l : Sl) (one : Value) (K : Value → Hp → Prop) (Z : List PanicEntry → Hp → Prop) : Prop :=
  CallF Try.prog 126 #[.pointer (some w), .int .i64 (l.n : Int)] H (fun r H1 => r = .tuple #[] ∧ ∃ I : Int → 
    Hp → Nat → Prop, (∃ m, I 0 H1 m) ∧ ∀ (t14 : Int), ∀ H2 m1, I t14 H2 m1 → ∀ scr : Nat → Value, (((decide (t14 < (l.n : Int))) = true → 
    IxA l.a l.n t14 2 fun ad => (∃ x_a : Int, ∃ x_b : ByteArray, (hcell H2 ad = some (.int .i64 x_a) ∧ 
    hcell H2 (Addr.add ad 1) = some (.string x_b) ∧ True) ∧ ∀ bX H3, Newb H2 (.cells #[.int .i64 0, .string ⟨#[]⟩] 174) bX H3 → 
    StL ⟨bX, 0, none⟩ 0 [.int .i64 x_a, .string x_b] H3 fun H4 => (∃ x_a1 : Int, ∃ x_b1 : ByteArray, (hcell H4 ⟨bX, 0, none⟩ = some (.int .i64 x_a1) ∧ 
    hcell H4 ⟨bX, 1, none⟩ = some (.string x_b1) ∧ True) ∧ callV Try.prog one [.agg #[.int .i64 x_a1, .string x_b1]] H4 (fun r1 H5 => 
    r1 = .tuple #[] ∧ (∃ m2, m2 < m1 ∧ I (w64 (t14 + 1)) H5 m2)) Z))) ∧ ((decide (t14 < (l.n : Int))) = false → 
    K (.tuple #[]) H2))) Z
def aJ124 : Ann := (fun _ => none)
def aL124 : Ann := (fun k => if k = 2 then some [(14, (.sc (.int .i64)))] else none)
theorem V124_ok {H : Hp} {w : Addr} {l : Sl} {one : Value} {K : Value → Hp → Prop} {Z : List PanicEntry → Hp → Prop} (h : V124 H w l one K Z) : CallF Try.prog 124 #[.pointer (some w), .slice l.a l.n l.c, one] H K Z :=
  fnC_sound (P := Try.prog) (aJ := aJ124) (aL := aL124) (f := 124) (args := [.pointer (some w), .slice l.a l.n l.c, one]) (Eq.mp (by kernel_rfl) h)
/-- weft/record.list[weft/api.Fn] -/
def V127 (H : Hp) (w : Addr) (l : Sl) (one : Value) (K : Value → Hp → Prop) (Z : List PanicEntry → Hp → Prop) : Prop :=
  CallF Try.prog 126 #[.pointer (some w), .int .i64 (l.n : Int)] H (fun r H1 => r = .tuple #[] ∧ ∃ I : Int → 
    Hp → Nat → Prop, (∃ m, I 0 H1 m) ∧ ∀ (t14 : Int), ∀ H2 m1, I t14 H2 m1 → ∀ scr : Nat → Value, (((decide (t14 < (l.n : Int))) = true → 
    IxA l.a l.n t14 3 fun ad => (∃ x_a : ByteArray, ∃ x_b : ByteArray, ∃ x_c : ByteArray, (hcell H2 ad = some (.string x_a) ∧ 
    hcell H2 (Addr.add ad 1) = some (.string x_b) ∧ hcell H2 (Addr.add ad 2) = some (.string x_c) ∧ True) ∧ 
    ∀ bX H3, Newb H2 (.cells #[.string ⟨#[]⟩, .string ⟨#[]⟩, .string ⟨#[]⟩] 132) bX H3 → StL ⟨bX, 0, none⟩ 0 [.string x_a, .string x_b, .string x_c] H3 fun H4 => 
    (∃ x_a1 : ByteArray, ∃ x_b1 : ByteArray, ∃ x_c1 : ByteArray, (hcell H4 ⟨bX, 0, none⟩ = some (.string x_a1) ∧ 
    hcell H4 ⟨bX, 1, none⟩ = some (.string x_b1) ∧ hcell H4 ⟨bX, 2, none⟩ = some (.string x_c1) ∧ True) ∧ 
    callV Try.prog one [.agg #[.string x_a1, .string x_b1, .string x_c1]] H4 (fun r1 H5 => r1 = .tuple #[] ∧ 
    (∃ m2, m2 < m1 ∧ I (w64 (t14 + 1)) H5 m2)) Z))) ∧ ((decide (t14 < (l.n : Int))) = false → K (.tuple #[]) H2))) Z
def aJ127 : Ann := (fun _ => none)
def aL127 : Ann := (fun k => if k = 2 then some [(14, (.sc (.int .i64)))] else none)
theorem V127_ok {H : Hp} {w : Addr} {l : Sl} {one : Value} {K : Value → Hp → Prop} {Z : List PanicEntry → Hp → Prop} (h : V127 H w l one K Z) : CallF Try.prog 127 #[.pointer (some w), .slice l.a l.n l.c, one] H K Z :=
  fnC_sound (P := Try.prog) (aJ := aJ127) (aL := aL127) (f := 127) (args := [.pointer (some w), .slice l.a l.n l.c, one]) (Eq.mp (by kernel_rfl) h)
/-- weft/record.list[weft/api.Con] -/
def V129 (H : Hp) (w : Addr) (l : Sl) (one : Value) (K : Value → Hp → Prop) (Z : List PanicEntry → Hp → Prop) : Prop :=
  CallF Try.prog 126 #[.pointer (some w), .int .i64 (l.n : Int)] H (fun r H1 => r = .tuple #[] ∧ ∃ I : Int → 
    Hp → Nat → Prop, (∃ m, I 0 H1 m) ∧ ∀ (t14 : Int), ∀ H2 m1, I t14 H2 m1 → ∀ scr : Nat → Value, (((decide (t14 < (l.n : Int))) = true → 
    IxA l.a l.n t14 6 fun ad => (∃ x_a : Int, ∃ x_b : ByteArray, ∃ x_c : ByteArray, ∃ x_d : Int, ∃ x_e : ByteArray, ∃ x_f : Sl, (hcell H2 ad = some (.int .i64 x_a) ∧ 
    hcell H2 (Addr.add ad 1) = some (.string x_b) ∧ hcell H2 (Addr.add ad 2) = some (.string x_c) ∧ hcell H2 (Addr.add ad 3) = some (.int .i64 x_d) ∧ 
    hcell H2 (Addr.add ad 4) = some (.string x_e) ∧ hcell H2 (Addr.add ad 5) = some (.slice x_f.a x_f.n x_f.c) ∧ 
    True) ∧ ∀ bX H3, Newb H2 (.cells #[.int .i64 0, .string ⟨#[]⟩, .string ⟨#[]⟩, .int .i64 0, .string ⟨#[]⟩, .slice none 0 0] 136) bX H3 → 
    StL ⟨bX, 0, none⟩ 0 [.int .i64 x_a, .string x_b, .string x_c, .int .i64 x_d, .string x_e, .slice x_f.a x_f.n x_f.c] H3 fun H4 => 
    (∃ x_a1 : Int, ∃ x_b1 : ByteArray, ∃ x_c1 : ByteArray, ∃ x_d1 : Int, ∃ x_e1 : ByteArray, ∃ x_f1 : Sl, (hcell H4 ⟨bX, 0, none⟩ = some (.int .i64 x_a1) ∧ 
    hcell H4 ⟨bX, 1, none⟩ = some (.string x_b1) ∧ hcell H4 ⟨bX, 2, none⟩ = some (.string x_c1) ∧ hcell H4 ⟨bX, 3, none⟩ = some (.int .i64 x_d1) ∧ 
    hcell H4 ⟨bX, 4, none⟩ = some (.string x_e1) ∧ hcell H4 ⟨bX, 5, none⟩ = some (.slice x_f1.a x_f1.n x_f1.c) ∧ 
    True) ∧ callV Try.prog one [.agg #[.int .i64 x_a1, .string x_b1, .string x_c1, .int .i64 x_d1, .string x_e1, .slice x_f1.a x_f1.n x_f1.c]] H4 (fun r1 H5 => 
    r1 = .tuple #[] ∧ (∃ m2, m2 < m1 ∧ I (w64 (t14 + 1)) H5 m2)) Z))) ∧ ((decide (t14 < (l.n : Int))) = false → 
    K (.tuple #[]) H2))) Z
def aJ129 : Ann := (fun _ => none)
def aL129 : Ann := (fun k => if k = 2 then some [(14, (.sc (.int .i64)))] else none)
theorem V129_ok {H : Hp} {w : Addr} {l : Sl} {one : Value} {K : Value → Hp → Prop} {Z : List PanicEntry → Hp → Prop} (h : V129 H w l one K Z) : CallF Try.prog 129 #[.pointer (some w), .slice l.a l.n l.c, one] H K Z :=
  fnC_sound (P := Try.prog) (aJ := aJ129) (aL := aL129) (f := 129) (args := [.pointer (some w), .slice l.a l.n l.c, one]) (Eq.mp (by kernel_rfl) h)
/-- weft/weftref26.Texts -/
def V47 (H : Hp) (s_a : ByteArray) (s_b : Sl) (s_c : Sl) (s_d : Sl) (s_e : Sl) (s_f : Sl) (s_g : Sl) (K : Value → Hp → Prop) (Z : List PanicEntry → Hp → Prop) : Prop :=
  ∀ bS H1, Newb H (.cells #[.string s_a, .slice s_b.a s_b.n s_b.c, .slice s_c.a s_c.n s_c.c, .slice s_d.a s_d.n s_d.c, .slice s_e.a s_e.n s_e.c, .slice s_f.a s_f.n s_f.c, .slice s_g.a s_g.n s_g.c] 90) bS H1 → 
    ∀ b H2, Newb H1 (.cells #[.slice none 0 0, .string ⟨#[]⟩, .slice none 0 0, .int .i64 0] 148) b H2 → 
    ∃ x_a : ByteArray, ∃ x_b : Sl, ∃ x_c : Sl, ∃ x_d : Sl, ∃ x_e : Sl, ∃ x_f : Sl, ∃ x_g : Sl, (hcell H2 ⟨bS, 0, none⟩ = some (.string x_a) ∧ 
    hcell H2 ⟨bS, 1, none⟩ = some (.slice x_b.a x_b.n x_b.c) ∧ hcell H2 ⟨bS, 2, none⟩ = some (.slice x_c.a x_c.n x_c.c) ∧ 
    hcell H2 ⟨bS, 3, none⟩ = some (.slice x_d.a x_d.n x_d.c) ∧ hcell H2 ⟨bS, 4, none⟩ = some (.slice x_e.a x_e.n x_e.c) ∧ 
    hcell H2 ⟨bS, 5, none⟩ = some (.slice x_f.a x_f.n x_f.c) ∧ hcell H2 ⟨bS, 6, none⟩ = some (.slice x_g.a x_g.n x_g.c) ∧ 
    True) ∧ CallF Try.prog 93 #[.pointer (some ⟨b, 0, none⟩), .agg #[.string x_a, .slice x_b.a x_b.n x_b.c, .slice x_c.a x_c.n x_c.c, .slice x_d.a x_d.n x_d.c, .slice x_e.a x_e.n x_e.c, .slice x_f.a x_f.n x_f.c, .slice x_g.a x_g.n x_g.c]] H2 (fun r H3 => 
    r = .tuple #[] ∧ ∃ x : Sl, hcell H3 ⟨b, 2, none⟩ = some (.slice x.a x.n x.c) ∧ K (.slice x.a x.n x.c) H3) Z
def aJ47 : Ann := (fun _ => none)
def aL47 : Ann := (fun _ => none)
theorem V47_ok {H : Hp} {s_a : ByteArray} {s_b : Sl} {s_c : Sl} {s_d : Sl} {s_e : Sl} {s_f : Sl} {s_g : Sl} {K : Value → Hp → Prop} {Z : List PanicEntry → Hp → Prop} (h : V47 H s_a s_b s_c s_d s_e s_f s_g K Z) : CallF Try.prog 47 #[.agg #[.string s_a, .slice s_b.a s_b.n s_b.c, .slice s_c.a s_c.n s_c.c, .slice s_d.a s_d.n s_d.c, .slice s_e.a s_e.n s_e.c, .slice s_f.a s_f.n s_f.c, .slice s_g.a s_g.n s_g.c]] H K Z :=
  fnC_sound (P := Try.prog) (aJ := aJ47) (aL := aL47) (f := 47) (args := [.agg #[.string s_a, .slice s_b.a s_b.n s_b.c, .slice s_c.a s_c.n s_c.c, .slice s_d.a s_d.n s_d.c, .slice s_e.a s_e.n s_e.c, .slice s_f.a s_f.n s_f.c, .slice s_g.a s_g.n s_g.c]]) (Eq.mp (by kernel_rfl) h)
/-- weft/weftref26.Bytes -/
def V49 (H : Hp) (pool : Sl) (s_a : ByteArray) (s_b : Sl) (s_c : Sl) (s_d : Sl) (s_e : Sl) (s_f : Sl) (s_g : Sl) (K : Value → Hp → Prop) (Z : List PanicEntry → Hp → Prop) : Prop :=
  ∀ bS H1, Newb H (.cells #[.string s_a, .slice s_b.a s_b.n s_b.c, .slice s_c.a s_c.n s_c.c, .slice s_d.a s_d.n s_d.c, .slice s_e.a s_e.n s_e.c, .slice s_f.a s_f.n s_f.c, .slice s_g.a s_g.n s_g.c] 90) bS H1 → 
    ∀ b H2, Newb H1 (.cells #[.slice pool.a pool.n pool.c, .string ⟨#[]⟩, .slice none 0 0, .int .i64 0] 148) b H2 → 
    ∃ x_a : ByteArray, ∃ x_b : Sl, ∃ x_c : Sl, ∃ x_d : Sl, ∃ x_e : Sl, ∃ x_f : Sl, ∃ x_g : Sl, (hcell H2 ⟨bS, 0, none⟩ = some (.string x_a) ∧ 
    hcell H2 ⟨bS, 1, none⟩ = some (.slice x_b.a x_b.n x_b.c) ∧ hcell H2 ⟨bS, 2, none⟩ = some (.slice x_c.a x_c.n x_c.c) ∧ 
    hcell H2 ⟨bS, 3, none⟩ = some (.slice x_d.a x_d.n x_d.c) ∧ hcell H2 ⟨bS, 4, none⟩ = some (.slice x_e.a x_e.n x_e.c) ∧ 
    hcell H2 ⟨bS, 5, none⟩ = some (.slice x_f.a x_f.n x_f.c) ∧ hcell H2 ⟨bS, 6, none⟩ = some (.slice x_g.a x_g.n x_g.c) ∧ 
    True) ∧ CallF Try.prog 93 #[.pointer (some ⟨b, 0, none⟩), .agg #[.string x_a, .slice x_b.a x_b.n x_b.c, .slice x_c.a x_c.n x_c.c, .slice x_d.a x_d.n x_d.c, .slice x_e.a x_e.n x_e.c, .slice x_f.a x_f.n x_f.c, .slice x_g.a x_g.n x_g.c]] H2 (fun r H3 => 
    r = .tuple #[] ∧ ∃ x : Int, hcell H3 ⟨b, 3, none⟩ = some (.int .i64 x) ∧ (((x != 0) = true → ∃ x1 : Int, hcell H3 ⟨b, 3, none⟩ = some (.int .i64 x1) ∧ 
    K (.tuple #[.string ⟨#[]⟩, .int .i64 x1]) H3) ∧ ((x != 0) = false → ∃ x2 : ByteArray, hcell H3 ⟨b, 1, none⟩ = some (.string x2) ∧ 
    K (.tuple #[.string x2, .int .i64 0]) H3))) Z
def aJ49 : Ann := (fun _ => none)
def aL49 : Ann := (fun _ => none)
theorem V49_ok {H : Hp} {pool : Sl} {s_a : ByteArray} {s_b : Sl} {s_c : Sl} {s_d : Sl} {s_e : Sl} {s_f : Sl} {s_g : Sl} {K : Value → Hp → Prop} {Z : List PanicEntry → Hp → Prop} (h : V49 H pool s_a s_b s_c s_d s_e s_f s_g K Z) : CallF Try.prog 49 #[.slice pool.a pool.n pool.c, .agg #[.string s_a, .slice s_b.a s_b.n s_b.c, .slice s_c.a s_c.n s_c.c, .slice s_d.a s_d.n s_d.c, .slice s_e.a s_e.n s_e.c, .slice s_f.a s_f.n s_f.c, .slice s_g.a s_g.n s_g.c]] H K Z :=
  fnC_sound (P := Try.prog) (aJ := aJ49) (aL := aL49) (f := 49) (args := [.slice pool.a pool.n pool.c, .agg #[.string s_a, .slice s_b.a s_b.n s_b.c, .slice s_c.a s_c.n s_c.c, .slice s_d.a s_d.n s_d.c, .slice s_e.a s_e.n s_e.c, .slice s_f.a s_f.n s_f.c, .slice s_g.a s_g.n s_g.c]]) (Eq.mp (by kernel_rfl) h)
/-- weft/weftref26.Read -/
def V43 (H : Hp) (pool : Sl) (b : ByteArray) (K : Value → Hp → Prop) (Z : List PanicEntry → Hp → Prop) : Prop :=
  ∀ b1 H1, Newb H (.cells #[.string ⟨#[]⟩, .slice none 0 0, .slice none 0 0, .slice none 0 0, .slice none 0 0, .slice none 0 0, .slice none 0 0] 90) b1 H1 → 
    ∀ b2 H2, Newb H1 (.cells #[.string b, .int .i64 0, .int .i64 0] 141) b2 H2 → ∀ b3 H3, Newb H2 (.cells #[.slice pool.a pool.n pool.c, .pointer (some ⟨b2, 0, none⟩)] 143) b3 H3 → 
    ∀ bS H4, Newb H3 (.cells #[.string ⟨#[]⟩, .slice none 0 0, .slice none 0 0, .slice none 0 0, .slice none 0 0, .slice none 0 0, .slice none 0 0] 90) bS H4 → 
    CallF Try.prog 84 #[.pointer (some ⟨b3, 0, none⟩)] H4 (fun r H5 => ∃ y : ByteArray, r = .string y ∧ 
    StL ⟨bS, 0, none⟩ 0 [.string y] H5 fun H6 => (CallF Try.prog 85 #[.pointer (some ⟨b3, 0, none⟩)] H6 (fun r1 H7 => 
    ∃ y1 : Sl, r1 = .slice y1.a y1.n y1.c ∧ StL ⟨bS, 1, none⟩ 0 [.slice y1.a y1.n y1.c] H7 fun H8 => 
    (CallF Try.prog 85 #[.pointer (some ⟨b3, 0, none⟩)] H8 (fun r2 H9 => ∃ y2 : Sl, r2 = .slice y2.a y2.n y2.c ∧ 
    StL ⟨bS, 2, none⟩ 0 [.slice y2.a y2.n y2.c] H9 fun H10 => (CallF Try.prog 85 #[.pointer (some ⟨b3, 0, none⟩)] H10 (fun r3 H11 => 
    ∃ y3 : Sl, r3 = .slice y3.a y3.n y3.c ∧ StL ⟨bS, 3, none⟩ 0 [.slice y3.a y3.n y3.c] H11 fun H12 => 
    (CallF Try.prog 86 #[.pointer (some ⟨b3, 0, none⟩)] H12 (fun r4 H13 => ∃ y4 : Int, r4 = .int .i64 y4 ∧ 
    ∃ J : Hp → Prop, (∀ H14, J  H14 → ∀ scr : Nat → Value, CallF Try.prog 86 #[.pointer (some ⟨b3, 0, none⟩)] H14 (fun r5 H15 => 
    ∃ y5 : Int, r5 = .int .i64 y5 ∧ ∃ J1 : Hp → Prop, (∀ H16, J1  H16 → ∀ scr1 : Nat → Value, CallF Try.prog 86 #[.pointer (some ⟨b3, 0, none⟩)] H16 (fun r6 H17 => 
    ∃ y6 : Int, r6 = .int .i64 y6 ∧ ∃ J2 : Hp → Prop, (∀ H18, J2  H18 → ∀ scr2 : Nat → Value, ∃ x : Option Addr, hcell H18 ⟨b3, 1, none⟩ = some (.pointer x) ∧ 
    CallF Try.prog 89 #[.pointer x] H18 (fun r7 H19 => ∃ y_0 : Int, ∃ y_1 : Int, r7 = .tuple #[.int .i64 y_0, .int .i64 y_1] ∧ 
    (((y_1 != 0) = true → StL ⟨b1, 0, none⟩ 0 [.string ⟨#[]⟩, .slice none 0 0, .slice none 0 0, .slice none 0 0, .slice none 0 0, .slice none 0 0, .slice none 0 0] H19 fun H20 => 
    (∃ res_a : ByteArray, ∃ res_b : Sl, ∃ res_c : Sl, ∃ res_d : Sl, ∃ res_e : Sl, ∃ res_f : Sl, ∃ res_g : Sl, (hcell H20 ⟨b1, 0, none⟩ = some (.string res_a) ∧ 
    hcell H20 ⟨b1, 1, none⟩ = some (.slice res_b.a res_b.n res_b.c) ∧ hcell H20 ⟨b1, 2, none⟩ = some (.slice res_c.a res_c.n res_c.c) ∧ 
    hcell H20 ⟨b1, 3, none⟩ = some (.slice res_d.a res_d.n res_d.c) ∧ hcell H20 ⟨b1, 4, none⟩ = some (.slice res_e.a res_e.n res_e.c) ∧ 
    hcell H20 ⟨b1, 5, none⟩ = some (.slice res_f.a res_f.n res_f.c) ∧ hcell H20 ⟨b1, 6, none⟩ = some (.slice res_g.a res_g.n res_g.c) ∧ 
    True) ∧ K (.tuple #[.agg #[.string res_a, .slice res_b.a res_b.n res_b.c, .slice res_c.a res_c.n res_c.c, .slice res_d.a res_d.n res_d.c, .slice res_e.a res_e.n res_e.c, .slice res_f.a res_f.n res_f.c, .slice res_g.a res_g.n res_g.c], .int .i64 y_1]) H20)) ∧ 
    ((y_1 != 0) = false → ∃ x_a : ByteArray, ∃ x_b : Sl, ∃ x_c : Sl, ∃ x_d : Sl, ∃ x_e : Sl, ∃ x_f : Sl, ∃ x_g : Sl, (hcell H19 ⟨bS, 0, none⟩ = some (.string x_a) ∧ 
    hcell H19 ⟨bS, 1, none⟩ = some (.slice x_b.a x_b.n x_b.c) ∧ hcell H19 ⟨bS, 2, none⟩ = some (.slice x_c.a x_c.n x_c.c) ∧ 
    hcell H19 ⟨bS, 3, none⟩ = some (.slice x_d.a x_d.n x_d.c) ∧ hcell H19 ⟨bS, 4, none⟩ = some (.slice x_e.a x_e.n x_e.c) ∧ 
    hcell H19 ⟨bS, 5, none⟩ = some (.slice x_f.a x_f.n x_f.c) ∧ hcell H19 ⟨bS, 6, none⟩ = some (.slice x_g.a x_g.n x_g.c) ∧ 
    True) ∧ StL ⟨b1, 0, none⟩ 0 [.string x_a, .slice x_b.a x_b.n x_b.c, .slice x_c.a x_c.n x_c.c, .slice x_d.a x_d.n x_d.c, .slice x_e.a x_e.n x_e.c, .slice x_f.a x_f.n x_f.c, .slice x_g.a x_g.n x_g.c] H19 fun H21 => 
    (∃ res_a1 : ByteArray, ∃ res_b1 : Sl, ∃ res_c1 : Sl, ∃ res_d1 : Sl, ∃ res_e1 : Sl, ∃ res_f1 : Sl, ∃ res_g1 : Sl, (hcell H21 ⟨b1, 0, none⟩ = some (.string res_a1) ∧ 
    hcell H21 ⟨b1, 1, none⟩ = some (.slice res_b1.a res_b1.n res_b1.c) ∧ hcell H21 ⟨b1, 2, none⟩ = some (.slice res_c1.a res_c1.n res_c1.c) ∧ 
    hcell H21 ⟨b1, 3, none⟩ = some (.slice res_d1.a res_d1.n res_d1.c) ∧ hcell H21 ⟨b1, 4, none⟩ = some (.slice res_e1.a res_e1.n res_e1.c) ∧ 
    hcell H21 ⟨b1, 5, none⟩ = some (.slice res_f1.a res_f1.n res_f1.c) ∧ hcell H21 ⟨b1, 6, none⟩ = some (.slice res_g1.a res_g1.n res_g1.c) ∧ 
    True) ∧ K (.tuple #[.agg #[.string res_a1, .slice res_b1.a res_b1.n res_b1.c, .slice res_c1.a res_c1.n res_c1.c, .slice res_d1.a res_d1.n res_d1.c, .slice res_e1.a res_e1.n res_e1.c, .slice res_f1.a res_f1.n res_f1.c, .slice res_g1.a res_g1.n res_g1.c], .int .i64 0]) H21)))) Z) ∧ 
    ∃ I : Int → Hp → Nat → Prop, (∃ m, I 0 H17 m) ∧ ∀ (i : Int), ∀ H22 m1, I i H22 m1 → ∀ scr3 : Nat → 
    Value, ∃ J3 : Hp → Prop, (∀ H23, J3  H23 → ∀ scr4 : Nat → Value, ∃ x1 : Option Addr, hcell H23 ⟨b3, 1, none⟩ = some (.pointer x1) ∧ 
    CallF Try.prog 88 #[.pointer x1] H23 (fun r8 H24 => ∃ y7 : Int, r8 = .int .i64 y7 ∧ ∀ bC H25, Newb H24 (.cells #[.int .i64 0, .string ⟨#[]⟩, .string ⟨#[]⟩, .int .i64 0, .string ⟨#[]⟩, .slice none 0 0] 136) bC H25 → 
    StL ⟨bC, 0, none⟩ 0 [.int .i64 y7, .string ⟨#[]⟩, .string ⟨#[]⟩, .int .i64 0, .string ⟨#[]⟩, .slice none 0 0] H25 fun H26 => 
    (CallF Try.prog 84 #[.pointer (some ⟨b3, 0, none⟩)] H26 (fun r9 H27 => ∃ y8 : ByteArray, r9 = .string y8 ∧ 
    StL ⟨bC, 1, none⟩ 0 [.string y8] H27 fun H28 => (CallF Try.prog 84 #[.pointer (some ⟨b3, 0, none⟩)] H28 (fun r10 H29 => 
    ∃ y9 : ByteArray, r10 = .string y9 ∧ StL ⟨bC, 2, none⟩ 0 [.string y9] H29 fun H30 => (∃ x2 : Option Addr, hcell H30 ⟨b3, 1, none⟩ = some (.pointer x2) ∧ 
    CallF Try.prog 88 #[.pointer x2] H30 (fun r11 H31 => ∃ y10 : Int, r11 = .int .i64 y10 ∧ StL ⟨bC, 3, none⟩ 0 [.int .i64 y10] H31 fun H32 => 
    (CallF Try.prog 84 #[.pointer (some ⟨b3, 0, none⟩)] H32 (fun r12 H33 => ∃ y11 : ByteArray, r12 = .string y11 ∧ 
    StL ⟨bC, 4, none⟩ 0 [.string y11] H33 fun H34 => (CallF Try.prog 85 #[.pointer (some ⟨b3, 0, none⟩)] H34 (fun r13 H35 => 
    ∃ y12 : Sl, r13 = .slice y12.a y12.n y12.c ∧ StL ⟨bC, 5, none⟩ 0 [.slice y12.a y12.n y12.c] H35 fun H36 => 
    (∃ x3 : Sl, hcell H36 ⟨bS, 6, none⟩ = some (.slice x3.a x3.n x3.c) ∧ ∃ x_a1 : Int, ∃ x_b1 : ByteArray, ∃ x_c1 : ByteArray, ∃ x_d1 : Int, ∃ x_e1 : ByteArray, ∃ x_f1 : Sl, (hcell H36 ⟨bC, 0, none⟩ = some (.int .i64 x_a1) ∧ 
    hcell H36 ⟨bC, 1, none⟩ = some (.string x_b1) ∧ hcell H36 ⟨bC, 2, none⟩ = some (.string x_c1) ∧ hcell H36 ⟨bC, 3, none⟩ = some (.int .i64 x_d1) ∧ 
    hcell H36 ⟨bC, 4, none⟩ = some (.string x_e1) ∧ hcell H36 ⟨bC, 5, none⟩ = some (.slice x_f1.a x_f1.n x_f1.c) ∧ 
    True) ∧ ∀ b4 H37, Newb H36 (.cells #[.int .i64 x_a1, .string x_b1, .string x_c1, .int .i64 x_d1, .string x_e1, .slice x_f1.a x_f1.n x_f1.c] 136) b4 H37 → 
    App Try.prog #[86, 86] 86 H37 [.slice x3.a x3.n x3.c, .slice (some ⟨b4, 0, none⟩) 1 1] fun ap H38 => 
    (StL ⟨bS, 6, none⟩ 0 [.slice ap.a ap.n ap.c] H38 fun H39 => (∃ m2, m2 < m1 ∧ I (w64 (i + 1)) H39 m2)))) Z)) Z)) Z)) Z)) Z)) Z) ∧ 
    (((decide (i < y6)) = true → ∃ x4 : Option Addr, hcell H22 ⟨b3, 1, none⟩ = some (.pointer x4) ∧ nilck x4 fun ad => 
    (∃ x5 : Int, hcell H22 (Addr.add ad 2) = some (.int .i64 x5) ∧ (((x5 == 0) = true → (J3  H22)) ∧ 
    ((x5 == 0) = false → (J2  H22))))) ∧ ((decide (i < y6)) = false → (J2  H22)))) Z) ∧ ∃ I1 : Int → 
    Hp → Nat → Prop, (∃ m3, I1 0 H15 m3) ∧ ∀ (i1 : Int), ∀ H40 m4, I1 i1 H40 m4 → ∀ scr5 : Nat → Value, ∃ J4 : Hp → 
    Prop, (∀ H41, J4  H41 → ∀ scr6 : Nat → Value, CallF Try.prog 84 #[.pointer (some ⟨b3, 0, none⟩)] H41 (fun r14 H42 => 
    ∃ y13 : ByteArray, r14 = .string y13 ∧ ∀ bF H43, Newb H42 (.cells #[.string ⟨#[]⟩, .string ⟨#[]⟩, .string ⟨#[]⟩] 132) bF H43 → 
    StL ⟨bF, 0, none⟩ 0 [.string y13, .string ⟨#[]⟩, .string ⟨#[]⟩] H43 fun H44 => (CallF Try.prog 84 #[.pointer (some ⟨b3, 0, none⟩)] H44 (fun r15 H45 => 
    ∃ y14 : ByteArray, r15 = .string y14 ∧ StL ⟨bF, 1, none⟩ 0 [.string y14] H45 fun H46 => (CallF Try.prog 84 #[.pointer (some ⟨b3, 0, none⟩)] H46 (fun r16 H47 => 
    ∃ y15 : ByteArray, r16 = .string y15 ∧ StL ⟨bF, 2, none⟩ 0 [.string y15] H47 fun H48 => (∃ x6 : Sl, hcell H48 ⟨bS, 5, none⟩ = some (.slice x6.a x6.n x6.c) ∧ 
    ∃ x_a2 : ByteArray, ∃ x_b2 : ByteArray, ∃ x_c2 : ByteArray, (hcell H48 ⟨bF, 0, none⟩ = some (.string x_a2) ∧ 
    hcell H48 ⟨bF, 1, none⟩ = some (.string x_b2) ∧ hcell H48 ⟨bF, 2, none⟩ = some (.string x_c2) ∧ True) ∧ 
    ∀ b5 H49, Newb H48 (.cells #[.string x_a2, .string x_b2, .string x_c2] 132) b5 H49 → App Try.prog #[85, 85] 85 H49 [.slice x6.a x6.n x6.c, .slice (some ⟨b5, 0, none⟩) 1 1] fun ap1 H50 => 
    (StL ⟨bS, 5, none⟩ 0 [.slice ap1.a ap1.n ap1.c] H50 fun H51 => (∃ m5, m5 < m4 ∧ I1 (w64 (i1 + 1)) H51 m5)))) Z)) Z)) Z) ∧ 
    (((decide (i1 < y5)) = true → ∃ x7 : Option Addr, hcell H40 ⟨b3, 1, none⟩ = some (.pointer x7) ∧ 
    nilck x7 fun ad1 => (∃ x8 : Int, hcell H40 (Addr.add ad1 2) = some (.int .i64 x8) ∧ (((x8 == 0) = true → 
    (J4  H40)) ∧ ((x8 == 0) = false → (J1  H40))))) ∧ ((decide (i1 < y5)) = false → (J1  H40)))) Z) ∧ 
    ∃ I2 : Int → Hp → Nat → Prop, (∃ m6, I2 0 H13 m6) ∧ ∀ (i2 : Int), ∀ H52 m7, I2 i2 H52 m7 → ∀ scr7 : Nat → 
    Value, ∃ J5 : Hp → Prop, (∀ H53, J5  H53 → ∀ scr8 : Nat → Value, ∃ x9 : Sl, hcell H53 ⟨bS, 4, none⟩ = some (.slice x9.a x9.n x9.c) ∧ 
    CallF Try.prog 87 #[.pointer (some ⟨b3, 0, none⟩)] H53 (fun r17 H54 => ∃ y_a : ByteArray, ∃ y_b : ByteArray, ∃ y_c : Sl, r17 = .agg #[.string y_a, .string y_b, .slice y_c.a y_c.n y_c.c] ∧ 
    (hcell H54 ⟨bS, 4, none⟩ = some (.slice x9.a x9.n x9.c) ∧ ∀ b6 H55, Newb H54 (.cells #[.string y_a, .string y_b, .slice y_c.a y_c.n y_c.c] 128) b6 H55 → 
    (hcell H55 ⟨bS, 4, none⟩ = some (.slice x9.a x9.n x9.c) ∧ App Try.prog #[84, 84] 84 H55 [.slice x9.a x9.n x9.c, .slice (some ⟨b6, 0, none⟩) 1 1] fun ap2 H56 => 
    (StL ⟨bS, 4, none⟩ 0 [.slice ap2.a ap2.n ap2.c] H56 fun H57 => (∃ m8, m8 < m7 ∧ I2 (w64 (i2 + 1)) H57 m8))))) Z) ∧ 
    (((decide (i2 < y4)) = true → ∃ x10 : Option Addr, hcell H52 ⟨b3, 1, none⟩ = some (.pointer x10) ∧ 
    nilck x10 fun ad2 => (∃ x11 : Int, hcell H52 (Addr.add ad2 2) = some (.int .i64 x11) ∧ (((x11 == 0) = true → 
    (J5  H52)) ∧ ((x11 == 0) = false → (J  H52))))) ∧ ((decide (i2 < y4)) = false → (J  H52)))) Z)) Z)) Z)) Z)) Z
def aJ43 : Ann := (fun k => if k = 11 then some [] else if k = 12 then some [] else if k = 16 then some [] else if k = 20 then some [] else if k = 24 then some [] else if k = 31 then some [] else if k = 2000011 then some [] else none)
def aL43 : Ann := (fun k => if k = 9 then some [(9, (.sc (.int .i64)))] else if k = 14 then some [(10, (.sc (.int .i64)))] else if k = 22 then some [(12, (.sc (.int .i64)))] else none)
theorem V43_ok {H : Hp} {pool : Sl} {b : ByteArray} {K : Value → Hp → Prop} {Z : List PanicEntry → Hp → Prop} (h : V43 H pool b K Z) : CallF Try.prog 43 #[.slice pool.a pool.n pool.c, .string b] H K Z :=
  fnC_sound (P := Try.prog) (aJ := aJ43) (aL := aL43) (f := 43) (args := [.slice pool.a pool.n pool.c, .string b]) (Eq.mp (by kernel_rfl) h)
/-- (*weft/weftref26.reader).text -/
def V84 (H : Hp) (x : Addr) (K : Value → Hp → Prop) (Z : List PanicEntry → Hp → Prop) : Prop :=
  ∃ x1 : Option Addr, hcell H (Addr.add x 1) = some (.pointer x1) ∧ CallF Try.prog 88 #[.pointer x1] H (fun r H1 => 
    ∃ y : Int, r = .int .i64 y ∧ ∃ x2 : Option Addr, hcell H1 (Addr.add x 1) = some (.pointer x2) ∧ nilck x2 fun ad => 
    (∃ x3 : Int, hcell H1 (Addr.add ad 2) = some (.int .i64 x3) ∧ (((x3 != 0) = true → K (.string ⟨#[]⟩) H1) ∧ 
    ((x3 != 0) = false → ∃ x4 : Sl, hcell H1 x = some (.slice x4.a x4.n x4.c) ∧ (((decide (y ≥ (x4.n : Int))) = true → 
    ∃ x5 : Option Addr, hcell H1 (Addr.add x 1) = some (.pointer x5) ∧ nilck x5 fun ad1 => (StL (Addr.add ad1 2) 0 [.int .i64 2] H1 fun H2 => 
    (K (.string ⟨#[]⟩) H2))) ∧ ((decide (y ≥ (x4.n : Int))) = false → ∃ x6 : Sl, hcell H1 x = some (.slice x6.a x6.n x6.c) ∧ 
    IxA x6.a x6.n y 1 fun ad2 => (∃ x7 : ByteArray, hcell H1 ad2 = some (.string x7) ∧ K (.string x7) H1))))))) Z
def aJ84 : Ann := (fun _ => none)
def aL84 : Ann := (fun _ => none)
theorem V84_ok {H : Hp} {x : Addr} {K : Value → Hp → Prop} {Z : List PanicEntry → Hp → Prop} (h : V84 H x K Z) : CallF Try.prog 84 #[.pointer (some x)] H K Z :=
  fnC_sound (P := Try.prog) (aJ := aJ84) (aL := aL84) (f := 84) (args := [.pointer (some x)]) (Eq.mp (by kernel_rfl) h)
/-- (*weft/weftref26.reader).texts -/
def V85 (H : Hp) (x : Addr) (K : Value → Hp → Prop) (Z : List PanicEntry → Hp → Prop) : Prop :=
  CallF Try.prog 86 #[.pointer (some x)] H (fun r H1 => ∃ y : Int, r = .int .i64 y ∧ ∃ I : Sl → Int → 
    Hp → Nat → Prop, (∃ m, I (⟨none, 0, 0⟩ : Sl) 0 H1 m) ∧ ∀ (l : Sl) (i : Int), ∀ H2 m1, I l i H2 m1 → 
    ∀ scr : Nat → Value, (((decide (i < y)) = true → ∃ x1 : Option Addr, hcell H2 (Addr.add x 1) = some (.pointer x1) ∧ 
    nilck x1 fun ad => (∃ x2 : Int, hcell H2 (Addr.add ad 2) = some (.int .i64 x2) ∧ (((x2 == 0) = true → 
    CallF Try.prog 84 #[.pointer (some x)] H2 (fun r1 H3 => ∃ y1 : ByteArray, r1 = .string y1 ∧ ∀ b H4, Newb H3 (.cells #[.string y1] 9) b H4 → 
    App Try.prog #[47, 47] 47 H4 [.slice l.a l.n l.c, .slice (some ⟨b, 0, none⟩) 1 1] fun ap H5 => (∃ m2, m2 < m1 ∧ 
    I ap (w64 (i + 1)) H5 m2)) Z) ∧ ((x2 == 0) = false → K (.slice l.a l.n l.c) H2)))) ∧ ((decide (i < y)) = false → 
    K (.slice l.a l.n l.c) H2))) Z
def aJ85 : Ann := (fun _ => none)
def aL85 : Ann := (fun k => if k = 4 then some [(3, (.sc .sl)), (5, (.sc (.int .i64)))] else none)
theorem V85_ok {H : Hp} {x : Addr} {K : Value → Hp → Prop} {Z : List PanicEntry → Hp → Prop} (h : V85 H x K Z) : CallF Try.prog 85 #[.pointer (some x)] H K Z :=
  fnC_sound (P := Try.prog) (aJ := aJ85) (aL := aL85) (f := 85) (args := [.pointer (some x)]) (Eq.mp (by kernel_rfl) h)
/-- (*weft/weftref26.reader).many -/
def V86 (H : Hp) (x : Addr) (K : Value → Hp → Prop) (Z : List PanicEntry → Hp → Prop) : Prop :=
  ∃ x1 : Option Addr, hcell H (Addr.add x 1) = some (.pointer x1) ∧ CallF Try.prog 88 #[.pointer x1] H (fun r H1 => 
    ∃ y : Int, r = .int .i64 y ∧ (((decide (y > 6000)) = true → ∃ x2 : Option Addr, hcell H1 (Addr.add x 1) = some (.pointer x2) ∧ 
    CallF Try.prog 113 #[.pointer x2, .int .i64 4] H1 (fun r1 H2 => r1 = .tuple #[] ∧ K (.int .i64 0) H2) Z) ∧ 
    ((decide (y > 6000)) = false → K (.int .i64 y) H1))) Z
def aJ86 : Ann := (fun _ => none)
def aL86 : Ann := (fun _ => none)
theorem V86_ok {H : Hp} {x : Addr} {K : Value → Hp → Prop} {Z : List PanicEntry → Hp → Prop} (h : V86 H x K Z) : CallF Try.prog 86 #[.pointer (some x)] H K Z :=
  fnC_sound (P := Try.prog) (aJ := aJ86) (aL := aL86) (f := 86) (args := [.pointer (some x)]) (Eq.mp (by kernel_rfl) h)
/-- (*weft/weftref26.reader).object -/
def V87 (H : Hp) (x : Addr) (K : Value → Hp → Prop) (Z : List PanicEntry → Hp → Prop) : Prop :=
  ∀ b H1, Newb H (.cells #[.string ⟨#[]⟩, .string ⟨#[]⟩, .slice none 0 0] 128) b H1 → CallF Try.prog 84 #[.pointer (some x)] H1 (fun r H2 => 
    ∃ y : ByteArray, r = .string y ∧ ∀ bO H3, Newb H2 (.cells #[.string ⟨#[]⟩, .string ⟨#[]⟩, .slice none 0 0] 128) bO H3 → 
    StL ⟨bO, 0, none⟩ 0 [.string y, .string ⟨#[]⟩, .slice none 0 0] H3 fun H4 => (CallF Try.prog 84 #[.pointer (some x)] H4 (fun r1 H5 => 
    ∃ y1 : ByteArray, r1 = .string y1 ∧ StL ⟨bO, 1, none⟩ 0 [.string y1] H5 fun H6 => (CallF Try.prog 86 #[.pointer (some x)] H6 (fun r2 H7 => 
    ∃ y2 : Int, r2 = .int .i64 y2 ∧ ∃ I : Int → Hp → Nat → Prop, (∃ m, I 0 H7 m) ∧ ∀ (i : Int), ∀ H8 m1, I i H8 m1 → 
    ∀ scr : Nat → Value, ∃ J : Hp → Prop, (∀ H9, J  H9 → ∀ scr1 : Nat → Value, ∃ x1 : Option Addr, hcell H9 (Addr.add x 1) = some (.pointer x1) ∧ 
    CallF Try.prog 88 #[.pointer x1] H9 (fun r3 H10 => ∃ y3 : Int, r3 = .int .i64 y3 ∧ ∀ bM H11, Newb H10 (.cells #[.int .i64 0, .string ⟨#[]⟩] 174) bM H11 → 
    StL ⟨bM, 0, none⟩ 0 [.int .i64 y3, .string ⟨#[]⟩] H11 fun H12 => (CallF Try.prog 84 #[.pointer (some x)] H12 (fun r4 H13 => 
    ∃ y4 : ByteArray, r4 = .string y4 ∧ StL ⟨bM, 1, none⟩ 0 [.string y4] H13 fun H14 => (∃ x2 : Sl, hcell H14 ⟨bO, 2, none⟩ = some (.slice x2.a x2.n x2.c) ∧ 
    ∃ x_a : Int, ∃ x_b : ByteArray, (hcell H14 ⟨bM, 0, none⟩ = some (.int .i64 x_a) ∧ hcell H14 ⟨bM, 1, none⟩ = some (.string x_b) ∧ 
    True) ∧ ∀ b1 H15, Newb H14 (.cells #[.int .i64 x_a, .string x_b] 174) b1 H15 → App Try.prog #[126, 126] 126 H15 [.slice x2.a x2.n x2.c, .slice (some ⟨b1, 0, none⟩) 1 1] fun ap H16 => 
    (StL ⟨bO, 2, none⟩ 0 [.slice ap.a ap.n ap.c] H16 fun H17 => (∃ m2, m2 < m1 ∧ I (w64 (i + 1)) H17 m2)))) Z)) Z) ∧ 
    (((decide (i < y2)) = true → ∃ x3 : Option Addr, hcell H8 (Addr.add x 1) = some (.pointer x3) ∧ nilck x3 fun ad => 
    (∃ x4 : Int, hcell H8 (Addr.add ad 2) = some (.int .i64 x4) ∧ (((x4 == 0) = true → (J  H8)) ∧ ((x4 == 0) = false → 
    ∃ x_a1 : ByteArray, ∃ x_b1 : ByteArray, ∃ x_c : Sl, (hcell H8 ⟨bO, 0, none⟩ = some (.string x_a1) ∧ 
    hcell H8 ⟨bO, 1, none⟩ = some (.string x_b1) ∧ hcell H8 ⟨bO, 2, none⟩ = some (.slice x_c.a x_c.n x_c.c) ∧ 
    True) ∧ StL ⟨b, 0, none⟩ 0 [.string x_a1, .string x_b1, .slice x_c.a x_c.n x_c.c] H8 fun H18 => (∃ res_a : ByteArray, ∃ res_b : ByteArray, ∃ res_c : Sl, (hcell H18 ⟨b, 0, none⟩ = some (.string res_a) ∧ 
    hcell H18 ⟨b, 1, none⟩ = some (.string res_b) ∧ hcell H18 ⟨b, 2, none⟩ = some (.slice res_c.a res_c.n res_c.c) ∧ 
    True) ∧ K (.agg #[.string res_a, .string res_b, .slice res_c.a res_c.n res_c.c]) H18))))) ∧ ((decide (i < y2)) = false → 
    ∃ x_a2 : ByteArray, ∃ x_b2 : ByteArray, ∃ x_c1 : Sl, (hcell H8 ⟨bO, 0, none⟩ = some (.string x_a2) ∧ 
    hcell H8 ⟨bO, 1, none⟩ = some (.string x_b2) ∧ hcell H8 ⟨bO, 2, none⟩ = some (.slice x_c1.a x_c1.n x_c1.c) ∧ 
    True) ∧ StL ⟨b, 0, none⟩ 0 [.string x_a2, .string x_b2, .slice x_c1.a x_c1.n x_c1.c] H8 fun H19 => 
    (∃ res_a1 : ByteArray, ∃ res_b1 : ByteArray, ∃ res_c1 : Sl, (hcell H19 ⟨b, 0, none⟩ = some (.string res_a1) ∧ 
    hcell H19 ⟨b, 1, none⟩ = some (.string res_b1) ∧ hcell H19 ⟨b, 2, none⟩ = some (.slice res_c1.a res_c1.n res_c1.c) ∧ 
    True) ∧ K (.agg #[.string res_a1, .string res_b1, .slice res_c1.a res_c1.n res_c1.c]) H19)))) Z)) Z)) Z
def aJ87 : Ann := (fun k => if k = 7 then some [] else none)
def aL87 : Ann := (fun k => if k = 5 then some [(5, (.sc (.int .i64)))] else none)
theorem V87_ok {H : Hp} {x : Addr} {K : Value → Hp → Prop} {Z : List PanicEntry → Hp → Prop} (h : V87 H x K Z) : CallF Try.prog 87 #[.pointer (some x)] H K Z :=
  fnC_sound (P := Try.prog) (aJ := aJ87) (aL := aL87) (f := 87) (args := [.pointer (some x)]) (Eq.mp (by kernel_rfl) h)
/-- (*weft/weftref26.writer).summary -/
def V93 (H : Hp) (w : Addr) (s_a : ByteArray) (s_b : Sl) (s_c : Sl) (s_d : Sl) (s_e : Sl) (s_f : Sl) (s_g : Sl) (K : Value → Hp → Prop) (Z : List PanicEntry → Hp → Prop) : Prop :=
  ∀ bS H1, Newb H (.cells #[.string s_a, .slice s_b.a s_b.n s_b.c, .slice s_c.a s_c.n s_c.c, .slice s_d.a s_d.n s_d.c, .slice s_e.a s_e.n s_e.c, .slice s_f.a s_f.n s_f.c, .slice s_g.a s_g.n s_g.c] 90) bS H1 → 
    ∃ x : ByteArray, hcell H1 ⟨bS, 0, none⟩ = some (.string x) ∧ CallF Try.prog 117 #[.pointer (some w), .string x] H1 (fun r H2 => 
    r = .tuple #[] ∧ ∃ x1 : Sl, hcell H2 ⟨bS, 1, none⟩ = some (.slice x1.a x1.n x1.c) ∧ CallF Try.prog 118 #[.pointer (some w), .slice x1.a x1.n x1.c] H2 (fun r1 H3 => 
    r1 = .tuple #[] ∧ ∃ x2 : Sl, hcell H3 ⟨bS, 2, none⟩ = some (.slice x2.a x2.n x2.c) ∧ CallF Try.prog 118 #[.pointer (some w), .slice x2.a x2.n x2.c] H3 (fun r2 H4 => 
    r2 = .tuple #[] ∧ ∃ x3 : Sl, hcell H4 ⟨bS, 3, none⟩ = some (.slice x3.a x3.n x3.c) ∧ CallF Try.prog 118 #[.pointer (some w), .slice x3.a x3.n x3.c] H4 (fun r3 H5 => 
    r3 = .tuple #[] ∧ ∃ x4 : Sl, hcell H5 ⟨bS, 4, none⟩ = some (.slice x4.a x4.n x4.c) ∧ CallF Try.prog 119 #[.pointer (some w), .int .i64 (x4.n : Int)] H5 (fun r4 H6 => 
    r4 = .tuple #[] ∧ ∃ I : Int → Hp → Nat → Prop, (∃ m, I 0 H6 m) ∧ ∀ (i : Int), ∀ H7 m1, I i H7 m1 → 
    ∀ scr : Nat → Value, ∃ x5 : Sl, hcell H7 ⟨bS, 4, none⟩ = some (.slice x5.a x5.n x5.c) ∧ (((decide (i < (x5.n : Int))) = true → 
    ∃ x6 : Sl, hcell H7 ⟨bS, 4, none⟩ = some (.slice x6.a x6.n x6.c) ∧ IxA x6.a x6.n i 3 fun ad => (∃ x_a : ByteArray, ∃ x_b : ByteArray, ∃ x_c : Sl, (hcell H7 ad = some (.string x_a) ∧ 
    hcell H7 (Addr.add ad 1) = some (.string x_b) ∧ hcell H7 (Addr.add ad 2) = some (.slice x_c.a x_c.n x_c.c) ∧ 
    True) ∧ ∀ bO H8, Newb H7 (.cells #[.string ⟨#[]⟩, .string ⟨#[]⟩, .slice none 0 0] 128) bO H8 → StL ⟨bO, 0, none⟩ 0 [.string x_a, .string x_b, .slice x_c.a x_c.n x_c.c] H8 fun H9 => 
    (∃ x7 : ByteArray, hcell H9 ⟨bO, 0, none⟩ = some (.string x7) ∧ CallF Try.prog 117 #[.pointer (some w), .string x7] H9 (fun r5 H10 => 
    r5 = .tuple #[] ∧ ∃ x8 : ByteArray, hcell H10 ⟨bO, 1, none⟩ = some (.string x8) ∧ CallF Try.prog 117 #[.pointer (some w), .string x8] H10 (fun r6 H11 => 
    r6 = .tuple #[] ∧ ∃ x9 : Sl, hcell H11 ⟨bO, 2, none⟩ = some (.slice x9.a x9.n x9.c) ∧ CallF Try.prog 119 #[.pointer (some w), .int .i64 (x9.n : Int)] H11 (fun r7 H12 => 
    r7 = .tuple #[] ∧ ∃ I1 : Int → Hp → Nat → Prop, (∃ m3, I1 0 H12 m3) ∧ ∀ (k : Int), ∀ H13 m4, I1 k H13 m4 → 
    ∀ scr1 : Nat → Value, ∃ x10 : Sl, hcell H13 ⟨bO, 2, none⟩ = some (.slice x10.a x10.n x10.c) ∧ (((decide (k < (x10.n : Int))) = true → 
    ∃ x11 : Sl, hcell H13 ⟨bO, 2, none⟩ = some (.slice x11.a x11.n x11.c) ∧ IxA x11.a x11.n k 2 fun ad1 => 
    (∃ x12 : Int, hcell H13 ad1 = some (.int .i64 x12) ∧ CallF Try.prog 119 #[.pointer (some w), .int .i64 x12] H13 (fun r8 H14 => 
    r8 = .tuple #[] ∧ ∃ x13 : Sl, hcell H14 ⟨bO, 2, none⟩ = some (.slice x13.a x13.n x13.c) ∧ IxA x13.a x13.n k 2 fun ad2 => 
    (∃ x14 : ByteArray, hcell H14 (Addr.add ad2 1) = some (.string x14) ∧ CallF Try.prog 117 #[.pointer (some w), .string x14] H14 (fun r9 H15 => 
    r9 = .tuple #[] ∧ (∃ m5, m5 < m4 ∧ I1 (w64 (k + 1)) H15 m5)) Z)) Z)) ∧ ((decide (k < (x10.n : Int))) = false → 
    (∃ m2, m2 < m1 ∧ I (w64 (i + 1)) H13 m2)))) Z) Z) Z))) ∧ ((decide (i < (x5.n : Int))) = false → ∃ x15 : Sl, hcell H7 ⟨bS, 5, none⟩ = some (.slice x15.a x15.n x15.c) ∧ 
    CallF Try.prog 119 #[.pointer (some w), .int .i64 (x15.n : Int)] H7 (fun r10 H16 => r10 = .tuple #[] ∧ 
    ∃ I2 : Int → Hp → Nat → Prop, (∃ m6, I2 0 H16 m6) ∧ ∀ (i1 : Int), ∀ H17 m7, I2 i1 H17 m7 → ∀ scr2 : Nat → 
    Value, ∃ x16 : Sl, hcell H17 ⟨bS, 5, none⟩ = some (.slice x16.a x16.n x16.c) ∧ (((decide (i1 < (x16.n : Int))) = true → 
    ∃ x17 : Sl, hcell H17 ⟨bS, 5, none⟩ = some (.slice x17.a x17.n x17.c) ∧ IxA x17.a x17.n i1 3 fun ad3 => 
    (∃ x_a1 : ByteArray, ∃ x_b1 : ByteArray, ∃ x_c1 : ByteArray, (hcell H17 ad3 = some (.string x_a1) ∧ 
    hcell H17 (Addr.add ad3 1) = some (.string x_b1) ∧ hcell H17 (Addr.add ad3 2) = some (.string x_c1) ∧ 
    True) ∧ ∀ bF H18, Newb H17 (.cells #[.string ⟨#[]⟩, .string ⟨#[]⟩, .string ⟨#[]⟩] 132) bF H18 → StL ⟨bF, 0, none⟩ 0 [.string x_a1, .string x_b1, .string x_c1] H18 fun H19 => 
    (∃ x18 : ByteArray, hcell H19 ⟨bF, 0, none⟩ = some (.string x18) ∧ CallF Try.prog 117 #[.pointer (some w), .string x18] H19 (fun r11 H20 => 
    r11 = .tuple #[] ∧ ∃ x19 : ByteArray, hcell H20 ⟨bF, 1, none⟩ = some (.string x19) ∧ CallF Try.prog 117 #[.pointer (some w), .string x19] H20 (fun r12 H21 => 
    r12 = .tuple #[] ∧ ∃ x20 : ByteArray, hcell H21 ⟨bF, 2, none⟩ = some (.string x20) ∧ CallF Try.prog 117 #[.pointer (some w), .string x20] H21 (fun r13 H22 => 
    r13 = .tuple #[] ∧ (∃ m8, m8 < m7 ∧ I2 (w64 (i1 + 1)) H22 m8)) Z) Z) Z))) ∧ ((decide (i1 < (x16.n : Int))) = false → 
    ∃ x21 : Sl, hcell H17 ⟨bS, 6, none⟩ = some (.slice x21.a x21.n x21.c) ∧ CallF Try.prog 119 #[.pointer (some w), .int .i64 (x21.n : Int)] H17 (fun r14 H23 => 
    r14 = .tuple #[] ∧ ∃ I3 : Int → Hp → Nat → Prop, (∃ m9, I3 0 H23 m9) ∧ ∀ (i2 : Int), ∀ H24 m10, I3 i2 H24 m10 → 
    ∀ scr3 : Nat → Value, ∃ x22 : Sl, hcell H24 ⟨bS, 6, none⟩ = some (.slice x22.a x22.n x22.c) ∧ (((decide (i2 < (x22.n : Int))) = true → 
    ∃ x23 : Sl, hcell H24 ⟨bS, 6, none⟩ = some (.slice x23.a x23.n x23.c) ∧ IxA x23.a x23.n i2 6 fun ad4 => 
    (∃ x_a2 : Int, ∃ x_b2 : ByteArray, ∃ x_c2 : ByteArray, ∃ x_d : Int, ∃ x_e : ByteArray, ∃ x_f : Sl, (hcell H24 ad4 = some (.int .i64 x_a2) ∧ 
    hcell H24 (Addr.add ad4 1) = some (.string x_b2) ∧ hcell H24 (Addr.add ad4 2) = some (.string x_c2) ∧ 
    hcell H24 (Addr.add ad4 3) = some (.int .i64 x_d) ∧ hcell H24 (Addr.add ad4 4) = some (.string x_e) ∧ 
    hcell H24 (Addr.add ad4 5) = some (.slice x_f.a x_f.n x_f.c) ∧ True) ∧ ∀ bC H25, Newb H24 (.cells #[.int .i64 0, .string ⟨#[]⟩, .string ⟨#[]⟩, .int .i64 0, .string ⟨#[]⟩, .slice none 0 0] 136) bC H25 → 
    StL ⟨bC, 0, none⟩ 0 [.int .i64 x_a2, .string x_b2, .string x_c2, .int .i64 x_d, .string x_e, .slice x_f.a x_f.n x_f.c] H25 fun H26 => 
    (∃ x24 : Int, hcell H26 ⟨bC, 0, none⟩ = some (.int .i64 x24) ∧ CallF Try.prog 119 #[.pointer (some w), .int .i64 x24] H26 (fun r15 H27 => 
    r15 = .tuple #[] ∧ ∃ x25 : ByteArray, hcell H27 ⟨bC, 1, none⟩ = some (.string x25) ∧ CallF Try.prog 117 #[.pointer (some w), .string x25] H27 (fun r16 H28 => 
    r16 = .tuple #[] ∧ ∃ x26 : ByteArray, hcell H28 ⟨bC, 2, none⟩ = some (.string x26) ∧ CallF Try.prog 117 #[.pointer (some w), .string x26] H28 (fun r17 H29 => 
    r17 = .tuple #[] ∧ ∃ x27 : Int, hcell H29 ⟨bC, 3, none⟩ = some (.int .i64 x27) ∧ CallF Try.prog 119 #[.pointer (some w), .int .i64 x27] H29 (fun r18 H30 => 
    r18 = .tuple #[] ∧ ∃ x28 : ByteArray, hcell H30 ⟨bC, 4, none⟩ = some (.string x28) ∧ CallF Try.prog 117 #[.pointer (some w), .string x28] H30 (fun r19 H31 => 
    r19 = .tuple #[] ∧ ∃ x29 : Sl, hcell H31 ⟨bC, 5, none⟩ = some (.slice x29.a x29.n x29.c) ∧ CallF Try.prog 118 #[.pointer (some w), .slice x29.a x29.n x29.c] H31 (fun r20 H32 => 
    r20 = .tuple #[] ∧ (∃ m11, m11 < m10 ∧ I3 (w64 (i2 + 1)) H32 m11)) Z) Z) Z) Z) Z) Z))) ∧ ((decide (i2 < (x22.n : Int))) = false → 
    K (.tuple #[]) H24))) Z))) Z))) Z) Z) Z) Z) Z
def aJ93 : Ann := (fun _ => none)
def aL93 : Ann := (fun k => if k = 7 then some [(4, (.sc (.int .i64)))] else if k = 14 then some [(6, (.sc (.int .i64)))] else if k = 20 then some [(7, (.sc (.int .i64)))] else if k = 28 then some [(9, (.sc (.int .i64)))] else none)
theorem V93_ok {H : Hp} {w : Addr} {s_a : ByteArray} {s_b : Sl} {s_c : Sl} {s_d : Sl} {s_e : Sl} {s_f : Sl} {s_g : Sl} {K : Value → Hp → Prop} {Z : List PanicEntry → Hp → Prop} (h : V93 H w s_a s_b s_c s_d s_e s_f s_g K Z) : CallF Try.prog 93 #[.pointer (some w), .agg #[.string s_a, .slice s_b.a s_b.n s_b.c, .slice s_c.a s_c.n s_c.c, .slice s_d.a s_d.n s_d.c, .slice s_e.a s_e.n s_e.c, .slice s_f.a s_f.n s_f.c, .slice s_g.a s_g.n s_g.c]] H K Z :=
  fnC_sound (P := Try.prog) (aJ := aJ93) (aL := aL93) (f := 93) (args := [.pointer (some w), .agg #[.string s_a, .slice s_b.a s_b.n s_b.c, .slice s_c.a s_c.n s_c.c, .slice s_d.a s_d.n s_d.c, .slice s_e.a s_e.n s_e.c, .slice s_f.a s_f.n s_f.c, .slice s_g.a s_g.n s_g.c]]) (Eq.mp (by kernel_rfl) h)
/-- (*weft/weftref26.writer).text -/
def V117 (H : Hp) (w : Addr) (s : ByteArray) (K : Value → Hp → Prop) (Z : List PanicEntry → Hp → Prop) : Prop :=
  ∃ x : Sl, hcell H (Addr.add w 2) = some (.slice x.a x.n x.c) ∧ CallF Try.prog 101 #[.slice x.a x.n x.c, .string s] H (fun r H1 => 
    ∃ y : Sl, r = .slice y.a y.n y.c ∧ StL (Addr.add w 2) 0 [.slice y.a y.n y.c] H1 fun H2 => (∃ x1 : Sl, hcell H2 w = some (.slice x1.a x1.n x1.c) ∧ 
    CallF Try.prog 31 #[.slice x1.a x1.n x1.c, .string s] H2 (fun r1 H3 => ∃ y1 : Int, r1 = .int .i64 y1 ∧ 
    (((decide (y1 < 0)) = true → ∃ x2 : Int, hcell H3 (Addr.add w 3) = some (.int .i64 x2) ∧ (((x2 == 0) = true → 
    StL (Addr.add w 3) 0 [.int .i64 7] H3 fun H4 => (CallF Try.prog 119 #[.pointer (some w), .int .i64 (if y1 < 0 then 0 else y1)] H4 (fun r2 H5 => 
    r2 = .tuple #[] ∧ K (.tuple #[]) H5) Z)) ∧ ((x2 == 0) = false → CallF Try.prog 119 #[.pointer (some w), .int .i64 (if y1 < 0 then 0 else y1)] H3 (fun r3 H6 => 
    r3 = .tuple #[] ∧ K (.tuple #[]) H6) Z))) ∧ ((decide (y1 < 0)) = false → CallF Try.prog 119 #[.pointer (some w), .int .i64 (if y1 < 0 then 0 else y1)] H3 (fun r4 H7 => 
    r4 = .tuple #[] ∧ K (.tuple #[]) H7) Z))) Z)) Z
def aJ117 : Ann := (fun _ => none)
def aL117 : Ann := (fun _ => none)
theorem V117_ok {H : Hp} {w : Addr} {s : ByteArray} {K : Value → Hp → Prop} {Z : List PanicEntry → Hp → Prop} (h : V117 H w s K Z) : CallF Try.prog 117 #[.pointer (some w), .string s] H K Z :=
  fnC_sound (P := Try.prog) (aJ := aJ117) (aL := aL117) (f := 117) (args := [.pointer (some w), .string s]) (Eq.mp (by kernel_rfl) h)
/-- (*weft/weftref26.writer).texts -/
def V118 (H : Hp) (w : Addr) (l : Sl) (K : Value → Hp → Prop) (Z : List PanicEntry → Hp → Prop) : Prop :=
  CallF Try.prog 119 #[.pointer (some w), .int .i64 (l.n : Int)] H (fun r H1 => r = .tuple #[] ∧ ∃ I : Int → 
    Hp → Nat → Prop, (∃ m, I 0 H1 m) ∧ ∀ (i : Int), ∀ H2 m1, I i H2 m1 → ∀ scr : Nat → Value, (((decide (i < (l.n : Int))) = true → 
    IxA l.a l.n i 1 fun ad => (∃ x : ByteArray, hcell H2 ad = some (.string x) ∧ CallF Try.prog 117 #[.pointer (some w), .string x] H2 (fun r1 H3 => 
    r1 = .tuple #[] ∧ (∃ m2, m2 < m1 ∧ I (w64 (i + 1)) H3 m2)) Z)) ∧ ((decide (i < (l.n : Int))) = false → 
    K (.tuple #[]) H2))) Z
def aJ118 : Ann := (fun _ => none)
def aL118 : Ann := (fun k => if k = 2 then some [(4, (.sc (.int .i64)))] else none)
theorem V118_ok {H : Hp} {w : Addr} {l : Sl} {K : Value → Hp → Prop} {Z : List PanicEntry → Hp → Prop} (h : V118 H w l K Z) : CallF Try.prog 118 #[.pointer (some w), .slice l.a l.n l.c] H K Z :=
  fnC_sound (P := Try.prog) (aJ := aJ118) (aL := aL118) (f := 118) (args := [.pointer (some w), .slice l.a l.n l.c]) (Eq.mp (by kernel_rfl) h)
/-- (*weft/weftref26.writer).number -/
def V119 (H : Hp) (w : Addr) (n : Int) (K : Value → Hp → Prop) (Z : List PanicEntry → Hp → Prop) : Prop :=
  (((decide (n < 0)) = true → ∃ x : Int, hcell H (Addr.add w 3) = some (.int .i64 x) ∧ (((x == 0) = true → 
    StL (Addr.add w 3) 0 [.int .i64 2] H fun H1 => (∃ x1 : Int, hcell H1 (Addr.add w 3) = some (.int .i64 x1) ∧ 
    (((x1 == 0) = true → ∃ x2 : ByteArray, hcell H1 (Addr.add w 1) = some (.string x2) ∧ CallF Try.prog 69 #[.int .i64 n] H1 (fun r H2 => 
    ∃ y : ByteArray, r = .string y ∧ (hcell H2 (Addr.add w 1) = some (.string x2) ∧ (x2.size + y.size ≤ 4611686018427387904 ∧ 
    StL (Addr.add w 1) 0 [.string (x2 ++ y)] H2 fun H3 => (K (.tuple #[]) H3)))) Z) ∧ ((x1 == 0) = false → 
    K (.tuple #[]) H1)))) ∧ ((x == 0) = false → ∃ x3 : Int, hcell H (Addr.add w 3) = some (.int .i64 x3) ∧ 
    (((x3 == 0) = true → ∃ x4 : ByteArray, hcell H (Addr.add w 1) = some (.string x4) ∧ CallF Try.prog 69 #[.int .i64 n] H (fun r1 H4 => 
    ∃ y1 : ByteArray, r1 = .string y1 ∧ (hcell H4 (Addr.add w 1) = some (.string x4) ∧ (x4.size + y1.size ≤ 4611686018427387904 ∧ 
    StL (Addr.add w 1) 0 [.string (x4 ++ y1)] H4 fun H5 => (K (.tuple #[]) H5)))) Z) ∧ ((x3 == 0) = false → 
    K (.tuple #[]) H))))) ∧ ((decide (n < 0)) = false → (((decide (n > 268435456)) = true → ∃ x5 : Int, hcell H (Addr.add w 3) = some (.int .i64 x5) ∧ 
    (((x5 == 0) = true → StL (Addr.add w 3) 0 [.int .i64 2] H fun H6 => (∃ x6 : Int, hcell H6 (Addr.add w 3) = some (.int .i64 x6) ∧ 
    (((x6 == 0) = true → ∃ x7 : ByteArray, hcell H6 (Addr.add w 1) = some (.string x7) ∧ CallF Try.prog 69 #[.int .i64 n] H6 (fun r2 H7 => 
    ∃ y2 : ByteArray, r2 = .string y2 ∧ (hcell H7 (Addr.add w 1) = some (.string x7) ∧ (x7.size + y2.size ≤ 4611686018427387904 ∧ 
    StL (Addr.add w 1) 0 [.string (x7 ++ y2)] H7 fun H8 => (K (.tuple #[]) H8)))) Z) ∧ ((x6 == 0) = false → 
    K (.tuple #[]) H6)))) ∧ ((x5 == 0) = false → ∃ x8 : Int, hcell H (Addr.add w 3) = some (.int .i64 x8) ∧ 
    (((x8 == 0) = true → ∃ x9 : ByteArray, hcell H (Addr.add w 1) = some (.string x9) ∧ CallF Try.prog 69 #[.int .i64 n] H (fun r3 H9 => 
    ∃ y3 : ByteArray, r3 = .string y3 ∧ (hcell H9 (Addr.add w 1) = some (.string x9) ∧ (x9.size + y3.size ≤ 4611686018427387904 ∧ 
    StL (Addr.add w 1) 0 [.string (x9 ++ y3)] H9 fun H10 => (K (.tuple #[]) H10)))) Z) ∧ ((x8 == 0) = false → 
    K (.tuple #[]) H))))) ∧ ((decide (n > 268435456)) = false → ∃ x10 : Int, hcell H (Addr.add w 3) = some (.int .i64 x10) ∧ 
    (((x10 == 0) = true → ∃ x11 : ByteArray, hcell H (Addr.add w 1) = some (.string x11) ∧ CallF Try.prog 69 #[.int .i64 n] H (fun r4 H11 => 
    ∃ y4 : ByteArray, r4 = .string y4 ∧ (hcell H11 (Addr.add w 1) = some (.string x11) ∧ (x11.size + y4.size ≤ 4611686018427387904 ∧ 
    StL (Addr.add w 1) 0 [.string (x11 ++ y4)] H11 fun H12 => (K (.tuple #[]) H12)))) Z) ∧ ((x10 == 0) = false → 
    K (.tuple #[]) H))))))
def aJ119 : Ann := (fun k => if k = 2000003 then some [] else none)
def aL119 : Ann := (fun _ => none)
theorem V119_ok {H : Hp} {w : Addr} {n : Int} {K : Value → Hp → Prop} {Z : List PanicEntry → Hp → Prop} (h : V119 H w n K Z) : CallF Try.prog 119 #[.pointer (some w), .int .i64 n] H K Z :=
  fnC_sound (P := Try.prog) (aJ := aJ119) (aL := aL119) (f := 119) (args := [.pointer (some w), .int .i64 n]) (Eq.mp (by kernel_rfl) h)
end Go.Proofs.Ytigbdoicgdmliaa.N26
end
