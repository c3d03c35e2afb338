import Derived.Test.YtjdhjgfmloaglaaGreatDoorZ06
import Derived.Test.YtjdhjgfmloaglaaGreatDoorProg
import Derived.Shelf.Strconv.Itoa3
import Derived.Shelf.Strconv.AtoiAll
import Derived.Shelf.Strings.SlTrimAscii
import Derived.Shelf.Small.Strs
import Derived.Shelf.Strings.SplitShaped
import Derived.Shelf.Strings.Search3
import Derived.Test.YtjdhjgfmloaglaaGreatDoorChecked
set_option linter.unusedVariables false
set_option linter.unusedSimpArgs false
section
set_option maxRecDepth 100000
namespace Go.Proofs.YtjdhjgfmloaglaaGreatDoor.N14
open Go Go.V Go.Proofs
def V63 (H:Hp) (n_a:Int) (n_b:ByteArray) (n_c:Int) (n_d:ByteArray) (n_e n_f:Int) (K:Value→Hp→Prop) (Z:List PanicEntry→Hp→Prop):Prop:=
 ∀ bN H1,Newb H (.cells #[.int .i64 n_a,.string n_b,.int .i64 n_c,.string n_d,.int .i64 n_e,.int .i64 n_f] 61) bN H1 →
  ∃ (x_a:Int) (x_b:ByteArray) (x_c:Int) (x_d:ByteArray) (x_e x_f:Int),(hcell H1 ⟨bN,0,none⟩=some (.int .i64 x_a) ∧
  hcell H1 ⟨bN,1,none⟩=some (.string x_b)∧hcell H1 ⟨bN,2,none⟩=some (.int .i64 x_c)∧hcell H1 ⟨bN,3,none⟩=some (.string x_d) ∧
  hcell H1 ⟨bN,4,none⟩=some (.int .i64 x_e)∧hcell H1 ⟨bN,5,none⟩=some (.int .i64 x_f)∧True) ∧
  ∀ bRest H2,Newb H1 (.cells #[.int .i64 0,.string ⟨#[]⟩,.int .i64 0,.string ⟨#[]⟩,.int .i64 0,.int .i64 0] 61) bRest H2 →
  StL ⟨bRest,0,none⟩ 0 [.int .i64 x_a,.string x_b,.int .i64 x_c,.string x_d,.int .i64 x_e,.int .i64 x_f] H2 fun H3=>
  (StL ⟨bRest,0,none⟩ 0 [.int .i64 0] H3 fun H4=>(StL ⟨bRest,1,none⟩ 0 [.string ⟨#[]⟩] H4 fun H5=>
  (StL ⟨bRest,2,none⟩ 0 [.int .i64 0] H5 fun H6=>(∃ J:Hp→Prop,(∀ H7,J  H7→∀ scr:Nat →
  Value,∃ x:Int,hcell H7 ⟨bN,0,none⟩=some (.int .i64 x)∧∃ J1:Int→Hp→Prop,(∀ (least:Int),∀ H8,J1 least H8 →
  ∀ scr1:Nat→Value,∃ x1:Int,hcell H8 ⟨bN,4,none⟩=some (.int .i64 x1)∧(((decide (x1≥least))=true →
  ∃ x2:Int,hcell H8 ⟨bN,4,none⟩=some (.int .i64 x2)∧(((decide (x2≤268435456))=true→∃ (x_a1:Int) (x_b1:ByteArray) (x_c1:Int) (x_d1:ByteArray) (x_e1 x_f1:Int),(hcell H8 ⟨bRest,0,none⟩=some (.int .i64 x_a1) ∧
  hcell H8 ⟨bRest,1,none⟩=some (.string x_b1)∧hcell H8 ⟨bRest,2,none⟩=some (.int .i64 x_c1) ∧
  hcell H8 ⟨bRest,3,none⟩=some (.string x_d1)∧hcell H8 ⟨bRest,4,none⟩=some (.int .i64 x_e1) ∧
  hcell H8 ⟨bRest,5,none⟩=some (.int .i64 x_f1)∧True)∧∃ x3:Int,hcell H8 ⟨bN,4,none⟩=some (.int .i64 x3) ∧
  K (.bool (((x_a1 == 0) && ((x_b1 == ⟨#[]⟩) && ((x_c1 == 0) && ((x_d1 == ⟨#[]⟩) && ((x_e1 == x3) && ((x_f1 == (-1)) && true)))))))) H8) ∧
  ((decide (x2≤268435456))=false→K (.bool false) H8)))∧((decide (x1≥least))=false→K (.bool false) H8))) ∧
  ∃ J2:Hp→Prop,(∀ H9,J2  H9→∀ scr2:Nat→Value,∃ x4:ByteArray,hcell H9 ⟨bN,3,none⟩=some (.string x4) ∧
  CallF Tryz.prog 115 #[.string x4] H9 (fun r H10=>∃ y:Bool,r = .bool y∧((y=true→∃ (x_a2:Int) (x_b2:ByteArray) (x_c2:Int) (x_d2:ByteArray) (x_e2 x_f2:Int),(hcell H10 ⟨bRest,0,none⟩=some (.int .i64 x_a2) ∧
  hcell H10 ⟨bRest,1,none⟩=some (.string x_b2)∧hcell H10 ⟨bRest,2,none⟩=some (.int .i64 x_c2) ∧
  hcell H10 ⟨bRest,3,none⟩=some (.string x_d2)∧hcell H10 ⟨bRest,4,none⟩=some (.int .i64 x_e2) ∧
  hcell H10 ⟨bRest,5,none⟩=some (.int .i64 x_f2)∧True)∧∃ x5:ByteArray,hcell H10 ⟨bN,3,none⟩=some (.string x5) ∧
  ∃ x6:Int,hcell H10 ⟨bN,5,none⟩=some (.int .i64 x6)∧(((((x_a2 == 0) && ((x_b2 == ⟨#[]⟩) && ((x_c2 == 0) && ((x_d2 == x5) && ((x_e2 == 0) && ((x_f2 == x6) && true)))))))=true →
  ∃ (x_a3:Int) (x_b3:ByteArray) (x_c3:Int) (x_d3:ByteArray) (x_e3 x_f3:Int),(hcell H10 ⟨bN,0,none⟩=some (.int .i64 x_a3) ∧
  hcell H10 ⟨bN,1,none⟩=some (.string x_b3)∧hcell H10 ⟨bN,2,none⟩=some (.int .i64 x_c3) ∧
  hcell H10 ⟨bN,3,none⟩=some (.string x_d3)∧hcell H10 ⟨bN,4,none⟩=some (.int .i64 x_e3) ∧
  hcell H10 ⟨bN,5,none⟩=some (.int .i64 x_f3)∧True)∧CallF Tryz.prog 116 #[.agg #[.int .i64 x_a3,.string x_b3,.int .i64 x_c3,.string x_d3,.int .i64 x_e3,.int .i64 x_f3]] H10 (fun r1 H11=>
  ∃ y1:Bool,r1 = .bool y1∧K (.bool y1) H11) Z)∧((((x_a2 == 0) && ((x_b2 == ⟨#[]⟩) && ((x_c2 == 0) && ((x_d2 == x5) && ((x_e2 == 0) && ((x_f2 == x6) && true)))))))=false →
  K (.bool false) H10)))∧(y=false→K (.bool false) H10))) Z)∧(((x == 5)=true→∃ x7:ByteArray,hcell H7 ⟨bN,1,none⟩=some (.string x7) ∧
  (((!(beqS x7 ⟨#[]⟩))=true→K (.bool false) H7)∧((!(beqS x7 ⟨#[]⟩))=false→∃ x8:Int,hcell H7 ⟨bN,2,none⟩=some (.int .i64 x8) ∧
  (((x8 != 0)=true→K (.bool false) H7)∧((x8 != 0)=false→(J2  H7))))))∧((x == 5)=false →
  (((x == 6)=true→(J2  H7))∧((x == 6)=false→(((x == 1)=true→∃ x9:ByteArray,hcell H7 ⟨bN,3,none⟩=some (.string x9) ∧
  CallF Tryz.prog 115 #[.string x9] H7 (fun r2 H12=>∃ y2:Bool,r2 = .bool y2∧((y2=true→∃ (x_a4:Int) (x_b4:ByteArray) (x_c4:Int) (x_d4:ByteArray) (x_e4 x_f4:Int),(hcell H12 ⟨bRest,0,none⟩=some (.int .i64 x_a4) ∧
  hcell H12 ⟨bRest,1,none⟩=some (.string x_b4)∧hcell H12 ⟨bRest,2,none⟩=some (.int .i64 x_c4) ∧
  hcell H12 ⟨bRest,3,none⟩=some (.string x_d4)∧hcell H12 ⟨bRest,4,none⟩=some (.int .i64 x_e4) ∧
  hcell H12 ⟨bRest,5,none⟩=some (.int .i64 x_f4)∧True)∧∃ x10:ByteArray,hcell H12 ⟨bN,3,none⟩=some (.string x10) ∧
  K (.bool (((x_a4 == 0) && ((x_b4 == ⟨#[]⟩) && ((x_c4 == 0) && ((x_d4 == x10) && ((x_e4 == 0) && ((x_f4 == (-1)) && true)))))))) H12) ∧
  (y2=false→K (.bool false) H12))) Z)∧((x == 1)=false→(((x == 7)=true→∃ x11:Int,hcell H7 ⟨bN,4,none⟩=some (.int .i64 x11) ∧
  (((decide (x11≥1))=true→∃ x12:Int,hcell H7 ⟨bN,4,none⟩=some (.int .i64 x12)∧(((decide (x12≤268435456))=true →
  ∃ (x_a5:Int) (x_b5:ByteArray) (x_c5:Int) (x_d5:ByteArray) (x_e5 x_f5:Int),(hcell H7 ⟨bRest,0,none⟩=some (.int .i64 x_a5) ∧
  hcell H7 ⟨bRest,1,none⟩=some (.string x_b5)∧hcell H7 ⟨bRest,2,none⟩=some (.int .i64 x_c5) ∧
  hcell H7 ⟨bRest,3,none⟩=some (.string x_d5)∧hcell H7 ⟨bRest,4,none⟩=some (.int .i64 x_e5) ∧
  hcell H7 ⟨bRest,5,none⟩=some (.int .i64 x_f5)∧True)∧∃ x13:Int,hcell H7 ⟨bN,4,none⟩=some (.int .i64 x13) ∧
  ∃ x14:Int,hcell H7 ⟨bN,5,none⟩=some (.int .i64 x14)∧(((((x_a5 == 0) && ((x_b5 == ⟨#[]⟩) && ((x_c5 == 0) && ((x_d5 == ⟨#[]⟩) && ((x_e5 == x13) && ((x_f5 == x14) && true)))))))=true →
  ∃ (x_a6:Int) (x_b6:ByteArray) (x_c6:Int) (x_d6:ByteArray) (x_e6 x_f6:Int),(hcell H7 ⟨bN,0,none⟩=some (.int .i64 x_a6) ∧
  hcell H7 ⟨bN,1,none⟩=some (.string x_b6)∧hcell H7 ⟨bN,2,none⟩=some (.int .i64 x_c6)∧hcell H7 ⟨bN,3,none⟩=some (.string x_d6) ∧
  hcell H7 ⟨bN,4,none⟩=some (.int .i64 x_e6)∧hcell H7 ⟨bN,5,none⟩=some (.int .i64 x_f6) ∧
  True)∧CallF Tryz.prog 116 #[.agg #[.int .i64 x_a6,.string x_b6,.int .i64 x_c6,.string x_d6,.int .i64 x_e6,.int .i64 x_f6]] H7 (fun r3 H13=>
  ∃ y3:Bool,r3 = .bool y3∧K (.bool y3) H13) Z)∧((((x_a5 == 0) && ((x_b5 == ⟨#[]⟩) && ((x_c5 == 0) && ((x_d5 == ⟨#[]⟩) && ((x_e5 == x13) && ((x_f5 == x14) && true)))))))=false →
  K (.bool false) H7)))∧((decide (x12≤268435456))=false→K (.bool false) H7)))∧((decide (x11≥1))=false →
  K (.bool false) H7)))∧((x == 7)=false→(((x == 4)=true→∃ (x_a7:Int) (x_b7:ByteArray) (x_c7:Int) (x_d7:ByteArray) (x_e7 x_f7:Int),(hcell H7 ⟨bRest,0,none⟩=some (.int .i64 x_a7) ∧
  hcell H7 ⟨bRest,1,none⟩=some (.string x_b7)∧hcell H7 ⟨bRest,2,none⟩=some (.int .i64 x_c7) ∧
  hcell H7 ⟨bRest,3,none⟩=some (.string x_d7)∧hcell H7 ⟨bRest,4,none⟩=some (.int .i64 x_e7) ∧
  hcell H7 ⟨bRest,5,none⟩=some (.int .i64 x_f7)∧True)∧K (.bool (((x_a7 == 0) && ((x_b7 == ⟨#[]⟩) && ((x_c7 == 0) && ((x_d7 == ⟨#[]⟩) && ((x_e7 == 0) && ((x_f7 == (-1)) && true)))))))) H7) ∧
  ((x == 4)=false→(((x == 3)=true→(J1 1 H7))∧((x == 3)=false→(((x == 2)=true→(J1 0 H7)) ∧
  ((x == 2)=false→K (.bool false) H7)))))))))))))))∧∃ x15:Int,hcell H6 ⟨bN,0,none⟩=some (.int .i64 x15) ∧
  (((x15 != 5)=true→∃ x16:ByteArray,hcell H6 ⟨bN,1,none⟩=some (.string x16)∧CallF Tryz.prog 115 #[.string x16] H6 (fun r4 H14=>
  ∃ y4:Bool,r4 = .bool y4∧(((!y4)=true→K (.bool false) H14)∧((!y4)=false→∃ x17:Int,hcell H14 ⟨bN,2,none⟩=some (.int .i64 x17) ∧
  (((decide (x17 < 0))=true→K (.bool false) H14)∧((decide (x17 < 0))=false→∃ x18:Int,hcell H14 ⟨bN,2,none⟩=some (.int .i64 x18) ∧
  (((decide (x18 > 268435456))=true→K (.bool false) H14)∧((decide (x18 > 268435456))=false →
  (J  H14)))))))) Z)∧((x15 != 5)=false→(J  H6)))))))
def aJ63:Ann:=(fun k=>if k=5 then some [] else if k=16 then some [] else if k=21 then some [(4,(.sc (.int .i64)))] else none)
theorem V63_ok {H n_a n_b n_c n_d n_e n_f K Z} (h:V63 H n_a n_b n_c n_d n_e n_f K Z):CallF Tryz.prog 63 #[.agg #[.int .i64 n_a,.string n_b,.int .i64 n_c,.string n_d,.int .i64 n_e,.int .i64 n_f]] H K Z:=
 fnC_sound (aJ:=aJ63) (aL:=fun _=>none) (Eq.mp (by kernel_rfl) h)
def V116 (H:Hp) (n_a:Int) (n_b:ByteArray) (n_c:Int) (n_d:ByteArray) (n_e n_f:Int) (K:Value→Hp→Prop) (Z:List PanicEntry→Hp→Prop):Prop:=
 ∀ bN H1,Newb H (.cells #[.int .i64 n_a,.string n_b,.int .i64 n_c,.string n_d,.int .i64 n_e,.int .i64 n_f] 61) bN H1 →
  ∃ x:Int,hcell H1 ⟨bN,5,none⟩=some (.int .i64 x)∧(((decide (x≥(-1)))=true→∃ x1:Int,hcell H1 ⟨bN,5,none⟩=some (.int .i64 x1) ∧
  K (.bool (decide (x1≤268435456))) H1)∧((decide (x≥(-1)))=false→K (.bool false) H1))
theorem V116_ok {H n_a n_b n_c n_d n_e n_f K Z} (h:V116 H n_a n_b n_c n_d n_e n_f K Z):CallF Tryz.prog 116 #[.agg #[.int .i64 n_a,.string n_b,.int .i64 n_c,.string n_d,.int .i64 n_e,.int .i64 n_f]] H K Z:=
 fnC_sound (aJ:=fun _=>none) (aL:=fun _=>none) (Eq.mp (by kernel_rfl) h)
def V64 (H:Hp) (n_a:Int) (n_b:ByteArray) (n_c:Int) (n_d:ByteArray) (n_e n_f:Int) (K:Value→Hp→Prop) (Z:List PanicEntry→Hp→Prop):Prop:=
 ∀ bN H1,Newb H (.cells #[.int .i64 n_a,.string n_b,.int .i64 n_c,.string n_d,.int .i64 n_e,.int .i64 n_f] 61) bN H1 →
  ∀ bB H2,Newb H1 (.cells #[.pointer none,.slice none 0 0] 163) bB H2→∃ x:ByteArray,hcell H2 ⟨bN,1,none⟩=some (.string x) ∧
  CallF Tryz.prog 117 #[.pointer (some ⟨bB,0,none⟩),.string x] H2 (fun r H3=>∃ (y_0:Int) (y_1:Value),r = .tuple #[.int .i64 y_0,y_1] ∧
  ∃ J:Hp→Prop,(∀ H4,J  H4→∀ scr:Nat→Value,∃ J1:Hp→Prop,(∀ H5,J1  H5→∀ scr1:Nat →
  Value,∃ J2:Hp→Prop,(∀ H6,J2  H6→∀ scr2:Nat→Value,∃ x1:Int,hcell H6 ⟨bN,5,none⟩=some (.int .i64 x1) ∧
  (((x1 != (-1))=true→∃ x2:Int,hcell H6 ⟨bN,5,none⟩=some (.int .i64 x2)∧CallF Tryz.prog 118 #[.int .i64 x2] H6 (fun r1 H7=>
  ∃ y:ByteArray,r1 = .string y∧((⟨#[43]⟩:ByteArray).size+y.size≤4611686018427387904∧CallF Tryz.prog 117 #[.pointer (some ⟨bB,0,none⟩),.string ((⟨#[43]⟩:ByteArray)++y)] H7 (fun r2 H8=>
  ∃ (y_01:Int) (y_11:Value),r2 = .tuple #[.int .i64 y_01,y_11]∧CallF Tryz.prog 120 #[.pointer (some ⟨bB,0,none⟩)] H8 (fun r3 H9=>
  ∃ y1:ByteArray,r3 = .string y1∧K (.string y1) H9) Z) Z)) Z)∧((x1 != (-1))=false→CallF Tryz.prog 120 #[.pointer (some ⟨bB,0,none⟩)] H6 (fun r4 H10=>
  ∃ y2:ByteArray,r4 = .string y2∧K (.string y2) H10) Z)))∧∃ x3:Int,hcell H5 ⟨bN,0,none⟩=some (.int .i64 x3) ∧
  ∃ J3:Bool→Hp→Prop,(∀ (t28:Bool),∀ H11,J3 t28 H11→∀ scr3:Nat→Value,((t28=true →
  ∃ x4:ByteArray,hcell H11 ⟨bN,3,none⟩=some (.string x4)∧CallF Tryz.prog 117 #[.pointer (some ⟨bB,0,none⟩),.string x4] H11 (fun r5 H12=>
  ∃ (y_02:Int) (y_12:Value),r5 = .tuple #[.int .i64 y_02,y_12]∧(J2  H12)) Z)∧(t28=false →
  (((x3 == 4)=true→CallF Tryz.prog 119 #[.pointer (some ⟨bB,0,none⟩),.int .u8 41] H11 (fun r6 H13=>
  ∃ y3:Value,r6=y3∧(J2  H13)) Z)∧((x3 == 4)=false→∃ x5:Int,hcell H11 ⟨bN,4,none⟩=some (.int .i64 x5) ∧
  CallF Tryz.prog 118 #[.int .i64 x5] H11 (fun r7 H14=>∃ y4:ByteArray,r7 = .string y4∧CallF Tryz.prog 117 #[.pointer (some ⟨bB,0,none⟩),.string y4] H14 (fun r8 H15=>
  ∃ (y_03:Int) (y_13:Value),r8 = .tuple #[.int .i64 y_03,y_13]∧(J2  H15)) Z) Z)))))∧(((x3 == 1)=true →
  (J3 (x3 == 1) H5))∧((x3 == 1)=false→(((x3 == 5)=true→(J3 (x3 == 5) H5))∧((x3 == 5)=false →
  (J3 (x3 == 6) H5))))))∧∃ x6:Int,hcell H4 ⟨bN,0,none⟩=some (.int .i64 x6)∧(((x6 != 5)=true →
  ∃ x7:Int,hcell H4 ⟨bN,0,none⟩=some (.int .i64 x7)∧IxS ⟨#[32,46,36,64,40,32,37,35]⟩ x7 fun c=>
  (CallF Tryz.prog 119 #[.pointer (some ⟨bB,0,none⟩),.int .u8 c] H4 (fun r9 H16=>∃ y5:Value,r9=y5 ∧
  (J1  H16)) Z))∧((x6 != 5)=false→(J1  H4))))∧∃ x8:Int,hcell H3 ⟨bN,2,none⟩=some (.int .i64 x8) ∧
  (((decide (x8 > 0))=true→∃ x9:Int,hcell H3 ⟨bN,2,none⟩=some (.int .i64 x9)∧CallF Tryz.prog 118 #[.int .i64 x9] H3 (fun r10 H17=>
  ∃ y6:ByteArray,r10 = .string y6∧((⟨#[126]⟩:ByteArray).size+y6.size≤4611686018427387904 ∧
  CallF Tryz.prog 117 #[.pointer (some ⟨bB,0,none⟩),.string ((⟨#[126]⟩:ByteArray)++y6)] H17 (fun r11 H18=>
  ∃ (y_04:Int) (y_14:Value),r11 = .tuple #[.int .i64 y_04,y_14]∧(J  H18)) Z)) Z)∧((decide (x8 > 0))=false →
  (J  H3)))) Z
def aJ64:Ann:=(fun k=>if k=5 then some [] else if k=7 then some [] else if k=12 then some [(28,(.sc .bool))] else if k=15 then some [] else none)
theorem V64_ok {H n_a n_b n_c n_d n_e n_f K Z} (h:V64 H n_a n_b n_c n_d n_e n_f K Z):CallF Tryz.prog 64 #[.agg #[.int .i64 n_a,.string n_b,.int .i64 n_c,.string n_d,.int .i64 n_e,.int .i64 n_f]] H K Z:=
 fnC_sound (aJ:=aJ64) (aL:=fun _=>none) (Eq.mp (by kernel_rfl) h)
def V81 (H:Hp) (n_a:Int) (n_b:ByteArray) (n_c:Int) (n_d:ByteArray) (n_e n_f:Int) (K:Value→Hp→Prop) (Z:List PanicEntry→Hp→Prop):Prop:=
 ∀ bN H1,Newb H (.cells #[.int .i64 n_a,.string n_b,.int .i64 n_c,.string n_d,.int .i64 n_e,.int .i64 n_f] 61) bN H1 →
  ∃ (x_a:Int) (x_b:ByteArray) (x_c:Int) (x_d:ByteArray) (x_e x_f:Int),(hcell H1 ⟨bN,0,none⟩=some (.int .i64 x_a) ∧
  hcell H1 ⟨bN,1,none⟩=some (.string x_b)∧hcell H1 ⟨bN,2,none⟩=some (.int .i64 x_c)∧hcell H1 ⟨bN,3,none⟩=some (.string x_d) ∧
  hcell H1 ⟨bN,4,none⟩=some (.int .i64 x_e)∧hcell H1 ⟨bN,5,none⟩=some (.int .i64 x_f)∧True) ∧
  CallF Tryz.prog 63 #[.agg #[.int .i64 x_a,.string x_b,.int .i64 x_c,.string x_d,.int .i64 x_e,.int .i64 x_f]] H1 (fun r H2=>
  ∃ y:Bool,r = .bool y∧(((!y)=true→K (.tuple #[.string ⟨#[]⟩,.int .i64 11]) H2)∧((!y)=false →
  ∃ (x_a1:Int) (x_b1:ByteArray) (x_c1:Int) (x_d1:ByteArray) (x_e1 x_f1:Int),(hcell H2 ⟨bN,0,none⟩=some (.int .i64 x_a1) ∧
  hcell H2 ⟨bN,1,none⟩=some (.string x_b1)∧hcell H2 ⟨bN,2,none⟩=some (.int .i64 x_c1)∧hcell H2 ⟨bN,3,none⟩=some (.string x_d1) ∧
  hcell H2 ⟨bN,4,none⟩=some (.int .i64 x_e1)∧hcell H2 ⟨bN,5,none⟩=some (.int .i64 x_f1) ∧
  True)∧CallF Tryz.prog 64 #[.agg #[.int .i64 x_a1,.string x_b1,.int .i64 x_c1,.string x_d1,.int .i64 x_e1,.int .i64 x_f1]] H2 (fun r1 H3=>
  ∃ y1:ByteArray,r1 = .string y1∧K (.tuple #[.string y1,.int .i64 0]) H3) Z))) Z
theorem V81_ok {H n_a n_b n_c n_d n_e n_f K Z} (h:V81 H n_a n_b n_c n_d n_e n_f K Z):CallF Tryz.prog 81 #[.agg #[.int .i64 n_a,.string n_b,.int .i64 n_c,.string n_d,.int .i64 n_e,.int .i64 n_f]] H K Z:=
 fnC_sound (aJ:=fun _=>none) (aL:=fun _=>none) (Eq.mp (by kernel_rfl) h)
def V22 (H:Hp) (s:ByteArray) (K:Value→Hp→Prop) (Z:List PanicEntry→Hp→Prop):Prop:=
 ∀ b H1,Newb H (.cells #[.int .i64 0,.string ⟨#[]⟩,.int .i64 0,.string ⟨#[]⟩,.int .i64 0,.int .i64 0] 61) b H1 →
  CallF Tryz.prog 62 #[.string s] H1 (fun r H2=>∃ (y_0_a:Int) (y_0_b:ByteArray) (y_0_c:Int) (y_0_d:ByteArray) (y_0_e y_0_f:Int) (y_1:Bool),r = .tuple #[.agg #[.int .i64 y_0_a,.string y_0_b,.int .i64 y_0_c,.string y_0_d,.int .i64 y_0_e,.int .i64 y_0_f],.bool y_1] ∧
  ∀ bN H3,Newb H2 (.cells #[.int .i64 0,.string ⟨#[]⟩,.int .i64 0,.string ⟨#[]⟩,.int .i64 0,.int .i64 0] 61) bN H3 →
  StL ⟨bN,0,none⟩ 0 [.int .i64 y_0_a,.string y_0_b,.int .i64 y_0_c,.string y_0_d,.int .i64 y_0_e,.int .i64 y_0_f] H3 fun H4=>
  (((!y_1)=true→StL ⟨b,0,none⟩ 0 [.int .i64 0,.string ⟨#[]⟩,.int .i64 0,.string ⟨#[]⟩,.int .i64 0,.int .i64 0] H4 fun H5=>
  (∃ (res_a:Int) (res_b:ByteArray) (res_c:Int) (res_d:ByteArray) (res_e res_f:Int),(hcell H5 ⟨b,0,none⟩=some (.int .i64 res_a) ∧
  hcell H5 ⟨b,1,none⟩=some (.string res_b)∧hcell H5 ⟨b,2,none⟩=some (.int .i64 res_c)∧hcell H5 ⟨b,3,none⟩=some (.string res_d) ∧
  hcell H5 ⟨b,4,none⟩=some (.int .i64 res_e)∧hcell H5 ⟨b,5,none⟩=some (.int .i64 res_f) ∧
  True)∧K (.tuple #[.agg #[.int .i64 res_a,.string res_b,.int .i64 res_c,.string res_d,.int .i64 res_e,.int .i64 res_f],.int .i64 11]) H5)) ∧
  ((!y_1)=false→∃ (x_a:Int) (x_b:ByteArray) (x_c:Int) (x_d:ByteArray) (x_e x_f:Int),(hcell H4 ⟨bN,0,none⟩=some (.int .i64 x_a) ∧
  hcell H4 ⟨bN,1,none⟩=some (.string x_b)∧hcell H4 ⟨bN,2,none⟩=some (.int .i64 x_c)∧hcell H4 ⟨bN,3,none⟩=some (.string x_d) ∧
  hcell H4 ⟨bN,4,none⟩=some (.int .i64 x_e)∧hcell H4 ⟨bN,5,none⟩=some (.int .i64 x_f)∧True) ∧
  CallF Tryz.prog 63 #[.agg #[.int .i64 x_a,.string x_b,.int .i64 x_c,.string x_d,.int .i64 x_e,.int .i64 x_f]] H4 (fun r1 H6=>
  ∃ y:Bool,r1 = .bool y∧(((!y)=true→StL ⟨b,0,none⟩ 0 [.int .i64 0,.string ⟨#[]⟩,.int .i64 0,.string ⟨#[]⟩,.int .i64 0,.int .i64 0] H6 fun H7=>
  (∃ (res_a1:Int) (res_b1:ByteArray) (res_c1:Int) (res_d1:ByteArray) (res_e1 res_f1:Int),(hcell H7 ⟨b,0,none⟩=some (.int .i64 res_a1) ∧
  hcell H7 ⟨b,1,none⟩=some (.string res_b1)∧hcell H7 ⟨b,2,none⟩=some (.int .i64 res_c1) ∧
  hcell H7 ⟨b,3,none⟩=some (.string res_d1)∧hcell H7 ⟨b,4,none⟩=some (.int .i64 res_e1) ∧
  hcell H7 ⟨b,5,none⟩=some (.int .i64 res_f1)∧True)∧K (.tuple #[.agg #[.int .i64 res_a1,.string res_b1,.int .i64 res_c1,.string res_d1,.int .i64 res_e1,.int .i64 res_f1],.int .i64 11]) H7)) ∧
  ((!y)=false→∃ (x_a1:Int) (x_b1:ByteArray) (x_c1:Int) (x_d1:ByteArray) (x_e1 x_f1:Int),(hcell H6 ⟨bN,0,none⟩=some (.int .i64 x_a1) ∧
  hcell H6 ⟨bN,1,none⟩=some (.string x_b1)∧hcell H6 ⟨bN,2,none⟩=some (.int .i64 x_c1)∧hcell H6 ⟨bN,3,none⟩=some (.string x_d1) ∧
  hcell H6 ⟨bN,4,none⟩=some (.int .i64 x_e1)∧hcell H6 ⟨bN,5,none⟩=some (.int .i64 x_f1) ∧
  True)∧CallF Tryz.prog 64 #[.agg #[.int .i64 x_a1,.string x_b1,.int .i64 x_c1,.string x_d1,.int .i64 x_e1,.int .i64 x_f1]] H6 (fun r2 H8=>
  ∃ y1:ByteArray,r2 = .string y1∧(((!(beqS y1 s))=true→StL ⟨b,0,none⟩ 0 [.int .i64 0,.string ⟨#[]⟩,.int .i64 0,.string ⟨#[]⟩,.int .i64 0,.int .i64 0] H8 fun H9=>
  (∃ (res_a2:Int) (res_b2:ByteArray) (res_c2:Int) (res_d2:ByteArray) (res_e2 res_f2:Int),(hcell H9 ⟨b,0,none⟩=some (.int .i64 res_a2) ∧
  hcell H9 ⟨b,1,none⟩=some (.string res_b2)∧hcell H9 ⟨b,2,none⟩=some (.int .i64 res_c2) ∧
  hcell H9 ⟨b,3,none⟩=some (.string res_d2)∧hcell H9 ⟨b,4,none⟩=some (.int .i64 res_e2) ∧
  hcell H9 ⟨b,5,none⟩=some (.int .i64 res_f2)∧True)∧K (.tuple #[.agg #[.int .i64 res_a2,.string res_b2,.int .i64 res_c2,.string res_d2,.int .i64 res_e2,.int .i64 res_f2],.int .i64 11]) H9)) ∧
  ((!(beqS y1 s))=false→∃ (x_a2:Int) (x_b2:ByteArray) (x_c2:Int) (x_d2:ByteArray) (x_e2 x_f2:Int),(hcell H8 ⟨bN,0,none⟩=some (.int .i64 x_a2) ∧
  hcell H8 ⟨bN,1,none⟩=some (.string x_b2)∧hcell H8 ⟨bN,2,none⟩=some (.int .i64 x_c2)∧hcell H8 ⟨bN,3,none⟩=some (.string x_d2) ∧
  hcell H8 ⟨bN,4,none⟩=some (.int .i64 x_e2)∧hcell H8 ⟨bN,5,none⟩=some (.int .i64 x_f2) ∧
  True)∧StL ⟨b,0,none⟩ 0 [.int .i64 x_a2,.string x_b2,.int .i64 x_c2,.string x_d2,.int .i64 x_e2,.int .i64 x_f2] H8 fun H10=>
  (∃ (res_a3:Int) (res_b3:ByteArray) (res_c3:Int) (res_d3:ByteArray) (res_e3 res_f3:Int),(hcell H10 ⟨b,0,none⟩=some (.int .i64 res_a3) ∧
  hcell H10 ⟨b,1,none⟩=some (.string res_b3)∧hcell H10 ⟨b,2,none⟩=some (.int .i64 res_c3) ∧
  hcell H10 ⟨b,3,none⟩=some (.string res_d3)∧hcell H10 ⟨b,4,none⟩=some (.int .i64 res_e3) ∧
  hcell H10 ⟨b,5,none⟩=some (.int .i64 res_f3)∧True)∧K (.tuple #[.agg #[.int .i64 res_a3,.string res_b3,.int .i64 res_c3,.string res_d3,.int .i64 res_e3,.int .i64 res_f3],.int .i64 0]) H10)))) Z))) Z))) Z
theorem V22_ok {H s K Z} (h:V22 H s K Z):CallF Tryz.prog 22 #[.string s] H K Z:=
 fnC_sound (aJ:=fun _=>none) (aL:=fun _=>none) (Eq.mp (by kernel_rfl) h)
def V113 (H:Hp) (s:ByteArray) (K:Value→Hp→Prop) (Z:List PanicEntry→Hp→Prop):Prop:=
 CallF Tryz.prog 157 #[.string s] H (fun r H1=>∃ y_0 y_1:Int,r = .tuple #[.int .i64 y_0,.int .i64 y_1] ∧
  K (.tuple #[.int .i64 y_0,.bool (y_1 == 0)]) H1) Z
theorem V113_ok {H s K Z} (h:V113 H s K Z):CallF Tryz.prog 113 #[.string s] H K Z:=
 fnC_sound (aJ:=fun _=>none) (aL:=fun _=>none) (Eq.mp (by kernel_rfl) h)
abbrev W62_1 (H8:Hp) (b:Nat) (res_a:Int) (res_b:ByteArray) (res_c:Int) (res_d:ByteArray) (res_e:Int) (res_f:Int):Prop:=
 hcell H8 ⟨b,0,none⟩=some (.int .i64 res_a) ∧
  hcell H8 ⟨b,1,none⟩=some (.string res_b)∧hcell H8 ⟨b,2,none⟩=some (.int .i64 res_c)∧hcell H8 ⟨b,3,none⟩=some (.string res_d) ∧
  hcell H8 ⟨b,4,none⟩=some (.int .i64 res_e)∧hcell H8 ⟨b,5,none⟩=some (.int .i64 res_f) ∧
  True
def V62 (H:Hp) (s:ByteArray) (K:Value→Hp→Prop) (Z:List PanicEntry→Hp→Prop):Prop:=
 ∀ b H1,Newb H (.cells #[.int .i64 0,.string ⟨#[]⟩,.int .i64 0,.string ⟨#[]⟩,.int .i64 0,.int .i64 0] 61) b H1 →
  ∀ bN H2,Newb H1 (.cells #[.int .i64 0,.string ⟨#[]⟩,.int .i64 0,.string ⟨#[]⟩,.int .i64 0,.int .i64 0] 61) bN H2 →
  StL ⟨bN,0,none⟩ 0 [.int .i64 0,.string ⟨#[]⟩,.int .i64 0,.string ⟨#[]⟩,.int .i64 0,.int .i64 (-1)] H2 fun H3=>
  (∃ J:ByteArray→Bool→Hp→Prop,(∀ (s1:ByteArray) (ok:Bool),∀ H4,J s1 ok H4→∀ scr:Nat →
  Value,CallF Tryz.prog 114 #[.string s1] H4 (fun r H5=>∃ y_0 y_1:ByteArray,r = .tuple #[.string y_0,.string y_1] ∧
  (((beqS y_1 ⟨#[]⟩)=true→StL ⟨bN,0,none⟩ 0 [.int .i64 5] H5 fun H6=>(StL ⟨bN,3,none⟩ 0 [.string y_0] H6 fun H7=>
  (∃ (x_a:Int) (x_b:ByteArray) (x_c:Int) (x_d:ByteArray) (x_e x_f:Int),(hcell H7 ⟨bN,0,none⟩=some (.int .i64 x_a) ∧
  hcell H7 ⟨bN,1,none⟩=some (.string x_b)∧hcell H7 ⟨bN,2,none⟩=some (.int .i64 x_c)∧hcell H7 ⟨bN,3,none⟩=some (.string x_d) ∧
  hcell H7 ⟨bN,4,none⟩=some (.int .i64 x_e)∧hcell H7 ⟨bN,5,none⟩=some (.int .i64 x_f)∧True) ∧
  StL ⟨b,0,none⟩ 0 [.int .i64 x_a,.string x_b,.int .i64 x_c,.string x_d,.int .i64 x_e,.int .i64 x_f] H7 fun H8=>
  (∃ (res_a:Int) (res_b:ByteArray) (res_c:Int) (res_d:ByteArray) (res_e res_f:Int),(W62_1 H8 b res_a res_b res_c res_d res_e res_f)∧K (.tuple #[.agg #[.int .i64 res_a,.string res_b,.int .i64 res_c,.string res_d,.int .i64 res_e,.int .i64 res_f],.bool true]) H8)))) ∧
  ((beqS y_1 ⟨#[]⟩)=false→StL ⟨bN,1,none⟩ 0 [.string y_0] H5 fun H9=>(∃ J1:Bool→ByteArray →
  Hp→Prop,(∀ (ok1:Bool) (rest:ByteArray),∀ H10,J1 ok1 rest H10→∀ scr1:Nat→Value,IxS rest 0 fun c=>
  (CallF Tryz.prog 112 #[.string ⟨#[32,46,36,64,40,32,37,35]⟩,.int .u8 c] H10 (fun r1 H11=>
  ∃ y:Int,r1 = .int .i64 y∧StL ⟨bN,0,none⟩ 0 [.int .i64 y] H11 fun H12=>(∃ J2:Bool→Hp →
  Prop,(∀ (ok2:Bool),∀ H13,J2 ok2 H13→∀ scr2:Nat→Value,∃ (x_a1:Int) (x_b1:ByteArray) (x_c1:Int) (x_d1:ByteArray) (x_e1 x_f1:Int),(W62_1 H13 bN x_a1 x_b1 x_c1 x_d1 x_e1 x_f1)∧StL ⟨b,0,none⟩ 0 [.int .i64 x_a1,.string x_b1,.int .i64 x_c1,.string x_d1,.int .i64 x_e1,.int .i64 x_f1] H13 fun H14=>
  (∃ (res_a1:Int) (res_b1:ByteArray) (res_c1:Int) (res_d1:ByteArray) (res_e1 res_f1:Int),(W62_1 H14 b res_a1 res_b1 res_c1 res_d1 res_e1 res_f1)∧K (.tuple #[.agg #[.int .i64 res_a1,.string res_b1,.int .i64 res_c1,.string res_d1,.int .i64 res_e1,.int .i64 res_f1],.bool ok2]) H14)) ∧
  SlS rest 1 (rest.size:Int) fun cut=>(∃ x:Int,hcell H12 ⟨bN,0,none⟩=some (.int .i64 x) ∧
  ∃ J3:Bool→Hp→Prop,(∀ (t72:Bool),∀ H15,J3 t72 H15→∀ scr3:Nat→Value,((t72=true →
  StL ⟨bN,3,none⟩ 0 [.string cut] H15 fun H16=>(J2 ok1 H16))∧(t72=false→(((x == 4)=true →
  ∃ (x_a2:Int) (x_b2:ByteArray) (x_c2:Int) (x_d2:ByteArray) (x_e2 x_f2:Int),(W62_1 H15 bN x_a2 x_b2 x_c2 x_d2 x_e2 x_f2)∧StL ⟨b,0,none⟩ 0 [.int .i64 x_a2,.string x_b2,.int .i64 x_c2,.string x_d2,.int .i64 x_e2,.int .i64 x_f2] H15 fun H17=>
  (∃ (res_a2:Int) (res_b2:ByteArray) (res_c2:Int) (res_d2:ByteArray) (res_e2 res_f2:Int),(W62_1 H17 b res_a2 res_b2 res_c2 res_d2 res_e2 res_f2)∧K (.tuple #[.agg #[.int .i64 res_a2,.string res_b2,.int .i64 res_c2,.string res_d2,.int .i64 res_e2,.int .i64 res_f2],.bool (beqS cut ⟨#[41]⟩)]) H17)) ∧
  ((x == 4)=false→∃ J4:Bool→Hp→Prop,(∀ (t82:Bool),∀ H18,J4 t82 H18→∀ scr4:Nat →
  Value,((t82=true→CallF Tryz.prog 113 #[.string cut] H18 (fun r2 H19=>∃ (y_01:Int) (y_11:Bool),r2 = .tuple #[.int .i64 y_01,.bool y_11] ∧
  StL ⟨bN,4,none⟩ 0 [.int .i64 y_01] H19 fun H20=>(J2 y_11 H20)) Z)∧(t82=false→(J2 false H18)))) ∧
  (((x == 2)=true→(J4 (x == 2) H15))∧((x == 2)=false→(((x == 3)=true→(J4 (x == 3) H15)) ∧
  ((x == 3)=false→(J4 (x == 7) H15))))))))))∧(((x == 1)=true→(J3 (x == 1) H12))∧((x == 1)=false →
  (J3 (x == 6) H12)))))) Z))∧IxS y_1 0 fun c1=>(((c1 == 126)=true→SlS y_1 1 (y_1.size:Int) fun cut1=>
  (CallF Tryz.prog 114 #[.string cut1] H9 (fun r3 H21=>∃ y_02 y_12:ByteArray,r3 = .tuple #[.string y_02,.string y_12] ∧
  CallF Tryz.prog 113 #[.string y_02] H21 (fun r4 H22=>∃ (y_03:Int) (y_13:Bool),r4 = .tuple #[.int .i64 y_03,.bool y_13] ∧
  StL ⟨bN,2,none⟩ 0 [.int .i64 y_03] H22 fun H23=>(∃ J5:Bool→Hp→Prop,(∀ (t62:Bool),∀ H24,J5 t62 H24 →
  ∀ scr5:Nat→Value,((t62=true→∃ (x_a3:Int) (x_b3:ByteArray) (x_c3:Int) (x_d3:ByteArray) (x_e3 x_f3:Int),(W62_1 H24 bN x_a3 x_b3 x_c3 x_d3 x_e3 x_f3)∧StL ⟨b,0,none⟩ 0 [.int .i64 x_a3,.string x_b3,.int .i64 x_c3,.string x_d3,.int .i64 x_e3,.int .i64 x_f3] H24 fun H25=>
  (∃ (res_a3:Int) (res_b3:ByteArray) (res_c3:Int) (res_d3:ByteArray) (res_e3 res_f3:Int),(W62_1 H25 b res_a3 res_b3 res_c3 res_d3 res_e3 res_f3)∧K (.tuple #[.agg #[.int .i64 res_a3,.string res_b3,.int .i64 res_c3,.string res_d3,.int .i64 res_e3,.int .i64 res_f3],.bool false]) H25)) ∧
  (t62=false→(J1 y_13 y_12 H24))))∧(((!y_13)=true→(J5 true H23))∧((!y_13)=false→(J5 (beqS y_12 ⟨#[]⟩) H23))))) Z) Z)) ∧
  ((c1 == 126)=false→(J1 ok y_1 H9))))))) Z)∧CallF Tryz.prog 112 #[.string s,.int .u8 43] H3 (fun r5 H26=>
  ∃ y1:Int,r5 = .int .i64 y1∧(((decide (y1≥0))=true→SlS s (w64 (y1+1)) (s.size:Int) fun cut2=>
  (CallF Tryz.prog 113 #[.string cut2] H26 (fun r6 H27=>∃ (y_04:Int) (y_14:Bool),r6 = .tuple #[.int .i64 y_04,.bool y_14] ∧
  StL ⟨bN,5,none⟩ 0 [.int .i64 y_04] H27 fun H28=>(((!y_14)=true→∃ (x_a4:Int) (x_b4:ByteArray) (x_c4:Int) (x_d4:ByteArray) (x_e4 x_f4:Int),(W62_1 H28 bN x_a4 x_b4 x_c4 x_d4 x_e4 x_f4)∧StL ⟨b,0,none⟩ 0 [.int .i64 x_a4,.string x_b4,.int .i64 x_c4,.string x_d4,.int .i64 x_e4,.int .i64 x_f4] H28 fun H29=>
  (∃ (res_a4:Int) (res_b4:ByteArray) (res_c4:Int) (res_d4:ByteArray) (res_e4 res_f4:Int),(W62_1 H29 b res_a4 res_b4 res_c4 res_d4 res_e4 res_f4)∧K (.tuple #[.agg #[.int .i64 res_a4,.string res_b4,.int .i64 res_c4,.string res_d4,.int .i64 res_e4,.int .i64 res_f4],.bool false]) H29)) ∧
  ((!y_14)=false→SlS s 0 y1 fun cut3=>(J cut3 y_14 H28)))) Z))∧((decide (y1≥0))=false →
  (J s true H26)))) Z)
def aJ62:Ann:=(fun k=>if k=9 then some [(0,(.sc .str)),(5,(.sc .bool))] else if k=18 then some [(62,(.sc .bool))] else if k=19 then some [(5,(.sc .bool)),(8,(.sc .str))] else if k=25 then some [(72,(.sc .bool))] else if k=31 then some [(82,(.sc .bool))] else if k=32 then some [(5,(.sc .bool))] else none)
theorem V62_ok {H s K Z} (h:V62 H s K Z):CallF Tryz.prog 62 #[.string s] H K Z:=
 fnC_sound (aJ:=aJ62) (aL:=fun _=>none) (Eq.mp (by kernel_rfl) h)
def V90 (H:Hp) (obj:ByteArray) (k:Int) (K:Value→Hp→Prop) (Z:List PanicEntry→Hp→Prop):Prop:=
 CallF Tryz.prog 22 #[.string obj] H (fun r H1=>∃ (y_0_a:Int) (y_0_b:ByteArray) (y_0_c:Int) (y_0_d:ByteArray) (y_0_e y_0_f y_1:Int),r = .tuple #[.agg #[.int .i64 y_0_a,.string y_0_b,.int .i64 y_0_c,.string y_0_d,.int .i64 y_0_e,.int .i64 y_0_f],.int .i64 y_1] ∧
  ∀ bN H2,Newb H1 (.cells #[.int .i64 0,.string ⟨#[]⟩,.int .i64 0,.string ⟨#[]⟩,.int .i64 0,.int .i64 0] 61) bN H2 →
  StL ⟨bN,0,none⟩ 0 [.int .i64 y_0_a,.string y_0_b,.int .i64 y_0_c,.string y_0_d,.int .i64 y_0_e,.int .i64 y_0_f] H2 fun H3=>
  (((y_1 != 0)=true→K (.string ⟨#[]⟩) H3)∧((y_1 != 0)=false→∃ x:Int,hcell H3 ⟨bN,0,none⟩=some (.int .i64 x) ∧
  (((decide (x < 5))=true→K (.string ⟨#[]⟩) H3)∧((decide (x < 5))=false→∃ x1:Int,hcell H3 ⟨bN,5,none⟩=some (.int .i64 x1) ∧
  (((x1 != (-1))=true→K (.string ⟨#[]⟩) H3)∧((x1 != (-1))=false→(((decide (k < 0))=true →
  K (.string ⟨#[]⟩) H3)∧((decide (k < 0))=false→StL ⟨bN,5,none⟩ 0 [.int .i64 k] H3 fun H4=>
  (∃ (x_a:Int) (x_b:ByteArray) (x_c:Int) (x_d:ByteArray) (x_e x_f:Int),(hcell H4 ⟨bN,0,none⟩=some (.int .i64 x_a) ∧
  hcell H4 ⟨bN,1,none⟩=some (.string x_b)∧hcell H4 ⟨bN,2,none⟩=some (.int .i64 x_c)∧hcell H4 ⟨bN,3,none⟩=some (.string x_d) ∧
  hcell H4 ⟨bN,4,none⟩=some (.int .i64 x_e)∧hcell H4 ⟨bN,5,none⟩=some (.int .i64 x_f)∧True) ∧
  CallF Tryz.prog 81 #[.agg #[.int .i64 x_a,.string x_b,.int .i64 x_c,.string x_d,.int .i64 x_e,.int .i64 x_f]] H4 (fun r1 H5=>
  ∃ (y_0:ByteArray) (y_11:Int),r1 = .tuple #[.string y_0,.int .i64 y_11]∧K (.string y_0) H5) Z)))))))))) Z
theorem V90_ok {H obj k K Z} (h:V90 H obj k K Z):CallF Tryz.prog 90 #[.string obj,.int .i64 k] H K Z:=
 fnC_sound (aJ:=fun _=>none) (aL:=fun _=>none) (Eq.mp (by kernel_rfl) h)
end Go.Proofs.YtjdhjgfmloaglaaGreatDoor.N14
end
section
set_option maxRecDepth 100000
namespace Go.Proofs.YtjdhjgfmloaglaaGreatDoor.N01
open Go Go.V Go.Proofs
def V158 (H:Hp) (c:Int) (K:Value→Hp→Prop) (Z:List PanicEntry→Hp→Prop):Prop:=
 (((decide (c≥48))=true→(((decide (c≤57))=true→K (.int .i64 1) H)∧((decide (c≤57))=false →
  (((decide (c≥65))=true→(((decide (c≤90))=true→(((decide (c≤90))=true→K (.int .i64 2) H) ∧
  ((decide (c≤90))=false→K (.int .i64 0) H)))∧((decide (c≤90))=false→(((decide (c≥97))=true →
  (((decide (c≤122))=true→(((decide (c≤122))=true→K (.int .i64 2) H)∧((decide (c≤122))=false →
  K (.int .i64 0) H)))∧((decide (c≤122))=false→(((c == 95)=true→K (.int .i64 2) H)∧((c == 95)=false →
  K (.int .i64 0) H)))))∧((decide (c≥97))=false→(((c == 95)=true→K (.int .i64 2) H)∧((c == 95)=false →
  K (.int .i64 0) H)))))))∧((decide (c≥65))=false→(((decide (c≥97))=true→(((decide (c≤122))=true →
  (((decide (c≤122))=true→K (.int .i64 2) H)∧((decide (c≤122))=false→K (.int .i64 0) H))) ∧
  ((decide (c≤122))=false→(((c == 95)=true→K (.int .i64 2) H)∧((c == 95)=false→K (.int .i64 0) H))))) ∧
  ((decide (c≥97))=false→(((c == 95)=true→K (.int .i64 2) H)∧((c == 95)=false→K (.int .i64 0) H))))))))) ∧
  ((decide (c≥48))=false→(((decide (c≥65))=true→(((decide (c≤90))=true→(((decide (c≤90))=true →
  K (.int .i64 2) H)∧((decide (c≤90))=false→K (.int .i64 0) H)))∧((decide (c≤90))=false →
  (((decide (c≥97))=true→(((decide (c≤122))=true→(((decide (c≤122))=true→K (.int .i64 2) H) ∧
  ((decide (c≤122))=false→K (.int .i64 0) H)))∧((decide (c≤122))=false→(((c == 95)=true →
  K (.int .i64 2) H)∧((c == 95)=false→K (.int .i64 0) H)))))∧((decide (c≥97))=false→(((c == 95)=true →
  K (.int .i64 2) H)∧((c == 95)=false→K (.int .i64 0) H)))))))∧((decide (c≥65))=false →
  (((decide (c≥97))=true→(((decide (c≤122))=true→(((decide (c≤122))=true→K (.int .i64 2) H) ∧
  ((decide (c≤122))=false→K (.int .i64 0) H)))∧((decide (c≤122))=false→(((c == 95)=true →
  K (.int .i64 2) H)∧((c == 95)=false→K (.int .i64 0) H)))))∧((decide (c≥97))=false→(((c == 95)=true →
  K (.int .i64 2) H)∧((c == 95)=false→K (.int .i64 0) H))))))))
theorem V158_ok {H c K Z} (h:V158 H c K Z):CallF Tryz.prog 158 #[.int .u8 c] H K Z:=
 fnC_sound (aJ:=fun _=>none) (aL:=fun _=>none) (Eq.mp (by kernel_rfl) h)
def V118 (H:Hp) (n:Int) (K:Value→Hp→Prop) (Z:List PanicEntry→Hp→Prop):Prop:=
 CallF Tryz.prog 161 #[.int .i64 n] H (fun r H1=>∃ y:ByteArray,r = .string y∧K (.string y) H1) Z
theorem V118_ok {H n K Z} (h:V118 H n K Z):CallF Tryz.prog 118 #[.int .i64 n] H K Z:=
 fnC_sound (aJ:=fun _=>none) (aL:=fun _=>none) (Eq.mp (by kernel_rfl) h)
def V157 (H:Hp) (s:ByteArray) (K:Value→Hp→Prop) (Z:List PanicEntry→Hp→Prop):Prop:=
 (((beqS s ⟨#[]⟩)=true→K (.tuple #[.int .i64 0,.int .i64 1]) H)∧((beqS s ⟨#[]⟩)=false→∃ I:Int →
  Hp→Nat→Prop,(∃ m,I 0 H m)∧∀ (t11:Int),∀ H1 m1,I t11 H1 m1→∀ scr:Nat→Value,(((decide (t11 < (s.size:Int)))=true →
  IxS s t11 fun c=>(CallF Tryz.prog 158 #[.int .u8 c] H1 (fun r H2=>∃ y:Int,r = .int .i64 y ∧
  (((y != 1)=true→K (.tuple #[.int .i64 0,.int .i64 3]) H2)∧((y != 1)=false→(∃ m2,m2 < m1 ∧
  I (w64 (t11+1)) H2 m2)))) Z))∧((decide (t11 < (s.size:Int)))=false→IxS s 0 fun c1=>(((c1 == 48)=true →
  (((decide ((s.size:Int) > 1))=true→K (.tuple #[.int .i64 0,.int .i64 3]) H1)∧((decide ((s.size:Int) > 1))=false →
  (((decide ((s.size:Int) > 9))=true→K (.tuple #[.int .i64 0,.int .i64 2]) H1)∧((decide ((s.size:Int) > 9))=false →
  CallF Tryz.prog 185 #[.string s] H1 (fun r1 H3=>∃ (y_0:Int) (y_1:Value),r1 = .tuple #[.int .i64 y_0,y_1] ∧
  NilI y_1 fun isNil=>(((!isNil)=true→K (.tuple #[.int .i64 0,.int .i64 2]) H3)∧((!isNil)=false →
  (((decide (y_0 > 268435456))=true→K (.tuple #[.int .i64 0,.int .i64 2]) H3)∧((decide (y_0 > 268435456))=false →
  K (.tuple #[.int .i64 y_0,.int .i64 0]) H3))))) Z)))))∧((c1 == 48)=false→(((decide ((s.size:Int) > 9))=true →
  K (.tuple #[.int .i64 0,.int .i64 2]) H1)∧((decide ((s.size:Int) > 9))=false→CallF Tryz.prog 185 #[.string s] H1 (fun r2 H4=>
  ∃ (y_01:Int) (y_11:Value),r2 = .tuple #[.int .i64 y_01,y_11]∧NilI y_11 fun isNil1=>(((!isNil1)=true →
  K (.tuple #[.int .i64 0,.int .i64 2]) H4)∧((!isNil1)=false→(((decide (y_01 > 268435456))=true →
  K (.tuple #[.int .i64 0,.int .i64 2]) H4)∧((decide (y_01 > 268435456))=false→K (.tuple #[.int .i64 y_01,.int .i64 0]) H4))))) Z))))))))
def aL157:Ann:=(fun k=>if k=4 then some [(11,(.sc (.int .i64)))] else none)
theorem V157_ok {H s K Z} (h:V157 H s K Z):CallF Tryz.prog 157 #[.string s] H K Z:=
 fnC_sound (aJ:=fun _=>none) (aL:=aL157) (Eq.mp (by kernel_rfl) h)
def V115 (H:Hp) (s:ByteArray) (K:Value→Hp→Prop) (Z:List PanicEntry→Hp→Prop):Prop:=
 CallF Tryz.prog 114 #[.string s] H (fun r H1=>∃ y_0 y_1:ByteArray,r = .tuple #[.string y_0,.string y_1] ∧
  (((!(beqS y_0 ⟨#[]⟩))=true→(((beqS y_1 ⟨#[]⟩)=true→(((decide ((s.size:Int)≤16))=true →
  IxS s 0 fun c=>(CallF Tryz.prog 158 #[.int .u8 c] H1 (fun r1 H2=>∃ y:Int,r1 = .int .i64 y ∧
  K (.bool (y == 2)) H2) Z))∧((decide ((s.size:Int)≤16))=false→K (.bool false) H1)))∧((beqS y_1 ⟨#[]⟩)=false →
  K (.bool false) H1)))∧((!(beqS y_0 ⟨#[]⟩))=false→K (.bool false) H1))) Z
theorem V115_ok {H s K Z} (h:V115 H s K Z):CallF Tryz.prog 115 #[.string s] H K Z:=
 fnC_sound (aJ:=fun _=>none) (aL:=fun _=>none) (Eq.mp (by kernel_rfl) h)
def V114 (H:Hp) (s:ByteArray) (K:Value→Hp→Prop) (Z:List PanicEntry→Hp→Prop):Prop:=
 (((beqS s ⟨#[]⟩)=true→K (.tuple #[.string ⟨#[]⟩,.string ⟨#[]⟩]) H)∧((beqS s ⟨#[]⟩)=false →
  IxS s 0 fun c=>(CallF Tryz.prog 158 #[.int .u8 c] H (fun r H1=>∃ y:Int,r = .int .i64 y∧(((y != 2)=true →
  CallF Tryz.prog 159 #[.string s,.string ⟨#[48,49,50,51,52,53,54,55,56,57]⟩] H1 (fun r1 H2=>
  ∃ y1:ByteArray,r1 = .string y1∧SlS s 0 (w64 ((s.size:Int) - (y1.size:Int))) fun cut=>(K (.tuple #[.string cut,.string y1]) H2)) Z) ∧
  ((y != 2)=false→∃ I:Int→Hp→Nat→Prop,(∃ m,I 0 H1 m)∧∀ (t25:Int),∀ H3 m1,I t25 H3 m1 →
  ∀ scr:Nat→Value,(((decide (t25 < (s.size:Int)))=true→IxS s t25 fun c1=>(CallF Tryz.prog 158 #[.int .u8 c1] H3 (fun r2 H4=>
  ∃ y2:Int,r2 = .int .i64 y2∧(((decide (y2 < 1))=true→SlS s 0 t25 fun cut1=>(SlS s t25 (s.size:Int) fun cut2=>
  (K (.tuple #[.string cut1,.string cut2]) H4)))∧((decide (y2 < 1))=false→(∃ m2,m2 < m1∧I (w64 (t25+1)) H4 m2)))) Z)) ∧
  ((decide (t25 < (s.size:Int)))=false→K (.tuple #[.string s,.string ⟨#[]⟩]) H3))))) Z)))
def aL114:Ann:=(fun k=>if k=8 then some [(25,(.sc (.int .i64)))] else none)
theorem V114_ok {H s K Z} (h:V114 H s K Z):CallF Tryz.prog 114 #[.string s] H K Z:=
 fnC_sound (aJ:=fun _=>none) (aL:=aL114) (Eq.mp (by kernel_rfl) h)
end Go.Proofs.YtjdhjgfmloaglaaGreatDoor.N01
end
section
set_option maxRecDepth 100000
namespace Go.Proofs.YtjdhjgfmloaglaaGreatDoor.S01
open Go Go.Proofs Go.Shelf
def lays_itoa_ren:Go.Shelf.Ren:=⟨fun | 171=>161 | 243=>187 | 246=>207 | 283=>227 | 284=>228 | 285=>229 | 286=>230 | 129=>244 | 317=>243 | 318=>245 | 319=>246 | 320=>247 | 337=>250 | 338=>251 | n=>n,fun | 3=>3 | 9=>9 | 2=>2 | 4=>4 | 171=>259 | 0=>0 | 53=>260 | 37=>161 | 5=>5 | 173=>263 | 212=>280 | 51=>271 | 20=>20 | 213=>281 | 46=>181 | 232=>288 | 233=>289 | n=>n,fun | 17=>5 | 18=>6 | 19=>7 | n=>n⟩
theorem lays_itoa:Go.Proofs.LaysM.n171 Tryz.prog lays_itoa_ren where
 mixed:=by kernel_rfl
 f129:=Tryz.func244.trans (congrArg some (by kernel_rfl))
 f171:=Tryz.func161.trans (congrArg some (by kernel_rfl))
 f243:=Tryz.func187.trans (congrArg some (by kernel_rfl))
 f246:=Tryz.func207.trans (congrArg some (by kernel_rfl))
 f283:=Tryz.func227.trans (congrArg some (by kernel_rfl))
 f284:=Tryz.func228.trans (congrArg some (by kernel_rfl))
 f285:=Tryz.func229.trans (congrArg some (by kernel_rfl))
 f286:=Tryz.func230.trans (congrArg some (by kernel_rfl))
 f317:=Tryz.func243.trans (congrArg some (by kernel_rfl))
 f318:=Tryz.func245.trans (congrArg some (by kernel_rfl))
 f319:=Tryz.func246.trans (congrArg some (by kernel_rfl))
 f320:=Tryz.func247.trans (congrArg some (by kernel_rfl))
 f337:=Tryz.func250.trans (congrArg some (by kernel_rfl))
 f338:=Tryz.func251.trans (congrArg some (by kernel_rfl))
 t0:=Tryz.underlying0
 a0:=Tryz.isAgg0
 z0:=Tryz.sizeOf0
 v0:=Tryz.zeroValue0
 t2:=Tryz.underlying2
 a2:=Tryz.isAgg2
 z2:=Tryz.sizeOf2
 v2:=Tryz.zeroValue2
 t3:=Tryz.underlying3
 a3:=Tryz.isAgg3
 z3:=Tryz.sizeOf3
 v3:=Tryz.zeroValue3
 t4:=Tryz.underlying4
 a4:=Tryz.isAgg4
 z4:=Tryz.sizeOf4
 v4:=Tryz.zeroValue4
 t5:=Tryz.underlying5
 a5:=Tryz.isAgg5
 z5:=Tryz.sizeOf5
 v5:=Tryz.zeroValue5
 t9:=Tryz.underlying9
 a9:=Tryz.isAgg9
 z9:=Tryz.sizeOf9
 v9:=Tryz.zeroValue9
 t20:=Tryz.underlying20
 a20:=Tryz.isAgg20
 z20:=Tryz.sizeOf20
 v20:=Tryz.zeroValue20
 t37:=Tryz.underlying161
 a37:=Tryz.isAgg161
 z37:=Tryz.sizeOf161
 v37:=Tryz.zeroValue161
 t46:=Tryz.underlying181
 a46:=Tryz.isAgg181
 z46:=Tryz.sizeOf181
 v46:=Tryz.zeroValue181
 t51:=Tryz.underlying271
 a51:=Tryz.isAgg271
 z51:=Tryz.sizeOf271
 v51:=Tryz.zeroValue271
 t53:=Tryz.underlying260
 a53:=Tryz.isAgg260
 z53:=Tryz.sizeOf260
 v53:=Tryz.zeroValue260
 t171:=Tryz.underlying259
 a171:=Tryz.isAgg259
 z171:=Tryz.sizeOf259
 v171:=Tryz.zeroValue259
 t173:=Tryz.underlying263
 a173:=Tryz.isAgg263
 z173:=Tryz.sizeOf263
 v173:=Tryz.zeroValue263
 t212:=Tryz.underlying280
 a212:=Tryz.isAgg280
 z212:=Tryz.sizeOf280
 v212:=Tryz.zeroValue280
 t213:=Tryz.underlying281
 a213:=Tryz.isAgg281
 z213:=Tryz.sizeOf281
 t232:=Tryz.underlying288
 a232:=Tryz.isAgg288
 z232:=Tryz.sizeOf288
 v232:=Tryz.zeroValue288
 t233:=Tryz.underlying289
 a233:=Tryz.isAgg289
 z233:=Tryz.sizeOf289
 v233:=Tryz.zeroValue289
 g17:=by kernel_rfl
 g18:=by kernel_rfl
 g19:=by kernel_rfl
 i0:=by kernel_rfl
 i2:=by kernel_rfl
 i3:=by kernel_rfl
 i4:=by kernel_rfl
 i5:=by kernel_rfl
 i9:=by kernel_rfl
 i20:=by kernel_rfl
 i37:=by kernel_rfl
 i46:=by kernel_rfl
 i51:=by kernel_rfl
 i53:=by kernel_rfl
 i171:=by kernel_rfl
 i173:=by kernel_rfl
 i212:=by kernel_rfl
 i232:=by kernel_rfl
 i233:=by kernel_rfl
 m17:=by kernel_rfl
 m18:=by kernel_rfl
 m19:=by kernel_rfl
def lays_atoi_ren:Go.Shelf.Ren:=⟨fun | 172=>185 | 244=>205 | 245=>206 | 247=>222 | 279=>223 | 280=>224 | 281=>225 | 282=>226 | 287=>240 | 316=>241 | 171=>161 | 205=>242 | 321=>248 | 322=>249 | 243=>187 | 246=>207 | 283=>227 | 284=>228 | 285=>229 | 286=>230 | 129=>244 | 317=>243 | 318=>245 | 319=>246 | 320=>247 | 337=>250 | 338=>251 | n=>n,fun | 9=>9 | 3=>3 | 75=>165 | 76=>166 | 4=>4 | 5=>5 | 167=>253 | 37=>161 | 0=>0 | 85=>254 | 2=>2 | 168=>256 | 53=>260 | 175=>274 | 46=>181 | 210=>277 | 127=>206 | 145=>286 | 143=>284 | 21=>21 | 171=>259 | 173=>263 | 212=>280 | 51=>271 | 20=>20 | 213=>281 | 232=>288 | 233=>289 | 80=>112 | n=>n,fun | 15=>3 | 16=>4 | 17=>5 | 18=>6 | 19=>7 | n=>n⟩
theorem lays_atoi:Go.Proofs.LaysC.n172 Tryz.prog lays_atoi_ren where
 mixed:=by kernel_rfl
 f129:=Tryz.func244.trans (congrArg some (by kernel_rfl))
 f171:=Tryz.func161.trans (congrArg some (by kernel_rfl))
 f172:=Tryz.func185.trans (congrArg some (by kernel_rfl))
 f205:=Tryz.func242.trans (congrArg some (by kernel_rfl))
 f243:=Tryz.func187.trans (congrArg some (by kernel_rfl))
 f244:=Tryz.func205.trans (congrArg some (by kernel_rfl))
 f245:=Tryz.func206.trans (congrArg some (by kernel_rfl))
 f246:=Tryz.func207.trans (congrArg some (by kernel_rfl))
 f247:=Tryz.func222.trans (congrArg some (by kernel_rfl))
 f279:=Tryz.func223.trans (congrArg some (by kernel_rfl))
 f280:=Tryz.func224.trans (congrArg some (by kernel_rfl))
 f281:=Tryz.func225.trans (congrArg some (by kernel_rfl))
 f282:=Tryz.func226.trans (congrArg some (by kernel_rfl))
 f283:=Tryz.func227.trans (congrArg some (by kernel_rfl))
 f284:=Tryz.func228.trans (congrArg some (by kernel_rfl))
 f285:=Tryz.func229.trans (congrArg some (by kernel_rfl))
 f286:=Tryz.func230.trans (congrArg some (by kernel_rfl))
 f287:=Tryz.func240.trans (congrArg some (by kernel_rfl))
 f316:=Tryz.func241.trans (congrArg some (by kernel_rfl))
 f317:=Tryz.func243.trans (congrArg some (by kernel_rfl))
 f318:=Tryz.func245.trans (congrArg some (by kernel_rfl))
 f319:=Tryz.func246.trans (congrArg some (by kernel_rfl))
 f320:=Tryz.func247.trans (congrArg some (by kernel_rfl))
 f321:=Tryz.func248.trans (congrArg some (by kernel_rfl))
 f322:=Tryz.func249.trans (congrArg some (by kernel_rfl))
 f337:=Tryz.func250.trans (congrArg some (by kernel_rfl))
 f338:=Tryz.func251.trans (congrArg some (by kernel_rfl))
 t0:=Tryz.underlying0
 a0:=Tryz.isAgg0
 z0:=Tryz.sizeOf0
 v0:=Tryz.zeroValue0
 t2:=Tryz.underlying2
 a2:=Tryz.isAgg2
 z2:=Tryz.sizeOf2
 v2:=Tryz.zeroValue2
 t3:=Tryz.underlying3
 a3:=Tryz.isAgg3
 z3:=Tryz.sizeOf3
 v3:=Tryz.zeroValue3
 t4:=Tryz.underlying4
 a4:=Tryz.isAgg4
 z4:=Tryz.sizeOf4
 v4:=Tryz.zeroValue4
 t5:=Tryz.underlying5
 a5:=Tryz.isAgg5
 z5:=Tryz.sizeOf5
 v5:=Tryz.zeroValue5
 t9:=Tryz.underlying9
 a9:=Tryz.isAgg9
 z9:=Tryz.sizeOf9
 v9:=Tryz.zeroValue9
 t20:=Tryz.underlying20
 a20:=Tryz.isAgg20
 z20:=Tryz.sizeOf20
 v20:=Tryz.zeroValue20
 t21:=Tryz.underlying21
 a21:=Tryz.isAgg21
 z21:=Tryz.sizeOf21
 v21:=Tryz.zeroValue21
 t37:=Tryz.underlying161
 a37:=Tryz.isAgg161
 z37:=Tryz.sizeOf161
 v37:=Tryz.zeroValue161
 t46:=Tryz.underlying181
 a46:=Tryz.isAgg181
 z46:=Tryz.sizeOf181
 v46:=Tryz.zeroValue181
 t51:=Tryz.underlying271
 a51:=Tryz.isAgg271
 z51:=Tryz.sizeOf271
 v51:=Tryz.zeroValue271
 t53:=Tryz.underlying260
 a53:=Tryz.isAgg260
 z53:=Tryz.sizeOf260
 v53:=Tryz.zeroValue260
 t75:=Tryz.underlying165
 a75:=Tryz.isAgg165
 z75:=Tryz.sizeOf165
 v75:=Tryz.zeroValue165
 t76:=Tryz.underlying166
 a76:=Tryz.isAgg166
 z76:=Tryz.sizeOf166
 v76:=Tryz.zeroValue166
 t85:=Tryz.underlying254
 a85:=Tryz.isAgg254
 z85:=Tryz.sizeOf254
 v85:=Tryz.zeroValue254
 t127:=Tryz.underlying206
 a127:=Tryz.isAgg206
 z127:=Tryz.sizeOf206
 v127:=Tryz.zeroValue206
 t143:=Tryz.underlying284
 a143:=Tryz.isAgg284
 z143:=Tryz.sizeOf284
 v143:=Tryz.zeroValue284
 t145:=Tryz.underlying286
 a145:=Tryz.isAgg286
 z145:=Tryz.sizeOf286
 v145:=Tryz.zeroValue286
 t167:=Tryz.underlying253
 a167:=Tryz.isAgg253
 z167:=Tryz.sizeOf253
 v167:=Tryz.zeroValue253
 t168:=Tryz.underlying256
 a168:=Tryz.isAgg256
 z168:=Tryz.sizeOf256
 v168:=Tryz.zeroValue256
 t171:=Tryz.underlying259
 a171:=Tryz.isAgg259
 z171:=Tryz.sizeOf259
 v171:=Tryz.zeroValue259
 t173:=Tryz.underlying263
 a173:=Tryz.isAgg263
 z173:=Tryz.sizeOf263
 v173:=Tryz.zeroValue263
 t175:=Tryz.underlying274
 a175:=Tryz.isAgg274
 z175:=Tryz.sizeOf274
 v175:=Tryz.zeroValue274
 t210:=Tryz.underlying277
 a210:=Tryz.isAgg277
 z210:=Tryz.sizeOf277
 v210:=Tryz.zeroValue277
 t212:=Tryz.underlying280
 a212:=Tryz.isAgg280
 z212:=Tryz.sizeOf280
 v212:=Tryz.zeroValue280
 t213:=Tryz.underlying281
 a213:=Tryz.isAgg281
 z213:=Tryz.sizeOf281
 t232:=Tryz.underlying288
 a232:=Tryz.isAgg288
 z232:=Tryz.sizeOf288
 v232:=Tryz.zeroValue288
 t233:=Tryz.underlying289
 a233:=Tryz.isAgg289
 z233:=Tryz.sizeOf289
 v233:=Tryz.zeroValue289
 g15:=by kernel_rfl
 g16:=by kernel_rfl
 g17:=by kernel_rfl
 g18:=by kernel_rfl
 g19:=by kernel_rfl
 t80:=Tryz.underlying112
 a80:=Tryz.isAgg112
 z80:=Tryz.sizeOf112
 v80:=Tryz.zeroValue112
 i0:=by kernel_rfl
 i2:=by kernel_rfl
 i3:=by kernel_rfl
 i4:=by kernel_rfl
 i5:=by kernel_rfl
 i9:=by kernel_rfl
 i20:=by kernel_rfl
 i21:=by kernel_rfl
 i37:=by kernel_rfl
 i46:=by kernel_rfl
 i51:=by kernel_rfl
 i53:=by kernel_rfl
 i75:=by kernel_rfl
 i76:=by kernel_rfl
 i80:=by kernel_rfl
 i85:=by kernel_rfl
 i127:=by kernel_rfl
 i143:=by kernel_rfl
 i145:=by kernel_rfl
 i167:=by kernel_rfl
 i168:=by kernel_rfl
 i171:=by kernel_rfl
 i173:=by kernel_rfl
 i175:=by kernel_rfl
 i210:=by kernel_rfl
 i212:=by kernel_rfl
 i232:=by kernel_rfl
 i233:=by kernel_rfl
 m15:=by kernel_rfl
 m16:=by kernel_rfl
 m17:=by kernel_rfl
 m18:=by kernel_rfl
 m19:=by kernel_rfl
 c0:=by kernel_rfl
 c2:=by kernel_rfl
 c3:=by kernel_rfl
 c4:=by kernel_rfl
 c5:=by kernel_rfl
 c9:=by kernel_rfl
 c20:=by kernel_rfl
 c21:=by kernel_rfl
 c37:=by kernel_rfl
 c46:=by kernel_rfl
 c51:=by kernel_rfl
 c53:=by kernel_rfl
 c75:=by kernel_rfl
 c76:=by kernel_rfl
 c80:=by kernel_rfl
 c85:=by kernel_rfl
 c127:=by kernel_rfl
 c143:=by kernel_rfl
 c145:=by kernel_rfl
 c167:=by kernel_rfl
 c168:=by kernel_rfl
 c171:=by kernel_rfl
 c173:=by kernel_rfl
 c175:=by kernel_rfl
 c210:=by kernel_rfl
 c212:=by kernel_rfl
 c213:=by kernel_rfl
 c232:=by kernel_rfl
 c233:=by kernel_rfl
def lays_trimLeft_ren:Go.Shelf.Ren:=⟨fun | 161=>159 | 231=>175 | 227=>177 | 233=>178 | 235=>180 | 228=>199 | 197=>200 | 151=>201 | 260=>216 | 152=>217 | 137=>112 | 119=>238 | 224=>220 | 225=>219 | 217=>156 | 266=>184 | n=>n,fun | 9=>9 | 4=>4 | 3=>3 | 5=>5 | 117=>225 | 116=>224 | 0=>0 | 124=>228 | 105=>243 | 21=>21 | 119=>266 | 46=>181 | 139=>269 | 138=>268 | n=>n,fun | 3=>1 | 4=>2 | n=>n⟩
theorem lays_trimLeft:Go.Proofs.Lays.n161 Tryz.prog lays_trimLeft_ren where
 mixed:=by kernel_rfl
 f119:=Tryz.func238.trans (congrArg some (by kernel_rfl))
 f137:=Tryz.func112.trans (congrArg some (by kernel_rfl))
 f151:=Tryz.func201.trans (congrArg some (by kernel_rfl))
 f152:=Tryz.func217.trans (congrArg some (by kernel_rfl))
 f161:=Tryz.func159.trans (congrArg some (by kernel_rfl))
 f197:=Tryz.func200.trans (congrArg some (by kernel_rfl))
 f217:=Tryz.func156.trans (congrArg some (by kernel_rfl))
 f224:=Tryz.func220.trans (congrArg some (by kernel_rfl))
 f225:=Tryz.func219.trans (congrArg some (by kernel_rfl))
 f227:=Tryz.func177.trans (congrArg some (by kernel_rfl))
 f228:=Tryz.func199.trans (congrArg some (by kernel_rfl))
 f231:=Tryz.func175.trans (congrArg some (by kernel_rfl))
 f233:=Tryz.func178.trans (congrArg some (by kernel_rfl))
 f235:=Tryz.func180.trans (congrArg some (by kernel_rfl))
 f260:=Tryz.func216.trans (congrArg some (by kernel_rfl))
 f266:=Tryz.func184.trans (congrArg some (by kernel_rfl))
 t0:=Tryz.underlying0
 a0:=Tryz.isAgg0
 z0:=Tryz.sizeOf0
 v0:=Tryz.zeroValue0
 t3:=Tryz.underlying3
 a3:=Tryz.isAgg3
 z3:=Tryz.sizeOf3
 v3:=Tryz.zeroValue3
 t4:=Tryz.underlying4
 a4:=Tryz.isAgg4
 z4:=Tryz.sizeOf4
 v4:=Tryz.zeroValue4
 t5:=Tryz.underlying5
 a5:=Tryz.isAgg5
 z5:=Tryz.sizeOf5
 v5:=Tryz.zeroValue5
 t9:=Tryz.underlying9
 a9:=Tryz.isAgg9
 z9:=Tryz.sizeOf9
 v9:=Tryz.zeroValue9
 t21:=Tryz.underlying21
 a21:=Tryz.isAgg21
 z21:=Tryz.sizeOf21
 v21:=Tryz.zeroValue21
 t46:=Tryz.underlying181
 a46:=Tryz.isAgg181
 z46:=Tryz.sizeOf181
 v46:=Tryz.zeroValue181
 t105:=Tryz.underlying243
 a105:=Tryz.isAgg243
 z105:=Tryz.sizeOf243
 v105:=Tryz.zeroValue243
 t116:=Tryz.underlying224
 a116:=Tryz.isAgg224
 z116:=Tryz.sizeOf224
 t117:=Tryz.underlying225
 a117:=Tryz.isAgg225
 z117:=Tryz.sizeOf225
 v117:=Tryz.zeroValue225
 t119:=Tryz.underlying266
 a119:=Tryz.isAgg266
 z119:=Tryz.sizeOf266
 t124:=Tryz.underlying228
 a124:=Tryz.isAgg228
 z124:=Tryz.sizeOf228
 v124:=Tryz.zeroValue228
 t138:=Tryz.underlying268
 a138:=Tryz.isAgg268
 z138:=Tryz.sizeOf268
 v138:=Tryz.zeroValue268
 t139:=Tryz.underlying269
 a139:=Tryz.isAgg269
 z139:=Tryz.sizeOf269
 v139:=Tryz.zeroValue269
 g3:=by kernel_rfl
 g4:=by kernel_rfl
def lays_indexByte_ren:Go.Shelf.Ren:=⟨fun | 137=>112 | 217=>156 | 266=>184 | n=>n,fun | 9=>9 | 5=>5 | 3=>3 | n=>n,fun | n=>n⟩
theorem lays_indexByte:Go.Proofs.Lays.n137 Tryz.prog lays_indexByte_ren where
 mixed:=by kernel_rfl
 f137:=Tryz.func112.trans (congrArg some (by kernel_rfl))
 f217:=Tryz.func156.trans (congrArg some (by kernel_rfl))
 f266:=Tryz.func184.trans (congrArg some (by kernel_rfl))
 t3:=Tryz.underlying3
 a3:=Tryz.isAgg3
 z3:=Tryz.sizeOf3
 v3:=Tryz.zeroValue3
 t5:=Tryz.underlying5
 a5:=Tryz.isAgg5
 z5:=Tryz.sizeOf5
 v5:=Tryz.zeroValue5
 t9:=Tryz.underlying9
 a9:=Tryz.isAgg9
 z9:=Tryz.sizeOf9
 v9:=Tryz.zeroValue9
def lays_trim_ren:Go.Shelf.Ren:=⟨fun | 160=>147 | 232=>176 | 231=>175 | 227=>177 | 234=>179 | 233=>178 | 236=>181 | 235=>180 | 228=>199 | 271=>202 | 151=>201 | 197=>200 | 120=>218 | 152=>217 | 260=>216 | 137=>112 | 119=>238 | 224=>220 | 225=>219 | 217=>156 | 266=>184 | n=>n,fun | 9=>9 | 4=>4 | 3=>3 | 5=>5 | 117=>225 | 116=>224 | 0=>0 | 124=>228 | 21=>21 | 105=>243 | 46=>181 | 119=>266 | 139=>269 | 138=>268 | n=>n,fun | 3=>1 | 4=>2 | n=>n⟩
theorem lays_trim:Go.Proofs.Lays.n160 Tryz.prog lays_trim_ren where
 mixed:=by kernel_rfl
 f119:=Tryz.func238.trans (congrArg some (by kernel_rfl))
 f120:=Tryz.func218.trans (congrArg some (by kernel_rfl))
 f137:=Tryz.func112.trans (congrArg some (by kernel_rfl))
 f151:=Tryz.func201.trans (congrArg some (by kernel_rfl))
 f152:=Tryz.func217.trans (congrArg some (by kernel_rfl))
 f160:=Tryz.func147.trans (congrArg some (by kernel_rfl))
 f197:=Tryz.func200.trans (congrArg some (by kernel_rfl))
 f217:=Tryz.func156.trans (congrArg some (by kernel_rfl))
 f224:=Tryz.func220.trans (congrArg some (by kernel_rfl))
 f225:=Tryz.func219.trans (congrArg some (by kernel_rfl))
 f227:=Tryz.func177.trans (congrArg some (by kernel_rfl))
 f228:=Tryz.func199.trans (congrArg some (by kernel_rfl))
 f231:=Tryz.func175.trans (congrArg some (by kernel_rfl))
 f232:=Tryz.func176.trans (congrArg some (by kernel_rfl))
 f233:=Tryz.func178.trans (congrArg some (by kernel_rfl))
 f234:=Tryz.func179.trans (congrArg some (by kernel_rfl))
 f235:=Tryz.func180.trans (congrArg some (by kernel_rfl))
 f236:=Tryz.func181.trans (congrArg some (by kernel_rfl))
 f260:=Tryz.func216.trans (congrArg some (by kernel_rfl))
 f266:=Tryz.func184.trans (congrArg some (by kernel_rfl))
 f271:=Tryz.func202.trans (congrArg some (by kernel_rfl))
 t0:=Tryz.underlying0
 a0:=Tryz.isAgg0
 z0:=Tryz.sizeOf0
 v0:=Tryz.zeroValue0
 t3:=Tryz.underlying3
 a3:=Tryz.isAgg3
 z3:=Tryz.sizeOf3
 v3:=Tryz.zeroValue3
 t4:=Tryz.underlying4
 a4:=Tryz.isAgg4
 z4:=Tryz.sizeOf4
 v4:=Tryz.zeroValue4
 t5:=Tryz.underlying5
 a5:=Tryz.isAgg5
 z5:=Tryz.sizeOf5
 v5:=Tryz.zeroValue5
 t9:=Tryz.underlying9
 a9:=Tryz.isAgg9
 z9:=Tryz.sizeOf9
 v9:=Tryz.zeroValue9
 t21:=Tryz.underlying21
 a21:=Tryz.isAgg21
 z21:=Tryz.sizeOf21
 v21:=Tryz.zeroValue21
 t46:=Tryz.underlying181
 a46:=Tryz.isAgg181
 z46:=Tryz.sizeOf181
 v46:=Tryz.zeroValue181
 t105:=Tryz.underlying243
 a105:=Tryz.isAgg243
 z105:=Tryz.sizeOf243
 v105:=Tryz.zeroValue243
 t116:=Tryz.underlying224
 a116:=Tryz.isAgg224
 z116:=Tryz.sizeOf224
 t117:=Tryz.underlying225
 a117:=Tryz.isAgg225
 z117:=Tryz.sizeOf225
 v117:=Tryz.zeroValue225
 t119:=Tryz.underlying266
 a119:=Tryz.isAgg266
 z119:=Tryz.sizeOf266
 t124:=Tryz.underlying228
 a124:=Tryz.isAgg228
 z124:=Tryz.sizeOf228
 v124:=Tryz.zeroValue228
 t138:=Tryz.underlying268
 a138:=Tryz.isAgg268
 z138:=Tryz.sizeOf268
 v138:=Tryz.zeroValue268
 t139:=Tryz.underlying269
 a139:=Tryz.isAgg269
 z139:=Tryz.sizeOf269
 v139:=Tryz.zeroValue269
 g3:=by kernel_rfl
 g4:=by kernel_rfl
def lays_index_ren:Go.Shelf.Ren:=⟨fun | 219=>203 | 217=>156 | 225=>219 | 224=>220 | 267=>221 | 266=>184 | 314=>239 | n=>n,fun | 9=>9 | 3=>3 | 4=>4 | 5=>5 | 46=>181 | 146=>272 | 51=>271 | n=>n,fun | 1=>0 | n=>n⟩
theorem lays_index:Go.Proofs.Lays.n219 Tryz.prog lays_index_ren where
 mixed:=by kernel_rfl
 f217:=Tryz.func156.trans (congrArg some (by kernel_rfl))
 f219:=Tryz.func203.trans (congrArg some (by kernel_rfl))
 f224:=Tryz.func220.trans (congrArg some (by kernel_rfl))
 f225:=Tryz.func219.trans (congrArg some (by kernel_rfl))
 f266:=Tryz.func184.trans (congrArg some (by kernel_rfl))
 f267:=Tryz.func221.trans (congrArg some (by kernel_rfl))
 f314:=Tryz.func239.trans (congrArg some (by kernel_rfl))
 t3:=Tryz.underlying3
 a3:=Tryz.isAgg3
 z3:=Tryz.sizeOf3
 v3:=Tryz.zeroValue3
 t4:=Tryz.underlying4
 a4:=Tryz.isAgg4
 z4:=Tryz.sizeOf4
 v4:=Tryz.zeroValue4
 t5:=Tryz.underlying5
 a5:=Tryz.isAgg5
 z5:=Tryz.sizeOf5
 v5:=Tryz.zeroValue5
 t9:=Tryz.underlying9
 a9:=Tryz.isAgg9
 z9:=Tryz.sizeOf9
 v9:=Tryz.zeroValue9
 t46:=Tryz.underlying181
 a46:=Tryz.isAgg181
 z46:=Tryz.sizeOf181
 v46:=Tryz.zeroValue181
 t51:=Tryz.underlying271
 a51:=Tryz.isAgg271
 z51:=Tryz.sizeOf271
 v51:=Tryz.zeroValue271
 t146:=Tryz.underlying272
 a146:=Tryz.isAgg272
 z146:=Tryz.sizeOf272
 v146:=Tryz.zeroValue272
 g1:=by kernel_rfl
end Go.Proofs.YtjdhjgfmloaglaaGreatDoor.S01
end
