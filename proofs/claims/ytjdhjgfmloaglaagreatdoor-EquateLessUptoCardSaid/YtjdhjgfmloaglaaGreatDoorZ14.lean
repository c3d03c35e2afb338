import Derived.Test.YtjdhjgfmloaglaaGreatDoorZ13
import Derived.Test.YtjdhjgfmloaglaaGreatDoorProg
set_option linter.unusedVariables false
set_option linter.unusedSimpArgs false
section
set_option maxRecDepth 100000
namespace Go.Proofs.YtjdhjgfmloaglaaGreatDoor.N16
open Go Go.V Go.Proofs
abbrev W23_1 (H7:Hp) (bOut:Nat) (Z:List PanicEntry→Hp→Prop) (b:Nat) (K:Value→Hp→Prop):Prop:=
 ∃ x3:Sl,hcell H7 ⟨bOut,0,none⟩=some (.slice x3.a x3.n x3.c)∧∃ I:Int→Hp→Nat→Prop,(∃ m,I 0 H7 m) ∧
  ∀ (t21:Int),∀ H8 m1,I t21 H8 m1→∀ scr:Nat→Value,(((decide (t21 < (x3.n:Int)))=true →
  IxA x3.a x3.n t21 3 fun ad=>(∃ (x_a x_b:ByteArray) (x_c:Sl),(hcell H8 ad=some (.string x_a) ∧
  hcell H8 (Addr.add ad 1)=some (.string x_b)∧hcell H8 (Addr.add ad 2)=some (.slice x_c.a x_c.n x_c.c) ∧
  True)∧∀ bO H9,Newb H8 (.cells #[.string ⟨#[]⟩,.string ⟨#[]⟩,.slice none 0 0] 52) bO H9→StL ⟨bO,0,none⟩ 0 [.string x_a,.string x_b,.slice x_c.a x_c.n x_c.c] H9 fun H10=>
  (∃ x4:Sl,hcell H10 ⟨bOut,0,none⟩=some (.slice x4.a x4.n x4.c)∧∃ x5:Sl,hcell H10 ⟨bO,2,none⟩=some (.slice x5.a x5.n x5.c) ∧
  CallF Tryz.prog 71 #[.slice x5.a x5.n x5.c] H10 (fun r3 H11=>∃ y3:Sl,r3 = .slice y3.a y3.n y3.c ∧
  (hcell H11 ⟨bOut,0,none⟩=some (.slice x4.a x4.n x4.c)∧IxA x4.a x4.n t21 3 fun ad1=>(StL (Addr.add ad1 2) 0 [.slice y3.a y3.n y3.c] H11 fun H12=>
  (∃ m2,m2 < m1∧I (w64 (t21+1)) H12 m2)))) Z)))∧((decide (t21 < (x3.n:Int)))=false→∃ x6:Sl,hcell H8 ⟨bOut,2,none⟩=some (.slice x6.a x6.n x6.c) ∧
  ∃ I1:Int→Hp→Nat→Prop,(∃ m3,I1 0 H8 m3)∧∀ (t38:Int),∀ H13 m4,I1 t38 H13 m4→∀ scr1:Nat →
  Value,(((decide (t38 < (x6.n:Int)))=true→IxA x6.a x6.n t38 6 fun ad2=>(∃ (x_a1:Int) (x_b1 x_c1:ByteArray) (x_d:Int) (x_e:ByteArray) (x_f:Sl),(hcell H13 ad2=some (.int .i64 x_a1) ∧
  hcell H13 (Addr.add ad2 1)=some (.string x_b1)∧hcell H13 (Addr.add ad2 2)=some (.string x_c1) ∧
  hcell H13 (Addr.add ad2 3)=some (.int .i64 x_d)∧hcell H13 (Addr.add ad2 4)=some (.string x_e) ∧
  hcell H13 (Addr.add ad2 5)=some (.slice x_f.a x_f.n x_f.c)∧True)∧∀ bC H14,Newb H13 (.cells #[.int .i64 0,.string ⟨#[]⟩,.string ⟨#[]⟩,.int .i64 0,.string ⟨#[]⟩,.slice none 0 0] 36) bC H14 →
  StL ⟨bC,0,none⟩ 0 [.int .i64 x_a1,.string x_b1,.string x_c1,.int .i64 x_d,.string x_e,.slice x_f.a x_f.n x_f.c] H14 fun H15=>
  (∃ x7:Sl,hcell H15 ⟨bOut,2,none⟩=some (.slice x7.a x7.n x7.c)∧∃ x8:Sl,hcell H15 ⟨bC,5,none⟩=some (.slice x8.a x8.n x8.c) ∧
  CallF Tryz.prog 31 #[.slice x8.a x8.n x8.c] H15 (fun r4 H16=>∃ y4:Sl,r4 = .slice y4.a y4.n y4.c ∧
  (hcell H16 ⟨bOut,2,none⟩=some (.slice x7.a x7.n x7.c)∧IxA x7.a x7.n t38 6 fun ad3=>(StL (Addr.add ad3 5) 0 [.slice y4.a y4.n y4.c] H16 fun H17=>
  (∃ m5,m5 < m4∧I1 (w64 (t38+1)) H17 m5)))) Z)))∧((decide (t38 < (x6.n:Int)))=false→∃ x_a2 x_b2 x_c2:Sl,(hcell H13 ⟨bOut,0,none⟩=some (.slice x_a2.a x_a2.n x_a2.c) ∧
  hcell H13 ⟨bOut,1,none⟩=some (.slice x_b2.a x_b2.n x_b2.c)∧hcell H13 ⟨bOut,2,none⟩=some (.slice x_c2.a x_c2.n x_c2.c) ∧
  True)∧StL ⟨b,0,none⟩ 0 [.slice x_a2.a x_a2.n x_a2.c,.slice x_b2.a x_b2.n x_b2.c,.slice x_c2.a x_c2.n x_c2.c] H13 fun H18=>
  (∃ res_a res_b res_c:Sl,(hcell H18 ⟨b,0,none⟩=some (.slice res_a.a res_a.n res_a.c) ∧
  hcell H18 ⟨b,1,none⟩=some (.slice res_b.a res_b.n res_b.c)∧hcell H18 ⟨b,2,none⟩=some (.slice res_c.a res_c.n res_c.c) ∧
  True)∧K (.agg #[.slice res_a.a res_a.n res_a.c,.slice res_b.a res_b.n res_b.c,.slice res_c.a res_c.n res_c.c]) H18)))))
def V23 (H:Hp) (s_a s_b s_c:Sl) (K:Value→Hp→Prop) (Z:List PanicEntry→Hp→Prop):Prop:=
 ∀ bS H1,Newb H (.cells #[.slice s_a.a s_a.n s_a.c,.slice s_b.a s_b.n s_b.c,.slice s_c.a s_c.n s_c.c] 26) bS H1 →
  ∀ b H2,Newb H1 (.cells #[.slice none 0 0,.slice none 0 0,.slice none 0 0] 26) b H2→∃ x:Sl,hcell H2 ⟨bS,0,none⟩=some (.slice x.a x.n x.c) ∧
  ∃ x1:Sl,hcell H2 ⟨bS,1,none⟩=some (.slice x1.a x1.n x1.c)∧∃ x2:Sl,hcell H2 ⟨bS,2,none⟩=some (.slice x2.a x2.n x2.c) ∧
  ((CallF Tryz.prog 65 #[.slice x.a x.n x.c,.func (.func 53) #[] #[],.func (.func 66) #[] #[]] H2 (fun r H3=>
  ∃ y:Sl,r = .slice y.a y.n y.c∧(hcell H3 ⟨bS,2,none⟩=some (.slice x2.a x2.n x2.c)∧(hcell H3 ⟨bS,1,none⟩=some (.slice x1.a x1.n x1.c) ∧
  ((CallF Tryz.prog 67 #[.slice x1.a x1.n x1.c,.func (.func 56) #[] #[],.func (.func 68) #[] #[]] H3 (fun r1 H4=>
  ∃ y1:Sl,r1 = .slice y1.a y1.n y1.c∧(hcell H4 ⟨bS,2,none⟩=some (.slice x2.a x2.n x2.c) ∧
  ((CallF Tryz.prog 69 #[.slice x2.a x2.n x2.c,.func (.func 59) #[] #[],.func (.func 70) #[] #[]] H4 (fun r2 H5=>
  ∃ y2:Sl,r2 = .slice y2.a y2.n y2.c∧((∀ bOut H6,Newb H5 (.cells #[.slice none 0 0,.slice none 0 0,.slice none 0 0] 26) bOut H6 →
  StL ⟨bOut,0,none⟩ 0 [.slice y.a y.n y.c,.slice y1.a y1.n y1.c,.slice y2.a y2.n y2.c] H6 fun H7=>
  (W23_1 H7 bOut Z b K)) ∧
  (∀ bOut1 H19,Newb H5 (.cells #[.slice none 0 0,.slice none 0 0,.slice none 0 0] 26) bOut1 H19 →
  StL ⟨bOut1,0,none⟩ 0 [.slice y.a y.n y.c,.slice y1.a y1.n y1.c,.slice y2.a y2.n y2.c] H19 fun H20=>
  (W23_1 H20 bOut1 Z b K)))) Z) ∧
  (∀ bOut2 H32,Newb H4 (.cells #[.slice none 0 0,.slice none 0 0,.slice none 0 0] 26) bOut2 H32 →
  (hcell H32 ⟨bS,2,none⟩=some (.slice x2.a x2.n x2.c)∧CallF Tryz.prog 69 #[.slice x2.a x2.n x2.c,.func (.func 59) #[] #[],.func (.func 70) #[] #[]] H32 (fun r7 H33=>
  ∃ y7:Sl,r7 = .slice y7.a y7.n y7.c∧StL ⟨bOut2,0,none⟩ 0 [.slice y.a y.n y.c,.slice y1.a y1.n y1.c,.slice y7.a y7.n y7.c] H33 fun H34=>
  (W23_1 H34 bOut2 Z b K)) Z))))) Z) ∧
  (∀ bOut3 H46,Newb H3 (.cells #[.slice none 0 0,.slice none 0 0,.slice none 0 0] 26) bOut3 H46 →
  (hcell H46 ⟨bS,2,none⟩=some (.slice x2.a x2.n x2.c)∧(hcell H46 ⟨bS,1,none⟩=some (.slice x1.a x1.n x1.c) ∧
  CallF Tryz.prog 67 #[.slice x1.a x1.n x1.c,.func (.func 56) #[] #[],.func (.func 68) #[] #[]] H46 (fun r10 H47=>
  ∃ y10:Sl,r10 = .slice y10.a y10.n y10.c∧(hcell H47 ⟨bS,2,none⟩=some (.slice x2.a x2.n x2.c) ∧
  CallF Tryz.prog 69 #[.slice x2.a x2.n x2.c,.func (.func 59) #[] #[],.func (.func 70) #[] #[]] H47 (fun r11 H48=>
  ∃ y11:Sl,r11 = .slice y11.a y11.n y11.c∧StL ⟨bOut3,0,none⟩ 0 [.slice y.a y.n y.c,.slice y10.a y10.n y10.c,.slice y11.a y11.n y11.c] H48 fun H49=>
  (W23_1 H49 bOut3 Z b K)) Z)) Z))))))) Z) ∧
  (∀ bOut4 H61,Newb H2 (.cells #[.slice none 0 0,.slice none 0 0,.slice none 0 0] 26) bOut4 H61 →
  (hcell H61 ⟨bS,2,none⟩=some (.slice x2.a x2.n x2.c)∧(hcell H61 ⟨bS,1,none⟩=some (.slice x1.a x1.n x1.c) ∧
  (hcell H61 ⟨bS,0,none⟩=some (.slice x.a x.n x.c)∧CallF Tryz.prog 65 #[.slice x.a x.n x.c,.func (.func 53) #[] #[],.func (.func 66) #[] #[]] H61 (fun r14 H62=>
  ∃ y14:Sl,r14 = .slice y14.a y14.n y14.c∧(hcell H62 ⟨bS,2,none⟩=some (.slice x2.a x2.n x2.c) ∧
  (hcell H62 ⟨bS,1,none⟩=some (.slice x1.a x1.n x1.c)∧CallF Tryz.prog 67 #[.slice x1.a x1.n x1.c,.func (.func 56) #[] #[],.func (.func 68) #[] #[]] H62 (fun r15 H63=>
  ∃ y15:Sl,r15 = .slice y15.a y15.n y15.c∧(hcell H63 ⟨bS,2,none⟩=some (.slice x2.a x2.n x2.c) ∧
  CallF Tryz.prog 69 #[.slice x2.a x2.n x2.c,.func (.func 59) #[] #[],.func (.func 70) #[] #[]] H63 (fun r16 H64=>
  ∃ y16:Sl,r16 = .slice y16.a y16.n y16.c∧StL ⟨bOut4,0,none⟩ 0 [.slice y14.a y14.n y14.c,.slice y15.a y15.n y15.c,.slice y16.a y16.n y16.c] H64 fun H65=>
  (W23_1 H65 bOut4 Z b K)) Z)) Z))) Z)))))
def aJ23:Ann:=(fun k=>if k=2000001 then some [] else if k=2000005 then some [] else if k=2000010 then some [] else none)
def aL23:Ann:=(fun k=>if k=3 then some [(21,(.sc (.int .i64)))] else if k=8 then some [(38,(.sc (.int .i64)))] else none)
theorem V23_ok {H s_a s_b s_c K Z} (h:V23 H s_a s_b s_c K Z):CallF Tryz.prog 23 #[.agg #[.slice s_a.a s_a.n s_a.c,.slice s_b.a s_b.n s_b.c,.slice s_c.a s_c.n s_c.c]] H K Z:=
 fnC_sound (aJ:=aJ23) (aL:=aL23) (Eq.mp (by kernel_rfl) h)
def V65 (H:Hp) (l:Sl) (compare same:Value) (K:Value→Hp→Prop) (Z:List PanicEntry→Hp→Prop):Prop:=
 ∀ bSame H1,Newb H (.cells (Value.cells same) 85) bSame H1→CallF Tryz.prog 36 #[.slice l.a l.n l.c] H1 (fun r H2=>
  ∃ y:Sl,r = .slice y.a y.n y.c∧CallF Tryz.prog 121 #[.slice y.a y.n y.c,compare] H2 (fun r1 H3=>
  r1 = .tuple #[]∧∃ I:Sl→Int→Int→Hp→Nat→Prop,(∃ m,I (⟨none,0,0⟩:Sl) 0 0 H3 m) ∧
  ∀ (out:Sl) (first:Int) (t18:Int),∀ H4 m1,I out first t18 H4 m1→∀ scr:Nat→Value,(((decide (t18 < (y.n:Int)))=true →
  IxA y.a y.n t18 3 fun ad=>(∃ (x_a x_b:ByteArray) (x_c:Sl),(hcell H4 ad=some (.string x_a) ∧
  hcell H4 (Addr.add ad 1)=some (.string x_b)∧hcell H4 (Addr.add ad 2)=some (.slice x_c.a x_c.n x_c.c) ∧
  True)∧∀ bX H5,Newb H4 (.cells #[.string ⟨#[]⟩,.string ⟨#[]⟩,.slice none 0 0] 52) bX H5→StL ⟨bX,0,none⟩ 0 [.string x_a,.string x_b,.slice x_c.a x_c.n x_c.c] H5 fun H6=>
  (((decide ((out.n:Int) > 0))=true→IxA out.a out.n (w64 ((out.n:Int) - 1)) 3 fun ad1=>(∃ (x_a1 x_b1:ByteArray) (x_c1:Sl),(hcell H6 ad1=some (.string x_a1) ∧
  hcell H6 (Addr.add ad1 1)=some (.string x_b1)∧hcell H6 (Addr.add ad1 2)=some (.slice x_c1.a x_c1.n x_c1.c) ∧
  True)∧∃ (x_a2 x_b2:ByteArray) (x_c2:Sl),(hcell H6 ⟨bX,0,none⟩=some (.string x_a2) ∧
  hcell H6 ⟨bX,1,none⟩=some (.string x_b2)∧hcell H6 ⟨bX,2,none⟩=some (.slice x_c2.a x_c2.n x_c2.c) ∧
  True)∧callV Tryz.prog compare [.agg #[.string x_a1,.string x_b1,.slice x_c1.a x_c1.n x_c1.c],.agg #[.string x_a2,.string x_b2,.slice x_c2.a x_c2.n x_c2.c]] H6 (fun r2 H7=>
  ∃ y1:Int,r2 = .int .i64 y1∧(((y1 != 0)=true→(out.n≤out.c∧SlX out.a out.c (out.n:Int) (out.n:Int) 3 fun cut=>
  (CallF Tryz.prog 122 #[.slice cut.a cut.n cut.c,.func (.func 123) #[] #[.pointer (some ⟨bSame,0,none⟩),.pointer (some ⟨bX,0,none⟩)]] H7 (fun r3 H8=>
  ∃ y2:Bool,r3 = .bool y2∧(((!y2)=true→∃ (x_a3 x_b3:ByteArray) (x_c3:Sl),(hcell H8 ⟨bX,0,none⟩=some (.string x_a3) ∧
  hcell H8 ⟨bX,1,none⟩=some (.string x_b3)∧hcell H8 ⟨bX,2,none⟩=some (.slice x_c3.a x_c3.n x_c3.c) ∧
  True)∧∀ b H9,Newb H8 (.cells #[.string x_a3,.string x_b3,.slice x_c3.a x_c3.n x_c3.c] 52) b H9 →
  App Tryz.prog #[22,22] 22 H9 [.slice out.a out.n out.c,.slice (some ⟨b,0,none⟩) 1 1] fun ap H10=>
  (∃ m2,m2 < m1∧I ap (out.n:Int) (w64 (t18+1)) H10 m2))∧((!y2)=false→(∃ m2,m2 < m1 ∧
  I out (out.n:Int) (w64 (t18+1)) H8 m2)))) Z)))∧((y1 != 0)=false→(out.n≤out.c∧SlX out.a out.c first (out.n:Int) 3 fun cut1=>
  (CallF Tryz.prog 122 #[.slice cut1.a cut1.n cut1.c,.func (.func 123) #[] #[.pointer (some ⟨bSame,0,none⟩),.pointer (some ⟨bX,0,none⟩)]] H7 (fun r4 H11=>
  ∃ y3:Bool,r4 = .bool y3∧(((!y3)=true→∃ (x_a4 x_b4:ByteArray) (x_c4:Sl),(hcell H11 ⟨bX,0,none⟩=some (.string x_a4) ∧
  hcell H11 ⟨bX,1,none⟩=some (.string x_b4)∧hcell H11 ⟨bX,2,none⟩=some (.slice x_c4.a x_c4.n x_c4.c) ∧
  True)∧∀ b1 H12,Newb H11 (.cells #[.string x_a4,.string x_b4,.slice x_c4.a x_c4.n x_c4.c] 52) b1 H12 →
  App Tryz.prog #[22,22] 22 H12 [.slice out.a out.n out.c,.slice (some ⟨b1,0,none⟩) 1 1] fun ap1 H13=>
  (∃ m2,m2 < m1∧I ap1 first (w64 (t18+1)) H13 m2))∧((!y3)=false→(∃ m2,m2 < m1∧I out first (w64 (t18+1)) H11 m2)))) Z))))) Z)) ∧
  ((decide ((out.n:Int) > 0))=false→(out.n≤out.c∧SlX out.a out.c first (out.n:Int) 3 fun cut2=>
  (CallF Tryz.prog 122 #[.slice cut2.a cut2.n cut2.c,.func (.func 123) #[] #[.pointer (some ⟨bSame,0,none⟩),.pointer (some ⟨bX,0,none⟩)]] H6 (fun r5 H14=>
  ∃ y4:Bool,r5 = .bool y4∧(((!y4)=true→∃ (x_a5 x_b5:ByteArray) (x_c5:Sl),(hcell H14 ⟨bX,0,none⟩=some (.string x_a5) ∧
  hcell H14 ⟨bX,1,none⟩=some (.string x_b5)∧hcell H14 ⟨bX,2,none⟩=some (.slice x_c5.a x_c5.n x_c5.c) ∧
  True)∧∀ b2 H15,Newb H14 (.cells #[.string x_a5,.string x_b5,.slice x_c5.a x_c5.n x_c5.c] 52) b2 H15 →
  App Tryz.prog #[22,22] 22 H15 [.slice out.a out.n out.c,.slice (some ⟨b2,0,none⟩) 1 1] fun ap2 H16=>
  (∃ m2,m2 < m1∧I ap2 first (w64 (t18+1)) H16 m2))∧((!y4)=false→(∃ m2,m2 < m1∧I out first (w64 (t18+1)) H14 m2)))) Z)))))) ∧
  ((decide (t18 < (y.n:Int)))=false→K (.slice out.a out.n out.c) H4))) Z) Z
def aL65:Ann:=(fun k=>if k=6 then some [(7,(.sc .sl)),(8,(.sc (.int .i64))),(18,(.sc (.int .i64)))] else none)
theorem V65_ok {H l compare same K Z} (h:V65 H l compare same K Z):CallF Tryz.prog 65 #[.slice l.a l.n l.c,compare,same] H K Z:=
 fnC_sound (aJ:=fun _=>none) (aL:=aL65) (Eq.mp (by kernel_rfl) h)
def V67 (H:Hp) (l:Sl) (compare same:Value) (K:Value→Hp→Prop) (Z:List PanicEntry→Hp→Prop):Prop:=
 ∀ bSame H1,Newb H (.cells (Value.cells same) 115) bSame H1→CallF Tryz.prog 40 #[.slice l.a l.n l.c] H1 (fun r H2=>
  ∃ y:Sl,r = .slice y.a y.n y.c∧CallF Tryz.prog 125 #[.slice y.a y.n y.c,compare] H2 (fun r1 H3=>
  r1 = .tuple #[]∧∃ I:Sl→Int→Int→Hp→Nat→Prop,(∃ m,I (⟨none,0,0⟩:Sl) 0 0 H3 m) ∧
  ∀ (out:Sl) (first:Int) (t18:Int),∀ H4 m1,I out first t18 H4 m1→∀ scr:Nat→Value,(((decide (t18 < (y.n:Int)))=true →
  IxA y.a y.n t18 3 fun ad=>(∃ x_a x_b x_c:ByteArray,(hcell H4 ad=some (.string x_a) ∧
  hcell H4 (Addr.add ad 1)=some (.string x_b)∧hcell H4 (Addr.add ad 2)=some (.string x_c)∧True) ∧
  ∀ bX H5,Newb H4 (.cells #[.string ⟨#[]⟩,.string ⟨#[]⟩,.string ⟨#[]⟩] 56) bX H5→StL ⟨bX,0,none⟩ 0 [.string x_a,.string x_b,.string x_c] H5 fun H6=>
  (((decide ((out.n:Int) > 0))=true→IxA out.a out.n (w64 ((out.n:Int) - 1)) 3 fun ad1=>(∃ x_a1 x_b1 x_c1:ByteArray,(hcell H6 ad1=some (.string x_a1) ∧
  hcell H6 (Addr.add ad1 1)=some (.string x_b1)∧hcell H6 (Addr.add ad1 2)=some (.string x_c1) ∧
  True)∧∃ x_a2 x_b2 x_c2:ByteArray,(hcell H6 ⟨bX,0,none⟩=some (.string x_a2) ∧
  hcell H6 ⟨bX,1,none⟩=some (.string x_b2)∧hcell H6 ⟨bX,2,none⟩=some (.string x_c2)∧True) ∧
  callV Tryz.prog compare [.agg #[.string x_a1,.string x_b1,.string x_c1],.agg #[.string x_a2,.string x_b2,.string x_c2]] H6 (fun r2 H7=>
  ∃ y1:Int,r2 = .int .i64 y1∧(((y1 != 0)=true→(out.n≤out.c∧SlX out.a out.c (out.n:Int) (out.n:Int) 3 fun cut=>
  (CallF Tryz.prog 126 #[.slice cut.a cut.n cut.c,.func (.func 127) #[] #[.pointer (some ⟨bSame,0,none⟩),.pointer (some ⟨bX,0,none⟩)]] H7 (fun r3 H8=>
  ∃ y2:Bool,r3 = .bool y2∧(((!y2)=true→∃ x_a3 x_b3 x_c3:ByteArray,(hcell H8 ⟨bX,0,none⟩=some (.string x_a3) ∧
  hcell H8 ⟨bX,1,none⟩=some (.string x_b3)∧hcell H8 ⟨bX,2,none⟩=some (.string x_c3)∧True) ∧
  ∀ b H9,Newb H8 (.cells #[.string x_a3,.string x_b3,.string x_c3] 56) b H9→App Tryz.prog #[23,23] 23 H9 [.slice out.a out.n out.c,.slice (some ⟨b,0,none⟩) 1 1] fun ap H10=>
  (∃ m2,m2 < m1∧I ap (out.n:Int) (w64 (t18+1)) H10 m2))∧((!y2)=false→(∃ m2,m2 < m1 ∧
  I out (out.n:Int) (w64 (t18+1)) H8 m2)))) Z)))∧((y1 != 0)=false→(out.n≤out.c∧SlX out.a out.c first (out.n:Int) 3 fun cut1=>
  (CallF Tryz.prog 126 #[.slice cut1.a cut1.n cut1.c,.func (.func 127) #[] #[.pointer (some ⟨bSame,0,none⟩),.pointer (some ⟨bX,0,none⟩)]] H7 (fun r4 H11=>
  ∃ y3:Bool,r4 = .bool y3∧(((!y3)=true→∃ x_a4 x_b4 x_c4:ByteArray,(hcell H11 ⟨bX,0,none⟩=some (.string x_a4) ∧
  hcell H11 ⟨bX,1,none⟩=some (.string x_b4)∧hcell H11 ⟨bX,2,none⟩=some (.string x_c4)∧True) ∧
  ∀ b1 H12,Newb H11 (.cells #[.string x_a4,.string x_b4,.string x_c4] 56) b1 H12→App Tryz.prog #[23,23] 23 H12 [.slice out.a out.n out.c,.slice (some ⟨b1,0,none⟩) 1 1] fun ap1 H13=>
  (∃ m2,m2 < m1∧I ap1 first (w64 (t18+1)) H13 m2))∧((!y3)=false→(∃ m2,m2 < m1∧I out first (w64 (t18+1)) H11 m2)))) Z))))) Z)) ∧
  ((decide ((out.n:Int) > 0))=false→(out.n≤out.c∧SlX out.a out.c first (out.n:Int) 3 fun cut2=>
  (CallF Tryz.prog 126 #[.slice cut2.a cut2.n cut2.c,.func (.func 127) #[] #[.pointer (some ⟨bSame,0,none⟩),.pointer (some ⟨bX,0,none⟩)]] H6 (fun r5 H14=>
  ∃ y4:Bool,r5 = .bool y4∧(((!y4)=true→∃ x_a5 x_b5 x_c5:ByteArray,(hcell H14 ⟨bX,0,none⟩=some (.string x_a5) ∧
  hcell H14 ⟨bX,1,none⟩=some (.string x_b5)∧hcell H14 ⟨bX,2,none⟩=some (.string x_c5)∧True) ∧
  ∀ b2 H15,Newb H14 (.cells #[.string x_a5,.string x_b5,.string x_c5] 56) b2 H15→App Tryz.prog #[23,23] 23 H15 [.slice out.a out.n out.c,.slice (some ⟨b2,0,none⟩) 1 1] fun ap2 H16=>
  (∃ m2,m2 < m1∧I ap2 first (w64 (t18+1)) H16 m2))∧((!y4)=false→(∃ m2,m2 < m1∧I out first (w64 (t18+1)) H14 m2)))) Z)))))) ∧
  ((decide (t18 < (y.n:Int)))=false→K (.slice out.a out.n out.c) H4))) Z) Z
def aL67:Ann:=(fun k=>if k=6 then some [(7,(.sc .sl)),(8,(.sc (.int .i64))),(18,(.sc (.int .i64)))] else none)
theorem V67_ok {H l compare same K Z} (h:V67 H l compare same K Z):CallF Tryz.prog 67 #[.slice l.a l.n l.c,compare,same] H K Z:=
 fnC_sound (aJ:=fun _=>none) (aL:=aL67) (Eq.mp (by kernel_rfl) h)
def V69 (H:Hp) (l:Sl) (compare same:Value) (K:Value→Hp→Prop) (Z:List PanicEntry→Hp→Prop):Prop:=
 ∀ bSame H1,Newb H (.cells (Value.cells same) 117) bSame H1→CallF Tryz.prog 74 #[.slice l.a l.n l.c] H1 (fun r H2=>
  ∃ y:Sl,r = .slice y.a y.n y.c∧CallF Tryz.prog 128 #[.slice y.a y.n y.c,compare] H2 (fun r1 H3=>
  r1 = .tuple #[]∧∃ I:Sl→Int→Int→Hp→Nat→Prop,(∃ m,I (⟨none,0,0⟩:Sl) 0 0 H3 m) ∧
  ∀ (out:Sl) (first:Int) (t18:Int),∀ H4 m1,I out first t18 H4 m1→∀ scr:Nat→Value,(((decide (t18 < (y.n:Int)))=true →
  IxA y.a y.n t18 6 fun ad=>(∃ (x_a:Int) (x_b x_c:ByteArray) (x_d:Int) (x_e:ByteArray) (x_f:Sl),(hcell H4 ad=some (.int .i64 x_a) ∧
  hcell H4 (Addr.add ad 1)=some (.string x_b)∧hcell H4 (Addr.add ad 2)=some (.string x_c)∧hcell H4 (Addr.add ad 3)=some (.int .i64 x_d) ∧
  hcell H4 (Addr.add ad 4)=some (.string x_e)∧hcell H4 (Addr.add ad 5)=some (.slice x_f.a x_f.n x_f.c) ∧
  True)∧∀ bX H5,Newb H4 (.cells #[.int .i64 0,.string ⟨#[]⟩,.string ⟨#[]⟩,.int .i64 0,.string ⟨#[]⟩,.slice none 0 0] 36) bX H5 →
  StL ⟨bX,0,none⟩ 0 [.int .i64 x_a,.string x_b,.string x_c,.int .i64 x_d,.string x_e,.slice x_f.a x_f.n x_f.c] H5 fun H6=>
  (((decide ((out.n:Int) > 0))=true→IxA out.a out.n (w64 ((out.n:Int) - 1)) 6 fun ad1=>(∃ (x_a1:Int) (x_b1 x_c1:ByteArray) (x_d1:Int) (x_e1:ByteArray) (x_f1:Sl),(hcell H6 ad1=some (.int .i64 x_a1) ∧
  hcell H6 (Addr.add ad1 1)=some (.string x_b1)∧hcell H6 (Addr.add ad1 2)=some (.string x_c1) ∧
  hcell H6 (Addr.add ad1 3)=some (.int .i64 x_d1)∧hcell H6 (Addr.add ad1 4)=some (.string x_e1) ∧
  hcell H6 (Addr.add ad1 5)=some (.slice x_f1.a x_f1.n x_f1.c)∧True)∧∃ (x_a2:Int) (x_b2 x_c2:ByteArray) (x_d2:Int) (x_e2:ByteArray) (x_f2:Sl),(hcell H6 ⟨bX,0,none⟩=some (.int .i64 x_a2) ∧
  hcell H6 ⟨bX,1,none⟩=some (.string x_b2)∧hcell H6 ⟨bX,2,none⟩=some (.string x_c2)∧hcell H6 ⟨bX,3,none⟩=some (.int .i64 x_d2) ∧
  hcell H6 ⟨bX,4,none⟩=some (.string x_e2)∧hcell H6 ⟨bX,5,none⟩=some (.slice x_f2.a x_f2.n x_f2.c) ∧
  True)∧callV Tryz.prog compare [.agg #[.int .i64 x_a1,.string x_b1,.string x_c1,.int .i64 x_d1,.string x_e1,.slice x_f1.a x_f1.n x_f1.c],.agg #[.int .i64 x_a2,.string x_b2,.string x_c2,.int .i64 x_d2,.string x_e2,.slice x_f2.a x_f2.n x_f2.c]] H6 (fun r2 H7=>
  ∃ y1:Int,r2 = .int .i64 y1∧(((y1 != 0)=true→(out.n≤out.c∧SlX out.a out.c (out.n:Int) (out.n:Int) 6 fun cut=>
  (CallF Tryz.prog 129 #[.slice cut.a cut.n cut.c,.func (.func 130) #[] #[.pointer (some ⟨bSame,0,none⟩),.pointer (some ⟨bX,0,none⟩)]] H7 (fun r3 H8=>
  ∃ y2:Bool,r3 = .bool y2∧(((!y2)=true→∃ (x_a3:Int) (x_b3 x_c3:ByteArray) (x_d3:Int) (x_e3:ByteArray) (x_f3:Sl),(hcell H8 ⟨bX,0,none⟩=some (.int .i64 x_a3) ∧
  hcell H8 ⟨bX,1,none⟩=some (.string x_b3)∧hcell H8 ⟨bX,2,none⟩=some (.string x_c3)∧hcell H8 ⟨bX,3,none⟩=some (.int .i64 x_d3) ∧
  hcell H8 ⟨bX,4,none⟩=some (.string x_e3)∧hcell H8 ⟨bX,5,none⟩=some (.slice x_f3.a x_f3.n x_f3.c) ∧
  True)∧∀ b H9,Newb H8 (.cells #[.int .i64 x_a3,.string x_b3,.string x_c3,.int .i64 x_d3,.string x_e3,.slice x_f3.a x_f3.n x_f3.c] 36) b H9 →
  App Tryz.prog #[24,24] 24 H9 [.slice out.a out.n out.c,.slice (some ⟨b,0,none⟩) 1 1] fun ap H10=>
  (∃ m2,m2 < m1∧I ap (out.n:Int) (w64 (t18+1)) H10 m2))∧((!y2)=false→(∃ m2,m2 < m1 ∧
  I out (out.n:Int) (w64 (t18+1)) H8 m2)))) Z)))∧((y1 != 0)=false→(out.n≤out.c∧SlX out.a out.c first (out.n:Int) 6 fun cut1=>
  (CallF Tryz.prog 129 #[.slice cut1.a cut1.n cut1.c,.func (.func 130) #[] #[.pointer (some ⟨bSame,0,none⟩),.pointer (some ⟨bX,0,none⟩)]] H7 (fun r4 H11=>
  ∃ y3:Bool,r4 = .bool y3∧(((!y3)=true→∃ (x_a4:Int) (x_b4 x_c4:ByteArray) (x_d4:Int) (x_e4:ByteArray) (x_f4:Sl),(hcell H11 ⟨bX,0,none⟩=some (.int .i64 x_a4) ∧
  hcell H11 ⟨bX,1,none⟩=some (.string x_b4)∧hcell H11 ⟨bX,2,none⟩=some (.string x_c4)∧hcell H11 ⟨bX,3,none⟩=some (.int .i64 x_d4) ∧
  hcell H11 ⟨bX,4,none⟩=some (.string x_e4)∧hcell H11 ⟨bX,5,none⟩=some (.slice x_f4.a x_f4.n x_f4.c) ∧
  True)∧∀ b1 H12,Newb H11 (.cells #[.int .i64 x_a4,.string x_b4,.string x_c4,.int .i64 x_d4,.string x_e4,.slice x_f4.a x_f4.n x_f4.c] 36) b1 H12 →
  App Tryz.prog #[24,24] 24 H12 [.slice out.a out.n out.c,.slice (some ⟨b1,0,none⟩) 1 1] fun ap1 H13=>
  (∃ m2,m2 < m1∧I ap1 first (w64 (t18+1)) H13 m2))∧((!y3)=false→(∃ m2,m2 < m1∧I out first (w64 (t18+1)) H11 m2)))) Z))))) Z)) ∧
  ((decide ((out.n:Int) > 0))=false→(out.n≤out.c∧SlX out.a out.c first (out.n:Int) 6 fun cut2=>
  (CallF Tryz.prog 129 #[.slice cut2.a cut2.n cut2.c,.func (.func 130) #[] #[.pointer (some ⟨bSame,0,none⟩),.pointer (some ⟨bX,0,none⟩)]] H6 (fun r5 H14=>
  ∃ y4:Bool,r5 = .bool y4∧(((!y4)=true→∃ (x_a5:Int) (x_b5 x_c5:ByteArray) (x_d5:Int) (x_e5:ByteArray) (x_f5:Sl),(hcell H14 ⟨bX,0,none⟩=some (.int .i64 x_a5) ∧
  hcell H14 ⟨bX,1,none⟩=some (.string x_b5)∧hcell H14 ⟨bX,2,none⟩=some (.string x_c5)∧hcell H14 ⟨bX,3,none⟩=some (.int .i64 x_d5) ∧
  hcell H14 ⟨bX,4,none⟩=some (.string x_e5)∧hcell H14 ⟨bX,5,none⟩=some (.slice x_f5.a x_f5.n x_f5.c) ∧
  True)∧∀ b2 H15,Newb H14 (.cells #[.int .i64 x_a5,.string x_b5,.string x_c5,.int .i64 x_d5,.string x_e5,.slice x_f5.a x_f5.n x_f5.c] 36) b2 H15 →
  App Tryz.prog #[24,24] 24 H15 [.slice out.a out.n out.c,.slice (some ⟨b2,0,none⟩) 1 1] fun ap2 H16=>
  (∃ m2,m2 < m1∧I ap2 first (w64 (t18+1)) H16 m2))∧((!y4)=false→(∃ m2,m2 < m1∧I out first (w64 (t18+1)) H14 m2)))) Z)))))) ∧
  ((decide (t18 < (y.n:Int)))=false→K (.slice out.a out.n out.c) H4))) Z) Z
def aL69:Ann:=(fun k=>if k=6 then some [(7,(.sc .sl)),(8,(.sc (.int .i64))),(18,(.sc (.int .i64)))] else none)
theorem V69_ok {H l compare same K Z} (h:V69 H l compare same K Z):CallF Tryz.prog 69 #[.slice l.a l.n l.c,compare,same] H K Z:=
 fnC_sound (aJ:=fun _=>none) (aL:=aL69) (Eq.mp (by kernel_rfl) h)
def V123 (H:Hp) (y_a y_b:ByteArray) (y_c:Sl) (cap0 cap1:Addr) (K:Value→Hp→Prop) (Z:List PanicEntry→Hp→Prop):Prop:=
 ∀ bY H1,Newb H (.cells #[.string y_a,.string y_b,.slice y_c.a y_c.n y_c.c] 52) bY H1→∃ x:Value,hcell H1 cap0=some (x) ∧
  ∃ (x_a x_b:ByteArray) (x_c:Sl),(hcell H1 cap1=some (.string x_a)∧hcell H1 (Addr.add cap1 1)=some (.string x_b) ∧
  hcell H1 (Addr.add cap1 2)=some (.slice x_c.a x_c.n x_c.c)∧True)∧∃ (x_a1 x_b1:ByteArray) (x_c1:Sl),(hcell H1 ⟨bY,0,none⟩=some (.string x_a1) ∧
  hcell H1 ⟨bY,1,none⟩=some (.string x_b1)∧hcell H1 ⟨bY,2,none⟩=some (.slice x_c1.a x_c1.n x_c1.c) ∧
  True)∧callV Tryz.prog x [.agg #[.string x_a,.string x_b,.slice x_c.a x_c.n x_c.c],.agg #[.string x_a1,.string x_b1,.slice x_c1.a x_c1.n x_c1.c]] H1 (fun r H2=>
  ∃ y:Bool,r = .bool y∧K (.bool y) H2) Z
theorem V123_ok {H y_a y_b y_c cap0 cap1 K Z} (h:V123 H y_a y_b y_c cap0 cap1 K Z):CallF Tryz.prog 123 #[.agg #[.string y_a,.string y_b,.slice y_c.a y_c.n y_c.c],.pointer (some cap0),.pointer (some cap1)] H K Z:=
 fnC_sound (aJ:=fun _=>none) (aL:=fun _=>none) (Eq.mp (by kernel_rfl) h)
def V127 (H:Hp) (y_a y_b y_c:ByteArray) (cap0 cap1:Addr) (K:Value→Hp→Prop) (Z:List PanicEntry→Hp→Prop):Prop:=
 ∀ bY H1,Newb H (.cells #[.string y_a,.string y_b,.string y_c] 56) bY H1→∃ x:Value,hcell H1 cap0=some (x) ∧
  ∃ x_a x_b x_c:ByteArray,(hcell H1 cap1=some (.string x_a)∧hcell H1 (Addr.add cap1 1)=some (.string x_b) ∧
  hcell H1 (Addr.add cap1 2)=some (.string x_c)∧True)∧∃ x_a1 x_b1 x_c1:ByteArray,(hcell H1 ⟨bY,0,none⟩=some (.string x_a1) ∧
  hcell H1 ⟨bY,1,none⟩=some (.string x_b1)∧hcell H1 ⟨bY,2,none⟩=some (.string x_c1)∧True) ∧
  callV Tryz.prog x [.agg #[.string x_a,.string x_b,.string x_c],.agg #[.string x_a1,.string x_b1,.string x_c1]] H1 (fun r H2=>
  ∃ y:Bool,r = .bool y∧K (.bool y) H2) Z
theorem V127_ok {H y_a y_b y_c cap0 cap1 K Z} (h:V127 H y_a y_b y_c cap0 cap1 K Z):CallF Tryz.prog 127 #[.agg #[.string y_a,.string y_b,.string y_c],.pointer (some cap0),.pointer (some cap1)] H K Z:=
 fnC_sound (aJ:=fun _=>none) (aL:=fun _=>none) (Eq.mp (by kernel_rfl) h)
def V130 (H:Hp) (y_a:Int) (y_b y_c:ByteArray) (y_d:Int) (y_e:ByteArray) (y_f:Sl) (cap0 cap1:Addr) (K:Value→Hp→Prop) (Z:List PanicEntry→Hp→Prop):Prop:=
 ∀ bY H1,Newb H (.cells #[.int .i64 y_a,.string y_b,.string y_c,.int .i64 y_d,.string y_e,.slice y_f.a y_f.n y_f.c] 36) bY H1 →
  ∃ x:Value,hcell H1 cap0=some (x)∧∃ (x_a:Int) (x_b x_c:ByteArray) (x_d:Int) (x_e:ByteArray) (x_f:Sl),(hcell H1 cap1=some (.int .i64 x_a) ∧
  hcell H1 (Addr.add cap1 1)=some (.string x_b)∧hcell H1 (Addr.add cap1 2)=some (.string x_c) ∧
  hcell H1 (Addr.add cap1 3)=some (.int .i64 x_d)∧hcell H1 (Addr.add cap1 4)=some (.string x_e) ∧
  hcell H1 (Addr.add cap1 5)=some (.slice x_f.a x_f.n x_f.c)∧True)∧∃ (x_a1:Int) (x_b1 x_c1:ByteArray) (x_d1:Int) (x_e1:ByteArray) (x_f1:Sl),(hcell H1 ⟨bY,0,none⟩=some (.int .i64 x_a1) ∧
  hcell H1 ⟨bY,1,none⟩=some (.string x_b1)∧hcell H1 ⟨bY,2,none⟩=some (.string x_c1)∧hcell H1 ⟨bY,3,none⟩=some (.int .i64 x_d1) ∧
  hcell H1 ⟨bY,4,none⟩=some (.string x_e1)∧hcell H1 ⟨bY,5,none⟩=some (.slice x_f1.a x_f1.n x_f1.c) ∧
  True)∧callV Tryz.prog x [.agg #[.int .i64 x_a,.string x_b,.string x_c,.int .i64 x_d,.string x_e,.slice x_f.a x_f.n x_f.c],.agg #[.int .i64 x_a1,.string x_b1,.string x_c1,.int .i64 x_d1,.string x_e1,.slice x_f1.a x_f1.n x_f1.c]] H1 (fun r H2=>
  ∃ y:Bool,r = .bool y∧K (.bool y) H2) Z
theorem V130_ok {H y_a y_b y_c y_d y_e y_f cap0 cap1 K Z} (h:V130 H y_a y_b y_c y_d y_e y_f cap0 cap1 K Z):CallF Tryz.prog 130 #[.agg #[.int .i64 y_a,.string y_b,.string y_c,.int .i64 y_d,.string y_e,.slice y_f.a y_f.n y_f.c],.pointer (some cap0),.pointer (some cap1)] H K Z:=
 fnC_sound (aJ:=fun _=>none) (aL:=fun _=>none) (Eq.mp (by kernel_rfl) h)
def V66 (H:Hp) (a_a a_b:ByteArray) (a_c:Sl) (b_a b_b:ByteArray) (b_c:Sl) (K:Value→Hp→Prop) (Z:List PanicEntry→Hp→Prop):Prop:=
 ∀ bA H1,Newb H (.cells #[.string a_a,.string a_b,.slice a_c.a a_c.n a_c.c] 52) bA H1→∀ bB H2,Newb H1 (.cells #[.string b_a,.string b_b,.slice b_c.a b_c.n b_c.c] 52) bB H2 →
  ∃ x:ByteArray,hcell H2 ⟨bA,0,none⟩=some (.string x)∧∃ x1:ByteArray,hcell H2 ⟨bB,0,none⟩=some (.string x1) ∧
  (((beqS x x1)=true→∃ x2:ByteArray,hcell H2 ⟨bA,1,none⟩=some (.string x2)∧∃ x3:ByteArray,hcell H2 ⟨bB,1,none⟩=some (.string x3) ∧
  (((beqS x2 x3)=true→∃ x4:Sl,hcell H2 ⟨bA,2,none⟩=some (.slice x4.a x4.n x4.c)∧∃ x5:Sl,hcell H2 ⟨bB,2,none⟩=some (.slice x5.a x5.n x5.c) ∧
  CallF Tryz.prog 124 #[.slice x4.a x4.n x4.c,.slice x5.a x5.n x5.c] H2 (fun r H3=>∃ y:Bool,r = .bool y ∧
  K (.bool y) H3) Z)∧((beqS x2 x3)=false→K (.bool false) H2)))∧((beqS x x1)=false→K (.bool false) H2))
theorem V66_ok {H a_a a_b a_c b_a b_b b_c K Z} (h:V66 H a_a a_b a_c b_a b_b b_c K Z):CallF Tryz.prog 66 #[.agg #[.string a_a,.string a_b,.slice a_c.a a_c.n a_c.c],.agg #[.string b_a,.string b_b,.slice b_c.a b_c.n b_c.c]] H K Z:=
 fnC_sound (aJ:=fun _=>none) (aL:=fun _=>none) (Eq.mp (by kernel_rfl) h)
def V68 (H:Hp) (a_a a_b a_c b_a b_b b_c:ByteArray) (K:Value→Hp→Prop) (Z:List PanicEntry→Hp→Prop):Prop:=
 ∀ bA H1,Newb H (.cells #[.string a_a,.string a_b,.string a_c] 56) bA H1→∀ bB H2,Newb H1 (.cells #[.string b_a,.string b_b,.string b_c] 56) bB H2 →
  ∃ x_a x_b x_c:ByteArray,(hcell H2 ⟨bA,0,none⟩=some (.string x_a) ∧
  hcell H2 ⟨bA,1,none⟩=some (.string x_b)∧hcell H2 ⟨bA,2,none⟩=some (.string x_c)∧True) ∧
  ∃ x_a1 x_b1 x_c1:ByteArray,(hcell H2 ⟨bB,0,none⟩=some (.string x_a1) ∧
  hcell H2 ⟨bB,1,none⟩=some (.string x_b1)∧hcell H2 ⟨bB,2,none⟩=some (.string x_c1)∧True) ∧
  K (.bool (((x_a == x_a1) && ((x_b == x_b1) && ((x_c == x_c1) && true))))) H2
theorem V68_ok {H a_a a_b a_c b_a b_b b_c K Z} (h:V68 H a_a a_b a_c b_a b_b b_c K Z):CallF Tryz.prog 68 #[.agg #[.string a_a,.string a_b,.string a_c],.agg #[.string b_a,.string b_b,.string b_c]] H K Z:=
 fnC_sound (aJ:=fun _=>none) (aL:=fun _=>none) (Eq.mp (by kernel_rfl) h)
def V70 (H:Hp) (a_a:Int) (a_b a_c:ByteArray) (a_d:Int) (a_e:ByteArray) (a_f:Sl) (b_a:Int) (b_b b_c:ByteArray) (b_d:Int) (b_e:ByteArray) (b_f:Sl) (K:Value→Hp→Prop) (Z:List PanicEntry→Hp→Prop):Prop:=
 ∀ bA H1,Newb H (.cells #[.int .i64 a_a,.string a_b,.string a_c,.int .i64 a_d,.string a_e,.slice a_f.a a_f.n a_f.c] 36) bA H1 →
  ∀ bB H2,Newb H1 (.cells #[.int .i64 b_a,.string b_b,.string b_c,.int .i64 b_d,.string b_e,.slice b_f.a b_f.n b_f.c] 36) bB H2 →
  ∃ (x_a:Int) (x_b x_c:ByteArray) (x_d:Int) (x_e:ByteArray) (x_f:Sl),(hcell H2 ⟨bA,0,none⟩=some (.int .i64 x_a) ∧
  hcell H2 ⟨bA,1,none⟩=some (.string x_b)∧hcell H2 ⟨bA,2,none⟩=some (.string x_c)∧hcell H2 ⟨bA,3,none⟩=some (.int .i64 x_d) ∧
  hcell H2 ⟨bA,4,none⟩=some (.string x_e)∧hcell H2 ⟨bA,5,none⟩=some (.slice x_f.a x_f.n x_f.c) ∧
  True)∧∃ (x_a1:Int) (x_b1 x_c1:ByteArray) (x_d1:Int) (x_e1:ByteArray) (x_f1:Sl),(hcell H2 ⟨bB,0,none⟩=some (.int .i64 x_a1) ∧
  hcell H2 ⟨bB,1,none⟩=some (.string x_b1)∧hcell H2 ⟨bB,2,none⟩=some (.string x_c1)∧hcell H2 ⟨bB,3,none⟩=some (.int .i64 x_d1) ∧
  hcell H2 ⟨bB,4,none⟩=some (.string x_e1)∧hcell H2 ⟨bB,5,none⟩=some (.slice x_f1.a x_f1.n x_f1.c) ∧
  True)∧CallF Tryz.prog 59 #[.agg #[.int .i64 x_a,.string x_b,.string x_c,.int .i64 x_d,.string x_e,.slice x_f.a x_f.n x_f.c],.agg #[.int .i64 x_a1,.string x_b1,.string x_c1,.int .i64 x_d1,.string x_e1,.slice x_f1.a x_f1.n x_f1.c]] H2 (fun r H3=>
  ∃ y:Int,r = .int .i64 y∧K (.bool (y == 0)) H3) Z
theorem V70_ok {H a_a a_b a_c a_d a_e a_f b_a b_b b_c b_d b_e b_f K Z} (h:V70 H a_a a_b a_c a_d a_e a_f b_a b_b b_c b_d b_e b_f K Z):CallF Tryz.prog 70 #[.agg #[.int .i64 a_a,.string a_b,.string a_c,.int .i64 a_d,.string a_e,.slice a_f.a a_f.n a_f.c],.agg #[.int .i64 b_a,.string b_b,.string b_c,.int .i64 b_d,.string b_e,.slice b_f.a b_f.n b_f.c]] H K Z:=
 fnC_sound (aJ:=fun _=>none) (aL:=fun _=>none) (Eq.mp (by kernel_rfl) h)
def V71 (H:Hp) (s:Sl) (K:Value→Hp→Prop) (Z:List PanicEntry→Hp→Prop):Prop:=
 (((Option.isNone s.a)=true→K (.slice none 0 0) H)∧((Option.isNone s.a)=false→∀ b H1,Newb H (.cells #[] 54) b H1 →
  App Tryz.prog #[50,50] 50 H1 [.slice (some ⟨b,0,none⟩) 0 0,.slice s.a s.n s.c] fun ap H2=>(K (.slice ap.a ap.n ap.c) H2)))
theorem V71_ok {H s K Z} (h:V71 H s K Z):CallF Tryz.prog 71 #[.slice s.a s.n s.c] H K Z:=
 fnC_sound (aJ:=fun _=>none) (aL:=fun _=>none) (Eq.mp (by kernel_rfl) h)
def V31 (H:Hp) (s:Sl) (K:Value→Hp→Prop) (Z:List PanicEntry→Hp→Prop):Prop:=
 (((Option.isNone s.a)=true→K (.slice none 0 0) H)∧((Option.isNone s.a)=false→∀ b H1,Newb H (.cells #[] 9) b H1 →
  App Tryz.prog #[27,27] 27 H1 [.slice (some ⟨b,0,none⟩) 0 0,.slice s.a s.n s.c] fun ap H2=>(K (.slice ap.a ap.n ap.c) H2)))
theorem V31_ok {H s K Z} (h:V31 H s K Z):CallF Tryz.prog 31 #[.slice s.a s.n s.c] H K Z:=
 fnC_sound (aJ:=fun _=>none) (aL:=fun _=>none) (Eq.mp (by kernel_rfl) h)
def V36 (H:Hp) (s:Sl) (K:Value→Hp→Prop) (Z:List PanicEntry→Hp→Prop):Prop:=
 (((Option.isNone s.a)=true→K (.slice none 0 0) H)∧((Option.isNone s.a)=false→∀ b H1,Newb H (.cells #[] 52) b H1 →
  App Tryz.prog #[22,22] 22 H1 [.slice (some ⟨b,0,none⟩) 0 0,.slice s.a s.n s.c] fun ap H2=>(K (.slice ap.a ap.n ap.c) H2)))
theorem V36_ok {H s K Z} (h:V36 H s K Z):CallF Tryz.prog 36 #[.slice s.a s.n s.c] H K Z:=
 fnC_sound (aJ:=fun _=>none) (aL:=fun _=>none) (Eq.mp (by kernel_rfl) h)
def V40 (H:Hp) (s:Sl) (K:Value→Hp→Prop) (Z:List PanicEntry→Hp→Prop):Prop:=
 (((Option.isNone s.a)=true→K (.slice none 0 0) H)∧((Option.isNone s.a)=false→∀ b H1,Newb H (.cells #[] 56) b H1 →
  App Tryz.prog #[23,23] 23 H1 [.slice (some ⟨b,0,none⟩) 0 0,.slice s.a s.n s.c] fun ap H2=>(K (.slice ap.a ap.n ap.c) H2)))
theorem V40_ok {H s K Z} (h:V40 H s K Z):CallF Tryz.prog 40 #[.slice s.a s.n s.c] H K Z:=
 fnC_sound (aJ:=fun _=>none) (aL:=fun _=>none) (Eq.mp (by kernel_rfl) h)
def V74 (H:Hp) (s:Sl) (K:Value→Hp→Prop) (Z:List PanicEntry→Hp→Prop):Prop:=
 (((Option.isNone s.a)=true→K (.slice none 0 0) H)∧((Option.isNone s.a)=false→∀ b H1,Newb H (.cells #[] 36) b H1 →
  App Tryz.prog #[24,24] 24 H1 [.slice (some ⟨b,0,none⟩) 0 0,.slice s.a s.n s.c] fun ap H2=>(K (.slice ap.a ap.n ap.c) H2)))
theorem V74_ok {H s K Z} (h:V74 H s K Z):CallF Tryz.prog 74 #[.slice s.a s.n s.c] H K Z:=
 fnC_sound (aJ:=fun _=>none) (aL:=fun _=>none) (Eq.mp (by kernel_rfl) h)
def V124 (H:Hp) (s1 s2:Sl) (K:Value→Hp→Prop) (Z:List PanicEntry→Hp→Prop):Prop:=
 ((((s1.n:Int) != (s2.n:Int))=true→K (.bool false) H)∧(((s1.n:Int) != (s2.n:Int))=false →
  ∃ I:Int→Hp→Nat→Prop,(∃ m,I 0 H m)∧∀ (t13:Int),∀ H1 m1,I t13 H1 m1→∀ scr:Nat →
  Value,(((decide (t13 < (s1.n:Int)))=true→IxA s1.a s1.n t13 2 fun ad=>(∃ (x_a:Int) (x_b:ByteArray),(hcell H1 ad=some (.int .i64 x_a) ∧
  hcell H1 (Addr.add ad 1)=some (.string x_b)∧True)∧IxA s2.a s2.n t13 2 fun ad1=>(∃ (x_a1:Int) (x_b1:ByteArray),(hcell H1 ad1=some (.int .i64 x_a1) ∧
  hcell H1 (Addr.add ad1 1)=some (.string x_b1)∧True)∧(((!((x_a == x_a1) && ((x_b == x_b1) && true)))=true →
  K (.bool false) H1)∧((!((x_a == x_a1) && ((x_b == x_b1) && true)))=false→(∃ m2,m2 < m1∧I (w64 (t13+1)) H1 m2)))))) ∧
  ((decide (t13 < (s1.n:Int)))=false→K (.bool true) H1))))
def aL124:Ann:=(fun k=>if k=4 then some [(13,(.sc (.int .i64)))] else none)
theorem V124_ok {H s1 s2 K Z} (h:V124 H s1 s2 K Z):CallF Tryz.prog 124 #[.slice s1.a s1.n s1.c,.slice s2.a s2.n s2.c] H K Z:=
 fnC_sound (aJ:=fun _=>none) (aL:=aL124) (Eq.mp (by kernel_rfl) h)
def V121 (H:Hp) (x:Sl) (cmp:Value) (K:Value→Hp→Prop) (Z:List PanicEntry→Hp→Prop):Prop:=
 CallF Tryz.prog 162 #[.slice x.a x.n x.c,.int .i64 (x.n:Int),cmp] H (fun r H1=>r = .tuple #[] ∧
  K (.tuple #[]) H1) Z
theorem V121_ok {H x cmp K Z} (h:V121 H x cmp K Z):CallF Tryz.prog 121 #[.slice x.a x.n x.c,cmp] H K Z:=
 fnC_sound (aJ:=fun _=>none) (aL:=fun _=>none) (Eq.mp (by kernel_rfl) h)
def V125 (H:Hp) (x:Sl) (cmp:Value) (K:Value→Hp→Prop) (Z:List PanicEntry→Hp→Prop):Prop:=
 CallF Tryz.prog 163 #[.slice x.a x.n x.c,.int .i64 (x.n:Int),cmp] H (fun r H1=>r = .tuple #[] ∧
  K (.tuple #[]) H1) Z
theorem V125_ok {H x cmp K Z} (h:V125 H x cmp K Z):CallF Tryz.prog 125 #[.slice x.a x.n x.c,cmp] H K Z:=
 fnC_sound (aJ:=fun _=>none) (aL:=fun _=>none) (Eq.mp (by kernel_rfl) h)
def V128 (H:Hp) (x:Sl) (cmp:Value) (K:Value→Hp→Prop) (Z:List PanicEntry→Hp→Prop):Prop:=
 CallF Tryz.prog 164 #[.slice x.a x.n x.c,.int .i64 (x.n:Int),cmp] H (fun r H1=>r = .tuple #[] ∧
  K (.tuple #[]) H1) Z
theorem V128_ok {H x cmp K Z} (h:V128 H x cmp K Z):CallF Tryz.prog 128 #[.slice x.a x.n x.c,cmp] H K Z:=
 fnC_sound (aJ:=fun _=>none) (aL:=fun _=>none) (Eq.mp (by kernel_rfl) h)
def V122 (H:Hp) (s:Sl) (f:Value) (K:Value→Hp→Prop) (Z:List PanicEntry→Hp→Prop):Prop:=
 CallF Tryz.prog 83 #[.slice s.a s.n s.c,f] H (fun r H1=>∃ y:Int,r = .int .i64 y∧K (.bool (decide (y≥0))) H1) Z
theorem V122_ok {H s f K Z} (h:V122 H s f K Z):CallF Tryz.prog 122 #[.slice s.a s.n s.c,f] H K Z:=
 fnC_sound (aJ:=fun _=>none) (aL:=fun _=>none) (Eq.mp (by kernel_rfl) h)
def V126 (H:Hp) (s:Sl) (f:Value) (K:Value→Hp→Prop) (Z:List PanicEntry→Hp→Prop):Prop:=
 CallF Tryz.prog 85 #[.slice s.a s.n s.c,f] H (fun r H1=>∃ y:Int,r = .int .i64 y∧K (.bool (decide (y≥0))) H1) Z
theorem V126_ok {H s f K Z} (h:V126 H s f K Z):CallF Tryz.prog 126 #[.slice s.a s.n s.c,f] H K Z:=
 fnC_sound (aJ:=fun _=>none) (aL:=fun _=>none) (Eq.mp (by kernel_rfl) h)
def V129 (H:Hp) (s:Sl) (f:Value) (K:Value→Hp→Prop) (Z:List PanicEntry→Hp→Prop):Prop:=
 CallF Tryz.prog 131 #[.slice s.a s.n s.c,f] H (fun r H1=>∃ y:Int,r = .int .i64 y∧K (.bool (decide (y≥0))) H1) Z
theorem V129_ok {H s f K Z} (h:V129 H s f K Z):CallF Tryz.prog 129 #[.slice s.a s.n s.c,f] H K Z:=
 fnC_sound (aJ:=fun _=>none) (aL:=fun _=>none) (Eq.mp (by kernel_rfl) h)
def V83 (H:Hp) (s:Sl) (f:Value) (K:Value→Hp→Prop) (Z:List PanicEntry→Hp→Prop):Prop:=
 ∃ I:Int→Hp→Nat→Prop,(∃ m,I 0 H m)∧∀ (t8:Int),∀ H1 m1,I t8 H1 m1→∀ scr:Nat→Value,(((decide (t8 < (s.n:Int)))=true →
  IxA s.a s.n t8 3 fun ad=>(∃ (x_a x_b:ByteArray) (x_c:Sl),(hcell H1 ad=some (.string x_a) ∧
  hcell H1 (Addr.add ad 1)=some (.string x_b)∧hcell H1 (Addr.add ad 2)=some (.slice x_c.a x_c.n x_c.c) ∧
  True)∧callV Tryz.prog f [.agg #[.string x_a,.string x_b,.slice x_c.a x_c.n x_c.c]] H1 (fun r H2=>
  ∃ y:Bool,r = .bool y∧((y=true→K (.int .i64 t8) H2)∧(y=false→(∃ m2,m2 < m1∧I (w64 (t8+1)) H2 m2)))) Z)) ∧
  ((decide (t8 < (s.n:Int)))=false→K (.int .i64 (-1)) H1))
def aL83:Ann:=(fun k=>if k=2 then some [(8,(.sc (.int .i64)))] else none)
theorem V83_ok {H s f K Z} (h:V83 H s f K Z):CallF Tryz.prog 83 #[.slice s.a s.n s.c,f] H K Z:=
 fnC_sound (aJ:=fun _=>none) (aL:=aL83) (Eq.mp (by kernel_rfl) h)
def V85 (H:Hp) (s:Sl) (f:Value) (K:Value→Hp→Prop) (Z:List PanicEntry→Hp→Prop):Prop:=
 ∃ I:Int→Hp→Nat→Prop,(∃ m,I 0 H m)∧∀ (t8:Int),∀ H1 m1,I t8 H1 m1→∀ scr:Nat→Value,(((decide (t8 < (s.n:Int)))=true →
  IxA s.a s.n t8 3 fun ad=>(∃ x_a x_b x_c:ByteArray,(hcell H1 ad=some (.string x_a) ∧
  hcell H1 (Addr.add ad 1)=some (.string x_b)∧hcell H1 (Addr.add ad 2)=some (.string x_c)∧True) ∧
  callV Tryz.prog f [.agg #[.string x_a,.string x_b,.string x_c]] H1 (fun r H2=>∃ y:Bool,r = .bool y ∧
  ((y=true→K (.int .i64 t8) H2)∧(y=false→(∃ m2,m2 < m1∧I (w64 (t8+1)) H2 m2)))) Z)) ∧
  ((decide (t8 < (s.n:Int)))=false→K (.int .i64 (-1)) H1))
def aL85:Ann:=(fun k=>if k=2 then some [(8,(.sc (.int .i64)))] else none)
theorem V85_ok {H s f K Z} (h:V85 H s f K Z):CallF Tryz.prog 85 #[.slice s.a s.n s.c,f] H K Z:=
 fnC_sound (aJ:=fun _=>none) (aL:=aL85) (Eq.mp (by kernel_rfl) h)
def V131 (H:Hp) (s:Sl) (f:Value) (K:Value→Hp→Prop) (Z:List PanicEntry→Hp→Prop):Prop:=
 ∃ I:Int→Hp→Nat→Prop,(∃ m,I 0 H m)∧∀ (t8:Int),∀ H1 m1,I t8 H1 m1→∀ scr:Nat→Value,(((decide (t8 < (s.n:Int)))=true →
  IxA s.a s.n t8 6 fun ad=>(∃ (x_a:Int) (x_b x_c:ByteArray) (x_d:Int) (x_e:ByteArray) (x_f:Sl),(hcell H1 ad=some (.int .i64 x_a) ∧
  hcell H1 (Addr.add ad 1)=some (.string x_b)∧hcell H1 (Addr.add ad 2)=some (.string x_c)∧hcell H1 (Addr.add ad 3)=some (.int .i64 x_d) ∧
  hcell H1 (Addr.add ad 4)=some (.string x_e)∧hcell H1 (Addr.add ad 5)=some (.slice x_f.a x_f.n x_f.c) ∧
  True)∧callV Tryz.prog f [.agg #[.int .i64 x_a,.string x_b,.string x_c,.int .i64 x_d,.string x_e,.slice x_f.a x_f.n x_f.c]] H1 (fun r H2=>
  ∃ y:Bool,r = .bool y∧((y=true→K (.int .i64 t8) H2)∧(y=false→(∃ m2,m2 < m1∧I (w64 (t8+1)) H2 m2)))) Z)) ∧
  ((decide (t8 < (s.n:Int)))=false→K (.int .i64 (-1)) H1))
def aL131:Ann:=(fun k=>if k=2 then some [(8,(.sc (.int .i64)))] else none)
theorem V131_ok {H s f K Z} (h:V131 H s f K Z):CallF Tryz.prog 131 #[.slice s.a s.n s.c,f] H K Z:=
 fnC_sound (aJ:=fun _=>none) (aL:=aL131) (Eq.mp (by kernel_rfl) h)
def V162 (H:Hp) (data:Sl) (n:Int) (cmp:Value) (K:Value→Hp→Prop) (Z:List PanicEntry→Hp→Prop):Prop:=
 ∃ I:Int→Int→Hp→Nat→Prop,(∃ m,I 0 20 H m)∧∀ (a:Int) (b:Int),∀ H1 m1,I a b H1 m1 →
  ∀ scr:Nat→Value,(((decide (b≤n))=true→CallF Tryz.prog 188 #[.slice data.a data.n data.c,.int .i64 a,.int .i64 b,cmp] H1 (fun r H2=>
  r = .tuple #[]∧(∃ m2,m2 < m1∧I b (w64 (b+20)) H2 m2)) Z)∧((decide (b≤n))=false→CallF Tryz.prog 188 #[.slice data.a data.n data.c,.int .i64 a,.int .i64 n,cmp] H1 (fun r1 H3=>
  r1 = .tuple #[]∧∃ I1:Int→Hp→Nat→Prop,(∃ m3,I1 20 H3 m3)∧∀ (blockSize:Int),∀ H4 m4,I1 blockSize H4 m4 →
  ∀ scr1:Nat→Value,(((decide (blockSize < n))=true→∃ I2:Int→Int→Hp→Nat→Prop,(∃ m6,I2 0 (w64 (2*blockSize)) H4 m6) ∧
  ∀ (a1:Int) (b1:Int),∀ H5 m7,I2 a1 b1 H5 m7→∀ scr2:Nat→Value,(((decide (b1≤n))=true →
  CallF Tryz.prog 189 #[.slice data.a data.n data.c,.int .i64 a1,.int .i64 (w64 (a1+blockSize)),.int .i64 b1,cmp] H5 (fun r2 H6=>
  r2 = .tuple #[]∧(∃ m8,m8 < m7∧I2 b1 (w64 (b1+(w64 (2*blockSize)))) H6 m8)) Z)∧((decide (b1≤n))=false →
  (((decide ((w64 (a1+blockSize)) < n))=true→CallF Tryz.prog 189 #[.slice data.a data.n data.c,.int .i64 a1,.int .i64 (w64 (a1+blockSize)),.int .i64 n,cmp] H5 (fun r3 H7=>
  r3 = .tuple #[]∧(∃ m5,m5 < m4∧I1 (w64 (blockSize*2)) H7 m5)) Z)∧((decide ((w64 (a1+blockSize)) < n))=false →
  (∃ m5,m5 < m4∧I1 (w64 (blockSize*2)) H5 m5))))))∧((decide (blockSize < n))=false→K (.tuple #[]) H4))) Z))
def aL162:Ann:=(fun k=>if k=2 then some [(7,(.sc (.int .i64))),(8,(.sc (.int .i64)))] else if k=7 then some [(6,(.sc (.int .i64)))] else if k=9 then some [(7,(.sc (.int .i64))),(8,(.sc (.int .i64)))] else none)
theorem V162_ok {H data n cmp K Z} (h:V162 H data n cmp K Z):CallF Tryz.prog 162 #[.slice data.a data.n data.c,.int .i64 n,cmp] H K Z:=
 fnC_sound (aJ:=fun _=>none) (aL:=aL162) (Eq.mp (by kernel_rfl) h)
def V163 (H:Hp) (data:Sl) (n:Int) (cmp:Value) (K:Value→Hp→Prop) (Z:List PanicEntry→Hp→Prop):Prop:=
 ∃ I:Int→Int→Hp→Nat→Prop,(∃ m,I 0 20 H m)∧∀ (a:Int) (b:Int),∀ H1 m1,I a b H1 m1 →
  ∀ scr:Nat→Value,(((decide (b≤n))=true→CallF Tryz.prog 190 #[.slice data.a data.n data.c,.int .i64 a,.int .i64 b,cmp] H1 (fun r H2=>
  r = .tuple #[]∧(∃ m2,m2 < m1∧I b (w64 (b+20)) H2 m2)) Z)∧((decide (b≤n))=false→CallF Tryz.prog 190 #[.slice data.a data.n data.c,.int .i64 a,.int .i64 n,cmp] H1 (fun r1 H3=>
  r1 = .tuple #[]∧∃ I1:Int→Hp→Nat→Prop,(∃ m3,I1 20 H3 m3)∧∀ (blockSize:Int),∀ H4 m4,I1 blockSize H4 m4 →
  ∀ scr1:Nat→Value,(((decide (blockSize < n))=true→∃ I2:Int→Int→Hp→Nat→Prop,(∃ m6,I2 0 (w64 (2*blockSize)) H4 m6) ∧
  ∀ (a1:Int) (b1:Int),∀ H5 m7,I2 a1 b1 H5 m7→∀ scr2:Nat→Value,(((decide (b1≤n))=true →
  CallF Tryz.prog 191 #[.slice data.a data.n data.c,.int .i64 a1,.int .i64 (w64 (a1+blockSize)),.int .i64 b1,cmp] H5 (fun r2 H6=>
  r2 = .tuple #[]∧(∃ m8,m8 < m7∧I2 b1 (w64 (b1+(w64 (2*blockSize)))) H6 m8)) Z)∧((decide (b1≤n))=false →
  (((decide ((w64 (a1+blockSize)) < n))=true→CallF Tryz.prog 191 #[.slice data.a data.n data.c,.int .i64 a1,.int .i64 (w64 (a1+blockSize)),.int .i64 n,cmp] H5 (fun r3 H7=>
  r3 = .tuple #[]∧(∃ m5,m5 < m4∧I1 (w64 (blockSize*2)) H7 m5)) Z)∧((decide ((w64 (a1+blockSize)) < n))=false →
  (∃ m5,m5 < m4∧I1 (w64 (blockSize*2)) H5 m5))))))∧((decide (blockSize < n))=false→K (.tuple #[]) H4))) Z))
def aL163:Ann:=(fun k=>if k=2 then some [(7,(.sc (.int .i64))),(8,(.sc (.int .i64)))] else if k=7 then some [(6,(.sc (.int .i64)))] else if k=9 then some [(7,(.sc (.int .i64))),(8,(.sc (.int .i64)))] else none)
theorem V163_ok {H data n cmp K Z} (h:V163 H data n cmp K Z):CallF Tryz.prog 163 #[.slice data.a data.n data.c,.int .i64 n,cmp] H K Z:=
 fnC_sound (aJ:=fun _=>none) (aL:=aL163) (Eq.mp (by kernel_rfl) h)
def V164 (H:Hp) (data:Sl) (n:Int) (cmp:Value) (K:Value→Hp→Prop) (Z:List PanicEntry→Hp→Prop):Prop:=
 ∃ I:Int→Int→Hp→Nat→Prop,(∃ m,I 0 20 H m)∧∀ (a:Int) (b:Int),∀ H1 m1,I a b H1 m1 →
  ∀ scr:Nat→Value,(((decide (b≤n))=true→CallF Tryz.prog 192 #[.slice data.a data.n data.c,.int .i64 a,.int .i64 b,cmp] H1 (fun r H2=>
  r = .tuple #[]∧(∃ m2,m2 < m1∧I b (w64 (b+20)) H2 m2)) Z)∧((decide (b≤n))=false→CallF Tryz.prog 192 #[.slice data.a data.n data.c,.int .i64 a,.int .i64 n,cmp] H1 (fun r1 H3=>
  r1 = .tuple #[]∧∃ I1:Int→Hp→Nat→Prop,(∃ m3,I1 20 H3 m3)∧∀ (blockSize:Int),∀ H4 m4,I1 blockSize H4 m4 →
  ∀ scr1:Nat→Value,(((decide (blockSize < n))=true→∃ I2:Int→Int→Hp→Nat→Prop,(∃ m6,I2 0 (w64 (2*blockSize)) H4 m6) ∧
  ∀ (a1:Int) (b1:Int),∀ H5 m7,I2 a1 b1 H5 m7→∀ scr2:Nat→Value,(((decide (b1≤n))=true →
  CallF Tryz.prog 193 #[.slice data.a data.n data.c,.int .i64 a1,.int .i64 (w64 (a1+blockSize)),.int .i64 b1,cmp] H5 (fun r2 H6=>
  r2 = .tuple #[]∧(∃ m8,m8 < m7∧I2 b1 (w64 (b1+(w64 (2*blockSize)))) H6 m8)) Z)∧((decide (b1≤n))=false →
  (((decide ((w64 (a1+blockSize)) < n))=true→CallF Tryz.prog 193 #[.slice data.a data.n data.c,.int .i64 a1,.int .i64 (w64 (a1+blockSize)),.int .i64 n,cmp] H5 (fun r3 H7=>
  r3 = .tuple #[]∧(∃ m5,m5 < m4∧I1 (w64 (blockSize*2)) H7 m5)) Z)∧((decide ((w64 (a1+blockSize)) < n))=false →
  (∃ m5,m5 < m4∧I1 (w64 (blockSize*2)) H5 m5))))))∧((decide (blockSize < n))=false→K (.tuple #[]) H4))) Z))
def aL164:Ann:=(fun k=>if k=2 then some [(7,(.sc (.int .i64))),(8,(.sc (.int .i64)))] else if k=7 then some [(6,(.sc (.int .i64)))] else if k=9 then some [(7,(.sc (.int .i64))),(8,(.sc (.int .i64)))] else none)
theorem V164_ok {H data n cmp K Z} (h:V164 H data n cmp K Z):CallF Tryz.prog 164 #[.slice data.a data.n data.c,.int .i64 n,cmp] H K Z:=
 fnC_sound (aJ:=fun _=>none) (aL:=aL164) (Eq.mp (by kernel_rfl) h)
def V188 (H:Hp) (data:Sl) (a b:Int) (cmp:Value) (K:Value→Hp→Prop) (Z:List PanicEntry→Hp→Prop):Prop:=
 ∃ I:Int→Hp→Nat→Prop,(∃ m,I (w64 (a+1)) H m)∧∀ (i:Int),∀ H1 m1,I i H1 m1→∀ scr:Nat →
  Value,(((decide (i < b))=true→∃ I1:Int→Hp→Nat→Prop,(∃ m3,I1 i H1 m3)∧∀ (j:Int),∀ H2 m4,I1 j H2 m4 →
  ∀ scr1:Nat→Value,(((decide (j > a))=true→IxA data.a data.n j 3 fun ad=>(∃ (x_a x_b:ByteArray) (x_c:Sl),(hcell H2 ad=some (.string x_a) ∧
  hcell H2 (Addr.add ad 1)=some (.string x_b)∧hcell H2 (Addr.add ad 2)=some (.slice x_c.a x_c.n x_c.c) ∧
  True)∧IxA data.a data.n (w64 (j - 1)) 3 fun ad1=>(∃ (x_a1 x_b1:ByteArray) (x_c1:Sl),(hcell H2 ad1=some (.string x_a1) ∧
  hcell H2 (Addr.add ad1 1)=some (.string x_b1)∧hcell H2 (Addr.add ad1 2)=some (.slice x_c1.a x_c1.n x_c1.c) ∧
  True)∧callV Tryz.prog cmp [.agg #[.string x_a,.string x_b,.slice x_c.a x_c.n x_c.c],.agg #[.string x_a1,.string x_b1,.slice x_c1.a x_c1.n x_c1.c]] H2 (fun r H3=>
  ∃ y:Int,r = .int .i64 y∧(((decide (y < 0))=true→IxA data.a data.n (w64 (j - 1)) 3 fun ad2=>
  (∃ (x_a2 x_b2:ByteArray) (x_c2:Sl),(hcell H3 ad2=some (.string x_a2)∧hcell H3 (Addr.add ad2 1)=some (.string x_b2) ∧
  hcell H3 (Addr.add ad2 2)=some (.slice x_c2.a x_c2.n x_c2.c)∧True)∧IxA data.a data.n j 3 fun ad3=>
  (∃ (x_a3 x_b3:ByteArray) (x_c3:Sl),(hcell H3 ad3=some (.string x_a3)∧hcell H3 (Addr.add ad3 1)=some (.string x_b3) ∧
  hcell H3 (Addr.add ad3 2)=some (.slice x_c3.a x_c3.n x_c3.c)∧True)∧IxA data.a data.n j 3 fun ad4=>
  (StL ad4 0 [.string x_a2,.string x_b2,.slice x_c2.a x_c2.n x_c2.c] H3 fun H4=>(IxA data.a data.n (w64 (j - 1)) 3 fun ad5=>
  (StL ad5 0 [.string x_a3,.string x_b3,.slice x_c3.a x_c3.n x_c3.c] H4 fun H5=>(∃ m5,m5 < m4 ∧
  I1 (w64 (j - 1)) H5 m5)))))))∧((decide (y < 0))=false→(∃ m2,m2 < m1∧I (w64 (i+1)) H3 m2)))) Z))) ∧
  ((decide (j > a))=false→(∃ m2,m2 < m1∧I (w64 (i+1)) H2 m2))))∧((decide (i < b))=false →
  K (.tuple #[]) H1))
def aL188:Ann:=(fun k=>if k=1 then some [(8,(.sc (.int .i64)))] else if k=4 then some [(9,(.sc (.int .i64)))] else none)
theorem V188_ok {H data a b cmp K Z} (h:V188 H data a b cmp K Z):CallF Tryz.prog 188 #[.slice data.a data.n data.c,.int .i64 a,.int .i64 b,cmp] H K Z:=
 fnC_sound (aJ:=fun _=>none) (aL:=aL188) (Eq.mp (by kernel_rfl) h)
def V190 (H:Hp) (data:Sl) (a b:Int) (cmp:Value) (K:Value→Hp→Prop) (Z:List PanicEntry→Hp→Prop):Prop:=
 ∃ I:Int→Hp→Nat→Prop,(∃ m,I (w64 (a+1)) H m)∧∀ (i:Int),∀ H1 m1,I i H1 m1→∀ scr:Nat →
  Value,(((decide (i < b))=true→∃ I1:Int→Hp→Nat→Prop,(∃ m3,I1 i H1 m3)∧∀ (j:Int),∀ H2 m4,I1 j H2 m4 →
  ∀ scr1:Nat→Value,(((decide (j > a))=true→IxA data.a data.n j 3 fun ad=>(∃ x_a x_b x_c:ByteArray,(hcell H2 ad=some (.string x_a) ∧
  hcell H2 (Addr.add ad 1)=some (.string x_b)∧hcell H2 (Addr.add ad 2)=some (.string x_c)∧True) ∧
  IxA data.a data.n (w64 (j - 1)) 3 fun ad1=>(∃ x_a1 x_b1 x_c1:ByteArray,(hcell H2 ad1=some (.string x_a1) ∧
  hcell H2 (Addr.add ad1 1)=some (.string x_b1)∧hcell H2 (Addr.add ad1 2)=some (.string x_c1) ∧
  True)∧callV Tryz.prog cmp [.agg #[.string x_a,.string x_b,.string x_c],.agg #[.string x_a1,.string x_b1,.string x_c1]] H2 (fun r H3=>
  ∃ y:Int,r = .int .i64 y∧(((decide (y < 0))=true→IxA data.a data.n (w64 (j - 1)) 3 fun ad2=>
  (∃ x_a2 x_b2 x_c2:ByteArray,(hcell H3 ad2=some (.string x_a2) ∧
  hcell H3 (Addr.add ad2 1)=some (.string x_b2)∧hcell H3 (Addr.add ad2 2)=some (.string x_c2) ∧
  True)∧IxA data.a data.n j 3 fun ad3=>(∃ x_a3 x_b3 x_c3:ByteArray,(hcell H3 ad3=some (.string x_a3) ∧
  hcell H3 (Addr.add ad3 1)=some (.string x_b3)∧hcell H3 (Addr.add ad3 2)=some (.string x_c3) ∧
  True)∧IxA data.a data.n j 3 fun ad4=>(StL ad4 0 [.string x_a2,.string x_b2,.string x_c2] H3 fun H4=>
  (IxA data.a data.n (w64 (j - 1)) 3 fun ad5=>(StL ad5 0 [.string x_a3,.string x_b3,.string x_c3] H4 fun H5=>
  (∃ m5,m5 < m4∧I1 (w64 (j - 1)) H5 m5)))))))∧((decide (y < 0))=false→(∃ m2,m2 < m1∧I (w64 (i+1)) H3 m2)))) Z))) ∧
  ((decide (j > a))=false→(∃ m2,m2 < m1∧I (w64 (i+1)) H2 m2))))∧((decide (i < b))=false →
  K (.tuple #[]) H1))
def aL190:Ann:=(fun k=>if k=1 then some [(8,(.sc (.int .i64)))] else if k=4 then some [(9,(.sc (.int .i64)))] else none)
theorem V190_ok {H data a b cmp K Z} (h:V190 H data a b cmp K Z):CallF Tryz.prog 190 #[.slice data.a data.n data.c,.int .i64 a,.int .i64 b,cmp] H K Z:=
 fnC_sound (aJ:=fun _=>none) (aL:=aL190) (Eq.mp (by kernel_rfl) h)
def V192 (H:Hp) (data:Sl) (a b:Int) (cmp:Value) (K:Value→Hp→Prop) (Z:List PanicEntry→Hp→Prop):Prop:=
 ∃ I:Int→Hp→Nat→Prop,(∃ m,I (w64 (a+1)) H m)∧∀ (i:Int),∀ H1 m1,I i H1 m1→∀ scr:Nat →
  Value,(((decide (i < b))=true→∃ I1:Int→Hp→Nat→Prop,(∃ m3,I1 i H1 m3)∧∀ (j:Int),∀ H2 m4,I1 j H2 m4 →
  ∀ scr1:Nat→Value,(((decide (j > a))=true→IxA data.a data.n j 6 fun ad=>(∃ (x_a:Int) (x_b x_c:ByteArray) (x_d:Int) (x_e:ByteArray) (x_f:Sl),(hcell H2 ad=some (.int .i64 x_a) ∧
  hcell H2 (Addr.add ad 1)=some (.string x_b)∧hcell H2 (Addr.add ad 2)=some (.string x_c)∧hcell H2 (Addr.add ad 3)=some (.int .i64 x_d) ∧
  hcell H2 (Addr.add ad 4)=some (.string x_e)∧hcell H2 (Addr.add ad 5)=some (.slice x_f.a x_f.n x_f.c) ∧
  True)∧IxA data.a data.n (w64 (j - 1)) 6 fun ad1=>(∃ (x_a1:Int) (x_b1 x_c1:ByteArray) (x_d1:Int) (x_e1:ByteArray) (x_f1:Sl),(hcell H2 ad1=some (.int .i64 x_a1) ∧
  hcell H2 (Addr.add ad1 1)=some (.string x_b1)∧hcell H2 (Addr.add ad1 2)=some (.string x_c1) ∧
  hcell H2 (Addr.add ad1 3)=some (.int .i64 x_d1)∧hcell H2 (Addr.add ad1 4)=some (.string x_e1) ∧
  hcell H2 (Addr.add ad1 5)=some (.slice x_f1.a x_f1.n x_f1.c)∧True)∧callV Tryz.prog cmp [.agg #[.int .i64 x_a,.string x_b,.string x_c,.int .i64 x_d,.string x_e,.slice x_f.a x_f.n x_f.c],.agg #[.int .i64 x_a1,.string x_b1,.string x_c1,.int .i64 x_d1,.string x_e1,.slice x_f1.a x_f1.n x_f1.c]] H2 (fun r H3=>
  ∃ y:Int,r = .int .i64 y∧(((decide (y < 0))=true→IxA data.a data.n (w64 (j - 1)) 6 fun ad2=>
  (∃ (x_a2:Int) (x_b2 x_c2:ByteArray) (x_d2:Int) (x_e2:ByteArray) (x_f2:Sl),(hcell H3 ad2=some (.int .i64 x_a2) ∧
  hcell H3 (Addr.add ad2 1)=some (.string x_b2)∧hcell H3 (Addr.add ad2 2)=some (.string x_c2) ∧
  hcell H3 (Addr.add ad2 3)=some (.int .i64 x_d2)∧hcell H3 (Addr.add ad2 4)=some (.string x_e2) ∧
  hcell H3 (Addr.add ad2 5)=some (.slice x_f2.a x_f2.n x_f2.c)∧True)∧IxA data.a data.n j 6 fun ad3=>
  (∃ (x_a3:Int) (x_b3 x_c3:ByteArray) (x_d3:Int) (x_e3:ByteArray) (x_f3:Sl),(hcell H3 ad3=some (.int .i64 x_a3) ∧
  hcell H3 (Addr.add ad3 1)=some (.string x_b3)∧hcell H3 (Addr.add ad3 2)=some (.string x_c3) ∧
  hcell H3 (Addr.add ad3 3)=some (.int .i64 x_d3)∧hcell H3 (Addr.add ad3 4)=some (.string x_e3) ∧
  hcell H3 (Addr.add ad3 5)=some (.slice x_f3.a x_f3.n x_f3.c)∧True)∧IxA data.a data.n j 6 fun ad4=>
  (StL ad4 0 [.int .i64 x_a2,.string x_b2,.string x_c2,.int .i64 x_d2,.string x_e2,.slice x_f2.a x_f2.n x_f2.c] H3 fun H4=>
  (IxA data.a data.n (w64 (j - 1)) 6 fun ad5=>(StL ad5 0 [.int .i64 x_a3,.string x_b3,.string x_c3,.int .i64 x_d3,.string x_e3,.slice x_f3.a x_f3.n x_f3.c] H4 fun H5=>
  (∃ m5,m5 < m4∧I1 (w64 (j - 1)) H5 m5)))))))∧((decide (y < 0))=false→(∃ m2,m2 < m1∧I (w64 (i+1)) H3 m2)))) Z))) ∧
  ((decide (j > a))=false→(∃ m2,m2 < m1∧I (w64 (i+1)) H2 m2))))∧((decide (i < b))=false →
  K (.tuple #[]) H1))
def aL192:Ann:=(fun k=>if k=1 then some [(8,(.sc (.int .i64)))] else if k=4 then some [(9,(.sc (.int .i64)))] else none)
theorem V192_ok {H data a b cmp K Z} (h:V192 H data a b cmp K Z):CallF Tryz.prog 192 #[.slice data.a data.n data.c,.int .i64 a,.int .i64 b,cmp] H K Z:=
 fnC_sound (aJ:=fun _=>none) (aL:=aL192) (Eq.mp (by kernel_rfl) h)
def V189 (H:Hp) (data:Sl) (a m b:Int) (cmp:Value) (K:Value→Hp→Prop) (Z:List PanicEntry→Hp→Prop):Prop:=
 ((((w64 (m - a)) == 1)=true→∃ I:Int→Int→Hp→Nat→Prop,(∃ m1,I m b H m1)∧∀ (i:Int) (j:Int),∀ H1 m2,I i j H1 m2 →
  ∀ scr:Nat→Value,(((decide (i < j))=true→IxA data.a data.n (w64 (Int.fdiv (IntKind.wrap .u64 (w64 (i+j))) (2 ^ 1))) 3 fun ad=>
  (∃ (x_a x_b:ByteArray) (x_c:Sl),(hcell H1 ad=some (.string x_a)∧hcell H1 (Addr.add ad 1)=some (.string x_b) ∧
  hcell H1 (Addr.add ad 2)=some (.slice x_c.a x_c.n x_c.c)∧True)∧IxA data.a data.n a 3 fun ad1=>
  (∃ (x_a1 x_b1:ByteArray) (x_c1:Sl),(hcell H1 ad1=some (.string x_a1)∧hcell H1 (Addr.add ad1 1)=some (.string x_b1) ∧
  hcell H1 (Addr.add ad1 2)=some (.slice x_c1.a x_c1.n x_c1.c)∧True)∧callV Tryz.prog cmp [.agg #[.string x_a,.string x_b,.slice x_c.a x_c.n x_c.c],.agg #[.string x_a1,.string x_b1,.slice x_c1.a x_c1.n x_c1.c]] H1 (fun r H2=>
  ∃ y:Int,r = .int .i64 y∧(((decide (y < 0))=true→(∃ m3,m3 < m2∧I (w64 ((w64 (Int.fdiv (IntKind.wrap .u64 (w64 (i+j))) (2 ^ 1)))+1)) j H2 m3)) ∧
  ((decide (y < 0))=false→(∃ m3,m3 < m2∧I i (w64 (Int.fdiv (IntKind.wrap .u64 (w64 (i+j))) (2 ^ 1))) H2 m3)))) Z))) ∧
  ((decide (i < j))=false→∃ I1:Int→Hp→Nat→Prop,(∃ m4,I1 a H1 m4)∧∀ (k:Int),∀ H3 m5,I1 k H3 m5 →
  ∀ scr1:Nat→Value,(((decide (k < (w64 (i - 1))))=true→IxA data.a data.n (w64 (k+1)) 3 fun ad2=>
  (∃ (x_a2 x_b2:ByteArray) (x_c2:Sl),(hcell H3 ad2=some (.string x_a2)∧hcell H3 (Addr.add ad2 1)=some (.string x_b2) ∧
  hcell H3 (Addr.add ad2 2)=some (.slice x_c2.a x_c2.n x_c2.c)∧True)∧IxA data.a data.n k 3 fun ad3=>
  (∃ (x_a3 x_b3:ByteArray) (x_c3:Sl),(hcell H3 ad3=some (.string x_a3)∧hcell H3 (Addr.add ad3 1)=some (.string x_b3) ∧
  hcell H3 (Addr.add ad3 2)=some (.slice x_c3.a x_c3.n x_c3.c)∧True)∧IxA data.a data.n k 3 fun ad4=>
  (StL ad4 0 [.string x_a2,.string x_b2,.slice x_c2.a x_c2.n x_c2.c] H3 fun H4=>(IxA data.a data.n (w64 (k+1)) 3 fun ad5=>
  (StL ad5 0 [.string x_a3,.string x_b3,.slice x_c3.a x_c3.n x_c3.c] H4 fun H5=>(∃ m6,m6 < m5 ∧
  I1 (w64 (k+1)) H5 m6)))))))∧((decide (k < (w64 (i - 1))))=false→K (.tuple #[]) H3))))) ∧
  (((w64 (m - a)) == 1)=false→((((w64 (b - m)) == 1)=true→∃ I2:Int→Int→Hp→Nat→Prop,(∃ m7,I2 a m H m7) ∧
  ∀ (i1:Int) (j1:Int),∀ H6 m8,I2 i1 j1 H6 m8→∀ scr2:Nat→Value,(((decide (i1 < j1))=true →
  IxA data.a data.n m 3 fun ad6=>(∃ (x_a4 x_b4:ByteArray) (x_c4:Sl),(hcell H6 ad6=some (.string x_a4) ∧
  hcell H6 (Addr.add ad6 1)=some (.string x_b4)∧hcell H6 (Addr.add ad6 2)=some (.slice x_c4.a x_c4.n x_c4.c) ∧
  True)∧IxA data.a data.n (w64 (Int.fdiv (IntKind.wrap .u64 (w64 (i1+j1))) (2 ^ 1))) 3 fun ad7=>
  (∃ (x_a5 x_b5:ByteArray) (x_c5:Sl),(hcell H6 ad7=some (.string x_a5)∧hcell H6 (Addr.add ad7 1)=some (.string x_b5) ∧
  hcell H6 (Addr.add ad7 2)=some (.slice x_c5.a x_c5.n x_c5.c)∧True)∧callV Tryz.prog cmp [.agg #[.string x_a4,.string x_b4,.slice x_c4.a x_c4.n x_c4.c],.agg #[.string x_a5,.string x_b5,.slice x_c5.a x_c5.n x_c5.c]] H6 (fun r1 H7=>
  ∃ y1:Int,r1 = .int .i64 y1∧(((!(decide (y1 < 0)))=true→(∃ m9,m9 < m8∧I2 (w64 ((w64 (Int.fdiv (IntKind.wrap .u64 (w64 (i1+j1))) (2 ^ 1)))+1)) j1 H7 m9)) ∧
  ((!(decide (y1 < 0)))=false→(∃ m9,m9 < m8∧I2 i1 (w64 (Int.fdiv (IntKind.wrap .u64 (w64 (i1+j1))) (2 ^ 1))) H7 m9)))) Z))) ∧
  ((decide (i1 < j1))=false→∃ I3:Int→Hp→Nat→Prop,(∃ m10,I3 m H6 m10)∧∀ (k1:Int),∀ H8 m11,I3 k1 H8 m11 →
  ∀ scr3:Nat→Value,(((decide (k1 > i1))=true→IxA data.a data.n (w64 (k1 - 1)) 3 fun ad8=>
  (∃ (x_a6 x_b6:ByteArray) (x_c6:Sl),(hcell H8 ad8=some (.string x_a6)∧hcell H8 (Addr.add ad8 1)=some (.string x_b6) ∧
  hcell H8 (Addr.add ad8 2)=some (.slice x_c6.a x_c6.n x_c6.c)∧True)∧IxA data.a data.n k1 3 fun ad9=>
  (∃ (x_a7 x_b7:ByteArray) (x_c7:Sl),(hcell H8 ad9=some (.string x_a7)∧hcell H8 (Addr.add ad9 1)=some (.string x_b7) ∧
  hcell H8 (Addr.add ad9 2)=some (.slice x_c7.a x_c7.n x_c7.c)∧True)∧IxA data.a data.n k1 3 fun ad10=>
  (StL ad10 0 [.string x_a6,.string x_b6,.slice x_c6.a x_c6.n x_c6.c] H8 fun H9=>(IxA data.a data.n (w64 (k1 - 1)) 3 fun ad11=>
  (StL ad11 0 [.string x_a7,.string x_b7,.slice x_c7.a x_c7.n x_c7.c] H9 fun H10=>(∃ m12,m12 < m11 ∧
  I3 (w64 (k1 - 1)) H10 m12)))))))∧((decide (k1 > i1))=false→K (.tuple #[]) H8)))))∧(((w64 (b - m)) == 1)=false →
  ∃ J:Int→Int→Hp→Prop,(∀ (start:Int) (r2:Int),∀ H11,J start r2 H11→∀ scr4:Nat →
  Value,∃ I4:Int→Int→Hp→Nat→Prop,(∃ m13,I4 start r2 H11 m13)∧∀ (start1:Int) (r3:Int),∀ H12 m14,I4 start1 r3 H12 m14 →
  ∀ scr5:Nat→Value,(((decide (start1 < r3))=true→IxA data.a data.n (w64 ((w64 ((w64 ((w64 (Int.fdiv (IntKind.wrap .u64 (w64 (a+b))) (2 ^ 1)))+m)) - 1)) - (w64 (Int.fdiv (IntKind.wrap .u64 (w64 (start1+r3))) (2 ^ 1))))) 3 fun ad12=>
  (∃ (x_a8 x_b8:ByteArray) (x_c8:Sl),(hcell H12 ad12=some (.string x_a8)∧hcell H12 (Addr.add ad12 1)=some (.string x_b8) ∧
  hcell H12 (Addr.add ad12 2)=some (.slice x_c8.a x_c8.n x_c8.c)∧True)∧IxA data.a data.n (w64 (Int.fdiv (IntKind.wrap .u64 (w64 (start1+r3))) (2 ^ 1))) 3 fun ad13=>
  (∃ (x_a9 x_b9:ByteArray) (x_c9:Sl),(hcell H12 ad13=some (.string x_a9)∧hcell H12 (Addr.add ad13 1)=some (.string x_b9) ∧
  hcell H12 (Addr.add ad13 2)=some (.slice x_c9.a x_c9.n x_c9.c)∧True)∧callV Tryz.prog cmp [.agg #[.string x_a8,.string x_b8,.slice x_c8.a x_c8.n x_c8.c],.agg #[.string x_a9,.string x_b9,.slice x_c9.a x_c9.n x_c9.c]] H12 (fun r4 H13=>
  ∃ y2:Int,r4 = .int .i64 y2∧(((!(decide (y2 < 0)))=true→(∃ m15,m15 < m14∧I4 (w64 ((w64 (Int.fdiv (IntKind.wrap .u64 (w64 (start1+r3))) (2 ^ 1)))+1)) r3 H13 m15)) ∧
  ((!(decide (y2 < 0)))=false→(∃ m15,m15 < m14∧I4 start1 (w64 (Int.fdiv (IntKind.wrap .u64 (w64 (start1+r3))) (2 ^ 1))) H13 m15)))) Z))) ∧
  ((decide (start1 < r3))=false→∃ J1:Hp→Prop,(∀ H14,J1  H14→∀ scr6:Nat→Value,∃ J2:Hp →
  Prop,(∀ H15,J2  H15→∀ scr7:Nat→Value,∃ J3:Bool→Hp→Prop,(∀ (t213:Bool),∀ H16,J3 t213 H16 →
  ∀ scr8:Nat→Value,((t213=true→CallF Tryz.prog 189 #[.slice data.a data.n data.c,.int .i64 (w64 (Int.fdiv (IntKind.wrap .u64 (w64 (a+b))) (2 ^ 1))),.int .i64 (w64 ((w64 ((w64 (Int.fdiv (IntKind.wrap .u64 (w64 (a+b))) (2 ^ 1)))+m)) - start1)),.int .i64 b,cmp] H16 (fun r5 H17=>
  r5 = .tuple #[]∧K (.tuple #[]) H17) Z)∧(t213=false→K (.tuple #[]) H16)))∧(((decide ((w64 (Int.fdiv (IntKind.wrap .u64 (w64 (a+b))) (2 ^ 1))) < (w64 ((w64 ((w64 (Int.fdiv (IntKind.wrap .u64 (w64 (a+b))) (2 ^ 1)))+m)) - start1))))=true →
  (J3 (decide ((w64 ((w64 ((w64 (Int.fdiv (IntKind.wrap .u64 (w64 (a+b))) (2 ^ 1)))+m)) - start1)) < b)) H15)) ∧
  ((decide ((w64 (Int.fdiv (IntKind.wrap .u64 (w64 (a+b))) (2 ^ 1))) < (w64 ((w64 ((w64 (Int.fdiv (IntKind.wrap .u64 (w64 (a+b))) (2 ^ 1)))+m)) - start1))))=false →
  (J3 false H15))))∧∃ J4:Bool→Hp→Prop,(∀ (t199:Bool),∀ H18,J4 t199 H18→∀ scr9:Nat →
  Value,((t199=true→CallF Tryz.prog 189 #[.slice data.a data.n data.c,.int .i64 a,.int .i64 start1,.int .i64 (w64 (Int.fdiv (IntKind.wrap .u64 (w64 (a+b))) (2 ^ 1))),cmp] H18 (fun r6 H19=>
  r6 = .tuple #[]∧(J2  H19)) Z)∧(t199=false→(J2  H18))))∧(((decide (a < start1))=true →
  (J4 (decide (start1 < (w64 (Int.fdiv (IntKind.wrap .u64 (w64 (a+b))) (2 ^ 1))))) H14))∧((decide (a < start1))=false →
  (J4 false H14))))∧∃ J5:Bool→Hp→Prop,(∀ (t185:Bool),∀ H20,J5 t185 H20→∀ scr10:Nat →
  Value,((t185=true→CallF Tryz.prog 208 #[.slice data.a data.n data.c,.int .i64 start1,.int .i64 m,.int .i64 (w64 ((w64 ((w64 (Int.fdiv (IntKind.wrap .u64 (w64 (a+b))) (2 ^ 1)))+m)) - start1)),cmp] H20 (fun r7 H21=>
  r7 = .tuple #[]∧(J1  H21)) Z)∧(t185=false→(J1  H20))))∧(((decide (start1 < m))=true →
  (J5 (decide (m < (w64 ((w64 ((w64 (Int.fdiv (IntKind.wrap .u64 (w64 (a+b))) (2 ^ 1)))+m)) - start1)))) H12)) ∧
  ((decide (start1 < m))=false→(J5 false H12))))))∧(((decide (m > (w64 (Int.fdiv (IntKind.wrap .u64 (w64 (a+b))) (2 ^ 1)))))=true →
  (J (w64 ((w64 ((w64 (Int.fdiv (IntKind.wrap .u64 (w64 (a+b))) (2 ^ 1)))+m)) - b)) (w64 (Int.fdiv (IntKind.wrap .u64 (w64 (a+b))) (2 ^ 1))) H)) ∧
  ((decide (m > (w64 (Int.fdiv (IntKind.wrap .u64 (w64 (a+b))) (2 ^ 1)))))=false→(J a m H)))))))
def aJ189:Ann:=(fun k=>if k=32 then some [(20,(.sc (.int .i64))),(21,(.sc (.int .i64)))] else if k=40 then some [(185,(.sc .bool))] else if k=41 then some [] else if k=42 then some [(199,(.sc .bool))] else if k=43 then some [] else if k=44 then some [(213,(.sc .bool))] else none)
def aL189:Ann:=(fun k=>if k=3 then some [(10,(.sc (.int .i64))),(11,(.sc (.int .i64)))] else if k=9 then some [(13,(.sc (.int .i64)))] else if k=15 then some [(14,(.sc (.int .i64))),(15,(.sc (.int .i64)))] else if k=21 then some [(17,(.sc (.int .i64)))] else if k=33 then some [(20,(.sc (.int .i64))),(21,(.sc (.int .i64)))] else none)
theorem V189_ok {H data a m b cmp K Z} (h:V189 H data a m b cmp K Z):CallF Tryz.prog 189 #[.slice data.a data.n data.c,.int .i64 a,.int .i64 m,.int .i64 b,cmp] H K Z:=
 fnC_sound (aJ:=aJ189) (aL:=aL189) (Eq.mp (by kernel_rfl) h)
def V191 (H:Hp) (data:Sl) (a m b:Int) (cmp:Value) (K:Value→Hp→Prop) (Z:List PanicEntry→Hp→Prop):Prop:=
 ((((w64 (m - a)) == 1)=true→∃ I:Int→Int→Hp→Nat→Prop,(∃ m1,I m b H m1)∧∀ (i:Int) (j:Int),∀ H1 m2,I i j H1 m2 →
  ∀ scr:Nat→Value,(((decide (i < j))=true→IxA data.a data.n (w64 (Int.fdiv (IntKind.wrap .u64 (w64 (i+j))) (2 ^ 1))) 3 fun ad=>
  (∃ x_a x_b x_c:ByteArray,(hcell H1 ad=some (.string x_a)∧hcell H1 (Addr.add ad 1)=some (.string x_b) ∧
  hcell H1 (Addr.add ad 2)=some (.string x_c)∧True)∧IxA data.a data.n a 3 fun ad1=>(∃ x_a1 x_b1 x_c1:ByteArray,(hcell H1 ad1=some (.string x_a1) ∧
  hcell H1 (Addr.add ad1 1)=some (.string x_b1)∧hcell H1 (Addr.add ad1 2)=some (.string x_c1) ∧
  True)∧callV Tryz.prog cmp [.agg #[.string x_a,.string x_b,.string x_c],.agg #[.string x_a1,.string x_b1,.string x_c1]] H1 (fun r H2=>
  ∃ y:Int,r = .int .i64 y∧(((decide (y < 0))=true→(∃ m3,m3 < m2∧I (w64 ((w64 (Int.fdiv (IntKind.wrap .u64 (w64 (i+j))) (2 ^ 1)))+1)) j H2 m3)) ∧
  ((decide (y < 0))=false→(∃ m3,m3 < m2∧I i (w64 (Int.fdiv (IntKind.wrap .u64 (w64 (i+j))) (2 ^ 1))) H2 m3)))) Z))) ∧
  ((decide (i < j))=false→∃ I1:Int→Hp→Nat→Prop,(∃ m4,I1 a H1 m4)∧∀ (k:Int),∀ H3 m5,I1 k H3 m5 →
  ∀ scr1:Nat→Value,(((decide (k < (w64 (i - 1))))=true→IxA data.a data.n (w64 (k+1)) 3 fun ad2=>
  (∃ x_a2 x_b2 x_c2:ByteArray,(hcell H3 ad2=some (.string x_a2) ∧
  hcell H3 (Addr.add ad2 1)=some (.string x_b2)∧hcell H3 (Addr.add ad2 2)=some (.string x_c2) ∧
  True)∧IxA data.a data.n k 3 fun ad3=>(∃ x_a3 x_b3 x_c3:ByteArray,(hcell H3 ad3=some (.string x_a3) ∧
  hcell H3 (Addr.add ad3 1)=some (.string x_b3)∧hcell H3 (Addr.add ad3 2)=some (.string x_c3) ∧
  True)∧IxA data.a data.n k 3 fun ad4=>(StL ad4 0 [.string x_a2,.string x_b2,.string x_c2] H3 fun H4=>
  (IxA data.a data.n (w64 (k+1)) 3 fun ad5=>(StL ad5 0 [.string x_a3,.string x_b3,.string x_c3] H4 fun H5=>
  (∃ m6,m6 < m5∧I1 (w64 (k+1)) H5 m6)))))))∧((decide (k < (w64 (i - 1))))=false→K (.tuple #[]) H3))))) ∧
  (((w64 (m - a)) == 1)=false→((((w64 (b - m)) == 1)=true→∃ I2:Int→Int→Hp→Nat→Prop,(∃ m7,I2 a m H m7) ∧
  ∀ (i1:Int) (j1:Int),∀ H6 m8,I2 i1 j1 H6 m8→∀ scr2:Nat→Value,(((decide (i1 < j1))=true →
  IxA data.a data.n m 3 fun ad6=>(∃ x_a4 x_b4 x_c4:ByteArray,(hcell H6 ad6=some (.string x_a4) ∧
  hcell H6 (Addr.add ad6 1)=some (.string x_b4)∧hcell H6 (Addr.add ad6 2)=some (.string x_c4) ∧
  True)∧IxA data.a data.n (w64 (Int.fdiv (IntKind.wrap .u64 (w64 (i1+j1))) (2 ^ 1))) 3 fun ad7=>
  (∃ x_a5 x_b5 x_c5:ByteArray,(hcell H6 ad7=some (.string x_a5) ∧
  hcell H6 (Addr.add ad7 1)=some (.string x_b5)∧hcell H6 (Addr.add ad7 2)=some (.string x_c5) ∧
  True)∧callV Tryz.prog cmp [.agg #[.string x_a4,.string x_b4,.string x_c4],.agg #[.string x_a5,.string x_b5,.string x_c5]] H6 (fun r1 H7=>
  ∃ y1:Int,r1 = .int .i64 y1∧(((!(decide (y1 < 0)))=true→(∃ m9,m9 < m8∧I2 (w64 ((w64 (Int.fdiv (IntKind.wrap .u64 (w64 (i1+j1))) (2 ^ 1)))+1)) j1 H7 m9)) ∧
  ((!(decide (y1 < 0)))=false→(∃ m9,m9 < m8∧I2 i1 (w64 (Int.fdiv (IntKind.wrap .u64 (w64 (i1+j1))) (2 ^ 1))) H7 m9)))) Z))) ∧
  ((decide (i1 < j1))=false→∃ I3:Int→Hp→Nat→Prop,(∃ m10,I3 m H6 m10)∧∀ (k1:Int),∀ H8 m11,I3 k1 H8 m11 →
  ∀ scr3:Nat→Value,(((decide (k1 > i1))=true→IxA data.a data.n (w64 (k1 - 1)) 3 fun ad8=>
  (∃ x_a6 x_b6 x_c6:ByteArray,(hcell H8 ad8=some (.string x_a6) ∧
  hcell H8 (Addr.add ad8 1)=some (.string x_b6)∧hcell H8 (Addr.add ad8 2)=some (.string x_c6) ∧
  True)∧IxA data.a data.n k1 3 fun ad9=>(∃ x_a7 x_b7 x_c7:ByteArray,(hcell H8 ad9=some (.string x_a7) ∧
  hcell H8 (Addr.add ad9 1)=some (.string x_b7)∧hcell H8 (Addr.add ad9 2)=some (.string x_c7) ∧
  True)∧IxA data.a data.n k1 3 fun ad10=>(StL ad10 0 [.string x_a6,.string x_b6,.string x_c6] H8 fun H9=>
  (IxA data.a data.n (w64 (k1 - 1)) 3 fun ad11=>(StL ad11 0 [.string x_a7,.string x_b7,.string x_c7] H9 fun H10=>
  (∃ m12,m12 < m11∧I3 (w64 (k1 - 1)) H10 m12)))))))∧((decide (k1 > i1))=false→K (.tuple #[]) H8))))) ∧
  (((w64 (b - m)) == 1)=false→∃ J:Int→Int→Hp→Prop,(∀ (start:Int) (r2:Int),∀ H11,J start r2 H11 →
  ∀ scr4:Nat→Value,∃ I4:Int→Int→Hp→Nat→Prop,(∃ m13,I4 start r2 H11 m13)∧∀ (start1:Int) (r3:Int),∀ H12 m14,I4 start1 r3 H12 m14 →
  ∀ scr5:Nat→Value,(((decide (start1 < r3))=true→IxA data.a data.n (w64 ((w64 ((w64 ((w64 (Int.fdiv (IntKind.wrap .u64 (w64 (a+b))) (2 ^ 1)))+m)) - 1)) - (w64 (Int.fdiv (IntKind.wrap .u64 (w64 (start1+r3))) (2 ^ 1))))) 3 fun ad12=>
  (∃ x_a8 x_b8 x_c8:ByteArray,(hcell H12 ad12=some (.string x_a8) ∧
  hcell H12 (Addr.add ad12 1)=some (.string x_b8)∧hcell H12 (Addr.add ad12 2)=some (.string x_c8) ∧
  True)∧IxA data.a data.n (w64 (Int.fdiv (IntKind.wrap .u64 (w64 (start1+r3))) (2 ^ 1))) 3 fun ad13=>
  (∃ x_a9 x_b9 x_c9:ByteArray,(hcell H12 ad13=some (.string x_a9) ∧
  hcell H12 (Addr.add ad13 1)=some (.string x_b9)∧hcell H12 (Addr.add ad13 2)=some (.string x_c9) ∧
  True)∧callV Tryz.prog cmp [.agg #[.string x_a8,.string x_b8,.string x_c8],.agg #[.string x_a9,.string x_b9,.string x_c9]] H12 (fun r4 H13=>
  ∃ y2:Int,r4 = .int .i64 y2∧(((!(decide (y2 < 0)))=true→(∃ m15,m15 < m14∧I4 (w64 ((w64 (Int.fdiv (IntKind.wrap .u64 (w64 (start1+r3))) (2 ^ 1)))+1)) r3 H13 m15)) ∧
  ((!(decide (y2 < 0)))=false→(∃ m15,m15 < m14∧I4 start1 (w64 (Int.fdiv (IntKind.wrap .u64 (w64 (start1+r3))) (2 ^ 1))) H13 m15)))) Z))) ∧
  ((decide (start1 < r3))=false→∃ J1:Hp→Prop,(∀ H14,J1  H14→∀ scr6:Nat→Value,∃ J2:Hp →
  Prop,(∀ H15,J2  H15→∀ scr7:Nat→Value,∃ J3:Bool→Hp→Prop,(∀ (t213:Bool),∀ H16,J3 t213 H16 →
  ∀ scr8:Nat→Value,((t213=true→CallF Tryz.prog 191 #[.slice data.a data.n data.c,.int .i64 (w64 (Int.fdiv (IntKind.wrap .u64 (w64 (a+b))) (2 ^ 1))),.int .i64 (w64 ((w64 ((w64 (Int.fdiv (IntKind.wrap .u64 (w64 (a+b))) (2 ^ 1)))+m)) - start1)),.int .i64 b,cmp] H16 (fun r5 H17=>
  r5 = .tuple #[]∧K (.tuple #[]) H17) Z)∧(t213=false→K (.tuple #[]) H16)))∧(((decide ((w64 (Int.fdiv (IntKind.wrap .u64 (w64 (a+b))) (2 ^ 1))) < (w64 ((w64 ((w64 (Int.fdiv (IntKind.wrap .u64 (w64 (a+b))) (2 ^ 1)))+m)) - start1))))=true →
  (J3 (decide ((w64 ((w64 ((w64 (Int.fdiv (IntKind.wrap .u64 (w64 (a+b))) (2 ^ 1)))+m)) - start1)) < b)) H15)) ∧
  ((decide ((w64 (Int.fdiv (IntKind.wrap .u64 (w64 (a+b))) (2 ^ 1))) < (w64 ((w64 ((w64 (Int.fdiv (IntKind.wrap .u64 (w64 (a+b))) (2 ^ 1)))+m)) - start1))))=false →
  (J3 false H15))))∧∃ J4:Bool→Hp→Prop,(∀ (t199:Bool),∀ H18,J4 t199 H18→∀ scr9:Nat →
  Value,((t199=true→CallF Tryz.prog 191 #[.slice data.a data.n data.c,.int .i64 a,.int .i64 start1,.int .i64 (w64 (Int.fdiv (IntKind.wrap .u64 (w64 (a+b))) (2 ^ 1))),cmp] H18 (fun r6 H19=>
  r6 = .tuple #[]∧(J2  H19)) Z)∧(t199=false→(J2  H18))))∧(((decide (a < start1))=true →
  (J4 (decide (start1 < (w64 (Int.fdiv (IntKind.wrap .u64 (w64 (a+b))) (2 ^ 1))))) H14))∧((decide (a < start1))=false →
  (J4 false H14))))∧∃ J5:Bool→Hp→Prop,(∀ (t185:Bool),∀ H20,J5 t185 H20→∀ scr10:Nat →
  Value,((t185=true→CallF Tryz.prog 209 #[.slice data.a data.n data.c,.int .i64 start1,.int .i64 m,.int .i64 (w64 ((w64 ((w64 (Int.fdiv (IntKind.wrap .u64 (w64 (a+b))) (2 ^ 1)))+m)) - start1)),cmp] H20 (fun r7 H21=>
  r7 = .tuple #[]∧(J1  H21)) Z)∧(t185=false→(J1  H20))))∧(((decide (start1 < m))=true →
  (J5 (decide (m < (w64 ((w64 ((w64 (Int.fdiv (IntKind.wrap .u64 (w64 (a+b))) (2 ^ 1)))+m)) - start1)))) H12)) ∧
  ((decide (start1 < m))=false→(J5 false H12))))))∧(((decide (m > (w64 (Int.fdiv (IntKind.wrap .u64 (w64 (a+b))) (2 ^ 1)))))=true →
  (J (w64 ((w64 ((w64 (Int.fdiv (IntKind.wrap .u64 (w64 (a+b))) (2 ^ 1)))+m)) - b)) (w64 (Int.fdiv (IntKind.wrap .u64 (w64 (a+b))) (2 ^ 1))) H)) ∧
  ((decide (m > (w64 (Int.fdiv (IntKind.wrap .u64 (w64 (a+b))) (2 ^ 1)))))=false→(J a m H)))))))
def aJ191:Ann:=(fun k=>if k=32 then some [(20,(.sc (.int .i64))),(21,(.sc (.int .i64)))] else if k=40 then some [(185,(.sc .bool))] else if k=41 then some [] else if k=42 then some [(199,(.sc .bool))] else if k=43 then some [] else if k=44 then some [(213,(.sc .bool))] else none)
def aL191:Ann:=(fun k=>if k=3 then some [(10,(.sc (.int .i64))),(11,(.sc (.int .i64)))] else if k=9 then some [(13,(.sc (.int .i64)))] else if k=15 then some [(14,(.sc (.int .i64))),(15,(.sc (.int .i64)))] else if k=21 then some [(17,(.sc (.int .i64)))] else if k=33 then some [(20,(.sc (.int .i64))),(21,(.sc (.int .i64)))] else none)
theorem V191_ok {H data a m b cmp K Z} (h:V191 H data a m b cmp K Z):CallF Tryz.prog 191 #[.slice data.a data.n data.c,.int .i64 a,.int .i64 m,.int .i64 b,cmp] H K Z:=
 fnC_sound (aJ:=aJ191) (aL:=aL191) (Eq.mp (by kernel_rfl) h)
abbrev W193_1 (H1:Hp) (ad:Addr) (x_a:Int) (x_b:ByteArray) (x_c:ByteArray) (x_d:Int) (x_e:ByteArray) (x_f:Sl):Prop:=
 hcell H1 ad=some (.int .i64 x_a) ∧
  hcell H1 (Addr.add ad 1)=some (.string x_b)∧hcell H1 (Addr.add ad 2)=some (.string x_c)∧hcell H1 (Addr.add ad 3)=some (.int .i64 x_d) ∧
  hcell H1 (Addr.add ad 4)=some (.string x_e)∧hcell H1 (Addr.add ad 5)=some (.slice x_f.a x_f.n x_f.c) ∧
  True
def V193 (H:Hp) (data:Sl) (a m b:Int) (cmp:Value) (K:Value→Hp→Prop) (Z:List PanicEntry→Hp→Prop):Prop:=
 ((((w64 (m - a)) == 1)=true→∃ I:Int→Int→Hp→Nat→Prop,(∃ m1,I m b H m1)∧∀ (i:Int) (j:Int),∀ H1 m2,I i j H1 m2 →
  ∀ scr:Nat→Value,(((decide (i < j))=true→IxA data.a data.n (w64 (Int.fdiv (IntKind.wrap .u64 (w64 (i+j))) (2 ^ 1))) 6 fun ad=>
  (∃ (x_a:Int) (x_b x_c:ByteArray) (x_d:Int) (x_e:ByteArray) (x_f:Sl),(W193_1 H1 ad x_a x_b x_c x_d x_e x_f)∧IxA data.a data.n a 6 fun ad1=>(∃ (x_a1:Int) (x_b1 x_c1:ByteArray) (x_d1:Int) (x_e1:ByteArray) (x_f1:Sl),(W193_1 H1 ad1 x_a1 x_b1 x_c1 x_d1 x_e1 x_f1)∧callV Tryz.prog cmp [.agg #[.int .i64 x_a,.string x_b,.string x_c,.int .i64 x_d,.string x_e,.slice x_f.a x_f.n x_f.c],.agg #[.int .i64 x_a1,.string x_b1,.string x_c1,.int .i64 x_d1,.string x_e1,.slice x_f1.a x_f1.n x_f1.c]] H1 (fun r H2=>
  ∃ y:Int,r = .int .i64 y∧(((decide (y < 0))=true→(∃ m3,m3 < m2∧I (w64 ((w64 (Int.fdiv (IntKind.wrap .u64 (w64 (i+j))) (2 ^ 1)))+1)) j H2 m3)) ∧
  ((decide (y < 0))=false→(∃ m3,m3 < m2∧I i (w64 (Int.fdiv (IntKind.wrap .u64 (w64 (i+j))) (2 ^ 1))) H2 m3)))) Z))) ∧
  ((decide (i < j))=false→∃ I1:Int→Hp→Nat→Prop,(∃ m4,I1 a H1 m4)∧∀ (k:Int),∀ H3 m5,I1 k H3 m5 →
  ∀ scr1:Nat→Value,(((decide (k < (w64 (i - 1))))=true→IxA data.a data.n (w64 (k+1)) 6 fun ad2=>
  (∃ (x_a2:Int) (x_b2 x_c2:ByteArray) (x_d2:Int) (x_e2:ByteArray) (x_f2:Sl),(W193_1 H3 ad2 x_a2 x_b2 x_c2 x_d2 x_e2 x_f2)∧IxA data.a data.n k 6 fun ad3=>
  (∃ (x_a3:Int) (x_b3 x_c3:ByteArray) (x_d3:Int) (x_e3:ByteArray) (x_f3:Sl),(W193_1 H3 ad3 x_a3 x_b3 x_c3 x_d3 x_e3 x_f3)∧IxA data.a data.n k 6 fun ad4=>
  (StL ad4 0 [.int .i64 x_a2,.string x_b2,.string x_c2,.int .i64 x_d2,.string x_e2,.slice x_f2.a x_f2.n x_f2.c] H3 fun H4=>
  (IxA data.a data.n (w64 (k+1)) 6 fun ad5=>(StL ad5 0 [.int .i64 x_a3,.string x_b3,.string x_c3,.int .i64 x_d3,.string x_e3,.slice x_f3.a x_f3.n x_f3.c] H4 fun H5=>
  (∃ m6,m6 < m5∧I1 (w64 (k+1)) H5 m6)))))))∧((decide (k < (w64 (i - 1))))=false→K (.tuple #[]) H3))))) ∧
  (((w64 (m - a)) == 1)=false→((((w64 (b - m)) == 1)=true→∃ I2:Int→Int→Hp→Nat→Prop,(∃ m7,I2 a m H m7) ∧
  ∀ (i1:Int) (j1:Int),∀ H6 m8,I2 i1 j1 H6 m8→∀ scr2:Nat→Value,(((decide (i1 < j1))=true →
  IxA data.a data.n m 6 fun ad6=>(∃ (x_a4:Int) (x_b4 x_c4:ByteArray) (x_d4:Int) (x_e4:ByteArray) (x_f4:Sl),(W193_1 H6 ad6 x_a4 x_b4 x_c4 x_d4 x_e4 x_f4)∧IxA data.a data.n (w64 (Int.fdiv (IntKind.wrap .u64 (w64 (i1+j1))) (2 ^ 1))) 6 fun ad7=>
  (∃ (x_a5:Int) (x_b5 x_c5:ByteArray) (x_d5:Int) (x_e5:ByteArray) (x_f5:Sl),(W193_1 H6 ad7 x_a5 x_b5 x_c5 x_d5 x_e5 x_f5)∧callV Tryz.prog cmp [.agg #[.int .i64 x_a4,.string x_b4,.string x_c4,.int .i64 x_d4,.string x_e4,.slice x_f4.a x_f4.n x_f4.c],.agg #[.int .i64 x_a5,.string x_b5,.string x_c5,.int .i64 x_d5,.string x_e5,.slice x_f5.a x_f5.n x_f5.c]] H6 (fun r1 H7=>
  ∃ y1:Int,r1 = .int .i64 y1∧(((!(decide (y1 < 0)))=true→(∃ m9,m9 < m8∧I2 (w64 ((w64 (Int.fdiv (IntKind.wrap .u64 (w64 (i1+j1))) (2 ^ 1)))+1)) j1 H7 m9)) ∧
  ((!(decide (y1 < 0)))=false→(∃ m9,m9 < m8∧I2 i1 (w64 (Int.fdiv (IntKind.wrap .u64 (w64 (i1+j1))) (2 ^ 1))) H7 m9)))) Z))) ∧
  ((decide (i1 < j1))=false→∃ I3:Int→Hp→Nat→Prop,(∃ m10,I3 m H6 m10)∧∀ (k1:Int),∀ H8 m11,I3 k1 H8 m11 →
  ∀ scr3:Nat→Value,(((decide (k1 > i1))=true→IxA data.a data.n (w64 (k1 - 1)) 6 fun ad8=>
  (∃ (x_a6:Int) (x_b6 x_c6:ByteArray) (x_d6:Int) (x_e6:ByteArray) (x_f6:Sl),(W193_1 H8 ad8 x_a6 x_b6 x_c6 x_d6 x_e6 x_f6)∧IxA data.a data.n k1 6 fun ad9=>
  (∃ (x_a7:Int) (x_b7 x_c7:ByteArray) (x_d7:Int) (x_e7:ByteArray) (x_f7:Sl),(W193_1 H8 ad9 x_a7 x_b7 x_c7 x_d7 x_e7 x_f7)∧IxA data.a data.n k1 6 fun ad10=>
  (StL ad10 0 [.int .i64 x_a6,.string x_b6,.string x_c6,.int .i64 x_d6,.string x_e6,.slice x_f6.a x_f6.n x_f6.c] H8 fun H9=>
  (IxA data.a data.n (w64 (k1 - 1)) 6 fun ad11=>(StL ad11 0 [.int .i64 x_a7,.string x_b7,.string x_c7,.int .i64 x_d7,.string x_e7,.slice x_f7.a x_f7.n x_f7.c] H9 fun H10=>
  (∃ m12,m12 < m11∧I3 (w64 (k1 - 1)) H10 m12)))))))∧((decide (k1 > i1))=false→K (.tuple #[]) H8))))) ∧
  (((w64 (b - m)) == 1)=false→∃ J:Int→Int→Hp→Prop,(∀ (start:Int) (r2:Int),∀ H11,J start r2 H11 →
  ∀ scr4:Nat→Value,∃ I4:Int→Int→Hp→Nat→Prop,(∃ m13,I4 start r2 H11 m13)∧∀ (start1:Int) (r3:Int),∀ H12 m14,I4 start1 r3 H12 m14 →
  ∀ scr5:Nat→Value,(((decide (start1 < r3))=true→IxA data.a data.n (w64 ((w64 ((w64 ((w64 (Int.fdiv (IntKind.wrap .u64 (w64 (a+b))) (2 ^ 1)))+m)) - 1)) - (w64 (Int.fdiv (IntKind.wrap .u64 (w64 (start1+r3))) (2 ^ 1))))) 6 fun ad12=>
  (∃ (x_a8:Int) (x_b8 x_c8:ByteArray) (x_d8:Int) (x_e8:ByteArray) (x_f8:Sl),(W193_1 H12 ad12 x_a8 x_b8 x_c8 x_d8 x_e8 x_f8)∧IxA data.a data.n (w64 (Int.fdiv (IntKind.wrap .u64 (w64 (start1+r3))) (2 ^ 1))) 6 fun ad13=>
  (∃ (x_a9:Int) (x_b9 x_c9:ByteArray) (x_d9:Int) (x_e9:ByteArray) (x_f9:Sl),(W193_1 H12 ad13 x_a9 x_b9 x_c9 x_d9 x_e9 x_f9)∧callV Tryz.prog cmp [.agg #[.int .i64 x_a8,.string x_b8,.string x_c8,.int .i64 x_d8,.string x_e8,.slice x_f8.a x_f8.n x_f8.c],.agg #[.int .i64 x_a9,.string x_b9,.string x_c9,.int .i64 x_d9,.string x_e9,.slice x_f9.a x_f9.n x_f9.c]] H12 (fun r4 H13=>
  ∃ y2:Int,r4 = .int .i64 y2∧(((!(decide (y2 < 0)))=true→(∃ m15,m15 < m14∧I4 (w64 ((w64 (Int.fdiv (IntKind.wrap .u64 (w64 (start1+r3))) (2 ^ 1)))+1)) r3 H13 m15)) ∧
  ((!(decide (y2 < 0)))=false→(∃ m15,m15 < m14∧I4 start1 (w64 (Int.fdiv (IntKind.wrap .u64 (w64 (start1+r3))) (2 ^ 1))) H13 m15)))) Z))) ∧
  ((decide (start1 < r3))=false→∃ J1:Hp→Prop,(∀ H14,J1  H14→∀ scr6:Nat→Value,∃ J2:Hp →
  Prop,(∀ H15,J2  H15→∀ scr7:Nat→Value,∃ J3:Bool→Hp→Prop,(∀ (t213:Bool),∀ H16,J3 t213 H16 →
  ∀ scr8:Nat→Value,((t213=true→CallF Tryz.prog 193 #[.slice data.a data.n data.c,.int .i64 (w64 (Int.fdiv (IntKind.wrap .u64 (w64 (a+b))) (2 ^ 1))),.int .i64 (w64 ((w64 ((w64 (Int.fdiv (IntKind.wrap .u64 (w64 (a+b))) (2 ^ 1)))+m)) - start1)),.int .i64 b,cmp] H16 (fun r5 H17=>
  r5 = .tuple #[]∧K (.tuple #[]) H17) Z)∧(t213=false→K (.tuple #[]) H16)))∧(((decide ((w64 (Int.fdiv (IntKind.wrap .u64 (w64 (a+b))) (2 ^ 1))) < (w64 ((w64 ((w64 (Int.fdiv (IntKind.wrap .u64 (w64 (a+b))) (2 ^ 1)))+m)) - start1))))=true →
  (J3 (decide ((w64 ((w64 ((w64 (Int.fdiv (IntKind.wrap .u64 (w64 (a+b))) (2 ^ 1)))+m)) - start1)) < b)) H15)) ∧
  ((decide ((w64 (Int.fdiv (IntKind.wrap .u64 (w64 (a+b))) (2 ^ 1))) < (w64 ((w64 ((w64 (Int.fdiv (IntKind.wrap .u64 (w64 (a+b))) (2 ^ 1)))+m)) - start1))))=false →
  (J3 false H15))))∧∃ J4:Bool→Hp→Prop,(∀ (t199:Bool),∀ H18,J4 t199 H18→∀ scr9:Nat →
  Value,((t199=true→CallF Tryz.prog 193 #[.slice data.a data.n data.c,.int .i64 a,.int .i64 start1,.int .i64 (w64 (Int.fdiv (IntKind.wrap .u64 (w64 (a+b))) (2 ^ 1))),cmp] H18 (fun r6 H19=>
  r6 = .tuple #[]∧(J2  H19)) Z)∧(t199=false→(J2  H18))))∧(((decide (a < start1))=true →
  (J4 (decide (start1 < (w64 (Int.fdiv (IntKind.wrap .u64 (w64 (a+b))) (2 ^ 1))))) H14))∧((decide (a < start1))=false →
  (J4 false H14))))∧∃ J5:Bool→Hp→Prop,(∀ (t185:Bool),∀ H20,J5 t185 H20→∀ scr10:Nat →
  Value,((t185=true→CallF Tryz.prog 210 #[.slice data.a data.n data.c,.int .i64 start1,.int .i64 m,.int .i64 (w64 ((w64 ((w64 (Int.fdiv (IntKind.wrap .u64 (w64 (a+b))) (2 ^ 1)))+m)) - start1)),cmp] H20 (fun r7 H21=>
  r7 = .tuple #[]∧(J1  H21)) Z)∧(t185=false→(J1  H20))))∧(((decide (start1 < m))=true →
  (J5 (decide (m < (w64 ((w64 ((w64 (Int.fdiv (IntKind.wrap .u64 (w64 (a+b))) (2 ^ 1)))+m)) - start1)))) H12)) ∧
  ((decide (start1 < m))=false→(J5 false H12))))))∧(((decide (m > (w64 (Int.fdiv (IntKind.wrap .u64 (w64 (a+b))) (2 ^ 1)))))=true →
  (J (w64 ((w64 ((w64 (Int.fdiv (IntKind.wrap .u64 (w64 (a+b))) (2 ^ 1)))+m)) - b)) (w64 (Int.fdiv (IntKind.wrap .u64 (w64 (a+b))) (2 ^ 1))) H)) ∧
  ((decide (m > (w64 (Int.fdiv (IntKind.wrap .u64 (w64 (a+b))) (2 ^ 1)))))=false→(J a m H)))))))
def aJ193:Ann:=(fun k=>if k=32 then some [(20,(.sc (.int .i64))),(21,(.sc (.int .i64)))] else if k=40 then some [(185,(.sc .bool))] else if k=41 then some [] else if k=42 then some [(199,(.sc .bool))] else if k=43 then some [] else if k=44 then some [(213,(.sc .bool))] else none)
def aL193:Ann:=(fun k=>if k=3 then some [(10,(.sc (.int .i64))),(11,(.sc (.int .i64)))] else if k=9 then some [(13,(.sc (.int .i64)))] else if k=15 then some [(14,(.sc (.int .i64))),(15,(.sc (.int .i64)))] else if k=21 then some [(17,(.sc (.int .i64)))] else if k=33 then some [(20,(.sc (.int .i64))),(21,(.sc (.int .i64)))] else none)
theorem V193_ok {H data a m b cmp K Z} (h:V193 H data a m b cmp K Z):CallF Tryz.prog 193 #[.slice data.a data.n data.c,.int .i64 a,.int .i64 m,.int .i64 b,cmp] H K Z:=
 fnC_sound (aJ:=aJ193) (aL:=aL193) (Eq.mp (by kernel_rfl) h)
def V208 (H:Hp) (data:Sl) (a m b:Int) (cmp:Value) (K:Value→Hp→Prop) (Z:List PanicEntry→Hp→Prop):Prop:=
 ∃ I:Int→Int→Hp→Nat→Prop,(∃ m1,I (w64 (m - a)) (w64 (b - m)) H m1)∧∀ (i:Int) (j:Int),∀ H1 m2,I i j H1 m2 →
  ∀ scr:Nat→Value,(((i != j)=true→(((decide (i > j))=true→CallF Tryz.prog 231 #[.slice data.a data.n data.c,.int .i64 (w64 (m - i)),.int .i64 m,.int .i64 j,cmp] H1 (fun r H2=>
  r = .tuple #[]∧(∃ m3,m3 < m2∧I (w64 (i - j)) j H2 m3)) Z)∧((decide (i > j))=false→CallF Tryz.prog 231 #[.slice data.a data.n data.c,.int .i64 (w64 (m - i)),.int .i64 (w64 ((w64 (m+j)) - i)),.int .i64 i,cmp] H1 (fun r1 H3=>
  r1 = .tuple #[]∧(∃ m3,m3 < m2∧I i (w64 (j - i)) H3 m3)) Z)))∧((i != j)=false→CallF Tryz.prog 231 #[.slice data.a data.n data.c,.int .i64 (w64 (m - i)),.int .i64 m,.int .i64 i,cmp] H1 (fun r2 H4=>
  r2 = .tuple #[]∧K (.tuple #[]) H4) Z))
def aL208:Ann:=(fun k=>if k=2 then some [(10,(.sc (.int .i64))),(11,(.sc (.int .i64)))] else none)
theorem V208_ok {H data a m b cmp K Z} (h:V208 H data a m b cmp K Z):CallF Tryz.prog 208 #[.slice data.a data.n data.c,.int .i64 a,.int .i64 m,.int .i64 b,cmp] H K Z:=
 fnC_sound (aJ:=fun _=>none) (aL:=aL208) (Eq.mp (by kernel_rfl) h)
def V209 (H:Hp) (data:Sl) (a m b:Int) (cmp:Value) (K:Value→Hp→Prop) (Z:List PanicEntry→Hp→Prop):Prop:=
 ∃ I:Int→Int→Hp→Nat→Prop,(∃ m1,I (w64 (m - a)) (w64 (b - m)) H m1)∧∀ (i:Int) (j:Int),∀ H1 m2,I i j H1 m2 →
  ∀ scr:Nat→Value,(((i != j)=true→(((decide (i > j))=true→CallF Tryz.prog 232 #[.slice data.a data.n data.c,.int .i64 (w64 (m - i)),.int .i64 m,.int .i64 j,cmp] H1 (fun r H2=>
  r = .tuple #[]∧(∃ m3,m3 < m2∧I (w64 (i - j)) j H2 m3)) Z)∧((decide (i > j))=false→CallF Tryz.prog 232 #[.slice data.a data.n data.c,.int .i64 (w64 (m - i)),.int .i64 (w64 ((w64 (m+j)) - i)),.int .i64 i,cmp] H1 (fun r1 H3=>
  r1 = .tuple #[]∧(∃ m3,m3 < m2∧I i (w64 (j - i)) H3 m3)) Z)))∧((i != j)=false→CallF Tryz.prog 232 #[.slice data.a data.n data.c,.int .i64 (w64 (m - i)),.int .i64 m,.int .i64 i,cmp] H1 (fun r2 H4=>
  r2 = .tuple #[]∧K (.tuple #[]) H4) Z))
def aL209:Ann:=(fun k=>if k=2 then some [(10,(.sc (.int .i64))),(11,(.sc (.int .i64)))] else none)
theorem V209_ok {H data a m b cmp K Z} (h:V209 H data a m b cmp K Z):CallF Tryz.prog 209 #[.slice data.a data.n data.c,.int .i64 a,.int .i64 m,.int .i64 b,cmp] H K Z:=
 fnC_sound (aJ:=fun _=>none) (aL:=aL209) (Eq.mp (by kernel_rfl) h)
def V210 (H:Hp) (data:Sl) (a m b:Int) (cmp:Value) (K:Value→Hp→Prop) (Z:List PanicEntry→Hp→Prop):Prop:=
 ∃ I:Int→Int→Hp→Nat→Prop,(∃ m1,I (w64 (m - a)) (w64 (b - m)) H m1)∧∀ (i:Int) (j:Int),∀ H1 m2,I i j H1 m2 →
  ∀ scr:Nat→Value,(((i != j)=true→(((decide (i > j))=true→CallF Tryz.prog 233 #[.slice data.a data.n data.c,.int .i64 (w64 (m - i)),.int .i64 m,.int .i64 j,cmp] H1 (fun r H2=>
  r = .tuple #[]∧(∃ m3,m3 < m2∧I (w64 (i - j)) j H2 m3)) Z)∧((decide (i > j))=false→CallF Tryz.prog 233 #[.slice data.a data.n data.c,.int .i64 (w64 (m - i)),.int .i64 (w64 ((w64 (m+j)) - i)),.int .i64 i,cmp] H1 (fun r1 H3=>
  r1 = .tuple #[]∧(∃ m3,m3 < m2∧I i (w64 (j - i)) H3 m3)) Z)))∧((i != j)=false→CallF Tryz.prog 233 #[.slice data.a data.n data.c,.int .i64 (w64 (m - i)),.int .i64 m,.int .i64 i,cmp] H1 (fun r2 H4=>
  r2 = .tuple #[]∧K (.tuple #[]) H4) Z))
def aL210:Ann:=(fun k=>if k=2 then some [(10,(.sc (.int .i64))),(11,(.sc (.int .i64)))] else none)
theorem V210_ok {H data a m b cmp K Z} (h:V210 H data a m b cmp K Z):CallF Tryz.prog 210 #[.slice data.a data.n data.c,.int .i64 a,.int .i64 m,.int .i64 b,cmp] H K Z:=
 fnC_sound (aJ:=fun _=>none) (aL:=aL210) (Eq.mp (by kernel_rfl) h)
def V231 (H:Hp) (data:Sl) (a b n:Int) (cmp:Value) (K:Value→Hp→Prop) (Z:List PanicEntry→Hp→Prop):Prop:=
 ∃ I:Int→Hp→Nat→Prop,(∃ m,I 0 H m)∧∀ (i:Int),∀ H1 m1,I i H1 m1→∀ scr:Nat→Value,(((decide (i < n))=true →
  IxA data.a data.n (w64 (b+i)) 3 fun ad=>(∃ (x_a x_b:ByteArray) (x_c:Sl),(hcell H1 ad=some (.string x_a) ∧
  hcell H1 (Addr.add ad 1)=some (.string x_b)∧hcell H1 (Addr.add ad 2)=some (.slice x_c.a x_c.n x_c.c) ∧
  True)∧IxA data.a data.n (w64 (a+i)) 3 fun ad1=>(∃ (x_a1 x_b1:ByteArray) (x_c1:Sl),(hcell H1 ad1=some (.string x_a1) ∧
  hcell H1 (Addr.add ad1 1)=some (.string x_b1)∧hcell H1 (Addr.add ad1 2)=some (.slice x_c1.a x_c1.n x_c1.c) ∧
  True)∧IxA data.a data.n (w64 (a+i)) 3 fun ad2=>(StL ad2 0 [.string x_a,.string x_b,.slice x_c.a x_c.n x_c.c] H1 fun H2=>
  (IxA data.a data.n (w64 (b+i)) 3 fun ad3=>(StL ad3 0 [.string x_a1,.string x_b1,.slice x_c1.a x_c1.n x_c1.c] H2 fun H3=>
  (∃ m2,m2 < m1∧I (w64 (i+1)) H3 m2)))))))∧((decide (i < n))=false→K (.tuple #[]) H1))
def aL231:Ann:=(fun k=>if k=1 then some [(10,(.sc (.int .i64)))] else none)
theorem V231_ok {H data a b n cmp K Z} (h:V231 H data a b n cmp K Z):CallF Tryz.prog 231 #[.slice data.a data.n data.c,.int .i64 a,.int .i64 b,.int .i64 n,cmp] H K Z:=
 fnC_sound (aJ:=fun _=>none) (aL:=aL231) (Eq.mp (by kernel_rfl) h)
def V232 (H:Hp) (data:Sl) (a b n:Int) (cmp:Value) (K:Value→Hp→Prop) (Z:List PanicEntry→Hp→Prop):Prop:=
 ∃ I:Int→Hp→Nat→Prop,(∃ m,I 0 H m)∧∀ (i:Int),∀ H1 m1,I i H1 m1→∀ scr:Nat→Value,(((decide (i < n))=true →
  IxA data.a data.n (w64 (b+i)) 3 fun ad=>(∃ x_a x_b x_c:ByteArray,(hcell H1 ad=some (.string x_a) ∧
  hcell H1 (Addr.add ad 1)=some (.string x_b)∧hcell H1 (Addr.add ad 2)=some (.string x_c)∧True) ∧
  IxA data.a data.n (w64 (a+i)) 3 fun ad1=>(∃ x_a1 x_b1 x_c1:ByteArray,(hcell H1 ad1=some (.string x_a1) ∧
  hcell H1 (Addr.add ad1 1)=some (.string x_b1)∧hcell H1 (Addr.add ad1 2)=some (.string x_c1) ∧
  True)∧IxA data.a data.n (w64 (a+i)) 3 fun ad2=>(StL ad2 0 [.string x_a,.string x_b,.string x_c] H1 fun H2=>
  (IxA data.a data.n (w64 (b+i)) 3 fun ad3=>(StL ad3 0 [.string x_a1,.string x_b1,.string x_c1] H2 fun H3=>
  (∃ m2,m2 < m1∧I (w64 (i+1)) H3 m2)))))))∧((decide (i < n))=false→K (.tuple #[]) H1))
def aL232:Ann:=(fun k=>if k=1 then some [(10,(.sc (.int .i64)))] else none)
theorem V232_ok {H data a b n cmp K Z} (h:V232 H data a b n cmp K Z):CallF Tryz.prog 232 #[.slice data.a data.n data.c,.int .i64 a,.int .i64 b,.int .i64 n,cmp] H K Z:=
 fnC_sound (aJ:=fun _=>none) (aL:=aL232) (Eq.mp (by kernel_rfl) h)
def V233 (H:Hp) (data:Sl) (a b n:Int) (cmp:Value) (K:Value→Hp→Prop) (Z:List PanicEntry→Hp→Prop):Prop:=
 ∃ I:Int→Hp→Nat→Prop,(∃ m,I 0 H m)∧∀ (i:Int),∀ H1 m1,I i H1 m1→∀ scr:Nat→Value,(((decide (i < n))=true →
  IxA data.a data.n (w64 (b+i)) 6 fun ad=>(∃ (x_a:Int) (x_b x_c:ByteArray) (x_d:Int) (x_e:ByteArray) (x_f:Sl),(hcell H1 ad=some (.int .i64 x_a) ∧
  hcell H1 (Addr.add ad 1)=some (.string x_b)∧hcell H1 (Addr.add ad 2)=some (.string x_c)∧hcell H1 (Addr.add ad 3)=some (.int .i64 x_d) ∧
  hcell H1 (Addr.add ad 4)=some (.string x_e)∧hcell H1 (Addr.add ad 5)=some (.slice x_f.a x_f.n x_f.c) ∧
  True)∧IxA data.a data.n (w64 (a+i)) 6 fun ad1=>(∃ (x_a1:Int) (x_b1 x_c1:ByteArray) (x_d1:Int) (x_e1:ByteArray) (x_f1:Sl),(hcell H1 ad1=some (.int .i64 x_a1) ∧
  hcell H1 (Addr.add ad1 1)=some (.string x_b1)∧hcell H1 (Addr.add ad1 2)=some (.string x_c1) ∧
  hcell H1 (Addr.add ad1 3)=some (.int .i64 x_d1)∧hcell H1 (Addr.add ad1 4)=some (.string x_e1) ∧
  hcell H1 (Addr.add ad1 5)=some (.slice x_f1.a x_f1.n x_f1.c)∧True)∧IxA data.a data.n (w64 (a+i)) 6 fun ad2=>
  (StL ad2 0 [.int .i64 x_a,.string x_b,.string x_c,.int .i64 x_d,.string x_e,.slice x_f.a x_f.n x_f.c] H1 fun H2=>
  (IxA data.a data.n (w64 (b+i)) 6 fun ad3=>(StL ad3 0 [.int .i64 x_a1,.string x_b1,.string x_c1,.int .i64 x_d1,.string x_e1,.slice x_f1.a x_f1.n x_f1.c] H2 fun H3=>
  (∃ m2,m2 < m1∧I (w64 (i+1)) H3 m2)))))))∧((decide (i < n))=false→K (.tuple #[]) H1))
def aL233:Ann:=(fun k=>if k=1 then some [(10,(.sc (.int .i64)))] else none)
theorem V233_ok {H data a b n cmp K Z} (h:V233 H data a b n cmp K Z):CallF Tryz.prog 233 #[.slice data.a data.n data.c,.int .i64 a,.int .i64 b,.int .i64 n,cmp] H K Z:=
 fnC_sound (aJ:=fun _=>none) (aL:=aL233) (Eq.mp (by kernel_rfl) h)
end Go.Proofs.YtjdhjgfmloaglaaGreatDoor.N16
end
