import Derived.Test.YtjdhjgfmloaglaaGreatDoorZ03
import Derived.Test.YtjdhjgfmloaglaaGreatDoorProg
set_option linter.unusedVariables false
set_option linter.unusedSimpArgs false
section
set_option maxRecDepth 100000
namespace Go.Proofs.YtjdhjgfmloaglaaGreatDoor.N15
open Go Go.V Go.Proofs
def V7 (H:Hp) (s_a s_b s_c:Sl) (most:Int) (K:Value→Hp→Prop) (Z:List PanicEntry→Hp→Prop):Prop:=
 ∀ bS H1,Newb H (.cells #[.slice s_a.a s_a.n s_a.c,.slice s_b.a s_b.n s_b.c,.slice s_c.a s_c.n s_c.c] 26) bS H1 →
  ∃ J:Hp→Prop,(∀ H2,J  H2→∀ scr:Nat→Value,∃ I:Int→Int→Hp→Nat→Prop,(∃ m,I 0 0 H2 m) ∧
  ∀ (n:Int) (i:Int),∀ H3 m1,I n i H3 m1→∀ scr1:Nat→Value,∃ x:Sl,hcell H3 ⟨bS,0,none⟩=some (.slice x.a x.n x.c) ∧
  (((decide (i < (x.n:Int)))=true→∃ x1:Sl,hcell H3 ⟨bS,0,none⟩=some (.slice x1.a x1.n x1.c) ∧
  IxA x1.a x1.n i 3 fun ad=>(∃ x2:ByteArray,hcell H3 ad=some (.string x2)∧∃ x3:Sl,hcell H3 ⟨bS,0,none⟩=some (.slice x3.a x3.n x3.c) ∧
  IxA x3.a x3.n i 3 fun ad1=>(∃ x4:ByteArray,hcell H3 (Addr.add ad1 1)=some (.string x4)∧∃ x5:Sl,hcell H3 ⟨bS,0,none⟩=some (.slice x5.a x5.n x5.c) ∧
  IxA x5.a x5.n i 3 fun ad2=>(∃ x6:Sl,hcell H3 (Addr.add ad2 2)=some (.slice x6.a x6.n x6.c) ∧
  ∃ I1:Int→Int→Hp→Nat→Prop,(∃ m3,I1 (w64 ((w64 ((w64 (n+(x2.size:Int)))+(x4.size:Int)))+(w64 (10*(x6.n:Int))))) 0 H3 m3) ∧
  ∀ (n1:Int) (k:Int),∀ H4 m4,I1 n1 k H4 m4→∀ scr2:Nat→Value,∃ x7:Sl,hcell H4 ⟨bS,0,none⟩=some (.slice x7.a x7.n x7.c) ∧
  IxA x7.a x7.n i 3 fun ad3=>(∃ x8:Sl,hcell H4 (Addr.add ad3 2)=some (.slice x8.a x8.n x8.c) ∧
  (((decide (k < (x8.n:Int)))=true→(((decide (k < 100))=true→∃ x9:Sl,hcell H4 ⟨bS,0,none⟩=some (.slice x9.a x9.n x9.c) ∧
  IxA x9.a x9.n i 3 fun ad4=>(∃ x10:Sl,hcell H4 (Addr.add ad4 2)=some (.slice x10.a x10.n x10.c) ∧
  IxA x10.a x10.n k 2 fun ad5=>(∃ x11:ByteArray,hcell H4 (Addr.add ad5 1)=some (.string x11) ∧
  (∃ m5,m5 < m4∧I1 (w64 (n1+(x11.size:Int))) (w64 (k+1)) H4 m5))))∧((decide (k < 100))=false →
  (((decide (n1 > 30000))=true→K (.bool true) H4)∧((decide (n1 > 30000))=false→(∃ m2,m2 < m1 ∧
  I n1 (w64 (i+1)) H4 m2))))))∧((decide (k < (x8.n:Int)))=false→(((decide (n1 > 30000))=true →
  K (.bool true) H4)∧((decide (n1 > 30000))=false→(∃ m2,m2 < m1∧I n1 (w64 (i+1)) H4 m2)))))))))) ∧
  ((decide (i < (x.n:Int)))=false→∃ I2:Int→Int→Hp→Nat→Prop,(∃ m6,I2 n 0 H3 m6) ∧
  ∀ (n2:Int) (i1:Int),∀ H5 m7,I2 n2 i1 H5 m7→∀ scr3:Nat→Value,∃ x12:Sl,hcell H5 ⟨bS,1,none⟩=some (.slice x12.a x12.n x12.c) ∧
  (((decide (i1 < (x12.n:Int)))=true→∃ x13:Sl,hcell H5 ⟨bS,1,none⟩=some (.slice x13.a x13.n x13.c) ∧
  IxA x13.a x13.n i1 3 fun ad6=>(∃ x14:ByteArray,hcell H5 ad6=some (.string x14)∧∃ x15:Sl,hcell H5 ⟨bS,1,none⟩=some (.slice x15.a x15.n x15.c) ∧
  IxA x15.a x15.n i1 3 fun ad7=>(∃ x16:ByteArray,hcell H5 (Addr.add ad7 1)=some (.string x16) ∧
  ∃ x17:Sl,hcell H5 ⟨bS,1,none⟩=some (.slice x17.a x17.n x17.c)∧IxA x17.a x17.n i1 3 fun ad8=>
  (∃ x18:ByteArray,hcell H5 (Addr.add ad8 2)=some (.string x18)∧(((decide ((w64 ((w64 ((w64 (n2+(x14.size:Int)))+(x16.size:Int)))+(x18.size:Int))) > 30000))=true →
  K (.bool true) H5)∧((decide ((w64 ((w64 ((w64 (n2+(x14.size:Int)))+(x16.size:Int)))+(x18.size:Int))) > 30000))=false →
  (∃ m8,m8 < m7∧I2 (w64 ((w64 ((w64 (n2+(x14.size:Int)))+(x16.size:Int)))+(x18.size:Int))) (w64 (i1+1)) H5 m8))))))) ∧
  ((decide (i1 < (x12.n:Int)))=false→∃ I3:Int→Int→Hp→Nat→Prop,(∃ m9,I3 n2 0 H5 m9) ∧
  ∀ (n3:Int) (i2:Int),∀ H6 m10,I3 n3 i2 H6 m10→∀ scr4:Nat→Value,∃ x19:Sl,hcell H6 ⟨bS,2,none⟩=some (.slice x19.a x19.n x19.c) ∧
  (((decide (i2 < (x19.n:Int)))=true→∃ x20:Sl,hcell H6 ⟨bS,2,none⟩=some (.slice x20.a x20.n x20.c) ∧
  IxA x20.a x20.n i2 6 fun ad9=>(∃ (x_a:Int) (x_b x_c:ByteArray) (x_d:Int) (x_e:ByteArray) (x_f:Sl),(hcell H6 ad9=some (.int .i64 x_a) ∧
  hcell H6 (Addr.add ad9 1)=some (.string x_b)∧hcell H6 (Addr.add ad9 2)=some (.string x_c) ∧
  hcell H6 (Addr.add ad9 3)=some (.int .i64 x_d)∧hcell H6 (Addr.add ad9 4)=some (.string x_e) ∧
  hcell H6 (Addr.add ad9 5)=some (.slice x_f.a x_f.n x_f.c)∧True)∧∀ bC H7,Newb H6 (.cells #[.int .i64 0,.string ⟨#[]⟩,.string ⟨#[]⟩,.int .i64 0,.string ⟨#[]⟩,.slice none 0 0] 36) bC H7 →
  StL ⟨bC,0,none⟩ 0 [.int .i64 x_a,.string x_b,.string x_c,.int .i64 x_d,.string x_e,.slice x_f.a x_f.n x_f.c] H7 fun H8=>
  (∃ x21:ByteArray,hcell H8 ⟨bC,1,none⟩=some (.string x21)∧∃ x22:ByteArray,hcell H8 ⟨bC,2,none⟩=some (.string x22) ∧
  ∃ x23:ByteArray,hcell H8 ⟨bC,4,none⟩=some (.string x23)∧∃ x24:Sl,hcell H8 ⟨bC,5,none⟩=some (.slice x24.a x24.n x24.c) ∧
  ∃ I4:Int→Int→Hp→Nat→Prop,(∃ m12,I4 (w64 ((w64 ((w64 ((w64 (n3+(x21.size:Int)))+(x22.size:Int)))+(x23.size:Int)))+(w64 (10*(x24.n:Int))))) 0 H8 m12) ∧
  ∀ (n4:Int) (k1:Int),∀ H9 m13,I4 n4 k1 H9 m13→∀ scr5:Nat→Value,∃ x25:Sl,hcell H9 ⟨bC,5,none⟩=some (.slice x25.a x25.n x25.c) ∧
  (((decide (k1 < (x25.n:Int)))=true→(((decide (k1 < 100))=true→∃ x26:Sl,hcell H9 ⟨bC,5,none⟩=some (.slice x26.a x26.n x26.c) ∧
  IxA x26.a x26.n k1 1 fun ad10=>(∃ x27:ByteArray,hcell H9 ad10=some (.string x27)∧(∃ m14,m14 < m13 ∧
  I4 (w64 (n4+(x27.size:Int))) (w64 (k1+1)) H9 m14)))∧((decide (k1 < 100))=false→(((decide (n4 > 60000))=true →
  K (.bool true) H9)∧((decide (n4 > 60000))=false→(∃ m11,m11 < m10∧I3 n4 (w64 (i2+1)) H9 m11)))))) ∧
  ((decide (k1 < (x25.n:Int)))=false→(((decide (n4 > 60000))=true→K (.bool true) H9)∧((decide (n4 > 60000))=false →
  (∃ m11,m11 < m10∧I3 n4 (w64 (i2+1)) H9 m11))))))))∧((decide (i2 < (x19.n:Int)))=false →
  K (.bool false) H6)))))))∧∃ x28:Sl,hcell H1 ⟨bS,0,none⟩=some (.slice x28.a x28.n x28.c) ∧
  (((decide ((x28.n:Int) > most))=true→K (.bool true) H1)∧((decide ((x28.n:Int) > most))=false →
  ∃ x29:Sl,hcell H1 ⟨bS,1,none⟩=some (.slice x29.a x29.n x29.c)∧(((decide ((x29.n:Int) > most))=true →
  K (.bool true) H1)∧((decide ((x29.n:Int) > most))=false→∃ x30:Sl,hcell H1 ⟨bS,2,none⟩=some (.slice x30.a x30.n x30.c) ∧
  (((decide ((x30.n:Int) > most))=true→K (.bool true) H1)∧((decide ((x30.n:Int) > most))=false →
  (J  H1)))))))
def aJ7:Ann:=(fun k=>if k=3 then some [] else none)
def aL7:Ann:=(fun k=>if k=5 then some [(5,(.sc (.int .i64))),(6,(.sc (.int .i64)))] else if k=9 then some [(5,(.sc (.int .i64))),(7,(.sc (.int .i64)))] else if k=15 then some [(5,(.sc (.int .i64))),(8,(.sc (.int .i64)))] else if k=21 then some [(5,(.sc (.int .i64))),(9,(.sc (.int .i64)))] else if k=26 then some [(5,(.sc (.int .i64))),(11,(.sc (.int .i64)))] else none)
theorem V7_ok {H s_a s_b s_c most K Z} (h:V7 H s_a s_b s_c most K Z):CallF Tryz.prog 7 #[.agg #[.slice s_a.a s_a.n s_a.c,.slice s_b.a s_b.n s_b.c,.slice s_c.a s_c.n s_c.c],.int .i64 most] H K Z:=
 fnC_sound (aJ:=aJ7) (aL:=aL7) (Eq.mp (by kernel_rfl) h)
def V18 (H:Hp) (s_a s_b s_c:Sl) (K:Value→Hp→Prop) (Z:List PanicEntry→Hp→Prop):Prop:=
 ∀ bS H1,Newb H (.cells #[.slice s_a.a s_a.n s_a.c,.slice s_b.a s_b.n s_b.c,.slice s_c.a s_c.n s_c.c] 26) bS H1 →
  ∃ x:Sl,hcell H1 ⟨bS,0,none⟩=some (.slice x.a x.n x.c)∧(((decide ((x.n:Int) > 600))=true →
  K (.int .i64 4) H1)∧((decide ((x.n:Int) > 600))=false→∃ x1:Sl,hcell H1 ⟨bS,1,none⟩=some (.slice x1.a x1.n x1.c) ∧
  (((decide ((x1.n:Int) > 600))=true→K (.int .i64 4) H1)∧((decide ((x1.n:Int) > 600))=false →
  ∃ x2:Sl,hcell H1 ⟨bS,2,none⟩=some (.slice x2.a x2.n x2.c)∧(((decide ((x2.n:Int) > 6000))=true →
  K (.int .i64 4) H1)∧((decide ((x2.n:Int) > 6000))=false→∃ x3:Sl,hcell H1 ⟨bS,0,none⟩=some (.slice x3.a x3.n x3.c) ∧
  CallF Tryz.prog 51 #[.slice x3.a x3.n x3.c,.func (.func 52) #[] #[],.func (.func 53) #[] #[]] H1 (fun r H2=>
  ∃ y:Int,r = .int .i64 y∧(((y != 0)=true→K (.int .i64 y) H2)∧((y != 0)=false→∃ x4:Sl,hcell H2 ⟨bS,1,none⟩=some (.slice x4.a x4.n x4.c) ∧
  CallF Tryz.prog 54 #[.slice x4.a x4.n x4.c,.func (.func 55) #[] #[],.func (.func 56) #[] #[]] H2 (fun r1 H3=>
  ∃ y1:Int,r1 = .int .i64 y1∧(((y1 != 0)=true→K (.int .i64 y1) H3)∧((y1 != 0)=false →
  ∃ x5:Sl,hcell H3 ⟨bS,2,none⟩=some (.slice x5.a x5.n x5.c)∧CallF Tryz.prog 57 #[.slice x5.a x5.n x5.c,.func (.func 58) #[] #[],.func (.func 59) #[] #[]] H3 (fun r2 H4=>
  ∃ y2:Int,r2 = .int .i64 y2∧K (.int .i64 y2) H4) Z))) Z))) Z))))))
theorem V18_ok {H s_a s_b s_c K Z} (h:V18 H s_a s_b s_c K Z):CallF Tryz.prog 18 #[.agg #[.slice s_a.a s_a.n s_a.c,.slice s_b.a s_b.n s_b.c,.slice s_c.a s_c.n s_c.c]] H K Z:=
 fnC_sound (aJ:=fun _=>none) (aL:=fun _=>none) (Eq.mp (by kernel_rfl) h)
def V47 (H:Hp) (s_a s_b s_c:Sl) (K:Value→Hp→Prop) (Z:List PanicEntry→Hp→Prop):Prop:=
 ∀ bS H1,Newb H (.cells #[.slice s_a.a s_a.n s_a.c,.slice s_b.a s_b.n s_b.c,.slice s_c.a s_c.n s_c.c] 26) bS H1 →
  ∃ x_a x_b x_c:Sl,(hcell H1 ⟨bS,0,none⟩=some (.slice x_a.a x_a.n x_a.c)∧hcell H1 ⟨bS,1,none⟩=some (.slice x_b.a x_b.n x_b.c) ∧
  hcell H1 ⟨bS,2,none⟩=some (.slice x_c.a x_c.n x_c.c)∧True)∧CallF Tryz.prog 18 #[.agg #[.slice x_a.a x_a.n x_a.c,.slice x_b.a x_b.n x_b.c,.slice x_c.a x_c.n x_c.c]] H1 (fun r H2=>
  ∃ y:Int,r = .int .i64 y∧(((y != 0)=true→K (.slice none 0 0) H2)∧((y != 0)=false→∃ x:Sl,hcell H2 ⟨bS,2,none⟩=some (.slice x.a x.n x.c) ∧
  ∃ I:Sl→Int→Hp→Nat→Prop,(∃ m,I (⟨none,0,0⟩:Sl) 0 H2 m)∧∀ (l:Sl) (t17:Int),∀ H3 m1,I l t17 H3 m1 →
  ∀ scr:Nat→Value,(((decide (t17 < (x.n:Int)))=true→IxA x.a x.n t17 6 fun ad=>(∃ (x_a1:Int) (x_b1 x_c1:ByteArray) (x_d:Int) (x_e:ByteArray) (x_f:Sl),(hcell H3 ad=some (.int .i64 x_a1) ∧
  hcell H3 (Addr.add ad 1)=some (.string x_b1)∧hcell H3 (Addr.add ad 2)=some (.string x_c1) ∧
  hcell H3 (Addr.add ad 3)=some (.int .i64 x_d)∧hcell H3 (Addr.add ad 4)=some (.string x_e) ∧
  hcell H3 (Addr.add ad 5)=some (.slice x_f.a x_f.n x_f.c)∧True)∧∀ bC H4,Newb H3 (.cells #[.int .i64 0,.string ⟨#[]⟩,.string ⟨#[]⟩,.int .i64 0,.string ⟨#[]⟩,.slice none 0 0] 36) bC H4 →
  StL ⟨bC,0,none⟩ 0 [.int .i64 x_a1,.string x_b1,.string x_c1,.int .i64 x_d,.string x_e,.slice x_f.a x_f.n x_f.c] H4 fun H5=>
  (∃ x1:ByteArray,hcell H5 ⟨bC,1,none⟩=some (.string x1)∧∀ b H6,Newb H5 (.cells #[.string x1] 9) b H6 →
  App Tryz.prog #[27,27] 27 H6 [.slice l.a l.n l.c,.slice (some ⟨b,0,none⟩) 1 1] fun ap H7=>(∃ J:Sl →
  Hp→Prop,(∀ (l1:Sl),∀ H8,J l1 H8→∀ scr1:Nat→Value,∃ x2:Sl,hcell H8 ⟨bC,5,none⟩=some (.slice x2.a x2.n x2.c) ∧
  ∃ I1:Sl→Int→Hp→Nat→Prop,(∃ m3,I1 l1 0 H8 m3)∧∀ (l2:Sl) (t37:Int),∀ H9 m4,I1 l2 t37 H9 m4 →
  ∀ scr2:Nat→Value,(((decide (t37 < (x2.n:Int)))=true→IxA x2.a x2.n t37 1 fun ad1=>(∃ x3:ByteArray,hcell H9 ad1=some (.string x3) ∧
  (((!(beqS x3 ⟨#[]⟩))=true→∀ b1 H10,Newb H9 (.cells #[.string x3] 9) b1 H10→App Tryz.prog #[27,27] 27 H10 [.slice l2.a l2.n l2.c,.slice (some ⟨b1,0,none⟩) 1 1] fun ap1 H11=>
  (∃ m5,m5 < m4∧I1 ap1 (w64 (t37+1)) H11 m5))∧((!(beqS x3 ⟨#[]⟩))=false→(∃ m5,m5 < m4 ∧
  I1 l2 (w64 (t37+1)) H9 m5)))))∧((decide (t37 < (x2.n:Int)))=false→(∃ m2,m2 < m1∧I l2 (w64 (t17+1)) H9 m2)))) ∧
  ∃ x4:Int,hcell H7 ⟨bC,0,none⟩=some (.int .i64 x4)∧(((x4 != 1)=true→∃ x5:ByteArray,hcell H7 ⟨bC,2,none⟩=some (.string x5) ∧
  ∀ b2 H12,Newb H7 (.cells #[.string x5] 9) b2 H12→App Tryz.prog #[27,27] 27 H12 [.slice ap.a ap.n ap.c,.slice (some ⟨b2,0,none⟩) 1 1] fun ap2 H13=>
  (J ap2 H13))∧((x4 != 1)=false→(J ap H7)))))))∧((decide (t17 < (x.n:Int)))=false→∃ x6:Sl,hcell H3 ⟨bS,0,none⟩=some (.slice x6.a x6.n x6.c) ∧
  ∃ I2:Sl→Int→Hp→Nat→Prop,(∃ m6,I2 l 0 H3 m6)∧∀ (l3:Sl) (t52:Int),∀ H14 m7,I2 l3 t52 H14 m7 →
  ∀ scr3:Nat→Value,(((decide (t52 < (x6.n:Int)))=true→IxA x6.a x6.n t52 3 fun ad2=>(∃ (x_a2 x_b2:ByteArray) (x_c2:Sl),(hcell H14 ad2=some (.string x_a2) ∧
  hcell H14 (Addr.add ad2 1)=some (.string x_b2)∧hcell H14 (Addr.add ad2 2)=some (.slice x_c2.a x_c2.n x_c2.c) ∧
  True)∧∀ bO H15,Newb H14 (.cells #[.string ⟨#[]⟩,.string ⟨#[]⟩,.slice none 0 0] 52) bO H15 →
  StL ⟨bO,0,none⟩ 0 [.string x_a2,.string x_b2,.slice x_c2.a x_c2.n x_c2.c] H15 fun H16=>(∃ x7:ByteArray,hcell H16 ⟨bO,1,none⟩=some (.string x7) ∧
  ∃ I3:Sl→Int→Hp→Nat→Prop,(∃ m9,I3 l3 0 H16 m9)∧∀ (l4:Sl) (t59:Int),∀ H17 m10,I3 l4 t59 H17 m10 →
  ∀ scr4:Nat→Value,(((decide (t59 < (x7.size:Int)))=true→∃ x8:ByteArray,hcell H17 ⟨bO,1,none⟩=some (.string x8) ∧
  IxS x8 t59 fun c=>(((c == 112)=true→∃ x9:ByteArray,hcell H17 ⟨bO,0,none⟩=some (.string x9) ∧
  CallF Tryz.prog 90 #[.string x9,.int .i64 t59] H17 (fun r1 H18=>∃ y1:ByteArray,r1 = .string y1 ∧
  ∀ b3 H19,Newb H18 (.cells #[.string y1] 9) b3 H19→App Tryz.prog #[27,27] 27 H19 [.slice l4.a l4.n l4.c,.slice (some ⟨b3,0,none⟩) 1 1] fun ap3 H20=>
  (∃ m11,m11 < m10∧I3 ap3 (w64 (t59+1)) H20 m11)) Z)∧((c == 112)=false→(∃ m11,m11 < m10 ∧
  I3 l4 (w64 (t59+1)) H17 m11))))∧((decide (t59 < (x7.size:Int)))=false→(∃ m8,m8 < m7 ∧
  I2 l4 (w64 (t52+1)) H17 m8))))))∧((decide (t52 < (x6.n:Int)))=false→CallF Tryz.prog 20 #[.slice l3.a l3.n l3.c] H14 (fun r2 H21=>
  ∃ y2:Sl,r2 = .slice y2.a y2.n y2.c∧K (.slice y2.a y2.n y2.c) H21) Z))))))) Z
def aJ47:Ann:=(fun k=>if k=10 then some [(3,(.sc .sl))] else none)
def aL47:Ann:=(fun k=>if k=5 then some [(3,(.sc .sl)),(17,(.sc (.int .i64)))] else if k=11 then some [(3,(.sc .sl)),(37,(.sc (.int .i64)))] else if k=18 then some [(3,(.sc .sl)),(52,(.sc (.int .i64)))] else if k=21 then some [(3,(.sc .sl)),(59,(.sc (.int .i64)))] else none)
theorem V47_ok {H s_a s_b s_c K Z} (h:V47 H s_a s_b s_c K Z):CallF Tryz.prog 47 #[.agg #[.slice s_a.a s_a.n s_a.c,.slice s_b.a s_b.n s_b.c,.slice s_c.a s_c.n s_c.c]] H K Z:=
 fnC_sound (aJ:=aJ47) (aL:=aL47) (Eq.mp (by kernel_rfl) h)
def V32 (H:Hp) (s:ByteArray) (K:Value→Hp→Prop) (Z:List PanicEntry→Hp→Prop):Prop:=
 CallF Tryz.prog 22 #[.string s] H (fun r H1=>∃ (y_0_a:Int) (y_0_b:ByteArray) (y_0_c:Int) (y_0_d:ByteArray) (y_0_e y_0_f y_1:Int),r = .tuple #[.agg #[.int .i64 y_0_a,.string y_0_b,.int .i64 y_0_c,.string y_0_d,.int .i64 y_0_e,.int .i64 y_0_f],.int .i64 y_1] ∧
  ∀ bN H2,Newb H1 (.cells #[.int .i64 0,.string ⟨#[]⟩,.int .i64 0,.string ⟨#[]⟩,.int .i64 0,.int .i64 0] 61) bN H2 →
  StL ⟨bN,0,none⟩ 0 [.int .i64 y_0_a,.string y_0_b,.int .i64 y_0_c,.string y_0_d,.int .i64 y_0_e,.int .i64 y_0_f] H2 fun H3=>
  (((y_1 == 0)=true→∃ x:Int,hcell H3 ⟨bN,0,none⟩=some (.int .i64 x)∧(((decide (x≤3))=true →
  K (.bool true) H3)∧((decide (x≤3))=false→∃ x1:Int,hcell H3 ⟨bN,5,none⟩=some (.int .i64 x1) ∧
  K (.bool (decide (x1≥0))) H3)))∧((y_1 == 0)=false→K (.bool false) H3))) Z
theorem V32_ok {H s K Z} (h:V32 H s K Z):CallF Tryz.prog 32 #[.string s] H K Z:=
 fnC_sound (aJ:=fun _=>none) (aL:=fun _=>none) (Eq.mp (by kernel_rfl) h)
def V103 (H:Hp) (s:ByteArray) (K:Value→Hp→Prop) (Z:List PanicEntry→Hp→Prop):Prop:=
 CallF Tryz.prog 22 #[.string s] H (fun r H1=>∃ (y_0_a:Int) (y_0_b:ByteArray) (y_0_c:Int) (y_0_d:ByteArray) (y_0_e y_0_f y_1:Int),r = .tuple #[.agg #[.int .i64 y_0_a,.string y_0_b,.int .i64 y_0_c,.string y_0_d,.int .i64 y_0_e,.int .i64 y_0_f],.int .i64 y_1] ∧
  ∀ bN H2,Newb H1 (.cells #[.int .i64 0,.string ⟨#[]⟩,.int .i64 0,.string ⟨#[]⟩,.int .i64 0,.int .i64 0] 61) bN H2 →
  StL ⟨bN,0,none⟩ 0 [.int .i64 y_0_a,.string y_0_b,.int .i64 y_0_c,.string y_0_d,.int .i64 y_0_e,.int .i64 y_0_f] H2 fun H3=>
  (((y_1 == 0)=true→∃ x:Int,hcell H3 ⟨bN,0,none⟩=some (.int .i64 x)∧(((x == 4)=true →
  K (.bool true) H3)∧((x == 4)=false→∃ x1:Int,hcell H3 ⟨bN,5,none⟩=some (.int .i64 x1) ∧
  K (.bool (decide (x1≥0))) H3)))∧((y_1 == 0)=false→K (.bool false) H3))) Z
theorem V103_ok {H s K Z} (h:V103 H s K Z):CallF Tryz.prog 103 #[.string s] H K Z:=
 fnC_sound (aJ:=fun _=>none) (aL:=fun _=>none) (Eq.mp (by kernel_rfl) h)
def V59 (H:Hp) (a_a:Int) (a_b a_c:ByteArray) (a_d:Int) (a_e:ByteArray) (a_f:Sl) (b_a:Int) (b_b b_c:ByteArray) (b_d:Int) (b_e:ByteArray) (b_f:Sl) (K:Value→Hp→Prop) (Z:List PanicEntry→Hp→Prop):Prop:=
 ∀ bA H1,Newb H (.cells #[.int .i64 a_a,.string a_b,.string a_c,.int .i64 a_d,.string a_e,.slice a_f.a a_f.n a_f.c] 36) bA H1 →
  ∀ bB H2,Newb H1 (.cells #[.int .i64 b_a,.string b_b,.string b_c,.int .i64 b_d,.string b_e,.slice b_f.a b_f.n b_f.c] 36) bB H2 →
  ∃ x:Int,hcell H2 ⟨bA,0,none⟩=some (.int .i64 x)∧∃ x1:Int,hcell H2 ⟨bB,0,none⟩=some (.int .i64 x1) ∧
  ∃ x2:ByteArray,hcell H2 ⟨bA,1,none⟩=some (.string x2)∧∃ x3:ByteArray,hcell H2 ⟨bB,1,none⟩=some (.string x3) ∧
  ∃ x4:ByteArray,hcell H2 ⟨bA,2,none⟩=some (.string x4)∧∃ x5:ByteArray,hcell H2 ⟨bB,2,none⟩=some (.string x5) ∧
  ∃ x6:Int,hcell H2 ⟨bA,3,none⟩=some (.int .i64 x6)∧∃ x7:Int,hcell H2 ⟨bB,3,none⟩=some (.int .i64 x7) ∧
  ∃ x8:ByteArray,hcell H2 ⟨bA,4,none⟩=some (.string x8)∧∃ x9:ByteArray,hcell H2 ⟨bB,4,none⟩=some (.string x9) ∧
  ∃ x10:Sl,hcell H2 ⟨bA,5,none⟩=some (.slice x10.a x10.n x10.c)∧∃ x11:Sl,hcell H2 ⟨bB,5,none⟩=some (.slice x11.a x11.n x11.c) ∧
  CallF Tryz.prog 106 #[.int .i64 x,.int .i64 x1] H2 (fun r H3=>∃ y:Int,r = .int .i64 y∧(hcell H3 ⟨bB,5,none⟩=some (.slice x11.a x11.n x11.c) ∧
  (hcell H3 ⟨bA,5,none⟩=some (.slice x10.a x10.n x10.c)∧(hcell H3 ⟨bB,4,none⟩=some (.string x9) ∧
  (hcell H3 ⟨bA,4,none⟩=some (.string x8)∧(hcell H3 ⟨bB,3,none⟩=some (.int .i64 x7)∧(hcell H3 ⟨bA,3,none⟩=some (.int .i64 x6) ∧
  (hcell H3 ⟨bB,2,none⟩=some (.string x5)∧(hcell H3 ⟨bA,2,none⟩=some (.string x4)∧(hcell H3 ⟨bB,1,none⟩=some (.string x3) ∧
  (hcell H3 ⟨bA,1,none⟩=some (.string x2)∧CallF Tryz.prog 102 #[.string x2,.string x3] H3 (fun r1 H4=>
  ∃ y1:Int,r1 = .int .i64 y1∧(hcell H4 ⟨bB,5,none⟩=some (.slice x11.a x11.n x11.c)∧(hcell H4 ⟨bA,5,none⟩=some (.slice x10.a x10.n x10.c) ∧
  (hcell H4 ⟨bB,4,none⟩=some (.string x9)∧(hcell H4 ⟨bA,4,none⟩=some (.string x8)∧(hcell H4 ⟨bB,3,none⟩=some (.int .i64 x7) ∧
  (hcell H4 ⟨bA,3,none⟩=some (.int .i64 x6)∧(hcell H4 ⟨bB,2,none⟩=some (.string x5)∧(hcell H4 ⟨bA,2,none⟩=some (.string x4) ∧
  CallF Tryz.prog 102 #[.string x4,.string x5] H4 (fun r2 H5=>∃ y2:Int,r2 = .int .i64 y2∧(hcell H5 ⟨bB,5,none⟩=some (.slice x11.a x11.n x11.c) ∧
  (hcell H5 ⟨bA,5,none⟩=some (.slice x10.a x10.n x10.c)∧(hcell H5 ⟨bB,4,none⟩=some (.string x9) ∧
  (hcell H5 ⟨bA,4,none⟩=some (.string x8)∧(hcell H5 ⟨bB,3,none⟩=some (.int .i64 x7)∧(hcell H5 ⟨bA,3,none⟩=some (.int .i64 x6) ∧
  CallF Tryz.prog 106 #[.int .i64 x6,.int .i64 x7] H5 (fun r3 H6=>∃ y3:Int,r3 = .int .i64 y3 ∧
  (hcell H6 ⟨bB,5,none⟩=some (.slice x11.a x11.n x11.c)∧(hcell H6 ⟨bA,5,none⟩=some (.slice x10.a x10.n x10.c) ∧
  (hcell H6 ⟨bB,4,none⟩=some (.string x9)∧(hcell H6 ⟨bA,4,none⟩=some (.string x8)∧CallF Tryz.prog 102 #[.string x8,.string x9] H6 (fun r4 H7=>
  ∃ y4:Int,r4 = .int .i64 y4∧(hcell H7 ⟨bB,5,none⟩=some (.slice x11.a x11.n x11.c)∧(hcell H7 ⟨bA,5,none⟩=some (.slice x10.a x10.n x10.c) ∧
  CallF Tryz.prog 107 #[.slice x10.a x10.n x10.c,.slice x11.a x11.n x11.c] H7 (fun r5 H8=>∃ y5:Int,r5 = .int .i64 y5 ∧
  ∀ b H9,Newb H8 (.cells #[.int .i64 y,.int .i64 y1,.int .i64 y2,.int .i64 y3,.int .i64 y4,.int .i64 y5] 3) b H9 →
  CallF Tryz.prog 105 #[.slice (some ⟨b,0,none⟩) 6 6] H9 (fun r6 H10=>∃ y6:Int,r6 = .int .i64 y6 ∧
  K (.int .i64 y6) H10) Z) Z))) Z))))) Z))))))) Z))))))))) Z))))))))))) Z
def aJ59:Ann:=(fun k=>if k=2000001 then some [] else none)
theorem V59_ok {H a_a a_b a_c a_d a_e a_f b_a b_b b_c b_d b_e b_f K Z} (h:V59 H a_a a_b a_c a_d a_e a_f b_a b_b b_c b_d b_e b_f K Z):CallF Tryz.prog 59 #[.agg #[.int .i64 a_a,.string a_b,.string a_c,.int .i64 a_d,.string a_e,.slice a_f.a a_f.n a_f.c],.agg #[.int .i64 b_a,.string b_b,.string b_c,.int .i64 b_d,.string b_e,.slice b_f.a b_f.n b_f.c]] H K Z:=
 fnC_sound (aJ:=aJ59) (aL:=fun _=>none) (Eq.mp (by kernel_rfl) h)
def V51 (H:Hp) (l:Sl) (ask compare:Value) (K:Value→Hp→Prop) (Z:List PanicEntry→Hp→Prop):Prop:=
 ∃ I:Int→Hp→Nat→Prop,(∃ m,I 0 H m)∧∀ (t12:Int),∀ H1 m1,I t12 H1 m1→∀ scr:Nat→Value,(((decide (t12 < (l.n:Int)))=true →
  IxA l.a l.n t12 3 fun ad=>(∃ (x_a x_b:ByteArray) (x_c:Sl),(hcell H1 ad=some (.string x_a) ∧
  hcell H1 (Addr.add ad 1)=some (.string x_b)∧hcell H1 (Addr.add ad 2)=some (.slice x_c.a x_c.n x_c.c) ∧
  True)∧∀ bX H2,Newb H1 (.cells #[.string ⟨#[]⟩,.string ⟨#[]⟩,.slice none 0 0] 52) bX H2→StL ⟨bX,0,none⟩ 0 [.string x_a,.string x_b,.slice x_c.a x_c.n x_c.c] H2 fun H3=>
  (∃ (x_a1 x_b1:ByteArray) (x_c1:Sl),(hcell H3 ⟨bX,0,none⟩=some (.string x_a1) ∧
  hcell H3 ⟨bX,1,none⟩=some (.string x_b1)∧hcell H3 ⟨bX,2,none⟩=some (.slice x_c1.a x_c1.n x_c1.c) ∧
  True)∧callV Tryz.prog ask [.agg #[.string x_a1,.string x_b1,.slice x_c1.a x_c1.n x_c1.c]] H3 (fun r H4=>
  ∃ y:Int,r = .int .i64 y∧(((y != 0)=true→K (.int .i64 y) H4)∧((y != 0)=false→(((decide (t12 > 0))=true →
  IxA l.a l.n (w64 (t12 - 1)) 3 fun ad1=>(∃ (x_a2 x_b2:ByteArray) (x_c2:Sl),(hcell H4 ad1=some (.string x_a2) ∧
  hcell H4 (Addr.add ad1 1)=some (.string x_b2)∧hcell H4 (Addr.add ad1 2)=some (.slice x_c2.a x_c2.n x_c2.c) ∧
  True)∧∃ (x_a3 x_b3:ByteArray) (x_c3:Sl),(hcell H4 ⟨bX,0,none⟩=some (.string x_a3) ∧
  hcell H4 ⟨bX,1,none⟩=some (.string x_b3)∧hcell H4 ⟨bX,2,none⟩=some (.slice x_c3.a x_c3.n x_c3.c) ∧
  True)∧callV Tryz.prog compare [.agg #[.string x_a2,.string x_b2,.slice x_c2.a x_c2.n x_c2.c],.agg #[.string x_a3,.string x_b3,.slice x_c3.a x_c3.n x_c3.c]] H4 (fun r1 H5=>
  ∃ y1:Int,r1 = .int .i64 y1∧(((decide (y1≥0))=true→K (.int .i64 13) H5)∧((decide (y1≥0))=false →
  (∃ m2,m2 < m1∧I (w64 (t12+1)) H5 m2)))) Z))∧((decide (t12 > 0))=false→(∃ m2,m2 < m1 ∧
  I (w64 (t12+1)) H4 m2)))))) Z)))∧((decide (t12 < (l.n:Int)))=false→K (.int .i64 0) H1))
def aL51:Ann:=(fun k=>if k=2 then some [(12,(.sc (.int .i64)))] else none)
theorem V51_ok {H l ask compare K Z} (h:V51 H l ask compare K Z):CallF Tryz.prog 51 #[.slice l.a l.n l.c,ask,compare] H K Z:=
 fnC_sound (aJ:=fun _=>none) (aL:=aL51) (Eq.mp (by kernel_rfl) h)
def V52 (H:Hp) (o_a o_b:ByteArray) (o_c:Sl) (K:Value→Hp→Prop) (Z:List PanicEntry→Hp→Prop):Prop:=
 ∀ bO H1,Newb H (.cells #[.string o_a,.string o_b,.slice o_c.a o_c.n o_c.c] 52) bO H1→∃ x:ByteArray,hcell H1 ⟨bO,0,none⟩=some (.string x) ∧
  CallF Tryz.prog 22 #[.string x] H1 (fun r H2=>∃ (y_0_a:Int) (y_0_b:ByteArray) (y_0_c:Int) (y_0_d:ByteArray) (y_0_e y_0_f y_1:Int),r = .tuple #[.agg #[.int .i64 y_0_a,.string y_0_b,.int .i64 y_0_c,.string y_0_d,.int .i64 y_0_e,.int .i64 y_0_f],.int .i64 y_1] ∧
  ∀ bN H3,Newb H2 (.cells #[.int .i64 0,.string ⟨#[]⟩,.int .i64 0,.string ⟨#[]⟩,.int .i64 0,.int .i64 0] 61) bN H3 →
  StL ⟨bN,0,none⟩ 0 [.int .i64 y_0_a,.string y_0_b,.int .i64 y_0_c,.string y_0_d,.int .i64 y_0_e,.int .i64 y_0_f] H3 fun H4=>
  (∃ J:Hp→Prop,(∀ H5,J  H5→∀ scr:Nat→Value,∃ x1:Sl,hcell H5 ⟨bO,2,none⟩=some (.slice x1.a x1.n x1.c) ∧
  ∃ I:Int→Int→Hp→Nat→Prop,(∃ m,I 0 0 H5 m)∧∀ (last:Int) (t40:Int),∀ H6 m1,I last t40 H6 m1 →
  ∀ scr1:Nat→Value,(((decide (t40 < (x1.n:Int)))=true→IxA x1.a x1.n t40 2 fun ad=>(∃ (x_a:Int) (x_b:ByteArray),(hcell H6 ad=some (.int .i64 x_a) ∧
  hcell H6 (Addr.add ad 1)=some (.string x_b)∧True)∧∀ bM H7,Newb H6 (.cells #[.int .i64 0,.string ⟨#[]⟩] 54) bM H7 →
  StL ⟨bM,0,none⟩ 0 [.int .i64 x_a,.string x_b] H7 fun H8=>(∃ x2:Int,hcell H8 ⟨bM,0,none⟩=some (.int .i64 x2) ∧
  (((decide (x2 < last))=true→K (.int .i64 3) H8)∧((decide (x2 < last))=false→∃ x3:Int,hcell H8 ⟨bM,0,none⟩=some (.int .i64 x3) ∧
  ∃ x4:ByteArray,hcell H8 ⟨bO,1,none⟩=some (.string x4)∧(((decide (x3≥(x4.size:Int)))=true →
  K (.int .i64 3) H8)∧((decide (x3≥(x4.size:Int)))=false→∃ x5:ByteArray,hcell H8 ⟨bM,1,none⟩=some (.string x5) ∧
  CallF Tryz.prog 100 #[.string x5] H8 (fun r1 H9=>∃ y:Bool,r1 = .bool y∧(((!y)=true→K (.int .i64 3) H9) ∧
  ((!y)=false→∃ x6:Sl,hcell H9 ⟨bO,2,none⟩=some (.slice x6.a x6.n x6.c)∧(x6.n≤x6.c ∧
  SlX x6.a x6.c 0 t40 2 fun cut=>(∃ (x_a1:Int) (x_b1:ByteArray),(hcell H9 ⟨bM,0,none⟩=some (.int .i64 x_a1) ∧
  hcell H9 ⟨bM,1,none⟩=some (.string x_b1)∧True)∧CallF Tryz.prog 101 #[.slice cut.a cut.n cut.c,.agg #[.int .i64 x_a1,.string x_b1]] H9 (fun r2 H10=>
  ∃ y1:Bool,r2 = .bool y1∧((y1=true→K (.int .i64 3) H10)∧(y1=false→∃ x7:Int,hcell H10 ⟨bM,0,none⟩=some (.int .i64 x7) ∧
  (∃ m2,m2 < m1∧I x7 (w64 (t40+1)) H10 m2)))) Z))))) Z)))))))∧((decide (t40 < (x1.n:Int)))=false →
  K (.int .i64 0) H6)))∧(((y_1 != 0)=true→K (.int .i64 11) H4)∧((y_1 != 0)=false→∃ x8:Int,hcell H4 ⟨bN,0,none⟩=some (.int .i64 x8) ∧
  (((decide (x8 < 5))=true→K (.int .i64 11) H4)∧((decide (x8 < 5))=false→∃ x9:Int,hcell H4 ⟨bN,5,none⟩=some (.int .i64 x9) ∧
  (((decide (x9≥0))=true→K (.int .i64 11) H4)∧((decide (x9≥0))=false→∃ x10:ByteArray,hcell H4 ⟨bO,1,none⟩=some (.string x10) ∧
  (((beqS x10 ⟨#[]⟩)=true→K (.int .i64 5) H4)∧((beqS x10 ⟨#[]⟩)=false→∃ x11:ByteArray,hcell H4 ⟨bO,1,none⟩=some (.string x11) ∧
  CallF Tryz.prog 99 #[.string x11,.int .i64 64] H4 (fun r3 H11=>∃ y2:Bool,r3 = .bool y2∧(((!y2)=true →
  K (.int .i64 5) H11)∧((!y2)=false→(J  H11)))) Z)))))))))) Z
def aJ52:Ann:=(fun k=>if k=6 then some [] else none)
def aL52:Ann:=(fun k=>if k=8 then some [(5,(.sc (.int .i64))),(40,(.sc (.int .i64)))] else none)
theorem V52_ok {H o_a o_b o_c K Z} (h:V52 H o_a o_b o_c K Z):CallF Tryz.prog 52 #[.agg #[.string o_a,.string o_b,.slice o_c.a o_c.n o_c.c]] H K Z:=
 fnC_sound (aJ:=aJ52) (aL:=aL52) (Eq.mp (by kernel_rfl) h)
def V53 (H:Hp) (a_a a_b:ByteArray) (a_c:Sl) (b_a b_b:ByteArray) (b_c:Sl) (K:Value→Hp→Prop) (Z:List PanicEntry→Hp→Prop):Prop:=
 ∀ bA H1,Newb H (.cells #[.string a_a,.string a_b,.slice a_c.a a_c.n a_c.c] 52) bA H1→∀ bB H2,Newb H1 (.cells #[.string b_a,.string b_b,.slice b_c.a b_c.n b_c.c] 52) bB H2 →
  ∃ x:ByteArray,hcell H2 ⟨bA,0,none⟩=some (.string x)∧∃ x1:ByteArray,hcell H2 ⟨bB,0,none⟩=some (.string x1) ∧
  CallF Tryz.prog 102 #[.string x,.string x1] H2 (fun r H3=>∃ y:Int,r = .int .i64 y∧K (.int .i64 y) H3) Z
theorem V53_ok {H a_a a_b a_c b_a b_b b_c K Z} (h:V53 H a_a a_b a_c b_a b_b b_c K Z):CallF Tryz.prog 53 #[.agg #[.string a_a,.string a_b,.slice a_c.a a_c.n a_c.c],.agg #[.string b_a,.string b_b,.slice b_c.a b_c.n b_c.c]] H K Z:=
 fnC_sound (aJ:=fun _=>none) (aL:=fun _=>none) (Eq.mp (by kernel_rfl) h)
def V54 (H:Hp) (l:Sl) (ask compare:Value) (K:Value→Hp→Prop) (Z:List PanicEntry→Hp→Prop):Prop:=
 ∃ I:Int→Hp→Nat→Prop,(∃ m,I 0 H m)∧∀ (t12:Int),∀ H1 m1,I t12 H1 m1→∀ scr:Nat→Value,(((decide (t12 < (l.n:Int)))=true →
  IxA l.a l.n t12 3 fun ad=>(∃ x_a x_b x_c:ByteArray,(hcell H1 ad=some (.string x_a) ∧
  hcell H1 (Addr.add ad 1)=some (.string x_b)∧hcell H1 (Addr.add ad 2)=some (.string x_c)∧True) ∧
  ∀ bX H2,Newb H1 (.cells #[.string ⟨#[]⟩,.string ⟨#[]⟩,.string ⟨#[]⟩] 56) bX H2→StL ⟨bX,0,none⟩ 0 [.string x_a,.string x_b,.string x_c] H2 fun H3=>
  (∃ x_a1 x_b1 x_c1:ByteArray,(hcell H3 ⟨bX,0,none⟩=some (.string x_a1) ∧
  hcell H3 ⟨bX,1,none⟩=some (.string x_b1)∧hcell H3 ⟨bX,2,none⟩=some (.string x_c1)∧True) ∧
  callV Tryz.prog ask [.agg #[.string x_a1,.string x_b1,.string x_c1]] H3 (fun r H4=>∃ y:Int,r = .int .i64 y ∧
  (((y != 0)=true→K (.int .i64 y) H4)∧((y != 0)=false→(((decide (t12 > 0))=true→IxA l.a l.n (w64 (t12 - 1)) 3 fun ad1=>
  (∃ x_a2 x_b2 x_c2:ByteArray,(hcell H4 ad1=some (.string x_a2) ∧
  hcell H4 (Addr.add ad1 1)=some (.string x_b2)∧hcell H4 (Addr.add ad1 2)=some (.string x_c2) ∧
  True)∧∃ x_a3 x_b3 x_c3:ByteArray,(hcell H4 ⟨bX,0,none⟩=some (.string x_a3) ∧
  hcell H4 ⟨bX,1,none⟩=some (.string x_b3)∧hcell H4 ⟨bX,2,none⟩=some (.string x_c3)∧True) ∧
  callV Tryz.prog compare [.agg #[.string x_a2,.string x_b2,.string x_c2],.agg #[.string x_a3,.string x_b3,.string x_c3]] H4 (fun r1 H5=>
  ∃ y1:Int,r1 = .int .i64 y1∧(((decide (y1≥0))=true→K (.int .i64 13) H5)∧((decide (y1≥0))=false →
  (∃ m2,m2 < m1∧I (w64 (t12+1)) H5 m2)))) Z))∧((decide (t12 > 0))=false→(∃ m2,m2 < m1 ∧
  I (w64 (t12+1)) H4 m2)))))) Z)))∧((decide (t12 < (l.n:Int)))=false→K (.int .i64 0) H1))
def aL54:Ann:=(fun k=>if k=2 then some [(12,(.sc (.int .i64)))] else none)
theorem V54_ok {H l ask compare K Z} (h:V54 H l ask compare K Z):CallF Tryz.prog 54 #[.slice l.a l.n l.c,ask,compare] H K Z:=
 fnC_sound (aJ:=fun _=>none) (aL:=aL54) (Eq.mp (by kernel_rfl) h)
def V55 (H:Hp) (f_a f_b f_c:ByteArray) (K:Value→Hp→Prop) (Z:List PanicEntry→Hp→Prop):Prop:=
 ∀ bF H1,Newb H (.cells #[.string f_a,.string f_b,.string f_c] 56) bF H1→∃ x:ByteArray,hcell H1 ⟨bF,0,none⟩=some (.string x) ∧
  CallF Tryz.prog 22 #[.string x] H1 (fun r H2=>∃ (y_0_a:Int) (y_0_b:ByteArray) (y_0_c:Int) (y_0_d:ByteArray) (y_0_e y_0_f y_1:Int),r = .tuple #[.agg #[.int .i64 y_0_a,.string y_0_b,.int .i64 y_0_c,.string y_0_d,.int .i64 y_0_e,.int .i64 y_0_f],.int .i64 y_1] ∧
  ∀ bN H3,Newb H2 (.cells #[.int .i64 0,.string ⟨#[]⟩,.int .i64 0,.string ⟨#[]⟩,.int .i64 0,.int .i64 0] 61) bN H3 →
  StL ⟨bN,0,none⟩ 0 [.int .i64 y_0_a,.string y_0_b,.int .i64 y_0_c,.string y_0_d,.int .i64 y_0_e,.int .i64 y_0_f] H3 fun H4=>
  (∃ J:Bool→Hp→Prop,(∀ (t11:Bool),∀ H5,J t11 H5→∀ scr:Nat→Value,((t11=true→K (.int .i64 11) H5) ∧
  (t11=false→∃ x1:ByteArray,hcell H5 ⟨bF,1,none⟩=some (.string x1)∧CallF Tryz.prog 99 #[.string x1,.int .i64 6] H5 (fun r1 H6=>
  ∃ y:Bool,r1 = .bool y∧(((!y)=true→K (.int .i64 5) H6)∧((!y)=false→∃ x2:ByteArray,hcell H6 ⟨bF,2,none⟩=some (.string x2) ∧
  (((!(beqS x2 ⟨#[105]⟩))=true→∃ x3:ByteArray,hcell H6 ⟨bF,2,none⟩=some (.string x3)∧(((!(beqS x3 ⟨#[112]⟩))=true →
  ∃ x4:ByteArray,hcell H6 ⟨bF,2,none⟩=some (.string x4)∧(((!(beqS x4 ⟨#[118]⟩))=true→K (.int .i64 5) H6) ∧
  ((!(beqS x4 ⟨#[118]⟩))=false→K (.int .i64 0) H6)))∧((!(beqS x3 ⟨#[112]⟩))=false→K (.int .i64 0) H6))) ∧
  ((!(beqS x2 ⟨#[105]⟩))=false→K (.int .i64 0) H6))))) Z)))∧(((y_1 != 0)=true→(J true H4)) ∧
  ((y_1 != 0)=false→∃ x5:Int,hcell H4 ⟨bN,0,none⟩=some (.int .i64 x5)∧(J (x5 != 4) H4))))) Z
def aJ55:Ann:=(fun k=>if k=3 then some [(11,(.sc .bool))] else none)
theorem V55_ok {H f_a f_b f_c K Z} (h:V55 H f_a f_b f_c K Z):CallF Tryz.prog 55 #[.agg #[.string f_a,.string f_b,.string f_c]] H K Z:=
 fnC_sound (aJ:=aJ55) (aL:=fun _=>none) (Eq.mp (by kernel_rfl) h)
def V56 (H:Hp) (a_a a_b a_c b_a b_b b_c:ByteArray) (K:Value→Hp→Prop) (Z:List PanicEntry→Hp→Prop):Prop:=
 ∀ bA H1,Newb H (.cells #[.string a_a,.string a_b,.string a_c] 56) bA H1→∀ bB H2,Newb H1 (.cells #[.string b_a,.string b_b,.string b_c] 56) bB H2 →
  ∃ x:ByteArray,hcell H2 ⟨bA,0,none⟩=some (.string x)∧∃ x1:ByteArray,hcell H2 ⟨bB,0,none⟩=some (.string x1) ∧
  CallF Tryz.prog 102 #[.string x,.string x1] H2 (fun r H3=>∃ y:Int,r = .int .i64 y∧K (.int .i64 y) H3) Z
theorem V56_ok {H a_a a_b a_c b_a b_b b_c K Z} (h:V56 H a_a a_b a_c b_a b_b b_c K Z):CallF Tryz.prog 56 #[.agg #[.string a_a,.string a_b,.string a_c],.agg #[.string b_a,.string b_b,.string b_c]] H K Z:=
 fnC_sound (aJ:=fun _=>none) (aL:=fun _=>none) (Eq.mp (by kernel_rfl) h)
def V57 (H:Hp) (l:Sl) (ask compare:Value) (K:Value→Hp→Prop) (Z:List PanicEntry→Hp→Prop):Prop:=
 ∃ I:Int→Hp→Nat→Prop,(∃ m,I 0 H m)∧∀ (t12:Int),∀ H1 m1,I t12 H1 m1→∀ scr:Nat→Value,(((decide (t12 < (l.n:Int)))=true →
  IxA l.a l.n t12 6 fun ad=>(∃ (x_a:Int) (x_b x_c:ByteArray) (x_d:Int) (x_e:ByteArray) (x_f:Sl),(hcell H1 ad=some (.int .i64 x_a) ∧
  hcell H1 (Addr.add ad 1)=some (.string x_b)∧hcell H1 (Addr.add ad 2)=some (.string x_c)∧hcell H1 (Addr.add ad 3)=some (.int .i64 x_d) ∧
  hcell H1 (Addr.add ad 4)=some (.string x_e)∧hcell H1 (Addr.add ad 5)=some (.slice x_f.a x_f.n x_f.c) ∧
  True)∧∀ bX H2,Newb H1 (.cells #[.int .i64 0,.string ⟨#[]⟩,.string ⟨#[]⟩,.int .i64 0,.string ⟨#[]⟩,.slice none 0 0] 36) bX H2 →
  StL ⟨bX,0,none⟩ 0 [.int .i64 x_a,.string x_b,.string x_c,.int .i64 x_d,.string x_e,.slice x_f.a x_f.n x_f.c] H2 fun H3=>
  (∃ (x_a1:Int) (x_b1 x_c1:ByteArray) (x_d1:Int) (x_e1:ByteArray) (x_f1:Sl),(hcell H3 ⟨bX,0,none⟩=some (.int .i64 x_a1) ∧
  hcell H3 ⟨bX,1,none⟩=some (.string x_b1)∧hcell H3 ⟨bX,2,none⟩=some (.string x_c1)∧hcell H3 ⟨bX,3,none⟩=some (.int .i64 x_d1) ∧
  hcell H3 ⟨bX,4,none⟩=some (.string x_e1)∧hcell H3 ⟨bX,5,none⟩=some (.slice x_f1.a x_f1.n x_f1.c) ∧
  True)∧callV Tryz.prog ask [.agg #[.int .i64 x_a1,.string x_b1,.string x_c1,.int .i64 x_d1,.string x_e1,.slice x_f1.a x_f1.n x_f1.c]] H3 (fun r H4=>
  ∃ y:Int,r = .int .i64 y∧(((y != 0)=true→K (.int .i64 y) H4)∧((y != 0)=false→(((decide (t12 > 0))=true →
  IxA l.a l.n (w64 (t12 - 1)) 6 fun ad1=>(∃ (x_a2:Int) (x_b2 x_c2:ByteArray) (x_d2:Int) (x_e2:ByteArray) (x_f2:Sl),(hcell H4 ad1=some (.int .i64 x_a2) ∧
  hcell H4 (Addr.add ad1 1)=some (.string x_b2)∧hcell H4 (Addr.add ad1 2)=some (.string x_c2) ∧
  hcell H4 (Addr.add ad1 3)=some (.int .i64 x_d2)∧hcell H4 (Addr.add ad1 4)=some (.string x_e2) ∧
  hcell H4 (Addr.add ad1 5)=some (.slice x_f2.a x_f2.n x_f2.c)∧True)∧∃ (x_a3:Int) (x_b3 x_c3:ByteArray) (x_d3:Int) (x_e3:ByteArray) (x_f3:Sl),(hcell H4 ⟨bX,0,none⟩=some (.int .i64 x_a3) ∧
  hcell H4 ⟨bX,1,none⟩=some (.string x_b3)∧hcell H4 ⟨bX,2,none⟩=some (.string x_c3)∧hcell H4 ⟨bX,3,none⟩=some (.int .i64 x_d3) ∧
  hcell H4 ⟨bX,4,none⟩=some (.string x_e3)∧hcell H4 ⟨bX,5,none⟩=some (.slice x_f3.a x_f3.n x_f3.c) ∧
  True)∧callV Tryz.prog compare [.agg #[.int .i64 x_a2,.string x_b2,.string x_c2,.int .i64 x_d2,.string x_e2,.slice x_f2.a x_f2.n x_f2.c],.agg #[.int .i64 x_a3,.string x_b3,.string x_c3,.int .i64 x_d3,.string x_e3,.slice x_f3.a x_f3.n x_f3.c]] H4 (fun r1 H5=>
  ∃ y1:Int,r1 = .int .i64 y1∧(((decide (y1≥0))=true→K (.int .i64 13) H5)∧((decide (y1≥0))=false →
  (∃ m2,m2 < m1∧I (w64 (t12+1)) H5 m2)))) Z))∧((decide (t12 > 0))=false→(∃ m2,m2 < m1 ∧
  I (w64 (t12+1)) H4 m2)))))) Z)))∧((decide (t12 < (l.n:Int)))=false→K (.int .i64 0) H1))
def aL57:Ann:=(fun k=>if k=2 then some [(12,(.sc (.int .i64)))] else none)
theorem V57_ok {H l ask compare K Z} (h:V57 H l ask compare K Z):CallF Tryz.prog 57 #[.slice l.a l.n l.c,ask,compare] H K Z:=
 fnC_sound (aJ:=fun _=>none) (aL:=aL57) (Eq.mp (by kernel_rfl) h)
def V58 (H:Hp) (c_a:Int) (c_b c_c:ByteArray) (c_d:Int) (c_e:ByteArray) (c_f:Sl) (K:Value→Hp→Prop) (Z:List PanicEntry→Hp→Prop):Prop:=
 ∀ bC H1,Newb H (.cells #[.int .i64 c_a,.string c_b,.string c_c,.int .i64 c_d,.string c_e,.slice c_f.a c_f.n c_f.c] 36) bC H1 →
  ∃ J:Bool→Hp→Prop,(∀ (right:Bool),∀ H2,J right H2→∀ scr:Nat→Value,(((!right)=true →
  K (.int .i64 11) H2)∧((!right)=false→∃ x:Int,hcell H2 ⟨bC,0,none⟩=some (.int .i64 x) ∧
  (((x == 6)=true→∃ (x_a:Int) (x_b x_c:ByteArray) (x_d:Int) (x_e:ByteArray) (x_f:Sl),(hcell H2 ⟨bC,0,none⟩=some (.int .i64 x_a) ∧
  hcell H2 ⟨bC,1,none⟩=some (.string x_b)∧hcell H2 ⟨bC,2,none⟩=some (.string x_c)∧hcell H2 ⟨bC,3,none⟩=some (.int .i64 x_d) ∧
  hcell H2 ⟨bC,4,none⟩=some (.string x_e)∧hcell H2 ⟨bC,5,none⟩=some (.slice x_f.a x_f.n x_f.c) ∧
  True)∧CallF Tryz.prog 104 #[.agg #[.int .i64 x_a,.string x_b,.string x_c,.int .i64 x_d,.string x_e,.slice x_f.a x_f.n x_f.c]] H2 (fun r H3=>
  ∃ y:Bool,r = .bool y∧(((!y)=true→K (.int .i64 3) H3)∧((!y)=false→K (.int .i64 0) H3))) Z) ∧
  ((x == 6)=false→(((x == 5)=true→∃ x1:Sl,hcell H2 ⟨bC,5,none⟩=some (.slice x1.a x1.n x1.c) ∧
  ((((x1.n:Int) == 0)=true→∃ x2:Int,hcell H2 ⟨bC,3,none⟩=some (.int .i64 x2)∧(((decide (x2≥0))=true →
  ∃ x3:Int,hcell H2 ⟨bC,3,none⟩=some (.int .i64 x3)∧(((decide (x3≤64))=true→∃ x4:ByteArray,hcell H2 ⟨bC,4,none⟩=some (.string x4) ∧
  CallF Tryz.prog 100 #[.string x4] H2 (fun r1 H4=>∃ y1:Bool,r1 = .bool y1∧(((!y1)=true →
  K (.int .i64 3) H4)∧((!y1)=false→K (.int .i64 0) H4))) Z)∧((decide (x3≤64))=false→(((!false)=true →
  K (.int .i64 3) H2)∧((!false)=false→K (.int .i64 0) H2)))))∧((decide (x2≥0))=false →
  (((!false)=true→K (.int .i64 3) H2)∧((!false)=false→K (.int .i64 0) H2)))))∧(((x1.n:Int) == 0)=false →
  (((!false)=true→K (.int .i64 3) H2)∧((!false)=false→K (.int .i64 0) H2)))))∧((x == 5)=false →
  ∃ x5:Sl,hcell H2 ⟨bC,5,none⟩=some (.slice x5.a x5.n x5.c)∧((((x5.n:Int) == 0)=true →
  ∃ x6:Int,hcell H2 ⟨bC,3,none⟩=some (.int .i64 x6)∧(((x6 == 0)=true→∃ x7:ByteArray,hcell H2 ⟨bC,4,none⟩=some (.string x7) ∧
  (((!(beqS x7 ⟨#[]⟩))=true→K (.int .i64 3) H2)∧((!(beqS x7 ⟨#[]⟩))=false→K (.int .i64 0) H2))) ∧
  ((x6 == 0)=false→(((!false)=true→K (.int .i64 3) H2)∧((!false)=false→K (.int .i64 0) H2))))) ∧
  (((x5.n:Int) == 0)=false→(((!false)=true→K (.int .i64 3) H2)∧((!false)=false→K (.int .i64 0) H2))))))))))) ∧
  ∃ x8:Int,hcell H1 ⟨bC,0,none⟩=some (.int .i64 x8)∧(((x8 == 1)=true→∃ x9:ByteArray,hcell H1 ⟨bC,1,none⟩=some (.string x9) ∧
  CallF Tryz.prog 32 #[.string x9] H1 (fun r2 H5=>∃ y2:Bool,r2 = .bool y2∧((y2=true→∃ x10:ByteArray,hcell H5 ⟨bC,2,none⟩=some (.string x10) ∧
  CallF Tryz.prog 103 #[.string x10] H5 (fun r3 H6=>∃ y3:Bool,r3 = .bool y3∧(J y3 H6)) Z) ∧
  (y2=false→(J false H5)))) Z)∧((x8 == 1)=false→∃ J1:Bool→Hp→Prop,(∀ (t18:Bool),∀ H7,J1 t18 H7 →
  ∀ scr1:Nat→Value,((t18=true→∃ x11:ByteArray,hcell H7 ⟨bC,1,none⟩=some (.string x11) ∧
  CallF Tryz.prog 32 #[.string x11] H7 (fun r4 H8=>∃ y4:Bool,r4 = .bool y4∧((y4=true→∃ x12:ByteArray,hcell H8 ⟨bC,2,none⟩=some (.string x12) ∧
  CallF Tryz.prog 32 #[.string x12] H8 (fun r5 H9=>∃ y5:Bool,r5 = .bool y5∧(J y5 H9)) Z)∧(y4=false →
  (J false H8)))) Z)∧(t18=false→(((x8 == 6)=true→∃ x13:ByteArray,hcell H7 ⟨bC,1,none⟩=some (.string x13) ∧
  CallF Tryz.prog 22 #[.string x13] H7 (fun r6 H10=>∃ (y_0_a:Int) (y_0_b:ByteArray) (y_0_c:Int) (y_0_d:ByteArray) (y_0_e y_0_f y_1:Int),r6 = .tuple #[.agg #[.int .i64 y_0_a,.string y_0_b,.int .i64 y_0_c,.string y_0_d,.int .i64 y_0_e,.int .i64 y_0_f],.int .i64 y_1] ∧
  ∀ bN H11,Newb H10 (.cells #[.int .i64 0,.string ⟨#[]⟩,.int .i64 0,.string ⟨#[]⟩,.int .i64 0,.int .i64 0] 61) bN H11 →
  StL ⟨bN,0,none⟩ 0 [.int .i64 y_0_a,.string y_0_b,.int .i64 y_0_c,.string y_0_d,.int .i64 y_0_e,.int .i64 y_0_f] H11 fun H12=>
  (((y_1 == 0)=true→∃ x14:Int,hcell H12 ⟨bN,0,none⟩=some (.int .i64 x14)∧(((x14 == 3)=true →
  ∃ x15:ByteArray,hcell H12 ⟨bC,2,none⟩=some (.string x15)∧CallF Tryz.prog 32 #[.string x15] H12 (fun r7 H13=>
  ∃ y6:Bool,r7 = .bool y6∧(J y6 H13)) Z)∧((x14 == 3)=false→(J false H12))))∧((y_1 == 0)=false →
  (J false H12)))) Z)∧((x8 == 6)=false→K (.int .i64 5) H7)))))∧(((x8 == 2)=true→(J1 (x8 == 2) H1)) ∧
  ((x8 == 2)=false→(((x8 == 3)=true→(J1 (x8 == 3) H1))∧((x8 == 3)=false→(((x8 == 4)=true →
  (J1 (x8 == 4) H1))∧((x8 == 4)=false→(J1 (x8 == 5) H1)))))))))
def aJ58:Ann:=(fun k=>if k=10 then some [(18,(.sc .bool))] else if k=14 then some [(3,(.sc .bool))] else none)
theorem V58_ok {H c_a c_b c_c c_d c_e c_f K Z} (h:V58 H c_a c_b c_c c_d c_e c_f K Z):CallF Tryz.prog 58 #[.agg #[.int .i64 c_a,.string c_b,.string c_c,.int .i64 c_d,.string c_e,.slice c_f.a c_f.n c_f.c]] H K Z:=
 fnC_sound (aJ:=aJ58) (aL:=fun _=>none) (Eq.mp (by kernel_rfl) h)
def V105 (H:Hp) (vals:Sl) (K:Value→Hp→Prop) (Z:List PanicEntry→Hp→Prop):Prop:=
 ∃ I:Int→Hp→Nat→Prop,(∃ m,I 0 H m)∧∀ (t8:Int),∀ H1 m1,I t8 H1 m1→∀ scr:Nat→Value,(((decide (t8 < (vals.n:Int)))=true →
  IxA vals.a vals.n t8 1 fun ad=>(∃ x:Int,hcell H1 ad=some (.int .i64 x)∧(((x != 0)=true →
  K (.int .i64 x) H1)∧((x != 0)=false→(∃ m2,m2 < m1∧I (w64 (t8+1)) H1 m2)))))∧((decide (t8 < (vals.n:Int)))=false →
  K (.int .i64 0) H1))
def aL105:Ann:=(fun k=>if k=3 then some [(8,(.sc (.int .i64)))] else none)
theorem V105_ok {H vals K Z} (h:V105 H vals K Z):CallF Tryz.prog 105 #[.slice vals.a vals.n vals.c] H K Z:=
 fnC_sound (aJ:=fun _=>none) (aL:=aL105) (Eq.mp (by kernel_rfl) h)
def V106 (H:Hp) (x y:Int) (K:Value→Hp→Prop) (Z:List PanicEntry→Hp→Prop):Prop:=
 CallF Tryz.prog 151 #[.int .i64 x] H (fun r H1=>∃ y1:Bool,r = .bool y1∧CallF Tryz.prog 151 #[.int .i64 y] H1 (fun r1 H2=>
  ∃ y2:Bool,r1 = .bool y2∧((y1=true→((y2=true→K (.int .i64 0) H2)∧(y2=false→K (.int .i64 (-1)) H2))) ∧
  (y1=false→((y2=true→K (.int .i64 1) H2)∧(y2=false→(((decide (x < y))=true→K (.int .i64 (-1)) H2) ∧
  ((decide (x < y))=false→(((decide (x > y))=true→K (.int .i64 1) H2)∧((decide (x > y))=false →
  K (.int .i64 0) H2))))))))) Z) Z
theorem V106_ok {H x y K Z} (h:V106 H x y K Z):CallF Tryz.prog 106 #[.int .i64 x,.int .i64 y] H K Z:=
 fnC_sound (aJ:=fun _=>none) (aL:=fun _=>none) (Eq.mp (by kernel_rfl) h)
def V151 (H:Hp) (x:Int) (K:Value→Hp→Prop) (Z:List PanicEntry→Hp→Prop):Prop:=
 K (.bool (x != x)) H
theorem V151_ok {H x K Z} (h:V151 H x K Z):CallF Tryz.prog 151 #[.int .i64 x] H K Z:=
 fnC_sound (aJ:=fun _=>none) (aL:=fun _=>none) (Eq.mp (by kernel_rfl) h)
def V107 (H:Hp) (s1 s2:Sl) (K:Value→Hp→Prop) (Z:List PanicEntry→Hp→Prop):Prop:=
 ∃ I:Int→Hp→Nat→Prop,(∃ m,I 0 H m)∧∀ (t11:Int),∀ H1 m1,I t11 H1 m1→∀ scr:Nat→Value,(((decide (t11 < (s1.n:Int)))=true →
  IxA s1.a s1.n t11 1 fun ad=>(∃ x:ByteArray,hcell H1 ad=some (.string x)∧(((decide (t11≥(s2.n:Int)))=true →
  K (.int .i64 1) H1)∧((decide (t11≥(s2.n:Int)))=false→IxA s2.a s2.n t11 1 fun ad1=>(∃ x1:ByteArray,hcell H1 ad1=some (.string x1) ∧
  CallF Tryz.prog 102 #[.string x,.string x1] H1 (fun r H2=>∃ y:Int,r = .int .i64 y∧(((y != 0)=true →
  K (.int .i64 y) H2)∧((y != 0)=false→(∃ m2,m2 < m1∧I (w64 (t11+1)) H2 m2)))) Z)))))∧((decide (t11 < (s1.n:Int)))=false →
  (((decide ((s1.n:Int) < (s2.n:Int)))=true→K (.int .i64 (-1)) H1)∧((decide ((s1.n:Int) < (s2.n:Int)))=false →
  K (.int .i64 0) H1))))
def aL107:Ann:=(fun k=>if k=2 then some [(11,(.sc (.int .i64)))] else none)
theorem V107_ok {H s1 s2 K Z} (h:V107 H s1 s2 K Z):CallF Tryz.prog 107 #[.slice s1.a s1.n s1.c,.slice s2.a s2.n s2.c] H K Z:=
 fnC_sound (aJ:=fun _=>none) (aL:=aL107) (Eq.mp (by kernel_rfl) h)
def V99 (H:Hp) (s:ByteArray) (most:Int) (K:Value→Hp→Prop) (Z:List PanicEntry→Hp→Prop):Prop:=
 CallF Tryz.prog 147 #[.string s,.string ⟨#[105,112]⟩] H (fun r H1=>∃ y:ByteArray,r = .string y ∧
  (((beqS y ⟨#[]⟩)=true→K (.bool (decide ((s.size:Int)≤most))) H1)∧((beqS y ⟨#[]⟩)=false →
  K (.bool false) H1))) Z
theorem V99_ok {H s most K Z} (h:V99 H s most K Z):CallF Tryz.prog 99 #[.string s,.int .i64 most] H K Z:=
 fnC_sound (aJ:=fun _=>none) (aL:=fun _=>none) (Eq.mp (by kernel_rfl) h)
def V100 (H:Hp) (s:ByteArray) (K:Value→Hp→Prop) (Z:List PanicEntry→Hp→Prop):Prop:=
 (((!(beqS s ⟨#[]⟩))=true→K (.bool (decide ((s.size:Int)≤60))) H)∧((!(beqS s ⟨#[]⟩))=false →
  K (.bool false) H))
theorem V100_ok {H s K Z} (h:V100 H s K Z):CallF Tryz.prog 100 #[.string s] H K Z:=
 fnC_sound (aJ:=fun _=>none) (aL:=fun _=>none) (Eq.mp (by kernel_rfl) h)
def V101 (H:Hp) (s:Sl) (v_a:Int) (v_b:ByteArray) (K:Value→Hp→Prop) (Z:List PanicEntry→Hp→Prop):Prop:=
 ∀ bV H1,Newb H (.cells #[.int .i64 v_a,.string v_b] 54) bV H1→∃ (x_a:Int) (x_b:ByteArray),(hcell H1 ⟨bV,0,none⟩=some (.int .i64 x_a) ∧
  hcell H1 ⟨bV,1,none⟩=some (.string x_b)∧True)∧CallF Tryz.prog 148 #[.slice s.a s.n s.c,.agg #[.int .i64 x_a,.string x_b]] H1 (fun r H2=>
  ∃ y:Int,r = .int .i64 y∧K (.bool (decide (y≥0))) H2) Z
theorem V101_ok {H s v_a v_b K Z} (h:V101 H s v_a v_b K Z):CallF Tryz.prog 101 #[.slice s.a s.n s.c,.agg #[.int .i64 v_a,.string v_b]] H K Z:=
 fnC_sound (aJ:=fun _=>none) (aL:=fun _=>none) (Eq.mp (by kernel_rfl) h)
def V148 (H:Hp) (s:Sl) (v_a:Int) (v_b:ByteArray) (K:Value→Hp→Prop) (Z:List PanicEntry→Hp→Prop):Prop:=
 ∀ bV H1,Newb H (.cells #[.int .i64 v_a,.string v_b] 54) bV H1→∃ I:Int→Hp→Nat→Prop,(∃ m,I 0 H1 m) ∧
  ∀ (t8:Int),∀ H2 m1,I t8 H2 m1→∀ scr:Nat→Value,(((decide (t8 < (s.n:Int)))=true→∃ (x_a:Int) (x_b:ByteArray),(hcell H2 ⟨bV,0,none⟩=some (.int .i64 x_a) ∧
  hcell H2 ⟨bV,1,none⟩=some (.string x_b)∧True)∧IxA s.a s.n t8 2 fun ad=>(∃ (x_a1:Int) (x_b1:ByteArray),(hcell H2 ad=some (.int .i64 x_a1) ∧
  hcell H2 (Addr.add ad 1)=some (.string x_b1)∧True)∧(((((x_a == x_a1) && ((x_b == x_b1) && true)))=true →
  K (.int .i64 t8) H2)∧((((x_a == x_a1) && ((x_b == x_b1) && true)))=false→(∃ m2,m2 < m1∧I (w64 (t8+1)) H2 m2))))) ∧
  ((decide (t8 < (s.n:Int)))=false→K (.int .i64 (-1)) H2))
def aL148:Ann:=(fun k=>if k=2 then some [(8,(.sc (.int .i64)))] else none)
theorem V148_ok {H s v_a v_b K Z} (h:V148 H s v_a v_b K Z):CallF Tryz.prog 148 #[.slice s.a s.n s.c,.agg #[.int .i64 v_a,.string v_b]] H K Z:=
 fnC_sound (aJ:=fun _=>none) (aL:=aL148) (Eq.mp (by kernel_rfl) h)
def V104 (H:Hp) (c_a:Int) (c_b c_c:ByteArray) (c_d:Int) (c_e:ByteArray) (c_f:Sl) (K:Value→Hp→Prop) (Z:List PanicEntry→Hp→Prop):Prop:=
 ∀ bC H1,Newb H (.cells #[.int .i64 c_a,.string c_b,.string c_c,.int .i64 c_d,.string c_e,.slice c_f.a c_f.n c_f.c] 36) bC H1 →
  ∃ x:ByteArray,hcell H1 ⟨bC,4,none⟩=some (.string x)∧CallF Tryz.prog 150 #[.string x,.string ⟨#[62]⟩] H1 (fun r H2=>
  ∃ (y_0 y_1:ByteArray) (y_2:Bool),r = .tuple #[.string y_0,.string y_1,.bool y_2] ∧
  ∃ J:Hp→Prop,(∀ H3,J  H3→∀ scr:Nat→Value,∃ x1:Sl,hcell H3 ⟨bC,5,none⟩=some (.slice x1.a x1.n x1.c) ∧
  ∃ I:Int→Hp→Nat→Prop,(∃ m,I 0 H3 m)∧∀ (t52:Int),∀ H4 m1,I t52 H4 m1→∀ scr1:Nat →
  Value,(((decide (t52 < (x1.n:Int)))=true→IxA x1.a x1.n t52 1 fun ad=>(∃ x2:ByteArray,hcell H4 ad=some (.string x2) ∧
  (((decide (t52 > 0))=true→IxS y_0 (w64 (t52 - 1)) fun c=>(((!(beqS x2 ⟨#[]⟩))=true→(((!(c == 112))=true →
  K (.bool false) H4)∧((!(c == 112))=false→CallF Tryz.prog 32 #[.string x2] H4 (fun r1 H5=>
  ∃ y:Bool,r1 = .bool y∧(((!y)=true→K (.bool false) H5)∧((!y)=false→(∃ m2,m2 < m1 ∧
  I (w64 (t52+1)) H5 m2)))) Z)))∧((!(beqS x2 ⟨#[]⟩))=false→(∃ m2,m2 < m1∧I (w64 (t52+1)) H4 m2)))) ∧
  ((decide (t52 > 0))=false→(((!(beqS x2 ⟨#[]⟩))=true→(((!(beqS y_1 ⟨#[112]⟩))=true→K (.bool false) H4) ∧
  ((!(beqS y_1 ⟨#[112]⟩))=false→CallF Tryz.prog 32 #[.string x2] H4 (fun r2 H6=>∃ y1:Bool,r2 = .bool y1 ∧
  (((!y1)=true→K (.bool false) H6)∧((!y1)=false→(∃ m2,m2 < m1∧I (w64 (t52+1)) H6 m2)))) Z))) ∧
  ((!(beqS x2 ⟨#[]⟩))=false→(∃ m2,m2 < m1∧I (w64 (t52+1)) H4 m2)))))))∧((decide (t52 < (x1.n:Int)))=false →
  K (.bool true) H4)))∧(((!y_2)=true→K (.bool false) H2)∧((!y_2)=false→∃ x3:Int,hcell H2 ⟨bC,3,none⟩=some (.int .i64 x3) ∧
  (((x3 != 0)=true→K (.bool false) H2)∧((x3 != 0)=false→CallF Tryz.prog 99 #[.string y_0,.int .i64 6] H2 (fun r3 H7=>
  ∃ y2:Bool,r3 = .bool y2∧(((!y2)=true→K (.bool false) H7)∧((!y2)=false→(((!(beqS y_1 ⟨#[]⟩))=true →
  (((!(beqS y_1 ⟨#[105]⟩))=true→(((!(beqS y_1 ⟨#[112]⟩))=true→K (.bool false) H7)∧((!(beqS y_1 ⟨#[112]⟩))=false →
  ∃ x4:Sl,hcell H7 ⟨bC,5,none⟩=some (.slice x4.a x4.n x4.c)∧((((x4.n:Int) != (w64 ((y_0.size:Int)+1)))=true →
  K (.bool false) H7)∧(((x4.n:Int) != (w64 ((y_0.size:Int)+1)))=false→(J  H7))))))∧((!(beqS y_1 ⟨#[105]⟩))=false →
  ∃ x5:Sl,hcell H7 ⟨bC,5,none⟩=some (.slice x5.a x5.n x5.c)∧((((x5.n:Int) != (w64 ((y_0.size:Int)+1)))=true →
  K (.bool false) H7)∧(((x5.n:Int) != (w64 ((y_0.size:Int)+1)))=false→(J  H7))))))∧((!(beqS y_1 ⟨#[]⟩))=false →
  ∃ x6:Sl,hcell H7 ⟨bC,5,none⟩=some (.slice x6.a x6.n x6.c)∧((((x6.n:Int) != (w64 ((y_0.size:Int)+1)))=true →
  K (.bool false) H7)∧(((x6.n:Int) != (w64 ((y_0.size:Int)+1)))=false→(J  H7)))))))) Z))))) Z
def aJ104:Ann:=(fun k=>if k=4 then some [] else none)
def aL104:Ann:=(fun k=>if k=5 then some [(52,(.sc (.int .i64)))] else none)
theorem V104_ok {H c_a c_b c_c c_d c_e c_f K Z} (h:V104 H c_a c_b c_c c_d c_e c_f K Z):CallF Tryz.prog 104 #[.agg #[.int .i64 c_a,.string c_b,.string c_c,.int .i64 c_d,.string c_e,.slice c_f.a c_f.n c_f.c]] H K Z:=
 fnC_sound (aJ:=aJ104) (aL:=aL104) (Eq.mp (by kernel_rfl) h)
def V150 (H:Hp) (s sep:ByteArray) (K:Value→Hp→Prop) (Z:List PanicEntry→Hp→Prop):Prop:=
 CallF Tryz.prog 182 #[.string s,.string sep] H (fun r H1=>∃ (y_0 y_1:ByteArray) (y_2:Bool),r = .tuple #[.string y_0,.string y_1,.bool y_2] ∧
  K (.tuple #[.string y_0,.string y_1,.bool y_2]) H1) Z
theorem V150_ok {H s sep K Z} (h:V150 H s sep K Z):CallF Tryz.prog 150 #[.string s,.string sep] H K Z:=
 fnC_sound (aJ:=fun _=>none) (aL:=fun _=>none) (Eq.mp (by kernel_rfl) h)
def V182 (H:Hp) (s sep:ByteArray) (K:Value→Hp→Prop) (Z:List PanicEntry→Hp→Prop):Prop:=
 CallF Tryz.prog 203 #[.string s,.string sep] H (fun r H1=>∃ y:Int,r = .int .i64 y∧(((decide (y≥0))=true →
  SlS s 0 y fun cut=>(SlS s (w64 (y+(sep.size:Int))) (s.size:Int) fun cut1=>(K (.tuple #[.string cut,.string cut1,.bool true]) H1))) ∧
  ((decide (y≥0))=false→K (.tuple #[.string s,.string ⟨#[]⟩,.bool false]) H1))) Z
theorem V182_ok {H s sep K Z} (h:V182 H s sep K Z):CallF Tryz.prog 182 #[.string s,.string sep] H K Z:=
 fnC_sound (aJ:=fun _=>none) (aL:=fun _=>none) (Eq.mp (by kernel_rfl) h)
end Go.Proofs.YtjdhjgfmloaglaaGreatDoor.N15
end
