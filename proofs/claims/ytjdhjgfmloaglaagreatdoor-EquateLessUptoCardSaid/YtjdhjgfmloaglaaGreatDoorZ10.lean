import Derived.Test.YtjdhjgfmloaglaaGreatDoorZ09
import Derived.Test.YtjdhjgfmloaglaaGreatDoorProg
set_option linter.unusedVariables false
set_option linter.unusedSimpArgs false
section
set_option maxRecDepth 100000
namespace Go.Proofs.YtjdhjgfmloaglaaGreatDoor.N05
open Go Go.V Go.Proofs
def V149 (H:Hp) (x:ByteArray) (K:Value→Hp→Prop) (Z:List PanicEntry→Hp→Prop):Prop:=
 K (.bool (!(beqS x x))) H
theorem V149_ok {H x K Z} (h:V149 H x K Z):CallF Tryz.prog 149 #[.string x] H K Z:=
 fnC_sound (aJ:=fun _=>none) (aL:=fun _=>none) (Eq.mp (by kernel_rfl) h)
def V102 (H:Hp) (x y:ByteArray) (K:Value→Hp→Prop) (Z:List PanicEntry→Hp→Prop):Prop:=
 CallF Tryz.prog 149 #[.string x] H (fun r H1=>∃ y1:Bool,r = .bool y1∧CallF Tryz.prog 149 #[.string y] H1 (fun r1 H2=>
  ∃ y2:Bool,r1 = .bool y2∧((y1=true→((y2=true→K (.int .i64 0) H2)∧(y2=false→K (.int .i64 (-1)) H2))) ∧
  (y1=false→((y2=true→K (.int .i64 1) H2)∧(y2=false→(((ltS x y)=true→K (.int .i64 (-1)) H2) ∧
  ((ltS x y)=false→(((!((ltS x y) || (beqS x y)))=true→K (.int .i64 1) H2)∧((!((ltS x y) || (beqS x y)))=false →
  K (.int .i64 0) H2))))))))) Z) Z
theorem V102_ok {H x y K Z} (h:V102 H x y K Z):CallF Tryz.prog 102 #[.string x,.string y] H K Z:=
 fnC_sound (aJ:=fun _=>none) (aL:=fun _=>none) (Eq.mp (by kernel_rfl) h)
def V153 (H:Hp) (n:Int) (x:ByteArray) (cap0:Addr) (K:Value→Hp→Prop) (Z:List PanicEntry→Hp→Prop):Prop:=
 ∃ x1:Option Addr,hcell H cap0=some (.pointer x1)∧nilck x1 fun ad=>(∃ x2:Sl,hcell H ad=some (.slice x2.a x2.n x2.c) ∧
  IxA x2.a x2.n n 1 fun ad1=>(∃ x3:ByteArray,hcell H ad1=some (.string x3)∧CallF Tryz.prog 102 #[.string x3,.string x] H (fun r H1=>
  ∃ y:Int,r = .int .i64 y∧K (.int .i64 y) H1) Z))
theorem V153_ok {H n x cap0 K Z} (h:V153 H n x cap0 K Z):CallF Tryz.prog 153 #[.int .i64 n,.string x,.pointer (some cap0)] H K Z:=
 fnC_sound (aJ:=fun _=>none) (aL:=fun _=>none) (Eq.mp (by kernel_rfl) h)
def V152 (H:Hp) (x:Sl) (target:ByteArray) (cmp:Value) (K:Value→Hp→Prop) (Z:List PanicEntry→Hp→Prop):Prop:=
 ∃ I:Int→Int→Hp→Nat→Prop,(∃ m,I 0 (x.n:Int) H m)∧∀ (i:Int) (j:Int),∀ H1 m1,I i j H1 m1 →
  ∀ scr:Nat→Value,(((decide (i < j))=true→IxA x.a x.n (w64 (Int.fdiv (IntKind.wrap .u64 (w64 (i+j))) (2 ^ 1))) 1 fun ad=>
  (∃ x1:Int,hcell H1 ad=some (.int .i64 x1)∧callV Tryz.prog cmp [.int .i64 x1,.string target] H1 (fun r H2=>
  ∃ y:Int,r = .int .i64 y∧(((decide (y < 0))=true→(∃ m2,m2 < m1∧I (w64 ((w64 (Int.fdiv (IntKind.wrap .u64 (w64 (i+j))) (2 ^ 1)))+1)) j H2 m2)) ∧
  ((decide (y < 0))=false→(∃ m2,m2 < m1∧I i (w64 (Int.fdiv (IntKind.wrap .u64 (w64 (i+j))) (2 ^ 1))) H2 m2)))) Z)) ∧
  ((decide (i < j))=false→(((decide (i < (x.n:Int)))=true→IxA x.a x.n i 1 fun ad1=>(∃ x2:Int,hcell H1 ad1=some (.int .i64 x2) ∧
  callV Tryz.prog cmp [.int .i64 x2,.string target] H1 (fun r1 H3=>∃ y1:Int,r1 = .int .i64 y1 ∧
  K (.tuple #[.int .i64 i,.bool (y1 == 0)]) H3) Z))∧((decide (i < (x.n:Int)))=false→K (.tuple #[.int .i64 i,.bool false]) H1))))
def aL152:Ann:=(fun k=>if k=3 then some [(9,(.sc (.int .i64))),(10,(.sc (.int .i64)))] else none)
theorem V152_ok {H x target cmp K Z} (h:V152 H x target cmp K Z):CallF Tryz.prog 152 #[.slice x.a x.n x.c,.string target,cmp] H K Z:=
 fnC_sound (aJ:=fun _=>none) (aL:=aL152) (Eq.mp (by kernel_rfl) h)
def V108 (H:Hp) (t:Addr) (x:ByteArray) (K:Value→Hp→Prop) (Z:List PanicEntry→Hp→Prop):Prop:=
 ∀ bT H1,Newb H (.cells #[.pointer (some t)] 102) bT H1→∃ x1:Option Addr,hcell H1 ⟨bT,0,none⟩=some (.pointer x1) ∧
  nilck x1 fun ad=>(∃ x2:Sl,hcell H1 (Addr.add ad 1)=some (.slice x2.a x2.n x2.c)∧CallF Tryz.prog 152 #[.slice x2.a x2.n x2.c,.string x,.func (.func 153) #[] #[.pointer (some ⟨bT,0,none⟩)]] H1 (fun r H2=>
  ∃ (y_0:Int) (y_1:Bool),r = .tuple #[.int .i64 y_0,.bool y_1]∧K (.tuple #[.int .i64 y_0,.bool y_1]) H2) Z)
theorem V108_ok {H t x K Z} (h:V108 H t x K Z):CallF Tryz.prog 108 #[.pointer (some t),.string x] H K Z:=
 fnC_sound (aJ:=fun _=>none) (aL:=fun _=>none) (Eq.mp (by kernel_rfl) h)
def V109 (H:Hp) (s:Sl) (i:Int) (v:Sl) (K:Value→Hp→Prop) (Z:List PanicEntry→Hp→Prop):Prop:=
 (s.n≤s.c∧SlX s.a s.c i (s.n:Int) 1 fun cut=>((((v.n:Int) == 0)=true→K (.slice s.a s.n s.c) H) ∧
  (((v.n:Int) == 0)=false→(((i == (s.n:Int))=true→App Tryz.prog #[103,103] 103 H [.slice s.a s.n s.c,.slice v.a v.n v.c] fun ap H1=>
  (K (.slice ap.a ap.n ap.c) H1))∧((i == (s.n:Int))=false→(((decide ((w64 ((s.n:Int)+(v.n:Int))) > (s.c:Int)))=true →
  (s.n≤s.c∧SlX s.a s.c 0 i 1 fun cut1=>(App Tryz.prog #[103,3] 103 H [.slice cut1.a cut1.n cut1.c,.int .i64 (w64 ((w64 ((s.n:Int)+(v.n:Int))) - i))] fun ap1 H2=>
  (ap1.n≤ap1.c∧SlX ap1.a ap1.c i (ap1.n:Int) 1 fun cut2=>(Cpy Tryz.prog #[103,103] 3 H2 [.slice cut2.a cut2.n cut2.c,.slice v.a v.n v.c] fun cp H3=>
  (ap1.n≤ap1.c∧SlX ap1.a ap1.c (w64 (i+(v.n:Int))) (ap1.n:Int) 1 fun cut3=>(s.n≤s.c ∧
  SlX s.a s.c i (s.n:Int) 1 fun cut4=>(Cpy Tryz.prog #[103,103] 3 H3 [.slice cut3.a cut3.n cut3.c,.slice cut4.a cut4.n cut4.c] fun cp1 H4=>
  (K (.slice ap1.a ap1.n ap1.c) H4)))))))))∧((decide ((w64 ((s.n:Int)+(v.n:Int))) > (s.c:Int)))=false →
  (s.n≤s.c∧SlX s.a s.c 0 (w64 ((s.n:Int)+(v.n:Int))) 1 fun cut5=>(cut5.n≤cut5.c∧SlX cut5.a cut5.c (w64 (i+(v.n:Int))) (cut5.n:Int) 1 fun cut6=>
  (ExtF Tryz.prog 154 [.slice v.a v.n v.c,.slice cut6.a cut6.n cut6.c] H fun r H5=>∃ y:Bool,r = .bool y ∧
  (((!y)=true→(cut5.n≤cut5.c∧SlX cut5.a cut5.c (w64 (i+(v.n:Int))) (cut5.n:Int) 1 fun cut7=>
  (cut5.n≤cut5.c∧SlX cut5.a cut5.c i (cut5.n:Int) 1 fun cut8=>(Cpy Tryz.prog #[103,103] 3 H5 [.slice cut7.a cut7.n cut7.c,.slice cut8.a cut8.n cut8.c] fun cp2 H6=>
  (cut5.n≤cut5.c∧SlX cut5.a cut5.c i (cut5.n:Int) 1 fun cut9=>(Cpy Tryz.prog #[103,103] 3 H6 [.slice cut9.a cut9.n cut9.c,.slice v.a v.n v.c] fun cp3 H7=>
  (K (.slice cut5.a cut5.n cut5.c) H7)))))))∧((!y)=false→(cut5.n≤cut5.c∧SlX cut5.a cut5.c (s.n:Int) (cut5.n:Int) 1 fun cut10=>
  (Cpy Tryz.prog #[103,103] 3 H5 [.slice cut10.a cut10.n cut10.c,.slice v.a v.n v.c] fun cp4 H8=>
  (cut5.n≤cut5.c∧SlX cut5.a cut5.c i (cut5.n:Int) 1 fun cut11=>(CallF Tryz.prog 155 #[.slice cut11.a cut11.n cut11.c,.int .i64 (v.n:Int)] H8 (fun r1 H9=>
  r1 = .tuple #[]∧K (.slice cut5.a cut5.n cut5.c) H9) Z))))))))))))))))
theorem V109_ok {H s i v K Z} (h:V109 H s i v K Z):CallF Tryz.prog 109 #[.slice s.a s.n s.c,.int .i64 i,.slice v.a v.n v.c] H K Z:=
 fnC_sound (aJ:=fun _=>none) (aL:=fun _=>none) (Eq.mp (by kernel_rfl) h)
def V111 (H:Hp) (s:Sl) (K:Value→Hp→Prop) (Z:List PanicEntry→Hp→Prop):Prop:=
 (((Option.isNone s.a)=true→K (.slice none 0 0) H)∧((Option.isNone s.a)=false→∀ b H1,Newb H (.cells #[] 3) b H1 →
  App Tryz.prog #[103,103] 103 H1 [.slice (some ⟨b,0,none⟩) 0 0,.slice s.a s.n s.c] fun ap H2=>
  (K (.slice ap.a ap.n ap.c) H2)))
theorem V111_ok {H s K Z} (h:V111 H s K Z):CallF Tryz.prog 111 #[.slice s.a s.n s.c] H K Z:=
 fnC_sound (aJ:=fun _=>none) (aL:=fun _=>none) (Eq.mp (by kernel_rfl) h)
def V60 (H:Hp) (t:Addr) (x:ByteArray) (K:Value→Hp→Prop) (Z:List PanicEntry→Hp→Prop):Prop:=
 CallF Tryz.prog 108 #[.pointer (some t),.string x] H (fun r H1=>∃ (y_0:Int) (y_1:Bool),r = .tuple #[.int .i64 y_0,.bool y_1] ∧
  ((y_1=true→∃ x1:Sl,hcell H1 (Addr.add t 1)=some (.slice x1.a x1.n x1.c)∧IxA x1.a x1.n y_0 1 fun ad=>
  (∃ x2:Int,hcell H1 ad=some (.int .i64 x2)∧K (.tuple #[.int .i64 x2,.bool false]) H1))∧(y_1=false →
  ∃ x3:Sl,hcell H1 t=some (.slice x3.a x3.n x3.c)∧∃ x4:Sl,hcell H1 t=some (.slice x4.a x4.n x4.c) ∧
  ∀ b H2,Newb H1 (.cells #[.string x] 9) b H2→App Tryz.prog #[27,27] 27 H2 [.slice x4.a x4.n x4.c,.slice (some ⟨b,0,none⟩) 1 1] fun ap H3=>
  (StL t 0 [.slice ap.a ap.n ap.c] H3 fun H4=>(∃ x5:Sl,hcell H4 (Addr.add t 1)=some (.slice x5.a x5.n x5.c) ∧
  ∀ b1 H5,Newb H4 (.cells #[.int .i64 (x3.n:Int)] 3) b1 H5→CallF Tryz.prog 109 #[.slice x5.a x5.n x5.c,.int .i64 y_0,.slice (some ⟨b1,0,none⟩) 1 1] H5 (fun r1 H6=>
  ∃ y:Sl,r1 = .slice y.a y.n y.c∧StL (Addr.add t 1) 0 [.slice y.a y.n y.c] H6 fun H7=>(K (.tuple #[.int .i64 (x3.n:Int),.bool true]) H7)) Z))))) Z
theorem V60_ok {H t x K Z} (h:V60 H t x K Z):CallF Tryz.prog 60 #[.pointer (some t),.string x] H K Z:=
 fnC_sound (aJ:=fun _=>none) (aL:=fun _=>none) (Eq.mp (by kernel_rfl) h)
def V61 (H:Hp) (t:Addr) (K:Value→Hp→Prop) (Z:List PanicEntry→Hp→Prop):Prop:=
 ∀ bT H1,Newb H (.cells #[.pointer (some t)] 102) bT H1→K (.func (.func 110) #[] #[.pointer (some ⟨bT,0,none⟩)]) H1
theorem V61_ok {H t K Z} (h:V61 H t K Z):CallF Tryz.prog 61 #[.pointer (some t)] H K Z:=
 fnC_sound (aJ:=fun _=>none) (aL:=fun _=>none) (Eq.mp (by kernel_rfl) h)
def V110 (H:Hp) (yield:Value) (cap0:Addr) (K:Value→Hp→Prop) (Z:List PanicEntry→Hp→Prop):Prop:=
 ∃ x:Option Addr,hcell H cap0=some (.pointer x)∧nilck x fun ad=>(∃ x1:Sl,hcell H (Addr.add ad 1)=some (.slice x1.a x1.n x1.c) ∧
  CallF Tryz.prog 111 #[.slice x1.a x1.n x1.c] H (fun r H1=>∃ y:Sl,r = .slice y.a y.n y.c∧∃ I:Int →
  Hp→Nat→Prop,(∃ m,I 0 H1 m)∧∀ (t11:Int),∀ H2 m1,I t11 H2 m1→∀ scr:Nat→Value,(((decide (t11 < (y.n:Int)))=true →
  IxA y.a y.n t11 1 fun ad1=>(∃ x2:Int,hcell H2 ad1=some (.int .i64 x2)∧∃ x3:Option Addr,hcell H2 cap0=some (.pointer x3) ∧
  nilck x3 fun ad2=>(∃ x4:Sl,hcell H2 ad2=some (.slice x4.a x4.n x4.c)∧IxA x4.a x4.n x2 1 fun ad3=>
  (∃ x5:ByteArray,hcell H2 ad3=some (.string x5)∧callV Tryz.prog yield [.string x5,.int .i64 x2] H2 (fun r1 H3=>
  ∃ y1:Bool,r1 = .bool y1∧(((!y1)=true→K (.tuple #[]) H3)∧((!y1)=false→(∃ m2,m2 < m1 ∧
  I (w64 (t11+1)) H3 m2)))) Z))))∧((decide (t11 < (y.n:Int)))=false→K (.tuple #[]) H2))) Z)
def aL110:Ann:=(fun k=>if k=1 then some [(11,(.sc (.int .i64)))] else none)
theorem V110_ok {H yield cap0 K Z} (h:V110 H yield cap0 K Z):CallF Tryz.prog 110 #[yield,.pointer (some cap0)] H K Z:=
 fnC_sound (aJ:=fun _=>none) (aL:=aL110) (Eq.mp (by kernel_rfl) h)
def V20 (H:Hp) (l:Sl) (K:Value→Hp→Prop) (Z:List PanicEntry→Hp→Prop):Prop:=
 ∀ b H1,Newb H (.cells #[.slice none 0 0,.slice none 0 0] 105) b H1→∃ I:Int→Hp→Nat→Prop,(∃ m,I 0 H1 m) ∧
  ∀ (t12:Int),∀ H2 m1,I t12 H2 m1→∀ scr:Nat→Value,(((decide (t12 < (l.n:Int)))=true →
  IxA l.a l.n t12 1 fun ad=>(∃ x:ByteArray,hcell H2 ad=some (.string x)∧CallF Tryz.prog 60 #[.pointer (some ⟨b,0,none⟩),.string x] H2 (fun r H3=>
  ∃ (y_0:Int) (y_1:Bool),r = .tuple #[.int .i64 y_0,.bool y_1]∧(∃ m2,m2 < m1∧I (w64 (t12+1)) H3 m2)) Z)) ∧
  ((decide (t12 < (l.n:Int)))=false→∀ bOut H4,Newb H2 (.cells #[.slice none 0 0] 27) bOut H4 →
  CallF Tryz.prog 61 #[.pointer (some ⟨b,0,none⟩)] H4 (fun r1 H5=>∃ y:Value,r1=y∧∀ D H6,Newb H5 (.deferred (some [])) D H6 →
  ∀ l1 H7,Newb H6 (.loop (lrec Tryz.f20 20 9 [.slice l.a l.n l.c,undef,.slice none 0 0,.pointer (some ⟨b,0,none⟩),undef,(scr 5),.pointer (some ⟨bOut,0,none⟩),undef,.agg #[.slice none 0 0,.slice none 0 0],.pointer (some ⟨b,0,none⟩),.slice l.a l.n l.c,.int .i64 (l.n:Int),.int .i64 t12,.bool (decide (t12 < (l.n:Int))),(scr 14),(scr 15),(scr 16),(scr 17),(scr 18),(scr 19),.pointer (some ⟨b,0,none⟩),y,undef,undef,undef,undef,undef,undef,undef] D)) l1 H7 →
  callG Tryz.prog y [.func (.yield l1) #[] #[]] H7 (fun _ H8=>endLoopK l1 H8 fun j H9=>jmpV j (∃ x1:Sl,hcell H9 ⟨bOut,0,none⟩=some (.slice x1.a x1.n x1.c) ∧
  (H9[D]? = some (.deferred (some []))∧∀ H10,H10=H9.setIfInBounds D (.deferred none)→K (.slice x1.a x1.n x1.c) H10)) (False) fun id=>
  False) (fun _ _=>False)) Z))
def aJ20:Ann:=(fun _=>none)
def aL20:Ann:=(fun k=>if k=3 then some [(12,(.sc (.int .i64)))] else none)
theorem V20_ok {H l K Z} (h:V20 H l K Z):CallF Tryz.prog 20 #[.slice l.a l.n l.c] H K Z:=
 fnC_sound (aJ:=aJ20) (aL:=aL20) (Eq.mp (by kernel_rfl) h)
def R20_9 (H11:Hp) (bOut l2:Nat) (y22:ByteArray) (y23:Int) (K:Value→Hp→Prop):Prop:=
 (∃ r2,H11[l2]? = some (.loop r2)∧r2.state = .ready∧∀ H12,H12=H11.setIfInBounds l2 (.loop { r2 with state:=.busy }) →
  ∃ x2:Sl,hcell H12 ⟨bOut,0,none⟩=some (.slice x2.a x2.n x2.c)∧∀ b1 H13,Newb H12 (.cells #[.string y22] 9) b1 H13 →
  App Tryz.prog #[27,27] 27 H13 [.slice x2.a x2.n x2.c,.slice (some ⟨b1,0,none⟩) 1 1] fun ap H14=>
  (StL ⟨bOut,0,none⟩ 0 [.slice ap.a ap.n ap.c] H14 fun H15=>(endR l2 none H15 K)))
theorem R20_9_ok {H11:Hp}{bOut:Nat}{l2:Nat}{y22:ByteArray}{y23:Int}{u0 u1 u2 u3 u4 u5 u7 u8 u9 u10 u11 u12 u13 u14 u15 u16 u17 u18 u19 u20 u21 u22 u23 u24 u25 u26 u27 u28:Value}{K:Value→Hp→Prop}(h:R20_9 H11 bOut l2 y22 y23 K):yldC Tryz.prog aJ20 aL20 Tryz.f20 20 9 l2 [u0,u1,u2,u3,u4,u5,.pointer (some ⟨bOut,0,none⟩),u7,u8,u9,u10,u11,u12,u13,u14,u15,u16,u17,u18,u19,u20,u21,u22,u23,u24,u25,u26,u27,u28] [.string y22,.int .i64 y23] H11 K:=Eq.mp (by kernel_rfl) h
def V10 (H:Hp) (l:Sl) (x:ByteArray) (K:Value→Hp→Prop) (Z:List PanicEntry→Hp→Prop):Prop:=
 ∃ I:Int→Hp→Nat→Prop,(∃ m,I 0 H m)∧∀ (i:Int),∀ H1 m1,I i H1 m1→∀ scr:Nat→Value,(((decide (i < (l.n:Int)))=true →
  IxA l.a l.n i 1 fun ad=>(∃ x1:ByteArray,hcell H1 ad=some (.string x1)∧(((beqS x1 x)=true →
  K (.int .i64 i) H1)∧((beqS x1 x)=false→(∃ m2,m2 < m1∧I (w64 (i+1)) H1 m2)))))∧((decide (i < (l.n:Int)))=false →
  K (.int .i64 (-1)) H1))
def aL10:Ann:=(fun k=>if k=2 then some [(5,(.sc (.int .i64)))] else none)
theorem V10_ok {H l x K Z} (h:V10 H l x K Z):CallF Tryz.prog 10 #[.slice l.a l.n l.c,.string x] H K Z:=
 fnC_sound (aJ:=fun _=>none) (aL:=aL10) (Eq.mp (by kernel_rfl) h)
end Go.Proofs.YtjdhjgfmloaglaaGreatDoor.N05
end
section
namespace Go.Proofs.YtjdhjgfmloaglaaGreatDoor.C05S
open Go Go.V Go.Proofs N05
attribute [local irreducible] Cvt ExtF CallF hrun
abbrev val (x:ByteArray):Value:=.string x
abbrev lt (x y:ByteArray):Bool:=ltS x y
theorem lin:Lin lt:=linS
abbrev Tb:=TbS val lt 9 3
abbrev TbT:=TbTo val lt 9 3
theorem uInts:Tryz.prog.underlying 103=some (.slice 3):=by kernel_rfl
theorem uInt:Tryz.prog.underlying 3=some (.int .i64):=by kernel_rfl
theorem uTs:Tryz.prog.underlying 27=some (.slice 9):=by kernel_rfl
theorem info_of {x:Option TypeInfo}{z:Option Value}{a b:Nat}(h:(x.map fun i=>(i.zero,i.size,i.bytes))=some (z,a,b)):∃ inf:TypeInfo,x=some inf∧inf.zero=z∧inf.size=a∧inf.bytes=b:=by
 cases x with
 | none=>cases h
 | some i=>
  simp only [Option.map_some,Option.some.injEq,Prod.mk.injEq] at h
  exact ⟨i,rfl,h.1,h.2.1,h.2.2⟩
theorem iInt:∃ inf:TypeInfo,Tryz.prog.info? 3=some inf∧inf.zero=some (.int .i64 0)∧inf.size=1∧inf.bytes=8:=info_of (by kernel_rfl)
theorem iE:∃ inf:TypeInfo,Tryz.prog.info? 9=some inf∧inf.zero=some (.string ⟨#[]⟩)∧inf.size=1∧inf.bytes=16:=info_of (by kernel_rfl)
section
variable {H:Hp}{b o:Nat}{T:TypeId}{cs:List Value}{ts:List ByteArray}{os:List Nat}
theorem nan_ok {x:ByteArray}{K:Value→Hp→Prop}{Z:List PanicEntry→Hp→Prop}(k:K (.bool false) H):CallF Tryz.prog 149 #[.string x] H K Z:=by
 refine V149_ok ?_
 unfold V149
 rw [beqS_iff.2 rfl]
 exact k
theorem cmp_ok {x y:ByteArray}{K:Value→Hp→Prop}{Z:List PanicEntry→Hp→Prop}(k:K (.int .i64 (cmpT lt x y)) H):CallF Tryz.prog 102 #[.string x,.string y] H K Z:=by
 refine V102_ok ?_
 unfold V102
 refine nan_ok ⟨_,rfl,nan_ok ⟨_,rfl,(fun h=>by cases h),fun _=>⟨(fun h=>by cases h),fun _=>?_⟩⟩⟩
 unfold cmpT at k
 refine ⟨fun h1=>?_,fun h1=>?_⟩
 ·have h1':lt x y=true:=h1
  rw [if_pos h1'] at k
  exact k
 ·have h1':¬ lt x y=true:=by
   have:lt x y=false:=h1
   rw [this]
   decide
  rw [if_neg h1'] at k
  refine ⟨fun h2=>?_,fun h2=>?_⟩
  ·have h2':lt y x=true:=by
    rcases lin.tot x y with h | h | h
    ·exact absurd h h1'
    ·rw [beqS_iff.2 h,Bool.or_true] at h2
     cases h2
    ·exact h
   rw [if_pos h2'] at k
   exact k
  ·have h2':¬ lt y x=true:=by
    intro h
    have e1:ltS x y=false:=h1
    have e2:beqS x y=false:=by
     cases e:beqS x y with
     | false=>rfl
     | true=>
      rw [beqS_iff.1 e] at h
      rw [lin.irr] at h
      cases h
    rw [e1,e2] at h2
    cases h2
   rw [if_neg h2'] at k
   exact k
theorem okP1:fnOk Tryz.prog 153=true:=by kernel_rfl
theorem place_ok {x:ByteArray}{K:Value→Hp→Prop}{Z:List PanicEntry→Hp→Prop}(h:Tb H b o T cs ts os) (hbig:ts.length≤1000000000)
  (k:∀ p H',Split os.length (cAt lt ts os x) p→Fr no H H'→K (.tuple #[.int .i64 (p:Int),.bool (decide (p < os.length) && (cAt lt ts os x p == 0))]) H'):CallF Tryz.prog 108 #[.pointer (some ⟨b,o,none⟩),.string x] H K Z:=by
 refine V108_ok ?_
 unfold V108
 intro bT A hn
 have hA:Tb A b o T cs ts os:=h.keep (S:=no) hn.fr (fun h=>h) (fun _ _ h=>h)
 obtain ⟨s1,s2,c1,c2,_⟩:=h.rows
 have hT:=hn.get
 have hld:hcell A ⟨bT,0,none⟩=some (.pointer (some ⟨b,o,none⟩)):=by
  unfold hcell
  simp only [hT,Option.isSome_none,Bool.false_eq_true,if_false]
  rfl
 have hb1:hcell A (Addr.add ⟨b,o,none⟩ 1)=some (.slice s2.a s2.n s2.c):=by rw [add_mk,hA.blk.ld];exact c2
 have hb0:hcell A ⟨b,o,none⟩=some (.slice s1.a s1.n s1.c):=by rw [hA.blk.ld];exact c1
 obtain ⟨n1,e1⟩:=hA.thing c1
 obtain ⟨n2,e2⟩:=hA.order c2
 have hlen:=h.ok.len
 have hbs:BsV Tryz.prog A s2 (.string x) (.func (.func 153) #[] #[.pointer (some ⟨bT,0,none⟩)]) (fun r H2=>∃ (y_0:Int) (y_1:Bool),r = .tuple #[.int .i64 y_0,.bool y_1]∧K (.tuple #[.int .i64 y_0,.bool y_1]) H2) Z:=?_
 ·refine ⟨_,hld,s2,hb1,V152_ok ?_⟩
  unfold BsV at hbs
  unfold V152
  exact hbs
 refine bs_ok (xs:=os.map fun (k:Nat)=>(k:Int)) (c:=cAt lt ts os x) (by rw [List.length_map];exact n2) (by omega) ?_ ?_ ?_ ?_
 ·intro i v hv
  rw [List.getElem?_map] at hv
  cases hk:os[i]? with
  | none=>rw [hk] at hv;cases hv
  | some k'=>
   rw [hk] at hv
   simp only [Option.map_some,Option.some.injEq] at hv
   subst hv
   exact e2 i k' hk
 ·intro i v K' hv hK
  rw [List.getElem?_map] at hv
  cases hk:os[i]? with
  | none=>rw [hk] at hv;cases hv
  | some k'=>
   rw [hk] at hv
   simp only [Option.map_some,Option.some.injEq] at hv
   subst hv
   have hk':=h.ok.ltn hk
   have hx:ts[k']? = some ts[k']:=List.getElem?_eq_getElem hk'
   unfold callV
   simp only [okP1,if_true]
   refine V153_ok ?_
   unfold V153
   obtain ⟨ad,ha,hc⟩:=e1 _ _ hx
   refine ⟨_,hld,s1,hb0,ad,ha,⟨by omega,by omega⟩,_,by rw [Int.toNat_natCast];exact hc,?_⟩
   refine cmp_ok ?_
   refine ⟨_,rfl,?_⟩
   rw [cAt_eq hk hx] at hK
   exact hK
 ·intro i j hij hj
  rw [n2] at hj
  exact h.ok.mono lin x i j hij hj
 ·intro p hp
  rw [n2] at hp ⊢
  exact ⟨_,_,rfl,k p A hp hn.fr⟩
theorem ins_call {s:Sl}{xs:List Nat}{i b1 n:Nat}{K:Value→Hp→Prop}{Z:List PanicEntry→Hp→Prop}(hr:Row H 3 1 s (numV xs)) (hnf:Nf H s) (hv:Blk H b1 [.int .i64 (n:Int)] 3) (hne:¬ own s b1) (hin:i≤s.n) (hbig:s.n≤1000000000)
  (k:∀ s' H',Row H' 3 1 s' (numV (xs.take i ++ [n]++xs.drop i))→Nf H' s'→s'.n=s.n+1→Fr (own s) H H'→(∀ j,own s' j→own s j∨H.size≤j)→K (.slice s'.a s'.n s'.c) H') :
  CallF Tryz.prog 109 #[.slice s.a s.n s.c,.int .i64 (i:Int),.slice (some ⟨b1,0,none⟩) 1 1] H K Z:=by
 obtain ⟨inf,i1,i2,i3,i4⟩:=iInt
 have hins:InsV Tryz.prog 103 3 154 155 1 H s (i:Int) ⟨some ⟨b1,0,none⟩,1,1⟩ K Z:=by
  refine ins_ok (f:=Tryz.f154) (inf:=inf) (ps:=#[103,103]) (rs:=#[4]) (z:=.int .i64 0) (by kernel_rfl) (by kernel_rfl) (by kernel_rfl) (by kernel_rfl) (by kernel_rfl) rfl uInts uInt i1 i2 (by rw [i3];rfl) (by rw [i4];decide) i3 (by decide) hr hnf (numV_one _) hv rfl ?_ hne hin (by rw [i4];omega) ?_
  ·intro v hv'
   simp only [List.mem_singleton] at hv'
   subst hv'
   rfl
  ·intro s' H' h1 h2 h3 h4 h5
   refine k s' H' ?_ h2 h3 h4 h5
   rw [Nat.mul_one] at h1
   unfold numV at h1 ⊢
   rw [List.map_append,List.map_append,List.map_take,List.map_drop]
   exact h1
 refine V109_ok (s:=s) (i:=(i:Int)) (v:=⟨some ⟨b1,0,none⟩,1,1⟩) ?_
 unfold InsV at hins
 unfold V109
 exact hins
theorem put_ok {x:ByteArray}{K:Value→Hp→Prop}{Z:List PanicEntry→Hp→Prop}(h:Tb H b o T cs ts os) (hbig:ts.length≤2000000)
  (k1:∀ (n:Nat) H',ts[n]? = some x→TbT H H' b o T cs cs ts os→K (.tuple #[.int .i64 (n:Int),.bool false]) H')
  (k2:∀ H' cs' os',x∉ts→TbT H H' b o T cs cs' (ts ++ [x]) os'→K (.tuple #[.int .i64 (ts.length:Int),.bool true]) H') :
  CallF Tryz.prog 60 #[.pointer (some ⟨b,o,none⟩),.string x] H K Z:=by
 refine V60_ok ?_
 unfold V60
 refine place_ok h (by omega) ?_
 intro p A hp hf
 have hA:Tb A b o T cs ts os:=h.keep hf (fun h=>h) (fun _ _ h=>h)
 have toA:TbT H A b o T cs cs ts os:=TbTo.of_no h hf
 obtain ⟨s1,s2,c1,c2,r1,r2,nf2,ap12⟩:=hA.rows
 obtain ⟨n1,e1⟩:=hA.thing c1
 obtain ⟨n2,e2⟩:=hA.order c2
 have hlen:=h.ok.len
 have hb0:hcell A ⟨b,o,none⟩=some (.slice s1.a s1.n s1.c):=by rw [hA.blk.ld];exact c1
 refine ⟨_,_,rfl,fun hyes=>?_,fun hno=>?_⟩
 ·have hy:p < os.length∧cAt lt ts os x p=0:=by simpa using hyes
  obtain ⟨n,h1,h2⟩:=h.ok.hit lin hy.1 hy.2
  obtain ⟨ad,ha,hc⟩:=e2 _ _ h1
  exact ⟨s2,by rw [add_mk,hA.blk.ld];exact c2,ad,ha,⟨by omega,by omega⟩,_,by rw [Int.toNat_natCast];exact hc,k1 n A h2 toA⟩
 have hmiss:¬ (p < os.length∧cAt lt ts os x p=0):=by
  rintro ⟨h1,h2⟩
  rw [decide_eq_true h1,h2] at hno
  simp at hno
 have hnot:=h.ok.miss lin hp hmiss
 have hput:=h.ok.put lin hp hmiss
 refine ⟨s1,hb0,s1,hb0,?_⟩
 intro bx B hnB
 have bB:Blk B bx [.string x] 9:=hnB.blk
 have eB:=hnB.eq
 have fB:=hnB.fr
 obtain ⟨infE,j1,j2,j3,j4⟩:=iE
 have r1B:=r1.keep fB (fun _ _ h=>h)
 rw [← j3] at r1B
 refine app_row2 uTs (by intro k;rw [uTs];simp) ⟨_,uTs⟩ j1 j2 (by rw [j3];rfl) (by rw [j4];decide) r1B (Src.blk bB (by rw [j3];rfl)) ?_ (by rw [j4];omega) ?_
 ·intro v hv'
  simp only [List.mem_singleton] at hv'
  subst hv'
  rfl
 intro sa C rC nC fC oC _
 rw [j3] at rC
 have hbA:=hA.blk.lt
 have nob1:¬ own s1 b:=fun hc=>hA.nob ((tOwn_iff c1 c2 b).2 (.inl hc))
 have nob2:¬ own s2 b:=fun hc=>hA.nob ((tOwn_iff c1 c2 b).2 (.inr hc))
 have szB:=hnB.size
 have bkC:Blk C b cs T:=fC.blk (fB.blk hA.blk fun h=>h) nob1
 have ho:o < cs.length:=(List.getElem?_eq_some_iff.1 c1).1
 have ho1:o+1 < cs.length:=(List.getElem?_eq_some_iff.1 c2).1
 refine st_blk bkC ho rfl ?_
 intro D bkD fD szD
 have gD2:(cs.set o (.slice sa.a sa.n sa.c))[o+1]? = some (.slice s2.a s2.n s2.c):=by rw [List.getElem?_set_ne (by omega)];exact c2
 refine ⟨s2,by rw [add_mk,bkD.ld];exact gD2,?_⟩
 intro bn E hnE
 have bE:Blk E bn [.int .i64 (s1.n:Int)] 3:=hnE.blk
 have eE:=hnE.eq
 have fE:=hnE.fr
 have sCB:=fC.size
 have lt2:∀ i,own s2 i→i < A.size:=fun i hi=>r2.lt hi
 have lt1:∀ i,own s1 i→i < A.size:=fun i hi=>r1.lt hi
 have ne2:∀ i,own s2 i→¬ own s1 i:=fun i h2 h1=>ap12 i h1 h2
 have r2E:Row E 3 1 s2 (numV os):=(((r2.keep fB (fun _ _ h=>h)).keep fC ne2).keep fD (fun i hi e=>nob2 (e ▸ hi))).keep fE (fun _ _ h=>h)
 have nfE:Nf E s2:=(((nf2.keep fB (fun _ _ h=>h)).keep fC ne2).keep fD (fun i hi e=>nob2 (e ▸ hi))).keep fE (fun _ _ h=>h)
 have ple:p≤s2.n:=by rw [n2];exact hp.le
 refine ins_call (n:=s1.n) r2E nfE bE (fun hc=>by have:=lt2 _ hc;omega) ple (by omega) ?_
 intro sb F rF nfF nF fF oF
 have sED:=fE.size
 have sFE:=fF.size
 have bkE:Blk E b _ T:=fE.blk bkD fun h=>h
 have bkF:Blk F b _ T:=fF.blk bkE nob2
 refine ⟨sb,rfl,?_⟩
 rw [add_mk]
 refine st_blk bkF (by rw [List.length_set];exact ho1) rfl ?_
 intro G bkG fG szG
 have nsa:∀ i,own sa i→own s1 i∨A.size+1≤i:=by
  intro i hi
  rcases oC i hi with h | h
  ·exact .inl h
  ·exact .inr (by omega)
 have nsab:¬ own sa b:=by
  intro hc
  rcases nsa b hc with h | h
  ·exact nob1 h
  ·omega
 have nsa2:∀ i,own sa i→¬ own s2 i:=by
  intro i hi h2
  rcases nsa i hi with h | h
  ·exact ap12 i h h2
  ·have:=lt2 i h2;omega
 have nsbb:¬ own sb b:=by
  intro hc
  rcases oF b hc with h | h
  ·exact nob2 h
  ·omega
 have saltC:∀ i,own sa i→i < C.size:=fun i hi=>rC.lt hi
 have rsG:Row G 9 1 sa (ts.map val ++ [.string x]):=(((rC.keep fD (fun i hi e=>nsab (e ▸ hi))).keep fE (fun _ _ h=>h)).keep fF nsa2).keep fG (fun i hi e=>nsab (e ▸ hi))
 have rbG:Row G 3 1 sb (numV (os.take p ++ [s1.n]++os.drop p)):=rF.keep fG (fun i hi e=>nsbb (e ▸ hi))
 have nbG:Nf G sb:=nfF.keep fG (fun i hi e=>nsbb (e ▸ hi))
 rw [n1] at rbG
 have g1:((cs.set o (.slice sa.a sa.n sa.c)).set (o+1) (.slice sb.a sb.n sb.c))[o]? = some (.slice sa.a sa.n sa.c):=by rw [List.getElem?_set_ne (by omega)];exact List.getElem?_set_self ho
 have g2:((cs.set o (.slice sa.a sa.n sa.c)).set (o+1) (.slice sb.a sb.n sb.c))[o+1]? = some (.slice sb.a sb.n sb.c):=List.getElem?_set_self (by rw [List.length_set];exact ho1)
 have apart:∀ i,own sa i→own sb i→False:=by
  intro i ha hb'
  rcases oF i hb' with h | h
  ·exact nsa2 i ha h
  ·have:=saltC i ha
   have:=fD.size
   omega
 have hS:Tb G b o T ((cs.set o (.slice sa.a sa.n sa.c)).set (o+1) (.slice sb.a sb.n sb.c)) (ts ++ [x]) (os.take p ++ [ts.length]++os.drop p):=by
  refine ⟨bkG,⟨sa,sb,g1,g2,by rw [List.map_append];exact rsG,rbG,nbG,apart⟩,?_,hput⟩
  intro hc
  rcases (tOwn_iff g1 g2 b).1 hc with h | h
  ·exact nsab h
  ·exact nsbb h
 have hk:=k2 G _ _ hnot (toA.trans ⟨hS,by simp,?_,?_,?_⟩)
 ·rw [← n1] at hk
  exact hk
 ·intro i h1 h2
  rw [List.getElem?_set_ne (Ne.symm h2),List.getElem?_set_ne (Ne.symm h1)]
 ·have q0:Fr (fun i=>i=b∨tOwn cs o i) A B:=fB.of_no
  refine ((((q0.step fC ?_).step fD ?_).step (fE.of_no (S:=no)) ?_).step fF ?_).step fG ?_
  ·intro i _ hi;exact .inr ((tOwn_iff c1 c2 i).2 (.inl hi))
  ·intro i _ hi;exact .inl hi
  ·intro i _ hi;exact hi.elim
  ·intro i _ hi;exact .inr ((tOwn_iff c1 c2 i).2 (.inr hi))
  ·intro i _ hi;exact .inl hi
 ·intro i hi
  rcases (tOwn_iff g1 g2 i).1 hi with h | h
  ·rcases nsa i h with h' | h'
   ·exact .inl ((tOwn_iff c1 c2 i).2 (.inl h'))
   ·exact .inr (by omega)
  ·rcases oF i h with h' | h'
   ·exact .inl ((tOwn_iff c1 c2 i).2 (.inr h'))
   ·have:=fD.size
    exact .inr (by omega)
theorem clone_call {s:Sl}{xs:List Nat}{K:Value→Hp→Prop}{Z:List PanicEntry→Hp→Prop}(hr:Row H 3 1 s (numV xs)) (hbig:s.n≤1000000000)
  (k:∀ s' H',Row H' 3 1 s' (numV xs)→s'.n=s.n→Fr no H H'→(∀ i,own s' i→H.size≤i)→K (.slice s'.a s'.n s'.c) H'):CallF Tryz.prog 111 #[.slice s.a s.n s.c] H K Z:=by
 obtain ⟨inf,i1,i2,i3,i4⟩:=iInt
 have hc:CloneV Tryz.prog 103 3 H s K Z:=by
  refine Go.V.clone_ok uInts i1 i2 (by rw [i3];rfl) (by rw [i4];decide) (by rw [i3];exact hr) (numV_one _) (by rw [i4];omega) ?_
  intro s' H' h1 h2 h3 h4 _
  rw [i3] at h1
  exact k s' H' h1 h2 h3 h4
 refine V111_ok ?_
 unfold CloneV at hc
 unfold V111
 exact hc
theorem okR1:fnOk Tryz.prog 110=true:=by kernel_rfl
theorem rising1_ok {bT:Nat}{yield:Value}{S:Nat→Prop}{Inv:Nat→Nat→Hp→Prop}{Fin:Nat→Hp→Prop}{K:Value→Hp→Prop}{Z:List PanicEntry→Hp→Prop}(h:Tb H b o T cs ts os) (hbig:ts.length≤2000000) (hT:Blk H bT [.pointer (some ⟨b,o,none⟩)] 102)
  (hSb:¬ S b) (hSo:∀ i,tOwn cs o i→¬ S i) (hST:¬ S bT) (hS:∀ i,S i→i < H.size) (start:∀ A,Fr no H A→Inv A.size 0 A)
  (step:∀ (m j:Nat) (A:Hp) (k:Nat) (x:ByteArray),os[j]? = some k→ts[k]? = some x→H.size≤m→m≤A.size→Tb A b o T cs ts os→Inv m j A→callV Tryz.prog yield [.string x,.int .i64 (k:Int)] A (fun r B=>∃ y:Bool,r = .bool y∧Fr (fun i=>S i∨m≤i) A B∧(y=true→Inv m (j+1) B)∧(y=false→Fin (j+1) B)) Z)
  (fin1:∀ m A,Inv m os.length A→K (.tuple #[]) A) (fin2:∀ j A,j < os.length→Fin (j+1) A→K (.tuple #[]) A) :
  CallF Tryz.prog 110 #[yield,.pointer (some ⟨bT,0,none⟩)] H K Z:=by
 refine V110_ok ?_
 unfold V110
 obtain ⟨s1,s2,c1,c2,r1,r2,nf,ap⟩:=h.rows
 obtain ⟨n2,e2⟩:=h.order c2
 have hlen:=h.ok.len
 have hb:=h.blk.lt
 have hbT:=hT.lt
 refine ⟨_,hT.ld 0,s2,by rw [add_mk,h.blk.ld];exact c2,?_⟩
 refine clone_call r2 (by omega) ?_
 intro y A rA nA fA oA
 refine ⟨y,rfl,?_⟩
 have hsz:=fA.size
 refine ⟨fun t B m=>∃ j:Nat,t=(j:Int)∧j≤os.length∧m=os.length - j∧Inv A.size j B∧Fr (fun i=>S i∨A.size≤i) A B,⟨_,0,rfl,Nat.zero_le _,rfl,start A fA,Fr.refl _ _⟩,?_⟩
 rintro t B m ⟨j,rfl,hj,rfl,hI,fB⟩ scr
 have fHB:Fr (fun i=>S i∨A.size≤i) H B:=(fA.of_no).trans fB
 have hB:Tb B b o T cs ts os:=h.keep fHB (by rintro (h' | h') <;> first | exact hSb h' | omega) (fun i hi=>by
  rintro (h' | h')
  ·exact hSo i hi h'
  ·have:=h.own_lt hi;omega)
 have hTB:Blk B bT [.pointer (some ⟨b,o,none⟩)] 102:=fHB.blk hT (by
  rintro (h' | h')
  ·exact hST h'
  ·omega)
 have rB:Row B 3 1 y (numV os):=rA.keep fB (fun i hi=>by
  rintro (h' | h')
  ·have:=hS i h';have:=oA i hi;omega
  ·have:=rA.lt hi;omega)
 refine ⟨fun hlt=>?_,fun hge=>?_⟩
 ·have hlt':j < os.length:=by
   have:(j:Int) < (y.n:Int):=of_decide_eq_true hlt
   omega
  obtain ⟨k,x,hk,hx⟩:=h.ok.get hlt'
  obtain ⟨g,hg⟩:=rB.some (by omega)
  have hld:hcell B (Addr.add ⟨g,0,none⟩ (j*1))=some (.int .i64 (k:Int)):=by
   rw [rB.ld hg (j*1) (by unfold numV;rw [List.length_map];omega),Nat.mul_one]
   unfold numV
   rw [List.getElem?_map,hk]
   rfl
  obtain ⟨n1,e1⟩:=hB.thing c1
  obtain ⟨ad,ha,hc⟩:=e1 _ _ hx
  have hkl:=h.ok.ltn hk
  refine ⟨_,hg,⟨by omega,by omega⟩,_,by rw [Int.toNat_natCast];exact hld,_,hTB.ld 0,s1,by rw [hB.blk.ld];exact c1,ad,ha,⟨by omega,by omega⟩,_,by rw [Int.toNat_natCast];exact hc,?_⟩
  refine callV_mono (step A.size j B k x hk hx hsz fB.size hB hI) ?_ fun _ _ h=>h
  rintro r C ⟨y1,rfl,fC,hy1,hy2⟩
  refine ⟨y1,rfl,fun hn=>?_,fun hn=>?_⟩
  ·have hy:y1=false:=by simpa using hn
   exact fin2 j C hlt' (hy2 hy)
  ·have hy:y1=true:=by simpa using hn
   have e:w64 ((j:Int)+1)=((j+1:Nat):Int):=by rw [wrap64 (by omega) (by omega)];omega
   rw [e]
   exact ⟨os.length - (j+1),by omega,j+1,rfl,hlt',rfl,hy1 hy,fB.trans fC⟩
 ·have hge':j=os.length:=by
   have:¬ (j:Int) < (y.n:Int):=of_decide_eq_false hge
   omega
  subst hge'
  exact fin1 _ B hI
theorem tb_nil {A:Hp}{b:Nat}(hb:Blk A b [.slice none 0 0,.slice none 0 0] 105):Tb A b 0 105 [.slice none 0 0,.slice none 0 0] [] []:=by
 refine ⟨hb,⟨⟨none,0,0⟩,⟨none,0,0⟩,rfl,rfl,Row.nil _ _ _,Row.nil _ _ _,?_,?_⟩,?_,Tbl.nil⟩
 ·intro g o e;cases e
 ·rintro i ⟨o,e⟩;cases e
 ·rintro ⟨off,n,c,e | e⟩ <;> simp at e
theorem tOwn_nil {i:Nat}:¬ tOwn [.slice none 0 0,.slice none 0 0] 0 i:=by
 rintro ⟨off,n,c,e | e⟩ <;> simp at e
theorem mem_put {ts xs:List ByteArray}{j:Nat}{x:ByteArray}(hx:xs[j]? = some x) (hm:∀ z,z∈ts↔z∈xs.take j):(x∈ts→∀ z,z∈ts↔z∈xs.take (j+1))∧(∀ z,z∈ts ++ [x]↔z∈xs.take (j+1)):=by
 obtain ⟨hj,rfl⟩:=List.getElem?_eq_some_iff.1 hx
 rw [List.take_succ_eq_append_getElem hj]
 refine ⟨fun h z=>?_,fun z=>?_⟩
 ·rw [List.mem_append,← hm z,List.mem_singleton]
  constructor
  ·exact .inl
  ·rintro (h' | rfl)
   ·exact h'
   ·exact h
 ·rw [List.mem_append,List.mem_append,← hm z]
set_option maxRecDepth 10000 in
theorem sortedN_ok {l:Sl}{xs:List ByteArray}{K:Value→Hp→Prop}{Z:List PanicEntry→Hp→Prop}(h:Els val H l xs) (hbig:xs.length≤2000000)
  (k:∀ s' H' ys,Rising lt ys→(∀ z,z∈ys↔z∈xs)→ys.length≤xs.length→Row H' 9 1 s' (ys.map val)→Fr no H H'→(∀ i,own s' i→H.size≤i)→Nf H' s'→K (.slice s'.a s'.n s'.c) H') :
  CallF Tryz.prog 20 #[.slice l.a l.n l.c] H K Z:=by
 refine V20_ok ?_
 unfold V20
 intro b A hnA
 have bA:=hnA.blk
 have eA:=hnA.eq
 have zA:=hnA.size
 have hl:=h.len
 have tA:=tb_nil bA
 have hno:∀ {B c2 t2 o2},TbT A B b 0 105 [.slice none 0 0,.slice none 0 0] c2 t2 o2→Fr no H B:=by
  intro B c2 t2 o2 hB
  refine hnA.fr.step hB.fr ?_
  rintro i hi (h' | h')
  ·omega
  ·exact (tOwn_nil h').elim
 refine ⟨fun t B m=>∃ (j:Nat) (c2:List Value) (ts:List ByteArray) (os:List Nat),t=(j:Int)∧j≤xs.length∧m=xs.length - j∧ts.length≤j∧(∀ z,z∈ts↔z∈xs.take j)∧TbT A B b 0 105 [.slice none 0 0,.slice none 0 0] c2 ts os,
  ⟨_,0,_,[],[],rfl,Nat.zero_le _,rfl,Nat.le_refl _,by simp,TbTo.refl tA⟩,?_⟩
 rintro t B m ⟨j,c2,ts,os,rfl,hj,rfl,htl,hmem,hB⟩ scr
 have hE:=h.keep (hno hB) (fun _ _ h=>h)
 refine ⟨fun hlt=>?_,fun hge=>?_⟩
 ·have hlt':j < xs.length:=by
   have:(j:Int) < (l.n:Int):=of_decide_eq_true hlt
   omega
  have hx:xs[j]? = some xs[j]:=List.getElem?_eq_getElem hlt'
  obtain ⟨ad,ha,hc⟩:=hE.el _ _ hx
  obtain ⟨m1,m2⟩:=mem_put hx hmem
  have e:w64 ((j:Int)+1)=((j+1:Nat):Int):=by rw [wrap64 (by omega) (by omega)];omega
  rw [e]
  refine ⟨ad,ha,⟨by omega,by omega⟩,_,by rw [Int.toNat_natCast];exact hc,?_⟩
  refine put_ok hB.st (by omega) ?_ ?_
  ·intro n C hn hC
   exact ⟨_,_,rfl,xs.length - (j+1),by omega,j+1,c2,ts,os,rfl,hlt',rfl,by omega,m1 (List.mem_of_getElem? hn),hB.trans hC⟩
  ·intro C c3 os' hn hC
   exact ⟨_,_,rfl,xs.length - (j+1),by omega,j+1,c3,_,os',rfl,hlt',rfl,by rw [List.length_append,List.length_singleton];omega,m2,hB.trans hC⟩
 ·have hge':j=xs.length:=by
   have:¬ (j:Int) < (l.n:Int):=of_decide_eq_false hge
   omega
  subst hge'
  rw [List.take_length] at hmem
  intro bOut C hnC
  have eC:=hnC.eq
  have zC:=hnC.size
  refine V61_ok ?_
  unfold V61
  intro bT D0 hnT
  have eT:=hnT.eq
  have zT:=hnT.size
  refine ⟨_,rfl,?_⟩
  intro D E0 hnD l1 F hnL
  have eD:=hnD.eq
  have zD:=hnD.size
  have eL:=hnL.eq
  have zL:=hnL.size
  have fBF:Fr no B F:=((hnC.fr.trans hnT.fr).trans hnD.fr).trans hnL.fr
  have hTF:Blk F bT [.pointer (some ⟨b,0,none⟩)] 102:=hnL.fr.blk (hnD.fr.blk hnT.blk fun h=>h) fun h=>h
  have hOF:Blk F bOut [.slice none 0 0] 27:=hnL.fr.blk (hnD.fr.blk (hnT.fr.blk hnC.blk fun h=>h) fun h=>h) fun h=>h
  have hDF:F[D]? = some (.deferred (some [])):=hnL.fr.at hnD.get fun h=>h
  have hLF:=hnL.get
  obtain ⟨ps,asg,body,hlr⟩:=lrec_eq (f:=Tryz.f20) (n:=9) (by kernel_rfl)
  rw [hlr] at hLF
  obtain ⟨tmps,hLF,hy⟩:∃ tmps:List Value,F[l1]? = some (.loop ⟨.ready,none,20,tmps.toArray,ps,asg,body,D⟩)∧∀ (X:Hp) (x:ByteArray) (n:Int) (K':Value→Hp→Prop),R20_9 X bOut l1 x n K'→yldC Tryz.prog aJ20 aL20 Tryz.f20 20 9 l1 tmps [.string x,.int .i64 n] X K':=⟨_,hLF,fun X x n K' h=>R20_9_ok h⟩
  have hbB:=hB.st.blk.lt
  have tF:Tb F b 0 105 c2 ts os:=hB.st.keep fBF (fun h=>h) (fun _ _ h=>h)
  have hlen:=hB.st.ok.len
  obtain ⟨infE,j1,j2,j3,j4⟩:=iE
  unfold callG
  simp only [okR1,if_true]
  refine rising1_ok (S:=fun i=>i=bOut∨i=l1) (Fin:=fun _ _=>False)
   (Inv:=fun m j X=>F.size≤m∧X[l1]? = some (.loop ⟨.ready,none,20,tmps.toArray,ps,asg,body,D⟩)∧X[D]? = some (.deferred (some []))∧Fr no B X∧∃ so:Sl,Blk X bOut [.slice so.a so.n so.c] 27∧Row X 9 1 so ((riseL ts (os.take j)).map val)∧(∀ i,own so i→m≤i)∧Nf X so)
   tF (by omega) hTF (by omega) (fun i hi=>by have:=hB.st.own_lt hi;omega) (by omega) (by omega) ?_ ?_ ?_ ?_
  ·intro X fX
   exact ⟨fX.size,fX.at hLF fun h=>h,fX.at hDF fun h=>h,fBF.trans fX,⟨none,0,0⟩,fX.blk hOF fun h=>h,Row.nil _ _ _,(by rintro i ⟨o,e⟩;cases e),(by intro g o e;cases e)⟩
  ·rintro m j X k' x hk hx hmF hmX hTb ⟨hFm,hL,hD,hBX,so,hO,rO,oO,nO⟩
   have hjl:j < os.length:=(List.getElem?_eq_some_iff.1 hk).1
   have hrl:=hB.st.ok.rise_len (j:=j) (by omega)
   unfold callV
   simp only [List.nil_append]
   refine yldC_sound hL rfl rfl (by rw [hlr]) (by rw [hlr]) (by rw [hlr]) (hy _ _ _ _ ?_)
   unfold R20_9
   refine ⟨_,hL,rfl,?_⟩
   intro X1 hX1
   obtain ⟨f1,g1,z1⟩:=setB hL hX1
   have hO1:Blk X1 bOut [.slice so.a so.n so.c] 27:=f1.blk hO (by omega)
   refine ⟨so,hO1.ld 0,?_⟩
   intro b1 X2 hn2
   have e2:=hn2.eq
   have z2:=hn2.size
   have rO1:Row X1 9 1 so ((riseL ts (os.take j)).map val):=rO.keep f1 (fun i hi e=>by have:=oO i hi;omega)
   have rO2:=rO1.keep hn2.fr (fun _ _ h=>h)
   rw [← j3] at rO2
   have hson:so.n=j:=by
    have:=rO.1
    rw [List.length_map,hrl,Nat.mul_one] at this
    exact this.symm
   have bb1:Blk X2 b1 [.string x] 9:=hn2.blk
   refine app_row2 uTs (by intro k;rw [uTs];simp) ⟨_,uTs⟩ j1 j2 (by rw [j3];rfl) (by rw [j4];decide) rO2 (Src.blk bb1 (by rw [j3];rfl)) ?_ (by rw [j4];omega) ?_
   ·intro v hv'
    simp only [List.mem_singleton] at hv'
    subst hv'
    rfl
   intro sp X3 r3 n3 f3 o3 nf3
   rw [j3] at r3
   have hsob:¬ own so bOut:=fun hc=>by have:=oO _ hc;omega
   have hO3:Blk X3 bOut [.slice so.a so.n so.c] 27:=f3.blk (hn2.fr.blk hO1 fun h=>h) hsob
   refine st_blk hO3 (by simp) rfl ?_
   intro X4 hO4 f4 z4
   have z3:=f3.size
   have hL4:X4[l1]? = some (.loop _):=f4.at (f3.at (hn2.fr.at g1 fun h=>h) (fun hc=>by have:=oO _ hc;omega)) (by omega)
   refine ⟨_,hL4,?_⟩
   intro X5 hX5
   obtain ⟨f5,g5,z5⟩:=setB hL4 hX5
   have hspb:¬ own sp bOut:=by
    intro hc
    rcases o3 _ hc with h' | h'
    ·exact hsob h'
    ·omega
   have hspm:∀ i,own sp i→m≤i:=by
    intro i hi
    rcases o3 _ hi with h' | h'
    ·exact oO i h'
    ·omega
   have hD5:X5[D]? = some (.deferred (some [])):=f5.at (f4.at (f3.at (hn2.fr.at (f1.at hD (by omega)) fun h=>h) (fun hc=>by have:=oO _ hc;omega)) (by omega)) (by omega)
   have hO5:Blk X5 bOut [.slice sp.a sp.n sp.c] 27:=f5.blk hO4 (by omega)
   have r5:Row X5 9 1 sp ((riseL ts (os.take (j+1))).map val):=by
    rw [rise_succ hk hx,List.map_append]
    exact (r3.keep f4 (fun i hi e=>hspb (e ▸ hi))).keep f5 (fun i hi e=>by have:=hspm i hi;omega)
   have fB5:Fr no B X5:=by
    refine ((((hBX.step f1 ?_).step hn2.fr (fun _ _ h=>h)).step f3 ?_).step f4 ?_).step f5 ?_
    ·intro i hi e;omega
    ·intro i hi hc;have:=oO i hc;omega
    ·intro i hi e;omega
    ·intro i hi e;omega
   have nf5:Nf X5 sp:=((nf3 ((nO.keep f1 (fun i hi e=>by have:=oO i hi;omega)).keep hn2.fr fun _ _ h=>h)).keep f4 (fun i hi e=>hspb (e ▸ hi))).keep f5 (fun i hi e=>by have:=hspm i hi;omega)
   refine ⟨true,rfl,?_,fun _=>⟨hFm,g5,hD5,fB5,sp,hO5,r5,hspm,nf5⟩,fun h=>by cases h⟩
   have q:Fr (fun i=>(i=bOut∨i=l1)∨m≤i) X X1:=f1.mono fun i _ e=>.inl (.inr e)
   refine (((q.step hn2.fr (fun _ _ h=>h.elim)).step f3 ?_).step f4 ?_).step f5 ?_
   ·intro i _ hc;exact .inr (oO i hc)
   ·intro i _ e;exact .inl (.inl e)
   ·intro i _ e;exact .inl (.inr e)
  ·rintro m X ⟨hFm,hL,hD,hBX,so,hO,rO,oO,nO⟩
   refine ⟨_,hL,rfl,?_⟩
   intro X1 hX1
   obtain ⟨f1,g1,z1⟩:=setB hL hX1
   refine ⟨so,(f1.blk hO (by omega)).ld 0,f1.at hD (by omega),?_⟩
   intro X2 hX2
   obtain ⟨f2,g2,z2⟩:=setB (f1.at hD (by omega)) hX2
   rw [List.take_length] at rO
   have hfr:Fr no H X2:=by
    refine (((hno hB).trans hBX).step f1 ?_).step f2 ?_
    ·intro i hi e
     have:=(hno hB).size
     omega
    ·intro i hi e
     have:=(hno hB).size
     omega
   have hrl:=hB.st.ok.rise_len (j:=os.length) (Nat.le_refl _)
   rw [List.take_length] at hrl
   refine k so X2 (riseL ts os) hB.st.ok.rising (fun z=>(hB.st.ok.rise_mem z).trans (hmem z)) (by omega) ?_ hfr ?_ ?_
   ·exact (rO.keep f1 (fun i hi e=>by have:=oO i hi;omega)).keep f2 (fun i hi e=>by have:=oO i hi;omega)
   ·intro i hi
    have:=oO i hi
    have:=(hno hB).size
    have:=fBF.size
    omega
   ·exact (nO.keep f1 (fun i hi e=>by have:=oO i hi;omega)).keep f2 (fun i hi e=>by have:=oO i hi;omega)
  ·intro j X _ h
   exact h.elim
end
end Go.Proofs.YtjdhjgfmloaglaaGreatDoor.C05S
end
section
namespace Go.Proofs.YtjdhjgfmloaglaaGreatDoor.Q05
open Go Go.V Go.Proofs N05 C05S
attribute [local irreducible] Cvt ExtF CallF hrun
section
variable {H:Hp}
theorem number_ok {l:Sl}{xs:List ByteArray}{x:ByteArray}{K:Value→Hp→Prop}{Z:List PanicEntry→Hp→Prop}(h:Els val H l xs) (hbig:xs.length≤1000000000)
  (k1:∀ i:Nat,xs[i]? = some x→(∀ j,j < i→xs[j]?≠some x)→K (.int .i64 (i:Int)) H) (k2:x∉xs→K (.int .i64 (-1)) H):CallF Tryz.prog 10 #[.slice l.a l.n l.c,.string x] H K Z:=by
 refine V10_ok ?_
 unfold V10
 have hl:=h.len
 refine ⟨fun i A m=>∃ j:Nat,A=H∧i=(j:Int)∧j≤xs.length∧m=xs.length - j∧∀ t,t < j→xs[t]?≠some x,⟨_,0,rfl,rfl,Nat.zero_le _,rfl,by omega⟩,?_⟩
 rintro i A m ⟨j,rfl,rfl,hj,rfl,hno⟩ scr
 refine ⟨fun hlt=>?_,fun hge=>?_⟩
 ·have hlt':j < xs.length:=by
   have:(j:Int) < (l.n:Int):=of_decide_eq_true hlt
   omega
  have hx:xs[j]? = some xs[j]:=List.getElem?_eq_getElem hlt'
  obtain ⟨ad,ha,hc⟩:=h.el _ _ hx
  refine ⟨ad,ha,⟨by omega,by omega⟩,_,by rw [Int.toNat_natCast];exact hc,fun he=>?_,fun he=>?_⟩
  ·have he':=beqS_iff.1 he
   exact k1 j (by rw [hx,he']) hno
  ·have he':¬ xs[j]=x:=by
    intro e
    rw [beqS_iff.2 e] at he
    cases he
   have e:w64 ((j:Int)+1)=((j+1:Nat):Int):=by rw [wrap64 (by omega) (by omega)];omega
   rw [e]
   refine ⟨xs.length - (j+1),by omega,j+1,rfl,rfl,hlt',rfl,?_⟩
   intro t ht
   rcases Nat.lt_or_eq_of_le (Nat.le_of_lt_succ ht) with h' | rfl
   ·exact hno t h'
   ·rw [hx]
    intro e
    exact he' (Option.some.inj e)
 ·have hge':j=xs.length:=by
   have:¬ (j:Int) < (l.n:Int):=of_decide_eq_false hge
   omega
  subst hge'
  refine k2 ?_
  intro hm
  obtain ⟨t,ht⟩:=List.getElem?_of_mem hm
  exact hno t (List.getElem?_eq_some_iff.1 ht).1 ht
end
end Go.Proofs.YtjdhjgfmloaglaaGreatDoor.Q05
end
section
namespace Go.Proofs.YtjdhjgfmloaglaaGreatDoor.C15
open Go Go.V Go.Proofs N15 P14 C14 P15
attribute [local irreducible] Cvt ExtF CallF hrun App MkS callV
theorem eqI {a b:Int}:((a == b)=true)↔a=b:=by rw [beq_iff_eq]
theorem neI {a b:Int}:((a == b)=false)↔a≠b:=by rw [beq_eq_false_iff_ne]
section
variable {H:Hp}{K:Value→Hp→Prop}{Z:List PanicEntry→Hp→Prop}{l:L8}
theorem node_ok (hl:l.length≤1048576) (ht:Pw H) (k:∀ H',Fr no H H'→K (.bool (nodeB l)) H'):CallF Tryz.prog 32 #[.string (str l)] H K Z:=by
 refine V32_ok ?_
 unfold V32
 refine readX_ok hl ht fun A fA=>⟨_,_,_,_,_,_,_,rfl,?_⟩
 intro bN B hB
 have sB:=(Sym.start A).newb (cs:=[.int .i64 0,.string ⟨#[]⟩,.int .i64 0,.string ⟨#[]⟩,.int .i64 0,.int .i64 0]) hB
 refine sB.stbs (k:=0) (i:=0) (vs:=ndV (rres (readN l)).1) rfl (by simp [ndV]) (ndV_one _) fun C sC=>?_
 have kk:=k C (fA.trans sC.frno)
 unfold nodeB rd at kk
 refine ⟨fun h0=>⟨_,sC.ld (k:=0) rfl 0,fun h1=>?_,fun h1=>⟨_,sC.ld (k:=0) rfl 5,?_⟩⟩,fun h0=>?_⟩
 ·rw [decide_eq_true ⟨eqI.1 h0,.inl (of_decide_eq_true h1)⟩] at kk
  exact kk
 ·have e:decide ((rres (readN l)).2=0∧((rres (readN l)).1.kind≤3∨(rres (readN l)).1.cell≥0))=decide ((rres (readN l)).1.cell≥0):=by
   rw [Bool.eq_iff_iff,decide_eq_true_eq,decide_eq_true_eq]
   have:=of_decide_eq_false h1
   constructor
   ·rintro ⟨_,h | h⟩
    ·exact absurd h this
    ·exact h
   ·exact fun h=>⟨eqI.1 h0,.inr h⟩
  rw [e] at kk
  exact kk
 ·rw [decide_eq_false (fun h=>neI.1 h0 h.1)] at kk
  exact kk
theorem place_ok (hl:l.length≤1048576) (ht:Pw H) (k:∀ H',Fr no H H'→K (.bool (placeB l)) H'):CallF Tryz.prog 103 #[.string (str l)] H K Z:=by
 refine V103_ok ?_
 unfold V103
 refine readX_ok hl ht fun A fA=>⟨_,_,_,_,_,_,_,rfl,?_⟩
 intro bN B hB
 have sB:=(Sym.start A).newb (cs:=[.int .i64 0,.string ⟨#[]⟩,.int .i64 0,.string ⟨#[]⟩,.int .i64 0,.int .i64 0]) hB
 refine sB.stbs (k:=0) (i:=0) (vs:=ndV (rres (readN l)).1) rfl (by simp [ndV]) (ndV_one _) fun C sC=>?_
 have kk:=k C (fA.trans sC.frno)
 unfold placeB rd at kk
 refine ⟨fun h0=>⟨_,sC.ld (k:=0) rfl 0,fun h1=>?_,fun h1=>⟨_,sC.ld (k:=0) rfl 5,?_⟩⟩,fun h0=>?_⟩
 ·rw [decide_eq_true ⟨eqI.1 h0,.inl (eqI.1 h1)⟩] at kk
  exact kk
 ·have e:decide ((rres (readN l)).2=0∧((rres (readN l)).1.kind=4∨(rres (readN l)).1.cell≥0))=decide ((rres (readN l)).1.cell≥0):=by
   rw [Bool.eq_iff_iff,decide_eq_true_eq,decide_eq_true_eq]
   have:=neI.1 h1
   constructor
   ·rintro ⟨_,h | h⟩
    ·exact absurd h this
    ·exact h
   ·exact fun h=>⟨eqI.1 h0,.inr h⟩
  rw [e] at kk
  exact kk
 ·rw [decide_eq_false (fun h=>neI.1 h0 h.1)] at kk
  exact kk
theorem cmpN_ok {a b:Int}(k:K (.int .i64 (cmpN a b)) H):CallF Tryz.prog 106 #[.int .i64 a,.int .i64 b] H K Z:=by
 have nn:∀ {x:Int}{Kx:Value→Hp→Prop},Kx (.bool false) H→CallF Tryz.prog 151 #[.int .i64 x] H Kx Z:=by
  intro x Kx kx
  refine V151_ok ?_
  unfold V151
  rw [show (x != x)=false from by simp]
  exact kx
 refine V106_ok ?_
 unfold V106
 refine nn ⟨_,rfl,nn ⟨_,rfl,(fun h=>by cases h),fun _=>⟨(fun h=>by cases h),fun _=>⟨fun h1=>?_,fun h1=>⟨fun h2=>?_,fun h2=>?_⟩⟩⟩⟩⟩
 ·unfold cmpN at k
  rw [if_pos (of_decide_eq_true h1)] at k
  exact k
 ·unfold cmpN at k
  rw [if_neg (of_decide_eq_false h1),if_pos (of_decide_eq_true h2)] at k
  exact k
 ·unfold cmpN at k
  rw [if_neg (of_decide_eq_false h1),if_neg (of_decide_eq_false h2)] at k
  exact k
theorem cmpL_ok {a b:L8}(k:K (.int .i64 (cmpL a b)) H):CallF Tryz.prog 102 #[.string (str a),.string (str b)] H K Z:=by
 refine C05S.cmp_ok ?_
 have e:cmpT C05S.lt (str a) (str b)=cmpL a b:=by
  unfold cmpT cmpL
  have e1:C05S.lt (str a) (str b)=ltL a b:=lt_strL a b
  have e2:C05S.lt (str b) (str a)=ltL b a:=lt_strL b a
  rw [e1,e2]
 rw [e]
 exact k
theorem cmpA_ok {s t:Sl}{xs ys:List L8}(h1:Rd flL 1 H s xs) (h2:Rd flL 1 H t ys) (hb:xs.length≤1048576) (k:K (.int .i64 (cmpA xs ys)) H):CallF Tryz.prog 107 #[.slice s.a s.n s.c,.slice t.a t.n t.c] H K Z:=by
 refine V107_ok ?_
 unfold V107
 have l1:=h1.len
 have l2:=h2.len
 refine ⟨fun i A m=>∃ j:Nat,A=H∧i=(j:Int)∧j≤xs.length∧m=xs.length - j∧cmpA xs ys=cmpA (xs.drop j) (ys.drop j)∧j≤ys.length,⟨_,0,rfl,rfl,Nat.zero_le _,rfl,rfl,Nat.zero_le _⟩,?_⟩
 rintro i A m ⟨j,rfl,rfl,hj,rfl,he,hjy⟩ scr
 refine ⟨fun hlt=>?_,fun hge=>?_⟩
 ·have hj':j < xs.length:=by have:=dlt hlt;omega
  have hx:xs[j]? = some xs[j]:=List.getElem?_eq_getElem hj'
  have hd:xs.drop j=xs[j]::xs.drop (j+1):=List.drop_eq_getElem_cons hj'
  generalize xs[j]=x at hx hd
  refine atL h1 hx fun ad e=>⟨_,e,fun hge=>?_,fun hlt2=>?_⟩
  ·have:ys.drop j = []:=List.drop_of_length_le (by have:=of_decide_eq_true hge;omega)
   rw [he,hd,this] at k
   exact k
  ·have hy':j < ys.length:=by have:=of_decide_eq_false hlt2;omega
   have hy:ys[j]? = some ys[j]:=List.getElem?_eq_getElem hy'
   have hdy:ys.drop j=ys[j]::ys.drop (j+1):=List.drop_eq_getElem_cons hy'
   generalize ys[j]=y at hy hdy
   rw [hd,hdy,cmpA] at he
   refine atL h2 hy fun ad' e'=>⟨_,e',cmpL_ok ⟨_,rfl,fun hne=>?_,fun heq=>?_⟩⟩
   ·have hne':cmpL x y≠0:=by simpa using hne
    rw [if_pos hne'] at he
    rw [he] at k
    exact k
   ·have heq':cmpL x y=0:=by simpa using heq
    rw [if_neg (fun h=>h heq')] at he
    exact ⟨xs.length - (j+1),by omega,j+1,rfl,wi (by omega),hj',rfl,he,hy'⟩
 ·have hj':xs.length≤j:=by have:=dge hge;omega
  rw [List.drop_of_length_le hj'] at he
  refine ⟨fun h=>?_,fun h=>?_⟩
  ·have hlt:xs.length < ys.length:=by have:=dlt h;omega
   have hy':j < ys.length:=by omega
   rw [List.drop_eq_getElem_cons hy'] at he
   rw [he] at k
   exact k
  ·have:ys.length≤j:=by have:=dge h;omega
   rw [List.drop_of_length_le this] at he
   rw [he] at k
   exact k
def firstNZ:List Int→Int
 | []=>0
 | x::l=>if x≠0 then x else firstNZ l
theorem or_ok {s:Sl}{xs:List Int}(h:Rd flI 1 H s xs) (hb:xs.length≤1048576) (k:K (.int .i64 (firstNZ xs)) H):CallF Tryz.prog 105 #[.slice s.a s.n s.c] H K Z:=by
 refine V105_ok ?_
 unfold V105
 have hn:=h.len
 refine ⟨fun i A m=>∃ j:Nat,A=H∧i=(j:Int)∧j≤xs.length∧m=xs.length - j∧firstNZ xs=firstNZ (xs.drop j),⟨_,0,rfl,rfl,Nat.zero_le _,rfl,rfl⟩,?_⟩
 rintro i A m ⟨j,rfl,rfl,hj,rfl,he⟩ scr
 refine ⟨fun hlt=>?_,fun hge=>?_⟩
 ·have hj':j < xs.length:=by have:=dlt hlt;omega
  have hx:xs[j]? = some xs[j]:=List.getElem?_eq_getElem hj'
  have hd:xs.drop j=xs[j]::xs.drop (j+1):=List.drop_eq_getElem_cons hj'
  generalize xs[j]=x at hx hd
  rw [hd,firstNZ] at he
  refine h.ixn FlI hx fun ad e=>⟨_,e,fun hne=>?_,fun heq=>?_⟩
  ·have hne':x≠0:=by simpa using hne
   rw [if_pos hne'] at he
   rw [he] at k
   exact k
  ·have heq':x=0:=by simpa using heq
   rw [if_neg (fun h=>h heq')] at he
   exact ⟨xs.length - (j+1),by omega,j+1,rfl,wi (by omega),hj',rfl,he⟩
 ·have hj':xs.length≤j:=by have:=dge hge;omega
  rw [List.drop_of_length_le hj'] at he
  rw [he] at k
  exact k
theorem trim_nil:Lib.trimS l [105,112] = []↔ip l=true:=by
 have hc:∀ b:UInt8,[105,112].contains b=(b == 105 || b == 112):=fun b=>by
  rw [Bool.eq_iff_iff]
  simp
 have hd:∀ {m:L8},m.dropWhile (fun b=>([105,112]:L8).contains b) = []↔∀ b∈m,(b == 105 || b == 112)=true:=by
  intro m
  induction m with
  | nil=>simp
  | cons a m ih=>
   rw [List.dropWhile_cons]
   cases h:([105,112]:L8).contains a with
   | true=>
    rw [hc] at h
    simp only [if_true,List.mem_cons,forall_eq_or_imp]
    exact ⟨fun k=>⟨h,ih.1 k⟩,fun k=>ih.2 k.2⟩
   | false=>
    rw [hc] at h
    simp only [Bool.false_eq_true,if_false,List.mem_cons,forall_eq_or_imp]
    exact ⟨fun k=>(List.cons_ne_nil _ _ k).elim,fun k=>by rw [h] at k;exact absurd k.1 (by decide)⟩
 unfold Lib.trimS Lib.trimLeftS Lib.trimRightS ip
 rw [hd,List.all_eq_true]
 constructor
 ·intro h b hb
  have e:l=(l.reverse.dropWhile fun b=>([105,112]:L8).contains b).reverse++(l.reverse.takeWhile fun b=>([105,112]:L8).contains b).reverse:=by
   rw [← List.reverse_append,List.takeWhile_append_dropWhile,List.reverse_reverse]
  rw [e] at hb
  rcases List.mem_append.1 hb with hb | hb
  ·exact h b hb
  ·rw [List.mem_reverse] at hb
   have:=List.all_eq_true.1 (List.all_takeWhile (p:=fun b=>([105,112]:L8).contains b) (l:=l.reverse)) b hb
   rw [hc] at this
   exact this
 ·intro h b hb
  rw [List.mem_reverse] at hb
  exact h b (List.mem_reverse.1 ((List.dropWhile_sublist _).mem hb))
theorem kinds_ok {most:Nat}(hl:l.length≤1048576) (hm:most≤1000) (k:∀ H',Fr no H H'→K (.bool (kindsB l most)) H'):CallF Tryz.prog 99 #[.string (str l),.int .i64 (most:Int)] H K Z:=by
 refine V99_ok ?_
 unfold V99
 refine callF_below (v:=.string (str (Lib.trimS l [105,112]))) ?_ fun H' hf=>⟨_,rfl,?_⟩
 ·intro w hw
  have:=Any.strings_Trim_laid S01.lays_trim (by kernel_rfl) (str l) (str [105,112]) w (by rw [str_size];omega) (by decide) (by
   intro j b hb
   rw [str_data] at hb
   have hm:=List.mem_of_getElem? hb
   simp only [List.mem_cons,List.not_mem_nil,or_false] at hm
   rcases hm with rfl | rfl <;> decide)
  rw [str_data,str_data] at this
  exact this
 have kk:=k H' hf
 unfold kindsB at kk
 rw [str_nil,beq_str,str_size]
 refine ⟨fun h=>?_,fun h=>?_⟩
 ·have:ip l=true:=trim_nil.1 (of_decide_eq_true h)
  rw [this,Bool.true_and] at kk
  have e:decide ((l.length:Int)≤(most:Int))=decide (l.length≤most):=by
   rw [Bool.eq_iff_iff,decide_eq_true_eq,decide_eq_true_eq];omega
  rw [e]
  exact kk
 ·have:ip l=false:=by
   cases hi:ip l with
   | false=>rfl
   | true=>exact absurd (trim_nil.2 hi) (of_decide_eq_false h)
  rw [this,Bool.false_and] at kk
  exact kk
theorem tag_ok (k:K (.bool (tagB l)) H):CallF Tryz.prog 100 #[.string (str l)] H K Z:=by
 refine V100_ok ?_
 unfold V100
 rw [str_nil,beq_str,str_size]
 unfold tagB at k
 refine ⟨fun h=>?_,fun h=>?_⟩
 ·have hne:l ≠ []:=by simpa using h
  have:=List.length_pos_iff.2 hne
  have e:decide ((l.length:Int)≤60)=decide (1≤l.length∧l.length≤60):=by
   rw [Bool.eq_iff_iff,decide_eq_true_eq,decide_eq_true_eq];omega
  rw [e]
  exact k
 ·have:l = []:=by simpa using h
  subst this
  exact k
end
end Go.Proofs.YtjdhjgfmloaglaaGreatDoor.C15
end
section
namespace Go.Proofs.YtjdhjgfmloaglaaGreatDoor.C15
open Go Go.V Go.Proofs N15 P14 C14 P15
attribute [local irreducible] Cvt ExtF CallF hrun App MkS callV
abbrev cL (x:ConD) (t:Sl):List Value:=[.int .i64 x.op,.string (str x.a),.string (str x.b),.int .i64 x.k,.string (str x.tag),.slice t.a t.n t.c]
abbrev cA (x:ConD) (t:Sl):Value:=.agg #[.int .i64 x.op,.string (str x.a),.string (str x.b),.int .i64 x.k,.string (str x.tag),.slice t.a t.n t.c]
abbrev oL (x:ObjD) (t:Sl):List Value:=[.string (str x.name),.string (str x.kinds),.slice t.a t.n t.c]
abbrev oA (x:ObjD) (t:Sl):Value:=.agg #[.string (str x.name),.string (str x.kinds),.slice t.a t.n t.c]
abbrev fL (x:FnD):List Value:=[.string (str x.name),.string (str x.kinds),.string (str x.ret)]
abbrev fA (x:FnD):Value:=.agg #[.string (str x.name),.string (str x.kinds),.string (str x.ret)]
theorem mkEq (a b:Mk):((a.1 == b.1) && ((str a.2 == str b.2) && true))=decide (a=b):=by
 rw [beq_str',Bool.and_true,Bool.eq_iff_iff,Bool.and_eq_true,beq_iff_eq,decide_eq_true_eq,decide_eq_true_eq]
 exact ⟨fun h=>Prod.ext h.1 h.2,fun h=>by rw [h];exact ⟨rfl,rfl⟩⟩
theorem take_no {α : Type}{xs:List α}{j:Nat}{x y : α}(hx:xs[j]? = some x) (h:y∉xs.take j) (hne:y≠x):y∉xs.take (j+1):=by
 obtain ⟨hj,rfl⟩:=List.getElem?_eq_some_iff.1 hx
 rw [List.take_succ_eq_append_getElem hj,List.mem_append,List.mem_singleton]
 rintro (h' | h')
 ·exact h h'
 ·exact hne h'
theorem cutL_len (l:L8):(cutL l).length≤l.length:=(List.takeWhile_sublist _).length_le
section
variable {H:Hp}{K:Value→Hp→Prop}{Z:List PanicEntry→Hp→Prop}{l:L8}
theorem ixM_ok {s:Sl}{xs:List Mk}{m:Mk}(h:Rd flM 2 H s xs) (hb:xs.length≤1048576) (k:∀ y H',Fr no H H'→decide (y≥0)=decide (m∈xs)→K (.int .i64 y) H'):CallF Tryz.prog 148 #[.slice s.a s.n s.c,.agg #[.int .i64 m.1,.string (str m.2)]] H K Z:=by
 refine V148_ok ?_
 unfold V148
 intro bV A hA
 have sA:=(Sym.start H).newb (cs:=[.int .i64 m.1,.string (str m.2)]) hA
 have hn:=h.len
 refine ⟨fun i C p=>∃ j:Nat,C=A∧i=(j:Int)∧j≤xs.length∧p=xs.length - j∧m∉xs.take j,⟨_,0,rfl,rfl,Nat.zero_le _,rfl,by simp⟩,?_⟩
 rintro i C p ⟨j,rfl,rfl,hj,rfl,hno⟩ scr
 refine ⟨fun hlt=>?_,fun hge=>?_⟩
 ·have hj':j < xs.length:=by have:=dlt hlt;omega
  obtain ⟨y,hy,hym⟩:=getN hj'
  refine ⟨_,_,⟨sA.ld (k:=0) rfl 0,sA.ld (k:=0) rfl 1,trivial⟩,atM (h.more sA.fr) hy fun ad e1 e2=>⟨_,_,⟨e1,e2,trivial⟩,fun he=>?_,fun he=>?_⟩⟩
  ·rw [mkEq] at he
   have he:=of_decide_eq_true he
   refine k _ _ sA.fr ?_
   rw [decide_eq_true (by omega),he,decide_eq_true hym]
  ·rw [mkEq] at he
   exact ⟨xs.length - (j+1),by omega,j+1,rfl,wi (by omega),hj',rfl,take_no hy hno (of_decide_eq_false he)⟩
 ·have:=dge hge
  rw [List.take_of_length_le (by omega)] at hno
  exact k _ _ sA.fr (by rw [decide_eq_false hno];rfl)
theorem conM_ok {s:Sl}{xs:List Mk}{m:Mk}(h:Rd flM 2 H s xs) (hb:xs.length≤1048576) (k:∀ H',Fr no H H'→K (.bool (decide (m∈xs))) H'):CallF Tryz.prog 101 #[.slice s.a s.n s.c,.agg #[.int .i64 m.1,.string (str m.2)]] H K Z:=by
 refine V101_ok ?_
 unfold V101
 intro bV A hA
 have sA:=(Sym.start H).newb (cs:=[.int .i64 m.1,.string (str m.2)]) hA
 refine ⟨_,_,⟨sA.ld (k:=0) rfl 0,sA.ld (k:=0) rfl 1,trivial⟩,ixM_ok (h.more sA.fr) hb fun y B fB e=>⟨_,rfl,?_⟩⟩
 rw [e]
 exact k _ (sA.fr.trans fB)
theorem cut_ok (hl:l.length≤1048576) (k1:62∈l→K (.tuple #[.string (str (cutL l)),.string (str (cutR l)),.bool true]) H) (k2:62∉l→K (.tuple #[.string (str l),.string ⟨#[]⟩,.bool false]) H):CallF Tryz.prog 150 #[.string (str l),.string ⟨#[62]⟩] H K Z:=by
 refine V150_ok ?_
 unfold V150
 refine V182_ok ?_
 unfold V182
 refine callF_same (v:=.int .i64 (Lib.indexByte l 62)) (fun w hw=>by have:=Any.stringslite_Index_one S01.lays_index (str l) 62 w;rw [str_data] at this;exact this) ⟨_,rfl,?_⟩
 rw [idx_eq]
 obtain ⟨e1,e2⟩:=until_take l 62
 have hle:=cutL_len l
 by_cases h:(62:UInt8)∈l
 ·rw [if_pos h]
  have hlt:(l.takeWhile (· != 62)).length < l.length:=by
   rcases Nat.lt_or_ge (l.takeWhile (· != 62)).length l.length with h' | h'
   ·exact h'
   ·rw [List.take_of_length_le h'] at e1
    have:=List.all_eq_true.1 (List.all_takeWhile (p:=fun b:UInt8=>b != 62) (l:=l)) 62 (by rw [e1];exact h)
    cases this
  refine ⟨fun _=>SlS.to hle ?_,fun hc=>absurd (of_decide_eq_false hc) (by omega)⟩
  rw [show ((⟨#[62]⟩:ByteArray).size:Int)=1 from rfl,wi (by omega)]
  refine SlS.from hlt ⟨_,_,_,rfl,?_⟩
  have k1:=k1 h
  unfold cutL cutR at k1
  rw [e2,List.drop_drop] at k1
  rw [← e1]
  exact k1
 ·rw [if_neg h]
  exact ⟨fun hc=>absurd (of_decide_eq_true hc) (by decide),fun _=>⟨_,_,_,rfl,k2 h⟩⟩
def argB (l r:L8) (i:Nat) (a:L8):Bool:=decide (a = []) || ((if i=0 then decide (r = [112]) else decide (l[i - 1]? = some 112)) && nodeB a)
theorem argsB_cons {l r:L8}{i:Nat}{a:L8}{z:List L8}:argsB l r i (a::z)=(argB l r i a && argsB l r (i+1) z):=rfl
theorem i112:(⟨#[112]⟩:ByteArray)=str [112]:=rfl
theorem i105:(⟨#[105]⟩:ByteArray)=str [105]:=rfl
theorem i118:(⟨#[118]⟩:ByteArray)=str [118]:=rfl
theorem notd {p:Prop} [Decidable p]:((!decide p)=true↔¬ p)∧((!decide p)=false↔p):=by
 constructor <;> by_cases h:p <;> simp [h]
theorem called_ok {x:ConD}{t:Sl}(h:Rd flL 1 H t x.args) (hx:okC x) (ht:Pw H) (k:∀ H',Fr no H H'→K (.bool (callB x)) H'):CallF Tryz.prog 104 #[cA x t] H K Z:=by
 obtain ⟨q1,q2,q3,q4,q5⟩:=hx
 refine V104_ok ?_
 unfold V104
 intro bC A hA
 have sA:=(Sym.start H).newb (cs:=cL x t) hA
 have hn:=h.len
 have hcl:=cutL_len x.tag
 refine ⟨_,sA.ld (k:=0) rfl 4,cut_ok q3 (fun hm=>⟨_,_,_,rfl,?_⟩) fun hm=>⟨_,_,_,rfl,fun _=>False,fun _ h=>h.elim,fun _=>?_,(fun h=>by cases h)⟩⟩
 rotate_left
 ·have kk:=k _ sA.fr
  unfold callB at kk
  rw [decide_eq_false hm] at kk
  exact kk
 generalize hL:cutL x.tag=L at hcl
 generalize hR:cutR x.tag=R
 have hcall:callB x=(decide (x.k=0) && (kindsB L 6 && (decide (R = []∨R = [105]∨R = [112]) && (decide (x.args.length=L.length+1) && argsB L R 0 x.args)))):=by
  unfold callB
  rw [hL,hR,decide_eq_true hm,Bool.true_and]
 refine ⟨fun C=>Fr no A C∧callB x=argsB L R 0 x.args∧x.args.length=L.length+1,?_,(fun h=>by cases h),fun _=>⟨_,sA.ld (k:=0) rfl 3,fun hk=>?_,fun hk=>?_⟩⟩
 ·rintro C ⟨fC,hc,hlen⟩ scr
  have sC:=sA.more fC
  refine ⟨t,sC.ld (k:=0) rfl 5,fun i D m=>∃ j:Nat,Fr no C D∧i=(j:Int)∧j≤x.args.length∧m=x.args.length - j∧callB x=argsB L R j (x.args.drop j),⟨_,0,Fr.refl _ _,rfl,Nat.zero_le _,rfl,hc⟩,?_⟩
  rintro i D m ⟨j,fD,rfl,hj,rfl,hc⟩ scr1
  have fHD:Fr no H D:=sA.fr.trans (fC.trans fD)
  refine ⟨fun hlt=>?_,fun hge=>?_⟩
  ·have hj':j < x.args.length:=by have:=dlt hlt;omega
   have hy:x.args[j]? = some x.args[j]:=List.getElem?_eq_getElem hj'
   have hym:x.args[j]∈x.args:=List.getElem_mem hj'
   rw [List.drop_eq_getElem_cons hj',argsB_cons] at hc
   generalize x.args[j]=y at hy hym hc
   have go:∀ E,Fr no D E→argB L R j y=true→∃ m2,m2 < x.args.length - j∧∃ j':Nat,Fr no C E∧w64 ((j:Int)+1)=(j':Int)∧j'≤x.args.length∧m2=x.args.length - j'∧callB x=argsB L R j' (x.args.drop j'):=fun E fE hb=>
    ⟨x.args.length - (j+1),by omega,j+1,fD.trans fE,wi (by omega),hj',rfl,by rw [hc,hb,Bool.true_and]⟩
   have no':∀ E,Fr no D E→argB L R j y=false→K (.bool false) E:=fun E fE hb=>by
    have:=k E (fHD.trans fE)
    rw [hc,hb,Bool.false_and] at this
    exact this
   have node:∀ (p:Bool),argB L R j y=(decide (y = []) || (p && nodeB y))→y ≠ []→((!p)=true→K (.bool false) D)∧((!p)=false→CallF Tryz.prog 32 #[.string (str y)] D (fun r1 H5=>∃ y':Bool,r1 = .bool y'∧((!y')=true→K (.bool false) H5)∧((!y')=false→∃ m2,m2 < x.args.length - j∧∃ j':Nat,Fr no C H5∧w64 ((j:Int)+1)=(j':Int)∧j'≤x.args.length∧m2=x.args.length - j'∧callB x=argsB L R j' (x.args.drop j'))) Z):=fun p ep hne=>by
    rw [decide_eq_false hne,Bool.false_or] at ep
    refine ⟨fun hp=>no' D (Fr.refl _ _) ?_,fun hp=>node_ok (q5 y hym) (TabH.more ht fHD) fun E fE=>⟨_,rfl,fun hb=>no' E fE ?_,fun hb=>go E fE ?_⟩⟩
    ·rw [ep];simp at hp;rw [hp];rfl
    ·rw [ep];simp at hp hb;rw [hb,Bool.and_false]
    ·rw [ep];simp at hp hb;rw [hp,hb];rfl
   refine atL (h.more fHD) hy fun ad e=>⟨_,e,fun h0=>?_,fun h0=>?_⟩
   ·have hj0:0 < j:=by have:=of_decide_eq_true h0;omega
    have hcj:L[j - 1]? = some L[j - 1]:=List.getElem?_eq_getElem (by omega)
    generalize L[j - 1]=c at hcj
    rw [wd (by omega) hj0]
    refine IxS.mk hcj ?_
    rw [str_nil,beq_str]
    refine ⟨fun hne=>node _ ?_ (notd.1.1 hne),fun he=>go D (Fr.refl _ _) ?_⟩
    ·unfold argB
     rw [if_neg (by omega),hcj]
     congr 2
     rw [Bool.eq_iff_iff,decide_eq_true_eq,Option.some_inj]
     exact (u8_is (n:=112) (by decide)).symm
    ·unfold argB
     rw [decide_eq_true (notd.2.1 he),Bool.true_or]
   ·have hj0:j=0:=by have:=of_decide_eq_false h0;omega
    rw [str_nil,beq_str,i112,beq_str]
    refine ⟨fun hne=>node _ ?_ (notd.1.1 hne),fun he=>go D (Fr.refl _ _) ?_⟩
    ·unfold argB
     rw [if_pos hj0]
    ·unfold argB
     rw [decide_eq_true (notd.2.1 he),Bool.true_or]
  ·have:=dge hge
   have kk:=k _ fHD
   rw [hc,List.drop_of_length_le (by omega)] at kk
   exact kk
 ·have kk:=k _ sA.fr
  rw [hcall,decide_eq_false (by simpa using hk)] at kk
  exact kk
 ·have hk0:x.k=0:=by simpa using hk
  rw [hk0] at hcall
  refine kinds_ok (most:=6) (by omega) (by decide) fun B fB=>⟨_,rfl,fun hb=>?_,fun hb=>?_⟩
  ·have kk:=k _ (sA.fr.trans fB)
   have hb:kindsB L 6=false:=by simpa using hb
   rw [hcall,hb] at kk
   exact kk
  have hb:kindsB L 6=true:=by simpa using hb
  rw [hb] at hcall
  have sB:=sA.more fB
  have tail:(R = []∨R = [105]∨R = [112])→∃ x4:Sl,hcell B ⟨bC,5,none⟩=some (.slice x4.a x4.n x4.c)∧((((x4.n:Int) != (w64 (((str L).size:Int)+1)))=true→K (.bool false) B)∧(((x4.n:Int) != (w64 (((str L).size:Int)+1)))=false→(Fr no A B∧callB x=argsB L R 0 x.args∧x.args.length=L.length+1))):=fun hr=>by
   rw [decide_eq_true hr] at hcall
   rw [str_size,wi (by omega)]
   refine ⟨t,sB.ld (k:=0) rfl 5,fun hne=>?_,fun he=>?_⟩
   ·have kk:=k _ (sA.fr.trans fB)
    rw [hcall,decide_eq_false (p:=x.args.length=L.length+1) (by have:=bne_iff_ne.1 hne;omega)] at kk
    exact kk
   ·have hlen:x.args.length=L.length+1:=by have:=bne_eq_false_iff_eq.1 he;omega
    refine ⟨fB,?_,hlen⟩
    rw [hcall,decide_eq_true hlen]
    rfl
  rw [str_nil,i105,i112,beq_str,beq_str,beq_str]
  refine ⟨fun h1=>⟨fun h2=>⟨fun h3=>?_,fun h3=>tail (.inr (.inr (notd.2.1 h3)))⟩,fun h2=>tail (.inr (.inl (notd.2.1 h2)))⟩,fun h1=>tail (.inl (notd.2.1 h1))⟩
  have n1:=notd.1.1 h1
  have n2:=notd.1.1 h2
  have n3:=notd.1.1 h3
  have kk:=k _ (sA.fr.trans fB)
  rw [hcall,decide_eq_false (p:=R = []∨R = [105]∨R = [112]) (fun h=>h.elim n1 fun h=>h.elim n2 n3)] at kk
  exact kk
end
end Go.Proofs.YtjdhjgfmloaglaaGreatDoor.C15
end
section
namespace Go.Proofs.YtjdhjgfmloaglaaGreatDoor.C15
open Go Go.V Go.Proofs N15 P14 C14 P15
attribute [local irreducible] Cvt ExtF CallF hrun App MkS callV
section
variable {H:Hp}{K:Value→Hp→Prop}{Z:List PanicEntry→Hp→Prop}{l:L8}
theorem fnF_ok {x:FnD}(hx:okF x) (ht:Pw H) (k:∀ H',Fr no H H'→K (.int .i64 (fnE x)) H'):CallF Tryz.prog 55 #[fA x] H K Z:=by
 obtain ⟨q1,q2,q3⟩:=hx
 refine V55_ok ?_
 unfold V55
 intro bF A hA
 have sA:=(Sym.start H).newb (cs:=fL x) hA
 refine ⟨_,sA.ld (k:=0) rfl 0,readX_ok q1 (TabH.more ht sA.fr) fun B fB=>⟨_,_,_,_,_,_,_,rfl,?_⟩⟩
 intro bN C hC
 have sC:=(sA.more fB).newb (cs:=[.int .i64 0,.string ⟨#[]⟩,.int .i64 0,.string ⟨#[]⟩,.int .i64 0,.int .i64 0]) hC
 refine sC.stbs (k:=0) (i:=0) (vs:=ndV (rres (readN x.name)).1) rfl (by simp [ndV]) (ndV_one _) fun D sD=>?_
 replace sD:Sym H no D [blk bN (ndV (rd x.name).1) 61,_]:=sD
 have hE:=k
 unfold fnE at hE
 refine ⟨fun b E=>E=D∧b=decide ((rd x.name).2≠0∨(rd x.name).1.kind≠4),?_,fun h=>⟨rfl,?_⟩,fun h=>⟨_,sD.ld (k:=0) rfl 0,rfl,?_⟩⟩
 rotate_left
 ·rw [decide_eq_true (.inl (bne_iff_ne.1 h))]
 ·rw [Bool.eq_iff_iff,bne_iff_ne,decide_eq_true_eq]
  exact ⟨.inr,fun h'=>h'.elim (fun h'=>absurd (bne_eq_false_iff_eq.1 h) h') id⟩
 rintro b E ⟨hED,hb⟩ scr
 rw [hED]
 clear hED E
 refine ⟨fun h=>?_,fun h=>?_⟩
 ·rw [h] at hb
  have kk:=hE D sD.fr
  rw [if_pos (of_decide_eq_true hb.symm)] at kk
  exact kk
 rw [h] at hb
 have n1:=of_decide_eq_false hb.symm
 refine ⟨_,sD.ld (k:=1) rfl 1,kinds_ok (most:=6) q2 (by decide) fun E fE=>⟨_,rfl,fun hk=>?_,fun hk=>?_⟩⟩
 ·have kk:=hE E (sD.fr.trans fE)
  rw [if_neg n1,if_pos (.inl (by simpa using hk))] at kk
  exact kk
 have hk:kindsB x.kinds 6=true:=by simpa using hk
 have sE:=sD.more fE
 have good:(x.ret = [105]∨x.ret = [112]∨x.ret = [118])→K (.int .i64 0) E:=fun hr=>by
  have kk:=hE E sE.fr
  rw [if_neg n1,if_neg (by rw [hk];exact fun h=>h.elim (fun h=>by cases h) fun h=>h hr)] at kk
  exact kk
 refine ⟨_,sE.ld (k:=1) rfl 2,?_⟩
 rw [i105,beq_str]
 refine ⟨fun h1=>⟨_,sE.ld (k:=1) rfl 2,?_⟩,fun h1=>good (.inl (notd.2.1 h1))⟩
 rw [i112,beq_str]
 refine ⟨fun h2=>⟨_,sE.ld (k:=1) rfl 2,?_⟩,fun h2=>good (.inr (.inl (notd.2.1 h2)))⟩
 rw [i118,beq_str]
 refine ⟨fun h3=>?_,fun h3=>good (.inr (.inr (notd.2.1 h3)))⟩
 have kk:=hE E sE.fr
 rw [if_neg n1,if_pos (.inr fun h=>h.elim (notd.1.1 h1) fun h=>h.elim (notd.1.1 h2) (notd.1.1 h3))] at kk
 exact kk
theorem byFn_ok {x y:FnD}(k:∀ H',Fr no H H'→K (.int .i64 (cmpF x y)) H'):CallF Tryz.prog 56 #[fA x,fA y] H K Z:=by
 refine V56_ok ?_
 unfold V56
 intro bA A hA bB B hB
 have sB:=((Sym.start H).newb (cs:=fL x) hA).newb (cs:=fL y) hB
 exact ⟨_,sB.ld (k:=1) rfl 0,_,sB.ld (k:=0) rfl 0,cmpL_ok ⟨_,rfl,k _ sB.fr⟩⟩
theorem byObj_ok {x y:ObjD}{s t:Sl}(k:∀ H',Fr no H H'→K (.int .i64 (cmpO x y)) H'):CallF Tryz.prog 53 #[oA x s,oA y t] H K Z:=by
 refine V53_ok ?_
 unfold V53
 intro bA A hA bB B hB
 have sB:=((Sym.start H).newb (cs:=oL x s) hA).newb (cs:=oL y t) hB
 exact ⟨_,sB.ld (k:=1) rfl 0,_,sB.ld (k:=0) rfl 0,cmpL_ok ⟨_,rfl,k _ sB.fr⟩⟩
end
end Go.Proofs.YtjdhjgfmloaglaaGreatDoor.C15
end
