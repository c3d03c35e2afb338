import Derived.Test.YtjdhjgfmloaglaaGreatDoorZ12
import Derived.Test.YtjdhjgfmloaglaaGreatDoorProg
set_option linter.unusedVariables false
set_option linter.unusedSimpArgs false
section
set_option maxRecDepth 100000
namespace Go.Proofs.YtjdhjgfmloaglaaGreatDoor.N23
open Go Go.V Go.Proofs
abbrev W4_2 (y_11:Int) (K:Value→Hp→Prop) (H15:Hp) (y_12:Int) (bT:Nat) (bU:Nat) (bS:Nat) (bV:Nat) (Z:List PanicEntry→Hp→Prop):Prop:=
 ((y_11 != 0)=true→K (.bool false) H15)∧((y_11 != 0)=false→(((y_12 != 0)=true→K (.bool false) H15) ∧
  ((y_12 != 0)=false→∃ x_a3 x_b3 x_c3:Sl,(hcell H15 ⟨bT,0,none⟩=some (.slice x_a3.a x_a3.n x_a3.c) ∧
  hcell H15 ⟨bT,1,none⟩=some (.slice x_b3.a x_b3.n x_b3.c)∧hcell H15 ⟨bT,2,none⟩=some (.slice x_c3.a x_c3.n x_c3.c) ∧
  True)∧∃ x_a4 x_b4 x_c4:Sl,(hcell H15 ⟨bU,0,none⟩=some (.slice x_a4.a x_a4.n x_a4.c) ∧
  hcell H15 ⟨bU,1,none⟩=some (.slice x_b4.a x_b4.n x_b4.c)∧hcell H15 ⟨bU,2,none⟩=some (.slice x_c4.a x_c4.n x_c4.c) ∧
  True)∧CallF Tryz.prog 13 #[.agg #[.slice x_a3.a x_a3.n x_a3.c,.slice x_b3.a x_b3.n x_b3.c,.slice x_c3.a x_c3.n x_c3.c],.agg #[.slice x_a4.a x_a4.n x_a4.c,.slice x_b4.a x_b4.n x_b4.c,.slice x_c4.a x_c4.n x_c4.c]] H15 (fun r4 H16=>
  ∃ y1:Bool,r4 = .bool y1∧(((!y1)=true→K (.bool false) H16)∧((!y1)=false→∃ x_a5 x_b5 x_c5:Sl,(hcell H16 ⟨bT,0,none⟩=some (.slice x_a5.a x_a5.n x_a5.c) ∧
  hcell H16 ⟨bT,1,none⟩=some (.slice x_b5.a x_b5.n x_b5.c)∧hcell H16 ⟨bT,2,none⟩=some (.slice x_c5.a x_c5.n x_c5.c) ∧
  True)∧∃ x_a6 x_b6 x_c6:Sl,(hcell H16 ⟨bS,0,none⟩=some (.slice x_a6.a x_a6.n x_a6.c) ∧
  hcell H16 ⟨bS,1,none⟩=some (.slice x_b6.a x_b6.n x_b6.c)∧hcell H16 ⟨bS,2,none⟩=some (.slice x_c6.a x_c6.n x_c6.c) ∧
  True)∧CallF Tryz.prog 14 #[.agg #[.slice x_a5.a x_a5.n x_a5.c,.slice x_b5.a x_b5.n x_b5.c,.slice x_c5.a x_c5.n x_c5.c],.agg #[.slice x_a6.a x_a6.n x_a6.c,.slice x_b6.a x_b6.n x_b6.c,.slice x_c6.a x_c6.n x_c6.c]] H16 (fun r5 H17=>
  ∃ y2:Bool,r5 = .bool y2∧((y2=true→∃ x_a7 x_b7 x_c7:Sl,(hcell H17 ⟨bV,0,none⟩=some (.slice x_a7.a x_a7.n x_a7.c) ∧
  hcell H17 ⟨bV,1,none⟩=some (.slice x_b7.a x_b7.n x_b7.c)∧hcell H17 ⟨bV,2,none⟩=some (.slice x_c7.a x_c7.n x_c7.c) ∧
  True)∧∃ x_a8 x_b8 x_c8:Sl,(hcell H17 ⟨bS,0,none⟩=some (.slice x_a8.a x_a8.n x_a8.c) ∧
  hcell H17 ⟨bS,1,none⟩=some (.slice x_b8.a x_b8.n x_b8.c)∧hcell H17 ⟨bS,2,none⟩=some (.slice x_c8.a x_c8.n x_c8.c) ∧
  True)∧CallF Tryz.prog 14 #[.agg #[.slice x_a7.a x_a7.n x_a7.c,.slice x_b7.a x_b7.n x_b7.c,.slice x_c7.a x_c7.n x_c7.c],.agg #[.slice x_a8.a x_a8.n x_a8.c,.slice x_b8.a x_b8.n x_b8.c,.slice x_c8.a x_c8.n x_c8.c]] H17 (fun r6 H18=>
  ∃ y3:Bool,r6 = .bool y3∧((y3=true→∃ x_a9 x_b9 x_c9:Sl,(hcell H18 ⟨bT,0,none⟩=some (.slice x_a9.a x_a9.n x_a9.c) ∧
  hcell H18 ⟨bT,1,none⟩=some (.slice x_b9.a x_b9.n x_b9.c)∧hcell H18 ⟨bT,2,none⟩=some (.slice x_c9.a x_c9.n x_c9.c) ∧
  True)∧∃ x_a10 x_b10 x_c10:Sl,(hcell H18 ⟨bV,0,none⟩=some (.slice x_a10.a x_a10.n x_a10.c) ∧
  hcell H18 ⟨bV,1,none⟩=some (.slice x_b10.a x_b10.n x_b10.c)∧hcell H18 ⟨bV,2,none⟩=some (.slice x_c10.a x_c10.n x_c10.c) ∧
  True)∧CallF Tryz.prog 14 #[.agg #[.slice x_a9.a x_a9.n x_a9.c,.slice x_b9.a x_b9.n x_b9.c,.slice x_c9.a x_c9.n x_c9.c],.agg #[.slice x_a10.a x_a10.n x_a10.c,.slice x_b10.a x_b10.n x_b10.c,.slice x_c10.a x_c10.n x_c10.c]] H18 (fun r7 H19=>
  ∃ y4:Bool,r7 = .bool y4∧K (.bool y4) H19) Z)∧(y3=false→K (.bool false) H18))) Z)∧(y2=false →
  K (.bool false) H17))) Z))) Z)))
abbrev W4_1 (H20:Hp) (bS:Nat) (x_a2 x_b2 x_c2 ap1:Sl) (bV1:Nat) (y_11:Int) (K:Value→Hp→Prop) (bT:Nat) (bU:Nat) (Z:List PanicEntry→Hp→Prop):Prop:=
 (hcell H20 ⟨bS,0,none⟩=some (.slice x_a2.a x_a2.n x_a2.c)∧hcell H20 ⟨bS,1,none⟩=some (.slice x_b2.a x_b2.n x_b2.c) ∧
  hcell H20 ⟨bS,2,none⟩=some (.slice x_c2.a x_c2.n x_c2.c)∧True)∧CallF Tryz.prog 12 #[.agg #[.slice x_a2.a x_a2.n x_a2.c,.slice x_b2.a x_b2.n x_b2.c,.slice x_c2.a x_c2.n x_c2.c],.slice ap1.a ap1.n ap1.c,.agg #[.slice none 0 0,.slice none 0 0]] H20 (fun r8 H21=>
  ∃ (y_0_a3 y_0_b3 y_0_c3:Sl) (y_13:Int),r8 = .tuple #[.agg #[.slice y_0_a3.a y_0_a3.n y_0_a3.c,.slice y_0_b3.a y_0_b3.n y_0_b3.c,.slice y_0_c3.a y_0_c3.n y_0_c3.c],.int .i64 y_13] ∧
  StL ⟨bV1,0,none⟩ 0 [.slice y_0_a3.a y_0_a3.n y_0_a3.c,.slice y_0_b3.a y_0_b3.n y_0_b3.c,.slice y_0_c3.a y_0_c3.n y_0_c3.c] H21 fun H22=>
  (W4_2 y_11 K H22 y_13 bT bU bS bV1 Z)) Z
abbrev W4_6 (H12:Hp) (bS:Nat) (x_a2 x_b2 x_c2 ap1:Sl) (y_11:Int) (K:Value→Hp→Prop) (bT:Nat) (bU:Nat) (Z:List PanicEntry→Hp→Prop):Prop:=
 (hcell H12 ⟨bS,0,none⟩=some (.slice x_a2.a x_a2.n x_a2.c) ∧
  hcell H12 ⟨bS,1,none⟩=some (.slice x_b2.a x_b2.n x_b2.c)∧hcell H12 ⟨bS,2,none⟩=some (.slice x_c2.a x_c2.n x_c2.c) ∧
  True)∧((CallF Tryz.prog 12 #[.agg #[.slice x_a2.a x_a2.n x_a2.c,.slice x_b2.a x_b2.n x_b2.c,.slice x_c2.a x_c2.n x_c2.c],.slice ap1.a ap1.n ap1.c,.agg #[.slice none 0 0,.slice none 0 0]] H12 (fun r3 H13=>
  ∃ (y_0_a2 y_0_b2 y_0_c2:Sl) (y_12:Int),r3 = .tuple #[.agg #[.slice y_0_a2.a y_0_a2.n y_0_a2.c,.slice y_0_b2.a y_0_b2.n y_0_b2.c,.slice y_0_c2.a y_0_c2.n y_0_c2.c],.int .i64 y_12] ∧
  ∀ bV H14,Newb H13 (.cells #[.slice none 0 0,.slice none 0 0,.slice none 0 0] 26) bV H14→StL ⟨bV,0,none⟩ 0 [.slice y_0_a2.a y_0_a2.n y_0_a2.c,.slice y_0_b2.a y_0_b2.n y_0_b2.c,.slice y_0_c2.a y_0_c2.n y_0_c2.c] H14 fun H15=>
  (W4_2 y_11 K H15 y_12 bT bU bS bV Z)) Z)∧(∀ bV1 H20,Newb H12 (.cells #[.slice none 0 0,.slice none 0 0,.slice none 0 0] 26) bV1 H20 →
  (W4_1 H20 bS x_a2 x_b2 x_c2 ap1 bV1 y_11 K bT bU Z)))
abbrev W4_3 (H11:Hp) (bS:Nat) (x_a2 x_b2 x_c2 ap more:Sl) (y_11:Int) (K:Value→Hp→Prop) (bT:Nat) (bU:Nat) (Z:List PanicEntry→Hp→Prop):Prop:=
 (hcell H11 ⟨bS,0,none⟩=some (.slice x_a2.a x_a2.n x_a2.c) ∧
  hcell H11 ⟨bS,1,none⟩=some (.slice x_b2.a x_b2.n x_b2.c)∧hcell H11 ⟨bS,2,none⟩=some (.slice x_c2.a x_c2.n x_c2.c) ∧
  True)∧((App Tryz.prog #[27,27] 27 H11 [.slice ap.a ap.n ap.c,.slice more.a more.n more.c] fun ap2 H34=>
  (W4_6 H34 bS x_a2 x_b2 x_c2 ap2 y_11 K bT bU Z))∧(∀ bV5 H49,Newb H11 (.cells #[.slice none 0 0,.slice none 0 0,.slice none 0 0] 26) bV5 H49 →
  ((hcell H49 ⟨bS,0,none⟩=some (.slice x_a2.a x_a2.n x_a2.c)∧hcell H49 ⟨bS,1,none⟩=some (.slice x_b2.a x_b2.n x_b2.c) ∧
  hcell H49 ⟨bS,2,none⟩=some (.slice x_c2.a x_c2.n x_c2.c)∧True)∧App Tryz.prog #[27,27] 27 H49 [.slice ap.a ap.n ap.c,.slice more.a more.n more.c] fun ap3 H50=>
  (W4_1 H50 bS x_a2 x_b2 x_c2 ap3 bV5 y_11 K bT bU Z))))
abbrev W4_5 (H57:Hp) (bS:Nat) (x_a2 x_b2 x_c2 ap more:Sl) (bV6:Nat) (y_11:Int) (K:Value→Hp→Prop) (bT:Nat) (bU:Nat) (Z:List PanicEntry→Hp→Prop):Prop:=
 (hcell H57 ⟨bS,0,none⟩=some (.slice x_a2.a x_a2.n x_a2.c)∧hcell H57 ⟨bS,1,none⟩=some (.slice x_b2.a x_b2.n x_b2.c) ∧
  hcell H57 ⟨bS,2,none⟩=some (.slice x_c2.a x_c2.n x_c2.c)∧True)∧((App Tryz.prog #[27,27] 27 H57 [.slice ap.a ap.n ap.c,.slice more.a more.n more.c] fun ap4 H58=>
  ((hcell H58 ⟨bS,0,none⟩=some (.slice x_a2.a x_a2.n x_a2.c)∧hcell H58 ⟨bS,1,none⟩=some (.slice x_b2.a x_b2.n x_b2.c) ∧
  hcell H58 ⟨bS,2,none⟩=some (.slice x_c2.a x_c2.n x_c2.c)∧True)∧(W4_1 H58 bS x_a2 x_b2 x_c2 ap4 bV6 y_11 K bT bU Z)))∧((hcell H57 ⟨bS,0,none⟩=some (.slice x_a2.a x_a2.n x_a2.c) ∧
  hcell H57 ⟨bS,1,none⟩=some (.slice x_b2.a x_b2.n x_b2.c)∧hcell H57 ⟨bS,2,none⟩=some (.slice x_c2.a x_c2.n x_c2.c) ∧
  True)∧App Tryz.prog #[27,27] 27 H57 [.slice ap.a ap.n ap.c,.slice more.a more.n more.c] fun ap5 H65=>
  (W4_1 H65 bS x_a2 x_b2 x_c2 ap5 bV6 y_11 K bT bU Z)))
abbrev W4_4 (H96:Hp) (bS:Nat) (x_a2 x_b2 x_c2:Sl) (b:Nat) (keep more:Sl) (bV10:Nat) (y_11:Int) (K:Value→Hp→Prop) (bT:Nat) (bU:Nat) (Z:List PanicEntry→Hp→Prop):Prop:=
 (hcell H96 ⟨bS,0,none⟩=some (.slice x_a2.a x_a2.n x_a2.c)∧hcell H96 ⟨bS,1,none⟩=some (.slice x_b2.a x_b2.n x_b2.c) ∧
  hcell H96 ⟨bS,2,none⟩=some (.slice x_c2.a x_c2.n x_c2.c)∧True)∧App Tryz.prog #[27,27] 27 H96 [.slice (some ⟨b,0,none⟩) 0 0,.slice keep.a keep.n keep.c] fun ap9 H97=>
  ((hcell H97 ⟨bS,0,none⟩=some (.slice x_a2.a x_a2.n x_a2.c)∧hcell H97 ⟨bS,1,none⟩=some (.slice x_b2.a x_b2.n x_b2.c) ∧
  hcell H97 ⟨bS,2,none⟩=some (.slice x_c2.a x_c2.n x_c2.c)∧True)∧App Tryz.prog #[27,27] 27 H97 [.slice ap9.a ap9.n ap9.c,.slice more.a more.n more.c] fun ap10 H98=>
  (W4_1 H98 bS x_a2 x_b2 x_c2 ap10 bV10 y_11 K bT bU Z))
def V4 (H:Hp) (s_a s_b s_c keep more:Sl) (K:Value→Hp→Prop) (Z:List PanicEntry→Hp→Prop):Prop:=
 ∀ bS H1,Newb H (.cells #[.slice s_a.a s_a.n s_a.c,.slice s_b.a s_b.n s_b.c,.slice s_c.a s_c.n s_c.c] 26) bS H1 →
  CallF Tryz.prog 11 #[] H1 (fun r H2=>∃ y:Bool,r = .bool y∧(((!y)=true→K (.bool false) H2) ∧
  ((!y)=false→∃ J:Hp→Prop,(∀ H3,J  H3→∀ scr:Nat→Value,∃ x_a x_b x_c:Sl,(hcell H3 ⟨bS,0,none⟩=some (.slice x_a.a x_a.n x_a.c) ∧
  hcell H3 ⟨bS,1,none⟩=some (.slice x_b.a x_b.n x_b.c)∧hcell H3 ⟨bS,2,none⟩=some (.slice x_c.a x_c.n x_c.c) ∧
  True)∧CallF Tryz.prog 12 #[.agg #[.slice x_a.a x_a.n x_a.c,.slice x_b.a x_b.n x_b.c,.slice x_c.a x_c.n x_c.c],.slice keep.a keep.n keep.c,.agg #[.slice none 0 0,.slice none 0 0]] H3 (fun r1 H4=>
  ∃ (y_0_a y_0_b y_0_c:Sl) (y_1:Int),r1 = .tuple #[.agg #[.slice y_0_a.a y_0_a.n y_0_a.c,.slice y_0_b.a y_0_b.n y_0_b.c,.slice y_0_c.a y_0_c.n y_0_c.c],.int .i64 y_1] ∧
  ∀ bT H5,Newb H4 (.cells #[.slice none 0 0,.slice none 0 0,.slice none 0 0] 26) bT H5→StL ⟨bT,0,none⟩ 0 [.slice y_0_a.a y_0_a.n y_0_a.c,.slice y_0_b.a y_0_b.n y_0_b.c,.slice y_0_c.a y_0_c.n y_0_c.c] H5 fun H6=>
  (((y_1 != 0)=true→K (.bool true) H6)∧((y_1 != 0)=false→∃ x_a1 x_b1 x_c1:Sl,(hcell H6 ⟨bT,0,none⟩=some (.slice x_a1.a x_a1.n x_a1.c) ∧
  hcell H6 ⟨bT,1,none⟩=some (.slice x_b1.a x_b1.n x_b1.c)∧hcell H6 ⟨bT,2,none⟩=some (.slice x_c1.a x_c1.n x_c1.c) ∧
  True)∧CallF Tryz.prog 12 #[.agg #[.slice x_a1.a x_a1.n x_a1.c,.slice x_b1.a x_b1.n x_b1.c,.slice x_c1.a x_c1.n x_c1.c],.slice keep.a keep.n keep.c,.agg #[.slice none 0 0,.slice none 0 0]] H6 (fun r2 H7=>
  ∃ (y_0_a1 y_0_b1 y_0_c1:Sl) (y_11:Int),r2 = .tuple #[.agg #[.slice y_0_a1.a y_0_a1.n y_0_a1.c,.slice y_0_b1.a y_0_b1.n y_0_b1.c,.slice y_0_c1.a y_0_c1.n y_0_c1.c],.int .i64 y_11] ∧
  ∀ bU H8,Newb H7 (.cells #[.slice none 0 0,.slice none 0 0,.slice none 0 0] 26) bU H8→StL ⟨bU,0,none⟩ 0 [.slice y_0_a1.a y_0_a1.n y_0_a1.c,.slice y_0_b1.a y_0_b1.n y_0_b1.c,.slice y_0_c1.a y_0_c1.n y_0_c1.c] H8 fun H9=>
  (∃ x_a2 x_b2 x_c2:Sl,(hcell H9 ⟨bS,0,none⟩=some (.slice x_a2.a x_a2.n x_a2.c) ∧
  hcell H9 ⟨bS,1,none⟩=some (.slice x_b2.a x_b2.n x_b2.c)∧hcell H9 ⟨bS,2,none⟩=some (.slice x_c2.a x_c2.n x_c2.c) ∧
  True)∧((∀ b H10,Newb H9 (.cells #[] 9) b H10→((hcell H10 ⟨bS,0,none⟩=some (.slice x_a2.a x_a2.n x_a2.c) ∧
  hcell H10 ⟨bS,1,none⟩=some (.slice x_b2.a x_b2.n x_b2.c)∧hcell H10 ⟨bS,2,none⟩=some (.slice x_c2.a x_c2.n x_c2.c) ∧
  True)∧((App Tryz.prog #[27,27] 27 H10 [.slice (some ⟨b,0,none⟩) 0 0,.slice keep.a keep.n keep.c] fun ap H11=>
  ((hcell H11 ⟨bS,0,none⟩=some (.slice x_a2.a x_a2.n x_a2.c)∧hcell H11 ⟨bS,1,none⟩=some (.slice x_b2.a x_b2.n x_b2.c) ∧
  hcell H11 ⟨bS,2,none⟩=some (.slice x_c2.a x_c2.n x_c2.c)∧True)∧((App Tryz.prog #[27,27] 27 H11 [.slice ap.a ap.n ap.c,.slice more.a more.n more.c] fun ap1 H12=>
  ((hcell H12 ⟨bS,0,none⟩=some (.slice x_a2.a x_a2.n x_a2.c)∧hcell H12 ⟨bS,1,none⟩=some (.slice x_b2.a x_b2.n x_b2.c) ∧
  hcell H12 ⟨bS,2,none⟩=some (.slice x_c2.a x_c2.n x_c2.c)∧True)∧((W4_6 H12 bS x_a2 x_b2 x_c2 ap1 y_11 K bT bU Z)∧(∀ bV2 H27,Newb H12 (.cells #[.slice none 0 0,.slice none 0 0,.slice none 0 0] 26) bV2 H27 →
  ((hcell H27 ⟨bS,0,none⟩=some (.slice x_a2.a x_a2.n x_a2.c)∧hcell H27 ⟨bS,1,none⟩=some (.slice x_b2.a x_b2.n x_b2.c) ∧
  hcell H27 ⟨bS,2,none⟩=some (.slice x_c2.a x_c2.n x_c2.c)∧True)∧(W4_1 H27 bS x_a2 x_b2 x_c2 ap1 bV2 y_11 K bT bU Z))))))∧(W4_3 H11 bS x_a2 x_b2 x_c2 ap more y_11 K bT bU Z)∧(∀ bV6 H57,Newb H11 (.cells #[.slice none 0 0,.slice none 0 0,.slice none 0 0] 26) bV6 H57 →
  (W4_5 H57 bS x_a2 x_b2 x_c2 ap more bV6 y_11 K bT bU Z)))))∧((hcell H10 ⟨bS,0,none⟩=some (.slice x_a2.a x_a2.n x_a2.c) ∧
  hcell H10 ⟨bS,1,none⟩=some (.slice x_b2.a x_b2.n x_b2.c)∧hcell H10 ⟨bS,2,none⟩=some (.slice x_c2.a x_c2.n x_c2.c) ∧
  True)∧((App Tryz.prog #[27,27] 27 H10 [.slice (some ⟨b,0,none⟩) 0 0,.slice keep.a keep.n keep.c] fun ap6 H72=>
  (W4_3 H72 bS x_a2 x_b2 x_c2 ap6 more y_11 K bT bU Z))∧(∀ bV10 H96,Newb H10 (.cells #[.slice none 0 0,.slice none 0 0,.slice none 0 0] 26) bV10 H96 →
  (W4_4 H96 bS x_a2 x_b2 x_c2 b keep more bV10 y_11 K bT bU Z))))∧(∀ bV11 H105,Newb H10 (.cells #[.slice none 0 0,.slice none 0 0,.slice none 0 0] 26) bV11 H105 →
  ((hcell H105 ⟨bS,0,none⟩=some (.slice x_a2.a x_a2.n x_a2.c)∧hcell H105 ⟨bS,1,none⟩=some (.slice x_b2.a x_b2.n x_b2.c) ∧
  hcell H105 ⟨bS,2,none⟩=some (.slice x_c2.a x_c2.n x_c2.c)∧True)∧((App Tryz.prog #[27,27] 27 H105 [.slice (some ⟨b,0,none⟩) 0 0,.slice keep.a keep.n keep.c] fun ap11 H106=>
  (W4_5 H106 bS x_a2 x_b2 x_c2 ap11 more bV11 y_11 K bT bU Z))∧(W4_4 H105 bS x_a2 x_b2 x_c2 b keep more bV11 y_11 K bT bU Z)))))))∧((hcell H9 ⟨bS,0,none⟩=some (.slice x_a2.a x_a2.n x_a2.c) ∧
  hcell H9 ⟨bS,1,none⟩=some (.slice x_b2.a x_b2.n x_b2.c)∧hcell H9 ⟨bS,2,none⟩=some (.slice x_c2.a x_c2.n x_c2.c) ∧
  True)∧((∀ b1 H129,Newb H9 (.cells #[] 9) b1 H129→((hcell H129 ⟨bS,0,none⟩=some (.slice x_a2.a x_a2.n x_a2.c) ∧
  hcell H129 ⟨bS,1,none⟩=some (.slice x_b2.a x_b2.n x_b2.c)∧hcell H129 ⟨bS,2,none⟩=some (.slice x_c2.a x_c2.n x_c2.c) ∧
  True)∧((App Tryz.prog #[27,27] 27 H129 [.slice (some ⟨b1,0,none⟩) 0 0,.slice keep.a keep.n keep.c] fun ap16 H130=>
  (W4_3 H130 bS x_a2 x_b2 x_c2 ap16 more y_11 K bT bU Z))∧(∀ bV15 H154,Newb H129 (.cells #[.slice none 0 0,.slice none 0 0,.slice none 0 0] 26) bV15 H154 →
  (W4_4 H154 bS x_a2 x_b2 x_c2 b1 keep more bV15 y_11 K bT bU Z)))))∧(∀ bV16 H163,Newb H9 (.cells #[.slice none 0 0,.slice none 0 0,.slice none 0 0] 26) bV16 H163 →
  ((hcell H163 ⟨bS,0,none⟩=some (.slice x_a2.a x_a2.n x_a2.c)∧hcell H163 ⟨bS,1,none⟩=some (.slice x_b2.a x_b2.n x_b2.c) ∧
  hcell H163 ⟨bS,2,none⟩=some (.slice x_c2.a x_c2.n x_c2.c)∧True)∧∀ b2 H164,Newb H163 (.cells #[] 9) b2 H164 →
  (W4_4 H164 bS x_a2 x_b2 x_c2 b2 keep more bV16 y_11 K bT bU Z)))))∧(∀ bV17 H173,Newb H9 (.cells #[.slice none 0 0,.slice none 0 0,.slice none 0 0] 26) bV17 H173 →
  ((hcell H173 ⟨bS,0,none⟩=some (.slice x_a2.a x_a2.n x_a2.c)∧hcell H173 ⟨bS,1,none⟩=some (.slice x_b2.a x_b2.n x_b2.c) ∧
  hcell H173 ⟨bS,2,none⟩=some (.slice x_c2.a x_c2.n x_c2.c)∧True)∧((∀ b3 H174,Newb H173 (.cells #[] 9) b3 H174 →
  ((hcell H174 ⟨bS,0,none⟩=some (.slice x_a2.a x_a2.n x_a2.c)∧hcell H174 ⟨bS,1,none⟩=some (.slice x_b2.a x_b2.n x_b2.c) ∧
  hcell H174 ⟨bS,2,none⟩=some (.slice x_c2.a x_c2.n x_c2.c)∧True)∧((App Tryz.prog #[27,27] 27 H174 [.slice (some ⟨b3,0,none⟩) 0 0,.slice keep.a keep.n keep.c] fun ap23 H175=>
  (W4_5 H175 bS x_a2 x_b2 x_c2 ap23 more bV17 y_11 K bT bU Z))∧(W4_4 H174 bS x_a2 x_b2 x_c2 b3 keep more bV17 y_11 K bT bU Z))))∧((hcell H173 ⟨bS,0,none⟩=some (.slice x_a2.a x_a2.n x_a2.c) ∧
  hcell H173 ⟨bS,1,none⟩=some (.slice x_b2.a x_b2.n x_b2.c)∧hcell H173 ⟨bS,2,none⟩=some (.slice x_c2.a x_c2.n x_c2.c) ∧
  True)∧∀ b4 H198,Newb H173 (.cells #[] 9) b4 H198→(W4_4 H198 bS x_a2 x_b2 x_c2 b4 keep more bV17 y_11 K bT bU Z)))))))) Z))) Z)∧∃ x_a195 x_b195 x_c195:Sl,(hcell H2 ⟨bS,0,none⟩=some (.slice x_a195.a x_a195.n x_a195.c) ∧
  hcell H2 ⟨bS,1,none⟩=some (.slice x_b195.a x_b195.n x_b195.c)∧hcell H2 ⟨bS,2,none⟩=some (.slice x_c195.a x_c195.n x_c195.c) ∧
  True)∧CallF Tryz.prog 7 #[.agg #[.slice x_a195.a x_a195.n x_a195.c,.slice x_b195.a x_b195.n x_b195.c,.slice x_c195.a x_c195.n x_c195.c],.int .i64 40] H2 (fun r123 H207=>
  ∃ y97:Bool,r123 = .bool y97∧((y97=true→K (.bool true) H207)∧(y97=false→CallF Tryz.prog 8 #[.slice keep.a keep.n keep.c] H207 (fun r124 H208=>
  ∃ y98:Bool,r124 = .bool y98∧((y98=true→K (.bool true) H208)∧(y98=false→CallF Tryz.prog 8 #[.slice more.a more.n more.c] H208 (fun r125 H209=>
  ∃ y99:Bool,r125 = .bool y99∧((y99=true→K (.bool true) H209)∧(y99=false→(J  H209)))) Z))) Z))) Z))) Z
def aJ4:Ann:=(fun k=>if k=5 then some [] else if k=2000009 then some [] else none)
theorem V4_ok {H s_a s_b s_c keep more K Z} (h:V4 H s_a s_b s_c keep more K Z):CallF Tryz.prog 4 #[.agg #[.slice s_a.a s_a.n s_a.c,.slice s_b.a s_b.n s_b.c,.slice s_c.a s_c.n s_c.c],.slice keep.a keep.n keep.c,.slice more.a more.n more.c] H K Z:=
 fnC_sound (aJ:=aJ4) (aL:=fun _=>none) (Eq.mp (by kernel_rfl) h)
def V14 (H:Hp) (a_a a_b a_c b_a b_b b_c:Sl) (K:Value→Hp→Prop) (Z:List PanicEntry→Hp→Prop):Prop:=
 ∀ bA H1,Newb H (.cells #[.slice a_a.a a_a.n a_a.c,.slice a_b.a a_b.n a_b.c,.slice a_c.a a_c.n a_c.c] 26) bA H1 →
  ∀ bB H2,Newb H1 (.cells #[.slice b_a.a b_a.n b_a.c,.slice b_b.a b_b.n b_b.c,.slice b_c.a b_c.n b_c.c] 26) bB H2 →
  ∃ x_a x_b x_c:Sl,(hcell H2 ⟨bA,0,none⟩=some (.slice x_a.a x_a.n x_a.c)∧hcell H2 ⟨bA,1,none⟩=some (.slice x_b.a x_b.n x_b.c) ∧
  hcell H2 ⟨bA,2,none⟩=some (.slice x_c.a x_c.n x_c.c)∧True)∧∃ x_a1 x_b1 x_c1:Sl,(hcell H2 ⟨bB,0,none⟩=some (.slice x_a1.a x_a1.n x_a1.c) ∧
  hcell H2 ⟨bB,1,none⟩=some (.slice x_b1.a x_b1.n x_b1.c)∧hcell H2 ⟨bB,2,none⟩=some (.slice x_c1.a x_c1.n x_c1.c) ∧
  True)∧∀ b H3,Newb H2 (.cells #[.slice x_a.a x_a.n x_a.c,.slice x_b.a x_b.n x_b.c,.slice x_c.a x_c.n x_c.c,.slice x_a1.a x_a1.n x_a1.c,.slice x_b1.a x_b1.n x_b1.c,.slice x_c1.a x_c1.n x_c1.c] 26) b H3 →
  CallF Tryz.prog 44 #[.slice (some ⟨b,0,none⟩) 2 2] H3 (fun r H4=>∃ (y_0_a y_0_b y_0_c:Sl) (y_1:Int),r = .tuple #[.agg #[.slice y_0_a.a y_0_a.n y_0_a.c,.slice y_0_b.a y_0_b.n y_0_b.c,.slice y_0_c.a y_0_c.n y_0_c.c],.int .i64 y_1] ∧
  ∀ bU H5,Newb H4 (.cells #[.slice none 0 0,.slice none 0 0,.slice none 0 0] 26) bU H5→StL ⟨bU,0,none⟩ 0 [.slice y_0_a.a y_0_a.n y_0_a.c,.slice y_0_b.a y_0_b.n y_0_b.c,.slice y_0_c.a y_0_c.n y_0_c.c] H5 fun H6=>
  (((y_1 == 0)=true→∃ x_a2 x_b2 x_c2:Sl,(hcell H6 ⟨bU,0,none⟩=some (.slice x_a2.a x_a2.n x_a2.c) ∧
  hcell H6 ⟨bU,1,none⟩=some (.slice x_b2.a x_b2.n x_b2.c)∧hcell H6 ⟨bU,2,none⟩=some (.slice x_c2.a x_c2.n x_c2.c) ∧
  True)∧∃ x_a3 x_b3 x_c3:Sl,(hcell H6 ⟨bB,0,none⟩=some (.slice x_a3.a x_a3.n x_a3.c) ∧
  hcell H6 ⟨bB,1,none⟩=some (.slice x_b3.a x_b3.n x_b3.c)∧hcell H6 ⟨bB,2,none⟩=some (.slice x_c3.a x_c3.n x_c3.c) ∧
  True)∧CallF Tryz.prog 13 #[.agg #[.slice x_a2.a x_a2.n x_a2.c,.slice x_b2.a x_b2.n x_b2.c,.slice x_c2.a x_c2.n x_c2.c],.agg #[.slice x_a3.a x_a3.n x_a3.c,.slice x_b3.a x_b3.n x_b3.c,.slice x_c3.a x_c3.n x_c3.c]] H6 (fun r1 H7=>
  ∃ y:Bool,r1 = .bool y∧K (.bool y) H7) Z)∧((y_1 == 0)=false→K (.bool false) H6))) Z
theorem V14_ok {H a_a a_b a_c b_a b_b b_c K Z} (h:V14 H a_a a_b a_c b_a b_b b_c K Z):CallF Tryz.prog 14 #[.agg #[.slice a_a.a a_a.n a_a.c,.slice a_b.a a_b.n a_b.c,.slice a_c.a a_c.n a_c.c],.agg #[.slice b_a.a b_a.n b_a.c,.slice b_b.a b_b.n b_b.c,.slice b_c.a b_c.n b_c.c]] H K Z:=
 fnC_sound (aJ:=fun _=>none) (aL:=fun _=>none) (Eq.mp (by kernel_rfl) h)
def V11 (H:Hp)  (K:Value→Hp→Prop) (Z:List PanicEntry→Hp→Prop):Prop:=
 ∀ b H1,Newb H (.cells #[.string ⟨#[120]⟩,.string ⟨#[112]⟩,.slice none 0 0,.string ⟨#[121]⟩,.string ⟨#[112]⟩,.slice none 0 0] 52) b H1 →
  ∀ b1 H2,Newb H1 (.cells #[.int .i64 1,.string ⟨#[102,46,112]⟩,.string ⟨#[120,43,48]⟩,.int .i64 0,.string ⟨#[]⟩,.slice none 0 0,.int .i64 1,.string ⟨#[102,46,113]⟩,.string ⟨#[121,43,48]⟩,.int .i64 0,.string ⟨#[]⟩,.slice none 0 0] 36) b1 H2 →
  ∀ bS H3,Newb H2 (.cells #[.slice none 0 0,.slice none 0 0,.slice none 0 0] 26) bS H3→StL ⟨bS,0,none⟩ 0 [.slice (some ⟨b,0,none⟩) 2 2,.slice none 0 0,.slice (some ⟨b1,0,none⟩) 2 2] H3 fun H4=>
  (∃ x_a x_b x_c:Sl,(hcell H4 ⟨bS,0,none⟩=some (.slice x_a.a x_a.n x_a.c) ∧
  hcell H4 ⟨bS,1,none⟩=some (.slice x_b.a x_b.n x_b.c)∧hcell H4 ⟨bS,2,none⟩=some (.slice x_c.a x_c.n x_c.c) ∧
  True)∧∀ b2 H5,Newb H4 (.cells #[.string ⟨#[102,46,113]⟩] 9) b2 H5→CallF Tryz.prog 12 #[.agg #[.slice x_a.a x_a.n x_a.c,.slice x_b.a x_b.n x_b.c,.slice x_c.a x_c.n x_c.c],.slice (some ⟨b2,0,none⟩) 1 1,.agg #[.slice none 0 0,.slice none 0 0]] H5 (fun r H6=>
  ∃ (y_0_a y_0_b y_0_c:Sl) (y_1:Int),r = .tuple #[.agg #[.slice y_0_a.a y_0_a.n y_0_a.c,.slice y_0_b.a y_0_b.n y_0_b.c,.slice y_0_c.a y_0_c.n y_0_c.c],.int .i64 y_1] ∧
  ∀ bT H7,Newb H6 (.cells #[.slice none 0 0,.slice none 0 0,.slice none 0 0] 26) bT H7→StL ⟨bT,0,none⟩ 0 [.slice y_0_a.a y_0_a.n y_0_a.c,.slice y_0_b.a y_0_b.n y_0_b.c,.slice y_0_c.a y_0_c.n y_0_c.c] H7 fun H8=>
  (((y_1 == 0)=true→∃ x:Sl,hcell H8 ⟨bT,2,none⟩=some (.slice x.a x.n x.c)∧((((x.n:Int) == 1)=true →
  ∃ x1:Sl,hcell H8 ⟨bT,0,none⟩=some (.slice x1.a x1.n x1.c)∧((((x1.n:Int) == 1)=true →
  ∃ x2:Sl,hcell H8 ⟨bT,0,none⟩=some (.slice x2.a x2.n x2.c)∧IxA x2.a x2.n 0 3 fun ad=>(∃ x3:ByteArray,hcell H8 ad=some (.string x3) ∧
  (((beqS x3 ⟨#[121]⟩)=true→∃ x_a1 x_b1 x_c1:Sl,(hcell H8 ⟨bS,0,none⟩=some (.slice x_a1.a x_a1.n x_a1.c) ∧
  hcell H8 ⟨bS,1,none⟩=some (.slice x_b1.a x_b1.n x_b1.c)∧hcell H8 ⟨bS,2,none⟩=some (.slice x_c1.a x_c1.n x_c1.c) ∧
  True)∧∀ b3 H9,Newb H8 (.cells #[.string ⟨#[102,46,113]⟩] 9) b3 H9→CallF Tryz.prog 29 #[.agg #[.slice x_a1.a x_a1.n x_a1.c,.slice x_b1.a x_b1.n x_b1.c,.slice x_c1.a x_c1.n x_c1.c],.slice (some ⟨b3,0,none⟩) 1 1] H9 (fun r1 H10=>
  ∃ y:Sl,r1 = .slice y.a y.n y.c∧∀ b4 H11,Newb H10 (.cells #[.string ⟨#[102,46,113]⟩] 9) b4 H11 →
  CallF Tryz.prog 17 #[.slice y.a y.n y.c,.slice (some ⟨b4,0,none⟩) 1 1] H11 (fun r2 H12=>∃ y1:Bool,r2 = .bool y1 ∧
  K (.bool y1) H12) Z) Z)∧((beqS x3 ⟨#[121]⟩)=false→K (.bool false) H8))))∧(((x1.n:Int) == 1)=false →
  K (.bool false) H8)))∧(((x.n:Int) == 1)=false→K (.bool false) H8)))∧((y_1 == 0)=false →
  K (.bool false) H8))) Z)
theorem V11_ok {H K Z} (h:V11 H  K Z):CallF Tryz.prog 11 #[] H K Z:=
 fnC_sound (aJ:=fun _=>none) (aL:=fun _=>none) (Eq.mp (by kernel_rfl) h)
def V8 (H:Hp) (l:Sl) (K:Value→Hp→Prop) (Z:List PanicEntry→Hp→Prop):Prop:=
 ∃ I:Int→Hp→Nat→Prop,(∃ m,I 0 H m)∧∀ (i:Int),∀ H1 m1,I i H1 m1→∀ scr:Nat→Value,(((decide (i < (l.n:Int)))=true →
  (((decide (i≥60))=true→K (.bool true) H1)∧((decide (i≥60))=false→IxA l.a l.n i 1 fun ad=>
  (∃ x:ByteArray,hcell H1 ad=some (.string x)∧(((decide ((x.size:Int) > 100))=true→K (.bool true) H1) ∧
  ((decide ((x.size:Int) > 100))=false→(∃ m2,m2 < m1∧I (w64 (i+1)) H1 m2)))))))∧((decide (i < (l.n:Int)))=false →
  K (.bool false) H1))
def aL8:Ann:=(fun k=>if k=2 then some [(3,(.sc (.int .i64)))] else none)
theorem V8_ok {H l K Z} (h:V8 H l K Z):CallF Tryz.prog 8 #[.slice l.a l.n l.c] H K Z:=
 fnC_sound (aJ:=fun _=>none) (aL:=aL8) (Eq.mp (by kernel_rfl) h)
abbrev W12_1 (H12:Hp) (keep:Sl) (bN:Nat) (Z:List PanicEntry→Hp→Prop) (bS bOut:Nat) (y1:Option Addr) (b:Nat) (K:Value→Hp→Prop):Prop:=
 ∃ I:Int→Hp→Nat→Prop,(∃ m,I 0 H12 m)∧∀ (t35:Int),∀ H13 m1,I t35 H13 m1→∀ scr:Nat →
  Value,(((decide (t35 < (keep.n:Int)))=true→IxA keep.a keep.n t35 1 fun ad=>(∃ x2:ByteArray,hcell H13 ad=some (.string x2) ∧
  CallF Tryz.prog 32 #[.string x2] H13 (fun r4 H14=>∃ y4:Bool,r4 = .bool y4∧((y4=true→∃ x3:Option Addr,hcell H14 ⟨bN,0,none⟩=some (.pointer x3) ∧
  ∀ b2 H15,Newb H14 (.cells #[.string x2] 9) b2 H15→CallF Tryz.prog 33 #[.pointer x3,.slice (some ⟨b2,0,none⟩) 1 1] H15 (fun r5 H16=>
  r5 = .tuple #[]∧(∃ m2,m2 < m1∧I (w64 (t35+1)) H16 m2)) Z)∧(y4=false→(∃ m2,m2 < m1 ∧
  I (w64 (t35+1)) H14 m2)))) Z))∧((decide (t35 < (keep.n:Int)))=false→∃ x4:Sl,hcell H13 ⟨bS,2,none⟩=some (.slice x4.a x4.n x4.c) ∧
  ∃ I1:Int→Hp→Nat→Prop,(∃ m3,I1 0 H13 m3)∧∀ (t49:Int),∀ H17 m4,I1 t49 H17 m4→∀ scr1:Nat →
  Value,(((decide (t49 < (x4.n:Int)))=true→IxA x4.a x4.n t49 6 fun ad1=>(∃ (x_a2:Int) (x_b2 x_c2:ByteArray) (x_d:Int) (x_e:ByteArray) (x_f:Sl),(hcell H17 ad1=some (.int .i64 x_a2) ∧
  hcell H17 (Addr.add ad1 1)=some (.string x_b2)∧hcell H17 (Addr.add ad1 2)=some (.string x_c2) ∧
  hcell H17 (Addr.add ad1 3)=some (.int .i64 x_d)∧hcell H17 (Addr.add ad1 4)=some (.string x_e) ∧
  hcell H17 (Addr.add ad1 5)=some (.slice x_f.a x_f.n x_f.c)∧True)∧∀ bC H18,Newb H17 (.cells #[.int .i64 0,.string ⟨#[]⟩,.string ⟨#[]⟩,.int .i64 0,.string ⟨#[]⟩,.slice none 0 0] 36) bC H18 →
  StL ⟨bC,0,none⟩ 0 [.int .i64 x_a2,.string x_b2,.string x_c2,.int .i64 x_d,.string x_e,.slice x_f.a x_f.n x_f.c] H18 fun H19=>
  (∃ J:Bool→Hp→Prop,(∀ (t66:Bool),∀ H20,J t66 H20→∀ scr2:Nat→Value,((t66=true →
  ∃ x5:Sl,hcell H20 ⟨bOut,2,none⟩=some (.slice x5.a x5.n x5.c)∧∃ (x_a3:Int) (x_b3 x_c3:ByteArray) (x_d1:Int) (x_e1:ByteArray) (x_f1:Sl),(hcell H20 ⟨bC,0,none⟩=some (.int .i64 x_a3) ∧
  hcell H20 ⟨bC,1,none⟩=some (.string x_b3)∧hcell H20 ⟨bC,2,none⟩=some (.string x_c3)∧hcell H20 ⟨bC,3,none⟩=some (.int .i64 x_d1) ∧
  hcell H20 ⟨bC,4,none⟩=some (.string x_e1)∧hcell H20 ⟨bC,5,none⟩=some (.slice x_f1.a x_f1.n x_f1.c) ∧
  True)∧∀ b3 H21,Newb H20 (.cells #[.int .i64 x_a3,.string x_b3,.string x_c3,.int .i64 x_d1,.string x_e1,.slice x_f1.a x_f1.n x_f1.c] 36) b3 H21 →
  App Tryz.prog #[24,24] 24 H21 [.slice x5.a x5.n x5.c,.slice (some ⟨b3,0,none⟩) 1 1] fun ap H22=>
  (StL ⟨bOut,2,none⟩ 0 [.slice ap.a ap.n ap.c] H22 fun H23=>(∃ x6:Option Addr,hcell H23 ⟨bN,0,none⟩=some (.pointer x6) ∧
  ∃ x7:ByteArray,hcell H23 ⟨bC,1,none⟩=some (.string x7)∧∃ x8:ByteArray,hcell H23 ⟨bC,2,none⟩=some (.string x8) ∧
  ∀ b4 H24,Newb H23 (.cells #[.string x7,.string x8] 9) b4 H24→CallF Tryz.prog 33 #[.pointer x6,.slice (some ⟨b4,0,none⟩) 2 2] H24 (fun r6 H25=>
  r6 = .tuple #[]∧∃ x9:Option Addr,hcell H25 ⟨bN,0,none⟩=some (.pointer x9)∧∃ x10:Sl,hcell H25 ⟨bC,5,none⟩=some (.slice x10.a x10.n x10.c) ∧
  CallF Tryz.prog 33 #[.pointer x9,.slice x10.a x10.n x10.c] H25 (fun r7 H26=>r7 = .tuple #[] ∧
  (∃ m5,m5 < m4∧I1 (w64 (t49+1)) H26 m5)) Z) Z)))∧(t66=false→(∃ m5,m5 < m4∧I1 (w64 (t49+1)) H20 m5)))) ∧
  ∃ x11:Int,hcell H19 ⟨bC,0,none⟩=some (.int .i64 x11)∧(((x11 == 4)=true→(J true H19)) ∧
  ((x11 == 4)=false→∃ x12:Int,hcell H19 ⟨bC,0,none⟩=some (.int .i64 x12)∧(((x12 == 6)=true →
  (J true H19))∧((x12 == 6)=false→∃ x13:ByteArray,hcell H19 ⟨bC,1,none⟩=some (.string x13) ∧
  CallF Tryz.prog 34 #[.pointer y1,.string x13] H19 (fun r8 H27=>∃ y5:Bool,r8 = .bool y5∧(J y5 H27)) Z))))))) ∧
  ((decide (t49 < (x4.n:Int)))=false→∃ x14:Sl,hcell H17 ⟨bS,0,none⟩=some (.slice x14.a x14.n x14.c) ∧
  CallF Tryz.prog 36 #[.slice x14.a x14.n x14.c] H17 (fun r9 H28=>∃ y6:Sl,r9 = .slice y6.a y6.n y6.c ∧
  CallF Tryz.prog 35 #[.slice y6.a y6.n y6.c,.func (.func 37) #[] #[.pointer (some ⟨bN,0,none⟩)]] H28 (fun r10 H29=>
  ∃ y7:Sl,r10 = .slice y7.a y7.n y7.c∧StL ⟨bOut,0,none⟩ 0 [.slice y7.a y7.n y7.c] H29 fun H30=>
  (∃ x15:Sl,hcell H30 ⟨bS,1,none⟩=some (.slice x15.a x15.n x15.c)∧CallF Tryz.prog 40 #[.slice x15.a x15.n x15.c] H30 (fun r11 H31=>
  ∃ y8:Sl,r11 = .slice y8.a y8.n y8.c∧CallF Tryz.prog 39 #[.slice y8.a y8.n y8.c,.func (.func 41) #[] #[.pointer (some ⟨bN,0,none⟩)]] H31 (fun r12 H32=>
  ∃ y9:Sl,r12 = .slice y9.a y9.n y9.c∧StL ⟨bOut,1,none⟩ 0 [.slice y9.a y9.n y9.c] H32 fun H33=>
  (∃ x_a4 x_b4 x_c4:Sl,(hcell H33 ⟨bOut,0,none⟩=some (.slice x_a4.a x_a4.n x_a4.c) ∧
  hcell H33 ⟨bOut,1,none⟩=some (.slice x_b4.a x_b4.n x_b4.c)∧hcell H33 ⟨bOut,2,none⟩=some (.slice x_c4.a x_c4.n x_c4.c) ∧
  True)∧CallF Tryz.prog 23 #[.agg #[.slice x_a4.a x_a4.n x_a4.c,.slice x_b4.a x_b4.n x_b4.c,.slice x_c4.a x_c4.n x_c4.c]] H33 (fun r13 H34=>
  ∃ y_a y_b y_c:Sl,r13 = .agg #[.slice y_a.a y_a.n y_a.c,.slice y_b.a y_b.n y_b.c,.slice y_c.a y_c.n y_c.c] ∧
  StL ⟨b,0,none⟩ 0 [.slice y_a.a y_a.n y_a.c,.slice y_b.a y_b.n y_b.c,.slice y_c.a y_c.n y_c.c] H34 fun H35=>
  (∃ res_a1 res_b1 res_c1:Sl,(hcell H35 ⟨b,0,none⟩=some (.slice res_a1.a res_a1.n res_a1.c) ∧
  hcell H35 ⟨b,1,none⟩=some (.slice res_b1.a res_b1.n res_b1.c)∧hcell H35 ⟨b,2,none⟩=some (.slice res_c1.a res_c1.n res_c1.c) ∧
  True)∧K (.tuple #[.agg #[.slice res_a1.a res_a1.n res_a1.c,.slice res_b1.a res_b1.n res_b1.c,.slice res_c1.a res_c1.n res_c1.c],.int .i64 0]) H35)) Z)) Z) Z)) Z) Z))))
def V12 (H:Hp) (s_a s_b s_c keep f_a f_b:Sl) (K:Value→Hp→Prop) (Z:List PanicEntry→Hp→Prop):Prop:=
 ∀ bS H1,Newb H (.cells #[.slice s_a.a s_a.n s_a.c,.slice s_b.a s_b.n s_b.c,.slice s_c.a s_c.n s_c.c] 26) bS H1 →
  ∀ bF H2,Newb H1 (.cells #[.slice f_a.a f_a.n f_a.c,.slice f_b.a f_b.n f_b.c] 41) bF H2→∀ b H3,Newb H2 (.cells #[.slice none 0 0,.slice none 0 0,.slice none 0 0] 26) b H3 →
  ∃ x_a x_b x_c:Sl,(hcell H3 ⟨bS,0,none⟩=some (.slice x_a.a x_a.n x_a.c)∧hcell H3 ⟨bS,1,none⟩=some (.slice x_b.a x_b.n x_b.c) ∧
  hcell H3 ⟨bS,2,none⟩=some (.slice x_c.a x_c.n x_c.c)∧True)∧CallF Tryz.prog 18 #[.agg #[.slice x_a.a x_a.n x_a.c,.slice x_b.a x_b.n x_b.c,.slice x_c.a x_c.n x_c.c]] H3 (fun r H4=>
  ∃ y:Int,r = .int .i64 y∧(((y != 0)=true→StL ⟨b,0,none⟩ 0 [.slice none 0 0,.slice none 0 0,.slice none 0 0] H4 fun H5=>
  (∃ res_a res_b res_c:Sl,(hcell H5 ⟨b,0,none⟩=some (.slice res_a.a res_a.n res_a.c) ∧
  hcell H5 ⟨b,1,none⟩=some (.slice res_b.a res_b.n res_b.c)∧hcell H5 ⟨b,2,none⟩=some (.slice res_c.a res_c.n res_c.c) ∧
  True)∧K (.tuple #[.agg #[.slice res_a.a res_a.n res_a.c,.slice res_b.a res_b.n res_b.c,.slice res_c.a res_c.n res_c.c],.int .i64 y]) H5)) ∧
  ((y != 0)=false→∃ x_a1 x_b1 x_c1:Sl,(hcell H4 ⟨bS,0,none⟩=some (.slice x_a1.a x_a1.n x_a1.c) ∧
  hcell H4 ⟨bS,1,none⟩=some (.slice x_b1.a x_b1.n x_b1.c)∧hcell H4 ⟨bS,2,none⟩=some (.slice x_c1.a x_c1.n x_c1.c) ∧
  True)∧CallF Tryz.prog 30 #[.agg #[.slice x_a1.a x_a1.n x_a1.c,.slice x_b1.a x_b1.n x_b1.c,.slice x_c1.a x_c1.n x_c1.c],.slice keep.a keep.n keep.c] H4 (fun r1 H6=>
  ∃ y1:Option Addr,r1 = .pointer y1∧∀ bOut H7,Newb H6 (.cells #[.slice none 0 0,.slice none 0 0,.slice none 0 0] 26) bOut H7 →
  ∃ x:Sl,hcell H7 ⟨bF,1,none⟩=some (.slice x.a x.n x.c)∧∃ x1:Sl,hcell H7 ⟨bF,0,none⟩=some (.slice x1.a x1.n x1.c) ∧
  ((CallF Tryz.prog 31 #[.slice x.a x.n x.c] H7 (fun r2 H8=>∃ y2:Sl,r2 = .slice y2.a y2.n y2.c ∧
  (hcell H8 ⟨bF,0,none⟩=some (.slice x1.a x1.n x1.c)∧((CallF Tryz.prog 31 #[.slice x1.a x1.n x1.c] H8 (fun r3 H9=>
  ∃ y3:Sl,r3 = .slice y3.a y3.n y3.c∧(((∀ b1 H10,Newb H9 (.cells #[.slice y2.a y2.n y2.c,.slice y3.a y3.n y3.c] 76) b1 H10 →
  ∀ bN H11,Newb H10 (.cells #[.pointer none] 74) bN H11→StL ⟨bN,0,none⟩ 0 [.pointer (some ⟨b1,0,none⟩)] H11 fun H12=>
  (W12_1 H12 keep bN Z bS bOut y1 b K)) ∧
  (∀ bN1 H36,Newb H9 (.cells #[.pointer none] 74) bN1 H36→∀ b5 H37,Newb H36 (.cells #[.slice y2.a y2.n y2.c,.slice y3.a y3.n y3.c] 76) b5 H37 →
  StL ⟨bN1,0,none⟩ 0 [.pointer (some ⟨b5,0,none⟩)] H37 fun H38=>(W12_1 H38 keep bN1 Z bS bOut y1 b K))) ∧
  (∀ bN2 H62,Newb H9 (.cells #[.pointer none] 74) bN2 H62→∀ b9 H63,Newb H62 (.cells #[.slice y2.a y2.n y2.c,.slice y3.a y3.n y3.c] 76) b9 H63 →
  StL ⟨bN2,0,none⟩ 0 [.pointer (some ⟨b9,0,none⟩)] H63 fun H64=>(W12_1 H64 keep bN2 Z bS bOut y1 b K)))) Z) ∧
  (∀ bN3 H88,Newb H8 (.cells #[.pointer none] 74) bN3 H88→(hcell H88 ⟨bF,0,none⟩=some (.slice x1.a x1.n x1.c) ∧
  CallF Tryz.prog 31 #[.slice x1.a x1.n x1.c] H88 (fun r34 H89=>∃ y22:Sl,r34 = .slice y22.a y22.n y22.c ∧
  ∀ b13 H90,Newb H89 (.cells #[.slice y2.a y2.n y2.c,.slice y22.a y22.n y22.c] 76) b13 H90→StL ⟨bN3,0,none⟩ 0 [.pointer (some ⟨b13,0,none⟩)] H90 fun H91=>
  (W12_1 H91 keep bN3 Z bS bOut y1 b K)) Z))))) Z) ∧
  (∀ bN4 H115,Newb H7 (.cells #[.pointer none] 74) bN4 H115→(hcell H115 ⟨bF,0,none⟩=some (.slice x1.a x1.n x1.c) ∧
  (hcell H115 ⟨bF,1,none⟩=some (.slice x.a x.n x.c)∧CallF Tryz.prog 31 #[.slice x.a x.n x.c] H115 (fun r45 H116=>
  ∃ y29:Sl,r45 = .slice y29.a y29.n y29.c∧(hcell H116 ⟨bF,0,none⟩=some (.slice x1.a x1.n x1.c) ∧
  CallF Tryz.prog 31 #[.slice x1.a x1.n x1.c] H116 (fun r46 H117=>∃ y30:Sl,r46 = .slice y30.a y30.n y30.c ∧
  ∀ b17 H118,Newb H117 (.cells #[.slice y29.a y29.n y29.c,.slice y30.a y30.n y30.c] 76) b17 H118 →
  StL ⟨bN4,0,none⟩ 0 [.pointer (some ⟨b17,0,none⟩)] H118 fun H119=>(W12_1 H119 keep bN4 Z bS bOut y1 b K)) Z)) Z))))) Z))) Z
def aJ12:Ann:=(fun k=>if k=17 then some [(66,(.sc .bool))] else if k=2000006 then some [] else none)
def aL12:Ann:=(fun k=>if k=8 then some [(35,(.sc (.int .i64)))] else if k=14 then some [(49,(.sc (.int .i64)))] else none)
theorem V12_ok {H s_a s_b s_c keep f_a f_b K Z} (h:V12 H s_a s_b s_c keep f_a f_b K Z):CallF Tryz.prog 12 #[.agg #[.slice s_a.a s_a.n s_a.c,.slice s_b.a s_b.n s_b.c,.slice s_c.a s_c.n s_c.c],.slice keep.a keep.n keep.c,.agg #[.slice f_a.a f_a.n f_a.c,.slice f_b.a f_b.n f_b.c]] H K Z:=
 fnC_sound (aJ:=aJ12) (aL:=aL12) (Eq.mp (by kernel_rfl) h)
def V29 (H:Hp) (s_a s_b s_c keep:Sl) (K:Value→Hp→Prop) (Z:List PanicEntry→Hp→Prop):Prop:=
 ∀ bS H1,Newb H (.cells #[.slice s_a.a s_a.n s_a.c,.slice s_b.a s_b.n s_b.c,.slice s_c.a s_c.n s_c.c] 26) bS H1 →
  ∃ x_a x_b x_c:Sl,(hcell H1 ⟨bS,0,none⟩=some (.slice x_a.a x_a.n x_a.c)∧hcell H1 ⟨bS,1,none⟩=some (.slice x_b.a x_b.n x_b.c) ∧
  hcell H1 ⟨bS,2,none⟩=some (.slice x_c.a x_c.n x_c.c)∧True)∧CallF Tryz.prog 18 #[.agg #[.slice x_a.a x_a.n x_a.c,.slice x_b.a x_b.n x_b.c,.slice x_c.a x_c.n x_c.c]] H1 (fun r H2=>
  ∃ y:Int,r = .int .i64 y∧(((y != 0)=true→K (.slice none 0 0) H2)∧((y != 0)=false→∀ bL H3,Newb H2 (.cells #[.slice none 0 0] 27) bL H3 →
  ∃ x_a1 x_b1 x_c1:Sl,(hcell H3 ⟨bS,0,none⟩=some (.slice x_a1.a x_a1.n x_a1.c) ∧
  hcell H3 ⟨bS,1,none⟩=some (.slice x_b1.a x_b1.n x_b1.c)∧hcell H3 ⟨bS,2,none⟩=some (.slice x_c1.a x_c1.n x_c1.c) ∧
  True)∧CallF Tryz.prog 30 #[.agg #[.slice x_a1.a x_a1.n x_a1.c,.slice x_b1.a x_b1.n x_b1.c,.slice x_c1.a x_c1.n x_c1.c],.slice keep.a keep.n keep.c] H3 (fun r1 H4=>
  ∃ y1:Option Addr,r1 = .pointer y1∧nilck y1 fun ad=>(CallF Tryz.prog 61 #[.pointer (some ad)] H4 (fun r2 H5=>
  ∃ y2:Value,r2=y2∧∀ D H6,Newb H5 (.deferred (some [])) D H6→∀ l H7,Newb H6 (.loop (lrec Tryz.f29 29 5 [.agg #[.slice s_a.a s_a.n s_a.c,.slice s_b.a s_b.n s_b.c,.slice s_c.a s_c.n s_c.c],.slice keep.a keep.n keep.c,.pointer (some ⟨bS,0,none⟩),undef,.slice none 0 0,.pointer (some ⟨bL,0,none⟩),undef,.agg #[.slice x_a.a x_a.n x_a.c,.slice x_b.a x_b.n x_b.c,.slice x_c.a x_c.n x_c.c],.int .i64 y,.bool (y != 0),.agg #[.slice x_a1.a x_a1.n x_a1.c,.slice x_b1.a x_b1.n x_b1.c,.slice x_c1.a x_c1.n x_c1.c],.slice keep.a keep.n keep.c,.pointer y1,.pointer (some ad),.pointer (some ad),y2,undef,undef,undef,undef,undef,undef,undef] D)) l H7 →
  callG Tryz.prog y2 [.func (.yield l) #[] #[]] H7 (fun _ H8=>endLoopK l H8 fun j H9=>jmpV j (∃ x:Sl,hcell H9 ⟨bL,0,none⟩=some (.slice x.a x.n x.c) ∧
  (H9[D]? = some (.deferred (some []))∧∀ H10,H10=H9.setIfInBounds D (.deferred none)→K (.slice x.a x.n x.c) H10)) (False) fun id=>
  False) (fun _ _=>False)) Z)) Z))) Z
def aJ29:Ann:=(fun _=>none)
def aL29:Ann:=(fun _=>none)
theorem V29_ok {H s_a s_b s_c keep K Z} (h:V29 H s_a s_b s_c keep K Z):CallF Tryz.prog 29 #[.agg #[.slice s_a.a s_a.n s_a.c,.slice s_b.a s_b.n s_b.c,.slice s_c.a s_c.n s_c.c],.slice keep.a keep.n keep.c] H K Z:=
 fnC_sound (aJ:=aJ29) (aL:=aL29) (Eq.mp (by kernel_rfl) h)
def R29_5 (H11:Hp) (bL l1:Nat) (y16:ByteArray) (y17:Int) (K:Value→Hp→Prop):Prop:=
 (∃ r3,H11[l1]? = some (.loop r3)∧r3.state = .ready∧∀ H12,H12=H11.setIfInBounds l1 (.loop { r3 with state:=.busy }) →
  ∃ x1:Sl,hcell H12 ⟨bL,0,none⟩=some (.slice x1.a x1.n x1.c)∧∀ b H13,Newb H12 (.cells #[.string y16] 9) b H13 →
  App Tryz.prog #[27,27] 27 H13 [.slice x1.a x1.n x1.c,.slice (some ⟨b,0,none⟩) 1 1] fun ap H14=>
  (StL ⟨bL,0,none⟩ 0 [.slice ap.a ap.n ap.c] H14 fun H15=>(endR l1 none H15 K)))
theorem R29_5_ok {H11:Hp}{bL:Nat}{l1:Nat}{y16:ByteArray}{y17:Int}{u0 u1 u2 u3 u4 u6 u7 u8 u9 u10 u11 u12 u13 u14 u15 u16 u17 u18 u19 u20 u21 u22:Value}{K:Value→Hp→Prop}(h:R29_5 H11 bL l1 y16 y17 K):yldC Tryz.prog aJ29 aL29 Tryz.f29 29 5 l1 [u0,u1,u2,u3,u4,.pointer (some ⟨bL,0,none⟩),u6,u7,u8,u9,u10,u11,u12,u13,u14,u15,u16,u17,u18,u19,u20,u21,u22] [.string y16,.int .i64 y17] H11 K:=Eq.mp (by kernel_rfl) h
abbrev W30_2 (H12:Hp) (bC:Nat) (x_a1:Int) (x_b1:ByteArray) (x_c1:ByteArray) (x_d1:Int) (x_e1:ByteArray) (x_f1:Sl):Prop:=
 hcell H12 ⟨bC,0,none⟩=some (.int .i64 x_a1) ∧
  hcell H12 ⟨bC,1,none⟩=some (.string x_b1)∧hcell H12 ⟨bC,2,none⟩=some (.string x_c1)∧hcell H12 ⟨bC,3,none⟩=some (.int .i64 x_d1) ∧
  hcell H12 ⟨bC,4,none⟩=some (.string x_e1)∧hcell H12 ⟨bC,5,none⟩=some (.slice x_f1.a x_f1.n x_f1.c) ∧
  True
abbrev W30_1 (H7:Hp) (b1:Nat) (x11:ByteArray) (bC:Nat) (x_a2:Int) (x_b2:ByteArray) (x_c2:ByteArray) (x_d2:Int) (x_e2:ByteArray) (x_f2:Sl) (x10:ByteArray) (m1:Nat) (I:Int→Hp→Nat→Prop) (t23:Int):Prop:=
 (Lkp Tryz.prog 130 H7 (.map (some b1)) (.string x11) false fun r6 H21=>∃ y2:Sl,r6 = .slice y2.a y2.n y2.c ∧
  ((W30_2 H21 bC x_a2 x_b2 x_c2 x_d2 x_e2 x_f2)∧(hcell H21 ⟨bC,1,none⟩=some (.string x10)∧∀ b6 H22,Newb H21 (.cells #[.int .i64 x_a2,.string x_b2,.string x_c2,.int .i64 x_d2,.string x_e2,.slice x_f2.a x_f2.n x_f2.c] 36) b6 H22 →
  (hcell H22 ⟨bC,1,none⟩=some (.string x10)∧App Tryz.prog #[24,24] 24 H22 [.slice y2.a y2.n y2.c,.slice (some ⟨b6,0,none⟩) 1 1] fun ap2 H23=>
  (hcell H23 ⟨bC,1,none⟩=some (.string x10)∧MUp Tryz.prog 130 H23 (.map (some b1)) (.string x10) (.slice ap2.a ap2.n ap2.c) fun H24=>
  (∃ m2,m2 < m1∧I (w64 (t23+1)) H24 m2))))))∧(∀ b7 H25,Newb H7 (.cells #[.int .i64 x_a2,.string x_b2,.string x_c2,.int .i64 x_d2,.string x_e2,.slice x_f2.a x_f2.n x_f2.c] 36) b7 H25 →
  (hcell H25 ⟨bC,1,none⟩=some (.string x11)∧(hcell H25 ⟨bC,1,none⟩=some (.string x10)∧Lkp Tryz.prog 130 H25 (.map (some b1)) (.string x11) false fun r7 H26=>
  ∃ y3:Sl,r7 = .slice y3.a y3.n y3.c∧(hcell H26 ⟨bC,1,none⟩=some (.string x10)∧App Tryz.prog #[24,24] 24 H26 [.slice y3.a y3.n y3.c,.slice (some ⟨b7,0,none⟩) 1 1] fun ap3 H27=>
  (hcell H27 ⟨bC,1,none⟩=some (.string x10)∧MUp Tryz.prog 130 H27 (.map (some b1)) (.string x10) (.slice ap3.a ap3.n ap3.c) fun H28=>
  (∃ m2,m2 < m1∧I (w64 (t23+1)) H28 m2))))))
def V30 (H:Hp) (s_a s_b s_c keep:Sl) (K:Value→Hp→Prop) (Z:List PanicEntry→Hp→Prop):Prop:=
 ∀ bS H1,Newb H (.cells #[.slice s_a.a s_a.n s_a.c,.slice s_b.a s_b.n s_b.c,.slice s_c.a s_c.n s_c.c] 26) bS H1 →
  ∀ b H2,Newb H1 (.cells #[.slice none 0 0,.slice none 0 0,.slice none 0 0] 129) b H2→CallF Tryz.prog 77 #[.pointer (some ⟨b,0,none⟩),.slice keep.a keep.n keep.c] H2 (fun r H3=>
  r = .tuple #[]∧∀ b1 H4,Newb H3 (.map #[] 0) b1 H4→∃ x:Sl,hcell H4 ⟨bS,2,none⟩=some (.slice x.a x.n x.c) ∧
  ∃ I:Int→Hp→Nat→Prop,(∃ m,I 0 H4 m)∧∀ (t23:Int),∀ H5 m1,I t23 H5 m1→∀ scr:Nat →
  Value,(((decide (t23 < (x.n:Int)))=true→IxA x.a x.n t23 6 fun ad=>(∃ (x_a:Int) (x_b x_c:ByteArray) (x_d:Int) (x_e:ByteArray) (x_f:Sl),(hcell H5 ad=some (.int .i64 x_a) ∧
  hcell H5 (Addr.add ad 1)=some (.string x_b)∧hcell H5 (Addr.add ad 2)=some (.string x_c)∧hcell H5 (Addr.add ad 3)=some (.int .i64 x_d) ∧
  hcell H5 (Addr.add ad 4)=some (.string x_e)∧hcell H5 (Addr.add ad 5)=some (.slice x_f.a x_f.n x_f.c) ∧
  True)∧∀ bC H6,Newb H5 (.cells #[.int .i64 0,.string ⟨#[]⟩,.string ⟨#[]⟩,.int .i64 0,.string ⟨#[]⟩,.slice none 0 0] 36) bC H6 →
  StL ⟨bC,0,none⟩ 0 [.int .i64 x_a,.string x_b,.string x_c,.int .i64 x_d,.string x_e,.slice x_f.a x_f.n x_f.c] H6 fun H7=>
  (∃ x1:Int,hcell H7 ⟨bC,0,none⟩=some (.int .i64 x1)∧(((x1 == 4)=true→∃ x2:ByteArray,hcell H7 ⟨bC,1,none⟩=some (.string x2) ∧
  ∃ x3:ByteArray,hcell H7 ⟨bC,2,none⟩=some (.string x3)∧∀ b2 H8,Newb H7 (.cells #[.string x2,.string x3] 9) b2 H8 →
  CallF Tryz.prog 77 #[.pointer (some ⟨b,0,none⟩),.slice (some ⟨b2,0,none⟩) 2 2] H8 (fun r1 H9=>
  r1 = .tuple #[]∧(∃ m2,m2 < m1∧I (w64 (t23+1)) H9 m2)) Z)∧((x1 == 4)=false→(((x1 == 6)=true →
  ∃ x4:ByteArray,hcell H7 ⟨bC,2,none⟩=some (.string x4)∧∀ b3 H10,Newb H7 (.cells #[.string x4] 9) b3 H10 →
  CallF Tryz.prog 77 #[.pointer (some ⟨b,0,none⟩),.slice (some ⟨b3,0,none⟩) 1 1] H10 (fun r2 H11=>
  r2 = .tuple #[]∧∃ x5:Sl,hcell H11 ⟨bC,5,none⟩=some (.slice x5.a x5.n x5.c)∧(x5.n≤x5.c ∧
  SlX x5.a x5.c 1 (x5.n:Int) 1 fun cut=>(CallF Tryz.prog 77 #[.pointer (some ⟨b,0,none⟩),.slice cut.a cut.n cut.c] H11 (fun r3 H12=>
  r3 = .tuple #[]∧∃ x6:Sl,hcell H12 ⟨bC,5,none⟩=some (.slice x6.a x6.n x6.c)∧IxA x6.a x6.n 0 1 fun ad1=>
  (∃ x7:ByteArray,hcell H12 ad1=some (.string x7)∧∃ x8:Sl,hcell H12 ⟨bC,5,none⟩=some (.slice x8.a x8.n x8.c) ∧
  IxA x8.a x8.n 0 1 fun ad2=>(∃ x9:ByteArray,hcell H12 ad2=some (.string x9)∧∃ (x_a1:Int) (x_b1 x_c1:ByteArray) (x_d1:Int) (x_e1:ByteArray) (x_f1:Sl),(W30_2 H12 bC x_a1 x_b1 x_c1 x_d1 x_e1 x_f1)∧((Lkp Tryz.prog 130 H12 (.map (some b1)) (.string x9) false fun r4 H13=>∃ y:Sl,r4 = .slice y.a y.n y.c ∧
  ((W30_2 H13 bC x_a1 x_b1 x_c1 x_d1 x_e1 x_f1)∧(hcell H13 ad1=some (.string x7)∧(hcell H13 ⟨bC,5,none⟩=some (.slice x6.a x6.n x6.c) ∧
  ∀ b4 H14,Newb H13 (.cells #[.int .i64 x_a1,.string x_b1,.string x_c1,.int .i64 x_d1,.string x_e1,.slice x_f1.a x_f1.n x_f1.c] 36) b4 H14 →
  (hcell H14 ad1=some (.string x7)∧(hcell H14 ⟨bC,5,none⟩=some (.slice x6.a x6.n x6.c)∧App Tryz.prog #[24,24] 24 H14 [.slice y.a y.n y.c,.slice (some ⟨b4,0,none⟩) 1 1] fun ap H15=>
  (hcell H15 ad1=some (.string x7)∧(hcell H15 ⟨bC,5,none⟩=some (.slice x6.a x6.n x6.c)∧MUp Tryz.prog 130 H15 (.map (some b1)) (.string x7) (.slice ap.a ap.n ap.c) fun H16=>
  (∃ m2,m2 < m1∧I (w64 (t23+1)) H16 m2)))))))))∧(∀ b5 H17,Newb H12 (.cells #[.int .i64 x_a1,.string x_b1,.string x_c1,.int .i64 x_d1,.string x_e1,.slice x_f1.a x_f1.n x_f1.c] 36) b5 H17 →
  (hcell H17 ad2=some (.string x9)∧(hcell H17 ⟨bC,5,none⟩=some (.slice x8.a x8.n x8.c)∧(hcell H17 ad1=some (.string x7) ∧
  (hcell H17 ⟨bC,5,none⟩=some (.slice x6.a x6.n x6.c)∧Lkp Tryz.prog 130 H17 (.map (some b1)) (.string x9) false fun r5 H18=>
  ∃ y1:Sl,r5 = .slice y1.a y1.n y1.c∧(hcell H18 ad1=some (.string x7)∧(hcell H18 ⟨bC,5,none⟩=some (.slice x6.a x6.n x6.c) ∧
  App Tryz.prog #[24,24] 24 H18 [.slice y1.a y1.n y1.c,.slice (some ⟨b5,0,none⟩) 1 1] fun ap1 H19=>
  (hcell H19 ad1=some (.string x7)∧(hcell H19 ⟨bC,5,none⟩=some (.slice x6.a x6.n x6.c)∧MUp Tryz.prog 130 H19 (.map (some b1)) (.string x7) (.slice ap1.a ap1.n ap1.c) fun H20=>
  (∃ m2,m2 < m1∧I (w64 (t23+1)) H20 m2)))))))))))))) Z))) Z)∧((x1 == 6)=false→(((x1 == 2)=true →
  (((x1 == 2)=true→∃ x10:ByteArray,hcell H7 ⟨bC,1,none⟩=some (.string x10)∧∃ x11:ByteArray,hcell H7 ⟨bC,1,none⟩=some (.string x11) ∧
  ∃ (x_a2:Int) (x_b2 x_c2:ByteArray) (x_d2:Int) (x_e2:ByteArray) (x_f2:Sl),(W30_2 H7 bC x_a2 x_b2 x_c2 x_d2 x_e2 x_f2)∧(W30_1 H7 b1 x11 bC x_a2 x_b2 x_c2 x_d2 x_e2 x_f2 x10 m1 I t23))∧((x1 == 2)=false→(∃ m2,m2 < m1∧I (w64 (t23+1)) H7 m2)))) ∧
  ((x1 == 2)=false→(((x1 == 3)=true→(((x1 == 3)=true→∃ x12:ByteArray,hcell H7 ⟨bC,1,none⟩=some (.string x12) ∧
  ∃ x13:ByteArray,hcell H7 ⟨bC,1,none⟩=some (.string x13)∧∃ (x_a3:Int) (x_b3 x_c3:ByteArray) (x_d3:Int) (x_e3:ByteArray) (x_f3:Sl),(W30_2 H7 bC x_a3 x_b3 x_c3 x_d3 x_e3 x_f3)∧(W30_1 H7 b1 x13 bC x_a3 x_b3 x_c3 x_d3 x_e3 x_f3 x12 m1 I t23))∧((x1 == 3)=false→(∃ m2,m2 < m1∧I (w64 (t23+1)) H7 m2)))) ∧
  ((x1 == 3)=false→(((x1 == 5)=true→∃ x14:ByteArray,hcell H7 ⟨bC,1,none⟩=some (.string x14) ∧
  ∃ x15:ByteArray,hcell H7 ⟨bC,1,none⟩=some (.string x15)∧∃ (x_a4:Int) (x_b4 x_c4:ByteArray) (x_d4:Int) (x_e4:ByteArray) (x_f4:Sl),(W30_2 H7 bC x_a4 x_b4 x_c4 x_d4 x_e4 x_f4)∧(W30_1 H7 b1 x15 bC x_a4 x_b4 x_c4 x_d4 x_e4 x_f4 x14 m1 I t23))∧((x1 == 5)=false→(∃ m2,m2 < m1∧I (w64 (t23+1)) H7 m2)))))))))))))) ∧
  ((decide (t23 < (x.n:Int)))=false→∃ I1:Hp→Nat→Prop,(∃ m3,I1  H5 m3)∧∀ H45 m4,I1  H45 m4 →
  ∀ scr1:Nat→Value,∃ x16:Sl,hcell H45 ⟨b,2,none⟩=some (.slice x16.a x16.n x16.c)∧(((decide ((x16.n:Int) > 0))=true →
  ∃ x17:Sl,hcell H45 ⟨b,2,none⟩=some (.slice x17.a x17.n x17.c)∧IxA x17.a x17.n 0 1 fun ad3=>
  (∃ x18:ByteArray,hcell H45 ad3=some (.string x18)∧∃ x19:Sl,hcell H45 ⟨b,2,none⟩=some (.slice x19.a x19.n x19.c) ∧
  (x19.n≤x19.c∧SlX x19.a x19.c 1 (x19.n:Int) 1 fun cut1=>(StL ⟨b,2,none⟩ 0 [.slice cut1.a cut1.n cut1.c] H45 fun H46=>
  (Lkp Tryz.prog 130 H46 (.map (some b1)) (.string x18) false fun r12 H47=>∃ y8:Sl,r12 = .slice y8.a y8.n y8.c ∧
  ∃ I2:Int→Hp→Nat→Prop,(∃ m6,I2 0 H47 m6)∧∀ (t103:Int),∀ H48 m7,I2 t103 H48 m7→∀ scr2:Nat →
  Value,(((decide (t103 < (y8.n:Int)))=true→IxA y8.a y8.n t103 6 fun ad4=>(∃ (x_a5:Int) (x_b5 x_c5:ByteArray) (x_d5:Int) (x_e5:ByteArray) (x_f5:Sl),(hcell H48 ad4=some (.int .i64 x_a5) ∧
  hcell H48 (Addr.add ad4 1)=some (.string x_b5)∧hcell H48 (Addr.add ad4 2)=some (.string x_c5) ∧
  hcell H48 (Addr.add ad4 3)=some (.int .i64 x_d5)∧hcell H48 (Addr.add ad4 4)=some (.string x_e5) ∧
  hcell H48 (Addr.add ad4 5)=some (.slice x_f5.a x_f5.n x_f5.c)∧True)∧∀ bC1 H49,Newb H48 (.cells #[.int .i64 0,.string ⟨#[]⟩,.string ⟨#[]⟩,.int .i64 0,.string ⟨#[]⟩,.slice none 0 0] 36) bC1 H49 →
  StL ⟨bC1,0,none⟩ 0 [.int .i64 x_a5,.string x_b5,.string x_c5,.int .i64 x_d5,.string x_e5,.slice x_f5.a x_f5.n x_f5.c] H49 fun H50=>
  (∃ x20:Int,hcell H50 ⟨bC1,0,none⟩=some (.int .i64 x20)∧(((x20 == 6)=true→∃ x21:Sl,hcell H50 ⟨bS,1,none⟩=some (.slice x21.a x21.n x21.c) ∧
  ∃ I3:Int→Hp→Nat→Prop,(∃ m9,I3 0 H50 m9)∧∀ (t114:Int),∀ H51 m10,I3 t114 H51 m10 →
  ∀ scr3:Nat→Value,(((decide (t114 < (x21.n:Int)))=true→IxA x21.a x21.n t114 3 fun ad5=>
  (∃ x_a6 x_b6 x_c6:ByteArray,(hcell H51 ad5=some (.string x_a6) ∧
  hcell H51 (Addr.add ad5 1)=some (.string x_b6)∧hcell H51 (Addr.add ad5 2)=some (.string x_c6) ∧
  True)∧∀ bF H52,Newb H51 (.cells #[.string ⟨#[]⟩,.string ⟨#[]⟩,.string ⟨#[]⟩] 56) bF H52→StL ⟨bF,0,none⟩ 0 [.string x_a6,.string x_b6,.string x_c6] H52 fun H53=>
  (∃ x22:ByteArray,hcell H53 ⟨bF,0,none⟩=some (.string x22)∧CallF Tryz.prog 78 #[.string x22] H53 (fun r13 H54=>
  ∃ y9:ByteArray,r13 = .string y9∧∀ b12 H55,Newb H54 (.cells #[.string y9] 9) b12 H55→CallF Tryz.prog 77 #[.pointer (some ⟨b,0,none⟩),.slice (some ⟨b12,0,none⟩) 1 1] H55 (fun r14 H56=>
  r14 = .tuple #[]∧(∃ m11,m11 < m10∧I3 (w64 (t114+1)) H56 m11)) Z) Z)))∧((decide (t114 < (x21.n:Int)))=false →
  (∃ m8,m8 < m7∧I2 (w64 (t103+1)) H51 m8))))∧((x20 == 6)=false→(((x20 == 3)=true→∃ x_a7 x_b7 x_c7:Sl,(hcell H50 ⟨bS,0,none⟩=some (.slice x_a7.a x_a7.n x_a7.c) ∧
  hcell H50 ⟨bS,1,none⟩=some (.slice x_b7.a x_b7.n x_b7.c)∧hcell H50 ⟨bS,2,none⟩=some (.slice x_c7.a x_c7.n x_c7.c) ∧
  True)∧CallF Tryz.prog 79 #[.pointer (some ⟨b,0,none⟩),.agg #[.slice x_a7.a x_a7.n x_a7.c,.slice x_b7.a x_b7.n x_b7.c,.slice x_c7.a x_c7.n x_c7.c]] H50 (fun r15 H57=>
  r15 = .tuple #[]∧∃ x23:ByteArray,hcell H57 ⟨bC1,2,none⟩=some (.string x23)∧∀ b13 H58,Newb H57 (.cells #[.string x23] 9) b13 H58 →
  CallF Tryz.prog 77 #[.pointer (some ⟨b,0,none⟩),.slice (some ⟨b13,0,none⟩) 1 1] H58 (fun r16 H59=>
  r16 = .tuple #[]∧(∃ m8,m8 < m7∧I2 (w64 (t103+1)) H59 m8)) Z) Z)∧((x20 == 3)=false→∃ x24:ByteArray,hcell H50 ⟨bC1,2,none⟩=some (.string x24) ∧
  ∀ b14 H60,Newb H50 (.cells #[.string x24] 9) b14 H60→CallF Tryz.prog 77 #[.pointer (some ⟨b,0,none⟩),.slice (some ⟨b14,0,none⟩) 1 1] H60 (fun r17 H61=>
  r17 = .tuple #[]∧(∃ m8,m8 < m7∧I2 (w64 (t103+1)) H61 m8)) Z)))))))∧((decide (t103 < (y8.n:Int)))=false →
  (∃ m5,m5 < m4∧I1  H48 m5))))))))∧((decide ((x16.n:Int) > 0))=false→K (.pointer (some ⟨b,0,none⟩)) H45))))) Z
def aJ30:Ann:=(fun k=>if k=2000013 then some [] else if k=2000017 then some [] else none)
def aL30:Ann:=(fun k=>if k=5 then some [(23,(.sc (.int .i64)))] else if k=19 then some [] else if k=23 then some [(103,(.sc (.int .i64)))] else if k=28 then some [(114,(.sc (.int .i64)))] else none)
theorem V30_ok {H s_a s_b s_c keep K Z} (h:V30 H s_a s_b s_c keep K Z):CallF Tryz.prog 30 #[.agg #[.slice s_a.a s_a.n s_a.c,.slice s_b.a s_b.n s_b.c,.slice s_c.a s_c.n s_c.c],.slice keep.a keep.n keep.c] H K Z:=
 fnC_sound (aJ:=aJ30) (aL:=aL30) (Eq.mp (by kernel_rfl) h)
def V77 (H:Hp) (x:Addr) (l:Sl) (K:Value→Hp→Prop) (Z:List PanicEntry→Hp→Prop):Prop:=
 ∃ I:Int→Hp→Nat→Prop,(∃ m,I 0 H m)∧∀ (t10:Int),∀ H1 m1,I t10 H1 m1→∀ scr:Nat→Value,(((decide (t10 < (l.n:Int)))=true →
  IxA l.a l.n t10 1 fun ad=>(∃ x1:ByteArray,hcell H1 ad=some (.string x1)∧CallF Tryz.prog 32 #[.string x1] H1 (fun r H2=>
  ∃ y:Bool,r = .bool y∧(((!y)=true→(∃ m2,m2 < m1∧I (w64 (t10+1)) H2 m2))∧((!y)=false →
  CallF Tryz.prog 60 #[.pointer (some x),.string x1] H2 (fun r1 H3=>∃ (y_0:Int) (y_1:Bool),r1 = .tuple #[.int .i64 y_0,.bool y_1] ∧
  ((y_1=true→∃ x2:Sl,hcell H3 (Addr.add x 2)=some (.slice x2.a x2.n x2.c)∧∀ b H4,Newb H3 (.cells #[.string x1] 9) b H4 →
  App Tryz.prog #[27,27] 27 H4 [.slice x2.a x2.n x2.c,.slice (some ⟨b,0,none⟩) 1 1] fun ap H5=>
  (StL (Addr.add x 2) 0 [.slice ap.a ap.n ap.c] H5 fun H6=>(∃ m2,m2 < m1∧I (w64 (t10+1)) H6 m2))) ∧
  (y_1=false→(∃ m2,m2 < m1∧I (w64 (t10+1)) H3 m2)))) Z))) Z))∧((decide (t10 < (l.n:Int)))=false →
  K (.tuple #[]) H1))
def aL77:Ann:=(fun k=>if k=1 then some [(10,(.sc (.int .i64)))] else none)
theorem V77_ok {H x l K Z} (h:V77 H x l K Z):CallF Tryz.prog 77 #[.pointer (some x),.slice l.a l.n l.c] H K Z:=
 fnC_sound (aJ:=fun _=>none) (aL:=aL77) (Eq.mp (by kernel_rfl) h)
def V34 (H:Hp) (x:Addr) (n:ByteArray) (K:Value→Hp→Prop) (Z:List PanicEntry→Hp→Prop):Prop:=
 CallF Tryz.prog 82 #[.pointer (some x),.string n] H (fun r H1=>∃ (y_0:Int) (y_1:Bool),r = .tuple #[.int .i64 y_0,.bool y_1] ∧
  K (.bool y_1) H1) Z
theorem V34_ok {H x n K Z} (h:V34 H x n K Z):CallF Tryz.prog 34 #[.pointer (some x),.string n] H K Z:=
 fnC_sound (aJ:=fun _=>none) (aL:=fun _=>none) (Eq.mp (by kernel_rfl) h)
def V79 (H:Hp) (x:Addr) (s_a s_b s_c:Sl) (K:Value→Hp→Prop) (Z:List PanicEntry→Hp→Prop):Prop:=
 ∀ bS H1,Newb H (.cells #[.slice s_a.a s_a.n s_a.c,.slice s_b.a s_b.n s_b.c,.slice s_c.a s_c.n s_c.c] 26) bS H1 →
  ∃ x1:Sl,hcell H1 ⟨bS,0,none⟩=some (.slice x1.a x1.n x1.c)∧∃ I:Int→Hp→Nat→Prop,(∃ m,I 0 H1 m) ∧
  ∀ (t10:Int),∀ H2 m1,I t10 H2 m1→∀ scr:Nat→Value,(((decide (t10 < (x1.n:Int)))=true →
  IxA x1.a x1.n t10 3 fun ad=>(∃ (x_a x_b:ByteArray) (x_c:Sl),(hcell H2 ad=some (.string x_a) ∧
  hcell H2 (Addr.add ad 1)=some (.string x_b)∧hcell H2 (Addr.add ad 2)=some (.slice x_c.a x_c.n x_c.c) ∧
  True)∧∀ bO H3,Newb H2 (.cells #[.string ⟨#[]⟩,.string ⟨#[]⟩,.slice none 0 0] 52) bO H3→StL ⟨bO,0,none⟩ 0 [.string x_a,.string x_b,.slice x_c.a x_c.n x_c.c] H3 fun H4=>
  (∃ x2:ByteArray,hcell H4 ⟨bO,1,none⟩=some (.string x2)∧∃ I1:Int→Hp→Nat→Prop,(∃ m3,I1 0 H4 m3) ∧
  ∀ (t17:Int),∀ H5 m4,I1 t17 H5 m4→∀ scr1:Nat→Value,(((decide (t17 < (x2.size:Int)))=true →
  ∃ x3:ByteArray,hcell H5 ⟨bO,1,none⟩=some (.string x3)∧IxS x3 t17 fun c=>(((c == 112)=true →
  ∃ x4:ByteArray,hcell H5 ⟨bO,0,none⟩=some (.string x4)∧CallF Tryz.prog 90 #[.string x4,.int .i64 t17] H5 (fun r H6=>
  ∃ y:ByteArray,r = .string y∧∀ b H7,Newb H6 (.cells #[.string y] 9) b H7→CallF Tryz.prog 77 #[.pointer (some x),.slice (some ⟨b,0,none⟩) 1 1] H7 (fun r1 H8=>
  r1 = .tuple #[]∧(∃ m5,m5 < m4∧I1 (w64 (t17+1)) H8 m5)) Z) Z)∧((c == 112)=false→(∃ m5,m5 < m4 ∧
  I1 (w64 (t17+1)) H5 m5))))∧((decide (t17 < (x2.size:Int)))=false→(∃ m2,m2 < m1∧I (w64 (t10+1)) H5 m2)))))) ∧
  ((decide (t10 < (x1.n:Int)))=false→K (.tuple #[]) H2))
def aL79:Ann:=(fun k=>if k=2 then some [(10,(.sc (.int .i64)))] else if k=5 then some [(17,(.sc (.int .i64)))] else none)
theorem V79_ok {H x s_a s_b s_c K Z} (h:V79 H x s_a s_b s_c K Z):CallF Tryz.prog 79 #[.pointer (some x),.agg #[.slice s_a.a s_a.n s_a.c,.slice s_b.a s_b.n s_b.c,.slice s_c.a s_c.n s_c.c]] H K Z:=
 fnC_sound (aJ:=fun _=>none) (aL:=aL79) (Eq.mp (by kernel_rfl) h)
def V78 (H:Hp) (fn:ByteArray) (K:Value→Hp→Prop) (Z:List PanicEntry→Hp→Prop):Prop:=
 CallF Tryz.prog 22 #[.string fn] H (fun r H1=>∃ (y_0_a:Int) (y_0_b:ByteArray) (y_0_c:Int) (y_0_d:ByteArray) (y_0_e y_0_f y_1:Int),r = .tuple #[.agg #[.int .i64 y_0_a,.string y_0_b,.int .i64 y_0_c,.string y_0_d,.int .i64 y_0_e,.int .i64 y_0_f],.int .i64 y_1] ∧
  ∀ bN H2,Newb H1 (.cells #[.int .i64 0,.string ⟨#[]⟩,.int .i64 0,.string ⟨#[]⟩,.int .i64 0,.int .i64 0] 61) bN H2 →
  StL ⟨bN,0,none⟩ 0 [.int .i64 y_0_a,.string y_0_b,.int .i64 y_0_c,.string y_0_d,.int .i64 y_0_e,.int .i64 y_0_f] H2 fun H3=>
  (StL ⟨bN,0,none⟩ 0 [.int .i64 2] H3 fun H4=>(StL ⟨bN,4,none⟩ 0 [.int .i64 0] H4 fun H5=>(∃ (x_a:Int) (x_b:ByteArray) (x_c:Int) (x_d:ByteArray) (x_e x_f:Int),(hcell H5 ⟨bN,0,none⟩=some (.int .i64 x_a) ∧
  hcell H5 ⟨bN,1,none⟩=some (.string x_b)∧hcell H5 ⟨bN,2,none⟩=some (.int .i64 x_c)∧hcell H5 ⟨bN,3,none⟩=some (.string x_d) ∧
  hcell H5 ⟨bN,4,none⟩=some (.int .i64 x_e)∧hcell H5 ⟨bN,5,none⟩=some (.int .i64 x_f)∧True) ∧
  CallF Tryz.prog 81 #[.agg #[.int .i64 x_a,.string x_b,.int .i64 x_c,.string x_d,.int .i64 x_e,.int .i64 x_f]] H5 (fun r1 H6=>
  ∃ (y_0:ByteArray) (y_11:Int),r1 = .tuple #[.string y_0,.int .i64 y_11]∧K (.string y_0) H6) Z)))) Z
theorem V78_ok {H fn K Z} (h:V78 H fn K Z):CallF Tryz.prog 78 #[.string fn] H K Z:=
 fnC_sound (aJ:=fun _=>none) (aL:=fun _=>none) (Eq.mp (by kernel_rfl) h)
def V33 (H:Hp) (x:Addr) (l:Sl) (K:Value→Hp→Prop) (Z:List PanicEntry→Hp→Prop):Prop:=
 ∃ I:Int→Hp→Nat→Prop,(∃ m,I 0 H m)∧∀ (t15:Int),∀ H1 m1,I t15 H1 m1→∀ scr:Nat→Value,(((decide (t15 < (l.n:Int)))=true →
  IxA l.a l.n t15 1 fun ad=>(∃ x1:ByteArray,hcell H1 ad=some (.string x1)∧CallF Tryz.prog 22 #[.string x1] H1 (fun r H2=>
  ∃ (y_0_a:Int) (y_0_b:ByteArray) (y_0_c:Int) (y_0_d:ByteArray) (y_0_e y_0_f y_1:Int),r = .tuple #[.agg #[.int .i64 y_0_a,.string y_0_b,.int .i64 y_0_c,.string y_0_d,.int .i64 y_0_e,.int .i64 y_0_f],.int .i64 y_1] ∧
  ∀ bN H3,Newb H2 (.cells #[.int .i64 0,.string ⟨#[]⟩,.int .i64 0,.string ⟨#[]⟩,.int .i64 0,.int .i64 0] 61) bN H3 →
  StL ⟨bN,0,none⟩ 0 [.int .i64 y_0_a,.string y_0_b,.int .i64 y_0_c,.string y_0_d,.int .i64 y_0_e,.int .i64 y_0_f] H3 fun H4=>
  (((y_1 != 0)=true→(∃ m2,m2 < m1∧I (w64 (t15+1)) H4 m2))∧((y_1 != 0)=false→∃ x2:Int,hcell H4 ⟨bN,5,none⟩=some (.int .i64 x2) ∧
  (((decide (x2≥0))=true→CallF Tryz.prog 80 #[.string x1] H4 (fun r1 H5=>∃ (y_0:ByteArray) (y_11:Int) (y_2:Bool),r1 = .tuple #[.string y_0,.int .i64 y_11,.bool y_2] ∧
  ∃ x3:Sl,hcell H5 x=some (.slice x3.a x3.n x3.c)∧∀ b H6,Newb H5 (.cells #[.string y_0] 9) b H6 →
  App Tryz.prog #[27,27] 27 H6 [.slice x3.a x3.n x3.c,.slice (some ⟨b,0,none⟩) 1 1] fun ap H7=>
  (StL x 0 [.slice ap.a ap.n ap.c] H7 fun H8=>(∃ m2,m2 < m1∧I (w64 (t15+1)) H8 m2))) Z)∧((decide (x2≥0))=false →
  ∃ x4:Int,hcell H4 ⟨bN,0,none⟩=some (.int .i64 x4)∧(((x4 == 2)=true→StL ⟨bN,0,none⟩ 0 [.int .i64 4] H4 fun H9=>
  (StL ⟨bN,4,none⟩ 0 [.int .i64 0] H9 fun H10=>(∃ (x_a:Int) (x_b:ByteArray) (x_c:Int) (x_d:ByteArray) (x_e x_f:Int),(hcell H10 ⟨bN,0,none⟩=some (.int .i64 x_a) ∧
  hcell H10 ⟨bN,1,none⟩=some (.string x_b)∧hcell H10 ⟨bN,2,none⟩=some (.int .i64 x_c)∧hcell H10 ⟨bN,3,none⟩=some (.string x_d) ∧
  hcell H10 ⟨bN,4,none⟩=some (.int .i64 x_e)∧hcell H10 ⟨bN,5,none⟩=some (.int .i64 x_f) ∧
  True)∧CallF Tryz.prog 81 #[.agg #[.int .i64 x_a,.string x_b,.int .i64 x_c,.string x_d,.int .i64 x_e,.int .i64 x_f]] H10 (fun r2 H11=>
  ∃ (y_01:ByteArray) (y_12:Int),r2 = .tuple #[.string y_01,.int .i64 y_12]∧∃ x5:Sl,hcell H11 (Addr.add x 1)=some (.slice x5.a x5.n x5.c) ∧
  ∀ b1 H12,Newb H11 (.cells #[.string y_01] 9) b1 H12→App Tryz.prog #[27,27] 27 H12 [.slice x5.a x5.n x5.c,.slice (some ⟨b1,0,none⟩) 1 1] fun ap1 H13=>
  (StL (Addr.add x 1) 0 [.slice ap1.a ap1.n ap1.c] H13 fun H14=>(∃ m2,m2 < m1∧I (w64 (t15+1)) H14 m2))) Z))) ∧
  ((x4 == 2)=false→∃ x6:Int,hcell H4 ⟨bN,0,none⟩=some (.int .i64 x6)∧(((x6 == 4)=true →
  ∃ x7:Sl,hcell H4 (Addr.add x 1)=some (.slice x7.a x7.n x7.c)∧∀ b2 H15,Newb H4 (.cells #[.string x1] 9) b2 H15 →
  App Tryz.prog #[27,27] 27 H15 [.slice x7.a x7.n x7.c,.slice (some ⟨b2,0,none⟩) 1 1] fun ap2 H16=>
  (StL (Addr.add x 1) 0 [.slice ap2.a ap2.n ap2.c] H16 fun H17=>(∃ m2,m2 < m1∧I (w64 (t15+1)) H17 m2))) ∧
  ((x6 == 4)=false→(∃ m2,m2 < m1∧I (w64 (t15+1)) H4 m2)))))))))) Z))∧((decide (t15 < (l.n:Int)))=false →
  K (.tuple #[]) H1))
def aL33:Ann:=(fun k=>if k=1 then some [(15,(.sc (.int .i64)))] else none)
theorem V33_ok {H x l K Z} (h:V33 H x l K Z):CallF Tryz.prog 33 #[.pointer (some x),.slice l.a l.n l.c] H K Z:=
 fnC_sound (aJ:=fun _=>none) (aL:=aL33) (Eq.mp (by kernel_rfl) h)
def V37 (H:Hp) (o_a o_b:ByteArray) (o_c:Sl) (cap0:Addr) (K:Value→Hp→Prop) (Z:List PanicEntry→Hp→Prop):Prop:=
 ∀ bO H1,Newb H (.cells #[.string o_a,.string o_b,.slice o_c.a o_c.n o_c.c] 52) bO H1→∃ x:Option Addr,hcell H1 cap0=some (.pointer x) ∧
  nilck x fun ad=>(∃ x1:Sl,hcell H1 ad=some (.slice x1.a x1.n x1.c)∧∃ x2:ByteArray,hcell H1 ⟨bO,0,none⟩=some (.string x2) ∧
  CallF Tryz.prog 38 #[.slice x1.a x1.n x1.c,.string x2] H1 (fun r H2=>∃ y:Bool,r = .bool y ∧
  K (.bool (!y)) H2) Z)
theorem V37_ok {H o_a o_b o_c cap0 K Z} (h:V37 H o_a o_b o_c cap0 K Z):CallF Tryz.prog 37 #[.agg #[.string o_a,.string o_b,.slice o_c.a o_c.n o_c.c],.pointer (some cap0)] H K Z:=
 fnC_sound (aJ:=fun _=>none) (aL:=fun _=>none) (Eq.mp (by kernel_rfl) h)
def V41 (H:Hp) (g_a g_b g_c:ByteArray) (cap0:Addr) (K:Value→Hp→Prop) (Z:List PanicEntry→Hp→Prop):Prop:=
 ∀ bG H1,Newb H (.cells #[.string g_a,.string g_b,.string g_c] 56) bG H1→∃ x:Option Addr,hcell H1 cap0=some (.pointer x) ∧
  nilck x fun ad=>(∃ x1:Sl,hcell H1 (Addr.add ad 1)=some (.slice x1.a x1.n x1.c)∧∃ x2:ByteArray,hcell H1 ⟨bG,0,none⟩=some (.string x2) ∧
  CallF Tryz.prog 38 #[.slice x1.a x1.n x1.c,.string x2] H1 (fun r H2=>∃ y:Bool,r = .bool y ∧
  K (.bool (!y)) H2) Z)
theorem V41_ok {H g_a g_b g_c cap0 K Z} (h:V41 H g_a g_b g_c cap0 K Z):CallF Tryz.prog 41 #[.agg #[.string g_a,.string g_b,.string g_c],.pointer (some cap0)] H K Z:=
 fnC_sound (aJ:=fun _=>none) (aL:=fun _=>none) (Eq.mp (by kernel_rfl) h)
def V35 (H:Hp) (s:Sl) (del:Value) (K:Value→Hp→Prop) (Z:List PanicEntry→Hp→Prop):Prop:=
 CallF Tryz.prog 83 #[.slice s.a s.n s.c,del] H (fun r H1=>∃ y:Int,r = .int .i64 y∧(((y == (-1))=true →
  K (.slice s.a s.n s.c) H1)∧((y == (-1))=false→∃ I:Int→Int→Hp→Nat→Prop,(∃ m,I y (w64 (y+1)) H1 m) ∧
  ∀ (i:Int) (j:Int),∀ H2 m1,I i j H2 m1→∀ scr:Nat→Value,(((decide (j < (s.n:Int)))=true →
  IxA s.a s.n j 3 fun ad=>(∃ (x_a x_b:ByteArray) (x_c:Sl),(hcell H2 ad=some (.string x_a) ∧
  hcell H2 (Addr.add ad 1)=some (.string x_b)∧hcell H2 (Addr.add ad 2)=some (.slice x_c.a x_c.n x_c.c) ∧
  True)∧∀ bV H3,Newb H2 (.cells #[.string ⟨#[]⟩,.string ⟨#[]⟩,.slice none 0 0] 52) bV H3→StL ⟨bV,0,none⟩ 0 [.string x_a,.string x_b,.slice x_c.a x_c.n x_c.c] H3 fun H4=>
  (∃ (x_a1 x_b1:ByteArray) (x_c1:Sl),(hcell H4 ⟨bV,0,none⟩=some (.string x_a1) ∧
  hcell H4 ⟨bV,1,none⟩=some (.string x_b1)∧hcell H4 ⟨bV,2,none⟩=some (.slice x_c1.a x_c1.n x_c1.c) ∧
  True)∧callV Tryz.prog del [.agg #[.string x_a1,.string x_b1,.slice x_c1.a x_c1.n x_c1.c]] H4 (fun r1 H5=>
  ∃ y1:Bool,r1 = .bool y1∧(((!y1)=true→∃ (x_a2 x_b2:ByteArray) (x_c2:Sl),(hcell H5 ⟨bV,0,none⟩=some (.string x_a2) ∧
  hcell H5 ⟨bV,1,none⟩=some (.string x_b2)∧hcell H5 ⟨bV,2,none⟩=some (.slice x_c2.a x_c2.n x_c2.c) ∧
  True)∧IxA s.a s.n i 3 fun ad1=>(StL ad1 0 [.string x_a2,.string x_b2,.slice x_c2.a x_c2.n x_c2.c] H5 fun H6=>
  (∃ m2,m2 < m1∧I (w64 (i+1)) (w64 (j+1)) H6 m2)))∧((!y1)=false→(∃ m2,m2 < m1∧I i (w64 (j+1)) H5 m2)))) Z))) ∧
  ((decide (j < (s.n:Int)))=false→(s.n≤s.c∧SlX s.a s.c i (s.n:Int) 3 fun cut=>(Blt Tryz.prog .clear #[22] 0 #[false] H2 [.slice cut.a cut.n cut.c] fun r2 H7=>
  r2 = .tuple #[]∧(s.n≤s.c∧SlX s.a s.c 0 i 3 fun cut1=>(K (.slice cut1.a cut1.n cut1.c) H7))))))))) Z
def aL35:Ann:=(fun k=>if k=5 then some [(5,(.sc (.int .i64))),(6,(.sc (.int .i64)))] else none)
theorem V35_ok {H s del K Z} (h:V35 H s del K Z):CallF Tryz.prog 35 #[.slice s.a s.n s.c,del] H K Z:=
 fnC_sound (aJ:=fun _=>none) (aL:=aL35) (Eq.mp (by kernel_rfl) h)
def V39 (H:Hp) (s:Sl) (del:Value) (K:Value→Hp→Prop) (Z:List PanicEntry→Hp→Prop):Prop:=
 CallF Tryz.prog 85 #[.slice s.a s.n s.c,del] H (fun r H1=>∃ y:Int,r = .int .i64 y∧(((y == (-1))=true →
  K (.slice s.a s.n s.c) H1)∧((y == (-1))=false→∃ I:Int→Int→Hp→Nat→Prop,(∃ m,I y (w64 (y+1)) H1 m) ∧
  ∀ (i:Int) (j:Int),∀ H2 m1,I i j H2 m1→∀ scr:Nat→Value,(((decide (j < (s.n:Int)))=true →
  IxA s.a s.n j 3 fun ad=>(∃ x_a x_b x_c:ByteArray,(hcell H2 ad=some (.string x_a) ∧
  hcell H2 (Addr.add ad 1)=some (.string x_b)∧hcell H2 (Addr.add ad 2)=some (.string x_c)∧True) ∧
  ∀ bV H3,Newb H2 (.cells #[.string ⟨#[]⟩,.string ⟨#[]⟩,.string ⟨#[]⟩] 56) bV H3→StL ⟨bV,0,none⟩ 0 [.string x_a,.string x_b,.string x_c] H3 fun H4=>
  (∃ x_a1 x_b1 x_c1:ByteArray,(hcell H4 ⟨bV,0,none⟩=some (.string x_a1) ∧
  hcell H4 ⟨bV,1,none⟩=some (.string x_b1)∧hcell H4 ⟨bV,2,none⟩=some (.string x_c1)∧True) ∧
  callV Tryz.prog del [.agg #[.string x_a1,.string x_b1,.string x_c1]] H4 (fun r1 H5=>∃ y1:Bool,r1 = .bool y1 ∧
  (((!y1)=true→∃ x_a2 x_b2 x_c2:ByteArray,(hcell H5 ⟨bV,0,none⟩=some (.string x_a2) ∧
  hcell H5 ⟨bV,1,none⟩=some (.string x_b2)∧hcell H5 ⟨bV,2,none⟩=some (.string x_c2)∧True) ∧
  IxA s.a s.n i 3 fun ad1=>(StL ad1 0 [.string x_a2,.string x_b2,.string x_c2] H5 fun H6=>(∃ m2,m2 < m1 ∧
  I (w64 (i+1)) (w64 (j+1)) H6 m2)))∧((!y1)=false→(∃ m2,m2 < m1∧I i (w64 (j+1)) H5 m2)))) Z))) ∧
  ((decide (j < (s.n:Int)))=false→(s.n≤s.c∧SlX s.a s.c i (s.n:Int) 3 fun cut=>(Blt Tryz.prog .clear #[23] 0 #[false] H2 [.slice cut.a cut.n cut.c] fun r2 H7=>
  r2 = .tuple #[]∧(s.n≤s.c∧SlX s.a s.c 0 i 3 fun cut1=>(K (.slice cut1.a cut1.n cut1.c) H7))))))))) Z
def aL39:Ann:=(fun k=>if k=5 then some [(5,(.sc (.int .i64))),(6,(.sc (.int .i64)))] else none)
theorem V39_ok {H s del K Z} (h:V39 H s del K Z):CallF Tryz.prog 39 #[.slice s.a s.n s.c,del] H K Z:=
 fnC_sound (aJ:=fun _=>none) (aL:=aL39) (Eq.mp (by kernel_rfl) h)
def V38 (H:Hp) (s:Sl) (v:ByteArray) (K:Value→Hp→Prop) (Z:List PanicEntry→Hp→Prop):Prop:=
 CallF Tryz.prog 84 #[.slice s.a s.n s.c,.string v] H (fun r H1=>∃ y:Int,r = .int .i64 y∧K (.bool (decide (y≥0))) H1) Z
theorem V38_ok {H s v K Z} (h:V38 H s v K Z):CallF Tryz.prog 38 #[.slice s.a s.n s.c,.string v] H K Z:=
 fnC_sound (aJ:=fun _=>none) (aL:=fun _=>none) (Eq.mp (by kernel_rfl) h)
def V84 (H:Hp) (s:Sl) (v:ByteArray) (K:Value→Hp→Prop) (Z:List PanicEntry→Hp→Prop):Prop:=
 ∃ I:Int→Hp→Nat→Prop,(∃ m,I 0 H m)∧∀ (t8:Int),∀ H1 m1,I t8 H1 m1→∀ scr:Nat→Value,(((decide (t8 < (s.n:Int)))=true →
  IxA s.a s.n t8 1 fun ad=>(∃ x:ByteArray,hcell H1 ad=some (.string x)∧(((beqS v x)=true →
  K (.int .i64 t8) H1)∧((beqS v x)=false→(∃ m2,m2 < m1∧I (w64 (t8+1)) H1 m2)))))∧((decide (t8 < (s.n:Int)))=false →
  K (.int .i64 (-1)) H1))
def aL84:Ann:=(fun k=>if k=2 then some [(8,(.sc (.int .i64)))] else none)
theorem V84_ok {H s v K Z} (h:V84 H s v K Z):CallF Tryz.prog 84 #[.slice s.a s.n s.c,.string v] H K Z:=
 fnC_sound (aJ:=fun _=>none) (aL:=aL84) (Eq.mp (by kernel_rfl) h)
end Go.Proofs.YtjdhjgfmloaglaaGreatDoor.N23
end
section
namespace Go.Proofs.YtjdhjgfmloaglaaGreatDoor.C23
open Go Go.V Go.Proofs N23 P14 C14 P15 C15 P23
attribute [local irreducible] Cvt ExtF CallF hrun App MkS callV Lkp MUp
theorem putN_len (T:List L8) (n:L8):(putN T n).length≤T.length+1:=by
 unfold putN
 split
 ·rw [List.length_append];exact Nat.le_refl _
 ·omega
theorem putAll_len:∀ (l T:List L8),(putAll T l).length≤T.length+l.length
 | [],T=>Nat.le_refl _
 | n::l,T=>by
  rw [putAll_cons]
  have:=putAll_len l (putN T n)
  have:=putN_len T n
  rw [List.length_cons]
  omega
theorem putAll_ge (T l:List L8):T.length≤(putAll T l).length:=by
 obtain ⟨w,h⟩:=putAll_pre l T
 rw [h,List.length_append]
 omega
abbrev nT (bX:Nat) (cs:List Value) (ts:List ByteArray) (os:List Nat):It:=tbI C05S.val C05S.lt 9 3 bX 0 129 cs ts os
def NS (H0 A:Hp) (bX:Nat) (T:List L8) (d:Nat) (R:List It):Prop:=
 ∃ (cs:List Value) (os:List Nat) (fr:Sl),Sym H0 no A (nT bX cs (T.map str) os::qarr flL 9 1 fr (T.drop d)::R)∧cs.length=3∧cs[2]? = some (.slice fr.a fr.n fr.c)
section
variable {H0 A B:Hp}{bX d:Nat}{T:List L8}{R:List It}{K:Value→Hp→Prop}{Z:List PanicEntry→Hp→Prop}
theorem NS.more (h:NS H0 A bX T d R) (hf:Fr no A B):NS H0 B bX T d R:=by
 obtain ⟨cs,os,fr,s,h1,h2⟩:=h
 exact ⟨cs,os,fr,s.more hf,h1,h2⟩
theorem NS.fr (h:NS H0 A bX T d R):Fr no H0 A:=by
 obtain ⟨cs,os,fr,s,h1,h2⟩:=h
 exact s.fr
theorem NS.new (h:Sym H0 no A R) (hn:Newb A (.cells #[.slice none 0 0,.slice none 0 0,.slice none 0 0] 129) bX B):NS H0 B bX [] 0 R:=by
 have hno:∀ i,¬ tOwn [.slice none 0 0,.slice none 0 0,.slice none 0 0] 0 i:=by
  rintro i ⟨o,n,c,h | h⟩ <;> simp at h
 have s0:=h.new (b:=nT bX [.slice none 0 0,.slice none 0 0,.slice none 0 0] [] []) hn.fr ⟨hn.blk,⟨⟨none,0,0⟩,⟨none,0,0⟩,rfl,rfl,Row.nil _ _ _,Row.nil _ _ _,(by intro g o e;cases e),(by rintro i ⟨o,e⟩;cases e)⟩,hno bX,Tbl.nil⟩ (by
  rintro i (rfl | hi)
  ·have:=hn.eq;omega
  ·exact absurd hi (hno i))
 exact ⟨_,[],⟨none,0,0⟩,(s0.nilq flL 9 1).swap,rfl,rfl⟩
theorem NS.perm {R':List It}(h:NS H0 A bX T d R) (hp:R.Perm R'):NS H0 A bX T d R':=by
 obtain ⟨cs,os,fr,s,h1,h2⟩:=h
 exact ⟨cs,os,fr,s.perm ((hp.cons _).cons _),h1,h2⟩
theorem NS.sub {R':List It}(h:NS H0 A bX T d R) (hp:R'.Sublist R):NS H0 A bX T d R':=by
 obtain ⟨cs,os,fr,s,h1,h2⟩:=h
 exact ⟨cs,os,fr,s.sub ((hp.cons_cons _).cons_cons _),h1,h2⟩
theorem NS.dropR {a:It}(h:NS H0 A bX T d (a::R)):NS H0 A bX T d R:=h.sub (List.sublist_cons_self _ _)
theorem NS.add {a:It}(h:NS H0 A bX T d R) (hf:Fr no A B) (ha:a.ok B) (hp:∀ i,a.fp i→A.size≤i):NS H0 B bX T d (a::R):=by
 obtain ⟨cs,os,fr,s,h1,h2⟩:=h
 have s1:=s.new hf ha hp
 exact ⟨cs,os,fr,s1.perm ((List.Perm.swap _ _ _).trans ((List.Perm.swap _ _ _).cons _)),h1,h2⟩
theorem NS.lit {ns:List L8}{b:Nat}(h:NS H0 A bX T d R) (hn:Newb A (.cells (flat flL ns).toArray 9) b B):NS H0 B bX T d (arr flL 9 1 ⟨some ⟨b,0,none⟩,ns.length,ns.length⟩ ns::R):=by
 obtain ⟨cs,os,fr,s,h1,h2⟩:=h
 have s1:=s.lit FlL (by decide) hn (show ns.length=_ from rfl)
 exact ⟨cs,os,fr,s1.perm ((List.Perm.swap _ _ _).trans ((List.Perm.swap _ _ _).cons _)),h1,h2⟩
theorem NS.newb {b:Nat}{cs:List Value}{E:TypeId}(h:NS H0 A bX T d R) (hn:Newb A (.cells cs.toArray E) b B):NS H0 B bX T d (blk b cs E::R):=
 h.add hn.fr hn.blk fun i hi=>by have:=hn.eq;have:i=b:=hi;omega
theorem nput_ok {l:Sl}{ns:List L8}(h:NS H0 A bX T d R) (hd:d≤T.length) (hr:∀ {B T' cs os fr F},Sym H0 no B (nT bX cs T' os::qarr flL 9 1 fr F::R)→Rd flL 1 B l ns) (hs:∀ n∈ns,n.length≤1048576) (hT:T.length+ns.length≤1900000) (ht:Pw H0)
  (k:∀ B,NS H0 B bX (putAll T ns) d R→K (.tuple #[]) B):CallF Tryz.prog 77 #[.pointer (some ⟨bX,0,none⟩),.slice l.a l.n l.c] A K Z:=by
 refine V77_ok ?_
 unfold V77
 refine ⟨fun i B m=>∃ j:Nat,i=(j:Int)∧j≤ns.length∧m=ns.length - j∧NS H0 B bX (putAll T (ns.take j)) d R,⟨_,0,rfl,Nat.zero_le _,rfl,by rw [List.take_zero];exact h⟩,?_⟩
 rintro i B m ⟨j,rfl,hj,rfl,hN⟩ scr
 have hN0:=hN
 obtain ⟨cs,os,fr,s,c3,c2⟩:=hN
 have hrB:=hr s
 have ln:=hrB.len
 refine ⟨fun hlt=>?_,fun hge=>?_⟩
 ·have hj':j < ns.length:=by have:=dlt hlt;omega
  obtain ⟨n,hn,hnm⟩:=getN hj'
  have hsn:putAll T (ns.take (j+1))=putN (putAll T (ns.take j)) n:=by
   rw [List.take_add_one,hn,putAll_app]
   rfl
  have hl1:=putAll_len (ns.take j) T
  have hl2:=putAll_ge T (ns.take j)
  rw [List.length_take] at hl1
  generalize putAll T (ns.take j)=T1 at hN0 s hsn hl1 hl2
  refine atL hrB hn fun ad e=>⟨_,e,node_ok (hs n hnm) (TabH.more ht s.fr) fun C fC=>⟨_,rfl,fun hno=>?_,fun hyes=>?_⟩⟩
  ·refine ⟨ns.length - (j+1),by omega,j+1,wi (by omega),hj',rfl,?_⟩
   have hb:nodeB n=false:=by simpa using hno
   rw [hsn]
   unfold putN
   rw [if_neg (fun h=>by rw [hb] at h;cases h.1)]
   exact hN0.more fC
  ·have hb:nodeB n=true:=by simpa using hyes
   have sC:=s.more fC
   have htb:TbS C05S.val C05S.lt 9 3 C bX 0 129 cs (T1.map str) os:=sC.get (k:=0) rfl
   refine C05S.put_ok htb (by rw [List.length_map];omega) (fun q D hq hD=>?_) (fun D cs' os' hno hD=>?_)
   ·have hin:n∈T1:=by
     rw [List.getElem?_map] at hq
     cases hx:T1[q]? with
     | none=>rw [hx] at hq;cases hq
     | some y=>
      rw [hx] at hq
      have:y=n:=str_inj (by simpa using hq)
      rw [← this]
      exact List.mem_of_getElem? hx
    refine ⟨_,_,rfl,(fun h=>by cases h),fun _=>⟨ns.length - (j+1),by omega,j+1,wi (by omega),hj',rfl,?_⟩⟩
    rw [hsn]
    unfold putN
    rw [if_neg (fun h=>h.2 hin)]
    exact ⟨cs,os,fr,sC.tb (k:=0) rfl hD,c3,c2⟩
   ·have hout:n∉T1:=fun h=>hno (List.mem_map.2 ⟨n,h,rfl⟩)
    have sD:=sC.tb (k:=0) rfl hD
    replace sD:Sym H0 no D (nT bX cs' (T1.map str ++ [str n]) os'::qarr flL 9 1 fr (T1.drop d)::R):=sD
    have g3:cs'.length=3:=hD.len.trans c3
    have g2:cs'[2]? = some (.slice fr.a fr.n fr.c):=(hD.rest 2 (by decide) (by decide)).trans c2
    have hfl:=(sD.rdq (k:=1) FlL (by decide) rfl).len
    rw [List.length_drop] at hfl
    refine ⟨_,_,rfl,fun _=>⟨fr,?_,fun b E hE=>?_⟩,(fun h=>by cases h)⟩
    ·rw [add_mk,Nat.zero_add]
     exact ((sD.get (k:=0) rfl:TbS C05S.val C05S.lt 9 3 D bX 0 129 cs' (T1.map str ++ [str n]) os').blk.ld 2).trans g2
    ·refine Sym.appq1 (k:=1) (x:=n) tyTs sD FlL (by decide) hE rfl (by omega) fun ap F hap sF=>?_
     replace sF:Sym H0 no F (nT bX cs' (T1.map str ++ [str n]) os'::qarr flL 9 1 ap (T1.drop d ++ [n])::R):=sF
     rw [add_mk,Nat.zero_add]
     refine sF.tbset (k:=0) (i:=2) rfl (by omega) (by decide) (by decide) rfl fun G sG=>⟨ns.length - (j+1),by omega,j+1,wi (by omega),hj',rfl,?_⟩
     rw [hsn]
     unfold putN
     rw [if_pos ⟨hb,hout⟩]
     refine ⟨cs'.set 2 (.slice ap.a ap.n ap.c),os',ap,?_,by rw [List.length_set];exact g3,List.getElem?_set_self (by omega)⟩
     rw [List.map_append,List.drop_append_of_le_length (by omega)]
     exact sG
 ·rw [List.take_of_length_le (by have:=dge hge;omega)] at hN0
  exact k B hN0
theorem nputL_ok {ns:List L8}{b:Nat}(h:NS H0 A bX T d R) (hd:d≤T.length) (hn:Newb A (.cells (flat flL ns).toArray 9) b B) (hs:∀ n∈ns,n.length≤1048576) (hT:T.length+ns.length≤1900000) (ht:Pw H0)
  (k:∀ C,NS H0 C bX (putAll T ns) d R→K (.tuple #[]) C):CallF Tryz.prog 77 #[.pointer (some ⟨bX,0,none⟩),.slice (some ⟨b,0,none⟩) ns.length ns.length] B K Z:=
 nput_ok (l:=⟨some ⟨b,0,none⟩,ns.length,ns.length⟩) (h.lit hn) hd (fun s=>s.rd (k:=2) FlL (by decide) rfl) hs hT ht fun C hC=>k C hC.dropR
theorem formal0_ok {f:L8}(hl:f.length≤1048576) (ht:Pw A) (k:∀ B,Fr no A B→K (.string (str (f0L f))) B):CallF Tryz.prog 78 #[.string (str f)] A K Z:=by
 refine V78_ok ?_
 unfold V78
 refine readX_ok hl ht fun B fB=>⟨_,_,_,_,_,_,_,rfl,fun bN C hC=>?_⟩
 have sC:=(Sym.start B).newb (cs:=[.int .i64 0,.string ⟨#[]⟩,.int .i64 0,.string ⟨#[]⟩,.int .i64 0,.int .i64 0]) hC
 refine sC.stbs (k:=0) (i:=0) (vs:=ndV (rres (readN f)).1) rfl (by simp [ndV]) (ndV_one _) fun D sD=>?_
 replace sD:Sym B no D [blk bN (ndV (rres (readN f)).1) 61]:=sD
 refine sD.stbs (k:=0) (i:=0) (vs:=[.int .i64 2]) rfl (by simp [ndV]) (fun v hv=>by rw [List.mem_singleton.1 hv];rfl) fun E sE=>?_
 replace sE:Sym B no E [blk bN (ndV { (rres (readN f)).1 with kind:=2 }) 61]:=sE
 refine sE.stbs (k:=0) (i:=4) (vs:=[.int .i64 0]) rfl (by simp [ndV]) (fun v hv=>by rw [List.mem_singleton.1 hv];rfl) fun F sF=>?_
 replace sF:Sym B no F [blk bN (ndV { (rres (readN f)).1 with kind:=2,n:=0 }) 61]:=sF
 have hsm:Sm { (rres (readN f)).1 with kind:=2,n:=0 }:=by
  cases hr:readN f with
  | none=>exact ⟨by simp [rres,zN],by simp [rres,zN]⟩
  | some a=>exact ⟨(read_sm hl hr).1,(read_sm hl hr).2⟩
 refine ⟨_,_,_,_,_,_,⟨sF.ld (k:=0) rfl 0,sF.ld (k:=0) rfl 1,sF.ld (k:=0) rfl 2,sF.ld (k:=0) rfl 3,sF.ld (k:=0) rfl 4,sF.ld (k:=0) rfl 5,trivial⟩,ntext_ok hsm (TabH.more ht (fB.trans sF.fr)) fun G fG=>?_⟩
 have kk:=k G (fB.trans (sF.fr.trans fG))
 unfold f0L ofL rd at kk
 split
 ·rename_i hR
  rw [if_pos hR] at kk
  exact ⟨_,_,rfl,kk⟩
 ·rename_i hR
  rw [if_neg hR] at kk
  exact ⟨_,_,rfl,kk⟩
end
end Go.Proofs.YtjdhjgfmloaglaaGreatDoor.C23
end
section
namespace Go.V
attribute [local irreducible] Lkp MUp
section
variable {τ : Type}{fl : τ→List Value}{sz:Nat}
variable {H0 H H':Hp}{S:Nat→Prop}{Pre:List It}{P:Program}{t kt et T E:TypeId}{r:Nat}{kvl:List ((L8 × Sl) × List τ)}{q:L8}{y:Sl}
theorem Sym.feedW {ty b:Nat}{by':Nat}{z:Value}{x : τ}{K:Hp→Prop}{W:Sl→Hp→Prop}(ht:TyS P T E sz by' z) (h:Sym H0 S H (Pre++mapI slV r (keysL kvl)::rowsI fl E sz kvl)) (hf:Fl fl sz) (hsz:0 < sz) (hy:AtK kvl q y) (hn:Newb H (.cells (fl x).toArray E) b H')
  (hu:P.underlying t=some (.map kt et)) (hk:P.underlying kt=some .string) (hl:((lookL kvl q).length+1)*by'≤140737488355328)
  (kk:∀ kvl' H',Sym H0 S H' (Pre++mapI slV r (keysL kvl')::rowsI fl E sz kvl')→(∀ z,lookL kvl' z=if z=q then lookL kvl q ++ [x] else lookL kvl z)→K H')
  (hW:∀ ap H3,(∀ a∈Pre,a.ok H3)→Fr S H0 H3→MUp P t H3 (.map (some r)) (.string (str q)) (.slice ap.a ap.n ap.c) K→W ap H3) :
  App P #[T,T] ty H' [.slice y.a y.n y.c,.slice (some ⟨b,0,none⟩) 1 1] W:=by
 have hlen:y.n=(lookL kvl q).length:=(h.asked hf hsz hy).len
 rcases hy with ⟨i,l,h1,h2,h3⟩ | ⟨h1,h2,h3,h4⟩
 ·rw [h3] at hlen hl kk
  refine Sym.app1 (k:=Pre.length+1+i) ht h hf hsz hn (pre_row h2) (by rw [hlen];exact hl) fun ap H3 _ s3=>?_
  have e1:(Pre++mapI slV r (keysL kvl)::rowsI fl E sz kvl).set (Pre.length+1+i) (arr fl E sz ap (l ++ [x]))=Pre++mapI slV r (keysL kvl)::(rowsI fl E sz kvl).set i (arr fl E sz ap (l ++ [x])):=by
   rw [List.set_append_right _ _ (by omega),show Pre.length+1+i - Pre.length=i+1 by omega,List.set_cons_succ]
  rw [e1] at s3
  refine hW ap H3 (fun a ha=>s3.ok a (List.mem_append.2 (.inl ha))) s3.fr ?_
  refine Sym.mup (k:=Pre.length) (v:=ap) s3 pre_at hu hk fun H4 s4=>?_
  have e2:putK (keysL kvl) q ap=keysL (kvl.set i ((q,ap),l ++ [x])):=by
   unfold putK
   rw [h1]
   unfold keysL
   rw [List.map_set]
  have e3:(rowsI fl E sz kvl).set i (arr fl E sz ap (l ++ [x]))=rowsI fl E sz (kvl.set i ((q,ap),l ++ [x])):=by
   unfold rowsI
   rw [List.map_set]
  rw [List.set_append_right _ _ (by omega),Nat.sub_self,List.set_cons_zero,e2,e3] at s4
  exact kk _ H4 s4 fun z=>by
   have:=look_set (v:=ap) (l':=l ++ [x]) h1 z
   rw [Nat.sub_zero] at this
   exact this
 ·rw [h3] at hl kk
  subst h2
  have s0:=h.nilrow fl E sz
  refine Sym.app1 (k:=0) ht s0 hf hsz hn rfl (by simpa using hl) fun ap H3 _ s3=>?_
  replace s3:Sym H0 S H3 (arr fl E sz ap ([] ++ [x])::(Pre++mapI slV r (keysL kvl)::rowsI fl E sz kvl)):=s3
  refine hW ap H3 (fun a ha=>s3.ok a (List.mem_cons_of_mem _ (List.mem_append.2 (.inl ha)))) s3.fr ?_
  refine Sym.mup (k:=Pre.length+1) (v:=ap) s3 (by rw [List.getElem?_cons_succ];exact pre_at) hu hk fun H4 s4=>?_
  have e2:putK (keysL kvl) q ap=keysL (kvl ++ [((q,ap),[x])]):=by
   unfold putK
   rw [h1]
   unfold keysL
   rw [List.map_append]
   rfl
  have e3:rowsI fl E sz (kvl ++ [((q,ap),[x])])=rowsI fl E sz kvl ++ [arr fl E sz ap [x]]:=by
   unfold rowsI
   rw [List.map_append]
   rfl
  rw [List.set_cons_succ,List.set_append_right _ _ (by omega),Nat.sub_self,List.set_cons_zero,e2] at s4
  have s5:Sym H0 S H4 (Pre++mapI slV r (keysL (kvl ++ [((q,ap),[x])]))::rowsI fl E sz (kvl ++ [((q,ap),[x])])):=by
   rw [e3]
   have:Pre++mapI slV r (keysL (kvl ++ [((q,ap),[x])]))::(rowsI fl E sz kvl ++ [arr fl E sz ap [x]])=(Pre++mapI slV r (keysL (kvl ++ [((q,ap),[x])]))::rowsI fl E sz kvl) ++ [arr fl E sz ap [x]]:=by simp
   rw [this]
   exact s4.perm (List.perm_append_singleton _ _).symm
  exact kk _ H4 s5 (look_push h4)
end
end Go.V
end
section
namespace Go.Proofs.YtjdhjgfmloaglaaGreatDoor.C23
open Go Go.V Go.Proofs N23 P14 C14 P15 C15 P23
attribute [local irreducible] Cvt ExtF CallF hrun App MkS callV Lkp MUp
section
variable {H0 A B:Hp}{bX d:Nat}{T:List L8}{R:List It}{K:Value→Hp→Prop}{Z:List PanicEntry→Hp→Prop}
theorem NS.ldk {b k:Nat}{cs:List Value}{E:TypeId}(h:NS H0 A bX T d R) (hk:R[k]? = some (blk b cs E)) (i:Nat):hcell A ⟨b,i,none⟩=cs[i]?:=by
 obtain ⟨_,_,_,s,_⟩:=h
 exact s.ld (k:=k+2) hk i
theorem NS.stk {b k i:Nat}{cs vs:List Value}{E:TypeId}{K:Hp→Prop}(h:NS H0 A bX T d R) (hk:R[k]? = some (blk b cs E)) (hi:i+vs.length≤cs.length) (hv:∀ v∈vs,v.oneCell=true)
  (kk:∀ B,NS H0 B bX T d (R.set k (blk b (setsL cs i vs) E))→K B):StL ⟨b,i,none⟩ 0 vs A K:=by
 obtain ⟨cs',os,fr,s,h1,h2⟩:=h
 exact s.stbs (k:=k+2) hk hi hv fun B sB=>kk B ⟨cs',os,fr,sB,h1,h2⟩
theorem objN_len {x:SysD}(hx:Right x) {y:ObjD}(hy:y∈x.objs):(objN y).length≤64:=Nat.le_trans (cellsN_len y y.kinds.length) (hx.o.2 y hy)
theorem objs_len {x:SysD}(hx:Right x) (j:Nat):((x.objs.take j).flatMap objN).length≤38400:=by
 have h1:=flat_le (l:=x.objs.take j) (n:=64) (f:=objN) fun y hy=>objN_len hx (List.mem_of_mem_take hy)
 have h2:=List.length_take_le j x.objs
 have h3:=hx.o.1
 rw [List.length_take] at *
 omega
theorem put1_ok {n:L8}{b:Nat}(h:NS H0 A bX T d R) (hd:d≤T.length) (hn:Newb A (.cells #[.string (str n)] 9) b B) (hs:n.length≤1048576) (hT:T.length≤1800000) (ht:Pw H0)
  (k:∀ C,NS H0 C bX (putAll T [n]) d R→K (.tuple #[]) C):CallF Tryz.prog 77 #[.pointer (some ⟨bX,0,none⟩),.slice (some ⟨b,0,none⟩) 1 1] B K Z:=
 nputL_ok (ns:=[n]) h hd hn (fun m hm=>by rw [List.mem_singleton.1 hm];exact hs) (by rw [List.length_singleton];omega) ht k
theorem npoint_ok {s1 s2 s3:Sl}{x:SysD}(h:NS H0 A bX T d R) (hd:d≤T.length) (hr:RdSys H0 s1 s2 s3 x) (hx:OkSys x) (hR:Right x) (hT:T.length≤1000000) (ht:Pw H0)
  (k:∀ B,NS H0 B bX (putAll T (x.objs.flatMap objN)) d R→K (.tuple #[]) B):CallF Tryz.prog 79 #[.pointer (some ⟨bX,0,none⟩),sAg s1 s2 s3] A K Z:=by
 refine V79_ok ?_
 unfold V79
 intro bS A1 hA1
 have hN:=h.newb (cs:=sL s1 s2 s3) hA1
 have n1:=RdX.len hr.o
 have n0:=hR.o.1
 refine ⟨s1,hN.ldk (k:=0) rfl 0,fun i B m=>∃ j:Nat,i=(j:Int)∧j≤x.objs.length∧m=x.objs.length - j∧NS H0 B bX (putAll T ((x.objs.take j).flatMap objN)) d (blk bS (sL s1 s2 s3) 26::R),⟨_,0,rfl,Nat.zero_le _,rfl,hN⟩,?_⟩
 rintro i B m ⟨j,rfl,hj,rfl,hB⟩ scr
 have hl0:=objs_len hR j
 have hl1:=putAll_len ((x.objs.take j).flatMap objN) T
 have hl2:=putAll_ge T ((x.objs.take j).flatMap objN)
 refine ⟨fun hlt=>?_,fun hge=>?_⟩
 ·have hj':j < x.objs.length:=by have:=dlt hlt;omega
  obtain ⟨y,hy,hym⟩:=getN hj'
  obtain ⟨t,hta,ix⟩:=atO hr.o hy
  have hkinds:=hR.o.2 y hym
  have hsn:putAll T ((x.objs.take (j+1)).flatMap objN)=putAll (putAll T ((x.objs.take j).flatMap objN)) (objN y):=by rw [flat_snoc (f:=objN) hy,putAll_app]
  have fB:=hB.fr
  generalize putAll T ((x.objs.take j).flatMap objN)=T1 at hB hsn hl1 hl2
  refine ix fun ad e1 e2 e3=>⟨_,_,t,⟨lf fB e1,lf fB e2,lf fB e3,trivial⟩,fun bO C hC=>?_⟩
  have hN1:=hB.newb (cs:=[.string ⟨#[]⟩,.string ⟨#[]⟩,.slice none 0 0]) hC
  refine hN1.stk (k:=0) (i:=0) (vs:=oL y t) rfl (by simp) (FlHO.2 (HO.of y t)) fun D hD=>?_
  replace hD:NS H0 D bX T1 d (blk bO (oL y t) 52::blk bS (sL s1 s2 s3) 26::R):=hD
  refine ⟨_,hD.ldk (k:=0) rfl 1,fun i E m=>∃ q:Nat,i=(q:Int)∧q≤y.kinds.length∧m=y.kinds.length - q∧NS H0 E bX (putAll T1 (cellsN y q)) d (blk bO (oL y t) 52::blk bS (sL s1 s2 s3) 26::R),⟨_,0,rfl,Nat.zero_le _,rfl,hD⟩,?_⟩
  rw [str_size]
  rintro i E m ⟨q,rfl,hq,rfl,hE⟩ scr2
  refine ⟨fun hlt2=>⟨_,hE.ldk (k:=0) rfl 1,?_⟩,fun hge2=>?_⟩
  ·have hq':q < y.kinds.length:=dlt hlt2
   have hz:y.kinds[q]? = some y.kinds[q]:=List.getElem?_eq_getElem hq'
   generalize y.kinds[q]=z at hz
   have hnx:=cellsN_next y q
   have hc1:=cellsN_len y q
   have hc2:=putAll_len (cellsN y q) T1
   have hc3:=putAll_ge T1 (cellsN y q)
   refine IxS.mk hz ⟨fun hp=>⟨_,hE.ldk (k:=0) rfl 0,cell_ok (hx.o.2 y hym).1 (TabH.more ht hE.fr) fun G fG=>⟨_,rfl,fun b2 L hL=>put1_ok (n:=cellL y.name (q:Int)) (hE.more fG) (by omega) hL (by have:=cell_short y.name (q:Int);omega) (by omega) ht fun M hM=>⟨rfl,y.kinds.length - (q+1),by omega,q+1,wi (by omega),hq',rfl,?_⟩⟩⟩,fun hp=>⟨y.kinds.length - (q+1),by omega,q+1,wi (by omega),hq',rfl,?_⟩⟩
   ·have hb:z=112:=(u8_is (n:=112) (by decide)).1 hp
    rw [hz,hb,if_pos rfl] at hnx
    rw [hnx,putAll_app]
    exact hM
   ·have hb:z≠112:=fun e=>by subst e;cases hp
    rw [hz,if_neg (fun h=>hb (Option.some_inj.1 h)),List.append_nil] at hnx
    rw [hnx]
    exact hE
  ·have hqe:q=y.kinds.length:=by have:=dge hge2;omega
   refine ⟨x.objs.length - (j+1),by omega,j+1,wi (by omega),hj',rfl,?_⟩
   rw [hsn]
   rw [hqe] at hE
   exact hE.dropR
 ·have hje:j=x.objs.length:=by have:=dge hge;omega
  rw [hje,List.take_length] at hB
  exact k B hB.dropR
end
end Go.Proofs.YtjdhjgfmloaglaaGreatDoor.C23
end
