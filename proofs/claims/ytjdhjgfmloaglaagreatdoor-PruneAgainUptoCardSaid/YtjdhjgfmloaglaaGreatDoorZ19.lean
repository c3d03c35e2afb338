import Derived.Test.YtjdhjgfmloaglaaGreatDoorZ18
import Derived.Test.YtjdhjgfmloaglaaGreatDoorProg
set_option linter.unusedVariables false
set_option linter.unusedSimpArgs false
section
set_option maxRecDepth 100000
namespace Go.Proofs.YtjdhjgfmloaglaaGreatDoor.N16R
open Go Go.V Go.Proofs
def V136 (H:Hp) (l:Sl) (o_a o_b:ByteArray) (o_c:Sl) (K:Value→Hp→Prop) (Z:List PanicEntry→Hp→Prop):Prop:=
 ∀ bO H1,Newb H (.cells #[.string o_a,.string o_b,.slice o_c.a o_c.n o_c.c] 52) bO H1→∃ J:Int →
  Hp→Prop,(∀ (k:Int),∀ H2,J k H2→∀ scr:Nat→Value,∀ b H3,Newb H2 (.cells #[] 54) b H3 →
  ∃ x:Sl,hcell H3 ⟨bO,2,none⟩=some (.slice x.a x.n x.c)∧App Tryz.prog #[50,50] 50 H3 [.slice (some ⟨b,0,none⟩) 0 0,.slice x.a x.n x.c] fun ap H4=>
  (StL ⟨bO,2,none⟩ 0 [.slice ap.a ap.n ap.c] H4 fun H5=>(∀ b1 H6,Newb H5 (.cells #[] 52) b1 H6 →
  (l.n≤l.c∧SlX l.a l.c 0 k 3 fun cut=>(App Tryz.prog #[22,22] 22 H6 [.slice (some ⟨b1,0,none⟩) 0 0,.slice cut.a cut.n cut.c] fun ap1 H7=>
  (∃ (x_a x_b:ByteArray) (x_c:Sl),(hcell H7 ⟨bO,0,none⟩=some (.string x_a) ∧
  hcell H7 ⟨bO,1,none⟩=some (.string x_b)∧hcell H7 ⟨bO,2,none⟩=some (.slice x_c.a x_c.n x_c.c) ∧
  True)∧∀ b2 H8,Newb H7 (.cells #[.string x_a,.string x_b,.slice x_c.a x_c.n x_c.c] 52) b2 H8 →
  App Tryz.prog #[22,22] 22 H8 [.slice ap1.a ap1.n ap1.c,.slice (some ⟨b2,0,none⟩) 1 1] fun ap2 H9=>
  (l.n≤l.c∧SlX l.a l.c k (l.n:Int) 3 fun cut1=>(App Tryz.prog #[22,22] 22 H9 [.slice ap2.a ap2.n ap2.c,.slice cut1.a cut1.n cut1.c] fun ap3 H10=>
  (K (.slice ap3.a ap3.n ap3.c) H10)))))))))∧∃ I:Int→Hp→Nat→Prop,(∃ m,I 0 H1 m)∧∀ (k1:Int),∀ H11 m1,I k1 H11 m1 →
  ∀ scr1:Nat→Value,(((decide (k1 < (l.n:Int)))=true→IxA l.a l.n k1 3 fun ad=>(∃ x1:ByteArray,hcell H11 ad=some (.string x1) ∧
  ∃ x2:ByteArray,hcell H11 ⟨bO,0,none⟩=some (.string x2)∧((((ltS x1 x2) || (beqS x1 x2))=true →
  IxA l.a l.n k1 3 fun ad1=>(∃ (x_a1 x_b1:ByteArray) (x_c1:Sl),(hcell H11 ad1=some (.string x_a1) ∧
  hcell H11 (Addr.add ad1 1)=some (.string x_b1)∧hcell H11 (Addr.add ad1 2)=some (.slice x_c1.a x_c1.n x_c1.c) ∧
  True)∧∃ (x_a2 x_b2:ByteArray) (x_c2:Sl),(hcell H11 ⟨bO,0,none⟩=some (.string x_a2) ∧
  hcell H11 ⟨bO,1,none⟩=some (.string x_b2)∧hcell H11 ⟨bO,2,none⟩=some (.slice x_c2.a x_c2.n x_c2.c) ∧
  True)∧CallF Tryz.prog 42 #[.agg #[.string x_a1,.string x_b1,.slice x_c1.a x_c1.n x_c1.c],.agg #[.string x_a2,.string x_b2,.slice x_c2.a x_c2.n x_c2.c]] H11 (fun r H12=>
  ∃ y:Bool,r = .bool y∧((y=true→K (.slice l.a l.n l.c) H12)∧(y=false→(∃ m2,m2 < m1 ∧
  I (w64 (k1+1)) H12 m2)))) Z))∧(((ltS x1 x2) || (beqS x1 x2))=false→(J k1 H11)))))∧((decide (k1 < (l.n:Int)))=false →
  (J k1 H11)))
def aJ136:Ann:=(fun k=>if k=6 then some [(5,(.sc (.int .i64)))] else none)
def aL136:Ann:=(fun k=>if k=2 then some [(5,(.sc (.int .i64)))] else none)
theorem V136_ok {H l o_a o_b o_c K Z} (h:V136 H l o_a o_b o_c K Z):CallF Tryz.prog 136 #[.slice l.a l.n l.c,.agg #[.string o_a,.string o_b,.slice o_c.a o_c.n o_c.c]] H K Z:=
 fnC_sound (aJ:=aJ136) (aL:=aL136) (Eq.mp (by kernel_rfl) h)
def V138 (H:Hp) (l:Sl) (c_a:Int) (c_b c_c:ByteArray) (c_d:Int) (c_e:ByteArray) (c_f:Sl) (K:Value→Hp→Prop) (Z:List PanicEntry→Hp→Prop):Prop:=
 ∀ bC H1,Newb H (.cells #[.int .i64 c_a,.string c_b,.string c_c,.int .i64 c_d,.string c_e,.slice c_f.a c_f.n c_f.c] 36) bC H1 →
  ∃ J:Int→Hp→Prop,(∀ (k:Int),∀ H2,J k H2→∀ scr:Nat→Value,∃ J1:Hp→Prop,(∀ H3,J1  H3 →
  ∀ scr1:Nat→Value,∀ b H4,Newb H3 (.cells #[] 36) b H4→(l.n≤l.c∧SlX l.a l.c 0 k 6 fun cut=>
  (App Tryz.prog #[24,24] 24 H4 [.slice (some ⟨b,0,none⟩) 0 0,.slice cut.a cut.n cut.c] fun ap H5=>
  (∀ b1 H6,Newb H5 (.cells #[] 9) b1 H6→∃ x:Sl,hcell H6 ⟨bC,5,none⟩=some (.slice x.a x.n x.c) ∧
  App Tryz.prog #[27,27] 27 H6 [.slice (some ⟨b1,0,none⟩) 0 0,.slice x.a x.n x.c] fun ap1 H7=>
  (StL ⟨bC,5,none⟩ 0 [.slice ap1.a ap1.n ap1.c] H7 fun H8=>(∃ (x_a:Int) (x_b x_c:ByteArray) (x_d:Int) (x_e:ByteArray) (x_f:Sl),(hcell H8 ⟨bC,0,none⟩=some (.int .i64 x_a) ∧
  hcell H8 ⟨bC,1,none⟩=some (.string x_b)∧hcell H8 ⟨bC,2,none⟩=some (.string x_c)∧hcell H8 ⟨bC,3,none⟩=some (.int .i64 x_d) ∧
  hcell H8 ⟨bC,4,none⟩=some (.string x_e)∧hcell H8 ⟨bC,5,none⟩=some (.slice x_f.a x_f.n x_f.c) ∧
  True)∧∀ b2 H9,Newb H8 (.cells #[.int .i64 x_a,.string x_b,.string x_c,.int .i64 x_d,.string x_e,.slice x_f.a x_f.n x_f.c] 36) b2 H9 →
  App Tryz.prog #[24,24] 24 H9 [.slice ap.a ap.n ap.c,.slice (some ⟨b2,0,none⟩) 1 1] fun ap2 H10=>
  (l.n≤l.c∧SlX l.a l.c k (l.n:Int) 6 fun cut1=>(App Tryz.prog #[24,24] 24 H10 [.slice ap2.a ap2.n ap2.c,.slice cut1.a cut1.n cut1.c] fun ap3 H11=>
  (K (.slice ap3.a ap3.n ap3.c) H11)))))))))∧(((decide (k < (l.n:Int)))=true→IxA l.a l.n k 6 fun ad=>
  (∃ (x_a1:Int) (x_b1 x_c1:ByteArray) (x_d1:Int) (x_e1:ByteArray) (x_f1:Sl),(hcell H2 ad=some (.int .i64 x_a1) ∧
  hcell H2 (Addr.add ad 1)=some (.string x_b1)∧hcell H2 (Addr.add ad 2)=some (.string x_c1) ∧
  hcell H2 (Addr.add ad 3)=some (.int .i64 x_d1)∧hcell H2 (Addr.add ad 4)=some (.string x_e1) ∧
  hcell H2 (Addr.add ad 5)=some (.slice x_f1.a x_f1.n x_f1.c)∧True)∧∃ (x_a2:Int) (x_b2 x_c2:ByteArray) (x_d2:Int) (x_e2:ByteArray) (x_f2:Sl),(hcell H2 ⟨bC,0,none⟩=some (.int .i64 x_a2) ∧
  hcell H2 ⟨bC,1,none⟩=some (.string x_b2)∧hcell H2 ⟨bC,2,none⟩=some (.string x_c2)∧hcell H2 ⟨bC,3,none⟩=some (.int .i64 x_d2) ∧
  hcell H2 ⟨bC,4,none⟩=some (.string x_e2)∧hcell H2 ⟨bC,5,none⟩=some (.slice x_f2.a x_f2.n x_f2.c) ∧
  True)∧CallF Tryz.prog 43 #[.agg #[.int .i64 x_a1,.string x_b1,.string x_c1,.int .i64 x_d1,.string x_e1,.slice x_f1.a x_f1.n x_f1.c],.agg #[.int .i64 x_a2,.string x_b2,.string x_c2,.int .i64 x_d2,.string x_e2,.slice x_f2.a x_f2.n x_f2.c]] H2 (fun r H12=>
  ∃ y:Int,r = .int .i64 y∧(((y == 0)=true→K (.slice l.a l.n l.c) H12)∧((y == 0)=false →
  (J1  H12)))) Z))∧((decide (k < (l.n:Int)))=false→(J1  H2))))∧∃ I:Int→Hp→Nat→Prop,(∃ m,I 0 H1 m) ∧
  ∀ (k1:Int),∀ H13 m1,I k1 H13 m1→∀ scr2:Nat→Value,(((decide (k1 < (l.n:Int)))=true →
  IxA l.a l.n k1 6 fun ad1=>(∃ (x_a3:Int) (x_b3 x_c3:ByteArray) (x_d3:Int) (x_e3:ByteArray) (x_f3:Sl),(hcell H13 ad1=some (.int .i64 x_a3) ∧
  hcell H13 (Addr.add ad1 1)=some (.string x_b3)∧hcell H13 (Addr.add ad1 2)=some (.string x_c3) ∧
  hcell H13 (Addr.add ad1 3)=some (.int .i64 x_d3)∧hcell H13 (Addr.add ad1 4)=some (.string x_e3) ∧
  hcell H13 (Addr.add ad1 5)=some (.slice x_f3.a x_f3.n x_f3.c)∧True)∧∃ (x_a4:Int) (x_b4 x_c4:ByteArray) (x_d4:Int) (x_e4:ByteArray) (x_f4:Sl),(hcell H13 ⟨bC,0,none⟩=some (.int .i64 x_a4) ∧
  hcell H13 ⟨bC,1,none⟩=some (.string x_b4)∧hcell H13 ⟨bC,2,none⟩=some (.string x_c4)∧hcell H13 ⟨bC,3,none⟩=some (.int .i64 x_d4) ∧
  hcell H13 ⟨bC,4,none⟩=some (.string x_e4)∧hcell H13 ⟨bC,5,none⟩=some (.slice x_f4.a x_f4.n x_f4.c) ∧
  True)∧CallF Tryz.prog 43 #[.agg #[.int .i64 x_a3,.string x_b3,.string x_c3,.int .i64 x_d3,.string x_e3,.slice x_f3.a x_f3.n x_f3.c],.agg #[.int .i64 x_a4,.string x_b4,.string x_c4,.int .i64 x_d4,.string x_e4,.slice x_f4.a x_f4.n x_f4.c]] H13 (fun r1 H14=>
  ∃ y1:Int,r1 = .int .i64 y1∧(((decide (y1 < 0))=true→(∃ m2,m2 < m1∧I (w64 (k1+1)) H14 m2)) ∧
  ((decide (y1 < 0))=false→(J k1 H14)))) Z))∧((decide (k1 < (l.n:Int)))=false→(J k1 H13)))
def aJ138:Ann:=(fun k=>if k=4 then some [(5,(.sc (.int .i64)))] else if k=6 then some [] else none)
def aL138:Ann:=(fun k=>if k=2 then some [(5,(.sc (.int .i64)))] else none)
theorem V138_ok {H l c_a c_b c_c c_d c_e c_f K Z} (h:V138 H l c_a c_b c_c c_d c_e c_f K Z):CallF Tryz.prog 138 #[.slice l.a l.n l.c,.agg #[.int .i64 c_a,.string c_b,.string c_c,.int .i64 c_d,.string c_e,.slice c_f.a c_f.n c_f.c]] H K Z:=
 fnC_sound (aJ:=aJ138) (aL:=aL138) (Eq.mp (by kernel_rfl) h)
end Go.Proofs.YtjdhjgfmloaglaaGreatDoor.N16R
end
section
namespace Go.Proofs.YtjdhjgfmloaglaaGreatDoor.C18
open Go Go.V Go.Proofs N16 P14 C14 P15 C15
attribute [local irreducible] Cvt ExtF CallF hrun App MkS callV
theorem Hx.mono {η χ : Type}{In In' : η→χ→Prop}{hs:List η}{xs:List χ}(hi:∀ h x,In h x→In' h x) (h:Hx In hs xs):Hx In' hs xs:=⟨h.1,fun i a x ha hx=>hi a x (h.2 i a x ha hx)⟩
theorem Hx.take {η χ : Type}{In : η→χ→Prop}{hs:List η}{xs:List χ}(h:Hx In hs xs) (j:Nat):Hx In (hs.take j) (xs.take j):=by
 refine ⟨by rw [List.length_take,List.length_take,h.1],fun i a x ha hx=>?_⟩
 rw [List.getElem?_take] at ha hx
 split at ha
 ·rename_i hlt
  rw [if_pos hlt] at hx
  exact h.2 i a x ha hx
 ·cases ha
theorem Hx.drop {η χ : Type}{In : η→χ→Prop}{hs:List η}{xs:List χ}(h:Hx In hs xs) (j:Nat):Hx In (hs.drop j) (xs.drop j):=by
 refine ⟨by rw [List.length_drop,List.length_drop,h.1],fun i a x ha hx=>?_⟩
 rw [List.getElem?_drop] at ha hx
 exact h.2 _ a x ha hx
abbrev RelO (ps:List (Sl × List Mk)) (L:List HO) (xs:List ObjD):Prop:=Hx (fun h x=>(h.2.2,x.marks)∈ps∧h=HO.of x h.2.2) L xs
abbrev RelC (rs:List (Sl × List L8)) (M:List HC) (xs:List ConD):Prop:=Hx (fun h x=>(h.2.2.2.2.2,x.args)∈rs∧h=HC.of x h.2.2.2.2.2) M xs
theorem relO_rd {A:Hp}{l:Sl}{L:List HO}{xs:List ObjD}{ps:List (Sl × List Mk)}(h:Rd flHO 3 A l L) (hL:RelO ps L xs) (hp:(rdsI flM 2 ps).ok A):RdO A l xs:=
 ⟨L,h,hL.1,fun i a x ha hx=>⟨(hL.2 i a x ha hx).2,(hp _ (hL.2 i a x ha hx).1).1⟩⟩
theorem relC_rd {A:Hp}{l:Sl}{M:List HC}{xs:List ConD}{rs:List (Sl × List L8)}(h:Rd flHC 6 A l M) (hM:RelC rs M xs) (hp:(rdsI flL 1 rs).ok A):RdC A l xs:=
 ⟨M,h,hM.1,fun i a x ha hx=>⟨(hM.2 i a x ha hx).2,(hp _ (hM.2 i a x ha hx).1).1⟩⟩
theorem tailK {τ : Type}{fl : τ→List Value}{sz:Nat}{H:Hp}{s:Sl}{l:List τ}{j:Nat}{Kx:Sl→Prop}(hf:Fl fl sz) (h:Rd fl sz H s l) (hj:j≤l.length) (k:∀ c,Rd fl sz H c (l.drop j)→Kx c):s.n≤s.c∧SlX s.a s.c (j:Int) (s.n:Int) sz Kx:=by
 have hl:=h.len
 have hle:=h.le
 refine ⟨hle,⟨by omega,by omega,by omega⟩,k _ ?_⟩
 have hp:=h.part hf (lo:=j) (hi:=s.n) (by omega) (Nat.le_refl _)
 rw [List.take_of_length_le (by rw [List.length_drop];omega)] at hp
 simpa using hp
section
variable {χ κ : Type} [DecidableEq χ] {c : κ→κ→Int}{ky : χ→κ}{acc:List χ}{o y : χ}{j:Nat}
omit [DecidableEq χ] in
theorem drop_at (hy:acc[j]? = some y):acc.drop j=y::acc.drop (j+1):=by
 obtain ⟨hj,rfl⟩:=List.getElem?_eq_some_iff.1 hy
 exact List.drop_eq_getElem_cons hj
theorem into_go (hy:acc[j]? = some y) (h1:c (ky y) (ky o)≤0) (h2:y≠o) (he:intoK c ky acc o=acc.take j++intoK c ky (acc.drop j) o):intoK c ky acc o=acc.take (j+1)++intoK c ky (acc.drop (j+1)) o:=by
 rw [drop_at hy,intoK,if_pos h1,if_neg h2] at he
 rw [he,List.take_add_one,hy,List.append_assoc]
 rfl
theorem into_eq (hc:CmpLin c) (hy:acc[j]? = some y) (h2:y=o) (he:intoK c ky acc o=acc.take j++intoK c ky (acc.drop j) o):intoK c ky acc o=acc:=by
 rw [drop_at hy,intoK,if_pos (by rw [h2,hc.eq.2 rfl];decide),if_pos h2,← drop_at hy,List.take_append_drop] at he
 exact he
theorem into_gt (hy:acc[j]? = some y) (h1:¬ c (ky y) (ky o)≤0) (he:intoK c ky acc o=acc.take j++intoK c ky (acc.drop j) o):intoK c ky acc o=acc.take j++o::acc.drop j:=by
 rw [drop_at hy,intoK,if_neg h1,← drop_at hy] at he
 exact he
theorem into_end (hj:acc.length≤j) (he:intoK c ky acc o=acc.take j++intoK c ky (acc.drop j) o):intoK c ky acc o=acc.take j++o::acc.drop j:=by
 rw [List.drop_of_length_le hj] at he ⊢
 exact he
end
theorem leS (a b:L8):(ltS (str a) (str b) || beqS (str a) (str b))=decide (cmpL a b≤0):=by
 rw [lt_strL,beq_str,Bool.eq_iff_iff,Bool.or_eq_true,decide_eq_true_eq,decide_eq_true_eq,← cmpL_neg,← cmpL_0]
 omega
section
variable {H:Hp}{K:Value→Hp→Prop}{Z:List PanicEntry→Hp→Prop}
theorem rsameObj_ok {x y:ObjD}{s t:Sl}(h1:Rd flM 2 H s x.marks) (h2:Rd flM 2 H t y.marks) (hb:x.marks.length≤2000000) (k:∀ H',Fr no H H'→K (.bool (decide (x=y))) H'):CallF Tryz.prog 42 #[oA x s,oA y t] H K Z:=by
 refine V42_ok ?_
 unfold V42
 intro bA A hA bB B hB
 have sB:=((Sym.start H).newb (cs:=oL x s) hA).newb (cs:=oL y t) hB
 have l1:=h1.len
 have l2:=h2.len
 have no':∀ {E:Hp},Fr no H E→x≠y→K (.bool false) E:=fun f h=>by
  have kk:=k _ f
  rw [decide_eq_false h] at kk
  exact kk
 refine ⟨fun E=>Sym H no E [blk bB (oL y t) 52,blk bA (oL x s) 52]∧x.name=y.name∧x.kinds=y.kinds∧s.n=t.n,?_,_,sB.ld (k:=1) rfl 0,_,sB.ld (k:=0) rfl 0,?_⟩
 ·rintro E ⟨sE,e1,e2,e3⟩ scr
  refine ⟨fun i A' m=>∃ j:Nat,A'=E∧i=(j:Int)∧j≤x.marks.length∧m=x.marks.length - j∧x.marks.take j=y.marks.take j,⟨_,0,rfl,rfl,Nat.zero_le _,rfl,rfl⟩,?_⟩
  rintro i A' m ⟨j,hA',rfl,hj,rfl,he⟩ scr1
  rw [hA']
  refine ⟨s,sE.ld (k:=1) rfl 2,fun hlt=>?_,fun hge=>?_⟩
  ·have hj':j < x.marks.length:=by have:=dlt hlt;omega
   obtain ⟨p,hx,_⟩:=getN hj'
   obtain ⟨q,hy,_⟩:=getN (show j < y.marks.length by omega)
   refine ⟨t,sE.ld (k:=0) rfl 2,fun hlt2=>⟨s,sE.ld (k:=1) rfl 2,atM (h1.more sE.fr) hx fun ad a1 a2=>⟨_,_,⟨a1,a2,trivial⟩,t,sE.ld (k:=0) rfl 2,atM (h2.more sE.fr) hy fun ad2 b1 b2=>⟨_,_,⟨b1,b2,trivial⟩,?_⟩⟩⟩,fun hge2=>by have:=dge hge2;omega⟩
   rw [mkEq]
   exact ⟨fun hn=>no' sE.fr fun e=>ne_at hx hy (notd.1.1 hn) (by rw [e]),fun hn=>⟨x.marks.length - (j+1),by omega,j+1,rfl,wi (by omega),hj',rfl,take_eq he hx hy (notd.2.1 hn)⟩⟩
  ·rw [List.take_of_length_le (by have:=dge hge;omega),List.take_of_length_le (by have:=dge hge;omega)] at he
   have kk:=k _ sE.fr
   have hxy:x=y:=by
    cases x;cases y
    simp only at e1 e2 he
    rw [e1,e2,he]
   rw [decide_eq_true hxy] at kk
   exact kk
 ·rw [beq_str]
  refine ⟨fun hn=>no' sB.fr fun e=>notd.1.1 hn (by rw [e]),fun hn=>⟨_,sB.ld (k:=1) rfl 1,_,sB.ld (k:=0) rfl 1,?_⟩⟩
  rw [beq_str]
  refine ⟨fun hn2=>no' sB.fr fun e=>notd.1.1 hn2 (by rw [e]),fun hn2=>⟨s,sB.ld (k:=1) rfl 2,t,sB.ld (k:=0) rfl 2,fun hne=>no' sB.fr fun e=>bne_iff_ne.1 hne (by rw [l1,l2,e]),fun heq=>⟨sB,notd.2.1 hn,notd.2.1 hn2,?_⟩⟩⟩
  have:((s.n:Nat):Int)=((t.n:Nat):Int):=bne_eq_false_iff_eq.1 heq
  omega
theorem objInto_ok {A:Hp}{l s:Sl}{L:List HO}{acc:List ObjD}{x:ObjD}{ps:List (Sl × List Mk)}(hl:Rd flHO 3 A l L) (hp:(rdsI flM 2 ps).ok A) (hL:RelO ps L acc) (hr:Rd flM 2 A s x.marks) (hb:acc.length≤1100000) (hm:∀ o∈acc,o.marks.length≤2000000) (hx:x.marks.length≤2000000)
  (k1:∀ B,Fr no A B→intoK cmpL ObjD.name acc x=acc→K (.slice l.a l.n l.c) B)
  (k2:∀ ap l' L' B,Sym A no B [arr flM 54 2 ap x.marks,arr flHO 52 3 l' L']→RelO ((ap,x.marks)::ps) L' (intoK cmpL ObjD.name acc x)→K (.slice l'.a l'.n l'.c) B):CallF Tryz.prog 136 #[.slice l.a l.n l.c,oA x s] A K Z:=by
 refine N16R.V136_ok ?_
 unfold N16R.V136
 intro bO B hB
 have sB:=(Sym.start A).newb (cs:=oL x s) hB
 have hacc:RdO A l acc:=relO_rd hl hL hp
 have ln:=hl.len
 have lL:=hL.1
 refine ⟨fun k E=>∃ j:Nat,k=(j:Int)∧j≤acc.length∧Sym A no E [blk bO (oL x s) 52]∧intoK cmpL ObjD.name acc x=acc.take j++x::acc.drop j,?_,fun k E m=>∃ j:Nat,k=(j:Int)∧j≤acc.length∧m=acc.length - j∧Sym A no E [blk bO (oL x s) 52]∧intoK cmpL ObjD.name acc x=acc.take j++intoK cmpL ObjD.name (acc.drop j) x,⟨_,0,rfl,Nat.zero_le _,rfl,sB,rfl⟩,?_⟩
 ·rintro k E ⟨j,rfl,hj,sE,he⟩ scr b F hF
  have sF:=sE.lit (fl:=flM) (E:=54) (sz:=2) (l:=[]) FlM (by decide) hF (show 0=_ from rfl)
  refine ⟨s,sF.ld (k:=1) rfl 2,Sym.appR (k:=0) tyM sF FlM (by decide) rfl (hr.more sF.fr) (by show (0+_)*_≤_;omega) fun ap G nG sG=>?_⟩
  replace sG:Sym A no G [arr flM 54 2 ap x.marks,blk bO (oL x s) 52]:=sG
  refine sG.stbs (k:=1) (i:=2) (vs:=[.slice ap.a ap.n ap.c]) rfl (by simp) (fun v hv=>by rw [List.mem_singleton.1 hv];rfl) fun I sI=>?_
  replace sI:Sym A no I [arr flM 54 2 ap x.marks,blk bO (oL x ap) 52]:=sI
  intro b1 J hJ
  have sJ:=sI.lit (fl:=flHO) (E:=52) (sz:=3) (l:=[]) FlHO (by decide) hJ (show 0=_ from rfl)
  have t1:=List.length_take_le j L
  refine headK FlHO (hl.more sJ.fr) (by omega) fun c1 h1=>?_
  refine Sym.appR (k:=0) C16O.tyE sJ FlHO (by decide) rfl h1 (by show (0+_)*_≤_;omega) fun ap1 M nM sM=>?_
  replace sM:Sym A no M [arr flHO 52 3 ap1 (L.take j),arr flM 54 2 ap x.marks,blk bO (oL x ap) 52]:=sM
  have m1:=(sM.rd (k:=0) FlHO (by decide) rfl).len
  refine ⟨_,_,ap,⟨sM.ld (k:=2) rfl 0,sM.ld (k:=2) rfl 1,sM.ld (k:=2) rfl 2,trivial⟩,fun b2 N hN=>?_⟩
  refine Sym.app1 (k:=0) (x:=HO.of x ap) C16O.tyE sM FlHO (by decide) hN rfl (by omega) fun ap2 O nO sO=>?_
  replace sO:Sym A no O [arr flHO 52 3 ap2 (L.take j ++ [HO.of x ap]),arr flM 54 2 ap x.marks,blk bO (oL x ap) 52]:=sO
  have t2:(L.drop j).length≤L.length:=by rw [List.length_drop];omega
  refine tailK FlHO (hl.more sO.fr) (by omega) fun c2 h2=>?_
  refine Sym.appR (k:=0) C16O.tyE sO FlHO (by decide) rfl h2 (by omega) fun ap3 P nP sP=>?_
  replace sP:Sym A no P [arr flHO 52 3 ap3 (L.take j ++ [HO.of x ap]++L.drop j),arr flM 54 2 ap x.marks,blk bO (oL x ap) 52]:=sP
  refine k2 ap ap3 _ P (sP.re [1,0] (by decide)) ?_
  rw [he,List.append_assoc]
  have up:∀ (h:HO) (x':ObjD),((h.2.2,x'.marks)∈ps∧h=HO.of x' h.2.2)→((h.2.2,x'.marks)∈(ap,x.marks)::ps∧h=HO.of x' h.2.2):=fun h x' q=>⟨List.mem_cons_of_mem _ q.1,q.2⟩
  exact ((hL.take j).mono up).app (Hx.cons ⟨List.mem_cons_self,rfl⟩ ((hL.drop j).mono up))
 ·rintro k E m ⟨j,rfl,hj,rfl,sE,he⟩ scr
  refine ⟨fun hlt=>?_,fun hge=>⟨j,rfl,hj,sE,into_end (by have:=dge hge;omega) he⟩⟩
  have hj':j < acc.length:=by have:=dlt hlt;omega
  obtain ⟨y,hy,hym⟩:=getN hj'
  obtain ⟨t,hta,ix⟩:=atO (hacc.more sE.fr) hy
  refine ix fun ad e0 e1 e2=>⟨_,e0,_,sE.ld (k:=0) rfl 0,?_⟩
  rw [leS]
  refine ⟨fun hle=>ix fun ad2 g0 g1 g2=>⟨_,_,t,⟨g0,g1,g2,trivial⟩,_,_,s,⟨sE.ld (k:=0) rfl 0,sE.ld (k:=0) rfl 1,sE.ld (k:=0) rfl 2,trivial⟩,rsameObj_ok hta (hr.more sE.fr) (hm _ hym) fun F fF=>⟨_,rfl,fun hs=>k1 F (sE.fr.trans fF) (into_eq linCL hy (of_decide_eq_true hs) he),fun hs=>⟨acc.length - (j+1),by omega,j+1,wi (by omega),hj',rfl,sE.more fF,into_go hy (of_decide_eq_true hle) (of_decide_eq_false hs) he⟩⟩⟩,fun hgt=>⟨j,rfl,hj,sE,into_gt hy (of_decide_eq_false hgt) he⟩⟩
theorem fnInto_ok {A:Hp}{l:Sl}{acc:List FnD}{x:FnD}(hl:Rd flF 3 A l acc) (hb:acc.length≤1100000)
  (k1:∀ B,Fr no A B→intoK cmpL FnD.name acc x=acc→K (.slice l.a l.n l.c) B)
  (k2:∀ l' B,Sym A no B [arr flF 56 3 l' (intoK cmpL FnD.name acc x)]→K (.slice l'.a l'.n l'.c) B):CallF Tryz.prog 137 #[.slice l.a l.n l.c,fA x] A K Z:=by
 refine V137_ok ?_
 unfold V137
 intro bF B hB
 have sB:=(Sym.start A).newb (cs:=fL x) hB
 have ln:=hl.len
 have ins:∀ {E:Hp}{j:Nat},j≤acc.length→Sym A no E [blk bF (fL x) 56]→intoK cmpL FnD.name acc x=acc.take j++x::acc.drop j→∀ b H3,Newb E (.cells #[] 56) b H3→(l.n≤l.c∧SlX l.a l.c 0 (j:Int) 3 fun cut=>
  (App Tryz.prog #[23,23] 23 H3 [.slice (some ⟨b,0,none⟩) 0 0,.slice cut.a cut.n cut.c] fun ap H4=>
  (∃ x_a2 x_b2 x_c2:ByteArray,(hcell H4 ⟨bF,0,none⟩=some (.string x_a2) ∧
  hcell H4 ⟨bF,1,none⟩=some (.string x_b2)∧hcell H4 ⟨bF,2,none⟩=some (.string x_c2)∧True) ∧
  ∀ b1 H5,Newb H4 (.cells #[.string x_a2,.string x_b2,.string x_c2] 56) b1 H5→App Tryz.prog #[23,23] 23 H5 [.slice ap.a ap.n ap.c,.slice (some ⟨b1,0,none⟩) 1 1] fun ap1 H6=>
  (l.n≤l.c∧SlX l.a l.c (j:Int) (l.n:Int) 3 fun cut1=>(App Tryz.prog #[23,23] 23 H6 [.slice ap1.a ap1.n ap1.c,.slice cut1.a cut1.n cut1.c] fun ap2 H7=>
  (K (.slice ap2.a ap2.n ap2.c) H7)))))):=by
  intro E j hj sE he b1 J hJ
  have sJ:=sE.lit (fl:=flF) (E:=56) (sz:=3) (l:=[]) FlF (by decide) hJ (show 0=_ from rfl)
  have t1:=List.length_take_le j acc
  refine headK FlF (hl.more sJ.fr) (by omega) fun c1 h1=>?_
  refine Sym.appR (k:=0) C16F.tyE sJ FlF (by decide) rfl h1 (by show (0+_)*_≤_;omega) fun ap1 M nM sM=>?_
  replace sM:Sym A no M [arr flF 56 3 ap1 (acc.take j),blk bF (fL x) 56]:=sM
  have m1:=(sM.rd (k:=0) FlF (by decide) rfl).len
  refine ⟨_,_,_,⟨sM.ld (k:=1) rfl 0,sM.ld (k:=1) rfl 1,sM.ld (k:=1) rfl 2,trivial⟩,fun b2 N hN=>?_⟩
  refine Sym.app1 (k:=0) (x:=x) C16F.tyE sM FlF (by decide) hN rfl (by omega) fun ap2 O nO sO=>?_
  replace sO:Sym A no O [arr flF 56 3 ap2 (acc.take j ++ [x]),blk bF (fL x) 56]:=sO
  have t2:(acc.drop j).length≤acc.length:=by rw [List.length_drop];omega
  refine tailK FlF (hl.more sO.fr) (by omega) fun c2 h2=>?_
  refine Sym.appR (k:=0) C16F.tyE sO FlF (by decide) rfl h2 (by omega) fun ap3 P nP sP=>?_
  replace sP:Sym A no P [arr flF 56 3 ap3 (acc.take j ++ [x]++acc.drop j),blk bF (fL x) 56]:=sP
  refine k2 ap3 P ?_
  rw [List.append_assoc] at sP
  rw [he]
  exact sP.re [0] (by decide)
 refine ⟨fun k E m=>∃ j:Nat,k=(j:Int)∧j≤acc.length∧m=acc.length - j∧Sym A no E [blk bF (fL x) 56]∧intoK cmpL FnD.name acc x=acc.take j++intoK cmpL FnD.name (acc.drop j) x,⟨_,0,rfl,Nat.zero_le _,rfl,sB,rfl⟩,?_⟩
 rintro k E m ⟨j,rfl,hj,rfl,sE,he⟩ scr
 refine ⟨fun hlt=>?_,fun hge=>ins hj sE (into_end (by have:=dge hge;omega) he)⟩
 have hj':j < acc.length:=by have:=dlt hlt;omega
 obtain ⟨y,hy,hym⟩:=getN hj'
 refine atF (hl.more sE.fr) hy fun ad e0 e1 e2=>⟨_,e0,_,sE.ld (k:=0) rfl 0,?_⟩
 rw [leS]
 refine ⟨fun hle=>atF (hl.more sE.fr) hy fun ad2 g0 g1 g2=>⟨_,_,_,⟨g0,g1,g2,trivial⟩,_,_,_,⟨sE.ld (k:=0) rfl 0,sE.ld (k:=0) rfl 1,sE.ld (k:=0) rfl 2,trivial⟩,?_⟩,fun hgt=>ins hj sE (into_gt hy (of_decide_eq_false hgt) he)⟩
 rw [fnEq]
 exact ⟨fun hs=>k1 E sE.fr (into_eq linCL hy (of_decide_eq_true hs) he),fun hs=>⟨acc.length - (j+1),by omega,j+1,wi (by omega),hj',rfl,sE,into_go hy (of_decide_eq_true hle) (of_decide_eq_false hs) he⟩⟩
theorem conInto_ok {A:Hp}{l s:Sl}{M:List HC}{acc:List ConD}{x:ConD}{rs:List (Sl × List L8)}(hl:Rd flHC 6 A l M) (hp:(rdsI flL 1 rs).ok A) (hM:RelC rs M acc) (hr:Rd flL 1 A s x.args) (hb:acc.length≤1100000) (hm:∀ o∈acc,o.args.length≤1048576) (hx:x.args.length≤1048576)
  (k1:∀ B,Fr no A B→intoK cmpC (fun z=>z) acc x=acc→K (.slice l.a l.n l.c) B)
  (k2:∀ ap l' M' B,Sym A no B [arr flL 9 1 ap x.args,arr flHC 36 6 l' M']→RelC ((ap,x.args)::rs) M' (intoK cmpC (fun z=>z) acc x)→K (.slice l'.a l'.n l'.c) B):CallF Tryz.prog 138 #[.slice l.a l.n l.c,cA x s] A K Z:=by
 refine N16R.V138_ok ?_
 unfold N16R.V138
 intro bC B hB
 have sB:=(Sym.start A).newb (cs:=cL x s) hB
 have hacc:RdC A l acc:=relC_rd hl hM hp
 have ln:=hl.len
 have lM:=hM.1
 refine ⟨fun k E=>∃ j:Nat,k=(j:Int)∧j≤acc.length∧Sym A no E [blk bC (cL x s) 36]∧intoK cmpC (fun z=>z) acc x=acc.take j++intoK cmpC (fun z=>z) (acc.drop j) x∧∀ y,acc[j]? = some y→¬ cmpC y x < 0,?_,fun k E m=>∃ j:Nat,k=(j:Int)∧j≤acc.length∧m=acc.length - j∧Sym A no E [blk bC (cL x s) 36]∧intoK cmpC (fun z=>z) acc x=acc.take j++intoK cmpC (fun z=>z) (acc.drop j) x,⟨_,0,rfl,Nat.zero_le _,rfl,sB,rfl⟩,?_⟩
 ·rintro k E ⟨j,rfl,hj,sE,he,hge0⟩ scr
  refine ⟨fun F=>Sym A no F [blk bC (cL x s) 36]∧intoK cmpC (fun z=>z) acc x=acc.take j++x::acc.drop j,?_,fun hlt=>?_,fun hge=>⟨sE,into_end (by have:=dge hge;omega) he⟩⟩
  ·rintro G ⟨sG,he2⟩ scr1 b1 J hJ
   have sJ:=sG.lit (fl:=flHC) (E:=36) (sz:=6) (l:=[]) FlHC (by decide) hJ (show 0=_ from rfl)
   have t1:=List.length_take_le j M
   refine headK FlHC (hl.more sJ.fr) (by omega) fun c1 h1=>?_
   refine Sym.appR (k:=0) C16C.tyE sJ FlHC (by decide) rfl h1 (by show (0+_)*_≤_;omega) fun ap1 N nN sN=>?_
   replace sN:Sym A no N [arr flHC 36 6 ap1 (M.take j),blk bC (cL x s) 36]:=sN
   intro b2 O hO
   have sO:=sN.lit (fl:=flL) (E:=9) (sz:=1) (l:=[]) FlL (by decide) hO (show 0=_ from rfl)
   refine ⟨s,sO.ld (k:=2) rfl 5,Sym.appR (k:=0) tyTs sO FlL (by decide) rfl (hr.more sO.fr) (by show (0+_)*_≤_;omega) fun ap P nP sP=>?_⟩
   replace sP:Sym A no P [arr flL 9 1 ap x.args,arr flHC 36 6 ap1 (M.take j),blk bC (cL x s) 36]:=sP
   refine sP.stbs (k:=2) (i:=5) (vs:=[.slice ap.a ap.n ap.c]) rfl (by simp) (fun v hv=>by rw [List.mem_singleton.1 hv];rfl) fun Q sQ=>?_
   replace sQ:Sym A no Q [arr flL 9 1 ap x.args,arr flHC 36 6 ap1 (M.take j),blk bC (cL x ap) 36]:=sQ
   have m1:=(sQ.rd (k:=1) FlHC (by decide) rfl).len
   refine ⟨_,_,_,_,_,ap,⟨sQ.ld (k:=2) rfl 0,sQ.ld (k:=2) rfl 1,sQ.ld (k:=2) rfl 2,sQ.ld (k:=2) rfl 3,sQ.ld (k:=2) rfl 4,sQ.ld (k:=2) rfl 5,trivial⟩,fun b3 R hR=>?_⟩
   refine Sym.app1 (k:=1) (x:=HC.of x ap) C16C.tyE sQ FlHC (by decide) hR rfl (by omega) fun ap2 S nS sS=>?_
   replace sS:Sym A no S [arr flL 9 1 ap x.args,arr flHC 36 6 ap2 (M.take j ++ [HC.of x ap]),blk bC (cL x ap) 36]:=sS
   have t2:(M.drop j).length≤M.length:=by rw [List.length_drop];omega
   refine tailK FlHC (hl.more sS.fr) (by omega) fun c2 h2=>?_
   refine Sym.appR (k:=1) C16C.tyE sS FlHC (by decide) rfl h2 (by omega) fun ap3 T nT sT=>?_
   replace sT:Sym A no T [arr flL 9 1 ap x.args,arr flHC 36 6 ap3 (M.take j ++ [HC.of x ap]++M.drop j),blk bC (cL x ap) 36]:=sT
   refine k2 ap ap3 _ T (sT.re [0,1] (by decide)) ?_
   rw [he2,List.append_assoc]
   have up:∀ (h:HC) (x':ConD),((h.2.2.2.2.2,x'.args)∈rs∧h=HC.of x' h.2.2.2.2.2)→((h.2.2.2.2.2,x'.args)∈(ap,x.args)::rs∧h=HC.of x' h.2.2.2.2.2):=fun h x' q=>⟨List.mem_cons_of_mem _ q.1,q.2⟩
   exact ((hM.take j).mono up).app (Hx.cons ⟨List.mem_cons_self,rfl⟩ ((hM.drop j).mono up))
  ·have hj':j < acc.length:=by have:=dlt hlt;omega
   obtain ⟨y,hy,hym⟩:=getN hj'
   obtain ⟨t,hta,ix⟩:=atC (hacc.more sE.fr) hy
   refine ix fun ad e0 e1 e2 e3 e4 e5=>⟨_,_,_,_,_,t,⟨e0,e1,e2,e3,e4,e5,trivial⟩,_,_,_,_,_,s,⟨sE.ld (k:=0) rfl 0,sE.ld (k:=0) rfl 1,sE.ld (k:=0) rfl 2,sE.ld (k:=0) rfl 3,sE.ld (k:=0) rfl 4,sE.ld (k:=0) rfl 5,trivial⟩,cmp15_ok hta (hr.more sE.fr) (hm _ hym) fun F fF=>⟨_,rfl,fun h0=>k1 F (sE.fr.trans fF) (into_eq linC hy (linC.eq.1 (eqI.1 h0)) he),fun h0=>⟨sE.more fF,into_gt hy ?_ he⟩⟩⟩
   have h1:=hge0 y hy
   have h2:=neI.1 h0
   omega
 ·rintro k E m ⟨j,rfl,hj,rfl,sE,he⟩ scr
  refine ⟨fun hlt=>?_,fun hge=>⟨j,rfl,hj,sE,he,fun y hy=>by have:=(List.getElem?_eq_some_iff.1 hy).1;have:=dge hge;omega⟩⟩
  have hj':j < acc.length:=by have:=dlt hlt;omega
  obtain ⟨y,hy,hym⟩:=getN hj'
  obtain ⟨t,hta,ix⟩:=atC (hacc.more sE.fr) hy
  refine ix fun ad e0 e1 e2 e3 e4 e5=>⟨_,_,_,_,_,t,⟨e0,e1,e2,e3,e4,e5,trivial⟩,_,_,_,_,_,s,⟨sE.ld (k:=0) rfl 0,sE.ld (k:=0) rfl 1,sE.ld (k:=0) rfl 2,sE.ld (k:=0) rfl 3,sE.ld (k:=0) rfl 4,sE.ld (k:=0) rfl 5,trivial⟩,cmp15_ok hta (hr.more sE.fr) (hm _ hym) fun F fF=>⟨_,rfl,fun h0=>⟨acc.length - (j+1),by omega,j+1,wi (by omega),hj',rfl,sE.more fF,into_go hy (by have:=of_decide_eq_true h0;show cmpC y x≤0;omega) (fun e=>by have:=of_decide_eq_true h0;rw [linC.eq.2 e] at this;omega) he⟩,fun h0=>⟨j,rfl,hj,sE.more fF,he,fun z hz=>?_⟩⟩⟩
  rw [hy] at hz
  rw [← Option.some_inj.1 hz]
  exact of_decide_eq_false h0
end
end Go.Proofs.YtjdhjgfmloaglaaGreatDoor.C18
end
section
namespace Go.Proofs.YtjdhjgfmloaglaaGreatDoor.C18
open Go Go.V Go.Proofs N16 P14 C14 P15 C15
attribute [local irreducible] Cvt ExtF CallF hrun App MkS callV
structure RefS where
 l1:Sl
 l2:Sl
 l3:Sl
 ps:List (Sl × List Mk)
 L:List HO
 fs:List FnD
 rs:List (Sl × List L8)
 M:List HC
def RefS.its (c:RefS):List It:=[rdsI flM 2 c.ps,arr flHO 52 3 c.l1 c.L,arr flF 56 3 c.l2 c.fs,rdsI flL 1 c.rs,arr flHC 36 6 c.l3 c.M]
structure RefS.good (c:RefS) (t:SysD):Prop where
 qo:RelO c.ps c.L t.objs
 qf:c.fs=t.fns
 qc:RelC c.rs c.M t.cons
theorem RefS.rd {c:RefS}{t:SysD}{E:Hp}(h:∀ a∈c.its,a.ok E) (g:c.good t):RdSys E c.l1 c.l2 c.l3 t:=by
 have h1:(rdsI flM 2 c.ps).ok E:=h _ (by simp [RefS.its])
 have h2:RowN flHO 52 3 E c.l1 c.L:=h (arr flHO 52 3 c.l1 c.L) (by simp [RefS.its])
 have h3:RowN flF 56 3 E c.l2 c.fs:=h (arr flF 56 3 c.l2 c.fs) (by simp [RefS.its])
 have h4:(rdsI flL 1 c.rs).ok E:=h _ (by simp [RefS.its])
 have h5:RowN flHC 36 6 E c.l3 c.M:=h (arr flHC 36 6 c.l3 c.M) (by simp [RefS.its])
 exact ⟨relO_rd (h2.rd FlHO (by decide)) g.qo h1,g.qf ▸ h3.rd FlF (by decide),relC_rd (h5.rd FlHC (by decide)) g.qc h4⟩
abbrev RL (bOut b bS:Nat) (s1 s2 s3:Sl) (c:RefS) (z:List Value):List It:=[rdsI flM 2 c.ps,arr flHO 52 3 c.l1 c.L,arr flF 56 3 c.l2 c.fs,rdsI flL 1 c.rs,arr flHC 36 6 c.l3 c.M,blk bOut (sL c.l1 c.l2 c.l3) 26,blk b z 26,blk bS (sL s1 s2 s3) 26]
theorem one1 (a:Sl):∀ v ∈ [Value.slice a.a a.n a.c],v.oneCell=true:=fun v hv=>by rw [List.mem_singleton.1 hv];rfl
section
variable {H:Hp}{K:Value→Hp→Prop}{Z:List PanicEntry→Hp→Prop}
theorem rcanon_ok {s1 s2 s3:Sl}{x:SysD}(h:RdSys H s1 s2 s3 x) (hb:LenSys x) (k:∀ (c:RefS) t E,Sym H no E c.its→c.good t→IsCanS x t→K (sAg c.l1 c.l2 c.l3) E):CallF Tryz.prog 89 #[sAg s1 s2 s3] H K Z:=by
 refine V89_ok ?_
 unfold V89
 intro bS A hA b B hB bOut C hC
 have sC:=(((Sym.start H).newb (cs:=sL s1 s2 s3) hA).newb (cs:=zS) hB).newb (cs:=zS) hC
 have l1:=h.o.len
 have l2:=h.f.len
 have l3:=h.c.len
 have bo:=hb.o.1
 have bf:=hb.f
 have bc:=hb.c.1
 have s0:Sym H no C (RL bOut b bS s1 s2 s3 ⟨n0,n0,n0,[],[],[],[],[]⟩ zS):=((((sC.nilrow flHC 36 6).nilrds flL 1).nilrow flF 56 3).nilrow flHO 52 3).nilrds flM 2
 refine ⟨fun i E m=>∃ (j:Nat) (c:RefS) (acc:List ObjD),i=(j:Int)∧j≤x.objs.length∧m=x.objs.length - j∧RelO c.ps c.L acc∧IsCan cmpL ObjD.name (x.objs.take j) acc∧c.fs = []∧c.M = []∧Sym H no E (RL bOut b bS s1 s2 s3 c zS),
  ⟨_,0,⟨n0,n0,n0,[],[],[],[],[]⟩,[],rfl,Nat.zero_le _,rfl,Hx.nil,IsCan.nil,rfl,rfl,s0⟩,?_⟩
 rintro i E m ⟨j,c,acc,rfl,hj,rfl,qo,isO,cf0,cm0,sE⟩ scr
 refine ⟨s1,sE.ld (k:=7) rfl 0,fun hlt=>?_,fun hge=>?_⟩
 ·have hj':j < x.objs.length:=by have:=dlt hlt;omega
  obtain ⟨o,ho,hom⟩:=getN hj'
  obtain ⟨u,hu,ix⟩:=atO (h.o.more sE.fr) ho
  have la:=isO.len linCL
  rw [List.length_take] at la
  have st:=isO.step linCL (o:=o)
  have et:x.objs.take (j+1)=x.objs.take j ++ [o]:=by rw [List.take_add_one,ho];rfl
  rw [← et] at st
  refine ⟨c.l1,sE.ld (k:=5) rfl 0,s1,sE.ld (k:=7) rfl 0,ix fun ad e0 e1 e2=>⟨_,_,u,⟨e0,e1,e2,trivial⟩,objInto_ok (sE.rd (k:=1) FlHO (by decide) rfl) (sE.get (k:=0) rfl) qo hu (by omega) (fun z hz=>by have:=hb.o.2 z (List.mem_of_mem_take ((isO.mem z).1 hz));omega) (by have:=hb.o.2 o hom;omega) (fun F fF he=>⟨c.l1,rfl,?_⟩) (fun ap l' L' F sF hR=>⟨l',rfl,?_⟩)⟩⟩
  ·have sF:=sE.more fF
   refine sF.stbs (k:=5) (i:=0) (vs:=[.slice c.l1.a c.l1.n c.l1.c]) rfl (by simp) (one1 _) fun G sG=>?_
   replace sG:Sym H no G (RL bOut b bS s1 s2 s3 c zS):=sG
   rw [he] at st
   exact ⟨x.objs.length - (j+1),by omega,j+1,c,acc,wi (by omega),hj',rfl,qo,st,cf0,cm0,sG⟩
  ·have sJ:=(sE.join sF).re [0,2,1,4,5,6,7,8,9] (by decide)
   replace sJ:Sym H no F (arr flM 54 2 ap o.marks::rdsI flM 2 c.ps :: [arr flHO 52 3 l' L',arr flF 56 3 c.l2 c.fs,rdsI flL 1 c.rs,arr flHC 36 6 c.l3 c.M,blk bOut (sL c.l1 c.l2 c.l3) 26,blk b zS 26,blk bS (sL s1 s2 s3) 26]):=sJ
   have sK:=sJ.inrds FlM (by decide)
   refine sK.stbs (k:=5) (i:=0) (vs:=[.slice l'.a l'.n l'.c]) rfl (by simp) (one1 _) fun G sG=>?_
   replace sG:Sym H no G (RL bOut b bS s1 s2 s3 ⟨l',c.l2,c.l3,(ap,o.marks)::c.ps,L',c.fs,c.rs,c.M⟩ zS):=sG
   exact ⟨x.objs.length - (j+1),by omega,j+1,⟨l',c.l2,c.l3,(ap,o.marks)::c.ps,L',c.fs,c.rs,c.M⟩,intoK cmpL ObjD.name acc o,wi (by omega),hj',rfl,hR,st,cf0,cm0,sG⟩
 have hje:j=x.objs.length:=by have:=dge hge;omega
 rw [hje,List.take_length] at isO
 clear hge
 refine ⟨fun i E m=>∃ (j:Nat) (c:RefS),i=(j:Int)∧j≤x.fns.length∧m=x.fns.length - j∧RelO c.ps c.L acc∧IsCan cmpL FnD.name (x.fns.take j) c.fs∧c.M = []∧Sym H no E (RL bOut b bS s1 s2 s3 c zS),
  ⟨_,0,c,rfl,Nat.zero_le _,rfl,qo,by rw [cf0];exact IsCan.nil,cm0,sE⟩,?_⟩
 clear sE qo cf0 cm0 c
 rintro i E m ⟨j,c,rfl,hj,rfl,qo,isF,cm0,sE⟩ scr
 refine ⟨s2,sE.ld (k:=7) rfl 1,fun hlt=>?_,fun hge=>?_⟩
 ·have hj':j < x.fns.length:=by have:=dlt hlt;omega
  obtain ⟨o,ho,hom⟩:=getN hj'
  have la:=isF.len linCL
  rw [List.length_take] at la
  have st:=isF.step linCL (o:=o)
  have et:x.fns.take (j+1)=x.fns.take j ++ [o]:=by rw [List.take_add_one,ho];rfl
  rw [← et] at st
  refine ⟨c.l2,sE.ld (k:=5) rfl 1,s2,sE.ld (k:=7) rfl 1,atF (h.f.more sE.fr) ho fun ad e0 e1 e2=>⟨_,_,_,⟨e0,e1,e2,trivial⟩,fnInto_ok (x:=o) (sE.rd (k:=2) FlF (by decide) rfl) (by omega) (fun F fF he=>⟨c.l2,rfl,?_⟩) (fun l' F sF=>⟨l',rfl,?_⟩)⟩⟩
  ·have sF:=sE.more fF
   refine sF.stbs (k:=5) (i:=1) (vs:=[.slice c.l2.a c.l2.n c.l2.c]) rfl (by simp) (one1 _) fun G sG=>?_
   replace sG:Sym H no G (RL bOut b bS s1 s2 s3 c zS):=sG
   rw [he] at st
   exact ⟨x.fns.length - (j+1),by omega,j+1,c,wi (by omega),hj',rfl,qo,st,cm0,sG⟩
  ·have sJ:=(sE.join sF).re [1,2,0,4,5,6,7,8] (by decide)
   refine sJ.stbs (k:=5) (i:=1) (vs:=[.slice l'.a l'.n l'.c]) rfl (by simp) (one1 _) fun G sG=>?_
   replace sG:Sym H no G (RL bOut b bS s1 s2 s3 ⟨c.l1,l',c.l3,c.ps,c.L,intoK cmpL FnD.name c.fs o,c.rs,c.M⟩ zS):=sG
   exact ⟨x.fns.length - (j+1),by omega,j+1,⟨c.l1,l',c.l3,c.ps,c.L,intoK cmpL FnD.name c.fs o,c.rs,c.M⟩,wi (by omega),hj',rfl,qo,st,cm0,sG⟩
 have hje2:j=x.fns.length:=by have:=dge hge;omega
 rw [hje2,List.take_length] at isF
 clear hge
 refine ⟨fun i E m=>∃ (j:Nat) (c:RefS) (acc3:List ConD),i=(j:Int)∧j≤x.cons.length∧m=x.cons.length - j∧RelO c.ps c.L acc∧IsCan cmpL FnD.name x.fns c.fs∧RelC c.rs c.M acc3∧IsCan cmpC (fun z=>z) (x.cons.take j) acc3∧Sym H no E (RL bOut b bS s1 s2 s3 c zS),
  ⟨_,0,c,[],rfl,Nat.zero_le _,rfl,qo,isF,by rw [cm0];exact Hx.nil,IsCan.nil,sE⟩,?_⟩
 clear sE qo isF cm0 c
 rintro i E m ⟨j,c,acc3,rfl,hj,rfl,qo,isF,qc,isC,sE⟩ scr
 refine ⟨s3,sE.ld (k:=7) rfl 2,fun hlt=>?_,fun hge=>?_⟩
 ·have hj':j < x.cons.length:=by have:=dlt hlt;omega
  obtain ⟨o,ho,hom⟩:=getN hj'
  obtain ⟨u,hu,ix⟩:=atC (h.c.more sE.fr) ho
  have la:=isC.len linC
  rw [List.length_take] at la
  have st:=isC.step linC (o:=o)
  have et:x.cons.take (j+1)=x.cons.take j ++ [o]:=by rw [List.take_add_one,ho];rfl
  rw [← et] at st
  refine ⟨c.l3,sE.ld (k:=5) rfl 2,s3,sE.ld (k:=7) rfl 2,ix fun ad e0 e1 e2 e3 e4 e5=>⟨_,_,_,_,_,u,⟨e0,e1,e2,e3,e4,e5,trivial⟩,conInto_ok (sE.rd (k:=4) FlHC (by decide) rfl) (sE.get (k:=3) rfl) qc hu (by omega) (fun z hz=>hb.c.2 z (List.mem_of_mem_take ((isC.mem z).1 hz))) (hb.c.2 o hom) (fun F fF he=>⟨c.l3,rfl,?_⟩) (fun ap l' M' F sF hR=>⟨l',rfl,?_⟩)⟩⟩
  ·have sF:=sE.more fF
   refine sF.stbs (k:=5) (i:=2) (vs:=[.slice c.l3.a c.l3.n c.l3.c]) rfl (by simp) (one1 _) fun G sG=>?_
   replace sG:Sym H no G (RL bOut b bS s1 s2 s3 c zS):=sG
   rw [he] at st
   exact ⟨x.cons.length - (j+1),by omega,j+1,c,acc3,wi (by omega),hj',rfl,qo,isF,qc,st,sG⟩
  ·have sJ:=(sE.join sF).re [0,5,2,3,4,1,7,8,9] (by decide)
   replace sJ:Sym H no F (arr flL 9 1 ap o.args::rdsI flL 1 c.rs :: [rdsI flM 2 c.ps,arr flHO 52 3 c.l1 c.L,arr flF 56 3 c.l2 c.fs,arr flHC 36 6 l' M',blk bOut (sL c.l1 c.l2 c.l3) 26,blk b zS 26,blk bS (sL s1 s2 s3) 26]):=sJ
   have sK:=(sJ.inrds FlL (by decide)).re [1,2,3,0,4,5,6,7] (by decide)
   refine sK.stbs (k:=5) (i:=2) (vs:=[.slice l'.a l'.n l'.c]) rfl (by simp) (one1 _) fun G sG=>?_
   replace sG:Sym H no G (RL bOut b bS s1 s2 s3 ⟨c.l1,c.l2,l',c.ps,c.L,c.fs,(ap,o.args)::c.rs,M'⟩ zS):=sG
   exact ⟨x.cons.length - (j+1),by omega,j+1,⟨c.l1,c.l2,l',c.ps,c.L,c.fs,(ap,o.args)::c.rs,M'⟩,intoK cmpC (fun z=>z) acc3 o,wi (by omega),hj',rfl,qo,isF,hR,st,sG⟩
 ·have hje3:j=x.cons.length:=by have:=dge hge;omega
  rw [hje3,List.take_length] at isC
  refine ⟨c.l1,c.l2,c.l3,⟨sE.ld (k:=5) rfl 0,sE.ld (k:=5) rfl 1,sE.ld (k:=5) rfl 2,trivial⟩,sE.stbs (k:=6) (i:=0) (vs:=sL c.l1 c.l2 c.l3) rfl (by simp) (one3 _ _ _) fun F sF=>?_⟩
  replace sF:Sym H no F (RL bOut b bS s1 s2 s3 c (sL c.l1 c.l2 c.l3)):=sF
  exact ⟨c.l1,c.l2,c.l3,⟨sF.ld (k:=6) rfl 0,sF.ld (k:=6) rfl 1,sF.ld (k:=6) rfl 2,trivial⟩,k c ⟨acc,c.fs,acc3⟩ F (sF.re [0,1,2,3,4] (by decide)) ⟨qo,rfl,qc⟩ ⟨isO,isF,isC⟩⟩
theorem rsame_ok {s1 s2 s3 t1 t2 t3:Sl}{x y:SysD}(h1:RdSys H s1 s2 s3 x) (h2:RdSys H t1 t2 t3 y) (hb:LenSys x) (k:∀ H',Fr no H H'→K (.bool (decide (x=y))) H'):CallF Tryz.prog 13 #[sAg s1 s2 s3,sAg t1 t2 t3] H K Z:=by
 refine V13_ok ?_
 unfold V13
 intro bA A hA bB B hB
 have sB:=((Sym.start H).newb (cs:=sL s1 s2 s3) hA).newb (cs:=sL t1 t2 t3) hB
 have fB:=sB.fr
 have ga:∀ {E:Hp},Fr no B E→∀ i,hcell E ⟨bA,i,none⟩=(sL s1 s2 s3)[i]?:=fun fE i=>(sB.more fE).ld (k:=1) rfl i
 have gb:∀ {E:Hp},Fr no B E→∀ i,hcell E ⟨bB,i,none⟩=(sL t1 t2 t3)[i]?:=fun fE i=>(sB.more fE).ld (k:=0) rfl i
 have no':∀ {E:Hp},Fr no B E→x≠y→K (.bool false) E:=fun f h=>by
  have kk:=k _ (fB.trans f)
  rw [decide_eq_false h] at kk
  exact kk
 have bo:=hb.o.1
 have bf:=hb.f
 have bc:=hb.c.1
 have l1:=h1.o.len
 have l2:=h1.f.len
 have l3:=h1.c.len
 have m1:=h2.o.len
 have m2:=h2.f.len
 have m3:=h2.c.len
 have r:=Fr.refl no B
 have ne:∀ {a b:Nat},(((a:Nat):Int) != ((b:Nat):Int))=true→a≠b:=fun h e=>bne_iff_ne.1 h (by rw [e])
 have eq:∀ {a b:Nat},(((a:Nat):Int) != ((b:Nat):Int))=false→a=b:=fun {a b} h=>by
  have:((a:Nat):Int)=((b:Nat):Int):=bne_eq_false_iff_eq.1 h
  omega
 refine ⟨fun E=>Fr no B E∧x.objs.length=y.objs.length∧x.fns.length=y.fns.length∧x.cons.length=y.cons.length,?_,s1,ga r 0,t1,gb r 0,fun hn=>no' r fun e=>ne hn (by rw [l1,m1,e]),fun he1=>⟨s2,ga r 1,t2,gb r 1,fun hn=>no' r fun e=>ne hn (by rw [l2,m2,e]),fun he2=>⟨s3,ga r 2,t3,gb r 2,fun hn=>no' r fun e=>ne hn (by rw [l3,m3,e]),fun he3=>⟨r,by have:=eq he1;omega,by have:=eq he2;omega,by have:=eq he3;omega⟩⟩⟩⟩
 rintro E ⟨fE,n1,n2,n3⟩ scr
 refine ⟨fun i F m=>∃ j:Nat,Fr no B F∧i=(j:Int)∧j≤x.objs.length∧m=x.objs.length - j∧x.objs.take j=y.objs.take j,⟨_,0,fE,rfl,Nat.zero_le _,rfl,rfl⟩,?_⟩
 rintro i F m ⟨j,fF,rfl,hj,rfl,he⟩ scr1
 refine ⟨s1,ga fF 0,fun hlt=>?_,fun hge=>?_⟩
 ·have hj':j < x.objs.length:=by have:=dlt hlt;omega
  obtain ⟨p,hp,hpm⟩:=getN hj'
  obtain ⟨q,hq,_⟩:=getN (show j < y.objs.length by omega)
  obtain ⟨u,hu,ix⟩:=atO (h1.o.more (fB.trans fF)) hp
  obtain ⟨v,hv,iy⟩:=atO (h2.o.more (fB.trans fF)) hq
  exact ⟨s1,ga fF 0,ix fun ad e0 e1 e2=>⟨_,_,u,⟨e0,e1,e2,trivial⟩,t1,gb fF 0,iy fun ad2 g0 g1 g2=>⟨_,_,v,⟨g0,g1,g2,trivial⟩,rsameObj_ok hu hv (by have:=hb.o.2 p hpm;omega) fun G fG=>⟨_,rfl,fun hn=>no' (fF.trans fG) fun e=>ne_at hp hq (notd.1.1 hn) (by rw [e]),fun hn=>⟨x.objs.length - (j+1),by omega,j+1,fF.trans fG,wi (by omega),hj',rfl,take_eq he hp hq (notd.2.1 hn)⟩⟩⟩⟩⟩
 rw [List.take_of_length_le (by have:=dge hge;omega),List.take_of_length_le (by have:=dge hge;omega)] at he
 clear hge
 refine ⟨fun i F m=>∃ j:Nat,Fr no B F∧i=(j:Int)∧j≤x.fns.length∧m=x.fns.length - j∧x.fns.take j=y.fns.take j,⟨_,0,fF,rfl,Nat.zero_le _,rfl,rfl⟩,?_⟩
 clear fF
 rintro i F m ⟨j,fF,rfl,hj,rfl,he2⟩ scr2
 refine ⟨s2,ga fF 1,fun hlt=>?_,fun hge=>?_⟩
 ·have hj':j < x.fns.length:=by have:=dlt hlt;omega
  obtain ⟨p,hp,hpm⟩:=getN hj'
  obtain ⟨q,hq,_⟩:=getN (show j < y.fns.length by omega)
  refine ⟨s2,ga fF 1,atF (h1.f.more (fB.trans fF)) hp fun ad e0 e1 e2=>⟨_,_,_,⟨e0,e1,e2,trivial⟩,t2,gb fF 1,atF (h2.f.more (fB.trans fF)) hq fun ad2 g0 g1 g2=>⟨_,_,_,⟨g0,g1,g2,trivial⟩,?_⟩⟩⟩
  rw [fnEq]
  exact ⟨fun hn=>no' fF fun e=>ne_at hp hq (notd.1.1 hn) (by rw [e]),fun hn=>⟨x.fns.length - (j+1),by omega,j+1,fF,wi (by omega),hj',rfl,take_eq he2 hp hq (notd.2.1 hn)⟩⟩
 rw [List.take_of_length_le (by have:=dge hge;omega),List.take_of_length_le (by have:=dge hge;omega)] at he2
 clear hge
 refine ⟨fun i F m=>∃ j:Nat,Fr no B F∧i=(j:Int)∧j≤x.cons.length∧m=x.cons.length - j∧x.cons.take j=y.cons.take j,⟨_,0,fF,rfl,Nat.zero_le _,rfl,rfl⟩,?_⟩
 clear fF
 rintro i F m ⟨j,fF,rfl,hj,rfl,he3⟩ scr3
 refine ⟨s3,ga fF 2,fun hlt=>?_,fun hge=>?_⟩
 ·have hj':j < x.cons.length:=by have:=dlt hlt;omega
  obtain ⟨p,hp,hpm⟩:=getN hj'
  obtain ⟨q,hq,_⟩:=getN (show j < y.cons.length by omega)
  obtain ⟨u,hu,ix⟩:=atC (h1.c.more (fB.trans fF)) hp
  obtain ⟨v,hv,iy⟩:=atC (h2.c.more (fB.trans fF)) hq
  exact ⟨s3,ga fF 2,ix fun ad e0 e1 e2 e3 e4 e5=>⟨_,_,_,_,_,u,⟨e0,e1,e2,e3,e4,e5,trivial⟩,t3,gb fF 2,iy fun ad2 g0 g1 g2 g3 g4 g5=>⟨_,_,_,_,_,v,⟨g0,g1,g2,g3,g4,g5,trivial⟩,cmp15_ok hu hv (hb.c.2 p hpm) fun G fG=>⟨_,rfl,fun hn=>no' (fF.trans fG) fun e=>ne_at hp hq (fun e2=>bne_iff_ne.1 hn (linC.eq.2 e2)) (by rw [e]),fun hn=>⟨x.cons.length - (j+1),by omega,j+1,fF.trans fG,wi (by omega),hj',rfl,take_eq he3 hp hq (linC.eq.1 (bne_eq_false_iff_eq.1 hn))⟩⟩⟩⟩⟩
 ·rw [List.take_of_length_le (by have:=dge hge;omega),List.take_of_length_le (by have:=dge hge;omega)] at he3
  have kk:=k _ (fB.trans fF)
  have hxy:x=y:=by
   cases x;cases y
   simp only at he he2 he3
   rw [he,he2,he3]
  rw [decide_eq_true hxy] at kk
  exact kk
theorem adj_rise {χ κ : Type}{c : κ→κ→Int}{ky : χ→κ}(hc:CmpLin c):∀ {a:List χ},a.Pairwise (fun x y=>c (ky x) (ky y)≤0)→(∀ (i:Nat) y z,a[i]? = some y→a[i+1]? = some z→ky y≠ky z)→a.Pairwise fun x y=>c (ky x) (ky y) < 0
 | [],_,_=>List.Pairwise.nil
 | [x],_,_=>List.pairwise_singleton _ _
 | x::z::r,hp,hne=>by
  have hp':=List.pairwise_cons.1 hp
  have ih:=adj_rise hc (a:=z::r) hp'.2 fun i y w hy hw=>hne (i+1) y w (by simpa using hy) (by simpa using hw)
  have hxz:c (ky x) (ky z) < 0:=by
   have h1:=hp'.1 z List.mem_cons_self
   have h2:=hne 0 x z rfl rfl
   have h3:c (ky x) (ky z)≠0:=fun e=>h2 (hc.eq.1 e)
   omega
  refine List.pairwise_cons.2 ⟨fun y hy=>?_,ih⟩
  rcases List.mem_cons.1 hy with rfl | hy
  ·exact hxz
  ·exact hc.tr hxz ((List.pairwise_cons.1 ih).1 y hy)
theorem runion_ok {l:Sl}{xs:List SysD}(h:RdX flY 3 InY H l xs) (hx:OkSys (catS xs)) (hn:xs.length≤1000)
  (k:∀ t1 t2 t3 r e E,Fr no H E→UniR xs r e→RdSys E t1 t2 t3 r→K (.tuple #[sAg t1 t2 t3,.int .i64 e]) E):CallF Tryz.prog 44 #[.slice l.a l.n l.c] H K Z:=by
 refine V44_ok ?_
 unfold V44
 intro b A hA bAll B hB
 have sA:=(Sym.start H).newb (cs:=zS) hA
 have sB:=sA.newb (cs:=zS) hB
 have ln:=RdX.len h
 have bo:=hx.o.1
 have bf:=hx.f.1
 have bc:=hx.c.1
 refine ⟨fun i C m=>∃ (j:Nat) (l1 l2 l3:Sl) (ho:List HO) (hc:List HC),i=(j:Int)∧j≤xs.length∧m=xs.length - j∧(∀ s∈xs.take j,checkE s=0)∧Hx (InO H) ho (catS (xs.take j)).objs∧Hx (InC H) hc (catS (xs.take j)).cons ∧
  Sym H no C (UL bAll b l1 l2 l3 ho (catS (xs.take j)).fns hc),⟨_,0,n0,n0,n0,[],[],rfl,Nat.zero_le _,rfl,by simp,Hx.nil,Hx.nil,((sB.nilrow flHC 36 6).nilrow flF 56 3).nilrow flHO 52 3⟩,?_⟩
 rintro i C m ⟨j,l1,l2,l3,ho,hc,rfl,hj,rfl,hall,qo,qc,sC⟩ scr
 have fC:=sC.fr
 refine ⟨fun hlt=>?_,fun hge=>?_⟩
 ·have hj':j < xs.length:=by have:=dlt hlt;omega
  obtain ⟨x,hxj,hxm⟩:=getN hj'
  obtain ⟨s1,s2,s3,hs,ix⟩:=atY h hxj
  have okx:=ok_part hx hxm
  obtain ⟨e1,e2,e3⟩:=cat_snoc hxj
  refine ix fun ad g0 g1 g2=>⟨s1,s2,s3,⟨lf fC g0,lf fC g1,lf fC g2,trivial⟩,rcheck_ok (hs.more fC) okx fun F fF=>⟨_,rfl,fun hne=>?_,fun heq=>?_⟩⟩
  ·have sF:=sC.more fF
   have hne:=bne_iff_ne.1 hne
   refine sF.stbs (k:=4) (i:=0) (vs:=sL n0 n0 n0) rfl (by simp) (one3 _ _ _) fun G sG=>?_
   replace sG:Sym H no G (UL bAll b l1 l2 l3 ho (catS (xs.take j)).fns hc):=sG
   have hfe:=first_at hall hxj hne
   exact ⟨n0,n0,n0,⟨sG.ld (k:=4) rfl 0,sG.ld (k:=4) rfl 1,sG.ld (k:=4) rfl 2,trivial⟩,k n0 n0 n0 nilS _ G sG.fr (.inl ⟨by rw [hfe];exact hne,hfe.symm,rfl⟩) rd_nil⟩
  ·have h0:=bne_eq_false_iff_eq.1 heq
   have sF:=sC.more fF
   have n1:=(Sym.rd (k:=0) sF FlHO (by decide) rfl).len
   have n2:=(Sym.rd (k:=1) sF FlF (by decide) rfl).len
   have n3:=(Sym.rd (k:=2) sF FlHC (by decide) rfl).len
   have b1:(catS (xs.take j)).objs.length≤(catS xs).objs.length:=take_flat _ _
   have b2:(catS (xs.take j)).fns.length≤(catS xs).fns.length:=take_flat _ _
   have b3:(catS (xs.take j)).cons.length≤(catS xs).cons.length:=take_flat _ _
   have c1:=okx.o.1
   have c2:=okx.f.1
   have c3:=okx.c.1
   obtain ⟨ro,r1,r2,r3⟩:=hs.o
   obtain ⟨rc,u1,u2,u3⟩:=hs.c
   have q1:=qo.1
   have q3:=qc.1
   refine ⟨l1,sF.ld (k:=3) rfl 0,ix fun ad1 a0 a1 a2=>⟨s1,lf sF.fr a0,Sym.appR (k:=0) C16O.tyE sF FlHO (by decide) rfl (r1.more sF.fr) (by rw [n1,r2];omega) fun p1 G nG sG=>?_⟩⟩
   replace sG:Sym H no G [arr flHO 52 3 p1 (ho++ro),arr flF 56 3 l2 (catS (xs.take j)).fns,arr flHC 36 6 l3 hc,blk bAll (sL l1 l2 l3) 26,blk b zS 26]:=sG
   refine sG.stbs (k:=3) (i:=0) (vs:=[.slice p1.a p1.n p1.c]) rfl (by simp) (one1 _) fun I sI=>?_
   replace sI:Sym H no I [arr flHO 52 3 p1 (ho++ro),arr flF 56 3 l2 (catS (xs.take j)).fns,arr flHC 36 6 l3 hc,blk bAll (sL p1 l2 l3) 26,blk b zS 26]:=sI
   refine ⟨l2,sI.ld (k:=3) rfl 1,ix fun ad2 a0 a1 a2=>⟨s2,lf sI.fr a1,Sym.appR (k:=1) C16F.tyE sI FlF (by decide) rfl (hs.f.more sI.fr) (by rw [n2];omega) fun p2 L nL sL'=>?_⟩⟩
   replace sL':Sym H no L [arr flHO 52 3 p1 (ho++ro),arr flF 56 3 p2 ((catS (xs.take j)).fns++x.fns),arr flHC 36 6 l3 hc,blk bAll (sL p1 l2 l3) 26,blk b zS 26]:=sL'
   refine sL'.stbs (k:=3) (i:=1) (vs:=[.slice p2.a p2.n p2.c]) rfl (by simp) (one1 _) fun M sM=>?_
   replace sM:Sym H no M [arr flHO 52 3 p1 (ho++ro),arr flF 56 3 p2 ((catS (xs.take j)).fns++x.fns),arr flHC 36 6 l3 hc,blk bAll (sL p1 p2 l3) 26,blk b zS 26]:=sM
   refine ⟨l3,sM.ld (k:=3) rfl 2,ix fun ad3 a0 a1 a2=>⟨s3,lf sM.fr a2,Sym.appR (k:=2) C16C.tyE sM FlHC (by decide) rfl (u1.more sM.fr) (by rw [n3,u2];omega) fun p3 N nN sN=>?_⟩⟩
   replace sN:Sym H no N [arr flHO 52 3 p1 (ho++ro),arr flF 56 3 p2 ((catS (xs.take j)).fns++x.fns),arr flHC 36 6 p3 (hc++rc),blk bAll (sL p1 p2 l3) 26,blk b zS 26]:=sN
   refine sN.stbs (k:=3) (i:=2) (vs:=[.slice p3.a p3.n p3.c]) rfl (by simp) (one1 _) fun O sO=>?_
   replace sO:Sym H no O [arr flHO 52 3 p1 (ho++ro),arr flF 56 3 p2 ((catS (xs.take j)).fns++x.fns),arr flHC 36 6 p3 (hc++rc),blk bAll (sL p1 p2 p3) 26,blk b zS 26]:=sO
   refine ⟨xs.length - (j+1),by omega,j+1,p1,p2,p3,ho++ro,hc++rc,wi (by omega),hj',rfl,all_snoc hxj hall h0,?_,?_,?_⟩
   ·rw [e1]
    exact qo.app ⟨r2,r3⟩
   ·rw [e3]
    exact qc.app ⟨u2,u3⟩
   ·rw [e2]
    exact sO
 ·have hje:j=xs.length:=by have:=dge hge;omega
  rw [hje,List.take_length] at hall qo qc sC
  have hrd:RdSys C l1 l2 l3 (catS xs):=⟨⟨ho,Sym.rd (k:=0) sC FlHO (by decide) rfl,qo.1,fun i a x ha hx=>(qo.2 i a x ha hx).more fC⟩,Sym.rd (k:=1) sC FlF (by decide) rfl,⟨hc,Sym.rd (k:=2) sC FlHC (by decide) rfl,qc.1,fun i a x ha hx=>(qc.2 i a x ha hx).more fC⟩⟩
  refine ⟨l1,l2,l3,⟨sC.ld (k:=3) rfl 0,sC.ld (k:=3) rfl 1,sC.ld (k:=3) rfl 2,trivial⟩,rcanon_ok hrd hx.len fun c t E sE hg hcan=>⟨c.l1,c.l2,c.l3,rfl,?_⟩⟩
  have sJ:Sym H no E (c.its++UT bAll b l1 l2 l3 ho (catS xs).fns hc l1 l2 l3 zS):=sC.join sE
  refine sJ.stbs (k:=8) (i:=0) (vs:=sL c.l1 c.l2 c.l3) rfl (by simp) (one3 _ _ _) fun F sF=>?_
  replace sF:Sym H no F (c.its++UT bAll b l1 l2 l3 ho (catS xs).fns hc c.l1 c.l2 c.l3 zS):=sF
  have okt:=ok_can hx hcan
  have hz:firstE (xs.map checkE)=0:=firstE_0.2 fun y hy=>by obtain ⟨s,hs,rfl⟩:=List.mem_map.1 hy;exact hall s hs
  have hpt:OkPart (catS xs):=cat_part hall
  have hck:=can_check hcan hpt
  have rdt:∀ {G:Hp}{R:List It},Sym H no G (c.its++R)→RdSys G c.l1 c.l2 c.l3 t:=fun s=>RefS.rd (fun a ha=>s.ok a (List.mem_append_left _ ha)) hg
  have bad:∀ {G:Hp}{e:Int},Sym H no G (c.its++UT bAll b l1 l2 l3 ho (catS xs).fns hc c.l1 c.l2 c.l3 zS)→UniR xs nilS e→StL ⟨b,0,none⟩ 0 [.slice none 0 0,.slice none 0 0,.slice none 0 0] G fun H19=>(∃ res_a res_b res_c:Sl,(hcell H19 ⟨b,0,none⟩=some (.slice res_a.a res_a.n res_a.c)∧hcell H19 ⟨b,1,none⟩=some (.slice res_b.a res_b.n res_b.c)∧hcell H19 ⟨b,2,none⟩=some (.slice res_c.a res_c.n res_c.c)∧True)∧K (.tuple #[.agg #[.slice res_a.a res_a.n res_a.c,.slice res_b.a res_b.n res_b.c,.slice res_c.a res_c.n res_c.c],.int .i64 e]) H19):=by
   intro G e sG hu
   refine sG.stbs (k:=9) (i:=0) (vs:=sL n0 n0 n0) rfl (by simp) (one3 _ _ _) fun I sI=>?_
   replace sI:Sym H no I (c.its++UT bAll b l1 l2 l3 ho (catS xs).fns hc c.l1 c.l2 c.l3 zS):=sI
   exact ⟨n0,n0,n0,⟨sI.ld (k:=9) rfl 0,sI.ld (k:=9) rfl 1,sI.ld (k:=9) rfl 2,trivial⟩,k n0 n0 n0 nilS _ I sI.fr hu rd_nil⟩
  have hrdF:=rdt sF
  have ln1:=hrdF.o.len
  have ln2:=hrdF.f.len
  have bt1:=okt.o.1
  have bt2:=okt.f.1
  refine ⟨fun i1 G m=>∃ j:Nat,G=F∧i1=(j:Int)∧1≤j∧m=t.objs.length - j∧∀ (i:Nat) y z,i+1 < j→t.objs[i]? = some y→t.objs[i+1]? = some z→y.name≠z.name,⟨_,1,rfl,rfl,Nat.le_refl _,rfl,by intro i y z hi;omega⟩,?_⟩
  rintro i1 G m ⟨j1,hG,rfl,hj1,rfl,hne1⟩ scr1
  rw [hG]
  refine ⟨c.l1,sF.ld (k:=8) rfl 0,fun hlt=>?_,fun hge1=>?_⟩
  ·have hj':j1 < t.objs.length:=by have:=dlt hlt;omega
   obtain ⟨p,hp,_⟩:=getN hj'
   obtain ⟨q,hq,_⟩:=getN (show j1 - 1 < t.objs.length by omega)
   obtain ⟨u,hu,ix⟩:=atO hrdF.o hp
   obtain ⟨v,hv,iy⟩:=atO hrdF.o hq
   refine ⟨c.l1,sF.ld (k:=8) rfl 0,ix fun ad a0 a1 a2=>⟨_,a0,c.l1,sF.ld (k:=8) rfl 0,?_⟩⟩
   rw [wd (by omega) hj1]
   refine iy fun ad2 g0 g1 g2=>⟨_,g0,?_⟩
   rw [beq_str]
   refine ⟨fun heq=>?_,fun hne=>⟨t.objs.length - (j1+1),by omega,j1+1,rfl,wi (by omega),by omega,rfl,fun i y z hi hy hz=>?_⟩⟩
   ·refine bad sF (.inr ⟨hz,t,hcan,.inl ⟨fun hon=>?_,rfl,rfl⟩⟩)
    have:=pw_at hon.1 hq hp (by omega)
    rw [show cmpO q p=cmpL q.name p.name from rfl,of_decide_eq_true heq,linCL.eq.2 rfl] at this
    omega
   ·by_cases hij:i+1 < j1
    ·exact hne1 i y z hij hy hz
    ·have hi1:i+1=j1:=by omega
     rw [hi1,hp] at hz
     rw [show i=j1 - 1 by omega,hq] at hy
     rw [← Option.some_inj.1 hy,← Option.some_inj.1 hz]
     exact fun e=>of_decide_eq_false hne e.symm
  have ro:t.objs.Pairwise fun x y=>cmpO x y < 0:=adj_rise linCL (hcan.o.le linCL) fun i y z hy hz=>hne1 i y z (by have:=(List.getElem?_eq_some_iff.1 hz).1;have:=dge hge1;omega) hy hz
  refine ⟨fun i1 G m=>∃ j:Nat,G=F∧i1=(j:Int)∧1≤j∧m=t.fns.length - j∧∀ (i:Nat) y z,i+1 < j→t.fns[i]? = some y→t.fns[i+1]? = some z→y.name≠z.name,⟨_,1,rfl,rfl,Nat.le_refl _,rfl,by intro i y z hi;omega⟩,?_⟩
  rintro i2 G2 m ⟨j2,hG2,rfl,hj2,rfl,hne2⟩ scr2
  rw [hG2]
  refine ⟨c.l2,sF.ld (k:=8) rfl 1,fun hlt=>?_,fun hge2=>?_⟩
  ·have hj':j2 < t.fns.length:=by have:=dlt hlt;omega
   obtain ⟨p,hp,_⟩:=getN hj'
   obtain ⟨q,hq,_⟩:=getN (show j2 - 1 < t.fns.length by omega)
   refine ⟨c.l2,sF.ld (k:=8) rfl 1,atF hrdF.f hp fun ad a0 a1 a2=>⟨_,a0,c.l2,sF.ld (k:=8) rfl 1,?_⟩⟩
   rw [wd (by omega) hj2]
   refine atF hrdF.f hq fun ad2 g0 g1 g2=>⟨_,g0,?_⟩
   rw [beq_str]
   refine ⟨fun heq=>?_,fun hne=>⟨t.fns.length - (j2+1),by omega,j2+1,rfl,wi (by omega),by omega,rfl,fun i y z hi hy hz=>?_⟩⟩
   ·refine bad sF (.inr ⟨hz,t,hcan,.inl ⟨fun hon=>?_,rfl,rfl⟩⟩)
    have:=pw_at hon.2 hq hp (by omega)
    rw [show cmpF q p=cmpL q.name p.name from rfl,of_decide_eq_true heq,linCL.eq.2 rfl] at this
    omega
   ·by_cases hij:i+1 < j2
    ·exact hne2 i y z hij hy hz
    ·have hi1:i+1=j2:=by omega
     rw [hi1,hp] at hz
     rw [show i=j2 - 1 by omega,hq] at hy
     rw [← Option.some_inj.1 hy,← Option.some_inj.1 hz]
     exact fun e=>of_decide_eq_false hne e.symm
  have rf:t.fns.Pairwise fun x y=>cmpF x y < 0:=adj_rise linCL (hcan.f.le linCL) fun i y z hy hz=>hne2 i y z (by have:=(List.getElem?_eq_some_iff.1 hz).1;have:=dge hge2;omega) hy hz
  have hon:once t:=⟨ro,rf⟩
  refine ⟨c.l1,c.l2,c.l3,⟨sF.ld (k:=8) rfl 0,sF.ld (k:=8) rfl 1,sF.ld (k:=8) rfl 2,trivial⟩,rcheck_ok hrdF okt fun I fI=>⟨_,rfl,fun hne=>?_,fun heq=>?_⟩⟩
  ·have hbig:bigS t:=Classical.byContradiction fun hb=>bne_iff_ne.1 hne (hck.2 ⟨hon,hb⟩)
   exact bad (sF.more fI) (.inr ⟨hz,t,hcan,.inr (.inl ⟨hon,hbig,rfl,rfl⟩)⟩)
  ·have sI:=sF.more fI
   have h0:=hck.1 (bne_eq_false_iff_eq.1 heq)
   refine ⟨c.l1,c.l2,c.l3,⟨sI.ld (k:=8) rfl 0,sI.ld (k:=8) rfl 1,sI.ld (k:=8) rfl 2,trivial⟩,sI.stbs (k:=9) (i:=0) (vs:=sL c.l1 c.l2 c.l3) rfl (by simp) (one3 _ _ _) fun J sJ2=>?_⟩
   replace sJ2:Sym H no J (c.its++UT bAll b l1 l2 l3 ho (catS xs).fns hc c.l1 c.l2 c.l3 (sL c.l1 c.l2 c.l3)):=sJ2
   exact ⟨c.l1,c.l2,c.l3,⟨sJ2.ld (k:=9) rfl 0,sJ2.ld (k:=9) rfl 1,sJ2.ld (k:=9) rfl 2,trivial⟩,k _ _ _ t _ J sJ2.fr (.inr ⟨hz,t,hcan,.inr (.inr ⟨h0.1,h0.2,rfl,rfl⟩)⟩) (rdt sJ2)⟩
end
end Go.Proofs.YtjdhjgfmloaglaaGreatDoor.C18
end
section
namespace Go.Proofs.YtjdhjgfmloaglaaGreatDoor.C23
open Go Go.V Go.Proofs P14 C14 P15 C15 P23
def stB (T:List L8) (c:ConD):Bool:=decide (c.op=4) || (decide (c.op=6) || decide (c.a∈T))
def nmC (c:ConD):List L8:=c.a::c.b::c.args
def namesL (T keep:List L8) (cs:List ConD):List L8:=keep.filter nodeB++(cs.filter (stB T)).flatMap nmC
section
variable {x:SysD}{keep T:List L8}
theorem stB_iff (h:∀ n,n∈T↔Need x keep n) {c:ConD}:stB T c=true↔Stays x keep c:=by
 unfold stB Stays
 rw [Bool.or_eq_true,Bool.or_eq_true,decide_eq_true_eq,decide_eq_true_eq,decide_eq_true_eq,h]
theorem names_iff (h:∀ n,n∈T↔Need x keep n) {z:L8}:z∈namesL T keep x.cons↔Named x keep z:=by
 unfold namesL Named
 rw [List.mem_append,List.mem_filter,List.mem_flatMap]
 constructor
 ·rintro (h1 | ⟨c,hc,hz⟩)
  ·exact .inl h1
  ·obtain ⟨h1,h2⟩:=List.mem_filter.1 hc
   refine .inr ⟨c,h1,(stB_iff h).1 h2,?_⟩
   unfold nmC at hz
   rcases List.mem_cons.1 hz with e | hz
   ·exact .inl e
   ·rcases List.mem_cons.1 hz with e | hz
    ·exact .inr (.inl e)
    ·exact .inr (.inr hz)
 ·rintro (h1 | ⟨c,hc,hs,hz⟩)
  ·exact .inl h1
  ·refine .inr ⟨c,List.mem_filter.2 ⟨hc,(stB_iff h).2 hs⟩,?_⟩
   unfold nmC
   rcases hz with rfl | rfl | hz
   ·simp
   ·simp
   ·exact List.mem_cons_of_mem _ (List.mem_cons_of_mem _ hz)
def leftB (OS FS T:List L8) (x:SysD):SysD:=⟨x.objs.filter fun o=>decide (o.name∈OS),x.fns.filter fun f=>decide (f.name∈FS),x.cons.filter (stB T)⟩
theorem left_eq (h:∀ n,n∈T↔Need x keep n):leftB ((namesL T keep x.cons).filterMap nmO) ((namesL T keep x.cons).filterMap nmF) T x=left x keep:=by
 unfold leftB left
 have e1:(fun o:ObjD=>decide (o.name∈(namesL T keep x.cons).filterMap nmO))=fun o:ObjD=>@decide (∃ z,Named x keep z∧nmO z=some o.name) (Classical.propDecidable _):=by
  funext o
  rw [Bool.eq_iff_iff,decide_eq_true_eq,@decide_eq_true_eq _ (Classical.propDecidable _),List.mem_filterMap]
  exact ⟨fun ⟨z,h1,h2⟩=>⟨z,(names_iff h).1 h1,h2⟩,fun ⟨z,h1,h2⟩=>⟨z,(names_iff h).2 h1,h2⟩⟩
 have e2:(fun o:FnD=>decide (o.name∈(namesL T keep x.cons).filterMap nmF))=fun o:FnD=>@decide (∃ z,Named x keep z∧nmF z=some o.name) (Classical.propDecidable _):=by
  funext o
  rw [Bool.eq_iff_iff,decide_eq_true_eq,@decide_eq_true_eq _ (Classical.propDecidable _),List.mem_filterMap]
  exact ⟨fun ⟨z,h1,h2⟩=>⟨z,(names_iff h).1 h1,h2⟩,fun ⟨z,h1,h2⟩=>⟨z,(names_iff h).2 h1,h2⟩⟩
 have e3:stB T=fun c:ConD=>@decide (Stays x keep c) (Classical.propDecidable _):=by
  funext c
  rw [Bool.eq_iff_iff,stB_iff h,@decide_eq_true_eq _ (Classical.propDecidable _)]
 rw [e1,e2,e3]
theorem leftB_ok {OS FS:List L8}(hx:OkSys x):OkSys (leftB OS FS T x):=by
 have a:=List.length_filter_le (fun o:ObjD=>decide (o.name∈OS)) x.objs
 have b:=List.length_filter_le (fun f:FnD=>decide (f.name∈FS)) x.fns
 have c:=List.length_filter_le (stB T) x.cons
 exact ⟨⟨Nat.le_trans a hx.o.1,fun o ho=>hx.o.2 o (List.mem_filter.1 ho).1⟩,⟨Nat.le_trans b hx.f.1,fun o ho=>hx.f.2 o (List.mem_filter.1 ho).1⟩,⟨Nat.le_trans c hx.c.1,fun o ho=>hx.c.2 o (List.mem_filter.1 ho).1⟩⟩
theorem canon_left {t:SysD}(h0:checkE x=0) (h:IsCanS x t):t=x:=by
 obtain ⟨h1,h2,h3,h4⟩:=checkE_0.1 h0
 exact h.uniq ⟨IsCan.of_rising h3.1 fun _=>Iff.rfl,IsCan.of_rising h3.2 fun _=>Iff.rfl,IsCan.of_rising h4 fun _=>Iff.rfl⟩
theorem nmC_len {c:ConD}(h:c.args.length≤7):(nmC c).length≤9:=by
 unfold nmC
 rw [List.length_cons,List.length_cons]
 omega
theorem namesL_len (hx:Right x) (hk:keep.length≤100000) (j:Nat):(namesL T keep (x.cons.take j)).length≤160000:=by
 unfold namesL
 rw [List.length_append]
 have h1:=List.length_filter_le nodeB keep
 have h2:=flat_le (l:=(x.cons.take j).filter (stB T)) (n:=9) (f:=nmC) fun c hc=>nmC_len (hx.c.2 c (List.mem_of_mem_take (List.mem_filter.1 hc).1))
 have h3:=List.length_filter_le (stB T) (x.cons.take j)
 have h4:=List.length_take_le j x.cons
 have h5:=hx.c.1
 rw [List.length_take] at h3 h4
 omega
end
theorem filt_map {α β : Type}{l:List α}{f : α→β}{p : α→Bool}{q : β→Bool}(h:∀ y∈l,p y=q (f y)):(l.filter p).map f=(l.map f).filter q:=by
 rw [List.filter_map]
 congr 1
 exact List.filter_congr fun y hy=>h y hy
end Go.Proofs.YtjdhjgfmloaglaaGreatDoor.C23
end
section
namespace Go.Proofs.YtjdhjgfmloaglaaGreatDoor.C23
open Go Go.V Go.Proofs N23 P14 C14 P15 C15 C18 P23
attribute [local irreducible] Cvt ExtF CallF hrun App MkS callV Lkp MUp
def PT3 (bS bOut b bN:Nat) (H:Hp) (K:Value→Hp→Prop) (Z:List PanicEntry→Hp→Prop):Prop:=
 ∃ x14:Sl,hcell H ⟨bS,0,none⟩=some (.slice x14.a x14.n x14.c)∧CallF Tryz.prog 36 #[.slice x14.a x14.n x14.c] H (fun r9 H28=>∃ y6:Sl,r9 = .slice y6.a y6.n y6.c∧CallF Tryz.prog 35 #[.slice y6.a y6.n y6.c,.func (.func 37) #[] #[.pointer (some ⟨bN,0,none⟩)]] H28 (fun r10 H29=>∃ y7:Sl,r10 = .slice y7.a y7.n y7.c∧StL ⟨bOut,0,none⟩ 0 [.slice y7.a y7.n y7.c] H29 fun H30=>(∃ x15:Sl,hcell H30 ⟨bS,1,none⟩=some (.slice x15.a x15.n x15.c)∧CallF Tryz.prog 40 #[.slice x15.a x15.n x15.c] H30 (fun r11 H31=>∃ y8:Sl,r11 = .slice y8.a y8.n y8.c∧CallF Tryz.prog 39 #[.slice y8.a y8.n y8.c,.func (.func 41) #[] #[.pointer (some ⟨bN,0,none⟩)]] H31 (fun r12 H32=>∃ y9:Sl,r12 = .slice y9.a y9.n y9.c∧StL ⟨bOut,1,none⟩ 0 [.slice y9.a y9.n y9.c] H32 fun H33=>(∃ x_a4 x_b4 x_c4:Sl,(hcell H33 ⟨bOut,0,none⟩=some (.slice x_a4.a x_a4.n x_a4.c)∧hcell H33 ⟨bOut,1,none⟩=some (.slice x_b4.a x_b4.n x_b4.c)∧hcell H33 ⟨bOut,2,none⟩=some (.slice x_c4.a x_c4.n x_c4.c)∧True)∧CallF Tryz.prog 23 #[.agg #[.slice x_a4.a x_a4.n x_a4.c,.slice x_b4.a x_b4.n x_b4.c,.slice x_c4.a x_c4.n x_c4.c]] H33 (fun r13 H34=>∃ y_a y_b y_c:Sl,r13 = .agg #[.slice y_a.a y_a.n y_a.c,.slice y_b.a y_b.n y_b.c,.slice y_c.a y_c.n y_c.c]∧StL ⟨b,0,none⟩ 0 [.slice y_a.a y_a.n y_a.c,.slice y_b.a y_b.n y_b.c,.slice y_c.a y_c.n y_c.c] H34 fun H35=>(∃ res_a1 res_b1 res_c1:Sl,(hcell H35 ⟨b,0,none⟩=some (.slice res_a1.a res_a1.n res_a1.c)∧hcell H35 ⟨b,1,none⟩=some (.slice res_b1.a res_b1.n res_b1.c)∧hcell H35 ⟨b,2,none⟩=some (.slice res_c1.a res_c1.n res_c1.c)∧True)∧K (.tuple #[.agg #[.slice res_a1.a res_a1.n res_a1.c,.slice res_b1.a res_b1.n res_b1.c,.slice res_c1.a res_c1.n res_c1.c],.int .i64 0]) H35)) Z)) Z) Z)) Z) Z
def PT2 (bS bOut b bN:Nat) (y1:Option Addr) (H:Hp) (K:Value→Hp→Prop) (Z:List PanicEntry→Hp→Prop):Prop:=
 ∃ x4:Sl,hcell H ⟨bS,2,none⟩=some (.slice x4.a x4.n x4.c)∧∃ I1:Int→Hp→Nat→Prop,(∃ m3,I1 0 H m3)∧∀ (t49:Int),∀ H17 m4,I1 t49 H17 m4→∀ scr1:Nat→Value,(((decide (t49 < (x4.n:Int)))=true→IxA x4.a x4.n t49 6 fun ad1=>(∃ (x_a2:Int) (x_b2 x_c2:ByteArray) (x_d:Int) (x_e:ByteArray) (x_f:Sl),(hcell H17 ad1=some (.int .i64 x_a2)∧hcell H17 (Addr.add ad1 1)=some (.string x_b2)∧hcell H17 (Addr.add ad1 2)=some (.string x_c2)∧hcell H17 (Addr.add ad1 3)=some (.int .i64 x_d)∧hcell H17 (Addr.add ad1 4)=some (.string x_e)∧hcell H17 (Addr.add ad1 5)=some (.slice x_f.a x_f.n x_f.c)∧True)∧∀ bC H18,Newb H17 (.cells #[.int .i64 0,.string ⟨#[]⟩,.string ⟨#[]⟩,.int .i64 0,.string ⟨#[]⟩,.slice none 0 0] 36) bC H18→StL ⟨bC,0,none⟩ 0 [.int .i64 x_a2,.string x_b2,.string x_c2,.int .i64 x_d,.string x_e,.slice x_f.a x_f.n x_f.c] H18 fun H19=>(∃ J:Bool→Hp→Prop,(∀ (t66:Bool),∀ H20,J t66 H20→∀ scr2:Nat→Value,((t66=true→∃ x5:Sl,hcell H20 ⟨bOut,2,none⟩=some (.slice x5.a x5.n x5.c)∧∃ (x_a3:Int) (x_b3 x_c3:ByteArray) (x_d1:Int) (x_e1:ByteArray) (x_f1:Sl),(hcell H20 ⟨bC,0,none⟩=some (.int .i64 x_a3)∧hcell H20 ⟨bC,1,none⟩=some (.string x_b3)∧hcell H20 ⟨bC,2,none⟩=some (.string x_c3)∧hcell H20 ⟨bC,3,none⟩=some (.int .i64 x_d1)∧hcell H20 ⟨bC,4,none⟩=some (.string x_e1)∧hcell H20 ⟨bC,5,none⟩=some (.slice x_f1.a x_f1.n x_f1.c)∧True)∧∀ b3 H21,Newb H20 (.cells #[.int .i64 x_a3,.string x_b3,.string x_c3,.int .i64 x_d1,.string x_e1,.slice x_f1.a x_f1.n x_f1.c] 36) b3 H21→App Tryz.prog #[24,24] 24 H21 [.slice x5.a x5.n x5.c,.slice (some ⟨b3,0,none⟩) 1 1] fun ap H22=>(StL ⟨bOut,2,none⟩ 0 [.slice ap.a ap.n ap.c] H22 fun H23=>(∃ x6:Option Addr,hcell H23 ⟨bN,0,none⟩=some (.pointer x6)∧∃ x7:ByteArray,hcell H23 ⟨bC,1,none⟩=some (.string x7)∧∃ x8:ByteArray,hcell H23 ⟨bC,2,none⟩=some (.string x8)∧∀ b4 H24,Newb H23 (.cells #[.string x7,.string x8] 9) b4 H24→CallF Tryz.prog 33 #[.pointer x6,.slice (some ⟨b4,0,none⟩) 2 2] H24 (fun r6 H25=>r6 = .tuple #[]∧∃ x9:Option Addr,hcell H25 ⟨bN,0,none⟩=some (.pointer x9)∧∃ x10:Sl,hcell H25 ⟨bC,5,none⟩=some (.slice x10.a x10.n x10.c)∧CallF Tryz.prog 33 #[.pointer x9,.slice x10.a x10.n x10.c] H25 (fun r7 H26=>r7 = .tuple #[]∧(∃ m5,m5 < m4∧I1 (w64 (t49+1)) H26 m5)) Z) Z)))∧(t66=false→(∃ m5,m5 < m4∧I1 (w64 (t49+1)) H20 m5))))∧∃ x11:Int,hcell H19 ⟨bC,0,none⟩=some (.int .i64 x11)∧(((x11 == 4)=true→(J true H19))∧((x11 == 4)=false→∃ x12:Int,hcell H19 ⟨bC,0,none⟩=some (.int .i64 x12)∧(((x12 == 6)=true→(J true H19))∧((x12 == 6)=false→∃ x13:ByteArray,hcell H19 ⟨bC,1,none⟩=some (.string x13)∧CallF Tryz.prog 34 #[.pointer y1,.string x13] H19 (fun r8 H27=>∃ y5:Bool,r8 = .bool y5∧(J y5 H27)) Z)))))))∧((decide (t49 < (x4.n:Int)))=false→PT3 bS bOut b bN H17 K Z))
def PT (keep:Sl) (bS bOut b bN:Nat) (y1:Option Addr) (H:Hp) (K:Value→Hp→Prop) (Z:List PanicEntry→Hp→Prop):Prop:=
 ∃ I:Int→Hp→Nat→Prop,(∃ m,I 0 H m)∧∀ (t35:Int),∀ H13 m1,I t35 H13 m1→∀ scr:Nat→Value,(((decide (t35 < (keep.n:Int)))=true→IxA keep.a keep.n t35 1 fun ad=>(∃ x2:ByteArray,hcell H13 ad=some (.string x2)∧CallF Tryz.prog 32 #[.string x2] H13 (fun r4 H14=>∃ y4:Bool,r4 = .bool y4∧((y4=true→∃ x3:Option Addr,hcell H14 ⟨bN,0,none⟩=some (.pointer x3)∧∀ b2 H15,Newb H14 (.cells #[.string x2] 9) b2 H15→CallF Tryz.prog 33 #[.pointer x3,.slice (some ⟨b2,0,none⟩) 1 1] H15 (fun r5 H16=>r5 = .tuple #[]∧(∃ m2,m2 < m1∧I (w64 (t35+1)) H16 m2)) Z)∧(y4=false→(∃ m2,m2 < m1∧I (w64 (t35+1)) H14 m2)))) Z))∧((decide (t35 < (keep.n:Int)))=false→PT2 bS bOut b bN y1 H13 K Z))
theorem call_cap {H:Hp}{K:Value→Hp→Prop}{Z:List PanicEntry→Hp→Prop}{f:Nat}{v c:Value}(hf:fnOk Tryz.prog f=true) (h:CallF Tryz.prog f #[v,c] H K Z):callV Tryz.prog (.func (.func f) #[] #[c]) [v] H K Z:=by
 unfold callV
 have e:((#[]:Array Value).toList ++ [v]++(#[c]:Array Value).toList).toArray=#[v,c]:=by simp
 simp only [hf,if_true]
 rw [e]
 exact h
theorem okp1:fnOk Tryz.prog 37=true:=by kernel_rfl
theorem okp2:fnOk Tryz.prog 41=true:=by kernel_rfl
theorem nhas2_ok {A:Hp}{bX:Nat}{cs:List Value}{os:List Nat}{T:List L8}{n:L8}{K:Value→Hp→Prop}{Z:List PanicEntry→Hp→Prop}(htb:TbS C05S.val C05S.lt 9 3 A bX 0 129 cs (T.map str) os) (hT:T.length≤1900000) (k:∀ B,Fr no A B→K (.bool (decide (n∈T))) B):CallF Tryz.prog 34 #[.pointer (some ⟨bX,0,none⟩),.string (str n)] A K Z:=by
 refine V34_ok ?_
 unfold V34
 refine C05S.find_ok htb (by rw [List.length_map];omega) (fun q B hq fB=>⟨_,_,rfl,?_⟩) (fun B hno fB=>⟨_,_,rfl,?_⟩)
 ·have kk:=k B fB
  have hin:n∈T:=by
   rw [List.getElem?_map] at hq
   cases hx:T[q]? with
   | none=>rw [hx] at hq;cases hq
   | some y=>
    rw [hx] at hq
    have:y=n:=str_inj (by simpa using hq)
    rw [← this]
    exact List.mem_of_getElem? hx
  rw [decide_eq_true hin] at kk
  exact kk
 ·have kk:=k B fB
  rw [decide_eq_false (fun h=>hno (List.mem_map.2 ⟨n,h,rfl⟩))] at kk
  exact kk
abbrev WR (bN b1 bOut b bS bX:Nat) (l3:Sl) (hc:List HC) (cs:List Value) (T:List L8) (os:List Nat) (s1 s2 s3:Sl):List It:=
 [blk bN [.pointer (some ⟨b1,0,none⟩)] 74,blk bOut (sL n0 n0 l3) 26,arr flHC 36 6 l3 hc,nT bX cs (T.map str) os,blk b zS 26,blk bS (sL s1 s2 s3) 26]
section
variable {H0 A:Hp}{bN b1 bOut b bS bX:Nat}{s1 s2 s3 sk:Sl}{x:SysD}{keep T:List L8}{cs:List Value}{os:List Nat}{K:Value→Hp→Prop}{Z:List PanicEntry→Hp→Prop}
theorem pt3_ok {l3:Sl}{hc:List HC}(h:NM H0 A b1 ((namesL T keep x.cons).filterMap nmO) ((namesL T keep x.cons).filterMap nmF) (WR bN b1 bOut b bS bX l3 hc cs T os s1 s2 s3))
  (hl:Lies H0 hc (x.cons.filter (stB T))) (hr:RdSys H0 s1 s2 s3 x) (hx:OkSys x) (h0:checkE x=0) (hT:∀ n,n∈T↔Need x keep n) (hkn:keep.length≤100000)
  (k:∀ (c:CanS) B,Sym H0 no B c.its→c.good (left x keep)→K (.tuple #[sAg c.y c.y1 c.y2,.int .i64 0]) B):PT3 bS bOut b bN A K Z:=by
 have hR:=check_right h0
 have hnl:=namesL_len (T:=T) hR hkn x.cons.length
 rw [List.take_length] at hnl
 have hle:=left_eq (keep:=keep) hT
 have hOl:=List.length_filterMap_le nmO (namesL T keep x.cons)
 have hFl:=List.length_filterMap_le nmF (namesL T keep x.cons)
 generalize (namesL T keep x.cons).filterMap nmO=OS at h hle hOl
 generalize (namesL T keep x.cons).filterMap nmF=FS at h hle hFl
 unfold PT3
 obtain ⟨so,sf,s⟩:=h
 have z1:=hR.o.1
 have z2:=hR.f
 obtain ⟨hs,hrd,hlen,hin⟩:=hr.o
 have rd0:Rd C16O.fle 3 H0 s1 (tagged hs x.objs):=Rd.map (f:=fun z:C16O.El=>z.1.1) (by rw [tagged_fst hlen];exact hrd)
 refine ⟨s1,s.ld (k:=8) rfl 0,C16O.clone_ok s (rd0.more s.fr) (by rw [tagged_len hlen];omega) fun y6 B sB=>⟨y6,rfl,?_⟩⟩
 have hdO:C16O.DelV (.func (.func 37) #[] #[.pointer (some ⟨bN,0,none⟩)]) (fun z=>!decide (z.1.1.1∈OS)) (tagged hs x.objs) H0 (blk b1 [.slice so.a so.n so.c,.slice sf.a sf.n sf.c] 76::arr flL 9 1 so OS::arr flL 9 1 sf FS::WR bN b1 bOut b bS bX l3 hc cs T os s1 s2 s3):=by
  intro z A' K' Z' hz sA kk
  refine call_cap okp1 (V37_ok ?_)
  unfold V37
  intro bO C hC
  have sC:=sA.newb (cs:=[.string (str z.1.1.1),.string (str z.1.1.2.1),.slice z.1.1.2.2.a z.1.1.2.2.n z.1.1.2.2.c]) hC
  refine ⟨some ⟨b1,0,none⟩,sC.ld (k:=4) rfl 0,?_⟩
  show ∃ x1:Sl,_
  refine ⟨so,sC.ld (k:=1) rfl 0,_,sC.ld (k:=0) rfl 0,conS_ok (sC.rd (k:=2) FlL (by decide) rfl) (by omega) ⟨_,rfl,kk C hC.fr⟩⟩
 refine C16O.delete_ok sB (by rw [tagged_len hlen];omega) hdO fun y7 C sC=>⟨y7,rfl,?_⟩
 replace sC:Sym H0 no C (arr C16O.fle 52 3 y7 ((tagged hs x.objs).filter fun z=>!!decide (z.1.1.1∈OS))::blk b1 [.slice so.a so.n so.c,.slice sf.a sf.n sf.c] 76::arr flL 9 1 so OS::arr flL 9 1 sf FS::WR bN b1 bOut b bS bX l3 hc cs T os s1 s2 s3):=sC
 refine sC.stb (k:=5) (i:=0) rfl (by simp) rfl fun D sD=>?_
 replace sD:Sym H0 no D (arr C16O.fle 52 3 y7 ((tagged hs x.objs).filter fun z=>!!decide (z.1.1.1∈OS))::blk b1 [.slice so.a so.n so.c,.slice sf.a sf.n sf.c] 76::arr flL 9 1 so OS::arr flL 9 1 sf FS :: [blk bN [.pointer (some ⟨b1,0,none⟩)] 74,blk bOut (sL y7 n0 l3) 26,arr flHC 36 6 l3 hc,nT bX cs (T.map str) os,blk b zS 26,blk bS (sL s1 s2 s3) 26]):=sD
 have hlen2:x.fns.length=x.fns.length:=rfl
 have rd2:Rd C16F.fle 3 H0 s2 (tagged x.fns x.fns):=Rd.map (f:=fun z:C16F.El=>z.1.1) (by rw [tagged_fst hlen2];exact hr.f)
 refine ⟨s2,sD.ld (k:=9) rfl 1,C16F.clone_ok sD (rd2.more sD.fr) (by rw [tagged_len hlen2];omega) fun y8 E sE=>⟨y8,rfl,?_⟩⟩
 have hdF:C16F.DelV (.func (.func 41) #[] #[.pointer (some ⟨bN,0,none⟩)]) (fun z=>!decide (z.1.1.name∈FS)) (tagged x.fns x.fns) H0 (arr C16O.fle 52 3 y7 ((tagged hs x.objs).filter fun z=>!!decide (z.1.1.1∈OS))::blk b1 [.slice so.a so.n so.c,.slice sf.a sf.n sf.c] 76::arr flL 9 1 so OS::arr flL 9 1 sf FS :: [blk bN [.pointer (some ⟨b1,0,none⟩)] 74,blk bOut (sL y7 n0 l3) 26,arr flHC 36 6 l3 hc,nT bX cs (T.map str) os,blk b zS 26,blk bS (sL s1 s2 s3) 26]):=by
  intro z A' K' Z' hz sA kk
  refine call_cap okp2 (V41_ok ?_)
  unfold V41
  intro bO C hC
  have sC:=sA.newb (cs:=[.string (str z.1.1.name),.string (str z.1.1.kinds),.string (str z.1.1.ret)]) hC
  refine ⟨some ⟨b1,0,none⟩,sC.ld (k:=5) rfl 0,?_⟩
  show ∃ x1:Sl,_
  refine ⟨sf,?_,_,sC.ld (k:=0) rfl 0,conS_ok (sC.rd (k:=4) FlL (by decide) rfl) (by omega) ⟨_,rfl,kk C hC.fr⟩⟩
  rw [add_mk,Nat.zero_add]
  exact sC.ld (k:=2) rfl 1
 refine C16F.delete_ok sE (by rw [tagged_len hlen2];omega) hdF fun y9 F sF=>⟨y9,rfl,?_⟩
 replace sF:Sym H0 no F (arr C16F.fle 56 3 y9 ((tagged x.fns x.fns).filter fun z=>!!decide (z.1.1.name∈FS))::arr C16O.fle 52 3 y7 ((tagged hs x.objs).filter fun z=>!!decide (z.1.1.1∈OS))::blk b1 [.slice so.a so.n so.c,.slice sf.a sf.n sf.c] 76::arr flL 9 1 so OS::arr flL 9 1 sf FS :: [blk bN [.pointer (some ⟨b1,0,none⟩)] 74,blk bOut (sL y7 n0 l3) 26,arr flHC 36 6 l3 hc,nT bX cs (T.map str) os,blk b zS 26,blk bS (sL s1 s2 s3) 26]):=sF
 refine sF.stb (k:=6) (i:=1) rfl (by simp) rfl fun G sG=>?_
 replace sG:Sym H0 no G (arr C16F.fle 56 3 y9 ((tagged x.fns x.fns).filter fun z=>!!decide (z.1.1.name∈FS))::arr C16O.fle 52 3 y7 ((tagged hs x.objs).filter fun z=>!!decide (z.1.1.1∈OS))::blk b1 [.slice so.a so.n so.c,.slice sf.a sf.n sf.c] 76::arr flL 9 1 so OS::arr flL 9 1 sf FS :: [blk bN [.pointer (some ⟨b1,0,none⟩)] 74,blk bOut (sL y7 y9 l3) 26,arr flHC 36 6 l3 hc,nT bX cs (T.map str) os,blk b zS 26,blk bS (sL s1 s2 s3) 26]):=sG
 have hrd':RdSys G y7 y9 l3 (left x keep):=by
  rw [← hle]
  refine ⟨?_,?_,?_⟩
  ·have hr1:=sG.rd (k:=1) C16O.FlE (by decide) rfl
   have e1:((tagged hs x.objs).filter fun z=>!!decide (z.1.1.1∈OS)).map (fun z=>z.1.2)=x.objs.filter fun o=>decide (o.name∈OS):=by
    rw [filt_map (q:=fun o:ObjD=>decide (o.name∈OS)) (f:=fun z:C16O.El=>z.1.2),tagged_snd hlen]
    intro z hz
    obtain ⟨g1,g2⟩:=(tagged_at hlen).1 hz
    have:=(hin _ _ _ g1 g2).1
    rw [Bool.not_not,this]
    rfl
   refine ⟨((tagged hs x.objs).filter fun z=>!!decide (z.1.1.1∈OS)).map (fun z=>z.1.1),Rd.unmap (f:=fun z:C16O.El=>z.1.1) hr1,?_,fun i hh xx q1 q2=>?_⟩
   ·show _=(x.objs.filter fun o=>decide (o.name∈OS)).length
    rw [← e1,List.length_map,List.length_map]
   ·have q2:(x.objs.filter fun o=>decide (o.name∈OS))[i]? = some xx:=q2
    rw [← e1,List.getElem?_map] at q2
    rw [List.getElem?_map] at q1
    cases hz:((tagged hs x.objs).filter fun z=>!!decide (z.1.1.1∈OS))[i]? with
    | none=>rw [hz] at q1;cases q1
    | some z=>
     rw [hz] at q1 q2
     have q1:z.1.1=hh:=by simpa using q1
     have q2:z.1.2=xx:=by simpa using q2
     obtain ⟨g1,g2⟩:=(tagged_at hlen).1 (List.mem_filter.1 (List.mem_of_getElem? hz)).1
     have:=hin _ _ _ g1 g2
     rw [q1,q2] at this
     exact ⟨this.1,this.2.more sG.fr⟩
  ·have hr1:=sG.rd (k:=0) C16F.FlE (by decide) rfl
   have e1:((tagged x.fns x.fns).filter fun z=>!!decide (z.1.1.name∈FS)).map (fun z=>z.1.1)=x.fns.filter fun f=>decide (f.name∈FS):=by
    rw [filt_map (q:=fun f:FnD=>decide (f.name∈FS)) (f:=fun z:C16F.El=>z.1.1),tagged_fst hlen2]
    intro z hz
    rw [Bool.not_not]
   show Rd flF 3 G y9 (x.fns.filter fun f=>decide (f.name∈FS))
   rw [← e1]
   exact Rd.unmap (f:=fun z:C16F.El=>z.1.1) hr1
  ·exact ⟨hc,sG.rd (k:=7) FlHC (by decide) rfl,hl.1,fun i hh xx q1 q2=>by
    have:=hl.2 i hh xx q1 q2
    exact ⟨this.1,this.2.more sG.fr⟩⟩
 refine ⟨y7,y9,l3,⟨sG.ld (k:=6) rfl 0,sG.ld (k:=6) rfl 1,sG.ld (k:=6) rfl 2,trivial⟩,canon_ok hrd' (by rw [← hle];exact (leftB_ok hx).len) fun c t I sI g hcan=>⟨c.y,c.y1,c.y2,rfl,?_⟩⟩
 have ht:=canon_left (left_check h0) hcan
 rw [ht] at g
 have sJ:=sG.join sI
 refine sJ.stbs (k:=14) (i:=0) (vs:=sL c.y c.y1 c.y2) rfl (by simp) (one3 _ _ _) fun J sK=>?_
 refine ⟨c.y,c.y1,c.y2,⟨sK.ld (k:=14) (cs:=sL c.y c.y1 c.y2) rfl 0,sK.ld (k:=14) (cs:=sL c.y c.y1 c.y2) rfl 1,sK.ld (k:=14) (cs:=sL c.y c.y1 c.y2) rfl 2,trivial⟩,k c J (sK.re [0,1,2,3,4] (by decide)) g⟩
end
end Go.Proofs.YtjdhjgfmloaglaaGreatDoor.C23
end
section
namespace Go.Proofs.YtjdhjgfmloaglaaGreatDoor.C23
open Go Go.V Go.Proofs N23 P14 C14 P15 C15 C18 P23
attribute [local irreducible] Cvt ExtF CallF hrun App MkS callV Lkp MUp
section
variable {H0 A:Hp}{bN b1 bOut b bS bX:Nat}{s1 s2 s3 sk:Sl}{x:SysD}{keep T:List L8}{cs:List Value}{os:List Nat}{K:Value→Hp→Prop}{Z:List PanicEntry→Hp→Prop}
theorem names_snoc {c:ConD}{j:Nat}(hc:x.cons[j]? = some c):namesL T keep (x.cons.take (j+1))=namesL T keep (x.cons.take j)++(if stB T c=true then nmC c else []):=by
 unfold namesL
 rw [List.take_add_one,hc,List.filter_append,List.flatMap_append,← List.append_assoc]
 congr 1
 show ([c].filter (stB T)).flatMap nmC=_
 split
 ·rename_i h
  rw [List.filter_cons_of_pos h]
  simp
 ·rename_i h
  rw [List.filter_cons_of_neg h]
  simp
theorem cons_snoc {c:ConD}{j:Nat}(hc:x.cons[j]? = some c):(x.cons.take (j+1)).filter (stB T)=(x.cons.take j).filter (stB T)++(if stB T c=true then [c] else []):=by
 rw [List.take_add_one,hc,List.filter_append]
 congr 1
 show [c].filter (stB T)=_
 split
 ·rename_i h
  rw [List.filter_cons_of_pos h]
  rfl
 ·rename_i h
  rw [List.filter_cons_of_neg h]
  rfl
theorem pt2_ok (h:NM H0 A b1 ((namesL T keep []).filterMap nmO) ((namesL T keep []).filterMap nmF) (WR bN b1 bOut b bS bX n0 [] cs T os s1 s2 s3))
  (hr:RdSys H0 s1 s2 s3 x) (hx:OkSys x) (h0:checkE x=0) (hT:∀ n,n∈T↔Need x keep n) (hTl:T.length≤1900000) (hkn:keep.length≤100000) (ht:Pw H0)
  (k:∀ (c:CanS) B,Sym H0 no B c.its→c.good (left x keep)→K (.tuple #[sAg c.y c.y1 c.y2,.int .i64 0]) B):PT2 bS bOut b bN (some ⟨bX,0,none⟩) A K Z:=by
 have hR:=check_right h0
 have n3:=RdX.len hr.c
 have z3:=hR.c.1
 unfold PT2
 refine ⟨s3,h.ldk (k:=5) rfl 2,fun i E m=>∃ (j:Nat) (l3:Sl) (hc:List HC),i=(j:Int)∧j≤x.cons.length∧m=x.cons.length - j∧NM H0 E b1 ((namesL T keep (x.cons.take j)).filterMap nmO) ((namesL T keep (x.cons.take j)).filterMap nmF) (WR bN b1 bOut b bS bX l3 hc cs T os s1 s2 s3)∧Lies H0 hc ((x.cons.take j).filter (stB T)),⟨_,0,n0,[],rfl,Nat.zero_le _,rfl,h,⟨rfl,by simp⟩⟩,?_⟩
 rintro i E m ⟨j,l3,hc,rfl,hj,rfl,hE,hl⟩ scr
 refine ⟨fun hlt=>?_,fun hge=>?_⟩
 ·have hj':j < x.cons.length:=by have:=dlt hlt;omega
  obtain ⟨c,hcj,hcm⟩:=getN hj'
  obtain ⟨t,hta,ix⟩:=atC hr.c hcj
  have hok:=hx.c.2 c hcm
  have hargs:=hR.c.2 c hcm
  have hns:=names_snoc (T:=T) (keep:=keep) hcj
  have hcs:=cons_snoc (T:=T) hcj
  have hnl:=namesL_len (T:=T) hR hkn j
  have hOl:=List.length_filterMap_le nmO (namesL T keep (x.cons.take j))
  have hFl:=List.length_filterMap_le nmF (namesL T keep (x.cons.take j))
  have hfl:=List.length_filter_le (stB T) (x.cons.take j)
  have htl:=List.length_take_le j x.cons
  have next:∀ {F:Hp}{l3':Sl}{hc':List HC},NM H0 F b1 ((namesL T keep (x.cons.take (j+1))).filterMap nmO) ((namesL T keep (x.cons.take (j+1))).filterMap nmF) (WR bN b1 bOut b bS bX l3' hc' cs T os s1 s2 s3)→Lies H0 hc' ((x.cons.take (j+1)).filter (stB T))→∃ m5,m5 < x.cons.length - j∧∃ (j':Nat) (l3:Sl) (hc:List HC),w64 ((j:Int)+1)=(j':Int)∧j'≤x.cons.length∧m5=x.cons.length - j'∧NM H0 F b1 ((namesL T keep (x.cons.take j')).filterMap nmO) ((namesL T keep (x.cons.take j')).filterMap nmF) (WR bN b1 bOut b bS bX l3 hc cs T os s1 s2 s3)∧Lies H0 hc ((x.cons.take j').filter (stB T)):=
   fun hF hl'=>⟨_,by omega,j+1,_,_,wi (by omega),hj',rfl,hF,hl'⟩
  rw [hns,hcs,List.filterMap_append,List.filterMap_append] at next
  clear hns hcs
  generalize (namesL T keep (x.cons.take j)).filterMap nmO=OS at hE hOl next
  generalize (namesL T keep (x.cons.take j)).filterMap nmF=FS at hE hFl next
  have fE:=hE.fr
  refine ix fun ad e1 e2 e3 e4 e5 e6=>⟨_,_,_,_,_,t,⟨lf fE e1,lf fE e2,lf fE e3,lf fE e4,lf fE e5,lf fE e6,trivial⟩,fun bC F hF=>?_⟩
  have hN1:=hE.newb (cs:=[.int .i64 0,.string ⟨#[]⟩,.string ⟨#[]⟩,.int .i64 0,.string ⟨#[]⟩,.slice none 0 0]) hF
  refine hN1.stk (k:=0) (i:=0) (vs:=cL c t) rfl (by simp) (FlHC.2 (HC.of c t)) fun G hG=>?_
  replace hG:NM H0 G b1 OS FS (blk bC (cL c t) 36::WR bN b1 bOut b bS bX l3 hc cs T os s1 s2 s3):=hG
  refine ⟨fun b' I=>b'=stB T c∧NM H0 I b1 OS FS (blk bC (cL c t) 36::WR bN b1 bOut b bS bX l3 hc cs T os s1 s2 s3),?_,c.op,hG.ldk (k:=0) rfl 0,fun h4=>⟨?_,hG⟩,fun h4=>⟨_,hG.ldk (k:=0) rfl 0,fun h6=>⟨?_,hG⟩,fun h6=>⟨_,hG.ldk (k:=0) rfl 1,?_⟩⟩⟩
  ·rintro b' I ⟨rfl,hI⟩ scr2
   refine ⟨fun hst=>?_,fun hst=>?_⟩
   ·rw [if_pos hst,if_pos hst] at next
    obtain ⟨so,sf,s⟩:=hI
    have l3n:=(s.rd (k:=6) FlHC (by decide) rfl).len
    have hcl:=hl.1
    refine ⟨l3,s.ld (k:=5) rfl 2,_,_,_,_,_,t,⟨s.ld (k:=3) (cs:=cL c t) rfl 0,s.ld (k:=3) (cs:=cL c t) rfl 1,s.ld (k:=3) (cs:=cL c t) rfl 2,s.ld (k:=3) (cs:=cL c t) rfl 3,s.ld (k:=3) (cs:=cL c t) rfl 4,s.ld (k:=3) (cs:=cL c t) rfl 5,trivial⟩,fun b3 L hL=>?_⟩
    refine Sym.app1 (k:=6) (x:=HC.of c t) tyCo s FlHC (by decide) hL rfl (by omega) fun ap M hap sM=>?_
    refine sM.stb (k:=5) (i:=2) rfl (by simp) rfl fun N sN=>?_
    have hNM:NM H0 N b1 OS FS (blk bC (cL c t) 36::WR bN b1 bOut b bS bX ap (hc ++ [HC.of c t]) cs T os s1 s2 s3):=⟨so,sf,sN⟩
    refine ⟨some ⟨b1,0,none⟩,hNM.ldk (k:=1) rfl 0,_,hNM.ldk (k:=0) rfl 1,_,hNM.ldk (k:=0) rfl 2,fun b4 O hO=>?_⟩
    refine mput_ok (l:=⟨some ⟨b4,0,none⟩,2,2⟩) (ns:=[c.a,c.b]) (hNM.lit (ns:=[c.a,c.b]) hO) (fun s=>s.rd (k:=3) FlL (by decide) rfl) (fun n hn=>?_) (by simp only [List.length_cons,List.length_nil];omega) (by simp only [List.length_cons,List.length_nil];omega) ht fun P hP=>⟨rfl,some ⟨b1,0,none⟩,hP.dropR.ldk (k:=1) rfl 0,t,hP.dropR.ldk (k:=0) rfl 5,mput_ok hP.dropR (fun s=>hta.more s.fr) hok.2.2.2.2 ?_ ?_ ht fun Q hQ=>⟨rfl,next (l3':=ap) (hc':=hc ++ [HC.of c t]) ?_ (hl.snoc ⟨rfl,hta⟩)⟩⟩
    ·simp only [List.mem_cons,List.not_mem_nil,or_false] at hn
     rcases hn with rfl | rfl
     ·exact hok.1
     ·exact hok.2.1
    ·have:=List.length_filterMap_le nmO [c.a,c.b]
     rw [List.length_append]
     simp only [List.length_cons,List.length_nil] at this
     omega
    ·have:=List.length_filterMap_le nmF [c.a,c.b]
     rw [List.length_append]
     simp only [List.length_cons,List.length_nil] at this
     omega
    ·have e1:∀ {f:L8→Option L8},(nmC c).filterMap f = [c.a,c.b].filterMap f++c.args.filterMap f:=fun {f}=>by
      rw [← List.filterMap_append]
      rfl
     rw [e1,e1,← List.append_assoc,← List.append_assoc]
     exact hQ.dropR
   ·rw [if_neg (by rw [hst];decide),if_neg (by rw [hst];decide),List.filterMap_nil,List.filterMap_nil,List.append_nil,List.append_nil,List.append_nil] at next
    exact next hI.dropR hl
  ·unfold stB
   rw [decide_eq_true (eqI.1 h4)]
   rfl
  ·unfold stB
   rw [decide_eq_true (eqI.1 h6),Bool.true_or,Bool.or_true]
  ·obtain ⟨so,sf,s⟩:=id hG
   refine nhas2_ok (s.get (k:=7) rfl:TbS C05S.val C05S.lt 9 3 G bX 0 129 cs (T.map str) os) hTl fun I fI=>⟨_,rfl,?_,hG.more fI⟩
   unfold stB
   rw [decide_eq_false (neI.1 h4),decide_eq_false (neI.1 h6),Bool.false_or,Bool.false_or]
 ·have hje:j=x.cons.length:=by have:=dge hge;omega
  rw [hje,List.take_length] at hE hl
  exact pt3_ok hE hl hr hx h0 hT hkn k
theorem pt_ok (h:NM H0 A b1 [] [] (WR bN b1 bOut b bS bX n0 [] cs T os s1 s2 s3))
  (hr:RdSys H0 s1 s2 s3 x) (hx:OkSys x) (h0:checkE x=0) (hT:∀ n,n∈T↔Need x keep n) (hTl:T.length≤1900000) (hk:Rd flL 1 H0 sk keep) (hks:∀ n∈keep,n.length≤1048576) (hkn:keep.length≤100000) (ht:Pw H0)
  (k:∀ (c:CanS) B,Sym H0 no B c.its→c.good (left x keep)→K (.tuple #[sAg c.y c.y1 c.y2,.int .i64 0]) B):PT sk bS bOut b bN (some ⟨bX,0,none⟩) A K Z:=by
 unfold PT
 have nk:=hk.len
 refine ⟨fun i E m=>∃ j:Nat,i=(j:Int)∧j≤keep.length∧m=keep.length - j∧NM H0 E b1 (((keep.take j).filter nodeB).filterMap nmO) (((keep.take j).filter nodeB).filterMap nmF) (WR bN b1 bOut b bS bX n0 [] cs T os s1 s2 s3),⟨_,0,rfl,Nat.zero_le _,rfl,h⟩,?_⟩
 rintro i E m ⟨j,rfl,hj,rfl,hE⟩ scr
 have hfl:=List.length_filter_le nodeB (keep.take j)
 have htl:=List.length_take_le j keep
 have hOl:=List.length_filterMap_le nmO ((keep.take j).filter nodeB)
 have hFl:=List.length_filterMap_le nmF ((keep.take j).filter nodeB)
 refine ⟨fun hlt=>?_,fun hge=>?_⟩
 ·have hj':j < keep.length:=by have:=dlt hlt;omega
  obtain ⟨n,hn,hnm⟩:=getN hj'
  have hsn:=filt_snoc (p:=nodeB) hn
  refine atL (hk.more hE.fr) hn fun ad e=>⟨_,e,node_ok (hks n hnm) (TabH.more ht hE.fr) fun C fC=>⟨_,rfl,fun hy=>⟨some ⟨b1,0,none⟩,(hE.more fC).ldk (k:=0) rfl 0,fun b2 D hD=>?_⟩,fun hno=>⟨keep.length - (j+1),by omega,j+1,wi (by omega),hj',rfl,?_⟩⟩⟩
  ·refine mput_ok (l:=⟨some ⟨b2,0,none⟩,1,1⟩) (ns:=[n]) ((hE.more fC).lit (ns:=[n]) hD) (fun s=>s.rd (k:=3) FlL (by decide) rfl) (fun z hz=>by rw [List.mem_singleton.1 hz];exact hks n hnm) (by simp only [List.length_cons,List.length_nil];omega) (by simp only [List.length_cons,List.length_nil];omega) ht fun F hF=>⟨rfl,keep.length - (j+1),by omega,j+1,wi (by omega),hj',rfl,?_⟩
   rw [hsn,if_pos hy,List.filterMap_append,List.filterMap_append]
   exact hF.dropR
  ·rw [hsn,if_neg (by rw [hno];decide),List.append_nil]
   exact hE.more fC
 ·have hje:j=keep.length:=by have:=dge hge;omega
  rw [hje,List.take_length] at hE
  exact pt2_ok (keep:=keep) (T:=T) (K:=K) (Z:=Z) (by unfold namesL;rw [List.filter_nil,List.flatMap_nil,List.append_nil];exact hE) hr hx h0 hT hTl hkn ht k
end
section
variable {H:Hp}{s1 s2 s3 sk:Sl}{x:SysD}{keep:List L8}{K:Value→Hp→Prop}{Z:List PanicEntry→Hp→Prop}
theorem psys_ok (hr:RdSys H s1 s2 s3 x) (hx:OkSys x) (hk:Rd flL 1 H sk keep) (hks:∀ n∈keep,n.length≤1048576) (hkn:keep.length≤100000) (ht:Pw H)
  (k1:∀ B,Fr no H B→checkE x≠0→K (.tuple #[sAg n0 n0 n0,.int .i64 (checkE x)]) B)
  (k2:∀ (c:CanS) B,checkE x=0→Sym H no B c.its→c.good (left x keep)→K (.tuple #[sAg c.y c.y1 c.y2,.int .i64 0]) B) :
  CallF Tryz.prog 12 #[sAg s1 s2 s3,.slice sk.a sk.n sk.c,.agg #[.slice none 0 0,.slice none 0 0]] H K Z:=by
 refine V12_ok (f_a:=n0) (f_b:=n0) ?_
 unfold V12
 intro bS A hA bF B hB b C hC
 have sC:=(((Sym.start H).newb (cs:=sL s1 s2 s3) hA).newb (cs:=[.slice none 0 0,.slice none 0 0]) hB).newb (cs:=zS) hC
 refine ⟨s1,s2,s3,⟨sC.ld (k:=2) rfl 0,sC.ld (k:=2) rfl 1,sC.ld (k:=2) rfl 2,trivial⟩,check_ok (hr.more sC.fr) hx (TabH.more ht sC.fr) fun D fD=>⟨_,rfl,fun hne=>?_,fun heq=>?_⟩⟩
 ·have sD:=sC.more fD
  refine sD.stbs (k:=0) (i:=0) (vs:=zS) rfl (by simp) (one3 n0 n0 n0) fun E sE=>⟨n0,n0,n0,⟨sE.ld (k:=0) (cs:=zS) rfl 0,sE.ld (k:=0) (cs:=zS) rfl 1,sE.ld (k:=0) (cs:=zS) rfl 2,trivial⟩,k1 E sE.fr (bne_iff_ne.1 hne)⟩
 have h0:=bne_eq_false_iff_eq.1 heq
 have sD:=sC.more fD
 refine ⟨s1,s2,s3,⟨sD.ld (k:=2) rfl 0,sD.ld (k:=2) rfl 1,sD.ld (k:=2) rfl 2,trivial⟩,reckon_ok (hr.more sD.fr) hx h0 (hk.more sD.fr) hks hkn (TabH.more ht sD.fr) fun bX E T hE hT hTl=>⟨some ⟨bX,0,none⟩,rfl,fun bOut F hF=>?_⟩⟩
 obtain ⟨cs,os,fr,s,_,_⟩:=hE
 have sE:=sD.join (s.re [0] (by decide))
 replace sE:Sym H no E [nT bX cs (T.map str) os,blk b zS 26,blk bF [.slice none 0 0,.slice none 0 0] 41,blk bS (sL s1 s2 s3) 26]:=sE
 have sF:=sE.newb (cs:=zS) hF
 have fin:∀ {G:Hp}{bN b1:Nat}{y2 y3:Sl},Sym H no G [blk bN [.pointer none] 74,blk b1 [.slice y2.a y2.n y2.c,.slice y3.a y3.n y3.c] 76,arr flL 9 1 y2 [],arr flL 9 1 y3 [],blk bOut zS 26,nT bX cs (T.map str) os,blk b zS 26,blk bS (sL s1 s2 s3) 26] →
   StL ⟨bN,0,none⟩ 0 [.pointer (some ⟨b1,0,none⟩)] G fun G'=>PT sk bS bOut b bN (some ⟨bX,0,none⟩) G' K Z:=fun {G bN b1 y2 y3} sG=>
  sG.stb (k:=0) (i:=0) rfl (by simp) rfl fun G' sG'=>pt_ok (H0:=H) (T:=T) (keep:=keep) (x:=x) ⟨y2,y3,(sG'.nilrow flHC 36 6).re [2,3,4,1,5,0,6,7,8] (by decide)⟩ hr hx h0 hT (by omega) hk hks hkn ht fun c B sB g=>k2 c B h0 sB g
 refine ⟨n0,sF.ld (k:=3) rfl 1,n0,sF.ld (k:=3) rfl 0,?_,?_⟩
 ·refine clT_ok sF Rd.nil (by simp) fun y2 G sG=>⟨y2,rfl,sG.ld (k:=4) rfl 0,?_,?_⟩
  ·refine clT_ok sG Rd.nil (by simp) fun y3 I sI=>⟨y3,rfl,⟨?_,?_⟩,?_⟩
   ·intro b1 J hJ bN L hL
    exact fin (((sI.newb (cs:=[.slice y2.a y2.n y2.c,.slice y3.a y3.n y3.c]) hJ).newb (cs:=[.pointer none]) hL).re [0,1,3,2,4,5,6,8] (by decide))
   ·intro bN J hJ b1 L hL
    exact fin (((sI.newb (cs:=[.pointer none]) hJ).newb (cs:=[.slice y2.a y2.n y2.c,.slice y3.a y3.n y3.c]) hL).re [1,0,3,2,4,5,6,8] (by decide))
   ·intro bN J hJ b1 L hL
    exact fin (((sI.newb (cs:=[.pointer none]) hJ).newb (cs:=[.slice y2.a y2.n y2.c,.slice y3.a y3.n y3.c]) hL).re [1,0,3,2,4,5,6,8] (by decide))
  ·intro bN I hI
   have sI:=sG.newb (cs:=[.pointer none]) hI
   refine ⟨sI.ld (k:=5) rfl 0,clT_ok sI Rd.nil (by simp) fun y3 J sJ=>⟨y3,rfl,fun b1 L hL=>?_⟩⟩
   exact fin ((sJ.newb (cs:=[.slice y2.a y2.n y2.c,.slice y3.a y3.n y3.c]) hL).re [2,0,3,1,4,5,6,8] (by decide))
 ·intro bN G hG
  have sG:=sF.newb (cs:=[.pointer none]) hG
  refine ⟨sG.ld (k:=4) rfl 0,sG.ld (k:=4) rfl 1,clT_ok sG Rd.nil (by simp) fun y2 I sI=>⟨y2,rfl,sI.ld (k:=5) rfl 0,clT_ok sI Rd.nil (by simp) fun y3 J sJ=>⟨y3,rfl,fun b1 L hL=>?_⟩⟩⟩
  exact fin ((sJ.newb (cs:=[.slice y2.a y2.n y2.c,.slice y3.a y3.n y3.c]) hL).re [3,0,2,1,4,5,6,8] (by decide))
end
end Go.Proofs.YtjdhjgfmloaglaaGreatDoor.C23
end
section
namespace Go.Proofs.YtjdhjgfmloaglaaGreatDoor.C23
open Go Go.V Go.Proofs N05 N23 P14 C14 P15 C15 P23
attribute [local irreducible] Cvt ExtF CallF hrun App MkS Lkp MUp
section
variable {H:Hp}{s1 s2 s3 sk:Sl}{x:SysD}{keep:List L8}{K:Value→Hp→Prop}{Z:List PanicEntry→Hp→Prop}
set_option maxRecDepth 10000 in
theorem needs_ok (hr:RdSys H s1 s2 s3 x) (hx:OkSys x) (hk:Rd flL 1 H sk keep) (hks:∀ n∈keep,n.length≤1048576) (hkn:keep.length≤100000) (ht:Pw H)
  (k1:∀ B,Fr no H B→checkE x≠0→K (.slice none 0 0) B)
  (k2:∀ (s':Sl) (ys:List L8) B,Fr no H B→checkE x=0→Rising ltL ys→(∀ z,z∈ys↔Need x keep z)→Rd flL 1 B s' ys→K (.slice s'.a s'.n s'.c) B) :
  CallF Tryz.prog 29 #[sAg s1 s2 s3,.slice sk.a sk.n sk.c] H K Z:=by
 refine V29_ok ?_
 unfold V29
 intro bS A hA
 have sA:=(Sym.start H).newb (cs:=sL s1 s2 s3) hA
 refine ⟨s1,s2,s3,⟨sA.ld (k:=0) rfl 0,sA.ld (k:=0) rfl 1,sA.ld (k:=0) rfl 2,trivial⟩,check_ok (hr.more sA.fr) hx (TabH.more ht sA.fr) fun B0 fB0=>⟨_,rfl,fun hne=>k1 B0 (sA.fr.trans fB0) (bne_iff_ne.1 hne),fun heq bOut C hnC=>?_⟩⟩
 have h0:=bne_eq_false_iff_eq.1 heq
 have f00:Fr no H B0:=sA.fr.trans fB0
 have sC:=(sA.more fB0).newb (cs:=[.slice none 0 0]) hnC
 refine ⟨s1,s2,s3,⟨sC.ld (k:=1) rfl 0,sC.ld (k:=1) rfl 1,sC.ld (k:=1) rfl 2,trivial⟩,reckon_ok (hr.more sC.fr) hx h0 (hk.more sC.fr) hks hkn (TabH.more ht sC.fr) fun b B T hE hT hTl=>⟨some ⟨b,0,none⟩,rfl,?_⟩⟩
 show CallF Tryz.prog 61 #[.pointer (some ⟨b,0,none⟩)] B _ _
 obtain ⟨cs,os,fr,s,_,_⟩:=hE
 have hst:TbS C05S.val C05S.lt 9 3 B b 0 129 cs (T.map str) os:=s.get (k:=0) rfl
 have hfp:∀ i,(i=b∨tOwn cs 0 i)→C.size≤i:=fun i hi=>(s.fp _ List.mem_cons_self i hi).resolve_left id
 have hbC:=hfp b (.inl rfl)
 have eC:=hnC.eq
 have zC:=hnC.size
 have fCB:Fr no C B:=s.fr
 have zB:=fCB.size
 have f0B:Fr no B0 B:=hnC.fr.trans fCB
 have z0:=f00.size
 have hml:(T.map str).length=T.length:=List.length_map _
 have hOB:Blk B bOut [.slice none 0 0] 27:=fCB.blk hnC.blk fun h=>h
 refine V61_ok ?_
 unfold V61
 intro bT D0 hnT
 have eT:=hnT.eq
 have zT:=hnT.size
 refine ⟨_,rfl,?_⟩
 intro D E0 hnD l1 F hnL
 have eD:=hnD.eq
 have zD:=hnD.size
 have eL:=hnL.eq
 have zL:=hnL.size
 have fBF:Fr no B F:=(hnT.fr.trans hnD.fr).trans hnL.fr
 have f0F:Fr no B0 F:=f0B.trans fBF
 have hTF:Blk F bT [.pointer (some ⟨b,0,none⟩)] 102:=hnL.fr.blk (hnD.fr.blk hnT.blk fun h=>h) fun h=>h
 have hOF:Blk F bOut [.slice none 0 0] 27:=hnL.fr.blk (hnD.fr.blk (hnT.fr.blk hOB fun h=>h) fun h=>h) fun h=>h
 have hDF:F[D]? = some (.deferred (some [])):=hnL.fr.at hnD.get fun h=>h
 have hLF:=hnL.get
 obtain ⟨ps,asg,body,hlr⟩:=lrec_eq (f:=Tryz.f29) (n:=5) (by kernel_rfl)
 rw [hlr] at hLF
 obtain ⟨tmps,hLF,hy⟩:∃ tmps:List Value,F[l1]? = some (.loop ⟨.ready,none,29,tmps.toArray,ps,asg,body,D⟩)∧∀ (X:Hp) (x:ByteArray) (n:Int) (K':Value→Hp→Prop),R29_5 X bOut l1 x n K'→yldC Tryz.prog aJ29 aL29 Tryz.f29 29 5 l1 tmps [.string x,.int .i64 n] X K':=⟨_,hLF,fun X x n K' h=>R29_5_ok h⟩
 have hbB:=hst.blk.lt
 have tF:TbS C05S.val C05S.lt 9 3 F b 0 129 cs (T.map str) os:=hst.keep fBF (fun h=>h) (fun _ _ h=>h)
 have hlen:=hst.ok.len
 obtain ⟨infE,j1,j2,j3,j4⟩:=C05S.iE
 unfold callG
 simp only [C05S.okR1,if_true]
 refine C05S.rising1_ok (S:=fun i=>i=bOut∨i=l1) (Fin:=fun _ _=>False)
  (Inv:=fun m j X=>F.size≤m∧X[l1]? = some (.loop ⟨.ready,none,29,tmps.toArray,ps,asg,body,D⟩)∧X[D]? = some (.deferred (some []))∧Fr no B0 X∧∃ so:Sl,Blk X bOut [.slice so.a so.n so.c] 27∧Row X 9 1 so ((riseL (T.map str) (os.take j)).map C05S.val)∧(∀ i,own so i→m≤i))
  tF (by rw [List.length_map];omega) hTF (by rintro (h | h) <;> omega) (fun i hi=>by have:=hst.own_lt hi;have:=hfp i (.inr hi);rintro (h | h) <;> omega) (by rintro (h | h) <;> omega) (by rintro i (h | h) <;> omega) ?_ ?_ ?_ ?_
 ·intro X fX
  exact ⟨fX.size,fX.at hLF fun h=>h,fX.at hDF fun h=>h,f0F.trans fX,⟨none,0,0⟩,fX.blk hOF fun h=>h,Row.nil _ _ _,by rintro i ⟨o,e⟩;cases e⟩
 ·rintro m j X k' x hk hx hmF hmX hTb ⟨hFm,hL,hD,hBX,so,hO,rO,oO⟩
  have hjl:j < os.length:=(List.getElem?_eq_some_iff.1 hk).1
  have hrl:=hst.ok.rise_len (j:=j) (by omega)
  unfold callV
  simp only [List.nil_append]
  refine yldC_sound hL rfl rfl (by rw [hlr]) (by rw [hlr]) (by rw [hlr]) (hy _ _ _ _ ?_)
  unfold R29_5
  refine ⟨_,hL,rfl,?_⟩
  intro X1 hX1
  obtain ⟨f1,g1,z1⟩:=setB hL hX1
  have hO1:Blk X1 bOut [.slice so.a so.n so.c] 27:=f1.blk hO (by omega)
  refine ⟨so,hO1.ld 0,?_⟩
  intro b1 X2 hn2
  have e2:=hn2.eq
  have z2:=hn2.size
  have rO1:Row X1 9 1 so ((riseL (T.map str) (os.take j)).map C05S.val):=rO.keep f1 (fun i hi e=>by have:=oO i hi;omega)
  have rO2:=rO1.keep hn2.fr (fun _ _ h=>h)
  rw [← j3] at rO2
  have hson:so.n=j:=by
   have:=rO.1
   rw [List.length_map,hrl,Nat.mul_one] at this
   exact this.symm
  have bb1:Blk X2 b1 [.string x] 9:=hn2.blk
  refine app_row2 C05S.uTs (by intro k;rw [C05S.uTs];simp) ⟨_,C05S.uTs⟩ j1 j2 (by rw [j3];rfl) (by rw [j4];decide) rO2 (Src.blk bb1 (by rw [j3];rfl)) ?_ (by rw [j4];omega) ?_
  ·intro v hv'
   simp only [List.mem_singleton] at hv'
   subst hv'
   rfl
  intro sp X3 r3 n3 f3 o3 _
  rw [j3] at r3
  have hsob:¬ own so bOut:=fun hc=>by have:=oO _ hc;omega
  have hO3:Blk X3 bOut [.slice so.a so.n so.c] 27:=f3.blk (hn2.fr.blk hO1 fun h=>h) hsob
  refine st_blk hO3 (by simp) rfl ?_
  intro X4 hO4 f4 z4
  have z3:=f3.size
  have hL4:X4[l1]? = some (.loop _):=f4.at (f3.at (hn2.fr.at g1 fun h=>h) (fun hc=>by have:=oO _ hc;omega)) (by omega)
  refine ⟨_,hL4,?_⟩
  intro X5 hX5
  obtain ⟨f5,g5,z5⟩:=setB hL4 hX5
  have hspb:¬ own sp bOut:=by
   intro hc
   rcases o3 _ hc with h' | h'
   ·exact hsob h'
   ·omega
  have hspm:∀ i,own sp i→m≤i:=by
   intro i hi
   rcases o3 _ hi with h' | h'
   ·exact oO i h'
   ·omega
  have hD5:X5[D]? = some (.deferred (some [])):=f5.at (f4.at (f3.at (hn2.fr.at (f1.at hD (by omega)) fun h=>h) (fun hc=>by have:=oO _ hc;omega)) (by omega)) (by omega)
  have hO5:Blk X5 bOut [.slice sp.a sp.n sp.c] 27:=f5.blk hO4 (by omega)
  have r5:Row X5 9 1 sp ((riseL (T.map str) (os.take (j+1))).map C05S.val):=by
   rw [rise_succ hk hx,List.map_append]
   exact (r3.keep f4 (fun i hi e=>hspb (e ▸ hi))).keep f5 (fun i hi e=>by have:=hspm i hi;omega)
  have fB5:Fr no B0 X5:=by
   refine ((((hBX.step f1 ?_).step hn2.fr (fun _ _ h=>h)).step f3 ?_).step f4 ?_).step f5 ?_
   ·intro i hi e;omega
   ·intro i hi hc;have:=oO i hc;omega
   ·intro i hi e;omega
   ·intro i hi e;omega
  refine ⟨true,rfl,?_,fun _=>⟨hFm,g5,hD5,fB5,sp,hO5,r5,hspm⟩,fun h=>by cases h⟩
  have q:Fr (fun i=>(i=bOut∨i=l1)∨m≤i) X X1:=f1.mono fun i _ e=>.inl (.inr e)
  refine (((q.step hn2.fr (fun _ _ h=>h.elim)).step f3 ?_).step f4 ?_).step f5 ?_
  ·intro i _ hc;exact .inr (oO i hc)
  ·intro i _ e;exact .inl (.inl e)
  ·intro i _ e;exact .inl (.inr e)
 ·rintro m X ⟨hFm,hL,hD,hBX,so,hO,rO,oO⟩
  refine ⟨_,hL,rfl,?_⟩
  intro X1 hX1
  obtain ⟨f1,g1,z1⟩:=setB hL hX1
  refine ⟨so,(f1.blk hO (by omega)).ld 0,f1.at hD (by omega),?_⟩
  intro X2 hX2
  obtain ⟨f2,g2,z2⟩:=setB (f1.at hD (by omega)) hX2
  rw [List.take_length] at rO
  have hfr:Fr no H X2:=by
   refine ((f00.trans hBX).step f1 ?_).step f2 ?_
   ·intro i hi e
    omega
   ·intro i hi e
    omega
  have hrl:=hst.ok.rise_len (j:=os.length) (Nat.le_refl _)
  rw [List.take_length] at hrl
  refine k2 so ((riseL (T.map str) os).map (·.data.toList)) X2 hfr h0 (rising_map hst.ok.rising) (fun z=>?_) (row_rd ((rO.keep f1 (fun i hi e=>by have:=oO i hi;omega)).keep f2 (fun i hi e=>by have:=oO i hi;omega)))
  rw [← hT z,List.mem_map]
  constructor
  ·rintro ⟨y,hy,rfl⟩
   obtain ⟨x,hx,e⟩:=List.mem_map.1 ((hst.ok.rise_mem y).1 hy)
   rw [← e,str_data]
   exact hx
  ·intro hz
   exact ⟨str z,(hst.ok.rise_mem _).2 (List.mem_map.2 ⟨z,hz,rfl⟩),str_data z⟩
 ·intro j X _ h
  exact h.elim
end
end Go.Proofs.YtjdhjgfmloaglaaGreatDoor.C23
end
