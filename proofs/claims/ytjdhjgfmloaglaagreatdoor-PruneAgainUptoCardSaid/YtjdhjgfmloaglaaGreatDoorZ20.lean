import Derived.Test.YtjdhjgfmloaglaaGreatDoorZ19
import Derived.Test.YtjdhjgfmloaglaaGreatDoorRows
import Derived.Deep.DeepHandedRow
import Derived.Deep.DeepWitnessRef
import Derived.Lay
import Derived.Stop.LaidErr
import Derived.Lib.LaidTab
import Derived.Lib.ItoaNum
import Derived.Lib.Space
import Derived.Lib.TrailingZeros
set_option linter.unusedVariables false
set_option linter.unusedSimpArgs false
section
namespace Go.Proofs.YtjdhjgfmloaglaaGreatDoor.C23
open Go Go.V Go.Proofs N23 P14 C14 P15 C15 C18 P23
attribute [local irreducible] Cvt ExtF CallF hrun App MkS callV Lkp MUp
abbrev At3 (E:Hp) (b:Nat) (s1 s2 s3:Sl):Prop:=hcell E ⟨b,0,none⟩=some (.slice s1.a s1.n s1.c)∧hcell E ⟨b,1,none⟩=some (.slice s2.a s2.n s2.c)∧hcell E ⟨b,2,none⟩=some (.slice s3.a s3.n s3.c)∧True
theorem At3.more {E F:Hp}{b:Nat}{s1 s2 s3:Sl}(h:At3 E b s1 s2 s3) (f:Fr no E F):At3 F b s1 s2 s3:=⟨lf f h.1,lf f h.2.1,lf f h.2.2.1,trivial⟩
section
variable {H:Hp}{K:Value→Hp→Prop}{Z:List PanicEntry→Hp→Prop}
theorem greatT_ok {l:Sl}{ns:List L8}(h:Rd flL 1 H l ns) (k:∀ y,(y=false→ns.length≤60∧∀ n∈ns,n.length≤100)→K (.bool y) H):CallF Tryz.prog 8 #[.slice l.a l.n l.c] H K Z:=by
 refine V8_ok ?_
 unfold V8
 have ln:=h.len
 refine ⟨fun i B m=>∃ j:Nat,B=H∧i=(j:Int)∧j≤ns.length∧j≤60∧m=ns.length - j∧∀ n∈ns.take j,n.length≤100,⟨_,0,rfl,rfl,Nat.zero_le _,by decide,rfl,by simp⟩,?_⟩
 rintro i B m ⟨j,rfl,rfl,hj,hj6,rfl,hno⟩ scr
 refine ⟨fun hlt=>⟨fun _=>k true (fun h=>by cases h),fun h6=>?_⟩,fun hge=>?_⟩
 ·have hj':j < ns.length:=by have:=dlt hlt;omega
  have h6:=of_decide_eq_false h6
  obtain ⟨n,hn,hnm⟩:=getN hj'
  refine atL h hn fun ad e=>⟨_,e,fun _=>k true (fun h=>by cases h),fun hs=>⟨ns.length - (j+1),by omega,j+1,rfl,wi (by omega),hj',by omega,rfl,fun z hz=>?_⟩⟩
  rw [str_size] at hs
  have hs:=of_decide_eq_false hs
  rw [List.take_add_one,hn] at hz
  rcases List.mem_append.1 hz with hz | hz
  ·exact hno z hz
  ·rw [List.mem_singleton.1 hz];omega
 ·have hje:j=ns.length:=by have:=dge hge;omega
  rw [hje,List.take_length] at hno
  exact k false fun _=>⟨by omega,hno⟩
theorem part23_ok {s1 s2 s3 t1 t2 t3:Sl}{a b:SysD}(ha:RdSys H s1 s2 s3 a) (hb:RdSys H t1 t2 t3 b) (hok:OkSys (catS [a,b])) (ca:checkE a=0) (cb:checkE b=0) (hs:SubS a b) (k:∀ H',Fr no H H'→K (.bool true) H'):CallF Tryz.prog 14 #[sAg s1 s2 s3,sAg t1 t2 t3] H K Z:=by
 refine V14_ok ?_
 unfold V14
 intro bA A hA bB B hB
 have sB:=((Sym.start H).newb (cs:=sL s1 s2 s3) hA).newb (cs:=sL t1 t2 t3) hB
 refine ⟨s1,s2,s3,⟨sB.ld (k:=1) rfl 0,sB.ld (k:=1) rfl 1,sB.ld (k:=1) rfl 2,trivial⟩,t1,t2,t3,⟨sB.ld (k:=0) rfl 0,sB.ld (k:=0) rfl 1,sB.ld (k:=0) rfl 2,trivial⟩,fun b1 M hM=>?_⟩
 have sM:=sB.lit (fl:=flY) (l:=[(s1,s2,s3),(t1,t2,t3)]) FlY (by decide) hM (show 2=_ from rfl)
 have f2:=sM.fr
 refine runion_ok (l:=⟨some ⟨b1,0,none⟩,2,2⟩) (rdY (sM.rd (k:=0) FlY (by decide) rfl) (Hx.cons (ha.more f2) (Hx.cons (hb.more f2) Hx.nil))) hok (by simp) fun v1 v2 v3 r e E fE hU hR=>⟨v1,v2,v3,e,rfl,fun bU F hF=>?_⟩
 obtain ⟨he,hrb⟩:=uni_part ca cb hs hU
 subst he
 subst hrb
 have sF:=(Sym.start E).newb (cs:=zS) hF
 refine sF.stbs (k:=0) (i:=0) (vs:=sL v1 v2 v3) rfl (by simp) (one3 _ _ _) fun G sG=>⟨fun _=>?_,fun h=>by cases h⟩
 replace sG:Sym E no G [blk bU (sL v1 v2 v3) 26]:=sG
 have fMG:Fr no M G:=fE.trans sG.fr
 refine ⟨v1,v2,v3,⟨sG.ld (k:=0) rfl 0,sG.ld (k:=0) rfl 1,sG.ld (k:=0) rfl 2,trivial⟩,t1,t2,t3,⟨(sM.more fMG).ld (k:=1) rfl 0,(sM.more fMG).ld (k:=1) rfl 1,(sM.more fMG).ld (k:=1) rfl 2,trivial⟩,rsame_ok (hR.more sG.fr) (hb.more (f2.trans fMG)) (ok_part hok (List.mem_cons_of_mem _ List.mem_cons_self)).len fun I fI=>⟨_,rfl,?_⟩⟩
 rw [decide_eq_true rfl]
 exact k I ((f2.trans fMG).trans fI)
theorem wP_ok:OkSys wP:=by
 refine ⟨⟨by decide,fun o ho=>?_⟩,⟨by decide,fun f hf=>by cases hf⟩,⟨by decide,fun c hc=>?_⟩⟩
 ·simp only [wP,List.mem_cons,List.not_mem_nil,or_false] at ho
  rcases ho with rfl | rfl
  ·exact ⟨by decide,by decide,by decide,by intro m hm;cases hm⟩
  ·exact ⟨by decide,by decide,by decide,by intro m hm;cases hm⟩
 ·simp only [wP,List.mem_cons,List.not_mem_nil,or_false] at hc
  rcases hc with rfl | rfl
  ·exact ⟨by decide,by decide,by decide,by decide,by intro m hm;cases hm⟩
  ·exact ⟨by decide,by decide,by decide,by decide,by intro m hm;cases hm⟩
theorem only_fq {ys:List L8}(hr:Rising ltL ys) (h:∀ z,z∈ys↔Need wP [fq] z):ys = [fq]:=by
 have hm:∀ z,z∈ys↔z ∈ [fq]:=fun z=>by rw [h z,w_need,List.mem_singleton]
 match ys,hr,hm with
 | [],_,hm=>exact absurd ((hm fq).2 (List.mem_singleton.2 rfl)) (by simp)
 | [a],_,hm=>rw [List.mem_singleton.1 ((hm a).1 (List.mem_singleton.2 rfl))]
 | a::b::l,hr,hm=>
  have ha:=List.mem_singleton.1 ((hm a).1 List.mem_cons_self)
  have hb:=List.mem_singleton.1 ((hm b).1 (List.mem_cons_of_mem _ List.mem_cons_self))
  exfalso
  unfold Rising at hr
  rw [List.pairwise_cons] at hr
  have:=hr.1 b List.mem_cons_self
  rw [ha,hb] at this
  exact absurd this (by decide)
abbrev hsO:List HO:=[([120],[112],n0),([121],[112],n0)]
abbrev hsC:List HC:=[(1,fp,x0,0,[],n0),(1,fq,y0,0,[],n0)]
theorem works23_ok (ht:Pw H) (k:∀ H',Fr no H H'→K (.bool true) H'):CallF Tryz.prog 11 #[] H K Z:=by
 refine V11_ok ?_
 unfold V11
 intro b A hA b1 B hB bS C hC
 have sA:=(Sym.start H).lit (l:=hsO) FlHO (by decide) hA (show 2=_ from rfl)
 have sB:=sA.lit (l:=hsC) FlHC (by decide) hB (show 2=_ from rfl)
 have sC:=sB.newb (cs:=zS) hC
 refine sC.stbs (k:=0) (i:=0) (vs:=sL ⟨some ⟨b,0,none⟩,2,2⟩ n0 ⟨some ⟨b1,0,none⟩,2,2⟩) rfl (by simp) (one3 _ _ _) fun D sD=>?_
 have hrd:RdSys D ⟨some ⟨b,0,none⟩,2,2⟩ n0 ⟨some ⟨b1,0,none⟩,2,2⟩ wP:=by
  refine ⟨rdX_lit (sD.rd (k:=2) FlHO (by decide) rfl) rfl ?_,Rd.nil,rdX_lit (sD.rd (k:=1) FlHC (by decide) rfl) rfl ?_⟩
  ·intro i h x hh hx
   match i,hh,hx with
   | 0,hh,hx=>rw [← Option.some_inj.1 hh,← Option.some_inj.1 hx];exact ⟨rfl,Rd.nil⟩
   | 1,hh,hx=>rw [← Option.some_inj.1 hh,← Option.some_inj.1 hx];exact ⟨rfl,Rd.nil⟩
   | i+2,hh,hx=>cases hx
  ·intro i h x hh hx
   match i,hh,hx with
   | 0,hh,hx=>rw [← Option.some_inj.1 hh,← Option.some_inj.1 hx];exact ⟨rfl,Rd.nil⟩
   | 1,hh,hx=>rw [← Option.some_inj.1 hh,← Option.some_inj.1 hx];exact ⟨rfl,Rd.nil⟩
   | i+2,hh,hx=>cases hx
 replace sD:Sym H no D [blk bS (sL ⟨some ⟨b,0,none⟩,2,2⟩ n0 ⟨some ⟨b1,0,none⟩,2,2⟩) 26,_,_]:=sD
 have g:At3 D bS ⟨some ⟨b,0,none⟩,2,2⟩ n0 ⟨some ⟨b1,0,none⟩,2,2⟩:=⟨sD.ld (k:=0) rfl 0,sD.ld (k:=0) rfl 1,sD.ld (k:=0) rfl 2,trivial⟩
 have ks:∀ n ∈ [fq],List.length n≤1048576:=fun n hn=>by rw [List.mem_singleton.1 hn];decide
 refine ⟨_,_,_,g,fun b2 E hE=>?_⟩
 have sE:=(Sym.start D).lit (l:=[fq]) FlL (by decide) hE (show 1=_ from rfl)
 have fE:=sE.fr
 refine psys_ok (sk:=⟨some ⟨b2,0,none⟩,1,1⟩) (keep:=[fq]) (hrd.more fE) wP_ok (sE.rd (k:=0) FlL (by decide) rfl) ks (by decide) (TabH.more ht (sD.fr.trans fE)) (fun _ _ h=>absurd P23.w_check h) fun c F _ sF gd=>⟨c.y,c.y1,c.y2,0,rfl,fun bT G hG=>?_⟩
 rw [w_left] at gd
 have hc0:=CanS.rd sF.ok gd
 have sG:=(Sym.start F).newb (cs:=zS) hG
 refine sG.stbs (k:=0) (i:=0) (vs:=sL c.y c.y1 c.y2) rfl (by simp) (one3 _ _ _) fun I sI=>⟨fun _=>?_,fun h=>by cases h⟩
 replace sI:Sym F no I [blk bT (sL c.y c.y1 c.y2) 26]:=sI
 have hc:=hc0.more sI.fr
 have fDI:Fr no D I:=fE.trans (sF.fr.trans sI.fr)
 have e3:=RdX.len hc.c
 have e1:=RdX.len hc.o
 have e3':c.y2.n=1:=e3
 have e1':c.y.n=1:=e1
 obtain ⟨t,hta,ix⟩:=atO (i:=0) hc.o rfl
 refine ⟨c.y2,sI.ld (k:=0) rfl 2,fun _=>⟨c.y,sI.ld (k:=0) rfl 0,fun _=>⟨c.y,sI.ld (k:=0) rfl 0,ix fun ad q1 q2 q3=>⟨_,q1,fun _=>⟨_,_,_,g.more fDI,fun b3 J hJ=>?_⟩,fun h=>absurd ((beqS_iff.2 (rfl:str [121]=⟨#[121]⟩)).symm.trans h) (by decide)⟩⟩,fun h=>by rw [e1'] at h;cases h⟩,fun h=>by rw [e3'] at h;cases h⟩
 have sJ:=(Sym.start I).lit (l:=[fq]) FlL (by decide) hJ (show 1=_ from rfl)
 have fDJ:Fr no D J:=fDI.trans sJ.fr
 refine needs_ok (sk:=⟨some ⟨b3,0,none⟩,1,1⟩) (keep:=[fq]) (hrd.more fDJ) wP_ok (sJ.rd (k:=0) FlL (by decide) rfl) ks (by decide) (TabH.more ht (sD.fr.trans fDJ)) (fun _ _ h=>absurd P23.w_check h) fun s' ys L fL _ hris hmem hy=>⟨s',rfl,fun b4 M hM=>?_⟩
 have eN:=only_fq hris hmem
 have sM:=(Sym.start L).lit (l:=[fq]) FlL (by decide) hM (show 1=_ from rfl)
 rw [eN] at hy
 exact sameT_ok (b:=⟨some ⟨b4,0,none⟩,1,1⟩) (hy.more sM.fr) (sM.rd (k:=0) FlL (by decide) rfl) (by decide) ⟨_,rfl,k M (sD.fr.trans (fDJ.trans (fL.trans sM.fr)))⟩
end
end Go.Proofs.YtjdhjgfmloaglaaGreatDoor.C23
end
section
namespace Go.Proofs.YtjdhjgfmloaglaaGreatDoor.C23
open Go Go.V Go.Proofs N23 P14 C14 P15 C15 C18 P23
attribute [local irreducible] Cvt ExtF CallF hrun App MkS callV Lkp MUp
theorem left_ok {x:SysD}{keep:List L8}(hx:OkSys x):OkSys (left x keep):=by
 have a:=List.length_filter_le (fun o:ObjD=>@decide (∃ z,Named x keep z∧nmO z=some o.name) (Classical.propDecidable _)) x.objs
 have b:=List.length_filter_le (fun f:FnD=>@decide (∃ z,Named x keep z∧nmF z=some f.name) (Classical.propDecidable _)) x.fns
 have c:=List.length_filter_le (fun c:ConD=>@decide (Stays x keep c) (Classical.propDecidable _)) x.cons
 exact ⟨⟨Nat.le_trans a hx.o.1,fun o ho=>hx.o.2 o (left_sub.o o ho)⟩,⟨Nat.le_trans b hx.f.1,fun o ho=>hx.f.2 o (left_sub.f o ho)⟩,⟨Nat.le_trans c hx.c.1,fun o ho=>hx.c.2 o (left_sub.c o ho)⟩⟩
theorem left_few {x:SysD}{keep:List L8}{n:Nat}(hx:Few n x):Few n (left x keep):=by
 have a:=List.length_filter_le (fun o:ObjD=>@decide (∃ z,Named x keep z∧nmO z=some o.name) (Classical.propDecidable _)) x.objs
 have b:=List.length_filter_le (fun f:FnD=>@decide (∃ z,Named x keep z∧nmF z=some f.name) (Classical.propDecidable _)) x.fns
 have c:=List.length_filter_le (fun c:ConD=>@decide (Stays x keep c) (Classical.propDecidable _)) x.cons
 exact ⟨Nat.le_trans a hx.o,Nat.le_trans b hx.f,Nat.le_trans c hx.c⟩
def Tl (bS bT bU bV:Nat) (y_11 y_12:Int) (H:Hp) (K:Value→Hp→Prop) (Z:List PanicEntry→Hp→Prop):Prop:=
 ((y_11 != 0)=true→K (.bool false) H)∧((y_11 != 0)=false→(((y_12 != 0)=true→K (.bool false) H)∧((y_12 != 0)=false→∃ x_a3 x_b3 x_c3:Sl,(hcell H ⟨bT,0,none⟩=some (.slice x_a3.a x_a3.n x_a3.c)∧hcell H ⟨bT,1,none⟩=some (.slice x_b3.a x_b3.n x_b3.c)∧hcell H ⟨bT,2,none⟩=some (.slice x_c3.a x_c3.n x_c3.c)∧True)∧∃ x_a4 x_b4 x_c4:Sl,(hcell H ⟨bU,0,none⟩=some (.slice x_a4.a x_a4.n x_a4.c)∧hcell H ⟨bU,1,none⟩=some (.slice x_b4.a x_b4.n x_b4.c)∧hcell H ⟨bU,2,none⟩=some (.slice x_c4.a x_c4.n x_c4.c)∧True)∧CallF Tryz.prog 13 #[.agg #[.slice x_a3.a x_a3.n x_a3.c,.slice x_b3.a x_b3.n x_b3.c,.slice x_c3.a x_c3.n x_c3.c],.agg #[.slice x_a4.a x_a4.n x_a4.c,.slice x_b4.a x_b4.n x_b4.c,.slice x_c4.a x_c4.n x_c4.c]] H (fun r4 H16=>∃ y1:Bool,r4 = .bool y1∧(((!y1)=true→K (.bool false) H16)∧((!y1)=false→∃ x_a5 x_b5 x_c5:Sl,(hcell H16 ⟨bT,0,none⟩=some (.slice x_a5.a x_a5.n x_a5.c)∧hcell H16 ⟨bT,1,none⟩=some (.slice x_b5.a x_b5.n x_b5.c)∧hcell H16 ⟨bT,2,none⟩=some (.slice x_c5.a x_c5.n x_c5.c)∧True)∧∃ x_a6 x_b6 x_c6:Sl,(hcell H16 ⟨bS,0,none⟩=some (.slice x_a6.a x_a6.n x_a6.c)∧hcell H16 ⟨bS,1,none⟩=some (.slice x_b6.a x_b6.n x_b6.c)∧hcell H16 ⟨bS,2,none⟩=some (.slice x_c6.a x_c6.n x_c6.c)∧True)∧CallF Tryz.prog 14 #[.agg #[.slice x_a5.a x_a5.n x_a5.c,.slice x_b5.a x_b5.n x_b5.c,.slice x_c5.a x_c5.n x_c5.c],.agg #[.slice x_a6.a x_a6.n x_a6.c,.slice x_b6.a x_b6.n x_b6.c,.slice x_c6.a x_c6.n x_c6.c]] H16 (fun r5 H17=>∃ y2:Bool,r5 = .bool y2∧((y2=true→∃ x_a7 x_b7 x_c7:Sl,(hcell H17 ⟨bV,0,none⟩=some (.slice x_a7.a x_a7.n x_a7.c)∧hcell H17 ⟨bV,1,none⟩=some (.slice x_b7.a x_b7.n x_b7.c)∧hcell H17 ⟨bV,2,none⟩=some (.slice x_c7.a x_c7.n x_c7.c)∧True)∧∃ x_a8 x_b8 x_c8:Sl,(hcell H17 ⟨bS,0,none⟩=some (.slice x_a8.a x_a8.n x_a8.c)∧hcell H17 ⟨bS,1,none⟩=some (.slice x_b8.a x_b8.n x_b8.c)∧hcell H17 ⟨bS,2,none⟩=some (.slice x_c8.a x_c8.n x_c8.c)∧True)∧CallF Tryz.prog 14 #[.agg #[.slice x_a7.a x_a7.n x_a7.c,.slice x_b7.a x_b7.n x_b7.c,.slice x_c7.a x_c7.n x_c7.c],.agg #[.slice x_a8.a x_a8.n x_a8.c,.slice x_b8.a x_b8.n x_b8.c,.slice x_c8.a x_c8.n x_c8.c]] H17 (fun r6 H18=>∃ y3:Bool,r6 = .bool y3∧((y3=true→∃ x_a9 x_b9 x_c9:Sl,(hcell H18 ⟨bT,0,none⟩=some (.slice x_a9.a x_a9.n x_a9.c)∧hcell H18 ⟨bT,1,none⟩=some (.slice x_b9.a x_b9.n x_b9.c)∧hcell H18 ⟨bT,2,none⟩=some (.slice x_c9.a x_c9.n x_c9.c)∧True)∧∃ x_a10 x_b10 x_c10:Sl,(hcell H18 ⟨bV,0,none⟩=some (.slice x_a10.a x_a10.n x_a10.c)∧hcell H18 ⟨bV,1,none⟩=some (.slice x_b10.a x_b10.n x_b10.c)∧hcell H18 ⟨bV,2,none⟩=some (.slice x_c10.a x_c10.n x_c10.c)∧True)∧CallF Tryz.prog 14 #[.agg #[.slice x_a9.a x_a9.n x_a9.c,.slice x_b9.a x_b9.n x_b9.c,.slice x_c9.a x_c9.n x_c9.c],.agg #[.slice x_a10.a x_a10.n x_a10.c,.slice x_b10.a x_b10.n x_b10.c,.slice x_c10.a x_c10.n x_c10.c]] H18 (fun r7 H19=>∃ y4:Bool,r7 = .bool y4∧K (.bool y4) H19) Z)∧(y3=false→K (.bool false) H18))) Z)∧(y2=false→K (.bool false) H17))) Z))) Z)))
structure Cx (H H9:Hp) (bS bT bU:Nat) (s1 s2 s3 t1 t2 t3 u1 u2 u3:Sl) (x:SysD) (keep more:List L8) (K:Value→Hp→Prop):Prop where
 fr:Fr no H H9
 hS:At3 H9 bS s1 s2 s3
 hT:At3 H9 bT t1 t2 t3
 hU:At3 H9 bU u1 u2 u3
 rs:RdSys H9 s1 s2 s3 x
 rt:RdSys H9 t1 t2 t3 (left x keep)
 ru:RdSys H9 u1 u2 u3 (left x keep)
 okx:OkSys x
 h0:checkE x=0
 few:Few 40 x
 lk:(keep++more).length≤120
 ek:∀ n∈keep++more,n.length≤100
 ht:Pw H
 kk:∀ E,Fr no H E→K (.bool true) E
section
variable {H H9 A:Hp}{bS bT bU bV:Nat}{s1 s2 s3 t1 t2 t3 u1 u2 u3 v1 v2 v3 ap sk sm:Sl}{x:SysD}{keep more:List L8}{K:Value→Hp→Prop}{Z:List PanicEntry→Hp→Prop}{L:List It}
theorem two_ok {a b:SysD}(h1:OkSys a) (h2:OkSys b) (f1:Few 40 a) (f2:Few 40 b):OkSys (catS [a,b]):=ok_cat (n:=40) (fun y hy=>by
 simp only [List.mem_cons,List.not_mem_nil,or_false] at hy
 rcases hy with rfl | rfl
 ·exact ⟨h1,f1⟩
 ·exact ⟨h2,f2⟩) (by simp)
theorem tl_ok (cx:Cx H H9 bS bT bU s1 s2 s3 t1 t2 t3 u1 u2 u3 x keep more K) (f:Fr no H9 A) (hV:At3 A bV v1 v2 v3) (rv:RdSys A v1 v2 v3 (left x (keep++more))):Tl bS bT bU bV 0 0 A K Z:=by
 unfold Tl
 have hp:=(checkE_0.1 cx.h0).2.1
 have cl:=left_check (keep:=keep) cx.h0
 have cl2:=left_check (keep:=keep++more) cx.h0
 refine ⟨(fun h=>by cases h),fun _=>⟨(fun h=>by cases h),fun _=>⟨t1,t2,t3,cx.hT.more f,u1,u2,u3,cx.hU.more f,rsame_ok (cx.rt.more f) (cx.ru.more f) (left_ok cx.okx).len fun B fB=>⟨_,rfl,fun h=>?_,fun _=>⟨t1,t2,t3,cx.hT.more (f.trans fB),s1,s2,s3,cx.hS.more (f.trans fB),part23_ok (cx.rt.more (f.trans fB)) (cx.rs.more (f.trans fB)) (two_ok (left_ok cx.okx) cx.okx (left_few cx.few) cx.few) cl cx.h0 left_sub fun C fC=>⟨_,rfl,fun _=>?_,fun h=>by cases h⟩⟩⟩⟩⟩⟩
 ·rw [decide_eq_true rfl] at h
  cases h
 have f2:=f.trans (fB.trans fC)
 refine ⟨v1,v2,v3,hV.more (fB.trans fC),s1,s2,s3,cx.hS.more f2,part23_ok (rv.more (fB.trans fC)) (cx.rs.more f2) (two_ok (left_ok cx.okx) cx.okx (left_few cx.few) cx.few) cl2 cx.h0 left_sub fun D fD=>⟨_,rfl,fun _=>?_,fun h=>by cases h⟩⟩
 have f3:=f2.trans fD
 exact ⟨t1,t2,t3,cx.hT.more f3,v1,v2,v3,hV.more (fB.trans (fC.trans fD)),part23_ok (cx.rt.more f3) (rv.more (fB.trans (fC.trans fD))) (two_ok (left_ok cx.okx) (left_ok cx.okx) (left_few cx.few) (left_few cx.few)) cl cl2 (left_mono fun z hz=>List.mem_append.2 (.inl hz)) fun E fE=>⟨_,rfl,cx.kk E (cx.fr.trans (f3.trans fE))⟩⟩
theorem leafA (cx:Cx H H9 bS bT bU s1 s2 s3 t1 t2 t3 u1 u2 u3 x keep more K) (s:Sym H9 no A [arr flL 9 1 ap (([]++keep)++more)]) :
  CallF Tryz.prog 12 #[sAg s1 s2 s3,.slice ap.a ap.n ap.c,.agg #[.slice none 0 0,.slice none 0 0]] A (fun r B=>∃ (y1 y2 y3:Sl) (y4:Int),r = .tuple #[sAg y1 y2 y3,.int .i64 y4]∧∀ bV C,Newb B (.cells #[.slice none 0 0,.slice none 0 0,.slice none 0 0] 26) bV C→StL ⟨bV,0,none⟩ 0 (sL y1 y2 y3) C fun D=>Tl bS bT bU bV 0 y4 D K Z) Z:=by
 have rd:=s.rd (k:=0) FlL (by decide) rfl
 rw [List.nil_append] at rd
 refine psys_ok (cx.rs.more s.fr) cx.okx rd (fun n hn=>by have:=cx.ek n hn;omega) (by have:=cx.lk;omega) (TabH.more cx.ht (cx.fr.trans s.fr)) (fun _ _ h=>absurd cx.h0 h) fun c B _ sB gd=>⟨c.y,c.y1,c.y2,0,rfl,fun bV C hC=>?_⟩
 have sC:=(Sym.start B).newb (cs:=zS) hC
 refine sC.stbs (k:=0) (i:=0) (vs:=sL c.y c.y1 c.y2) rfl (by simp) (one3 _ _ _) fun D sD=>?_
 replace sD:Sym B no D [blk bV (sL c.y c.y1 c.y2) 26]:=sD
 exact tl_ok cx (s.fr.trans (sB.fr.trans sD.fr)) ⟨sD.ld (k:=0) rfl 0,sD.ld (k:=0) rfl 1,sD.ld (k:=0) rfl 2,trivial⟩ ((CanS.rd sB.ok gd).more sD.fr)
theorem leafB (cx:Cx H H9 bS bT bU s1 s2 s3 t1 t2 t3 u1 u2 u3 x keep more K) (s:Sym H9 no A [arr flL 9 1 ap (([]++keep)++more),blk bV zS 26]) :
  CallF Tryz.prog 12 #[sAg s1 s2 s3,.slice ap.a ap.n ap.c,.agg #[.slice none 0 0,.slice none 0 0]] A (fun r B=>∃ (y1 y2 y3:Sl) (y4:Int),r = .tuple #[sAg y1 y2 y3,.int .i64 y4]∧StL ⟨bV,0,none⟩ 0 (sL y1 y2 y3) B fun D=>Tl bS bT bU bV 0 y4 D K Z) Z:=by
 have rd:=s.rd (k:=0) FlL (by decide) rfl
 rw [List.nil_append] at rd
 refine psys_ok (cx.rs.more s.fr) cx.okx rd (fun n hn=>by have:=cx.ek n hn;omega) (by have:=cx.lk;omega) (TabH.more cx.ht (cx.fr.trans s.fr)) (fun _ _ h=>absurd cx.h0 h) fun c B _ sB gd=>⟨c.y,c.y1,c.y2,0,rfl,?_⟩
 have sC:=s.join sB
 replace sC:Sym H9 no B (c.its ++ [arr flL 9 1 ap (([]++keep)++more),blk bV zS 26]):=sC
 refine sC.stbs (k:=6) (i:=0) (vs:=sL c.y c.y1 c.y2) rfl (by simp) (one3 _ _ _) fun D sD=>?_
 have hits:=(sD.re [0,1,2,3,4] (by decide)).ok
 refine tl_ok cx sD.fr ⟨sD.ld (k:=6) (cs:=sL c.y c.y1 c.y2) rfl 0,sD.ld (k:=6) (cs:=sL c.y c.y1 c.y2) rfl 1,sD.ld (k:=6) (cs:=sL c.y c.y1 c.y2) rfl 2,trivial⟩ (CanS.rd hits gd)
theorem oF (cx:Cx H H9 bS bT bU s1 s2 s3 t1 t2 t3 u1 u2 u3 x keep more K) (s:Sym H9 no A L):At3 A bS s1 s2 s3:=cx.hS.more s.fr
theorem oL {G:Nat→Hp→Prop}(s:Sym H9 no A L) (k:∀ b B,Sym H9 no B (arr flL 9 1 ⟨some ⟨b,0,none⟩,0,0⟩ []::L)→G b B):∀ b B,Newb A (.cells #[] 9) b B→G b B:=fun b B hB=>k b B (s.lit (l:=[]) FlL (by decide) hB rfl)
theorem oV0 {G:Nat→Hp→Prop}(s:Sym H9 no A []) (k:∀ b B,Sym H9 no B [blk b zS 26]→G b B):∀ b B,Newb A (.cells #[.slice none 0 0,.slice none 0 0,.slice none 0 0] 26) b B→G b B:=fun b B hB=>k b B (s.newb (cs:=zS) hB)
theorem oV1 {G:Nat→Hp→Prop}{l:List L8}(s:Sym H9 no A [arr flL 9 1 ap l]) (k:∀ b B,Sym H9 no B [arr flL 9 1 ap l,blk b zS 26]→G b B):∀ b B,Newb A (.cells #[.slice none 0 0,.slice none 0 0,.slice none 0 0] 26) b B→G b B:=fun b B hB=>k b B (s.newb (cs:=zS) hB).swap
theorem oA {G:Sl→Hp→Prop}{l m:List L8}(hm:Rd flL 1 H9 sm m) (s:Sym H9 no A (arr flL 9 1 ap l::L)) (hl:l.length≤1000) (hn:m.length≤1000) (k:∀ a B,Sym H9 no B (arr flL 9 1 a (l++m)::L)→G a B):App Tryz.prog #[27,27] 27 A [.slice ap.a ap.n ap.c,.slice sm.a sm.n sm.c] G:=by
 have ln:=(s.rd (k:=0) FlL (by decide) rfl).len
 exact s.appR (k:=0) tyTs FlL (by decide) rfl (hm.more s.fr) (by rw [ln];omega) fun a B _ sB=>k a B sB
theorem oA0 {G:Sl→Hp→Prop}{b:Nat}{l m:List L8}(hm:Rd flL 1 H9 sm m) (s:Sym H9 no A (arr flL 9 1 ⟨some ⟨b,0,none⟩,0,0⟩ l::L)) (hl:l.length≤1000) (hn:m.length≤1000) (k:∀ a B,Sym H9 no B (arr flL 9 1 a (l++m)::L)→G a B):App Tryz.prog #[27,27] 27 A [.slice (some ⟨b,0,none⟩) 0 0,.slice sm.a sm.n sm.c] G:=oA (ap:=⟨some ⟨b,0,none⟩,0,0⟩) hm s hl hn k
theorem prune_law (hr:RdSys H s1 s2 s3 x) (hx:OkSys x) (hk:Rd flL 1 H sk keep) (hm:Rd flL 1 H sm more) (ht:Pw H) (k:∀ H',Fr no H H'→K (.bool true) H'):CallF Tryz.prog 4 #[sAg s1 s2 s3,.slice sk.a sk.n sk.c,.slice sm.a sm.n sm.c] H K Z:=by
 refine V4_ok ?_
 unfold V4
 intro bS A hA
 have sA:=(Sym.start H).newb (cs:=sL s1 s2 s3) hA
 have gS:At3 A bS s1 s2 s3:=⟨sA.ld (k:=0) rfl 0,sA.ld (k:=0) rfl 1,sA.ld (k:=0) rfl 2,trivial⟩
 have fA:=sA.fr
 refine works23_ok (TabH.more ht fA) fun B fB=>⟨_,rfl,(fun h=>by cases h),fun _=>⟨fun E=>Fr no A E∧Mild 40 x∧(keep.length≤60∧∀ n∈keep,n.length≤100)∧(more.length≤60∧∀ n∈more,n.length≤100),?_,s1,s2,s3,gS.more fB,great15_ok (most:=40) (hr.more (fA.trans fB)) hx fun y1 C fC m1=>⟨_,rfl,fun _=>k C (fA.trans (fB.trans fC)),fun e1=>greatT_ok (hk.more (fA.trans (fB.trans fC))) fun y2 m2=>⟨_,rfl,fun _=>k C (fA.trans (fB.trans fC)),fun e2=>greatT_ok (hm.more (fA.trans (fB.trans fC))) fun y3 m3=>⟨_,rfl,fun _=>k C (fA.trans (fB.trans fC)),fun e3=>⟨fB.trans fC,m1 e1,m2 e2,m3 e3⟩⟩⟩⟩⟩⟩
 rintro E ⟨fE,mx,mk,mm⟩ scr
 have fHE:=fA.trans fE
 have hks:∀ n∈keep,n.length≤1048576:=fun n hn=>by have:=mk.2 n hn;omega
 refine ⟨s1,s2,s3,gS.more fE,psys_ok (hr.more fHE) hx (hk.more fHE) hks (by omega) (TabH.more ht fHE) (fun F fF hne=>⟨n0,n0,n0,_,rfl,fun bT G hG=>?_⟩) fun c F h0 sF gd=>⟨c.y,c.y1,c.y2,0,rfl,fun bT G hG=>?_⟩⟩
 ·have sG:=(Sym.start F).newb (cs:=zS) hG
  exact sG.stbs (k:=0) (i:=0) (vs:=zS) rfl (by simp) (one3 n0 n0 n0) fun I sI=>⟨fun _=>k I (fHE.trans (fF.trans sI.fr)),fun h=>absurd (bne_eq_false_iff_eq.1 h) hne⟩
 have sG:=(Sym.start F).newb (cs:=zS) hG
 refine sG.stbs (k:=0) (i:=0) (vs:=sL c.y c.y1 c.y2) rfl (by simp) (one3 _ _ _) fun I sI=>⟨(fun h=>by cases h),fun _=>?_⟩
 replace sI:Sym F no I [blk bT (sL c.y c.y1 c.y2) 26]:=sI
 have rt:=(CanS.rd sF.ok gd).more sI.fr
 have gT:At3 I bT c.y c.y1 c.y2:=⟨sI.ld (k:=0) rfl 0,sI.ld (k:=0) rfl 1,sI.ld (k:=0) rfl 2,trivial⟩
 have fEI:Fr no E I:=sF.fr.trans sI.fr
 have fHI:=fHE.trans fEI
 refine ⟨c.y,c.y1,c.y2,gT,psys_ok rt (left_ok hx) (hk.more fHI) hks (by omega) (TabH.more ht fHI) (fun _ _ hne=>absurd (left_check h0) hne) fun c2 J _ sJ gd2=>⟨c2.y,c2.y1,c2.y2,0,rfl,fun bU L' hL=>?_⟩⟩
 have sL':=(Sym.start J).newb (cs:=zS) hL
 refine sL'.stbs (k:=0) (i:=0) (vs:=sL c2.y c2.y1 c2.y2) rfl (by simp) (one3 _ _ _) fun M sM=>?_
 replace sM:Sym J no M [blk bU (sL c2.y c2.y1 c2.y2) 26]:=sM
 rw [left_again (checkE_0.1 h0).2.1] at gd2
 have fIM:Fr no I M:=sJ.fr.trans sM.fr
 have cx:Cx H M bS bT bU s1 s2 s3 c.y c.y1 c.y2 c2.y c2.y1 c2.y2 x keep more K:=⟨fHI.trans fIM,gS.more (fE.trans (fEI.trans fIM)),gT.more fIM,⟨sM.ld (k:=0) rfl 0,sM.ld (k:=0) rfl 1,sM.ld (k:=0) rfl 2,trivial⟩,hr.more (fHI.trans fIM),rt.more fIM,(CanS.rd sJ.ok gd2).more sM.fr,hx,h0,mild_few mx,by rw [List.length_append];omega,fun n hn=>(List.mem_append.1 hn).elim (mk.2 n) (mm.2 n),ht,fun E f=>k E f⟩
 have hk9:Rd flL 1 M sk keep:=hk.more (fHI.trans fIM)
 have hm9:Rd flL 1 M sm more:=hm.more (fHI.trans fIM)
 have hkl:keep.length≤1000:=by omega
 have hml:more.length≤1000:=by omega
 have hkl2:([]++keep).length≤1000:=by rw [List.nil_append];exact hkl
 have hn0:([]:List L8).length≤1000:=by simp
 have s9:Sym M no M []:=Sym.start M
 refine ⟨s1,s2,s3,cx.hS,?_⟩
 repeat' (first
  | exact oF cx (by assumption)
  | exact leafA cx (by assumption)
  | exact leafB cx (by assumption)
  | refine oL (by assumption) fun _ _ _=>?_
  | refine oV1 (by assumption) fun _ _ _=>?_
  | refine oV0 (by assumption) fun _ _ _=>?_
  | refine oA0 hk9 (by assumption) hn0 hkl fun _ _ _=>?_
  | refine oA hm9 (by assumption) hkl2 hml fun _ _ _=>?_
  | refine And.intro ?_ ?_)
end
end Go.Proofs.YtjdhjgfmloaglaaGreatDoor.C23
end
section
namespace Go.Proofs.YtjdhjgfmloaglaaGreatDoor.L23U
open Go Go.V Go.Proofs P14 C14 P15 C15 C18
attribute [local irreducible] Cvt ExtF CallF hrun App MkS callV
section
variable {H:Hp}{K:Value→Hp→Prop}{Z:List PanicEntry→Hp→Prop}
abbrev Sys (H:Hp) (a:SysD × Sl × Sl × Sl):Prop:=RdSys H a.2.1 a.2.2.1 a.2.2.2 a.1∧OkSys a.1
abbrev Strs (H:Hp) (l:Sl) (xs:List L8):Prop:=Rd flL 1 H l xs∧xs.length≤1048576∧∀ y∈xs,y.length≤1048576
theorem prune2 {a:SysD × Sl × Sl × Sl}{l m:Sl}{xs ys:List L8}(ht:Pw H) (ha:Sys H a) (hl:Strs H l xs) (hm:Strs H m ys) (k:∀ H',Fr no H H'→K (.bool true) H'):CallF Tryz.prog 4 #[sAg a.2.1 a.2.2.1 a.2.2.2,.slice l.a l.n l.c,.slice m.a m.n m.c] H K Z:=C23.prune_law ha.1 ha.2 hl.1 hm.1 ht k
end
end Go.Proofs.YtjdhjgfmloaglaaGreatDoor.L23U
end
section
namespace Go.Proofs.YtjdhjgfmloaglaaGreatDoor.Lyd
open Go Go.V Go.Proofs Go.ChangeShapes Go.WideShapes Go.ChangeAt Go.RowKit
theorem wit {H:Type}{enc:TypeId × Value→H}{C:Checked}{os:Os}{f:FuncId}{fn:Func}{s:OpenSpec}{conds:List PathCond}{apart:Bool}{laid:List (String × DataW Unit)}(args:Array Value)
  (hv:((World.laidAll C.prog os laid).forCall (fun _ _=>0) ⟨#[],args,[]⟩).variablesZipB C.prog=true)
  (hr:(((World.laidAll C.prog os laid).forCall (fun _ _=>0) ⟨#[],args,[]⟩).heap.toList.drop C.prog.globals.size).take ((begin C.prog (fun _ _=>0) default).world.heap.size - C.prog.globals.size) =
   (begin C.prog (fun _ _=>0) default).world.heap.toList.drop C.prog.globals.size)
  (hok:Input.okWideB C.prog ((World.laidAll C.prog os laid).forCall (fun _ _=>0) ⟨#[],args,[]⟩) f ⟨#[],args,[]⟩=true)
  (hrow:s.preRow enc C.prog fn conds apart laid ((World.laidAll C.prog os laid).forCall (fun _ _=>0) ⟨#[],args,[]⟩).memory args) :
  ∃ (w:World) (tape:Tape) (i:Input),w.os=os∧(w.forCall tape i).Shaped C.prog∧i.vars = []∧Input.okWide C.prog (w.forCall tape i) .any w.heap.size f i ∧
   s.preRow enc C.prog fn conds apart laid (w.forCall tape i).memory i.args∧({}:Assume).holds C.prog (lone (Frame.enter C.prog f i.args .normal) [] (w.forCall tape i)):=
 ⟨World.laidAll C.prog os laid,fun _ _=>0,⟨#[],args,[]⟩,World.laidAll_os _ _ _,World.shaped_of_ZipB hv hr,(Input.okWide_of_okWideB (base:=0) hok).1,(Input.okWide_of_okWideB hok).2,hrow,by
  simp only [Assume.holds]
  simp⟩
theorem tab_at {P:Program}{W:World}{name:String}{k:IntKind}{zs:List Int}{g:Nat}{t e:TypeId}{n:Nat}
  (hg:P.globalNamed name=some g) (hty:(P.globals[g]?).map (·.type)=some t) (ht:P.underlying t=some (.array n e)) (he:P.underlying e=some (.int k)) (hce:P.cellsOf e=1) (hct:P.cellsOf t=n) :
  ∀ (i:Nat) (l:List (String × DataW Unit)),l[i]? = some (name,Lib.tabData k zs)→laidMet P l W→Lib.TabIs P W name k zs
 | _,[],hm,_=>by simp at hm
 | 0,x::l,hm,h=>by
  simp only [List.getElem?_cons_zero,Option.some.injEq] at hm
  subst hm
  exact Lib.tabIs_of_head hg hty ht he hce hct h
 | i+1,x::l,hm,h=>tab_at hg hty ht he hce hct i l (by simpa using hm) h.tail
theorem pow10 {W:World}{l:List (String × DataW Unit)}(i:Nat) (hm:l[i]? = some ("internal/strconv.uint64pow10",Rows.laid_internal_strconv_uint64pow10)) (h:laidMet Tryz.prog l W):TabH Tryz.prog W.heap "internal/strconv.uint64pow10" .u64 Lib.pow10Tab:=by
 have e:(Rows.laid_internal_strconv_uint64pow10:DataW Unit)=Lib.tabData .u64 Lib.pow10Tab:=by kernel_rfl
 rw [e] at hm
 exact TabH.of (tab_at (g:=(Tryz.prog.globalNamed "internal/strconv.uint64pow10").getD 0) (t:=280) (e:=260) (n:=20) (by kernel_rfl) (by kernel_rfl) (by kernel_rfl) (by kernel_rfl) (by kernel_rfl) (by kernel_rfl) i l hm h)
end Go.Proofs.YtjdhjgfmloaglaaGreatDoor.Lyd
end
