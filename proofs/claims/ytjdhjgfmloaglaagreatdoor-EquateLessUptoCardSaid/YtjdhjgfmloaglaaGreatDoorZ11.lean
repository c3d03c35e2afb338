import Derived.Test.YtjdhjgfmloaglaaGreatDoorZ10
set_option linter.unusedVariables false
set_option linter.unusedSimpArgs false
section
namespace Go.Proofs.YtjdhjgfmloaglaaGreatDoor.C15
open Go Go.V Go.Proofs N15 P14 C14 P15
attribute [local irreducible] Cvt ExtF CallF hrun App MkS callV
theorem marksB_cons {n last:Int}{seen r:List Mk}{m:Mk}:marksB n last seen (m::r)=(decide (last≤m.1∧m.1 < n) && (tagB m.2 && (decide (m∉seen) && marksB n m.1 (seen ++ [m]) r))):=rfl
theorem headK {τ : Type}{fl : τ→List Value}{sz:Nat}{H:Hp}{s:Sl}{l:List τ}{j:Nat}{Kx:Sl→Prop}(hf:Fl fl sz) (h:Rd fl sz H s l) (hj:j≤l.length) (k:∀ c,Rd fl sz H c (l.take j)→Kx c):s.n≤s.c∧SlX s.a s.c 0 (j:Int) sz Kx:=by
 have hn:=h.len
 have:=h.part hf (lo:=0) (hi:=j) (Nat.zero_le _) (by omega)
 refine ⟨h.le,⟨by omega,by omega,by have:=h.le;omega⟩,k _ ?_⟩
 exact this
theorem one_mark (m:Mk):∀ v ∈ [Value.int .i64 m.1,.string (str m.2)],v.oneCell=true:=FlM.2 m
section
variable {H:Hp}{K:Value→Hp→Prop}{Z:List PanicEntry→Hp→Prop}{l:L8}
theorem obj_ok {x:ObjD}{t:Sl}(h:Rd flM 2 H t x.marks) (hx:okO x) (ht:Pw H) (k:∀ H',Fr no H H'→K (.int .i64 (objE x)) H'):CallF Tryz.prog 52 #[oA x t] H K Z:=by
 obtain ⟨q1,q2,q3,q4⟩:=hx
 refine V52_ok ?_
 unfold V52
 intro bO A hA
 have sA:=(Sym.start H).newb (cs:=oL x t) hA
 have hn:=h.len
 refine ⟨_,sA.ld (k:=0) rfl 0,readX_ok q1 (TabH.more ht sA.fr) fun B fB=>⟨_,_,_,_,_,_,_,rfl,?_⟩⟩
 intro bN C hC
 have sC:=(sA.more fB).newb (cs:=[.int .i64 0,.string ⟨#[]⟩,.int .i64 0,.string ⟨#[]⟩,.int .i64 0,.int .i64 0]) hC
 refine sC.stbs (k:=0) (i:=0) (vs:=ndV (rres (readN x.name)).1) rfl (by simp [ndV]) (ndV_one _) fun D sD=>?_
 replace sD:Sym H no D [blk bN (ndV (rd x.name).1) 61,blk bO (oL x t) 52]:=sD
 have hE:=k
 unfold objE at hE
 refine ⟨fun E=>Fr no D E∧objE x=if marksB x.kinds.length 0 [] x.marks then 0 else 3,?_,fun h1=>?_,fun h1=>⟨_,sD.ld (k:=0) rfl 0,fun h2=>?_,fun h2=>⟨_,sD.ld (k:=0) rfl 5,fun h3=>?_,fun h3=>⟨_,sD.ld (k:=1) rfl 1,?_⟩⟩⟩⟩
 rotate_left
 ·have kk:=hE D sD.fr
  rw [if_pos (.inl (bne_iff_ne.1 h1))] at kk
  exact kk
 ·have kk:=hE D sD.fr
  rw [if_pos (.inr (.inl (of_decide_eq_true h2)))] at kk
  exact kk
 ·have kk:=hE D sD.fr
  rw [if_pos (.inr (.inr (of_decide_eq_true h3)))] at kk
  exact kk
 ·have n1:¬ ((rd x.name).2≠0∨(rd x.name).1.kind < 5∨(rd x.name).1.cell≥0):=fun h=>h.elim (fun h=>h (bne_eq_false_iff_eq.1 h1)) fun h=>h.elim (of_decide_eq_false h2) (of_decide_eq_false h3)
  rw [str_nil,beq_str]
  refine ⟨fun h4=>?_,fun h4=>⟨_,sD.ld (k:=1) rfl 1,kinds_ok (most:=64) q2 (by decide) fun E fE=>⟨_,rfl,fun hk=>?_,fun hk=>⟨fE,?_⟩⟩⟩⟩
  ·have kk:=hE D sD.fr
   rw [if_neg n1,if_pos (.inl (of_decide_eq_true h4))] at kk
   exact kk
  ·have kk:=hE E (sD.fr.trans fE)
   rw [if_neg n1,if_pos (.inr (by simpa using hk))] at kk
   exact kk
  ·unfold objE
   have hk:kindsB x.kinds 64=true:=by simpa using hk
   rw [if_neg n1,if_neg (by rw [hk];exact fun h=>h.elim (of_decide_eq_false h4) fun h=>by cases h)]
 clear hE
 rintro E ⟨fE,hE⟩ scr
 have sE:=sD.more fE
 refine ⟨t,sE.ld (k:=1) rfl 2,fun last i F m=>∃ j:Nat,i=(j:Int)∧j≤x.marks.length∧m=x.marks.length - j∧Sym H no F [blk bN (ndV (rd x.name).1) 61,blk bO (oL x t) 52]∧marksB x.kinds.length 0 [] x.marks=marksB x.kinds.length last (x.marks.take j) (x.marks.drop j),⟨_,0,rfl,Nat.zero_le _,rfl,sE,rfl⟩,?_⟩
 rintro last i F m ⟨j,rfl,hj,rfl,sF,hm⟩ scr1
 have bad:∀ G,Fr no H G→marksB x.kinds.length 0 [] x.marks=false→K (.int .i64 3) G:=fun G fG hb=>by
  have kk:=k G fG
  rw [hE,hb] at kk
  exact kk
 refine ⟨fun hlt=>?_,fun hge=>?_⟩
 ·have hj':j < x.marks.length:=by have:=dlt hlt;omega
  have hy:x.marks[j]? = some x.marks[j]:=List.getElem?_eq_getElem hj'
  have hym:x.marks[j]∈x.marks:=List.getElem_mem hj'
  have htk:=List.take_succ_eq_append_getElem hj'
  rw [List.drop_eq_getElem_cons hj',marksB_cons] at hm
  generalize x.marks[j]=y at hy hym hm htk
  have hF:=h.more sF.fr
  refine atM hF hy fun ad e1 e2=>⟨_,_,⟨e1,e2,trivial⟩,fun bM G hG=>?_⟩
  have sG:=sF.newb (cs:=[.int .i64 0,.string ⟨#[]⟩]) hG
  refine sG.stbs (k:=0) (i:=0) (vs:=[.int .i64 y.1,.string (str y.2)]) rfl (by simp) (one_mark y) fun I sI=>?_
  replace sI:Sym H no I [blk bM [.int .i64 y.1,.string (str y.2)] 54,blk bN (ndV (rd x.name).1) 61,blk bO (oL x t) 52]:=sI
  refine ⟨_,sI.ld (k:=0) rfl 0,fun h1=>bad _ sI.fr ?_,fun h1=>⟨_,sI.ld (k:=0) rfl 0,_,sI.ld (k:=2) rfl 1,fun h2=>bad _ sI.fr ?_,fun h2=>⟨_,sI.ld (k:=0) rfl 1,tag_ok ⟨_,rfl,fun h3=>bad _ sI.fr ?_,fun h3=>⟨t,sI.ld (k:=2) rfl 2,headK FlM (h.more sI.fr) hj fun c hc=>⟨_,_,⟨sI.ld (k:=0) rfl 0,sI.ld (k:=0) rfl 1,trivial⟩,conM_ok (m:=y) hc (by rw [List.length_take];omega) fun L fL=>⟨_,rfl,fun h4=>bad _ (sI.fr.trans fL) ?_,fun h4=>⟨_,(sI.more fL).ld (k:=0) rfl 0,x.marks.length - (j+1),by omega,j+1,wi (by omega),hj',rfl,(sI.more fL).drop,?_⟩⟩⟩⟩⟩⟩⟩⟩
  ·have:=of_decide_eq_true h1
   rw [hm,decide_eq_false (p:=last≤y.1∧y.1 < x.kinds.length) (by omega)]
   rfl
  ·have:=of_decide_eq_true h2
   rw [str_size] at this
   rw [hm,decide_eq_false (p:=last≤y.1∧y.1 < x.kinds.length) (by omega)]
   rfl
  ·have h3:tagB y.2=false:=by simpa using h3
   rw [hm,h3,Bool.false_and,Bool.and_false]
  ·rw [hm,decide_eq_false (p:=y∉x.marks.take j) (fun h=>h (of_decide_eq_true h4)),Bool.false_and,Bool.and_false,Bool.and_false]
  ·have h3:tagB y.2=true:=by simpa using h3
   have g1:=of_decide_eq_false h1
   have g2:=of_decide_eq_false h2
   rw [str_size] at g2
   rw [hm,h3,decide_eq_true (p:=y∉x.marks.take j) (of_decide_eq_false h4),decide_eq_true (p:=last≤y.1∧y.1 < x.kinds.length) (by omega),htk]
   rfl
 ·have:=dge hge
  have kk:=k _ sF.fr
  rw [hE,hm,List.drop_of_length_le (by omega)] at kk
  exact kk
end
end Go.Proofs.YtjdhjgfmloaglaaGreatDoor.C15
end
section
namespace Go.Proofs.YtjdhjgfmloaglaaGreatDoor.C15
open Go Go.V Go.Proofs N15 P14 C14 P15
attribute [local irreducible] Cvt ExtF CallF hrun App MkS callV
def right1 (c:ConD):Bool:=if c.op=1 then nodeB c.a && placeB c.b else if c.op=6 then decide ((rd c.a).2=0∧(rd c.a).1.kind=3) && nodeB c.b else nodeB c.a && nodeB c.b
def right2 (c:ConD):Bool:=if c.op=6 then callB c else if c.op=5 then decide (c.args = []) && (decide (0≤c.k∧c.k≤64) && tagB c.tag) else decide (c.args = []) && (decide (c.k=0) && decide (c.tag = []))
theorem conE_5 {c:ConD}(h:c.op < 1∨c.op > 6):conE c=5:=by unfold conE;rw [if_pos h]
theorem conE_11 {c:ConD}(h:¬ (c.op < 1∨c.op > 6)) (h1:right1 c=false):conE c=11:=by unfold conE;rw [if_neg h];exact if_pos h1
theorem conE_3 {c:ConD}(h:¬ (c.op < 1∨c.op > 6)) (h1:right1 c=true) (h2:right2 c=false):conE c=3:=by
 unfold conE
 rw [if_neg h]
 refine (if_neg (show ¬ right1 c=false by rw [h1];decide)).trans (if_pos h2)
theorem conE_0 {c:ConD}(h:¬ (c.op < 1∨c.op > 6)) (h1:right1 c=true) (h2:right2 c=true):conE c=0:=by
 unfold conE
 rw [if_neg h]
 refine (if_neg (show ¬ right1 c=false by rw [h1];decide)).trans (if_neg (show ¬ right2 c=false by rw [h2];decide))
theorem nil_len {α : Type}{l:List α}:decide (l = [])=((l.length:Int) == 0):=by
 cases l with
 | nil=>rfl
 | cons a r=>
  have:(((a::r).length:Int) == 0)=false:=by
   rw [beq_eq_false_iff_ne,List.length_cons];omega
  rw [this]
  rfl
section
variable {H:Hp}{K:Value→Hp→Prop}{Z:List PanicEntry→Hp→Prop}{l:L8}
theorem con_ok {x:ConD}{t:Sl}(h:Rd flL 1 H t x.args) (hx:okC x) (ht:Pw H) (k:∀ H',Fr no H H'→K (.int .i64 (conE x)) H'):CallF Tryz.prog 58 #[cA x t] H K Z:=by
 have ⟨q1,q2,q3,q4,q5⟩:=hx
 refine V58_ok ?_
 unfold V58
 intro bC A hA
 have sA:=(Sym.start H).newb (cs:=cL x t) hA
 have hn:=h.len
 have hp:∀ {E},Fr no A E→Pw E:=fun fE=>TabH.more ht (sA.fr.trans fE)
 refine ⟨fun b E=>Fr no A E∧¬ (x.op < 1∨x.op > 6)∧b=right1 x,?_,_,sA.ld (k:=0) rfl 0,fun h1=>⟨_,sA.ld (k:=0) rfl 1,?_⟩,fun h1=>⟨fun b E=>E=A∧x.op≠1∧b=decide (x.op=2∨x.op=3∨x.op=4∨x.op=5),?_,?_⟩⟩
 ·rintro b E ⟨fE,hop,hb⟩ scr
  have sE:=sA.more fE
  refine ⟨fun hr=>?_,fun hr=>?_⟩
  ·have kk:=k E sE.fr
   rw [conE_11 hop (by rw [← hb];simpa using hr)] at kk
   exact kk
  have r1:right1 x=true:=by rw [← hb];simpa using hr
  have bad:∀ G,Fr no E G→right2 x=false→K (.int .i64 3) G:=fun G fG h2=>by
   have kk:=k G (sE.fr.trans fG)
   rw [conE_3 hop r1 h2] at kk
   exact kk
  have good:∀ G,Fr no E G→right2 x=true→K (.int .i64 0) G:=fun G fG h2=>by
   have kk:=k G (sE.fr.trans fG)
   rw [conE_0 hop r1 h2] at kk
   exact kk
  have fin:∀ G,Fr no E G→∀ b:Bool,right2 x=b→(((!b)=true→K (.int .i64 3) G)∧((!b)=false→K (.int .i64 0) G)):=fun G fG b hb=>⟨fun h=>bad G fG (by rw [hb];simpa using h),fun h=>good G fG (by rw [hb];simpa using h)⟩
  refine ⟨_,sE.ld (k:=0) rfl 0,fun h6=>⟨_,_,_,_,_,t,⟨sE.ld (k:=0) rfl 0,sE.ld (k:=0) rfl 1,sE.ld (k:=0) rfl 2,sE.ld (k:=0) rfl 3,sE.ld (k:=0) rfl 4,sE.ld (k:=0) rfl 5,trivial⟩,called_ok (h.more sE.fr) hx (hp fE) fun G fG=>⟨_,rfl,fin G fG _ ?_⟩⟩,fun h6=>⟨fun h5=>⟨t,sE.ld (k:=0) rfl 5,?_⟩,fun h5=>⟨t,sE.ld (k:=0) rfl 5,?_⟩⟩⟩
  ·unfold right2
   rw [if_pos (eqI.1 h6)]
  ·have e2:right2 x=(decide (x.args = []) && (decide (0≤x.k∧x.k≤64) && tagB x.tag)):=by
    unfold right2
    rw [if_neg (neI.1 h6),if_pos (eqI.1 h5)]
   rw [nil_len,← hn] at e2
   refine ⟨fun h7=>⟨_,sE.ld (k:=0) rfl 3,fun h8=>⟨_,sE.ld (k:=0) rfl 3,fun h9=>⟨_,sE.ld (k:=0) rfl 4,tag_ok ⟨_,rfl,fin E (Fr.refl _ _) _ ?_⟩⟩,fun h9=>fin E (Fr.refl _ _) _ ?_⟩,fun h8=>fin E (Fr.refl _ _) _ ?_⟩,fun h7=>fin E (Fr.refl _ _) _ ?_⟩
   ·have:=of_decide_eq_true h8
    rw [e2,h7,decide_eq_true (p:=0≤x.k∧x.k≤64) ⟨by omega,of_decide_eq_true h9⟩]
    rfl
   ·have:=of_decide_eq_false h9
    rw [e2,decide_eq_false (p:=0≤x.k∧x.k≤64) (by omega),Bool.false_and,Bool.and_false]
   ·have:=of_decide_eq_false h8
    rw [e2,decide_eq_false (p:=0≤x.k∧x.k≤64) (by omega),Bool.false_and,Bool.and_false]
   ·rw [e2,h7,Bool.false_and]
  ·have e2:right2 x=(decide (x.args = []) && (decide (x.k=0) && decide (x.tag = []))):=by
    unfold right2
    rw [if_neg (neI.1 h6),if_neg (neI.1 h5)]
   rw [nil_len,← hn] at e2
   refine ⟨fun h7=>⟨_,sE.ld (k:=0) rfl 3,fun h8=>⟨_,sE.ld (k:=0) rfl 4,?_⟩,fun h8=>fin E (Fr.refl _ _) _ ?_⟩,fun h7=>fin E (Fr.refl _ _) _ ?_⟩
   ·rw [str_nil,beq_str]
    have e3:right2 x=decide (x.tag = []):=by
     rw [e2,h7,decide_eq_true (eqI.1 h8)]
     rfl
    rw [← e3]
    exact fin E (Fr.refl _ _) _ rfl
   ·rw [e2,decide_eq_false (p:=x.k=0) (neI.1 h8),Bool.false_and,Bool.and_false]
   ·rw [e2,h7,Bool.false_and]
 ·have h1:=eqI.1 h1
  have er:right1 x=(nodeB x.a && placeB x.b):=if_pos h1
  have hop:¬ (x.op < 1∨x.op > 6):=by omega
  refine node_ok q1 (hp (Fr.refl _ _)) fun B fB=>⟨_,rfl,fun h2=>⟨_,(sA.more fB).ld (k:=0) rfl 2,place_ok q2 (hp fB) fun C fC=>⟨_,rfl,fB.trans fC,hop,?_⟩⟩,fun h2=>⟨fB,hop,?_⟩⟩
  ·rw [er,h2,Bool.true_and]
  ·rw [er,h2,Bool.false_and]
 ·rintro b E ⟨hEA,hne,hb⟩ scr
  rw [hEA]
  refine ⟨fun ht'=>⟨_,sA.ld (k:=0) rfl 1,?_⟩,fun hf'=>⟨fun h6=>⟨_,sA.ld (k:=0) rfl 1,?_⟩,fun h6=>?_⟩⟩
  ·rw [ht'] at hb
   have hop:=of_decide_eq_true hb.symm
   have er:right1 x=(nodeB x.a && nodeB x.b):=by unfold right1;rw [if_neg hne,if_neg (by omega)]
   have hop:¬ (x.op < 1∨x.op > 6):=by omega
   refine node_ok q1 (hp (Fr.refl _ _)) fun B fB=>⟨_,rfl,fun h2=>⟨_,(sA.more fB).ld (k:=0) rfl 2,node_ok q2 (hp fB) fun C fC=>⟨_,rfl,fB.trans fC,hop,?_⟩⟩,fun h2=>⟨fB,hop,?_⟩⟩
   ·rw [er,h2,Bool.true_and]
   ·rw [er,h2,Bool.false_and]
  ·have h6:=eqI.1 h6
   have er:right1 x=(decide ((rd x.a).2=0∧(rd x.a).1.kind=3) && nodeB x.b):=by unfold right1;rw [if_neg hne,if_pos h6]
   have hop:¬ (x.op < 1∨x.op > 6):=by omega
   refine readX_ok q1 (hp (Fr.refl _ _)) fun B fB=>⟨_,_,_,_,_,_,_,rfl,?_⟩
   intro bN C hC
   have sB:=(Sym.start A).more fB
   have sC:=sB.newb (cs:=[.int .i64 0,.string ⟨#[]⟩,.int .i64 0,.string ⟨#[]⟩,.int .i64 0,.int .i64 0]) hC
   refine sC.stbs (k:=0) (i:=0) (vs:=ndV (rres (readN x.a)).1) rfl (by simp [ndV]) (ndV_one _) fun D sD=>?_
   replace sD:Sym A no D [blk bN (ndV (rd x.a).1) 61]:=sD
   have fD:=sD.fr
   refine ⟨fun h2=>⟨_,sD.ld (k:=0) rfl 0,fun h3=>⟨_,(sA.more fD).ld (k:=0) rfl 2,node_ok q2 (hp fD) fun G fG=>⟨_,rfl,fD.trans fG,hop,?_⟩⟩,fun h3=>⟨fD,hop,?_⟩⟩,fun h2=>⟨fD,hop,?_⟩⟩
   ·rw [er,decide_eq_true (p:=(rd x.a).2=0∧(rd x.a).1.kind=3) ⟨eqI.1 h2,eqI.1 h3⟩,Bool.true_and]
   ·rw [er,decide_eq_false (p:=(rd x.a).2=0∧(rd x.a).1.kind=3) (fun h=>neI.1 h3 h.2),Bool.false_and]
   ·rw [er,decide_eq_false (p:=(rd x.a).2=0∧(rd x.a).1.kind=3) (fun h=>neI.1 h2 h.1),Bool.false_and]
  ·rw [hf'] at hb
   have n2:=of_decide_eq_false hb.symm
   have n6:=neI.1 h6
   have kk:=k A sA.fr
   rw [conE_5 (by omega)] at kk
   exact kk
 ·have n1:=neI.1 h1
  refine ⟨fun h2=>⟨rfl,n1,?_⟩,fun h2=>⟨fun h3=>⟨rfl,n1,?_⟩,fun h3=>⟨fun h4=>⟨rfl,n1,?_⟩,fun h4=>⟨rfl,n1,?_⟩⟩⟩⟩
  ·have:=eqI.1 h2
   rw [h2,decide_eq_true (by omega)]
  ·have:=eqI.1 h3
   rw [h3,decide_eq_true (by omega)]
  ·have:=eqI.1 h4
   rw [h4,decide_eq_true (by omega)]
  ·have:=neI.1 h2
   have:=neI.1 h3
   have:=neI.1 h4
   rw [Bool.eq_iff_iff,beq_iff_eq,decide_eq_true_eq]
   omega
end
end Go.Proofs.YtjdhjgfmloaglaaGreatDoor.C15
end
section
namespace Go.Proofs.YtjdhjgfmloaglaaGreatDoor.C15
open Go Go.V Go.Proofs N15 P14 C14 P15
attribute [local irreducible] Cvt ExtF CallF hrun App MkS callV
theorem first_cons (x:Int) (l:List Int):firstNZ (x::l)=orI x (firstNZ l):=rfl
theorem orI_0 (x:Int):orI x 0=x:=by unfold orI;split <;> omega
theorem cmpC_six (a b:ConD):firstNZ [cmpN a.op b.op,cmpL a.a b.a,cmpL a.b b.b,cmpN a.k b.k,cmpL a.tag b.tag,cmpA a.args b.args]=cmpC a b:=by
 unfold cmpC
 simp only [first_cons]
 rw [show firstNZ []=0 from rfl,orI_0]
section
variable {H:Hp}{K:Value→Hp→Prop}{Z:List PanicEntry→Hp→Prop}{l:L8}
theorem cmpC_ok {x y:ConD}{s t:Sl}(h1:Rd flL 1 H s x.args) (h2:Rd flL 1 H t y.args) (hb:x.args.length≤1048576) (k:∀ H',Fr no H H'→K (.int .i64 (cmpC x y)) H') :
  CallF Tryz.prog 59 #[cA x s,cA y t] H K Z:=by
 refine V59_ok ?_
 unfold V59
 intro bA A hA bB B hB
 have sB:=((Sym.start H).newb (cs:=cL x s) hA).newb (cs:=cL y t) hB
 have a:∀ i,hcell B ⟨bA,i,none⟩=_:=fun i=>sB.ld (k:=1) rfl i
 have b:∀ i,hcell B ⟨bB,i,none⟩=_:=fun i=>sB.ld (k:=0) rfl i
 refine ⟨_,a 0,_,b 0,_,a 1,_,b 1,_,a 2,_,b 2,_,a 3,_,b 3,_,a 4,_,b 4,s,a 5,t,b 5,cmpN_ok ⟨_,rfl,b 5,a 5,b 4,a 4,b 3,a 3,b 2,a 2,b 1,a 1,cmpL_ok ⟨_,rfl,b 5,a 5,b 4,a 4,b 3,a 3,b 2,a 2,cmpL_ok ⟨_,rfl,b 5,a 5,b 4,a 4,b 3,a 3,cmpN_ok ⟨_,rfl,b 5,a 5,b 4,a 4,cmpL_ok ⟨_,rfl,b 5,a 5,cmpA_ok (h1.more sB.fr) (h2.more sB.fr) hb ⟨_,rfl,fun bL C hC=>?_⟩⟩⟩⟩⟩⟩⟩
 have sC:=sB.lit (l:=[cmpN x.op y.op,cmpL x.a y.a,cmpL x.b y.b,cmpN x.k y.k,cmpL x.tag y.tag,cmpA x.args y.args]) FlI (by decide) hC (show 6=_ from rfl)
 refine or_ok (s:=⟨some ⟨bL,0,none⟩,6,6⟩) (sC.rd (k:=0) FlI (by decide) rfl) (by simp) ⟨_,rfl,?_⟩
 rw [cmpC_six]
 exact k _ sC.fr
end
end Go.Proofs.YtjdhjgfmloaglaaGreatDoor.C15
end
section
namespace Go.Proofs.YtjdhjgfmloaglaaGreatDoor.C15
open Go Go.V Go.Proofs N15 P14 C14 P15
attribute [local irreducible] Cvt ExtF CallF hrun App MkS callV
def pv {α : Type}(xs:List α) (j:Nat):Option α:=if j=0 then none else xs[j - 1]?
theorem pv_next {α : Type}{xs:List α}{j:Nat}{x : α}(h:xs[j]? = some x):pv xs (j+1)=some x:=by
 unfold pv
 rw [if_neg (by omega),show j+1 - 1=j from rfl,h]
section
variable {α : Type}{ask : α→Int}{cmp : α→α→Int}{p:Option α}{x : α}{l:List α}
theorem each_ask (h:ask x≠0):eachE ask cmp p (x::l)=ask x:=by unfold eachE;exact if_pos h
theorem each_ord {q : α}(h:ask x=0) (h2:cmp q x≥0):eachE ask cmp (some q) (x::l)=13:=by
 unfold eachE
 rw [if_neg (fun h'=>h' h)]
 exact if_pos (decide_eq_true h2)
theorem each_go {q : α}(h:ask x=0) (h2:¬ cmp q x≥0):eachE ask cmp (some q) (x::l)=eachE ask cmp (some x) l:=by
 rw [eachE]
 rw [if_neg (fun h'=>h' h)]
 exact if_neg (fun h3=>h2 (of_decide_eq_true h3))
theorem each_first (h:ask x=0):eachE ask cmp none (x::l)=eachE ask cmp (some x) l:=by
 rw [eachE]
 rw [if_neg (fun h'=>h' h)]
 exact if_neg (by decide)
theorem each_nil:eachE ask cmp p ([]:List α)=0:=by unfold eachE;rfl
end
def bigB (s:SysD):Prop:=s.objs.length > 600∨s.fns.length > 600∨s.cons.length > 6000
theorem check_4 {s:SysD}(h:bigB s):checkE s=4:=if_pos h
theorem check_1 {s:SysD}(h:¬ bigB s) (h1:eachE objE cmpO none s.objs≠0):checkE s=eachE objE cmpO none s.objs:=(if_neg h).trans (if_pos h1)
theorem check_2 {s:SysD}(h:¬ bigB s) (h1:eachE objE cmpO none s.objs=0) (h2:eachE fnE cmpF none s.fns≠0):checkE s=eachE fnE cmpF none s.fns:=(if_neg h).trans ((if_neg fun h'=>h' h1).trans (if_pos h2))
theorem check_3 {s:SysD}(h:¬ bigB s) (h1:eachE objE cmpO none s.objs=0) (h2:eachE fnE cmpF none s.fns=0):checkE s=eachE conE cmpC none s.cons:=(if_neg h).trans ((if_neg fun h'=>h' h1).trans (if_neg fun h'=>h' h2))
section
variable {H:Hp}{K:Value→Hp→Prop}{Z:List PanicEntry→Hp→Prop}{l:L8}
theorem eachO_ok {s:Sl}{xs:List ObjD}{ask compare:Value}{askE:ObjD→Int}{cmpE:ObjD→ObjD→Int}(h:RdO H s xs) (hb:xs.length≤1048576)
  (ha:∀ {x:ObjD}{u:Sl}{A:Hp}{K':Value→Hp→Prop},x∈xs→Fr no H A→Rd flM 2 A u x.marks→(∀ B,Fr no A B→K' (.int .i64 (askE x)) B)→callV Tryz.prog ask [oA x u] A K' Z)
  (hc:∀ {x y:ObjD}{u v:Sl}{A:Hp}{K':Value→Hp→Prop},x∈xs→y∈xs→Fr no H A→Rd flM 2 A u x.marks→Rd flM 2 A v y.marks→(∀ B,Fr no A B→K' (.int .i64 (cmpE x y)) B)→callV Tryz.prog compare [oA x u,oA y v] A K' Z)
  (k:∀ H',Fr no H H'→K (.int .i64 (eachE askE cmpE none xs)) H'):CallF Tryz.prog 51 #[.slice s.a s.n s.c,ask,compare] H K Z:=by
 refine V51_ok ?_
 unfold V51
 have hn:=RdX.len h
 refine ⟨fun i A m=>∃ j:Nat,Fr no H A∧i=(j:Int)∧j≤xs.length∧m=xs.length - j∧eachE askE cmpE none xs=eachE askE cmpE (pv xs j) (xs.drop j),⟨_,0,Fr.refl _ _,rfl,Nat.zero_le _,rfl,rfl⟩,?_⟩
 rintro i A m ⟨j,fA,rfl,hj,rfl,he⟩ scr
 refine ⟨fun hlt=>?_,fun hge=>?_⟩
 ·have hj':j < xs.length:=by have:=dlt hlt;omega
  have hx:xs[j]? = some xs[j]:=List.getElem?_eq_getElem hj'
  have hxm:xs[j]∈xs:=List.getElem_mem hj'
  rw [List.drop_eq_getElem_cons hj'] at he
  generalize xs[j]=x at hx hxm he
  obtain ⟨t,ht,ix⟩:=atO (h.more fA) hx
  refine ix fun ad e0 e1 e2=>⟨_,_,t,⟨e0,e1,e2,trivial⟩,fun bX B hB=>?_⟩
  have sB:=(Sym.start A).newb (cs:=[.string ⟨#[]⟩,.string ⟨#[]⟩,.slice none 0 0]) hB
  refine sB.stbs (k:=0) (i:=0) (vs:=oL x t) rfl (by simp) (FlHO.2 (HO.of x t)) fun C sC=>?_
  replace sC:Sym A no C [blk bX (oL x t) 52]:=sC
  have fC:Fr no H C:=fA.trans sC.fr
  refine ⟨_,_,t,⟨sC.ld (k:=0) rfl 0,sC.ld (k:=0) rfl 1,sC.ld (k:=0) rfl 2,trivial⟩,ha hxm fC (ht.more sC.fr) fun D fD=>⟨_,rfl,fun hne=>?_,fun heq=>?_⟩⟩
  ·have kk:=k D (fC.trans fD)
   rw [he,each_ask (bne_iff_ne.1 hne)] at kk
   exact kk
  have h0:askE x=0:=bne_eq_false_iff_eq.1 heq
  have fD':Fr no H D:=fC.trans fD
  have sD:=sC.more fD
  refine ⟨fun hi=>?_,fun hi=>?_⟩
  ·have hj0:0 < j:=by have:=of_decide_eq_true hi;omega
   have hp:xs[j - 1]? = some xs[j - 1]:=List.getElem?_eq_getElem (by omega)
   have hpm:xs[j - 1]∈xs:=List.getElem_mem (by omega)
   generalize xs[j - 1]=p at hp hpm
   rw [show pv xs j=some p from (if_neg (by omega)).trans hp] at he
   rw [wd (by omega) hj0]
   obtain ⟨t2,ht2,ix2⟩:=atO (h.more fD') hp
   refine ix2 fun ad2 g0 g1 g2=>⟨_,_,t2,⟨g0,g1,g2,trivial⟩,_,_,t,⟨sD.ld (k:=0) rfl 0,sD.ld (k:=0) rfl 1,sD.ld (k:=0) rfl 2,trivial⟩,hc hpm hxm fD' ht2 (ht.more sD.fr) fun E fE=>⟨_,rfl,fun hge2=>?_,fun hlt2=>⟨xs.length - (j+1),by omega,j+1,fD'.trans fE,wi (by omega),hj',rfl,?_⟩⟩⟩
   ·have kk:=k E (fD'.trans fE)
    rw [he,each_ord h0 (of_decide_eq_true hge2)] at kk
    exact kk
   ·rw [he,each_go h0 (of_decide_eq_false hlt2),pv_next hx]
  ·have hj0:j=0:=by have:=of_decide_eq_false hi;omega
   rw [show pv xs j=none from if_pos hj0] at he
   exact ⟨xs.length - (j+1),by omega,j+1,fD',wi (by omega),hj',rfl,by rw [he,each_first h0,pv_next hx]⟩
 ·have kk:=k A fA
  rw [he,List.drop_of_length_le (by have:=dge hge;omega),each_nil] at kk
  exact kk
theorem eachF_ok {s:Sl}{xs:List FnD}{ask compare:Value}{askE:FnD→Int}{cmpE:FnD→FnD→Int}(h:Rd flF 3 H s xs) (hb:xs.length≤1048576)
  (ha:∀ {x:FnD}{A:Hp}{K':Value→Hp→Prop},x∈xs→Fr no H A→(∀ B,Fr no A B→K' (.int .i64 (askE x)) B)→callV Tryz.prog ask [fA x] A K' Z)
  (hc:∀ {x y:FnD}{A:Hp}{K':Value→Hp→Prop},x∈xs→y∈xs→Fr no H A→(∀ B,Fr no A B→K' (.int .i64 (cmpE x y)) B)→callV Tryz.prog compare [fA x,fA y] A K' Z)
  (k:∀ H',Fr no H H'→K (.int .i64 (eachE askE cmpE none xs)) H'):CallF Tryz.prog 54 #[.slice s.a s.n s.c,ask,compare] H K Z:=by
 refine V54_ok ?_
 unfold V54
 have hn:=h.len
 refine ⟨fun i A m=>∃ j:Nat,Fr no H A∧i=(j:Int)∧j≤xs.length∧m=xs.length - j∧eachE askE cmpE none xs=eachE askE cmpE (pv xs j) (xs.drop j),⟨_,0,Fr.refl _ _,rfl,Nat.zero_le _,rfl,rfl⟩,?_⟩
 rintro i A m ⟨j,fA,rfl,hj,rfl,he⟩ scr
 refine ⟨fun hlt=>?_,fun hge=>?_⟩
 ·have hj':j < xs.length:=by have:=dlt hlt;omega
  have hx:xs[j]? = some xs[j]:=List.getElem?_eq_getElem hj'
  have hxm:xs[j]∈xs:=List.getElem_mem hj'
  rw [List.drop_eq_getElem_cons hj'] at he
  generalize xs[j]=x at hx hxm he
  have ht:True:=trivial
  refine atF (h.more fA) hx fun ad e0 e1 e2=>⟨_,_,_,⟨e0,e1,e2,trivial⟩,fun bX B hB=>?_⟩
  have sB:=(Sym.start A).newb (cs:=[.string ⟨#[]⟩,.string ⟨#[]⟩,.string ⟨#[]⟩]) hB
  refine sB.stbs (k:=0) (i:=0) (vs:=fL x) rfl (by simp) (FlF.2 x) fun C sC=>?_
  replace sC:Sym A no C [blk bX (fL x) 56]:=sC
  have fC:Fr no H C:=fA.trans sC.fr
  refine ⟨_,_,_,⟨sC.ld (k:=0) rfl 0,sC.ld (k:=0) rfl 1,sC.ld (k:=0) rfl 2,trivial⟩,ha hxm fC fun D fD=>⟨_,rfl,fun hne=>?_,fun heq=>?_⟩⟩
  ·have kk:=k D (fC.trans fD)
   rw [he,each_ask (bne_iff_ne.1 hne)] at kk
   exact kk
  have h0:askE x=0:=bne_eq_false_iff_eq.1 heq
  have fD':Fr no H D:=fC.trans fD
  have sD:=sC.more fD
  refine ⟨fun hi=>?_,fun hi=>?_⟩
  ·have hj0:0 < j:=by have:=of_decide_eq_true hi;omega
   have hp:xs[j - 1]? = some xs[j - 1]:=List.getElem?_eq_getElem (by omega)
   have hpm:xs[j - 1]∈xs:=List.getElem_mem (by omega)
   generalize xs[j - 1]=p at hp hpm
   rw [show pv xs j=some p from (if_neg (by omega)).trans hp] at he
   rw [wd (by omega) hj0]
   have ht2:True:=trivial
   refine atF (h.more fD') hp fun ad2 g0 g1 g2=>⟨_,_,_,⟨g0,g1,g2,trivial⟩,_,_,_,⟨sD.ld (k:=0) rfl 0,sD.ld (k:=0) rfl 1,sD.ld (k:=0) rfl 2,trivial⟩,hc hpm hxm fD' fun E fE=>⟨_,rfl,fun hge2=>?_,fun hlt2=>⟨xs.length - (j+1),by omega,j+1,fD'.trans fE,wi (by omega),hj',rfl,?_⟩⟩⟩
   ·have kk:=k E (fD'.trans fE)
    rw [he,each_ord h0 (of_decide_eq_true hge2)] at kk
    exact kk
   ·rw [he,each_go h0 (of_decide_eq_false hlt2),pv_next hx]
  ·have hj0:j=0:=by have:=of_decide_eq_false hi;omega
   rw [show pv xs j=none from if_pos hj0] at he
   exact ⟨xs.length - (j+1),by omega,j+1,fD',wi (by omega),hj',rfl,by rw [he,each_first h0,pv_next hx]⟩
 ·have kk:=k A fA
  rw [he,List.drop_of_length_le (by have:=dge hge;omega),each_nil] at kk
  exact kk
theorem eachC_ok {s:Sl}{xs:List ConD}{ask compare:Value}{askE:ConD→Int}{cmpE:ConD→ConD→Int}(h:RdC H s xs) (hb:xs.length≤1048576)
  (ha:∀ {x:ConD}{u:Sl}{A:Hp}{K':Value→Hp→Prop},x∈xs→Fr no H A→Rd flL 1 A u x.args→(∀ B,Fr no A B→K' (.int .i64 (askE x)) B)→callV Tryz.prog ask [cA x u] A K' Z)
  (hc:∀ {x y:ConD}{u v:Sl}{A:Hp}{K':Value→Hp→Prop},x∈xs→y∈xs→Fr no H A→Rd flL 1 A u x.args→Rd flL 1 A v y.args→(∀ B,Fr no A B→K' (.int .i64 (cmpE x y)) B)→callV Tryz.prog compare [cA x u,cA y v] A K' Z)
  (k:∀ H',Fr no H H'→K (.int .i64 (eachE askE cmpE none xs)) H'):CallF Tryz.prog 57 #[.slice s.a s.n s.c,ask,compare] H K Z:=by
 refine V57_ok ?_
 unfold V57
 have hn:=RdX.len h
 refine ⟨fun i A m=>∃ j:Nat,Fr no H A∧i=(j:Int)∧j≤xs.length∧m=xs.length - j∧eachE askE cmpE none xs=eachE askE cmpE (pv xs j) (xs.drop j),⟨_,0,Fr.refl _ _,rfl,Nat.zero_le _,rfl,rfl⟩,?_⟩
 rintro i A m ⟨j,fA,rfl,hj,rfl,he⟩ scr
 refine ⟨fun hlt=>?_,fun hge=>?_⟩
 ·have hj':j < xs.length:=by have:=dlt hlt;omega
  have hx:xs[j]? = some xs[j]:=List.getElem?_eq_getElem hj'
  have hxm:xs[j]∈xs:=List.getElem_mem hj'
  rw [List.drop_eq_getElem_cons hj'] at he
  generalize xs[j]=x at hx hxm he
  obtain ⟨t,ht,ix⟩:=atC (h.more fA) hx
  refine ix fun ad e0 e1 e2 e3 e4 e5=>⟨_,_,_,_,_,t,⟨e0,e1,e2,e3,e4,e5,trivial⟩,fun bX B hB=>?_⟩
  have sB:=(Sym.start A).newb (cs:=[.int .i64 0,.string ⟨#[]⟩,.string ⟨#[]⟩,.int .i64 0,.string ⟨#[]⟩,.slice none 0 0]) hB
  refine sB.stbs (k:=0) (i:=0) (vs:=cL x t) rfl (by simp) (FlHC.2 (HC.of x t)) fun C sC=>?_
  replace sC:Sym A no C [blk bX (cL x t) 36]:=sC
  have fC:Fr no H C:=fA.trans sC.fr
  refine ⟨_,_,_,_,_,t,⟨sC.ld (k:=0) rfl 0,sC.ld (k:=0) rfl 1,sC.ld (k:=0) rfl 2,sC.ld (k:=0) rfl 3,sC.ld (k:=0) rfl 4,sC.ld (k:=0) rfl 5,trivial⟩,ha hxm fC (ht.more sC.fr) fun D fD=>⟨_,rfl,fun hne=>?_,fun heq=>?_⟩⟩
  ·have kk:=k D (fC.trans fD)
   rw [he,each_ask (bne_iff_ne.1 hne)] at kk
   exact kk
  have h0:askE x=0:=bne_eq_false_iff_eq.1 heq
  have fD':Fr no H D:=fC.trans fD
  have sD:=sC.more fD
  refine ⟨fun hi=>?_,fun hi=>?_⟩
  ·have hj0:0 < j:=by have:=of_decide_eq_true hi;omega
   have hp:xs[j - 1]? = some xs[j - 1]:=List.getElem?_eq_getElem (by omega)
   have hpm:xs[j - 1]∈xs:=List.getElem_mem (by omega)
   generalize xs[j - 1]=p at hp hpm
   rw [show pv xs j=some p from (if_neg (by omega)).trans hp] at he
   rw [wd (by omega) hj0]
   obtain ⟨t2,ht2,ix2⟩:=atC (h.more fD') hp
   refine ix2 fun ad2 g0 g1 g2 g3 g4 g5=>⟨_,_,_,_,_,t2,⟨g0,g1,g2,g3,g4,g5,trivial⟩,_,_,_,_,_,t,⟨sD.ld (k:=0) rfl 0,sD.ld (k:=0) rfl 1,sD.ld (k:=0) rfl 2,sD.ld (k:=0) rfl 3,sD.ld (k:=0) rfl 4,sD.ld (k:=0) rfl 5,trivial⟩,hc hpm hxm fD' ht2 (ht.more sD.fr) fun E fE=>⟨_,rfl,fun hge2=>?_,fun hlt2=>⟨xs.length - (j+1),by omega,j+1,fD'.trans fE,wi (by omega),hj',rfl,?_⟩⟩⟩
   ·have kk:=k E (fD'.trans fE)
    rw [he,each_ord h0 (of_decide_eq_true hge2)] at kk
    exact kk
   ·rw [he,each_go h0 (of_decide_eq_false hlt2),pv_next hx]
  ·have hj0:j=0:=by have:=of_decide_eq_false hi;omega
   rw [show pv xs j=none from if_pos hj0] at he
   exact ⟨xs.length - (j+1),by omega,j+1,fD',wi (by omega),hj',rfl,by rw [he,each_first h0,pv_next hx]⟩
 ·have kk:=k A fA
  rw [he,List.drop_of_length_le (by have:=dge hge;omega),each_nil] at kk
  exact kk
theorem call_fn {f:Nat}{args:List Value}(hf:fnOk Tryz.prog f=true) (h:CallF Tryz.prog f args.toArray H K Z):callV Tryz.prog (.func (.func f) #[] #[]) args H K Z:=by
 unfold callV
 have e:((#[]:Array Value).toList++args++(#[]:Array Value).toList).toArray=args.toArray:=by simp
 simp only [hf,if_true]
 rw [e]
 exact h
theorem ok22:fnOk Tryz.prog 52=true:=by kernel_rfl
theorem ok23:fnOk Tryz.prog 53=true:=by kernel_rfl
theorem ok25:fnOk Tryz.prog 55=true:=by kernel_rfl
theorem ok26:fnOk Tryz.prog 56=true:=by kernel_rfl
theorem ok28:fnOk Tryz.prog 58=true:=by kernel_rfl
theorem ok19:fnOk Tryz.prog 59=true:=by kernel_rfl
theorem check_ok {s1 s2 s3:Sl}{x:SysD}(h:RdSys H s1 s2 s3 x) (hx:OkSys x) (ht:Pw H) (k:∀ H',Fr no H H'→K (.int .i64 (checkE x)) H'):CallF Tryz.prog 18 #[.agg #[.slice s1.a s1.n s1.c,.slice s2.a s2.n s2.c,.slice s3.a s3.n s3.c]] H K Z:=by
 refine V18_ok ?_
 unfold V18
 intro bS A hA
 have sA:=(Sym.start H).newb (cs:=[.slice s1.a s1.n s1.c,.slice s2.a s2.n s2.c,.slice s3.a s3.n s3.c]) hA
 have l1:=h.o.len
 have l2:=h.f.len
 have l3:=h.c.len
 have big:bigB x→K (.int .i64 4) A:=fun hb=>by
  have kk:=k A sA.fr
  rw [check_4 hb] at kk
  exact kk
 refine ⟨s1,sA.ld (k:=0) rfl 0,fun g1=>big (.inl (by have:=of_decide_eq_true g1;omega)),fun g1=>⟨s2,sA.ld (k:=0) rfl 1,fun g2=>big (.inr (.inl (by have:=of_decide_eq_true g2;omega))),fun g2=>⟨s3,sA.ld (k:=0) rfl 2,fun g3=>big (.inr (.inr (by have:=of_decide_eq_true g3;omega))),fun g3=>⟨s1,sA.ld (k:=0) rfl 0,?_⟩⟩⟩⟩
 have hbig:¬ bigB x:=by
  have:=of_decide_eq_false g1
  have:=of_decide_eq_false g2
  have:=of_decide_eq_false g3
  unfold bigB
  omega
 refine eachO_ok (askE:=objE) (cmpE:=cmpO) (h.o.more sA.fr) hx.o.1 (fun hm fB hr kk=>call_fn ok22 (obj_ok hr (hx.o.2 _ hm) (TabH.more ht (sA.fr.trans fB)) kk)) (fun _ _ _ _ _ kk=>call_fn ok23 (byObj_ok kk)) fun B fB=>⟨_,rfl,fun hne=>?_,fun heq=>⟨s2,(sA.more fB).ld (k:=0) rfl 1,?_⟩⟩
 ·have kk:=k B (sA.fr.trans fB)
  rw [check_1 hbig (bne_iff_ne.1 hne)] at kk
  exact kk
 have e1:=bne_eq_false_iff_eq.1 heq
 have fB':=sA.fr.trans fB
 refine eachF_ok (askE:=fnE) (cmpE:=cmpF) (h.f.more fB') hx.f.1 (fun hm fC kk=>call_fn ok25 (fnF_ok (hx.f.2 _ hm) (TabH.more ht (fB'.trans fC)) kk)) (fun _ _ _ kk=>call_fn ok26 (byFn_ok kk)) fun C fC=>⟨_,rfl,fun hne=>?_,fun heq=>⟨s3,(sA.more (fB.trans fC)).ld (k:=0) rfl 2,?_⟩⟩
 ·have kk:=k C (fB'.trans fC)
  rw [check_2 hbig e1 (bne_iff_ne.1 hne)] at kk
  exact kk
 have e2:=bne_eq_false_iff_eq.1 heq
 have fC':=fB'.trans fC
 refine eachC_ok (askE:=conE) (cmpE:=cmpC) (h.c.more fC') hx.c.1 (fun hm fD hr kk=>call_fn ok28 (con_ok hr (hx.c.2 _ hm) (TabH.more ht (fC'.trans fD)) kk)) (fun hm _ _ hr hr2 kk=>call_fn ok19 (cmpC_ok hr hr2 (hx.c.2 _ hm).2.2.2.1 kk)) fun D fD=>⟨_,rfl,?_⟩
 have kk:=k D (fC'.trans fD)
 rw [check_3 hbig e1 e2] at kk
 exact kk
end
end Go.Proofs.YtjdhjgfmloaglaaGreatDoor.C15
end
section
namespace Go.Proofs.YtjdhjgfmloaglaaGreatDoor.C15
open Go Go.V Go.Proofs N15 P14 C14 P15
attribute [local irreducible] Cvt ExtF CallF hrun App MkS callV
section
variable {H:Hp}{K:Value→Hp→Prop}{Z:List PanicEntry→Hp→Prop}{l:L8}
end
end Go.Proofs.YtjdhjgfmloaglaaGreatDoor.C15
end
section
namespace Go.Proofs.YtjdhjgfmloaglaaGreatDoor.C15
open Go Go.V Go.Proofs N15 P14 C14 P15
attribute [local irreducible] Cvt ExtF CallF hrun App MkS callV
theorem tyTs:TyS Tryz.prog 27 9 1 16 (.string ⟨#[]⟩):=⟨by kernel_rfl,by kernel_rfl,rfl,by decide⟩
theorem els_of {A:Hp}{s:Sl}{ts:List L8}(h:Rd flL 1 A s ts):Els C05S.val A s (ts.map str):=rd_els (fun _=>rfl) h
theorem flat_val:∀ ys:List ByteArray,flat flL (ys.map (·.data.toList))=ys.map C05S.val
 | []=>rfl
 | y::ys=>by
  have ih:=flat_val ys
  unfold flat at ih ⊢
  rw [List.map_cons,List.flatMap_cons,ih,List.map_cons]
  show [Value.string (str y.data.toList)]++_=_
  rw [← str_of y]
  rfl
abbrev AS (H0 H:Hp) (s:Sl) (seen:List L8) (R:List It):Prop:=Sym H0 no H (arr flL 9 1 s seen::R)
section
variable {H0 H:Hp}{R:List It}{K:Value→Hp→Prop}{Z:List PanicEntry→Hp→Prop}{s:Sl}{seen:List L8}
theorem AS.drop' {x:It}(h:AS H0 H s seen (x::R)):AS H0 H s seen R:=h.sub (List.Sublist.cons_cons _ (List.sublist_cons_self _ _))
theorem AS.put {A:Hp}{b:Nat}{x:L8}{ty:TypeId}{Kx:Sl→Hp→Prop}(h:AS H0 H s seen R) (hn:Newb H (.cells #[.string (str x)] 9) b A) (hl:seen.length≤100000000) (kk:∀ s' B,AS H0 B s' (seen ++ [x]) R→Kx s' B) :
  App Tryz.prog #[27,27] ty A [.slice s.a s.n s.c,.slice (some ⟨b,0,none⟩) 1 1] Kx:=by
 have hs:=(Sym.rd (k:=0) h FlL (by decide) rfl).len
 exact Sym.app1 (k:=0) (x:=x) tyTs h FlL (by decide) hn rfl (by omega) fun s' B _ sB=>kk s' B sB
theorem AS.rd' (h:AS H0 H s seen R):Rd flL 1 H s seen:=Sym.rd (k:=0) h FlL (by decide) rfl
theorem sortedA_ok {l:Sl}{xs:List L8}(h:Rd flL 1 H l xs) (hbig:xs.length≤2000000)
  (k:∀ s' ys B,Sym H no B [arr flL 9 1 s' ys]→Rising ltL ys→(∀ z,z∈ys↔z∈xs)→K (.slice s'.a s'.n s'.c) B):CallF Tryz.prog 20 #[.slice l.a l.n l.c] H K Z:=by
 refine C05S.sortedN_ok (els_of h) (by rw [List.length_map];exact hbig) fun s B ys hris hmem hlen hrow hf hown hnf=>?_
 refine k s (ys.map (·.data.toList)) B ⟨hf,fun a ha=>?_,List.pairwise_singleton _ _,fun a ha i hi=>?_⟩ (rising_map hris) fun z=>?_
 ·rw [List.mem_singleton.1 ha]
  exact ⟨by rw [flat_val];exact hrow,hnf⟩
 ·rw [List.mem_singleton.1 ha] at hi
  exact .inr (hown i hi)
 ·rw [List.mem_map]
  constructor
  ·rintro ⟨y,hy,rfl⟩
   obtain ⟨x,hx,e⟩:=List.mem_map.1 ((hmem y).1 hy)
   rw [← e,str_data]
   exact hx
  ·intro hz
   exact ⟨str z,(hmem _).2 (List.mem_map.2 ⟨z,hz,rfl⟩),str_data z⟩
end
theorem flat_le {α β : Type}{f : α→List β}{n:Nat}:∀ {l:List α},(∀ x∈l,(f x).length≤n)→(l.flatMap f).length≤l.length*n
 | [],_=>by simp
 | a::l,h=>by
  rw [List.flatMap_cons,List.length_append,List.length_cons,Nat.succ_mul]
  have:=flat_le (l:=l) fun x hx=>h x (List.mem_cons_of_mem _ hx)
  have:=h a List.mem_cons_self
  omega
theorem flat_snoc {α β : Type}{f : α→List β}{l:List α}{j:Nat}{x : α}(h:l[j]? = some x):(l.take (j+1)).flatMap f=(l.take j).flatMap f++f x:=by
 rw [List.take_add_one,h,List.flatMap_append]
 simp
theorem range_snoc {β : Type}{f:Nat→List β}{j:Nat}:(List.range (j+1)).flatMap f=(List.range j).flatMap f++f j:=by
 rw [List.range_succ,List.flatMap_append]
 simp
theorem filt_snoc {α : Type}{p : α→Bool}{l:List α}{j:Nat}{x : α}(h:l[j]? = some x):(l.take (j+1)).filter p=(l.take j).filter p++(if p x then [x] else []):=by
 rw [List.take_add_one,h,List.filter_append]
 cases hp:p x <;> simp [hp]
theorem each_zero {α : Type}{ask : α→Int}{cmp : α→α→Int}:∀ {l:List α}{p:Option α},eachE ask cmp p l=0→∀ x∈l,ask x=0
 | [],_,_=>by simp
 | a::l,p,h=>by
  by_cases h0:ask a=0
  ·have h2:eachE ask cmp (some a) l=0:=by
    cases p with
    | none=>rw [each_first h0] at h;exact h
    | some q=>
     by_cases hq:cmp q a≥0
     ·rw [each_ord h0 hq] at h;cases h
     ·rw [each_go h0 hq] at h;exact h
   intro x hx
   rcases List.mem_cons.1 hx with rfl | hx
   ·exact h0
   ·exact each_zero h2 x hx
  ·rw [each_ask h0] at h
   exact absurd h h0
structure Right (s:SysD):Prop where
 o:s.objs.length≤600∧∀ o∈s.objs,o.kinds.length≤64
 f:s.fns.length≤600
 c:s.cons.length≤6000∧∀ c∈s.cons,c.args.length≤7
theorem objE_zero {o:ObjD}(h:objE o=0):o.kinds.length≤64:=by
 unfold objE at h
 split at h
 ·cases h
 split at h
 ·cases h
 rename_i h1 h2
 have:kindsB o.kinds 64=true:=by
  cases hk:kindsB o.kinds 64
  ·exact absurd (.inr hk) h2
  ·rfl
 unfold kindsB at this
 rw [Bool.and_eq_true] at this
 exact of_decide_eq_true this.2
theorem conE_zero {c:ConD}(h:conE c=0):c.args.length≤7:=by
 by_cases h1:c.op < 1∨c.op > 6
 ·rw [conE_5 h1] at h;cases h
 cases h2:right1 c
 ·rw [conE_11 h1 h2] at h;cases h
 cases h3:right2 c
 ·rw [conE_3 h1 h2 h3] at h;cases h
 unfold right2 at h3
 split at h3
 ·unfold callB kindsB at h3
  simp only [Bool.and_eq_true,decide_eq_true_eq] at h3
  omega
 ·split at h3
  ·rw [Bool.and_eq_true] at h3
   rw [of_decide_eq_true h3.1]
   decide
  ·rw [Bool.and_eq_true] at h3
   rw [of_decide_eq_true h3.1]
   decide
theorem check_right {s:SysD}(h:checkE s=0):Right s:=by
 by_cases h0:bigB s
 ·rw [check_4 h0] at h;cases h
 by_cases h1:eachE objE cmpO none s.objs=0
 ·by_cases h2:eachE fnE cmpF none s.fns=0
  ·rw [check_3 h0 h1 h2] at h
   unfold bigB at h0
   exact ⟨⟨by omega,fun o ho=>objE_zero (each_zero h1 o ho)⟩,by omega,⟨by omega,fun c hc=>conE_zero (each_zero h c hc)⟩⟩
  ·rw [check_2 h0 h1 h2] at h;exact absurd h h2
 ·rw [check_1 h0 h1] at h;exact absurd h h1
theorem conN_len (c:ConD):(conN c).length≤2+c.args.length:=by
 unfold conN
 rw [List.length_append,List.length_append]
 have:=List.length_filter_le (fun a=>decide (a ≠ [])) c.args
 have h1:(if c.op=1 then ([]:List L8) else [c.b]).length≤1:=by split <;> simp
 have h2 : [c.a].length=1:=rfl
 omega
theorem objN_len (o:ObjD):(objN o).length≤o.kinds.length:=by
 unfold objN
 have:=flat_le (l:=List.range o.kinds.length) (n:=1) (f:=fun (i:Nat)=>if o.kinds[i]? = some 112 then [cellL o.name (i:Int)] else []) (fun x _=>by split <;> simp)
 rw [List.length_range] at this
 omega
def IsN (x:SysD) (ys:List L8):Prop:=(checkE x≠0∧ys = [])∨(checkE x=0∧Rising ltL ys∧∀ z,z∈ys↔z∈nodesL x)
end Go.Proofs.YtjdhjgfmloaglaaGreatDoor.C15
end
section
namespace Go.Proofs.YtjdhjgfmloaglaaGreatDoor.C15
open Go Go.V Go.Proofs N15 P14 C14 P15
attribute [local irreducible] Cvt ExtF CallF hrun App MkS callV
theorem lf {A B:Hp}(f:Fr no A B) {ad:Addr}{v:Value}(e:hcell A ad=some v):hcell B ad=some v:=f.cell e fun h=>h
theorem conN_eq (c:ConD):conN c=([c.a]++(if c.op=1 then [] else [c.b]))++c.args.filter fun a=>decide (a ≠ []):=by
 unfold conN
 rw [List.append_assoc]
theorem cons_le {x:SysD}(h:Right x) (j:Nat):((x.cons.take j).flatMap conN).length≤54000:=by
 have:=flat_le (f:=conN) (n:=9) (l:=x.cons.take j) fun c hc=>by have:=conN_len c;have:=h.c.2 c (List.mem_of_mem_take hc);omega
 have:=h.c.1
 have:=List.length_take_le j x.cons
 rw [List.length_take] at *
 omega
theorem objs_le {x:SysD}(h:Right x) (j:Nat):((x.objs.take j).flatMap objN).length≤38400:=by
 have:=flat_le (f:=objN) (n:=64) (l:=x.objs.take j) fun c hc=>by have:=objN_len c;have:=h.o.2 c (List.mem_of_mem_take hc);omega
 have:=h.o.1
 have:=List.length_take_le j x.objs
 rw [List.length_take] at *
 omega
def cellsN (o:ObjD) (q:Nat):List L8:=(List.range q).flatMap fun (i:Nat)=>if o.kinds[i]? = some 112 then [cellL o.name (i:Int)] else []
theorem cellsN_len (o:ObjD) (q:Nat):(cellsN o q).length≤q:=by
 have:=flat_le (l:=List.range q) (n:=1) (f:=fun (i:Nat)=>if o.kinds[i]? = some 112 then [cellL o.name (i:Int)] else []) (fun x _=>by split <;> simp)
 rw [List.length_range] at this
 unfold cellsN
 omega
theorem cellsN_next (o:ObjD) (q:Nat):cellsN o (q+1)=cellsN o q++(if o.kinds[q]? = some 112 then [cellL o.name (q:Int)] else []):=range_snoc
section
variable {H:Hp}{K:Value→Hp→Prop}{Z:List PanicEntry→Hp→Prop}{l:L8}
abbrev sL (s1 s2 s3:Sl):List Value:=[.slice s1.a s1.n s1.c,.slice s2.a s2.n s2.c,.slice s3.a s3.n s3.c]
abbrev sAg (s1 s2 s3:Sl):Value:=.agg #[.slice s1.a s1.n s1.c,.slice s2.a s2.n s2.c,.slice s3.a s3.n s3.c]
theorem nodesA_ok {s1 s2 s3:Sl}{x:SysD}(h:RdSys H s1 s2 s3 x) (hx:OkSys x) (ht:Pw H) (k:∀ s' ys H',Sym H no H' [arr flL 9 1 s' ys]→IsN x ys→K (.slice s'.a s'.n s'.c) H'):CallF Tryz.prog 47 #[sAg s1 s2 s3] H K Z:=by
 refine V47_ok ?_
 unfold V47
 intro bS A hA
 have sA:=(Sym.start H).newb (cs:=sL s1 s2 s3) hA
 refine ⟨s1,s2,s3,⟨sA.ld (k:=0) rfl 0,sA.ld (k:=0) rfl 1,sA.ld (k:=0) rfl 2,trivial⟩,check_ok (h.more sA.fr) hx (TabH.more ht sA.fr) fun B fB=>⟨_,rfl,fun hne=>?_,fun heq=>⟨s3,(sA.more fB).ld (k:=0) rfl 2,?_⟩⟩⟩
 ·exact k ⟨none,0,0⟩ [] B (((sA.more fB).nilrow flL 9 1).re [0] (by decide)) (.inl ⟨bne_iff_ne.1 hne,rfl⟩)
 have h0:=bne_eq_false_iff_eq.1 heq
 have hr:=check_right h0
 have sB:=sA.more fB
 have n3:=RdX.len h.c
 have n1:=RdX.len h.o
 have z3:=hr.c.1
 have z1:=hr.o.1
 refine ⟨fun l i C m=>∃ j:Nat,i=(j:Int)∧j≤x.cons.length∧m=x.cons.length - j∧AS H C l ((x.cons.take j).flatMap conN) [blk bS (sL s1 s2 s3) 26],⟨_,0,rfl,Nat.zero_le _,rfl,sB.nilrow _ _ _⟩,?_⟩
 rintro l i C m ⟨j,rfl,hj,rfl,sC⟩ scr
 refine ⟨fun hlt=>?_,fun hge=>?_⟩
 ·have hj':j < x.cons.length:=by have:=dlt hlt;omega
  obtain ⟨y,hy,hym⟩:=getN hj'
  obtain ⟨t,hta,ix⟩:=atC h.c hy
  have hargs:=hr.c.2 y hym
  have hlen:=cons_le hr j
  have hsn:=flat_snoc (f:=conN) hy
  generalize (x.cons.take j).flatMap conN=done at sC hlen hsn
  have fC:=sC.fr
  refine ix fun ad e1 e2 e3 e4 e5 e6=>⟨_,_,_,_,_,t,⟨lf fC e1,lf fC e2,lf fC e3,lf fC e4,lf fC e5,lf fC e6,trivial⟩,fun bC D hD=>?_⟩
  have sD:=Sym.newb sC (cs:=[.int .i64 0,.string ⟨#[]⟩,.string ⟨#[]⟩,.int .i64 0,.string ⟨#[]⟩,.slice none 0 0]) hD
  refine sD.stbs (k:=0) (i:=0) (vs:=cL y t) rfl (by simp) (FlHC.2 (HC.of y t)) fun E sE=>?_
  replace sE:AS H E l done [blk bC (cL y t) 36,blk bS (sL s1 s2 s3) 26]:=Sym.swap sE
  refine ⟨_,Sym.ld sE (k:=1) rfl 1,fun b F hF=>AS.put (x:=y.a) sE hF (by omega) fun l1 G sG=>?_⟩
  refine ⟨fun l' I=>AS H I l' (done++([y.a]++if y.op=1 then [] else [y.b])) [blk bC (cL y t) 36,blk bS (sL s1 s2 s3) 26],?_,_,Sym.ld sG (k:=1) rfl 0,fun h1=>⟨_,Sym.ld sG (k:=1) rfl 2,fun b2 I hI=>AS.put (x:=y.b) sG hI (by rw [List.length_append];simp only [List.length_singleton];omega) fun l2 J sJ=>?_⟩,fun h1=>?_⟩
  ·rintro l' I sI scr1
   have hl2:(done++([y.a]++if y.op=1 then [] else [y.b])).length≤54002:=by
    rw [List.length_append,List.length_append]
    have:(if y.op=1 then ([]:List L8) else [y.b]).length≤1:=by split <;> simp
    simp only [List.length_singleton]
    omega
   rw [conN_eq,← List.append_assoc] at hsn
   generalize (done++([y.a]++if y.op=1 then [] else [y.b]))=d2 at sI hl2 hsn
   have nt:=hta.len
   refine ⟨t,Sym.ld sI (k:=1) rfl 5,fun l2 i J m=>∃ q:Nat,i=(q:Int)∧q≤y.args.length∧m=y.args.length - q∧AS H J l2 (d2++(y.args.take q).filter fun a=>decide (a ≠ [])) [blk bC (cL y t) 36,blk bS (sL s1 s2 s3) 26],⟨_,0,rfl,Nat.zero_le _,rfl,by rw [List.take_zero,List.filter_nil,List.append_nil];exact sI⟩,?_⟩
   rintro l2 i J m ⟨q,rfl,hq,rfl,sJ⟩ scr2
   refine ⟨fun hlt2=>?_,fun hge2=>?_⟩
   ·have hq':q < y.args.length:=by have:=dlt hlt2;omega
    obtain ⟨z,hz,_⟩:=getN hq'
    have hlf:((y.args.take q).filter fun a=>decide (a ≠ [])).length≤q:=by
     have:=List.length_filter_le (fun a=>decide (a ≠ [])) (y.args.take q)
     rw [List.length_take] at this
     omega
    have hsn2:=filt_snoc (p:=fun a=>decide (a ≠ [])) hz
    refine atL (hta.more sJ.fr) hz fun ad2 g1=>⟨_,g1,?_⟩
    rw [str_nil,beq_str]
    refine ⟨fun hne=>fun b2 L hL=>AS.put (x:=z) sJ hL (by rw [List.length_append];omega) fun l3 M sM=>⟨y.args.length - (q+1),by omega,q+1,wi (by omega),hq',rfl,?_⟩,fun he=>⟨y.args.length - (q+1),by omega,q+1,wi (by omega),hq',rfl,?_⟩⟩
    ·rw [hsn2,if_pos (decide_eq_true (notd.1.1 hne)),← List.append_assoc]
     exact sM
    ·rw [hsn2,if_neg (fun h=>(of_decide_eq_true (p:=z ≠ []) h) (notd.2.1 he)),List.append_nil]
     exact sJ
   ·have:q=y.args.length:=by have:=dge hge2;omega
    rw [this,List.take_length,← hsn] at sJ
    exact ⟨x.cons.length - (j+1),by omega,j+1,wi (by omega),hj',rfl,AS.drop' sJ⟩
  ·rw [if_neg (bne_iff_ne.1 h1),← List.append_assoc]
   exact sJ
  ·rw [if_pos (bne_eq_false_iff_eq.1 h1),List.append_nil]
   exact sG
 have hjc:j=x.cons.length:=by have:=dge hge;omega
 rw [hjc,List.take_length] at sC
 have hcl:=cons_le hr x.cons.length
 rw [List.take_length] at hcl
 refine ⟨s1,Sym.ld sC (k:=1) rfl 0,fun l i D m=>∃ j:Nat,i=(j:Int)∧j≤x.objs.length∧m=x.objs.length - j∧AS H D l (x.cons.flatMap conN++(x.objs.take j).flatMap objN) [blk bS (sL s1 s2 s3) 26],⟨_,0,rfl,Nat.zero_le _,rfl,by rw [List.take_zero,List.flatMap_nil,List.append_nil];exact sC⟩,?_⟩
 clear hj hge hjc sC
 rintro l i C m ⟨j,rfl,hj,rfl,sC⟩ scr
 have hlen:=objs_le hr j
 refine ⟨fun hlt=>?_,fun hge=>?_⟩
 ·have hj':j < x.objs.length:=by have:=dlt hlt;omega
  obtain ⟨y,hy,hym⟩:=getN hj'
  obtain ⟨t,hta,ix⟩:=atO h.o hy
  have hkinds:=hr.o.2 y hym
  have hsn:=flat_snoc (f:=objN) hy
  have fC:=sC.fr
  have hl2:(x.cons.flatMap conN++(x.objs.take j).flatMap objN).length≤100000:=by rw [List.length_append];omega
  refine ix fun ad e1 e2 e3=>⟨_,_,t,⟨lf fC e1,lf fC e2,lf fC e3,trivial⟩,fun bO D hD=>?_⟩
  have sD:=Sym.newb sC (cs:=[.string ⟨#[]⟩,.string ⟨#[]⟩,.slice none 0 0]) hD
  refine sD.stbs (k:=0) (i:=0) (vs:=oL y t) rfl (by simp) (FlHO.2 (HO.of y t)) fun E sE=>?_
  replace sE:AS H E l (x.cons.flatMap conN++(x.objs.take j).flatMap objN) [blk bO (oL y t) 52,blk bS (sL s1 s2 s3) 26]:=Sym.swap sE
  generalize hdone:x.cons.flatMap conN++(x.objs.take j).flatMap objN=done at sE hl2
  refine ⟨_,Sym.ld sE (k:=1) rfl 1,fun l2 i F m=>∃ q:Nat,i=(q:Int)∧q≤y.kinds.length∧m=y.kinds.length - q∧AS H F l2 (done++cellsN y q) [blk bO (oL y t) 52,blk bS (sL s1 s2 s3) 26],⟨_,0,rfl,Nat.zero_le _,rfl,by rw [show cellsN y 0 = [] from rfl,List.append_nil];exact sE⟩,?_⟩
  rw [str_size]
  rintro l2 i F m ⟨q,rfl,hq,rfl,sF⟩ scr2
  refine ⟨fun hlt2=>⟨_,Sym.ld sF (k:=1) rfl 1,?_⟩,fun hge2=>?_⟩
  ·have hq':q < y.kinds.length:=dlt hlt2
   have hz:y.kinds[q]? = some y.kinds[q]:=List.getElem?_eq_getElem hq'
   generalize y.kinds[q]=z at hz
   have hnx:=cellsN_next y q
   refine IxS.mk hz ⟨fun hp=>⟨_,Sym.ld sF (k:=1) rfl 0,cell_ok (hx.o.2 y hym).1 (TabH.more ht sF.fr) fun G fG=>⟨_,rfl,fun b2 L hL=>AS.put (x:=cellL y.name (q:Int)) (Sym.more sF fG) hL (by have:=cellsN_len y q;rw [List.length_append];omega) fun l3 M sM=>⟨y.kinds.length - (q+1),by omega,q+1,wi (by omega),hq',rfl,?_⟩⟩⟩,fun hp=>⟨y.kinds.length - (q+1),by omega,q+1,wi (by omega),hq',rfl,?_⟩⟩
   ·have hb:z=112:=(u8_is (n:=112) (by decide)).1 hp
    rw [hz,hb,if_pos rfl] at hnx
    rw [hnx,← List.append_assoc]
    exact sM
   ·have hb:z≠112:=fun e=>by subst e;cases hp
    rw [hz,if_neg (fun h=>hb (Option.some_inj.1 h)),List.append_nil] at hnx
    rw [hnx]
    exact sF
  ·have hqe:q=y.kinds.length:=by have:=dge hge2;omega
   refine ⟨x.objs.length - (j+1),by omega,j+1,wi (by omega),hj',rfl,?_⟩
   rw [hsn,← List.append_assoc,hdone]
   rw [hqe] at sF
   exact AS.drop' sF
 ·have hje:j=x.objs.length:=by have:=dge hge;omega
  rw [hje,List.take_length] at sC hlen
  refine sortedA_ok (AS.rd' sC) (by rw [List.length_append];omega) fun s' ys D sD hris hmem=>⟨_,rfl,k s' ys D ((Sym.join sC sD).re [0] (by decide)) (.inr ⟨h0,hris,hmem⟩)⟩
end
end Go.Proofs.YtjdhjgfmloaglaaGreatDoor.C15
end
