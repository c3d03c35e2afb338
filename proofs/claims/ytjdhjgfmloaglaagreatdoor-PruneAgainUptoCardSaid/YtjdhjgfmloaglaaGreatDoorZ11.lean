import Derived.Test.YtjdhjgfmloaglaaGreatDoorZ10
set_option linter.unusedVariables false
set_option linter.unusedSimpArgs false
section
namespace Go.Proofs.YtjdhjgfmloaglaaGreatDoor.C15
open Go Go.V Go.Proofs N15 P14 C14 P15
attribute [local irreducible] Cvt ExtF CallF hrun App MkS callV
theorem marksB_cons {n last:Int}{seen r:List Mk}{m:Mk}:marksB n last seen (m::r)=(decide (last≤m.1∧m.1 < n) && (tagB m.2 && (decide (m∉seen) && marksB n m.1 (seen ++ [m]) r))):=rfl
theorem headK {τ : Type}{fl : τ→List Value}{sz:Nat}{H:Hp}{s:Sl}{l:List τ}{j:Nat}{Kx:Sl→Prop}(hf:Fl fl sz) (h:Rd fl sz H s l) (hj:j≤l.length) (k:∀ c,Rd fl sz H c (l.take j)→Kx c):s.n≤s.c∧SlX s.a s.c 0 (j:Int) sz Kx:=by
 have hn:=h.len
 have:=h.part hf (lo:=0) (hi:=j) (Nat.zero_le _) (by omega)
 refine ⟨h.le,⟨by omega,by omega,by have:=h.le;omega⟩,k _ ?_⟩
 exact this
theorem kinds1 (l:L8):(ip l && decide (1≤l.length∧l.length≤64)) = !decide (l = []∨kindsB l 64=false):=by
 unfold kindsB
 cases l with
 | nil=>simp
 | cons a r=>
  have:¬ (a::r = []):=by simp
  cases ip (a::r)
  ·simp
  ·by_cases h:r.length≤63
   ·simp [h]
   ·simp [h]
theorem one_mark (m:Mk):∀ v ∈ [Value.int .i64 m.1,.string (str m.2)],v.oneCell=true:=FlM.2 m
section
variable {H:Hp}{K:Value→Hp→Prop}{Z:List PanicEntry→Hp→Prop}{l:L8}
theorem obj_ok {x:ObjD}{t:Sl}(h:Rd flM 2 H t x.marks) (hx:okO x) (ht:Pw H) (k:∀ H',Fr no H H'→K (.int .i64 (objE x)) H'):CallF Tryz.prog 52 #[oA x t] H K Z:=by
 obtain ⟨q1,q2,q3,q4⟩:=hx
 refine V52_ok ?_
 unfold V52
 intro bO A hA
 have sA:=(Sym.start H).newb (cs:=oL x t) hA
 have hn:=h.len
 refine ⟨_,sA.ld (k:=0) rfl 0,readX_ok q1 (TabH.more ht sA.fr) fun B fB=>⟨_,_,_,_,_,_,_,rfl,?_⟩⟩
 intro bN C hC
 have sC:=(sA.more fB).newb (cs:=[.int .i64 0,.string ⟨#[]⟩,.int .i64 0,.string ⟨#[]⟩,.int .i64 0,.int .i64 0]) hC
 refine sC.stbs (k:=0) (i:=0) (vs:=ndV (rres (readN x.name)).1) rfl (by simp [ndV]) (ndV_one _) fun D sD=>?_
 replace sD:Sym H no D [blk bN (ndV (rd x.name).1) 61,blk bO (oL x t) 52]:=sD
 have hE:=k
 unfold objE at hE
 refine ⟨fun E=>Fr no D E∧objE x=if marksB x.kinds.length 0 [] x.marks then 0 else 3,?_,fun h1=>?_,fun h1=>⟨_,sD.ld (k:=0) rfl 0,fun h2=>?_,fun h2=>⟨_,sD.ld (k:=0) rfl 5,fun h3=>?_,fun h3=>⟨_,sD.ld (k:=1) rfl 1,?_⟩⟩⟩⟩
 rotate_left
 ·have kk:=hE D sD.fr
  rw [if_pos (.inl (bne_iff_ne.1 h1))] at kk
  exact kk
 ·have kk:=hE D sD.fr
  rw [if_pos (.inr (.inl (of_decide_eq_true h2)))] at kk
  exact kk
 ·have kk:=hE D sD.fr
  rw [if_pos (.inr (.inr (of_decide_eq_true h3)))] at kk
  exact kk
 ·have n1:¬ ((rd x.name).2≠0∨(rd x.name).1.kind < 5∨(rd x.name).1.cell≥0):=fun h=>h.elim (fun h=>h (bne_eq_false_iff_eq.1 h1)) fun h=>h.elim (of_decide_eq_false h2) (of_decide_eq_false h3)
  rw [str_nil,beq_str]
  refine ⟨fun h4=>?_,fun h4=>⟨_,sD.ld (k:=1) rfl 1,kinds_ok (most:=64) q2 (by decide) fun E fE=>⟨_,rfl,fun hk=>?_,fun hk=>⟨fE,?_⟩⟩⟩⟩
  ·have kk:=hE D sD.fr
   rw [if_neg n1,if_pos (.inl (of_decide_eq_true h4))] at kk
   exact kk
  ·have kk:=hE E (sD.fr.trans fE)
   rw [if_neg n1,if_pos (.inr (by simpa using hk))] at kk
   exact kk
  ·unfold objE
   have hk:kindsB x.kinds 64=true:=by simpa using hk
   rw [if_neg n1,if_neg (by rw [hk];exact fun h=>h.elim (of_decide_eq_false h4) fun h=>by cases h)]
 clear hE
 rintro E ⟨fE,hE⟩ scr
 have sE:=sD.more fE
 refine ⟨t,sE.ld (k:=1) rfl 2,fun last i F m=>∃ j:Nat,i=(j:Int)∧j≤x.marks.length∧m=x.marks.length - j∧Sym H no F [blk bN (ndV (rd x.name).1) 61,blk bO (oL x t) 52]∧marksB x.kinds.length 0 [] x.marks=marksB x.kinds.length last (x.marks.take j) (x.marks.drop j),⟨_,0,rfl,Nat.zero_le _,rfl,sE,rfl⟩,?_⟩
 rintro last i F m ⟨j,rfl,hj,rfl,sF,hm⟩ scr1
 have bad:∀ G,Fr no H G→marksB x.kinds.length 0 [] x.marks=false→K (.int .i64 3) G:=fun G fG hb=>by
  have kk:=k G fG
  rw [hE,hb] at kk
  exact kk
 refine ⟨fun hlt=>?_,fun hge=>?_⟩
 ·have hj':j < x.marks.length:=by have:=dlt hlt;omega
  have hy:x.marks[j]? = some x.marks[j]:=List.getElem?_eq_getElem hj'
  have hym:x.marks[j]∈x.marks:=List.getElem_mem hj'
  have htk:=List.take_succ_eq_append_getElem hj'
  rw [List.drop_eq_getElem_cons hj',marksB_cons] at hm
  generalize x.marks[j]=y at hy hym hm htk
  have hF:=h.more sF.fr
  refine atM hF hy fun ad e1 e2=>⟨_,_,⟨e1,e2,trivial⟩,fun bM G hG=>?_⟩
  have sG:=sF.newb (cs:=[.int .i64 0,.string ⟨#[]⟩]) hG
  refine sG.stbs (k:=0) (i:=0) (vs:=[.int .i64 y.1,.string (str y.2)]) rfl (by simp) (one_mark y) fun I sI=>?_
  replace sI:Sym H no I [blk bM [.int .i64 y.1,.string (str y.2)] 54,blk bN (ndV (rd x.name).1) 61,blk bO (oL x t) 52]:=sI
  refine ⟨_,sI.ld (k:=0) rfl 0,fun h1=>bad _ sI.fr ?_,fun h1=>⟨_,sI.ld (k:=0) rfl 0,_,sI.ld (k:=2) rfl 1,fun h2=>bad _ sI.fr ?_,fun h2=>⟨_,sI.ld (k:=0) rfl 1,tag_ok ⟨_,rfl,fun h3=>bad _ sI.fr ?_,fun h3=>⟨t,sI.ld (k:=2) rfl 2,headK FlM (h.more sI.fr) hj fun c hc=>⟨_,_,⟨sI.ld (k:=0) rfl 0,sI.ld (k:=0) rfl 1,trivial⟩,conM_ok (m:=y) hc (by rw [List.length_take];omega) fun L fL=>⟨_,rfl,fun h4=>bad _ (sI.fr.trans fL) ?_,fun h4=>⟨_,(sI.more fL).ld (k:=0) rfl 0,x.marks.length - (j+1),by omega,j+1,wi (by omega),hj',rfl,(sI.more fL).drop,?_⟩⟩⟩⟩⟩⟩⟩⟩
  ·have:=of_decide_eq_true h1
   rw [hm,decide_eq_false (p:=last≤y.1∧y.1 < x.kinds.length) (by omega)]
   rfl
  ·have:=of_decide_eq_true h2
   rw [str_size] at this
   rw [hm,decide_eq_false (p:=last≤y.1∧y.1 < x.kinds.length) (by omega)]
   rfl
  ·have h3:tagB y.2=false:=by simpa using h3
   rw [hm,h3,Bool.false_and,Bool.and_false]
  ·rw [hm,decide_eq_false (p:=y∉x.marks.take j) (fun h=>h (of_decide_eq_true h4)),Bool.false_and,Bool.and_false,Bool.and_false]
  ·have h3:tagB y.2=true:=by simpa using h3
   have g1:=of_decide_eq_false h1
   have g2:=of_decide_eq_false h2
   rw [str_size] at g2
   rw [hm,h3,decide_eq_true (p:=y∉x.marks.take j) (of_decide_eq_false h4),decide_eq_true (p:=last≤y.1∧y.1 < x.kinds.length) (by omega),htk]
   rfl
 ·have:=dge hge
  have kk:=k _ sF.fr
  rw [hE,hm,List.drop_of_length_le (by omega)] at kk
  exact kk
theorem robj_ok {x:ObjD}{t:Sl}(h:Rd flM 2 H t x.marks) (hx:okO x) (k:∀ H',Fr no H H'→K (.int .i64 (objE x)) H'):CallF Tryz.prog 133 #[oA x t] H K Z:=by
 obtain ⟨q1,q2,q3,q4⟩:=hx
 refine V133_ok ?_
 unfold V133
 intro bO A hA
 have sA:=(Sym.start H).newb (cs:=oL x t) hA
 have hn:=h.len
 refine ⟨_,sA.ld (k:=0) rfl 0,rreadX_ok q1 fun B fB=>⟨_,_,_,_,_,_,_,rfl,?_⟩⟩
 intro bN C hC
 have sC:=(sA.more fB).newb (cs:=[.int .i64 0,.string ⟨#[]⟩,.int .i64 0,.string ⟨#[]⟩,.int .i64 0,.int .i64 0]) hC
 refine sC.stbs (k:=0) (i:=0) (vs:=ndV (rres (readN x.name)).1) rfl (by simp [ndV]) (ndV_one _) fun D sD=>?_
 replace sD:Sym H no D [blk bN (ndV (rd x.name).1) 210,blk bO (oL x t) 52]:=sD
 have hE:=k
 unfold objE at hE
 refine ⟨fun E=>E=D∧¬ ((rd x.name).2≠0∨(rd x.name).1.kind < 5∨(rd x.name).1.cell≥0),?_,fun h1=>?_,fun h1=>⟨_,sD.ld (k:=0) rfl 0,fun h2=>?_,fun h2=>⟨_,sD.ld (k:=0) rfl 5,fun h3=>?_,fun h3=>⟨rfl,fun h=>h.elim (fun h=>h (bne_eq_false_iff_eq.1 h1)) fun h=>h.elim (of_decide_eq_false h2) (of_decide_eq_false h3)⟩⟩⟩⟩
 rotate_left
 ·have kk:=hE D sD.fr
  rw [if_pos (.inl (bne_iff_ne.1 h1))] at kk
  exact kk
 ·have kk:=hE D sD.fr
  rw [if_pos (.inr (.inl (of_decide_eq_true h2)))] at kk
  exact kk
 ·have kk:=hE D sD.fr
  rw [if_pos (.inr (.inr (of_decide_eq_true h3)))] at kk
  exact kk
 rintro E ⟨hED,n1⟩ scr
 rw [← hED] at sD
 refine ⟨_,sD.ld (k:=1) rfl 1,rkinds_ok (least:=1) (most:=64) q2 ⟨_,rfl,?_⟩⟩
 have ek:=kinds1 x.kinds
 rw [ek]
 refine ⟨fun hk=>?_,fun hk=>?_⟩
 ·have kk:=hE E sD.fr
  rw [if_neg n1,if_pos (by simpa using hk)] at kk
  exact kk
 have hE:objE x=if marksB x.kinds.length 0 [] x.marks then 0 else 3:=by
  unfold objE
  rw [if_neg n1,if_neg (by simpa using hk)]
 refine ⟨fun i F m=>∃ (j:Nat) (last:Int),i=(j:Int)∧j≤x.marks.length∧m=x.marks.length - j∧Sym H no F [blk bN (ndV (rd x.name).1) 210,blk bO (oL x t) 52]∧marksB x.kinds.length 0 [] x.marks=marksB x.kinds.length last (x.marks.take j) (x.marks.drop j)∧0≤last∧(j=0→last=0)∧(0 < j→∀ p,x.marks[j - 1]? = some p→p.1=last),⟨_,0,0,rfl,Nat.zero_le _,rfl,sD,rfl,Int.le_refl _,(fun _=>rfl),fun h=>absurd h (by decide)⟩,?_⟩
 rintro i F m ⟨j,last,rfl,hj,rfl,sF,hm,l0,l1,l2⟩ scr1
 have bad:∀ G,Fr no H G→marksB x.kinds.length 0 [] x.marks=false→K (.int .i64 3) G:=fun G fG hb=>by
  have kk:=k G fG
  rw [hE,hb] at kk
  exact kk
 refine ⟨t,sF.ld (k:=1) rfl 2,fun hlt=>?_,fun hge=>?_⟩
 ·have hj':j < x.marks.length:=by have:=dlt hlt;omega
  have hy:x.marks[j]? = some x.marks[j]:=List.getElem?_eq_getElem hj'
  have hym:x.marks[j]∈x.marks:=List.getElem_mem hj'
  have htk:=List.take_succ_eq_append_getElem hj'
  rw [List.drop_eq_getElem_cons hj',marksB_cons] at hm
  generalize x.marks[j]=y at hy hym hm htk
  have hF:=h.more sF.fr
  refine ⟨t,sF.ld (k:=1) rfl 2,atM hF hy fun ad e1 e2=>⟨_,_,⟨e1,e2,trivial⟩,fun bM G hG=>?_⟩⟩
  have sG:=sF.newb (cs:=[.int .i64 0,.string ⟨#[]⟩]) hG
  refine sG.stbs (k:=0) (i:=0) (vs:=[.int .i64 y.1,.string (str y.2)]) rfl (by simp) (one_mark y) fun I sI=>?_
  replace sI:Sym H no I [blk bM [.int .i64 y.1,.string (str y.2)] 54,blk bN (ndV (rd x.name).1) 210,blk bO (oL x t) 52]:=sI
  have tg:tagB y.2=true→1≤y.2.length∧y.2.length≤60:=fun h=>of_decide_eq_true h
  refine ⟨fun L=>L=I∧last≤y.1∧y.1 < x.kinds.length∧tagB y.2=true,?_,_,sI.ld (k:=0) rfl 0,fun h1=>bad _ sI.fr ?_,fun h1=>⟨_,sI.ld (k:=0) rfl 0,_,sI.ld (k:=2) rfl 1,fun h2=>bad _ sI.fr ?_,fun h2=>⟨_,sI.ld (k:=0) rfl 1,fun h3=>bad _ sI.fr ?_,fun h3=>⟨_,sI.ld (k:=0) rfl 1,fun h4=>bad _ sI.fr ?_,fun h4=>⟨fun h5=>⟨_,sI.ld (k:=0) rfl 0,t,sI.ld (k:=2) rfl 2,?_⟩,fun h5=>⟨rfl,?_,?_,?_⟩⟩⟩⟩⟩⟩
  rotate_left
  ·have:=of_decide_eq_true h1
   rw [hm,decide_eq_false (p:=last≤y.1∧y.1 < x.kinds.length) (by omega)]
   rfl
  ·have:=of_decide_eq_true h2
   rw [str_size] at this
   rw [hm,decide_eq_false (p:=last≤y.1∧y.1 < x.kinds.length) (by omega)]
   rfl
  ·have:=of_decide_eq_true h3
   rw [str_size] at this
   have h3:tagB y.2=false:=decide_eq_false (by omega)
   rw [hm,h3,Bool.false_and,Bool.and_false]
  ·have:=of_decide_eq_true h4
   rw [str_size] at this
   have h3:tagB y.2=false:=decide_eq_false (by omega)
   rw [hm,h3,Bool.false_and,Bool.and_false]
  ·have j0:0 < j:=by have:=of_decide_eq_true h5;omega
   rw [wd (by omega) j0]
   have hp:x.marks[j - 1]? = some x.marks[j - 1]:=List.getElem?_eq_getElem (by omega)
   generalize x.marks[j - 1]=p at hp
   have ep:=l2 j0 p hp
   refine atM (h.more sI.fr) hp fun ad2 g1 g2=>⟨_,g1,fun h6=>bad _ sI.fr ?_,fun h6=>⟨rfl,?_,?_,?_⟩⟩
   ·have:=of_decide_eq_true h6
    rw [hm,decide_eq_false (p:=last≤y.1∧y.1 < x.kinds.length) (by omega)]
    rfl
   ·have:=of_decide_eq_false h6;omega
   ·have:=of_decide_eq_false h2;rw [str_size] at this;omega
   ·have a:=of_decide_eq_false h3;have b:=of_decide_eq_false h4;rw [str_size] at a b;exact decide_eq_true (by omega)
  ·have j0:j=0:=by have:=of_decide_eq_false h5;omega
   have:=l1 j0
   have:=of_decide_eq_false h1;omega
  ·have:=of_decide_eq_false h2;rw [str_size] at this;omega
  ·have a:=of_decide_eq_false h3;have b:=of_decide_eq_false h4;rw [str_size] at a b;exact decide_eq_true (by omega)
  rintro L ⟨hLI,m1,m2,m3⟩ scr2
  rw [← hLI] at sI
  refine ⟨fun i L' p=>∃ q:Nat,L'=L∧i=(q:Int)∧q≤j∧p=j - q∧y∉x.marks.take q,⟨_,0,rfl,rfl,Nat.zero_le _,rfl,by simp⟩,?_⟩
  rintro i L' p ⟨q,hL',rfl,hq,rfl,hno⟩ scr3
  rw [hL']
  refine ⟨fun hlt=>?_,fun hge=>?_⟩
  ·have hq':q < j:=dlt hlt
   have hz:x.marks[q]? = some x.marks[q]:=List.getElem?_eq_getElem (by omega)
   generalize x.marks[q]=z at hz
   refine ⟨t,sI.ld (k:=2) rfl 2,atM (h.more sI.fr) hz fun ad2 g1 g2=>⟨_,_,⟨g1,g2,trivial⟩,_,_,⟨sI.ld (k:=0) rfl 0,sI.ld (k:=0) rfl 1,trivial⟩,fun he=>bad _ sI.fr ?_,fun he=>⟨j - (q+1),by omega,q+1,rfl,wi (by omega),hq',rfl,?_⟩⟩⟩
   ·have he:=of_decide_eq_true ((mkEq z y).symm.trans he)
    have hin:y∈x.marks.take j:=by
     rw [← he]
     exact List.mem_of_getElem? (i:=q) (by rw [List.getElem?_take,if_pos hq',hz])
    rw [hm,decide_eq_false (p:=y∉x.marks.take j) (fun h=>h hin),Bool.false_and,Bool.and_false,Bool.and_false]
   ·have he:=of_decide_eq_false ((mkEq z y).symm.trans he)
    exact take_no hz hno (Ne.symm he)
  ·have hqj:q=j:=by have:=dge hge;omega
   rw [hqj] at hno
   refine ⟨x.marks.length - (j+1),by omega,j+1,y.1,wi (by omega),hj',rfl,sI.drop,?_,by omega,(fun h=>absurd h (by omega)),fun _ p hp=>?_⟩
   ·rw [hm,m3,decide_eq_true (p:=y∉x.marks.take j) hno,decide_eq_true (p:=last≤y.1∧y.1 < x.kinds.length) ⟨m1,m2⟩,htk]
    rfl
   ·rw [show j+1 - 1=j from rfl,hy] at hp
    rw [Option.some_inj.1 hp]
 ·have:=dge hge
  have kk:=k _ sF.fr
  rw [hE,hm,List.drop_of_length_le (by omega)] at kk
  exact kk
end
end Go.Proofs.YtjdhjgfmloaglaaGreatDoor.C15
end
section
namespace Go.Proofs.YtjdhjgfmloaglaaGreatDoor.C15
open Go Go.V Go.Proofs N15 P14 C14 P15
attribute [local irreducible] Cvt ExtF CallF hrun App MkS callV
def right1 (c:ConD):Bool:=if c.op=1 then nodeB c.a && placeB c.b else if c.op=6 then decide ((rd c.a).2=0∧(rd c.a).1.kind=3) && nodeB c.b else nodeB c.a && nodeB c.b
def right2 (c:ConD):Bool:=if c.op=6 then callB c else if c.op=5 then decide (c.args = []) && (decide (0≤c.k∧c.k≤64) && tagB c.tag) else decide (c.args = []) && (decide (c.k=0) && decide (c.tag = []))
theorem conE_5 {c:ConD}(h:c.op < 1∨c.op > 6):conE c=5:=by unfold conE;rw [if_pos h]
theorem conE_11 {c:ConD}(h:¬ (c.op < 1∨c.op > 6)) (h1:right1 c=false):conE c=11:=by unfold conE;rw [if_neg h];exact if_pos h1
theorem conE_3 {c:ConD}(h:¬ (c.op < 1∨c.op > 6)) (h1:right1 c=true) (h2:right2 c=false):conE c=3:=by
 unfold conE
 rw [if_neg h]
 refine (if_neg (show ¬ right1 c=false by rw [h1];decide)).trans (if_pos h2)
theorem conE_0 {c:ConD}(h:¬ (c.op < 1∨c.op > 6)) (h1:right1 c=true) (h2:right2 c=true):conE c=0:=by
 unfold conE
 rw [if_neg h]
 refine (if_neg (show ¬ right1 c=false by rw [h1];decide)).trans (if_neg (show ¬ right2 c=false by rw [h2];decide))
theorem nil_len {α : Type}{l:List α}:decide (l = [])=((l.length:Int) == 0):=by
 cases l with
 | nil=>rfl
 | cons a r=>
  have:(((a::r).length:Int) == 0)=false:=by
   rw [beq_eq_false_iff_ne,List.length_cons];omega
  rw [this]
  rfl
section
variable {H:Hp}{K:Value→Hp→Prop}{Z:List PanicEntry→Hp→Prop}{l:L8}
theorem con_ok {x:ConD}{t:Sl}(h:Rd flL 1 H t x.args) (hx:okC x) (ht:Pw H) (k:∀ H',Fr no H H'→K (.int .i64 (conE x)) H'):CallF Tryz.prog 58 #[cA x t] H K Z:=by
 have ⟨q1,q2,q3,q4,q5⟩:=hx
 refine V58_ok ?_
 unfold V58
 intro bC A hA
 have sA:=(Sym.start H).newb (cs:=cL x t) hA
 have hn:=h.len
 have hp:∀ {E},Fr no A E→Pw E:=fun fE=>TabH.more ht (sA.fr.trans fE)
 refine ⟨fun b E=>Fr no A E∧¬ (x.op < 1∨x.op > 6)∧b=right1 x,?_,_,sA.ld (k:=0) rfl 0,fun h1=>⟨_,sA.ld (k:=0) rfl 1,?_⟩,fun h1=>⟨fun b E=>E=A∧x.op≠1∧b=decide (x.op=2∨x.op=3∨x.op=4∨x.op=5),?_,?_⟩⟩
 ·rintro b E ⟨fE,hop,hb⟩ scr
  have sE:=sA.more fE
  refine ⟨fun hr=>?_,fun hr=>?_⟩
  ·have kk:=k E sE.fr
   rw [conE_11 hop (by rw [← hb];simpa using hr)] at kk
   exact kk
  have r1:right1 x=true:=by rw [← hb];simpa using hr
  have bad:∀ G,Fr no E G→right2 x=false→K (.int .i64 3) G:=fun G fG h2=>by
   have kk:=k G (sE.fr.trans fG)
   rw [conE_3 hop r1 h2] at kk
   exact kk
  have good:∀ G,Fr no E G→right2 x=true→K (.int .i64 0) G:=fun G fG h2=>by
   have kk:=k G (sE.fr.trans fG)
   rw [conE_0 hop r1 h2] at kk
   exact kk
  have fin:∀ G,Fr no E G→∀ b:Bool,right2 x=b→(((!b)=true→K (.int .i64 3) G)∧((!b)=false→K (.int .i64 0) G)):=fun G fG b hb=>⟨fun h=>bad G fG (by rw [hb];simpa using h),fun h=>good G fG (by rw [hb];simpa using h)⟩
  refine ⟨_,sE.ld (k:=0) rfl 0,fun h6=>⟨_,_,_,_,_,t,⟨sE.ld (k:=0) rfl 0,sE.ld (k:=0) rfl 1,sE.ld (k:=0) rfl 2,sE.ld (k:=0) rfl 3,sE.ld (k:=0) rfl 4,sE.ld (k:=0) rfl 5,trivial⟩,called_ok (h.more sE.fr) hx (hp fE) fun G fG=>⟨_,rfl,fin G fG _ ?_⟩⟩,fun h6=>⟨fun h5=>⟨t,sE.ld (k:=0) rfl 5,?_⟩,fun h5=>⟨t,sE.ld (k:=0) rfl 5,?_⟩⟩⟩
  ·unfold right2
   rw [if_pos (eqI.1 h6)]
  ·have e2:right2 x=(decide (x.args = []) && (decide (0≤x.k∧x.k≤64) && tagB x.tag)):=by
    unfold right2
    rw [if_neg (neI.1 h6),if_pos (eqI.1 h5)]
   rw [nil_len,← hn] at e2
   refine ⟨fun h7=>⟨_,sE.ld (k:=0) rfl 3,fun h8=>⟨_,sE.ld (k:=0) rfl 3,fun h9=>⟨_,sE.ld (k:=0) rfl 4,tag_ok ⟨_,rfl,fin E (Fr.refl _ _) _ ?_⟩⟩,fun h9=>fin E (Fr.refl _ _) _ ?_⟩,fun h8=>fin E (Fr.refl _ _) _ ?_⟩,fun h7=>fin E (Fr.refl _ _) _ ?_⟩
   ·have:=of_decide_eq_true h8
    rw [e2,h7,decide_eq_true (p:=0≤x.k∧x.k≤64) ⟨by omega,of_decide_eq_true h9⟩]
    rfl
   ·have:=of_decide_eq_false h9
    rw [e2,decide_eq_false (p:=0≤x.k∧x.k≤64) (by omega),Bool.false_and,Bool.and_false]
   ·have:=of_decide_eq_false h8
    rw [e2,decide_eq_false (p:=0≤x.k∧x.k≤64) (by omega),Bool.false_and,Bool.and_false]
   ·rw [e2,h7,Bool.false_and]
  ·have e2:right2 x=(decide (x.args = []) && (decide (x.k=0) && decide (x.tag = []))):=by
    unfold right2
    rw [if_neg (neI.1 h6),if_neg (neI.1 h5)]
   rw [nil_len,← hn] at e2
   refine ⟨fun h7=>⟨_,sE.ld (k:=0) rfl 3,fun h8=>⟨_,sE.ld (k:=0) rfl 4,?_⟩,fun h8=>fin E (Fr.refl _ _) _ ?_⟩,fun h7=>fin E (Fr.refl _ _) _ ?_⟩
   ·rw [str_nil,beq_str]
    have e3:right2 x=decide (x.tag = []):=by
     rw [e2,h7,decide_eq_true (eqI.1 h8)]
     rfl
    rw [← e3]
    exact fin E (Fr.refl _ _) _ rfl
   ·rw [e2,decide_eq_false (p:=x.k=0) (neI.1 h8),Bool.false_and,Bool.and_false]
   ·rw [e2,h7,Bool.false_and]
 ·have h1:=eqI.1 h1
  have er:right1 x=(nodeB x.a && placeB x.b):=if_pos h1
  have hop:¬ (x.op < 1∨x.op > 6):=by omega
  refine node_ok q1 (hp (Fr.refl _ _)) fun B fB=>⟨_,rfl,fun h2=>⟨_,(sA.more fB).ld (k:=0) rfl 2,place_ok q2 (hp fB) fun C fC=>⟨_,rfl,fB.trans fC,hop,?_⟩⟩,fun h2=>⟨fB,hop,?_⟩⟩
  ·rw [er,h2,Bool.true_and]
  ·rw [er,h2,Bool.false_and]
 ·rintro b E ⟨hEA,hne,hb⟩ scr
  rw [hEA]
  refine ⟨fun ht'=>⟨_,sA.ld (k:=0) rfl 1,?_⟩,fun hf'=>⟨fun h6=>⟨_,sA.ld (k:=0) rfl 1,?_⟩,fun h6=>?_⟩⟩
  ·rw [ht'] at hb
   have hop:=of_decide_eq_true hb.symm
   have er:right1 x=(nodeB x.a && nodeB x.b):=by unfold right1;rw [if_neg hne,if_neg (by omega)]
   have hop:¬ (x.op < 1∨x.op > 6):=by omega
   refine node_ok q1 (hp (Fr.refl _ _)) fun B fB=>⟨_,rfl,fun h2=>⟨_,(sA.more fB).ld (k:=0) rfl 2,node_ok q2 (hp fB) fun C fC=>⟨_,rfl,fB.trans fC,hop,?_⟩⟩,fun h2=>⟨fB,hop,?_⟩⟩
   ·rw [er,h2,Bool.true_and]
   ·rw [er,h2,Bool.false_and]
  ·have h6:=eqI.1 h6
   have er:right1 x=(decide ((rd x.a).2=0∧(rd x.a).1.kind=3) && nodeB x.b):=by unfold right1;rw [if_neg hne,if_pos h6]
   have hop:¬ (x.op < 1∨x.op > 6):=by omega
   refine readX_ok q1 (hp (Fr.refl _ _)) fun B fB=>⟨_,_,_,_,_,_,_,rfl,?_⟩
   intro bN C hC
   have sB:=(Sym.start A).more fB
   have sC:=sB.newb (cs:=[.int .i64 0,.string ⟨#[]⟩,.int .i64 0,.string ⟨#[]⟩,.int .i64 0,.int .i64 0]) hC
   refine sC.stbs (k:=0) (i:=0) (vs:=ndV (rres (readN x.a)).1) rfl (by simp [ndV]) (ndV_one _) fun D sD=>?_
   replace sD:Sym A no D [blk bN (ndV (rd x.a).1) 61]:=sD
   have fD:=sD.fr
   refine ⟨fun h2=>⟨_,sD.ld (k:=0) rfl 0,fun h3=>⟨_,(sA.more fD).ld (k:=0) rfl 2,node_ok q2 (hp fD) fun G fG=>⟨_,rfl,fD.trans fG,hop,?_⟩⟩,fun h3=>⟨fD,hop,?_⟩⟩,fun h2=>⟨fD,hop,?_⟩⟩
   ·rw [er,decide_eq_true (p:=(rd x.a).2=0∧(rd x.a).1.kind=3) ⟨eqI.1 h2,eqI.1 h3⟩,Bool.true_and]
   ·rw [er,decide_eq_false (p:=(rd x.a).2=0∧(rd x.a).1.kind=3) (fun h=>neI.1 h3 h.2),Bool.false_and]
   ·rw [er,decide_eq_false (p:=(rd x.a).2=0∧(rd x.a).1.kind=3) (fun h=>neI.1 h2 h.1),Bool.false_and]
  ·rw [hf'] at hb
   have n2:=of_decide_eq_false hb.symm
   have n6:=neI.1 h6
   have kk:=k A sA.fr
   rw [conE_5 (by omega)] at kk
   exact kk
 ·have n1:=neI.1 h1
  refine ⟨fun h2=>⟨rfl,n1,?_⟩,fun h2=>⟨fun h3=>⟨rfl,n1,?_⟩,fun h3=>⟨fun h4=>⟨rfl,n1,?_⟩,fun h4=>⟨rfl,n1,?_⟩⟩⟩⟩
  ·have:=eqI.1 h2
   rw [h2,decide_eq_true (by omega)]
  ·have:=eqI.1 h3
   rw [h3,decide_eq_true (by omega)]
  ·have:=eqI.1 h4
   rw [h4,decide_eq_true (by omega)]
  ·have:=neI.1 h2
   have:=neI.1 h3
   have:=neI.1 h4
   rw [Bool.eq_iff_iff,beq_iff_eq,decide_eq_true_eq]
   omega
theorem rcon_ok {x:ConD}{t:Sl}(h:Rd flL 1 H t x.args) (hx:okC x) (k:∀ H',Fr no H H'→K (.int .i64 (conE x)) H'):CallF Tryz.prog 135 #[cA x t] H K Z:=by
 have ⟨q1,q2,q3,q4,q5⟩:=hx
 refine V135_ok ?_
 unfold V135
 intro bC A hA
 have sA:=(Sym.start H).newb (cs:=cL x t) hA
 have hn:=h.len
 refine ⟨fun E=>E=A∧¬ (x.op < 1∨x.op > 6),?_,_,sA.ld (k:=0) rfl 0,fun h1=>?_,fun h1=>⟨_,sA.ld (k:=0) rfl 0,fun h2=>?_,fun h2=>⟨rfl,fun h=>h.elim (of_decide_eq_false h1) (of_decide_eq_false h2)⟩⟩⟩
 rotate_left
 ·have kk:=k A sA.fr
  rw [conE_5 (.inl (of_decide_eq_true h1))] at kk
  exact kk
 ·have kk:=k A sA.fr
  rw [conE_5 (.inr (of_decide_eq_true h2))] at kk
  exact kk
 rintro E ⟨hEA,hop⟩ scr
 rw [hEA]
 have bad1:∀ G,Fr no A G→right1 x=false→K (.int .i64 11) G:=fun G fG hr=>by
  have kk:=k G (sA.fr.trans fG)
  rw [conE_11 hop hr] at kk
  exact kk
 refine ⟨_,sA.ld (k:=0) rfl 1,rreadX_ok q1 fun B fB=>⟨_,_,_,_,_,_,_,rfl,?_⟩⟩
 intro bN C hC
 have sC:=(((Sym.start A).more fB)).newb (cs:=[.int .i64 0,.string ⟨#[]⟩,.int .i64 0,.string ⟨#[]⟩,.int .i64 0,.int .i64 0]) hC
 refine sC.stbs (k:=0) (i:=0) (vs:=ndV (rres (readN x.a)).1) rfl (by simp [ndV]) (ndV_one _) fun D sD=>?_
 replace sD:Sym A no D [blk bN (ndV (rd x.a).1) 210]:=sD
 refine ⟨fun G=>Fr no A G∧right1 x=true,?_,_,(sA.more sD.fr).ld (k:=0) rfl 1,rnode_ok q1 fun G fG=>⟨_,rfl,fun h1=>bad1 G (sD.fr.trans fG) ?_,fun h1=>?_⟩⟩
 ·rintro G ⟨fG,r1⟩ scr1
  have sG:=sA.more fG
  have bad:∀ L,Fr no G L→right2 x=false→K (.int .i64 3) L:=fun L fL h2=>by
   have kk:=k L (sG.fr.trans fL)
   rw [conE_3 hop r1 h2] at kk
   exact kk
  have good:∀ L,Fr no G L→right2 x=true→K (.int .i64 0) L:=fun L fL h2=>by
   have kk:=k L (sG.fr.trans fL)
   rw [conE_0 hop r1 h2] at kk
   exact kk
  refine ⟨_,sG.ld (k:=0) rfl 0,fun h6=>⟨_,_,_,_,_,t,⟨sG.ld (k:=0) rfl 0,sG.ld (k:=0) rfl 1,sG.ld (k:=0) rfl 2,sG.ld (k:=0) rfl 3,sG.ld (k:=0) rfl 4,sG.ld (k:=0) rfl 5,trivial⟩,rcall_ok (h.more sG.fr) hx fun L fL=>⟨_,rfl,?_⟩⟩,fun h6=>⟨t,sG.ld (k:=0) rfl 5,fun h7=>bad G (Fr.refl _ _) ?_,fun h7=>⟨_,sG.ld (k:=0) rfl 0,fun h5=>?_,fun h5=>?_⟩⟩⟩
  ·have e2:right2 x=callB x:=if_pos (eqI.1 h6)
   cases hc:callB x with
   | true=>exact good L fL (e2.trans hc)
   | false=>exact bad L fL (e2.trans hc)
  ·have hne:x.args ≠ []:=fun e=>by rw [e] at hn;have:=of_decide_eq_true h7;rw [hn] at this;cases this
   unfold right2
   rw [if_neg (neI.1 h6),decide_eq_false hne]
   split <;> rfl
  ·have ha:x.args = []:=List.eq_nil_of_length_eq_zero (by have:=of_decide_eq_false h7;omega)
   have e2:right2 x=(decide (0≤x.k∧x.k≤64) && tagB x.tag):=by
    unfold right2
    rw [if_neg (neI.1 h6),if_pos (eqI.1 h5),decide_eq_true ha,Bool.true_and]
   refine ⟨_,sG.ld (k:=0) rfl 3,fun h8=>bad G (Fr.refl _ _) ?_,fun h8=>⟨_,sG.ld (k:=0) rfl 3,fun h9=>bad G (Fr.refl _ _) ?_,fun h9=>⟨_,sG.ld (k:=0) rfl 4,fun h10=>bad G (Fr.refl _ _) ?_,fun h10=>⟨_,sG.ld (k:=0) rfl 4,fun h11=>bad G (Fr.refl _ _) ?_,fun h11=>good G (Fr.refl _ _) ?_⟩⟩⟩⟩
   ·have:=of_decide_eq_true h8
    rw [e2,decide_eq_false (p:=0≤x.k∧x.k≤64) (by omega),Bool.false_and]
   ·have:=of_decide_eq_true h9
    rw [e2,decide_eq_false (p:=0≤x.k∧x.k≤64) (by omega),Bool.false_and]
   ·have:=of_decide_eq_true h10
    rw [str_size] at this
    have:tagB x.tag=false:=decide_eq_false (by omega)
    rw [e2,this,Bool.and_false]
   ·have:=of_decide_eq_true h11
    rw [str_size] at this
    have:tagB x.tag=false:=decide_eq_false (by omega)
    rw [e2,this,Bool.and_false]
   ·have a1:=of_decide_eq_false h8
    have a2:=of_decide_eq_false h9
    have a3:=of_decide_eq_false h10
    have a4:=of_decide_eq_false h11
    rw [str_size] at a3 a4
    have:tagB x.tag=true:=decide_eq_true (by omega)
    rw [e2,this,decide_eq_true (p:=0≤x.k∧x.k≤64) (by omega)]
    rfl
  ·have ha:x.args = []:=List.eq_nil_of_length_eq_zero (by have:=of_decide_eq_false h7;omega)
   have e2:right2 x=(decide (x.k=0) && decide (x.tag = [])):=by
    unfold right2
    rw [if_neg (neI.1 h6),if_neg (neI.1 h5),decide_eq_true ha,Bool.true_and]
   refine ⟨_,sG.ld (k:=0) rfl 3,fun h8=>bad G (Fr.refl _ _) ?_,fun h8=>⟨_,sG.ld (k:=0) rfl 4,?_⟩⟩
   ·rw [e2,decide_eq_false (p:=x.k=0) (bne_iff_ne.1 h8),Bool.false_and]
   ·rw [str_nil,beq_str]
    rw [decide_eq_true (p:=x.k=0) (bne_eq_false_iff_eq.1 h8),Bool.true_and] at e2
    rw [← e2]
    exact ⟨fun h=>bad G (Fr.refl _ _) (by simpa using h),fun h=>good G (Fr.refl _ _) (by simpa using h)⟩
 ·have h1:nodeB x.a=false:=by simpa using h1
  unfold right1
  rw [h1,Bool.false_and,Bool.false_and]
  have:decide ((rd x.a).2=0∧(rd x.a).1.kind=3)=false:=by
   refine decide_eq_false fun h=>?_
   unfold nodeB at h1
   exact of_decide_eq_false h1 ⟨h.1,.inl (by omega)⟩
  rw [this,Bool.false_and]
  split
  ·rfl
  ·split <;> rfl
 ·have h1:nodeB x.a=true:=by simpa using h1
  have fG':=sD.fr.trans fG
  have sG:=sA.more fG'
  have sN:=sD.more fG
  have last:∀ L,Fr no A L→∀ b:Bool,right1 x=b→((!b)=true→K (.int .i64 11) L)∧((!b)=false→Fr no A L∧right1 x=true):=fun L fL b hb=>⟨fun h=>bad1 L fL (by rw [hb];simpa using h),fun h=>⟨fL,by rw [hb];simpa using h⟩⟩
  refine ⟨_,sG.ld (k:=0) rfl 0,fun h6=>⟨fun h2=>bad1 G fG' ?_,fun h2=>⟨_,sN.ld (k:=0) rfl 0,fun h3=>bad1 G fG' ?_,fun h3=>⟨_,sG.ld (k:=0) rfl 0,fun h4=>?_,fun h4=>⟨_,sG.ld (k:=0) rfl 0,fun h5=>⟨_,sG.ld (k:=0) rfl 2,rnode_ok q2 fun L fL=>⟨_,rfl,last L (fG'.trans fL) _ ?_⟩⟩,fun h5=>?_⟩⟩⟩⟩,fun h6=>⟨_,sG.ld (k:=0) rfl 0,fun h2=>⟨_,sG.ld (k:=0) rfl 2,rplace_ok q2 fun L fL=>⟨_,rfl,fun h3=>bad1 L (fG'.trans fL) ?_,fun h3=>⟨_,(sG.more fL).ld (k:=0) rfl 0,fun h4=>absurd (eqI.1 h2) (bne_iff_ne.1 h4),fun h4=>⟨fG'.trans fL,?_⟩⟩⟩⟩,fun h2=>⟨_,sG.ld (k:=0) rfl 0,fun h3=>⟨_,sG.ld (k:=0) rfl 2,rnode_ok q2 fun L fL=>⟨_,rfl,last L (fG'.trans fL) _ ?_⟩⟩,fun h3=>absurd (bne_eq_false_iff_eq.1 h3) (neI.1 h2)⟩⟩⟩
  ·have h6:=eqI.1 h6
   unfold right1
   rw [if_neg (by omega),if_pos h6,decide_eq_false (p:=(rd x.a).2=0∧(rd x.a).1.kind=3) (fun h=>bne_iff_ne.1 h2 h.1)]
   rfl
  ·have h6:=eqI.1 h6
   unfold right1
   rw [if_neg (by omega),if_pos h6,decide_eq_false (p:=(rd x.a).2=0∧(rd x.a).1.kind=3) (fun h=>bne_iff_ne.1 h3 h.2)]
   rfl
  ·have:=eqI.1 h6
   have:=eqI.1 h4
   omega
  ·have h6:=eqI.1 h6
   unfold right1
   rw [if_neg (by omega),if_pos h6,decide_eq_true (p:=(rd x.a).2=0∧(rd x.a).1.kind=3) ⟨bne_eq_false_iff_eq.1 h2,bne_eq_false_iff_eq.1 h3⟩,Bool.true_and]
  ·have:=eqI.1 h6
   have:=bne_eq_false_iff_eq.1 h5
   omega
  ·have h2:=eqI.1 h2
   unfold right1
   rw [if_pos h2,h1,Bool.true_and]
   simpa using h3
  ·have h2:=eqI.1 h2
   unfold right1
   rw [if_pos h2,h1,Bool.true_and]
   simpa using h3
  ·unfold right1
   rw [if_neg (neI.1 h2),if_neg (neI.1 h6),h1,Bool.true_and]
end
end Go.Proofs.YtjdhjgfmloaglaaGreatDoor.C15
end
section
namespace Go.Proofs.YtjdhjgfmloaglaaGreatDoor.C15
open Go Go.V Go.Proofs N15 P14 C14 P15
attribute [local irreducible] Cvt ExtF CallF hrun App MkS callV
theorem tyInt:TyS Tryz.prog 103 3 1 8 (.int .i64 0):=⟨by kernel_rfl,by kernel_rfl,rfl,by decide⟩
theorem first_cons (x:Int) (l:List Int):firstNZ (x::l)=orI x (firstNZ l):=rfl
theorem orI_0 (x:Int):orI x 0=x:=by unfold orI;split <;> omega
theorem zip_cmp:∀ xs ys:List L8,firstNZ (List.zipWith cmpL xs ys ++ [cmpN (xs.length:Int) (ys.length:Int)])=cmpA xs ys
 | [],[]=>rfl
 | [],b::y=>by
  have:cmpN (([]:List L8).length:Int) ((b::y).length:Int) = -1:=by
   unfold cmpN
   rw [if_pos (by rw [List.length_nil,List.length_cons];omega)]
  rw [this]
  rfl
 | a::x,[]=>by
  have:cmpN ((a::x).length:Int) (([]:List L8).length:Int)=1:=by
   unfold cmpN
   rw [if_neg (by rw [List.length_nil,List.length_cons];omega),if_pos (by rw [List.length_nil,List.length_cons];omega)]
  rw [this]
  rfl
 | a::x,b::y=>by
  rw [List.zipWith_cons_cons,List.cons_append,first_cons,cmpA]
  have ih:=zip_cmp x y
  have:cmpN ((a::x).length:Int) ((b::y).length:Int)=cmpN (x.length:Int) (y.length:Int):=by
   unfold cmpN
   rw [List.length_cons,List.length_cons]
   split <;> split <;> (try rfl) <;> (try split) <;> (try rfl) <;> omega
  rw [this,ih]
  rfl
def base5 (a b:ConD):List Int:=[cmpN a.op b.op,cmpL a.a b.a,cmpL a.b b.b,cmpN a.k b.k,cmpL a.tag b.tag]
theorem cmpC_first (a b:ConD):firstNZ (base5 a b++(List.zipWith cmpL a.args b.args ++ [cmpN (a.args.length:Int) (b.args.length:Int)]))=cmpC a b:=by
 unfold base5 cmpC
 simp only [List.cons_append,List.nil_append,first_cons,zip_cmp]
theorem cmpC_six (a b:ConD):firstNZ [cmpN a.op b.op,cmpL a.a b.a,cmpL a.b b.b,cmpN a.k b.k,cmpL a.tag b.tag,cmpA a.args b.args]=cmpC a b:=by
 unfold cmpC
 simp only [first_cons]
 rw [show firstNZ []=0 from rfl,orI_0]
section
variable {H:Hp}{K:Value→Hp→Prop}{Z:List PanicEntry→Hp→Prop}{l:L8}
theorem cmpC_ok {x y:ConD}{s t:Sl}(h1:Rd flL 1 H s x.args) (h2:Rd flL 1 H t y.args) (hb:x.args.length≤1048576) (k:∀ H',Fr no H H'→K (.int .i64 (cmpC x y)) H') :
  CallF Tryz.prog 59 #[cA x s,cA y t] H K Z:=by
 refine V59_ok ?_
 unfold V59
 intro bA A hA bB B hB
 have sB:=((Sym.start H).newb (cs:=cL x s) hA).newb (cs:=cL y t) hB
 have a:∀ i,hcell B ⟨bA,i,none⟩=_:=fun i=>sB.ld (k:=1) rfl i
 have b:∀ i,hcell B ⟨bB,i,none⟩=_:=fun i=>sB.ld (k:=0) rfl i
 refine ⟨_,a 0,_,b 0,_,a 1,_,b 1,_,a 2,_,b 2,_,a 3,_,b 3,_,a 4,_,b 4,s,a 5,t,b 5,cmpN_ok ⟨_,rfl,b 5,a 5,b 4,a 4,b 3,a 3,b 2,a 2,b 1,a 1,cmpL_ok ⟨_,rfl,b 5,a 5,b 4,a 4,b 3,a 3,b 2,a 2,cmpL_ok ⟨_,rfl,b 5,a 5,b 4,a 4,b 3,a 3,cmpN_ok ⟨_,rfl,b 5,a 5,b 4,a 4,cmpL_ok ⟨_,rfl,b 5,a 5,cmpA_ok (h1.more sB.fr) (h2.more sB.fr) hb ⟨_,rfl,fun bL C hC=>?_⟩⟩⟩⟩⟩⟩⟩
 have sC:=sB.lit (l:=[cmpN x.op y.op,cmpL x.a y.a,cmpL x.b y.b,cmpN x.k y.k,cmpL x.tag y.tag,cmpA x.args y.args]) FlI (by decide) hC (show 6=_ from rfl)
 refine or_ok (s:=⟨some ⟨bL,0,none⟩,6,6⟩) (sC.rd (k:=0) FlI (by decide) rfl) (by simp) ⟨_,rfl,?_⟩
 rw [cmpC_six]
 exact k _ sC.fr
theorem cmp15_ok {x y:ConD}{s t:Sl}(h1:Rd flL 1 H s x.args) (h2:Rd flL 1 H t y.args) (hb:x.args.length≤1048576) (k:∀ H',Fr no H H'→K (.int .i64 (cmpC x y)) H') :
  CallF Tryz.prog 43 #[cA x s,cA y t] H K Z:=by
 refine V43_ok ?_
 unfold V43
 intro bA A hA bB B hB
 have sB:=((Sym.start H).newb (cs:=cL x s) hA).newb (cs:=cL y t) hB
 have a:∀ i,hcell B ⟨bA,i,none⟩=_:=fun i=>sB.ld (k:=1) rfl i
 have b:∀ i,hcell B ⟨bB,i,none⟩=_:=fun i=>sB.ld (k:=0) rfl i
 refine ⟨_,a 0,_,b 0,_,a 1,_,b 1,_,a 2,_,b 2,_,a 3,_,b 3,_,a 4,_,b 4,rcmpN_ok ⟨_,rfl,b 4,a 4,b 3,a 3,b 2,a 2,b 1,a 1,rcmpL_ok ⟨_,rfl,b 4,a 4,b 3,a 3,b 2,a 2,rcmpL_ok ⟨_,rfl,b 4,a 4,b 3,a 3,rcmpN_ok ⟨_,rfl,b 4,a 4,rcmpL_ok ⟨_,rfl,fun bL C hC=>?_⟩⟩⟩⟩⟩⟩
 have sC:=sB.lit (l:=base5 x y) FlI (by decide) hC (show 5=_ from rfl)
 have l1:=h1.len
 have l2:=h2.len
 have hzl:(List.zipWith cmpL x.args y.args).length=min x.args.length y.args.length:=List.length_zipWith
 have hfirst:=cmpC_first x y
 generalize hzs:List.zipWith cmpL x.args y.args=zs at hzl hfirst
 refine ⟨fun l D=>Sym H no D [arr flI 3 1 l (base5 x y++zs),blk bB (cL y t) 36,blk bA (cL x s) 36],?_,?_⟩
 ·rintro l D sD scr
  refine ⟨s,sD.ld (k:=2) rfl 5,t,sD.ld (k:=1) rfl 5,?_⟩
  rw [l1,l2]
  refine rcmpN_ok ⟨_,rfl,fun b1 E hE=>?_⟩
  have hl:=(sD.rd (k:=0) FlI (by decide) rfl).len
  have hl2:(base5 x y++zs).length=5+zs.length:=by rw [List.length_append];rfl
  refine sD.app1 (k:=0) (x:=cmpN (x.args.length:Int) (y.args.length:Int)) tyInt FlI (by decide) hE rfl (by omega) fun ap F hap sF=>?_
  have sF:=sF.re [0] (by decide)
  replace sF:Sym H no F [arr flI 3 1 ap ((base5 x y++zs) ++ [cmpN (x.args.length:Int) (y.args.length:Int)])]:=sF
  rw [List.append_assoc] at sF
  have hr:=sF.rd (k:=0) FlI (by decide) rfl
  have hrl:=hr.len
  have hl3:(base5 x y++(zs ++ [cmpN (x.args.length:Int) (y.args.length:Int)])).length≤2000000:=by
   rw [List.length_append,List.length_append]
   show 5+(zs.length+1)≤_
   omega
  generalize hall:base5 x y++(zs ++ [cmpN (x.args.length:Int) (y.args.length:Int)])=all at hr hrl hfirst hl3
  have kk:=k _ sF.fr
  rw [← hfirst] at kk
  refine ⟨fun i G m=>∃ j:Nat,G=F∧i=(j:Int)∧j≤all.length∧m=all.length - j∧firstNZ all=firstNZ (all.drop j),⟨_,0,rfl,rfl,Nat.zero_le _,rfl,rfl⟩,?_⟩
  rintro i G m ⟨j,hGF,rfl,hj,rfl,he⟩ scr1
  rw [hGF]
  refine ⟨fun hlt=>?_,fun hge=>?_⟩
  ·have hj':j < all.length:=by have:=dlt hlt;omega
   have hx:all[j]? = some all[j]:=List.getElem?_eq_getElem hj'
   have hd:all.drop j=all[j]::all.drop (j+1):=List.drop_eq_getElem_cons hj'
   generalize all[j]=z at hx hd
   rw [hd,firstNZ] at he
   refine hr.ixn FlI hx fun ad e=>⟨_,e,fun hne=>hr.ixn FlI hx fun ad2 e2=>⟨_,e2,?_⟩,fun heq=>?_⟩
   ·have hne':z≠0:=bne_iff_ne.1 hne
    rw [if_pos hne'] at he
    rw [he] at kk
    exact kk
   ·have heq':z=0:=bne_eq_false_iff_eq.1 heq
    rw [if_neg (fun h=>h heq')] at he
    exact ⟨all.length - (j+1),by omega,j+1,rfl,wi (by omega),hj',rfl,he⟩
  ·have hj':all.length≤j:=by have:=dge hge;omega
   rw [List.drop_of_length_le hj'] at he
   rw [he] at kk
   exact kk
 refine ⟨fun l i D m=>∃ j:Nat,i=(j:Int)∧j≤x.args.length∧j≤y.args.length∧m=x.args.length - j∧Sym H no D [arr flI 3 1 l (base5 x y++zs.take j),blk bB (cL y t) 36,blk bA (cL x s) 36],⟨_,0,rfl,Nat.zero_le _,Nat.zero_le _,rfl,?_⟩,?_⟩
 ·rw [List.take_zero,List.append_nil]
  exact sC
 rintro l i D m ⟨j,rfl,hj,hjy,rfl,sD⟩ scr
 refine ⟨s,sD.ld (k:=2) rfl 5,fun hlt=>⟨t,sD.ld (k:=1) rfl 5,fun hlt2=>?_,fun hge=>?_⟩,fun hge=>?_⟩
 ·have hj':j < x.args.length:=by have:=dlt hlt;omega
  have hjy':j < y.args.length:=by have:=dlt hlt2;omega
  have hu:x.args[j]? = some x.args[j]:=List.getElem?_eq_getElem hj'
  have hv:y.args[j]? = some y.args[j]:=List.getElem?_eq_getElem hjy'
  generalize x.args[j]=u at hu
  generalize y.args[j]=v at hv
  have hz:zs[j]? = some (cmpL u v):=by
   rw [← hzs,List.getElem?_zipWith,hu,hv]
  refine ⟨s,sD.ld (k:=2) rfl 5,atL (h1.more sD.fr) hu fun ad e=>⟨_,e,t,sD.ld (k:=1) rfl 5,atL (h2.more sD.fr) hv fun ad2 e2=>⟨_,e2,rcmpL_ok ⟨_,rfl,fun b2 E hE=>?_⟩⟩⟩⟩
  have hl:=(sD.rd (k:=0) FlI (by decide) rfl).len
  have hl2:(base5 x y++zs.take j).length≤5+j:=by rw [List.length_append,List.length_take];show 5+_≤_;omega
  refine sD.app1 (k:=0) (x:=cmpL u v) tyInt FlI (by decide) hE rfl (by omega) fun ap F hap sF=>⟨x.args.length - (j+1),by omega,j+1,wi (by omega),hj',hjy',rfl,?_⟩
  rw [List.take_add_one,hz,← List.append_assoc]
  exact sF
 ·rw [List.take_of_length_le (by have:=dge hge;omega)] at sD
  exact sD
 ·rw [List.take_of_length_le (by have:=dge hge;omega)] at sD
  exact sD
end
end Go.Proofs.YtjdhjgfmloaglaaGreatDoor.C15
end
section
namespace Go.Proofs.YtjdhjgfmloaglaaGreatDoor.C15
open Go Go.V Go.Proofs N15 P14 C14 P15
attribute [local irreducible] Cvt ExtF CallF hrun App MkS callV
def pv {α : Type}(xs:List α) (j:Nat):Option α:=if j=0 then none else xs[j - 1]?
theorem pv_next {α : Type}{xs:List α}{j:Nat}{x : α}(h:xs[j]? = some x):pv xs (j+1)=some x:=by
 unfold pv
 rw [if_neg (by omega),show j+1 - 1=j from rfl,h]
section
variable {α : Type}{ask : α→Int}{cmp : α→α→Int}{p:Option α}{x : α}{l:List α}
theorem each_ask (h:ask x≠0):eachE ask cmp p (x::l)=ask x:=by unfold eachE;exact if_pos h
theorem each_ord {q : α}(h:ask x=0) (h2:cmp q x≥0):eachE ask cmp (some q) (x::l)=13:=by
 unfold eachE
 rw [if_neg (fun h'=>h' h)]
 exact if_pos (decide_eq_true h2)
theorem each_go {q : α}(h:ask x=0) (h2:¬ cmp q x≥0):eachE ask cmp (some q) (x::l)=eachE ask cmp (some x) l:=by
 rw [eachE]
 rw [if_neg (fun h'=>h' h)]
 exact if_neg (fun h3=>h2 (of_decide_eq_true h3))
theorem each_first (h:ask x=0):eachE ask cmp none (x::l)=eachE ask cmp (some x) l:=by
 rw [eachE]
 rw [if_neg (fun h'=>h' h)]
 exact if_neg (by decide)
theorem each_nil:eachE ask cmp p ([]:List α)=0:=by unfold eachE;rfl
end
theorem cmpL_ge {a b:L8}:cmpL a b≥0↔ltL a b=false:=by
 unfold cmpL
 cases ltL a b
 ·simp only [Bool.false_eq_true,if_false]
  split <;> simp
 ·simp
def bigB (s:SysD):Prop:=s.objs.length > 600∨s.fns.length > 600∨s.cons.length > 6000
theorem check_4 {s:SysD}(h:bigB s):checkE s=4:=if_pos h
theorem check_1 {s:SysD}(h:¬ bigB s) (h1:eachE objE cmpO none s.objs≠0):checkE s=eachE objE cmpO none s.objs:=(if_neg h).trans (if_pos h1)
theorem check_2 {s:SysD}(h:¬ bigB s) (h1:eachE objE cmpO none s.objs=0) (h2:eachE fnE cmpF none s.fns≠0):checkE s=eachE fnE cmpF none s.fns:=(if_neg h).trans ((if_neg fun h'=>h' h1).trans (if_pos h2))
theorem check_3 {s:SysD}(h:¬ bigB s) (h1:eachE objE cmpO none s.objs=0) (h2:eachE fnE cmpF none s.fns=0):checkE s=eachE conE cmpC none s.cons:=(if_neg h).trans ((if_neg fun h'=>h' h1).trans (if_neg fun h'=>h' h2))
section
variable {H:Hp}{K:Value→Hp→Prop}{Z:List PanicEntry→Hp→Prop}{l:L8}
theorem eachO_ok {s:Sl}{xs:List ObjD}{ask compare:Value}{askE:ObjD→Int}{cmpE:ObjD→ObjD→Int}(h:RdO H s xs) (hb:xs.length≤1048576)
  (ha:∀ {x:ObjD}{u:Sl}{A:Hp}{K':Value→Hp→Prop},x∈xs→Fr no H A→Rd flM 2 A u x.marks→(∀ B,Fr no A B→K' (.int .i64 (askE x)) B)→callV Tryz.prog ask [oA x u] A K' Z)
  (hc:∀ {x y:ObjD}{u v:Sl}{A:Hp}{K':Value→Hp→Prop},x∈xs→y∈xs→Fr no H A→Rd flM 2 A u x.marks→Rd flM 2 A v y.marks→(∀ B,Fr no A B→K' (.int .i64 (cmpE x y)) B)→callV Tryz.prog compare [oA x u,oA y v] A K' Z)
  (k:∀ H',Fr no H H'→K (.int .i64 (eachE askE cmpE none xs)) H'):CallF Tryz.prog 51 #[.slice s.a s.n s.c,ask,compare] H K Z:=by
 refine V51_ok ?_
 unfold V51
 have hn:=RdX.len h
 refine ⟨fun i A m=>∃ j:Nat,Fr no H A∧i=(j:Int)∧j≤xs.length∧m=xs.length - j∧eachE askE cmpE none xs=eachE askE cmpE (pv xs j) (xs.drop j),⟨_,0,Fr.refl _ _,rfl,Nat.zero_le _,rfl,rfl⟩,?_⟩
 rintro i A m ⟨j,fA,rfl,hj,rfl,he⟩ scr
 refine ⟨fun hlt=>?_,fun hge=>?_⟩
 ·have hj':j < xs.length:=by have:=dlt hlt;omega
  have hx:xs[j]? = some xs[j]:=List.getElem?_eq_getElem hj'
  have hxm:xs[j]∈xs:=List.getElem_mem hj'
  rw [List.drop_eq_getElem_cons hj'] at he
  generalize xs[j]=x at hx hxm he
  obtain ⟨t,ht,ix⟩:=atO (h.more fA) hx
  refine ix fun ad e0 e1 e2=>⟨_,_,t,⟨e0,e1,e2,trivial⟩,fun bX B hB=>?_⟩
  have sB:=(Sym.start A).newb (cs:=[.string ⟨#[]⟩,.string ⟨#[]⟩,.slice none 0 0]) hB
  refine sB.stbs (k:=0) (i:=0) (vs:=oL x t) rfl (by simp) (FlHO.2 (HO.of x t)) fun C sC=>?_
  replace sC:Sym A no C [blk bX (oL x t) 52]:=sC
  have fC:Fr no H C:=fA.trans sC.fr
  refine ⟨_,_,t,⟨sC.ld (k:=0) rfl 0,sC.ld (k:=0) rfl 1,sC.ld (k:=0) rfl 2,trivial⟩,ha hxm fC (ht.more sC.fr) fun D fD=>⟨_,rfl,fun hne=>?_,fun heq=>?_⟩⟩
  ·have kk:=k D (fC.trans fD)
   rw [he,each_ask (bne_iff_ne.1 hne)] at kk
   exact kk
  have h0:askE x=0:=bne_eq_false_iff_eq.1 heq
  have fD':Fr no H D:=fC.trans fD
  have sD:=sC.more fD
  refine ⟨fun hi=>?_,fun hi=>?_⟩
  ·have hj0:0 < j:=by have:=of_decide_eq_true hi;omega
   have hp:xs[j - 1]? = some xs[j - 1]:=List.getElem?_eq_getElem (by omega)
   have hpm:xs[j - 1]∈xs:=List.getElem_mem (by omega)
   generalize xs[j - 1]=p at hp hpm
   rw [show pv xs j=some p from (if_neg (by omega)).trans hp] at he
   rw [wd (by omega) hj0]
   obtain ⟨t2,ht2,ix2⟩:=atO (h.more fD') hp
   refine ix2 fun ad2 g0 g1 g2=>⟨_,_,t2,⟨g0,g1,g2,trivial⟩,_,_,t,⟨sD.ld (k:=0) rfl 0,sD.ld (k:=0) rfl 1,sD.ld (k:=0) rfl 2,trivial⟩,hc hpm hxm fD' ht2 (ht.more sD.fr) fun E fE=>⟨_,rfl,fun hge2=>?_,fun hlt2=>⟨xs.length - (j+1),by omega,j+1,fD'.trans fE,wi (by omega),hj',rfl,?_⟩⟩⟩
   ·have kk:=k E (fD'.trans fE)
    rw [he,each_ord h0 (of_decide_eq_true hge2)] at kk
    exact kk
   ·rw [he,each_go h0 (of_decide_eq_false hlt2),pv_next hx]
  ·have hj0:j=0:=by have:=of_decide_eq_false hi;omega
   rw [show pv xs j=none from if_pos hj0] at he
   exact ⟨xs.length - (j+1),by omega,j+1,fD',wi (by omega),hj',rfl,by rw [he,each_first h0,pv_next hx]⟩
 ·have kk:=k A fA
  rw [he,List.drop_of_length_le (by have:=dge hge;omega),each_nil] at kk
  exact kk
theorem eachF_ok {s:Sl}{xs:List FnD}{ask compare:Value}{askE:FnD→Int}{cmpE:FnD→FnD→Int}(h:Rd flF 3 H s xs) (hb:xs.length≤1048576)
  (ha:∀ {x:FnD}{A:Hp}{K':Value→Hp→Prop},x∈xs→Fr no H A→(∀ B,Fr no A B→K' (.int .i64 (askE x)) B)→callV Tryz.prog ask [fA x] A K' Z)
  (hc:∀ {x y:FnD}{A:Hp}{K':Value→Hp→Prop},x∈xs→y∈xs→Fr no H A→(∀ B,Fr no A B→K' (.int .i64 (cmpE x y)) B)→callV Tryz.prog compare [fA x,fA y] A K' Z)
  (k:∀ H',Fr no H H'→K (.int .i64 (eachE askE cmpE none xs)) H'):CallF Tryz.prog 54 #[.slice s.a s.n s.c,ask,compare] H K Z:=by
 refine V54_ok ?_
 unfold V54
 have hn:=h.len
 refine ⟨fun i A m=>∃ j:Nat,Fr no H A∧i=(j:Int)∧j≤xs.length∧m=xs.length - j∧eachE askE cmpE none xs=eachE askE cmpE (pv xs j) (xs.drop j),⟨_,0,Fr.refl _ _,rfl,Nat.zero_le _,rfl,rfl⟩,?_⟩
 rintro i A m ⟨j,fA,rfl,hj,rfl,he⟩ scr
 refine ⟨fun hlt=>?_,fun hge=>?_⟩
 ·have hj':j < xs.length:=by have:=dlt hlt;omega
  have hx:xs[j]? = some xs[j]:=List.getElem?_eq_getElem hj'
  have hxm:xs[j]∈xs:=List.getElem_mem hj'
  rw [List.drop_eq_getElem_cons hj'] at he
  generalize xs[j]=x at hx hxm he
  have ht:True:=trivial
  refine atF (h.more fA) hx fun ad e0 e1 e2=>⟨_,_,_,⟨e0,e1,e2,trivial⟩,fun bX B hB=>?_⟩
  have sB:=(Sym.start A).newb (cs:=[.string ⟨#[]⟩,.string ⟨#[]⟩,.string ⟨#[]⟩]) hB
  refine sB.stbs (k:=0) (i:=0) (vs:=fL x) rfl (by simp) (FlF.2 x) fun C sC=>?_
  replace sC:Sym A no C [blk bX (fL x) 56]:=sC
  have fC:Fr no H C:=fA.trans sC.fr
  refine ⟨_,_,_,⟨sC.ld (k:=0) rfl 0,sC.ld (k:=0) rfl 1,sC.ld (k:=0) rfl 2,trivial⟩,ha hxm fC fun D fD=>⟨_,rfl,fun hne=>?_,fun heq=>?_⟩⟩
  ·have kk:=k D (fC.trans fD)
   rw [he,each_ask (bne_iff_ne.1 hne)] at kk
   exact kk
  have h0:askE x=0:=bne_eq_false_iff_eq.1 heq
  have fD':Fr no H D:=fC.trans fD
  have sD:=sC.more fD
  refine ⟨fun hi=>?_,fun hi=>?_⟩
  ·have hj0:0 < j:=by have:=of_decide_eq_true hi;omega
   have hp:xs[j - 1]? = some xs[j - 1]:=List.getElem?_eq_getElem (by omega)
   have hpm:xs[j - 1]∈xs:=List.getElem_mem (by omega)
   generalize xs[j - 1]=p at hp hpm
   rw [show pv xs j=some p from (if_neg (by omega)).trans hp] at he
   rw [wd (by omega) hj0]
   have ht2:True:=trivial
   refine atF (h.more fD') hp fun ad2 g0 g1 g2=>⟨_,_,_,⟨g0,g1,g2,trivial⟩,_,_,_,⟨sD.ld (k:=0) rfl 0,sD.ld (k:=0) rfl 1,sD.ld (k:=0) rfl 2,trivial⟩,hc hpm hxm fD' fun E fE=>⟨_,rfl,fun hge2=>?_,fun hlt2=>⟨xs.length - (j+1),by omega,j+1,fD'.trans fE,wi (by omega),hj',rfl,?_⟩⟩⟩
   ·have kk:=k E (fD'.trans fE)
    rw [he,each_ord h0 (of_decide_eq_true hge2)] at kk
    exact kk
   ·rw [he,each_go h0 (of_decide_eq_false hlt2),pv_next hx]
  ·have hj0:j=0:=by have:=of_decide_eq_false hi;omega
   rw [show pv xs j=none from if_pos hj0] at he
   exact ⟨xs.length - (j+1),by omega,j+1,fD',wi (by omega),hj',rfl,by rw [he,each_first h0,pv_next hx]⟩
 ·have kk:=k A fA
  rw [he,List.drop_of_length_le (by have:=dge hge;omega),each_nil] at kk
  exact kk
theorem eachC_ok {s:Sl}{xs:List ConD}{ask compare:Value}{askE:ConD→Int}{cmpE:ConD→ConD→Int}(h:RdC H s xs) (hb:xs.length≤1048576)
  (ha:∀ {x:ConD}{u:Sl}{A:Hp}{K':Value→Hp→Prop},x∈xs→Fr no H A→Rd flL 1 A u x.args→(∀ B,Fr no A B→K' (.int .i64 (askE x)) B)→callV Tryz.prog ask [cA x u] A K' Z)
  (hc:∀ {x y:ConD}{u v:Sl}{A:Hp}{K':Value→Hp→Prop},x∈xs→y∈xs→Fr no H A→Rd flL 1 A u x.args→Rd flL 1 A v y.args→(∀ B,Fr no A B→K' (.int .i64 (cmpE x y)) B)→callV Tryz.prog compare [cA x u,cA y v] A K' Z)
  (k:∀ H',Fr no H H'→K (.int .i64 (eachE askE cmpE none xs)) H'):CallF Tryz.prog 57 #[.slice s.a s.n s.c,ask,compare] H K Z:=by
 refine V57_ok ?_
 unfold V57
 have hn:=RdX.len h
 refine ⟨fun i A m=>∃ j:Nat,Fr no H A∧i=(j:Int)∧j≤xs.length∧m=xs.length - j∧eachE askE cmpE none xs=eachE askE cmpE (pv xs j) (xs.drop j),⟨_,0,Fr.refl _ _,rfl,Nat.zero_le _,rfl,rfl⟩,?_⟩
 rintro i A m ⟨j,fA,rfl,hj,rfl,he⟩ scr
 refine ⟨fun hlt=>?_,fun hge=>?_⟩
 ·have hj':j < xs.length:=by have:=dlt hlt;omega
  have hx:xs[j]? = some xs[j]:=List.getElem?_eq_getElem hj'
  have hxm:xs[j]∈xs:=List.getElem_mem hj'
  rw [List.drop_eq_getElem_cons hj'] at he
  generalize xs[j]=x at hx hxm he
  obtain ⟨t,ht,ix⟩:=atC (h.more fA) hx
  refine ix fun ad e0 e1 e2 e3 e4 e5=>⟨_,_,_,_,_,t,⟨e0,e1,e2,e3,e4,e5,trivial⟩,fun bX B hB=>?_⟩
  have sB:=(Sym.start A).newb (cs:=[.int .i64 0,.string ⟨#[]⟩,.string ⟨#[]⟩,.int .i64 0,.string ⟨#[]⟩,.slice none 0 0]) hB
  refine sB.stbs (k:=0) (i:=0) (vs:=cL x t) rfl (by simp) (FlHC.2 (HC.of x t)) fun C sC=>?_
  replace sC:Sym A no C [blk bX (cL x t) 36]:=sC
  have fC:Fr no H C:=fA.trans sC.fr
  refine ⟨_,_,_,_,_,t,⟨sC.ld (k:=0) rfl 0,sC.ld (k:=0) rfl 1,sC.ld (k:=0) rfl 2,sC.ld (k:=0) rfl 3,sC.ld (k:=0) rfl 4,sC.ld (k:=0) rfl 5,trivial⟩,ha hxm fC (ht.more sC.fr) fun D fD=>⟨_,rfl,fun hne=>?_,fun heq=>?_⟩⟩
  ·have kk:=k D (fC.trans fD)
   rw [he,each_ask (bne_iff_ne.1 hne)] at kk
   exact kk
  have h0:askE x=0:=bne_eq_false_iff_eq.1 heq
  have fD':Fr no H D:=fC.trans fD
  have sD:=sC.more fD
  refine ⟨fun hi=>?_,fun hi=>?_⟩
  ·have hj0:0 < j:=by have:=of_decide_eq_true hi;omega
   have hp:xs[j - 1]? = some xs[j - 1]:=List.getElem?_eq_getElem (by omega)
   have hpm:xs[j - 1]∈xs:=List.getElem_mem (by omega)
   generalize xs[j - 1]=p at hp hpm
   rw [show pv xs j=some p from (if_neg (by omega)).trans hp] at he
   rw [wd (by omega) hj0]
   obtain ⟨t2,ht2,ix2⟩:=atC (h.more fD') hp
   refine ix2 fun ad2 g0 g1 g2 g3 g4 g5=>⟨_,_,_,_,_,t2,⟨g0,g1,g2,g3,g4,g5,trivial⟩,_,_,_,_,_,t,⟨sD.ld (k:=0) rfl 0,sD.ld (k:=0) rfl 1,sD.ld (k:=0) rfl 2,sD.ld (k:=0) rfl 3,sD.ld (k:=0) rfl 4,sD.ld (k:=0) rfl 5,trivial⟩,hc hpm hxm fD' ht2 (ht.more sD.fr) fun E fE=>⟨_,rfl,fun hge2=>?_,fun hlt2=>⟨xs.length - (j+1),by omega,j+1,fD'.trans fE,wi (by omega),hj',rfl,?_⟩⟩⟩
   ·have kk:=k E (fD'.trans fE)
    rw [he,each_ord h0 (of_decide_eq_true hge2)] at kk
    exact kk
   ·rw [he,each_go h0 (of_decide_eq_false hlt2),pv_next hx]
  ·have hj0:j=0:=by have:=of_decide_eq_false hi;omega
   rw [show pv xs j=none from if_pos hj0] at he
   exact ⟨xs.length - (j+1),by omega,j+1,fD',wi (by omega),hj',rfl,by rw [he,each_first h0,pv_next hx]⟩
 ·have kk:=k A fA
  rw [he,List.drop_of_length_le (by have:=dge hge;omega),each_nil] at kk
  exact kk
theorem call_fn {f:Nat}{args:List Value}(hf:fnOk Tryz.prog f=true) (h:CallF Tryz.prog f args.toArray H K Z):callV Tryz.prog (.func (.func f) #[] #[]) args H K Z:=by
 unfold callV
 have e:((#[]:Array Value).toList++args++(#[]:Array Value).toList).toArray=args.toArray:=by simp
 simp only [hf,if_true]
 rw [e]
 exact h
theorem ok22:fnOk Tryz.prog 52=true:=by kernel_rfl
theorem ok23:fnOk Tryz.prog 53=true:=by kernel_rfl
theorem ok25:fnOk Tryz.prog 55=true:=by kernel_rfl
theorem ok26:fnOk Tryz.prog 56=true:=by kernel_rfl
theorem ok28:fnOk Tryz.prog 58=true:=by kernel_rfl
theorem ok19:fnOk Tryz.prog 59=true:=by kernel_rfl
theorem check_ok {s1 s2 s3:Sl}{x:SysD}(h:RdSys H s1 s2 s3 x) (hx:OkSys x) (ht:Pw H) (k:∀ H',Fr no H H'→K (.int .i64 (checkE x)) H'):CallF Tryz.prog 18 #[.agg #[.slice s1.a s1.n s1.c,.slice s2.a s2.n s2.c,.slice s3.a s3.n s3.c]] H K Z:=by
 refine V18_ok ?_
 unfold V18
 intro bS A hA
 have sA:=(Sym.start H).newb (cs:=[.slice s1.a s1.n s1.c,.slice s2.a s2.n s2.c,.slice s3.a s3.n s3.c]) hA
 have l1:=h.o.len
 have l2:=h.f.len
 have l3:=h.c.len
 have big:bigB x→K (.int .i64 4) A:=fun hb=>by
  have kk:=k A sA.fr
  rw [check_4 hb] at kk
  exact kk
 refine ⟨s1,sA.ld (k:=0) rfl 0,fun g1=>big (.inl (by have:=of_decide_eq_true g1;omega)),fun g1=>⟨s2,sA.ld (k:=0) rfl 1,fun g2=>big (.inr (.inl (by have:=of_decide_eq_true g2;omega))),fun g2=>⟨s3,sA.ld (k:=0) rfl 2,fun g3=>big (.inr (.inr (by have:=of_decide_eq_true g3;omega))),fun g3=>⟨s1,sA.ld (k:=0) rfl 0,?_⟩⟩⟩⟩
 have hbig:¬ bigB x:=by
  have:=of_decide_eq_false g1
  have:=of_decide_eq_false g2
  have:=of_decide_eq_false g3
  unfold bigB
  omega
 refine eachO_ok (askE:=objE) (cmpE:=cmpO) (h.o.more sA.fr) hx.o.1 (fun hm fB hr kk=>call_fn ok22 (obj_ok hr (hx.o.2 _ hm) (TabH.more ht (sA.fr.trans fB)) kk)) (fun _ _ _ _ _ kk=>call_fn ok23 (byObj_ok kk)) fun B fB=>⟨_,rfl,fun hne=>?_,fun heq=>⟨s2,(sA.more fB).ld (k:=0) rfl 1,?_⟩⟩
 ·have kk:=k B (sA.fr.trans fB)
  rw [check_1 hbig (bne_iff_ne.1 hne)] at kk
  exact kk
 have e1:=bne_eq_false_iff_eq.1 heq
 have fB':=sA.fr.trans fB
 refine eachF_ok (askE:=fnE) (cmpE:=cmpF) (h.f.more fB') hx.f.1 (fun hm fC kk=>call_fn ok25 (fnF_ok (hx.f.2 _ hm) (TabH.more ht (fB'.trans fC)) kk)) (fun _ _ _ kk=>call_fn ok26 (byFn_ok kk)) fun C fC=>⟨_,rfl,fun hne=>?_,fun heq=>⟨s3,(sA.more (fB.trans fC)).ld (k:=0) rfl 2,?_⟩⟩
 ·have kk:=k C (fB'.trans fC)
  rw [check_2 hbig e1 (bne_iff_ne.1 hne)] at kk
  exact kk
 have e2:=bne_eq_false_iff_eq.1 heq
 have fC':=fB'.trans fC
 refine eachC_ok (askE:=conE) (cmpE:=cmpC) (h.c.more fC') hx.c.1 (fun hm fD hr kk=>call_fn ok28 (con_ok hr (hx.c.2 _ hm) (TabH.more ht (fC'.trans fD)) kk)) (fun hm _ _ hr hr2 kk=>call_fn ok19 (cmpC_ok hr hr2 (hx.c.2 _ hm).2.2.2.1 kk)) fun D fD=>⟨_,rfl,?_⟩
 have kk:=k D (fC'.trans fD)
 rw [check_3 hbig e1 e2] at kk
 exact kk
end
end Go.Proofs.YtjdhjgfmloaglaaGreatDoor.C15
end
section
namespace Go.Proofs.YtjdhjgfmloaglaaGreatDoor.C15
open Go Go.V Go.Proofs N15 P14 C14 P15
attribute [local irreducible] Cvt ExtF CallF hrun App MkS callV
section
variable {H:Hp}{K:Value→Hp→Prop}{Z:List PanicEntry→Hp→Prop}{l:L8}
theorem rcheck_ok {s1 s2 s3:Sl}{x:SysD}(h:RdSys H s1 s2 s3 x) (hx:OkSys x) (k:∀ H',Fr no H H'→K (.int .i64 (checkE x)) H'):CallF Tryz.prog 88 #[.agg #[.slice s1.a s1.n s1.c,.slice s2.a s2.n s2.c,.slice s3.a s3.n s3.c]] H K Z:=by
 refine V88_ok ?_
 unfold V88
 intro bS A hA
 have sA:=(Sym.start H).newb (cs:=[.slice s1.a s1.n s1.c,.slice s2.a s2.n s2.c,.slice s3.a s3.n s3.c]) hA
 have l1:=h.o.len
 have l2:=h.f.len
 have l3:=h.c.len
 have z1:=hx.o.1
 have z2:=hx.f.1
 have z3:=hx.c.1
 have big:bigB x→K (.int .i64 4) A:=fun hb=>by
  have kk:=k A sA.fr
  rw [check_4 hb] at kk
  exact kk
 refine ⟨fun B=>B=A∧¬ bigB x,?_,s1,sA.ld (k:=0) rfl 0,fun g1=>big (.inl (by have:=of_decide_eq_true g1;omega)),fun g1=>⟨s2,sA.ld (k:=0) rfl 1,fun g2=>big (.inr (.inl (by have:=of_decide_eq_true g2;omega))),fun g2=>⟨s3,sA.ld (k:=0) rfl 2,fun g3=>big (.inr (.inr (by have:=of_decide_eq_true g3;omega))),fun g3=>⟨rfl,?_⟩⟩⟩⟩
 rotate_left
 ·have:=of_decide_eq_false g1
  have:=of_decide_eq_false g2
  have:=of_decide_eq_false g3
  unfold bigB
  omega
 rintro B ⟨hBA,hbig⟩ scr
 rw [← hBA] at sA
 refine ⟨fun i C m=>∃ j:Nat,Sym H no C [blk bS [.slice s1.a s1.n s1.c,.slice s2.a s2.n s2.c,.slice s3.a s3.n s3.c] 26]∧i=(j:Int)∧j≤x.objs.length∧m=x.objs.length - j∧eachE objE cmpO none x.objs=eachE objE cmpO (pv x.objs j) (x.objs.drop j),⟨_,0,sA,rfl,Nat.zero_le _,rfl,rfl⟩,?_⟩
 clear sA
 rintro i C m ⟨j,sA,rfl,hj,rfl,he⟩ scr0
 have fA:Fr no H C:=sA.fr
 refine ⟨s1,sA.ld (k:=0) rfl 0,fun hlt=>?_,fun hge=>?_⟩
 ·have hj':j < x.objs.length:=by have:=dlt hlt;omega
  have hy:x.objs[j]? = some x.objs[j]:=List.getElem?_eq_getElem hj'
  have hym:x.objs[j]∈x.objs:=List.getElem_mem hj'
  rw [List.drop_eq_getElem_cons hj'] at he
  generalize x.objs[j]=y at hy hym he
  obtain ⟨t,ht,ix⟩:=atO (h.o.more fA) hy
  refine ⟨s1,sA.ld (k:=0) rfl 0,ix fun ad e0 e1 e2=>⟨_,_,t,⟨e0,e1,e2,trivial⟩,robj_ok ht (hx.o.2 _ hym) fun D fD=>⟨_,rfl,fun hne=>?_,fun heq=>?_⟩⟩⟩
  ·have kk:=k D (fA.trans fD)
   rw [check_1 hbig (by rw [he,each_ask (bne_iff_ne.1 hne)];exact bne_iff_ne.1 hne),he,each_ask (bne_iff_ne.1 hne)] at kk
   exact kk
  have h0:objE y=0:=bne_eq_false_iff_eq.1 heq
  have sD:=sA.more fD
  have fD':Fr no H D:=sD.fr
  refine ⟨fun hi=>?_,fun hi=>?_⟩
  ·have hj0:0 < j:=by have:=of_decide_eq_true hi;omega
   have hp:x.objs[j - 1]? = some x.objs[j - 1]:=List.getElem?_eq_getElem (by omega)
   have hpm:x.objs[j - 1]∈x.objs:=List.getElem_mem (by omega)
   generalize x.objs[j - 1]=p at hp hpm
   rw [show pv x.objs j=some p from (if_neg (by omega)).trans hp] at he
   rw [wd (by omega) hj0]
   obtain ⟨t2,ht2,ix2⟩:=atO (h.o.more fD') hp
   obtain ⟨t,ht,ix⟩:=atO (h.o.more fD') hy
   refine ⟨s1,sD.ld (k:=0) rfl 0,ix2 fun ad2 g0 g1 g2=>⟨_,g0,s1,sD.ld (k:=0) rfl 0,ix fun ad3 f0 f1 f2=>⟨_,f0,?_⟩⟩⟩
   rw [lt_strL]
   have hcg:cmpO p y≥0↔ltL p.name y.name=false:=cmpL_ge
   refine ⟨fun hge2=>?_,fun hlt2=>⟨x.objs.length - (j+1),by omega,j+1,sD,wi (by omega),hj',rfl,?_⟩⟩
   ·have hc:=hcg.2 (by simpa using hge2)
    have kk:=k D fD'
    rw [check_1 hbig (by rw [he,each_ord h0 hc];decide),he,each_ord h0 hc] at kk
    exact kk
   ·have hc:¬ cmpO p y≥0:=fun h'=>by rw [hcg.1 h'] at hlt2;cases hlt2
    rw [he,each_go h0 hc,pv_next hy]
  ·have hj0:j=0:=by have:=of_decide_eq_false hi;omega
   rw [show pv x.objs j=none from if_pos hj0] at he
   exact ⟨x.objs.length - (j+1),by omega,j+1,sD,wi (by omega),hj',rfl,by rw [he,each_first h0,pv_next hy]⟩
 rw [List.drop_of_length_le (by have:=dge hge;omega),each_nil] at he
 have o0:=he
 clear he hj hge
 refine ⟨fun i C m=>∃ j:Nat,Sym H no C [blk bS [.slice s1.a s1.n s1.c,.slice s2.a s2.n s2.c,.slice s3.a s3.n s3.c] 26]∧i=(j:Int)∧j≤x.fns.length∧m=x.fns.length - j∧eachE fnE cmpF none x.fns=eachE fnE cmpF (pv x.fns j) (x.fns.drop j),⟨_,0,sA,rfl,Nat.zero_le _,rfl,rfl⟩,?_⟩
 clear sA
 rintro i C m ⟨j,sA,rfl,hj,rfl,he⟩ scr1
 have fA:Fr no H C:=sA.fr
 refine ⟨s2,sA.ld (k:=0) rfl 1,fun hlt=>?_,fun hge=>?_⟩
 ·have hj':j < x.fns.length:=by have:=dlt hlt;omega
  have hy:x.fns[j]? = some x.fns[j]:=List.getElem?_eq_getElem hj'
  have hym:x.fns[j]∈x.fns:=List.getElem_mem hj'
  rw [List.drop_eq_getElem_cons hj'] at he
  generalize x.fns[j]=y at hy hym he
  have _ht:True:=trivial
  refine ⟨s2,sA.ld (k:=0) rfl 1,atF (h.f.more fA) hy fun ad e0 e1 e2=>⟨_,_,_,⟨e0,e1,e2,trivial⟩,rfn_ok (hx.f.2 _ hym) fun D fD=>⟨_,rfl,fun hne=>?_,fun heq=>?_⟩⟩⟩
  ·have kk:=k D (fA.trans fD)
   rw [check_2 hbig o0 (by rw [he,each_ask (bne_iff_ne.1 hne)];exact bne_iff_ne.1 hne),he,each_ask (bne_iff_ne.1 hne)] at kk
   exact kk
  have h0:fnE y=0:=bne_eq_false_iff_eq.1 heq
  have sD:=sA.more fD
  have fD':Fr no H D:=sD.fr
  refine ⟨fun hi=>?_,fun hi=>?_⟩
  ·have hj0:0 < j:=by have:=of_decide_eq_true hi;omega
   have hp:x.fns[j - 1]? = some x.fns[j - 1]:=List.getElem?_eq_getElem (by omega)
   have hpm:x.fns[j - 1]∈x.fns:=List.getElem_mem (by omega)
   generalize x.fns[j - 1]=p at hp hpm
   rw [show pv x.fns j=some p from (if_neg (by omega)).trans hp] at he
   rw [wd (by omega) hj0]
   refine ⟨s2,sD.ld (k:=0) rfl 1,atF (h.f.more fD') hp fun ad2 g0 g1 g2=>⟨_,g0,s2,sD.ld (k:=0) rfl 1,atF (h.f.more fD') hy fun ad3 f0 f1 f2=>⟨_,f0,?_⟩⟩⟩
   rw [lt_strL]
   have hcg:cmpF p y≥0↔ltL p.name y.name=false:=cmpL_ge
   refine ⟨fun hge2=>?_,fun hlt2=>⟨x.fns.length - (j+1),by omega,j+1,sD,wi (by omega),hj',rfl,?_⟩⟩
   ·have hc:=hcg.2 (by simpa using hge2)
    have kk:=k D fD'
    rw [check_2 hbig o0 (by rw [he,each_ord h0 hc];decide),he,each_ord h0 hc] at kk
    exact kk
   ·have hc:¬ cmpF p y≥0:=fun h'=>by rw [hcg.1 h'] at hlt2;cases hlt2
    rw [he,each_go h0 hc,pv_next hy]
  ·have hj0:j=0:=by have:=of_decide_eq_false hi;omega
   rw [show pv x.fns j=none from if_pos hj0] at he
   exact ⟨x.fns.length - (j+1),by omega,j+1,sD,wi (by omega),hj',rfl,by rw [he,each_first h0,pv_next hy]⟩
 rw [List.drop_of_length_le (by have:=dge hge;omega),each_nil] at he
 have z0:=he
 clear he hj hge
 refine ⟨fun i C m=>∃ j:Nat,Sym H no C [blk bS [.slice s1.a s1.n s1.c,.slice s2.a s2.n s2.c,.slice s3.a s3.n s3.c] 26]∧i=(j:Int)∧j≤x.cons.length∧m=x.cons.length - j∧eachE conE cmpC none x.cons=eachE conE cmpC (pv x.cons j) (x.cons.drop j),⟨_,0,sA,rfl,Nat.zero_le _,rfl,rfl⟩,?_⟩
 clear sA
 rintro i C m ⟨j,sA,rfl,hj,rfl,he⟩ scr2
 have fA:Fr no H C:=sA.fr
 refine ⟨s3,sA.ld (k:=0) rfl 2,fun hlt=>?_,fun hge=>?_⟩
 ·have hj':j < x.cons.length:=by have:=dlt hlt;omega
  have hy:x.cons[j]? = some x.cons[j]:=List.getElem?_eq_getElem hj'
  have hym:x.cons[j]∈x.cons:=List.getElem_mem hj'
  rw [List.drop_eq_getElem_cons hj'] at he
  generalize x.cons[j]=y at hy hym he
  obtain ⟨t,ht,ix⟩:=atC (h.c.more fA) hy
  refine ⟨s3,sA.ld (k:=0) rfl 2,ix fun ad e0 e1 e2 e3 e4 e5=>⟨_,_,_,_,_,t,⟨e0,e1,e2,e3,e4,e5,trivial⟩,rcon_ok ht (hx.c.2 _ hym) fun D fD=>⟨_,rfl,fun hne=>?_,fun heq=>?_⟩⟩⟩
  ·have kk:=k D (fA.trans fD)
   rw [check_3 hbig o0 z0,he,each_ask (bne_iff_ne.1 hne)] at kk
   exact kk
  have h0:conE y=0:=bne_eq_false_iff_eq.1 heq
  have sD:=sA.more fD
  have fD':Fr no H D:=sD.fr
  refine ⟨fun hi=>?_,fun hi=>?_⟩
  ·have hj0:0 < j:=by have:=of_decide_eq_true hi;omega
   have hp:x.cons[j - 1]? = some x.cons[j - 1]:=List.getElem?_eq_getElem (by omega)
   have hpm:x.cons[j - 1]∈x.cons:=List.getElem_mem (by omega)
   generalize x.cons[j - 1]=p at hp hpm
   rw [show pv x.cons j=some p from (if_neg (by omega)).trans hp] at he
   rw [wd (by omega) hj0]
   obtain ⟨t2,ht2,ix2⟩:=atC (h.c.more fD') hp
   obtain ⟨t,ht,ix⟩:=atC (h.c.more fD') hy
   refine ⟨s3,sD.ld (k:=0) rfl 2,ix2 fun ad2 g0 g1 g2 g3 g4 g5=>⟨_,_,_,_,_,t2,⟨g0,g1,g2,g3,g4,g5,trivial⟩,s3,sD.ld (k:=0) rfl 2,ix fun ad3 f0 f1 f2 f3 f4 f5=>⟨_,_,_,_,_,t,⟨f0,f1,f2,f3,f4,f5,trivial⟩,cmp15_ok ht2 ht (hx.c.2 _ hpm).2.2.2.1 fun E fE=>⟨_,rfl,fun hge2=>?_,fun hlt2=>⟨x.cons.length - (j+1),by omega,j+1,sD.more fE,wi (by omega),hj',rfl,?_⟩⟩⟩⟩⟩
   ·have hc:=of_decide_eq_true hge2
    have kk:=k E (fD'.trans fE)
    rw [check_3 hbig o0 z0,he,each_ord h0 hc] at kk
    exact kk
   ·rw [he,each_go h0 (of_decide_eq_false hlt2),pv_next hy]
  ·have hj0:j=0:=by have:=of_decide_eq_false hi;omega
   rw [show pv x.cons j=none from if_pos hj0] at he
   exact ⟨x.cons.length - (j+1),by omega,j+1,sD,wi (by omega),hj',rfl,by rw [he,each_first h0,pv_next hy]⟩
 rw [List.drop_of_length_le (by have:=dge hge;omega),each_nil] at he
 have kk:=k C fA
 rw [check_3 hbig o0 z0,he] at kk
 exact kk
end
end Go.Proofs.YtjdhjgfmloaglaaGreatDoor.C15
end
section
namespace Go.Proofs.YtjdhjgfmloaglaaGreatDoor.C15
open Go Go.V Go.Proofs N15 P14 C14 P15
attribute [local irreducible] Cvt ExtF CallF hrun App MkS callV
theorem tyTs:TyS Tryz.prog 27 9 1 16 (.string ⟨#[]⟩):=⟨by kernel_rfl,by kernel_rfl,rfl,by decide⟩
theorem els_of {A:Hp}{s:Sl}{ts:List L8}(h:Rd flL 1 A s ts):Els C05S.val A s (ts.map str):=rd_els (fun _=>rfl) h
theorem row_rd {H:Hp}{E:TypeId}{s:Sl}{xs:List ByteArray}(h:Row H E 1 s (xs.map C05S.val)):Rd flL 1 H s (xs.map (·.data.toList)):=by
 refine els_rd (fun _=>rfl) (Els.row h) ?_
 rcases h.2 with h | ⟨g,cs,fr,ha,hg,h1,_⟩
 ·rw [h.2.1];exact Nat.zero_le _
 ·exact h1
section
variable {H0 H:Hp}{R:List It}{K:Value→Hp→Prop}{Z:List PanicEntry→Hp→Prop}{s:Sl}{seen:List L8}
theorem sameT_ok {a b:Sl}{xs:List L8}(h1:Rd flL 1 H a xs) (h2:Rd flL 1 H b xs) (hb:xs.length≤1000000000) (k:K (.bool true) H):CallF Tryz.prog 17 #[.slice a.a a.n a.c,.slice b.a b.n b.c] H K Z:=
 Q05.same_ok (els_of h1) (els_of h2) (by rw [List.length_map];exact hb) k
end
theorem flat_le {α β : Type}{f : α→List β}{n:Nat}:∀ {l:List α},(∀ x∈l,(f x).length≤n)→(l.flatMap f).length≤l.length*n
 | [],_=>by simp
 | a::l,h=>by
  rw [List.flatMap_cons,List.length_append,List.length_cons,Nat.succ_mul]
  have:=flat_le (l:=l) fun x hx=>h x (List.mem_cons_of_mem _ hx)
  have:=h a List.mem_cons_self
  omega
theorem flat_snoc {α β : Type}{f : α→List β}{l:List α}{j:Nat}{x : α}(h:l[j]? = some x):(l.take (j+1)).flatMap f=(l.take j).flatMap f++f x:=by
 rw [List.take_add_one,h,List.flatMap_append]
 simp
theorem range_snoc {β : Type}{f:Nat→List β}{j:Nat}:(List.range (j+1)).flatMap f=(List.range j).flatMap f++f j:=by
 rw [List.range_succ,List.flatMap_append]
 simp
theorem filt_snoc {α : Type}{p : α→Bool}{l:List α}{j:Nat}{x : α}(h:l[j]? = some x):(l.take (j+1)).filter p=(l.take j).filter p++(if p x then [x] else []):=by
 rw [List.take_add_one,h,List.filter_append]
 cases hp:p x <;> simp [hp]
theorem each_zero {α : Type}{ask : α→Int}{cmp : α→α→Int}:∀ {l:List α}{p:Option α},eachE ask cmp p l=0→∀ x∈l,ask x=0
 | [],_,_=>by simp
 | a::l,p,h=>by
  by_cases h0:ask a=0
  ·have h2:eachE ask cmp (some a) l=0:=by
    cases p with
    | none=>rw [each_first h0] at h;exact h
    | some q=>
     by_cases hq:cmp q a≥0
     ·rw [each_ord h0 hq] at h;cases h
     ·rw [each_go h0 hq] at h;exact h
   intro x hx
   rcases List.mem_cons.1 hx with rfl | hx
   ·exact h0
   ·exact each_zero h2 x hx
  ·rw [each_ask h0] at h
   exact absurd h h0
structure Right (s:SysD):Prop where
 o:s.objs.length≤600∧∀ o∈s.objs,o.kinds.length≤64
 f:s.fns.length≤600
 c:s.cons.length≤6000∧∀ c∈s.cons,c.args.length≤7
theorem objE_zero {o:ObjD}(h:objE o=0):o.kinds.length≤64:=by
 unfold objE at h
 split at h
 ·cases h
 split at h
 ·cases h
 rename_i h1 h2
 have:kindsB o.kinds 64=true:=by
  cases hk:kindsB o.kinds 64
  ·exact absurd (.inr hk) h2
  ·rfl
 unfold kindsB at this
 rw [Bool.and_eq_true] at this
 exact of_decide_eq_true this.2
theorem conE_zero {c:ConD}(h:conE c=0):c.args.length≤7:=by
 by_cases h1:c.op < 1∨c.op > 6
 ·rw [conE_5 h1] at h;cases h
 cases h2:right1 c
 ·rw [conE_11 h1 h2] at h;cases h
 cases h3:right2 c
 ·rw [conE_3 h1 h2 h3] at h;cases h
 unfold right2 at h3
 split at h3
 ·unfold callB kindsB at h3
  simp only [Bool.and_eq_true,decide_eq_true_eq] at h3
  omega
 ·split at h3
  ·rw [Bool.and_eq_true] at h3
   rw [of_decide_eq_true h3.1]
   decide
  ·rw [Bool.and_eq_true] at h3
   rw [of_decide_eq_true h3.1]
   decide
theorem check_right {s:SysD}(h:checkE s=0):Right s:=by
 by_cases h0:bigB s
 ·rw [check_4 h0] at h;cases h
 by_cases h1:eachE objE cmpO none s.objs=0
 ·by_cases h2:eachE fnE cmpF none s.fns=0
  ·rw [check_3 h0 h1 h2] at h
   unfold bigB at h0
   exact ⟨⟨by omega,fun o ho=>objE_zero (each_zero h1 o ho)⟩,by omega,⟨by omega,fun c hc=>conE_zero (each_zero h c hc)⟩⟩
  ·rw [check_2 h0 h1 h2] at h;exact absurd h h2
 ·rw [check_1 h0 h1] at h;exact absurd h h1
end Go.Proofs.YtjdhjgfmloaglaaGreatDoor.C15
end
section
namespace Go.Proofs.YtjdhjgfmloaglaaGreatDoor.C15
open Go Go.V Go.Proofs N15 P14 C14 P15
attribute [local irreducible] Cvt ExtF CallF hrun App MkS callV
theorem lf {A B:Hp}(f:Fr no A B) {ad:Addr}{v:Value}(e:hcell A ad=some v):hcell B ad=some v:=f.cell e fun h=>h
def cellsN (o:ObjD) (q:Nat):List L8:=(List.range q).flatMap fun (i:Nat)=>if o.kinds[i]? = some 112 then [cellL o.name (i:Int)] else []
theorem cellsN_len (o:ObjD) (q:Nat):(cellsN o q).length≤q:=by
 have:=flat_le (l:=List.range q) (n:=1) (f:=fun (i:Nat)=>if o.kinds[i]? = some 112 then [cellL o.name (i:Int)] else []) (fun x _=>by split <;> simp)
 rw [List.length_range] at this
 unfold cellsN
 omega
theorem cellsN_next (o:ObjD) (q:Nat):cellsN o (q+1)=cellsN o q++(if o.kinds[q]? = some 112 then [cellL o.name (q:Int)] else []):=range_snoc
section
variable {H:Hp}{K:Value→Hp→Prop}{Z:List PanicEntry→Hp→Prop}{l:L8}
abbrev sL (s1 s2 s3:Sl):List Value:=[.slice s1.a s1.n s1.c,.slice s2.a s2.n s2.c,.slice s3.a s3.n s3.c]
abbrev sAg (s1 s2 s3:Sl):Value:=.agg #[.slice s1.a s1.n s1.c,.slice s2.a s2.n s2.c,.slice s3.a s3.n s3.c]
end
end Go.Proofs.YtjdhjgfmloaglaaGreatDoor.C15
end
section
namespace Go.V
structure CmpLin {κ : Type}(c : κ→κ→Int):Prop where
 eq:∀ {x y},c x y=0↔x=y
 neg:∀ {x y},c x y < 0↔c y x > 0
 tr:∀ {x y z},c x y < 0→c y z < 0→c x z < 0
def Ahead {τ κ : Type}(c : κ→κ→Int) (ky : τ→κ) (tg : τ→Nat) (x y : τ):Prop:=c (ky x) (ky y) < 0∨(ky x=ky y∧tg x < tg y)
section
variable {τ κ : Type}{c : κ→κ→Int}{ky : τ→κ}{tg : τ→Nat}{x y z : τ}{X Y:List τ}{i j q:Nat}
theorem Ahead.tr (hc:CmpLin c) (h1:Ahead c ky tg x y) (h2:Ahead c ky tg y z):Ahead c ky tg x z:=by
 rcases h1 with h1 | ⟨h1,t1⟩ <;> rcases h2 with h2 | ⟨h2,t2⟩
 ·exact .inl (hc.tr h1 h2)
 ·exact .inl (h2 ▸ h1)
 ·exact .inl (h1 ▸ h2)
 ·exact .inr ⟨h1.trans h2,Nat.lt_trans t1 t2⟩
theorem Ahead.more (hc:CmpLin c) (h:tg x < tg y) (h1:¬ c (ky y) (ky x) < 0):Ahead c ky tg x y:=by
 by_cases h2:c (ky y) (ky x)=0
 ·exact .inr ⟨(hc.eq.1 h2).symm,h⟩
 ·exact .inl (hc.neg.2 (by omega))
theorem Ahead.lt_of (hc:CmpLin c) (h1:Ahead c ky tg x y) (h2:c (ky y) (ky z) < 0):c (ky x) (ky z) < 0:=by
 rcases h1 with h1 | ⟨h1,_⟩
 ·exact hc.tr h1 h2
 ·rw [h1];exact h2
theorem Ahead.lt_of' (hc:CmpLin c) (h1:Ahead c ky tg x y) (h2:c (ky z) (ky x) < 0):c (ky z) (ky y) < 0:=by
 rcases h1 with h1 | ⟨h1,_⟩
 ·exact hc.tr h2 h1
 ·rw [← h1];exact h2
abbrev Srt (c : κ→κ→Int) (ky : τ→κ) (tg : τ→Nat) (l:List τ):Prop:=l.Pairwise (Ahead c ky tg)
theorem pw_at {R : τ→τ→Prop}{l:List τ}(h:l.Pairwise R) {s t:Nat}(hs:l[s]? = some x) (ht:l[t]? = some y) (hst:s < t):R x y:=by
 obtain ⟨h1,rfl⟩:=List.getElem?_eq_some_iff.1 hs
 obtain ⟨h2,rfl⟩:=List.getElem?_eq_some_iff.1 ht
 exact List.pairwise_iff_getElem.1 h s t h1 h2 hst
theorem mem_take {l:List τ}:x∈l.take i↔∃ t,t < i∧l[t]? = some x:=by
 rw [List.mem_iff_getElem?]
 constructor
 ·rintro ⟨t,ht⟩
  rw [List.getElem?_take] at ht
  split at ht
  ·exact ⟨t,by assumption,ht⟩
  ·cases ht
 ·rintro ⟨t,h1,h2⟩
  exact ⟨t,by rw [List.getElem?_take,if_pos h1];exact h2⟩
theorem mem_drop {l:List τ}:x∈l.drop i↔∃ t,i≤t∧l[t]? = some x:=by
 rw [List.mem_iff_getElem?]
 constructor
 ·rintro ⟨t,ht⟩
  rw [List.getElem?_drop] at ht
  exact ⟨i+t,by omega,ht⟩
 ·rintro ⟨t,h1,h2⟩
  exact ⟨t - i,by rw [List.getElem?_drop,show i+(t - i)=t by omega];exact h2⟩
theorem pw_ins {R : τ→τ→Prop}{l:List τ}(h:l.Pairwise R) (h1:∀ y∈l.take q,R y x) (h2:∀ y∈l.drop q,R x y):(l.take q++x::l.drop q).Pairwise R:=by
 have h0:=h
 rw [← List.take_append_drop q l,List.pairwise_append] at h0
 rw [List.pairwise_append,List.pairwise_cons]
 refine ⟨h0.1,⟨h2,h0.2.1⟩,fun a ha b hb=>?_⟩
 rcases List.mem_cons.1 hb with rfl | hb
 ·exact h1 a ha
 ·exact h0.2.2 a ha b hb
theorem ins_low (hc:CmpLin c) (hs:Srt c ky tg Y) (ht:∀ y∈Y,tg x < tg y) (h1:∀ t y,t < q→Y[t]? = some y→c (ky y) (ky x) < 0) (h2:∀ t y,q≤t→Y[t]? = some y→¬ c (ky y) (ky x) < 0):Srt c ky tg (Y.take q++x::Y.drop q):=by
 refine pw_ins hs (fun y hy=>?_) fun y hy=>?_
 ·obtain ⟨t,a,b⟩:=mem_take.1 hy
  exact .inl (h1 t y a b)
 ·obtain ⟨t,a,b⟩:=mem_drop.1 hy
  exact Ahead.more hc (ht y (List.mem_of_getElem? b)) (h2 t y a b)
theorem ins_high (hc:CmpLin c) (hs:Srt c ky tg X) (ht:∀ x∈X,tg x < tg y) (h1:∀ t x,t < q→X[t]? = some x→¬ c (ky y) (ky x) < 0) (h2:∀ t x,q≤t→X[t]? = some x→c (ky y) (ky x) < 0):Srt c ky tg (X.take q++y::X.drop q):=by
 refine pw_ins hs (fun x hx=>?_) fun x hx=>?_
 ·obtain ⟨t,a,b⟩:=mem_take.1 hx
  exact Ahead.more hc (ht x (List.mem_of_getElem? b)) (h1 t x a b)
 ·obtain ⟨t,a,b⟩:=mem_drop.1 hx
  exact .inl (h2 t x a b)
theorem low_mono (hc:CmpLin c) (hs:Srt c ky tg Y) {s t:Nat}{u v : τ}(hu:Y[s]? = some u) (hv:Y[t]? = some v) (hst:s≤t) (h:c (ky v) (ky x) < 0):c (ky u) (ky x) < 0:=by
 rcases Nat.lt_or_eq_of_le hst with h' | rfl
 ·exact Ahead.lt_of hc (pw_at hs hu hv h') h
 ·rw [hu] at hv;cases hv;exact h
theorem high_mono (hc:CmpLin c) (hs:Srt c ky tg X) {s t:Nat}{u v : τ}(hu:X[s]? = some u) (hv:X[t]? = some v) (hst:s≤t) (h:c (ky y) (ky u) < 0):c (ky y) (ky v) < 0:=by
 rcases Nat.lt_or_eq_of_le hst with h' | rfl
 ·exact Ahead.lt_of' hc (pw_at hs hu hv h') h
 ·rw [hu] at hv;cases hv;exact h
theorem cross (hc:CmpLin c) (hX:Srt c ky tg X) (hY:Srt c ky tg Y) (ht:∀ x∈X,∀ y∈Y,tg x < tg y) (hi:i≤X.length) (hj:j≤Y.length)
  (hA:i=0∨j≥Y.length∨∀ x y,X[i - 1]? = some x→Y[j]? = some y→¬ c (ky y) (ky x) < 0)
  (hB:i≥X.length∨j=0∨∀ x y,X[i]? = some x→Y[j - 1]? = some y→c (ky y) (ky x) < 0) :
  ∀ e∈X.take i++Y.take j,∀ f∈X.drop i++Y.drop j,Ahead c ky tg e f:=by
 intro e he f hf
 rcases List.mem_append.1 he with he | he <;> rcases List.mem_append.1 hf with hf | hf
 ·obtain ⟨s,a,b⟩:=mem_take.1 he
  obtain ⟨t,a',b'⟩:=mem_drop.1 hf
  exact pw_at hX b b' (by omega)
 ·obtain ⟨s,a,b⟩:=mem_take.1 he
  obtain ⟨t,a',b'⟩:=mem_drop.1 hf
  have hsX:=(List.getElem?_eq_some_iff.1 b).1
  have htY:=(List.getElem?_eq_some_iff.1 b').1
  rcases hA with h | h | h
  ·omega
  ·omega
  ·by_cases hi1:i - 1 < X.length
   ·have h1:=h _ _ (List.getElem?_eq_getElem hi1) (List.getElem?_eq_getElem (show j < Y.length by omega))
    have h2:Ahead c ky tg (X[i - 1]'hi1) (Y[j]'(by omega)):=Ahead.more hc (ht _ (List.getElem_mem _) _ (List.getElem_mem _)) h1
    have h3:Ahead c ky tg e (Y[j]'(by omega)):=by
     rcases Nat.lt_or_eq_of_le (show s≤i - 1 by omega) with h' | h'
     ·exact Ahead.tr hc (pw_at hX b (List.getElem?_eq_getElem hi1) h') h2
     ·subst h'
      rw [List.getElem?_eq_getElem hi1] at b
      cases b
      exact h2
    rcases Nat.lt_or_eq_of_le a' with h' | h'
    ·exact Ahead.tr hc h3 (pw_at hY (List.getElem?_eq_getElem _) b' h')
    ·subst h'
     rw [List.getElem?_eq_getElem htY] at b'
     cases b'
     exact h3
   ·omega
 ·obtain ⟨s,a,b⟩:=mem_take.1 he
  obtain ⟨t,a',b'⟩:=mem_drop.1 hf
  have hsY:=(List.getElem?_eq_some_iff.1 b).1
  have htX:=(List.getElem?_eq_some_iff.1 b').1
  rcases hB with h | h | h
  ·omega
  ·omega
  ·by_cases hj1:j - 1 < Y.length
   ·have h1:=h _ _ (List.getElem?_eq_getElem (show i < X.length by omega)) (List.getElem?_eq_getElem hj1)
    have h2:Ahead c ky tg (Y[j - 1]'hj1) (X[i]'(by omega)):=.inl h1
    have h3:Ahead c ky tg e (X[i]'(by omega)):=by
     rcases Nat.lt_or_eq_of_le (show s≤j - 1 by omega) with h' | h'
     ·exact Ahead.tr hc (pw_at hY b (List.getElem?_eq_getElem hj1) h') h2
     ·subst h'
      rw [List.getElem?_eq_getElem hj1] at b
      cases b
      exact h2
    rcases Nat.lt_or_eq_of_le a' with h' | h'
    ·exact Ahead.tr hc h3 (pw_at hX (List.getElem?_eq_getElem _) b' h')
    ·subst h'
     rw [List.getElem?_eq_getElem htX] at b'
     cases b'
     exact h3
   ·omega
 ·obtain ⟨s,a,b⟩:=mem_take.1 he
  obtain ⟨t,a',b'⟩:=mem_drop.1 hf
  exact pw_at hY b b' (by omega)
theorem pw_same {R : τ→τ→Prop}(irr:∀ x,¬ R x x) (tr:∀ {x y z},R x y→R y z→R x z):∀ {a b:List τ},a.Pairwise R→b.Pairwise R→(∀ z,z∈a↔z∈b)→a=b
 | [],[],_,_,_=>rfl
 | [],y::b,_,_,h=>absurd ((h y).2 List.mem_cons_self) (by simp)
 | x::a,[],_,_,h=>absurd ((h x).1 List.mem_cons_self) (by simp)
 | x::a,y::b,ha,hb,h=>by
  rw [List.pairwise_cons] at ha hb
  have hxy:x=y:=by
   rcases List.mem_cons.1 ((h x).1 List.mem_cons_self) with e | hx
   ·exact e
   ·rcases List.mem_cons.1 ((h y).2 List.mem_cons_self) with e | hy
    ·exact e.symm
    ·exact absurd (tr (ha.1 y hy) (hb.1 x hx)) (irr x)
  subst hxy
  rw [pw_same irr tr ha.2 hb.2 fun z=>⟨fun hz=>?_,fun hz=>?_⟩]
  ·rcases List.mem_cons.1 ((h z).1 (List.mem_cons_of_mem _ hz)) with e | hz'
   ·exact absurd (e ▸ ha.1 z hz) (irr x)
   ·exact hz'
  ·rcases List.mem_cons.1 ((h z).2 (List.mem_cons_of_mem _ hz)) with e | hz'
   ·exact absurd (e ▸ hb.1 z hz) (irr x)
   ·exact hz'
theorem set_at {A B:List τ}(h:i=A.length):(A++x::B).set i y=A++y::B:=by subst h;simp
end
end Go.V
namespace Go.V
attribute [local irreducible] Cvt ExtF CallF hrun
section
variable {τ : Type}{fl : τ→List Value}{sz:Nat}
theorem setsL_take:∀ (vs cs:List Value) (o N:Nat),(setsL cs o vs).take N=setsL (cs.take N) o vs
 | [],cs,o,N=>rfl
 | v::vs,cs,o,N=>by rw [setsL,setsL,setsL_take vs,List.take_set]
theorem flat_setL {l:List τ}{i:Nat}{x y : τ}(hf:Fl fl sz) (hx:l[i]? = some x):setsL (flat fl l) (i*sz) (fl y)=flat fl (l.set i y):=by
 obtain ⟨hi,rfl⟩:=List.getElem?_eq_some_iff.1 hx
 have hl:=flat_len hf l
 have hy:=hf.len y
 have hb:(i+1)*sz≤l.length*sz:=Nat.mul_le_mul_right _ hi
 rw [Nat.succ_mul] at hb
 rw [setsL_eq _ _ _ (by omega),hy,show i*sz+sz=(i+1)*sz from (Nat.succ_mul i sz).symm,flat_take hf,flat_drop hf,List.set_eq_take_append_cons_drop,if_pos hi,flat_app]
 show _=_++(fl y++flat fl _)
 rw [List.append_assoc]
variable {H0 H H':Hp}{S:Nat→Prop}{L:List It}{E:TypeId}{s:Sl}{l:List τ}
theorem Sym.stw {k i:Nat}{x y : τ}{K:Hp→Prop}(h:Sym H0 S H L) (hf:Fl fl sz) (hsz:0 < sz) (hk:L[k]? = some (arr fl E sz s l)) (hx:l[i]? = some x)
  (kk:∀ H',Sym H0 S H' (L.set k (arr fl E sz s (l.set i y)))→K H'):IxA s.a s.n (i:Int) sz fun ad=>StL ad 0 (fl y) H K:=by
 have hok:RowN fl E sz H s l:=h.get hk
 have hi:=(List.getElem?_eq_some_iff.1 hx).1
 have hn:=hok.len hf hsz
 obtain ⟨g,hg⟩:=hok.row.some (by omega)
 rcases hok.row.2 with ⟨ha,_⟩ | ⟨g',cs,fr,ha,hb,h1,h2,h3,h4⟩
 ·rw [hg] at ha;cases ha
 rw [hg] at ha
 cases ha
 refine ⟨_,hg,⟨by omega,by omega⟩,?_⟩
 show StL ((⟨g,0,none⟩:Addr).add ((i:Int).toNat*sz)) 0 (fl y) H K
 rw [add_mk,Nat.zero_add,Int.toNat_natCast]
 have hlen:=flat_len hf l
 have hy:=hf.len y
 have hb1:(i+1)*sz≤l.length*sz:=Nat.mul_le_mul_right _ hi
 rw [Nat.succ_mul] at hb1
 have hc1:l.length*sz≤cs.length:=by rw [h2,← hn];exact Nat.mul_le_mul_right _ h1
 have hfr:fr=(0,0):=by
  obtain ⟨cs',T',hb'⟩:=hok.nf g 0 hg
  rw [hb] at hb'
  simp only [Option.some.injEq,Obj.cells.injEq] at hb'
  exact hb'.2.2
 subst hfr
 refine stL_cells (o:=i*sz) (fl y) 0 hb (by rw [hy];omega) (fun v hv=>hf.one y v hv) (.inr (Nat.le_refl _)) fun H' g1 g2 g3=>kk H' (h.setk hk (g2.mono fun q _ e=>⟨0,by rw [e];exact hg⟩) ⟨⟨?_,.inr ⟨g,_,(0,0),hg,g1,h1,?_,?_,Nat.zero_le _⟩⟩,?_⟩ fun q hq=>.inl hq)
 ·rw [flat_len hf,List.length_set,hn]
 ·rw [setsL_length]
  exact h2
 ·rw [← flat_setL hf hx,← h3,Nat.add_zero]
  exact setsL_take _ _ _ _
 ·intro g' o' e
  rw [hg] at e
  simp only [Option.some.injEq,Addr.mk.injEq] at e
  exact ⟨_,_,by rw [← e.1];exact g1⟩
section
variable {P M W:List τ}{x y : τ}
theorem swA1:(P++x::(M++y::W))[P.length]? = some x:=by simp
theorem swA2:(P++x::(M++y::W))[P.length+1+M.length]? = some y:=by
 rw [List.getElem?_append_right (by omega),show P.length+1+M.length - P.length=M.length+1 by omega,List.getElem?_cons_succ,List.getElem?_append_right (Nat.le_refl _)]
 simp
theorem swS1 {z : τ}:(P++x::(M++y::W)).set P.length z=P++z::(M++y::W):=set_at rfl
theorem swS2 {z : τ}:(P++x::(M++y::W)).set (P.length+1+M.length) z=P++x::(M++z::W):=by
 have e:∀ w : τ,P++x::(M++w::W)=(P++x::M)++w::W:=fun w=>by simp
 rw [e,e,set_at]
 simp
 omega
theorem Sym.swp {i j:Nat}{K:Hp→Prop}(h:Sym H0 S H (arr fl E sz s (P++x::(M++y::W))::L)) (hf:Fl fl sz) (hsz:0 < sz) (hi:i=P.length) (hj:j=P.length+1+M.length)
  (kk:∀ H',Sym H0 S H' (arr fl E sz s (P++y::(M++x::W))::L)→K H'):IxA s.a s.n (i:Int) sz fun ad=>StL ad 0 (fl y) H fun H2=>IxA s.a s.n (j:Int) sz fun ad3=>StL ad3 0 (fl x) H2 K:=by
 subst hi
 subst hj
 refine h.stw (k:=0) hf hsz rfl swA1 fun A sA=>?_
 rw [List.set_cons_zero,swS1] at sA
 refine sA.stw (k:=0) hf hsz rfl swA2 fun B sB=>kk B ?_
 rw [List.set_cons_zero,swS2] at sB
 exact sB
theorem Sym.swp' {i j:Nat}{K:Hp→Prop}(h:Sym H0 S H (arr fl E sz s (P++x::(M++y::W))::L)) (hf:Fl fl sz) (hsz:0 < sz) (hi:i=P.length) (hj:j=P.length+1+M.length)
  (kk:∀ H',Sym H0 S H' (arr fl E sz s (P++y::(M++x::W))::L)→K H'):IxA s.a s.n (j:Int) sz fun ad=>StL ad 0 (fl x) H fun H2=>IxA s.a s.n (i:Int) sz fun ad3=>StL ad3 0 (fl y) H2 K:=by
 subst hi
 subst hj
 refine h.stw (k:=0) hf hsz rfl swA2 fun A sA=>?_
 rw [List.set_cons_zero,swS2] at sA
 refine sA.stw (k:=0) hf hsz rfl swA1 fun B sB=>kk B ?_
 rw [List.set_cons_zero,swS1] at sB
 exact sB
end
theorem wn {x:Int}{n:Nat}(h:x=(n:Int)) (hn:n≤1000000000000):w64 x=(n:Int):=by rw [wid (by omega) (by omega)];exact h
theorem half {x:Int}{n:Nat}(h:x=(n:Int)) (hn:n≤1000000000000):w64 (Int.fdiv (IntKind.wrap .u64 (w64 x)) (2 ^ 1))=((n / 2:Nat):Int):=by
 rw [wn h hn]
 have e:IntKind.wrap .u64 (n:Int)=(n:Int):=by
  unfold IntKind.wrap
  simp [IntKind.signed,IntKind.bits]
  omega
 rw [e,Int.fdiv_eq_ediv_of_nonneg _ (by decide)]
 refine wn ?_ (by omega)
 omega
section
variable {P:List τ→Prop}{k:Nat}
inductive Full (P:List τ→Prop) (k:Nat):List τ→List τ→Prop
 | nil:Full P k [] []
 | snoc {A O B O1:List τ}:Full P k A O→B.length=k→B.Perm O1→P B→Full P k (A++B) (O++O1)
inductive Blocks (P:List τ→Prop) (k:Nat):List τ→List τ→Prop
 | last {T O:List τ}:T.length≤k→T.Perm O→P T→Blocks P k T O
 | more {B O1 T O:List τ}:B.length=k→B.Perm O1→P B→Blocks P k T O→Blocks P k (B++T) (O1++O)
theorem Full.len {A O:List τ}(h:Full P k A O):A.Perm O:=by
 induction h with
 | nil=>exact List.Perm.refl _
 | snoc _ _ hp _ ih=>exact ih.append hp
theorem Blocks.perm {A O:List τ}(h:Blocks P k A O):A.Perm O:=by
 induction h with
 | last _ hp _=>exact hp
 | more _ hp _ _ ih=>exact hp.append ih
theorem Full.blocks {A O:List τ}(h:Full P k A O):∀ {T O2:List τ},Blocks P k T O2→Blocks P k (A++T) (O++O2):=by
 induction h with
 | nil=>exact fun h=>h
 | snoc _ hl hp hs ih=>
  intro T O2 ht
  rw [List.append_assoc,List.append_assoc]
  exact ih (.more hl hp hs ht)
theorem Blocks.one {T O:List τ}(h:Blocks P k T O) (hl:T.length≤k) (hk:0 < k):T.Perm O∧P T:=by
 cases h with
 | last _ hp hs=>exact ⟨hp,hs⟩
 | more hb hp hs ht=>
  rename_i B O1 T O
  rw [List.length_append] at hl
  have hT:T = []:=List.eq_nil_of_length_eq_zero (by omega)
  subst hT
  have hO:O = []:=by have:=ht.perm;exact List.nil_perm.1 this
  subst hO
  rw [List.append_nil,List.append_nil]
  exact ⟨hp,hs⟩
theorem Blocks.cons {T O:List τ}(h:Blocks P k T O) (hl:k < T.length):∃ B O1 T' O',T=B++T'∧O=O1++O'∧B.length=k∧B.Perm O1∧P B∧Blocks P k T' O':=by
 cases h with
 | last h1 _ _=>omega
 | more hb hp hs ht=>exact ⟨_,_,_,_,rfl,rfl,hb,hp,hs,ht⟩
theorem Blocks.head {T O:List τ}(h:Blocks P k T O) (h0:P []) (hl:T.length=k):∃ B O1 T' O',T=B++T'∧O=O1++O'∧B.length=k∧B.Perm O1∧P B∧Blocks P k T' O':=by
 cases h with
 | last h1 hp hs=>exact ⟨T,O,[],[],by simp,by simp,hl,hp,hs,.last (by simp) (List.Perm.refl _) h0⟩
 | more hb hp hs ht=>exact ⟨_,_,_,_,rfl,rfl,hb,hp,hs,ht⟩
theorem Blocks.front {T O:List τ}(h:Blocks P k T O) (h0:P []) (hl:k≤T.length):∃ B O1 T' O',T=B++T'∧O=O1++O'∧B.length=k∧B.Perm O1∧P B∧Blocks P k T' O':=by
 rcases Nat.lt_or_eq_of_le hl with h' | h'
 ·exact h.cons h'
 ·exact h.head h0 h'.symm
end
end
end Go.V
end
