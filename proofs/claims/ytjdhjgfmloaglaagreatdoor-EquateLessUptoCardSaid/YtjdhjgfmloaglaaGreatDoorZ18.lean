import Derived.Test.YtjdhjgfmloaglaaGreatDoorZ17
import Derived.Test.YtjdhjgfmloaglaaGreatDoorProg
set_option linter.unusedVariables false
set_option linter.unusedSimpArgs false
section
namespace Go.Proofs.YtjdhjgfmloaglaaGreatDoor.C21
open Go Go.V Go.Proofs N21 P14 C14 P15 C15 C18 P21
attribute [local irreducible] Cvt ExtF CallF hrun App MkS callV Lkp MUp
theorem tyCo:TyS Tryz.prog 24 36 6 88 (.agg #[.int .i64 0,.string ⟨#[]⟩,.string ⟨#[]⟩,.int .i64 0,.string ⟨#[]⟩,.slice none 0 0]):=⟨by kernel_rfl,by kernel_rfl,rfl,by decide⟩
def Held (ps:List (Sl × List L8)) (hs:List HC) (xs:List ConD):Prop:=hs.length=xs.length∧∀ (i:Nat) h c,hs[i]? = some h→xs[i]? = some c→h=HC.of c h.2.2.2.2.2∧(h.2.2.2.2.2,c.args)∈ps
theorem Held.nil:Held [] [] []:=⟨rfl,by simp⟩
theorem Held.more {ps:List (Sl × List L8)}{hs:List HC}{xs:List ConD}{p:Sl × List L8}(h:Held ps hs xs):Held (p::ps) hs xs:=⟨h.1,fun i a c ha hc=>⟨(h.2 i a c ha hc).1,List.mem_cons_of_mem _ (h.2 i a c ha hc).2⟩⟩
theorem Held.snoc {ps:List (Sl × List L8)}{hs:List HC}{xs:List ConD}{c:ConD}{s:Sl}(h:Held ps hs xs) (hm:(s,c.args)∈ps):Held ps (hs ++ [HC.of c s]) (xs ++ [c]):=by
 refine ⟨by rw [List.length_append,List.length_append,h.1];rfl,fun i u v hu hv=>?_⟩
 rw [List.getElem?_append] at hu hv
 rw [h.1] at hu
 split at hu
 ·rename_i hlt
  rw [if_pos hlt] at hv
  exact h.2 i u v hu hv
 ·rename_i hge
  rw [if_neg hge] at hv
  have hi:i - xs.length < 1:=(List.getElem?_eq_some_iff.1 hu).1
  have e0:i - xs.length=0:=by omega
  rw [e0] at hu hv
  rw [← Option.some_inj.1 hu,← Option.some_inj.1 hv]
  exact ⟨rfl,hm⟩
theorem ren_snoc {N:L8→L8}{cs:List ConD}{c:ConD}{j:Nat}(hc:cs[j]? = some c):ren N (cs.take (j+1))=ren N (cs.take j)++(if stayC (renC N c)=true then [renC N c] else []):=by
 unfold ren
 rw [List.take_add_one,hc,List.map_append,List.filter_append]
 congr 1
 show [renC N c].filter stayC=_
 cases e:stayC (renC N c)
 ·rw [List.filter_cons_of_neg (by rw [e];decide),List.filter_nil]
  rfl
 ·rw [List.filter_cons_of_pos e,List.filter_nil]
  rfl
structure RdF (B:Hp) (c1 c2 c3:Sl) (hs:List HC) (x:SysD):Prop where
 o:RdO B c1 x.objs
 f:Rd flF 3 B c2 x.fns
 c:Rd flHC 6 B c3 hs
 len:hs.length=x.cons.length
 l:∀ (i:Nat) h c,hs[i]? = some h→x.cons[i]? = some c→InC B h c
theorem canF {c:CanS}{t:SysD}{E:Hp}(h:∀ a∈c.its,a.ok E) (g:c.good t):RdF E c.y c.y1 c.y2 (c.lc.map fun x=>x.1.1) t:=by
 have r:=CanS.rd h g
 have h1:(rdsI flL 1 c.rs).ok E:=h _ (by simp [CanS.its])
 have h4:RowN C16C.fle 36 6 E c.y2 c.lc:=h (arr C16C.fle 36 6 c.y2 c.lc) (by simp [CanS.its])
 have hr:=h4.rd C16C.FlE (by decide)
 refine ⟨r.o,r.f,Rd.unmap (f:=fun x:C16C.El=>x.1.1) hr,by rw [List.length_map,← g.qc,List.length_map],fun i hh xx e1 e2=>?_⟩
 rw [← g.qc,List.getElem?_map] at e2
 rw [List.getElem?_map] at e1
 cases hz:c.lc[i]? with
 | none=>rw [hz] at e1;cases e1
 | some z=>
  rw [hz] at e1 e2
  have e1:z.1.1=hh:=by simpa using e1
  have e2:z.1.2=xx:=by simpa using e2
  obtain ⟨a1,a2⟩:=g.hc z (List.mem_of_getElem? hz)
  subst e1
  subst e2
  exact ⟨a2,(h1 _ a1).1⟩
section
variable {H0 A:Hp}{K:Value→Hp→Prop}{Z:List PanicEntry→Hp→Prop}{c1 c2 c3 sn sh ss:Sl}{sw:List Swp}{N:L8→L8}{rk:L8→Nat}{bd:Nat}{R:List It}{x:SysD}
set_option maxRecDepth 10000 in
theorem renew_ok {qs:List HC}(h:Sym H0 no A (blk bd (dkL c1 c2 c3 sn sh ss) 91::arr flW 48 2 ss sw::R)) (hw:Sw sw N rk) (hl:sw.length≤100000) (hr:∀ B,(∀ a∈R,a.ok B)→Fr no H0 B→RdF B c1 c2 c3 qs x) (hx:LenSys x) (hc6:x.cons.length≤6000)
  (k:∀ (c:CanS) t B,Sym H0 no B (blk bd (dkL c.y c.y1 c.y2 sn sh ss) 91::arr flW 48 2 ss sw::(c.its++R))→c.good t→IsCanS ⟨x.objs,x.fns,ren N x.cons⟩ t→K (.tuple #[]) B) :
  CallF Tryz.prog 46 #[.pointer (some ⟨bd,0,none⟩)] A K Z:=by
 refine V46_ok ?_
 unfold V46
 have rdE:∀ {E:Hp}{L:List It},Sym H0 no E (L++R)→RdF E c1 c2 c3 qs x:=fun {E L} s=>hr E (fun a ha=>s.ok a (List.mem_append.2 (.inr ha))) s.fr
 have rdA:=rdE (L:=[_,_]) h
 have n3:=rdA.c.len
 have nq:=rdA.len
 have h0:=(h.nilrow flHC 36 6).nilrds flL 1
 replace h0:Sym H0 no A (rdsI flL 1 []::arr flHC 36 6 ⟨none,0,0⟩ []::blk bd (dkL c1 c2 c3 sn sh ss) 91::arr flW 48 2 ss sw::R):=h0
 refine ⟨c3,by rw [add_mk,Nat.zero_add];exact h.ld (k:=0) rfl 2,fun l i E m=>∃ (j:Nat) (hs:List HC) (ps:List (Sl × List L8)),i=(j:Int)∧j≤x.cons.length∧m=x.cons.length - j∧Sym H0 no E (rdsI flL 1 ps::arr flHC 36 6 l hs::blk bd (dkL c1 c2 c3 sn sh ss) 91::arr flW 48 2 ss sw::R)∧Held ps hs (ren N (x.cons.take j)),⟨_,0,[],[],rfl,Nat.zero_le _,rfl,h0,Held.nil⟩,?_⟩
 rintro l i E m ⟨j,hs,ps,rfl,hj,rfl,sE,hh⟩ scr
 refine ⟨fun hlt=>?_,fun hge=>?_⟩
 ·have hj':j < x.cons.length:=by have:=dlt hlt;omega
  obtain ⟨c,hcj,hcm⟩:=getN hj'
  obtain ⟨q,hqj,_⟩:=getN (xs:=qs) (i:=j) (by omega)
  have rdx:=rdE (L:=[_,_,_,_]) sE
  obtain ⟨eq,_⟩:=rdx.l j q c hqj hcj
  have hta:∀ {E':Hp}{L:List It},Sym H0 no E' (L++R)→Rd flL 1 E' q.2.2.2.2.2 c.args:=fun s=>((rdE s).l j q c hqj hcj).2
  generalize q.2.2.2.2.2=t at eq hta
  subst eq
  have hargs:=hx.c.2 c hcm
  have hrl:=ren_len N (x.cons.take j)
  rw [List.length_take] at hrl
  have hsn:=ren_snoc (N:=N) hcj
  generalize ren N (x.cons.take j)=xs at hh hsn hrl
  have hhl:=hh.1
  refine rdx.c.ix (by decide) FlHC (by omega) (by simpa using hqj) fun ad g1 g2=>⟨_,_,_,_,_,t,⟨g2,g1 1 _ rfl,g1 2 _ rfl,g1 3 _ rfl,g1 4 _ rfl,g1 5 _ rfl,trivial⟩,fun bC F hF=>?_⟩
  have sF:=sE.newb (cs:=[.int .i64 0,.string ⟨#[]⟩,.string ⟨#[]⟩,.int .i64 0,.string ⟨#[]⟩,.slice none 0 0]) hF
  refine sF.stbs (k:=0) (i:=0) (vs:=cL c t) rfl (by simp) (FlHC.2 (HC.of c t)) fun G sG=>?_
  replace sG:Sym H0 no G (blk bC (cL c t) 36::rdsI flL 1 ps::arr flHC 36 6 l hs::blk bd (dkL c1 c2 c3 sn sh ss) 91::arr flW 48 2 ss sw::R):=sG
  refine ⟨_,sG.ld (k:=0) rfl 1,now_ok (sG.ld (k:=3) rfl 5) (Sym.rd (k:=4) sG FlW (by decide) rfl) hw hl fun I fI=>⟨_,rfl,?_⟩⟩
  refine (sG.more fI).stb (k:=0) (i:=1) rfl (by simp) rfl fun J sJ=>?_
  replace sJ:Sym H0 no J (blk bC [.int .i64 c.op,.string (str (N c.a)),.string (str c.b),.int .i64 c.k,.string (str c.tag),.slice t.a t.n t.c] 36::rdsI flL 1 ps::arr flHC 36 6 l hs::blk bd (dkL c1 c2 c3 sn sh ss) 91::arr flW 48 2 ss sw::R):=sJ
  refine ⟨fun E'=>Sym H0 no E' (blk bC [.int .i64 c.op,.string (str (N c.a)),.string (str (if c.op=1 then c.b else N c.b)),.int .i64 c.k,.string (str c.tag),.slice t.a t.n t.c] 36::rdsI flL 1 ps::arr flHC 36 6 l hs::blk bd (dkL c1 c2 c3 sn sh ss) 91::arr flW 48 2 ss sw::R),?_,_,sJ.ld (k:=0) rfl 0,fun h1=>?_,fun h1=>?_⟩
  ·intro E1 s1 scr1
   refine ⟨t,s1.ld (k:=0) rfl 5,clT_ok s1 (hta (L:=[_,_,_,_,_]) s1) (by omega) fun y B1 sB1=>⟨y,rfl,?_⟩⟩
   refine Sym.stb (k:=1) (i:=5) sB1 rfl (by simp) rfl fun C1 sC1=>?_
   have ny:=(Sym.rd (k:=0) sC1 FlL (by decide) rfl).len
   replace sC1:Sym H0 no C1 (arr flL 9 1 y c.args::blk bC (cL (renC N c) y) 36::rdsI flL 1 ps::arr flHC 36 6 l hs::blk bd (dkL c1 c2 c3 sn sh ss) 91::arr flW 48 2 ss sw::R):=sC1
   refine ⟨y,sC1.ld (k:=1) rfl 5,fun i' E' m'=>∃ j':Nat,i'=(j':Int)∧j'≤c.args.length∧m'=c.args.length - j'∧Sym H0 no E' (arr flL 9 1 y ((c.args.take j').map N++c.args.drop j')::blk bC (cL (renC N c) y) 36::rdsI flL 1 ps::arr flHC 36 6 l hs::blk bd (dkL c1 c2 c3 sn sh ss) 91::arr flW 48 2 ss sw::R),⟨_,0,rfl,Nat.zero_le _,rfl,sC1⟩,?_⟩
   rintro i' E' m' ⟨j',rfl,hj1,rfl,sE'⟩ scr2
   refine ⟨fun hlt'=>?_,fun hge'=>?_⟩
   ·have hj2:j' < c.args.length:=by have:=dlt hlt';omega
    obtain ⟨a,haj,ham⟩:=getN hj2
    have hat:((c.args.take j').map N++c.args.drop j')[j']? = some a:=by
     have hl':((c.args.take j').map N).length=j':=by rw [List.length_map,List.length_take];omega
     rw [List.getElem?_append_right (by omega),hl',Nat.sub_self,List.getElem?_drop,Nat.add_zero]
     exact haj
    have hset:((c.args.take j').map N++c.args.drop j').set j' (N a)=(c.args.take (j'+1)).map N++c.args.drop (j'+1):=by
     have hl':((c.args.take j').map N).length=j':=by rw [List.length_map,List.length_take];omega
     obtain ⟨g,e⟩:=List.getElem?_eq_some_iff.1 haj
     rw [List.set_append_right _ _ (by omega),hl',Nat.sub_self,List.drop_eq_getElem_cons g,List.set_cons_zero,List.take_add_one,haj,List.map_append,List.append_assoc]
     rfl
    refine atL (Sym.rd (k:=0) sE' FlL (by decide) rfl) hat fun ad e=>⟨_,e,y,sE'.ld (k:=1) rfl 5,now_ok (sE'.ld (k:=4) rfl 5) (Sym.rd (k:=5) sE' FlW (by decide) rfl) hw hl fun L fL=>⟨_,rfl,(sE'.more fL).ld (k:=1) rfl 5,?_⟩⟩
    refine Sym.stn (k:=0) (y:=N a) (sE'.more fL) FlL rfl hat rfl fun M sM=>⟨c.args.length - (j'+1),by omega,j'+1,wi (by omega),hj2,rfl,?_⟩
    rw [List.set_cons_zero,hset] at sM
    exact sM
   ·have hje:j'=c.args.length:=by have:=dge hge';omega
    rw [hje,List.take_length,List.drop_length,List.append_nil] at sE'
    have s2:=Sym.inrds FlL (by decide) (sE'.perm (R:=arr flL 9 1 y (c.args.map N)::rdsI flL 1 ps::blk bC (cL (renC N c) y) 36::arr flHC 36 6 l hs::blk bd (dkL c1 c2 c3 sn sh ss) 91::arr flW 48 2 ss sw::R) ((List.Perm.swap _ _ _).cons _))
    have next:∀ {hs':List HC}{xs':List ConD}{l':Sl}{M:Hp},Sym H0 no M (rdsI flL 1 ((y,c.args.map N)::ps)::arr flHC 36 6 l' hs'::blk bd (dkL c1 c2 c3 sn sh ss) 91::arr flW 48 2 ss sw::R)→Held ((y,c.args.map N)::ps) hs' xs'→xs'=ren N (x.cons.take (j+1))→∃ m2,m2 < x.cons.length - j∧∃ (j'':Nat) (hs:List HC) (ps:List (Sl × List L8)),w64 ((j:Int)+1)=(j'':Int)∧j''≤x.cons.length∧m2=x.cons.length - j''∧Sym H0 no M (rdsI flL 1 ps::arr flHC 36 6 l' hs::blk bd (dkL c1 c2 c3 sn sh ss) 91::arr flW 48 2 ss sw::R)∧Held ps hs (ren N (x.cons.take j'')):=
     fun sM hM e=>⟨_,by omega,j+1,_,_,wi (by omega),hj',rfl,sM,by rw [← e];exact hM⟩
    have sk:=s2.perm (R:=blk bC (cL (renC N c) y) 36::rdsI flL 1 ((y,c.args.map N)::ps)::arr flHC 36 6 l hs::blk bd (dkL c1 c2 c3 sn sh ss) 91::arr flW 48 2 ss sw::R) (List.Perm.swap _ _ _)
    have lrow:=(Sym.rd (k:=2) sk FlHC (by decide) rfl).len
    have put:stayC (renC N c)=true→∀ b M,Newb E' (.cells (flHC (HC.of (renC N c) y)).toArray 36) b M→App Tryz.prog #[24,24] 24 M [.slice l.a l.n l.c,.slice (some ⟨b,0,none⟩) 1 1] fun ap M'=>∃ m2,m2 < x.cons.length - j∧∃ (j'':Nat) (hs:List HC) (ps:List (Sl × List L8)),w64 ((j:Int)+1)=(j'':Int)∧j''≤x.cons.length∧m2=x.cons.length - j''∧Sym H0 no M' (rdsI flL 1 ps::arr flHC 36 6 ap hs::blk bd (dkL c1 c2 c3 sn sh ss) 91::arr flW 48 2 ss sw::R)∧Held ps hs (ren N (x.cons.take j'')):=fun hst b M hM=>by
     refine Sym.app1 (k:=2) (x:=HC.of (renC N c) y) tyCo sk FlHC (by decide) hM rfl (by omega) fun ap M' _ sM'=>?_
     replace sM':Sym H0 no M' (blk bC (cL (renC N c) y) 36::rdsI flL 1 ((y,c.args.map N)::ps)::arr flHC 36 6 ap (hs ++ [HC.of (renC N c) y])::blk bd (dkL c1 c2 c3 sn sh ss) 91::arr flW 48 2 ss sw::R):=sM'
     exact next (Sym.drop sM') (hh.more.snoc (c:=renC N c) List.mem_cons_self) (by rw [hsn,if_pos hst])
    refine ⟨c.op,sk.ld (k:=0) rfl 0,fun h2=>⟨_,_,_,_,_,_,⟨sk.ld (k:=0) rfl 0,sk.ld (k:=0) rfl 1,sk.ld (k:=0) rfl 2,sk.ld (k:=0) rfl 3,sk.ld (k:=0) rfl 4,sk.ld (k:=0) rfl 5,trivial⟩,put (decide_eq_true (.inl (bne_iff_ne.1 h2)))⟩,fun h2=>⟨_,sk.ld (k:=0) rfl 1,_,sk.ld (k:=0) rfl 2,fun hab=>⟨_,_,_,_,_,_,⟨sk.ld (k:=0) rfl 0,sk.ld (k:=0) rfl 1,sk.ld (k:=0) rfl 2,sk.ld (k:=0) rfl 3,sk.ld (k:=0) rfl 4,sk.ld (k:=0) rfl 5,trivial⟩,put (decide_eq_true (.inr fun e=>?_))⟩,fun hab=>?_⟩⟩
    ·have hab:(!(beqS (str (renC N c).a) (str (renC N c).b)))=true:=hab
     rw [e,beqS_iff.2 rfl] at hab
     cases hab
    ·have hab:(!(beqS (str (renC N c).a) (str (renC N c).b)))=false:=hab
     have hab:=str_inj (beqS_iff.1 (by simpa using hab))
     have hst:stayC (renC N c)=false:=decide_eq_false fun g=>by
      rcases g with g | g
      ·exact g (bne_eq_false_iff_eq.1 h2)
      ·exact g hab
     exact next (Sym.drop sk) hh.more (by rw [hsn,if_neg (by rw [hst];decide),List.append_nil])
  ·refine ⟨_,sJ.ld (k:=0) rfl 2,now_ok (sJ.ld (k:=3) rfl 5) (Sym.rd (k:=4) sJ FlW (by decide) rfl) hw hl fun L fL=>⟨_,rfl,?_⟩⟩
   refine (sJ.more fL).stb (k:=0) (i:=2) rfl (by simp) rfl fun M sM=>?_
   rw [if_neg (bne_iff_ne.1 h1)]
   exact sM
  ·rw [if_pos (bne_eq_false_iff_eq.1 h1)]
   exact sJ
 ·have hje:j=x.cons.length:=by have:=dge hge;omega
  rw [hje,List.take_length] at hh
  have rdx:=rdE (L:=[_,_,_,_]) sE
  have rl:Rd flHC 6 E l hs:=Sym.rd (k:=1) sE FlHC (by decide) rfl
  have hps:(rdsI flL 1 ps).ok E:=sE.get (k:=0) rfl
  have hrl:=ren_len N x.cons
  have hrd:RdSys E c1 c2 l ⟨x.objs,x.fns,ren N x.cons⟩:=⟨rdx.o,rdx.f,hs,rl,hh.1,fun i a c ha hc=>⟨(hh.2 i a c ha hc).1,(hps _ (hh.2 i a c ha hc).2).1⟩⟩
  have hlen:LenSys ⟨x.objs,x.fns,ren N x.cons⟩:=⟨hx.o,hx.f,⟨by show (ren N x.cons).length≤_;omega,fun c hc=>by
   obtain ⟨d,hd,rfl,_⟩:=ren_mem hc
   show (d.args.map N).length≤_
   rw [List.length_map]
   exact hx.c.2 d hd⟩⟩
  refine ⟨c1,sE.ld (k:=2) rfl 0,c2,by rw [add_mk,Nat.zero_add];exact sE.ld (k:=2) rfl 1,canon_ok hrd hlen fun c t F sF g hcan=>⟨c.y,c.y1,c.y2,rfl,?_⟩⟩
  have sj:=sE.join sF
  refine Sym.stbs (k:=7) (i:=0) (vs:=sL c.y c.y1 c.y2) sj rfl (by simp) (one3 _ _ _) fun G sG=>?_
  replace sG:Sym H0 no G (c.its++(rdsI flL 1 ps::arr flHC 36 6 l hs::blk bd (dkL c.y c.y1 c.y2 sn sh ss) 91::arr flW 48 2 ss sw::R)):=sG
  refine k c t G ?_ g hcan
  have s1:Sym H0 no G (c.its++([blk bd (dkL c.y c.y1 c.y2 sn sh ss) 91,arr flW 48 2 ss sw]++R)):=sG.sub ((List.Sublist.refl _).append ((List.sublist_cons_self _ _).trans (List.sublist_cons_self _ _)))
  refine s1.perm ?_
  rw [← List.append_assoc]
  exact (List.perm_append_comm.append_right R).trans (by rw [List.append_assoc];exact List.Perm.refl _)
end
end Go.Proofs.YtjdhjgfmloaglaaGreatDoor.C21
end
section
namespace Go.V
attribute [local irreducible] Lkp MUp
section
variable {τ : Type}{fl : τ→List Value}{sz:Nat}
variable {H0 H H':Hp}{S:Nat→Prop}{Pre:List It}{P:Program}{t kt et T E:TypeId}{r:Nat}{kvl:List ((L8 × Sl) × List τ)}{q:L8}{y:Sl}
theorem Sym.feedW {ty b:Nat}{by':Nat}{z:Value}{x : τ}{K:Hp→Prop}{W:Sl→Hp→Prop}(ht:TyS P T E sz by' z) (h:Sym H0 S H (Pre++mapI slV r (keysL kvl)::rowsI fl E sz kvl)) (hf:Fl fl sz) (hsz:0 < sz) (hy:AtK kvl q y) (hn:Newb H (.cells (fl x).toArray E) b H')
  (hu:P.underlying t=some (.map kt et)) (hk:P.underlying kt=some .string) (hl:((lookL kvl q).length+1)*by'≤140737488355328)
  (kk:∀ kvl' H',Sym H0 S H' (Pre++mapI slV r (keysL kvl')::rowsI fl E sz kvl')→(∀ z,lookL kvl' z=if z=q then lookL kvl q ++ [x] else lookL kvl z)→K H')
  (hW:∀ ap H3,(∀ a∈Pre,a.ok H3)→Fr S H0 H3→MUp P t H3 (.map (some r)) (.string (str q)) (.slice ap.a ap.n ap.c) K→W ap H3) :
  App P #[T,T] ty H' [.slice y.a y.n y.c,.slice (some ⟨b,0,none⟩) 1 1] W:=by
 have hlen:y.n=(lookL kvl q).length:=(h.asked hf hsz hy).len
 rcases hy with ⟨i,l,h1,h2,h3⟩ | ⟨h1,h2,h3,h4⟩
 ·rw [h3] at hlen hl kk
  refine Sym.app1 (k:=Pre.length+1+i) ht h hf hsz hn (pre_row h2) (by rw [hlen];exact hl) fun ap H3 _ s3=>?_
  have e1:(Pre++mapI slV r (keysL kvl)::rowsI fl E sz kvl).set (Pre.length+1+i) (arr fl E sz ap (l ++ [x]))=Pre++mapI slV r (keysL kvl)::(rowsI fl E sz kvl).set i (arr fl E sz ap (l ++ [x])):=by
   rw [List.set_append_right _ _ (by omega),show Pre.length+1+i - Pre.length=i+1 by omega,List.set_cons_succ]
  rw [e1] at s3
  refine hW ap H3 (fun a ha=>s3.ok a (List.mem_append.2 (.inl ha))) s3.fr ?_
  refine Sym.mup (k:=Pre.length) (v:=ap) s3 pre_at hu hk fun H4 s4=>?_
  have e2:putK (keysL kvl) q ap=keysL (kvl.set i ((q,ap),l ++ [x])):=by
   unfold putK
   rw [h1]
   unfold keysL
   rw [List.map_set]
  have e3:(rowsI fl E sz kvl).set i (arr fl E sz ap (l ++ [x]))=rowsI fl E sz (kvl.set i ((q,ap),l ++ [x])):=by
   unfold rowsI
   rw [List.map_set]
  rw [List.set_append_right _ _ (by omega),Nat.sub_self,List.set_cons_zero,e2,e3] at s4
  exact kk _ H4 s4 fun z=>by
   have:=look_set (v:=ap) (l':=l ++ [x]) h1 z
   rw [Nat.sub_zero] at this
   exact this
 ·rw [h3] at hl kk
  subst h2
  have s0:=h.nilrow fl E sz
  refine Sym.app1 (k:=0) ht s0 hf hsz hn rfl (by simpa using hl) fun ap H3 _ s3=>?_
  replace s3:Sym H0 S H3 (arr fl E sz ap ([] ++ [x])::(Pre++mapI slV r (keysL kvl)::rowsI fl E sz kvl)):=s3
  refine hW ap H3 (fun a ha=>s3.ok a (List.mem_cons_of_mem _ (List.mem_append.2 (.inl ha)))) s3.fr ?_
  refine Sym.mup (k:=Pre.length+1) (v:=ap) s3 (by rw [List.getElem?_cons_succ];exact pre_at) hu hk fun H4 s4=>?_
  have e2:putK (keysL kvl) q ap=keysL (kvl ++ [((q,ap),[x])]):=by
   unfold putK
   rw [h1]
   unfold keysL
   rw [List.map_append]
   rfl
  have e3:rowsI fl E sz (kvl ++ [((q,ap),[x])])=rowsI fl E sz kvl ++ [arr fl E sz ap [x]]:=by
   unfold rowsI
   rw [List.map_append]
   rfl
  rw [List.set_cons_succ,List.set_append_right _ _ (by omega),Nat.sub_self,List.set_cons_zero,e2] at s4
  have s5:Sym H0 S H4 (Pre++mapI slV r (keysL (kvl ++ [((q,ap),[x])]))::rowsI fl E sz (kvl ++ [((q,ap),[x])])):=by
   rw [e3]
   have:Pre++mapI slV r (keysL (kvl ++ [((q,ap),[x])]))::(rowsI fl E sz kvl ++ [arr fl E sz ap [x]])=(Pre++mapI slV r (keysL (kvl ++ [((q,ap),[x])]))::rowsI fl E sz kvl) ++ [arr fl E sz ap [x]]:=by simp
   rw [this]
   exact s4.perm (List.perm_append_singleton _ _).symm
  exact kk _ H4 s5 (look_push h4)
end
end Go.V
end
section
namespace Go.Proofs.YtjdhjgfmloaglaaGreatDoor.C21
open Go Go.V Go.Proofs N21 P14 C14 P15 C15 C18 P21
attribute [local irreducible] Cvt ExtF CallF hrun App MkS callV Lkp MUp
theorem muMap:Tryz.prog.underlying 130=some (.map 9 24):=by kernel_rfl
theorem muStr:Tryz.prog.underlying 9=some .string:=by kernel_rfl
theorem muInf:∃ inf:TypeInfo,Tryz.prog.info? 24=some inf∧inf.zero=some (.slice none 0 0)∧inf.size=1∧inf.bytes=24:=Go.V.info_of (by kernel_rfl)
def Lies (H0:Hp) (hs:List HC) (xs:List ConD):Prop:=hs.length=xs.length∧∀ (i:Nat) h x,hs[i]? = some h→xs[i]? = some x→InC H0 h x
theorem Lies.nil {H0:Hp}:Lies H0 [] []:=⟨rfl,by simp⟩
theorem Lies.snoc {H0:Hp}{hs:List HC}{xs:List ConD}{a:HC}{c:ConD}(h:Lies H0 hs xs) (hc:InC H0 a c):Lies H0 (hs ++ [a]) (xs ++ [c]):=by
 refine ⟨by rw [List.length_append,List.length_append,h.1];rfl,fun i u v hu hv=>?_⟩
 rw [List.getElem?_append] at hu hv
 rw [h.1] at hu
 split at hu
 ·rename_i hlt
  rw [if_pos hlt] at hv
  exact h.2 i u v hu hv
 ·rename_i hge
  rw [if_neg hge] at hv
  have hi:i - xs.length < 1:=(List.getElem?_eq_some_iff.1 hu).1
  have e0:i - xs.length=0:=by omega
  rw [e0] at hu hv
  rw [← Option.some_inj.1 hu,← Option.some_inj.1 hv]
  exact hc
section
variable {H0 A B:Hp}{b1:Nat}{R:List It}{kvl:List ((L8 × Sl) × List HC)}{q:L8}{K:Value→Hp→Prop}{Z:List PanicEntry→Hp→Prop}
abbrev FS (H0 A:Hp) (R:List It) (b1:Nat) (kvl:List ((L8 × Sl) × List HC)):Prop:=Sym H0 no A (R++mapI slV b1 (keysL kvl)::rowsI flHC 36 6 kvl)
theorem FS.more (h:FS H0 A R b1 kvl) (hf:Fr no A B):FS H0 B R b1 kvl:=Sym.more h hf
theorem FS.ask {Kx:Value→Hp→Prop}(h:FS H0 A R b1 kvl) (kk:∀ y,AtK kvl q y→Kx (.slice y.a y.n y.c) A):Lkp Tryz.prog 130 A (.map (some b1)) (.string (str q)) false Kx:=by
 obtain ⟨inf,i1,i2,_⟩:=muInf
 exact Sym.ask (Pre:=R) h muMap muStr i1 i2 kk
theorem FS.asked {y:Sl}(h:FS H0 A R b1 kvl) (hy:AtK kvl q y):Rd flHC 6 A y (lookL kvl q):=Sym.asked (Pre:=R) h FlHC (by decide) hy
theorem FS.feed {y:Sl}{b4:Nat}{x:HC}{Kx:Hp→Prop}{W:Sl→Hp→Prop}(h:FS H0 A R b1 kvl) (hy:AtK kvl q y) (hn:Newb A (.cells (flHC x).toArray 36) b4 B) (hl:(lookL kvl q).length≤1000000)
  (kk:∀ kvl' C,FS H0 C R b1 kvl'→(∀ z,lookL kvl' z=if z=q then lookL kvl q ++ [x] else lookL kvl z)→Kx C)
  (hW:∀ ap C,(∀ a∈R,a.ok C)→Fr no H0 C→MUp Tryz.prog 130 C (.map (some b1)) (.string (str q)) (.slice ap.a ap.n ap.c) Kx→W ap C) :
  App Tryz.prog #[24,24] 24 B [.slice y.a y.n y.c,.slice (some ⟨b4,0,none⟩) 1 1] W:=
 Sym.feedW (Pre:=R) tyCo h FlHC (by decide) hy hn muMap muStr (by omega) kk hW
def FeedA (H:Hp) (bC b1:Nat) (Kx:Hp→Prop):Prop:=
 ∃ x10:ByteArray,hcell H ⟨bC,1,none⟩=some (.string x10)∧∃ x11:ByteArray,hcell H ⟨bC,1,none⟩=some (.string x11) ∧
  ∃ (x_a2:Int) (x_b2 x_c2:ByteArray) (x_d2:Int) (x_e2:ByteArray) (x_f2:Sl),(hcell H ⟨bC,0,none⟩=some (.int .i64 x_a2) ∧
  hcell H ⟨bC,1,none⟩=some (.string x_b2)∧hcell H ⟨bC,2,none⟩=some (.string x_c2)∧hcell H ⟨bC,3,none⟩=some (.int .i64 x_d2) ∧
  hcell H ⟨bC,4,none⟩=some (.string x_e2)∧hcell H ⟨bC,5,none⟩=some (.slice x_f2.a x_f2.n x_f2.c) ∧
  True)∧((Lkp Tryz.prog 130 H (.map (some b1)) (.string x11) false fun r6 H21=>∃ y2:Sl,r6 = .slice y2.a y2.n y2.c ∧
  ((hcell H21 ⟨bC,0,none⟩=some (.int .i64 x_a2)∧hcell H21 ⟨bC,1,none⟩=some (.string x_b2) ∧
  hcell H21 ⟨bC,2,none⟩=some (.string x_c2)∧hcell H21 ⟨bC,3,none⟩=some (.int .i64 x_d2) ∧
  hcell H21 ⟨bC,4,none⟩=some (.string x_e2)∧hcell H21 ⟨bC,5,none⟩=some (.slice x_f2.a x_f2.n x_f2.c) ∧
  True)∧(hcell H21 ⟨bC,1,none⟩=some (.string x10)∧∀ b6 H22,Newb H21 (.cells #[.int .i64 x_a2,.string x_b2,.string x_c2,.int .i64 x_d2,.string x_e2,.slice x_f2.a x_f2.n x_f2.c] 36) b6 H22 →
  (hcell H22 ⟨bC,1,none⟩=some (.string x10)∧App Tryz.prog #[24,24] 24 H22 [.slice y2.a y2.n y2.c,.slice (some ⟨b6,0,none⟩) 1 1] fun ap2 H23=>
  (hcell H23 ⟨bC,1,none⟩=some (.string x10)∧MUp Tryz.prog 130 H23 (.map (some b1)) (.string x10) (.slice ap2.a ap2.n ap2.c) fun H24=>
  Kx H24)))))∧(∀ b7 H25,Newb H (.cells #[.int .i64 x_a2,.string x_b2,.string x_c2,.int .i64 x_d2,.string x_e2,.slice x_f2.a x_f2.n x_f2.c] 36) b7 H25 →
  (hcell H25 ⟨bC,1,none⟩=some (.string x11)∧(hcell H25 ⟨bC,1,none⟩=some (.string x10)∧Lkp Tryz.prog 130 H25 (.map (some b1)) (.string x11) false fun r7 H26=>
  ∃ y3:Sl,r7 = .slice y3.a y3.n y3.c∧(hcell H26 ⟨bC,1,none⟩=some (.string x10)∧App Tryz.prog #[24,24] 24 H26 [.slice y3.a y3.n y3.c,.slice (some ⟨b7,0,none⟩) 1 1] fun ap3 H27=>
  (hcell H27 ⟨bC,1,none⟩=some (.string x10)∧MUp Tryz.prog 130 H27 (.map (some b1)) (.string x10) (.slice ap3.a ap3.n ap3.c) fun H28=>
  Kx H28))))))
theorem feedA_ok {bC:Nat}{c:ConD}{t:Sl}{Kx:Hp→Prop}(h:FS H0 A (blk bC (cL c t) 36::R) b1 kvl) (hl:(lookL kvl c.a).length≤1000000)
  (kk:∀ kvl' C,FS H0 C (blk bC (cL c t) 36::R) b1 kvl'→(∀ z,lookL kvl' z=if z=c.a then lookL kvl c.a ++ [HC.of c t] else lookL kvl z)→Kx C):FeedA A bC b1 Kx:=by
 unfold FeedA
 have at1:∀ {C:Hp},(∀ a∈blk bC (cL c t) 36::R,a.ok C)→hcell C ⟨bC,1,none⟩=some (.string (str c.a)):=fun ha=>Blk.ld (show Blk _ bC (cL c t) 36 from ha _ List.mem_cons_self) 1
 refine ⟨_,Sym.ld (k:=0) h rfl 1,_,Sym.ld (k:=0) h rfl 1,_,_,_,_,_,t,⟨Sym.ld (k:=0) h rfl 0,Sym.ld (k:=0) h rfl 1,Sym.ld (k:=0) h rfl 2,Sym.ld (k:=0) h rfl 3,Sym.ld (k:=0) h rfl 4,Sym.ld (k:=0) h rfl 5,trivial⟩,FS.ask h fun y hy=>⟨y,rfl,⟨Sym.ld (k:=0) h rfl 0,Sym.ld (k:=0) h rfl 1,Sym.ld (k:=0) h rfl 2,Sym.ld (k:=0) h rfl 3,Sym.ld (k:=0) h rfl 4,Sym.ld (k:=0) h rfl 5,trivial⟩,Sym.ld (k:=0) h rfl 1,fun b6 D hD=>⟨Sym.ld (k:=0) (Sym.more h hD.fr) rfl 1,?_⟩⟩,fun b7 D hD=>⟨Sym.ld (k:=0) (Sym.more h hD.fr) rfl 1,Sym.ld (k:=0) (Sym.more h hD.fr) rfl 1,(FS.more h hD.fr).ask fun y hy=>⟨y,rfl,Sym.ld (k:=0) (Sym.more h hD.fr) rfl 1,?_⟩⟩⟩
 ·exact FS.feed h (x:=HC.of c t) hy hD hl kk fun ap C hp fC hm=>⟨at1 hp,hm⟩
 ·exact FS.feed h (x:=HC.of c t) hy hD hl kk fun ap C hp fC hm=>⟨at1 hp,hm⟩
def FeedB (H12:Hp) (bC b1:Nat) (Kx:Hp→Prop):Prop:=
 ∃ x6:Sl,hcell H12 ⟨bC,5,none⟩=some (.slice x6.a x6.n x6.c)∧IxA x6.a x6.n 0 1 fun ad1=>
  (∃ x7:ByteArray,hcell H12 ad1=some (.string x7)∧∃ x8:Sl,hcell H12 ⟨bC,5,none⟩=some (.slice x8.a x8.n x8.c) ∧
  IxA x8.a x8.n 0 1 fun ad2=>(∃ x9:ByteArray,hcell H12 ad2=some (.string x9)∧∃ (x_a1:Int) (x_b1 x_c1:ByteArray) (x_d1:Int) (x_e1:ByteArray) (x_f1:Sl),(hcell H12 ⟨bC,0,none⟩=some (.int .i64 x_a1) ∧
  hcell H12 ⟨bC,1,none⟩=some (.string x_b1)∧hcell H12 ⟨bC,2,none⟩=some (.string x_c1)∧hcell H12 ⟨bC,3,none⟩=some (.int .i64 x_d1) ∧
  hcell H12 ⟨bC,4,none⟩=some (.string x_e1)∧hcell H12 ⟨bC,5,none⟩=some (.slice x_f1.a x_f1.n x_f1.c) ∧
  True)∧((Lkp Tryz.prog 130 H12 (.map (some b1)) (.string x9) false fun r4 H13=>∃ y:Sl,r4 = .slice y.a y.n y.c ∧
  ((hcell H13 ⟨bC,0,none⟩=some (.int .i64 x_a1)∧hcell H13 ⟨bC,1,none⟩=some (.string x_b1) ∧
  hcell H13 ⟨bC,2,none⟩=some (.string x_c1)∧hcell H13 ⟨bC,3,none⟩=some (.int .i64 x_d1) ∧
  hcell H13 ⟨bC,4,none⟩=some (.string x_e1)∧hcell H13 ⟨bC,5,none⟩=some (.slice x_f1.a x_f1.n x_f1.c) ∧
  True)∧(hcell H13 ad1=some (.string x7)∧(hcell H13 ⟨bC,5,none⟩=some (.slice x6.a x6.n x6.c) ∧
  ∀ b4 H14,Newb H13 (.cells #[.int .i64 x_a1,.string x_b1,.string x_c1,.int .i64 x_d1,.string x_e1,.slice x_f1.a x_f1.n x_f1.c] 36) b4 H14 →
  (hcell H14 ad1=some (.string x7)∧(hcell H14 ⟨bC,5,none⟩=some (.slice x6.a x6.n x6.c)∧App Tryz.prog #[24,24] 24 H14 [.slice y.a y.n y.c,.slice (some ⟨b4,0,none⟩) 1 1] fun ap H15=>
  (hcell H15 ad1=some (.string x7)∧(hcell H15 ⟨bC,5,none⟩=some (.slice x6.a x6.n x6.c)∧MUp Tryz.prog 130 H15 (.map (some b1)) (.string x7) (.slice ap.a ap.n ap.c) fun H16=>
  Kx H16))))))))∧(∀ b5 H17,Newb H12 (.cells #[.int .i64 x_a1,.string x_b1,.string x_c1,.int .i64 x_d1,.string x_e1,.slice x_f1.a x_f1.n x_f1.c] 36) b5 H17 →
  (hcell H17 ad2=some (.string x9)∧(hcell H17 ⟨bC,5,none⟩=some (.slice x8.a x8.n x8.c)∧(hcell H17 ad1=some (.string x7) ∧
  (hcell H17 ⟨bC,5,none⟩=some (.slice x6.a x6.n x6.c)∧Lkp Tryz.prog 130 H17 (.map (some b1)) (.string x9) false fun r5 H18=>
  ∃ y1:Sl,r5 = .slice y1.a y1.n y1.c∧(hcell H18 ad1=some (.string x7)∧(hcell H18 ⟨bC,5,none⟩=some (.slice x6.a x6.n x6.c) ∧
  App Tryz.prog #[24,24] 24 H18 [.slice y1.a y1.n y1.c,.slice (some ⟨b5,0,none⟩) 1 1] fun ap1 H19=>
  (hcell H19 ad1=some (.string x7)∧(hcell H19 ⟨bC,5,none⟩=some (.slice x6.a x6.n x6.c)∧MUp Tryz.prog 130 H19 (.map (some b1)) (.string x7) (.slice ap1.a ap1.n ap1.c) fun H20=>
  Kx H20))))))))))))
theorem feedB_ok {bC:Nat}{c:ConD}{t:Sl}{n:L8}{l:List L8}{Kx:Hp→Prop}(h:FS H0 A (blk bC (cL c t) 36::R) b1 kvl) (hta:Rd flL 1 H0 t c.args) (ha:c.args=n::l) (hl:(lookL kvl n).length≤1000000)
  (kk:∀ kvl' C,FS H0 C (blk bC (cL c t) 36::R) b1 kvl'→(∀ z,lookL kvl' z=if z=n then lookL kvl n ++ [HC.of c t] else lookL kvl z)→Kx C):FeedB A bC b1 Kx:=by
 unfold FeedB
 rw [ha] at hta
 have at5:∀ {C:Hp},(∀ a∈blk bC (cL c t) 36::R,a.ok C)→hcell C ⟨bC,5,none⟩=some (.slice t.a t.n t.c):=fun ha=>Blk.ld (show Blk _ bC (cL c t) 36 from ha _ List.mem_cons_self) 5
 have fA:=Sym.fr h
 refine ⟨t,Sym.ld (k:=0) h rfl 5,atL (i:=0) hta rfl fun ad1 e1=>⟨_,lf fA e1,t,Sym.ld (k:=0) h rfl 5,atL (i:=0) hta rfl fun ad2 e2=>⟨_,lf fA e2,_,_,_,_,_,t,⟨Sym.ld (k:=0) h rfl 0,Sym.ld (k:=0) h rfl 1,Sym.ld (k:=0) h rfl 2,Sym.ld (k:=0) h rfl 3,Sym.ld (k:=0) h rfl 4,Sym.ld (k:=0) h rfl 5,trivial⟩,FS.ask h fun y hy=>⟨y,rfl,⟨Sym.ld (k:=0) h rfl 0,Sym.ld (k:=0) h rfl 1,Sym.ld (k:=0) h rfl 2,Sym.ld (k:=0) h rfl 3,Sym.ld (k:=0) h rfl 4,Sym.ld (k:=0) h rfl 5,trivial⟩,lf fA e1,Sym.ld (k:=0) h rfl 5,fun b6 D hD=>⟨lf (fA.trans hD.fr) e1,Sym.ld (k:=0) (Sym.more h hD.fr) rfl 5,?_⟩⟩,fun b7 D hD=>⟨lf (fA.trans hD.fr) e2,Sym.ld (k:=0) (Sym.more h hD.fr) rfl 5,lf (fA.trans hD.fr) e1,Sym.ld (k:=0) (Sym.more h hD.fr) rfl 5,(FS.more h hD.fr).ask fun y hy=>⟨y,rfl,lf (fA.trans hD.fr) e1,Sym.ld (k:=0) (Sym.more h hD.fr) rfl 5,?_⟩⟩⟩⟩⟩
 ·exact FS.feed h (x:=HC.of c t) hy hD hl kk fun ap C hp fC hm=>⟨lf fC e1,at5 hp,hm⟩
 ·exact FS.feed h (x:=HC.of c t) hy hD hl kk fun ap C hp fC hm=>⟨lf fC e1,at5 hp,hm⟩
end
theorem fed_snoc {cs:List ConD}{c:ConD}{j:Nat}{z:L8}(hc:cs[j]? = some c):fed (cs.take (j+1)) z=fed (cs.take j) z++((if c.op≠4∧c.a=z then [c] else [])++(if c.op=6∧c.args.head? = some z∧z ≠ [] then [c] else [])):=flat_snoc (f:=feedL z) hc
theorem fed_len {cs:List ConD}{z:L8}:(fed cs z).length≤cs.length*2:=flat_le fun c _=>by
 unfold feedL
 rw [List.length_append]
 split <;> split <;> simp
section
variable {H:Hp}{bd:Nat}{c1 c2 c3:Sl}{qs:List HC}{x:SysD}{K:Value→Hp→Prop}{Z:List PanicEntry→Hp→Prop}
set_option maxRecDepth 10000 in
theorem feeds_ok (hd:hcell H ⟨bd,2,none⟩=some (.slice c3.a c3.n c3.c)) (hr:RdF H c1 c2 c3 qs x) (h6:∀ c∈x.cons,c.op=6→∃ n l,c.args=n::l) (hc6:x.cons.length≤6000)
  (k:∀ b kvl B,FS H B [] b kvl→(∀ z,Lies H (lookL kvl z) (fed x.cons z))→K (.map (some b)) B):CallF Tryz.prog 97 #[.pointer (some ⟨bd,0,none⟩)] H K Z:=by
 refine V97_ok ?_
 unfold V97
 intro b A hA
 have sA:FS H A [] b []:=Sym.mnew (vl:=slV) (Sym.start H) hA
 have n3:=hr.c.len
 have nq:=hr.len
 refine ⟨c3,by rw [add_mk,Nat.zero_add];exact lf sA.fr hd,fun i E m=>∃ (j:Nat) (kvl:List ((L8 × Sl) × List HC)),i=(j:Int)∧j≤x.cons.length∧m=x.cons.length - j∧FS H E [] b kvl∧∀ z,Lies H (lookL kvl z) (fed (x.cons.take j) z),⟨_,0,[],rfl,Nat.zero_le _,rfl,sA,fun z=>Lies.nil⟩,?_⟩
 rintro i E m ⟨j,kvl,rfl,hj,rfl,sE,hl⟩ scr
 refine ⟨fun hlt=>?_,fun hge=>?_⟩
 ·have hj':j < x.cons.length:=by have:=dlt hlt;omega
  obtain ⟨c,hcj,hcm⟩:=getN hj'
  obtain ⟨q,hqj,_⟩:=getN (xs:=qs) (i:=j) (by omega)
  obtain ⟨eq,hta⟩:=hr.l j q c hqj hcj
  generalize q.2.2.2.2.2=t at eq hta
  subst eq
  have hin:InC H (HC.of c t) c:=⟨rfl,hta⟩
  have hsn:∀ z,fed (x.cons.take (j+1)) z=_:=fun z=>fed_snoc (z:=z) hcj
  have hfl:∀ z,(fed (x.cons.take j) z).length≤12000:=fun z=>by
   have:=fed_len (cs:=x.cons.take j) (z:=z)
   rw [List.length_take] at this
   omega
  generalize fed (x.cons.take j)=fd at hl hsn hfl
  refine (hr.c.more sE.fr).ix (by decide) FlHC (by omega) (by simpa using hqj) fun ad g1 g2=>⟨_,_,_,_,_,t,⟨g2,g1 1 _ rfl,g1 2 _ rfl,g1 3 _ rfl,g1 4 _ rfl,g1 5 _ rfl,trivial⟩,fun bC F hF=>?_⟩
  have sF:=Sym.newb sE (cs:=[.int .i64 0,.string ⟨#[]⟩,.string ⟨#[]⟩,.int .i64 0,.string ⟨#[]⟩,.slice none 0 0]) hF
  refine sF.stbs (k:=0) (i:=0) (vs:=cL c t) rfl (by simp) (FlHC.2 (HC.of c t)) fun G sG=>?_
  replace sG:FS H G [blk bC (cL c t) 36] b kvl:=sG
  refine ⟨fun E'=>∃ kvl',FS H E' [blk bC (cL c t) 36] b kvl'∧∀ z,Lies H (lookL kvl' z) (fd z++if c.op≠4∧c.a=z then [c] else []),?_,c.op,Sym.ld (k:=0) sG rfl 0,fun h4=>?_,fun h4=>⟨kvl,sG,fun z=>?_⟩⟩
  ·rintro E1 ⟨kv1,s1,l1⟩ scr1
   have next:∀ {M:Hp}{kv2:List ((L8 × Sl) × List HC)},FS H M [blk bC (cL c t) 36] b kv2→(∀ z,Lies H (lookL kv2 z) (fed (x.cons.take (j+1)) z))→∃ m2,m2 < x.cons.length - j∧∃ (j'':Nat) (kvl:List ((L8 × Sl) × List HC)),w64 ((j:Int)+1)=(j'':Int)∧j''≤x.cons.length∧m2=x.cons.length - j''∧FS H M [] b kvl∧∀ z,Lies H (lookL kvl z) (fed (x.cons.take j'') z):=fun sM lM=>⟨_,by omega,j+1,_,wi (by omega),hj',rfl,Sym.drop sM,lM⟩
   refine ⟨fun w E2=>E2=E1∧(w=true↔c.op=6∧c.args.head?≠some []),?_,c.op,Sym.ld (k:=0) s1 rfl 0,fun h6'=>?_,fun h6'=>⟨rfl,?_⟩⟩
   ·rintro w E2 ⟨rfl,hw⟩ scr2
    refine ⟨fun hwt=>?_,fun hwf=>next s1 fun z=>?_⟩
    ·obtain ⟨o6,hne⟩:=hw.1 hwt
     obtain ⟨n,l,ha⟩:=h6 c hcm o6
     have hn0:n ≠ []:=fun e=>hne (by rw [ha,e];rfl)
     have hlen:(lookL kv1 n).length≤1000000:=by
      have e:=(l1 n).1
      rw [List.length_append] at e
      have:=hfl n
      have:(if c.op≠4∧c.a=n then [c] else []).length≤1:=by split <;> simp
      omega
     refine feedB_ok s1 hta ha hlen fun kv2 M sM hz=>next sM fun z=>?_
     rw [hz z,hsn z,← List.append_assoc]
     by_cases e:z=n
     ·have e2:(if c.op=6∧c.args.head? = some z∧z ≠ [] then [c] else []) = [c]:=if_pos ⟨o6,by rw [ha,e];rfl,by rw [e];exact hn0⟩
      rw [if_pos e,e2,e]
      exact (l1 n).snoc hin
     ·have e2:(if c.op=6∧c.args.head? = some z∧z ≠ [] then [c] else []) = []:=if_neg fun h=>e (by rw [ha] at h;exact (Option.some_inj.1 h.2.1).symm)
      rw [if_neg e,e2,List.append_nil]
      exact l1 z
    ·have e2:(if c.op=6∧c.args.head? = some z∧z ≠ [] then [c] else []) = []:=if_neg (by
      rintro ⟨o6,hh,hz⟩
      have:=hw.2 ⟨o6,by rw [hh];exact fun e=>hz (Option.some_inj.1 e)⟩
      rw [hwf] at this
      cases this)
     rw [hsn z,← List.append_assoc,e2,List.append_nil]
     exact l1 z
   ·have o6:=eqI.1 h6'
    obtain ⟨n,l,ha⟩:=h6 c hcm o6
    rw [ha] at hta
    refine ⟨t,Sym.ld (k:=0) s1 rfl 5,atL (i:=0) (hta.more s1.fr) rfl fun ad1 e1=>⟨_,e1,rfl,?_⟩⟩
    rw [str_nil,beq_str]
    rw [ha]
    constructor
    ·intro h
     exact ⟨o6,fun e=>(notd.1.1 h) (Option.some_inj.1 e)⟩
    ·rintro ⟨_,h⟩
     exact notd.1.2 fun e=>h (by rw [e];rfl)
   ·constructor
    ·intro h;cases h
    ·rintro ⟨o6,_⟩
     exact absurd o6 (neI.1 h6')
  ·have o4:=bne_iff_ne.1 h4
   refine feedA_ok sG (by rw [(hl c.a).1];have:=hfl c.a;omega) fun kv2 M sM hz=>⟨kv2,sM,fun z=>?_⟩
   rw [hz z]
   by_cases e:z=c.a
   ·rw [if_pos e,if_pos ⟨o4,e.symm⟩,e]
    exact (hl c.a).snoc hin
   ·rw [if_neg e,if_neg (fun h=>e h.2.symm),List.append_nil]
    exact hl z
  ·rw [if_neg (fun h=>h.1 (bne_eq_false_iff_eq.1 h4)),List.append_nil]
   exact hl z
 ·have hje:j=x.cons.length:=by have:=dge hge;omega
  rw [hje,List.take_length] at hl
  exact k b kvl E sE hl
end
end Go.Proofs.YtjdhjgfmloaglaaGreatDoor.C21
end
section
namespace Go.Proofs.YtjdhjgfmloaglaaGreatDoor.C21
open Go Go.V Go.Proofs N21 P14 C14 P15 C15 C18 P21
attribute [local irreducible] Cvt ExtF CallF hrun App MkS callV Lkp MUp
def hidL (lt:List L8):L8→Bool:=fun n=>decide (n∈lt)
abbrev DR (sn sh:Sl) (nodes lt:List L8) (R:List It):List It:=arr flL 9 1 sn nodes::arr flL 9 1 sh lt::R
theorem ins_mem {sw:List Swp}{p:Nat}{a w:Swp}:w∈sw.take p ++ [a]++sw.drop p↔w∈sw∨w=a:=by
 have:=congrArg (fun l=>w∈l) (List.take_append_drop p sw)
 simp only [List.mem_append,eq_iff_iff] at this
 rw [List.mem_append,List.mem_append,List.mem_singleton,← this]
 constructor
 ·rintro ((a | a) | a)
  ·exact .inl (.inl a)
  ·exact .inr a
  ·exact .inl (.inr a)
 ·rintro ((a | a) | a)
  ·exact .inl (.inl a)
  ·exact .inr a
  ·exact .inl (.inr a)
theorem ins_len {sw:List Swp}{p:Nat}{a:Swp}:(sw.take p ++ [a]++sw.drop p).length=sw.length+1:=by
 have:=congrArg List.length (List.take_append_drop p sw)
 rw [List.length_append] at this
 rw [List.length_append,List.length_append,List.length_singleton]
 omega
section
variable {H0 A:Hp}{K:Value→Hp→Prop}{Z:List PanicEntry→Hp→Prop}{c1 c2 c3 sn sh ss:Sl}{sw:List Swp}{N:L8→L8}{rk:L8→Nat}{bd:Nat}{R:List It}{x:SysD}{qs:List HC}{nodes lt:List L8}
theorem once_ok (h:Sym H0 no A (blk bd (dkL c1 c2 c3 sn sh ss) 91::arr flW 48 2 ss sw::DR sn sh nodes lt R)) (hw:Sw sw N rk) (hl:sw.length≤90000) (hr:∀ B,(∀ a∈R,a.ok B)→Fr no H0 B→RdF B c1 c2 c3 qs x) (hx:LenSys x) (h0:checkE x=0) (hc6:x.cons.length≤6000)
  (hst:∀ c∈x.cons,stayC c=true) (hfix:∀ z,named x.cons z→N z=z) (hnl:nodes.length≤100000) (hlt:Rising ltL lt) (hll:lt.length≤100000)
  (k1:∀ (j:Nat) n c ss' sw' rk' (cs:CanS) t B,nodes[j]? = some n→(∀ m∈nodes.take j,hidL lt m=true→∀ c,fed x.cons m = [c]→c.op≠2)→hidL lt n=true→fed x.cons n = [c]→c.op=2→Sw sw' (fun z=>if N z=n then c.b else N z) rk'→(∀ w,w∈sw'↔w∈sw∨w=(n,c.b))→sw'.length=sw.length+1→Sym H0 no B (blk bd (dkL cs.y cs.y1 cs.y2 sn sh ss') 91::arr flW 48 2 ss' sw'::(cs.its++DR sn sh nodes lt R))→cs.good t→IsCanS ⟨x.objs,x.fns,ren (fun z=>if N z=n then c.b else N z) x.cons⟩ t→K (.bool true) B)
  (k2:∀ B,Fr no A B→(∀ n∈nodes,hidL lt n=true→∀ c,fed x.cons n = [c]→c.op≠2)→K (.bool false) B) :
  CallF Tryz.prog 49 #[.pointer (some ⟨bd,0,none⟩)] A K Z:=by
 refine V49_ok ?_
 unfold V49
 have rdA:RdF A c1 c2 c3 qs x:=hr A (fun a ha=>h.ok a (by simp [ha])) h.fr
 have hR:=check_right h0
 have h6:∀ c∈x.cons,c.op=6→∃ n l,c.args=n::l:=fun c hc h6=>by
  have he:=conE_0.1 ((checkE_0.1 h0).2.1.c c hc)
  have h3:=he.2.2
  rw [if_pos h6] at h3
  unfold callB at h3
  simp only [Bool.and_eq_true,decide_eq_true_eq] at h3
  have:=h3.2.2.2.2.1
  cases e:c.args with
  | nil=>rw [e] at this;simp at this
  | cons n l=>exact ⟨n,l,rfl⟩
 refine feeds_ok (h.ld (k:=0) rfl 2) rdA h6 hc6 fun b kvl B sB hl'=>⟨some b,rfl,sn,?_,?_⟩
 ·rw [add_mk,Nat.zero_add]
  exact (h.more sB.fr).ld (k:=0) rfl 3
 have rn:Rd flL 1 A sn nodes:=Sym.rd (k:=2) h FlL (by decide) rfl
 have rl:Rd flL 1 A sh lt:=Sym.rd (k:=3) h FlL (by decide) rfl
 have ln:=rn.len
 refine ⟨fun i E m=>∃ j:Nat,E=B∧i=(j:Int)∧j≤nodes.length∧m=nodes.length - j∧∀ n∈nodes.take j,hidL lt n=true→∀ c,fed x.cons n = [c]→c.op≠2,⟨_,0,rfl,rfl,Nat.zero_le _,rfl,by simp⟩,?_⟩
 rintro i E m ⟨j,rfl,rfl,hj,rfl,hno⟩ scr
 refine ⟨fun hlt'=>?_,fun hge=>?_⟩
 ·have hj':j < nodes.length:=by have:=dlt hlt';omega
  obtain ⟨n,hn,hnm⟩:=getN hj'
  have next:(hidL lt n=true→∀ c,fed x.cons n = [c]→c.op≠2)→∃ m2,m2 < nodes.length - j∧∃ j':Nat,E=E∧w64 ((j:Int)+1)=(j':Int)∧j'≤nodes.length∧m2=nodes.length - j'∧∀ n∈nodes.take j',hidL lt n=true→∀ c,fed x.cons n = [c]→c.op≠2:=fun hthis=>by
   refine ⟨_,by omega,j+1,rfl,wi (by omega),hj',rfl,fun z hz=>?_⟩
   rw [List.take_add_one,hn] at hz
   rcases List.mem_append.1 hz with hz | hz
   ·exact hno z hz
   ·rw [List.mem_singleton.1 hz]
    exact hthis
  refine atL (rn.more sB.fr) hn fun ad e=>⟨_,e,FS.ask (q:=n) sB fun y hy=>⟨y,rfl,?_⟩⟩
  have ry:=FS.asked sB hy
  have ly:=ry.len
  have hL:=hl' n
  refine hidden_ok ((h.more sB.fr).ld (k:=0) rfl 4) (rl.more sB.fr) hlt (by omega) ⟨_,rfl,fun hh=>?_,fun hh=>next fun g=>?_⟩
  ·refine ⟨fun h1=>?_,fun h1=>next fun _ c hf=>?_⟩
   ·have hy1:y.n=1:=by have:=eqI.1 h1;omega
    have f1:(fed x.cons n).length=1:=by rw [← hL.1,← ly];exact hy1
    obtain ⟨c,hf⟩:=List.length_eq_one_iff.1 f1
    obtain ⟨q,hq⟩:=List.length_eq_one_iff.1 (show (lookL kvl n).length=1 by rw [hL.1];exact f1)
    have hin:=hL.2 0 q c (by rw [hq];rfl) (by rw [hf];rfl)
    have eq:=hin.1
    have hq0:(lookL kvl n)[(0:Int).toNat]? = some q:=by rw [hq];rfl
    refine ry.ix (by decide) FlHC (by omega) hq0 fun ad1 g1 g2=>?_
    rw [eq] at g1 g2
    refine ⟨c.op,g2,fun h2=>?_,fun h2=>next fun _ d hd=>?_⟩
    ·have o2:=eqI.1 h2
     obtain ⟨hc,ha⟩:=fed_in hf o2
     have hb:named x.cons c.b:=⟨c,hc,.inr (.inl ⟨by omega,rfl⟩)⟩
     have hnn:named x.cons n:=⟨c,hc,.inl ha⟩
     have hne:n≠c.b:=fun e=>by
      have:=of_decide_eq_true (hst c hc)
      rcases this with g | g
      ·exact g o2
      ·exact g (by rw [ha,e])
     refine ry.ix (by decide) FlHC (by omega) hq0 fun ad2 g3 g4=>?_
     rw [eq] at g3
     refine ⟨_,g3 2 _ rfl,swap_ok (h.more sB.fr) hw (hfix n hnn) (hfix c.b hb) hne hl fun ss' p rk' C sC hw'=>⟨rfl,renew_ok (N:=fun z=>if N z=n then c.b else N z) sC hw' (by rw [ins_len];omega) (fun D hD fD=>hr D (fun a ha=>hD a (by simp [ha])) fD) hx hc6 fun cs t D sD g hcan=>⟨rfl,k1 j n c ss' _ rk' cs t D hn hno hh hf o2 hw' (fun w=>ins_mem) ins_len sD g hcan⟩⟩⟩
    ·rw [hf] at hd
     have:c=d:=by simpa using hd
     rw [← this]
     exact neI.1 h2
   ·have:y.n=1:=by rw [ly,hL.1,hf];rfl
    rw [this] at h1
    cases h1
  ·unfold hidL at g
   rw [hh] at g
   cases g
 ·have hje:j=nodes.length:=by have:=dge hge;omega
  rw [hje,List.take_length] at hno
  exact k2 E sB.fr hno
end
end Go.Proofs.YtjdhjgfmloaglaaGreatDoor.C21
end
section
set_option maxRecDepth 100000
namespace Go.Proofs.YtjdhjgfmloaglaaGreatDoor.N07
open Go Go.V Go.Proofs
def V172 (H:Hp) (s:Sl) (v:Int) (K:Value→Hp→Prop) (Z:List PanicEntry→Hp→Prop):Prop:=
 ∃ I:Int→Hp→Nat→Prop,(∃ m,I 0 H m)∧∀ (t8:Int),∀ H1 m1,I t8 H1 m1→∀ scr:Nat→Value,(((decide (t8 < (s.n:Int)))=true →
  IxA s.a s.n t8 1 fun ad=>(∃ x:Int,hcell H1 ad=some (.int .i64 x)∧(((v == x)=true→K (.int .i64 t8) H1) ∧
  ((v == x)=false→(∃ m2,m2 < m1∧I (w64 (t8+1)) H1 m2)))))∧((decide (t8 < (s.n:Int)))=false →
  K (.int .i64 (-1)) H1))
def aL172:Ann:=(fun k=>if k=2 then some [(8,(.sc (.int .i64)))] else none)
theorem V172_ok {H s v K Z} (h:V172 H s v K Z):CallF Tryz.prog 172 #[.slice s.a s.n s.c,.int .i64 v] H K Z:=
 fnC_sound (aJ:=fun _=>none) (aL:=aL172) (Eq.mp (by kernel_rfl) h)
def V143 (H:Hp) (s:Sl) (v:Int) (K:Value→Hp→Prop) (Z:List PanicEntry→Hp→Prop):Prop:=
 CallF Tryz.prog 172 #[.slice s.a s.n s.c,.int .i64 v] H (fun r H1=>∃ y:Int,r = .int .i64 y ∧
  K (.bool (decide (y≥0))) H1) Z
theorem V143_ok {H s v K Z} (h:V143 H s v K Z):CallF Tryz.prog 143 #[.slice s.a s.n s.c,.int .i64 v] H K Z:=
 fnC_sound (aJ:=fun _=>none) (aL:=fun _=>none) (Eq.mp (by kernel_rfl) h)
def V141 (H:Hp) (n:Int) (l:Sl) (K:Value→Hp→Prop) (Z:List PanicEntry→Hp→Prop):Prop:=
 ∃ J:Hp→Prop,(∀ H1,J  H1→∀ scr:Nat→Value,MkS Tryz.prog 183 H1 (.int .i64 n) (.int .i64 n) fun mk H2=>
  (∃ I:Int→Hp→Nat→Prop,(∃ m,I 0 H2 m)∧∀ (t18:Int),∀ H3 m1,I t18 H3 m1→∀ scr1:Nat →
  Value,(((decide (t18 < (l.n:Int)))=true→IxA l.a l.n t18 2 fun ad=>(∃ x_a x_b:Int,(hcell H3 ad=some (.int .i64 x_a) ∧
  hcell H3 (Addr.add ad 1)=some (.int .i64 x_b)∧True)∧∀ bE H4,Newb H3 (.cells #[.int .i64 0,.int .i64 0] 144) bE H4 →
  StL ⟨bE,0,none⟩ 0 [.int .i64 x_a,.int .i64 x_b] H4 fun H5=>(∃ x:Int,hcell H5 ⟨bE,0,none⟩=some (.int .i64 x) ∧
  (((decide (x≥0))=true→∃ x1:Int,hcell H5 ⟨bE,0,none⟩=some (.int .i64 x1)∧(((decide (x1 < n))=true →
  ∃ x2:Int,hcell H5 ⟨bE,1,none⟩=some (.int .i64 x2)∧(((decide (x2≥0))=true→∃ x3:Int,hcell H5 ⟨bE,1,none⟩=some (.int .i64 x3) ∧
  (((decide (x3 < n))=true→∃ x4:Int,hcell H5 ⟨bE,1,none⟩=some (.int .i64 x4)∧((∃ x5:Int,hcell H5 ⟨bE,0,none⟩=some (.int .i64 x5) ∧
  ((∃ x6:Int,hcell H5 ⟨bE,0,none⟩=some (.int .i64 x6)∧IxA mk.a mk.n x6 1 fun ad1=>((∃ x7:Sl,hcell H5 ad1=some (.slice x7.a x7.n x7.c) ∧
  ∀ b H6,Newb H5 (.cells #[.int .i64 x4] 3) b H6→App Tryz.prog #[103,103] 103 H6 [.slice x7.a x7.n x7.c,.slice (some ⟨b,0,none⟩) 1 1] fun ap H7=>
  (IxA mk.a mk.n x5 1 fun ad2=>(StL ad2 0 [.slice ap.a ap.n ap.c] H7 fun H8=>(∃ m2,m2 < m1∧I (w64 (t18+1)) H8 m2)))) ∧
  (∀ b1 H9,Newb H5 (.cells #[.int .i64 x4] 3) b1 H9→∃ x8:Sl,hcell H9 ad1=some (.slice x8.a x8.n x8.c) ∧
  App Tryz.prog #[103,103] 103 H9 [.slice x8.a x8.n x8.c,.slice (some ⟨b1,0,none⟩) 1 1] fun ap1 H10=>
  (IxA mk.a mk.n x5 1 fun ad3=>(StL ad3 0 [.slice ap1.a ap1.n ap1.c] H10 fun H11=>(∃ m2,m2 < m1 ∧
  I (w64 (t18+1)) H11 m2))))))∧(∀ b2 H12,Newb H5 (.cells #[.int .i64 x4] 3) b2 H12→∃ x9:Int,hcell H12 ⟨bE,0,none⟩=some (.int .i64 x9) ∧
  IxA mk.a mk.n x9 1 fun ad4=>(∃ x10:Sl,hcell H12 ad4=some (.slice x10.a x10.n x10.c)∧App Tryz.prog #[103,103] 103 H12 [.slice x10.a x10.n x10.c,.slice (some ⟨b2,0,none⟩) 1 1] fun ap2 H13=>
  (IxA mk.a mk.n x5 1 fun ad5=>(StL ad5 0 [.slice ap2.a ap2.n ap2.c] H13 fun H14=>(∃ m2,m2 < m1 ∧
  I (w64 (t18+1)) H14 m2)))))))∧(∃ x11:Int,hcell H5 ⟨bE,0,none⟩=some (.int .i64 x11)∧IxA mk.a mk.n x11 1 fun ad6=>
  ((∃ x12:Int,hcell H5 ⟨bE,0,none⟩=some (.int .i64 x12)∧((∃ x13:Sl,hcell H5 ad6=some (.slice x13.a x13.n x13.c) ∧
  ∀ b3 H15,Newb H5 (.cells #[.int .i64 x4] 3) b3 H15→App Tryz.prog #[103,103] 103 H15 [.slice x13.a x13.n x13.c,.slice (some ⟨b3,0,none⟩) 1 1] fun ap3 H16=>
  (IxA mk.a mk.n x12 1 fun ad7=>(StL ad7 0 [.slice ap3.a ap3.n ap3.c] H16 fun H17=>(∃ m2,m2 < m1 ∧
  I (w64 (t18+1)) H17 m2))))∧(∀ b4 H18,Newb H5 (.cells #[.int .i64 x4] 3) b4 H18→∃ x14:Sl,hcell H18 ad6=some (.slice x14.a x14.n x14.c) ∧
  App Tryz.prog #[103,103] 103 H18 [.slice x14.a x14.n x14.c,.slice (some ⟨b4,0,none⟩) 1 1] fun ap4 H19=>
  (IxA mk.a mk.n x12 1 fun ad8=>(StL ad8 0 [.slice ap4.a ap4.n ap4.c] H19 fun H20=>(∃ m2,m2 < m1 ∧
  I (w64 (t18+1)) H20 m2))))))∧(∃ x15:Sl,hcell H5 ad6=some (.slice x15.a x15.n x15.c)∧((∃ x16:Int,hcell H5 ⟨bE,0,none⟩=some (.int .i64 x16) ∧
  ∀ b5 H21,Newb H5 (.cells #[.int .i64 x4] 3) b5 H21→App Tryz.prog #[103,103] 103 H21 [.slice x15.a x15.n x15.c,.slice (some ⟨b5,0,none⟩) 1 1] fun ap5 H22=>
  (IxA mk.a mk.n x16 1 fun ad9=>(StL ad9 0 [.slice ap5.a ap5.n ap5.c] H22 fun H23=>(∃ m2,m2 < m1 ∧
  I (w64 (t18+1)) H23 m2))))∧(∀ b6 H24,Newb H5 (.cells #[.int .i64 x4] 3) b6 H24→((∃ x17:Int,hcell H24 ⟨bE,0,none⟩=some (.int .i64 x17) ∧
  App Tryz.prog #[103,103] 103 H24 [.slice x15.a x15.n x15.c,.slice (some ⟨b6,0,none⟩) 1 1] fun ap6 H25=>
  (IxA mk.a mk.n x17 1 fun ad10=>(StL ad10 0 [.slice ap6.a ap6.n ap6.c] H25 fun H26=>(∃ m2,m2 < m1 ∧
  I (w64 (t18+1)) H26 m2))))∧(App Tryz.prog #[103,103] 103 H24 [.slice x15.a x15.n x15.c,.slice (some ⟨b6,0,none⟩) 1 1] fun ap7 H27=>
  (∃ x18:Int,hcell H27 ⟨bE,0,none⟩=some (.int .i64 x18)∧IxA mk.a mk.n x18 1 fun ad11=>(StL ad11 0 [.slice ap7.a ap7.n ap7.c] H27 fun H28=>
  (∃ m2,m2 < m1∧I (w64 (t18+1)) H28 m2))))))))∧(∀ b7 H29,Newb H5 (.cells #[.int .i64 x4] 3) b7 H29 →
  ∃ x19:Sl,hcell H29 ad6=some (.slice x19.a x19.n x19.c)∧((∃ x20:Int,hcell H29 ⟨bE,0,none⟩=some (.int .i64 x20) ∧
  App Tryz.prog #[103,103] 103 H29 [.slice x19.a x19.n x19.c,.slice (some ⟨b7,0,none⟩) 1 1] fun ap8 H30=>
  (IxA mk.a mk.n x20 1 fun ad12=>(StL ad12 0 [.slice ap8.a ap8.n ap8.c] H30 fun H31=>(∃ m2,m2 < m1 ∧
  I (w64 (t18+1)) H31 m2))))∧(App Tryz.prog #[103,103] 103 H29 [.slice x19.a x19.n x19.c,.slice (some ⟨b7,0,none⟩) 1 1] fun ap9 H32=>
  (∃ x21:Int,hcell H32 ⟨bE,0,none⟩=some (.int .i64 x21)∧IxA mk.a mk.n x21 1 fun ad13=>(StL ad13 0 [.slice ap9.a ap9.n ap9.c] H32 fun H33=>
  (∃ m2,m2 < m1∧I (w64 (t18+1)) H33 m2))))))))∧(∀ b8 H34,Newb H5 (.cells #[.int .i64 x4] 3) b8 H34 →
  ∃ x22:Int,hcell H34 ⟨bE,0,none⟩=some (.int .i64 x22)∧IxA mk.a mk.n x22 1 fun ad14=>(∃ x23:Sl,hcell H34 ad14=some (.slice x23.a x23.n x23.c) ∧
  ((∃ x24:Int,hcell H34 ⟨bE,0,none⟩=some (.int .i64 x24)∧App Tryz.prog #[103,103] 103 H34 [.slice x23.a x23.n x23.c,.slice (some ⟨b8,0,none⟩) 1 1] fun ap10 H35=>
  (IxA mk.a mk.n x24 1 fun ad15=>(StL ad15 0 [.slice ap10.a ap10.n ap10.c] H35 fun H36=>(∃ m2,m2 < m1 ∧
  I (w64 (t18+1)) H36 m2))))∧(App Tryz.prog #[103,103] 103 H34 [.slice x23.a x23.n x23.c,.slice (some ⟨b8,0,none⟩) 1 1] fun ap11 H37=>
  (∃ x25:Int,hcell H37 ⟨bE,0,none⟩=some (.int .i64 x25)∧IxA mk.a mk.n x25 1 fun ad16=>(StL ad16 0 [.slice ap11.a ap11.n ap11.c] H37 fun H38=>
  (∃ m2,m2 < m1∧I (w64 (t18+1)) H38 m2)))))))))∧((decide (x3 < n))=false→(∃ m2,m2 < m1 ∧
  I (w64 (t18+1)) H5 m2))))∧((decide (x2≥0))=false→(∃ m2,m2 < m1∧I (w64 (t18+1)) H5 m2)))) ∧
  ((decide (x1 < n))=false→(∃ m2,m2 < m1∧I (w64 (t18+1)) H5 m2))))∧((decide (x≥0))=false →
  (∃ m2,m2 < m1∧I (w64 (t18+1)) H5 m2))))))∧((decide (t18 < (l.n:Int)))=false→K (.slice mk.a mk.n mk.c) H3)))) ∧
  (((decide (n < 0))=true→K (.slice none 0 0) H)∧((decide (n < 0))=false→(((decide (n > 20000))=true →
  K (.slice none 0 0) H)∧((decide (n > 20000))=false→(J  H)))))
def aJ141:Ann:=(fun k=>if k=3 then some [] else none)
def aL141:Ann:=(fun k=>if k=5 then some [(18,(.sc (.int .i64)))] else none)
theorem V141_ok {H n l K Z} (h:V141 H n l K Z):CallF Tryz.prog 141 #[.int .i64 n,.slice l.a l.n l.c] H K Z:=
 fnC_sound (aJ:=aJ141) (aL:=aL141) (Eq.mp (by kernel_rfl) h)
def V170 (H:Hp) (s:Addr) (n number:Int) (K:Value→Hp→Prop) (Z:List PanicEntry→Hp→Prop):Prop:=
 ∃ x:Sl,hcell H (Addr.add s 1)=some (.slice x.a x.n x.c)∧∃ x1:Sl,hcell H (Addr.add s 2)=some (.slice x1.a x1.n x1.c) ∧
  ∃ x2:Sl,hcell H (Addr.add s 3)=some (.slice x2.a x2.n x2.c)∧IxA x.a x.n n 1 fun ad=>(StL ad 0 [.int .i64 number] H fun H1=>
  (IxA x1.a x1.n n 1 fun ad1=>(StL ad1 0 [.int .i64 number] H1 fun H2=>(IxA x2.a x2.n n 1 fun ad2=>
  (StL ad2 0 [.bool true] H2 fun H3=>(∃ x3:Sl,hcell H3 (Addr.add s 4)=some (.slice x3.a x3.n x3.c) ∧
  ∀ b H4,Newb H3 (.cells #[.int .i64 n] 3) b H4→App Tryz.prog #[103,103] 103 H4 [.slice x3.a x3.n x3.c,.slice (some ⟨b,0,none⟩) 1 1] fun ap H5=>
  (StL (Addr.add s 4) 0 [.slice ap.a ap.n ap.c] H5 fun H6=>(∃ x4:Sl,hcell H6 (Addr.add s 7)=some (.slice x4.a x4.n x4.c) ∧
  ∀ b1 H7,Newb H6 (.cells #[.int .i64 n,.int .i64 0] 217) b1 H7→App Tryz.prog #[188,188] 188 H7 [.slice x4.a x4.n x4.c,.slice (some ⟨b1,0,none⟩) 1 1] fun ap1 H8=>
  (StL (Addr.add s 7) 0 [.slice ap1.a ap1.n ap1.c] H8 fun H9=>(K (.tuple #[]) H9))))))))))
theorem V170_ok {H s n number K Z} (h:V170 H s n number K Z):CallF Tryz.prog 170 #[.pointer (some s),.int .i64 n,.int .i64 number] H K Z:=
 fnC_sound (aJ:=fun _=>none) (aL:=fun _=>none) (Eq.mp (by kernel_rfl) h)
def V171 (H:Hp) (s:Addr) (n:Int) (K:Value→Hp→Prop) (Z:List PanicEntry→Hp→Prop):Prop:=
 ∃ x:Sl,hcell H (Addr.add s 7)=some (.slice x.a x.n x.c)∧∃ x1:Sl,hcell H (Addr.add s 7)=some (.slice x1.a x1.n x1.c) ∧
  (x.n≤x.c∧SlX x.a x.c 0 (w64 ((x1.n:Int) - 1)) 2 fun cut=>(StL (Addr.add s 7) 0 [.slice cut.a cut.n cut.c] H fun H1=>
  (∃ J:Hp→Prop,(∀ H2,J  H2→∀ scr:Nat→Value,∃ x2:Sl,hcell H2 (Addr.add s 2)=some (.slice x2.a x2.n x2.c) ∧
  IxA x2.a x2.n n 1 fun ad=>(∃ x3:Int,hcell H2 ad=some (.int .i64 x3)∧∃ x4:Sl,hcell H2 (Addr.add s 1)=some (.slice x4.a x4.n x4.c) ∧
  IxA x4.a x4.n n 1 fun ad1=>(∃ x5:Int,hcell H2 ad1=some (.int .i64 x5)∧(((x3 != x5)=true →
  K (.tuple #[]) H2)∧((x3 != x5)=false→∃ I:Hp→Nat→Prop,(∃ m,I  H2 m)∧∀ H3 m1,I  H3 m1 →
  ∀ scr1:Nat→Value,∃ x6:Sl,hcell H3 (Addr.add s 3)=some (.slice x6.a x6.n x6.c)∧IxA x6.a x6.n n 1 fun ad2=>
  (∃ x7:Bool,hcell H3 ad2=some (.bool x7)∧((x7=true→∃ x8:Sl,hcell H3 (Addr.add s 4)=some (.slice x8.a x8.n x8.c) ∧
  ∃ x9:Sl,hcell H3 (Addr.add s 4)=some (.slice x9.a x9.n x9.c)∧IxA x8.a x8.n (w64 ((x9.n:Int) - 1)) 1 fun ad3=>
  (∃ x10:Int,hcell H3 ad3=some (.int .i64 x10)∧∃ x11:Sl,hcell H3 (Addr.add s 4)=some (.slice x11.a x11.n x11.c) ∧
  ∃ x12:Sl,hcell H3 (Addr.add s 4)=some (.slice x12.a x12.n x12.c)∧(x11.n≤x11.c∧SlX x11.a x11.c 0 (w64 ((x12.n:Int) - 1)) 1 fun cut1=>
  (StL (Addr.add s 4) 0 [.slice cut1.a cut1.n cut1.c] H3 fun H4=>(∃ x13:Sl,hcell H4 (Addr.add s 5)=some (.slice x13.a x13.n x13.c) ∧
  ∃ x14:Sl,hcell H4 (Addr.add s 3)=some (.slice x14.a x14.n x14.c)∧∃ x15:Int,hcell H4 (Addr.add s 6)=some (.int .i64 x15) ∧
  IxA x13.a x13.n x10 1 fun ad4=>(StL ad4 0 [.int .i64 x15] H4 fun H5=>(IxA x14.a x14.n x10 1 fun ad5=>
  (StL ad5 0 [.bool false] H5 fun H6=>(∃ m2,m2 < m1∧I  H6 m2)))))))))∧(x7=false→∃ x16:Int,hcell H3 (Addr.add s 6)=some (.int .i64 x16) ∧
  StL (Addr.add s 6) 0 [.int .i64 (w64 (x16+1))] H3 fun H7=>(K (.tuple #[]) H7)))))))))∧∃ x17:Sl,hcell H1 (Addr.add s 7)=some (.slice x17.a x17.n x17.c) ∧
  (((decide ((x17.n:Int) > 0))=true→∃ x18:Sl,hcell H1 (Addr.add s 7)=some (.slice x18.a x18.n x18.c) ∧
  ∃ x19:Sl,hcell H1 (Addr.add s 7)=some (.slice x19.a x19.n x19.c)∧IxA x18.a x18.n (w64 ((x19.n:Int) - 1)) 2 fun ad6=>
  (∃ x20:Int,hcell H1 ad6=some (.int .i64 x20)∧∃ x21:Sl,hcell H1 (Addr.add s 2)=some (.slice x21.a x21.n x21.c) ∧
  ∃ x22:Sl,hcell H1 (Addr.add s 2)=some (.slice x22.a x22.n x22.c)∧IxA x22.a x22.n x20 1 fun ad7=>
  (∃ x23:Int,hcell H1 ad7=some (.int .i64 x23)∧∃ x24:Sl,hcell H1 (Addr.add s 2)=some (.slice x24.a x24.n x24.c) ∧
  IxA x24.a x24.n n 1 fun ad8=>(∃ x25:Int,hcell H1 ad8=some (.int .i64 x25)∧IxA x21.a x21.n x20 1 fun ad9=>
  (StL ad9 0 [.int .i64 (if x25 < x23 then x25 else x23)] H1 fun H8=>(J  H8))))))∧((decide ((x17.n:Int) > 0))=false →
  (J  H1))))))
def aJ171:Ann:=(fun k=>if k=4 then some [] else none)
def aL171:Ann:=(fun k=>if k=5 then some [] else none)
theorem V171_ok {H s n K Z} (h:V171 H s n K Z):CallF Tryz.prog 171 #[.pointer (some s),.int .i64 n] H K Z:=
 fnC_sound (aJ:=aJ171) (aL:=aL171) (Eq.mp (by kernel_rfl) h)
abbrev W142_4 (H14:Hp) (g:Sl) (mk:Sl) (mk1:Sl) (mk2:Sl) (J:Option Addr→Hp→Prop):Prop:=
 MkS Tryz.prog 103 H14 (.int .i64 (g.n:Int)) (.int .i64 (g.n:Int)) fun mk3 H15=>(∀ b H16,Newb H15 (.cells #[.slice g.a g.n g.c,.slice mk.a mk.n mk.c,.slice mk1.a mk1.n mk1.c,.slice mk2.a mk2.n mk2.c,.slice none 0 0,.slice mk3.a mk3.n mk3.c,.int .i64 0,.slice none 0 0] 190) b H16 →
  (J (some ⟨b,0,none⟩) H16))
abbrev W142_3 (H17:Hp) (g:Sl) (mk:Sl) (mk1:Sl) (mk4:Sl) (J:Option Addr→Hp→Prop):Prop:=
 MkS Tryz.prog 187 H17 (.int .i64 (g.n:Int)) (.int .i64 (g.n:Int)) fun mk5 H18=>(∀ b1 H19,Newb H18 (.cells #[.slice g.a g.n g.c,.slice mk.a mk.n mk.c,.slice mk1.a mk1.n mk1.c,.slice mk5.a mk5.n mk5.c,.slice none 0 0,.slice mk4.a mk4.n mk4.c,.int .i64 0,.slice none 0 0] 190) b1 H19 →
  (J (some ⟨b1,0,none⟩) H19))
abbrev W142_2 (H24:Hp) (g:Sl) (mk:Sl) (mk6:Sl) (mk9:Sl) (J:Option Addr→Hp→Prop):Prop:=
 MkS Tryz.prog 103 H24 (.int .i64 (g.n:Int)) (.int .i64 (g.n:Int)) fun mk10 H25=>(∀ b3 H26,Newb H25 (.cells #[.slice g.a g.n g.c,.slice mk.a mk.n mk.c,.slice mk10.a mk10.n mk10.c,.slice mk6.a mk6.n mk6.c,.slice none 0 0,.slice mk9.a mk9.n mk9.c,.int .i64 0,.slice none 0 0] 190) b3 H26 →
  (J (some ⟨b3,0,none⟩) H26))
abbrev W142_1 (H46:Hp) (g:Sl) (mk16:Sl) (mk22:Sl) (mk25:Sl) (J:Option Addr→Hp→Prop):Prop:=
 MkS Tryz.prog 103 H46 (.int .i64 (g.n:Int)) (.int .i64 (g.n:Int)) fun mk26 H47=>(∀ b9 H48,Newb H47 (.cells #[.slice g.a g.n g.c,.slice mk26.a mk26.n mk26.c,.slice mk16.a mk16.n mk16.c,.slice mk22.a mk22.n mk22.c,.slice none 0 0,.slice mk25.a mk25.n mk25.c,.int .i64 0,.slice none 0 0] 190) b9 H48 →
  (J (some ⟨b9,0,none⟩) H48))
def V142 (H:Hp) (g:Sl) (K:Value→Hp→Prop) (Z:List PanicEntry→Hp→Prop):Prop:=
 ∃ J:Option Addr→Hp→Prop,(∀ (s:Option Addr),∀ H1,J s H1→∀ scr:Nat→Value,∃ I:Int →
  Int→Hp→Nat→Prop,(∃ m,I 0 0 H1 m)∧∀ (met:Int) (t23:Int),∀ H2 m1,I met t23 H2 m1 →
  ∀ scr1:Nat→Value,(((decide (t23 < (g.n:Int)))=true→∃ J1:Int→Hp→Prop,(∀ (met1:Int),∀ H3,J1 met1 H3 →
  ∀ scr2:Nat→Value,∃ J2:Int→Hp→Prop,(∀ (met2:Int),∀ H4,J2 met2 H4→∀ scr3:Nat →
  Value,∃ I1:Int→Hp→Nat→Prop,(∃ m3,I1 met2 H4 m3)∧∀ (met3:Int),∀ H5 m4,I1 met3 H5 m4 →
  ∀ scr4:Nat→Value,nilck s fun ad=>(∃ x:Sl,hcell H5 (Addr.add ad 7)=some (.slice x.a x.n x.c) ∧
  (((decide ((x.n:Int) > 0))=true→nilck s fun ad1=>(∃ x1:Sl,hcell H5 (Addr.add ad1 7)=some (.slice x1.a x1.n x1.c) ∧
  nilck s fun ad2=>(∃ x2:Sl,hcell H5 (Addr.add ad2 7)=some (.slice x2.a x2.n x2.c)∧IxA x1.a x1.n (w64 ((x2.n:Int) - 1)) 2 fun ad3=>
  (∃ I2:Int→Hp→Nat→Prop,(∃ m6,I2 met3 H5 m6)∧∀ (met4:Int),∀ H6 m7,I2 met4 H6 m7→∀ scr5:Nat →
  Value,∃ x3:Int,hcell H6 (Addr.add ad3 1)=some (.int .i64 x3)∧∃ x4:Int,hcell H6 ad3=some (.int .i64 x4) ∧
  IxA g.a g.n x4 1 fun ad4=>(∃ x5:Sl,hcell H6 ad4=some (.slice x5.a x5.n x5.c)∧(((decide (x3 < (x5.n:Int)))=true →
  ∃ x6:Int,hcell H6 ad3=some (.int .i64 x6)∧IxA g.a g.n x6 1 fun ad5=>(∃ x7:Sl,hcell H6 ad5=some (.slice x7.a x7.n x7.c) ∧
  ∃ x8:Int,hcell H6 (Addr.add ad3 1)=some (.int .i64 x8)∧IxA x7.a x7.n x8 1 fun ad6=>(∃ x9:Int,hcell H6 ad6=some (.int .i64 x9) ∧
  ∃ x10:Int,hcell H6 (Addr.add ad3 1)=some (.int .i64 x10)∧StL (Addr.add ad3 1) 0 [.int .i64 (w64 (x10+1))] H6 fun H7=>
  (nilck s fun ad7=>(∃ x11:Sl,hcell H7 (Addr.add ad7 1)=some (.slice x11.a x11.n x11.c)∧IxA x11.a x11.n x9 1 fun ad8=>
  (∃ x12:Int,hcell H7 ad8=some (.int .i64 x12)∧(((x12 == 0)=true→CallF Tryz.prog 170 #[.pointer s,.int .i64 x9,.int .i64 (w64 (met4+1))] H7 (fun r H8=>
  r = .tuple #[]∧(∃ m5,m5 < m4∧I1 (w64 (met4+1)) H8 m5)) Z)∧((x12 == 0)=false→nilck s fun ad9=>
  (∃ x13:Sl,hcell H7 (Addr.add ad9 3)=some (.slice x13.a x13.n x13.c)∧IxA x13.a x13.n x9 1 fun ad10=>
  (∃ x14:Bool,hcell H7 ad10=some (.bool x14)∧((x14=true→nilck s fun ad11=>(∃ x15:Sl,hcell H7 (Addr.add ad11 2)=some (.slice x15.a x15.n x15.c) ∧
  ∃ x16:Int,hcell H7 ad3=some (.int .i64 x16)∧nilck s fun ad12=>(∃ x17:Sl,hcell H7 (Addr.add ad12 2)=some (.slice x17.a x17.n x17.c) ∧
  ∃ x18:Int,hcell H7 ad3=some (.int .i64 x18)∧IxA x17.a x17.n x18 1 fun ad13=>(∃ x19:Int,hcell H7 ad13=some (.int .i64 x19) ∧
  nilck s fun ad14=>(∃ x20:Sl,hcell H7 (Addr.add ad14 1)=some (.slice x20.a x20.n x20.c)∧IxA x20.a x20.n x9 1 fun ad15=>
  (∃ x21:Int,hcell H7 ad15=some (.int .i64 x21)∧IxA x15.a x15.n x16 1 fun ad16=>(StL ad16 0 [.int .i64 (if x21 < x19 then x21 else x19)] H7 fun H9=>
  (∃ m8,m8 < m7∧I2 met4 H9 m8))))))))∧(x14=false→(∃ m8,m8 < m7∧I2 met4 H7 m8))))))))))))) ∧
  ((decide (x3 < (x5.n:Int)))=false→∃ x22:Int,hcell H6 ad3=some (.int .i64 x22)∧CallF Tryz.prog 171 #[.pointer s,.int .i64 x22] H6 (fun r1 H10=>
  r1 = .tuple #[]∧(∃ m5,m5 < m4∧I1 met4 H10 m5)) Z)))))))∧((decide ((x.n:Int) > 0))=false →
  (∃ m2,m2 < m1∧I met3 (w64 (t23+1)) H5 m2)))))∧(J2 met1 H3))∧nilck s fun ad17=>(∃ x23:Sl,hcell H2 (Addr.add ad17 1)=some (.slice x23.a x23.n x23.c) ∧
  IxA x23.a x23.n t23 1 fun ad18=>(∃ x24:Int,hcell H2 ad18=some (.int .i64 x24)∧(((x24 == 0)=true →
  CallF Tryz.prog 170 #[.pointer s,.int .i64 t23,.int .i64 (w64 (met+1))] H2 (fun r2 H11=>r2 = .tuple #[] ∧
  (J1 (w64 (met+1)) H11)) Z)∧((x24 == 0)=false→(J1 met H2))))))∧((decide (t23 < (g.n:Int)))=false →
  K (.pointer s) H2)))∧((MkS Tryz.prog 103 H (.int .i64 (g.n:Int)) (.int .i64 (g.n:Int)) fun mk H12=>
  ((MkS Tryz.prog 103 H12 (.int .i64 (g.n:Int)) (.int .i64 (g.n:Int)) fun mk1 H13=>((MkS Tryz.prog 187 H13 (.int .i64 (g.n:Int)) (.int .i64 (g.n:Int)) fun mk2 H14=>
  (W142_4 H14 g mk mk1 mk2 J))∧(MkS Tryz.prog 103 H13 (.int .i64 (g.n:Int)) (.int .i64 (g.n:Int)) fun mk4 H17=>
  (W142_3 H17 g mk mk1 mk4 J))))∧(MkS Tryz.prog 187 H12 (.int .i64 (g.n:Int)) (.int .i64 (g.n:Int)) fun mk6 H20=>
  ((MkS Tryz.prog 103 H20 (.int .i64 (g.n:Int)) (.int .i64 (g.n:Int)) fun mk7 H21=>(W142_4 H21 g mk mk7 mk6 J))∧(MkS Tryz.prog 103 H20 (.int .i64 (g.n:Int)) (.int .i64 (g.n:Int)) fun mk9 H24=>
  (W142_2 H24 g mk mk6 mk9 J))))∧(MkS Tryz.prog 103 H12 (.int .i64 (g.n:Int)) (.int .i64 (g.n:Int)) fun mk11 H27=>
  ((MkS Tryz.prog 103 H27 (.int .i64 (g.n:Int)) (.int .i64 (g.n:Int)) fun mk12 H28=>(W142_3 H28 g mk mk12 mk11 J))∧(MkS Tryz.prog 187 H27 (.int .i64 (g.n:Int)) (.int .i64 (g.n:Int)) fun mk14 H31=>
  (W142_2 H31 g mk mk14 mk11 J))))))∧(MkS Tryz.prog 103 H (.int .i64 (g.n:Int)) (.int .i64 (g.n:Int)) fun mk16 H34=>
  ((MkS Tryz.prog 103 H34 (.int .i64 (g.n:Int)) (.int .i64 (g.n:Int)) fun mk17 H35=>((MkS Tryz.prog 187 H35 (.int .i64 (g.n:Int)) (.int .i64 (g.n:Int)) fun mk18 H36=>
  (W142_4 H36 g mk17 mk16 mk18 J))∧(MkS Tryz.prog 103 H35 (.int .i64 (g.n:Int)) (.int .i64 (g.n:Int)) fun mk20 H39=>
  (W142_3 H39 g mk17 mk16 mk20 J))))∧(MkS Tryz.prog 187 H34 (.int .i64 (g.n:Int)) (.int .i64 (g.n:Int)) fun mk22 H42=>
  ((MkS Tryz.prog 103 H42 (.int .i64 (g.n:Int)) (.int .i64 (g.n:Int)) fun mk23 H43=>(W142_4 H43 g mk23 mk16 mk22 J))∧(MkS Tryz.prog 103 H42 (.int .i64 (g.n:Int)) (.int .i64 (g.n:Int)) fun mk25 H46=>
  (W142_1 H46 g mk16 mk22 mk25 J))))∧(MkS Tryz.prog 103 H34 (.int .i64 (g.n:Int)) (.int .i64 (g.n:Int)) fun mk27 H49=>
  ((MkS Tryz.prog 103 H49 (.int .i64 (g.n:Int)) (.int .i64 (g.n:Int)) fun mk28 H50=>(W142_3 H50 g mk28 mk16 mk27 J))∧(MkS Tryz.prog 187 H49 (.int .i64 (g.n:Int)) (.int .i64 (g.n:Int)) fun mk30 H53=>
  (W142_1 H53 g mk16 mk30 mk27 J))))))∧(MkS Tryz.prog 187 H (.int .i64 (g.n:Int)) (.int .i64 (g.n:Int)) fun mk32 H56=>
  ((MkS Tryz.prog 103 H56 (.int .i64 (g.n:Int)) (.int .i64 (g.n:Int)) fun mk33 H57=>((MkS Tryz.prog 103 H57 (.int .i64 (g.n:Int)) (.int .i64 (g.n:Int)) fun mk34 H58=>
  (W142_4 H58 g mk33 mk34 mk32 J))∧(MkS Tryz.prog 103 H57 (.int .i64 (g.n:Int)) (.int .i64 (g.n:Int)) fun mk36 H61=>
  (W142_2 H61 g mk33 mk32 mk36 J))))∧(MkS Tryz.prog 103 H56 (.int .i64 (g.n:Int)) (.int .i64 (g.n:Int)) fun mk38 H64=>
  ((MkS Tryz.prog 103 H64 (.int .i64 (g.n:Int)) (.int .i64 (g.n:Int)) fun mk39 H65=>(W142_4 H65 g mk39 mk38 mk32 J))∧(MkS Tryz.prog 103 H64 (.int .i64 (g.n:Int)) (.int .i64 (g.n:Int)) fun mk41 H68=>
  (W142_1 H68 g mk38 mk32 mk41 J))))∧(MkS Tryz.prog 103 H56 (.int .i64 (g.n:Int)) (.int .i64 (g.n:Int)) fun mk43 H71=>
  ((MkS Tryz.prog 103 H71 (.int .i64 (g.n:Int)) (.int .i64 (g.n:Int)) fun mk44 H72=>(W142_2 H72 g mk44 mk32 mk43 J))∧(MkS Tryz.prog 103 H71 (.int .i64 (g.n:Int)) (.int .i64 (g.n:Int)) fun mk46 H75=>
  (W142_1 H75 g mk46 mk32 mk43 J))))))∧(MkS Tryz.prog 103 H (.int .i64 (g.n:Int)) (.int .i64 (g.n:Int)) fun mk48 H78=>
  ((MkS Tryz.prog 103 H78 (.int .i64 (g.n:Int)) (.int .i64 (g.n:Int)) fun mk49 H79=>((MkS Tryz.prog 103 H79 (.int .i64 (g.n:Int)) (.int .i64 (g.n:Int)) fun mk50 H80=>
  (W142_3 H80 g mk49 mk50 mk48 J))∧(MkS Tryz.prog 187 H79 (.int .i64 (g.n:Int)) (.int .i64 (g.n:Int)) fun mk52 H83=>
  (W142_2 H83 g mk49 mk52 mk48 J))))∧(MkS Tryz.prog 103 H78 (.int .i64 (g.n:Int)) (.int .i64 (g.n:Int)) fun mk54 H86=>
  ((MkS Tryz.prog 103 H86 (.int .i64 (g.n:Int)) (.int .i64 (g.n:Int)) fun mk55 H87=>(W142_3 H87 g mk55 mk54 mk48 J))∧(MkS Tryz.prog 187 H86 (.int .i64 (g.n:Int)) (.int .i64 (g.n:Int)) fun mk57 H90=>
  (W142_1 H90 g mk54 mk57 mk48 J))))∧(MkS Tryz.prog 187 H78 (.int .i64 (g.n:Int)) (.int .i64 (g.n:Int)) fun mk59 H93=>
  ((MkS Tryz.prog 103 H93 (.int .i64 (g.n:Int)) (.int .i64 (g.n:Int)) fun mk60 H94=>(W142_2 H94 g mk60 mk59 mk48 J))∧(MkS Tryz.prog 103 H93 (.int .i64 (g.n:Int)) (.int .i64 (g.n:Int)) fun mk62 H97=>
  (W142_1 H97 g mk62 mk59 mk48 J)))))))
def aJ142:Ann:=(fun k=>if k=3 then some [(4,(.sc .ptr))] else if k=10 then some [(5,(.sc (.int .i64)))] else none)
def aL142:Ann:=(fun k=>if k=5 then some [(5,(.sc (.int .i64))),(23,(.sc (.int .i64)))] else if k=10 then some [(5,(.sc (.int .i64)))] else if k=12 then some [(5,(.sc (.int .i64)))] else none)
theorem V142_ok {H g K Z} (h:V142 H g K Z):CallF Tryz.prog 142 #[.slice g.a g.n g.c] H K Z:=
 fnC_sound (aJ:=aJ142) (aL:=aL142) (Eq.mp (by kernel_rfl) h)
def V92 (H:Hp) (n:Int) (l:Sl) (K:Value→Hp→Prop) (Z:List PanicEntry→Hp→Prop):Prop:=
 CallF Tryz.prog 141 #[.int .i64 n,.slice l.a l.n l.c] H (fun r H1=>∃ y:Sl,r = .slice y.a y.n y.c ∧
  CallF Tryz.prog 142 #[.slice y.a y.n y.c] H1 (fun r1 H2=>∃ y1:Option Addr,r1 = .pointer y1 ∧
  nilck y1 fun ad=>(∃ x:Int,hcell H2 (Addr.add ad 6)=some (.int .i64 x)∧MkS Tryz.prog 145 H2 (.int .i64 x) (.int .i64 x) fun mk H3=>
  (nilck y1 fun ad1=>(∃ x1:Sl,hcell H3 (Addr.add ad1 5)=some (.slice x1.a x1.n x1.c)∧∃ I:Int →
  Hp→Nat→Prop,(∃ m,I 0 H3 m)∧∀ (t37:Int),∀ H4 m1,I t37 H4 m1→∀ scr:Nat→Value,(((decide (t37 < (x1.n:Int)))=true →
  IxA x1.a x1.n t37 1 fun ad2=>(∃ x2:Int,hcell H4 ad2=some (.int .i64 x2)∧IxA mk.a mk.n x2 1 fun ad3=>
  (∃ x3:Sl,hcell H4 ad3=some (.slice x3.a x3.n x3.c)∧∀ b H5,Newb H4 (.cells #[.int .i64 t37] 3) b H5 →
  App Tryz.prog #[103,103] 103 H5 [.slice x3.a x3.n x3.c,.slice (some ⟨b,0,none⟩) 1 1] fun ap H6=>
  (IxA mk.a mk.n x2 1 fun ad4=>(StL ad4 0 [.slice ap.a ap.n ap.c] H6 fun H7=>(∃ m2,m2 < m1∧I (w64 (t37+1)) H7 m2)))))) ∧
  ((decide (t37 < (x1.n:Int)))=false→nilck y1 fun ad5=>(∃ x4:Int,hcell H4 (Addr.add ad5 6)=some (.int .i64 x4) ∧
  MkS Tryz.prog 145 H4 (.int .i64 x4) (.int .i64 x4) fun mk1 H8=>(nilck y1 fun ad6=>(∃ x5:Int,hcell H8 (Addr.add ad6 6)=some (.int .i64 x5) ∧
  MkS Tryz.prog 103 H8 (.int .i64 x5) (.int .i64 x5) fun mk2 H9=>(nilck y1 fun ad7=>(∃ x6:Sl,hcell H9 (Addr.add ad7 5)=some (.slice x6.a x6.n x6.c) ∧
  ∃ I1:Int→Hp→Nat→Prop,(∃ m3,I1 0 H9 m3)∧∀ (t68:Int),∀ H10 m4,I1 t68 H10 m4→∀ scr1:Nat →
  Value,(((decide (t68 < (x6.n:Int)))=true→IxA x6.a x6.n t68 1 fun ad8=>(∃ x7:Int,hcell H10 ad8=some (.int .i64 x7) ∧
  IxA y.a y.n t68 1 fun ad9=>(∃ x8:Sl,hcell H10 ad9=some (.slice x8.a x8.n x8.c)∧∃ I2:Int →
  Hp→Nat→Prop,(∃ m6,I2 0 H10 m6)∧∀ (t78:Int),∀ H11 m7,I2 t78 H11 m7→∀ scr2:Nat→Value,(((decide (t78 < (x8.n:Int)))=true →
  IxA x8.a x8.n t78 1 fun ad10=>(∃ x9:Int,hcell H11 ad10=some (.int .i64 x9)∧nilck y1 fun ad11=>
  (∃ x10:Sl,hcell H11 (Addr.add ad11 5)=some (.slice x10.a x10.n x10.c)∧IxA x10.a x10.n x9 1 fun ad12=>
  (∃ x11:Int,hcell H11 ad12=some (.int .i64 x11)∧(((x11 != x7)=true→IxA mk1.a mk1.n x11 1 fun ad13=>
  (∃ x12:Sl,hcell H11 ad13=some (.slice x12.a x12.n x12.c)∧CallF Tryz.prog 143 #[.slice x12.a x12.n x12.c,.int .i64 x7] H11 (fun r2 H12=>
  ∃ y2:Bool,r2 = .bool y2∧(((!y2)=true→IxA mk1.a mk1.n x11 1 fun ad14=>(∃ x13:Sl,hcell H12 ad14=some (.slice x13.a x13.n x13.c) ∧
  ∀ b1 H13,Newb H12 (.cells #[.int .i64 x7] 3) b1 H13→App Tryz.prog #[103,103] 103 H13 [.slice x13.a x13.n x13.c,.slice (some ⟨b1,0,none⟩) 1 1] fun ap1 H14=>
  (IxA mk1.a mk1.n x11 1 fun ad15=>(StL ad15 0 [.slice ap1.a ap1.n ap1.c] H14 fun H15=>(IxA mk2.a mk2.n x7 1 fun ad16=>
  (∃ x14:Int,hcell H15 ad16=some (.int .i64 x14)∧IxA mk2.a mk2.n x7 1 fun ad17=>(StL ad17 0 [.int .i64 (w64 (x14+1))] H15 fun H16=>
  (∃ m8,m8 < m7∧I2 (w64 (t78+1)) H16 m8))))))))∧((!y2)=false→(∃ m8,m8 < m7∧I2 (w64 (t78+1)) H12 m8)))) Z)) ∧
  ((x11 != x7)=false→(∃ m8,m8 < m7∧I2 (w64 (t78+1)) H11 m8)))))))∧((decide (t78 < (x8.n:Int)))=false →
  (∃ m5,m5 < m4∧I1 (w64 (t68+1)) H11 m5))))))∧((decide (t68 < (x6.n:Int)))=false→nilck y1 fun ad18=>
  (∃ x15:Int,hcell H10 (Addr.add ad18 6)=some (.int .i64 x15)∧∃ I3:Sl→Int→Hp→Nat→Prop,(∃ m9,I3 (⟨none,0,0⟩:Sl) 0 H10 m9) ∧
  ∀ (out:Sl) (t123:Int),∀ H17 m10,I3 out t123 H17 m10→∀ scr3:Nat→Value,(((decide (t123 < x15))=true →
  nilck y1 fun ad19=>(∃ x16:Int,hcell H17 (Addr.add ad19 6)=some (.int .i64 x16)∧∃ I4:Int →
  Int→Hp→Nat→Prop,(∃ m12,I4 (-1) 0 H17 m12)∧∀ (best:Int) (t129:Int),∀ H18 m13,I4 best t129 H18 m13 →
  ∀ scr4:Nat→Value,(((decide (t129 < x16))=true→IxA mk2.a mk2.n t129 1 fun ad20=>(∃ x17:Int,hcell H18 ad20=some (.int .i64 x17) ∧
  (((x17 == 0)=true→(((decide (best < 0))=true→(∃ m14,m14 < m13∧I4 t129 (w64 (t129+1)) H18 m14)) ∧
  ((decide (best < 0))=false→IxA mk.a mk.n t129 1 fun ad21=>(∃ x18:Sl,hcell H18 ad21=some (.slice x18.a x18.n x18.c) ∧
  IxA x18.a x18.n 0 1 fun ad22=>(∃ x19:Int,hcell H18 ad22=some (.int .i64 x19)∧IxA mk.a mk.n best 1 fun ad23=>
  (∃ x20:Sl,hcell H18 ad23=some (.slice x20.a x20.n x20.c)∧IxA x20.a x20.n 0 1 fun ad24=>(∃ x21:Int,hcell H18 ad24=some (.int .i64 x21) ∧
  (((decide (x19 < x21))=true→(∃ m14,m14 < m13∧I4 t129 (w64 (t129+1)) H18 m14))∧((decide (x19 < x21))=false →
  (∃ m14,m14 < m13∧I4 best (w64 (t129+1)) H18 m14))))))))))∧((x17 == 0)=false→(∃ m14,m14 < m13 ∧
  I4 best (w64 (t129+1)) H18 m14)))))∧((decide (t129 < x16))=false→IxA mk.a mk.n best 1 fun ad25=>
  (∃ x22:Sl,hcell H18 ad25=some (.slice x22.a x22.n x22.c)∧∀ b2 H19,Newb H18 (.cells #[.slice x22.a x22.n x22.c] 103) b2 H19 →
  App Tryz.prog #[145,145] 145 H19 [.slice out.a out.n out.c,.slice (some ⟨b2,0,none⟩) 1 1] fun ap2 H20=>
  (IxA mk2.a mk2.n best 1 fun ad26=>(StL ad26 0 [.int .i64 (-1)] H20 fun H21=>(IxA mk1.a mk1.n best 1 fun ad27=>
  (∃ x23:Sl,hcell H21 ad27=some (.slice x23.a x23.n x23.c)∧∃ I5:Int→Hp→Nat→Prop,(∃ m15,I5 0 H21 m15) ∧
  ∀ (t173:Int),∀ H22 m16,I5 t173 H22 m16→∀ scr5:Nat→Value,(((decide (t173 < (x23.n:Int)))=true →
  IxA x23.a x23.n t173 1 fun ad28=>(∃ x24:Int,hcell H22 ad28=some (.int .i64 x24)∧IxA mk2.a mk2.n x24 1 fun ad29=>
  (∃ x25:Int,hcell H22 ad29=some (.int .i64 x25)∧IxA mk2.a mk2.n x24 1 fun ad30=>(StL ad30 0 [.int .i64 (w64 (x25 - 1))] H22 fun H23=>
  (∃ m17,m17 < m16∧I5 (w64 (t173+1)) H23 m17)))))∧((decide (t173 < (x23.n:Int)))=false →
  (∃ m11,m11 < m10∧I3 ap2 (w64 (t123+1)) H22 m11))))))))))))∧((decide (t123 < x15))=false →
  K (.slice out.a out.n out.c) H17)))))))))))))))) Z) Z
def aL92:Ann:=(fun k=>if k=5 then some [(37,(.sc (.int .i64)))] else if k=12 then some [(68,(.sc (.int .i64)))] else if k=15 then some [(78,(.sc (.int .i64)))] else if k=25 then some [(17,(.sc .sl)),(123,(.sc (.int .i64)))] else if k=28 then some [(18,(.sc (.int .i64))),(129,(.sc (.int .i64)))] else if k=36 then some [(173,(.sc (.int .i64)))] else none)
theorem V92_ok {H n l K Z} (h:V92 H n l K Z):CallF Tryz.prog 92 #[.int .i64 n,.slice l.a l.n l.c] H K Z:=
 fnC_sound (aJ:=fun _=>none) (aL:=aL92) (Eq.mp (by kernel_rfl) h)
end Go.Proofs.YtjdhjgfmloaglaaGreatDoor.N07
end
