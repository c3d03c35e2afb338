import Derived.Test.YtjdhjgfmloaglaaGreatDoorZ16
set_option linter.unusedVariables false
set_option linter.unusedSimpArgs false
section
namespace Go.Proofs.YtjdhjgfmloaglaaGreatDoor.C16C
open Go Go.V Go.Proofs N16
attribute [local irreducible] Cvt ExtF CallF hrun App MkS callV
abbrev El:=(HC × ConD) × Nat
abbrev fle (x:El):List Value:=flHC x.1.1
abbrev vA (x:El):Value:=.agg #[.int .i64 (x.1.1.1),.string (str x.1.1.2.1),.string (str x.1.1.2.2.1),.int .i64 (x.1.1.2.2.2.1),.string (str x.1.1.2.2.2.2.1),.slice (x.1.1.2.2.2.2.2).a (x.1.1.2.2.2.2.2).n (x.1.1.2.2.2.2.2).c]
abbrev tg (x:El):Nat:=x.2
theorem FlE:Fl fle 6:=⟨fun x=>FlHC.1 x.1.1,fun x=>FlHC.2 x.1.1⟩
abbrev AR (H0 A:Hp) (s:Sl) (l:List El) (R:List It):Prop:=Sym H0 no A (arr fle 36 6 s l::R)
def CmpV {κ : Type}(cmp:Value) (c : κ→κ→Int) (ky:El→κ) (Q:El→Prop) (H0:Hp):Prop:=
 ∀ {x y:El}{A:Hp}{K':Value→Hp→Prop}{Z':List PanicEntry→Hp→Prop},Q x→Q y→Fr no H0 A→(∀ B,Fr no A B→K' (.int .i64 (c (ky x) (ky y))) B)→callV Tryz.prog cmp [vA x,vA y] A K' Z'
section
variable {H0:Hp}{R:List It}{s:Sl}{K:Value→Hp→Prop}{Z:List PanicEntry→Hp→Prop}{A:Hp}{cmp:Value}
theorem AR.rd {l:List El}(h:AR H0 A s l R):Rd fle 6 A s l:=Sym.rd (k:=0) h FlE (by decide) rfl
theorem atE {P:Int→ByteArray→ByteArray→Int→ByteArray→Sl→Addr→Prop}{l:List El}{i:Nat}{x:El}(h:Rd fle 6 A s l) (hx:l[i]? = some x) (k:∀ ad,P (x.1.1.1) (str x.1.1.2.1) (str x.1.1.2.2.1) (x.1.1.2.2.2.1) (str x.1.1.2.2.2.2.1) (x.1.1.2.2.2.2.2) ad) :
  IxA s.a s.n (i:Int) 6 fun ad=>∃ (x0:Int) (x1 x2:ByteArray) (x3:Int) (x4:ByteArray) (x5:Sl),(hcell A ad=some (.int .i64 (x0))∧hcell A (ad.add 1)=some (.string (x1))∧hcell A (ad.add 2)=some (.string (x2))∧hcell A (ad.add 3)=some (.int .i64 (x3))∧hcell A (ad.add 4)=some (.string (x4))∧hcell A (ad.add 5)=some (.slice x5.a x5.n x5.c)∧True)∧P x0 x1 x2 x3 x4 x5 ad:=by
 refine h.ix (by decide) FlE (by omega) (by simpa using hx) fun ad h1 h2=>⟨_,_,_,_,_,_,⟨h2,h1 1 _ rfl,h1 2 _ rfl,h1 3 _ rfl,h1 4 _ rfl,h1 5 _ rfl,trivial⟩,k ad⟩
theorem AR.at {P:Int→ByteArray→ByteArray→Int→ByteArray→Sl→Addr→Prop}{l:List El}{i:Nat}{x:El}(h:AR H0 A s l R) (hx:l[i]? = some x) (k:∀ ad,P (x.1.1.1) (str x.1.1.2.1) (str x.1.1.2.2.1) (x.1.1.2.2.2.1) (str x.1.1.2.2.2.2.1) (x.1.1.2.2.2.2.2) ad) :
  IxA s.a s.n (i:Int) 6 fun ad=>∃ (x0:Int) (x1 x2:ByteArray) (x3:Int) (x4:ByteArray) (x5:Sl),(hcell A ad=some (.int .i64 (x0))∧hcell A (ad.add 1)=some (.string (x1))∧hcell A (ad.add 2)=some (.string (x2))∧hcell A (ad.add 3)=some (.int .i64 (x3))∧hcell A (ad.add 4)=some (.string (x4))∧hcell A (ad.add 5)=some (.slice x5.a x5.n x5.c)∧True)∧P x0 x1 x2 x3 x4 x5 ad:=atE (AR.rd h) hx k
theorem swap_ok {A1 X C Y B:List El}{a b n:Int}(h:AR H0 A s (A1++(X++(C++(Y++B)))) R) (hxy:X.length=Y.length) (ha:a=((A1.length:Nat):Int)) (hb:b=((A1.length+X.length+C.length:Nat):Int)) (hn:n=((X.length:Nat):Int))
  (hl:A1.length+X.length+C.length+Y.length≤2000000) (k:∀ A',AR H0 A' s (A1++(Y++(C++(X++B)))) R→K (.tuple #[]) A'):CallF Tryz.prog 233 #[.slice s.a s.n s.c,.int .i64 a,.int .i64 b,.int .i64 n,cmp] A K Z:=by
 subst ha
 subst hb
 subst hn
 refine V233_ok ?_
 unfold V233
 refine ⟨fun i C' m=>∃ t:Nat,i=(t:Int)∧t≤X.length∧m=X.length - t∧AR H0 C' s (A1++((Y.take t++X.drop t)++(C++((X.take t++Y.drop t)++B)))) R,⟨_,0,rfl,Nat.zero_le _,rfl,by simpa using h⟩,?_⟩
 rintro i C' m ⟨t,rfl,ht,rfl,sC⟩ scr
 refine ⟨fun hlt=>?_,fun hge=>?_⟩
 ·have ht':t < X.length:=dlt hlt
  have hty:t < Y.length:=by omega
  have dX:=List.drop_eq_getElem_cons ht'
  have dY:=List.drop_eq_getElem_cons hty
  have tX:=List.take_succ_eq_append_getElem ht'
  have tY:=List.take_succ_eq_append_getElem hty
  generalize X[t]=x at dX tX
  generalize Y[t]=y at dY tY
  have e1:A1++((Y.take t++x::X.drop (t+1))++(C++((X.take t++y::Y.drop (t+1))++B)))=(A1++Y.take t)++x::((X.drop (t+1)++(C++X.take t))++y::(Y.drop (t+1)++B)):=by simp
  rw [dX,dY,e1] at sC
  have l1:(A1++Y.take t).length=A1.length+t:=by simp;omega
  have l2:(X.drop (t+1)++(C++X.take t)).length=X.length - (t+1)+C.length+t:=by simp;omega
  rw [wn (x:=((A1.length+X.length+C.length:Nat):Int)+(t:Int)) (n:=A1.length+X.length+C.length+t) (by omega) (by omega),wn (x:=((A1.length:Nat):Int)+(t:Int)) (n:=A1.length+t) (by omega) (by omega)]
  have i1:=swA1 (P:=A1++Y.take t) (x:=x) (M:=X.drop (t+1)++(C++X.take t)) (y:=y) (W:=Y.drop (t+1)++B)
  have i2:=swA2 (P:=A1++Y.take t) (x:=x) (M:=X.drop (t+1)++(C++X.take t)) (y:=y) (W:=Y.drop (t+1)++B)
  rw [l1] at i1
  rw [l1,l2,show A1.length+t+1+(X.length - (t+1)+C.length+t)=A1.length+X.length+C.length+t by omega] at i2
  refine AR.at sC i2 fun ad=>AR.at sC i1 fun ad1=>Sym.swp sC FlE (by decide) l1.symm (by rw [l1,l2];omega) fun D sD=>⟨X.length - (t+1),by omega,t+1,wi (by omega),ht',rfl,?_⟩
  have e2:A1++(((Y.take t ++ [y])++X.drop (t+1))++(C++(((X.take t ++ [x])++Y.drop (t+1))++B)))=(A1++Y.take t)++y::((X.drop (t+1)++(C++X.take t))++x::(Y.drop (t+1)++B)):=by simp
  rw [tX,tY,e2]
  exact sD
 ·have e:t=X.length:=by have:=dge hge;omega
  rw [e,List.take_length,List.drop_length,List.append_nil,hxy,List.take_length,List.drop_length,List.append_nil] at sC
  exact k _ sC
theorem rot_ok {A1 X Y B:List El}{a m b:Int}(h:AR H0 A s (A1++(X++(Y++B))) R) (hx:X ≠ []) (hy:Y ≠ []) (ha:a=((A1.length:Nat):Int)) (hm:m=((A1.length+X.length:Nat):Int)) (hb:b=((A1.length+X.length+Y.length:Nat):Int))
  (hl:A1.length+X.length+Y.length≤2000000) (k:∀ A',AR H0 A' s (A1++(Y++(X++B))) R→K (.tuple #[]) A'):CallF Tryz.prog 210 #[.slice s.a s.n s.c,.int .i64 a,.int .i64 m,.int .i64 b,cmp] A K Z:=by
 subst ha
 subst hm
 subst hb
 have lx:0 < X.length:=List.length_pos_iff.2 hx
 have ly:0 < Y.length:=List.length_pos_iff.2 hy
 refine V210_ok ?_
 unfold V210
 rw [wn (x:=((A1.length+X.length:Nat):Int) - ((A1.length:Nat):Int)) (n:=X.length) (by omega) (by omega),wn (x:=((A1.length+X.length+Y.length:Nat):Int) - ((A1.length+X.length:Nat):Int)) (n:=Y.length) (by omega) (by omega)]
 refine ⟨fun i j C m=>∃ (U P Q W:List El),i=((P.length:Nat):Int)∧j=((Q.length:Nat):Int)∧0 < P.length∧0 < Q.length∧m=P.length+Q.length∧U.length+P.length=X.length∧U.length+P.length+Q.length+W.length=X.length+Y.length∧Y++X=U++(Q++(P++W))∧AR H0 C s (A1++(U++(P++(Q++(W++B))))) R,⟨_,[],X,Y,[],rfl,rfl,lx,ly,rfl,by simp,by simp,by simp,by simpa using h⟩,?_⟩
 rintro i j C m ⟨U,P,Q,W,rfl,rfl,hp,hq,rfl,hu,hlen,he,sC⟩ scr
 rw [wn (x:=((A1.length+X.length:Nat):Int) - ((P.length:Nat):Int)) (n:=A1.length+U.length) (by omega) (by omega)]
 refine ⟨fun hne=>⟨fun hgt=>?_,fun hle=>?_⟩,fun heq=>?_⟩
 ·have hgt:Q.length < P.length:=by have:=of_decide_eq_true hgt;omega
  have eP:P=P.take Q.length++P.drop Q.length:=(List.take_append_drop _ _).symm
  have l1:(P.take Q.length).length=Q.length:=by rw [List.length_take];omega
  have l2:(P.drop Q.length).length=P.length - Q.length:=List.length_drop
  generalize P.take Q.length=P1 at eP l1
  generalize P.drop Q.length=P2 at eP l2
  have sC':AR H0 C s ((A1++U)++(P1++(P2++(Q++(W++B))))) R:=by
   rw [eP] at sC
   simpa using sC
  refine swap_ok sC' l1 (by rw [List.length_append]) (by rw [List.length_append,l1,l2];omega) (by rw [l1]) (by rw [List.length_append];omega) fun D sD=>⟨rfl,P2.length+P1.length,by omega,U++Q,P2,P1,W,?_,by rw [l1],by omega,by omega,rfl,by rw [List.length_append];omega,by rw [List.length_append];omega,?_,?_⟩
  ·rw [wn (n:=P2.length) (by omega) (by omega)]
  ·rw [he,eP];simp
  ·simpa using sD
 ·have hle:P.length < Q.length:=by
   have h1:=of_decide_eq_false hle
   have h2:((P.length:Nat):Int)≠((Q.length:Nat):Int):=bne_iff_ne.1 hne
   omega
  have eQ:Q=Q.take (Q.length - P.length)++Q.drop (Q.length - P.length):=(List.take_append_drop _ _).symm
  have l1:(Q.take (Q.length - P.length)).length=Q.length - P.length:=by rw [List.length_take];omega
  have l2:(Q.drop (Q.length - P.length)).length=P.length:=by rw [List.length_drop];omega
  generalize Q.take (Q.length - P.length)=Q1 at eQ l1
  generalize Q.drop (Q.length - P.length)=Q2 at eQ l2
  rw [wn (x:=((A1.length+X.length:Nat):Int)+((Q.length:Nat):Int)) (n:=A1.length+X.length+Q.length) (by omega) (by omega),wn (x:=((A1.length+X.length+Q.length:Nat):Int) - ((P.length:Nat):Int)) (n:=A1.length+X.length+Q.length - P.length) (by omega) (by omega)]
  have sC':AR H0 C s ((A1++U)++(P++(Q1++(Q2++(W++B))))) R:=by
   rw [eQ] at sC
   simpa using sC
  refine swap_ok sC' l2.symm (by rw [List.length_append]) (by rw [List.length_append,l1];omega) rfl (by rw [List.length_append];omega) fun D sD=>⟨rfl,Q2.length+Q1.length,by omega,U,Q2,Q1,P++W,by rw [l2],?_,by omega,by omega,rfl,by omega,by rw [List.length_append];omega,?_,?_⟩
  ·rw [wn (n:=Q1.length) (by omega) (by omega)]
  ·rw [he,eQ];simp
  ·simpa using sD
 ·have heq:P.length=Q.length:=by
   have h2:((P.length:Nat):Int)=((Q.length:Nat):Int):=bne_eq_false_iff_eq.1 heq
   omega
  have sC':AR H0 C s ((A1++U)++(P++([]++(Q++(W++B))))) R:=by simpa using sC
  refine swap_ok sC' heq (by rw [List.length_append]) (by rw [List.length_append,List.length_nil];omega) rfl (by rw [List.length_append,List.length_nil];omega) fun D sD=>⟨rfl,k D ?_⟩
  have e:A1++(Y++(X++B))=(A1++U)++(Q++([]++(P++(W++B)))):=by
   have:Y++(X++B)=(Y++X)++B:=by simp
   rw [this,he]
   simp
  rw [e]
  exact sD
section
variable {κ : Type}{c : κ→κ→Int}{ky:El→κ}{Q:El→Prop}
theorem mid_srt {S1 S2:List El}{x:El}(hS:Srt c ky tg (S1++S2)) (h1:∀ y∈S1,Ahead c ky tg y x) (h2:∀ y∈S2,Ahead c ky tg x y):Srt c ky tg (S1++x::S2):=by
 rw [Srt,List.pairwise_append] at hS
 rw [Srt,List.pairwise_append,List.pairwise_cons]
 refine ⟨hS.1,⟨h2,hS.2.1⟩,fun a ha b hb=>?_⟩
 rcases List.mem_cons.1 hb with rfl | hb
 ·exact h1 a ha
 ·exact hS.2.2 a ha b hb
theorem ins_ok (hc:CmpLin c) (hv:CmpV cmp c ky Q H0) {A1 M B:List El}{a b:Int}(h:AR H0 A s (A1++(M++B)) R) (hq:∀ x∈M,Q x) (ht:M.Pairwise fun x y=>x.2 < y.2) (ha:a=((A1.length:Nat):Int)) (hb:b=((A1.length+M.length:Nat):Int))
  (hl:A1.length+M.length≤2000000) (k:∀ A' M',M'.Perm M→Srt c ky tg M'→AR H0 A' s (A1++(M'++B)) R→K (.tuple #[]) A'):CallF Tryz.prog 192 #[.slice s.a s.n s.c,.int .i64 a,.int .i64 b,cmp] A K Z:=by
 subst ha
 subst hb
 refine V192_ok ?_
 unfold V192
 rw [wn (x:=((A1.length:Nat):Int)+1) (n:=A1.length+1) (by omega) (by omega)]
 refine ⟨fun i C m=>∃ (q:Nat) (S:List El),i=((A1.length+q:Nat):Int)∧1≤q∧(q≤M.length∨M = []∧q=1)∧m=M.length+1 - q∧S.Perm (M.take q)∧Srt c ky tg S∧AR H0 C s (A1++(S++(M.drop q++B))) R,⟨_,1,M.take 1,rfl,Nat.le_refl _,?_,rfl,List.Perm.refl _,?_,?_⟩,?_⟩
 ·cases M with
  | nil=>exact .inr ⟨rfl,rfl⟩
  | cons x r=>exact .inl (by simp)
 ·cases M with
  | nil=>exact List.Pairwise.nil
  | cons x r=>exact List.pairwise_singleton _ _
 ·have:M=M.take 1++M.drop 1:=(List.take_append_drop _ _).symm
  rw [this,List.append_assoc] at h
  exact h
 rintro i C m ⟨q,S,rfl,hq1,hq2,rfl,hperm,hsrt,sC⟩ scr
 refine ⟨fun hlt=>?_,fun hge=>?_⟩
 ·have hqM:q < M.length:=by have:=dlt hlt;omega
  obtain ⟨x,hx,hxm⟩:=getN hqM
  have dM:M.drop q=x::M.drop (q+1):=by
   obtain ⟨_,e⟩:=List.getElem?_eq_some_iff.1 hx
   rw [List.drop_eq_getElem_cons hqM,e]
  have hlS:S.length=q:=by rw [hperm.length_eq,List.length_take];omega
  have htx:∀ y∈S,y.2 < x.2:=fun y hy=>by
   obtain ⟨t,h1,h2⟩:=mem_take.1 (hperm.subset hy)
   exact pw_at (R:=fun (x y:El)=>x.2 < y.2) ht h2 hx h1
  have hqS:∀ y∈S,Q y:=fun y hy=>hq y (List.mem_of_mem_take (hperm.subset hy))
  rw [dM] at sC
  refine ⟨fun j D m=>∃ S1 S2:List El,j=((A1.length+S1.length:Nat):Int)∧m=S1.length∧S=S1++S2∧(∀ y∈S2,c (ky x) (ky y) < 0)∧AR H0 D s (A1++(S1++(x::(S2++(M.drop (q+1)++B))))) R,⟨_,S,[],by rw [hlS],rfl,by simp,by simp,by simpa using sC⟩,?_⟩
  rintro j D m ⟨S1,S2,rfl,rfl,rfl,h2,sD⟩ scr1
  have out:∀ E,AR H0 E s (A1++(S1++(x::(S2++(M.drop (q+1)++B))))) R→(∀ y∈S1,Ahead c ky tg y x)→∃ m2,m2 < M.length+1 - q∧∃ (q':Nat) (S':List El),w64 (((A1.length+q:Nat):Int)+1)=((A1.length+q':Nat):Int)∧1≤q'∧(q'≤M.length∨M = []∧q'=1)∧m2=M.length+1 - q'∧S'.Perm (M.take q')∧Srt c ky tg S'∧AR H0 E s (A1++(S'++(M.drop q'++B))) R:=fun E sE h1=>by
   refine ⟨M.length+1 - (q+1),by omega,q+1,S1++x::S2,wn (by omega) (by omega),by omega,.inl hqM,rfl,?_,mid_srt hsrt h1 fun y hy=>.inl (h2 y hy),by simpa using sE⟩
   rw [List.take_add_one,hx]
   refine (List.perm_middle.trans ?_)
   refine (List.Perm.cons x hperm).trans ?_
   exact (List.perm_append_singleton x _).symm
  refine ⟨fun hgt=>?_,fun hle=>?_⟩
  ·have h0:0 < S1.length:=by have:=of_decide_eq_true hgt;omega
   obtain ⟨S0,p,rfl⟩:∃ S0 p,S1=S0 ++ [p]:=by
    rcases List.eq_nil_or_concat S1 with e | ⟨S0,p,e⟩
    ·rw [e] at h0;cases h0
    ·exact ⟨S0,p,by rw [e,List.concat_eq_append]⟩
   have e1:A1++((S0 ++ [p])++(x::(S2++(M.drop (q+1)++B))))=(A1++S0)++p::([]++x::(S2++(M.drop (q+1)++B))):=by simp
   have l1:(A1++S0).length=A1.length+S0.length:=List.length_append
   have l2:(S0 ++ [p]).length=S0.length+1:=by simp
   rw [l2,wn (x:=((A1.length+(S0.length+1):Nat):Int) - 1) (n:=A1.length+S0.length) (by omega) (by rw [List.length_append,l2] at hlS;omega)]
   have sD':=sD
   rw [e1] at sD'
   have i1:=swA1 (P:=A1++S0) (x:=p) (M:=[]) (y:=x) (W:=S2++(M.drop (q+1)++B))
   have i2:=swA2 (P:=A1++S0) (x:=p) (M:=[]) (y:=x) (W:=S2++(M.drop (q+1)++B))
   rw [l1] at i1
   rw [l1,List.length_nil,show A1.length+S0.length+1+0=A1.length+(S0.length+1) by omega] at i2
   have hpS:p∈(S0 ++ [p])++S2:=by simp
   refine AR.at sD' i2 fun ad=>AR.at sD' i1 fun ad1=>hv (hq x hxm) (hqS p hpS) sD'.fr fun E fE=>⟨_,rfl,fun hneg=>?_,fun hneg=>?_⟩
   ·have sE:=Sym.more sD' fE
    refine AR.at sE i1 fun ad2=>AR.at sE i2 fun ad3=>Sym.swp' sE FlE (by decide) l1.symm (by rw [l1,List.length_nil];omega) fun F sF=>⟨S0.length,by omega,S0,p::S2,rfl,rfl,by simp,?_,by simpa using sF⟩
    intro y hy
    rcases List.mem_cons.1 hy with rfl | hy
    ·exact of_decide_eq_true hneg
    ·exact h2 y hy
   ·have sE:=Sym.more sD fE
    refine out E sE fun y hy=>?_
    have hpx:Ahead c ky tg p x:=Ahead.more hc (htx p hpS) (of_decide_eq_false hneg)
    rcases List.mem_append.1 hy with hy | hy
    ·have h3:Srt c ky tg (S0 ++ [p]):=(List.pairwise_append.1 hsrt).1
     exact Ahead.tr hc ((List.pairwise_append.1 h3).2.2 y hy p (by simp)) hpx
    ·rw [List.mem_singleton.1 hy];exact hpx
  ·have h0:S1 = []:=List.eq_nil_of_length_eq_zero (by have:=of_decide_eq_false hle;omega)
   subst h0
   exact out D sD (by simp)
 ·have hqM:M.length≤q:=by have:=dge hge;omega
  rw [List.take_of_length_le hqM] at hperm
  rw [List.drop_of_length_le hqM,List.nil_append] at sC
  exact k C S hperm hsrt sC
theorem neI' {a b:Int}(h:(a == b)=false):a≠b:=by rw [beq_eq_false_iff_ne] at h;exact h
theorem gt1 {A1 X W:List El}{t:Nat}{x:El}(h:X[t]? = some x):(A1++(X++W))[A1.length+t]? = some x:=by
 have ht:=(List.getElem?_eq_some_iff.1 h).1
 rw [List.getElem?_append_right (by omega),show A1.length+t - A1.length=t by omega,List.getElem?_append_left ht,h]
theorem gt2 {A1 X Y W:List El}{t:Nat}{y:El}(h:Y[t]? = some y):(A1++(X++(Y++W)))[A1.length+X.length+t]? = some y:=by
 have ht:=(List.getElem?_eq_some_iff.1 h).1
 rw [List.getElem?_append_right (by omega),List.getElem?_append_right (by omega),show A1.length+X.length+t - A1.length - X.length=t by omega,List.getElem?_append_left ht,h]
theorem sym_ok (hc:CmpLin c) (hv:CmpV cmp c ky Q H0) (N:Nat):∀ {A1 X Y B:List El}{a m b:Int}{A:Hp}{K:Value→Hp→Prop},X.length+Y.length≤N→AR H0 A s (A1++(X++(Y++B))) R→X ≠ []→Y ≠ []→Srt c ky tg X→Srt c ky tg Y →
  (∀ x∈X,∀ y∈Y,x.2 < y.2)→(∀ x∈X,Q x)→(∀ y∈Y,Q y)→a=((A1.length:Nat):Int)→m=((A1.length+X.length:Nat):Int)→b=((A1.length+X.length+Y.length:Nat):Int)→A1.length+X.length+Y.length≤2000000 →
  (∀ A' M',M'.Perm (X++Y)→Srt c ky tg M'→AR H0 A' s (A1++(M'++B)) R→K (.tuple #[]) A')→CallF Tryz.prog 193 #[.slice s.a s.n s.c,.int .i64 a,.int .i64 m,.int .i64 b,cmp] A K Z:=by
 induction N with
 | zero=>
  intro A1 X Y B a m b A K hN _ hx
  exact absurd (List.eq_nil_of_length_eq_zero (by omega)) hx
 | succ N ih=>
 intro A1 X Y B a m b A K hN h hx hy sX sY ht qX qY ha hm hb hl k
 subst ha
 subst hm
 subst hb
 have lx:0 < X.length:=List.length_pos_iff.2 hx
 have ly:0 < Y.length:=List.length_pos_iff.2 hy
 refine V193_ok ?_
 unfold V193
 rw [wn (x:=((A1.length+X.length:Nat):Int) - ((A1.length:Nat):Int)) (n:=X.length) (by omega) (by omega),wn (x:=((A1.length+X.length+Y.length:Nat):Int) - ((A1.length+X.length:Nat):Int)) (n:=Y.length) (by omega) (by omega)]
 refine ⟨fun h1=>?_,fun h1=>⟨fun h2=>?_,fun h2=>?_⟩⟩
 ·-- one alone stands ahead
  have h1:X.length=1:=by have:((X.length:Nat):Int)=1:=eq_of_beq h1;omega
  obtain ⟨x,rfl⟩:=List.length_eq_one_iff.1 h1
  have hxq:=qX x (by simp)
  have htx:∀ y∈Y,tg x < tg y:=fun y hy=>ht x (by simp) y hy
  simp only [List.length_singleton] at *
  refine ⟨fun i j C m=>∃ p q:Nat,i=((A1.length+1+p:Nat):Int)∧j=((A1.length+1+q:Nat):Int)∧p≤q∧q≤Y.length∧m=q - p∧(∀ t y,t < p→Y[t]? = some y→c (ky y) (ky x) < 0)∧(∀ t y,q≤t→Y[t]? = some y→¬ c (ky y) (ky x) < 0)∧AR H0 C s (A1++([x]++(Y++B))) R,⟨_,0,Y.length,rfl,rfl,Nat.zero_le _,Nat.le_refl _,rfl,by omega,?_,h⟩,?_⟩
  ·intro t y h1 h2
   have:=(List.getElem?_eq_some_iff.1 h2).1
   omega
  rintro i j C m ⟨p,q,rfl,rfl,hpq,hq,rfl,hlo,hhi,sC⟩ scr
  rw [half (x:=((A1.length+1+p:Nat):Int)+((A1.length+1+q:Nat):Int)) (n:=A1.length+1+p+(A1.length+1+q)) (by omega) (by omega),show (A1.length+1+p+(A1.length+1+q)) / 2=A1.length+1+(p+q) / 2 by omega]
  refine ⟨fun hlt=>?_,fun hge=>?_⟩
  ·have hlt:p < q:=by have:=dlt hlt;omega
   have hm:(p+q) / 2 < Y.length:=by omega
   obtain ⟨y,hy',hym⟩:=getN hm
   have g1:=gt2 (A1:=A1) (X:=[x]) (W:=B) hy'
   have g2:=gt1 (A1:=A1) (X:=[x]) (W:=Y++B) (t:=0) (x:=x) rfl
   rw [List.length_singleton] at g1
   refine AR.at sC g1 fun ad=>AR.at sC g2 fun ad1=>hv (qY y hym) hxq sC.fr fun D fD=>⟨_,rfl,fun hneg=>⟨q - ((p+q) / 2+1),by omega,(p+q) / 2+1,q,wn (by omega) (by omega),rfl,by omega,hq,rfl,fun t z hz1 hz2=>?_,hhi,Sym.more sC fD⟩,fun hneg=>⟨(p+q) / 2 - p,by omega,p,(p+q) / 2,rfl,rfl,by omega,by omega,rfl,hlo,fun t z hz1 hz2 hz3=>?_,Sym.more sC fD⟩⟩
   ·exact low_mono hc sY hz2 hy' (by omega) (of_decide_eq_true hneg)
   ·exact of_decide_eq_false hneg (low_mono hc sY hy' hz2 hz1 hz3)
  ·have hpe:p=q:=by have:=dge hge;omega
   subst hpe
   rw [wn (x:=((A1.length+1+p:Nat):Int) - 1) (n:=A1.length+p) (by omega) (by omega)]
   refine ⟨fun k' D m=>∃ t:Nat,k'=((A1.length+t:Nat):Int)∧t≤p∧m=p - t∧AR H0 D s (A1++(Y.take t++x::(Y.drop t++B))) R,⟨_,0,rfl,Nat.zero_le _,rfl,by simpa using sC⟩,?_⟩
   rintro k' D m ⟨t,rfl,htp,rfl,sD⟩ scr1
   refine ⟨fun hlt2=>?_,fun hge2=>?_⟩
   ·have htp':t < p:=by have:=dlt hlt2;omega
    have hm:t < Y.length:=by omega
    obtain ⟨y,hy',hym⟩:=getN hm
    have dY:Y.drop t=y::Y.drop (t+1):=by
     obtain ⟨_,e⟩:=List.getElem?_eq_some_iff.1 hy'
     rw [List.drop_eq_getElem_cons hm,e]
    have e1:A1++(Y.take t++x::(y::Y.drop (t+1)++B))=(A1++Y.take t)++x::([]++y::(Y.drop (t+1)++B)):=by simp
    rw [dY,e1] at sD
    have l1:(A1++Y.take t).length=A1.length+t:=by simp;omega
    have i1:=swA1 (P:=A1++Y.take t) (x:=x) (M:=[]) (y:=y) (W:=Y.drop (t+1)++B)
    have i2:=swA2 (P:=A1++Y.take t) (x:=x) (M:=[]) (y:=y) (W:=Y.drop (t+1)++B)
    rw [l1] at i1
    rw [l1,List.length_nil,show A1.length+t+1+0=A1.length+(t+1) by omega] at i2
    rw [wn (x:=((A1.length+t:Nat):Int)+1) (n:=A1.length+(t+1)) (by omega) (by omega)]
    refine AR.at sD i2 fun ad=>AR.at sD i1 fun ad1=>Sym.swp sD FlE (by decide) l1.symm (by rw [l1,List.length_nil];omega) fun F sF=>⟨p - (t+1),by omega,t+1,rfl,htp',rfl,?_⟩
    rw [List.take_add_one,hy']
    simpa using sF
   ·have e:t=p:=by have:=dge hge2;omega
    subst e
    refine k D (Y.take t++x::Y.drop t) ?_ (ins_low hc sY htx hlo hhi) (by simpa using sD)
    have:=List.perm_middle (a:=x) (l₁:=Y.take t) (l₂:=Y.drop t)
    rw [List.take_append_drop] at this
    exact this
 ·-- one alone stands behind
  have h2:Y.length=1:=by have:((Y.length:Nat):Int)=1:=eq_of_beq h2;omega
  obtain ⟨y,rfl⟩:=List.length_eq_one_iff.1 h2
  have hyq:=qY y (by simp)
  have htx:∀ x∈X,tg x < tg y:=fun x hx=>ht x hx y (by simp)
  simp only [List.length_singleton] at *
  refine ⟨fun i j C m=>∃ p q:Nat,i=((A1.length+p:Nat):Int)∧j=((A1.length+q:Nat):Int)∧p≤q∧q≤X.length∧m=q - p∧(∀ t x,t < p→X[t]? = some x→¬ c (ky y) (ky x) < 0)∧(∀ t x,q≤t→X[t]? = some x→c (ky y) (ky x) < 0)∧AR H0 C s (A1++(X++([y]++B))) R,⟨_,0,X.length,rfl,rfl,Nat.zero_le _,Nat.le_refl _,rfl,by omega,?_,h⟩,?_⟩
  ·intro t y h1 h2
   have:=(List.getElem?_eq_some_iff.1 h2).1
   omega
  rintro i j C m ⟨p,q,rfl,rfl,hpq,hq,rfl,hlo,hhi,sC⟩ scr
  rw [half (x:=((A1.length+p:Nat):Int)+((A1.length+q:Nat):Int)) (n:=A1.length+p+(A1.length+q)) (by omega) (by omega),show (A1.length+p+(A1.length+q)) / 2=A1.length+(p+q) / 2 by omega]
  refine ⟨fun hlt=>?_,fun hge=>?_⟩
  ·have hlt:p < q:=by have:=dlt hlt;omega
   have hm:(p+q) / 2 < X.length:=by omega
   obtain ⟨x,hx',hxm⟩:=getN hm
   have g1:=gt2 (A1:=A1) (X:=X) (Y:=[y]) (W:=B) (t:=0) (y:=y) rfl
   have g2:=gt1 (A1:=A1) (W:=[y]++B) hx'
   refine AR.at sC g1 fun ad=>AR.at sC g2 fun ad1=>hv hyq (qX x hxm) sC.fr fun D fD=>⟨_,rfl,fun hneg=>⟨q - ((p+q) / 2+1),by omega,(p+q) / 2+1,q,wn (by omega) (by omega),rfl,by omega,hq,rfl,fun t z hz1 hz2 hz3=>?_,hhi,Sym.more sC fD⟩,fun hneg=>⟨(p+q) / 2 - p,by omega,p,(p+q) / 2,rfl,rfl,by omega,by omega,rfl,hlo,fun t z hz1 hz2=>?_,Sym.more sC fD⟩⟩
   ·have hneg:¬ c (ky y) (ky x) < 0:=by simpa using hneg
    exact hneg (high_mono hc sX hz2 hx' (by omega) hz3)
   ·have hneg:c (ky y) (ky x) < 0:=by simpa using hneg
    exact high_mono hc sX hx' hz2 hz1 hneg
  ·have hpe:p=q:=by have:=dge hge;omega
   subst hpe
   refine ⟨fun k' D m=>∃ t:Nat,k'=((A1.length+t:Nat):Int)∧p≤t∧t≤X.length∧m=t - p∧AR H0 D s (A1++(X.take t++y::(X.drop t++B))) R,⟨_,X.length,rfl,hq,Nat.le_refl _,rfl,by simpa using sC⟩,?_⟩
   rintro k' D m ⟨t,rfl,htp,htx',rfl,sD⟩ scr1
   refine ⟨fun hlt2=>?_,fun hge2=>?_⟩
   ·have htp':p < t:=by have:=of_decide_eq_true hlt2;omega
    obtain ⟨u,rfl⟩:∃ u,t=u+1:=⟨t - 1,by omega⟩
    have hm:u < X.length:=by omega
    obtain ⟨x,hx',hxm⟩:=getN hm
    have dX:X.drop u=x::X.drop (u+1):=by
     obtain ⟨_,e⟩:=List.getElem?_eq_some_iff.1 hx'
     rw [List.drop_eq_getElem_cons hm,e]
    have e1:A1++((X.take u ++ [x])++y::(X.drop (u+1)++B))=(A1++X.take u)++x::([]++y::(X.drop (u+1)++B)):=by simp
    rw [List.take_add_one,hx',Option.toList_some,e1] at sD
    have l1:(A1++X.take u).length=A1.length+u:=by simp;omega
    have i1:=swA1 (P:=A1++X.take u) (x:=x) (M:=[]) (y:=y) (W:=X.drop (u+1)++B)
    have i2:=swA2 (P:=A1++X.take u) (x:=x) (M:=[]) (y:=y) (W:=X.drop (u+1)++B)
    rw [l1] at i1
    rw [l1,List.length_nil,show A1.length+u+1+0=A1.length+(u+1) by omega] at i2
    rw [wn (x:=((A1.length+(u+1):Nat):Int) - 1) (n:=A1.length+u) (by omega) (by omega)]
    refine AR.at sD i1 fun ad=>AR.at sD i2 fun ad1=>Sym.swp' sD FlE (by decide) l1.symm (by rw [l1,List.length_nil];omega) fun F sF=>⟨u - p,by omega,u,rfl,by omega,by omega,rfl,?_⟩
    rw [dX]
    simpa using sF
   ·have e:t=p:=by have:=of_decide_eq_false hge2;omega
    subst e
    refine k D (X.take t++y::X.drop t) ?_ (ins_high hc sX htx hlo hhi) (by simpa using sD)
    have:=List.perm_middle (a:=y) (l₁:=X.take t) (l₂:=X.drop t)
    rw [List.take_append_drop] at this
    exact this.trans (List.perm_append_singleton y X).symm
 ·-- both of more than one
  have hX2:X.length≠1:=fun e=>neI' h1 (by omega)
  have hY2:Y.length≠1:=fun e=>neI' h2 (by omega)
  obtain ⟨mid,hmid⟩:∃ mid,mid=(A1.length+(A1.length+X.length+Y.length)) / 2:=⟨_,rfl⟩
  rw [half (x:=((A1.length:Nat):Int)+((A1.length+X.length+Y.length:Nat):Int)) (n:=A1.length+(A1.length+X.length+Y.length)) (by omega) (by omega),← hmid]
  rw [wn (x:=((mid:Nat):Int)+((A1.length+X.length:Nat):Int)) (n:=mid+(A1.length+X.length)) (by omega) (by omega),wn (x:=((mid+(A1.length+X.length):Nat):Int) - 1) (n:=mid+(A1.length+X.length) - 1) (by omega) (by omega)]
  refine ⟨fun st r E=>E=A∧∃ s0 r0:Nat,st=((s0:Nat):Int)∧r=((r0:Nat):Int)∧s0≤r0∧((s0=A1.length∧r0=A1.length+X.length∧A1.length+X.length≤mid)∨(s0+(A1.length+X.length+Y.length)=mid+(A1.length+X.length)∧r0=mid∧mid < A1.length+X.length)),?_,fun hgt=>⟨rfl,mid+(A1.length+X.length) - (A1.length+X.length+Y.length),mid,?_,rfl,?_,.inr ⟨?_,rfl,?_⟩⟩,fun hle=>⟨rfl,A1.length,A1.length+X.length,rfl,rfl,by omega,.inl ⟨rfl,rfl,?_⟩⟩⟩
  rotate_left
  ·have:=of_decide_eq_true hgt
   exact wn (by omega) (by omega)
  ·have:=of_decide_eq_true hgt;omega
  ·have:=of_decide_eq_true hgt;omega
  ·have:=of_decide_eq_true hgt;omega
  ·have:=of_decide_eq_false hle;omega
  rintro st r E ⟨hEA,s0,r0,rfl,rfl,hsr,hrng⟩ scr
  rw [hEA]
  clear hEA E
  refine ⟨fun st r E m=>∃ p q:Nat,st=((p:Nat):Int)∧r=((q:Nat):Int)∧s0≤p∧p≤q∧q≤r0∧m=q - p∧AR H0 E s (A1++(X++(Y++B))) R ∧
   (p=s0∨∀ x y,X[p - 1 - A1.length]? = some x→Y[mid+(A1.length+X.length) - p - (A1.length+X.length)]? = some y→¬ c (ky y) (ky x) < 0) ∧
   (q=r0∨∀ x y,X[q - A1.length]? = some x→Y[mid+(A1.length+X.length) - 1 - q - (A1.length+X.length)]? = some y→c (ky y) (ky x) < 0),⟨_,s0,r0,rfl,rfl,Nat.le_refl _,hsr,Nat.le_refl _,rfl,h,.inl rfl,.inl rfl⟩,?_⟩
  rintro st r E m ⟨p,q,rfl,rfl,hp0,hpq,hqr,rfl,sE,hpA,hqB⟩ scr1
  rw [half (x:=((p:Nat):Int)+((q:Nat):Int)) (n:=p+q) (by omega) (by omega)]
  refine ⟨fun hlt=>?_,fun hge=>?_⟩
  ·have hlt:p < q:=dlt hlt
   have hcx:(p+q) / 2 - A1.length < X.length:=by omega
   have hcy:mid+(A1.length+X.length) - 1 - (p+q) / 2 - (A1.length+X.length) < Y.length:=by omega
   obtain ⟨x,hx',hxm⟩:=getN hcx
   obtain ⟨y,hy',hym⟩:=getN hcy
   have g1:=gt1 (A1:=A1) (W:=Y++B) hx'
   have g2:=gt2 (A1:=A1) (X:=X) (W:=B) hy'
   rw [show A1.length+((p+q) / 2 - A1.length)=(p+q) / 2 by omega] at g1
   rw [show A1.length+X.length+(mid+(A1.length+X.length) - 1 - (p+q) / 2 - (A1.length+X.length))=mid+(A1.length+X.length) - 1 - (p+q) / 2 by omega] at g2
   rw [wn (x:=((mid+(A1.length+X.length) - 1:Nat):Int) - (((p+q) / 2:Nat):Int)) (n:=mid+(A1.length+X.length) - 1 - (p+q) / 2) (by omega) (by omega)]
   refine AR.at sE g2 fun ad=>AR.at sE g1 fun ad1=>hv (qY y hym) (qX x hxm) sE.fr fun D fD=>⟨_,rfl,fun hneg=>⟨q - ((p+q) / 2+1),by omega,(p+q) / 2+1,q,wn (by omega) (by omega),rfl,by omega,by omega,hqr,rfl,Sym.more sE fD,.inr fun x' y' e1 e2=>?_,hqB⟩,fun hneg=>⟨(p+q) / 2 - p,by omega,p,(p+q) / 2,rfl,rfl,hp0,by omega,by omega,rfl,Sym.more sE fD,hpA,.inr fun x' y' e1 e2=>?_⟩⟩
   ·have hneg:¬ c (ky y) (ky x) < 0:=by simpa using hneg
    rw [show (p+q) / 2+1 - 1 - A1.length=(p+q) / 2 - A1.length by omega,hx'] at e1
    rw [show mid+(A1.length+X.length) - ((p+q) / 2+1) - (A1.length+X.length)=mid+(A1.length+X.length) - 1 - (p+q) / 2 - (A1.length+X.length) by omega,hy'] at e2
    rw [← Option.some_inj.1 e1,← Option.some_inj.1 e2]
    exact hneg
   ·have hneg:c (ky y) (ky x) < 0:=by simpa using hneg
    rw [hx'] at e1
    rw [hy'] at e2
    rw [← Option.some_inj.1 e1,← Option.some_inj.1 e2]
    exact hneg
  have hpe:p=q:=by have:=dge hge;omega
  subst hpe
  have hpa:A1.length≤p:=by omega
  have hpm:p≤A1.length+X.length:=by omega
  have hpmid:p≤mid:=by omega
  have hje:mid+(A1.length+X.length) - p≤A1.length+X.length+Y.length:=by omega
  have hcross:=cross (i:=p - A1.length) (j:=mid+(A1.length+X.length) - p - (A1.length+X.length)) hc sX sY ht (by omega) (by omega)
   (by
    rcases hpA with e | e
    ·rcases hrng with ⟨e1,_,_⟩ | ⟨e1,_,_⟩
     ·exact .inl (by omega)
     ·exact .inr (.inl (by omega))
    ·refine .inr (.inr fun x y h1 h2=>e x y ?_ h2)
     rw [show p - 1 - A1.length=p - A1.length - 1 by omega]
     exact h1)
   (by
    rcases hqB with e | e
    ·rcases hrng with ⟨_,e1,_⟩ | ⟨_,e1,_⟩
     ·exact .inl (by omega)
     ·exact .inr (.inl (by omega))
    ·refine .inr (.inr fun x y h1 h2=>e x y h1 ?_)
     rw [show mid+(A1.length+X.length) - 1 - p - (A1.length+X.length)=mid+(A1.length+X.length) - p - (A1.length+X.length) - 1 by omega]
     exact h2)
  have eX:=(List.take_append_drop (p - A1.length) X).symm
  have eY:=(List.take_append_drop (mid+(A1.length+X.length) - p - (A1.length+X.length)) Y).symm
  have l1:(X.take (p - A1.length)).length=p - A1.length:=by rw [List.length_take];omega
  have l2:(X.drop (p - A1.length)).length=A1.length+X.length - p:=by rw [List.length_drop];omega
  have l3:(Y.take (mid+(A1.length+X.length) - p - (A1.length+X.length))).length=mid - p:=by rw [List.length_take];omega
  have l4:(Y.drop (mid+(A1.length+X.length) - p - (A1.length+X.length))).length=Y.length - (mid - p):=by rw [List.length_drop];omega
  generalize X.take (p - A1.length)=X1 at eX l1 hcross
  generalize X.drop (p - A1.length)=X2 at eX l2 hcross
  generalize Y.take (mid+(A1.length+X.length) - p - (A1.length+X.length))=Y1 at eY l3 hcross
  generalize Y.drop (mid+(A1.length+X.length) - p - (A1.length+X.length))=Y2 at eY l4 hcross
  have sX':=sX
  have sY':=sY
  rw [eX,Srt,List.pairwise_append] at sX'
  rw [eY,Srt,List.pairwise_append] at sY'
  have mX1:∀ z∈X1,z∈X:=fun z hz=>by rw [eX];exact List.mem_append_left _ hz
  have mX2:∀ z∈X2,z∈X:=fun z hz=>by rw [eX];exact List.mem_append_right _ hz
  have mY1:∀ z∈Y1,z∈Y:=fun z hz=>by rw [eY];exact List.mem_append_left _ hz
  have mY2:∀ z∈Y2,z∈Y:=fun z hz=>by rw [eY];exact List.mem_append_right _ hz
  have sE':AR H0 E s (A1++(X1++(X2++(Y1++(Y2++B))))) R:=by
   rw [eX,eY] at sE
   simpa using sE
  rw [wn (x:=((mid+(A1.length+X.length):Nat):Int) - ((p:Nat):Int)) (n:=mid+(A1.length+X.length) - p) (by omega) (by omega)]
  refine ⟨fun E=>AR H0 E s (A1++(X1++(Y1++(X2++(Y2++B))))) R,?_,fun t E=>AR H0 E s (A1++(X1++(X2++(Y1++(Y2++B))))) R∧t=decide (p < A1.length+X.length∧p < mid),?_,fun h3=>⟨sE',?_⟩,fun h3=>⟨sE',?_⟩⟩
  rotate_left
  ·rintro t F ⟨sF,ht'⟩ scr2
   refine ⟨fun e=>?_,fun e=>?_⟩
   ·rw [e] at ht'
    have hh:=of_decide_eq_true ht'.symm
    have sF':AR H0 F s ((A1++X1)++(X2++(Y1++(Y2++B)))) R:=by simpa using sF
    refine rot_ok sF' (fun e=>by rw [e] at l2;simp at l2;omega) (fun e=>by rw [e] at l3;simp at l3;omega) ?_ ?_ ?_ (by rw [List.length_append];omega) fun G sG=>⟨rfl,by simpa using sG⟩
    ·rw [List.length_append];omega
    ·rw [List.length_append];omega
    ·rw [List.length_append];omega
   ·rw [e] at ht'
    have hh:=of_decide_eq_false ht'.symm
    have:X2 = []∨Y1 = []:=by
     by_cases e1:p < A1.length+X.length
     ·exact .inr (List.eq_nil_of_length_eq_zero (by omega))
     ·exact .inl (List.eq_nil_of_length_eq_zero (by omega))
    rcases this with e | e
    ·subst e;exact sF
    ·subst e;simpa using sF
  ·have h3:=dlt h3
   rw [Bool.eq_iff_iff,decide_eq_true_eq,decide_eq_true_eq]
   omega
  ·have h3:=dge h3
   exact (decide_eq_false (by omega)).symm
  intro F sF scr2
  refine ⟨fun G=>∃ M1:List El,M1.Perm (X1++Y1)∧Srt c ky tg M1∧AR H0 G s (A1++(M1++(X2++(Y2++B)))) R,?_,fun t G=>AR H0 G s (A1++(X1++(Y1++(X2++(Y2++B))))) R∧t=decide (A1.length < p∧p < mid),?_,fun h3=>⟨sF,?_⟩,fun h3=>⟨sF,?_⟩⟩
  rotate_left
  ·rintro t G ⟨sG,ht'⟩ scr3
   refine ⟨fun e=>?_,fun e=>?_⟩
   ·rw [e] at ht'
    have hh:=of_decide_eq_true ht'.symm
    refine ih (X:=X1) (Y:=Y1) (by omega) sG (fun e=>by rw [e] at l1;simp at l1;omega) (fun e=>by rw [e] at l3;simp at l3;omega) sX'.1 sY'.1 (fun x hx y hy=>ht x (mX1 x hx) y (mY1 y hy)) (fun x hx=>qX x (mX1 x hx)) (fun y hy=>qY y (mY1 y hy)) rfl (by omega) (by omega) (by omega) fun I M1 hp1 hs1 sI=>⟨rfl,M1,hp1,hs1,sI⟩
   ·rw [e] at ht'
    have hh:=of_decide_eq_false ht'.symm
    have:X1 = []∨Y1 = []:=by
     by_cases e1:A1.length < p
     ·exact .inr (List.eq_nil_of_length_eq_zero (by omega))
     ·exact .inl (List.eq_nil_of_length_eq_zero (by omega))
    refine ⟨X1++Y1,List.Perm.refl _,?_,by simpa using sG⟩
    rcases this with e | e
    ·subst e;exact sY'.1
    ·subst e;rw [List.append_nil];exact sX'.1
  ·have h3:=dlt h3
   rw [Bool.eq_iff_iff,decide_eq_true_eq,decide_eq_true_eq]
   omega
  ·have h3:=dge h3
   exact (decide_eq_false (by omega)).symm
  rintro G ⟨M1,hp1,hs1,sG⟩ scr3
  have lM1:M1.length=mid - A1.length:=by rw [hp1.length_eq,List.length_append];omega
  have fin:∀ I M2,M2.Perm (X2++Y2)→Srt c ky tg M2→AR H0 I s ((A1++M1)++(M2++B)) R→K (.tuple #[]) I:=fun I M2 hp2 hs2 sI=>by
   refine k I (M1++M2) ?_ ?_ (by simpa using sI)
   ·refine (hp1.append hp2).trans ?_
    rw [eX,eY]
    simp only [List.append_assoc]
    refine List.Perm.append_left X1 ?_
    rw [← List.append_assoc,← List.append_assoc X2]
    exact List.perm_append_comm.append_right Y2
   ·rw [Srt,List.pairwise_append]
    exact ⟨hs1,hs2,fun e he f hf=>hcross e (hp1.subset he) f (hp2.subset hf)⟩
  refine ⟨fun t I=>AR H0 I s (A1++(M1++(X2++(Y2++B)))) R∧t=decide (p < A1.length+X.length∧mid+(A1.length+X.length) - p < A1.length+X.length+Y.length),?_,fun h3=>⟨sG,?_⟩,fun h3=>⟨sG,?_⟩⟩
  ·rintro t I ⟨sI,ht'⟩ scr4
   have sI':AR H0 I s ((A1++M1)++(X2++(Y2++B))) R:=by simpa using sI
   refine ⟨fun e=>?_,fun e=>?_⟩
   ·rw [e] at ht'
    have hh:=of_decide_eq_true ht'.symm
    refine ih (X:=X2) (Y:=Y2) (by omega) sI' (fun e=>by rw [e] at l2;simp at l2;omega) (fun e=>by rw [e] at l4;simp at l4;omega) sX'.2.1 sY'.2.1 (fun x hx y hy=>ht x (mX2 x hx) y (mY2 y hy)) (fun x hx=>qX x (mX2 x hx)) (fun y hy=>qY y (mY2 y hy)) ?_ ?_ ?_ (by rw [List.length_append];omega) fun J M2 hp2 hs2 sJ=>⟨rfl,fin J M2 hp2 hs2 sJ⟩
    ·rw [List.length_append];omega
    ·rw [List.length_append];omega
    ·rw [List.length_append];omega
   ·rw [e] at ht'
    have hh:=of_decide_eq_false ht'.symm
    have:X2 = []∨Y2 = []:=by
     by_cases e1:p < A1.length+X.length
     ·exact .inr (List.eq_nil_of_length_eq_zero (by omega))
     ·exact .inl (List.eq_nil_of_length_eq_zero (by omega))
    refine fin I (X2++Y2) (List.Perm.refl _) ?_ (by simpa using sI')
    rcases this with e | e
    ·subst e;exact sY'.2.1
    ·subst e;rw [List.append_nil];exact sX'.2.1
  ·have h3:=dlt h3
   rw [Bool.eq_iff_iff,decide_eq_true_eq,decide_eq_true_eq]
   omega
  ·have h3:=dge h3
   exact (decide_eq_false (by omega)).symm
theorem stable_ok (hc:CmpLin c) (hv:CmpV cmp c ky Q H0) {l:List El}(h:AR H0 A s l R) (ht:l.Pairwise fun x y=>x.2 < y.2) (hq:∀ x∈l,Q x) (hl:l.length≤2000000)
  (k:∀ A' M',M'.Perm l→Srt c ky tg M'→AR H0 A' s M' R→K (.tuple #[]) A'):CallF Tryz.prog 164 #[.slice s.a s.n s.c,.int .i64 ((l.length:Nat):Int),cmp] A K Z:=by
 refine V164_ok ?_
 unfold V164
 refine ⟨fun a b C m=>∃ A1 O1 T:List El,a=((A1.length:Nat):Int)∧b=((A1.length+20:Nat):Int)∧m=T.length∧l=O1++T∧Full (Srt c ky tg) 20 A1 O1∧AR H0 C s (A1++T) R,⟨_,[],[],l,rfl,rfl,rfl,rfl,.nil,h⟩,?_⟩
 rintro a b C m ⟨A1,O1,T,rfl,rfl,rfl,rfl,hF,sC⟩ scr
 have hA:=hF.len.length_eq
 have hll:(O1++T).length=A1.length+T.length:=by rw [List.length_append,hA]
 have htT:=(List.pairwise_append.1 ht).2.1
 refine ⟨fun hle=>?_,fun hgt=>?_⟩
 ·have le':20≤T.length:=by have:=of_decide_eq_true hle;omega
  have eT:=(List.take_append_drop 20 T).symm
  have l1:(T.take 20).length=20:=by rw [List.length_take];omega
  generalize T.take 20=M at eT l1
  generalize T.drop 20=T' at eT
  subst eT
  simp only [List.length_append] at hll le' hl
  have hqM:∀ x∈M,Q x:=fun x hx=>hq x (List.mem_append_right _ (List.mem_append_left _ hx))
  refine ins_ok hc hv (M:=M) sC hqM (List.pairwise_append.1 htT).1 rfl (by rw [l1]) (by omega) fun D M' hp hs sD=>⟨rfl,T'.length,by rw [List.length_append];omega,A1++M',O1++M,T',?_,?_,rfl,by simp,.snoc hF (by rw [hp.length_eq,l1]) hp hs,by simpa using sD⟩
  ·rw [List.length_append,hp.length_eq,l1]
  ·rw [wn (n:=A1.length+20+20) (by omega) (by omega),List.length_append,hp.length_eq,l1]
 ·have hgt:T.length < 20:=by have:=of_decide_eq_false hgt;omega
  have hqT:∀ x∈T,Q x:=fun x hx=>hq x (List.mem_append_right _ hx)
  refine ins_ok hc hv (M:=T) (B:=[]) (by simpa using sC) hqT htT rfl (by rw [hll]) (by omega) fun D M' hp hs sD=>⟨rfl,?_⟩
  rw [List.append_nil] at sD
  have hB:Blocks (Srt c ky tg) 20 (A1++M') (O1++T):=hF.blocks (.last (by rw [hp.length_eq];omega) hp hs)
  generalize A1++M'=cur0 at sD hB
  clear sC hF hA htT hqT hgt
  generalize O1++T=l at hB hq ht hl k hll
  refine ⟨fun blk E m=>∃ (kb:Nat) (cur:List El),blk=((kb:Nat):Int)∧20≤kb∧kb≤4000000∧m=4000000 - kb∧Blocks (Srt c ky tg) kb cur l∧AR H0 E s cur R,⟨_,20,cur0,rfl,Nat.le_refl _,by decide,rfl,hB,sD⟩,?_⟩
  rintro blk E m ⟨kb,cur,rfl,h20,h4m,rfl,hB,sE⟩ scr1
  have lcur:=hB.perm.length_eq
  refine ⟨fun hlt=>?_,fun hge=>?_⟩
  ·have hlt:kb < l.length:=by have:=dlt hlt;omega
   rw [wn (x:=2*((kb:Nat):Int)) (n:=2*kb) (by omega) (by omega)]
   refine ⟨fun a1 b1 F m=>∃ A1 O1 T O2:List El,a1=((A1.length:Nat):Int)∧b1=((A1.length+2*kb:Nat):Int)∧m=T.length∧l=O1++O2∧Full (Srt c ky tg) (2*kb) A1 O1∧Blocks (Srt c ky tg) kb T O2∧AR H0 F s (A1++T) R,⟨_,[],[],cur,l,rfl,by simp,rfl,rfl,.nil,hB,sE⟩,?_⟩
   rintro a1 b1 F m ⟨A1,O1,T,O2,rfl,rfl,rfl,rfl,hF,hT,sF⟩ scr2
   have hA:=hF.len.length_eq
   have hO:=hT.perm.length_eq
   simp only [List.length_append] at hl hlt lcur
   have htO:=(List.pairwise_append.1 ht).2.1
   have hqO:∀ x∈O2,Q x:=fun x hx=>hq x (List.mem_append_right _ hx)
   rw [List.length_append,wn (x:=((A1.length:Nat):Int)+((kb:Nat):Int)) (n:=A1.length+kb) (by omega) (by omega)]
   have next:∀ {G:Hp}{cur2:List El},Blocks (Srt c ky tg) (2*kb) cur2 (O1++O2)→AR H0 G s cur2 R→∃ m5,m5 < 4000000 - kb∧∃ (kb':Nat) (cur:List El),w64 (((kb:Nat):Int)*2)=((kb':Nat):Int)∧20≤kb'∧kb'≤4000000∧m5=4000000 - kb'∧Blocks (Srt c ky tg) kb' cur (O1++O2)∧AR H0 G s cur R:=fun hb sG=>
    ⟨4000000 - 2*kb,by omega,2*kb,_,wn (by omega) (by omega),by omega,by omega,rfl,hb,sG⟩
   refine ⟨fun hle=>?_,fun hgt=>⟨fun hlt2=>?_,fun hge2=>?_⟩⟩
   ·have le':2*kb≤T.length:=by have:=of_decide_eq_true hle;omega
    clear hle
    obtain ⟨B1,P1,T1,S1,rfl,rfl,b1,p1,s1,hT1⟩:=hT.front List.Pairwise.nil (by omega)
    simp only [List.length_append] at le' hO hl hlt lcur
    obtain ⟨B2,P2,T2,S2,rfl,rfl,b2,p2,s2,hT2⟩:=hT1.front List.Pairwise.nil (by omega)
    simp only [List.length_append] at le' hO hl hlt lcur
    have lp1:=p1.length_eq
    have lp2:=p2.length_eq
    have t1:=List.pairwise_append.1 htO
    refine sym_ok hc hv (B1.length+B2.length) (X:=B1) (Y:=B2) (B:=T2) (Nat.le_refl _) sF (fun e=>by rw [e] at b1;simp at b1;omega) (fun e=>by rw [e] at b2;simp at b2;omega) s1 s2 (fun x hx y hy=>t1.2.2 x (p1.subset hx) y (List.mem_append_left _ (p2.subset hy))) (fun x hx=>hqO x (List.mem_append_left _ (p1.subset hx))) (fun y hy=>hqO y (List.mem_append_right _ (List.mem_append_left _ (p2.subset hy)))) rfl (by rw [b1]) (by rw [b1,b2];omega) (by omega) fun G M' hp hs sG=>⟨rfl,T2.length,by rw [List.length_append,List.length_append];omega,A1++M',O1++(P1++P2),T2,S2,?_,?_,rfl,by simp,.snoc hF ?_ (hp.trans (p1.append p2)) hs,hT2,by simpa using sG⟩
    ·rw [List.length_append,hp.length_eq,List.length_append,b1,b2];omega
    ·rw [wn (n:=A1.length+2*kb+2*kb) (by omega) (by omega),List.length_append,hp.length_eq,List.length_append,b1,b2];omega
    ·rw [hp.length_eq,List.length_append,b1,b2];omega
   ·have gt':T.length < 2*kb:=by have:=of_decide_eq_false hgt;omega
    have lt':kb < T.length:=by have:=dlt hlt2;omega
    clear hgt hlt2
    obtain ⟨B1,P1,T1,S1,rfl,rfl,b1,p1,s1,hT1⟩:=hT.cons lt'
    simp only [List.length_append] at gt' lt' hO hl hlt lcur
    rw [List.length_append]
    obtain ⟨p2,s2⟩:=hT1.one (by omega) (by omega)
    have lp1:=p1.length_eq
    have lp2:=p2.length_eq
    have t1:=List.pairwise_append.1 htO
    refine sym_ok hc hv (B1.length+T1.length) (X:=B1) (Y:=T1) (B:=[]) (Nat.le_refl _) (by simpa using sF) (fun e=>by rw [e] at b1;simp at b1;omega) (fun e=>by rw [e] at lt';simp at lt';omega) s1 s2 (fun x hx y hy=>t1.2.2 x (p1.subset hx) y (p2.subset hy)) (fun x hx=>hqO x (List.mem_append_left _ (p1.subset hx))) (fun y hy=>hqO y (List.mem_append_right _ (p2.subset hy))) rfl (by rw [b1]) (by omega) (by omega) fun G M' hp hs sG=>⟨rfl,next (hF.blocks (.last (by rw [hp.length_eq,List.length_append];omega) (hp.trans (p1.append p2)) hs)) (by simpa using sG)⟩
   ·have ge':T.length≤kb:=by have:=dge hge2;omega
    obtain ⟨p1,s1⟩:=hT.one ge' (by omega)
    exact next (hF.blocks (.last (by omega) p1 s1)) sF
  ·have hge:l.length≤kb:=by have:=dge hge;omega
   obtain ⟨p1,s1⟩:=hB.one (by omega) (by omega)
   exact k E cur p1 s1 sE
theorem sort_ok (hc:CmpLin c) (hv:CmpV cmp c ky Q H0) {l:List El}(h:AR H0 A s l R) (ht:l.Pairwise fun x y=>x.2 < y.2) (hq:∀ x∈l,Q x) (hl:l.length≤2000000)
  (k:∀ A' M',M'.Perm l→Srt c ky tg M'→AR H0 A' s M' R→K (.tuple #[]) A'):CallF Tryz.prog 128 #[.slice s.a s.n s.c,cmp] A K Z:=by
 refine V128_ok ?_
 unfold V128
 rw [show ((s.n:Nat):Int)=((l.length:Nat):Int) by rw [(AR.rd h).len]]
 exact stable_ok hc hv h ht hq hl fun A' M' hp hs sA=>⟨rfl,k A' M' hp hs sA⟩
end
end
end Go.Proofs.YtjdhjgfmloaglaaGreatDoor.C16C
end
section
namespace Go.Proofs.YtjdhjgfmloaglaaGreatDoor.C16C
open Go Go.V Go.Proofs N16 P15
attribute [local irreducible] Cvt ExtF CallF hrun App MkS callV
abbrev InE (H:Hp) (h:HC) (x:ConD):Prop:=InC H h x
abbrev QE (H:Hp) (xs:List ConD) (x:El):Prop:=InE H x.1.1 x.1.2∧x.1.2∈xs
abbrev dat (x:El):ConD:=x.1.2
theorem tyE:TyS Tryz.prog 24 36 6 88 (.agg #[.int .i64 0,.string ⟨#[]⟩,.string ⟨#[]⟩,.int .i64 0,.string ⟨#[]⟩,.slice none 0 0]):=⟨by kernel_rfl,by kernel_rfl,rfl,by decide⟩
def SameV (same:Value) (Q:El→Prop) (H0:Hp):Prop:=
 ∀ {x y:El}{A:Hp}{K':Value→Hp→Prop}{Z':List PanicEntry→Hp→Prop},Q x→Q y→Fr no H0 A→(∀ B,Fr no A B→K' (.bool (decide (dat x=dat y))) B)→callV Tryz.prog same [vA x,vA y] A K' Z'
theorem okO1:fnOk Tryz.prog 130=true:=by kernel_rfl
section
variable {H0:Hp}{R:List It}{s:Sl}{K:Value→Hp→Prop}{Z:List PanicEntry→Hp→Prop}{A:Hp}{cmp same:Value}
theorem clone_ok {l:Sl}{L:List El}(h:Sym H0 no A R) (hr:Rd fle 6 A l L) (hl:L.length≤2000000) (k:∀ s' B,AR H0 B s' L R→K (.slice s'.a s'.n s'.c) B):CallF Tryz.prog 74 #[.slice l.a l.n l.c] A K Z:=by
 refine V74_ok ?_
 unfold V74
 refine ⟨fun h0=>?_,fun h0 b B hB=>?_⟩
 ·have hL:L = []:=by
   cases L with
   | nil=>rfl
   | cons x r=>
    obtain ⟨v,hv⟩:∃ v,(fle x)[0]? = some v:=⟨_,List.getElem?_eq_getElem (by rw [FlE.len];decide)⟩
    obtain ⟨ad,ha,_⟩:=hr.el 0 x 0 v rfl hv
    rw [ha] at h0
    cases h0
  subst hL
  exact k ⟨none,0,0⟩ A (h.nilrow _ _ _)
 ·have sB:=h.lit (fl:=fle) (E:=36) (sz:=6) (l:=[]) FlE (by decide) hB (show 0=_ from rfl)
  have hrB:=hr.more hB.fr
  refine sB.appR (k:=0) tyE FlE (by decide) rfl hrB (by show (0+L.length)*_≤_;omega) fun s' C _ sC=>?_
  exact k s' C sC
theorem index_ok {L:List El}{l:Sl}{f:Value}{p:El→Bool}(hr:Rd fle 6 A l L) (hl:L.length≤2000000)
  (hf:∀ {x:El}{B:Hp}{K':Value→Hp→Prop},x∈L→Fr no A B→(∀ C,Fr no B C→K' (.bool (p x)) C)→callV Tryz.prog f [vA x] B K' Z) (k:∀ y B,Fr no A B→decide (y≥0)=L.any p→K (.int .i64 y) B):CallF Tryz.prog 131 #[.slice l.a l.n l.c,f] A K Z:=by
 refine V131_ok ?_
 unfold V131
 have hn:=hr.len
 refine ⟨fun i C m=>∃ j:Nat,Fr no A C∧i=(j:Int)∧j≤L.length∧m=L.length - j∧(L.take j).any p=false,⟨_,0,Fr.refl _ _,rfl,Nat.zero_le _,rfl,rfl⟩,?_⟩
 rintro i C m ⟨j,fC,rfl,hj,rfl,hno⟩ scr
 refine ⟨fun hlt=>?_,fun hge=>?_⟩
 ·have hj':j < L.length:=by have:=dlt hlt;omega
  obtain ⟨x,hx,hxm⟩:=getN hj'
  refine atE (hr.more fC) hx fun ad=>hf hxm fC fun D fD=>⟨_,rfl,fun hp=>k _ D (fC.trans fD) ?_,fun hp=>⟨L.length - (j+1),by omega,j+1,fC.trans fD,wi (by omega),hj',rfl,?_⟩⟩
  ·rw [decide_eq_true (by omega)]
   exact (List.any_eq_true.2 ⟨x,hxm,hp⟩).symm
  ·rw [List.take_add_one,hx,List.any_append,hno]
   simp [hp]
 ·rw [List.take_of_length_le (by have:=dge hge;omega)] at hno
  exact k _ C fC (by rw [hno];rfl)
theorem contains_ok {L:List El}{l:Sl}{f:Value}{p:El→Bool}(hr:Rd fle 6 A l L) (hl:L.length≤2000000)
  (hf:∀ {x:El}{B:Hp}{K':Value→Hp→Prop},x∈L→Fr no A B→(∀ C,Fr no B C→K' (.bool (p x)) C)→callV Tryz.prog f [vA x] B K' Z) (k:∀ B,Fr no A B→K (.bool (L.any p)) B):CallF Tryz.prog 129 #[.slice l.a l.n l.c,f] A K Z:=by
 refine V129_ok ?_
 unfold V129
 refine index_ok hr hl hf fun y B fB e=>⟨_,rfl,?_⟩
 rw [e]
 exact k B fB
theorem clo_ok {Q:El→Prop}{bS bX:Nat}{T:TypeId}{x y:El}{K:Value→Hp→Prop}(hw:SameV same Q H0) (hA:Fr no H0 A) (h1:hcell A ⟨bS,0,none⟩=some same) (h2:∀ i,hcell A ⟨bX,i,none⟩=(fle x)[i]?) (qx:Q x) (qy:Q y) (k:∀ B,Fr no A B→K (.bool (decide (dat x=dat y))) B) :
  callV Tryz.prog (.func (.func 130) #[] #[.pointer (some ⟨bS,0,none⟩),.pointer (some ⟨bX,0,none⟩)]) [vA y] A K Z:=by
 unfold callV
 simp only [okO1,if_true]
 show CallF Tryz.prog 130 #[vA y,.pointer (some ⟨bS,0,none⟩),.pointer (some ⟨bX,0,none⟩)] A K Z
 refine V130_ok ?_
 unfold V130
 intro bY B hB
 have sB:=(Sym.start A).newb (cs:=fle y) hB
 have e1:=C15.lf sB.fr h1
 have e2:∀ i,hcell A ⟨bX,i,none⟩=(fle x)[i]?→∀ v,(fle x)[i]? = some v→hcell B ⟨bX,i,none⟩=some v:=fun i h v hv=>C15.lf sB.fr (h.trans hv)
 refine ⟨same,e1,x.1.1.1,str x.1.1.2.1,str x.1.1.2.2.1,x.1.1.2.2.2.1,str x.1.1.2.2.2.2.1,x.1.1.2.2.2.2.2,⟨e2 0 (h2 0) _ rfl,e2 1 (h2 1) _ rfl,e2 2 (h2 2) _ rfl,e2 3 (h2 3) _ rfl,e2 4 (h2 4) _ rfl,e2 5 (h2 5) _ rfl,trivial⟩,y.1.1.1,str y.1.1.2.1,str y.1.1.2.2.1,y.1.1.2.2.2.1,str y.1.1.2.2.2.2.1,y.1.1.2.2.2.2.2,⟨sB.ld (k:=0) rfl 0,sB.ld (k:=0) rfl 1,sB.ld (k:=0) rfl 2,sB.ld (k:=0) rfl 3,sB.ld (k:=0) rfl 4,sB.ld (k:=0) rfl 5,trivial⟩,hw qx qy (hA.trans sB.fr) fun C fC=>⟨_,rfl,k C (sB.fr.trans fC)⟩⟩
theorem tailS {l:Sl}{L:List El}{lo:Int}{n:Nat}{Kx:Sl→Prop}(h:Rd fle 6 A l L) (e:lo=((n:Nat):Int)) (hn:n≤L.length) (k:∀ c,Rd fle 6 A c (L.drop n)→Kx c):l.n≤l.c∧SlX l.a l.c lo (l.n:Int) 6 Kx:=by
 have hl:=h.len
 have:=h.part FlE (lo:=n) (hi:=l.n) (by omega) (Nat.le_refl _)
 subst e
 refine ⟨h.le,⟨by omega,by omega,by have:=h.le;omega⟩,k _ ?_⟩
 have e2:(L.drop n).take (l.n - n)=L.drop n:=List.take_of_length_le (by rw [List.length_drop];omega)
 rw [e2] at this
 exact this
theorem ord_ok {κ : Type}{c : κ→κ→Int}{kx:ConD→κ}(hc:CmpLin c) {H A0:Hp}{l:Sl}{xs:List ConD}(f0:Fr no H A0) (h:RdX flHC 6 InE H l xs) (hl:xs.length≤2000000) (hv:CmpV cmp c (fun x=>kx (dat x)) (QE H xs) A0) (hw:SameV same (QE H xs) A0) (hsc:Value.cells same=#[same])
  (k:∀ out L A',AR A0 A' out L []→IsCan c kx xs (L.map dat)→(∀ x∈L,QE H xs x)→K (.slice out.a out.n out.c) A'):CallF Tryz.prog 69 #[.slice l.a l.n l.c,cmp,same] A0 K Z:=by
 refine V69_ok ?_
 unfold V69
 intro bS A hA
 rw [hsc] at hA
 obtain ⟨T,hA⟩:∃ T:TypeId,Newb A0 (.cells #[same] T) bS A:=⟨_,hA⟩
 have sA:=(Sym.start A0).newb (cs:=[same]) hA
 obtain ⟨hs,hr,hlen,hin⟩:=h
 have rd0:Rd fle 6 H l (tagged hs xs):=Rd.map (f:=fun x:El=>x.1.1) (by rw [tagged_fst hlen];exact hr)
 have q0:∀ x∈tagged hs xs,QE H xs x:=fun x hx=>by
  obtain ⟨e1,e2⟩:=(tagged_at hlen).1 hx
  exact ⟨hin _ _ _ e1 e2,List.mem_of_getElem? e2⟩
 have l0:=tagged_len hlen
 refine clone_ok sA ((rd0.more f0).more sA.fr) (by omega) fun y B sB=>⟨y,rfl,sort_ok hc hv sB (tagged_rise hlen) q0 (by omega) fun C M hp hsr sC=>⟨rfl,?_⟩⟩
 have qM:∀ x∈M,QE H xs x:=fun x hx=>q0 x (hp.subset hx)
 have lM:M.length=xs.length:=by rw [hp.length_eq,l0]
 have hpT:(M.map fun x=>(dat x,x.2)).Perm xs.zipIdx:=by
  rw [← tagged_idx hlen]
  exact hp.map _
 have hsT:Srt c (fun (q:ConD × Nat)=>kx q.1) (·.2) (M.map fun x=>(dat x,x.2)):=List.pairwise_map.2 hsr
 have yn:=(AR.rd sC).len
 refine ⟨fun out first t D m=>∃ (j f:Nat) (L:List El),first=(f:Int)∧t=(j:Int)∧j≤M.length∧m=M.length - j∧L.length≤j∧(∀ x∈L,QE H xs x)∧Dd c kx xs ((M.take j).map dat) (L.map dat) f∧AR A0 D out L [arr fle 36 6 y M,blk bS [same] T],⟨_,0,0,[],rfl,rfl,Nat.zero_le _,rfl,Nat.le_refl _,by simp,Dd.start xs,sC.nilrow _ _ _⟩,?_⟩
 rintro out first t D m ⟨j,f,L,rfl,rfl,hj,rfl,hLj,qL,hD,sD⟩ scr
 have on:=(AR.rd sD).len
 refine ⟨fun hlt=>?_,fun hge=>?_⟩
 ·have hj':j < M.length:=by have:=dlt hlt;omega
  obtain ⟨x,hx,hxm⟩:=getN hj'
  have hn:=stable_next hc hpT hsT (j:=j) (x:=dat x) (t:=x.2) (by rw [List.getElem?_map,hx];rfl)
  rw [← List.map_take,List.map_map] at hn
  have hstep:=Dd.step hc hD (x:=dat x) hn.1 hn.2
  have etk:(M.take (j+1)).map dat=(M.take j).map dat ++ [dat x]:=by rw [List.take_add_one,hx,List.map_append];rfl
  rw [← etk] at hstep
  have hfle:=hD.le
  rw [List.length_map] at hfle
  refine atE (Sym.rd (k:=1) sD FlE (by decide) rfl) hx fun ad=>fun bX E hE=>?_
  have sE:=Sym.newb sD (cs:=[.int .i64 0,.string ⟨#[]⟩,.string ⟨#[]⟩,.int .i64 0,.string ⟨#[]⟩,.slice none 0 0]) hE
  refine sE.stbs (k:=0) (i:=0) (vs:=fle x) rfl (by rw [FlE.len];simp) (FlE.2 x) fun F sF=>?_
  replace sF:Sym A0 no F [blk bX (fle x) 36,arr fle 36 6 out L,arr fle 36 6 y M,blk bS [same] T]:=sF
  have fin:∀ {G:Hp}{f2:Nat}{K':Value→Hp→Prop},Sym A0 no G [blk bX (fle x) 36,arr fle 36 6 out L,arr fle 36 6 y M,blk bS [same] T]→f2=firstD c kx (L.map dat) f (dat x)→f2≤L.length →
    ∀ cut,Rd fle 6 G cut (L.drop f2)→(∀ I b,Fr no G I→b=decide (dat x∈(L.map dat).drop f2)→K' (.bool b) I)→CallF Tryz.prog 129 #[.slice cut.a cut.n cut.c,.func (.func 130) #[] #[.pointer (some ⟨bS,0,none⟩),.pointer (some ⟨bX,0,none⟩)]] G K' Z:=fun {G f2 K'} sG ef hf2 cut hcut kk=>by
   refine contains_ok (p:=fun z=>decide (dat x=dat z)) hcut (by rw [List.length_drop];omega) (fun {z B K'} hz fB kk=>clo_ok (x:=x) (y:=z) (T:=0) hw (sG.fr.trans fB) ((sG.more fB).ld (k:=3) rfl 0) (fun i=>(sG.more fB).ld (k:=0) rfl i) (qM x hxm) (qL z (List.mem_of_mem_drop hz)) kk) fun B fB=>kk B _ fB ?_
   rw [Bool.eq_iff_iff,List.any_eq_true,decide_eq_true_eq,← List.map_drop,List.mem_map]
   constructor
   ·rintro ⟨z,hz,e⟩
    exact ⟨z,hz,(of_decide_eq_true e).symm⟩
   ·rintro ⟨z,hz,e⟩
    exact ⟨z,hz,decide_eq_true e.symm⟩
  refine ⟨fun h1=>?_,fun h1=>?_⟩
  ·have hL0:0 < L.length:=by have:=of_decide_eq_true h1;omega
   obtain ⟨z,hz,hzm⟩:=getN (show L.length - 1 < L.length by omega)
   have hlast:(L.map dat).getLast? = some (dat z):=by rw [List.getLast?_eq_getElem?,List.length_map,List.getElem?_map,hz];rfl
   rw [wn (x:=((out.n:Nat):Int) - 1) (n:=L.length - 1) (by omega) (by omega)]
   refine atE (Sym.rd (k:=1) sF FlE (by decide) rfl) hz fun ad1=>⟨x.1.1.1,str x.1.1.2.1,str x.1.1.2.2.1,x.1.1.2.2.2.1,str x.1.1.2.2.2.2.1,x.1.1.2.2.2.2.2,⟨sF.ld (k:=0) rfl 0,sF.ld (k:=0) rfl 1,sF.ld (k:=0) rfl 2,sF.ld (k:=0) rfl 3,sF.ld (k:=0) rfl 4,sF.ld (k:=0) rfl 5,trivial⟩,hv (qL z hzm) (qM x hxm) sF.fr fun G fG=>⟨_,rfl,fun hne=>?_,fun heq=>?_⟩⟩
   ·have ef:L.length=firstD c kx (L.map dat) f (dat x):=by
     unfold firstD
     rw [hlast,List.length_map]
     exact (if_pos (bne_iff_ne.1 hne)).symm
    have sG:=sF.more fG
    refine tailS (Sym.rd (k:=1) sG FlE (by decide) rfl) (by rw [on]) (n:=L.length) (by omega) fun cut hcut=>fin sG ef (by omega) cut hcut fun I b fI eb=>⟨_,rfl,fun hb=>?_,fun hb=>?_⟩
    ·have sI:=sG.more fI
     have hnot:¬ dat x∈(L.map dat).drop (L.length):=of_decide_eq_false (by rw [← eb];simpa using hb)
     rw [← ef,if_neg hnot] at hstep
     refine ⟨x.1.1.1,str x.1.1.2.1,str x.1.1.2.2.1,x.1.1.2.2.2.1,str x.1.1.2.2.2.2.1,x.1.1.2.2.2.2.2,⟨sI.ld (k:=0) rfl 0,sI.ld (k:=0) rfl 1,sI.ld (k:=0) rfl 2,sI.ld (k:=0) rfl 3,sI.ld (k:=0) rfl 4,sI.ld (k:=0) rfl 5,trivial⟩,fun b2 N hN=>Sym.app1 (k:=1) (x:=x) tyE sI FlE (by decide) hN rfl (by omega) fun ap O _ sO=>⟨M.length - (j+1),by omega,j+1,L.length,L ++ [x],(by rw [on]),wi (by omega),hj',rfl,by rw [List.length_append,List.length_singleton];omega,?_,by rw [List.map_append];exact hstep,Sym.drop sO⟩⟩
     intro z hz
     rcases List.mem_append.1 hz with hz | hz
     ·exact qL z hz
     ·rw [List.mem_singleton.1 hz];exact qM x hxm
    ·have hin2:dat x∈(L.map dat).drop (L.length):=of_decide_eq_true (by rw [← eb];simpa using hb)
     rw [← ef,if_pos hin2] at hstep
     exact ⟨M.length - (j+1),by omega,j+1,L.length,L,(by rw [on]),wi (by omega),hj',rfl,by omega,qL,hstep,Sym.drop (sG.more fI)⟩
   ·have ef:f=firstD c kx (L.map dat) f (dat x):=by
     unfold firstD
     rw [hlast]
     exact (if_neg (fun h=>h (bne_eq_false_iff_eq.1 heq))).symm
    have sG:=sF.more fG
    refine tailS (Sym.rd (k:=1) sG FlE (by decide) rfl) rfl (n:=f) (by omega) fun cut hcut=>fin sG ef (by omega) cut hcut fun I b fI eb=>⟨_,rfl,fun hb=>?_,fun hb=>?_⟩
    ·have sI:=sG.more fI
     have hnot:¬ dat x∈(L.map dat).drop (f):=of_decide_eq_false (by rw [← eb];simpa using hb)
     rw [← ef,if_neg hnot] at hstep
     refine ⟨x.1.1.1,str x.1.1.2.1,str x.1.1.2.2.1,x.1.1.2.2.2.1,str x.1.1.2.2.2.2.1,x.1.1.2.2.2.2.2,⟨sI.ld (k:=0) rfl 0,sI.ld (k:=0) rfl 1,sI.ld (k:=0) rfl 2,sI.ld (k:=0) rfl 3,sI.ld (k:=0) rfl 4,sI.ld (k:=0) rfl 5,trivial⟩,fun b2 N hN=>Sym.app1 (k:=1) (x:=x) tyE sI FlE (by decide) hN rfl (by omega) fun ap O _ sO=>⟨M.length - (j+1),by omega,j+1,f,L ++ [x],rfl,wi (by omega),hj',rfl,by rw [List.length_append,List.length_singleton];omega,?_,by rw [List.map_append];exact hstep,Sym.drop sO⟩⟩
     intro z hz
     rcases List.mem_append.1 hz with hz | hz
     ·exact qL z hz
     ·rw [List.mem_singleton.1 hz];exact qM x hxm
    ·have hin2:dat x∈(L.map dat).drop (f):=of_decide_eq_true (by rw [← eb];simpa using hb)
     rw [← ef,if_pos hin2] at hstep
     exact ⟨M.length - (j+1),by omega,j+1,f,L,rfl,wi (by omega),hj',rfl,by omega,qL,hstep,Sym.drop (sG.more fI)⟩
  ·have hL0:L = []:=List.eq_nil_of_length_eq_zero (by have:=of_decide_eq_false h1;omega)
   have ef:f=firstD c kx (L.map dat) f (dat x):=by rw [hL0];rfl
   have fG:Fr no F F:=Fr.refl _ _
   have sG:=sF.more fG
   refine tailS (Sym.rd (k:=1) sG FlE (by decide) rfl) rfl (n:=f) (by omega) fun cut hcut=>fin sG ef (by omega) cut hcut fun I b fI eb=>⟨_,rfl,fun hb=>?_,fun hb=>?_⟩
   ·have sI:=sG.more fI
    have hnot:¬ dat x∈(L.map dat).drop (f):=of_decide_eq_false (by rw [← eb];simpa using hb)
    rw [← ef,if_neg hnot] at hstep
    refine ⟨x.1.1.1,str x.1.1.2.1,str x.1.1.2.2.1,x.1.1.2.2.2.1,str x.1.1.2.2.2.2.1,x.1.1.2.2.2.2.2,⟨sI.ld (k:=0) rfl 0,sI.ld (k:=0) rfl 1,sI.ld (k:=0) rfl 2,sI.ld (k:=0) rfl 3,sI.ld (k:=0) rfl 4,sI.ld (k:=0) rfl 5,trivial⟩,fun b2 N hN=>Sym.app1 (k:=1) (x:=x) tyE sI FlE (by decide) hN rfl (by omega) fun ap O _ sO=>⟨M.length - (j+1),by omega,j+1,f,L ++ [x],rfl,wi (by omega),hj',rfl,by rw [List.length_append,List.length_singleton];omega,?_,by rw [List.map_append];exact hstep,Sym.drop sO⟩⟩
    intro z hz
    rcases List.mem_append.1 hz with hz | hz
    ·exact qL z hz
    ·rw [List.mem_singleton.1 hz];exact qM x hxm
   ·have hin2:dat x∈(L.map dat).drop (f):=of_decide_eq_true (by rw [← eb];simpa using hb)
    rw [← ef,if_pos hin2] at hstep
    exact ⟨M.length - (j+1),by omega,j+1,f,L,rfl,wi (by omega),hj',rfl,by omega,qL,hstep,Sym.drop (sG.more fI)⟩
 ·have hje:j=M.length:=by have:=dge hge;omega
  rw [hje,List.take_length] at hD
  refine k out L D (Sym.sub sD (by simp)) (hD.done fun z=>?_) qL
  have:=hp.map dat
  rw [show (tagged hs xs).map dat=xs from tagged_snd hlen] at this
  exact this.mem_iff
end
end Go.Proofs.YtjdhjgfmloaglaaGreatDoor.C16C
end
section
namespace Go.Proofs.YtjdhjgfmloaglaaGreatDoor.C18
open Go Go.V Go.Proofs N16 P15 C15
attribute [local irreducible] Cvt ExtF CallF hrun App MkS callV
theorem take_eq {α : Type}{xs ys:List α}{j:Nat}{x y : α}(h:xs.take j=ys.take j) (hx:xs[j]? = some x) (hy:ys[j]? = some y) (he:x=y):xs.take (j+1)=ys.take (j+1):=by
 rw [List.take_add_one,List.take_add_one,h,hx,hy,he]
theorem ne_at {α : Type}{xs ys:List α}{j:Nat}{x y : α}(hx:xs[j]? = some x) (hy:ys[j]? = some y) (he:x≠y):xs≠ys:=fun e=>by
 rw [e,hy] at hx
 exact he (Option.some_inj.1 hx).symm
theorem fnEq (a b:FnD):((str a.name == str b.name) && ((str a.kinds == str b.kinds) && ((str a.ret == str b.ret) && true)))=decide (a=b):=by
 rw [C14.beq_str',C14.beq_str',C14.beq_str',Bool.and_true,Bool.eq_iff_iff,Bool.and_eq_true,Bool.and_eq_true,decide_eq_true_eq,decide_eq_true_eq,decide_eq_true_eq,decide_eq_true_eq]
 cases a;cases b
 simp
section
variable {H:Hp}{K:Value→Hp→Prop}{Z:List PanicEntry→Hp→Prop}
theorem eqM_ok {s t:Sl}{xs ys:List Mk}(h1:Rd flM 2 H s xs) (h2:Rd flM 2 H t ys) (hb:xs.length≤2000000) (k:K (.bool (decide (xs=ys))) H):CallF Tryz.prog 124 #[.slice s.a s.n s.c,.slice t.a t.n t.c] H K Z:=by
 refine V124_ok ?_
 unfold V124
 have l1:=h1.len
 have l2:=h2.len
 refine ⟨fun hne=>?_,fun heq=>?_⟩
 ·have hne:((s.n:Nat):Int)≠((t.n:Nat):Int):=bne_iff_ne.1 hne
  rw [decide_eq_false (fun e=>hne (by rw [l1,l2,e]))] at k
  exact k
 have heq:s.n=t.n:=by have:((s.n:Nat):Int)=((t.n:Nat):Int):=bne_eq_false_iff_eq.1 heq;omega
 refine ⟨fun i A m=>∃ j:Nat,A=H∧i=(j:Int)∧j≤xs.length∧m=xs.length - j∧xs.take j=ys.take j,⟨_,0,rfl,rfl,Nat.zero_le _,rfl,rfl⟩,?_⟩
 rintro i A m ⟨j,rfl,rfl,hj,rfl,he⟩ scr
 refine ⟨fun hlt=>?_,fun hge=>?_⟩
 ·have hj':j < xs.length:=by have:=dlt hlt;omega
  obtain ⟨x,hx,_⟩:=getN hj'
  obtain ⟨y,hy,_⟩:=getN (show j < ys.length by omega)
  refine atM h1 hx fun ad e1 e2=>⟨_,_,⟨e1,e2,trivial⟩,atM h2 hy fun ad2 e3 e4=>⟨_,_,⟨e3,e4,trivial⟩,?_⟩⟩
  rw [mkEq]
  refine ⟨fun hn=>?_,fun hn=>⟨xs.length - (j+1),by omega,j+1,rfl,wi (by omega),hj',rfl,take_eq he hx hy (notd.2.1 hn)⟩⟩
  rw [decide_eq_false (ne_at hx hy (notd.1.1 hn))] at k
  exact k
 ·rw [List.take_of_length_le (by have:=dge hge;omega),List.take_of_length_le (by have:=dge hge;omega)] at he
  rw [decide_eq_true he] at k
  exact k
theorem sameObj_ok {x y:ObjD}{s t:Sl}(h1:Rd flM 2 H s x.marks) (h2:Rd flM 2 H t y.marks) (hb:x.marks.length≤2000000) (k:∀ H',Fr no H H'→K (.bool (decide (x=y))) H'):CallF Tryz.prog 66 #[oA x s,oA y t] H K Z:=by
 refine V66_ok ?_
 unfold V66
 intro bA A hA bB B hB
 have sB:=((Sym.start H).newb (cs:=oL x s) hA).newb (cs:=oL y t) hB
 have kk:=k _ sB.fr
 have ex:decide (x=y)=(decide (x.name=y.name) && (decide (x.kinds=y.kinds) && decide (x.marks=y.marks))):=by
  cases x;cases y
  simp only [ObjD.mk.injEq,Bool.decide_and]
 rw [ex] at kk
 refine ⟨_,sB.ld (k:=1) rfl 0,_,sB.ld (k:=0) rfl 0,?_⟩
 rw [beq_str]
 refine ⟨fun e1=>⟨_,sB.ld (k:=1) rfl 1,_,sB.ld (k:=0) rfl 1,?_⟩,fun e1=>?_⟩
 ·rw [beq_str]
  refine ⟨fun e2=>⟨s,sB.ld (k:=1) rfl 2,t,sB.ld (k:=0) rfl 2,eqM_ok (h1.more sB.fr) (h2.more sB.fr) hb ⟨_,rfl,?_⟩⟩,fun e2=>?_⟩
  ·rw [e1,e2,Bool.true_and,Bool.true_and] at kk
   exact kk
  ·rw [e1,e2,Bool.true_and,Bool.false_and] at kk
   exact kk
 ·rw [e1,Bool.false_and] at kk
  exact kk
theorem sameFn_ok {x y:FnD}(k:∀ H',Fr no H H'→K (.bool (decide (x=y))) H'):CallF Tryz.prog 68 #[fA x,fA y] H K Z:=by
 refine V68_ok ?_
 unfold V68
 intro bA A hA bB B hB
 have sB:=((Sym.start H).newb (cs:=fL x) hA).newb (cs:=fL y) hB
 refine ⟨_,_,_,⟨sB.ld (k:=1) rfl 0,sB.ld (k:=1) rfl 1,sB.ld (k:=1) rfl 2,trivial⟩,_,_,_,⟨sB.ld (k:=0) rfl 0,sB.ld (k:=0) rfl 1,sB.ld (k:=0) rfl 2,trivial⟩,?_⟩
 rw [fnEq]
 exact k _ sB.fr
theorem sameCon_ok {x y:ConD}{s t:Sl}(h1:Rd flL 1 H s x.args) (h2:Rd flL 1 H t y.args) (hb:x.args.length≤1048576) (k:∀ H',Fr no H H'→K (.bool (decide (x=y))) H'):CallF Tryz.prog 70 #[cA x s,cA y t] H K Z:=by
 refine V70_ok ?_
 unfold V70
 intro bA A hA bB B hB
 have sB:=((Sym.start H).newb (cs:=cL x s) hA).newb (cs:=cL y t) hB
 refine ⟨_,_,_,_,_,s,⟨sB.ld (k:=1) rfl 0,sB.ld (k:=1) rfl 1,sB.ld (k:=1) rfl 2,sB.ld (k:=1) rfl 3,sB.ld (k:=1) rfl 4,sB.ld (k:=1) rfl 5,trivial⟩,_,_,_,_,_,t,⟨sB.ld (k:=0) rfl 0,sB.ld (k:=0) rfl 1,sB.ld (k:=0) rfl 2,sB.ld (k:=0) rfl 3,sB.ld (k:=0) rfl 4,sB.ld (k:=0) rfl 5,trivial⟩,cmpC_ok (h1.more sB.fr) (h2.more sB.fr) hb fun C fC=>⟨_,rfl,?_⟩⟩
 have e:(cmpC x y == 0)=decide (x=y):=by
  rw [Bool.eq_iff_iff,beq_iff_eq,decide_eq_true_eq]
  exact linC.eq
 rw [e]
 exact k _ (sB.fr.trans fC)
end
theorem okSO:fnOk Tryz.prog 66=true:=by kernel_rfl
theorem okSF:fnOk Tryz.prog 68=true:=by kernel_rfl
theorem okSC:fnOk Tryz.prog 70=true:=by kernel_rfl
theorem vaO {H:Hp}{x:C16O.El}(h:InO H x.1.1 x.1.2):C16O.vA x=oA x.1.2 x.1.1.2.2∧Rd flM 2 H x.1.1.2.2 x.1.2.marks:=by
 obtain ⟨⟨⟨a,b,s⟩,d⟩,n⟩:=x
 obtain ⟨h1,h2⟩:=h
 simp only [HO.of,Prod.mk.injEq,and_true] at h1
 obtain ⟨rfl,rfl⟩:=h1
 exact ⟨rfl,h2⟩
theorem vaF {x:C16F.El}(h:x.1.1=x.1.2):C16F.vA x=fA x.1.2:=by
 obtain ⟨⟨a,d⟩,n⟩:=x
 simp only at h
 subst h
 rfl
theorem vaC {H:Hp}{x:C16C.El}(h:InC H x.1.1 x.1.2):C16C.vA x=cA x.1.2 x.1.1.2.2.2.2.2∧Rd flL 1 H x.1.1.2.2.2.2.2 x.1.2.args:=by
 obtain ⟨⟨⟨a,b,e,f,g,s⟩,d⟩,n⟩:=x
 obtain ⟨h1,h2⟩:=h
 simp only [HC.of,Prod.mk.injEq,and_true] at h1
 obtain ⟨rfl,rfl,rfl,rfl,rfl⟩:=h1
 exact ⟨rfl,h2⟩
section
variable {H A0:Hp}{xo:List ObjD}{xf:List FnD}{xc:List ConD}
theorem cmpVO (f0:Fr no H A0):C16O.CmpV (.func (.func 53) #[] #[]) cmpL (fun x=>(C16O.dat x).name) (C16O.QE H xo) A0:=by
 intro x y A K' Z' qx qy fA k
 rw [(vaO qx.1).1,(vaO qy.1).1]
 exact call_fn ok23 (byObj_ok k)
theorem sameVO (f0:Fr no H A0) (hb:∀ o∈xo,o.marks.length≤2000000):C16O.SameV (.func (.func 66) #[] #[]) (C16O.QE H xo) A0:=by
 intro x y A K' Z' qx qy fA k
 rw [(vaO qx.1).1,(vaO qy.1).1]
 exact call_fn okSO (sameObj_ok ((vaO qx.1).2.more (f0.trans fA)) ((vaO qy.1).2.more (f0.trans fA)) (hb _ qx.2) k)
theorem cmpVF (f0:Fr no H A0):C16F.CmpV (.func (.func 56) #[] #[]) cmpL (fun x=>(C16F.dat x).name) (C16F.QE H xf) A0:=by
 intro x y A K' Z' qx qy fA k
 rw [vaF qx.1,vaF qy.1]
 exact call_fn ok26 (byFn_ok k)
theorem sameVF (f0:Fr no H A0):C16F.SameV (.func (.func 68) #[] #[]) (C16F.QE H xf) A0:=by
 intro x y A K' Z' qx qy fA k
 rw [vaF qx.1,vaF qy.1]
 exact call_fn okSF (sameFn_ok k)
theorem cmpVC (f0:Fr no H A0) (hb:∀ o∈xc,o.args.length≤1048576):C16C.CmpV (.func (.func 59) #[] #[]) P15.cmpC (fun x=>(fun y=>y) (C16C.dat x)) (C16C.QE H xc) A0:=by
 intro x y A K' Z' qx qy fA k
 rw [(vaC qx.1).1,(vaC qy.1).1]
 exact call_fn ok19 (cmpC_ok ((vaC qx.1).2.more (f0.trans fA)) ((vaC qy.1).2.more (f0.trans fA)) (hb _ qx.2) k)
theorem sameVC (f0:Fr no H A0) (hb:∀ o∈xc,o.args.length≤1048576):C16C.SameV (.func (.func 70) #[] #[]) (C16C.QE H xc) A0:=by
 intro x y A K' Z' qx qy fA k
 rw [(vaC qx.1).1,(vaC qy.1).1]
 exact call_fn okSC (sameCon_ok ((vaC qx.1).2.more (f0.trans fA)) ((vaC qy.1).2.more (f0.trans fA)) (hb _ qx.2) k)
end
theorem tyM:TyS Tryz.prog 50 54 2 24 (.agg #[.int .i64 0,.string ⟨#[]⟩]):=⟨by kernel_rfl,by kernel_rfl,rfl,by decide⟩
section
variable {H0 A:Hp}{R:List It}{K:Value→Hp→Prop}{Z:List PanicEntry→Hp→Prop}
theorem clM_ok {l:Sl}{L:List Mk}(h:Sym H0 no A R) (hr:Rd flM 2 A l L) (hl:L.length≤2000000) (k:∀ s' B,Sym H0 no B (arr flM 54 2 s' L::R)→K (.slice s'.a s'.n s'.c) B):CallF Tryz.prog 71 #[.slice l.a l.n l.c] A K Z:=by
 refine V71_ok ?_
 unfold V71
 refine ⟨fun h0=>?_,fun h0 b B hB=>?_⟩
 ·have hL:L = []:=by
   cases L with
   | nil=>rfl
   | cons x r=>
    obtain ⟨ad,ha,_⟩:=hr.el 0 x 0 _ rfl rfl
    rw [ha] at h0
    cases h0
  subst hL
  exact k ⟨none,0,0⟩ A (h.nilrow _ _ _)
 ·have sB:=h.lit (fl:=flM) (E:=54) (sz:=2) (l:=[]) FlM (by decide) hB (show 0=_ from rfl)
  refine sB.appR (k:=0) tyM FlM (by decide) rfl (hr.more hB.fr) (by show (0+L.length)*_≤_;omega) fun s' C _ sC=>k s' C sC
theorem clT_ok {l:Sl}{L:List L8}(h:Sym H0 no A R) (hr:Rd flL 1 A l L) (hl:L.length≤2000000) (k:∀ s' B,Sym H0 no B (arr flL 9 1 s' L::R)→K (.slice s'.a s'.n s'.c) B):CallF Tryz.prog 31 #[.slice l.a l.n l.c] A K Z:=by
 refine V31_ok ?_
 unfold V31
 refine ⟨fun h0=>?_,fun h0 b B hB=>?_⟩
 ·have hL:L = []:=by
   cases L with
   | nil=>rfl
   | cons x r=>
    obtain ⟨ad,ha,_⟩:=hr.el 0 x 0 _ rfl rfl
    rw [ha] at h0
    cases h0
  subst hL
  exact k ⟨none,0,0⟩ A (h.nilrow _ _ _)
 ·have sB:=h.lit (fl:=flL) (E:=9) (sz:=1) (l:=[]) FlL (by decide) hB (show 0=_ from rfl)
  refine sB.appR (k:=0) tyTs FlL (by decide) rfl (hr.more hB.fr) (by show (0+L.length)*_≤_;omega) fun s' C _ sC=>k s' C sC
end
end Go.Proofs.YtjdhjgfmloaglaaGreatDoor.C18
end
section
namespace Go.Proofs.YtjdhjgfmloaglaaGreatDoor.C18
open Go Go.V Go.Proofs N16 P15 C15
attribute [local irreducible] Cvt ExtF CallF hrun App MkS callV
def CanT (b bOut:Nat) (y y1 y2:Sl) (H:Hp) (K:Value→Hp→Prop) (Z:List PanicEntry→Hp→Prop):Prop:=
 StL ⟨bOut,0,none⟩ 0 [.slice y.a y.n y.c,.slice y1.a y1.n y1.c,.slice y2.a y2.n y2.c] H fun H7=>(∃ x3:Sl,hcell H7 ⟨bOut,0,none⟩=some (.slice x3.a x3.n x3.c)∧∃ I:Int→Hp→Nat→Prop,(∃ m,I 0 H7 m)∧∀ (t21:Int),∀ H8 m1,I t21 H8 m1→∀ scr:Nat→Value,(((decide (t21 < (x3.n:Int)))=true→IxA x3.a x3.n t21 3 fun ad=>(∃ (x_a x_b:ByteArray) (x_c:Sl),(hcell H8 ad=some (.string x_a)∧hcell H8 (Addr.add ad 1)=some (.string x_b)∧hcell H8 (Addr.add ad 2)=some (.slice x_c.a x_c.n x_c.c)∧True)∧∀ bO H9,Newb H8 (.cells #[.string ⟨#[]⟩,.string ⟨#[]⟩,.slice none 0 0] 52) bO H9→StL ⟨bO,0,none⟩ 0 [.string x_a,.string x_b,.slice x_c.a x_c.n x_c.c] H9 fun H10=>(∃ x4:Sl,hcell H10 ⟨bOut,0,none⟩=some (.slice x4.a x4.n x4.c)∧∃ x5:Sl,hcell H10 ⟨bO,2,none⟩=some (.slice x5.a x5.n x5.c)∧CallF Tryz.prog 71 #[.slice x5.a x5.n x5.c] H10 (fun r3 H11=>∃ y3:Sl,r3 = .slice y3.a y3.n y3.c∧(hcell H11 ⟨bOut,0,none⟩=some (.slice x4.a x4.n x4.c)∧IxA x4.a x4.n t21 3 fun ad1=>(StL (Addr.add ad1 2) 0 [.slice y3.a y3.n y3.c] H11 fun H12=>(∃ m2,m2 < m1∧I (w64 (t21+1)) H12 m2)))) Z)))∧((decide (t21 < (x3.n:Int)))=false→∃ x6:Sl,hcell H8 ⟨bOut,2,none⟩=some (.slice x6.a x6.n x6.c)∧∃ I1:Int→Hp→Nat→Prop,(∃ m3,I1 0 H8 m3)∧∀ (t38:Int),∀ H13 m4,I1 t38 H13 m4→∀ scr1:Nat→Value,(((decide (t38 < (x6.n:Int)))=true→IxA x6.a x6.n t38 6 fun ad2=>(∃ (x_a1:Int) (x_b1 x_c1:ByteArray) (x_d:Int) (x_e:ByteArray) (x_f:Sl),(hcell H13 ad2=some (.int .i64 x_a1)∧hcell H13 (Addr.add ad2 1)=some (.string x_b1)∧hcell H13 (Addr.add ad2 2)=some (.string x_c1)∧hcell H13 (Addr.add ad2 3)=some (.int .i64 x_d)∧hcell H13 (Addr.add ad2 4)=some (.string x_e)∧hcell H13 (Addr.add ad2 5)=some (.slice x_f.a x_f.n x_f.c)∧True)∧∀ bC H14,Newb H13 (.cells #[.int .i64 0,.string ⟨#[]⟩,.string ⟨#[]⟩,.int .i64 0,.string ⟨#[]⟩,.slice none 0 0] 36) bC H14→StL ⟨bC,0,none⟩ 0 [.int .i64 x_a1,.string x_b1,.string x_c1,.int .i64 x_d,.string x_e,.slice x_f.a x_f.n x_f.c] H14 fun H15=>(∃ x7:Sl,hcell H15 ⟨bOut,2,none⟩=some (.slice x7.a x7.n x7.c)∧∃ x8:Sl,hcell H15 ⟨bC,5,none⟩=some (.slice x8.a x8.n x8.c)∧CallF Tryz.prog 31 #[.slice x8.a x8.n x8.c] H15 (fun r4 H16=>∃ y4:Sl,r4 = .slice y4.a y4.n y4.c∧(hcell H16 ⟨bOut,2,none⟩=some (.slice x7.a x7.n x7.c)∧IxA x7.a x7.n t38 6 fun ad3=>(StL (Addr.add ad3 5) 0 [.slice y4.a y4.n y4.c] H16 fun H17=>(∃ m5,m5 < m4∧I1 (w64 (t38+1)) H17 m5)))) Z)))∧((decide (t38 < (x6.n:Int)))=false→∃ x_a2 x_b2 x_c2:Sl,(hcell H13 ⟨bOut,0,none⟩=some (.slice x_a2.a x_a2.n x_a2.c)∧hcell H13 ⟨bOut,1,none⟩=some (.slice x_b2.a x_b2.n x_b2.c)∧hcell H13 ⟨bOut,2,none⟩=some (.slice x_c2.a x_c2.n x_c2.c)∧True)∧StL ⟨b,0,none⟩ 0 [.slice x_a2.a x_a2.n x_a2.c,.slice x_b2.a x_b2.n x_b2.c,.slice x_c2.a x_c2.n x_c2.c] H13 fun H18=>(∃ res_a res_b res_c:Sl,(hcell H18 ⟨b,0,none⟩=some (.slice res_a.a res_a.n res_a.c)∧hcell H18 ⟨b,1,none⟩=some (.slice res_b.a res_b.n res_b.c)∧hcell H18 ⟨b,2,none⟩=some (.slice res_c.a res_c.n res_c.c)∧True)∧K (.agg #[.slice res_a.a res_a.n res_a.c,.slice res_b.a res_b.n res_b.c,.slice res_c.a res_c.n res_c.c]) H18))))))
theorem set_dat {α β : Type}{f : α→β}{L:List α}{j:Nat}{x y : α}(hx:L[j]? = some x) (h:f y=f x):(L.set j y).map f=L.map f:=by
 apply List.ext_getElem?
 intro i
 rw [List.getElem?_map,List.getElem?_map,List.getElem?_set]
 split
 ·rename_i e
  subst e
  rw [hx,if_pos (List.getElem?_eq_some_iff.1 hx).1]
  simp [h]
 ·rfl
abbrev zS:List Value:=[.slice none 0 0,.slice none 0 0,.slice none 0 0]
theorem one3 (a b c:Sl):∀ v∈sL a b c,v.oneCell=true:=by
 intro v hv
 simp only [List.mem_cons,List.not_mem_nil,or_false] at hv
 rcases hv with rfl | rfl | rfl <;> rfl
structure CanS where
 y:Sl
 y1:Sl
 y2:Sl
 lo:List C16O.El
 lf:List C16F.El
 lc:List C16C.El
 ps:List (Sl × List Mk)
 rs:List (Sl × List L8)
def CanS.its (c:CanS):List It:=[rdsI flL 1 c.rs,rdsI flM 2 c.ps,arr C16O.fle 52 3 c.y c.lo,arr C16C.fle 36 6 c.y2 c.lc,arr C16F.fle 56 3 c.y1 c.lf]
structure CanS.good (c:CanS) (t:SysD):Prop where
 qo:c.lo.map C16O.dat=t.objs
 qf:c.lf.map C16F.dat=t.fns
 qc:c.lc.map C16C.dat=t.cons
 ho:∀ x∈c.lo,(x.1.1.2.2,x.1.2.marks)∈c.ps∧x.1.1=HO.of x.1.2 x.1.1.2.2
 hf:∀ x∈c.lf,x.1.1=x.1.2
 hc:∀ x∈c.lc,(x.1.1.2.2.2.2.2,x.1.2.args)∈c.rs∧x.1.1=HC.of x.1.2 x.1.1.2.2.2.2.2
theorem CanS.rd {c:CanS}{t:SysD}{E:Hp}(h:∀ a∈c.its,a.ok E) (g:c.good t):RdSys E c.y c.y1 c.y2 t:=by
 have h1:(rdsI flL 1 c.rs).ok E:=h _ (by simp [CanS.its])
 have h2:(rdsI flM 2 c.ps).ok E:=h _ (by simp [CanS.its])
 have h3:RowN C16O.fle 52 3 E c.y c.lo:=h (arr C16O.fle 52 3 c.y c.lo) (by simp [CanS.its])
 have h4:RowN C16C.fle 36 6 E c.y2 c.lc:=h (arr C16C.fle 36 6 c.y2 c.lc) (by simp [CanS.its])
 have h5:RowN C16F.fle 56 3 E c.y1 c.lf:=h (arr C16F.fle 56 3 c.y1 c.lf) (by simp [CanS.its])
 have lo:c.lo.length=t.objs.length:=by rw [← g.qo,List.length_map]
 have lc:c.lc.length=t.cons.length:=by rw [← g.qc,List.length_map]
 refine ⟨?_,?_,?_⟩
 ·have hr:=h3.rd C16O.FlE (by decide)
  refine ⟨c.lo.map (fun x=>x.1.1),Rd.unmap (f:=fun x:C16O.El=>x.1.1) hr,by rw [List.length_map,lo],fun i hh xx e1 e2=>?_⟩
  rw [← g.qo,List.getElem?_map] at e2
  rw [List.getElem?_map] at e1
  cases hz:c.lo[i]? with
  | none=>rw [hz] at e1;cases e1
  | some z=>
   rw [hz] at e1 e2
   have e1:z.1.1=hh:=by simpa using e1
   have e2:z.1.2=xx:=by simpa using e2
   obtain ⟨a1,a2⟩:=g.ho z (List.mem_of_getElem? hz)
   subst e1
   subst e2
   exact ⟨a2,(h2 _ a1).1⟩
 ·have hr:=h5.rd C16F.FlE (by decide)
  have e:t.fns=c.lf.map (fun x=>x.1.1):=by
   rw [← g.qf]
   exact List.map_congr_left fun x hx=>(g.hf x hx).symm
  rw [e]
  exact Rd.unmap (f:=fun x:C16F.El=>x.1.1) hr
 ·have hr:=h4.rd C16C.FlE (by decide)
  refine ⟨c.lc.map (fun x=>x.1.1),Rd.unmap (f:=fun x:C16C.El=>x.1.1) hr,by rw [List.length_map,lc],fun i hh xx e1 e2=>?_⟩
  rw [← g.qc,List.getElem?_map] at e2
  rw [List.getElem?_map] at e1
  cases hz:c.lc[i]? with
  | none=>rw [hz] at e1;cases e1
  | some z=>
   rw [hz] at e1 e2
   have e1:z.1.1=hh:=by simpa using e1
   have e2:z.1.2=xx:=by simpa using e2
   obtain ⟨a1,a2⟩:=g.hc z (List.mem_of_getElem? hz)
   subst e1
   subst e2
   exact ⟨a2,(h1 _ a1).1⟩
section
variable {H:Hp}{K:Value→Hp→Prop}{Z:List PanicEntry→Hp→Prop}
theorem canT_ok {G:Hp}{b bOut:Nat}{y y1 y2:Sl}{Lo:List C16O.El}{Lf:List C16F.El}{Lc:List C16C.El}
  (h:Sym H no G [blk bOut zS 26,arr C16O.fle 52 3 y Lo,arr C16C.fle 36 6 y2 Lc,arr C16F.fle 56 3 y1 Lf,blk b zS 26])
  (qO:∀ x∈Lo,InO H x.1.1 x.1.2∧x.1.2.marks.length≤2000000) (qF:∀ x∈Lf,x.1.1=x.1.2) (qC:∀ x∈Lc,InC H x.1.1 x.1.2∧x.1.2.args.length≤2000000) (lo:Lo.length≤2000000) (lc:Lc.length≤2000000)
  (k:∀ (c:CanS) E,c.y=y→c.y1=y1→c.y2=y2→Sym H no E c.its→c.good ⟨Lo.map C16O.dat,Lf.map C16F.dat,Lc.map C16C.dat⟩→K (sAg y y1 y2) E):CanT b bOut y y1 y2 G K Z:=by
 unfold CanT
 refine h.stbs (k:=0) (i:=0) (vs:=sL y y1 y2) rfl (by simp) (one3 _ _ _) fun A sA=>?_
 replace sA:Sym H no A [blk bOut (sL y y1 y2) 26,arr C16O.fle 52 3 y Lo,arr C16C.fle 36 6 y2 Lc,arr C16F.fle 56 3 y1 Lf,blk b zS 26]:=sA
 have yn:=(Sym.rd (k:=1) sA C16O.FlE (by decide) rfl).len
 refine ⟨y,sA.ld (k:=0) rfl 0,fun i E m=>∃ (j:Nat) (L':List C16O.El) (ps:List (Sl × List Mk)),i=(j:Int)∧j≤Lo.length∧m=Lo.length - j∧L'.map C16O.dat=Lo.map C16O.dat ∧
  (∀ i x,L'[i]? = some x→i < j→(x.1.1.2.2,x.1.2.marks)∈ps∧x.1.1=HO.of x.1.2 x.1.1.2.2)∧(∀ i x,L'[i]? = some x→j≤i→InO H x.1.1 x.1.2∧x.1.2.marks.length≤2000000) ∧
  Sym H no E [rdsI flM 2 ps,blk bOut (sL y y1 y2) 26,arr C16O.fle 52 3 y L',arr C16C.fle 36 6 y2 Lc,arr C16F.fle 56 3 y1 Lf,blk b zS 26],⟨_,0,Lo,[],rfl,Nat.zero_le _,rfl,rfl,by intro i x _ h;omega,fun i x hx _=>qO x (List.mem_of_getElem? hx),sA.nilrds _ _⟩,?_⟩
 rintro i E m ⟨j,L',ps,rfl,hj,rfl,hd,hlo,hhi,sE⟩ scr
 have lL:L'.length=Lo.length:=by have:=congrArg List.length hd;simpa using this
 refine ⟨fun hlt=>?_,fun hge=>?_⟩
 ·have hj':j < L'.length:=by have:=dlt hlt;omega
  obtain ⟨x,hx,hxm⟩:=getN hj'
  obtain ⟨qx,qm⟩:=hhi j x hx (Nat.le_refl _)
  obtain ⟨vx,rx⟩:=vaO qx
  refine C16O.atE (Sym.rd (k:=2) sE C16O.FlE (by decide) rfl) hx fun ad=>fun bO F hF=>?_
  have sF:=sE.newb (cs:=[.string ⟨#[]⟩,.string ⟨#[]⟩,.slice none 0 0]) hF
  refine sF.stbs (k:=0) (i:=0) (vs:=C16O.fle x) rfl (by rw [C16O.FlE.len];simp) (C16O.FlE.2 x) fun I sI=>?_
  replace sI:Sym H no I [blk bO (C16O.fle x) 52,rdsI flM 2 ps,blk bOut (sL y y1 y2) 26,arr C16O.fle 52 3 y L',arr C16C.fle 36 6 y2 Lc,arr C16F.fle 56 3 y1 Lf,blk b zS 26]:=sI
  refine ⟨y,sI.ld (k:=2) rfl 0,x.1.1.2.2,sI.ld (k:=0) rfl 2,clM_ok (Sym.drop sI) (rx.more sI.fr) qm fun s' J sJ=>⟨s',rfl,sJ.ld (k:=2) rfl 0,?_⟩⟩
  have sJ':=Sym.inrds FlM (by decide) sJ
  refine Sym.sta (k:=2) (i:=(j:Int)) (j:=2) (x:=x) (y:=(((x.1.1.1,x.1.1.2.1,s'),x.1.2),x.2)) sJ' C16O.FlE rfl (by omega) (by simpa using hx) (by decide) rfl fun N sN=>⟨Lo.length - (j+1),by omega,j+1,L'.set j (((x.1.1.1,x.1.1.2.1,s'),x.1.2),x.2),(s',x.1.2.marks)::ps,wi (by omega),by omega,rfl,?_,?_,?_,?_⟩
  ·rw [set_dat hx]
   ·exact hd
   ·rfl
  ·intro i z hz hi
   rw [List.getElem?_set] at hz
   split at hz
   ·have hz:=Option.some_inj.1 hz
    subst hz
    refine ⟨List.mem_cons_self,?_⟩
    have:=qx.1
    simp only [HO.of,Prod.ext_iff] at this ⊢
    exact ⟨this.1,this.2.1,trivial⟩
   ·rename_i hne
    obtain ⟨a1,a2⟩:=hlo i z hz (by omega)
    exact ⟨List.mem_cons_of_mem _ a1,a2⟩
  ·intro i z hz hi
   rw [List.getElem?_set,if_neg (by omega)] at hz
   exact hhi i z hz (by omega)
  ·have e:((j:Int)).toNat=j:=by omega
   rw [e] at sN
   exact sN
 -- the constraints
 have hje:j=Lo.length:=by have:=dge hge;omega
 have y2n:=(Sym.rd (k:=3) sE C16C.FlE (by decide) rfl).len
 refine ⟨y2,sE.ld (k:=1) rfl 2,fun i F m=>∃ (q:Nat) (M':List C16C.El) (rs:List (Sl × List L8)),i=(q:Int)∧q≤Lc.length∧m=Lc.length - q∧M'.map C16C.dat=Lc.map C16C.dat ∧
  (∀ i x,M'[i]? = some x→i < q→(x.1.1.2.2.2.2.2,x.1.2.args)∈rs∧x.1.1=HC.of x.1.2 x.1.1.2.2.2.2.2)∧(∀ i x,M'[i]? = some x→q≤i→InC H x.1.1 x.1.2∧x.1.2.args.length≤2000000) ∧
  Sym H no F [rdsI flL 1 rs,rdsI flM 2 ps,blk bOut (sL y y1 y2) 26,arr C16O.fle 52 3 y L',arr C16C.fle 36 6 y2 M',arr C16F.fle 56 3 y1 Lf,blk b zS 26],⟨_,0,Lc,[],rfl,Nat.zero_le _,rfl,rfl,by intro i x _ h;omega,fun i x hx _=>qC x (List.mem_of_getElem? hx),sE.nilrds _ _⟩,?_⟩
 rintro i F m ⟨q,M',rs,rfl,hq,rfl,hd2,hlo2,hhi2,sF⟩ scr2
 have lM:M'.length=Lc.length:=by have:=congrArg List.length hd2;simpa using this
 refine ⟨fun hlt=>?_,fun hge2=>?_⟩
 ·have hj':q < M'.length:=by have:=dlt hlt;omega
  obtain ⟨x,hx,hxm⟩:=getN hj'
  obtain ⟨qx,qm⟩:=hhi2 q x hx (Nat.le_refl _)
  obtain ⟨vx,rx⟩:=vaC qx
  refine C16C.atE (Sym.rd (k:=4) sF C16C.FlE (by decide) rfl) hx fun ad=>fun bC I hI=>?_
  have sI:=sF.newb (cs:=[.int .i64 0,.string ⟨#[]⟩,.string ⟨#[]⟩,.int .i64 0,.string ⟨#[]⟩,.slice none 0 0]) hI
  refine sI.stbs (k:=0) (i:=0) (vs:=C16C.fle x) rfl (by rw [C16C.FlE.len];simp) (C16C.FlE.2 x) fun I sI=>?_
  replace sI:Sym H no I [blk bC (C16C.fle x) 36,rdsI flL 1 rs,rdsI flM 2 ps,blk bOut (sL y y1 y2) 26,arr C16O.fle 52 3 y L',arr C16C.fle 36 6 y2 M',arr C16F.fle 56 3 y1 Lf,blk b zS 26]:=sI
  refine ⟨y2,sI.ld (k:=3) rfl 2,x.1.1.2.2.2.2.2,sI.ld (k:=0) rfl 5,clT_ok (Sym.drop sI) (rx.more sI.fr) qm fun s' J sJ=>⟨s',rfl,sJ.ld (k:=3) rfl 2,?_⟩⟩
  have sJ':=Sym.inrds FlL (by decide) sJ
  refine Sym.sta (k:=4) (i:=(q:Int)) (j:=5) (x:=x) (y:=(((x.1.1.1,x.1.1.2.1,x.1.1.2.2.1,x.1.1.2.2.2.1,x.1.1.2.2.2.2.1,s'),x.1.2),x.2)) sJ' C16C.FlE rfl (by omega) (by simpa using hx) (by decide) rfl fun N sN=>⟨Lc.length - (q+1),by omega,q+1,M'.set q (((x.1.1.1,x.1.1.2.1,x.1.1.2.2.1,x.1.1.2.2.2.1,x.1.1.2.2.2.2.1,s'),x.1.2),x.2),(s',x.1.2.args)::rs,wi (by omega),by omega,rfl,?_,?_,?_,?_⟩
  ·rw [set_dat hx]
   ·exact hd2
   ·rfl
  ·intro i z hz hi
   rw [List.getElem?_set] at hz
   split at hz
   ·have hz:=Option.some_inj.1 hz
    subst hz
    refine ⟨List.mem_cons_self,?_⟩
    have:=qx.1
    simp only [HC.of,Prod.ext_iff] at this ⊢
    exact ⟨this.1,this.2.1,this.2.2.1,this.2.2.2.1,this.2.2.2.2.1,trivial⟩
   ·rename_i hne
    obtain ⟨a1,a2⟩:=hlo2 i z hz (by omega)
    exact ⟨List.mem_cons_of_mem _ a1,a2⟩
  ·intro i z hz hi
   rw [List.getElem?_set,if_neg (by omega)] at hz
   exact hhi2 i z hz (by omega)
  ·have e:((q:Int)).toNat=q:=by omega
   rw [e] at sN
   exact sN
 have hqe:q=Lc.length:=by have:=dge hge2;omega
 refine ⟨y,y1,y2,⟨sF.ld (k:=2) rfl 0,sF.ld (k:=2) rfl 1,sF.ld (k:=2) rfl 2,trivial⟩,sF.stbs (k:=6) (i:=0) (vs:=sL y y1 y2) rfl (by simp) (one3 _ _ _) fun N sN=>?_⟩
 replace sN:Sym H no N [rdsI flL 1 rs,rdsI flM 2 ps,blk bOut (sL y y1 y2) 26,arr C16O.fle 52 3 y L',arr C16C.fle 36 6 y2 M',arr C16F.fle 56 3 y1 Lf,blk b (sL y y1 y2) 26]:=sN
 refine ⟨y,y1,y2,⟨sN.ld (k:=6) rfl 0,sN.ld (k:=6) rfl 1,sN.ld (k:=6) rfl 2,trivial⟩,k ⟨y,y1,y2,L',Lf,M',ps,rs⟩ N rfl rfl rfl (sN.re [0,1,3,4,5] (by decide)) ⟨hd,rfl,hd2,fun x hx=>?_,qF,fun x hx=>?_⟩⟩
 ·obtain ⟨i,hi⟩:=List.mem_iff_getElem?.1 (show x∈L' from hx)
  exact hlo i x hi (by have:=(List.getElem?_eq_some_iff.1 hi).1;omega)
 ·obtain ⟨i,hi⟩:=List.mem_iff_getElem?.1 (show x∈M' from hx)
  exact hlo2 i x hi (by have:=(List.getElem?_eq_some_iff.1 hi).1;omega)
theorem rdxF {s:Sl}{xs:List FnD}(h:Rd flF 3 H s xs):RdX flF 3 C16F.InE H s xs:=⟨xs,h,rfl,fun i a b e1 e2=>by rw [e1] at e2;exact Option.some_inj.1 e2⟩
theorem canon_ok {s1 s2 s3:Sl}{x:SysD}(h:RdSys H s1 s2 s3 x) (hb:LenSys x) (k:∀ (c:CanS) t E,Sym H no E c.its→c.good t→IsCanS x t→K (sAg c.y c.y1 c.y2) E):CallF Tryz.prog 23 #[sAg s1 s2 s3] H K Z:=by
 refine V23_ok ?_
 unfold V23
 intro bS A hA b B hB
 have sB:=((Sym.start H).newb (cs:=sL s1 s2 s3) hA).newb (cs:=zS) hB
 have lO:x.objs.length≤2000000:=by have:=hb.o.1;omega
 have lF:x.fns.length≤2000000:=by have:=hb.f;omega
 have lC:x.cons.length≤2000000:=by have:=hb.c.1;omega
 have mO:∀ o∈x.objs,o.marks.length≤2000000:=fun o ho=>by have:=hb.o.2 o ho;omega
 have mC:=hb.c.2
 have fin:∀ {G:Hp}{bOut:Nat}{y y1 y2:Sl}{Lo:List C16O.El}{Lf:List C16F.El}{Lc:List C16C.El},Sym H no G [blk bOut zS 26,arr C16O.fle 52 3 y Lo,arr C16C.fle 36 6 y2 Lc,arr C16F.fle 56 3 y1 Lf,blk b zS 26] →
   IsCan cmpL ObjD.name x.objs (Lo.map C16O.dat)→(∀ z∈Lo,C16O.QE H x.objs z)→IsCan cmpL FnD.name x.fns (Lf.map C16F.dat)→(∀ z∈Lf,C16F.QE H x.fns z)→IsCan P15.cmpC (fun z=>z) x.cons (Lc.map C16C.dat)→(∀ z∈Lc,C16C.QE H x.cons z)→CanT b bOut y y1 y2 G K Z:=fun {G bOut y y1 y2 Lo Lf Lc} sG isO qO isF qF isC qC=>by
  have e1:=isO.len linCL
  have e2:=isC.len linC
  rw [List.length_map] at e1 e2
  refine canT_ok sG (fun z hz=>⟨(qO z hz).1,mO _ (qO z hz).2⟩) (fun z hz=>(qF z hz).1) (fun z hz=>⟨(qC z hz).1,by have:=mC _ (qC z hz).2;omega⟩) (by omega) (by omega) fun c E e1 e2 e3 sE g=>?_
  subst e1
  subst e2
  subst e3
  exact k c _ E sE g ⟨isO,isF,isC⟩
 refine ⟨s1,sB.ld (k:=1) rfl 0,s2,sB.ld (k:=1) rfl 1,s3,sB.ld (k:=1) rfl 2,?_,fun bOut C hC=>⟨?_,?_,?_,?_⟩⟩
 ·refine C16O.ord_ok linCL (kx:=ObjD.name) sB.fr h.o lO (cmpVO sB.fr) (sameVO sB.fr mO) rfl fun y Lo C sC0 isO qO=>?_
  have sC:=sB.join sC0
  replace sC:Sym H no C [arr C16O.fle 52 3 y Lo,blk b zS 26,blk bS (sL s1 s2 s3) 26]:=sC
  refine ⟨y,rfl,sC.ld (k:=2) rfl 2,sC.ld (k:=2) rfl 1,?_,fun bOut D hD=>⟨?_,?_,?_⟩⟩
  ·refine C16F.ord_ok linCL (kx:=FnD.name) sC.fr (rdxF h.f) lF (cmpVF sC.fr) (sameVF sC.fr) rfl fun y1 Lf D sD0 isF qF=>?_
   have sD:=sC.join sD0
   replace sD:Sym H no D [arr C16F.fle 56 3 y1 Lf,arr C16O.fle 52 3 y Lo,blk b zS 26,blk bS (sL s1 s2 s3) 26]:=sD
   refine ⟨y1,rfl,sD.ld (k:=3) rfl 2,?_,fun bOut E hE=>⟨?_,?_⟩⟩
   ·refine C16C.ord_ok linC (kx:=fun z:ConD=>z) sD.fr h.c lC (cmpVC sD.fr mC) (sameVC sD.fr mC) rfl fun y2 Lc E sE0 isC qC=>?_
    have sE:=sD.join sE0
    replace sE:Sym H no E [arr C16C.fle 36 6 y2 Lc,arr C16F.fle 56 3 y1 Lf,arr C16O.fle 52 3 y Lo,blk b zS 26,blk bS (sL s1 s2 s3) 26]:=sE
    refine ⟨y2,rfl,fun bOut F hF=>fin ((sE.newb (cs:=zS) hF).re [0,3,1,2,4] (by decide)) isO qO isF qF isC qC,fun bOut F hF=>fin ((sE.newb (cs:=zS) hF).re [0,3,1,2,4] (by decide)) isO qO isF qF isC qC⟩
   ·exact (sD.newb (cs:=zS) hE).ld (k:=4) rfl 2
   ·have sE:=sD.newb (cs:=zS) hE
    refine C16C.ord_ok linC (kx:=fun z:ConD=>z) sE.fr h.c lC (cmpVC sE.fr mC) (sameVC sE.fr mC) rfl fun y2 Lc F sF0 isC qC=>?_
    have sF:=sE.join sF0
    replace sF:Sym H no F [arr C16C.fle 36 6 y2 Lc,blk bOut zS 26,arr C16F.fle 56 3 y1 Lf,arr C16O.fle 52 3 y Lo,blk b zS 26,blk bS (sL s1 s2 s3) 26]:=sF
    exact ⟨y2,rfl,fin (sF.re [1,3,0,2,4] (by decide)) isO qO isF qF isC qC⟩
  ·exact (sC.newb (cs:=zS) hD).ld (k:=3) rfl 2
  ·exact (sC.newb (cs:=zS) hD).ld (k:=3) rfl 1
  ·have sD:=sC.newb (cs:=zS) hD
   refine C16F.ord_ok linCL (kx:=FnD.name) sD.fr (rdxF h.f) lF (cmpVF sD.fr) (sameVF sD.fr) rfl fun y1 Lf E sE0 isF qF=>?_
   have sE:=sD.join sE0
   replace sE:Sym H no E [arr C16F.fle 56 3 y1 Lf,blk bOut zS 26,arr C16O.fle 52 3 y Lo,blk b zS 26,blk bS (sL s1 s2 s3) 26]:=sE
   refine ⟨y1,rfl,sE.ld (k:=4) rfl 2,?_⟩
   refine C16C.ord_ok linC (kx:=fun z:ConD=>z) sE.fr h.c lC (cmpVC sE.fr mC) (sameVC sE.fr mC) rfl fun y2 Lc F sF0 isC qC=>?_
   have sF:=sE.join sF0
   replace sF:Sym H no F [arr C16C.fle 36 6 y2 Lc,arr C16F.fle 56 3 y1 Lf,blk bOut zS 26,arr C16O.fle 52 3 y Lo,blk b zS 26,blk bS (sL s1 s2 s3) 26]:=sF
   exact ⟨y2,rfl,fin (sF.re [2,3,0,1,4] (by decide)) isO qO isF qF isC qC⟩
 ·exact (sB.newb (cs:=zS) hC).ld (k:=2) rfl 2
 ·exact (sB.newb (cs:=zS) hC).ld (k:=2) rfl 1
 ·exact (sB.newb (cs:=zS) hC).ld (k:=2) rfl 0
 ·have sC:=sB.newb (cs:=zS) hC
  refine C16O.ord_ok linCL (kx:=ObjD.name) sC.fr h.o lO (cmpVO sC.fr) (sameVO sC.fr mO) rfl fun y Lo D sD0 isO qO=>?_
  have sD:=sC.join sD0
  replace sD:Sym H no D [arr C16O.fle 52 3 y Lo,blk bOut zS 26,blk b zS 26,blk bS (sL s1 s2 s3) 26]:=sD
  refine ⟨y,rfl,sD.ld (k:=3) rfl 2,sD.ld (k:=3) rfl 1,?_⟩
  refine C16F.ord_ok linCL (kx:=FnD.name) sD.fr (rdxF h.f) lF (cmpVF sD.fr) (sameVF sD.fr) rfl fun y1 Lf E sE0 isF qF=>?_
  have sE:=sD.join sE0
  replace sE:Sym H no E [arr C16F.fle 56 3 y1 Lf,arr C16O.fle 52 3 y Lo,blk bOut zS 26,blk b zS 26,blk bS (sL s1 s2 s3) 26]:=sE
  refine ⟨y1,rfl,sE.ld (k:=4) rfl 2,?_⟩
  refine C16C.ord_ok linC (kx:=fun z:ConD=>z) sE.fr h.c lC (cmpVC sE.fr mC) (sameVC sE.fr mC) rfl fun y2 Lc F sF0 isC qC=>?_
  have sF:=sE.join sF0
  replace sF:Sym H no F [arr C16C.fle 36 6 y2 Lc,arr C16F.fle 56 3 y1 Lf,arr C16O.fle 52 3 y Lo,blk bOut zS 26,blk b zS 26,blk bS (sL s1 s2 s3) 26]:=sF
  exact ⟨y2,rfl,fin (sF.re [3,2,0,1,4] (by decide)) isO qO isF qF isC qC⟩
end
end Go.Proofs.YtjdhjgfmloaglaaGreatDoor.C18
end
