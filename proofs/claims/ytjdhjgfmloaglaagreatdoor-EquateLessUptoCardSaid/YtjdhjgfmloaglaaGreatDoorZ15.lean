import Derived.Test.YtjdhjgfmloaglaaGreatDoorZ14
set_option linter.unusedVariables false
set_option linter.unusedSimpArgs false
section
namespace Go.Proofs.YtjdhjgfmloaglaaGreatDoor.C16O
open Go Go.V Go.Proofs N16
attribute [local irreducible] Cvt ExtF CallF hrun App MkS callV
abbrev El:=(HO × ObjD) × Nat
abbrev fle (x:El):List Value:=flHO x.1.1
abbrev vA (x:El):Value:=.agg #[.string (str x.1.1.1),.string (str x.1.1.2.1),.slice (x.1.1.2.2).a (x.1.1.2.2).n (x.1.1.2.2).c]
abbrev tg (x:El):Nat:=x.2
theorem FlE:Fl fle 3:=⟨fun x=>FlHO.1 x.1.1,fun x=>FlHO.2 x.1.1⟩
abbrev AR (H0 A:Hp) (s:Sl) (l:List El) (R:List It):Prop:=Sym H0 no A (arr fle 52 3 s l::R)
def CmpV {κ : Type}(cmp:Value) (c : κ→κ→Int) (ky:El→κ) (Q:El→Prop) (H0:Hp):Prop:=
 ∀ {x y:El}{A:Hp}{K':Value→Hp→Prop}{Z':List PanicEntry→Hp→Prop},Q x→Q y→Fr no H0 A→(∀ B,Fr no A B→K' (.int .i64 (c (ky x) (ky y))) B)→callV Tryz.prog cmp [vA x,vA y] A K' Z'
section
variable {H0:Hp}{R:List It}{s:Sl}{K:Value→Hp→Prop}{Z:List PanicEntry→Hp→Prop}{A:Hp}{cmp:Value}
theorem AR.rd {l:List El}(h:AR H0 A s l R):Rd fle 3 A s l:=Sym.rd (k:=0) h FlE (by decide) rfl
theorem atE {P:ByteArray→ByteArray→Sl→Addr→Prop}{l:List El}{i:Nat}{x:El}(h:Rd fle 3 A s l) (hx:l[i]? = some x) (k:∀ ad,P (str x.1.1.1) (str x.1.1.2.1) (x.1.1.2.2) ad) :
  IxA s.a s.n (i:Int) 3 fun ad=>∃ (x0 x1:ByteArray) (x2:Sl),(hcell A ad=some (.string (x0))∧hcell A (ad.add 1)=some (.string (x1))∧hcell A (ad.add 2)=some (.slice x2.a x2.n x2.c)∧True)∧P x0 x1 x2 ad:=by
 refine h.ix (by decide) FlE (by omega) (by simpa using hx) fun ad h1 h2=>⟨_,_,_,⟨h2,h1 1 _ rfl,h1 2 _ rfl,trivial⟩,k ad⟩
theorem AR.at {P:ByteArray→ByteArray→Sl→Addr→Prop}{l:List El}{i:Nat}{x:El}(h:AR H0 A s l R) (hx:l[i]? = some x) (k:∀ ad,P (str x.1.1.1) (str x.1.1.2.1) (x.1.1.2.2) ad) :
  IxA s.a s.n (i:Int) 3 fun ad=>∃ (x0 x1:ByteArray) (x2:Sl),(hcell A ad=some (.string (x0))∧hcell A (ad.add 1)=some (.string (x1))∧hcell A (ad.add 2)=some (.slice x2.a x2.n x2.c)∧True)∧P x0 x1 x2 ad:=atE (AR.rd h) hx k
theorem swap_ok {A1 X C Y B:List El}{a b n:Int}(h:AR H0 A s (A1++(X++(C++(Y++B)))) R) (hxy:X.length=Y.length) (ha:a=((A1.length:Nat):Int)) (hb:b=((A1.length+X.length+C.length:Nat):Int)) (hn:n=((X.length:Nat):Int))
  (hl:A1.length+X.length+C.length+Y.length≤2000000) (k:∀ A',AR H0 A' s (A1++(Y++(C++(X++B)))) R→K (.tuple #[]) A'):CallF Tryz.prog 231 #[.slice s.a s.n s.c,.int .i64 a,.int .i64 b,.int .i64 n,cmp] A K Z:=by
 subst ha
 subst hb
 subst hn
 refine V231_ok ?_
 unfold V231
 refine ⟨fun i C' m=>∃ t:Nat,i=(t:Int)∧t≤X.length∧m=X.length - t∧AR H0 C' s (A1++((Y.take t++X.drop t)++(C++((X.take t++Y.drop t)++B)))) R,⟨_,0,rfl,Nat.zero_le _,rfl,by simpa using h⟩,?_⟩
 rintro i C' m ⟨t,rfl,ht,rfl,sC⟩ scr
 refine ⟨fun hlt=>?_,fun hge=>?_⟩
 ·have ht':t < X.length:=dlt hlt
  have hty:t < Y.length:=by omega
  have dX:=List.drop_eq_getElem_cons ht'
  have dY:=List.drop_eq_getElem_cons hty
  have tX:=List.take_succ_eq_append_getElem ht'
  have tY:=List.take_succ_eq_append_getElem hty
  generalize X[t]=x at dX tX
  generalize Y[t]=y at dY tY
  have e1:A1++((Y.take t++x::X.drop (t+1))++(C++((X.take t++y::Y.drop (t+1))++B)))=(A1++Y.take t)++x::((X.drop (t+1)++(C++X.take t))++y::(Y.drop (t+1)++B)):=by simp
  rw [dX,dY,e1] at sC
  have l1:(A1++Y.take t).length=A1.length+t:=by simp;omega
  have l2:(X.drop (t+1)++(C++X.take t)).length=X.length - (t+1)+C.length+t:=by simp;omega
  rw [wn (x:=((A1.length+X.length+C.length:Nat):Int)+(t:Int)) (n:=A1.length+X.length+C.length+t) (by omega) (by omega),wn (x:=((A1.length:Nat):Int)+(t:Int)) (n:=A1.length+t) (by omega) (by omega)]
  have i1:=swA1 (P:=A1++Y.take t) (x:=x) (M:=X.drop (t+1)++(C++X.take t)) (y:=y) (W:=Y.drop (t+1)++B)
  have i2:=swA2 (P:=A1++Y.take t) (x:=x) (M:=X.drop (t+1)++(C++X.take t)) (y:=y) (W:=Y.drop (t+1)++B)
  rw [l1] at i1
  rw [l1,l2,show A1.length+t+1+(X.length - (t+1)+C.length+t)=A1.length+X.length+C.length+t by omega] at i2
  refine AR.at sC i2 fun ad=>AR.at sC i1 fun ad1=>Sym.swp sC FlE (by decide) l1.symm (by rw [l1,l2];omega) fun D sD=>⟨X.length - (t+1),by omega,t+1,wi (by omega),ht',rfl,?_⟩
  have e2:A1++(((Y.take t ++ [y])++X.drop (t+1))++(C++(((X.take t ++ [x])++Y.drop (t+1))++B)))=(A1++Y.take t)++y::((X.drop (t+1)++(C++X.take t))++x::(Y.drop (t+1)++B)):=by simp
  rw [tX,tY,e2]
  exact sD
 ·have e:t=X.length:=by have:=dge hge;omega
  rw [e,List.take_length,List.drop_length,List.append_nil,hxy,List.take_length,List.drop_length,List.append_nil] at sC
  exact k _ sC
theorem rot_ok {A1 X Y B:List El}{a m b:Int}(h:AR H0 A s (A1++(X++(Y++B))) R) (hx:X ≠ []) (hy:Y ≠ []) (ha:a=((A1.length:Nat):Int)) (hm:m=((A1.length+X.length:Nat):Int)) (hb:b=((A1.length+X.length+Y.length:Nat):Int))
  (hl:A1.length+X.length+Y.length≤2000000) (k:∀ A',AR H0 A' s (A1++(Y++(X++B))) R→K (.tuple #[]) A'):CallF Tryz.prog 208 #[.slice s.a s.n s.c,.int .i64 a,.int .i64 m,.int .i64 b,cmp] A K Z:=by
 subst ha
 subst hm
 subst hb
 have lx:0 < X.length:=List.length_pos_iff.2 hx
 have ly:0 < Y.length:=List.length_pos_iff.2 hy
 refine V208_ok ?_
 unfold V208
 rw [wn (x:=((A1.length+X.length:Nat):Int) - ((A1.length:Nat):Int)) (n:=X.length) (by omega) (by omega),wn (x:=((A1.length+X.length+Y.length:Nat):Int) - ((A1.length+X.length:Nat):Int)) (n:=Y.length) (by omega) (by omega)]
 refine ⟨fun i j C m=>∃ (U P Q W:List El),i=((P.length:Nat):Int)∧j=((Q.length:Nat):Int)∧0 < P.length∧0 < Q.length∧m=P.length+Q.length∧U.length+P.length=X.length∧U.length+P.length+Q.length+W.length=X.length+Y.length∧Y++X=U++(Q++(P++W))∧AR H0 C s (A1++(U++(P++(Q++(W++B))))) R,⟨_,[],X,Y,[],rfl,rfl,lx,ly,rfl,by simp,by simp,by simp,by simpa using h⟩,?_⟩
 rintro i j C m ⟨U,P,Q,W,rfl,rfl,hp,hq,rfl,hu,hlen,he,sC⟩ scr
 rw [wn (x:=((A1.length+X.length:Nat):Int) - ((P.length:Nat):Int)) (n:=A1.length+U.length) (by omega) (by omega)]
 refine ⟨fun hne=>⟨fun hgt=>?_,fun hle=>?_⟩,fun heq=>?_⟩
 ·have hgt:Q.length < P.length:=by have:=of_decide_eq_true hgt;omega
  have eP:P=P.take Q.length++P.drop Q.length:=(List.take_append_drop _ _).symm
  have l1:(P.take Q.length).length=Q.length:=by rw [List.length_take];omega
  have l2:(P.drop Q.length).length=P.length - Q.length:=List.length_drop
  generalize P.take Q.length=P1 at eP l1
  generalize P.drop Q.length=P2 at eP l2
  have sC':AR H0 C s ((A1++U)++(P1++(P2++(Q++(W++B))))) R:=by
   rw [eP] at sC
   simpa using sC
  refine swap_ok sC' l1 (by rw [List.length_append]) (by rw [List.length_append,l1,l2];omega) (by rw [l1]) (by rw [List.length_append];omega) fun D sD=>⟨rfl,P2.length+P1.length,by omega,U++Q,P2,P1,W,?_,by rw [l1],by omega,by omega,rfl,by rw [List.length_append];omega,by rw [List.length_append];omega,?_,?_⟩
  ·rw [wn (n:=P2.length) (by omega) (by omega)]
  ·rw [he,eP];simp
  ·simpa using sD
 ·have hle:P.length < Q.length:=by
   have h1:=of_decide_eq_false hle
   have h2:((P.length:Nat):Int)≠((Q.length:Nat):Int):=bne_iff_ne.1 hne
   omega
  have eQ:Q=Q.take (Q.length - P.length)++Q.drop (Q.length - P.length):=(List.take_append_drop _ _).symm
  have l1:(Q.take (Q.length - P.length)).length=Q.length - P.length:=by rw [List.length_take];omega
  have l2:(Q.drop (Q.length - P.length)).length=P.length:=by rw [List.length_drop];omega
  generalize Q.take (Q.length - P.length)=Q1 at eQ l1
  generalize Q.drop (Q.length - P.length)=Q2 at eQ l2
  rw [wn (x:=((A1.length+X.length:Nat):Int)+((Q.length:Nat):Int)) (n:=A1.length+X.length+Q.length) (by omega) (by omega),wn (x:=((A1.length+X.length+Q.length:Nat):Int) - ((P.length:Nat):Int)) (n:=A1.length+X.length+Q.length - P.length) (by omega) (by omega)]
  have sC':AR H0 C s ((A1++U)++(P++(Q1++(Q2++(W++B))))) R:=by
   rw [eQ] at sC
   simpa using sC
  refine swap_ok sC' l2.symm (by rw [List.length_append]) (by rw [List.length_append,l1];omega) rfl (by rw [List.length_append];omega) fun D sD=>⟨rfl,Q2.length+Q1.length,by omega,U,Q2,Q1,P++W,by rw [l2],?_,by omega,by omega,rfl,by omega,by rw [List.length_append];omega,?_,?_⟩
  ·rw [wn (n:=Q1.length) (by omega) (by omega)]
  ·rw [he,eQ];simp
  ·simpa using sD
 ·have heq:P.length=Q.length:=by
   have h2:((P.length:Nat):Int)=((Q.length:Nat):Int):=bne_eq_false_iff_eq.1 heq
   omega
  have sC':AR H0 C s ((A1++U)++(P++([]++(Q++(W++B))))) R:=by simpa using sC
  refine swap_ok sC' heq (by rw [List.length_append]) (by rw [List.length_append,List.length_nil];omega) rfl (by rw [List.length_append,List.length_nil];omega) fun D sD=>⟨rfl,k D ?_⟩
  have e:A1++(Y++(X++B))=(A1++U)++(Q++([]++(P++(W++B)))):=by
   have:Y++(X++B)=(Y++X)++B:=by simp
   rw [this,he]
   simp
  rw [e]
  exact sD
section
variable {κ : Type}{c : κ→κ→Int}{ky:El→κ}{Q:El→Prop}
theorem mid_srt {S1 S2:List El}{x:El}(hS:Srt c ky tg (S1++S2)) (h1:∀ y∈S1,Ahead c ky tg y x) (h2:∀ y∈S2,Ahead c ky tg x y):Srt c ky tg (S1++x::S2):=by
 rw [Srt,List.pairwise_append] at hS
 rw [Srt,List.pairwise_append,List.pairwise_cons]
 refine ⟨hS.1,⟨h2,hS.2.1⟩,fun a ha b hb=>?_⟩
 rcases List.mem_cons.1 hb with rfl | hb
 ·exact h1 a ha
 ·exact hS.2.2 a ha b hb
theorem ins_ok (hc:CmpLin c) (hv:CmpV cmp c ky Q H0) {A1 M B:List El}{a b:Int}(h:AR H0 A s (A1++(M++B)) R) (hq:∀ x∈M,Q x) (ht:M.Pairwise fun x y=>x.2 < y.2) (ha:a=((A1.length:Nat):Int)) (hb:b=((A1.length+M.length:Nat):Int))
  (hl:A1.length+M.length≤2000000) (k:∀ A' M',M'.Perm M→Srt c ky tg M'→AR H0 A' s (A1++(M'++B)) R→K (.tuple #[]) A'):CallF Tryz.prog 188 #[.slice s.a s.n s.c,.int .i64 a,.int .i64 b,cmp] A K Z:=by
 subst ha
 subst hb
 refine V188_ok ?_
 unfold V188
 rw [wn (x:=((A1.length:Nat):Int)+1) (n:=A1.length+1) (by omega) (by omega)]
 refine ⟨fun i C m=>∃ (q:Nat) (S:List El),i=((A1.length+q:Nat):Int)∧1≤q∧(q≤M.length∨M = []∧q=1)∧m=M.length+1 - q∧S.Perm (M.take q)∧Srt c ky tg S∧AR H0 C s (A1++(S++(M.drop q++B))) R,⟨_,1,M.take 1,rfl,Nat.le_refl _,?_,rfl,List.Perm.refl _,?_,?_⟩,?_⟩
 ·cases M with
  | nil=>exact .inr ⟨rfl,rfl⟩
  | cons x r=>exact .inl (by simp)
 ·cases M with
  | nil=>exact List.Pairwise.nil
  | cons x r=>exact List.pairwise_singleton _ _
 ·have:M=M.take 1++M.drop 1:=(List.take_append_drop _ _).symm
  rw [this,List.append_assoc] at h
  exact h
 rintro i C m ⟨q,S,rfl,hq1,hq2,rfl,hperm,hsrt,sC⟩ scr
 refine ⟨fun hlt=>?_,fun hge=>?_⟩
 ·have hqM:q < M.length:=by have:=dlt hlt;omega
  obtain ⟨x,hx,hxm⟩:=getN hqM
  have dM:M.drop q=x::M.drop (q+1):=by
   obtain ⟨_,e⟩:=List.getElem?_eq_some_iff.1 hx
   rw [List.drop_eq_getElem_cons hqM,e]
  have hlS:S.length=q:=by rw [hperm.length_eq,List.length_take];omega
  have htx:∀ y∈S,y.2 < x.2:=fun y hy=>by
   obtain ⟨t,h1,h2⟩:=mem_take.1 (hperm.subset hy)
   exact pw_at (R:=fun (x y:El)=>x.2 < y.2) ht h2 hx h1
  have hqS:∀ y∈S,Q y:=fun y hy=>hq y (List.mem_of_mem_take (hperm.subset hy))
  rw [dM] at sC
  refine ⟨fun j D m=>∃ S1 S2:List El,j=((A1.length+S1.length:Nat):Int)∧m=S1.length∧S=S1++S2∧(∀ y∈S2,c (ky x) (ky y) < 0)∧AR H0 D s (A1++(S1++(x::(S2++(M.drop (q+1)++B))))) R,⟨_,S,[],by rw [hlS],rfl,by simp,by simp,by simpa using sC⟩,?_⟩
  rintro j D m ⟨S1,S2,rfl,rfl,rfl,h2,sD⟩ scr1
  have out:∀ E,AR H0 E s (A1++(S1++(x::(S2++(M.drop (q+1)++B))))) R→(∀ y∈S1,Ahead c ky tg y x)→∃ m2,m2 < M.length+1 - q∧∃ (q':Nat) (S':List El),w64 (((A1.length+q:Nat):Int)+1)=((A1.length+q':Nat):Int)∧1≤q'∧(q'≤M.length∨M = []∧q'=1)∧m2=M.length+1 - q'∧S'.Perm (M.take q')∧Srt c ky tg S'∧AR H0 E s (A1++(S'++(M.drop q'++B))) R:=fun E sE h1=>by
   refine ⟨M.length+1 - (q+1),by omega,q+1,S1++x::S2,wn (by omega) (by omega),by omega,.inl hqM,rfl,?_,mid_srt hsrt h1 fun y hy=>.inl (h2 y hy),by simpa using sE⟩
   rw [List.take_add_one,hx]
   refine (List.perm_middle.trans ?_)
   refine (List.Perm.cons x hperm).trans ?_
   exact (List.perm_append_singleton x _).symm
  refine ⟨fun hgt=>?_,fun hle=>?_⟩
  ·have h0:0 < S1.length:=by have:=of_decide_eq_true hgt;omega
   obtain ⟨S0,p,rfl⟩:∃ S0 p,S1=S0 ++ [p]:=by
    rcases List.eq_nil_or_concat S1 with e | ⟨S0,p,e⟩
    ·rw [e] at h0;cases h0
    ·exact ⟨S0,p,by rw [e,List.concat_eq_append]⟩
   have e1:A1++((S0 ++ [p])++(x::(S2++(M.drop (q+1)++B))))=(A1++S0)++p::([]++x::(S2++(M.drop (q+1)++B))):=by simp
   have l1:(A1++S0).length=A1.length+S0.length:=List.length_append
   have l2:(S0 ++ [p]).length=S0.length+1:=by simp
   rw [l2,wn (x:=((A1.length+(S0.length+1):Nat):Int) - 1) (n:=A1.length+S0.length) (by omega) (by rw [List.length_append,l2] at hlS;omega)]
   have sD':=sD
   rw [e1] at sD'
   have i1:=swA1 (P:=A1++S0) (x:=p) (M:=[]) (y:=x) (W:=S2++(M.drop (q+1)++B))
   have i2:=swA2 (P:=A1++S0) (x:=p) (M:=[]) (y:=x) (W:=S2++(M.drop (q+1)++B))
   rw [l1] at i1
   rw [l1,List.length_nil,show A1.length+S0.length+1+0=A1.length+(S0.length+1) by omega] at i2
   have hpS:p∈(S0 ++ [p])++S2:=by simp
   refine AR.at sD' i2 fun ad=>AR.at sD' i1 fun ad1=>hv (hq x hxm) (hqS p hpS) sD'.fr fun E fE=>⟨_,rfl,fun hneg=>?_,fun hneg=>?_⟩
   ·have sE:=Sym.more sD' fE
    refine AR.at sE i1 fun ad2=>AR.at sE i2 fun ad3=>Sym.swp' sE FlE (by decide) l1.symm (by rw [l1,List.length_nil];omega) fun F sF=>⟨S0.length,by omega,S0,p::S2,rfl,rfl,by simp,?_,by simpa using sF⟩
    intro y hy
    rcases List.mem_cons.1 hy with rfl | hy
    ·exact of_decide_eq_true hneg
    ·exact h2 y hy
   ·have sE:=Sym.more sD fE
    refine out E sE fun y hy=>?_
    have hpx:Ahead c ky tg p x:=Ahead.more hc (htx p hpS) (of_decide_eq_false hneg)
    rcases List.mem_append.1 hy with hy | hy
    ·have h3:Srt c ky tg (S0 ++ [p]):=(List.pairwise_append.1 hsrt).1
     exact Ahead.tr hc ((List.pairwise_append.1 h3).2.2 y hy p (by simp)) hpx
    ·rw [List.mem_singleton.1 hy];exact hpx
  ·have h0:S1 = []:=List.eq_nil_of_length_eq_zero (by have:=of_decide_eq_false hle;omega)
   subst h0
   exact out D sD (by simp)
 ·have hqM:M.length≤q:=by have:=dge hge;omega
  rw [List.take_of_length_le hqM] at hperm
  rw [List.drop_of_length_le hqM,List.nil_append] at sC
  exact k C S hperm hsrt sC
theorem neI' {a b:Int}(h:(a == b)=false):a≠b:=by rw [beq_eq_false_iff_ne] at h;exact h
theorem gt1 {A1 X W:List El}{t:Nat}{x:El}(h:X[t]? = some x):(A1++(X++W))[A1.length+t]? = some x:=by
 have ht:=(List.getElem?_eq_some_iff.1 h).1
 rw [List.getElem?_append_right (by omega),show A1.length+t - A1.length=t by omega,List.getElem?_append_left ht,h]
theorem gt2 {A1 X Y W:List El}{t:Nat}{y:El}(h:Y[t]? = some y):(A1++(X++(Y++W)))[A1.length+X.length+t]? = some y:=by
 have ht:=(List.getElem?_eq_some_iff.1 h).1
 rw [List.getElem?_append_right (by omega),List.getElem?_append_right (by omega),show A1.length+X.length+t - A1.length - X.length=t by omega,List.getElem?_append_left ht,h]
theorem sym_ok (hc:CmpLin c) (hv:CmpV cmp c ky Q H0) (N:Nat):∀ {A1 X Y B:List El}{a m b:Int}{A:Hp}{K:Value→Hp→Prop},X.length+Y.length≤N→AR H0 A s (A1++(X++(Y++B))) R→X ≠ []→Y ≠ []→Srt c ky tg X→Srt c ky tg Y →
  (∀ x∈X,∀ y∈Y,x.2 < y.2)→(∀ x∈X,Q x)→(∀ y∈Y,Q y)→a=((A1.length:Nat):Int)→m=((A1.length+X.length:Nat):Int)→b=((A1.length+X.length+Y.length:Nat):Int)→A1.length+X.length+Y.length≤2000000 →
  (∀ A' M',M'.Perm (X++Y)→Srt c ky tg M'→AR H0 A' s (A1++(M'++B)) R→K (.tuple #[]) A')→CallF Tryz.prog 189 #[.slice s.a s.n s.c,.int .i64 a,.int .i64 m,.int .i64 b,cmp] A K Z:=by
 induction N with
 | zero=>
  intro A1 X Y B a m b A K hN _ hx
  exact absurd (List.eq_nil_of_length_eq_zero (by omega)) hx
 | succ N ih=>
 intro A1 X Y B a m b A K hN h hx hy sX sY ht qX qY ha hm hb hl k
 subst ha
 subst hm
 subst hb
 have lx:0 < X.length:=List.length_pos_iff.2 hx
 have ly:0 < Y.length:=List.length_pos_iff.2 hy
 refine V189_ok ?_
 unfold V189
 rw [wn (x:=((A1.length+X.length:Nat):Int) - ((A1.length:Nat):Int)) (n:=X.length) (by omega) (by omega),wn (x:=((A1.length+X.length+Y.length:Nat):Int) - ((A1.length+X.length:Nat):Int)) (n:=Y.length) (by omega) (by omega)]
 refine ⟨fun h1=>?_,fun h1=>⟨fun h2=>?_,fun h2=>?_⟩⟩
 ·-- one alone stands ahead
  have h1:X.length=1:=by have:((X.length:Nat):Int)=1:=eq_of_beq h1;omega
  obtain ⟨x,rfl⟩:=List.length_eq_one_iff.1 h1
  have hxq:=qX x (by simp)
  have htx:∀ y∈Y,tg x < tg y:=fun y hy=>ht x (by simp) y hy
  simp only [List.length_singleton] at *
  refine ⟨fun i j C m=>∃ p q:Nat,i=((A1.length+1+p:Nat):Int)∧j=((A1.length+1+q:Nat):Int)∧p≤q∧q≤Y.length∧m=q - p∧(∀ t y,t < p→Y[t]? = some y→c (ky y) (ky x) < 0)∧(∀ t y,q≤t→Y[t]? = some y→¬ c (ky y) (ky x) < 0)∧AR H0 C s (A1++([x]++(Y++B))) R,⟨_,0,Y.length,rfl,rfl,Nat.zero_le _,Nat.le_refl _,rfl,by omega,?_,h⟩,?_⟩
  ·intro t y h1 h2
   have:=(List.getElem?_eq_some_iff.1 h2).1
   omega
  rintro i j C m ⟨p,q,rfl,rfl,hpq,hq,rfl,hlo,hhi,sC⟩ scr
  rw [half (x:=((A1.length+1+p:Nat):Int)+((A1.length+1+q:Nat):Int)) (n:=A1.length+1+p+(A1.length+1+q)) (by omega) (by omega),show (A1.length+1+p+(A1.length+1+q)) / 2=A1.length+1+(p+q) / 2 by omega]
  refine ⟨fun hlt=>?_,fun hge=>?_⟩
  ·have hlt:p < q:=by have:=dlt hlt;omega
   have hm:(p+q) / 2 < Y.length:=by omega
   obtain ⟨y,hy',hym⟩:=getN hm
   have g1:=gt2 (A1:=A1) (X:=[x]) (W:=B) hy'
   have g2:=gt1 (A1:=A1) (X:=[x]) (W:=Y++B) (t:=0) (x:=x) rfl
   rw [List.length_singleton] at g1
   refine AR.at sC g1 fun ad=>AR.at sC g2 fun ad1=>hv (qY y hym) hxq sC.fr fun D fD=>⟨_,rfl,fun hneg=>⟨q - ((p+q) / 2+1),by omega,(p+q) / 2+1,q,wn (by omega) (by omega),rfl,by omega,hq,rfl,fun t z hz1 hz2=>?_,hhi,Sym.more sC fD⟩,fun hneg=>⟨(p+q) / 2 - p,by omega,p,(p+q) / 2,rfl,rfl,by omega,by omega,rfl,hlo,fun t z hz1 hz2 hz3=>?_,Sym.more sC fD⟩⟩
   ·exact low_mono hc sY hz2 hy' (by omega) (of_decide_eq_true hneg)
   ·exact of_decide_eq_false hneg (low_mono hc sY hy' hz2 hz1 hz3)
  ·have hpe:p=q:=by have:=dge hge;omega
   subst hpe
   rw [wn (x:=((A1.length+1+p:Nat):Int) - 1) (n:=A1.length+p) (by omega) (by omega)]
   refine ⟨fun k' D m=>∃ t:Nat,k'=((A1.length+t:Nat):Int)∧t≤p∧m=p - t∧AR H0 D s (A1++(Y.take t++x::(Y.drop t++B))) R,⟨_,0,rfl,Nat.zero_le _,rfl,by simpa using sC⟩,?_⟩
   rintro k' D m ⟨t,rfl,htp,rfl,sD⟩ scr1
   refine ⟨fun hlt2=>?_,fun hge2=>?_⟩
   ·have htp':t < p:=by have:=dlt hlt2;omega
    have hm:t < Y.length:=by omega
    obtain ⟨y,hy',hym⟩:=getN hm
    have dY:Y.drop t=y::Y.drop (t+1):=by
     obtain ⟨_,e⟩:=List.getElem?_eq_some_iff.1 hy'
     rw [List.drop_eq_getElem_cons hm,e]
    have e1:A1++(Y.take t++x::(y::Y.drop (t+1)++B))=(A1++Y.take t)++x::([]++y::(Y.drop (t+1)++B)):=by simp
    rw [dY,e1] at sD
    have l1:(A1++Y.take t).length=A1.length+t:=by simp;omega
    have i1:=swA1 (P:=A1++Y.take t) (x:=x) (M:=[]) (y:=y) (W:=Y.drop (t+1)++B)
    have i2:=swA2 (P:=A1++Y.take t) (x:=x) (M:=[]) (y:=y) (W:=Y.drop (t+1)++B)
    rw [l1] at i1
    rw [l1,List.length_nil,show A1.length+t+1+0=A1.length+(t+1) by omega] at i2
    rw [wn (x:=((A1.length+t:Nat):Int)+1) (n:=A1.length+(t+1)) (by omega) (by omega)]
    refine AR.at sD i2 fun ad=>AR.at sD i1 fun ad1=>Sym.swp sD FlE (by decide) l1.symm (by rw [l1,List.length_nil];omega) fun F sF=>⟨p - (t+1),by omega,t+1,rfl,htp',rfl,?_⟩
    rw [List.take_add_one,hy']
    simpa using sF
   ·have e:t=p:=by have:=dge hge2;omega
    subst e
    refine k D (Y.take t++x::Y.drop t) ?_ (ins_low hc sY htx hlo hhi) (by simpa using sD)
    have:=List.perm_middle (a:=x) (l₁:=Y.take t) (l₂:=Y.drop t)
    rw [List.take_append_drop] at this
    exact this
 ·-- one alone stands behind
  have h2:Y.length=1:=by have:((Y.length:Nat):Int)=1:=eq_of_beq h2;omega
  obtain ⟨y,rfl⟩:=List.length_eq_one_iff.1 h2
  have hyq:=qY y (by simp)
  have htx:∀ x∈X,tg x < tg y:=fun x hx=>ht x hx y (by simp)
  simp only [List.length_singleton] at *
  refine ⟨fun i j C m=>∃ p q:Nat,i=((A1.length+p:Nat):Int)∧j=((A1.length+q:Nat):Int)∧p≤q∧q≤X.length∧m=q - p∧(∀ t x,t < p→X[t]? = some x→¬ c (ky y) (ky x) < 0)∧(∀ t x,q≤t→X[t]? = some x→c (ky y) (ky x) < 0)∧AR H0 C s (A1++(X++([y]++B))) R,⟨_,0,X.length,rfl,rfl,Nat.zero_le _,Nat.le_refl _,rfl,by omega,?_,h⟩,?_⟩
  ·intro t y h1 h2
   have:=(List.getElem?_eq_some_iff.1 h2).1
   omega
  rintro i j C m ⟨p,q,rfl,rfl,hpq,hq,rfl,hlo,hhi,sC⟩ scr
  rw [half (x:=((A1.length+p:Nat):Int)+((A1.length+q:Nat):Int)) (n:=A1.length+p+(A1.length+q)) (by omega) (by omega),show (A1.length+p+(A1.length+q)) / 2=A1.length+(p+q) / 2 by omega]
  refine ⟨fun hlt=>?_,fun hge=>?_⟩
  ·have hlt:p < q:=by have:=dlt hlt;omega
   have hm:(p+q) / 2 < X.length:=by omega
   obtain ⟨x,hx',hxm⟩:=getN hm
   have g1:=gt2 (A1:=A1) (X:=X) (Y:=[y]) (W:=B) (t:=0) (y:=y) rfl
   have g2:=gt1 (A1:=A1) (W:=[y]++B) hx'
   refine AR.at sC g1 fun ad=>AR.at sC g2 fun ad1=>hv hyq (qX x hxm) sC.fr fun D fD=>⟨_,rfl,fun hneg=>⟨q - ((p+q) / 2+1),by omega,(p+q) / 2+1,q,wn (by omega) (by omega),rfl,by omega,hq,rfl,fun t z hz1 hz2 hz3=>?_,hhi,Sym.more sC fD⟩,fun hneg=>⟨(p+q) / 2 - p,by omega,p,(p+q) / 2,rfl,rfl,by omega,by omega,rfl,hlo,fun t z hz1 hz2=>?_,Sym.more sC fD⟩⟩
   ·have hneg:¬ c (ky y) (ky x) < 0:=by simpa using hneg
    exact hneg (high_mono hc sX hz2 hx' (by omega) hz3)
   ·have hneg:c (ky y) (ky x) < 0:=by simpa using hneg
    exact high_mono hc sX hx' hz2 hz1 hneg
  ·have hpe:p=q:=by have:=dge hge;omega
   subst hpe
   refine ⟨fun k' D m=>∃ t:Nat,k'=((A1.length+t:Nat):Int)∧p≤t∧t≤X.length∧m=t - p∧AR H0 D s (A1++(X.take t++y::(X.drop t++B))) R,⟨_,X.length,rfl,hq,Nat.le_refl _,rfl,by simpa using sC⟩,?_⟩
   rintro k' D m ⟨t,rfl,htp,htx',rfl,sD⟩ scr1
   refine ⟨fun hlt2=>?_,fun hge2=>?_⟩
   ·have htp':p < t:=by have:=of_decide_eq_true hlt2;omega
    obtain ⟨u,rfl⟩:∃ u,t=u+1:=⟨t - 1,by omega⟩
    have hm:u < X.length:=by omega
    obtain ⟨x,hx',hxm⟩:=getN hm
    have dX:X.drop u=x::X.drop (u+1):=by
     obtain ⟨_,e⟩:=List.getElem?_eq_some_iff.1 hx'
     rw [List.drop_eq_getElem_cons hm,e]
    have e1:A1++((X.take u ++ [x])++y::(X.drop (u+1)++B))=(A1++X.take u)++x::([]++y::(X.drop (u+1)++B)):=by simp
    rw [List.take_add_one,hx',Option.toList_some,e1] at sD
    have l1:(A1++X.take u).length=A1.length+u:=by simp;omega
    have i1:=swA1 (P:=A1++X.take u) (x:=x) (M:=[]) (y:=y) (W:=X.drop (u+1)++B)
    have i2:=swA2 (P:=A1++X.take u) (x:=x) (M:=[]) (y:=y) (W:=X.drop (u+1)++B)
    rw [l1] at i1
    rw [l1,List.length_nil,show A1.length+u+1+0=A1.length+(u+1) by omega] at i2
    rw [wn (x:=((A1.length+(u+1):Nat):Int) - 1) (n:=A1.length+u) (by omega) (by omega)]
    refine AR.at sD i1 fun ad=>AR.at sD i2 fun ad1=>Sym.swp' sD FlE (by decide) l1.symm (by rw [l1,List.length_nil];omega) fun F sF=>⟨u - p,by omega,u,rfl,by omega,by omega,rfl,?_⟩
    rw [dX]
    simpa using sF
   ·have e:t=p:=by have:=of_decide_eq_false hge2;omega
    subst e
    refine k D (X.take t++y::X.drop t) ?_ (ins_high hc sX htx hlo hhi) (by simpa using sD)
    have:=List.perm_middle (a:=y) (l₁:=X.take t) (l₂:=X.drop t)
    rw [List.take_append_drop] at this
    exact this.trans (List.perm_append_singleton y X).symm
 ·-- both of more than one
  have hX2:X.length≠1:=fun e=>neI' h1 (by omega)
  have hY2:Y.length≠1:=fun e=>neI' h2 (by omega)
  obtain ⟨mid,hmid⟩:∃ mid,mid=(A1.length+(A1.length+X.length+Y.length)) / 2:=⟨_,rfl⟩
  rw [half (x:=((A1.length:Nat):Int)+((A1.length+X.length+Y.length:Nat):Int)) (n:=A1.length+(A1.length+X.length+Y.length)) (by omega) (by omega),← hmid]
  rw [wn (x:=((mid:Nat):Int)+((A1.length+X.length:Nat):Int)) (n:=mid+(A1.length+X.length)) (by omega) (by omega),wn (x:=((mid+(A1.length+X.length):Nat):Int) - 1) (n:=mid+(A1.length+X.length) - 1) (by omega) (by omega)]
  refine ⟨fun st r E=>E=A∧∃ s0 r0:Nat,st=((s0:Nat):Int)∧r=((r0:Nat):Int)∧s0≤r0∧((s0=A1.length∧r0=A1.length+X.length∧A1.length+X.length≤mid)∨(s0+(A1.length+X.length+Y.length)=mid+(A1.length+X.length)∧r0=mid∧mid < A1.length+X.length)),?_,fun hgt=>⟨rfl,mid+(A1.length+X.length) - (A1.length+X.length+Y.length),mid,?_,rfl,?_,.inr ⟨?_,rfl,?_⟩⟩,fun hle=>⟨rfl,A1.length,A1.length+X.length,rfl,rfl,by omega,.inl ⟨rfl,rfl,?_⟩⟩⟩
  rotate_left
  ·have:=of_decide_eq_true hgt
   exact wn (by omega) (by omega)
  ·have:=of_decide_eq_true hgt;omega
  ·have:=of_decide_eq_true hgt;omega
  ·have:=of_decide_eq_true hgt;omega
  ·have:=of_decide_eq_false hle;omega
  rintro st r E ⟨hEA,s0,r0,rfl,rfl,hsr,hrng⟩ scr
  rw [hEA]
  clear hEA E
  refine ⟨fun st r E m=>∃ p q:Nat,st=((p:Nat):Int)∧r=((q:Nat):Int)∧s0≤p∧p≤q∧q≤r0∧m=q - p∧AR H0 E s (A1++(X++(Y++B))) R ∧
   (p=s0∨∀ x y,X[p - 1 - A1.length]? = some x→Y[mid+(A1.length+X.length) - p - (A1.length+X.length)]? = some y→¬ c (ky y) (ky x) < 0) ∧
   (q=r0∨∀ x y,X[q - A1.length]? = some x→Y[mid+(A1.length+X.length) - 1 - q - (A1.length+X.length)]? = some y→c (ky y) (ky x) < 0),⟨_,s0,r0,rfl,rfl,Nat.le_refl _,hsr,Nat.le_refl _,rfl,h,.inl rfl,.inl rfl⟩,?_⟩
  rintro st r E m ⟨p,q,rfl,rfl,hp0,hpq,hqr,rfl,sE,hpA,hqB⟩ scr1
  rw [half (x:=((p:Nat):Int)+((q:Nat):Int)) (n:=p+q) (by omega) (by omega)]
  refine ⟨fun hlt=>?_,fun hge=>?_⟩
  ·have hlt:p < q:=dlt hlt
   have hcx:(p+q) / 2 - A1.length < X.length:=by omega
   have hcy:mid+(A1.length+X.length) - 1 - (p+q) / 2 - (A1.length+X.length) < Y.length:=by omega
   obtain ⟨x,hx',hxm⟩:=getN hcx
   obtain ⟨y,hy',hym⟩:=getN hcy
   have g1:=gt1 (A1:=A1) (W:=Y++B) hx'
   have g2:=gt2 (A1:=A1) (X:=X) (W:=B) hy'
   rw [show A1.length+((p+q) / 2 - A1.length)=(p+q) / 2 by omega] at g1
   rw [show A1.length+X.length+(mid+(A1.length+X.length) - 1 - (p+q) / 2 - (A1.length+X.length))=mid+(A1.length+X.length) - 1 - (p+q) / 2 by omega] at g2
   rw [wn (x:=((mid+(A1.length+X.length) - 1:Nat):Int) - (((p+q) / 2:Nat):Int)) (n:=mid+(A1.length+X.length) - 1 - (p+q) / 2) (by omega) (by omega)]
   refine AR.at sE g2 fun ad=>AR.at sE g1 fun ad1=>hv (qY y hym) (qX x hxm) sE.fr fun D fD=>⟨_,rfl,fun hneg=>⟨q - ((p+q) / 2+1),by omega,(p+q) / 2+1,q,wn (by omega) (by omega),rfl,by omega,by omega,hqr,rfl,Sym.more sE fD,.inr fun x' y' e1 e2=>?_,hqB⟩,fun hneg=>⟨(p+q) / 2 - p,by omega,p,(p+q) / 2,rfl,rfl,hp0,by omega,by omega,rfl,Sym.more sE fD,hpA,.inr fun x' y' e1 e2=>?_⟩⟩
   ·have hneg:¬ c (ky y) (ky x) < 0:=by simpa using hneg
    rw [show (p+q) / 2+1 - 1 - A1.length=(p+q) / 2 - A1.length by omega,hx'] at e1
    rw [show mid+(A1.length+X.length) - ((p+q) / 2+1) - (A1.length+X.length)=mid+(A1.length+X.length) - 1 - (p+q) / 2 - (A1.length+X.length) by omega,hy'] at e2
    rw [← Option.some_inj.1 e1,← Option.some_inj.1 e2]
    exact hneg
   ·have hneg:c (ky y) (ky x) < 0:=by simpa using hneg
    rw [hx'] at e1
    rw [hy'] at e2
    rw [← Option.some_inj.1 e1,← Option.some_inj.1 e2]
    exact hneg
  have hpe:p=q:=by have:=dge hge;omega
  subst hpe
  have hpa:A1.length≤p:=by omega
  have hpm:p≤A1.length+X.length:=by omega
  have hpmid:p≤mid:=by omega
  have hje:mid+(A1.length+X.length) - p≤A1.length+X.length+Y.length:=by omega
  have hcross:=cross (i:=p - A1.length) (j:=mid+(A1.length+X.length) - p - (A1.length+X.length)) hc sX sY ht (by omega) (by omega)
   (by
    rcases hpA with e | e
    ·rcases hrng with ⟨e1,_,_⟩ | ⟨e1,_,_⟩
     ·exact .inl (by omega)
     ·exact .inr (.inl (by omega))
    ·refine .inr (.inr fun x y h1 h2=>e x y ?_ h2)
     rw [show p - 1 - A1.length=p - A1.length - 1 by omega]
     exact h1)
   (by
    rcases hqB with e | e
    ·rcases hrng with ⟨_,e1,_⟩ | ⟨_,e1,_⟩
     ·exact .inl (by omega)
     ·exact .inr (.inl (by omega))
    ·refine .inr (.inr fun x y h1 h2=>e x y h1 ?_)
     rw [show mid+(A1.length+X.length) - 1 - p - (A1.length+X.length)=mid+(A1.length+X.length) - p - (A1.length+X.length) - 1 by omega]
     exact h2)
  have eX:=(List.take_append_drop (p - A1.length) X).symm
  have eY:=(List.take_append_drop (mid+(A1.length+X.length) - p - (A1.length+X.length)) Y).symm
  have l1:(X.take (p - A1.length)).length=p - A1.length:=by rw [List.length_take];omega
  have l2:(X.drop (p - A1.length)).length=A1.length+X.length - p:=by rw [List.length_drop];omega
  have l3:(Y.take (mid+(A1.length+X.length) - p - (A1.length+X.length))).length=mid - p:=by rw [List.length_take];omega
  have l4:(Y.drop (mid+(A1.length+X.length) - p - (A1.length+X.length))).length=Y.length - (mid - p):=by rw [List.length_drop];omega
  generalize X.take (p - A1.length)=X1 at eX l1 hcross
  generalize X.drop (p - A1.length)=X2 at eX l2 hcross
  generalize Y.take (mid+(A1.length+X.length) - p - (A1.length+X.length))=Y1 at eY l3 hcross
  generalize Y.drop (mid+(A1.length+X.length) - p - (A1.length+X.length))=Y2 at eY l4 hcross
  have sX':=sX
  have sY':=sY
  rw [eX,Srt,List.pairwise_append] at sX'
  rw [eY,Srt,List.pairwise_append] at sY'
  have mX1:∀ z∈X1,z∈X:=fun z hz=>by rw [eX];exact List.mem_append_left _ hz
  have mX2:∀ z∈X2,z∈X:=fun z hz=>by rw [eX];exact List.mem_append_right _ hz
  have mY1:∀ z∈Y1,z∈Y:=fun z hz=>by rw [eY];exact List.mem_append_left _ hz
  have mY2:∀ z∈Y2,z∈Y:=fun z hz=>by rw [eY];exact List.mem_append_right _ hz
  have sE':AR H0 E s (A1++(X1++(X2++(Y1++(Y2++B))))) R:=by
   rw [eX,eY] at sE
   simpa using sE
  rw [wn (x:=((mid+(A1.length+X.length):Nat):Int) - ((p:Nat):Int)) (n:=mid+(A1.length+X.length) - p) (by omega) (by omega)]
  refine ⟨fun E=>AR H0 E s (A1++(X1++(Y1++(X2++(Y2++B))))) R,?_,fun t E=>AR H0 E s (A1++(X1++(X2++(Y1++(Y2++B))))) R∧t=decide (p < A1.length+X.length∧p < mid),?_,fun h3=>⟨sE',?_⟩,fun h3=>⟨sE',?_⟩⟩
  rotate_left
  ·rintro t F ⟨sF,ht'⟩ scr2
   refine ⟨fun e=>?_,fun e=>?_⟩
   ·rw [e] at ht'
    have hh:=of_decide_eq_true ht'.symm
    have sF':AR H0 F s ((A1++X1)++(X2++(Y1++(Y2++B)))) R:=by simpa using sF
    refine rot_ok sF' (fun e=>by rw [e] at l2;simp at l2;omega) (fun e=>by rw [e] at l3;simp at l3;omega) ?_ ?_ ?_ (by rw [List.length_append];omega) fun G sG=>⟨rfl,by simpa using sG⟩
    ·rw [List.length_append];omega
    ·rw [List.length_append];omega
    ·rw [List.length_append];omega
   ·rw [e] at ht'
    have hh:=of_decide_eq_false ht'.symm
    have:X2 = []∨Y1 = []:=by
     by_cases e1:p < A1.length+X.length
     ·exact .inr (List.eq_nil_of_length_eq_zero (by omega))
     ·exact .inl (List.eq_nil_of_length_eq_zero (by omega))
    rcases this with e | e
    ·subst e;exact sF
    ·subst e;simpa using sF
  ·have h3:=dlt h3
   rw [Bool.eq_iff_iff,decide_eq_true_eq,decide_eq_true_eq]
   omega
  ·have h3:=dge h3
   exact (decide_eq_false (by omega)).symm
  intro F sF scr2
  refine ⟨fun G=>∃ M1:List El,M1.Perm (X1++Y1)∧Srt c ky tg M1∧AR H0 G s (A1++(M1++(X2++(Y2++B)))) R,?_,fun t G=>AR H0 G s (A1++(X1++(Y1++(X2++(Y2++B))))) R∧t=decide (A1.length < p∧p < mid),?_,fun h3=>⟨sF,?_⟩,fun h3=>⟨sF,?_⟩⟩
  rotate_left
  ·rintro t G ⟨sG,ht'⟩ scr3
   refine ⟨fun e=>?_,fun e=>?_⟩
   ·rw [e] at ht'
    have hh:=of_decide_eq_true ht'.symm
    refine ih (X:=X1) (Y:=Y1) (by omega) sG (fun e=>by rw [e] at l1;simp at l1;omega) (fun e=>by rw [e] at l3;simp at l3;omega) sX'.1 sY'.1 (fun x hx y hy=>ht x (mX1 x hx) y (mY1 y hy)) (fun x hx=>qX x (mX1 x hx)) (fun y hy=>qY y (mY1 y hy)) rfl (by omega) (by omega) (by omega) fun I M1 hp1 hs1 sI=>⟨rfl,M1,hp1,hs1,sI⟩
   ·rw [e] at ht'
    have hh:=of_decide_eq_false ht'.symm
    have:X1 = []∨Y1 = []:=by
     by_cases e1:A1.length < p
     ·exact .inr (List.eq_nil_of_length_eq_zero (by omega))
     ·exact .inl (List.eq_nil_of_length_eq_zero (by omega))
    refine ⟨X1++Y1,List.Perm.refl _,?_,by simpa using sG⟩
    rcases this with e | e
    ·subst e;exact sY'.1
    ·subst e;rw [List.append_nil];exact sX'.1
  ·have h3:=dlt h3
   rw [Bool.eq_iff_iff,decide_eq_true_eq,decide_eq_true_eq]
   omega
  ·have h3:=dge h3
   exact (decide_eq_false (by omega)).symm
  rintro G ⟨M1,hp1,hs1,sG⟩ scr3
  have lM1:M1.length=mid - A1.length:=by rw [hp1.length_eq,List.length_append];omega
  have fin:∀ I M2,M2.Perm (X2++Y2)→Srt c ky tg M2→AR H0 I s ((A1++M1)++(M2++B)) R→K (.tuple #[]) I:=fun I M2 hp2 hs2 sI=>by
   refine k I (M1++M2) ?_ ?_ (by simpa using sI)
   ·refine (hp1.append hp2).trans ?_
    rw [eX,eY]
    simp only [List.append_assoc]
    refine List.Perm.append_left X1 ?_
    rw [← List.append_assoc,← List.append_assoc X2]
    exact List.perm_append_comm.append_right Y2
   ·rw [Srt,List.pairwise_append]
    exact ⟨hs1,hs2,fun e he f hf=>hcross e (hp1.subset he) f (hp2.subset hf)⟩
  refine ⟨fun t I=>AR H0 I s (A1++(M1++(X2++(Y2++B)))) R∧t=decide (p < A1.length+X.length∧mid+(A1.length+X.length) - p < A1.length+X.length+Y.length),?_,fun h3=>⟨sG,?_⟩,fun h3=>⟨sG,?_⟩⟩
  ·rintro t I ⟨sI,ht'⟩ scr4
   have sI':AR H0 I s ((A1++M1)++(X2++(Y2++B))) R:=by simpa using sI
   refine ⟨fun e=>?_,fun e=>?_⟩
   ·rw [e] at ht'
    have hh:=of_decide_eq_true ht'.symm
    refine ih (X:=X2) (Y:=Y2) (by omega) sI' (fun e=>by rw [e] at l2;simp at l2;omega) (fun e=>by rw [e] at l4;simp at l4;omega) sX'.2.1 sY'.2.1 (fun x hx y hy=>ht x (mX2 x hx) y (mY2 y hy)) (fun x hx=>qX x (mX2 x hx)) (fun y hy=>qY y (mY2 y hy)) ?_ ?_ ?_ (by rw [List.length_append];omega) fun J M2 hp2 hs2 sJ=>⟨rfl,fin J M2 hp2 hs2 sJ⟩
    ·rw [List.length_append];omega
    ·rw [List.length_append];omega
    ·rw [List.length_append];omega
   ·rw [e] at ht'
    have hh:=of_decide_eq_false ht'.symm
    have:X2 = []∨Y2 = []:=by
     by_cases e1:p < A1.length+X.length
     ·exact .inr (List.eq_nil_of_length_eq_zero (by omega))
     ·exact .inl (List.eq_nil_of_length_eq_zero (by omega))
    refine fin I (X2++Y2) (List.Perm.refl _) ?_ (by simpa using sI')
    rcases this with e | e
    ·subst e;exact sY'.2.1
    ·subst e;rw [List.append_nil];exact sX'.2.1
  ·have h3:=dlt h3
   rw [Bool.eq_iff_iff,decide_eq_true_eq,decide_eq_true_eq]
   omega
  ·have h3:=dge h3
   exact (decide_eq_false (by omega)).symm
theorem stable_ok (hc:CmpLin c) (hv:CmpV cmp c ky Q H0) {l:List El}(h:AR H0 A s l R) (ht:l.Pairwise fun x y=>x.2 < y.2) (hq:∀ x∈l,Q x) (hl:l.length≤2000000)
  (k:∀ A' M',M'.Perm l→Srt c ky tg M'→AR H0 A' s M' R→K (.tuple #[]) A'):CallF Tryz.prog 162 #[.slice s.a s.n s.c,.int .i64 ((l.length:Nat):Int),cmp] A K Z:=by
 refine V162_ok ?_
 unfold V162
 refine ⟨fun a b C m=>∃ A1 O1 T:List El,a=((A1.length:Nat):Int)∧b=((A1.length+20:Nat):Int)∧m=T.length∧l=O1++T∧Full (Srt c ky tg) 20 A1 O1∧AR H0 C s (A1++T) R,⟨_,[],[],l,rfl,rfl,rfl,rfl,.nil,h⟩,?_⟩
 rintro a b C m ⟨A1,O1,T,rfl,rfl,rfl,rfl,hF,sC⟩ scr
 have hA:=hF.len.length_eq
 have hll:(O1++T).length=A1.length+T.length:=by rw [List.length_append,hA]
 have htT:=(List.pairwise_append.1 ht).2.1
 refine ⟨fun hle=>?_,fun hgt=>?_⟩
 ·have le':20≤T.length:=by have:=of_decide_eq_true hle;omega
  have eT:=(List.take_append_drop 20 T).symm
  have l1:(T.take 20).length=20:=by rw [List.length_take];omega
  generalize T.take 20=M at eT l1
  generalize T.drop 20=T' at eT
  subst eT
  simp only [List.length_append] at hll le' hl
  have hqM:∀ x∈M,Q x:=fun x hx=>hq x (List.mem_append_right _ (List.mem_append_left _ hx))
  refine ins_ok hc hv (M:=M) sC hqM (List.pairwise_append.1 htT).1 rfl (by rw [l1]) (by omega) fun D M' hp hs sD=>⟨rfl,T'.length,by rw [List.length_append];omega,A1++M',O1++M,T',?_,?_,rfl,by simp,.snoc hF (by rw [hp.length_eq,l1]) hp hs,by simpa using sD⟩
  ·rw [List.length_append,hp.length_eq,l1]
  ·rw [wn (n:=A1.length+20+20) (by omega) (by omega),List.length_append,hp.length_eq,l1]
 ·have hgt:T.length < 20:=by have:=of_decide_eq_false hgt;omega
  have hqT:∀ x∈T,Q x:=fun x hx=>hq x (List.mem_append_right _ hx)
  refine ins_ok hc hv (M:=T) (B:=[]) (by simpa using sC) hqT htT rfl (by rw [hll]) (by omega) fun D M' hp hs sD=>⟨rfl,?_⟩
  rw [List.append_nil] at sD
  have hB:Blocks (Srt c ky tg) 20 (A1++M') (O1++T):=hF.blocks (.last (by rw [hp.length_eq];omega) hp hs)
  generalize A1++M'=cur0 at sD hB
  clear sC hF hA htT hqT hgt
  generalize O1++T=l at hB hq ht hl k hll
  refine ⟨fun blk E m=>∃ (kb:Nat) (cur:List El),blk=((kb:Nat):Int)∧20≤kb∧kb≤4000000∧m=4000000 - kb∧Blocks (Srt c ky tg) kb cur l∧AR H0 E s cur R,⟨_,20,cur0,rfl,Nat.le_refl _,by decide,rfl,hB,sD⟩,?_⟩
  rintro blk E m ⟨kb,cur,rfl,h20,h4m,rfl,hB,sE⟩ scr1
  have lcur:=hB.perm.length_eq
  refine ⟨fun hlt=>?_,fun hge=>?_⟩
  ·have hlt:kb < l.length:=by have:=dlt hlt;omega
   rw [wn (x:=2*((kb:Nat):Int)) (n:=2*kb) (by omega) (by omega)]
   refine ⟨fun a1 b1 F m=>∃ A1 O1 T O2:List El,a1=((A1.length:Nat):Int)∧b1=((A1.length+2*kb:Nat):Int)∧m=T.length∧l=O1++O2∧Full (Srt c ky tg) (2*kb) A1 O1∧Blocks (Srt c ky tg) kb T O2∧AR H0 F s (A1++T) R,⟨_,[],[],cur,l,rfl,by simp,rfl,rfl,.nil,hB,sE⟩,?_⟩
   rintro a1 b1 F m ⟨A1,O1,T,O2,rfl,rfl,rfl,rfl,hF,hT,sF⟩ scr2
   have hA:=hF.len.length_eq
   have hO:=hT.perm.length_eq
   simp only [List.length_append] at hl hlt lcur
   have htO:=(List.pairwise_append.1 ht).2.1
   have hqO:∀ x∈O2,Q x:=fun x hx=>hq x (List.mem_append_right _ hx)
   rw [List.length_append,wn (x:=((A1.length:Nat):Int)+((kb:Nat):Int)) (n:=A1.length+kb) (by omega) (by omega)]
   have next:∀ {G:Hp}{cur2:List El},Blocks (Srt c ky tg) (2*kb) cur2 (O1++O2)→AR H0 G s cur2 R→∃ m5,m5 < 4000000 - kb∧∃ (kb':Nat) (cur:List El),w64 (((kb:Nat):Int)*2)=((kb':Nat):Int)∧20≤kb'∧kb'≤4000000∧m5=4000000 - kb'∧Blocks (Srt c ky tg) kb' cur (O1++O2)∧AR H0 G s cur R:=fun hb sG=>
    ⟨4000000 - 2*kb,by omega,2*kb,_,wn (by omega) (by omega),by omega,by omega,rfl,hb,sG⟩
   refine ⟨fun hle=>?_,fun hgt=>⟨fun hlt2=>?_,fun hge2=>?_⟩⟩
   ·have le':2*kb≤T.length:=by have:=of_decide_eq_true hle;omega
    clear hle
    obtain ⟨B1,P1,T1,S1,rfl,rfl,b1,p1,s1,hT1⟩:=hT.front List.Pairwise.nil (by omega)
    simp only [List.length_append] at le' hO hl hlt lcur
    obtain ⟨B2,P2,T2,S2,rfl,rfl,b2,p2,s2,hT2⟩:=hT1.front List.Pairwise.nil (by omega)
    simp only [List.length_append] at le' hO hl hlt lcur
    have lp1:=p1.length_eq
    have lp2:=p2.length_eq
    have t1:=List.pairwise_append.1 htO
    refine sym_ok hc hv (B1.length+B2.length) (X:=B1) (Y:=B2) (B:=T2) (Nat.le_refl _) sF (fun e=>by rw [e] at b1;simp at b1;omega) (fun e=>by rw [e] at b2;simp at b2;omega) s1 s2 (fun x hx y hy=>t1.2.2 x (p1.subset hx) y (List.mem_append_left _ (p2.subset hy))) (fun x hx=>hqO x (List.mem_append_left _ (p1.subset hx))) (fun y hy=>hqO y (List.mem_append_right _ (List.mem_append_left _ (p2.subset hy)))) rfl (by rw [b1]) (by rw [b1,b2];omega) (by omega) fun G M' hp hs sG=>⟨rfl,T2.length,by rw [List.length_append,List.length_append];omega,A1++M',O1++(P1++P2),T2,S2,?_,?_,rfl,by simp,.snoc hF ?_ (hp.trans (p1.append p2)) hs,hT2,by simpa using sG⟩
    ·rw [List.length_append,hp.length_eq,List.length_append,b1,b2];omega
    ·rw [wn (n:=A1.length+2*kb+2*kb) (by omega) (by omega),List.length_append,hp.length_eq,List.length_append,b1,b2];omega
    ·rw [hp.length_eq,List.length_append,b1,b2];omega
   ·have gt':T.length < 2*kb:=by have:=of_decide_eq_false hgt;omega
    have lt':kb < T.length:=by have:=dlt hlt2;omega
    clear hgt hlt2
    obtain ⟨B1,P1,T1,S1,rfl,rfl,b1,p1,s1,hT1⟩:=hT.cons lt'
    simp only [List.length_append] at gt' lt' hO hl hlt lcur
    rw [List.length_append]
    obtain ⟨p2,s2⟩:=hT1.one (by omega) (by omega)
    have lp1:=p1.length_eq
    have lp2:=p2.length_eq
    have t1:=List.pairwise_append.1 htO
    refine sym_ok hc hv (B1.length+T1.length) (X:=B1) (Y:=T1) (B:=[]) (Nat.le_refl _) (by simpa using sF) (fun e=>by rw [e] at b1;simp at b1;omega) (fun e=>by rw [e] at lt';simp at lt';omega) s1 s2 (fun x hx y hy=>t1.2.2 x (p1.subset hx) y (p2.subset hy)) (fun x hx=>hqO x (List.mem_append_left _ (p1.subset hx))) (fun y hy=>hqO y (List.mem_append_right _ (p2.subset hy))) rfl (by rw [b1]) (by omega) (by omega) fun G M' hp hs sG=>⟨rfl,next (hF.blocks (.last (by rw [hp.length_eq,List.length_append];omega) (hp.trans (p1.append p2)) hs)) (by simpa using sG)⟩
   ·have ge':T.length≤kb:=by have:=dge hge2;omega
    obtain ⟨p1,s1⟩:=hT.one ge' (by omega)
    exact next (hF.blocks (.last (by omega) p1 s1)) sF
  ·have hge:l.length≤kb:=by have:=dge hge;omega
   obtain ⟨p1,s1⟩:=hB.one (by omega) (by omega)
   exact k E cur p1 s1 sE
theorem sort_ok (hc:CmpLin c) (hv:CmpV cmp c ky Q H0) {l:List El}(h:AR H0 A s l R) (ht:l.Pairwise fun x y=>x.2 < y.2) (hq:∀ x∈l,Q x) (hl:l.length≤2000000)
  (k:∀ A' M',M'.Perm l→Srt c ky tg M'→AR H0 A' s M' R→K (.tuple #[]) A'):CallF Tryz.prog 121 #[.slice s.a s.n s.c,cmp] A K Z:=by
 refine V121_ok ?_
 unfold V121
 rw [show ((s.n:Nat):Int)=((l.length:Nat):Int) by rw [(AR.rd h).len]]
 exact stable_ok hc hv h ht hq hl fun A' M' hp hs sA=>⟨rfl,k A' M' hp hs sA⟩
end
end
end Go.Proofs.YtjdhjgfmloaglaaGreatDoor.C16O
end
section
namespace Go.Proofs.YtjdhjgfmloaglaaGreatDoor.C15
open Go Go.V Go.Proofs N15 P14 C14 P15
attribute [local irreducible] Cvt ExtF CallF hrun App MkS callV
section
variable {H:Hp}{K:Value→Hp→Prop}{Z:List PanicEntry→Hp→Prop}
theorem len8 {x:L8}(h:x.length≤1048576):((str x).size:Int)≤1048576:=by rw [str_size];omega
theorem great15_ok {s1 s2 s3:Sl}{x:SysD}{most:Nat}(h:RdSys H s1 s2 s3 x) (hb:OkSys x) (k:∀ y H',Fr no H H'→(y=false→Mild most x)→K (.bool y) H'):CallF Tryz.prog 7 #[.agg #[.slice s1.a s1.n s1.c,.slice s2.a s2.n s2.c,.slice s3.a s3.n s3.c],.int .i64 (most:Int)] H K Z:=by
 refine V7_ok ?_
 unfold V7
 intro bS A hA
 have sA:=(Sym.start H).newb (cs:=[.slice s1.a s1.n s1.c,.slice s2.a s2.n s2.c,.slice s3.a s3.n s3.c]) hA
 have l1:=h.o.len
 have l2:=h.f.len
 have l3:=h.c.len
 have b1:=hb.o.1
 have b2:=hb.f.1
 have b3:=hb.c.1
 refine ⟨fun C=>C=A∧x.objs.length≤most∧x.fns.length≤most∧x.cons.length≤most,?_,_,sA.ld (k:=0) rfl 0,fun _=>k _ _ sA.fr (fun h=>by cases h),fun g1=>⟨_,sA.ld (k:=0) rfl 1,fun _=>k _ _ sA.fr (fun h=>by cases h),fun g2=>⟨_,sA.ld (k:=0) rfl 2,fun _=>k _ _ sA.fr (fun h=>by cases h),fun g3=>⟨rfl,?_,?_,?_⟩⟩⟩⟩
 rotate_left
 ·have:=of_decide_eq_false g1;omega
 ·have:=of_decide_eq_false g2;omega
 ·have:=of_decide_eq_false g3;omega
 rintro B0 ⟨hB0,m1,m2,m3⟩ scr
 rw [← hB0] at sA
 refine ⟨fun n i C m=>∃ j:Nat,C=B0∧i=(j:Int)∧j≤x.objs.length∧m=x.objs.length - j∧0≤n∧n≤30000∧∀ o∈x.objs.take j,o.marks.length≤3000,⟨_,0,rfl,rfl,Nat.zero_le _,rfl,by omega,by omega,by simp⟩,?_⟩
 rintro n i C m ⟨j,rfl,rfl,hj,rfl,n0,n1,hall⟩ scr1
 have hC:=h.more sA.fr
 refine ⟨_,sA.ld (k:=0) rfl 0,fun hlt=>?_,fun hge=>?_⟩
 ·have hj':j < x.objs.length:=by have:=dlt hlt;omega
  obtain ⟨o,ho,hm⟩:=getN hj'
  obtain ⟨q1,q2,q3,q4⟩:=hb.o.2 o hm
  obtain ⟨t,ht,ix⟩:=atO hC.o ho
  have lt:=ht.len
  have z1:=len8 q1
  have z2:=len8 q2
  refine ⟨_,sA.ld (k:=0) rfl 0,ix fun ad e1 e2 e3=>⟨_,e1,_,sA.ld (k:=0) rfl 0,ix fun ad2 e1' e2' e3'=>⟨_,e2',_,sA.ld (k:=0) rfl 0,ix fun ad3 f1 f2 f3=>⟨t,f3,?_⟩⟩⟩⟩
  rw [wid (x:=n+((str o.name).size:Int)) (by omega) (by omega),wid (x:=10*(t.n:Int)) (by omega) (by omega),wid (x:=n+((str o.name).size:Int)+((str o.kinds).size:Int)) (by omega) (by omega),wid (by omega) (by omega)]
  generalize hb0:n+((str o.name).size:Int)+((str o.kinds).size:Int)+10*(t.n:Int)=base
  have hbase:10*(o.marks.length:Int)≤base∧base≤30000+12*1048576:=by omega
  refine ⟨fun n' i' C' m'=>∃ q:Nat,C'=C∧i'=(q:Int)∧q≤o.marks.length∧q≤100∧m'=o.marks.length - q∧base≤n'∧n'≤base+q*1048576,⟨_,0,rfl,rfl,Nat.zero_le _,by decide,rfl,by omega,by omega⟩,?_⟩
  rintro n' i' C' m' ⟨q,rfl,rfl,hq,hq2,rfl,p1,p2⟩ scr2
  have out:((decide (n' > 30000))=true→K (.bool true) C')∧((decide (n' > 30000))=false→∃ m2,m2 < x.objs.length - j∧∃ j':Nat,C'=C'∧w64 ((j:Int)+1)=(j':Int)∧j'≤x.objs.length∧m2=x.objs.length - j'∧0≤n'∧n'≤30000∧∀ o∈x.objs.take j',o.marks.length≤3000):=by
   refine ⟨fun _=>k _ _ sA.fr (fun h=>by cases h),fun hn=>⟨x.objs.length - (j+1),by omega,j+1,rfl,wi (by omega),hj',rfl,by omega,?_,?_⟩⟩
   ·have:=of_decide_eq_false hn;omega
   ·have:=of_decide_eq_false hn
    exact all_snoc ho hall (by omega)
  refine ⟨_,sA.ld (k:=0) rfl 0,ix fun ad4 g1 g2 g3=>⟨t,g3,fun hlt2=>⟨fun h100=>?_,fun _=>out⟩,fun _=>out⟩⟩
  have hq':q < o.marks.length:=by have:=dlt hlt2;omega
  have h100':q < 100:=by have:=of_decide_eq_true h100;omega
  obtain ⟨y,hy,hym⟩:=getN hq'
  have z3:=len8 (q4 y hym)
  refine ⟨_,sA.ld (k:=0) rfl 0,ix fun ad5 g1 g2 g3=>⟨t,g3,atM ht hy fun ad6 e5 e6=>⟨_,e6,o.marks.length - (q+1),by omega,q+1,rfl,wi (by omega),hq',by omega,rfl,?_,?_⟩⟩⟩
  ·rw [wid (by omega) (by omega)];omega
  ·rw [wid (by omega) (by omega)];omega
 have hjl:j=x.objs.length:=by have:=dge hge;omega
 have hallO:∀ o∈x.objs,o.marks.length≤3000:=by rw [hjl,List.take_length] at hall;exact hall
 refine ⟨fun n i C' m=>∃ j:Nat,C'=C∧i=(j:Int)∧j≤x.fns.length∧m=x.fns.length - j∧0≤n∧n≤30000,⟨_,0,rfl,rfl,Nat.zero_le _,rfl,n0,n1⟩,?_⟩
 rintro n i C' m ⟨j,rfl,rfl,hj,rfl,n0,n1⟩ scr2
 refine ⟨_,sA.ld (k:=0) rfl 1,fun hlt=>?_,fun hge=>?_⟩
 ·have hj':j < x.fns.length:=by have:=dlt hlt;omega
  obtain ⟨o,ho,hm⟩:=getN hj'
  obtain ⟨q1,q2,q3⟩:=hb.f.2 o hm
  have z1:=len8 q1
  have z2:=len8 q2
  have z3:=len8 q3
  refine ⟨_,sA.ld (k:=0) rfl 1,atF hC.f ho fun ad e1 _ _=>⟨_,e1,_,sA.ld (k:=0) rfl 1,atF hC.f ho fun ad2 _ e2 _=>⟨_,e2,_,sA.ld (k:=0) rfl 1,atF hC.f ho fun ad3 _ _ e3=>⟨_,e3,fun _=>k _ _ sA.fr (fun h=>by cases h),fun hn=>?_⟩⟩⟩⟩
  rw [wid (x:=n+((str o.name).size:Int)) (by omega) (by omega),wid (x:=n+((str o.name).size:Int)+((str o.kinds).size:Int)) (by omega) (by omega),wid (by omega) (by omega)] at hn ⊢
  have hn':=of_decide_eq_false hn
  exact ⟨x.fns.length - (j+1),by omega,j+1,rfl,wi (by omega),hj',rfl,by omega,by omega⟩
 -- the constraints
 clear hj hge hjl hall
 refine ⟨fun n i C m=>∃ j:Nat,i=(j:Int)∧j≤x.cons.length∧m=x.cons.length - j∧0≤n∧n≤60000∧Sym H no C [blk bS [.slice s1.a s1.n s1.c,.slice s2.a s2.n s2.c,.slice s3.a s3.n s3.c] 26]∧∀ o∈x.cons.take j,o.args.length≤6000,⟨_,0,rfl,Nat.zero_le _,rfl,n0,by omega,sA,by simp⟩,?_⟩
 rintro n i C m ⟨j,rfl,hj,rfl,n0,n1,sC,hall⟩ scr1
 have hC:=h.more sC.fr
 refine ⟨_,sC.ld (k:=0) rfl 2,fun hlt=>?_,fun hge=>k _ _ sC.fr fun _=>?_⟩
 ·have hj':j < x.cons.length:=by have:=dlt hlt;omega
  obtain ⟨o,ho,hm⟩:=getN hj'
  obtain ⟨q1,q2,q3,q4,q5⟩:=hb.c.2 o hm
  obtain ⟨t,ht,ix⟩:=atC hC.c ho
  have lt:=ht.len
  have z1:=len8 q1
  have z2:=len8 q2
  have z3:=len8 q3
  refine ⟨_,sC.ld (k:=0) rfl 2,ix fun ad e1 e2 e3 e4 e5 e6=>⟨_,_,_,_,_,t,⟨e1,e2,e3,e4,e5,e6,trivial⟩,fun bC D hD=>?_⟩⟩
  have sD:=(Sym.start C).newb (cs:=[.int .i64 0,.string ⟨#[]⟩,.string ⟨#[]⟩,.int .i64 0,.string ⟨#[]⟩,.slice none 0 0]) hD
  refine sD.stbs (k:=0) (i:=0) (vs:=[.int .i64 o.op,.string (str o.a),.string (str o.b),.int .i64 o.k,.string (str o.tag),.slice t.a t.n t.c]) rfl (by simp) (by intro v hv;exact FlHC.one (o.op,o.a,o.b,o.k,o.tag,t) v hv) fun E sE=>?_
  replace sE:Sym C no E [blk bC [.int .i64 o.op,.string (str o.a),.string (str o.b),.int .i64 o.k,.string (str o.tag),.slice t.a t.n t.c] 36]:=sE
  have sE2:=sC.more sE.fr
  refine ⟨_,sE.ld (k:=0) rfl 1,_,sE.ld (k:=0) rfl 2,_,sE.ld (k:=0) rfl 4,t,sE.ld (k:=0) rfl 5,?_⟩
  rw [wid (x:=n+((str o.a).size:Int)) (by omega) (by omega),wid (x:=10*(t.n:Int)) (by omega) (by omega),wid (x:=n+((str o.a).size:Int)+((str o.b).size:Int)) (by omega) (by omega),wid (x:=n+((str o.a).size:Int)+((str o.b).size:Int)+((str o.tag).size:Int)) (by omega) (by omega),wid (by omega) (by omega)]
  generalize hb0:n+((str o.a).size:Int)+((str o.b).size:Int)+((str o.tag).size:Int)+10*(t.n:Int)=base
  have hbase:10*(o.args.length:Int)≤base∧base≤60000+13*1048576:=by omega
  refine ⟨fun n' i' C' m'=>∃ q:Nat,C'=E∧i'=(q:Int)∧q≤o.args.length∧q≤100∧m'=o.args.length - q∧base≤n'∧n'≤base+q*1048576,⟨_,0,rfl,rfl,Nat.zero_le _,by decide,rfl,by omega,by omega⟩,?_⟩
  rintro n' i' C' m' ⟨q,rfl,rfl,hq,hq2,rfl,p1,p2⟩ scr2
  have out:((decide (n' > 60000))=true→K (.bool true) C')∧((decide (n' > 60000))=false→∃ m2,m2 < x.cons.length - j∧∃ j':Nat,w64 ((j:Int)+1)=(j':Int)∧j'≤x.cons.length∧m2=x.cons.length - j'∧0≤n'∧n'≤60000∧Sym H no C' [blk bS [.slice s1.a s1.n s1.c,.slice s2.a s2.n s2.c,.slice s3.a s3.n s3.c] 26]∧∀ o∈x.cons.take j',o.args.length≤6000):=by
   refine ⟨fun _=>k _ _ sE2.fr (fun h=>by cases h),fun hn=>⟨x.cons.length - (j+1),by omega,j+1,wi (by omega),hj',rfl,by omega,?_,sE2,?_⟩⟩
   ·have:=of_decide_eq_false hn;omega
   ·have:=of_decide_eq_false hn
    exact all_snoc ho hall (by omega)
  refine ⟨t,sE.ld (k:=0) rfl 5,fun hlt2=>⟨fun h100=>?_,fun _=>out⟩,fun _=>out⟩
  have hq':q < o.args.length:=by have:=dlt hlt2;omega
  have h100':q < 100:=by have:=of_decide_eq_true h100;omega
  obtain ⟨y,hy,hym⟩:=getN hq'
  have z4:=len8 (q5 y hym)
  refine ⟨t,sE.ld (k:=0) rfl 5,atL (ht.more sE.fr) hy fun ad6 e6=>⟨_,e6,o.args.length - (q+1),by omega,q+1,rfl,wi (by omega),hq',by omega,rfl,?_,?_⟩⟩
  ·rw [wid (by omega) (by omega)];omega
  ·rw [wid (by omega) (by omega)];omega
 ·have hjl:j=x.cons.length:=by have:=dge hge;omega
  rw [hjl,List.take_length] at hall
  exact ⟨⟨m1,hallO⟩,m2,⟨m3,hall⟩⟩
theorem rdX_lit {η χ : Type}{fl : η→List Value}{sz:Nat}{In:Hp→η→χ→Prop}{A:Hp}{s:Sl}{hs:List η}{xs:List χ}(h:Rd fl sz A s hs) (hl:hs.length=xs.length) (hin:∀ (i:Nat) h x,hs[i]? = some h→xs[i]? = some x→In A h x):RdX fl sz In A s xs:=⟨hs,h,hl,hin⟩
end
end Go.Proofs.YtjdhjgfmloaglaaGreatDoor.C15
end
section
namespace Go.Proofs.YtjdhjgfmloaglaaGreatDoor.C16O
open Go Go.V Go.Proofs N16 P15
attribute [local irreducible] Cvt ExtF CallF hrun App MkS callV
abbrev InE (H:Hp) (h:HO) (x:ObjD):Prop:=InO H h x
abbrev QE (H:Hp) (xs:List ObjD) (x:El):Prop:=InE H x.1.1 x.1.2∧x.1.2∈xs
abbrev dat (x:El):ObjD:=x.1.2
theorem tyE:TyS Tryz.prog 22 52 3 56 (.agg #[.string ⟨#[]⟩,.string ⟨#[]⟩,.slice none 0 0]):=⟨by kernel_rfl,by kernel_rfl,rfl,by decide⟩
def SameV (same:Value) (Q:El→Prop) (H0:Hp):Prop:=
 ∀ {x y:El}{A:Hp}{K':Value→Hp→Prop}{Z':List PanicEntry→Hp→Prop},Q x→Q y→Fr no H0 A→(∀ B,Fr no A B→K' (.bool (decide (dat x=dat y))) B)→callV Tryz.prog same [vA x,vA y] A K' Z'
theorem okO1:fnOk Tryz.prog 123=true:=by kernel_rfl
section
variable {H0:Hp}{R:List It}{s:Sl}{K:Value→Hp→Prop}{Z:List PanicEntry→Hp→Prop}{A:Hp}{cmp same:Value}
theorem clone_ok {l:Sl}{L:List El}(h:Sym H0 no A R) (hr:Rd fle 3 A l L) (hl:L.length≤2000000) (k:∀ s' B,AR H0 B s' L R→K (.slice s'.a s'.n s'.c) B):CallF Tryz.prog 36 #[.slice l.a l.n l.c] A K Z:=by
 refine V36_ok ?_
 unfold V36
 refine ⟨fun h0=>?_,fun h0 b B hB=>?_⟩
 ·have hL:L = []:=by
   cases L with
   | nil=>rfl
   | cons x r=>
    obtain ⟨v,hv⟩:∃ v,(fle x)[0]? = some v:=⟨_,List.getElem?_eq_getElem (by rw [FlE.len];decide)⟩
    obtain ⟨ad,ha,_⟩:=hr.el 0 x 0 v rfl hv
    rw [ha] at h0
    cases h0
  subst hL
  exact k ⟨none,0,0⟩ A (h.nilrow _ _ _)
 ·have sB:=h.lit (fl:=fle) (E:=52) (sz:=3) (l:=[]) FlE (by decide) hB (show 0=_ from rfl)
  have hrB:=hr.more hB.fr
  refine sB.appR (k:=0) tyE FlE (by decide) rfl hrB (by show (0+L.length)*_≤_;omega) fun s' C _ sC=>?_
  exact k s' C sC
theorem index_ok {L:List El}{l:Sl}{f:Value}{p:El→Bool}(hr:Rd fle 3 A l L) (hl:L.length≤2000000)
  (hf:∀ {x:El}{B:Hp}{K':Value→Hp→Prop},x∈L→Fr no A B→(∀ C,Fr no B C→K' (.bool (p x)) C)→callV Tryz.prog f [vA x] B K' Z) (k:∀ y B,Fr no A B→decide (y≥0)=L.any p→K (.int .i64 y) B):CallF Tryz.prog 83 #[.slice l.a l.n l.c,f] A K Z:=by
 refine V83_ok ?_
 unfold V83
 have hn:=hr.len
 refine ⟨fun i C m=>∃ j:Nat,Fr no A C∧i=(j:Int)∧j≤L.length∧m=L.length - j∧(L.take j).any p=false,⟨_,0,Fr.refl _ _,rfl,Nat.zero_le _,rfl,rfl⟩,?_⟩
 rintro i C m ⟨j,fC,rfl,hj,rfl,hno⟩ scr
 refine ⟨fun hlt=>?_,fun hge=>?_⟩
 ·have hj':j < L.length:=by have:=dlt hlt;omega
  obtain ⟨x,hx,hxm⟩:=getN hj'
  refine atE (hr.more fC) hx fun ad=>hf hxm fC fun D fD=>⟨_,rfl,fun hp=>k _ D (fC.trans fD) ?_,fun hp=>⟨L.length - (j+1),by omega,j+1,fC.trans fD,wi (by omega),hj',rfl,?_⟩⟩
  ·rw [decide_eq_true (by omega)]
   exact (List.any_eq_true.2 ⟨x,hxm,hp⟩).symm
  ·rw [List.take_add_one,hx,List.any_append,hno]
   simp [hp]
 ·rw [List.take_of_length_le (by have:=dge hge;omega)] at hno
  exact k _ C fC (by rw [hno];rfl)
theorem contains_ok {L:List El}{l:Sl}{f:Value}{p:El→Bool}(hr:Rd fle 3 A l L) (hl:L.length≤2000000)
  (hf:∀ {x:El}{B:Hp}{K':Value→Hp→Prop},x∈L→Fr no A B→(∀ C,Fr no B C→K' (.bool (p x)) C)→callV Tryz.prog f [vA x] B K' Z) (k:∀ B,Fr no A B→K (.bool (L.any p)) B):CallF Tryz.prog 122 #[.slice l.a l.n l.c,f] A K Z:=by
 refine V122_ok ?_
 unfold V122
 refine index_ok hr hl hf fun y B fB e=>⟨_,rfl,?_⟩
 rw [e]
 exact k B fB
theorem clo_ok {Q:El→Prop}{bS bX:Nat}{T:TypeId}{x y:El}{K:Value→Hp→Prop}(hw:SameV same Q H0) (hA:Fr no H0 A) (h1:hcell A ⟨bS,0,none⟩=some same) (h2:∀ i,hcell A ⟨bX,i,none⟩=(fle x)[i]?) (qx:Q x) (qy:Q y) (k:∀ B,Fr no A B→K (.bool (decide (dat x=dat y))) B) :
  callV Tryz.prog (.func (.func 123) #[] #[.pointer (some ⟨bS,0,none⟩),.pointer (some ⟨bX,0,none⟩)]) [vA y] A K Z:=by
 unfold callV
 simp only [okO1,if_true]
 show CallF Tryz.prog 123 #[vA y,.pointer (some ⟨bS,0,none⟩),.pointer (some ⟨bX,0,none⟩)] A K Z
 refine V123_ok ?_
 unfold V123
 intro bY B hB
 have sB:=(Sym.start A).newb (cs:=fle y) hB
 have e1:=C15.lf sB.fr h1
 have e2:∀ i,hcell A ⟨bX,i,none⟩=(fle x)[i]?→∀ v,(fle x)[i]? = some v→hcell B ⟨bX,i,none⟩=some v:=fun i h v hv=>C15.lf sB.fr (h.trans hv)
 refine ⟨same,e1,str x.1.1.1,str x.1.1.2.1,x.1.1.2.2,⟨e2 0 (h2 0) _ rfl,e2 1 (h2 1) _ rfl,e2 2 (h2 2) _ rfl,trivial⟩,str y.1.1.1,str y.1.1.2.1,y.1.1.2.2,⟨sB.ld (k:=0) rfl 0,sB.ld (k:=0) rfl 1,sB.ld (k:=0) rfl 2,trivial⟩,hw qx qy (hA.trans sB.fr) fun C fC=>⟨_,rfl,k C (sB.fr.trans fC)⟩⟩
theorem tailS {l:Sl}{L:List El}{lo:Int}{n:Nat}{Kx:Sl→Prop}(h:Rd fle 3 A l L) (e:lo=((n:Nat):Int)) (hn:n≤L.length) (k:∀ c,Rd fle 3 A c (L.drop n)→Kx c):l.n≤l.c∧SlX l.a l.c lo (l.n:Int) 3 Kx:=by
 have hl:=h.len
 have:=h.part FlE (lo:=n) (hi:=l.n) (by omega) (Nat.le_refl _)
 subst e
 refine ⟨h.le,⟨by omega,by omega,by have:=h.le;omega⟩,k _ ?_⟩
 have e2:(L.drop n).take (l.n - n)=L.drop n:=List.take_of_length_le (by rw [List.length_drop];omega)
 rw [e2] at this
 exact this
theorem ord_ok {κ : Type}{c : κ→κ→Int}{kx:ObjD→κ}(hc:CmpLin c) {H A0:Hp}{l:Sl}{xs:List ObjD}(f0:Fr no H A0) (h:RdX flHO 3 InE H l xs) (hl:xs.length≤2000000) (hv:CmpV cmp c (fun x=>kx (dat x)) (QE H xs) A0) (hw:SameV same (QE H xs) A0) (hsc:Value.cells same=#[same])
  (k:∀ out L A',AR A0 A' out L []→IsCan c kx xs (L.map dat)→(∀ x∈L,QE H xs x)→K (.slice out.a out.n out.c) A'):CallF Tryz.prog 65 #[.slice l.a l.n l.c,cmp,same] A0 K Z:=by
 refine V65_ok ?_
 unfold V65
 intro bS A hA
 rw [hsc] at hA
 obtain ⟨T,hA⟩:∃ T:TypeId,Newb A0 (.cells #[same] T) bS A:=⟨_,hA⟩
 have sA:=(Sym.start A0).newb (cs:=[same]) hA
 obtain ⟨hs,hr,hlen,hin⟩:=h
 have rd0:Rd fle 3 H l (tagged hs xs):=Rd.map (f:=fun x:El=>x.1.1) (by rw [tagged_fst hlen];exact hr)
 have q0:∀ x∈tagged hs xs,QE H xs x:=fun x hx=>by
  obtain ⟨e1,e2⟩:=(tagged_at hlen).1 hx
  exact ⟨hin _ _ _ e1 e2,List.mem_of_getElem? e2⟩
 have l0:=tagged_len hlen
 refine clone_ok sA ((rd0.more f0).more sA.fr) (by omega) fun y B sB=>⟨y,rfl,sort_ok hc hv sB (tagged_rise hlen) q0 (by omega) fun C M hp hsr sC=>⟨rfl,?_⟩⟩
 have qM:∀ x∈M,QE H xs x:=fun x hx=>q0 x (hp.subset hx)
 have lM:M.length=xs.length:=by rw [hp.length_eq,l0]
 have hpT:(M.map fun x=>(dat x,x.2)).Perm xs.zipIdx:=by
  rw [← tagged_idx hlen]
  exact hp.map _
 have hsT:Srt c (fun (q:ObjD × Nat)=>kx q.1) (·.2) (M.map fun x=>(dat x,x.2)):=List.pairwise_map.2 hsr
 have yn:=(AR.rd sC).len
 refine ⟨fun out first t D m=>∃ (j f:Nat) (L:List El),first=(f:Int)∧t=(j:Int)∧j≤M.length∧m=M.length - j∧L.length≤j∧(∀ x∈L,QE H xs x)∧Dd c kx xs ((M.take j).map dat) (L.map dat) f∧AR A0 D out L [arr fle 52 3 y M,blk bS [same] T],⟨_,0,0,[],rfl,rfl,Nat.zero_le _,rfl,Nat.le_refl _,by simp,Dd.start xs,sC.nilrow _ _ _⟩,?_⟩
 rintro out first t D m ⟨j,f,L,rfl,rfl,hj,rfl,hLj,qL,hD,sD⟩ scr
 have on:=(AR.rd sD).len
 refine ⟨fun hlt=>?_,fun hge=>?_⟩
 ·have hj':j < M.length:=by have:=dlt hlt;omega
  obtain ⟨x,hx,hxm⟩:=getN hj'
  have hn:=stable_next hc hpT hsT (j:=j) (x:=dat x) (t:=x.2) (by rw [List.getElem?_map,hx];rfl)
  rw [← List.map_take,List.map_map] at hn
  have hstep:=Dd.step hc hD (x:=dat x) hn.1 hn.2
  have etk:(M.take (j+1)).map dat=(M.take j).map dat ++ [dat x]:=by rw [List.take_add_one,hx,List.map_append];rfl
  rw [← etk] at hstep
  have hfle:=hD.le
  rw [List.length_map] at hfle
  refine atE (Sym.rd (k:=1) sD FlE (by decide) rfl) hx fun ad=>fun bX E hE=>?_
  have sE:=Sym.newb sD (cs:=[.string ⟨#[]⟩,.string ⟨#[]⟩,.slice none 0 0]) hE
  refine sE.stbs (k:=0) (i:=0) (vs:=fle x) rfl (by rw [FlE.len];simp) (FlE.2 x) fun F sF=>?_
  replace sF:Sym A0 no F [blk bX (fle x) 52,arr fle 52 3 out L,arr fle 52 3 y M,blk bS [same] T]:=sF
  have fin:∀ {G:Hp}{f2:Nat}{K':Value→Hp→Prop},Sym A0 no G [blk bX (fle x) 52,arr fle 52 3 out L,arr fle 52 3 y M,blk bS [same] T]→f2=firstD c kx (L.map dat) f (dat x)→f2≤L.length →
    ∀ cut,Rd fle 3 G cut (L.drop f2)→(∀ I b,Fr no G I→b=decide (dat x∈(L.map dat).drop f2)→K' (.bool b) I)→CallF Tryz.prog 122 #[.slice cut.a cut.n cut.c,.func (.func 123) #[] #[.pointer (some ⟨bS,0,none⟩),.pointer (some ⟨bX,0,none⟩)]] G K' Z:=fun {G f2 K'} sG ef hf2 cut hcut kk=>by
   refine contains_ok (p:=fun z=>decide (dat x=dat z)) hcut (by rw [List.length_drop];omega) (fun {z B K'} hz fB kk=>clo_ok (x:=x) (y:=z) (T:=0) hw (sG.fr.trans fB) ((sG.more fB).ld (k:=3) rfl 0) (fun i=>(sG.more fB).ld (k:=0) rfl i) (qM x hxm) (qL z (List.mem_of_mem_drop hz)) kk) fun B fB=>kk B _ fB ?_
   rw [Bool.eq_iff_iff,List.any_eq_true,decide_eq_true_eq,← List.map_drop,List.mem_map]
   constructor
   ·rintro ⟨z,hz,e⟩
    exact ⟨z,hz,(of_decide_eq_true e).symm⟩
   ·rintro ⟨z,hz,e⟩
    exact ⟨z,hz,decide_eq_true e.symm⟩
  refine ⟨fun h1=>?_,fun h1=>?_⟩
  ·have hL0:0 < L.length:=by have:=of_decide_eq_true h1;omega
   obtain ⟨z,hz,hzm⟩:=getN (show L.length - 1 < L.length by omega)
   have hlast:(L.map dat).getLast? = some (dat z):=by rw [List.getLast?_eq_getElem?,List.length_map,List.getElem?_map,hz];rfl
   rw [wn (x:=((out.n:Nat):Int) - 1) (n:=L.length - 1) (by omega) (by omega)]
   refine atE (Sym.rd (k:=1) sF FlE (by decide) rfl) hz fun ad1=>⟨str x.1.1.1,str x.1.1.2.1,x.1.1.2.2,⟨sF.ld (k:=0) rfl 0,sF.ld (k:=0) rfl 1,sF.ld (k:=0) rfl 2,trivial⟩,hv (qL z hzm) (qM x hxm) sF.fr fun G fG=>⟨_,rfl,fun hne=>?_,fun heq=>?_⟩⟩
   ·have ef:L.length=firstD c kx (L.map dat) f (dat x):=by
     unfold firstD
     rw [hlast,List.length_map]
     exact (if_pos (bne_iff_ne.1 hne)).symm
    have sG:=sF.more fG
    refine tailS (Sym.rd (k:=1) sG FlE (by decide) rfl) (by rw [on]) (n:=L.length) (by omega) fun cut hcut=>fin sG ef (by omega) cut hcut fun I b fI eb=>⟨_,rfl,fun hb=>?_,fun hb=>?_⟩
    ·have sI:=sG.more fI
     have hnot:¬ dat x∈(L.map dat).drop (L.length):=of_decide_eq_false (by rw [← eb];simpa using hb)
     rw [← ef,if_neg hnot] at hstep
     refine ⟨str x.1.1.1,str x.1.1.2.1,x.1.1.2.2,⟨sI.ld (k:=0) rfl 0,sI.ld (k:=0) rfl 1,sI.ld (k:=0) rfl 2,trivial⟩,fun b2 N hN=>Sym.app1 (k:=1) (x:=x) tyE sI FlE (by decide) hN rfl (by omega) fun ap O _ sO=>⟨M.length - (j+1),by omega,j+1,L.length,L ++ [x],(by rw [on]),wi (by omega),hj',rfl,by rw [List.length_append,List.length_singleton];omega,?_,by rw [List.map_append];exact hstep,Sym.drop sO⟩⟩
     intro z hz
     rcases List.mem_append.1 hz with hz | hz
     ·exact qL z hz
     ·rw [List.mem_singleton.1 hz];exact qM x hxm
    ·have hin2:dat x∈(L.map dat).drop (L.length):=of_decide_eq_true (by rw [← eb];simpa using hb)
     rw [← ef,if_pos hin2] at hstep
     exact ⟨M.length - (j+1),by omega,j+1,L.length,L,(by rw [on]),wi (by omega),hj',rfl,by omega,qL,hstep,Sym.drop (sG.more fI)⟩
   ·have ef:f=firstD c kx (L.map dat) f (dat x):=by
     unfold firstD
     rw [hlast]
     exact (if_neg (fun h=>h (bne_eq_false_iff_eq.1 heq))).symm
    have sG:=sF.more fG
    refine tailS (Sym.rd (k:=1) sG FlE (by decide) rfl) rfl (n:=f) (by omega) fun cut hcut=>fin sG ef (by omega) cut hcut fun I b fI eb=>⟨_,rfl,fun hb=>?_,fun hb=>?_⟩
    ·have sI:=sG.more fI
     have hnot:¬ dat x∈(L.map dat).drop (f):=of_decide_eq_false (by rw [← eb];simpa using hb)
     rw [← ef,if_neg hnot] at hstep
     refine ⟨str x.1.1.1,str x.1.1.2.1,x.1.1.2.2,⟨sI.ld (k:=0) rfl 0,sI.ld (k:=0) rfl 1,sI.ld (k:=0) rfl 2,trivial⟩,fun b2 N hN=>Sym.app1 (k:=1) (x:=x) tyE sI FlE (by decide) hN rfl (by omega) fun ap O _ sO=>⟨M.length - (j+1),by omega,j+1,f,L ++ [x],rfl,wi (by omega),hj',rfl,by rw [List.length_append,List.length_singleton];omega,?_,by rw [List.map_append];exact hstep,Sym.drop sO⟩⟩
     intro z hz
     rcases List.mem_append.1 hz with hz | hz
     ·exact qL z hz
     ·rw [List.mem_singleton.1 hz];exact qM x hxm
    ·have hin2:dat x∈(L.map dat).drop (f):=of_decide_eq_true (by rw [← eb];simpa using hb)
     rw [← ef,if_pos hin2] at hstep
     exact ⟨M.length - (j+1),by omega,j+1,f,L,rfl,wi (by omega),hj',rfl,by omega,qL,hstep,Sym.drop (sG.more fI)⟩
  ·have hL0:L = []:=List.eq_nil_of_length_eq_zero (by have:=of_decide_eq_false h1;omega)
   have ef:f=firstD c kx (L.map dat) f (dat x):=by rw [hL0];rfl
   have fG:Fr no F F:=Fr.refl _ _
   have sG:=sF.more fG
   refine tailS (Sym.rd (k:=1) sG FlE (by decide) rfl) rfl (n:=f) (by omega) fun cut hcut=>fin sG ef (by omega) cut hcut fun I b fI eb=>⟨_,rfl,fun hb=>?_,fun hb=>?_⟩
   ·have sI:=sG.more fI
    have hnot:¬ dat x∈(L.map dat).drop (f):=of_decide_eq_false (by rw [← eb];simpa using hb)
    rw [← ef,if_neg hnot] at hstep
    refine ⟨str x.1.1.1,str x.1.1.2.1,x.1.1.2.2,⟨sI.ld (k:=0) rfl 0,sI.ld (k:=0) rfl 1,sI.ld (k:=0) rfl 2,trivial⟩,fun b2 N hN=>Sym.app1 (k:=1) (x:=x) tyE sI FlE (by decide) hN rfl (by omega) fun ap O _ sO=>⟨M.length - (j+1),by omega,j+1,f,L ++ [x],rfl,wi (by omega),hj',rfl,by rw [List.length_append,List.length_singleton];omega,?_,by rw [List.map_append];exact hstep,Sym.drop sO⟩⟩
    intro z hz
    rcases List.mem_append.1 hz with hz | hz
    ·exact qL z hz
    ·rw [List.mem_singleton.1 hz];exact qM x hxm
   ·have hin2:dat x∈(L.map dat).drop (f):=of_decide_eq_true (by rw [← eb];simpa using hb)
    rw [← ef,if_pos hin2] at hstep
    exact ⟨M.length - (j+1),by omega,j+1,f,L,rfl,wi (by omega),hj',rfl,by omega,qL,hstep,Sym.drop (sG.more fI)⟩
 ·have hje:j=M.length:=by have:=dge hge;omega
  rw [hje,List.take_length] at hD
  refine k out L D (Sym.sub sD (by simp)) (hD.done fun z=>?_) qL
  have:=hp.map dat
  rw [show (tagged hs xs).map dat=xs from tagged_snd hlen] at this
  exact this.mem_iff
end
end Go.Proofs.YtjdhjgfmloaglaaGreatDoor.C16O
end
