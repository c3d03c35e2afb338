import Derived.Test.YtjdhjgfmloaglaaGreatDoorZ12
import Derived.Test.YtjdhjgfmloaglaaGreatDoorProg
set_option linter.unusedVariables false
set_option linter.unusedSimpArgs false
section
namespace Go.V
attribute [local irreducible] Lkp MUp
section
variable {τ : Type}{fl : τ→List Value}{sz:Nat}
variable {H0 H H':Hp}{S:Nat→Prop}{Pre:List It}{P:Program}{t kt et T E:TypeId}{r:Nat}{kvl:List ((L8 × Sl) × List τ)}{q:L8}{y:Sl}
end
end Go.V
end
section
namespace Go.V
theorem zero_flat {τ : Type}{fl : τ→List Value}{sz:Nat}(hf:Fl fl sz) (hsz:0 < sz) {z:Array Value}{z0 : τ}(hz:z.toList=fl z0):∀ n:Nat,(Builtin.zeroCells z n).toList=flat fl (List.replicate n z0):=by
 have hs:z.size=sz:=by
  rw [← Array.length_toList,hz]
  exact hf.len z0
 intro n
 apply List.ext_getElem?
 intro i
 unfold Builtin.zeroCells
 rw [Array.toList_map,List.getElem?_map,hs]
 by_cases hi:i < n*sz
 ·have hq:i / sz < n:=Nat.div_lt_of_lt_mul (by rw [Nat.mul_comm];exact hi)
  have hr:=Nat.mod_lt i hsz
  have e:i / sz*sz+i % sz=i:=by rw [Nat.mul_comm];exact Nat.div_add_mod i sz
  have hx:(List.replicate n z0)[i / sz]? = some z0:=by rw [List.getElem?_replicate,if_pos hq]
  have hg:=flat_get hf hx hr
  rw [e] at hg
  rw [hg,← hz]
  have h1:(Array.range (n*sz)).toList[i]? = some i:=by simp [hi]
  rw [h1]
  have hzr:i % sz < z.size:=by omega
  simp [hzr]
 ·have h1:(Array.range (n*sz)).toList[i]? = none:=by simp;omega
  have h2:(flat fl (List.replicate n z0))[i]? = none:=by
   rw [List.getElem?_eq_none_iff,flat_len hf,List.length_replicate]
   omega
  rw [h1,h2]
  rfl
section
variable {τ : Type}{fl : τ→List Value}{sz:Nat}{H0 H:Hp}{S:Nat→Prop}{L:List It}{P:Program}{T E ty:TypeId}{by':Nat}{z:Value}{s:Sl}{l:List τ}{z0 : τ}
theorem Sym.clr {k i:Nat}{cs:Array Bool}{K:Value→Hp→Prop}(ht:TyS P T E sz by' z) (hzc:z.cells.toList=fl z0) (h:Sym H0 S H L) (hf:Fl fl sz) (hsz:0 < sz) (hk:L[k]? = some (arr fl E sz s l)) (hi:i≤l.length)
  (kk:∀ H',Sym H0 S H' (L.set k (arr fl E sz s (l.take i++List.replicate (l.length - i) z0)))→K (.tuple #[]) H'):s.n≤s.c∧SlX s.a s.c (i:Int) (s.n:Int) sz fun cut=>Blt P .clear #[T] ty cs H [.slice cut.a cut.n cut.c] K:=by
 have hok:RowN fl E sz H s l:=h.get hk
 have hn:=hok.len hf hsz
 have hle:=hok.row.le
 obtain ⟨inf,i1,i2,i3,i4⟩:=info_of ht.i
 refine ⟨hle,⟨by omega,by omega,by omega⟩,?_⟩
 rw [Int.toNat_natCast,Int.toNat_natCast]
 have red:∀ {v:Value},hrun P (Builtin.clear_ #[T] ty #[v]) H K (fun _ _=>False)→Blt P .clear #[T] ty cs H [v] K:=by
  intro v hv
  unfold Blt
  show hrun P (Builtin.clear_ #[T] ty #[v] >>= fun v=>pure (Next.value v)) H _ _
  exact hrun_bind _ (hrun.mono _ (K:=K) (Z:=fun _ _=>False) hv (fun v H' h=>by simpa only [pure,hrun] using h) fun _ _ h=>h)
 refine red ?_
 have hcn:(cut s.a s.c i s.n sz).n=s.n - i:=rfl
 by_cases h0:s.n - i=0
 ·have hil:i=l.length:=by omega
  have e:l.take i++List.replicate (l.length - i) z0=l:=by
   rw [hil,List.take_length,Nat.sub_self,List.replicate_zero,List.append_nil]
  rw [e] at kk
  have e2:L.set k (arr fl E sz s l)=L:=by
   apply List.ext_getElem?
   intro j
   rw [List.getElem?_set]
   split
   ·rename_i hj
    subst hj
    rw [hk]
    simp [(List.getElem?_eq_some_iff.1 hk).1]
   ·rfl
  rw [e2] at kk
  unfold Builtin.clear_
  simp only [List.getElem?_toArray,List.getElem?_cons_zero]
  refine hrun_pv (pv_underlying ht.u) ?_
  rw [hcn,h0]
  cases (cut s.a s.c i s.n sz).a <;> exact kk H h
 ·obtain ⟨g,hg⟩:=hok.row.some (by omega)
  rcases hok.row.2 with ⟨h1,_⟩ | ⟨g',cs',fr,h1,h2,h3,h4,h5,h6⟩
  ·rw [hg] at h1;cases h1
  have hgg:g'=g:=by
   rw [hg] at h1
   cases h1
   rfl
  subst hgg
  have hfr0:fr=(0,0):=by
   obtain ⟨c',T',hb'⟩:=hok.nf g' 0 h1
   rw [h2] at hb'
   simp only [Option.some.injEq,Obj.cells.injEq] at hb'
   exact hb'.2.2
  subst hfr0
  have hca:(cut s.a s.c i s.n sz).a=some ⟨g',i*sz,none⟩:=by
   unfold cut
   show (if s.c=i then s.a else s.a.map (·.add (i*sz)))=_
   rw [if_neg (by omega),hg]
   show some (Addr.add ⟨g',0,none⟩ (i*sz))=_
   rw [add_mk,Nat.zero_add]
  unfold Builtin.clear_
  simp only [List.getElem?_toArray,List.getElem?_cons_zero]
  refine hrun_pv (pv_underlying ht.u) ?_
  rw [hca,hcn]
  obtain ⟨m,hm⟩:∃ m,s.n - i=m+1:=⟨s.n - i - 1,by omega⟩
  rw [hm]
  simp only
  refine hrun_pv (pv_zero i1 i2) ?_
  rw [zero_flat hf hsz hzc]
  have hvl:(flat fl (List.replicate (m+1) z0)).length=(m+1)*sz:=by rw [flat_len hf,List.length_replicate]
  have hms:i*sz+(m+1)*sz=s.n*sz:=by rw [← Nat.add_mul];congr 1;omega
  have hnc:s.n*sz≤s.c*sz:=Nat.mul_le_mul_right _ hle
  refine hrun_bind _ (hrun_storeCells _ 0 ?_)
  refine stL_cells (flat fl (List.replicate (m+1) z0)) 0 h2 (by rw [hvl,h4];omega) (flat_one hf) (.inl (Nat.zero_le _)) fun H2 hg2 hf2 _=>?_
  simp only [pure,hrun]
  have hlm:l.length - i=m+1:=by omega
  rw [hlm] at kk
  refine kk H2 (h.setk hk (hf2.mono fun j _ hj=>⟨0,by rw [hj];exact hg⟩) ⟨⟨?_,.inr ⟨g',_,(0,0),h1,hg2,h3,by rw [setsL_length];exact h4,?_,Nat.zero_le _⟩⟩,fun g2 o e=>?_⟩ fun j hj=>.inl hj)
  ·rw [flat_len hf,List.length_append,List.length_take,List.length_replicate,Nat.min_eq_left hi,hn]
   congr 1
   omega
  ·rw [Nat.add_zero,flat_app]
   have e1:=setsL_take2 (flat fl (List.replicate (m+1) z0)) cs' (i*sz) (by rw [hvl,h4];omega)
   rw [hvl,hms] at e1
   rw [e1]
   congr 1
   rw [← flat_take hf,← h5,List.take_take,Nat.min_eq_left (by omega)]
  ·rw [h1] at e
   simp only [Option.some.injEq,Addr.mk.injEq] at e
   rw [← e.1]
   exact ⟨_,_,hg2⟩
end
end Go.V
end
section
namespace Go.V
attribute [local irreducible] Lkp MUp
section
variable {τ : Type}{fl : τ→List Value}{sz:Nat}
variable {H0 H H':Hp}{S:Nat→Prop}{Pre:List It}{P:Program}{t kt et T E:TypeId}{r:Nat}{kvl:List ((L8 × Sl) × List τ)}{q:L8}{y:Sl}
end
end Go.V
end
section
namespace Go.V
theorem flatMap_perm {α β : Type}(f : α→List β):∀ {l:List α}{j:Nat}{a : α},l[j]? = some a→(l.flatMap f).Perm (f a++(l.eraseIdx j).flatMap f)
 | [],j,a,h=>by simp at h
 | x::l,0,a,h=>by
  simp only [List.getElem?_cons_zero,Option.some.injEq] at h
  subst h
  rw [List.eraseIdx_cons_zero,List.flatMap_cons]
 | x::l,j+1,a,h=>by
  rw [List.getElem?_cons_succ] at h
  rw [List.eraseIdx_cons_succ,List.flatMap_cons,List.flatMap_cons]
  have ih:=flatMap_perm f h
  refine (ih.append_left (f x)).trans ?_
  rw [← List.append_assoc,← List.append_assoc]
  exact List.perm_append_comm.append_right _
section
variable {τ : Type}{fl : τ→List Value}{sz:Nat}
structure UE (τ : Type) where
 n:L8
 b:Nat
 si:Sl
 so:Sl
 hi:List τ
 ho:List τ
 o:Bool
def UE.its (fl : τ→List Value) (E:TypeId) (sz:Nat) (T:TypeId) (u:UE τ):List It:=[blk u.b [.slice u.si.a u.si.n u.si.c,.slice u.so.a u.so.n u.so.c,.bool u.o] T,arr fl E sz u.si u.hi,arr fl E sz u.so u.ho]
def ptV (b:Nat):Value:=.pointer (some ⟨b,0,none⟩)
def keysU (us:List (UE τ)):List (L8 × Nat):=us.map fun u=>(u.n,u.b)
def UM (fl : τ→List Value) (E:TypeId) (sz:Nat) (T:TypeId) (H0 H:Hp) (r:Nat) (us:List (UE τ)) (R:List It):Prop:=Sym H0 no H (mapI ptV r (keysU us)::(us.flatMap (UE.its fl E sz T)++R))
variable {E T:TypeId}{H0 H H':Hp}{r:Nat}{us:List (UE τ)}{u u':UE τ}{R R':List It}{j:Nat}{q:L8}
theorem UM.pick (h:UM fl E sz T H0 H r us R) (hj:us[j]? = some u):Sym H0 no H (u.its fl E sz T++(mapI ptV r (keysU us)::((us.eraseIdx j).flatMap (UE.its fl E sz T)++R))):=by
 refine h.perm ?_
 refine (((flatMap_perm (UE.its fl E sz T) hj).append_right R).cons _).trans ?_
 rw [List.append_assoc]
 exact List.perm_middle.symm
theorem keysU_set (hj:us[j]? = some u) (hn:u'.n=u.n) (hb:u'.b=u.b):keysU (us.set j u')=keysU us:=by
 unfold keysU
 rw [List.map_set]
 apply List.ext_getElem?
 intro i
 rw [List.getElem?_set]
 split
 ·rename_i e
  subst e
  rw [List.getElem?_map,hj,List.length_map]
  rw [if_pos (List.getElem?_eq_some_iff.1 hj).1,hn,hb]
  rfl
 ·rfl
theorem UM.back (hj:us[j]? = some u) (hn:u'.n=u.n) (hb:u'.b=u.b) (h:Sym H0 no H (u'.its fl E sz T++(mapI ptV r (keysU us)::((us.eraseIdx j).flatMap (UE.its fl E sz T)++R)))):UM fl E sz T H0 H r (us.set j u') R:=by
 have h':UM fl E sz T H0 H r (us.set j u') R:=by
  unfold UM
  rw [keysU_set hj hn hb]
  refine h.perm ?_
  have h3:(us.set j u')[j]? = some u':=List.getElem?_set_self (List.getElem?_eq_some_iff.1 hj).1
  have e:(us.set j u').eraseIdx j=us.eraseIdx j:=List.eraseIdx_set_eq ..
  have hp:=flatMap_perm (UE.its fl E sz T) h3
  rw [e] at hp
  refine List.perm_middle.trans ?_
  rw [← List.append_assoc]
  exact ((hp.symm.append_right R).cons _)
 exact h'
theorem UM.fr (h:UM fl E sz T H0 H r us R):Fr no H0 H:=Sym.fr h
theorem UM.sub (h:UM fl E sz T H0 H r us R) (hp:R'.Sublist R):UM fl E sz T H0 H r us R':=Sym.sub h (((List.Sublist.refl _).append hp).cons_cons _)
theorem UM.dropR {a:It}(h:UM fl E sz T H0 H r us (a::R)):UM fl E sz T H0 H r us R:=h.sub (List.sublist_cons_self _ _)
theorem UM.rest (h:UM fl E sz T H0 H r us R):Sym H0 no H R:=Sym.sub h ((List.sublist_append_right _ _).trans (List.sublist_cons_self _ _))
theorem UM.of (h:Sym H0 no H (mapI ptV r []::R)):UM fl E sz T H0 H r ([]:List (UE τ)) R:=h
theorem UM.add {a:It}(h:UM fl E sz T H0 H r us R) (hf:Fr no H H') (ha:a.ok H') (hp:∀ i,a.fp i→H.size≤i):UM fl E sz T H0 H' r us (a::R):=by
 have s:=Sym.new h hf ha hp
 refine Sym.perm s ?_
 refine (List.Perm.swap _ _ _).trans (List.Perm.cons _ ?_)
 exact List.perm_middle.symm
theorem UM.newb {b:Nat}{cs:List Value}{E':TypeId}(h:UM fl E sz T H0 H r us R) (hn:Newb H (.cells cs.toArray E') b H'):UM fl E sz T H0 H' r us (blk b cs E'::R):=
 h.add hn.fr hn.blk fun i hi=>by have:=hn.eq;have:i=b:=hi;omega
theorem UM.get {a:It}{k:Nat}(h:UM fl E sz T H0 H r us R) (hk:R[k]? = some a):a.ok H:=Sym.get h.rest hk
theorem UM.ldk {k b:Nat}{cs:List Value}{E':TypeId}(h:UM fl E sz T H0 H r us R) (hk:R[k]? = some (blk b cs E')) (i:Nat):hcell H ⟨b,i,none⟩=cs[i]?:=Sym.ld h.rest hk i
theorem um_at {a:It}{k:Nat}(hk:R[k]? = some a):(mapI ptV r (keysU us)::(us.flatMap (UE.its fl E sz T)++R))[(us.flatMap (UE.its fl E sz T)).length+1+k]? = some a:=by
 rw [show (us.flatMap (UE.its fl E sz T)).length+1+k=((us.flatMap (UE.its fl E sz T)).length+k)+1 by omega,List.getElem?_cons_succ,List.getElem?_append_right (by omega)]
 rw [show (us.flatMap (UE.its fl E sz T)).length+k - (us.flatMap (UE.its fl E sz T)).length=k by omega]
 exact hk
theorem um_set {a:It}{k:Nat}:(mapI ptV r (keysU us)::(us.flatMap (UE.its fl E sz T)++R)).set ((us.flatMap (UE.its fl E sz T)).length+1+k) a=mapI ptV r (keysU us)::(us.flatMap (UE.its fl E sz T)++R.set k a):=by
 rw [show (us.flatMap (UE.its fl E sz T)).length+1+k=((us.flatMap (UE.its fl E sz T)).length+k)+1 by omega,List.set_cons_succ,List.set_append_right _ _ (by omega)]
 rw [show (us.flatMap (UE.its fl E sz T)).length+k - (us.flatMap (UE.its fl E sz T)).length=k by omega]
theorem UM.stk {k b i:Nat}{vs cs:List Value}{E':TypeId}{K:Hp→Prop}(h:UM fl E sz T H0 H r us R) (hk:R[k]? = some (blk b cs E')) (hi:i+vs.length≤cs.length) (hv:∀ v∈vs,v.oneCell=true)
  (kk:∀ H',UM fl E sz T H0 H' r us (R.set k (blk b (setsL cs i vs) E'))→K H'):StL ⟨b,i,none⟩ 0 vs H K:=
 Sym.stbs h (um_at hk) hi hv fun H' s=>kk H' (by unfold UM;rw [← um_set];exact s)
theorem keysU_at {i:Nat}{b:Nat}(h:findI (keysU us) q 0=some (i,b)):∃ u,us[i]? = some u∧u.n=q∧u.b=b:=by
 obtain ⟨_,h2⟩:=findI_at h
 rw [Nat.sub_zero] at h2
 unfold keysU at h2
 rw [List.getElem?_map] at h2
 cases hu:us[i]? with
 | none=>rw [hu] at h2;cases h2
 | some u=>
  rw [hu] at h2
  have h2:=Option.some_inj.1 h2
  rw [Prod.mk.injEq] at h2
  exact ⟨u,rfl,h2.1,h2.2⟩
theorem keysU_none (h:findI (keysU us) q 0=none):∀ u∈us,u.n≠q:=fun u hu=>findI_none h (u.n,u.b) (List.mem_map.2 ⟨u,hu,rfl⟩)
theorem UM.push {P:Program}{t kt et:TypeId}{b:Nat}{K:Hp→Prop}(h:UM fl E sz T H0 H r us (blk b [.slice none 0 0,.slice none 0 0,.bool false] T::R)) (hu:P.underlying t=some (.map kt et)) (hk:P.underlying kt=some .string) (hno:findI (keysU us) q 0=none)
  (kk:∀ H',UM fl E sz T H0 H' r (us ++ [⟨q,b,⟨none,0,0⟩,⟨none,0,0⟩,[],[],false⟩]) R→K H'):MUp P t H (.map (some r)) (.string (str q)) (ptV b) K:=by
 have s0:=(Sym.nilrow h fl E sz).nilrow fl E sz
 refine Sym.mup (k:=2) (v:=b) s0 rfl hu hk fun H' s=>kk H' ?_
 replace s:Sym H0 no H' (arr fl E sz ⟨none,0,0⟩ []::arr fl E sz ⟨none,0,0⟩ []::mapI ptV r (putK (keysU us) q b)::(us.flatMap (UE.its fl E sz T)++(blk b [.slice none 0 0,.slice none 0 0,.bool false] T::R))):=s
 have e:putK (keysU us) q b=keysU (us ++ [⟨q,b,⟨none,0,0⟩,⟨none,0,0⟩,[],[],false⟩]):=by
  unfold putK
  rw [hno]
  unfold keysU
  rw [List.map_append]
  rfl
 rw [e] at s
 unfold UM
 refine s.perm ?_
 rw [List.flatMap_append,List.flatMap_cons,List.flatMap_nil,List.append_nil,List.append_assoc]
 generalize us.flatMap (UE.its fl E sz T)=X
 generalize mapI ptV r _=M
 show (arr fl E sz ⟨none,0,0⟩ []::arr fl E sz ⟨none,0,0⟩ []::M::(X++(blk b [.slice none 0 0,.slice none 0 0,.bool false] T::R))).Perm (M::(X++(blk b [.slice none 0 0,.slice none 0 0,.bool false] T::arr fl E sz ⟨none,0,0⟩ []::arr fl E sz ⟨none,0,0⟩ []::R)))
 generalize arr fl E sz ⟨none,0,0⟩ []=N
 generalize blk b _ T=B
 have p1:(N::N::M::(X++(B::R))).Perm (M::N::N::(X++(B::R))):=((List.Perm.swap _ _ _).cons N).trans (List.Perm.swap _ _ _)
 refine p1.trans (List.Perm.cons M ?_)
 have p2:(N::N::(X++(B::R))).Perm (X++(N::N::B::R)):=by
  have:=(List.perm_append_comm (l₁:=[N,N]) (l₂:=X)).append_right (B::R)
  rw [List.append_assoc,List.append_assoc] at this
  exact this
 refine p2.trans (List.Perm.append_left X ?_)
 exact ((List.Perm.swap _ _ _).cons N).trans (List.Perm.swap _ _ _)
structure Keeps (D:Type) (rel:UE τ→D→Prop) (us:List (UE τ)) (F:L8→Option D):Prop where
 one:∀ (i j:Nat) u v,us[i]? = some u→us[j]? = some v→u.n=v.n→i=j
 at_:∀ u∈us,∃ d,F u.n=some d∧rel u d
 all:∀ z,F z≠none→∃ u∈us,u.n=z
variable {D:Type}{rel:UE τ→D→Prop}{F:L8→Option D}
theorem Keeps.nil:Keeps D rel ([]:List (UE τ)) fun _=>none:=⟨by simp,by simp,fun z h=>absurd rfl h⟩
theorem Keeps.set {d:D}(h:Keeps D rel us F) (hj:us[j]? = some u) (hn:u'.n=u.n) (hd:rel u' d):Keeps D rel (us.set j u') (fun z=>if z=u.n then some d else F z):=by
 have hlt:=(List.getElem?_eq_some_iff.1 hj).1
 have key:∀ i v,(us.set j u')[i]? = some v→∃ w,us[i]? = some w∧w.n=v.n∧(i≠j→w=v)∧(i=j→v=u'):=by
  intro i v hv
  rw [List.getElem?_set] at hv
  split at hv
  ·rename_i e
   subst e
   have hv:=Option.some_inj.1 hv
   exact ⟨u,hj,by rw [← hv,hn],fun h=>absurd rfl h,fun _=>hv.symm⟩
  ·rename_i e
   exact ⟨v,hv,rfl,fun _=>rfl,fun h=>absurd h.symm e⟩
 refine ⟨fun i k a b ha hb e=>?_,fun v hv=>?_,fun z hz=>?_⟩
 ·obtain ⟨a',ha',ea,_⟩:=key i a ha
  obtain ⟨b',hb',eb,_⟩:=key k b hb
  exact h.one i k a' b' ha' hb' (by rw [ea,eb,e])
 ·obtain ⟨i,hi⟩:=List.mem_iff_getElem?.1 hv
  obtain ⟨w,hw,e1,e2,e3⟩:=key i v hi
  by_cases hij:i=j
  ·rw [e3 hij]
   exact ⟨d,by rw [if_pos hn],hd⟩
  ·rw [← e2 hij]
   obtain ⟨d',h1,h2⟩:=h.at_ w (List.mem_of_getElem? hw)
   refine ⟨d',?_,h2⟩
   rw [if_neg (fun e=>hij (h.one i j w u hw hj e))]
   exact h1
 ·by_cases hzu:z=u.n
  ·exact ⟨u',List.mem_of_getElem? (List.getElem?_set_self hlt),by rw [hn,hzu]⟩
  ·rw [if_neg hzu] at hz
   obtain ⟨v,hv,e⟩:=h.all z hz
   obtain ⟨i,hi⟩:=List.mem_iff_getElem?.1 hv
   have hij:j≠i:=fun e'=>by
    subst e'
    rw [hj] at hi
    have hi:=Option.some_inj.1 hi
    exact hzu (by rw [← e,← hi])
   exact ⟨v,List.mem_of_getElem? (by rw [List.getElem?_set,if_neg hij];exact hi),e⟩
theorem Keeps.push {d:D}(h:Keeps D rel us F) (hno:∀ v∈us,v.n≠u.n) (hd:rel u d):Keeps D rel (us ++ [u]) (fun z=>if z=u.n then some d else F z):=by
 have key:∀ i v,(us ++ [u])[i]? = some v→(i < us.length∧us[i]? = some v)∨(i=us.length∧v=u):=by
  intro i v hv
  rw [List.getElem?_append] at hv
  split at hv
  ·exact .inl ⟨by assumption,hv⟩
  ·have hl:=(List.getElem?_eq_some_iff.1 hv).1
   simp only [List.length_cons,List.length_nil] at hl
   have e0:i - us.length=0:=by omega
   rw [e0] at hv
   exact .inr ⟨by omega,(Option.some_inj.1 hv).symm⟩
 refine ⟨fun i k a b ha hb e=>?_,fun v hv=>?_,fun z hz=>?_⟩
 ·rcases key i a ha with ⟨l1,h1⟩ | ⟨l1,h1⟩ <;> rcases key k b hb with ⟨l2,h2⟩ | ⟨l2,h2⟩
  ·exact h.one i k a b h1 h2 e
  ·rw [h2] at e;exact absurd e (hno a (List.mem_of_getElem? h1))
  ·rw [h1] at e;exact absurd e.symm (hno b (List.mem_of_getElem? h2))
  ·omega
 ·rcases List.mem_append.1 hv with hv | hv
  ·obtain ⟨d',h1,h2⟩:=h.at_ v hv
   refine ⟨d',?_,h2⟩
   rw [if_neg (hno v hv)]
   exact h1
  ·rw [List.mem_singleton.1 hv]
   exact ⟨d,if_pos rfl,hd⟩
 ·by_cases hzu:z=u.n
  ·exact ⟨u,by simp,hzu.symm⟩
  ·rw [if_neg hzu] at hz
   obtain ⟨v,hv,e⟩:=h.all z hz
   exact ⟨v,List.mem_append.2 (.inl hv),e⟩
end
section
variable {H0 X Y:Hp}{its R:List It}{b:Nat}{cs:List Value}{E:TypeId}
theorem Sym.newR (s:Sym H0 no X (its++R)) (hn:Newb X (.cells cs.toArray E) b Y):Sym H0 no Y (its++(blk b cs E::R)):=(s.newb hn).perm List.perm_middle.symm
theorem Sym.dropR {a:It}(s:Sym H0 no X (its++(a::R))):Sym H0 no X (its++R):=s.sub ((List.Sublist.refl _).append (List.sublist_cons_self _ _))
theorem Sym.ldR {k:Nat}(s:Sym H0 no X (its++R)) (hk:R[k]? = some (blk b cs E)) (i:Nat):hcell X ⟨b,i,none⟩=cs[i]?:=Sym.ld (k:=its.length+k) s (by rw [List.getElem?_append_right (by omega),show its.length+k - its.length=k by omega];exact hk) i
theorem Sym.stR {k i:Nat}{vs:List Value}{K:Hp→Prop}(s:Sym H0 no X (its++R)) (hk:R[k]? = some (blk b cs E)) (hi:i+vs.length≤cs.length) (hv:∀ v∈vs,v.oneCell=true)
  (kk:∀ H',Sym H0 no H' (its++R.set k (blk b (setsL cs i vs) E))→K H'):StL ⟨b,i,none⟩ 0 vs X K:=by
 refine Sym.stbs (k:=its.length+k) s (by rw [List.getElem?_append_right (by omega),show its.length+k - its.length=k by omega];exact hk) hi hv fun H' s'=>kk H' ?_
 rw [List.set_append_right _ _ (by omega),show its.length+k - its.length=k by omega] at s'
 exact s'
end
end Go.V
end
section
set_option maxRecDepth 100000
namespace Go.Proofs.YtjdhjgfmloaglaaGreatDoor.N22
open Go Go.V Go.Proofs
def V3 (H:Hp) (s_a s_b s_c hide:Sl) (K:Value→Hp→Prop) (Z:List PanicEntry→Hp→Prop):Prop:=
 ∀ bS H1,Newb H (.cells #[.slice s_a.a s_a.n s_a.c,.slice s_b.a s_b.n s_b.c,.slice s_c.a s_c.n s_c.c] 26) bS H1 →
  CallF Tryz.prog 6 #[] H1 (fun r H2=>∃ y:Bool,r = .bool y∧(((!y)=true→K (.bool false) H2) ∧
  ((!y)=false→∃ J:Hp→Prop,(∀ H3,J  H3→∀ scr:Nat→Value,∃ x_a x_b x_c:Sl,(hcell H3 ⟨bS,0,none⟩=some (.slice x_a.a x_a.n x_a.c) ∧
  hcell H3 ⟨bS,1,none⟩=some (.slice x_b.a x_b.n x_b.c)∧hcell H3 ⟨bS,2,none⟩=some (.slice x_c.a x_c.n x_c.c) ∧
  True)∧CallF Tryz.prog 9 #[.agg #[.slice x_a.a x_a.n x_a.c,.slice x_b.a x_b.n x_b.c,.slice x_c.a x_c.n x_c.c],.slice hide.a hide.n hide.c] H3 (fun r1 H4=>
  ∃ (y_0_a y_0_b y_0_c y_1:Sl) (y_2:Int),r1 = .tuple #[.agg #[.slice y_0_a.a y_0_a.n y_0_a.c,.slice y_0_b.a y_0_b.n y_0_b.c,.slice y_0_c.a y_0_c.n y_0_c.c],.slice y_1.a y_1.n y_1.c,.int .i64 y_2] ∧
  ∀ bT H5,Newb H4 (.cells #[.slice none 0 0,.slice none 0 0,.slice none 0 0] 26) bT H5→StL ⟨bT,0,none⟩ 0 [.slice y_0_a.a y_0_a.n y_0_a.c,.slice y_0_b.a y_0_b.n y_0_b.c,.slice y_0_c.a y_0_c.n y_0_c.c] H5 fun H6=>
  (((y_2 != 0)=true→K (.bool true) H6)∧((y_2 != 0)=false→∃ x:Sl,hcell H6 ⟨bT,2,none⟩=some (.slice x.a x.n x.c) ∧
  ∃ x1:Sl,hcell H6 ⟨bS,2,none⟩=some (.slice x1.a x1.n x1.c)∧(((decide ((x.n:Int) > (x1.n:Int)))=true →
  K (.bool false) H6)∧((decide ((x.n:Int) > (x1.n:Int)))=false→∃ I:Int→Hp→Nat→Prop,(∃ m,I 0 H6 m) ∧
  ∀ (i:Int),∀ H7 m1,I i H7 m1→∀ scr1:Nat→Value,(((decide (i < (y_1.n:Int)))=true→IxA y_1.a y_1.n i 1 fun ad=>
  (∃ x2:ByteArray,hcell H7 ad=some (.string x2)∧CallF Tryz.prog 10 #[.slice hide.a hide.n hide.c,.string x2] H7 (fun r2 H8=>
  ∃ y1:Int,r2 = .int .i64 y1∧(((decide (y1 < 0))=true→K (.bool false) H8)∧((decide (y1 < 0))=false →
  ∃ I1:Int→Hp→Nat→Prop,(∃ m3,I1 0 H8 m3)∧∀ (k:Int),∀ H9 m4,I1 k H9 m4→∀ scr2:Nat →
  Value,∃ x3:Sl,hcell H9 ⟨bT,2,none⟩=some (.slice x3.a x3.n x3.c)∧(((decide (k < (x3.n:Int)))=true →
  ∃ x4:Sl,hcell H9 ⟨bT,2,none⟩=some (.slice x4.a x4.n x4.c)∧IxA x4.a x4.n k 6 fun ad1=>(∃ (x_a1:Int) (x_b1 x_c1:ByteArray) (x_d:Int) (x_e:ByteArray) (x_f:Sl),(hcell H9 ad1=some (.int .i64 x_a1) ∧
  hcell H9 (Addr.add ad1 1)=some (.string x_b1)∧hcell H9 (Addr.add ad1 2)=some (.string x_c1) ∧
  hcell H9 (Addr.add ad1 3)=some (.int .i64 x_d)∧hcell H9 (Addr.add ad1 4)=some (.string x_e) ∧
  hcell H9 (Addr.add ad1 5)=some (.slice x_f.a x_f.n x_f.c)∧True)∧∀ bX H10,Newb H9 (.cells #[.int .i64 0,.string ⟨#[]⟩,.string ⟨#[]⟩,.int .i64 0,.string ⟨#[]⟩,.slice none 0 0] 36) bX H10 →
  StL ⟨bX,0,none⟩ 0 [.int .i64 x_a1,.string x_b1,.string x_c1,.int .i64 x_d,.string x_e,.slice x_f.a x_f.n x_f.c] H10 fun H11=>
  (∃ x5:ByteArray,hcell H11 ⟨bX,1,none⟩=some (.string x5)∧IxA y_1.a y_1.n i 1 fun ad2=>(∃ x6:ByteArray,hcell H11 ad2=some (.string x6) ∧
  (((beqS x5 x6)=true→K (.bool false) H11)∧((beqS x5 x6)=false→∃ x7:Int,hcell H11 ⟨bX,0,none⟩=some (.int .i64 x7) ∧
  (((x7 != 1)=true→∃ x8:ByteArray,hcell H11 ⟨bX,2,none⟩=some (.string x8)∧IxA y_1.a y_1.n i 1 fun ad3=>
  (∃ x9:ByteArray,hcell H11 ad3=some (.string x9)∧(((beqS x8 x9)=true→K (.bool false) H11) ∧
  ((beqS x8 x9)=false→∃ x10:Sl,hcell H11 ⟨bX,5,none⟩=some (.slice x10.a x10.n x10.c)∧IxA y_1.a y_1.n i 1 fun ad4=>
  (∃ x11:ByteArray,hcell H11 ad4=some (.string x11)∧CallF Tryz.prog 10 #[.slice x10.a x10.n x10.c,.string x11] H11 (fun r3 H12=>
  ∃ y2:Int,r3 = .int .i64 y2∧(((decide (y2≥0))=true→K (.bool false) H12)∧((decide (y2≥0))=false →
  (∃ m5,m5 < m4∧I1 (w64 (k+1)) H12 m5)))) Z)))))∧((x7 != 1)=false→∃ x12:Sl,hcell H11 ⟨bX,5,none⟩=some (.slice x12.a x12.n x12.c) ∧
  IxA y_1.a y_1.n i 1 fun ad5=>(∃ x13:ByteArray,hcell H11 ad5=some (.string x13)∧CallF Tryz.prog 10 #[.slice x12.a x12.n x12.c,.string x13] H11 (fun r4 H13=>
  ∃ y3:Int,r4 = .int .i64 y3∧(((decide (y3≥0))=true→K (.bool false) H13)∧((decide (y3≥0))=false →
  (∃ m5,m5 < m4∧I1 (w64 (k+1)) H13 m5)))) Z)))))))))∧((decide (k < (x3.n:Int)))=false →
  (∃ m2,m2 < m1∧I (w64 (i+1)) H9 m2)))))) Z))∧((decide (i < (y_1.n:Int)))=false→∃ x_a2 x_b2 x_c2:Sl,(hcell H7 ⟨bT,0,none⟩=some (.slice x_a2.a x_a2.n x_a2.c) ∧
  hcell H7 ⟨bT,1,none⟩=some (.slice x_b2.a x_b2.n x_b2.c)∧hcell H7 ⟨bT,2,none⟩=some (.slice x_c2.a x_c2.n x_c2.c) ∧
  True)∧CallF Tryz.prog 9 #[.agg #[.slice x_a2.a x_a2.n x_a2.c,.slice x_b2.a x_b2.n x_b2.c,.slice x_c2.a x_c2.n x_c2.c],.slice hide.a hide.n hide.c] H7 (fun r5 H14=>
  ∃ (y_0_a1 y_0_b1 y_0_c1 y_11:Sl) (y_21:Int),r5 = .tuple #[.agg #[.slice y_0_a1.a y_0_a1.n y_0_a1.c,.slice y_0_b1.a y_0_b1.n y_0_b1.c,.slice y_0_c1.a y_0_c1.n y_0_c1.c],.slice y_11.a y_11.n y_11.c,.int .i64 y_21] ∧
  ∀ b H15,Newb H14 (.cells #[.slice none 0 0,.slice none 0 0,.slice none 0 0] 26) b H15→StL ⟨b,0,none⟩ 0 [.slice y_0_a1.a y_0_a1.n y_0_a1.c,.slice y_0_b1.a y_0_b1.n y_0_b1.c,.slice y_0_c1.a y_0_c1.n y_0_c1.c] H15 fun H16=>
  (((y_21 == 0)=true→K (.bool ((y_11.n:Int) == 0)) H16)∧((y_21 == 0)=false→K (.bool false) H16))) Z))))))) Z) ∧
  ∃ x_a3 x_b3 x_c3:Sl,(hcell H2 ⟨bS,0,none⟩=some (.slice x_a3.a x_a3.n x_a3.c) ∧
  hcell H2 ⟨bS,1,none⟩=some (.slice x_b3.a x_b3.n x_b3.c)∧hcell H2 ⟨bS,2,none⟩=some (.slice x_c3.a x_c3.n x_c3.c) ∧
  True)∧CallF Tryz.prog 7 #[.agg #[.slice x_a3.a x_a3.n x_a3.c,.slice x_b3.a x_b3.n x_b3.c,.slice x_c3.a x_c3.n x_c3.c],.int .i64 40] H2 (fun r6 H17=>
  ∃ y4:Bool,r6 = .bool y4∧((y4=true→K (.bool true) H17)∧(y4=false→CallF Tryz.prog 8 #[.slice hide.a hide.n hide.c] H17 (fun r7 H18=>
  ∃ y5:Bool,r7 = .bool y5∧((y5=true→K (.bool true) H18)∧(y5=false→(J  H18)))) Z))) Z))) Z
def aJ3:Ann:=(fun k=>if k=5 then some [] else none)
def aL3:Ann:=(fun k=>if k=11 then some [(8,(.sc (.int .i64)))] else if k=16 then some [(9,(.sc (.int .i64)))] else none)
theorem V3_ok {H s_a s_b s_c hide K Z} (h:V3 H s_a s_b s_c hide K Z):CallF Tryz.prog 3 #[.agg #[.slice s_a.a s_a.n s_a.c,.slice s_b.a s_b.n s_b.c,.slice s_c.a s_c.n s_c.c],.slice hide.a hide.n hide.c] H K Z:=
 fnC_sound (aJ:=aJ3) (aL:=aL3) (Eq.mp (by kernel_rfl) h)
def V6 (H:Hp)  (K:Value→Hp→Prop) (Z:List PanicEntry→Hp→Prop):Prop:=
 ∀ b H1,Newb H (.cells #[.int .i64 1,.string ⟨#[102,46,113]⟩,.string ⟨#[120,43,48]⟩,.int .i64 0,.string ⟨#[]⟩,.slice none 0 0,.int .i64 2,.string ⟨#[102,46,114]⟩,.string ⟨#[102,46,113]⟩,.int .i64 0,.string ⟨#[]⟩,.slice none 0 0] 36) b H1 →
  ∀ bS H2,Newb H1 (.cells #[.slice none 0 0,.slice none 0 0,.slice none 0 0] 26) bS H2→StL ⟨bS,0,none⟩ 0 [.slice none 0 0,.slice none 0 0,.slice (some ⟨b,0,none⟩) 2 2] H2 fun H3=>
  (∃ x_a x_b x_c:Sl,(hcell H3 ⟨bS,0,none⟩=some (.slice x_a.a x_a.n x_a.c) ∧
  hcell H3 ⟨bS,1,none⟩=some (.slice x_b.a x_b.n x_b.c)∧hcell H3 ⟨bS,2,none⟩=some (.slice x_c.a x_c.n x_c.c) ∧
  True)∧∀ b1 H4,Newb H3 (.cells #[.string ⟨#[102,46,113]⟩] 9) b1 H4→CallF Tryz.prog 9 #[.agg #[.slice x_a.a x_a.n x_a.c,.slice x_b.a x_b.n x_b.c,.slice x_c.a x_c.n x_c.c],.slice (some ⟨b1,0,none⟩) 1 1] H4 (fun r H5=>
  ∃ (y_0_a y_0_b y_0_c y_1:Sl) (y_2:Int),r = .tuple #[.agg #[.slice y_0_a.a y_0_a.n y_0_a.c,.slice y_0_b.a y_0_b.n y_0_b.c,.slice y_0_c.a y_0_c.n y_0_c.c],.slice y_1.a y_1.n y_1.c,.int .i64 y_2] ∧
  ∀ bT H6,Newb H5 (.cells #[.slice none 0 0,.slice none 0 0,.slice none 0 0] 26) bT H6→StL ⟨bT,0,none⟩ 0 [.slice y_0_a.a y_0_a.n y_0_a.c,.slice y_0_b.a y_0_b.n y_0_b.c,.slice y_0_c.a y_0_c.n y_0_c.c] H6 fun H7=>
  (((y_2 == 0)=true→∃ x:Sl,hcell H7 ⟨bT,2,none⟩=some (.slice x.a x.n x.c)∧((((x.n:Int) == 1)=true →
  ∃ x1:Sl,hcell H7 ⟨bT,2,none⟩=some (.slice x1.a x1.n x1.c)∧IxA x1.a x1.n 0 6 fun ad=>(∃ x2:Int,hcell H7 ad=some (.int .i64 x2) ∧
  (((x2 == 1)=true→∃ x3:Sl,hcell H7 ⟨bT,2,none⟩=some (.slice x3.a x3.n x3.c)∧IxA x3.a x3.n 0 6 fun ad1=>
  (∃ x4:ByteArray,hcell H7 (Addr.add ad1 1)=some (.string x4)∧(((beqS x4 ⟨#[102,46,114]⟩)=true →
  ∀ b2 H8,Newb H7 (.cells #[.string ⟨#[102,46,113]⟩] 9) b2 H8→CallF Tryz.prog 17 #[.slice y_1.a y_1.n y_1.c,.slice (some ⟨b2,0,none⟩) 1 1] H8 (fun r1 H9=>
  ∃ y:Bool,r1 = .bool y∧K (.bool y) H9) Z)∧((beqS x4 ⟨#[102,46,114]⟩)=false→K (.bool false) H7)))) ∧
  ((x2 == 1)=false→K (.bool false) H7))))∧(((x.n:Int) == 1)=false→K (.bool false) H7))) ∧
  ((y_2 == 0)=false→K (.bool false) H7))) Z)
theorem V6_ok {H K Z} (h:V6 H  K Z):CallF Tryz.prog 6 #[] H K Z:=
 fnC_sound (aJ:=fun _=>none) (aL:=fun _=>none) (Eq.mp (by kernel_rfl) h)
def V8 (H:Hp) (l:Sl) (K:Value→Hp→Prop) (Z:List PanicEntry→Hp→Prop):Prop:=
 ∃ I:Int→Hp→Nat→Prop,(∃ m,I 0 H m)∧∀ (i:Int),∀ H1 m1,I i H1 m1→∀ scr:Nat→Value,(((decide (i < (l.n:Int)))=true →
  (((decide (i≥60))=true→K (.bool true) H1)∧((decide (i≥60))=false→IxA l.a l.n i 1 fun ad=>
  (∃ x:ByteArray,hcell H1 ad=some (.string x)∧(((decide ((x.size:Int) > 100))=true→K (.bool true) H1) ∧
  ((decide ((x.size:Int) > 100))=false→(∃ m2,m2 < m1∧I (w64 (i+1)) H1 m2)))))))∧((decide (i < (l.n:Int)))=false →
  K (.bool false) H1))
def aL8:Ann:=(fun k=>if k=2 then some [(3,(.sc (.int .i64)))] else none)
theorem V8_ok {H l K Z} (h:V8 H l K Z):CallF Tryz.prog 8 #[.slice l.a l.n l.c] H K Z:=
 fnC_sound (aJ:=fun _=>none) (aL:=aL8) (Eq.mp (by kernel_rfl) h)
def V9 (H:Hp) (s_a s_b s_c hide:Sl) (K:Value→Hp→Prop) (Z:List PanicEntry→Hp→Prop):Prop:=
 ∀ bS H1,Newb H (.cells #[.slice s_a.a s_a.n s_a.c,.slice s_b.a s_b.n s_b.c,.slice s_c.a s_c.n s_c.c] 26) bS H1 →
  ∀ b H2,Newb H1 (.cells #[.slice none 0 0,.slice none 0 0,.slice none 0 0] 26) b H2→∃ x_a x_b x_c:Sl,(hcell H2 ⟨bS,0,none⟩=some (.slice x_a.a x_a.n x_a.c) ∧
  hcell H2 ⟨bS,1,none⟩=some (.slice x_b.a x_b.n x_b.c)∧hcell H2 ⟨bS,2,none⟩=some (.slice x_c.a x_c.n x_c.c) ∧
  True)∧CallF Tryz.prog 18 #[.agg #[.slice x_a.a x_a.n x_a.c,.slice x_b.a x_b.n x_b.c,.slice x_c.a x_c.n x_c.c]] H2 (fun r H3=>
  ∃ y:Int,r = .int .i64 y∧(((y != 0)=true→StL ⟨b,0,none⟩ 0 [.slice none 0 0,.slice none 0 0,.slice none 0 0] H3 fun H4=>
  (∃ res_a res_b res_c:Sl,(hcell H4 ⟨b,0,none⟩=some (.slice res_a.a res_a.n res_a.c) ∧
  hcell H4 ⟨b,1,none⟩=some (.slice res_b.a res_b.n res_b.c)∧hcell H4 ⟨b,2,none⟩=some (.slice res_c.a res_c.n res_c.c) ∧
  True)∧K (.tuple #[.agg #[.slice res_a.a res_a.n res_a.c,.slice res_b.a res_b.n res_b.c,.slice res_c.a res_c.n res_c.c],.slice none 0 0,.int .i64 y]) H4)) ∧
  ((y != 0)=false→CallF Tryz.prog 20 #[.slice hide.a hide.n hide.c] H3 (fun r1 H5=>∃ y1:Sl,r1 = .slice y1.a y1.n y1.c ∧
  CallF Tryz.prog 19 #[.slice y1.a y1.n y1.c,.func (.func 21) #[] #[]] H5 (fun r2 H6=>∃ y2:Sl,r2 = .slice y2.a y2.n y2.c ∧
  ∃ x_a1 x_b1 x_c1:Sl,(hcell H6 ⟨bS,0,none⟩=some (.slice x_a1.a x_a1.n x_a1.c) ∧
  hcell H6 ⟨bS,1,none⟩=some (.slice x_b1.a x_b1.n x_b1.c)∧hcell H6 ⟨bS,2,none⟩=some (.slice x_c1.a x_c1.n x_c1.c) ∧
  True)∧CallF Tryz.prog 23 #[.agg #[.slice x_a1.a x_a1.n x_a1.c,.slice x_b1.a x_b1.n x_b1.c,.slice x_c1.a x_c1.n x_c1.c]] H6 (fun r3 H7=>
  ∃ y_a y_b y_c:Sl,r3 = .agg #[.slice y_a.a y_a.n y_a.c,.slice y_b.a y_b.n y_b.c,.slice y_c.a y_c.n y_c.c] ∧
  StL ⟨bS,0,none⟩ 0 [.slice y_a.a y_a.n y_a.c,.slice y_b.a y_b.n y_b.c,.slice y_c.a y_c.n y_c.c] H7 fun H8=>
  (∃ I:Sl→Hp→Nat→Prop,(∃ m,I (⟨none,0,0⟩:Sl) H8 m)∧∀ (gone:Sl),∀ H9 m1,I gone H9 m1 →
  ∀ scr:Nat→Value,∃ x_a2 x_b2 x_c2:Sl,(hcell H9 ⟨bS,0,none⟩=some (.slice x_a2.a x_a2.n x_a2.c) ∧
  hcell H9 ⟨bS,1,none⟩=some (.slice x_b2.a x_b2.n x_b2.c)∧hcell H9 ⟨bS,2,none⟩=some (.slice x_c2.a x_c2.n x_c2.c) ∧
  True)∧CallF Tryz.prog 24 #[.agg #[.slice x_a2.a x_a2.n x_a2.c,.slice x_b2.a x_b2.n x_b2.c,.slice x_c2.a x_c2.n x_c2.c]] H9 (fun r4 H10=>
  ∃ y3:Option Nat,r4 = .map y3∧∀ bAll H11,Newb H10 (.cells #[.map none] 66) bAll H11→StL ⟨bAll,0,none⟩ 0 [.map y3] H11 fun H12=>
  (CallF Tryz.prog 25 #[.slice y2.a y2.n y2.c,.func (.func 26) #[] #[.pointer (some ⟨bAll,0,none⟩)]] H12 (fun r5 H13=>
  ∃ y4:Int,r5 = .int .i64 y4∧(((decide (y4 < 0))=true→∃ x_a3 x_b3 x_c3:Sl,(hcell H13 ⟨bS,0,none⟩=some (.slice x_a3.a x_a3.n x_a3.c) ∧
  hcell H13 ⟨bS,1,none⟩=some (.slice x_b3.a x_b3.n x_b3.c)∧hcell H13 ⟨bS,2,none⟩=some (.slice x_c3.a x_c3.n x_c3.c) ∧
  True)∧CallF Tryz.prog 20 #[.slice gone.a gone.n gone.c] H13 (fun r6 H14=>∃ y5:Sl,r6 = .slice y5.a y5.n y5.c ∧
  ((hcell H14 ⟨bS,0,none⟩=some (.slice x_a3.a x_a3.n x_a3.c)∧hcell H14 ⟨bS,1,none⟩=some (.slice x_b3.a x_b3.n x_b3.c) ∧
  hcell H14 ⟨bS,2,none⟩=some (.slice x_c3.a x_c3.n x_c3.c)∧True)∧StL ⟨b,0,none⟩ 0 [.slice x_a3.a x_a3.n x_a3.c,.slice x_b3.a x_b3.n x_b3.c,.slice x_c3.a x_c3.n x_c3.c] H14 fun H15=>
  (∃ res_a1 res_b1 res_c1:Sl,(hcell H15 ⟨b,0,none⟩=some (.slice res_a1.a res_a1.n res_a1.c) ∧
  hcell H15 ⟨b,1,none⟩=some (.slice res_b1.a res_b1.n res_b1.c)∧hcell H15 ⟨b,2,none⟩=some (.slice res_c1.a res_c1.n res_c1.c) ∧
  True)∧K (.tuple #[.agg #[.slice res_a1.a res_a1.n res_a1.c,.slice res_b1.a res_b1.n res_b1.c,.slice res_c1.a res_c1.n res_c1.c],.slice y5.a y5.n y5.c,.int .i64 0]) H15))) Z) ∧
  ((decide (y4 < 0))=false→∃ x:Option Nat,hcell H13 ⟨bAll,0,none⟩=some (.map x)∧IxA y2.a y2.n y4 1 fun ad=>
  (∃ x1:ByteArray,hcell H13 ad=some (.string x1)∧∃ x_a4 x_b4 x_c4:Sl,(hcell H13 ⟨bS,0,none⟩=some (.slice x_a4.a x_a4.n x_a4.c) ∧
  hcell H13 ⟨bS,1,none⟩=some (.slice x_b4.a x_b4.n x_b4.c)∧hcell H13 ⟨bS,2,none⟩=some (.slice x_c4.a x_c4.n x_c4.c) ∧
  True)∧IxA y2.a y2.n y4 1 fun ad1=>(∃ x2:ByteArray,hcell H13 ad1=some (.string x2)∧Lkp Tryz.prog 66 H13 (.map x) (.string x1) false fun r7 H16=>
  ∃ y6:Option Addr,r7 = .pointer y6∧(hcell H16 ad1=some (.string x2)∧((hcell H16 ⟨bS,0,none⟩=some (.slice x_a4.a x_a4.n x_a4.c) ∧
  hcell H16 ⟨bS,1,none⟩=some (.slice x_b4.a x_b4.n x_b4.c)∧hcell H16 ⟨bS,2,none⟩=some (.slice x_c4.a x_c4.n x_c4.c) ∧
  True)∧CallF Tryz.prog 28 #[.pointer y6,.agg #[.slice x_a4.a x_a4.n x_a4.c,.slice x_b4.a x_b4.n x_b4.c,.slice x_c4.a x_c4.n x_c4.c],.string x2] H16 (fun r8 H17=>
  ∃ y_a1 y_b1 y_c1:Sl,r8 = .agg #[.slice y_a1.a y_a1.n y_a1.c,.slice y_b1.a y_b1.n y_b1.c,.slice y_c1.a y_c1.n y_c1.c] ∧
  StL ⟨bS,0,none⟩ 0 [.slice y_a1.a y_a1.n y_a1.c,.slice y_b1.a y_b1.n y_b1.c,.slice y_c1.a y_c1.n y_c1.c] H17 fun H18=>
  (IxA y2.a y2.n y4 1 fun ad2=>(∃ x3:ByteArray,hcell H18 ad2=some (.string x3)∧∀ b1 H19,Newb H18 (.cells #[.string x3] 9) b1 H19 →
  App Tryz.prog #[27,27] 27 H19 [.slice gone.a gone.n gone.c,.slice (some ⟨b1,0,none⟩) 1 1] fun ap H20=>
  (∃ m2,m2 < m1∧I ap H20 m2)))) Z))))))) Z)) Z)) Z) Z) Z))) Z
def aJ9:Ann:=(fun k=>if k=2000010 then some [] else if k=2000011 then some [] else none)
def aL9:Ann:=(fun k=>if k=7 then some [(9,(.sc .sl))] else none)
theorem V9_ok {H s_a s_b s_c hide K Z} (h:V9 H s_a s_b s_c hide K Z):CallF Tryz.prog 9 #[.agg #[.slice s_a.a s_a.n s_a.c,.slice s_b.a s_b.n s_b.c,.slice s_c.a s_c.n s_c.c],.slice hide.a hide.n hide.c] H K Z:=
 fnC_sound (aJ:=aJ9) (aL:=aL9) (Eq.mp (by kernel_rfl) h)
def V21 (H:Hp) (s:ByteArray) (K:Value→Hp→Prop) (Z:List PanicEntry→Hp→Prop):Prop:=
 CallF Tryz.prog 22 #[.string s] H (fun r H1=>∃ (y_0_a:Int) (y_0_b:ByteArray) (y_0_c:Int) (y_0_d:ByteArray) (y_0_e y_0_f y_1:Int),r = .tuple #[.agg #[.int .i64 y_0_a,.string y_0_b,.int .i64 y_0_c,.string y_0_d,.int .i64 y_0_e,.int .i64 y_0_f],.int .i64 y_1] ∧
  ∀ bN H2,Newb H1 (.cells #[.int .i64 0,.string ⟨#[]⟩,.int .i64 0,.string ⟨#[]⟩,.int .i64 0,.int .i64 0] 61) bN H2 →
  StL ⟨bN,0,none⟩ 0 [.int .i64 y_0_a,.string y_0_b,.int .i64 y_0_c,.string y_0_d,.int .i64 y_0_e,.int .i64 y_0_f] H2 fun H3=>
  (((y_1 == 0)=true→∃ x:Int,hcell H3 ⟨bN,0,none⟩=some (.int .i64 x)∧K (.bool (x == 3)) H3) ∧
  ((y_1 == 0)=false→K (.bool false) H3))) Z
theorem V21_ok {H s K Z} (h:V21 H s K Z):CallF Tryz.prog 21 #[.string s] H K Z:=
 fnC_sound (aJ:=fun _=>none) (aL:=fun _=>none) (Eq.mp (by kernel_rfl) h)
def V26 (H:Hp) (n:ByteArray) (cap0:Addr) (K:Value→Hp→Prop) (Z:List PanicEntry→Hp→Prop):Prop:=
 ∃ x:Option Nat,hcell H cap0=some (.map x)∧Lkp Tryz.prog 66 H (.map x) (.string n) false fun r H1=>
  ∃ y:Option Addr,r = .pointer y∧CallF Tryz.prog 27 #[.pointer y] H1 (fun r1 H2=>∃ y1:Bool,r1 = .bool y1 ∧
  K (.bool y1) H2) Z
theorem V26_ok {H n cap0 K Z} (h:V26 H n cap0 K Z):CallF Tryz.prog 26 #[.string n,.pointer (some cap0)] H K Z:=
 fnC_sound (aJ:=fun _=>none) (aL:=fun _=>none) (Eq.mp (by kernel_rfl) h)
abbrev W24_2 (H8:Hp) (bC:Nat) (x_a1:Int) (x_b1:ByteArray) (x_c1:ByteArray) (x_d1:Int) (x_e1:ByteArray) (x_f1:Sl):Prop:=
 hcell H8 ⟨bC,0,none⟩=some (.int .i64 x_a1) ∧
  hcell H8 ⟨bC,1,none⟩=some (.string x_b1)∧hcell H8 ⟨bC,2,none⟩=some (.string x_c1)∧hcell H8 ⟨bC,3,none⟩=some (.int .i64 x_d1) ∧
  hcell H8 ⟨bC,4,none⟩=some (.string x_e1)∧hcell H8 ⟨bC,5,none⟩=some (.slice x_f1.a x_f1.n x_f1.c) ∧
  True
abbrev W24_3 (y8:Option Addr) (ap4:Sl) (H33:Hp) (bC:Nat) (bM:Nat) (m1:Nat) (I:Int→Hp→Nat→Prop) (t14:Int) (Z:List PanicEntry→Hp→Prop):Prop:=
 nilck y8 fun ad12=>(StL (Addr.add ad12 1) 0 [.slice ap4.a ap4.n ap4.c] H33 fun H34=>(∃ x15:ByteArray,hcell H34 ⟨bC,1,none⟩=some (.string x15) ∧
  ∃ x16:ByteArray,hcell H34 ⟨bC,2,none⟩=some (.string x16)∧(((beqS x15 x16)=true→∃ x17:ByteArray,hcell H34 ⟨bC,1,none⟩=some (.string x17) ∧
  CallF Tryz.prog 72 #[.string x17,.pointer (some ⟨bM,0,none⟩)] H34 (fun r10 H35=>∃ y10:Option Addr,r10 = .pointer y10 ∧
  nilck y10 fun ad13=>(StL (Addr.add ad13 2) 0 [.bool true] H35 fun H36=>(∃ m2,m2 < m1∧I (w64 (t14+1)) H36 m2))) Z) ∧
  ((beqS x15 x16)=false→(∃ m2,m2 < m1∧I (w64 (t14+1)) H34 m2)))))
abbrev W24_1 (y6:Option Addr) (ap3:Sl) (H28:Hp) (bC:Nat) (bM:Nat) (m1:Nat) (I:Int→Hp→Nat→Prop) (t14:Int) (Z:List PanicEntry→Hp→Prop):Prop:=
 nilck y6 fun ad10=>(StL ad10 0 [.slice ap3.a ap3.n ap3.c] H28 fun H29=>(∃ x12:ByteArray,hcell H29 ⟨bC,2,none⟩=some (.string x12) ∧
  ∃ x13:ByteArray,hcell H29 ⟨bC,2,none⟩=some (.string x13)∧∃ (x_a3:Int) (x_b3 x_c3:ByteArray) (x_d3:Int) (x_e3:ByteArray) (x_f3:Sl),(W24_2 H29 bC x_a3 x_b3 x_c3 x_d3 x_e3 x_f3)∧((CallF Tryz.prog 72 #[.string x12,.pointer (some ⟨bM,0,none⟩)] H29 (fun r8 H30=>∃ y8:Option Addr,r8 = .pointer y8 ∧
  ((W24_2 H30 bC x_a3 x_b3 x_c3 x_d3 x_e3 x_f3)∧(hcell H30 ⟨bC,2,none⟩=some (.string x13)∧((CallF Tryz.prog 72 #[.string x13,.pointer (some ⟨bM,0,none⟩)] H30 (fun r9 H31=>
  ∃ y9:Option Addr,r9 = .pointer y9∧((W24_2 H31 bC x_a3 x_b3 x_c3 x_d3 x_e3 x_f3)∧nilck y9 fun ad11=>(∃ x14:Sl,hcell H31 (Addr.add ad11 1)=some (.slice x14.a x14.n x14.c) ∧
  ∀ b5 H32,Newb H31 (.cells #[.int .i64 x_a3,.string x_b3,.string x_c3,.int .i64 x_d3,.string x_e3,.slice x_f3.a x_f3.n x_f3.c] 36) b5 H32 →
  (hcell H32 (Addr.add ad11 1)=some (.slice x14.a x14.n x14.c)∧App Tryz.prog #[24,24] 24 H32 [.slice x14.a x14.n x14.c,.slice (some ⟨b5,0,none⟩) 1 1] fun ap4 H33=>
  (W24_3 y8 ap4 H33 bC bM m1 I t14 Z))))) Z)∧(∀ b6 H37,Newb H30 (.cells #[.int .i64 x_a3,.string x_b3,.string x_c3,.int .i64 x_d3,.string x_e3,.slice x_f3.a x_f3.n x_f3.c] 36) b6 H37 →
  (hcell H37 ⟨bC,2,none⟩=some (.string x13)∧CallF Tryz.prog 72 #[.string x13,.pointer (some ⟨bM,0,none⟩)] H37 (fun r11 H38=>
  ∃ y11:Option Addr,r11 = .pointer y11∧nilck y11 fun ad14=>(∃ x18:Sl,hcell H38 (Addr.add ad14 1)=some (.slice x18.a x18.n x18.c) ∧
  App Tryz.prog #[24,24] 24 H38 [.slice x18.a x18.n x18.c,.slice (some ⟨b6,0,none⟩) 1 1] fun ap5 H39=>
  (W24_3 y8 ap5 H39 bC bM m1 I t14 Z))) Z)))))) Z)∧(∀ b7 H43,Newb H29 (.cells #[.int .i64 x_a3,.string x_b3,.string x_c3,.int .i64 x_d3,.string x_e3,.slice x_f3.a x_f3.n x_f3.c] 36) b7 H43 →
  (hcell H43 ⟨bC,2,none⟩=some (.string x13)∧(hcell H43 ⟨bC,2,none⟩=some (.string x12)∧CallF Tryz.prog 72 #[.string x12,.pointer (some ⟨bM,0,none⟩)] H43 (fun r13 H44=>
  ∃ y13:Option Addr,r13 = .pointer y13∧(hcell H44 ⟨bC,2,none⟩=some (.string x13)∧CallF Tryz.prog 72 #[.string x13,.pointer (some ⟨bM,0,none⟩)] H44 (fun r14 H45=>
  ∃ y14:Option Addr,r14 = .pointer y14∧nilck y14 fun ad17=>(∃ x22:Sl,hcell H45 (Addr.add ad17 1)=some (.slice x22.a x22.n x22.c) ∧
  App Tryz.prog #[24,24] 24 H45 [.slice x22.a x22.n x22.c,.slice (some ⟨b7,0,none⟩) 1 1] fun ap6 H46=>
  (W24_3 y13 ap6 H46 bC bM m1 I t14 Z))) Z)) Z))))))
def V24 (H:Hp) (s_a s_b s_c:Sl) (K:Value→Hp→Prop) (Z:List PanicEntry→Hp→Prop):Prop:=
 ∀ bS H1,Newb H (.cells #[.slice s_a.a s_a.n s_a.c,.slice s_b.a s_b.n s_b.c,.slice s_c.a s_c.n s_c.c] 26) bS H1 →
  ∀ b H2,Newb H1 (.map #[] 0) b H2→∀ bM H3,Newb H2 (.cells #[.map none] 66) bM H3→StL ⟨bM,0,none⟩ 0 [.map (some b)] H3 fun H4=>
  (∃ x:Sl,hcell H4 ⟨bS,2,none⟩=some (.slice x.a x.n x.c)∧∃ I:Int→Hp→Nat→Prop,(∃ m,I 0 H4 m) ∧
  ∀ (t14:Int),∀ H5 m1,I t14 H5 m1→∀ scr:Nat→Value,(((decide (t14 < (x.n:Int)))=true →
  IxA x.a x.n t14 6 fun ad=>(∃ (x_a:Int) (x_b x_c:ByteArray) (x_d:Int) (x_e:ByteArray) (x_f:Sl),(hcell H5 ad=some (.int .i64 x_a) ∧
  hcell H5 (Addr.add ad 1)=some (.string x_b)∧hcell H5 (Addr.add ad 2)=some (.string x_c)∧hcell H5 (Addr.add ad 3)=some (.int .i64 x_d) ∧
  hcell H5 (Addr.add ad 4)=some (.string x_e)∧hcell H5 (Addr.add ad 5)=some (.slice x_f.a x_f.n x_f.c) ∧
  True)∧∀ bC H6,Newb H5 (.cells #[.int .i64 0,.string ⟨#[]⟩,.string ⟨#[]⟩,.int .i64 0,.string ⟨#[]⟩,.slice none 0 0] 36) bC H6 →
  StL ⟨bC,0,none⟩ 0 [.int .i64 x_a,.string x_b,.string x_c,.int .i64 x_d,.string x_e,.slice x_f.a x_f.n x_f.c] H6 fun H7=>
  (∃ x1:Sl,hcell H7 ⟨bC,5,none⟩=some (.slice x1.a x1.n x1.c)∧∃ I1:Int→Hp→Nat→Prop,(∃ m3,I1 0 H7 m3) ∧
  ∀ (t21:Int),∀ H8 m4,I1 t21 H8 m4→∀ scr1:Nat→Value,(((decide (t21 < (x1.n:Int)))=true →
  IxA x1.a x1.n t21 1 fun ad1=>(∃ x2:ByteArray,hcell H8 ad1=some (.string x2)∧CallF Tryz.prog 72 #[.string x2,.pointer (some ⟨bM,0,none⟩)] H8 (fun r H9=>
  ∃ y:Option Addr,r = .pointer y∧nilck y fun ad2=>(StL (Addr.add ad2 2) 0 [.bool true] H9 fun H10=>
  (∃ m5,m5 < m4∧I1 (w64 (t21+1)) H10 m5))) Z))∧((decide (t21 < (x1.n:Int)))=false→∃ x3:Int,hcell H8 ⟨bC,0,none⟩=some (.int .i64 x3) ∧
  (((x3 == 1)=true→∃ x4:ByteArray,hcell H8 ⟨bC,1,none⟩=some (.string x4)∧∃ x5:ByteArray,hcell H8 ⟨bC,1,none⟩=some (.string x5) ∧
  ∃ (x_a1:Int) (x_b1 x_c1:ByteArray) (x_d1:Int) (x_e1:ByteArray) (x_f1:Sl),(W24_2 H8 bC x_a1 x_b1 x_c1 x_d1 x_e1 x_f1)∧((CallF Tryz.prog 72 #[.string x4,.pointer (some ⟨bM,0,none⟩)] H8 (fun r1 H11=>∃ y1:Option Addr,r1 = .pointer y1 ∧
  ((W24_2 H11 bC x_a1 x_b1 x_c1 x_d1 x_e1 x_f1)∧(hcell H11 ⟨bC,1,none⟩=some (.string x5)∧((CallF Tryz.prog 72 #[.string x5,.pointer (some ⟨bM,0,none⟩)] H11 (fun r2 H12=>
  ∃ y2:Option Addr,r2 = .pointer y2∧((W24_2 H12 bC x_a1 x_b1 x_c1 x_d1 x_e1 x_f1)∧nilck y2 fun ad3=>(∃ x6:Sl,hcell H12 ad3=some (.slice x6.a x6.n x6.c)∧∀ b1 H13,Newb H12 (.cells #[.int .i64 x_a1,.string x_b1,.string x_c1,.int .i64 x_d1,.string x_e1,.slice x_f1.a x_f1.n x_f1.c] 36) b1 H13 →
  (hcell H13 ad3=some (.slice x6.a x6.n x6.c)∧App Tryz.prog #[24,24] 24 H13 [.slice x6.a x6.n x6.c,.slice (some ⟨b1,0,none⟩) 1 1] fun ap H14=>
  (nilck y1 fun ad4=>(StL ad4 0 [.slice ap.a ap.n ap.c] H14 fun H15=>(∃ m2,m2 < m1∧I (w64 (t14+1)) H15 m2))))))) Z) ∧
  (∀ b2 H16,Newb H11 (.cells #[.int .i64 x_a1,.string x_b1,.string x_c1,.int .i64 x_d1,.string x_e1,.slice x_f1.a x_f1.n x_f1.c] 36) b2 H16 →
  (hcell H16 ⟨bC,1,none⟩=some (.string x5)∧CallF Tryz.prog 72 #[.string x5,.pointer (some ⟨bM,0,none⟩)] H16 (fun r3 H17=>
  ∃ y3:Option Addr,r3 = .pointer y3∧nilck y3 fun ad5=>(∃ x7:Sl,hcell H17 ad5=some (.slice x7.a x7.n x7.c) ∧
  App Tryz.prog #[24,24] 24 H17 [.slice x7.a x7.n x7.c,.slice (some ⟨b2,0,none⟩) 1 1] fun ap1 H18=>
  (nilck y1 fun ad6=>(StL ad6 0 [.slice ap1.a ap1.n ap1.c] H18 fun H19=>(∃ m2,m2 < m1∧I (w64 (t14+1)) H19 m2))))) Z)))))) Z) ∧
  (∀ b3 H20,Newb H8 (.cells #[.int .i64 x_a1,.string x_b1,.string x_c1,.int .i64 x_d1,.string x_e1,.slice x_f1.a x_f1.n x_f1.c] 36) b3 H20 →
  (hcell H20 ⟨bC,1,none⟩=some (.string x5)∧(hcell H20 ⟨bC,1,none⟩=some (.string x4)∧CallF Tryz.prog 72 #[.string x4,.pointer (some ⟨bM,0,none⟩)] H20 (fun r4 H21=>
  ∃ y4:Option Addr,r4 = .pointer y4∧(hcell H21 ⟨bC,1,none⟩=some (.string x5)∧CallF Tryz.prog 72 #[.string x5,.pointer (some ⟨bM,0,none⟩)] H21 (fun r5 H22=>
  ∃ y5:Option Addr,r5 = .pointer y5∧nilck y5 fun ad7=>(∃ x8:Sl,hcell H22 ad7=some (.slice x8.a x8.n x8.c) ∧
  App Tryz.prog #[24,24] 24 H22 [.slice x8.a x8.n x8.c,.slice (some ⟨b3,0,none⟩) 1 1] fun ap2 H23=>
  (nilck y4 fun ad8=>(StL ad8 0 [.slice ap2.a ap2.n ap2.c] H23 fun H24=>(∃ m2,m2 < m1∧I (w64 (t14+1)) H24 m2))))) Z)) Z))))) ∧
  ((x3 == 1)=false→(((x3 == 2)=true→∃ x9:ByteArray,hcell H8 ⟨bC,1,none⟩=some (.string x9) ∧
  ∃ x10:ByteArray,hcell H8 ⟨bC,1,none⟩=some (.string x10)∧∃ (x_a2:Int) (x_b2 x_c2:ByteArray) (x_d2:Int) (x_e2:ByteArray) (x_f2:Sl),(W24_2 H8 bC x_a2 x_b2 x_c2 x_d2 x_e2 x_f2)∧((CallF Tryz.prog 72 #[.string x9,.pointer (some ⟨bM,0,none⟩)] H8 (fun r6 H25=>∃ y6:Option Addr,r6 = .pointer y6 ∧
  ((W24_2 H25 bC x_a2 x_b2 x_c2 x_d2 x_e2 x_f2)∧(hcell H25 ⟨bC,1,none⟩=some (.string x10)∧((CallF Tryz.prog 72 #[.string x10,.pointer (some ⟨bM,0,none⟩)] H25 (fun r7 H26=>
  ∃ y7:Option Addr,r7 = .pointer y7∧((W24_2 H26 bC x_a2 x_b2 x_c2 x_d2 x_e2 x_f2)∧nilck y7 fun ad9=>(∃ x11:Sl,hcell H26 ad9=some (.slice x11.a x11.n x11.c)∧∀ b4 H27,Newb H26 (.cells #[.int .i64 x_a2,.string x_b2,.string x_c2,.int .i64 x_d2,.string x_e2,.slice x_f2.a x_f2.n x_f2.c] 36) b4 H27 →
  (hcell H27 ad9=some (.slice x11.a x11.n x11.c)∧App Tryz.prog #[24,24] 24 H27 [.slice x11.a x11.n x11.c,.slice (some ⟨b4,0,none⟩) 1 1] fun ap3 H28=>
  (W24_1 y6 ap3 H28 bC bM m1 I t14 Z))))) Z) ∧
  (∀ b8 H50,Newb H25 (.cells #[.int .i64 x_a2,.string x_b2,.string x_c2,.int .i64 x_d2,.string x_e2,.slice x_f2.a x_f2.n x_f2.c] 36) b8 H50 →
  (hcell H50 ⟨bC,1,none⟩=some (.string x10)∧CallF Tryz.prog 72 #[.string x10,.pointer (some ⟨bM,0,none⟩)] H50 (fun r16 H51=>
  ∃ y16:Option Addr,r16 = .pointer y16∧nilck y16 fun ad20=>(∃ x26:Sl,hcell H51 ad20=some (.slice x26.a x26.n x26.c) ∧
  App Tryz.prog #[24,24] 24 H51 [.slice x26.a x26.n x26.c,.slice (some ⟨b8,0,none⟩) 1 1] fun ap7 H52=>
  (W24_1 y6 ap7 H52 bC bM m1 I t14 Z))) Z)))))) Z) ∧
  (∀ b12 H74,Newb H8 (.cells #[.int .i64 x_a2,.string x_b2,.string x_c2,.int .i64 x_d2,.string x_e2,.slice x_f2.a x_f2.n x_f2.c] 36) b12 H74 →
  (hcell H74 ⟨bC,1,none⟩=some (.string x10)∧(hcell H74 ⟨bC,1,none⟩=some (.string x9)∧CallF Tryz.prog 72 #[.string x9,.pointer (some ⟨bM,0,none⟩)] H74 (fun r25 H75=>
  ∃ y25:Option Addr,r25 = .pointer y25∧(hcell H75 ⟨bC,1,none⟩=some (.string x10)∧CallF Tryz.prog 72 #[.string x10,.pointer (some ⟨bM,0,none⟩)] H75 (fun r26 H76=>
  ∃ y26:Option Addr,r26 = .pointer y26∧nilck y26 fun ad31=>(∃ x41:Sl,hcell H76 ad31=some (.slice x41.a x41.n x41.c) ∧
  App Tryz.prog #[24,24] 24 H76 [.slice x41.a x41.n x41.c,.slice (some ⟨b12,0,none⟩) 1 1] fun ap11 H77=>
  (W24_1 y25 ap11 H77 bC bM m1 I t14 Z))) Z)) Z))))) ∧
  ((x3 == 2)=false→∃ x56:ByteArray,hcell H8 ⟨bC,1,none⟩=some (.string x56)∧CallF Tryz.prog 72 #[.string x56,.pointer (some ⟨bM,0,none⟩)] H8 (fun r35 H99=>
  ∃ y35:Option Addr,r35 = .pointer y35∧nilck y35 fun ad42=>(StL (Addr.add ad42 2) 0 [.bool true] H99 fun H100=>
  (∃ x57:ByteArray,hcell H100 ⟨bC,2,none⟩=some (.string x57)∧CallF Tryz.prog 72 #[.string x57,.pointer (some ⟨bM,0,none⟩)] H100 (fun r36 H101=>
  ∃ y36:Option Addr,r36 = .pointer y36∧nilck y36 fun ad43=>(StL (Addr.add ad43 2) 0 [.bool true] H101 fun H102=>
  (∃ m2,m2 < m1∧I (w64 (t14+1)) H102 m2))) Z))) Z)))))))))∧((decide (t14 < (x.n:Int)))=false →
  ∃ x58:Option Nat,hcell H5 ⟨bM,0,none⟩=some (.map x58)∧K (.map x58) H5)))
def aJ24:Ann:=(fun k=>if k=2000015 then some [] else if k=2000017 then some [] else if k=2000018 then some [] else none)
def aL24:Ann:=(fun k=>if k=4 then some [(14,(.sc (.int .i64)))] else if k=7 then some [(21,(.sc (.int .i64)))] else none)
theorem V24_ok {H s_a s_b s_c K Z} (h:V24 H s_a s_b s_c K Z):CallF Tryz.prog 24 #[.agg #[.slice s_a.a s_a.n s_a.c,.slice s_b.a s_b.n s_b.c,.slice s_c.a s_c.n s_c.c]] H K Z:=
 fnC_sound (aJ:=aJ24) (aL:=aL24) (Eq.mp (by kernel_rfl) h)
def V72 (H:Hp) (n:ByteArray) (cap0:Addr) (K:Value→Hp→Prop) (Z:List PanicEntry→Hp→Prop):Prop:=
 ∃ x:Option Nat,hcell H cap0=some (.map x)∧Lkp Tryz.prog 66 H (.map x) (.string n) true fun r H1=>
  ∃ (y_0:Option Addr) (y_1:Bool),r = .tuple #[.pointer y_0,.bool y_1]∧(((!y_1)=true→∀ b H2,Newb H1 (.cells #[.slice none 0 0,.slice none 0 0,.bool false] 121) b H2 →
  ∃ x1:Option Nat,hcell H2 cap0=some (.map x1)∧MUp Tryz.prog 66 H2 (.map x1) (.string n) (.pointer (some ⟨b,0,none⟩)) fun H3=>
  (K (.pointer (some ⟨b,0,none⟩)) H3))∧((!y_1)=false→K (.pointer y_0) H1))
theorem V72_ok {H n cap0 K Z} (h:V72 H n cap0 K Z):CallF Tryz.prog 72 #[.string n,.pointer (some cap0)] H K Z:=
 fnC_sound (aJ:=fun _=>none) (aL:=fun _=>none) (Eq.mp (by kernel_rfl) h)
def V27 (H:Hp) (u:Option Addr) (K:Value→Hp→Prop) (Z:List PanicEntry→Hp→Prop):Prop:=
 (((Option.isNone u)=true→K (.bool false) H)∧((Option.isNone u)=false→nilck u fun ad=>(∃ x:Bool,hcell H (Addr.add ad 2)=some (.bool x) ∧
  ((x=true→K (.bool false) H)∧(x=false→nilck u fun ad1=>(∃ x1:Sl,hcell H ad1=some (.slice x1.a x1.n x1.c) ∧
  nilck u fun ad2=>(∃ x2:Sl,hcell H (Addr.add ad2 1)=some (.slice x2.a x2.n x2.c)∧K (.bool (decide ((w64 ((x1.n:Int)*(x2.n:Int)))≤(w64 ((x1.n:Int)+(x2.n:Int)))))) H)))))))
theorem V27_ok {H u K Z} (h:V27 H u K Z):CallF Tryz.prog 27 #[.pointer u] H K Z:=
 fnC_sound (aJ:=fun _=>none) (aL:=fun _=>none) (Eq.mp (by kernel_rfl) h)
def V76 (H:Hp) (u:Addr) (K:Value→Hp→Prop) (Z:List PanicEntry→Hp→Prop):Prop:=
 ∀ bU H1,Newb H (.cells #[.pointer (some u)] 69) bU H1→K (.func (.func 132) #[] #[.pointer (some ⟨bU,0,none⟩)]) H1
theorem V76_ok {H u K Z} (h:V76 H u K Z):CallF Tryz.prog 76 #[.pointer (some u)] H K Z:=
 fnC_sound (aJ:=fun _=>none) (aL:=fun _=>none) (Eq.mp (by kernel_rfl) h)
def V132 (H:Hp) (yield:Value) (cap0:Addr) (K:Value→Hp→Prop) (Z:List PanicEntry→Hp→Prop):Prop:=
 ∃ x:Option Addr,hcell H cap0=some (.pointer x)∧nilck x fun ad=>(∃ x1:Sl,hcell H ad=some (.slice x1.a x1.n x1.c) ∧
  ∃ I:Int→Hp→Nat→Prop,(∃ m,I 0 H m)∧∀ (t12:Int),∀ H1 m1,I t12 H1 m1→∀ scr:Nat →
  Value,(((decide (t12 < (x1.n:Int)))=true→IxA x1.a x1.n t12 6 fun ad1=>(∃ (x_a:Int) (x_b x_c:ByteArray) (x_d:Int) (x_e:ByteArray) (x_f:Sl),(hcell H1 ad1=some (.int .i64 x_a) ∧
  hcell H1 (Addr.add ad1 1)=some (.string x_b)∧hcell H1 (Addr.add ad1 2)=some (.string x_c) ∧
  hcell H1 (Addr.add ad1 3)=some (.int .i64 x_d)∧hcell H1 (Addr.add ad1 4)=some (.string x_e) ∧
  hcell H1 (Addr.add ad1 5)=some (.slice x_f.a x_f.n x_f.c)∧True)∧∀ bC H2,Newb H1 (.cells #[.int .i64 0,.string ⟨#[]⟩,.string ⟨#[]⟩,.int .i64 0,.string ⟨#[]⟩,.slice none 0 0] 36) bC H2 →
  StL ⟨bC,0,none⟩ 0 [.int .i64 x_a,.string x_b,.string x_c,.int .i64 x_d,.string x_e,.slice x_f.a x_f.n x_f.c] H2 fun H3=>
  (∃ x2:Option Addr,hcell H3 cap0=some (.pointer x2)∧nilck x2 fun ad2=>(∃ x3:Sl,hcell H3 (Addr.add ad2 1)=some (.slice x3.a x3.n x3.c) ∧
  ∃ I1:Int→Hp→Nat→Prop,(∃ m3,I1 0 H3 m3)∧∀ (t21:Int),∀ H4 m4,I1 t21 H4 m4→∀ scr1:Nat →
  Value,(((decide (t21 < (x3.n:Int)))=true→IxA x3.a x3.n t21 6 fun ad3=>(∃ (x_a1:Int) (x_b1 x_c1:ByteArray) (x_d1:Int) (x_e1:ByteArray) (x_f1:Sl),(hcell H4 ad3=some (.int .i64 x_a1) ∧
  hcell H4 (Addr.add ad3 1)=some (.string x_b1)∧hcell H4 (Addr.add ad3 2)=some (.string x_c1) ∧
  hcell H4 (Addr.add ad3 3)=some (.int .i64 x_d1)∧hcell H4 (Addr.add ad3 4)=some (.string x_e1) ∧
  hcell H4 (Addr.add ad3 5)=some (.slice x_f1.a x_f1.n x_f1.c)∧True)∧∀ bOut H5,Newb H4 (.cells #[.int .i64 0,.string ⟨#[]⟩,.string ⟨#[]⟩,.int .i64 0,.string ⟨#[]⟩,.slice none 0 0] 36) bOut H5 →
  StL ⟨bOut,0,none⟩ 0 [.int .i64 x_a1,.string x_b1,.string x_c1,.int .i64 x_d1,.string x_e1,.slice x_f1.a x_f1.n x_f1.c] H5 fun H6=>
  (∃ x4:ByteArray,hcell H6 ⟨bOut,1,none⟩=some (.string x4)∧StL ⟨bC,1,none⟩ 0 [.string x4] H6 fun H7=>
  (∃ x5:Int,hcell H7 ⟨bC,0,none⟩=some (.int .i64 x5)∧(((x5 != 2)=true→∃ (x_a2:Int) (x_b2 x_c2:ByteArray) (x_d2:Int) (x_e2:ByteArray) (x_f2:Sl),(hcell H7 ⟨bC,0,none⟩=some (.int .i64 x_a2) ∧
  hcell H7 ⟨bC,1,none⟩=some (.string x_b2)∧hcell H7 ⟨bC,2,none⟩=some (.string x_c2)∧hcell H7 ⟨bC,3,none⟩=some (.int .i64 x_d2) ∧
  hcell H7 ⟨bC,4,none⟩=some (.string x_e2)∧hcell H7 ⟨bC,5,none⟩=some (.slice x_f2.a x_f2.n x_f2.c) ∧
  True)∧callV Tryz.prog yield [.agg #[.int .i64 x_a2,.string x_b2,.string x_c2,.int .i64 x_d2,.string x_e2,.slice x_f2.a x_f2.n x_f2.c]] H7 (fun r H8=>
  ∃ y:Bool,r = .bool y∧(((!y)=true→K (.tuple #[]) H8)∧((!y)=false→(∃ m5,m5 < m4∧I1 (w64 (t21+1)) H8 m5)))) Z) ∧
  ((x5 != 2)=false→∃ x6:ByteArray,hcell H7 ⟨bC,1,none⟩=some (.string x6)∧∃ x7:ByteArray,hcell H7 ⟨bC,2,none⟩=some (.string x7) ∧
  (((!(beqS x6 x7))=true→∃ (x_a3:Int) (x_b3 x_c3:ByteArray) (x_d3:Int) (x_e3:ByteArray) (x_f3:Sl),(hcell H7 ⟨bC,0,none⟩=some (.int .i64 x_a3) ∧
  hcell H7 ⟨bC,1,none⟩=some (.string x_b3)∧hcell H7 ⟨bC,2,none⟩=some (.string x_c3)∧hcell H7 ⟨bC,3,none⟩=some (.int .i64 x_d3) ∧
  hcell H7 ⟨bC,4,none⟩=some (.string x_e3)∧hcell H7 ⟨bC,5,none⟩=some (.slice x_f3.a x_f3.n x_f3.c) ∧
  True)∧callV Tryz.prog yield [.agg #[.int .i64 x_a3,.string x_b3,.string x_c3,.int .i64 x_d3,.string x_e3,.slice x_f3.a x_f3.n x_f3.c]] H7 (fun r1 H9=>
  ∃ y1:Bool,r1 = .bool y1∧(((!y1)=true→K (.tuple #[]) H9)∧((!y1)=false→(∃ m5,m5 < m4 ∧
  I1 (w64 (t21+1)) H9 m5)))) Z)∧((!(beqS x6 x7))=false→(∃ m5,m5 < m4∧I1 (w64 (t21+1)) H7 m5))))))))) ∧
  ((decide (t21 < (x3.n:Int)))=false→(∃ m2,m2 < m1∧I (w64 (t12+1)) H4 m2)))))))∧((decide (t12 < (x1.n:Int)))=false →
  K (.tuple #[]) H1)))
def aL132:Ann:=(fun k=>if k=1 then some [(12,(.sc (.int .i64)))] else if k=4 then some [(21,(.sc (.int .i64)))] else none)
theorem V132_ok {H yield cap0 K Z} (h:V132 H yield cap0 K Z):CallF Tryz.prog 132 #[yield,.pointer (some cap0)] H K Z:=
 fnC_sound (aJ:=fun _=>none) (aL:=aL132) (Eq.mp (by kernel_rfl) h)
def V28 (H:Hp) (u:Addr) (s_a s_b s_c:Sl) (node:ByteArray) (K:Value→Hp→Prop) (Z:List PanicEntry→Hp→Prop):Prop:=
 ∀ bS H1,Newb H (.cells #[.slice s_a.a s_a.n s_a.c,.slice s_b.a s_b.n s_b.c,.slice s_c.a s_c.n s_c.c] 26) bS H1 →
  ∀ bNode H2,Newb H1 (.cells #[.string node] 9) bNode H2→∀ b H3,Newb H2 (.cells #[.slice none 0 0,.slice none 0 0,.slice none 0 0] 26) b H3 →
  ∃ x:Sl,hcell H3 ⟨bS,2,none⟩=some (.slice x.a x.n x.c)∧CallF Tryz.prog 74 #[.slice x.a x.n x.c] H3 (fun r H4=>
  ∃ y:Sl,r = .slice y.a y.n y.c∧CallF Tryz.prog 73 #[.slice y.a y.n y.c,.func (.func 75) #[] #[.pointer (some ⟨bNode,0,none⟩)]] H4 (fun r1 H5=>
  ∃ y1:Sl,r1 = .slice y1.a y1.n y1.c∧∀ bL H6,Newb H5 (.cells #[.slice none 0 0] 24) bL H6→StL ⟨bL,0,none⟩ 0 [.slice y1.a y1.n y1.c] H6 fun H7=>
  (CallF Tryz.prog 76 #[.pointer (some u)] H7 (fun r2 H8=>∃ y2:Value,r2=y2∧∀ D H9,Newb H8 (.deferred (some [])) D H9 →
  ∀ l H10,Newb H9 (.loop (lrec Tryz.f28 28 3 [.pointer (some u),.agg #[.slice s_a.a s_a.n s_a.c,.slice s_b.a s_b.n s_b.c,.slice s_c.a s_c.n s_c.c],.string node,undef,.pointer (some ⟨bS,0,none⟩),.pointer (some ⟨bNode,0,none⟩),.pointer (some ⟨b,0,none⟩),.pointer (some ⟨bL,0,none⟩),undef,.pointer (some ⟨bS,2,none⟩),.slice x.a x.n x.c,.slice y.a y.n y.c,.func (.func 75) #[] #[.pointer (some ⟨bNode,0,none⟩)],.slice y1.a y1.n y1.c,.pointer (some u),y2,undef,undef,undef,undef,undef,undef,undef,undef,undef,undef,undef,undef] D)) l H10 →
  callG Tryz.prog y2 [.func (.yield l) #[] #[]] H10 (fun _ H11=>endLoopK l H11 fun j H12=>jmpV j (∃ x1:Sl,hcell H12 ⟨bS,0,none⟩=some (.slice x1.a x1.n x1.c) ∧
  ∃ x2:Sl,hcell H12 ⟨bS,1,none⟩=some (.slice x2.a x2.n x2.c)∧∃ x3:Sl,hcell H12 ⟨bL,0,none⟩=some (.slice x3.a x3.n x3.c) ∧
  CallF Tryz.prog 23 #[.agg #[.slice x1.a x1.n x1.c,.slice x2.a x2.n x2.c,.slice x3.a x3.n x3.c]] H12 (fun r3 H13=>
  ∃ y_a y_b y_c:Sl,r3 = .agg #[.slice y_a.a y_a.n y_a.c,.slice y_b.a y_b.n y_b.c,.slice y_c.a y_c.n y_c.c] ∧
  StL ⟨b,0,none⟩ 0 [.slice y_a.a y_a.n y_a.c,.slice y_b.a y_b.n y_b.c,.slice y_c.a y_c.n y_c.c] H13 fun H14=>
  (H14[D]? = some (.deferred (some []))∧∀ H15,H15=H14.setIfInBounds D (.deferred none)→(∃ res_a res_b res_c:Sl,(hcell H15 ⟨b,0,none⟩=some (.slice res_a.a res_a.n res_a.c) ∧
  hcell H15 ⟨b,1,none⟩=some (.slice res_b.a res_b.n res_b.c)∧hcell H15 ⟨b,2,none⟩=some (.slice res_c.a res_c.n res_c.c) ∧
  True)∧K (.agg #[.slice res_a.a res_a.n res_a.c,.slice res_b.a res_b.n res_b.c,.slice res_c.a res_c.n res_c.c]) H15))) (fun _ _=>
  False)) (False) fun id=>False) (fun _ _=>False)) Z)) Z) Z
def aJ28:Ann:=(fun _=>none)
def aL28:Ann:=(fun _=>none)
theorem V28_ok {H u s_a s_b s_c node K Z} (h:V28 H u s_a s_b s_c node K Z):CallF Tryz.prog 28 #[.pointer (some u),.agg #[.slice s_a.a s_a.n s_a.c,.slice s_b.a s_b.n s_b.c,.slice s_c.a s_c.n s_c.c],.string node] H K Z:=
 fnC_sound (aJ:=aJ28) (aL:=aL28) (Eq.mp (by kernel_rfl) h)
def R28_3 (H16:Hp) (bL l1:Nat) (y16_a:Int) (y16_b y16_c:ByteArray) (y16_d:Int) (y16_e:ByteArray) (y16_f:Sl) (K:Value→Hp→Prop):Prop:=
 ∀ bC H17,Newb H16 (.cells #[.int .i64 0,.string ⟨#[]⟩,.string ⟨#[]⟩,.int .i64 0,.string ⟨#[]⟩,.slice none 0 0] 36) bC H17 →
  StL ⟨bC,0,none⟩ 0 [.int .i64 y16_a,.string y16_b,.string y16_c,.int .i64 y16_d,.string y16_e,.slice y16_f.a y16_f.n y16_f.c] H17 fun H18=>
  (∃ r4,H18[l1]? = some (.loop r4)∧r4.state = .ready∧∀ H19,H19=H18.setIfInBounds l1 (.loop { r4 with state:=.busy }) →
  ∃ x4:Sl,hcell H19 ⟨bL,0,none⟩=some (.slice x4.a x4.n x4.c)∧∃ (x_a:Int) (x_b x_c:ByteArray) (x_d:Int) (x_e:ByteArray) (x_f:Sl),(hcell H19 ⟨bC,0,none⟩=some (.int .i64 x_a) ∧
  hcell H19 ⟨bC,1,none⟩=some (.string x_b)∧hcell H19 ⟨bC,2,none⟩=some (.string x_c)∧hcell H19 ⟨bC,3,none⟩=some (.int .i64 x_d) ∧
  hcell H19 ⟨bC,4,none⟩=some (.string x_e)∧hcell H19 ⟨bC,5,none⟩=some (.slice x_f.a x_f.n x_f.c) ∧
  True)∧∀ b1 H20,Newb H19 (.cells #[.int .i64 x_a,.string x_b,.string x_c,.int .i64 x_d,.string x_e,.slice x_f.a x_f.n x_f.c] 36) b1 H20 →
  App Tryz.prog #[24,24] 24 H20 [.slice x4.a x4.n x4.c,.slice (some ⟨b1,0,none⟩) 1 1] fun ap H21=>
  (StL ⟨bL,0,none⟩ 0 [.slice ap.a ap.n ap.c] H21 fun H22=>(endR l1 none H22 K)))
theorem R28_3_ok {H16:Hp}{bL:Nat}{l1:Nat}{y16_a:Int}{y16_b:ByteArray}{y16_c:ByteArray}{y16_d:Int}{y16_e:ByteArray}{y16_f:Sl}{u0 u1 u2 u3 u4 u5 u6 u8 u9 u10 u11 u12 u13 u14 u15 u16 u17 u18 u19 u20 u21 u22 u23 u24 u25 u26 u27:Value}{K:Value→Hp→Prop}(h:R28_3 H16 bL l1 y16_a y16_b y16_c y16_d y16_e y16_f K):yldC Tryz.prog aJ28 aL28 Tryz.f28 28 3 l1 [u0,u1,u2,u3,u4,u5,u6,.pointer (some ⟨bL,0,none⟩),u8,u9,u10,u11,u12,u13,u14,u15,u16,u17,u18,u19,u20,u21,u22,u23,u24,u25,u26,u27] [.agg #[.int .i64 y16_a,.string y16_b,.string y16_c,.int .i64 y16_d,.string y16_e,.slice y16_f.a y16_f.n y16_f.c]] H16 K:=Eq.mp (by kernel_rfl) h
def V75 (H:Hp) (c_a:Int) (c_b c_c:ByteArray) (c_d:Int) (c_e:ByteArray) (c_f:Sl) (cap0:Addr) (K:Value→Hp→Prop) (Z:List PanicEntry→Hp→Prop):Prop:=
 ∀ bC H1,Newb H (.cells #[.int .i64 c_a,.string c_b,.string c_c,.int .i64 c_d,.string c_e,.slice c_f.a c_f.n c_f.c] 36) bC H1 →
  ∃ x:ByteArray,hcell H1 ⟨bC,1,none⟩=some (.string x)∧∃ x1:ByteArray,hcell H1 cap0=some (.string x1) ∧
  (((beqS x x1)=true→K (.bool true) H1)∧((beqS x x1)=false→∃ x2:ByteArray,hcell H1 ⟨bC,2,none⟩=some (.string x2) ∧
  ∃ x3:ByteArray,hcell H1 cap0=some (.string x3)∧(((beqS x2 x3)=true→∃ x4:Int,hcell H1 ⟨bC,0,none⟩=some (.int .i64 x4) ∧
  K (.bool (x4 != 1)) H1)∧((beqS x2 x3)=false→K (.bool false) H1))))
theorem V75_ok {H c_a c_b c_c c_d c_e c_f cap0 K Z} (h:V75 H c_a c_b c_c c_d c_e c_f cap0 K Z):CallF Tryz.prog 75 #[.agg #[.int .i64 c_a,.string c_b,.string c_c,.int .i64 c_d,.string c_e,.slice c_f.a c_f.n c_f.c],.pointer (some cap0)] H K Z:=
 fnC_sound (aJ:=fun _=>none) (aL:=fun _=>none) (Eq.mp (by kernel_rfl) h)
def V19 (H:Hp) (s:Sl) (del:Value) (K:Value→Hp→Prop) (Z:List PanicEntry→Hp→Prop):Prop:=
 CallF Tryz.prog 25 #[.slice s.a s.n s.c,del] H (fun r H1=>∃ y:Int,r = .int .i64 y∧(((y == (-1))=true →
  K (.slice s.a s.n s.c) H1)∧((y == (-1))=false→∃ I:Int→Int→Hp→Nat→Prop,(∃ m,I y (w64 (y+1)) H1 m) ∧
  ∀ (i:Int) (j:Int),∀ H2 m1,I i j H2 m1→∀ scr:Nat→Value,(((decide (j < (s.n:Int)))=true →
  IxA s.a s.n j 1 fun ad=>(∃ x:ByteArray,hcell H2 ad=some (.string x)∧callV Tryz.prog del [.string x] H2 (fun r1 H3=>
  ∃ y1:Bool,r1 = .bool y1∧(((!y1)=true→IxA s.a s.n i 1 fun ad1=>(StL ad1 0 [.string x] H3 fun H4=>
  (∃ m2,m2 < m1∧I (w64 (i+1)) (w64 (j+1)) H4 m2)))∧((!y1)=false→(∃ m2,m2 < m1∧I i (w64 (j+1)) H3 m2)))) Z)) ∧
  ((decide (j < (s.n:Int)))=false→(s.n≤s.c∧SlX s.a s.c i (s.n:Int) 1 fun cut=>(Blt Tryz.prog .clear #[27] 0 #[false] H2 [.slice cut.a cut.n cut.c] fun r2 H5=>
  r2 = .tuple #[]∧(s.n≤s.c∧SlX s.a s.c 0 i 1 fun cut1=>(K (.slice cut1.a cut1.n cut1.c) H5))))))))) Z
def aL19:Ann:=(fun k=>if k=5 then some [(5,(.sc (.int .i64))),(6,(.sc (.int .i64)))] else none)
theorem V19_ok {H s del K Z} (h:V19 H s del K Z):CallF Tryz.prog 19 #[.slice s.a s.n s.c,del] H K Z:=
 fnC_sound (aJ:=fun _=>none) (aL:=aL19) (Eq.mp (by kernel_rfl) h)
def V25 (H:Hp) (s:Sl) (f:Value) (K:Value→Hp→Prop) (Z:List PanicEntry→Hp→Prop):Prop:=
 ∃ I:Int→Hp→Nat→Prop,(∃ m,I 0 H m)∧∀ (t8:Int),∀ H1 m1,I t8 H1 m1→∀ scr:Nat→Value,(((decide (t8 < (s.n:Int)))=true →
  IxA s.a s.n t8 1 fun ad=>(∃ x:ByteArray,hcell H1 ad=some (.string x)∧callV Tryz.prog f [.string x] H1 (fun r H2=>
  ∃ y:Bool,r = .bool y∧((y=true→K (.int .i64 t8) H2)∧(y=false→(∃ m2,m2 < m1∧I (w64 (t8+1)) H2 m2)))) Z)) ∧
  ((decide (t8 < (s.n:Int)))=false→K (.int .i64 (-1)) H1))
def aL25:Ann:=(fun k=>if k=2 then some [(8,(.sc (.int .i64)))] else none)
theorem V25_ok {H s f K Z} (h:V25 H s f K Z):CallF Tryz.prog 25 #[.slice s.a s.n s.c,f] H K Z:=
 fnC_sound (aJ:=fun _=>none) (aL:=aL25) (Eq.mp (by kernel_rfl) h)
def V73 (H:Hp) (s:Sl) (del:Value) (K:Value→Hp→Prop) (Z:List PanicEntry→Hp→Prop):Prop:=
 CallF Tryz.prog 131 #[.slice s.a s.n s.c,del] H (fun r H1=>∃ y:Int,r = .int .i64 y∧(((y == (-1))=true →
  K (.slice s.a s.n s.c) H1)∧((y == (-1))=false→∃ I:Int→Int→Hp→Nat→Prop,(∃ m,I y (w64 (y+1)) H1 m) ∧
  ∀ (i:Int) (j:Int),∀ H2 m1,I i j H2 m1→∀ scr:Nat→Value,(((decide (j < (s.n:Int)))=true →
  IxA s.a s.n j 6 fun ad=>(∃ (x_a:Int) (x_b x_c:ByteArray) (x_d:Int) (x_e:ByteArray) (x_f:Sl),(hcell H2 ad=some (.int .i64 x_a) ∧
  hcell H2 (Addr.add ad 1)=some (.string x_b)∧hcell H2 (Addr.add ad 2)=some (.string x_c)∧hcell H2 (Addr.add ad 3)=some (.int .i64 x_d) ∧
  hcell H2 (Addr.add ad 4)=some (.string x_e)∧hcell H2 (Addr.add ad 5)=some (.slice x_f.a x_f.n x_f.c) ∧
  True)∧∀ bV H3,Newb H2 (.cells #[.int .i64 0,.string ⟨#[]⟩,.string ⟨#[]⟩,.int .i64 0,.string ⟨#[]⟩,.slice none 0 0] 36) bV H3 →
  StL ⟨bV,0,none⟩ 0 [.int .i64 x_a,.string x_b,.string x_c,.int .i64 x_d,.string x_e,.slice x_f.a x_f.n x_f.c] H3 fun H4=>
  (∃ (x_a1:Int) (x_b1 x_c1:ByteArray) (x_d1:Int) (x_e1:ByteArray) (x_f1:Sl),(hcell H4 ⟨bV,0,none⟩=some (.int .i64 x_a1) ∧
  hcell H4 ⟨bV,1,none⟩=some (.string x_b1)∧hcell H4 ⟨bV,2,none⟩=some (.string x_c1)∧hcell H4 ⟨bV,3,none⟩=some (.int .i64 x_d1) ∧
  hcell H4 ⟨bV,4,none⟩=some (.string x_e1)∧hcell H4 ⟨bV,5,none⟩=some (.slice x_f1.a x_f1.n x_f1.c) ∧
  True)∧callV Tryz.prog del [.agg #[.int .i64 x_a1,.string x_b1,.string x_c1,.int .i64 x_d1,.string x_e1,.slice x_f1.a x_f1.n x_f1.c]] H4 (fun r1 H5=>
  ∃ y1:Bool,r1 = .bool y1∧(((!y1)=true→∃ (x_a2:Int) (x_b2 x_c2:ByteArray) (x_d2:Int) (x_e2:ByteArray) (x_f2:Sl),(hcell H5 ⟨bV,0,none⟩=some (.int .i64 x_a2) ∧
  hcell H5 ⟨bV,1,none⟩=some (.string x_b2)∧hcell H5 ⟨bV,2,none⟩=some (.string x_c2)∧hcell H5 ⟨bV,3,none⟩=some (.int .i64 x_d2) ∧
  hcell H5 ⟨bV,4,none⟩=some (.string x_e2)∧hcell H5 ⟨bV,5,none⟩=some (.slice x_f2.a x_f2.n x_f2.c) ∧
  True)∧IxA s.a s.n i 6 fun ad1=>(StL ad1 0 [.int .i64 x_a2,.string x_b2,.string x_c2,.int .i64 x_d2,.string x_e2,.slice x_f2.a x_f2.n x_f2.c] H5 fun H6=>
  (∃ m2,m2 < m1∧I (w64 (i+1)) (w64 (j+1)) H6 m2)))∧((!y1)=false→(∃ m2,m2 < m1∧I i (w64 (j+1)) H5 m2)))) Z))) ∧
  ((decide (j < (s.n:Int)))=false→(s.n≤s.c∧SlX s.a s.c i (s.n:Int) 6 fun cut=>(Blt Tryz.prog .clear #[24] 0 #[false] H2 [.slice cut.a cut.n cut.c] fun r2 H7=>
  r2 = .tuple #[]∧(s.n≤s.c∧SlX s.a s.c 0 i 6 fun cut1=>(K (.slice cut1.a cut1.n cut1.c) H7))))))))) Z
def aL73:Ann:=(fun k=>if k=5 then some [(5,(.sc (.int .i64))),(6,(.sc (.int .i64)))] else none)
theorem V73_ok {H s del K Z} (h:V73 H s del K Z):CallF Tryz.prog 73 #[.slice s.a s.n s.c,del] H K Z:=
 fnC_sound (aJ:=fun _=>none) (aL:=aL73) (Eq.mp (by kernel_rfl) h)
end Go.Proofs.YtjdhjgfmloaglaaGreatDoor.N22
end
