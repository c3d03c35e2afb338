import Derived.Test.YtjdhjgfmloaglaaGreatDoorZ13
set_option linter.unusedVariables false
set_option linter.unusedSimpArgs false
section
namespace Go.Proofs.YtjdhjgfmloaglaaGreatDoor.C22
open Go Go.V Go.Proofs N22 P14 C14 P15 C15 P22
attribute [local irreducible] Cvt ExtF CallF hrun App MkS callV Lkp MUp
theorem tyCo:TyS Tryz.prog 24 36 6 88 (.agg #[.int .i64 0,.string ⟨#[]⟩,.string ⟨#[]⟩,.int .i64 0,.string ⟨#[]⟩,.slice none 0 0]):=⟨by kernel_rfl,by kernel_rfl,rfl,by decide⟩
theorem muMap:Tryz.prog.underlying 66=some (.map 9 69):=by kernel_rfl
theorem muStr:Tryz.prog.underlying 9=some .string:=by kernel_rfl
theorem muInf:∃ inf:TypeInfo,Tryz.prog.info? 69=some inf∧inf.zero=some (.pointer none)∧inf.size=1∧inf.bytes=8:=Go.V.info_of (by kernel_rfl)
def Lies (H0:Hp) (hs:List HC) (xs:List ConD):Prop:=hs.length=xs.length∧∀ (i:Nat) h x,hs[i]? = some h→xs[i]? = some x→InC H0 h x
theorem Lies.nil {H0:Hp}:Lies H0 [] []:=⟨rfl,by simp⟩
theorem Lies.snoc {H0:Hp}{hs:List HC}{xs:List ConD}{a:HC}{c:ConD}(h:Lies H0 hs xs) (hc:InC H0 a c):Lies H0 (hs ++ [a]) (xs ++ [c]):=by
 refine ⟨by rw [List.length_append,List.length_append,h.1];rfl,fun i u v hu hv=>?_⟩
 rw [List.getElem?_append] at hu hv
 rw [h.1] at hu
 split at hu
 ·rename_i hlt
  rw [if_pos hlt] at hv
  exact h.2 i u v hu hv
 ·rename_i hge
  rw [if_neg hge] at hv
  have hi:i - xs.length < 1:=(List.getElem?_eq_some_iff.1 hu).1
  have e0:i - xs.length=0:=by omega
  rw [e0] at hu hv
  rw [← Option.some_inj.1 hu,← Option.some_inj.1 hv]
  exact hc
abbrev Ue:=UE HC
def relU (H0:Hp) (u:Ue) (d:UD):Prop:=Lies H0 u.hi d.1∧Lies H0 u.ho d.2.1∧u.o=d.2.2
abbrev UMf (H0 H:Hp) (r:Nat) (us:List Ue) (R:List It):Prop:=UM flHC 36 6 121 H0 H r us R
structure US (H0 H:Hp) (r M:Nat) (us:List Ue) (F:UF) (R:List It):Prop where
 m:UMf H0 H r us R
 k:Keeps UD (relU H0) us F
 few:∀ u∈us,u.hi.length≤M∧u.ho.length≤M
section
variable {H0 A B:Hp}{r M bM k bC:Nat}{us:List Ue}{F:UF}{R R':List It}{n:L8}{K:Value→Hp→Prop}{Z:List PanicEntry→Hp→Prop}{Kc:Hp→Prop}{u:Ue}{j:Nat}{d:UD}{c:ConD}{t:Sl}
theorem US.fr (h:US H0 A r M us F R):Fr no H0 A:=h.m.fr
theorem US.dropR {a:It}(h:US H0 A r M us F (a::R)):US H0 A r M us F R:=⟨h.m.dropR,h.k,h.few⟩
theorem US.newb {b:Nat}{cs:List Value}{E:TypeId}(h:US H0 A r M us F R) (hn:Newb A (.cells cs.toArray E) b B):US H0 B r M us F (blk b cs E::R):=⟨h.m.newb hn,h.k,h.few⟩
theorem US.ldk {b:Nat}{cs:List Value}{E:TypeId}(h:US H0 A r M us F R) (hk:R[k]? = some (blk b cs E)) (i:Nat):hcell A ⟨b,i,none⟩=cs[i]?:=h.m.ldk hk i
theorem US.up {M':Nat}(h:US H0 A r M us F R) (hm:M≤M'):US H0 A r M' us F R:=⟨h.m,h.k,fun u hu=>by have:=h.few u hu;omega⟩
theorem US.lit {a:HC}{b:Nat}(h:US H0 A r M us F R) (hn:Newb A (.cells (flHC a).toArray 36) b B):US H0 B r M us F (arr flHC 36 6 ⟨some ⟨b,0,none⟩,1,1⟩ [a]::R):=by
 have hn':Newb A (.cells (flat flHC [a]).toArray 36) b B:=by rw [flat_sing];exact hn
 have s:=Sym.lit (Sym.start A) FlHC (by decide) hn' (show 1 = [a].length from rfl)
 have hok:=s.get (k:=0) rfl
 exact ⟨h.m.add hn.fr hok fun i hi=>(s.fp _ List.mem_cons_self i hi).resolve_left id,h.k,h.few⟩
theorem upd_touch {g:UD→UD}:(fun z=>if z=n then some (g ((F n).getD ([],[],false))) else updU F n id z)=updU F n g:=by
 funext z
 unfold updU
 by_cases h:z=n
 ·rw [if_pos h,if_pos h]
 ·rw [if_neg h,if_neg h,if_neg h]
theorem upd_at:updU F n id n=some ((F n).getD ([],[],false)):=by
 unfold updU
 rw [if_pos rfl]
 rfl
theorem upd_some {d:UD}(h:F n=some d):updU F n id=F:=by
 funext z
 unfold updU
 by_cases hz:z=n
 ·rw [if_pos hz,hz,h]
  rfl
 ·rw [if_neg hz]
theorem of_ok (h:US H0 A r M us F R) (hk:R[k]? = some (blk bM [.map (some r)] 66))
  (kk:∀ (us':List Ue) (j:Nat) (u:Ue) B,US H0 B r M us' (updU F n id) R→us'[j]? = some u→u.n=n→K (.pointer (some ⟨u.b,0,none⟩)) B):CallF Tryz.prog 72 #[.string (str n),.pointer (some ⟨bM,0,none⟩)] A K Z:=by
 refine V72_ok ?_
 unfold V72
 obtain ⟨inf,i1,i2,i3,i4⟩:=muInf
 refine ⟨some r,h.ldk hk 0,Sym.lkp (k:=0) (ok:=true) (q:=n) h.m rfl muMap muStr i1 i2 ?_⟩
 cases hf:findI (keysU us) n 0 with
 | some x=>
  obtain ⟨j,b⟩:=x
  obtain ⟨u,hu,hn,hb⟩:=keysU_at hf
  refine ⟨some ⟨b,0,none⟩,true,rfl,(fun h=>by cases h),fun _=>?_⟩
  rw [← hb]
  refine kk us j u A ⟨h.m,?_,h.few⟩ hu hn
  obtain ⟨d,hd,_⟩:=h.k.at_ u (List.mem_of_getElem? hu)
  rw [hn] at hd
  rw [upd_some hd]
  exact h.k
 | none=>
  refine ⟨none,false,rfl,fun _ b B hB=>?_,(fun h=>by cases h)⟩
  have hB':=h.newb (cs:=[.slice none 0 0,.slice none 0 0,.bool false]) hB
  refine ⟨some r,hB'.ldk (k:=k+1) (by rw [List.getElem?_cons_succ];exact hk) 0,UM.push hB'.m muMap muStr hf fun C hC=>?_⟩
  have hno:=keysU_none hf
  have hFn:F n=none:=by
   cases hF:F n with
   | none=>rfl
   | some d=>
    obtain ⟨u,hu,e⟩:=h.k.all n (by rw [hF];simp)
    exact absurd e (hno u hu)
  refine kk _ us.length ⟨n,b,⟨none,0,0⟩,⟨none,0,0⟩,[],[],false⟩ C ⟨hC,?_,fun u hu=>?_⟩ (by simp) rfl
  ·have e:updU F n id=fun z=>if z=n then some ([],[],false) else F z:=by
    funext z
    unfold updU
    rw [hFn]
    rfl
   rw [e]
   exact h.k.push (u:=⟨n,b,⟨none,0,0⟩,⟨none,0,0⟩,[],[],false⟩) hno ⟨Lies.nil,Lies.nil,rfl⟩
  ·rcases List.mem_append.1 hu with hu | hu
   ·exact h.few u hu
   ·rw [List.mem_singleton.1 hu]
    exact ⟨Nat.zero_le _,Nat.zero_le _⟩
theorem of_again (h:US H0 A r M us F R) (hk:R[k]? = some (blk bM [.map (some r)] 66)) (hu:us[j]? = some u) (hn:u.n=n)
  (kk:K (.pointer (some ⟨u.b,0,none⟩)) A):CallF Tryz.prog 72 #[.string (str n),.pointer (some ⟨bM,0,none⟩)] A K Z:=by
 refine V72_ok ?_
 unfold V72
 obtain ⟨inf,i1,i2,i3,i4⟩:=muInf
 refine ⟨some r,h.ldk hk 0,Sym.lkp (k:=0) (ok:=true) (q:=n) h.m rfl muMap muStr i1 i2 ?_⟩
 cases hf:findI (keysU us) n 0 with
 | some x=>
  obtain ⟨i,b⟩:=x
  obtain ⟨v,hv,hn',hb⟩:=keysU_at hf
  have:i=j:=h.k.one i j v u hv hu (by rw [hn',hn])
  subst this
  rw [hv] at hu
  have hu:=Option.some_inj.1 hu
  subst hu
  refine ⟨some ⟨b,0,none⟩,true,rfl,(fun h=>by cases h),fun _=>?_⟩
  rw [← hb]
  exact kk
 | none=>exact absurd hn (keysU_none hf u (List.mem_of_getElem? hu))
theorem US.ld0 (h:US H0 A r M us F R) (hu:us[j]? = some u):hcell A ⟨u.b,0,none⟩=some (.slice u.si.a u.si.n u.si.c):=Sym.ld (k:=0) (h.m.pick hu) rfl 0
theorem US.ld1 (h:US H0 A r M us F R) (hu:us[j]? = some u):hcell A (Addr.add ⟨u.b,0,none⟩ 1)=some (.slice u.so.a u.so.n u.so.c):=by
 rw [add_mk,Nat.zero_add]
 exact Sym.ld (k:=0) (h.m.pick hu) rfl 1
theorem US.ld2 (h:US H0 A r M us F R) (hu:us[j]? = some u):hcell A (Addr.add ⟨u.b,0,none⟩ 2)=some (.bool u.o):=by
 rw [add_mk,Nat.zero_add]
 exact Sym.ld (k:=0) (h.m.pick hu) rfl 2
theorem set_few {u':Ue}{M':Nat}(h:∀ u∈us,u.hi.length≤M∧u.ho.length≤M) (hm:M≤M') (hu:u'.hi.length≤M'∧u'.ho.length≤M'):∀ v∈us.set j u',v.hi.length≤M'∧v.ho.length≤M':=fun v hv=>by
 rcases List.mem_or_eq_of_mem_set hv with hv | hv
 ·have:=h v hv;omega
 ·rw [hv];exact hu
theorem oth_ok (h:US H0 A r M us F R) (hk:R[k]? = some (blk bM [.map (some r)] 66)) (kk:∀ us' B,US H0 B r M us' (updU F n gO) R→Kc B) :
  CallF Tryz.prog 72 #[.string (str n),.pointer (some ⟨bM,0,none⟩)] A (fun r H=>∃ y:Option Addr,r = .pointer y∧nilck y fun ad=>StL (Addr.add ad 2) 0 [.bool true] H Kc) Z:=by
 refine of_ok h hk fun us' j u B hB hu hn=>⟨_,rfl,?_⟩
 show StL (Addr.add ⟨u.b,0,none⟩ 2) 0 [.bool true] B Kc
 rw [add_mk,Nat.zero_add]
 have s:=hB.m.pick hu
 obtain ⟨d,hd,hr⟩:=hB.k.at_ u (List.mem_of_getElem? hu)
 refine Sym.stb (k:=0) (i:=2) s rfl (by simp) rfl fun C sC=>?_
 rw [hn,upd_at] at hd
 have hd:=Option.some_inj.1 hd
 have hk2:=hB.k.set (u':={ u with o:=true }) (d:=gO d) hu rfl ⟨hr.1,hr.2.1,rfl⟩
 have e:(fun z=>if z=u.n then some (gO d) else updU F n id z)=updU F n gO:=by rw [hn,← hd,upd_touch]
 rw [e] at hk2
 exact kk _ C ⟨UM.back (u':={ u with o:=true }) hu rfl rfl sC,hk2,set_few hB.few (Nat.le_refl _) (hB.few u (List.mem_of_getElem? hu))⟩
theorem finI {a:HC}{b kk:Nat}(h:US H0 A r M us F R) (hu:us[j]? = some u) (hd:F u.n=some d) (hc:InC H0 a c) (hl:R[kk]? = some (arr flHC 36 6 ⟨some ⟨b,0,none⟩,1,1⟩ [a])) (hM:M≤100000)
  (k:∀ us' B,US H0 B r (M+1) us' (fun z=>if z=u.n then some (gI c d) else F z) R→Kc B) :
  App Tryz.prog #[24,24] 24 A [.slice u.si.a u.si.n u.si.c,.slice (some ⟨b,0,none⟩) 1 1] fun ap H=>StL ⟨u.b,0,none⟩ 0 [.slice ap.a ap.n ap.c] H Kc:=by
 have s:=h.m.pick hu
 obtain ⟨d',hd',hr⟩:=h.k.at_ u (List.mem_of_getElem? hu)
 rw [hd] at hd'
 have hd':=Option.some_inj.1 hd'
 subst hd'
 have hsrc:Rd flHC 6 A ⟨some ⟨b,0,none⟩,1,1⟩ [a]:=RowN.rd FlHC (by decide) (h.m.get hl)
 have ln:=(Sym.rd (k:=1) s FlHC (by decide) rfl).len
 have hfu:=h.few u (List.mem_of_getElem? hu)
 refine Sym.appR (t:=⟨some ⟨b,0,none⟩,1,1⟩) (k:=1) tyCo s FlHC (by decide) rfl hsrc (by rw [ln];show (u.hi.length+1)*88≤_;omega) fun ap B _ sB=>?_
 refine Sym.stb (k:=0) (i:=0) sB rfl (by simp) rfl fun C sC=>?_
 refine k _ C ⟨UM.back (u':={ u with si:=ap,hi:=u.hi ++ [a] }) hu rfl rfl sC,h.k.set (u':={ u with si:=ap,hi:=u.hi ++ [a] }) hu rfl ⟨hr.1.snoc hc,hr.2⟩,set_few h.few (Nat.le_succ _) ⟨?_,by show u.ho.length≤_;omega⟩⟩
 show (u.hi ++ [a]).length≤M+1
 rw [List.length_append]
 simp only [List.length_cons,List.length_nil]
 omega
theorem finU {a:HC}{b kk:Nat}(h:US H0 A r M us F R) (hu:us[j]? = some u) (hd:F u.n=some d) (hc:InC H0 a c) (hl:R[kk]? = some (arr flHC 36 6 ⟨some ⟨b,0,none⟩,1,1⟩ [a])) (hM:M≤100000)
  (k:∀ us' B,US H0 B r (M+1) us' (fun z=>if z=u.n then some (gU c d) else F z) R→Kc B) :
  App Tryz.prog #[24,24] 24 A [.slice u.so.a u.so.n u.so.c,.slice (some ⟨b,0,none⟩) 1 1] fun ap H=>StL (Addr.add ⟨u.b,0,none⟩ 1) 0 [.slice ap.a ap.n ap.c] H Kc:=by
 have s:=h.m.pick hu
 obtain ⟨d',hd',hr⟩:=h.k.at_ u (List.mem_of_getElem? hu)
 rw [hd] at hd'
 have hd':=Option.some_inj.1 hd'
 subst hd'
 have hsrc:Rd flHC 6 A ⟨some ⟨b,0,none⟩,1,1⟩ [a]:=RowN.rd FlHC (by decide) (h.m.get hl)
 have ln:=(Sym.rd (k:=2) s FlHC (by decide) rfl).len
 have hfu:=h.few u (List.mem_of_getElem? hu)
 refine Sym.appR (t:=⟨some ⟨b,0,none⟩,1,1⟩) (k:=2) tyCo s FlHC (by decide) rfl hsrc (by rw [ln];show (u.ho.length+1)*88≤_;omega) fun ap B _ sB=>?_
 rw [add_mk,Nat.zero_add]
 refine Sym.stb (k:=0) (i:=1) sB rfl (by simp) rfl fun C sC=>?_
 refine k _ C ⟨UM.back (u':={ u with so:=ap,ho:=u.ho ++ [a] }) hu rfl rfl sC,h.k.set (u':={ u with so:=ap,ho:=u.ho ++ [a] }) hu rfl ⟨hr.1,hr.2.1.snoc hc,hr.2.2⟩,set_few h.few (Nat.le_succ _) ⟨by show u.hi.length≤_;omega,?_⟩⟩
 show (u.ho ++ [a]).length≤M+1
 rw [List.length_append]
 simp only [List.length_cons,List.length_nil]
 omega
end
def C6 (H:Hp) (bC:Nat) (a:Int) (b c:ByteArray) (d:Int) (e:ByteArray) (f:Sl):Prop:=hcell H ⟨bC,0,none⟩=some (.int .i64 a)∧hcell H ⟨bC,1,none⟩=some (.string b)∧hcell H ⟨bC,2,none⟩=some (.string c)∧hcell H ⟨bC,3,none⟩=some (.int .i64 d)∧hcell H ⟨bC,4,none⟩=some (.string e)∧hcell H ⟨bC,5,none⟩=some (.slice f.a f.n f.c)∧True
def ApP (o:Addr→Addr) (k bC bM:Nat) (W:Option Addr→Sl→Hp→Prop) (Z:List PanicEntry→Hp→Prop) (H:Hp):Prop:=
 ∃ x4:ByteArray,hcell H ⟨bC,k,none⟩=some (.string x4)∧∃ x5:ByteArray,hcell H ⟨bC,k,none⟩=some (.string x5) ∧
 ∃ (xa:Int) (xb xc:ByteArray) (xd:Int) (xe:ByteArray) (xf:Sl),(C6 H bC xa xb xc xd xe xf) ∧
 ((CallF Tryz.prog 72 #[.string x4,.pointer (some ⟨bM,0,none⟩)] H (fun r1 H1=>∃ y1:Option Addr,r1 = .pointer y1 ∧
  ((C6 H1 bC xa xb xc xd xe xf)∧(hcell H1 ⟨bC,k,none⟩=some (.string x5)∧((CallF Tryz.prog 72 #[.string x5,.pointer (some ⟨bM,0,none⟩)] H1 (fun r2 H2=>
   ∃ y2:Option Addr,r2 = .pointer y2∧((C6 H2 bC xa xb xc xd xe xf)∧nilck y2 fun ad=>(∃ x6:Sl,hcell H2 (o ad)=some (.slice x6.a x6.n x6.c) ∧
    ∀ b H3,Newb H2 (.cells #[.int .i64 xa,.string xb,.string xc,.int .i64 xd,.string xe,.slice xf.a xf.n xf.c] 36) b H3 →
     (hcell H3 (o ad)=some (.slice x6.a x6.n x6.c)∧App Tryz.prog #[24,24] 24 H3 [.slice x6.a x6.n x6.c,.slice (some ⟨b,0,none⟩) 1 1] fun ap H4=>(W y1 ap H4))))) Z) ∧
   (∀ b H3,Newb H1 (.cells #[.int .i64 xa,.string xb,.string xc,.int .i64 xd,.string xe,.slice xf.a xf.n xf.c] 36) b H3 →
    (hcell H3 ⟨bC,k,none⟩=some (.string x5)∧CallF Tryz.prog 72 #[.string x5,.pointer (some ⟨bM,0,none⟩)] H3 (fun r3 H4=>
     ∃ y3:Option Addr,r3 = .pointer y3∧nilck y3 fun ad=>(∃ x7:Sl,hcell H4 (o ad)=some (.slice x7.a x7.n x7.c) ∧
      App Tryz.prog #[24,24] 24 H4 [.slice x7.a x7.n x7.c,.slice (some ⟨b,0,none⟩) 1 1] fun ap H5=>(W y1 ap H5))) Z)))))) Z) ∧
  (∀ b H1,Newb H (.cells #[.int .i64 xa,.string xb,.string xc,.int .i64 xd,.string xe,.slice xf.a xf.n xf.c] 36) b H1 →
   (hcell H1 ⟨bC,k,none⟩=some (.string x5)∧(hcell H1 ⟨bC,k,none⟩=some (.string x4)∧CallF Tryz.prog 72 #[.string x4,.pointer (some ⟨bM,0,none⟩)] H1 (fun r4 H2=>
    ∃ y4:Option Addr,r4 = .pointer y4∧(hcell H2 ⟨bC,k,none⟩=some (.string x5)∧CallF Tryz.prog 72 #[.string x5,.pointer (some ⟨bM,0,none⟩)] H2 (fun r5 H3=>
     ∃ y5:Option Addr,r5 = .pointer y5∧nilck y5 fun ad=>(∃ x8:Sl,hcell H3 (o ad)=some (.slice x8.a x8.n x8.c) ∧
      App Tryz.prog #[24,24] 24 H3 [.slice x8.a x8.n x8.c,.slice (some ⟨b,0,none⟩) 1 1] fun ap H4=>(W y4 ap H4))) Z)) Z))))
section
variable {H0 A B:Hp}{r M bM k bC:Nat}{us:List Ue}{F:UF}{R R':List It}{n:L8}{Z:List PanicEntry→Hp→Prop}{Kc:Hp→Prop}{c:ConD}{t:Sl}
theorem US.c6 {kb:Nat}(h:US H0 A r M us F R) (hk:R[kb]? = some (blk bC (cL c t) 36)):C6 A bC c.op (str c.a) (str c.b) c.k (str c.tag) t:=⟨h.ldk hk 0,h.ldk hk 1,h.ldk hk 2,h.ldk hk 3,h.ldk hk 4,h.ldk hk 5,trivial⟩
theorem apP_ok {o:Addr→Addr}{sl:Ue→Sl}{g:UD→UD}(h:US H0 A r M us F (blk bC (cL c t) 36::blk bM [.map (some r)] 66::R)) (hn:(cL c t)[k]? = some (.string (str n))) (hc:InC H0 (HC.of c t) c) (hM:M≤100000)
  (hld:∀ {A:Hp}{us:List Ue}{F:UF}{R:List It}{j:Nat}{u:Ue},US H0 A r M us F R→us[j]? = some u→hcell A (o ⟨u.b,0,none⟩)=some (.slice (sl u).a (sl u).n (sl u).c))
  (hap:∀ {A:Hp}{us:List Ue}{F:UF}{R:List It}{j:Nat}{u:Ue}{d:UD}{b kk:Nat}{Kc:Hp→Prop},US H0 A r M us F R→us[j]? = some u→F u.n=some d→R[kk]? = some (arr flHC 36 6 ⟨some ⟨b,0,none⟩,1,1⟩ [HC.of c t])→(∀ us' B,US H0 B r (M+1) us' (fun z=>if z=u.n then some (g d) else F z) R→Kc B) →
   App Tryz.prog #[24,24] 24 A [.slice (sl u).a (sl u).n (sl u).c,.slice (some ⟨b,0,none⟩) 1 1] fun ap H=>StL (o ⟨u.b,0,none⟩) 0 [.slice ap.a ap.n ap.c] H Kc)
  (kk:∀ us' B,US H0 B r (M+1) us' (updU F n g) (blk bC (cL c t) 36::blk bM [.map (some r)] 66::R)→Kc B) :
  ApP o k bC bM (fun y ap H=>nilck y fun ad=>StL (o ad) 0 [.slice ap.a ap.n ap.c] H Kc) Z A:=by
 unfold ApP
 have hn0:∀ {D:Hp}{us:List Ue}{F:UF}{R:List It},US H0 D r M us F (blk bC (cL c t) 36::R)→hcell D ⟨bC,k,none⟩=some (.string (str n)):=fun hD=>(hD.ldk (k:=0) rfl k).trans hn
 have hn1:∀ {D:Hp}{us:List Ue}{F:UF}{R:List It}{a:It},US H0 D r M us F (a::blk bC (cL c t) 36::R)→hcell D ⟨bC,k,none⟩=some (.string (str n)):=fun hD=>(hD.ldk (k:=1) rfl k).trans hn
 have fin:∀ {D:Hp}{us:List Ue}{j:Nat}{u:Ue}{b:Nat},US H0 D r M us (updU F n id) (arr flHC 36 6 ⟨some ⟨b,0,none⟩,1,1⟩ [HC.of c t]::blk bC (cL c t) 36::blk bM [.map (some r)] 66::R)→us[j]? = some u→u.n=n →
   App Tryz.prog #[24,24] 24 D [.slice (sl u).a (sl u).n (sl u).c,.slice (some ⟨b,0,none⟩) 1 1] fun ap H=>nilck (some ⟨u.b,0,none⟩) fun ad=>StL (o ad) 0 [.slice ap.a ap.n ap.c] H Kc:=fun {D us j u b} hD hu hun=>by
  show App Tryz.prog #[24,24] 24 D [.slice (sl u).a (sl u).n (sl u).c,.slice (some ⟨b,0,none⟩) 1 1] fun ap H=>StL (o ⟨u.b,0,none⟩) 0 [.slice ap.a ap.n ap.c] H Kc
  refine hap (kk:=0) (d:=(F n).getD ([],[],false)) hD hu (by rw [hun];exact upd_at) rfl fun us' E hE=>kk us' E ?_
  rw [hun,upd_touch] at hE
  exact hE.dropR
 refine ⟨_,hn0 h,_,hn0 h,_,_,_,_,_,_,h.c6 (kb:=0) rfl,?_,fun b B hB=>?_⟩
 ·refine of_ok (k:=1) h rfl fun us1 j u B hB hu hun=>⟨_,rfl,hB.c6 (kb:=0) rfl,hn0 hB,?_,fun b C hC=>?_⟩
  ·refine of_again (k:=1) hB rfl hu hun ⟨_,rfl,hB.c6 (kb:=0) rfl,?_⟩
   show ∃ x6:Sl,_
   refine ⟨sl u,hld hB hu,fun b C hC=>?_⟩
   have hC':=hB.lit (a:=HC.of c t) hC
   exact ⟨hld hC' hu,fin hC' hu hun⟩
  ·have hC':=hB.lit (a:=HC.of c t) hC
   refine ⟨hn1 hC',of_again (k:=2) hC' rfl hu hun ⟨_,rfl,?_⟩⟩
   show ∃ x6:Sl,_
   exact ⟨sl u,hld hC' hu,fin hC' hu hun⟩
 ·have hB':=h.lit (a:=HC.of c t) hB
  refine ⟨hn1 hB',hn1 hB',of_ok (k:=2) hB' rfl fun us1 j u C hC hu hun=>⟨_,rfl,hn1 hC,of_again (k:=2) hC rfl hu hun ⟨_,rfl,?_⟩⟩⟩
  show ∃ x6:Sl,_
  exact ⟨sl u,hld hC hu,fin hC hu hun⟩
theorem argF_snoc {l:List L8}{a:L8}:argF F (l ++ [a])=updU (argF F l) a gO:=by
 unfold argF
 rw [List.foldl_append]
 rfl
end
section
variable {H:Hp}{s1 s2 s3:Sl}{x:SysD}{K:Value→Hp→Prop}{Z:List PanicEntry→Hp→Prop}
theorem op_ok {H0 A:Hp}{r M bM bC:Nat}{us:List Ue}{F:UF}{R:List It}{c:ConD}{t:Sl}{W:Hp→Prop}(h:US H0 A r M us F (blk bC (cL c t) 36::blk bM [.map (some r)] 66::R)) (hc:InC H0 (HC.of c t) c) (hM:M≤90000)
  (kk:∀ us' B,US H0 B r (M+2) us' (opF F c) (blk bC (cL c t) 36::blk bM [.map (some r)] 66::R)→W B) :
  ∃ x3:Int,hcell A ⟨bC,0,none⟩=some (.int .i64 x3) ∧
  (((x3 == 1)=true→ApP (fun a=>a) 1 bC bM (fun y ap H=>nilck y fun ad=>StL ad 0 [.slice ap.a ap.n ap.c] H W) Z A) ∧
  ((x3 == 1)=false→(((x3 == 2)=true→ApP (fun a=>a) 1 bC bM (fun y ap H=>nilck y fun ad=>StL ad 0 [.slice ap.a ap.n ap.c] H fun H=>
    ApP (fun a=>Addr.add a 1) 2 bC bM (fun y ap H=>nilck y fun ad=>StL (Addr.add ad 1) 0 [.slice ap.a ap.n ap.c] H fun H=>
     (∃ x15:ByteArray,hcell H ⟨bC,1,none⟩=some (.string x15)∧∃ x16:ByteArray,hcell H ⟨bC,2,none⟩=some (.string x16) ∧
      (((beqS x15 x16)=true→∃ x17:ByteArray,hcell H ⟨bC,1,none⟩=some (.string x17)∧CallF Tryz.prog 72 #[.string x17,.pointer (some ⟨bM,0,none⟩)] H (fun r10 H35=>∃ y10:Option Addr,r10 = .pointer y10 ∧
       nilck y10 fun ad13=>(StL (Addr.add ad13 2) 0 [.bool true] H35 W)) Z) ∧
      ((beqS x15 x16)=false→W H)))) Z H) Z A) ∧
   ((x3 == 2)=false→∃ x56:ByteArray,hcell A ⟨bC,1,none⟩=some (.string x56)∧CallF Tryz.prog 72 #[.string x56,.pointer (some ⟨bM,0,none⟩)] A (fun r35 H99=>∃ y35:Option Addr,r35 = .pointer y35 ∧
    nilck y35 fun ad42=>(StL (Addr.add ad42 2) 0 [.bool true] H99 fun H100=>(∃ x57:ByteArray,hcell H100 ⟨bC,2,none⟩=some (.string x57)∧CallF Tryz.prog 72 #[.string x57,.pointer (some ⟨bM,0,none⟩)] H100 (fun r36 H101=>
     ∃ y36:Option Addr,r36 = .pointer y36∧nilck y36 fun ad43=>(StL (Addr.add ad43 2) 0 [.bool true] H101 W)) Z))) Z)))):=by
 refine ⟨c.op,h.ldk (k:=0) rfl 0,fun h1=>?_,fun h1=>⟨fun h2=>?_,fun h2=>⟨_,h.ldk (k:=0) rfl 1,?_⟩⟩⟩
 ·have e1:=eqI.1 h1
  refine apP_ok (sl:=fun u=>u.si) (g:=gI c) (n:=c.a) h rfl hc (by omega) (fun hA hu=>hA.ld0 hu) (fun hA hu hd hl k=>finI hA hu hd hc hl (by omega) k) fun us' B hB=>kk us' B ?_
  unfold opF
  rw [if_pos e1]
  exact hB.up (Nat.le_succ _)
 ·have e1:=neI.1 h1
  have e2:=eqI.1 h2
  refine apP_ok (sl:=fun u=>u.si) (g:=gI c) (n:=c.a) h rfl hc (by omega) (fun hA hu=>hA.ld0 hu) (fun hA hu hd hl k=>finI hA hu hd hc hl (by omega) k) fun us' B hB=>?_
  refine apP_ok (o:=fun a=>Addr.add a 1) (sl:=fun u=>u.so) (g:=gU c) (n:=c.b) hB rfl hc (by omega) (fun hA hu=>hA.ld1 hu) (fun hA hu hd hl k=>finU hA hu hd hc hl (by omega) k) fun us2 C hC=>⟨_,hC.ldk (k:=0) rfl 1,_,hC.ldk (k:=0) rfl 2,fun hab=>?_,fun hab=>kk us2 C ?_⟩
  ·have hab:=beqS_iff.1 hab
   refine ⟨_,hC.ldk (k:=0) rfl 1,oth_ok (k:=1) hC rfl fun us3 D hD=>kk us3 D ?_⟩
   unfold opF
   rw [if_neg e1,if_pos e2,if_pos (str_inj hab)]
   exact hD
  ·have hab':¬ c.a=c.b:=fun e=>by
    rw [e] at hab
    exact absurd ((beqS_iff.2 rfl).symm.trans hab) (by decide)
   unfold opF
   rw [if_neg e1,if_pos e2,if_neg hab']
   exact hC
 ·have e1:=neI.1 h1
  have e2:=neI.1 h2
  refine oth_ok (k:=1) h rfl fun us1 B hB=>⟨_,hB.ldk (k:=0) rfl 2,oth_ok (k:=1) hB rfl fun us2 C hC=>kk us2 C ?_⟩
  unfold opF
  rw [if_neg e1,if_neg e2]
  exact hC.up (by omega)
theorem uses_ok (hr:RdSys H s1 s2 s3 x) (hx:OkSys x) (hl:x.cons.length≤6000)
  (k:∀ r us B,US H B r 12000 us (useF x.cons) []→K (.map (some r)) B):CallF Tryz.prog 24 #[sAg s1 s2 s3] H K Z:=by
 refine V24_ok ?_
 unfold V24
 intro bS A hA r B hB bM C hC
 have sA:=(Sym.start H).newb (cs:=sL s1 s2 s3) hA
 have sB:=(Sym.mnew (vl:=ptV) sA hB)
 have sC:=(sB.newb (cs:=[.map none]) hC).re [1,0,2] (by decide)
 replace sC:Sym H no C [mapI ptV r [],blk bM [.map none] 66,blk bS (sL s1 s2 s3) 26]:=sC
 refine sC.stb (k:=1) (i:=0) rfl (by simp) rfl fun D sD=>?_
 replace sD:Sym H no D (mapI ptV r [] :: [blk bM [.map (some r)] 66,blk bS (sL s1 s2 s3) 26]):=sD
 have hD:US H D r 0 [] (fun _=>none) [blk bM [.map (some r)] 66,blk bS (sL s1 s2 s3) 26]:=⟨UM.of sD,Keeps.nil,by simp⟩
 have z3:=RdX.len hr.c
 refine ⟨s3,hD.ldk (k:=1) rfl 2,fun i E m=>∃ (j:Nat) (us:List Ue),i=(j:Int)∧j≤x.cons.length∧m=x.cons.length - j∧US H E r (2*j) us ((x.cons.take j).foldl stepF fun _=>none) [blk bM [.map (some r)] 66,blk bS (sL s1 s2 s3) 26],⟨_,0,[],rfl,Nat.zero_le _,rfl,hD⟩,?_⟩
 rintro i E m ⟨j,us,rfl,hj,rfl,hE⟩ scr
 refine ⟨fun hlt=>?_,fun hge=>?_⟩
 ·have hj':j < x.cons.length:=by have:=dlt hlt;omega
  obtain ⟨c,hcj,hcm⟩:=getN hj'
  obtain ⟨t,hta,ix⟩:=atC hr.c hcj
  have hok:=hx.c.2 c hcm
  have hsn:(x.cons.take (j+1)).foldl stepF (fun _=>none)=stepF ((x.cons.take j).foldl stepF fun _=>none) c:=by
   rw [List.take_add_one,hcj,List.foldl_append]
   rfl
  generalize (x.cons.take j).foldl stepF (fun _=>none)=F at hE hsn
  have fE:=hE.fr
  refine ix fun ad e1 e2 e3 e4 e5 e6=>⟨_,_,_,_,_,t,⟨lf fE e1,lf fE e2,lf fE e3,lf fE e4,lf fE e5,lf fE e6,trivial⟩,fun bC G hG=>?_⟩
  have hG1:=hE.newb (cs:=[.int .i64 0,.string ⟨#[]⟩,.string ⟨#[]⟩,.int .i64 0,.string ⟨#[]⟩,.slice none 0 0]) hG
  refine hG1.m.stk (k:=0) (i:=0) (vs:=cL c t) rfl (by simp) (FlHC.2 (HC.of c t)) fun I mI=>?_
  have hI:US H I r (2*j) us F (blk bC (cL c t) 36 :: [blk bM [.map (some r)] 66,blk bS (sL s1 s2 s3) 26]):=⟨mI,hG1.k,hG1.few⟩
  have hcin:InC H (HC.of c t) c:=⟨rfl,hta⟩
  have ta:=hta.len
  have hargs:=hok.2.2.2.1
  refine ⟨t,hI.ldk (k:=0) rfl 5,fun i' E' m'=>∃ (j':Nat) (us':List Ue),i'=(j':Int)∧j'≤c.args.length∧m'=c.args.length - j'∧US H E' r (2*j) us' (argF F (c.args.take j')) (blk bC (cL c t) 36 :: [blk bM [.map (some r)] 66,blk bS (sL s1 s2 s3) 26]),⟨_,0,us,rfl,Nat.zero_le _,rfl,hI⟩,?_⟩
  rintro i' E' m' ⟨j',us',rfl,hj1,rfl,hE'⟩ scr1
  refine ⟨fun hlt'=>?_,fun hge'=>?_⟩
  ·have hj2:j' < c.args.length:=by have:=dlt hlt';omega
   obtain ⟨a,haj,ham⟩:=getN hj2
   refine atL (hta.more hE'.fr) haj fun ad e=>⟨_,e,oth_ok (k:=1) hE' rfl fun us2 L hL=>⟨c.args.length - (j'+1),by omega,j'+1,us2,wi (by omega),hj2,rfl,?_⟩⟩
   rw [List.take_add_one,haj]
   show US H L r (2*j) us2 (argF F (c.args.take j' ++ [a])) _
   rw [argF_snoc]
   exact hL
  ·have hje:j'=c.args.length:=by have:=dge hge';omega
   rw [hje,List.take_length] at hE'
   exact op_ok hE' hcin (by omega) fun us2 L hL=>⟨x.cons.length - (j+1),by omega,j+1,us2,wi (by omega),hj',rfl,by rw [hsn];exact hL.dropR⟩
 ·have hje:j=x.cons.length:=by have:=dge hge;omega
  rw [hje,List.take_length] at hE
  refine ⟨some r,hE.ldk (k:=0) rfl 0,k r us E ⟨hE.m.sub (List.nil_sublist _),hE.k,fun u hu=>by have:=hE.few u hu;omega⟩⟩
end
end Go.Proofs.YtjdhjgfmloaglaaGreatDoor.C22
end
