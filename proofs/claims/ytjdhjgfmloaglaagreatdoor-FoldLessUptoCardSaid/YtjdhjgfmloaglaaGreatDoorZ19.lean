import Derived.Test.YtjdhjgfmloaglaaGreatDoorZ18
import Derived.Test.YtjdhjgfmloaglaaGreatDoorRows
import Derived.Deep.DeepHandedRow
import Derived.Deep.DeepWitnessRef
import Derived.Lay
import Derived.Stop.LaidErr
import Derived.Lib.LaidTab
import Derived.Lib.ItoaNum
import Derived.Lib.Space
import Derived.Lib.TrailingZeros
set_option linter.unusedVariables false
set_option linter.unusedSimpArgs false
section
namespace Go.Proofs.YtjdhjgfmloaglaaGreatDoor.C22
open Go Go.V Go.Proofs N22 P14 C14 P15 C15 C18 P22 C22S
attribute [local irreducible] Cvt ExtF CallF hrun App MkS callV Lkp MUp
theorem filt_map {α β : Type}{l:List α}{f : α→β}{p : α→Bool}{q : β→Bool}(h:∀ y∈l,p y=q (f y)):(l.filter p).map f=(l.map f).filter q:=by
 rw [List.filter_map]
 congr 1
 exact List.filter_congr fun y hy=>h y hy
theorem Lies.app {H0:Hp}{h1 h2:List HC}{x1 x2:List ConD}(a:Lies H0 h1 x1) (b:Lies H0 h2 x2):Lies H0 (h1++h2) (x1++x2):=by
 refine ⟨by rw [List.length_append,List.length_append,a.1,b.1],fun i u v hu hv=>?_⟩
 rw [List.getElem?_append] at hu hv
 rw [a.1] at hu
 split at hu
 ·rename_i hlt
  rw [if_pos hlt] at hv
  exact a.2 i u v hu hv
 ·rename_i hge
  rw [if_neg hge] at hv
  exact b.2 _ u v hu hv
theorem Lies.tail {H0:Hp}{a:HC}{hs:List HC}{c:ConD}{xs:List ConD}(h:Lies H0 (a::hs) (c::xs)):InC H0 a c∧Lies H0 hs xs:=
 ⟨h.2 0 a c rfl rfl,by have:=h.1;simpa using this,fun i u v hu hv=>h.2 (i+1) u v hu hv⟩
theorem Lies.cons {H0:Hp}{a:HC}{hs:List HC}{c:ConD}{xs:List ConD}(hc:InC H0 a c) (h:Lies H0 hs xs):Lies H0 (a::hs) (c::xs):=by
 refine ⟨by rw [List.length_cons,List.length_cons,h.1],fun i u v hu hv=>?_⟩
 cases i with
 | zero=>
  rw [List.getElem?_cons_zero] at hu hv
  rw [← Option.some_inj.1 hu,← Option.some_inj.1 hv]
  exact hc
 | succ i=>exact h.2 i u v hu hv
theorem Lies.filt {H0:Hp}{p:HC→Bool}{q:ConD→Bool}(hpq:∀ h c,InC H0 h c→p h=q c):∀ {hs:List HC}{xs:List ConD},Lies H0 hs xs→Lies H0 (hs.filter p) (xs.filter q)
 | [],[],_=>Lies.nil
 | [],_::_,h=>by cases h.1
 | _::_,[],h=>by cases h.1
 | a::hs,c::xs,h=>by
  obtain ⟨h1,h2⟩:=h.tail
  have ih:=Lies.filt hpq h2
  have e:=hpq a c h1
  cases hp:p a
  ·rw [List.filter_cons_of_neg (by rw [hp];decide),List.filter_cons_of_neg (by rw [← e,hp];decide)]
   exact ih
  ·rw [List.filter_cons_of_pos hp,List.filter_cons_of_pos (by rw [← e,hp])]
   exact Lies.cons h1 ih
theorem inC_a {H0:Hp}{h:HC}{c:ConD}{a:L8}(hc:InC H0 h c):InC H0 (toA h a) { c with a:=a }:=by
 obtain ⟨h1,h2⟩:=hc
 refine ⟨?_,h2⟩
 show toA h a=HC.of { c with a:=a } h.2.2.2.2.2
 rw [h1]
 rfl
theorem inC_okH {H0:Hp}{h:HC}{c:ConD}(hc:InC H0 h c):okH h=decide (c.op≠2∨c.a≠c.b):=by
 rw [hc.1]
 rfl
theorem lies_met {H0:Hp}{x:SysD}{n:L8}{hi ho:List HC}(h2:Lies H0 ho (outs x n)):∀ {hi:List HC}{xs:List ConD},Lies H0 hi xs→Lies H0 (metH hi ho) (xs.flatMap (metC (outs x n)))
 | [],[],_=>Lies.nil
 | [],_::_,h=>by cases h.1
 | _::_,[],h=>by cases h.1
 | a::hs,c::xs,h=>by
  obtain ⟨h1,h3⟩:=h.tail
  have ih:=lies_met (hi:=hi) h2 h3
  unfold metH at ih ⊢
  rw [List.flatMap_cons,List.flatMap_cons]
  refine Lies.app ?_ ih
  unfold metH1 metC
  refine Lies.filt (p:=okH) (q:=fun c:ConD=>decide (c.op≠2∨c.a≠c.b)) (fun h c hc=>inC_okH hc) ?_
  refine ⟨by rw [List.length_map,List.length_map,h2.1],fun i u v hu hv=>?_⟩
  rw [List.getElem?_map] at hu hv
  cases g1:ho[i]? with
  | none=>rw [g1] at hu;cases hu
  | some b=>
   cases g2:(outs x n)[i]? with
   | none=>rw [g2] at hv;cases hv
   | some d=>
    rw [g1] at hu
    rw [g2] at hv
    rw [← Option.some_inj.1 hu,← Option.some_inj.1 hv]
    have hb:=(h2.2 i b d g1 g2).1
    have:b.2.1=d.a:=by rw [hb];rfl
    show InC H0 (toA a b.2.1) { c with a:=d.a }
    rw [this]
    exact inC_a h1
theorem Lies.more {H0 H1:Hp}{hs:List HC}{xs:List ConD}(h:Lies H0 hs xs) (f:Fr no H0 H1):Lies H1 hs xs:=⟨h.1,fun i u v a b=>(h.2 i u v a b).more f⟩
theorem okw1:fnOk Tryz.prog 75=true:=by kernel_rfl
theorem okU1:fnOk Tryz.prog 132=true:=by kernel_rfl
theorem arr_unmap {α τ : Type}{fl : τ→List Value}{sz:Nat}{E:TypeId}{f : α→τ}{H0 H:Hp}{s:Sl}{l:List α}{R:List It}(h:Sym H0 no H (arr (fun x=>fl (f x)) E sz s l::R)):Sym H0 no H (arr fl E sz s (l.map f)::R):=by
 have e:flat fl (l.map f)=flat (fun x=>fl (f x)) l:=by
  unfold flat
  rw [List.flatMap_map]
 refine Sym.as (k:=0) (b:=arr fl E sz s (l.map f)) h rfl (fun h'=>?_) fun i hi=>hi
 have h':RowN (fun x=>fl (f x)) E sz H s l:=h'
 exact ⟨by rw [e];exact h'.row,h'.nf⟩
section
variable {H:Hp}{s1 s2 s3 si so:Sl}{bu:Nat}{x:SysD}{n:L8}{hi ho:List HC}{K:Value→Hp→Prop}{Z:List PanicEntry→Hp→Prop}
theorem mid_few (hf:folds x n) (hc:x.cons.length≤6000):(ins x n).length≤6000∧(outs x n).length≤6000∧(rest x n).length≤6000∧(rest x n++met x n).length≤6000:=by
 obtain ⟨h1,h2,h3⟩:=hf
 have a:=go_len h2
 have b:=met_len (x:=x) (n:=n)
 rw [List.length_append]
 omega
set_option maxRecDepth 10000 in
theorem without_ok (hr:RdSys H s1 s2 s3 x) (hx:OkSys x) (hc:x.cons.length≤6000) (hf:folds x n)
  (hu0:hcell H ⟨bu,0,none⟩=some (.slice si.a si.n si.c)) (hu1:hcell H (Addr.add ⟨bu,0,none⟩ 1)=some (.slice so.a so.n so.c)) (ri:Rd flHC 6 H si hi) (ro:Rd flHC 6 H so ho) (li:Lies H hi (ins x n)) (lo:Lies H ho (outs x n))
  (k:∀ (c:CanS) t E,Sym H no E c.its→c.good t→IsCanS ⟨x.objs,x.fns,rest x n++met x n⟩ t→K (sAg c.y c.y1 c.y2) E) :
  CallF Tryz.prog 28 #[.pointer (some ⟨bu,0,none⟩),sAg s1 s2 s3,.string (str n)] H K Z:=by
 refine V28_ok ?_
 unfold V28
 intro bS A hA bN B hB b C hC
 have sC:=(((Sym.start H).newb (cs:=sL s1 s2 s3) hA).newb (cs:=[.string (str n)]) hB).newb (cs:=zS) hC
 obtain ⟨hs,hrd,hlen,hin⟩:=hr.c
 obtain ⟨m1,m2,m3,m4⟩:=mid_few hf hc
 have rd0:Rd C16C.fle 6 H s3 (tagged hs x.cons):=Rd.map (f:=fun z:C16C.El=>z.1.1) (by rw [tagged_fst hlen];exact hrd)
 refine ⟨s3,sC.ld (k:=2) rfl 2,C16C.clone_ok sC (rd0.more sC.fr) (by rw [tagged_len hlen];omega) fun y D sD=>⟨y,rfl,?_⟩⟩
 have hdC:C16C.DelV (.func (.func 75) #[] #[.pointer (some ⟨bN,0,none⟩)]) (fun z=>goH n z.1.1) (tagged hs x.cons) H [blk b zS 26,blk bN [.string (str n)] 9,blk bS (sL s1 s2 s3) 26]:=by
  intro z A' K' Z' hz sA kk
  exact call_cap okw1 (wout1_ok (sA.ld (k:=1) rfl 0) kk)
 refine C16C.delete_ok sD (by rw [tagged_len hlen];omega) hdC fun y1 E sE=>⟨y1,rfl,fun bL F hF=>?_⟩
 have sE':=arr_unmap (f:=fun z:C16C.El=>z.1.1) sE
 have hrest:Lies H (((tagged hs x.cons).filter fun z=>!goH n z.1.1).map fun z=>z.1.1) (rest x n):=by
  rw [filt_map (q:=fun h=>!goH n h) (f:=fun z:C16C.El=>z.1.1) fun _ _=>rfl,tagged_fst hlen]
  exact Lies.filt (p:=fun h=>!goH n h) (q:=fun c=>!goB n c) (fun h c hc=>by rw [goH_of hc.1]) ⟨hlen,hin⟩
 generalize ((tagged hs x.cons).filter fun z=>!goH n z.1.1).map (fun z=>z.1.1)=RL at sE' hrest
 have sF:=sE'.newb (cs:=[.slice none 0 0]) hF
 refine sF.stb (k:=0) (i:=0) rfl (by simp) rfl fun G sG=>?_
 replace sG:Sym H no G [blk bL [.slice y1.a y1.n y1.c] 24,arr flHC 36 6 y1 RL,blk b zS 26,blk bN [.string (str n)] 9,blk bS (sL s1 s2 s3) 26]:=sG
 refine V76_ok ?_
 unfold V76
 intro bU I hI
 have sI:=sG.newb (cs:=[.pointer (some ⟨bu,0,none⟩)]) hI
 refine ⟨_,rfl,fun bD J hD l L hL=>?_⟩
 have sJ:=sI.newo hD
 obtain ⟨ps,asg,body,hlr⟩:=lrec_eq (f:=Tryz.f28) (n:=3) (by kernel_rfl)
 rw [hlr] at hL
 obtain ⟨tmps,hL,hy⟩:∃ tmps:List Value,Newb J (.loop ⟨.ready,none,28,tmps.toArray,ps,asg,body,bD⟩) l L∧∀ (X:Hp) (h:HC) (K':Value→Hp→Prop),R28_3 X bL l h.1 (str h.2.1) (str h.2.2.1) h.2.2.2.1 (str h.2.2.2.2.1) h.2.2.2.2.2 K'→yldC Tryz.prog aJ28 aL28 Tryz.f28 28 3 l tmps [vH h] X K':=⟨_,hL,fun X h K' hh=>R28_3_ok hh⟩
 have sL0:=sJ.newo hL
 replace sL0:Sym H no L ([obj l (.loop ⟨.ready,none,28,tmps.toArray,ps,asg,body,bD⟩),obj bD (.deferred (some [])),blk bU [.pointer (some ⟨bu,0,none⟩)] 69,blk bL [.slice y1.a y1.n y1.c] 24,arr flHC 36 6 y1 RL,blk b zS 26,blk bN [.string (str n)] 9,blk bS (sL s1 s2 s3) 26] ++ []):=sL0
 unfold callG
 simp only [okU1,if_true]
 have nn:hi.length*ho.length≤6000*6000:=Nat.mul_le_mul (by rw [li.1];exact m1) (by rw [lo.1];exact m2)
 have hRLn:RL.length≤6000:=by rw [hrest.1];exact m3
 refine met1_ok (H0:=H) (bU:=bU) (bu:=bu) (si:=si) (so:=so) (hi:=hi) (ho:=ho) (Q:=fun p its=>∃ sl:Sl,its = [obj l (.loop ⟨.ready,none,28,tmps.toArray,ps,asg,body,bD⟩),obj bD (.deferred (some [])),blk bU [.pointer (some ⟨bu,0,none⟩)] 69,blk bL [.slice sl.a sl.n sl.c] 24,arr flHC 36 6 sl (RL++p),blk b zS 26,blk bN [.string (str n)] 9,blk bS (sL s1 s2 s3) 26])
  ?_ hu0 hu1 ri ro (by rw [li.1];omega) (by rw [lo.1];omega) ?_ ⟨y1,by rw [List.append_nil]⟩ sL0 ?_
 ·rintro p its X R ⟨sl,rfl⟩ sX
  exact sX.ld (k:=2) rfl 0
 ·rintro p its h X R K' ⟨sl,rfl⟩ hp sX kk
  have hLX:X[l]? = some (.loop ⟨.ready,none,28,tmps.toArray,ps,asg,body,bD⟩):=sX.get (k:=0) rfl
  unfold callV
  simp only [List.nil_append]
  refine yldC_sound hLX rfl rfl (by rw [hlr]) (by rw [hlr]) (by rw [hlr]) (hy _ _ _ ?_)
  unfold R28_3
  intro bC X1 h1
  have t1:=sX.newb (cs:=[.int .i64 0,.string ⟨#[]⟩,.string ⟨#[]⟩,.int .i64 0,.string ⟨#[]⟩,.slice none 0 0]) h1
  refine t1.stbs (k:=0) (i:=0) (vs:=flHC h) rfl (by simp [flHC]) (FlHC.2 h) fun X2 t2=>?_
  replace t2:Sym H no X2 (blk bC (flHC h) 36::obj l (.loop ⟨.ready,none,28,tmps.toArray,ps,asg,body,bD⟩)::obj bD (.deferred (some []))::blk bU [.pointer (some ⟨bu,0,none⟩)] 69::blk bL [.slice sl.a sl.n sl.c] 24::arr flHC 36 6 sl (RL++p)::blk b zS 26::blk bN [.string (str n)] 9::blk bS (sL s1 s2 s3) 26::R):=t2
  refine ⟨_,t2.get (k:=1) rfl,rfl,fun X3 h3=>?_⟩
  obtain ⟨f1,g1,z1⟩:=setB (t2.get (k:=1) rfl) h3
  have t3:=t2.setk (k:=1) (b:=obj l _) rfl (f1.mono fun i _ e=>e) g1 fun i hi=>.inl hi
  have ln:=(Sym.rd (k:=5) t3 FlHC (by decide) rfl).len
  rw [List.length_append] at ln
  refine ⟨sl,t3.ld (k:=4) rfl 0,_,_,_,_,_,_,⟨t3.ld (k:=0) rfl 0,t3.ld (k:=0) rfl 1,t3.ld (k:=0) rfl 2,t3.ld (k:=0) rfl 3,t3.ld (k:=0) rfl 4,t3.ld (k:=0) rfl 5,trivial⟩,fun b1 X4 h4=>?_⟩
  refine Sym.app1 (k:=5) (x:=h) tyCo t3 FlHC (by decide) h4 rfl (by omega) fun ap X5 hap t5=>?_
  refine t5.stb (k:=4) (i:=0) rfl (by simp) rfl fun X6 t6=>?_
  refine ⟨_,t6.get (k:=1) rfl,fun X7 h7=>?_⟩
  obtain ⟨f2,g2,z2⟩:=setB (t6.get (k:=1) rfl) h7
  have t7:=t6.setk (k:=1) (b:=obj l _) rfl (f2.mono fun i _ e=>e) g2 fun i hi=>.inl hi
  refine kk _ X7 ⟨ap,rfl⟩ ?_
  rw [← List.append_assoc]
  exact Sym.drop t7
 ·rintro its B' ⟨sl,rfl⟩ sB'
  have hmet:Lies H (RL++metH hi ho) (rest x n++met x n):=hrest.app (lies_met (hi:=hi) lo li)
  generalize RL++metH hi ho=ML at sB' hmet
  refine ⟨_,sB'.get (k:=0) rfl,rfl,fun X1 h1=>?_⟩
  obtain ⟨f1,g1,z1⟩:=setB (sB'.get (k:=0) rfl) h1
  have t1:=sB'.setk (k:=0) (b:=obj l _) rfl (f1.mono fun i _ e=>e) g1 fun i hi=>.inl hi
  have hrd':RdSys X1 s1 s2 sl ⟨x.objs,x.fns,rest x n++met x n⟩:=⟨hr.o.more t1.fr,hr.f.more t1.fr,⟨ML,t1.rd (k:=4) FlHC (by decide) rfl,hmet.1,fun i a c ha hc'=>(hmet.2 i a c ha hc').more t1.fr⟩⟩
  have hln:=hx.len
  have hlen':LenSys ⟨x.objs,x.fns,rest x n++met x n⟩:=⟨hln.o,hln.f,⟨by show (rest x n++met x n).length≤_;omega,fun c hc'=>by
   rcases List.mem_append.1 hc' with h | h
   ·exact hln.c.2 c (List.mem_filter.1 h).1
   ·obtain ⟨i,hi',o,ho',rfl,_⟩:=met_ok h
    exact hln.c.2 i (ins_ok hi').1⟩⟩
  refine ⟨s1,t1.ld (k:=7) rfl 0,s2,t1.ld (k:=7) rfl 1,sl,t1.ld (k:=3) rfl 0,canon_ok hrd' hlen' fun c t E sE g hcan=>⟨c.y,c.y1,c.y2,rfl,?_⟩⟩
  have sj:=t1.join sE
  refine Sym.stbs (k:=10) (i:=0) (vs:=sL c.y c.y1 c.y2) sj rfl (by simp) (one3 _ _ _) fun X2 t2=>?_
  refine ⟨t2.get (k:=6) rfl,fun X3 h3=>?_⟩
  obtain ⟨f2,g2,z2⟩:=setB (t2.get (k:=6) rfl) h3
  have t3:=t2.setk (k:=6) (b:=obj bD _) rfl (f2.mono fun i _ e=>e) g2 fun i hi=>.inl hi
  refine ⟨c.y,c.y1,c.y2,⟨t3.ld (k:=10) (cs:=sL c.y c.y1 c.y2) rfl 0,t3.ld (k:=10) (cs:=sL c.y c.y1 c.y2) rfl 1,t3.ld (k:=10) (cs:=sL c.y c.y1 c.y2) rfl 2,trivial⟩,k c t X3 (t3.re [0,1,2,3,4] (by decide)) g hcan⟩
end
end Go.Proofs.YtjdhjgfmloaglaaGreatDoor.C22
end
section
namespace Go.Proofs.YtjdhjgfmloaglaaGreatDoor.C22
open Go Go.V Go.Proofs N22 P14 C14 P15 C15 C18 P22 C22S
attribute [local irreducible] Cvt ExtF CallF hrun App MkS callV Lkp MUp
theorem okf1:fnOk Tryz.prog 21=true:=by kernel_rfl
theorem okf2:fnOk Tryz.prog 26=true:=by kernel_rfl
abbrev nS:Sl:=⟨none,0,0⟩
section
variable {H A:Hp}{K:Value→Hp→Prop}{Z:List PanicEntry→Hp→Prop}
theorem ixr_ok {s:Sl}{L:List L8}{f:Value}{D:L8→Bool}(h:Rd flL 1 A s L) (hl:L.length≤2000000) (hd:∀ {n:L8}{K':Value→Hp→Prop},n∈L→K' (.bool (D n)) A→callV Tryz.prog f [.string (str n)] A K' Z)
  (k1:∀ (i:Nat) n,L[i]? = some n→D n=true→K (.int .i64 (i:Int)) A) (k2:(∀ y∈L,D y=false)→K (.int .i64 (-1)) A):CallF Tryz.prog 25 #[.slice s.a s.n s.c,f] A K Z:=by
 refine V25_ok ?_
 unfold V25
 have ln:=h.len
 refine ⟨fun i B m=>∃ j:Nat,B=A∧i=(j:Int)∧j≤L.length∧m=L.length - j∧(∀ y∈L.take j,D y=false),⟨_,0,rfl,rfl,Nat.zero_le _,rfl,by simp⟩,?_⟩
 rintro i B m ⟨j,rfl,rfl,hj,rfl,hno⟩ scr
 refine ⟨fun hlt=>?_,fun hge=>?_⟩
 ·have hj':j < L.length:=by have:=dlt hlt;omega
  obtain ⟨x,hx,hxm⟩:=getN hj'
  refine atL h hx fun ad e=>⟨_,e,hd hxm ⟨_,rfl,fun ht=>k1 j x hx ht,fun hf=>⟨L.length - (j+1),by omega,j+1,rfl,wi (by omega),hj',rfl,fun y hy=>?_⟩⟩⟩
  rw [List.take_add_one,hx] at hy
  rcases List.mem_append.1 hy with hy | hy
  ·exact hno y hy
  ·rw [List.mem_singleton.1 hy];exact hf
 ·have hje:j=L.length:=by have:=dge hge;omega
  rw [hje,List.take_length] at hno
  exact k2 hno
end
theorem canon_left {x t:SysD}(h0:checkE x=0) (h:IsCanS x t):t=x:=by
 obtain ⟨h1,h2,h3,h4⟩:=checkE_0.1 h0
 exact h.uniq ⟨IsCan.of_rising h3.1 fun _=>Iff.rfl,IsCan.of_rising h3.2 fun _=>Iff.rfl,IsCan.of_rising h4 fun _=>Iff.rfl⟩
theorem canon_part {z t:SysD}{cs:List ConD}(h0:checkE z=0) (h:IsCanS ⟨z.objs,z.fns,cs⟩ t):t=⟨z.objs,z.fns,t.cons⟩:=by
 obtain ⟨h1,h2,h3,h4⟩:=checkE_0.1 h0
 have eo:t.objs=z.objs:=h.o.uniq linCL (IsCan.of_rising h3.1 fun _=>Iff.rfl)
 have ef:t.fns=z.fns:=h.f.uniq linCL (IsCan.of_rising h3.2 fun _=>Iff.rfl)
 cases t
 simp only at eo ef
 rw [eo,ef]
theorem ok_step {z:SysD}{n:L8}{ys:List ConD}(hz:OkSys z) (hc:(rest z n++met z n).length≤6000) (h:IsCan cmpC (fun c=>c) (rest z n++met z n) ys):OkSys ⟨z.objs,z.fns,ys⟩:=by
 have hl:=h.len linC
 refine ⟨hz.o,hz.f,by show ys.length≤_;omega,fun c hc'=>?_⟩
 rcases List.mem_append.1 ((h.mem c).1 hc') with g | g
 ·exact hz.c.2 c (List.mem_filter.1 g).1
 ·obtain ⟨i,hi,o,ho,rfl,_⟩:=met_ok g
  have a:=hz.c.2 i (ins_ok hi).1
  have b:=hz.c.2 o (outs_ok ho).1
  exact ⟨b.1,a.2⟩
theorem fuel_le (lt:List L8) (x:SysD):fuelF lt x≤lt.length:=List.length_filter_le _ _
section
variable {H:Hp}{s1 s2 s3 sh:Sl}{x:SysD}{hide:List L8}{K:Value→Hp→Prop}{Z:List PanicEntry→Hp→Prop}
abbrev WF (bS b:Nat) (y2 gone:Sl) (lt G:List L8) (c:CanS):List It:=blk bS (sL c.y c.y1 c.y2) 26::blk b zS 26::arr flL 9 1 y2 lt::arr flL 9 1 gone G::c.its
theorem fsys_ok (hr:RdSys H s1 s2 s3 x) (hx:OkSys x) (hh:Rd flL 1 H sh hide) (hhs:∀ n∈hide,n.length≤1048576) (hhn:hide.length≤100000) (ht:Pw H)
  (k1:∀ B,Fr no H B→checkE x≠0→K (.tuple #[sAg nS nS nS,.slice none 0 0,.int .i64 (checkE x)]) B)
  (k2:∀ (c:CanS) (t:SysD) (g lt gs:List L8) (sg:Sl) B,checkE x=0→Sym H no B c.its→c.good t→OkSys t→Run lt x g t→(∀ n,n∈lt↔n∈hide∧siteB n=false)→Rd flL 1 B sg gs→Rising ltL gs→(∀ z,z∈gs↔z∈g)→K (.tuple #[sAg c.y c.y1 c.y2,.slice sg.a sg.n sg.c,.int .i64 0]) B) :
  CallF Tryz.prog 9 #[sAg s1 s2 s3,.slice sh.a sh.n sh.c] H K Z:=by
 refine V9_ok ?_
 unfold V9
 intro bS A hA b B hB
 have sB:=((Sym.start H).newb (cs:=sL s1 s2 s3) hA).newb (cs:=zS) hB
 refine ⟨s1,s2,s3,⟨sB.ld (k:=1) rfl 0,sB.ld (k:=1) rfl 1,sB.ld (k:=1) rfl 2,trivial⟩,check_ok (hr.more sB.fr) hx (TabH.more ht sB.fr) fun C fC=>⟨_,rfl,fun hne=>?_,fun heq=>?_⟩⟩
 ·have sC:=sB.more fC
  refine sC.stbs (k:=0) (i:=0) (vs:=zS) rfl (by simp) (one3 nS nS nS) fun E sE=>⟨nS,nS,nS,⟨sE.ld (k:=0) (cs:=zS) rfl 0,sE.ld (k:=0) (cs:=zS) rfl 1,sE.ld (k:=0) (cs:=zS) rfl 2,trivial⟩,k1 E sE.fr (bne_iff_ne.1 hne)⟩
 have h0:=bne_eq_false_iff_eq.1 heq
 have sC:=sB.more fC
 refine sortedA_ok (hh.more sC.fr) (by omega) fun y1 ys D sD hris hmem=>⟨y1,rfl,?_⟩
 have sD':=sC.join sD
 replace sD':Sym H no D (arr flL 9 1 y1 ys :: [blk b zS 26,blk bS (sL s1 s2 s3) 26]):=sD'
 have hyl:ys.length≤hide.length:=subset_len (rising_nodup hris) fun z hz=>(hmem z).1 hz
 have hdS:C22S.DelV (.func (.func 21) #[] #[]) siteB ys H [blk b zS 26,blk bS (sL s1 s2 s3) 26]:=by
  intro z A' K' Z' hz sA kk
  exact call_one okf1 (fs1_ok (hhs z ((hmem z).1 hz)) (TabH.more ht sA.fr) kk)
 refine C22S.delete_ok sD' (by omega) hdS fun y2 E sE=>⟨y2,rfl,?_⟩
 have hlt:∀ n,n∈ys.filter (fun x=>!siteB x)↔n∈hide∧siteB n=false:=fun n=>by
  rw [List.mem_filter,hmem n]
  simp
 have hll:=List.length_filter_le (fun x=>!siteB x) ys
 generalize ys.filter (fun x=>!siteB x)=lt at sE hlt hll
 refine ⟨s1,s2,s3,⟨sE.ld (k:=2) rfl 0,sE.ld (k:=2) rfl 1,sE.ld (k:=2) rfl 2,trivial⟩,canon_ok (hr.more sE.fr) hx.len fun c t F sF g hcan=>⟨c.y,c.y1,c.y2,rfl,?_⟩⟩
 have et:=canon_left h0 hcan
 subst et
 have sj:=sE.join sF
 refine Sym.stbs (k:=7) (i:=0) (vs:=sL c.y c.y1 c.y2) sj rfl (by simp) (one3 _ _ _) fun G0 sG0=>?_
 have sG:Sym H no G0 (WF bS b y2 nS lt [] c):=(sG0.nilrow flL 9 1).re [8,7,6,0,1,2,3,4,5] (by decide)
 refine ⟨fun gone E m=>∃ (c:CanS) (z:SysD) (G:List L8),m=fuelF lt z∧Sym H no E (WF bS b y2 gone lt G c)∧c.good z∧OkSys z∧checkE z=0∧G.length+fuelF lt z≤lt.length∧∀ g' t',Run lt z g' t'→Run lt t (G++g') t',⟨_,c,t,[],rfl,sG,g,hx,h0,by have:=fuel_le lt t;simpa using this,fun _ _ h=>h⟩,?_⟩
 rintro gone E m ⟨c,z,G,rfl,sE,gz,okz,cz,hfu,hrun⟩ scr
 have rdz:RdSys E c.y c.y1 c.y2 z:=CanS.rd (fun a ha=>sE.ok a (by simp [ha])) gz
 have hl6:=(check_right cz).c.1
 refine ⟨c.y,c.y1,c.y2,⟨sE.ld (k:=0) rfl 0,sE.ld (k:=0) rfl 1,sE.ld (k:=0) rfl 2,trivial⟩,uses_ok rdz okz hl6 fun r us F hF=>⟨some r,rfl,fun bAll I hI=>?_⟩⟩
 have hI':=hF.newb (cs:=[.map none]) hI
 refine hI'.m.stk (k:=0) (i:=0) (vs:=[.map (some r)]) rfl (by simp) (fun v hv=>by rw [List.mem_singleton.1 hv];rfl) fun J mJ=>?_
 have hJ:US E J r 12000 us (useF z.cons) [blk bAll [.map (some r)] 66]:=⟨mJ,hI'.k,hI'.few⟩
 have fEJ:Fr no E J:=hJ.fr
 have sJ:=sE.more fEJ
 refine ixr_ok (D:=foldB z) (sJ.rd (k:=2) FlL (by decide) rfl) (by omega) (fun hn kk=>call_cap okf2 (fs2_ok (k:=0) hJ rfl hl6 kk)) (fun i n hn hfo=>⟨_,rfl,fun h=>?_,fun _=>⟨some r,hJ.ldk (k:=0) rfl 0,?_⟩⟩) (fun hno=>⟨_,rfl,fun _=>?_,fun h=>absurd h (by decide)⟩)
 ·have:=of_decide_eq_true h
  omega
 ·have hfo:=foldB_t.1 hfo
  have hnl:n∈lt:=List.mem_of_getElem? hn
  refine atL (sJ.rd (k:=2) FlL (by decide) rfl) hn fun ad e=>⟨_,e,c.y,c.y1,c.y2,⟨sJ.ld (k:=0) rfl 0,sJ.ld (k:=0) rfl 1,sJ.ld (k:=0) rfl 2,trivial⟩,?_⟩
  refine atL (sJ.rd (k:=2) FlL (by decide) rfl) hn fun ad1 e1=>⟨_,e1,?_⟩
  obtain ⟨inf,i1,i2,i3,i4⟩:=muInf
  refine Sym.lkp (k:=0) (ok:=false) (q:=n) hJ.m rfl muMap muStr i1 i2 ?_
  cases hf:findI (keysU us) n 0 with
  | none=>
   exfalso
   have hne:useF z.cons n≠none:=fun e=>useF_none e hfo
   obtain ⟨u,hu,e⟩:=hJ.k.all n hne
   exact keysU_none hf u hu e
  | some p=>
   obtain ⟨j,bu⟩:=p
   obtain ⟨u,hu,hun,hub⟩:=keysU_at hf
   obtain ⟨l1,l2,_⟩:=hJ.lens (List.mem_of_getElem? hu)
   rw [hun] at l1 l2
   have sP:=hJ.m.pick hu
   refine ⟨some ⟨bu,0,none⟩,rfl,e1,⟨sJ.ld (k:=0) rfl 0,sJ.ld (k:=0) rfl 1,sJ.ld (k:=0) rfl 2,trivial⟩,?_⟩
   rw [← hub]
   refine without_ok (rdz.more fEJ) okz hl6 hfo (hJ.ld0 hu) (hJ.ld1 hu) (Sym.rd (k:=1) sP FlHC (by decide) rfl) (Sym.rd (k:=2) sP FlHC (by decide) rfl) (l1.more fEJ) (l2.more fEJ) fun c2 t2 L tL g2 hcan2=>⟨c2.y,c2.y1,c2.y2,rfl,?_⟩
   have sj2:=sJ.join tL
   refine Sym.stbs (k:=5) (i:=0) (vs:=sL c2.y c2.y1 c2.y2) sj2 rfl (by simp) (one3 _ _ _) fun N sN=>?_
   have rdl:=Sym.rd (k:=7) (s:=y2) (l:=lt) sN FlL (by decide) rfl
   refine atL rdl hn fun ad2 e2=>⟨_,e2,fun b1 P hP=>?_⟩
   have lg:=(Sym.rd (k:=8) (s:=gone) (l:=G) sN FlL (by decide) rfl).len
   refine Sym.app1 (k:=8) (s:=gone) (l:=G) (x:=n) tyTs sN FlL (by decide) hP rfl (by rw [lg];omega) fun ap Q hap sQ=>?_
   obtain ⟨f1,f2,f3,f4⟩:=fold_step cz hfo hcan2.c
   have hless:=fuel_less cz hnl hfo hcan2.c
   have hok2:=ok_step okz (mid_few hfo hl6).2.2.2 hcan2.c
   have et2:=canon_part cz hcan2
   rw [← et2] at f1 hless hok2
   refine ⟨_,hless,c2,t2,G ++ [n],rfl,sQ.re [5,6,7,8,0,1,2,3,4] (by decide),g2,hok2,f1,by rw [List.length_append,List.length_singleton];omega,fun g' t' hr'=>?_⟩
   rw [List.append_assoc]
   refine hrun (n::g') t' (Run.step hnl hfo hcan2.c ?_)
   rw [← et2]
   exact hr'
 ·refine ⟨c.y,c.y1,c.y2,⟨sJ.ld (k:=0) rfl 0,sJ.ld (k:=0) rfl 1,sJ.ld (k:=0) rfl 2,trivial⟩,sortedA_ok (sJ.rd (k:=3) FlL (by decide) rfl) (by omega) fun sg gs L tL hris' hmem'=>?_⟩
  have sM:=sJ.join tL
  refine ⟨sg,rfl,⟨sM.ld (k:=1) rfl 0,sM.ld (k:=1) rfl 1,sM.ld (k:=1) rfl 2,trivial⟩,?_⟩
  refine Sym.stbs (k:=2) (i:=0) (vs:=sL c.y c.y1 c.y2) sM rfl (by simp) (one3 _ _ _) fun N sN=>?_
  refine ⟨c.y,c.y1,c.y2,⟨sN.ld (k:=2) (cs:=sL c.y c.y1 c.y2) rfl 0,sN.ld (k:=2) (cs:=sL c.y c.y1 c.y2) rfl 1,sN.ld (k:=2) (cs:=sL c.y c.y1 c.y2) rfl 2,trivial⟩,?_⟩
  have hfin:=hrun [] z (Run.done fun n hn=>foldB_f.1 (hno n hn))
  rw [List.append_nil] at hfin
  exact k2 c z G lt gs sg N h0 (sN.re [5,6,7,8,9] (by decide)) gz okz hfin hlt (Sym.rd (k:=0) (s:=sg) (l:=gs) sN FlL (by decide) rfl) hris' hmem'
end
end Go.Proofs.YtjdhjgfmloaglaaGreatDoor.C22
end
section
namespace Go.Proofs.YtjdhjgfmloaglaaGreatDoor.P22
open Go Go.V P14 C14 P15
abbrev fq:L8:=[102,46,113]
abbrev fr:L8:=[102,46,114]
abbrev x0:L8:=[120,43,48]
def wF:SysD:=⟨[],[],[⟨1,fq,x0,0,[],[]⟩,⟨2,fr,fq,0,[],[]⟩]⟩
def wT:SysD:=⟨[],[],[⟨1,fr,x0,0,[],[]⟩]⟩
theorem w_check:checkE wF=0:=by kernel_rfl
theorem w_folds:folds wF fq:=by
 refine ⟨⟨⟨1,fq,x0,0,[],[]⟩,List.mem_cons_self,.inl rfl⟩,?_,?_⟩
 ·rintro ⟨c,hc,h⟩
  unfold wF at hc
  simp only [List.mem_cons,List.not_mem_nil,or_false] at hc
  rcases hc with rfl | rfl <;> revert h <;> decide
 ·have e1:(ins wF fq).length=1:=by decide
  have e2:(outs wF fq).length=1:=by decide
  rw [e1,e2]
  decide
theorem w_mid:rest wF fq++met wF fq=wT.cons:=by decide
theorem w_run {lt g:List L8}{t:SysD}(hl:∀ n,n∈lt↔n=fq) (h:Run lt wF g t):t=wT∧g = [fq]:=by
 cases h with
 | done h=>exact absurd w_folds (h fq ((hl fq).2 rfl))
 | @step _ _ n ys g' hn hf hy hr=>
  have e:=(hl n).1 hn
  subst e
  rw [w_mid] at hy
  have ey:ys=wT.cons:=hy.uniq linC (IsCan.of_rising (List.pairwise_singleton _ _) fun _=>Iff.rfl)
  subst ey
  cases hr with
  | done _=>exact ⟨rfl,rfl⟩
  | step hn' hf' _ _=>
   exfalso
   have e:=(hl _).1 hn'
   subst e
   obtain ⟨⟨c,hc,h⟩,_⟩:=hf'
   have hc:c∈wT.cons:=hc
   unfold wT at hc
   simp only [List.mem_cons,List.not_mem_nil,or_false] at hc
   subst hc
   revert h
   decide
theorem only_one {a:L8}{ys:List L8}(hr:Rising ltL ys) (hm:∀ z,z∈ys↔z ∈ [a]):ys = [a]:=by
 match ys,hr,hm with
 | [],_,hm=>exact absurd ((hm a).2 (List.mem_singleton.2 rfl)) (by simp)
 | [b],_,hm=>rw [List.mem_singleton.1 ((hm b).1 (List.mem_singleton.2 rfl))]
 | b::c::l,hr,hm=>
  have hb:=List.mem_singleton.1 ((hm b).1 List.mem_cons_self)
  have hc:=List.mem_singleton.1 ((hm c).1 (List.mem_cons_of_mem _ List.mem_cons_self))
  exfalso
  have hn:=rising_nodup hr
  rw [hb,hc] at hn
  simp at hn
end Go.Proofs.YtjdhjgfmloaglaaGreatDoor.P22
end
section
namespace Go.Proofs.YtjdhjgfmloaglaaGreatDoor.C22
open Go Go.V Go.Proofs N22 P14 C14 P15 C15 C18 P22 C22S
attribute [local irreducible] Cvt ExtF CallF hrun App MkS callV Lkp MUp
abbrev At3 (E:Hp) (b:Nat) (s1 s2 s3:Sl):Prop:=hcell E ⟨b,0,none⟩=some (.slice s1.a s1.n s1.c)∧hcell E ⟨b,1,none⟩=some (.slice s2.a s2.n s2.c)∧hcell E ⟨b,2,none⟩=some (.slice s3.a s3.n s3.c)∧True
theorem At3.more {E F:Hp}{b:Nat}{s1 s2 s3:Sl}(h:At3 E b s1 s2 s3) (f:Fr no E F):At3 F b s1 s2 s3:=⟨lf f h.1,lf f h.2.1,lf f h.2.2.1,trivial⟩
section
variable {H:Hp}{K:Value→Hp→Prop}{Z:List PanicEntry→Hp→Prop}
theorem greatT_ok {l:Sl}{ns:List L8}(h:Rd flL 1 H l ns) (k:∀ y,(y=false→ns.length≤60∧∀ n∈ns,n.length≤100)→K (.bool y) H):CallF Tryz.prog 8 #[.slice l.a l.n l.c] H K Z:=by
 refine V8_ok ?_
 unfold V8
 have ln:=h.len
 refine ⟨fun i B m=>∃ j:Nat,B=H∧i=(j:Int)∧j≤ns.length∧j≤60∧m=ns.length - j∧∀ n∈ns.take j,n.length≤100,⟨_,0,rfl,rfl,Nat.zero_le _,by decide,rfl,by simp⟩,?_⟩
 rintro i B m ⟨j,rfl,rfl,hj,hj6,rfl,hno⟩ scr
 refine ⟨fun hlt=>⟨fun _=>k true (fun h=>by cases h),fun h6=>?_⟩,fun hge=>?_⟩
 ·have hj':j < ns.length:=by have:=dlt hlt;omega
  have h6:=of_decide_eq_false h6
  obtain ⟨n,hn,hnm⟩:=getN hj'
  refine atL h hn fun ad e=>⟨_,e,fun _=>k true (fun h=>by cases h),fun hs=>⟨ns.length - (j+1),by omega,j+1,rfl,wi (by omega),hj',by omega,rfl,fun z hz=>?_⟩⟩
  rw [str_size] at hs
  have hs:=of_decide_eq_false hs
  rw [List.take_add_one,hn] at hz
  rcases List.mem_append.1 hz with hz | hz
  ·exact hno z hz
  ·rw [List.mem_singleton.1 hz];omega
 ·have hje:j=ns.length:=by have:=dge hge;omega
  rw [hje,List.take_length] at hno
  exact k false fun _=>⟨by omega,hno⟩
theorem w_site:siteB fq=false:=by kernel_rfl
theorem wF_ok:OkSys wF:=by
 refine ⟨⟨by decide,fun o ho=>by cases ho⟩,⟨by decide,fun f hf=>by cases hf⟩,⟨by decide,fun c hc=>?_⟩⟩
 simp only [wF,List.mem_cons,List.not_mem_nil,or_false] at hc
 rcases hc with rfl | rfl
 ·exact ⟨by decide,by decide,by decide,by decide,by intro m hm;cases hm⟩
 ·exact ⟨by decide,by decide,by decide,by decide,by intro m hm;cases hm⟩
abbrev hsF:List HC:=[(1,fq,x0,0,[],nS),(2,fr,fq,0,[],nS)]
theorem works22_ok (ht:Pw H) (k:∀ H',Fr no H H'→K (.bool true) H'):CallF Tryz.prog 6 #[] H K Z:=by
 refine V6_ok ?_
 unfold V6
 intro b A hA bS B hB
 have sA:=(Sym.start H).lit (l:=hsF) FlHC (by decide) hA (show 2=_ from rfl)
 have sB:=sA.newb (cs:=zS) hB
 refine sB.stbs (k:=0) (i:=0) (vs:=sL nS nS ⟨some ⟨b,0,none⟩,2,2⟩) rfl (by simp) (one3 _ _ _) fun D sD=>?_
 have hrd:RdSys D nS nS ⟨some ⟨b,0,none⟩,2,2⟩ wF:=by
  refine ⟨RdX.nil,Rd.nil,rdX_lit (sD.rd (k:=1) FlHC (by decide) rfl) rfl ?_⟩
  intro i h x hh hx
  match i,hh,hx with
  | 0,hh,hx=>rw [← Option.some_inj.1 hh,← Option.some_inj.1 hx];exact ⟨rfl,Rd.nil⟩
  | 1,hh,hx=>rw [← Option.some_inj.1 hh,← Option.some_inj.1 hx];exact ⟨rfl,Rd.nil⟩
  | i+2,hh,hx=>cases hx
 replace sD:Sym H no D [blk bS (sL nS nS ⟨some ⟨b,0,none⟩,2,2⟩) 26,_]:=sD
 have ks:∀ n ∈ [fq],List.length n≤1048576:=fun n hn=>by rw [List.mem_singleton.1 hn];decide
 refine ⟨_,_,_,⟨sD.ld (k:=0) rfl 0,sD.ld (k:=0) rfl 1,sD.ld (k:=0) rfl 2,trivial⟩,fun b2 E hE=>?_⟩
 have sE:=(Sym.start D).lit (l:=[fq]) FlL (by decide) hE (show 1=_ from rfl)
 have fE:=sE.fr
 refine fsys_ok (sh:=⟨some ⟨b2,0,none⟩,1,1⟩) (hide:=[fq]) (hrd.more fE) wF_ok (sE.rd (k:=0) FlL (by decide) rfl) ks (by decide) (TabH.more ht (sD.fr.trans fE)) (fun _ _ h=>absurd P22.w_check h) fun c t g lt gs sg F _ sF gd _ hrun hlt hgs hris hmem=>⟨c.y,c.y1,c.y2,sg,0,rfl,fun bT G hG=>?_⟩
 obtain ⟨et,eg⟩:=w_run (fun n=>by
  rw [hlt n,List.mem_singleton]
  exact ⟨fun h=>h.1,fun h=>⟨h,by rw [h];exact w_site⟩⟩) hrun
 subst et
 subst eg
 have egs:=only_one hris hmem
 subst egs
 have hc0:=CanS.rd sF.ok gd
 have sG:=(Sym.start F).newb (cs:=zS) hG
 refine sG.stbs (k:=0) (i:=0) (vs:=sL c.y c.y1 c.y2) rfl (by simp) (one3 _ _ _) fun I sI=>⟨fun _=>?_,fun h=>by cases h⟩
 replace sI:Sym F no I [blk bT (sL c.y c.y1 c.y2) 26]:=sI
 have hc:=hc0.more sI.fr
 have fDI:Fr no D I:=fE.trans (sF.fr.trans sI.fr)
 have e3:=RdX.len hc.c
 have e3':c.y2.n=1:=e3
 obtain ⟨t,hta,ix⟩:=atC (i:=0) hc.c rfl
 refine ⟨c.y2,sI.ld (k:=0) rfl 2,fun _=>⟨c.y2,sI.ld (k:=0) rfl 2,ix fun ad q1 q2 q3 q4 q5 q6=>⟨_,q1,fun _=>⟨c.y2,sI.ld (k:=0) rfl 2,ix fun ad p1 p2 p3 p4 p5 p6=>⟨_,p2,fun _ b3 J hJ=>?_,fun h=>absurd ((beqS_iff.2 (rfl:str fr=⟨#[102,46,114]⟩)).symm.trans h) (by decide)⟩⟩,fun h=>by cases h⟩⟩,fun h=>by rw [e3'] at h;cases h⟩
 have sJ:=(Sym.start I).lit (l:=[fq]) FlL (by decide) hJ (show 1=_ from rfl)
 exact sameT_ok (b:=⟨some ⟨b3,0,none⟩,1,1⟩) (hgs.more (sI.fr.trans sJ.fr)) (sJ.rd (k:=0) FlL (by decide) rfl) (by decide) ⟨_,rfl,k J (sD.fr.trans (fDI.trans sJ.fr))⟩
end
end Go.Proofs.YtjdhjgfmloaglaaGreatDoor.C22
end
section
namespace Go.Proofs.YtjdhjgfmloaglaaGreatDoor.C22
open Go Go.V Go.Proofs N22 P14 C14 P15 C15 C18 P22 C22S
attribute [local irreducible] Cvt ExtF CallF hrun App MkS callV Lkp MUp
section
variable {H:Hp}{s1 s2 s3 sh:Sl}{x:SysD}{hide:List L8}{K:Value→Hp→Prop}{Z:List PanicEntry→Hp→Prop}
theorem numIn_ok {l:Sl}{ns:List L8}{n:L8}(h:Rd flL 1 H l ns) (hl:ns.length≤1000000) (hin:n∈ns) (k:∀ y:Int,decide (y < 0)=false→K (.int .i64 y) H):CallF Tryz.prog 10 #[.slice l.a l.n l.c,.string (str n)] H K Z:=
 Q05.number_ok (els_of h) (by rw [List.length_map];omega) (fun i _ _=>k i (decide_eq_false (by omega))) fun hno=>absurd (List.mem_map.2 ⟨n,hin,rfl⟩) hno
theorem numOut_ok {l:Sl}{ns:List L8}{n:L8}(h:Rd flL 1 H l ns) (hl:ns.length≤2000000) (hout:n∉ns) (k:K (.int .i64 (-1)) H):CallF Tryz.prog 10 #[.slice l.a l.n l.c,.string (str n)] H K Z:=
 Q05.number_ok (els_of h) (by rw [List.length_map];omega) (fun i hi _=>absurd (List.mem_of_getElem? hi) fun hm=>by
  obtain ⟨z,hz,e⟩:=List.mem_map.1 hm
  rw [str_inj e] at hz
  exact hout hz) fun _=>k
theorem fold_law (hr:RdSys H s1 s2 s3 x) (hx:OkSys x) (hh:Rd flL 1 H sh hide) (ht:Pw H) (k:∀ H',Fr no H H'→K (.bool true) H'):CallF Tryz.prog 3 #[sAg s1 s2 s3,.slice sh.a sh.n sh.c] H K Z:=by
 refine V3_ok ?_
 unfold V3
 intro bS A hA
 have sA:=(Sym.start H).newb (cs:=sL s1 s2 s3) hA
 have gS:At3 A bS s1 s2 s3:=⟨sA.ld (k:=0) rfl 0,sA.ld (k:=0) rfl 1,sA.ld (k:=0) rfl 2,trivial⟩
 have fA:=sA.fr
 refine works22_ok (TabH.more ht fA) fun B fB=>⟨_,rfl,(fun h=>by cases h),fun _=>⟨fun E=>Fr no A E∧Mild 40 x∧(hide.length≤60∧∀ n∈hide,n.length≤100),?_,s1,s2,s3,gS.more fB,great15_ok (most:=40) (hr.more (fA.trans fB)) hx fun y1 C fC m1=>⟨_,rfl,fun _=>k C (fA.trans (fB.trans fC)),fun e1=>greatT_ok (hh.more (fA.trans (fB.trans fC))) fun y2 m2=>⟨_,rfl,fun _=>k C (fA.trans (fB.trans fC)),fun e2=>⟨fB.trans fC,m1 e1,m2 e2⟩⟩⟩⟩⟩
 rintro E ⟨fE,mx,mh⟩ scr
 have fHE:=fA.trans fE
 have hhs:∀ n∈hide,n.length≤1048576:=fun n hn=>by have:=mh.2 n hn;omega
 refine ⟨s1,s2,s3,gS.more fE,fsys_ok (hr.more fHE) hx (hh.more fHE) hhs (by omega) (TabH.more ht fHE) (fun F fF hne=>⟨nS,nS,nS,nS,_,rfl,fun bT G hG=>?_⟩) fun c t g lt gs sg F h0 sF gd okt hrun hlt hgs hris hmem=>⟨c.y,c.y1,c.y2,sg,0,rfl,fun bT G hG=>?_⟩⟩
 ·have sG:=(Sym.start F).newb (cs:=zS) hG
  exact sG.stbs (k:=0) (i:=0) (vs:=zS) rfl (by simp) (one3 nS nS nS) fun I sI=>⟨fun _=>k I (fHE.trans (fF.trans sI.fr)),fun h=>absurd (bne_eq_false_iff_eq.1 h) hne⟩
 obtain ⟨ct,hle,hgone,hnam,hnof⟩:=hrun.less h0
 have sG:=(Sym.start F).newb (cs:=zS) hG
 refine sG.stbs (k:=0) (i:=0) (vs:=sL c.y c.y1 c.y2) rfl (by simp) (one3 _ _ _) fun I sI=>⟨(fun h=>by cases h),fun _=>?_⟩
 replace sI:Sym F no I [blk bT (sL c.y c.y1 c.y2) 26]:=sI
 have rt:=(CanS.rd sF.ok gd).more sI.fr
 have gT:At3 I bT c.y c.y1 c.y2:=⟨sI.ld (k:=0) rfl 0,sI.ld (k:=0) rfl 1,sI.ld (k:=0) rfl 2,trivial⟩
 have fEI:Fr no E I:=sF.fr.trans sI.fr
 have fHI:=fHE.trans fEI
 have n3:=RdX.len rt.c
 have m3:=RdX.len hr.c
 have hgI:Rd flL 1 I sg gs:=hgs.more sI.fr
 have lg:=hgI.len
 have hgm:∀ n∈gs,n∈hide∧¬ named t n:=fun n hn=>by
  obtain ⟨a,b⟩:=hgone n ((hmem n).1 hn)
  exact ⟨((hlt n).1 a).1,b⟩
 have hgl:gs.length≤hide.length:=subset_len (rising_nodup hris) fun z hz=>(hgm z hz).1
 have hr6:=(check_right ct).c
 refine ⟨c.y2,gT.2.2.1,s3,(gS.more (fE.trans fEI)).2.2.1,fun h=>?_,fun _=>?_⟩
 ·have:=of_decide_eq_true h
  omega
 refine ⟨fun i B m=>∃ j:Nat,i=(j:Int)∧j≤gs.length∧m=gs.length - j∧Fr no I B,⟨_,0,rfl,Nat.zero_le _,rfl,Fr.refl _ _⟩,?_⟩
 rintro i B m ⟨j,rfl,hj,rfl,fB⟩ scr
 refine ⟨fun hlt'=>?_,fun hge=>?_⟩
 ·have hj':j < gs.length:=by have:=dlt hlt';omega
  obtain ⟨n,hn,hnm⟩:=getN hj'
  obtain ⟨hnh,hnn⟩:=hgm n hnm
  refine atL (hgI.more fB) hn fun ad e=>⟨_,e,numIn_ok (hh.more (fHI.trans fB)) (by omega) hnh fun y hy=>⟨_,rfl,(fun h=>by rw [hy] at h;cases h),fun _=>⟨fun i' C m'=>∃ j':Nat,i'=(j':Int)∧j'≤t.cons.length∧m'=t.cons.length - j'∧Fr no I C,⟨_,0,rfl,Nat.zero_le _,rfl,fB⟩,?_⟩⟩⟩
  rintro i' C m' ⟨j',rfl,hj1,rfl,fC⟩ scr1
  refine ⟨c.y2,(gT.more fC).2.2.1,fun hlt2=>?_,fun hge2=>⟨gs.length - (j+1),by omega,j+1,wi (by omega),hj',rfl,fC⟩⟩
  have hj2:j' < t.cons.length:=by have:=dlt hlt2;omega
  obtain ⟨q,hq,hqm⟩:=getN hj2
  have hqa:q.a≠n:=fun e=>hnn ⟨q,hqm,.inl e⟩
  have hqb:q.op≠1→q.b≠n:=fun h e=>hnn ⟨q,hqm,.inr (.inl ⟨h,e⟩)⟩
  have hqr:n∉q.args:=fun h=>hnn ⟨q,hqm,.inr (.inr h)⟩
  have hqn:=hr6.2 q hqm
  obtain ⟨ta,hta,ix⟩:=atC (rt.c.more fC) hq
  refine ⟨c.y2,(gT.more fC).2.2.1,ix fun ad1 e1 e2 e3 e4 e5 e6=>⟨_,_,_,_,_,ta,⟨e1,e2,e3,e4,e5,e6,trivial⟩,fun bX D hD=>?_⟩⟩
  have sD:=(Sym.start C).newb (cs:=[.int .i64 0,.string ⟨#[]⟩,.string ⟨#[]⟩,.int .i64 0,.string ⟨#[]⟩,.slice none 0 0]) hD
  refine sD.stbs (k:=0) (i:=0) (vs:=cL q ta) rfl (by simp) (FlHC.2 (HC.of q ta)) fun J sJ=>?_
  replace sJ:Sym C no J [blk bX (cL q ta) 36]:=sJ
  have fJ:=fC.trans sJ.fr
  have hgJ:=hgI.more fJ
  have next:∃ m5,m5 < t.cons.length - j'∧∃ j'':Nat,w64 ((j':Int)+1)=(j'':Int)∧j''≤t.cons.length∧m5=t.cons.length - j''∧Fr no I J:=⟨_,by omega,j'+1,wi (by omega),hj2,rfl,fJ⟩
  have last:CallF Tryz.prog 10 #[.slice ta.a ta.n ta.c,.string (str n)] J (fun r3 H12=>∃ y2:Int,r3 = .int .i64 y2∧(((decide (y2≥0))=true→K (.bool false) H12)∧((decide (y2≥0))=false→(∃ m5,m5 < t.cons.length - j'∧∃ j'':Nat,w64 ((j':Int)+1)=(j'':Int)∧j''≤t.cons.length∧m5=t.cons.length - j''∧Fr no I H12)))) Z:=
   numOut_ok (hta.more sJ.fr) (by omega) hqr ⟨_,rfl,fun h=>absurd h (by decide),fun _=>next⟩
  have neq:∀ {a:L8},a≠n→beqS (str a) (str n)=true→K (.bool false) J:=fun hne h=>absurd (str_inj (beqS_iff.1 h)) hne
  refine ⟨_,sJ.ld (k:=0) rfl 1,atL hgJ hn fun ad2 e=>⟨_,e,neq hqa,fun _=>⟨_,sJ.ld (k:=0) rfl 0,fun h1=>⟨_,sJ.ld (k:=0) rfl 2,atL hgJ hn fun ad3 e=>⟨_,e,neq (hqb (bne_iff_ne.1 h1)),fun _=>⟨ta,sJ.ld (k:=0) rfl 5,atL hgJ hn fun ad4 e=>⟨_,e,last⟩⟩⟩⟩,fun h1=>⟨ta,sJ.ld (k:=0) rfl 5,atL hgJ hn fun ad4 e=>⟨_,e,last⟩⟩⟩⟩⟩
 ·refine ⟨c.y,c.y1,c.y2,gT.more fB,fsys_ok (rt.more fB) okt (hh.more (fHI.trans fB)) hhs (by omega) (TabH.more ht (fHI.trans fB)) (fun _ _ hne=>absurd ct hne) fun c2 t2 g2 lt2 gs2 sg2 D _ sD gd2 _ hrun2 hlt2 hgs2 _ hmem2=>⟨c2.y,c2.y1,c2.y2,sg2,0,rfl,fun b2 L hL=>?_⟩⟩
  have eg:g2 = []:=hrun2.again fun n hn=>hnof n ((hlt n).2 ((hlt2 n).1 hn))
  subst eg
  have egs:gs2 = []:=List.eq_nil_iff_forall_not_mem.2 fun z hz=>by
   have:=(hmem2 z).1 hz
   cases this
  subst egs
  have l0:=hgs2.len
  have sL':=(Sym.start D).newb (cs:=zS) hL
  refine sL'.stbs (k:=0) (i:=0) (vs:=sL c2.y c2.y1 c2.y2) rfl (by simp) (one3 _ _ _) fun M sM=>⟨fun _=>?_,fun h=>by cases h⟩
  rw [l0]
  exact k M (fHI.trans (fB.trans (sD.fr.trans sM.fr)))
end
end Go.Proofs.YtjdhjgfmloaglaaGreatDoor.C22
end
section
namespace Go.Proofs.YtjdhjgfmloaglaaGreatDoor.L22U
open Go Go.V Go.Proofs P14 C14 P15 C15 C18
attribute [local irreducible] Cvt ExtF CallF hrun App MkS callV
section
variable {H:Hp}{K:Value→Hp→Prop}{Z:List PanicEntry→Hp→Prop}
abbrev Sys (H:Hp) (a:SysD × Sl × Sl × Sl):Prop:=RdSys H a.2.1 a.2.2.1 a.2.2.2 a.1∧OkSys a.1
abbrev Strs (H:Hp) (l:Sl) (xs:List L8):Prop:=Rd flL 1 H l xs∧xs.length≤1048576∧∀ y∈xs,y.length≤1048576
theorem fold2 {a:SysD × Sl × Sl × Sl}{l:Sl}{xs:List L8}(ht:Pw H) (ha:Sys H a) (hl:Strs H l xs) (k:∀ H',Fr no H H'→K (.bool true) H'):CallF Tryz.prog 3 #[sAg a.2.1 a.2.2.1 a.2.2.2,.slice l.a l.n l.c] H K Z:=C22.fold_law ha.1 ha.2 hl.1 ht k
end
end Go.Proofs.YtjdhjgfmloaglaaGreatDoor.L22U
end
section
namespace Go.Proofs.YtjdhjgfmloaglaaGreatDoor.Lyd
open Go Go.V Go.Proofs Go.ChangeShapes Go.WideShapes Go.ChangeAt Go.RowKit
theorem wit {H:Type}{enc:TypeId × Value→H}{C:Checked}{os:Os}{f:FuncId}{fn:Func}{s:OpenSpec}{conds:List PathCond}{apart:Bool}{laid:List (String × DataW Unit)}(args:Array Value)
  (hv:((World.laidAll C.prog os laid).forCall (fun _ _=>0) ⟨#[],args,[]⟩).variablesZipB C.prog=true)
  (hr:(((World.laidAll C.prog os laid).forCall (fun _ _=>0) ⟨#[],args,[]⟩).heap.toList.drop C.prog.globals.size).take ((begin C.prog (fun _ _=>0) default).world.heap.size - C.prog.globals.size) =
   (begin C.prog (fun _ _=>0) default).world.heap.toList.drop C.prog.globals.size)
  (hok:Input.okWideB C.prog ((World.laidAll C.prog os laid).forCall (fun _ _=>0) ⟨#[],args,[]⟩) f ⟨#[],args,[]⟩=true)
  (hrow:s.preRow enc C.prog fn conds apart laid ((World.laidAll C.prog os laid).forCall (fun _ _=>0) ⟨#[],args,[]⟩).memory args) :
  ∃ (w:World) (tape:Tape) (i:Input),w.os=os∧(w.forCall tape i).Shaped C.prog∧i.vars = []∧Input.okWide C.prog (w.forCall tape i) .any w.heap.size f i ∧
   s.preRow enc C.prog fn conds apart laid (w.forCall tape i).memory i.args∧({}:Assume).holds C.prog (lone (Frame.enter C.prog f i.args .normal) [] (w.forCall tape i)):=
 ⟨World.laidAll C.prog os laid,fun _ _=>0,⟨#[],args,[]⟩,World.laidAll_os _ _ _,World.shaped_of_ZipB hv hr,(Input.okWide_of_okWideB (base:=0) hok).1,(Input.okWide_of_okWideB hok).2,hrow,by
  simp only [Assume.holds]
  simp⟩
theorem tab_at {P:Program}{W:World}{name:String}{k:IntKind}{zs:List Int}{g:Nat}{t e:TypeId}{n:Nat}
  (hg:P.globalNamed name=some g) (hty:(P.globals[g]?).map (·.type)=some t) (ht:P.underlying t=some (.array n e)) (he:P.underlying e=some (.int k)) (hce:P.cellsOf e=1) (hct:P.cellsOf t=n) :
  ∀ (i:Nat) (l:List (String × DataW Unit)),l[i]? = some (name,Lib.tabData k zs)→laidMet P l W→Lib.TabIs P W name k zs
 | _,[],hm,_=>by simp at hm
 | 0,x::l,hm,h=>by
  simp only [List.getElem?_cons_zero,Option.some.injEq] at hm
  subst hm
  exact Lib.tabIs_of_head hg hty ht he hce hct h
 | i+1,x::l,hm,h=>tab_at hg hty ht he hce hct i l (by simpa using hm) h.tail
theorem pow10 {W:World}{l:List (String × DataW Unit)}(i:Nat) (hm:l[i]? = some ("internal/strconv.uint64pow10",Rows.laid_internal_strconv_uint64pow10)) (h:laidMet Tryz.prog l W):TabH Tryz.prog W.heap "internal/strconv.uint64pow10" .u64 Lib.pow10Tab:=by
 have e:(Rows.laid_internal_strconv_uint64pow10:DataW Unit)=Lib.tabData .u64 Lib.pow10Tab:=by kernel_rfl
 rw [e] at hm
 exact TabH.of (tab_at (g:=(Tryz.prog.globalNamed "internal/strconv.uint64pow10").getD 0) (t:=280) (e:=260) (n:=20) (by kernel_rfl) (by kernel_rfl) (by kernel_rfl) (by kernel_rfl) (by kernel_rfl) (by kernel_rfl) i l hm h)
end Go.Proofs.YtjdhjgfmloaglaaGreatDoor.Lyd
end
