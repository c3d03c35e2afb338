import Derived.Test.YtjdhjgfmloaglaaGreatDoorZ21
import Derived.Test.YtjdhjgfmloaglaaGreatDoorRows
import Derived.Deep.DeepHandedRow
import Derived.Deep.DeepWitnessRef
import Derived.Lay
import Derived.Stop.LaidErr
import Derived.Lib.LaidTab
import Derived.Lib.ItoaNum
import Derived.Lib.Space
import Derived.Lib.TrailingZeros
set_option linter.unusedVariables false
set_option linter.unusedSimpArgs false
section
namespace Go.Proofs.YtjdhjgfmloaglaaGreatDoor.C21
open Go Go.V Go.Proofs N21 P14 C14 P15 C15 C18 P21
attribute [local irreducible] Cvt ExtF CallF hrun App MkS callV Lkp MUp
section
variable {H:Hp}{s1 s2 s3 sh:Sl}{x:SysD}{hide:List L8}{K:Value→Hp→Prop}{Z:List PanicEntry→Hp→Prop}
theorem numIn_ok {l:Sl}{ns:List L8}{n:L8}(h:Rd flL 1 H l ns) (hl:ns.length≤1000000) (hin:n∈ns) (k:∀ y:Int,decide (y < 0)=false→K (.int .i64 y) H):CallF Tryz.prog 10 #[.slice l.a l.n l.c,.string (str n)] H K Z:=
 Q05.number_ok (els_of h) (by rw [List.length_map];omega) (fun i _ _=>k i (decide_eq_false (by omega))) fun hno=>absurd (List.mem_map.2 ⟨n,hin,rfl⟩) hno
theorem numOut_ok {l:Sl}{ns:List L8}{n:L8}(h:Rd flL 1 H l ns) (hl:ns.length≤2000000) (hout:n∉ns) (k:K (.int .i64 (-1)) H):CallF Tryz.prog 10 #[.slice l.a l.n l.c,.string (str n)] H K Z:=
 Q05.number_ok (els_of h) (by rw [List.length_map];omega) (fun i hi _=>absurd (List.mem_of_getElem? hi) fun hm=>by
  obtain ⟨z,hz,e⟩:=List.mem_map.1 hm
  rw [str_inj e] at hz
  exact hout hz) fun _=>k
theorem atW {s:Sl}{l:List Swp}{i:Nat}{w:Swp}{K:Addr→Prop}(h:Rd flW 2 H s l) (hw:l[i]? = some w) (k:∀ ad,hcell H ad=some (.string (str w.1))→hcell H (ad.add 1)=some (.string (str w.2))→K ad):IxA s.a s.n (i:Int) 2 K:=
 h.ix (by decide) FlW (by omega) (by simpa using hw) fun ad g1 g2=>k ad g2 (g1 1 _ rfl)
theorem eq_law (hr:RdSys H s1 s2 s3 x) (hx:OkSys x) (hh:Rd flL 1 H sh hide) (ht:Pw H) (k:∀ H',Fr no H H'→K (.bool true) H'):CallF Tryz.prog 5 #[sAg s1 s2 s3,.slice sh.a sh.n sh.c] H K Z:=by
 refine V5_ok ?_
 unfold V5
 intro bS A hA
 have sA:=(Sym.start H).newb (cs:=sL s1 s2 s3) hA
 have gS:At3 A bS s1 s2 s3:=⟨sA.ld (k:=0) rfl 0,sA.ld (k:=0) rfl 1,sA.ld (k:=0) rfl 2,trivial⟩
 have fA:=sA.fr
 refine works21_ok (TabH.more ht fA) fun B fB=>⟨_,rfl,(fun h=>by cases h),fun _=>⟨fun E=>Fr no A E∧Mild 40 x∧(hide.length≤60∧∀ n∈hide,n.length≤100),?_,s1,s2,s3,gS.more fB,great15_ok (most:=40) (hr.more (fA.trans fB)) hx fun y1 C fC m1=>⟨_,rfl,fun _=>k C (fA.trans (fB.trans fC)),fun e1=>greatT_ok (hh.more (fA.trans (fB.trans fC))) fun y2 m2=>⟨_,rfl,fun _=>k C (fA.trans (fB.trans fC)),fun e2=>⟨fB.trans fC,m1 e1,m2 e2⟩⟩⟩⟩⟩
 rintro E ⟨fE,mx,mh⟩ scr
 have fHE:=fA.trans fE
 have hhs:∀ n∈hide,n.length≤1048576:=fun n hn=>by have:=mh.2 n hn;omega
 have mc:=mx.c.1
 have mo:=mx.o.1
 refine ⟨s1,s2,s3,gS.more fE,esys_ok (hr.more fHE) hx (hh.more fHE) hhs (by omega) (by omega) (by omega) (TabH.more ht fHE) (fun F fF hne=>⟨nS,nS,nS,nS,_,rfl,fun bT G hG=>?_⟩) fun c t out so lt F h0 sF gd okt ct hle hob hlt hso hq=>⟨c.y,c.y1,c.y2,so,0,rfl,fun bT G hG=>?_⟩⟩
 ·have sG:=(Sym.start F).newb (cs:=zS) hG
  exact sG.stbs (k:=0) (i:=0) (vs:=zS) rfl (by simp) (one3 nS nS nS) fun I sI=>⟨fun _=>k I (fHE.trans (fF.trans sI.fr)),fun h=>absurd (bne_eq_false_iff_eq.1 h) hne⟩
 have hHs:Hs (hidL lt):=hid_hs fun n hn=>((hlt n).1 hn).2
 obtain ⟨nodes,hfin⟩:=hq.fin hHs (checkE_0.1 h0).2.1.c
 have sG:=(Sym.start F).newb (cs:=zS) hG
 refine sG.stbs (k:=0) (i:=0) (vs:=sL c.y c.y1 c.y2) rfl (by simp) (one3 _ _ _) fun I sI=>⟨(fun h=>by cases h),fun _=>?_⟩
 replace sI:Sym F no I [blk bT (sL c.y c.y1 c.y2) 26]:=sI
 have rt:=(CanS.rd sF.ok gd).more sI.fr
 have gT:At3 I bT c.y c.y1 c.y2:=⟨sI.ld (k:=0) rfl 0,sI.ld (k:=0) rfl 1,sI.ld (k:=0) rfl 2,trivial⟩
 have fEI:Fr no E I:=sF.fr.trans sI.fr
 have fHI:=fHE.trans fEI
 have n3:=RdX.len rt.c
 have m3:=RdX.len hr.c
 have hgI:Rd flW 2 I so out:=hso.more sI.fr
 have lg:=hgI.len
 have hgm:∀ w∈out,w.1∈hide∧w.2≠w.1∧¬ named t.cons w.1:=fun w hw=>by
  obtain ⟨a,b,d⟩:=hq.ok w hw
  exact ⟨((hlt w.1).1 (of_decide_eq_true a)).1,b,d⟩
 have hgl:out.length≤hide.length:=by
  have hn:(out.map (·.1)).Nodup:=by
   unfold List.Nodup
   rw [List.pairwise_map]
   exact hq.srt.imp fun hxy e=>by rw [e,linL.irr] at hxy;cases hxy
  have:=subset_len hn fun z hz=>by
   obtain ⟨w,hw,rfl⟩:=List.mem_map.1 hz
   exact (hgm w hw).1
  rwa [List.length_map] at this
 have hr6:=(check_right ct).c
 refine ⟨c.y2,gT.2.2.1,s3,(gS.more (fE.trans fEI)).2.2.1,fun h=>?_,fun _=>?_⟩
 ·have:=of_decide_eq_true h
  omega
 refine ⟨fun i B m=>∃ j:Nat,i=(j:Int)∧j≤out.length∧m=out.length - j∧Fr no I B,⟨_,0,rfl,Nat.zero_le _,rfl,Fr.refl _ _⟩,?_⟩
 rintro i B m ⟨j,rfl,hj,rfl,fB⟩ scr
 refine ⟨fun hlt'=>?_,fun hge=>?_⟩
 ·have hj':j < out.length:=by have:=dlt hlt';omega
  obtain ⟨w,hw,hwm⟩:=getN hj'
  obtain ⟨hwh,hwne,hwn⟩:=hgm w hwm
  have hgB:=hgI.more fB
  refine ⟨fun D=>D=B,?_,atW hgB hw fun ad5 e5 _=>⟨_,e5,numIn_ok (hh.more (fHI.trans fB)) (by omega) hwh fun y hy=>⟨_,rfl,(fun h=>by rw [hy] at h;cases h),fun _=>atW hgB hw fun ad6 _ e6=>⟨_,e6,atW hgB hw fun ad7 e7 _=>⟨_,e7,fun h=>absurd (str_inj (beqS_iff.1 h)) hwne,fun _=>rfl⟩⟩⟩⟩⟩
  rintro D rfl scr1
  refine ⟨fun i' C m'=>∃ j':Nat,i'=(j':Int)∧j'≤t.cons.length∧m'=t.cons.length - j'∧Fr no I C,⟨_,0,rfl,Nat.zero_le _,rfl,fB⟩,?_⟩
  rintro i' C m' ⟨j',rfl,hj1,rfl,fC⟩ scr2
  refine ⟨c.y2,(gT.more fC).2.2.1,fun hlt2=>?_,fun hge2=>⟨out.length - (j+1),by omega,j+1,wi (by omega),hj',rfl,fC⟩⟩
  have hj2:j' < t.cons.length:=by have:=dlt hlt2;omega
  obtain ⟨q,hqq,hqm⟩:=getN hj2
  have hqa:q.a≠w.1:=fun e=>hwn ⟨q,hqm,.inl e⟩
  have hqb:q.op≠1→q.b≠w.1:=fun h e=>hwn ⟨q,hqm,.inr (.inl ⟨h,e⟩)⟩
  have hqr:w.1∉q.args:=fun h=>hwn ⟨q,hqm,.inr (.inr h)⟩
  have hqn:=hr6.2 q hqm
  obtain ⟨ta,hta,ix⟩:=atC (rt.c.more fC) hqq
  refine ⟨c.y2,(gT.more fC).2.2.1,ix fun ad1 e1 e2 e3 e4 e5 e6=>⟨_,_,_,_,_,ta,⟨e1,e2,e3,e4,e5,e6,trivial⟩,fun bX D' hD'=>?_⟩⟩
  have sD:=(Sym.start C).newb (cs:=[.int .i64 0,.string ⟨#[]⟩,.string ⟨#[]⟩,.int .i64 0,.string ⟨#[]⟩,.slice none 0 0]) hD'
  refine sD.stbs (k:=0) (i:=0) (vs:=cL q ta) rfl (by simp) (FlHC.2 (HC.of q ta)) fun J sJ=>?_
  replace sJ:Sym C no J [blk bX (cL q ta) 36]:=sJ
  have fJ:=fC.trans sJ.fr
  have hgJ:=hgI.more fJ
  have next:∃ m5,m5 < t.cons.length - j'∧∃ j'':Nat,w64 ((j':Int)+1)=(j'':Int)∧j''≤t.cons.length∧m5=t.cons.length - j''∧Fr no I J:=⟨_,by omega,j'+1,wi (by omega),hj2,rfl,fJ⟩
  have last:CallF Tryz.prog 10 #[.slice ta.a ta.n ta.c,.string (str w.1)] J (fun r3 H12=>∃ y2:Int,r3 = .int .i64 y2∧(((decide (y2≥0))=true→K (.bool false) H12)∧((decide (y2≥0))=false→(∃ m5,m5 < t.cons.length - j'∧∃ j'':Nat,w64 ((j':Int)+1)=(j'':Int)∧j''≤t.cons.length∧m5=t.cons.length - j''∧Fr no I H12)))) Z:=
   numOut_ok (hta.more sJ.fr) (by omega) hqr ⟨_,rfl,fun h=>absurd h (by decide),fun _=>next⟩
  have neq:∀ {a:L8},a≠w.1→beqS (str a) (str w.1)=true→K (.bool false) J:=fun hne h=>absurd (str_inj (beqS_iff.1 h)) hne
  exact ⟨_,sJ.ld (k:=0) rfl 1,atW hgJ hw fun ad2 e _=>⟨_,e,neq hqa,fun _=>⟨_,sJ.ld (k:=0) rfl 0,fun h1=>⟨_,sJ.ld (k:=0) rfl 2,atW hgJ hw fun ad3 e _=>⟨_,e,neq (hqb (bne_iff_ne.1 h1)),fun _=>⟨ta,sJ.ld (k:=0) rfl 5,atW hgJ hw fun ad4 e _=>⟨_,e,last⟩⟩⟩⟩,fun h1=>⟨ta,sJ.ld (k:=0) rfl 5,atW hgJ hw fun ad4 e _=>⟨_,e,last⟩⟩⟩⟩⟩
 ·refine ⟨c.y,c.y1,c.y2,gT.more fB,esys_ok (rt.more fB) okt (hh.more (fHI.trans fB)) hhs (by omega) (by omega) (by rw [hob];omega) (TabH.more ht (fHI.trans fB)) (fun _ _ hne=>absurd ct hne) fun c2 t2 out2 so2 lt2 D _ sD gd2 _ _ _ _ hlt2 hso2 hq2=>⟨c2.y,c2.y1,c2.y2,so2,0,rfl,fun b2 L hL=>?_⟩⟩
  have eh:hidL lt2=hidL lt:=by
   funext z
   unfold hidL
   rw [decide_eq_decide,hlt z,hlt2 z]
  rw [eh] at hq2
  have eo:out2 = []:=EqR.again hfin hq2 fun _ _=>IsCan.of_rising (checkE_0.1 ct).2.2.2 fun _=>Iff.rfl
  subst eo
  have l0:=hso2.len
  have sL':=(Sym.start D).newb (cs:=zS) hL
  refine sL'.stbs (k:=0) (i:=0) (vs:=sL c2.y c2.y1 c2.y2) rfl (by simp) (one3 _ _ _) fun M sM=>⟨fun _=>?_,fun h=>by cases h⟩
  rw [l0]
  exact k M (fHI.trans (fB.trans (sD.fr.trans sM.fr)))
end
end Go.Proofs.YtjdhjgfmloaglaaGreatDoor.C21
end
section
namespace Go.Proofs.YtjdhjgfmloaglaaGreatDoor.L21U
open Go Go.V Go.Proofs P14 C14 P15 C15 C18
attribute [local irreducible] Cvt ExtF CallF hrun App MkS callV
section
variable {H:Hp}{K:Value→Hp→Prop}{Z:List PanicEntry→Hp→Prop}
abbrev Sys (H:Hp) (a:SysD × Sl × Sl × Sl):Prop:=RdSys H a.2.1 a.2.2.1 a.2.2.2 a.1∧OkSys a.1
abbrev Strs (H:Hp) (l:Sl) (xs:List L8):Prop:=Rd flL 1 H l xs∧xs.length≤1048576∧∀ y∈xs,y.length≤1048576
theorem eq2 {a:SysD × Sl × Sl × Sl}{l:Sl}{xs:List L8}(ht:Pw H) (ha:Sys H a) (hl:Strs H l xs) (k:∀ H',Fr no H H'→K (.bool true) H'):CallF Tryz.prog 5 #[sAg a.2.1 a.2.2.1 a.2.2.2,.slice l.a l.n l.c] H K Z:=C21.eq_law ha.1 ha.2 hl.1 ht k
end
end Go.Proofs.YtjdhjgfmloaglaaGreatDoor.L21U
end
section
namespace Go.Proofs.YtjdhjgfmloaglaaGreatDoor.Lyd
open Go Go.V Go.Proofs Go.ChangeShapes Go.WideShapes Go.ChangeAt Go.RowKit
theorem wit {H:Type}{enc:TypeId × Value→H}{C:Checked}{os:Os}{f:FuncId}{fn:Func}{s:OpenSpec}{conds:List PathCond}{apart:Bool}{laid:List (String × DataW Unit)}(args:Array Value)
  (hv:((World.laidAll C.prog os laid).forCall (fun _ _=>0) ⟨#[],args,[]⟩).variablesZipB C.prog=true)
  (hr:(((World.laidAll C.prog os laid).forCall (fun _ _=>0) ⟨#[],args,[]⟩).heap.toList.drop C.prog.globals.size).take ((begin C.prog (fun _ _=>0) default).world.heap.size - C.prog.globals.size) =
   (begin C.prog (fun _ _=>0) default).world.heap.toList.drop C.prog.globals.size)
  (hok:Input.okWideB C.prog ((World.laidAll C.prog os laid).forCall (fun _ _=>0) ⟨#[],args,[]⟩) f ⟨#[],args,[]⟩=true)
  (hrow:s.preRow enc C.prog fn conds apart laid ((World.laidAll C.prog os laid).forCall (fun _ _=>0) ⟨#[],args,[]⟩).memory args) :
  ∃ (w:World) (tape:Tape) (i:Input),w.os=os∧(w.forCall tape i).Shaped C.prog∧i.vars = []∧Input.okWide C.prog (w.forCall tape i) .any w.heap.size f i ∧
   s.preRow enc C.prog fn conds apart laid (w.forCall tape i).memory i.args∧({}:Assume).holds C.prog (lone (Frame.enter C.prog f i.args .normal) [] (w.forCall tape i)):=
 ⟨World.laidAll C.prog os laid,fun _ _=>0,⟨#[],args,[]⟩,World.laidAll_os _ _ _,World.shaped_of_ZipB hv hr,(Input.okWide_of_okWideB (base:=0) hok).1,(Input.okWide_of_okWideB hok).2,hrow,by
  simp only [Assume.holds]
  simp⟩
theorem tab_at {P:Program}{W:World}{name:String}{k:IntKind}{zs:List Int}{g:Nat}{t e:TypeId}{n:Nat}
  (hg:P.globalNamed name=some g) (hty:(P.globals[g]?).map (·.type)=some t) (ht:P.underlying t=some (.array n e)) (he:P.underlying e=some (.int k)) (hce:P.cellsOf e=1) (hct:P.cellsOf t=n) :
  ∀ (i:Nat) (l:List (String × DataW Unit)),l[i]? = some (name,Lib.tabData k zs)→laidMet P l W→Lib.TabIs P W name k zs
 | _,[],hm,_=>by simp at hm
 | 0,x::l,hm,h=>by
  simp only [List.getElem?_cons_zero,Option.some.injEq] at hm
  subst hm
  exact Lib.tabIs_of_head hg hty ht he hce hct h
 | i+1,x::l,hm,h=>tab_at hg hty ht he hce hct i l (by simpa using hm) h.tail
theorem pow10 {W:World}{l:List (String × DataW Unit)}(i:Nat) (hm:l[i]? = some ("internal/strconv.uint64pow10",Rows.laid_internal_strconv_uint64pow10)) (h:laidMet Tryz.prog l W):TabH Tryz.prog W.heap "internal/strconv.uint64pow10" .u64 Lib.pow10Tab:=by
 have e:(Rows.laid_internal_strconv_uint64pow10:DataW Unit)=Lib.tabData .u64 Lib.pow10Tab:=by kernel_rfl
 rw [e] at hm
 exact TabH.of (tab_at (g:=(Tryz.prog.globalNamed "internal/strconv.uint64pow10").getD 0) (t:=280) (e:=260) (n:=20) (by kernel_rfl) (by kernel_rfl) (by kernel_rfl) (by kernel_rfl) (by kernel_rfl) (by kernel_rfl) i l hm h)
end Go.Proofs.YtjdhjgfmloaglaaGreatDoor.Lyd
end
