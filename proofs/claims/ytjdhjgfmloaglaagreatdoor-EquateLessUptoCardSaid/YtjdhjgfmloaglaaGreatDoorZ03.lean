import Derived.Test.YtjdhjgfmloaglaaGreatDoorZ02
import Derived.Laws.Sem
import Derived.Laws.Append
set_option linter.unusedVariables false
set_option linter.unusedSimpArgs false
section
namespace Go.V
def resK (P:Program):List ResultVar→Env→Hp→(List Value→Prop)→Prop
 | [],_,_,k=>k []
 | .tmp t::rs,E,H,k=>getK E.t t fun v=>resK P rs E H fun vs=>k (v.2::vs)
 | .cell a T::rs,E,H,k=>getK E.t a fun v=>ptrK v.2 fun ad=>ldT P T H ad fun r=>resK P rs E H fun vs=>k (r::vs)
def resV:List Value→Value
 | [v]=>v
 | vs=>.tuple vs.toArray
def unwK:List Deferred→Hp→(Hp→Prop)→Prop
 | [],H,k=>k H
 | { target:=.collected D,.. }::ds,H,k=>H[D]? = some (.deferred (some []))∧∀ H',H'=H.setIfInBounds D (.deferred none)→unwK ds H' k
 | _,_,_=>False
def retC (P:Program) (rs:List ResultVar) (E:Env) (H:Hp) (K:Value→Hp→Prop):Prop:=unwK E.d H fun H'=>resK P rs E H' fun vs=>K (resV vs) H'
def Zd (Z:List PanicEntry→Hp→Prop):List Deferred→List PanicEntry→Hp→Prop:=fun d ch H=>match d with | []=>Z ch H | _=>False
def endC (P:Program) (rs:List ResultVar) (K:Value→Hp→Prop):Exit→Env→Hp→Prop:=fun e E H=>match e with
 | .normal=>retC P rs E H K
 | .ret=>retC P rs E H K
 | _=>False
def entry (args:List Value) (n:Nat):Env:=⟨(args++List.replicate (n - args.length) undef).map fun v=>(false,v),[]⟩
def fnC (P:Program) (aJ aL:Ann) (f:FuncId) (args:List Value) (H:Hp) (K:Value→Hp→Prop) (Z:List PanicEntry→Hp→Prop):Prop:=match P.funcs[f]? with
 | some fn=>(match fn.body with
  | some c=>comp P none f aJ aL (Zd Z) c (endC P fn.results.toList K) (entry args fn.ntmps) H
  | none=>False)
 | none=>False
def resOne (tmps:Array Value):ResultVar→Sem Value
 | .tmp t=>pure (tmps.getD t undef)
 | .cell a t=>do loadVar t (← asAddr (tmps.getD a undef))
theorem tmps_getD (E:Env) (t:Nat):E.act.tmps.getD t undef=(E.t.getD t (false,undef)).2:=Env.eval_tmp E t
theorem resK_sound {P:Program}{E:Env}{H:Hp}:∀ {rs:List ResultVar}{k:List Value→Prop},resK P rs E H k →
  ∃ vs,k vs∧∀ w:World,w.heap=H→(rs.mapM (resOne E.act.tmps)).run P w = .ok vs w
 | [],k,h=>⟨[],h,fun w _=>rfl⟩
 | .tmp t::rs,k,h=>by
  simp only [resK,getK_eq] at h
  obtain ⟨vs,hk,hr⟩:=resK_sound h
  refine ⟨_,hk,fun w hw=>?_⟩
  simp only [List.mapM_cons,resOne,bind,pure,Sem.bind]
  rw [run_bind,hr w hw,tmps_getD]
  rfl
 | .cell a T::rs,k,h=>by
  simp only [resK,getK_eq] at h
  obtain ⟨ad,hv,h⟩:=ptrK_sound h
  obtain ⟨v,h,hl⟩:=ldT_run h
  obtain ⟨vs,hk,hr⟩:=resK_sound h
  refine ⟨_,hk,fun w hw=>?_⟩
  simp only [List.mapM_cons,resOne,tmps_getD,hv,asAddr,bind,pure,Sem.bind]
  rw [run_bind,hl w hw]
  simp only
  rw [run_bind,hr w hw]
  rfl
theorem results_run {P:Program}{fn:Func}{E:Env}{H:Hp}{k:List Value→Prop}(h:resK P fn.results.toList E H k) :
  ∃ vs,k vs∧∀ w:World,w.heap=H→(results fn E.act.tmps).run P w = .ok (resV vs) w:=by
 obtain ⟨vs,hk,hr⟩:=resK_sound h
 refine ⟨vs,hk,fun w hw=>?_⟩
 have e:results fn E.act.tmps=(fn.results.toList.mapM (resOne E.act.tmps)).bind fun vs=>.pure (resV vs):=by
  unfold results
  rw [Array.mapM_eq_mapM_toList]
  have hx:∀ g:ResultVar→Sem Value,(∀ x,g x=resOne E.act.tmps x)→List.mapM g fn.results.toList=List.mapM (resOne E.act.tmps) fn.results.toList:=by
   intro g hg
   rw [show g=resOne E.act.tmps from funext hg]
  rw [hx _ (by intro x;cases x <;> rfl)]
  rw [map_eq_pure_bind,bind_assoc]
  show Sem.bind _ _=_
  congr 1
  funext vs
  rw [pure_bind]
  show Sem.pure _=Sem.pure _
  congr 1
  match vs with
  | []=>rfl
  | [v]=>rfl
  | a::b::r=>rfl
 rw [e,run_bind,hr w hw]
 rfl
section
variable {P:Program}{b:Frame}{a:Act}{k:List Item}{cs:List Frame}{w:World}
theorem st_ret (hb:b.roundOf=none):step P (lone (fat b a (.code .ret::k)) cs w) = .next (lone { fat b a (.code .ret::k) with mode:=.returning } cs w):=
 step_lone_go (by simp [stepG,stepG.exec,fat,hb])
theorem st_end (hb:b.roundOf=none):step P (lone (fat b a []) cs w) = .next (lone { fat b a [] with mode:=.returning } cs w):=
 step_lone_go (by simp [stepG,stepG.exec,fat,hb])
theorem st_unw {D:Nat}{as:Array Value}{ds:List Deferred}{todo:List Item}(h:w.heap[D]? = some (.deferred (some []))) :
  step P (lone { fat b { a with defers:={ target:=.collected D,args:=as }::ds } todo with mode:=.returning } cs w) =
   .next (lone { fat b { a with defers:=ds } todo with mode:=.returning } cs { w with heap:=w.heap.setIfInBounds D (.deferred none) }):=
 step_lone_go (by
  have:(Instr.takeDeferred D).run P w = .ok [] { w with heap:=w.heap.setIfInBounds D (.deferred none) }:=by
   simp only [Instr.takeDeferred,getObj,setObj,bind,Sem.bind,pure,Sem.run,h]
  simp [stepG,unwind,fat,this])
theorem unw_steps:∀ {ds:List Deferred}{w:World}{K:Hp→Prop}{todo:List Item},unwK ds w.heap K →
  ∃ w',Lk w w'∧K w'.heap∧Steps P (lone { fat b { a with defers:=ds } todo with mode:=.returning } cs w) (lone { fat b { a with defers:=[] } todo with mode:=.returning } cs w')
 | [],w,K,todo,h=>⟨w,Lk.refl w,h,.refl _ _⟩
 | d::ds,w,K,todo,h=>by
  obtain ⟨target,args⟩:=d
  cases target <;> first | exact h.elim | skip
  rename_i D
  obtain ⟨h1,h2⟩:=h
  obtain ⟨w',hl,hK,hs⟩:=unw_steps (w:={ w with heap:=w.heap.setIfInBounds D (.deferred none) }) (todo:=todo) (h2 _ rfl)
  exact ⟨w',Lk.trans ⟨rfl,rfl,rfl⟩ hl,hK,.head (st_unw h1) hs⟩
end
theorem fnC_sound {P:Program}{aJ aL:Ann}{f:FuncId}{args:List Value}{H:Hp}{K:Value→Hp→Prop}{Z:List PanicEntry→Hp→Prop}(h:fnC P aJ aL f args H K Z) :
  CallF P f args.toArray H K Z:=by
 intro w hw cs
 subst hw
 unfold fnC at h
 cases hf:P.funcs[f]? with
 | none=>rw [hf] at h;exact h.elim
 | some fn=>
  rw [hf] at h
  simp only at h
  cases hb:fn.body with
  | none=>rw [hb] at h;exact h.elim
  | some c=>
   rw [hb] at h
   simp only at h
   let b:Frame:={ (default:Frame) with fn:=f,kind:=.normal }
   have hbr:b.roundOf=none:=rfl
   have henter:Frame.enter P f args.toArray .normal=fat b (entry args fn.ntmps).act [.code c]:=by
    simp [Frame.enter,fat,hf,hb,b,entry,Env.act,Function.comp_def]
    rfl
   obtain ⟨e,a',w',hl,hq,harr⟩:=comp_sound c h b [] cs w rfl rfl rfl
   rw [← henter] at harr
   have fin:∀ (E':Env) (todo:List Item),E'.act=a'→retC P fn.results.toList E' w'.heap K →
     Steps P (lone (Frame.enter P f args.toArray .normal) cs w) (lone { fat b a' todo with mode:=.returning } cs w') →
     ∃ e w' fr,(Lk w w'∧match e with
      | .returned v=>K v w'.heap
      | .panicked ch=>Z ch w'.heap
      | .outgrown=>False)∧Comes P (lone (Frame.enter P f args.toArray .normal) cs w) (lone fr cs w') e∧fr.fn=f∧fr.leaving P w' e:=by
    intro E' todo he hr hs
    unfold retC at hr
    obtain ⟨w2,hl2,hr,hs2⟩:=unw_steps (P:=P) (b:=b) (a:=a') (cs:=cs) (todo:=todo) hr
    have hd:E'.d=a'.defers:=by rw [← he];rfl
    rw [hd] at hs2
    obtain ⟨vs,hK,hres⟩:=results_run hr
    refine ⟨.returned (resV vs),w2,_,⟨hl.trans hl2,hK⟩,Steps.trans hs hs2,rfl,rfl,rfl,rfl,fn,hf,?_⟩
    have:=hres w2 rfl
    rw [he] at this
    exact this
   cases e with
   | normal=>obtain ⟨_,E',he,hr⟩:=hq;exact fin E' [] he hr (Steps.trans harr (.one (st_end hbr)))
   | ret=>obtain ⟨_,E',he,hr⟩:=hq;obtain ⟨k0,hs⟩:=harr;exact fin E' _ he hr (Steps.trans hs (.one (st_ret hbr)))
   | panic ch=>
    obtain ⟨k0,hs⟩:=harr
    simp only [Good,Zd] at hq
    split at hq
    ·rename_i hd
     exact ⟨.panicked ch,w',_,⟨hl,hq⟩,hs,rfl,rfl,hd,fn,hf⟩
    ·exact hq.elim
   | exit id=>exact hq.2.elim fun E' h=>h.2.elim
   | goto l=>exact harr.elim
   | outgrown=>exact harr.elim
def endR (l:Nat) (jump:Option Code) (H:Hp) (K:Value→Hp→Prop):Prop:=
 ∃ r,H[l]? = some (.loop r)∧∀ H',H'=H.setIfInBounds l (.loop { r with state:=if jump.isNone then .ready else .done,pending:=jump })→K (.bool jump.isNone) H'
def endRC (l:Nat) (K:Value→Hp→Prop):Exit→Env→Hp→Prop:=fun e E H=>match e with
 | .normal=>endR l none H K
 | .ret=>endR l (some .ret) H K
 | .exit id=>endR l (some (.exit id)) H K
 | _=>False
def rndC (P:Program) (aJ aL:Ann) (l:Nat) (fn:FuncId) (as body:Code) (E:Env) (H:Hp) (K:Value→Hp→Prop):Prop:=
 comp P (some l) fn aJ aL (fun _ _ _=>False) as (fun e E1 H1=>match e with
  | .normal=>∃ r,H1[l]? = some (.loop r)∧r.state = .ready∧∀ H2,H2=H1.setIfInBounds l (.loop { r with state:=.busy }) →
    comp P (some l) fn aJ aL (fun _ _ _=>False) body (endRC l K) E1 H2
  | _=>False) E H
section
variable {P:Program}{b:Frame}{a:Act}{k:List Item}{c:Frame}{cs:List Frame}{w w':World}{l:Nat}
theorem st_begin (hb:b.roundOf=some l) (h:(Instr.beginRound l).run P w = .ok () w'):step P (lone (fat b a (.beginRound::k)) cs w) = .next (lone (fat b a k) cs w'):=
 step_lone_go (by
  have:(do b.roundOf.elim (stuck "beginRound: no round") Instr.beginRound;pure .skip:Sem Next).run P w = .ok .skip w':=by
   rw [hb]
   simp only [Option.elim,bind]
   rw [run_bind,h]
   rfl
  simp only [stepG,stepG.exec,fat,stepG.apply]
  rw [Sem.runT_eq,this]
  simp [Frame.finish])
theorem st_leave {jump:Option Code}{v:Value}(hb:b.roundOf=some l) (hk:b.kind = .normal) {todo:List Item}(ht:(todo = []∧jump=none)∨(∃ k0,todo = .code .ret::k0∧jump=some .ret)∨(∃ id k0,todo = .code (.exit id)::k0∧exitTo id k0=none∧jump=some (.exit id)))
  (h:(Instr.endRound l jump).run P w = .ok v w'):step P (lone (fat b a todo) (c::cs) w) = .next (lone (c.finish v) cs w'):=
 step_lone_go (by
  rcases ht with ⟨rfl,rfl⟩ | ⟨k0,rfl,rfl⟩ | ⟨id,k0,rfl,hx,rfl⟩
  ·simp only [stepG,stepG.exec,fat,hb]
   rw [Sem.runT_eq,h]
   simp [doReturn,hk]
  ·simp only [stepG,stepG.exec,fat,hb]
   rw [Sem.runT_eq,h]
   simp [doReturn,hk]
  ·simp only [stepG,stepG.exec,fat,hb,hx,Option.elim]
   rw [Sem.runT_eq,h]
   simp [doReturn,hk])
end
theorem rndC_sound {P:Program}{aJ aL:Ann}{l:Nat}{fn:FuncId}{as body:Code}{E:Env}{H:Hp}{K:Value→Hp→Prop}(hd:E.d = []) (h:rndC P aJ aL l fn as body E H K) :
  Rnd P l fn E.act.tmps as body H K:=by
 intro w hw c cs
 subst hw
 let b:Frame:={ (default:Frame) with fn:=fn,kind:=.normal,roundOf:=some l }
 have hstart:Frame.round l fn E.act.tmps as body .normal=fat b E.act [.code as,.beginRound,.code body]:=by
  simp only [Frame.round,fat,b,Env.act,hd]
 rw [hstart]
 obtain ⟨e,a1,w1,hl1,hq,harr⟩:=comp_sound as h b [.beginRound,.code body] (c::cs) w rfl rfl rfl
 cases e with
 | normal=>
  obtain ⟨_,E1,rfl,r,hr,hst,hb⟩:=hq
  let w2:World:={ w1 with heap:=w1.heap.setIfInBounds l (.loop { r with state:=.busy }) }
  have hbeg:(Instr.beginRound l).run P w1 = .ok () w2:=by
   simp only [Instr.beginRound,Instr.getLoop,getObj,setObj,bind,Sem.bind,pure,Sem.run,hr,hst]
   rfl
  have hb:=hb w2.heap rfl
  obtain ⟨e2,a2,w3,hl3,hq2,harr2⟩:=comp_sound body hb b [] (c::cs) w2 rfl rfl rfl
  have hs1:Steps P (lone (fat b E.act [.code as,.beginRound,.code body]) (c::cs) w) (lone (fat b E1.act [.code body]) (c::cs) w2):=
   Steps.trans harr (.one (st_begin rfl hbeg))
  have hlk:Lk w w3:=hl1.trans (Lk.trans (b:=w2) ⟨rfl,rfl,rfl⟩ hl3)
  have fin:∀ (jump:Option Code) (todo:List Item),((todo = []∧jump=none)∨(∃ k0,todo = .code .ret::k0∧jump=some .ret)∨(∃ id k0,todo = .code (.exit id)::k0∧exitTo id k0=none∧jump=some (.exit id))) →
    endR l jump w3.heap K→Steps P (lone (fat b E1.act [.code body]) (c::cs) w2) (lone (fat b a2 todo) (c::cs) w3) →
    ∃ v w',Lk w w'∧K v w'.heap∧Steps P (lone (fat b E.act [.code as,.beginRound,.code body]) (c::cs) w) (lone (c.finish v) cs w'):=by
   intro jump todo ht hR hs
   obtain ⟨r3,hr3,hK⟩:=hR
   let w4:World:={ w3 with heap:=w3.heap.setIfInBounds l (.loop { r3 with state:=if jump.isNone then .ready else .done,pending:=jump }) }
   have hend:(Instr.endRound l jump).run P w3 = .ok (.bool jump.isNone) w4:=by
    simp only [Instr.endRound,Instr.getLoop,getObj,setObj,bind,Sem.bind,pure,Sem.run,hr3]
    rfl
   exact ⟨_,w4,hlk.trans ⟨rfl,rfl,rfl⟩,hK _ rfl,Steps.trans hs1 (Steps.trans hs (.one (st_leave rfl rfl ht hend)))⟩
  cases e2 with
  | normal=>obtain ⟨_,E2,rfl,hR⟩:=hq2;exact fin none [] (.inl ⟨rfl,rfl⟩) hR harr2
  | ret=>obtain ⟨_,E2,rfl,hR⟩:=hq2;obtain ⟨k0,hs⟩:=harr2;exact fin _ _ (.inr (.inl ⟨k0,rfl,rfl⟩)) hR hs
  | exit id=>obtain ⟨_,E2,rfl,hR⟩:=hq2;obtain ⟨k0,hx,hs⟩:=harr2;exact fin _ _ (.inr (.inr ⟨id,k0,rfl,hx,rfl⟩)) hR hs
  | panic ch=>exact hq2.elim
  | goto l=>exact harr2.elim
  | outgrown=>exact harr2.elim
 | panic ch=>exact hq.elim
 | ret=>exact hq.2.elim fun E' h=>h.2.elim
 | exit id=>exact hq.2.elim fun E' h=>h.2.elim
 | goto l=>exact harr.elim
 | outgrown=>exact harr.elim
def layK:List Nat→List Value→List (Bool × Value)→(List (Bool × Value)→Prop)→Prop
 | p::ps,v::vs,t,k=>setK t p (false,v) fun t'=>layK ps vs t' k
 | [],[],t,k=>k t
 | _,_,_,_=>False
theorem layK_eq:∀ {ps:List Nat}{vs:List Value}{t:List (Bool × Value)}{k:List (Bool × Value)→Prop},layK ps vs t k →
  ps.length=vs.length∧∃ t',k t'∧(t'.map (·.2)).toArray=(ps.zip vs).foldl (fun tmps x=>tmps.setIfInBounds x.1 x.2) (t.map (·.2)).toArray
 | p::ps,v::vs,t,k,h=>by
  simp only [layK,setK_eq] at h
  obtain ⟨hl,t',hk,he⟩:=layK_eq h
  refine ⟨by simp [hl],t',hk,?_⟩
  rw [he]
  simp [List.map_set]
 | [],[],t,k,h=>⟨rfl,t,h,rfl⟩
 | [],_::_,t,k,h=>h.elim
 | _::_,[],t,k,h=>h.elim
def findRF:Code→Nat→Option (Array Tmp × Code × Code)
 | .seq a b,n=>(match findRF a n with | some r=>some r | none=>findRF b n)
 | .cond _ a b,n=>(match findRF a n with | some r=>some r | none=>findRF b n)
 | .block _ c,n=>findRF c n
 | .loop c,n=>findRF c n
 | .scope c,n=>findRF c n
 | .rangeFunc f ps as body,n=>if key (.rangeFunc f ps as body)=n then some (ps,as,body) else (match findRF as n with | some r=>some r | none=>findRF body n)
 | _,_=>none
def lrec (f:Func) (fn:FuncId) (n:Nat) (tmps:List Value) (D:Nat):Loop:=match f.body.bind (findRF · n) with
 | some (ps,as,body)=>⟨.ready,none,fn,tmps.toArray,ps,as,body,D⟩
 | none=>default
def yldC (P:Program) (aJ aL:Ann) (f:Func) (fn:FuncId) (n:Nat) (l:Nat) (tmps args:List Value) (H:Hp) (K:Value→Hp→Prop):Prop:=match f.body.bind (findRF · n) with
 | some (ps,as,body)=>layK ps.toList args (tmps.map fun v=>(false,v)) fun t=>rndC P aJ aL l fn as body ⟨t,[]⟩ H K
 | none=>False
theorem yldC_sound {P:Program}{aJ aL:Ann}{f:Func}{fn n l:Nat}{tmps args:List Value}{H:Hp}{K:Value→Hp→Prop}{r:Loop}
  (hr:H[l]? = some (.loop r)) (hfn:r.fn=fn) (ht:r.tmps=tmps.toArray) (hp:r.params=(lrec f fn n tmps 0).params) (ha:r.assign=(lrec f fn n tmps 0).assign) (hb:r.body=(lrec f fn n tmps 0).body)
  (h:yldC P aJ aL f fn n l tmps args H K):Yld P l args H K:=by
 unfold yldC at h
 unfold lrec at hp ha hb
 cases hx:f.body.bind (findRF · n) with
 | none=>rw [hx] at h;exact h.elim
 | some x=>
  obtain ⟨ps,as,body⟩:=x
  rw [hx] at h hp ha hb
  simp only at h hp ha hb
  obtain ⟨hl,t',hk,he⟩:=layK_eq h
  refine ⟨r,hr,by rw [hp];simpa using hl.symm,?_⟩
  have:=rndC_sound (E:=⟨t',[]⟩) rfl hk
  rw [hfn,ha,hb,hp]
  have e:(⟨t',[]⟩:Env).act.tmps=(ps.zip args.toArray).foldl (fun tmps (x:Tmp × Value)=>tmps.setIfInBounds x.1 x.2) r.tmps:=by
   simp only [Env.act]
   rw [he,ht]
   have h1:(List.map (fun x:Bool × Value=>x.2) (List.map (fun v=>(false,v)) tmps))=tmps:=by simp [Function.comp_def]
   rw [h1]
   rw [← Array.foldl_toList]
   simp
  rw [e] at this
  exact this
end Go.V
end
section
namespace Go.V
abbrev w64 (x:Int):Int:=IntKind.wrap .i64 x
def beqS (x y:ByteArray):Bool:=x.toList == y.toList
def ltS (x y:ByteArray):Bool:=Op.bytesLess x.toList y.toList
end Go.V
end
section
namespace Go.V
structure Fr (S:Nat→Prop) (H H':Hp):Prop where
 size:H.size≤H'.size
 keep:∀ i,i < H.size→¬ S i→H'[i]? = H[i]?
def no:Nat→Prop:=fun _=>False
theorem lt_of_some {H:Hp}{b:Nat}{o:Obj}(h:H[b]? = some o):b < H.size:=(Array.getElem?_eq_some_iff.1 h).1
theorem Fr.refl (S:Nat→Prop) (H:Hp):Fr S H H:=⟨Nat.le_refl _,fun _ _ _=>rfl⟩
theorem Fr.at {S:Nat→Prop}{H H':Hp}(hf:Fr S H H') {b:Nat}{o:Obj}(h:H[b]? = some o) (hs:¬ S b):H'[b]? = some o:=(hf.keep b (lt_of_some h) hs).trans h
theorem Fr.mono {S S':Nat→Prop}{H H':Hp}(hf:Fr S H H') (h:∀ i,i < H.size→S i→S' i):Fr S' H H':=⟨hf.size,fun i hi hn=>hf.keep i hi fun hs=>hn (h i hi hs)⟩
theorem Fr.step {S T:Nat→Prop}{A B C:Hp}(h:Fr S A B) (k:Fr T B C) (ht:∀ i,i < A.size→T i→S i):Fr S A C:=
 ⟨Nat.le_trans h.size k.size,fun i hi hn=>(k.keep i (Nat.lt_of_lt_of_le hi h.size) fun hti=>hn (ht i hi hti)).trans (h.keep i hi hn)⟩
theorem Fr.trans {S:Nat→Prop}{A B C:Hp}(h:Fr S A B) (k:Fr S B C):Fr S A C:=h.step k fun _ _ h=>h
theorem Fr.of_no {S:Nat→Prop}{H H':Hp}(hf:Fr no H H'):Fr S H H':=hf.mono fun _ _ h=>h.elim
theorem add_mk (b o k:Nat):Addr.add ⟨b,o,none⟩ k=⟨b,o+k,none⟩:=by unfold Addr.add;split <;> simp_all
def Blk (H:Hp) (b:Nat) (cs:List Value) (T:TypeId):Prop:=H[b]? = some (.cells cs.toArray T (0,0))
theorem Blk.lt {H:Hp}{b:Nat}{cs:List Value}{T:TypeId}(h:Blk H b cs T):b < H.size:=lt_of_some h
theorem Blk.ld {H:Hp}{b:Nat}{cs:List Value}{T:TypeId}(h:Blk H b cs T) (i:Nat):hcell H ⟨b,i,none⟩=cs[i]?:=by
 unfold hcell
 have h':H[b]? = some (.cells cs.toArray T (0,0)):=h
 simp only [h',Option.isSome_none,Bool.false_eq_true,if_false]
 simp
theorem Blk.frozen {H:Hp}{b:Nat}{cs:List Value}{T:TypeId}(h:Blk H b cs T) (i:Nat):hfrozen H ⟨b,i,none⟩=false:=by
 unfold hfrozen
 have h':H[b]? = some (.cells cs.toArray T (0,0)):=h
 simp only [h']
 simp
theorem Fr.blk {S:Nat→Prop}{H H':Hp}(hf:Fr S H H') {b:Nat}{cs:List Value}{T:TypeId}(h:Blk H b cs T) (hs:¬ S b):Blk H' b cs T:=hf.at h hs
theorem Newb.fr {H H':Hp}{o:Obj}{b:Nat}(h:Newb H o b H'):Fr no H H':=by
 obtain ⟨rfl,rfl⟩:=h
 exact ⟨by simp,fun i hi _=>by rw [Array.getElem?_push,if_neg (by omega)]⟩
theorem Newb.get {H H':Hp}{o:Obj}{b:Nat}(h:Newb H o b H'):H'[b]? = some o:=by
 obtain ⟨rfl,rfl⟩:=h
 simp
theorem Newb.eq {H H':Hp}{o:Obj}{b:Nat}(h:Newb H o b H'):b=H.size:=h.1
theorem Newb.size {H H':Hp}{o:Obj}{b:Nat}(h:Newb H o b H'):H'.size=H.size+1:=by
 obtain ⟨rfl,rfl⟩:=h
 simp
theorem Newb.blk {H H':Hp}{cs:List Value}{T:TypeId}{b:Nat}(h:Newb H (.cells cs.toArray T) b H'):Blk H' b cs T:=h.get
theorem hset_get {H:Hp}{a:Addr}{v:Value}{i:Nat}(h:i≠a.block):(hset H a v)[i]? = H[i]?:=by
 unfold hset
 rw [Array.getElem?_modify,if_neg (fun e=>h e.symm)]
theorem hset_size {H:Hp}{a:Addr}{v:Value}:(hset H a v).size=H.size:=by unfold hset;simp
theorem hset_fr {H:Hp}{b i:Nat}{v:Value}:Fr (fun j=>j=b) H (hset H ⟨b,i,none⟩ v):=⟨by rw [hset_size];exact Nat.le_refl _,fun j hj hn=>hset_get hn⟩
theorem hset_cells {H:Hp}{b i:Nat}{v:Value}{cs:List Value}{T:TypeId}{fr:Nat × Nat}(h:H[b]? = some (.cells cs.toArray T fr)) :
  (hset H ⟨b,i,none⟩ v)[b]? = some (.cells (cs.set i v).toArray T fr):=by
 unfold hset
 rw [Array.getElem?_modify]
 simp [h]
theorem setB {H H':Hp}{i:Nat}{x y:Obj}(hx:H[i]? = some x) (h:H'=H.setIfInBounds i y):Fr (fun j=>j=i) H H'∧H'[i]? = some y∧H'.size=H.size:=by
 subst h
 have hi:=lt_of_some hx
 refine ⟨⟨by simp,fun j hj hn=>?_⟩,?_,by simp⟩
 ·rw [Array.getElem?_setIfInBounds_ne (Ne.symm hn)]
 ·rw [Array.getElem?_setIfInBounds_self_of_lt hi]
theorem lrec_eq {f:Func}{n:Nat}(h:(f.body.bind (findRF · n)).isSome=true):∃ ps as body,∀ (fn:FuncId) (tmps:List Value) (D:Nat),lrec f fn n tmps D=⟨.ready,none,fn,tmps.toArray,ps,as,body,D⟩:=by
 unfold lrec
 cases hx:f.body.bind (findRF · n) with
 | none=>rw [hx] at h;cases h
 | some x=>
  obtain ⟨ps,as,body⟩:=x
  exact ⟨ps,as,body,fun _ _ _=>rfl⟩
def setsL:List Value→Nat→List Value→List Value
 | cs,_,[]=>cs
 | cs,i,v::vs=>setsL (cs.set i v) (i+1) vs
theorem setsL_length:∀ (vs cs:List Value) (i:Nat),(setsL cs i vs).length=cs.length
 | [],cs,i=>rfl
 | v::vs,cs,i=>by rw [setsL,setsL_length vs];simp
theorem stL_cells {b o:Nat}{T:TypeId}{fr:Nat × Nat}:∀ (vs:List Value) (i:Nat) {H:Hp}{cs:List Value}{K:Hp→Prop},H[b]? = some (.cells cs.toArray T fr) →
  o+i+vs.length≤cs.length→(∀ v∈vs,v.oneCell=true)→(fr.2≤o+i∨fr.2≤fr.1) →
  (∀ H',H'[b]? = some (.cells (setsL cs (o+i) vs).toArray T fr)→Fr (fun j=>j=b) H H'→H'.size=H.size→K H')→StL ⟨b,o,none⟩ i vs H K
 | [],i,H,cs,K,h,hl,hv,hf,k=>k H h (Fr.refl _ _) rfl
 | v::vs,i,H,cs,K,h,hl,hv,hf,k=>by
  simp only [List.length_cons] at hl
  refine ⟨hv v List.mem_cons_self,?_,?_,?_⟩
  ·rw [add_mk]
   unfold hcell
   simp only [h,Option.isSome_none,Bool.false_eq_true,if_false]
   exact ⟨cs[o+i]'(by omega),by simp⟩
  ·rw [add_mk]
   unfold hfrozen
   simp only [h]
   obtain ⟨lo,hi⟩:=fr
   simp only at hf ⊢
   simp only [Bool.and_eq_false_iff,decide_eq_false_iff_not,Nat.not_le,Nat.not_lt]
   omega
  ·rw [add_mk]
   have h1:=hset_cells (i:=o+i) (v:=v) h
   refine stL_cells vs (i+1) h1 (by simp;omega) (fun u hu=>hv u (List.mem_cons_of_mem _ hu)) (by omega) ?_
   intro H' h2 hf2 hs2
   refine k H' (by simpa [setsL,Nat.add_assoc] using h2) ((hset_fr (i:=o+i) (v:=v)).trans hf2) (by rw [hs2,hset_size])
theorem st_blk {b i:Nat}{v:Value}{cs:List Value}{T:TypeId}{H:Hp}{K:Hp→Prop}(h:Blk H b cs T) (hi:i < cs.length) (hv:v.oneCell=true)
  (k:∀ H',Blk H' b (cs.set i v) T→Fr (fun j=>j=b) H H'→H'.size=H.size→K H'):StL ⟨b,i,none⟩ 0 [v] H K:=
 stL_cells [v] 0 h (by simp;omega) (by simpa using hv) (.inr (Nat.le_refl _)) fun H' h1 h2 h3=>k H' h1 h2 h3
theorem hrun_bind {α β : Type}{P:Program}(s:Sem α):∀ {f : α→Sem β}{H:Hp}{K : β→Hp→Prop}{Z:Value→Hp→Prop},
  hrun P s H (fun a H'=>hrun P (f a) H' K Z) Z→hrun P (s.bind f) H K Z:=by
 induction s with
 | pure a=>intro f H K Z h;exact h
 | load m a k ih=>intro f H K Z h;obtain ⟨v,hv,h⟩:=h;exact ⟨v,hv,ih v h⟩
 | store m a v k ih=>intro f H K Z h;exact ⟨h.1,h.2.1,h.2.2.1,ih h.2.2.2⟩
 | new o k ih=>intro f H K Z h b H' hb;exact ih b (h b H' hb)
 | shape r k ih=>intro f H K Z h;exact ih _ h
 | freeze a n k ih=>intro f H K Z h;exact ih h
 | frozen a k ih=>intro f H K Z h;exact ih _ h
 | getObj r k ih=>intro f H K Z h;obtain ⟨o,h1,h2,h⟩:=h;exact ⟨o,h1,h2,ih o h⟩
 | setObj r o k ih=>intro f H K Z h;exact ⟨h.1,ih h.2⟩
 | choose q k ih=>
  intro f H K Z h
  simp only [hrun,Sem.bind] at h ⊢
  by_cases hq:q.forced=true
  ·rw [if_pos hq] at h ⊢;exact ih 0 h
  ·rw [if_neg hq] at h ⊢;exact fun t=>ih _ (h t)
 | sys c k ih=>intro f H K Z h;exact h.elim
 | program k ih=>intro f H K Z h;exact ih P h
 | mark m k ih=>intro f H K Z h;exact ih h
 | halt x=>intro f H K Z h;cases x <;> exact h
theorem hrun_pureV {α : Type}{P:Program}(s:Sem α):∀ {a : α},pureV P s=some a→∀ {H:Hp}{K : α→Hp→Prop}{Z:Value→Hp→Prop},K a H→hrun P s H K Z:=by
 induction s <;> intro x h H K Z hk <;> simp only [pureV] at h <;> try (cases h;done)
 case pure a=>cases h;exact hk
 case program k ih=>exact ih P h hk
 case mark m k ih=>exact ih h hk
theorem pv_underlying {P:Program}{t:TypeId}{d:TypeDesc}(h:P.underlying t=some d):pureV P (underlying t)=some d:=by
 simp [underlying,program,bind,Sem.bind,pure,pureV,h]
theorem pv_sizeOf {P:Program}{t:TypeId}{i:TypeInfo}(h:P.info? t=some i):pureV P (sizeOf t)=some i.size:=by
 simp [sizeOf,typeInfo,program,bind,Sem.bind,pure,pureV,h]
theorem pv_typeInfo {P:Program}{t:TypeId}{i:TypeInfo}(h:P.info? t=some i):pureV P (typeInfo t)=some i:=by
 simp [typeInfo,program,bind,Sem.bind,pure,pureV,h]
theorem pv_zero {P:Program}{t:TypeId}{i:TypeInfo}{z:Value}(h:P.info? t=some i) (hz:i.zero=some z):pureV P (zeroValue t)=some z:=by
 simp [zeroValue,typeInfo,program,bind,Sem.bind,pure,pureV,h,hz]
theorem hrun_pv {α β : Type}{P:Program}{s:Sem α}{f : α→Sem β}{a : α}{H:Hp}{K : β→Hp→Prop}{Z:Value→Hp→Prop}(h:pureV P s=some a) (k:hrun P (f a) H K Z):hrun P (s >>= f) H K Z:=
 hrun_bind s (hrun_pureV s h k)
theorem hrun_loadCells {P:Program}{a:Addr}:∀ (cs:List Value) (i:Nat) (acc:Array Value) {H:Hp}{K:Array Value→Hp→Prop}{Z:Value→Hp→Prop},AtL H a i cs→K (acc++cs.toArray) H →
  hrun P (loadCellsFrom a i cs.length acc) H K Z
 | [],i,acc,H,K,Z,_,k=>by simpa [loadCellsFrom,pure,hrun] using k
 | c::cs,i,acc,H,K,Z,h,k=>by
  simp only [List.length_cons,loadCellsFrom]
  exact ⟨c,h.1,hrun_loadCells cs (i+1) (acc.push c) h.2 (by simpa using k)⟩
theorem hrun_storeCells {P:Program}{a:Addr}:∀ (vs:List Value) (i:Nat) {H:Hp}{K:Unit→Hp→Prop}{Z:Value→Hp→Prop},StL a i vs H (fun H'=>K () H')→hrun P (storeCells a vs i) H K Z
 | [],i,H,K,Z,h=>h
 | v::vs,i,H,K,Z,h=>⟨h.1,h.2.1,h.2.2.1,hrun_storeCells vs (i+1) h.2.2.2⟩
theorem atL_of {H:Hp}{b o:Nat}{T:TypeId}{fr:Nat × Nat}{cs:List Value}(h:H[b]? = some (.cells cs.toArray T fr)):∀ (vs:List Value) (i:Nat),(∀ j,j < vs.length→cs[o+i+j]? = vs[j]?)→AtL H ⟨b,o,none⟩ i vs
 | [],i,_=>trivial
 | v::vs,i,hv=>by
  refine ⟨?_,atL_of h vs (i+1) fun j hj=>?_⟩
  ·rw [add_mk]
   unfold hcell
   simp only [h,Option.isSome_none,Bool.false_eq_true,if_false]
   have:=hv 0 (by simp)
   simpa using this
  ·have:=hv (j+1) (by simpa using hj)
   simpa [Nat.add_assoc,Nat.add_comm 1 j] using this
def Row (H:Hp) (E:TypeId) (sz:Nat) (s:Sl) (xs:List Value):Prop:=
 xs.length=s.n*sz∧((s.a=none∧s.n=0∧s.c=0)∨∃ (g:Nat) (cs:List Value) (fr:Nat × Nat),s.a=some ⟨g,0,none⟩∧H[g]? = some (.cells cs.toArray E fr) ∧
  s.n≤s.c∧cs.length=s.c*sz∧cs.take (s.n*sz)=xs∧fr.2≤s.n*sz)
def own (s:Sl) (i:Nat):Prop:=∃ o,s.a=some ⟨i,o,none⟩
theorem Row.nil (H:Hp) (E:TypeId) (sz:Nat):Row H E sz ⟨none,0,0⟩ []:=⟨by simp,.inl ⟨rfl,rfl,rfl⟩⟩
theorem Row.keep {S:Nat→Prop}{H H':Hp}{E:TypeId}{sz:Nat}{s:Sl}{xs:List Value}(h:Row H E sz s xs) (hf:Fr S H H') (hs:∀ i,own s i→¬ S i):Row H' E sz s xs:=by
 refine ⟨h.1,?_⟩
 rcases h.2 with h | ⟨g,cs,fr,ha,hg,h⟩
 ·exact .inl h
 ·exact .inr ⟨g,cs,fr,ha,hf.at hg (hs g ⟨0,ha⟩),h⟩
theorem Row.lt {H:Hp}{E:TypeId}{sz:Nat}{s:Sl}{xs:List Value}(h:Row H E sz s xs) {i:Nat}(hi:own s i):i < H.size:=by
 obtain ⟨o,hi⟩:=hi
 rcases h.2 with h | ⟨g,cs,fr,ha,hg,h⟩
 ·rw [h.1] at hi;cases hi
 ·rw [ha] at hi;cases hi;exact lt_of_some hg
theorem Row.le {H:Hp}{E:TypeId}{sz:Nat}{s:Sl}{xs:List Value}(h:Row H E sz s xs):s.n≤s.c:=by
 rcases h.2 with h | ⟨g,cs,fr,ha,hg,h⟩
 ·omega
 ·exact h.1
theorem Row.ld {H:Hp}{E:TypeId}{sz:Nat}{s:Sl}{xs:List Value}(h:Row H E sz s xs) {ad:Addr}(ha:s.a=some ad) (i:Nat) (hi:i < xs.length):hcell H (ad.add i)=xs[i]?:=by
 rcases h.2 with h' | ⟨g,cs,fr,ha',hg,h1,h2,h3,h4⟩
 ·rw [h'.1] at ha;cases ha
 ·rw [ha'] at ha
  cases ha
  rw [add_mk,Nat.zero_add]
  unfold hcell
  simp only [hg,Option.isSome_none,Bool.false_eq_true,if_false]
  rw [← h3,List.getElem?_take]
  have:i < s.n*sz:=by rw [← h.1];exact hi
  simp [this]
theorem Row.some {H:Hp}{E:TypeId}{sz:Nat}{s:Sl}{xs:List Value}(h:Row H E sz s xs) (hn:0 < s.n):∃ g,s.a=some ⟨g,0,none⟩:=by
 rcases h.2 with h' | ⟨g,cs,fr,ha',_⟩
 ·omega
 ·exact ⟨g,ha'⟩
def Src (H:Hp) (sz:Nat) (v:Value) (m:Nat) (ys:List Value):Prop:=ys.length=m*sz∧match v with
 | .slice (some ad) n _=>n=m∧AtL H ad 0 ys
 | .slice none n _=>n=m∧m=0
 | .string s=>s.size=m∧sz=1∧ys=s.data.toList.map fun b=>.int .u8 b.toNat
 | _=>False
theorem Src.blk {H:Hp}{b:Nat}{cs:List Value}{T:TypeId}(h:Blk H b cs T) {sz m c:Nat}(hm:cs.length=m*sz):Src H sz (.slice (some ⟨b,0,none⟩) m c) m cs:=
 ⟨hm,rfl,atL_of h cs 0 fun j hj=>by simp⟩
theorem Src.row {H:Hp}{E:TypeId}{sz:Nat}{s:Sl}{xs:List Value}(h:Row H E sz s xs):Src H sz (.slice s.a s.n s.c) s.n xs:=by
 refine ⟨h.1,?_⟩
 rcases h.2 with h' | ⟨g,cs,fr,ha',hg,h1,h2,h3,h4⟩
 ·rw [h'.1];exact ⟨rfl,h'.2.1⟩
 ·rw [ha']
  refine ⟨rfl,atL_of hg xs 0 fun j hj=>?_⟩
  rw [← h3,List.getElem?_take]
  have:j < s.n*sz:=by rw [← h.1];exact hj
  simp [this]
theorem hrun_lenOf {P:Program}{H:Hp}{sz m:Nat}{v:Value}{ys:List Value}(h:Src H sz v m ys):pureV P (Builtin.lenOf v)=some m:=by
 obtain ⟨_,h⟩:=h
 cases v <;> first | exact h.elim | skip
 ·rename_i s;simp only at h;simp [Builtin.lenOf,pure,pureV,h.1]
 ·rename_i a n c;cases a <;> (simp only at h;simp [Builtin.lenOf,pure,pureV,h.1])
theorem hrun_firstCells {P:Program}{H:Hp}{sz m:Nat}{v:Value}{ys:List Value}{K:Array Value→Hp→Prop}{Z:Value→Hp→Prop}(h:Src H sz v m ys) (k:K ys.toArray H):hrun P (Builtin.firstCells sz m v) H K Z:=by
 obtain ⟨hl,h⟩:=h
 cases v <;> first | exact h.elim | skip
 ·rename_i s
  simp only at h
  obtain ⟨h1,h2,h3⟩:=h
  simp only [Builtin.firstCells,pure,hrun]
  have:((s.extract 0 m).data.map fun b=>Value.int .u8 b.toNat)=ys.toArray:=by
   rw [h3,← h1]
   apply Array.ext'
   have e:s.extract 0 s.size=s:=by
    apply ByteArray.ext
    simp [ByteArray.data_extract]
   rw [e]
   simp
  rw [this]
  exact k
 ·rename_i a n c
  cases a with
  | none=>
   simp only at h
   obtain ⟨h1,h2⟩:=h
   have:ys = []:=List.eq_nil_of_length_eq_zero (by rw [hl,h2];simp)
   subst this
   exact k
  | some ad=>
   simp only at h
   simp only [Builtin.firstCells,loadCells]
   rw [← hl]
   exact hrun_loadCells ys 0 #[] h.2 (by simpa using k)
theorem zeroCells_size (z:Array Value) (n:Nat):(Builtin.zeroCells z n).size=n*z.size:=by simp [Builtin.zeroCells]
def Nf (H:Hp) (s:Sl):Prop:=∀ g o,s.a=some ⟨g,o,none⟩→∃ cs T,H[g]? = some (.cells cs T (0,0))
theorem Nf.keep {S:Nat→Prop}{H H':Hp}{s:Sl}(h:Nf H s) (hf:Fr S H H') (hs:∀ i,own s i→¬ S i):Nf H' s:=by
 intro g o e
 obtain ⟨cs,T,hg⟩:=h g o e
 exact ⟨cs,T,hf.at hg (hs g ⟨o,e⟩)⟩
theorem app_row3 {P:Program}{T T2 E:TypeId}{inf:TypeInfo}{z:Value}(hu:P.underlying T=some (.slice E)) (hu2:∀ k,P.underlying T2≠some (.int k)) (hu2':∃ d,P.underlying T2=some d) (hi:P.info? E=some inf) (hz:inf.zero=some z) (hzs:z.cells.size=inf.size) (hb:0 < inf.bytes)
  {H:Hp}{s:Sl}{xs ys:List Value}{y:Value}{m:Nat}{K:Sl→Hp→Prop}{ty:TypeId}(hr:Row H E inf.size s xs) (hy:Src H inf.size y m ys) (h1:∀ v∈ys,v.oneCell=true) (hl:(s.n+m)*inf.bytes≤140737488355328)
  (k:∀ s' H',Row H' E inf.size s' (xs++ys)→s'.n=s.n+m→Fr (own s) H H'→(∀ i,own s' i→own s i∨H.size≤i)→(Nf H s→Nf H' s')→(s.n+m≤s.c→s'.c=s.c∧s'.a=s.a)→K s' H'):App P #[T,T2] ty H [.slice s.a s.n s.c,y] K:=by
 unfold App
 unfold Builtin.append_
 simp only [List.getElem?_toArray,List.getElem?_cons_zero,List.getElem?_cons_succ]
 refine hrun_pv (pv_underlying hu) ?_
 simp only
 refine hrun_pv (pv_sizeOf hi) ?_
 obtain ⟨d2,hd2⟩:=hu2'
 refine hrun_bind _ (hrun_pureV _ (pv_underlying hd2) ?_)
 simp only [pure,bind,Sem.bind]
 split
 ·exact absurd hd2 (hu2 _)
 simp only [Bool.false_eq_true,if_false,Bool.not_false,if_true,Bool.not_true]
 refine hrun_bind _ (hrun_pureV _ (hrun_lenOf hy) ?_)
 have hle:=hr.le
 by_cases hc:s.n+m≤s.c
 ·rw [if_pos hc]
  refine hrun_bind _ (hrun_firstCells hy ?_)
  rcases hr.2 with h' | ⟨g,cs,fr,ha,hg,h2,h3,h4,h5⟩
  ·have hm0:m=0:=by omega
   have hys:ys = []:=List.eq_nil_of_length_eq_zero (by rw [hy.1,hm0];simp)
   subst hys
   rw [h'.1]
   simp only [hrun,pure]
   refine ⟨⟨none,s.n+m,s.c⟩,rfl,k _ H ⟨by simp [hr.1,hm0],.inl ⟨rfl,by show s.n+m=0;omega,h'.2.2⟩⟩ rfl (Fr.refl _ _) (fun i hi=>by obtain ⟨o,hi⟩:=hi;cases hi) (fun _ g o e=>by cases e) (fun _=>⟨rfl,h'.1.symm⟩)⟩
  ·rw [ha]
   simp only
   refine hrun_bind _ (hrun_storeCells _ 0 ?_)
   rw [add_mk,Nat.zero_add]
   have hlen:s.n*inf.size+ys.length≤cs.length:=by
    rw [h3,hy.1,← Nat.add_mul]
    exact Nat.mul_le_mul_right _ hc
   refine stL_cells ys.toArray.toList 0 hg (by simpa using hlen) (by simpa using h1) (.inl (by simpa using h5)) ?_
   intro H' hg' hf' hs'
   simp only [hrun,pure]
   refine ⟨⟨some ⟨g,0,none⟩,s.n+m,s.c⟩,rfl,k _ H' ⟨by simp [hr.1,hy.1,Nat.add_mul],.inr ⟨g,_,fr,rfl,hg',hc,?_,?_,?_⟩⟩ rfl (hf'.mono fun i _ hi=>⟨0,by rw [hi];exact ha⟩) (fun i hi=>?_) ?_ (fun _=>⟨rfl,ha.symm⟩)⟩
   ·rw [setsL_length];exact h3
   ·simp only [Nat.add_zero]
    have key:∀ (vs cs:List Value) (i:Nat),i+vs.length≤cs.length→(setsL cs i vs).take (i+vs.length)=cs.take i++vs:=by
     intro vs
     induction vs with
     | nil=>intro cs i h;simp [setsL]
     | cons v vs ih=>
      intro cs i h
      simp only [List.length_cons] at h
      rw [setsL,show i+(v::vs).length=(i+1)+vs.length by simp;omega,ih (cs.set i v) (i+1) (by simp;omega)]
      rw [List.take_set,List.take_succ_eq_append_getElem (by omega)]
      rw [List.set_append_right _ _ (by simp;omega)]
      have:i - (cs.take i).length=0:=by simp;omega
      rw [this]
      simp
    have:=key ys cs (s.n*inf.size) hlen
    rw [h4] at this
    rw [← this]
    congr 1
    rw [hy.1,Nat.add_mul]
   ·exact Nat.le_trans h5 (Nat.mul_le_mul_right _ (Nat.le_add_right _ _))
   ·obtain ⟨o,hi⟩:=hi
    simp only [Option.some.injEq,Addr.mk.injEq] at hi
    exact .inl ⟨0,by rw [← hi.1];exact ha⟩
   ·intro hnf g' o e
    simp only [Option.some.injEq,Addr.mk.injEq] at e
    obtain ⟨cs',T',hb'⟩:=hnf g 0 ha
    rw [hg] at hb'
    simp only [Option.some.injEq,Obj.cells.injEq] at hb'
    rw [hb'.2.2] at hg'
    exact ⟨_,_,by rw [← e.1];exact hg'⟩
 ·rw [if_neg hc]
  have hgr:=growslice_fits (need:=s.n+m) (old:=s.c) (bytes:=inf.bytes) (by omega) hl
  have hbig:s.n+m≤140737488355328:=Nat.le_trans (Nat.le_mul_of_pos_right _ hb) hl
  refine hrun_pv (pv_typeInfo hi) ?_
  have hcond:¬ (((s.n+m:Nat):Int) > IntKind.i64.max∧(False∨inf.bytes=0)):=by
   rintro ⟨_,h | h⟩
   ·cases h
   ·omega
  rw [if_neg hcond]
  refine hrun_bind _ (hrun_pureV _ (pv_typeInfo hi) ?_)
  have hbig2:¬ (Builtin.nextslicecap (s.n+m) s.c*inf.bytes > 2 ^ 48):=by
   have:(2:Nat) ^ 48=281474976710656:=by decide
   omega
  rw [if_neg hbig2]
  refine hrun_bind _ ?_
  simp only [choose,hrun,Question.forced,Bool.false_eq_true,if_false,Question.cut]
  intro tp
  generalize hcap:s.n+m+tp % (2 ^ 63 - (s.n+m))=cap
  refine hrun_bind _ (hrun_pureV _ (pv_typeInfo hi) ?_)
  refine hrun_bind _ ?_
  have askr:∀ (n:Nat) {K:Unit→Hp→Prop}{Z:Value→Hp→Prop},K () H→hrun P (askRoom n) H K Z:=by
   intro n K Z hk
   unfold askRoom
   split
   ·exact hk
   ·exact hk
  refine askr _ ?_
  refine hrun_bind _ (hrun_firstCells (Src.row hr) ?_)
  refine hrun_bind _ (hrun_firstCells hy ?_)
  refine hrun_bind _ (hrun_pureV _ (pv_zero hi hz) ?_)
  refine hrun_bind _ ?_
  simp only [newRow,newObj,bind,Sem.bind,hrun,pure]
  intro g H' hn
  have hsz:(Builtin.zeroCells z.cells (cap - (s.n+m))).size=(cap - (s.n+m))*inf.size:=by rw [zeroCells_size,hzs]
  refine ⟨⟨some ⟨g,0,none⟩,s.n+m,cap⟩,rfl,k _ H' ⟨by simp [hr.1,hy.1,Nat.add_mul],.inr ⟨g,xs++ys++(Builtin.zeroCells z.cells (cap - (s.n+m))).toList,(0,0),rfl,?_,by show s.n+m≤cap;omega,?_,?_,Nat.zero_le _⟩⟩ rfl hn.fr.of_no (fun i hi=>?_) (fun _ g' o e=>?_) (fun h=>absurd h hc)⟩
  ·rw [hn.get]
   congr 2
   apply Array.ext'
   simp
  ·simp only [List.length_append,Array.length_toList,hsz,hr.1,hy.1]
   rw [← Nat.add_mul,← Nat.add_mul]
   congr 1
   show s.n+m+(cap - (s.n+m))=cap
   omega
  ·have:(s.n+m)*inf.size=(xs++ys).length:=by rw [List.length_append,hr.1,hy.1,Nat.add_mul]
   show List.take ((s.n+m)*inf.size) _=_
   rw [this,List.take_left]
  ·obtain ⟨o,hi⟩:=hi
   simp only [Option.some.injEq,Addr.mk.injEq] at hi
   rw [← hi.1,hn.eq]
   exact .inr (Nat.le_refl _)
  ·simp only [Option.some.injEq,Addr.mk.injEq] at e
   exact ⟨_,_,by rw [← e.1];exact hn.get⟩
theorem app_row2 {P:Program}{T T2 E:TypeId}{inf:TypeInfo}{z:Value}(hu:P.underlying T=some (.slice E)) (hu2:∀ k,P.underlying T2≠some (.int k)) (hu2':∃ d,P.underlying T2=some d) (hi:P.info? E=some inf) (hz:inf.zero=some z) (hzs:z.cells.size=inf.size) (hb:0 < inf.bytes)
  {H:Hp}{s:Sl}{xs ys:List Value}{y:Value}{m:Nat}{K:Sl→Hp→Prop}{ty:TypeId}(hr:Row H E inf.size s xs) (hy:Src H inf.size y m ys) (h1:∀ v∈ys,v.oneCell=true) (hl:(s.n+m)*inf.bytes≤140737488355328)
  (k:∀ s' H',Row H' E inf.size s' (xs++ys)→s'.n=s.n+m→Fr (own s) H H'→(∀ i,own s' i→own s i∨H.size≤i)→(Nf H s→Nf H' s')→K s' H'):App P #[T,T2] ty H [.slice s.a s.n s.c,y] K:=
 app_row3 hu hu2 hu2' hi hz hzs hb hr hy h1 hl fun s' H' a b c d e _=>k s' H' a b c d e
theorem app_row {P:Program}{T T2 E:TypeId}{inf:TypeInfo}{z:Value}(hu:P.underlying T=some (.slice E)) (hu2:∀ k,P.underlying T2≠some (.int k)) (hu2':∃ d,P.underlying T2=some d) (hi:P.info? E=some inf) (hz:inf.zero=some z) (hzs:z.cells.size=inf.size) (hb:0 < inf.bytes)
  {H:Hp}{s:Sl}{xs ys:List Value}{y:Value}{m:Nat}{K:Sl→Hp→Prop}{ty:TypeId}(hr:Row H E inf.size s xs) (hy:Src H inf.size y m ys) (h1:∀ v∈ys,v.oneCell=true) (hl:(s.n+m)*inf.bytes≤140737488355328)
  (k:∀ s' H',Row H' E inf.size s' (xs++ys)→s'.n=s.n+m→Fr (own s) H H'→(∀ i,own s' i→own s i∨H.size≤i)→K s' H'):App P #[T,T2] ty H [.slice s.a s.n s.c,y] K:=
 app_row2 hu hu2 hu2' hi hz hzs hb hr hy h1 hl fun s' H' a b c d _=>k s' H' a b c d
end Go.V
end
