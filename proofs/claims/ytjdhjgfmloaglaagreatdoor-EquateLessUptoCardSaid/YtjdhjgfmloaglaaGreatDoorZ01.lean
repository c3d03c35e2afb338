import Derived.Calls
import Derived.Orders
import Derived.Below
import Derived.KernelRfl
import Derived.Wp
set_option linter.unusedVariables false
set_option linter.unusedSimpArgs false
section
namespace Go.V
abbrev Hp:=Array Obj
def Lk (w w':World):Prop:=w'.os=w.os∧w'.tape=w.tape∧w'.output=w.output
theorem Lk.refl (w:World):Lk w w:=⟨rfl,rfl,rfl⟩
theorem Lk.trans {a b c:World}(h:Lk a b) (k:Lk b c):Lk a c:=⟨k.1.trans h.1,k.2.1.trans h.2.1,k.2.2.trans h.2.2⟩
def CallF (P:Program) (f:FuncId) (args:Array Value) (H:Hp) (K:Value→Hp→Prop) (Z:List PanicEntry→Hp→Prop):Prop:=
 ∀ w:World,w.heap=H→Calls P f args w fun e w'=>Lk w w'∧match e with
  | .returned v=>K v w'.heap
  | .panicked ch=>Z ch w'.heap
  | .outgrown=>False
theorem CallF.mono {P:Program}{f:FuncId}{args:Array Value}{H:Hp}{K K':Value→Hp→Prop}{Z Z':List PanicEntry→Hp→Prop}
  (h:CallF P f args H K Z) (hk:∀ v H',K v H'→K' v H') (hz:∀ v H',Z v H'→Z' v H'):CallF P f args H K' Z':=by
 intro w hw
 refine (h w hw).mono ?_
 rintro e w' ⟨hl,hr⟩
 refine ⟨hl,?_⟩
 cases e with
 | returned v=>exact hk _ _ hr
 | panicked ch=>exact hz _ _ hr
 | outgrown=>exact hr
def Rnd (P:Program) (l f:Nat) (tmps:Array Value) (as body:Code) (H:Hp) (K:Value→Hp→Prop):Prop:=
 ∀ (w:World),w.heap=H→∀ (c:Frame) (cs:List Frame),∃ v w',Lk w w'∧K v w'.heap ∧
  Steps P (lone (Frame.round l f tmps as body .normal) (c::cs) w) (lone (c.finish v) cs w')
theorem Rnd.mono {P:Program}{l f:Nat}{tmps:Array Value}{as body:Code}{H:Hp}{K K':Value→Hp→Prop}
  (h:Rnd P l f tmps as body H K) (hk:∀ v H',K v H'→K' v H'):Rnd P l f tmps as body H K':=by
 intro w hw c cs
 obtain ⟨v,w',hl,hr,hs⟩:=h w hw c cs
 exact ⟨v,w',hl,hk _ _ hr,hs⟩
def fat (b:Frame) (a:Act) (k:List Item):Frame:={ b with tmps:=a.tmps,todo:=k,defers:=a.defers,mode:=.run }
theorem fat_eval (b:Frame) (a:Act) (k:List Item):(fat b a k).eval=a.eval:=by funext x;cases x <;> rfl
section steps
variable {P:Program}{b:Frame}{a:Act}{k:List Item}{cs:List Frame}{w:World}
theorem st_skip:step P (lone (fat b a (.code .skip::k)) cs w) = .next (lone (fat b a k) cs w):=step_lone_go (by simp [stepG,stepG.exec,fat])
theorem st_label {l:Nat}:step P (lone (fat b a (.code (.label l)::k)) cs w) = .next (lone (fat b a k) cs w):=step_lone_go (by simp [stepG,stepG.exec,fat])
theorem st_inBlock {id:Nat}:step P (lone (fat b a (.inBlock id::k)) cs w) = .next (lone (fat b a k) cs w):=step_lone_go (by simp [stepG,stepG.exec,fat])
theorem st_inScope {c:Code}:step P (lone (fat b a (.inScope c::k)) cs w) = .next (lone (fat b a k) cs w):=step_lone_go (by simp [stepG,stepG.exec,fat])
theorem st_seq {x y:Code}:step P (lone (fat b a (.code (.seq x y)::k)) cs w) = .next (lone (fat b a (.code x :: .code y::k)) cs w):=step_lone_go (by simp [stepG,stepG.exec,fat])
theorem st_cond {c:Operand}{x y:Code}{t:Bool}(h:a.eval c = .bool t) :
  step P (lone (fat b a (.code (.cond c x y)::k)) cs w) = .next (lone (fat b a (.code (if t then x else y)::k)) cs w):=
 step_lone_go (by
  have:=congrFun (fat_eval b a (.code (.cond c x y)::k)) c
  simp only [fat] at this
  simp [stepG,stepG.exec,fat,this,h])
theorem st_block {id:Nat}{c:Code}:step P (lone (fat b a (.code (.block id c)::k)) cs w) = .next (lone (fat b a (.code c :: .inBlock id::k)) cs w):=step_lone_go (by simp [stepG,stepG.exec,fat])
theorem st_loop {c:Code}:step P (lone (fat b a (.code (.loop c)::k)) cs w) = .next (lone (fat b a (.code c :: .inLoop c::k)) cs w):=step_lone_go (by simp [stepG,stepG.exec,fat])
theorem st_inLoop {c:Code}:step P (lone (fat b a (.inLoop c::k)) cs w) = .next (lone (fat b a (.code c :: .inLoop c::k)) cs w):=step_lone_go (by simp [stepG,stepG.exec,fat])
theorem st_scope {c:Code}:step P (lone (fat b a (.code (.scope c)::k)) cs w) = .next (lone (fat b a (.code c :: .inScope c::k)) cs w):=step_lone_go (by simp [stepG,stepG.exec,fat])
theorem st_exit {id:Nat}{k':List Item}(h:exitTo id k=some k'):step P (lone (fat b a (.code (.exit id)::k)) cs w) = .next (lone (fat b a k') cs w):=
 step_lone_go (by simp [stepG,stepG.exec,fat,h])
theorem st_region {id:Nat}{ops:Array Oper}:step P (lone (fat b a (.code (.region id ops false)::k)) cs w) = .next (lone (fat b a (.inRegion ops (List.range ops.size)::k)) cs w):=
 step_lone_go (by simp [stepG,stepG.exec,fat])
theorem st_region_draw {id:Nat}{ops:Array Oper}:step P (lone (fat b a (.code (.region id ops true)::k)) cs w) =
   .next (lone (fat b a (.inRegion ops (Region.schedule (P.follows .mixedOrders) ops (w.tape w.drawn (.order b.fn id)))::k)) cs { w with drawn:=w.drawn+1 }):=
 step_lone_go (by simp [stepG,stepG.exec,fat,choose,Sem.run,Question.forced,Question.cut])
theorem st_region_end {ops:Array Oper}:step P (lone (fat b a (.inRegion ops []::k)) cs w) = .next (lone (fat b a k) cs w):=step_lone_go (by simp [stepG,stepG.exec,fat])
theorem st_op_skip {ops:Array Oper}{i:Nat}{rest:List Nat}(h:((ops[i]?).map (Region.wanted · (yielded ops a.tmps))).getD false=false) :
  step P (lone (fat b a (.inRegion ops (i::rest)::k)) cs w) = .next (lone (fat b (a.put ((ops[i]?).bind (·.dst)) undef) (.inRegion ops rest::k)) cs w):=
 step_lone_go (by
  have h':=h
  simp only [fat] at *
  cases hd:(ops[i]?).bind (·.dst) <;> simp [stepG,stepG.exec,h',Frame.finish,hd,Act.put])
end steps
def rdOk (rd:Option Nat) (o:Oper):Bool:=match rd,o.op with
 | some _,.defer _=>false
 | _,_=>true
section op
variable {P:Program}{b:Frame}{a:Act}{k:List Item}{cs:List Frame}{w:World}{ops:Array Oper}
theorem stG_op {i:Nat}{rest:List Nat}{o:Oper}(ho:ops[i]? = some o) (hw:Region.wanted o (yielded ops a.tmps)=true) (hd:rdOk b.roundOf o=true) :
  stepG P true { frame:=fat b a (.inRegion ops (i::rest)::k),callers:=cs,status:=.running,dying:=none } w =
   stepG.apply P true (fat b a (.inRegion ops (i::rest)::k)) cs none (execOp a.eval o) w:=by
 have he:=fat_eval b a (.inRegion ops (i::rest)::k)
 simp only [fat] at he
 cases hr:b.roundOf with
 | none=>
  rw [hr] at he
  simp [stepG,stepG.exec,stepG.oper,Frame.oper?,fat,ho,hw,he,hr]
 | some l=>
  rw [hr] at he
  cases hop:o.op <;> first
   | (simp [rdOk,hr,hop] at hd;done)
   | simp [stepG,stepG.exec,stepG.oper,Frame.oper?,fat,ho,hw,he,hr,hop]
theorem fat_finish (v:Value) {i:Nat}{rest:List Nat}{o:Oper}(ho:ops[i]? = some o) :
  (fat b a (.inRegion ops (i::rest)::k)).finish v=fat b (a.put o.dst v) (.inRegion ops rest::k):=by
 cases hd:o.dst <;> simp [Frame.finish,fat,Act.put,ho,hd]
end op
def DoesA (P:Program) (rd:Option Nat) (o:Oper) (a:Act) (H:Hp) (K:Act→Hp→Prop) (Z:List PanicEntry→Hp→Prop):Prop:=
 ∀ w:World,w.heap=H→match (execOp a.eval o).run P w with
  | .ok (.value v) w'=>Lk w w'∧K (a.put o.dst v) w'.heap
  | .ok .skip w'=>Lk w w'∧K (a.put o.dst undef) w'.heap
  | .ok (.defer d) w'=>Lk w w'∧K ({ a with defers:=d::a.defers }.put o.dst undef) w'.heap
  | .ok (.enter f args) w'=>Lk w w'∧CallF P f args w'.heap (fun v H'=>K (a.put o.dst v) H') Z
  | .ok (.round l f tmps as body) w'=>Lk w w'∧Rnd P l f tmps as body w'.heap (fun v H'=>K (a.put o.dst v) H')
  | .halt (.panic v) w'=>Lk w w'∧Z [{ v,recovered:=false }] w'.heap
  | _=>False
theorem DoesA.mono {P:Program}{rd:Option Nat}{o:Oper}{a:Act}{H:Hp}{K K':Act→Hp→Prop}{Z Z':List PanicEntry→Hp→Prop}
  (h:DoesA P rd o a H K Z) (hk:∀ a' H',K a' H'→K' a' H') (hz:∀ c H',Z c H'→Z' c H'):DoesA P rd o a H K' Z':=by
 intro w hw
 have h1:=h w hw
 generalize (execOp a.eval o).run P w=r at *
 cases r with
 | ok n w'=>
  cases n <;> simp only at h1 ⊢ <;> first
   | exact ⟨h1.1,hk _ _ h1.2⟩
   | exact ⟨h1.1,h1.2.mono (fun _ _ x=>hk _ _ x) hz⟩
   | exact ⟨h1.1,h1.2.mono (fun _ _ x=>hk _ _ x)⟩
 | halt x w'=>cases x <;> simp only at h1 ⊢ <;> exact ⟨h1.1,hz _ _ h1.2⟩
def stepS (P:Program) (rd:Option Nat) (ops:Array Oper) (i:Nat) (a:Act) (H:Hp) (K:Act→Hp→Prop) (Z:List PanicEntry→Hp→Prop):Prop:=
 match ops[i]? with
 | none=>K a H
 | some o=>if Region.wanted o (yielded ops a.tmps) then rdOk rd o=true∧DoesA P rd o a H K Z else K (a.put o.dst undef) H
theorem stepS.mono {P:Program}{rd:Option Nat}{ops:Array Oper}{i:Nat}{a:Act}{H:Hp}{K K':Act→Hp→Prop}{Z Z':List PanicEntry→Hp→Prop}
  (h:stepS P rd ops i a H K Z) (hk:∀ a' H',K a' H'→K' a' H') (hz:∀ c H',Z c H'→Z' c H'):stepS P rd ops i a H K' Z':=by
 unfold stepS at *
 split at h
 ·exact hk _ _ h
 ·split at h
  ·rename_i hw;rw [if_pos hw];exact ⟨h.1,h.2.mono hk hz⟩
  ·rename_i hw;rw [if_neg hw];exact hk _ _ h
def Arr (P:Program) (m:Machine) (b:Frame) (k:List Item) (cs:List Frame):Exit→Act→World→Prop
 | .normal,a,w=>Steps P m (lone (fat b a k) cs w)
 | .exit id,a,w=>∃ k0,exitTo id k0=exitTo id k∧Steps P m (lone (fat b a (.code (.exit id)::k0)) cs w)
 | .goto _,_,_=>False
 | .ret,a,w=>∃ k0,Steps P m (lone (fat b a (.code .ret::k0)) cs w)
 | .panic ch,a,w=>∃ k0,Steps P m (lone { fat b a k0 with mode:=.panicking ch } cs w)
 | .outgrown,_,_=>False
theorem Arr.of_steps {P:Program}{m m₁:Machine}{b:Frame}{k:List Item}{cs:List Frame}{e:Exit}{a:Act}{w:World}
  (h:Steps P m m₁) (h':Arr P m₁ b k cs e a w):Arr P m b k cs e a w:=by
 cases e with
 | normal=>exact h.trans h'
 | exit id=>obtain ⟨k0,h0,hs⟩:=h';exact ⟨k0,h0,h.trans hs⟩
 | ret=>obtain ⟨k0,hs⟩:=h';exact ⟨k0,h.trans hs⟩
 | panic ch=>obtain ⟨k0,hs⟩:=h';exact ⟨k0,h.trans hs⟩
 | goto l=>exact h'.elim
 | outgrown=>exact h'.elim
def WpR (P:Program) (rd:Option Nat) (ops:Array Oper) (l:List Nat) (K:Act→Hp→Prop) (Z:Act→List PanicEntry→Hp→Prop) (a:Act) (H:Hp):Prop:=
 ∀ (b:Frame) (k:List Item) (cs:List Frame) (w:World),b.roundOf=rd→w.heap=H →
  (∃ a' w',Lk w w'∧K a' w'.heap∧Steps P (lone (fat b a (.inRegion ops l::k)) cs w) (lone (fat b a' k) cs w')) ∨
  (∃ a' ch w',Lk w w'∧Z a' ch w'.heap∧∃ k0,Steps P (lone (fat b a (.inRegion ops l::k)) cs w) (lone { fat b a' k0 with mode:=.panicking ch } cs w'))
theorem WpR.nil {P:Program}{rd:Option Nat}{ops:Array Oper}{K:Act→Hp→Prop}{Z:Act→List PanicEntry→Hp→Prop}{a:Act}{H:Hp}(h:K a H) :
  WpR P rd ops [] K Z a H:=by
 intro b k cs w hb hw
 subst hw
 exact .inl ⟨a,w,Lk.refl w,h,.one st_region_end⟩
theorem WpR.cons {P:Program}{rd:Option Nat}{ops:Array Oper}{i:Nat}{rest:List Nat}{K:Act→Hp→Prop}{Z:Act→List PanicEntry→Hp→Prop}{a:Act}{H:Hp}
  (h:stepS P rd ops i a H (fun a' H'=>WpR P rd ops rest K Z a' H') (Z a)):WpR P rd ops (i::rest) K Z a H:=by
 intro b k cs w hb hw
 have go:∀ (a1:Act) (w1:World),Lk w w1→WpR P rd ops rest K Z a1 w1.heap →
   Steps P (lone (fat b a (.inRegion ops (i::rest)::k)) cs w) (lone (fat b a1 (.inRegion ops rest::k)) cs w1) →
   (∃ a' w',Lk w w'∧K a' w'.heap∧Steps P (lone (fat b a (.inRegion ops (i::rest)::k)) cs w) (lone (fat b a' k) cs w')) ∨
   (∃ a' ch w',Lk w w'∧Z a' ch w'.heap∧∃ k0,Steps P (lone (fat b a (.inRegion ops (i::rest)::k)) cs w) (lone { fat b a' k0 with mode:=.panicking ch } cs w')):=by
  intro a1 w1 hl h1 hs
  rcases h1 b k cs w1 hb rfl with ⟨a',w',hl',hk,hs'⟩ | ⟨a',ch,w',hl',hz,k0,hs'⟩
  ·exact .inl ⟨a',w',hl.trans hl',hk,hs.trans hs'⟩
  ·exact .inr ⟨a',ch,w',hl.trans hl',hz,k0,hs.trans hs'⟩
 subst hw
 unfold stepS at h
 cases ho:ops[i]? with
 | none=>
  simp only [ho] at h
  have hs:=st_op_skip (P:=P) (b:=b) (a:=a) (k:=k) (cs:=cs) (w:=w) (ops:=ops) (i:=i) (rest:=rest) (by simp [ho])
  simp only [ho,Option.bind_none,Act.put] at hs
  exact go a w (Lk.refl w) h (.one hs)
 | some o=>
  simp only [ho] at h
  by_cases hwt:Region.wanted o (yielded ops a.tmps)=true
  ·rw [if_pos hwt] at h
   obtain ⟨hd,h⟩:=h
   have h1:=h w rfl
   have hg:=stG_op (P:=P) (b:=b) (k:=k) (cs:=cs) (w:=w) (rest:=rest) ho hwt (by rw [hb];exact hd)
   have hfin:∀ v,(fat b a (.inRegion ops (i::rest)::k)).finish v=fat b (a.put o.dst v) (.inRegion ops rest::k):=fun v=>fat_finish v ho
   cases hr:(execOp a.eval o).run P w with
   | ok n w1=>
    rw [hr] at h1
    cases n <;> simp only at h1
    case value v=>
     refine go _ w1 h1.1 h1.2 (.one (step_lone_go ?_))
     rw [hg,← hfin];simp [stepG.apply,hr]
    case skip=>
     refine go _ w1 h1.1 h1.2 (.one (step_lone_go ?_))
     rw [hg,← hfin];simp [stepG.apply,hr]
    case defer d=>
     refine go _ w1 h1.1 h1.2 (.one (step_lone_go ?_))
     have hf2:({ fat b a (.inRegion ops (i::rest)::k) with defers:=d::a.defers }:Frame).finish undef =
       fat b ({ a with defers:=d::a.defers }.put o.dst undef) (.inRegion ops rest::k):=by
      have:=fat_finish (b:=b) (a:={ a with defers:=d::a.defers }) (k:=k) (rest:=rest) undef ho
      exact this
     rw [hg];simp only [stepG.apply,Sem.runT_eq,hr,GStep.bare_after]
     exact congrArg (fun fr=>GStep.go { frame:=fr,callers:=cs,status:=.running,dying:=none } w1) hf2
    case enter f args=>
     obtain ⟨hl,hc⟩:=h1
     obtain ⟨e,w2,fr,⟨hl2,hR⟩,hsteps,_,hleave⟩:=hc w1 rfl (fat b a (.inRegion ops (i::rest)::k)::cs)
     have henter:step P (lone (fat b a (.inRegion ops (i::rest)::k)) cs w) =
       .next (lone (Frame.enter P f args .normal) (fat b a (.inRegion ops (i::rest)::k)::cs) w1):=
      step_lone_go (by rw [hg];simp [stepG.apply,hr,fat])
     cases e with
     | returned v=>
      refine go _ w2 (hl.trans hl2) hR (.head henter (Steps.trans hsteps (.one ?_)))
      rw [← hfin];exact step_leave_returned hleave
     | panicked ch=>
      refine .inr ⟨a,ch,w2,hl.trans hl2,hR,.inRegion ops (i::rest)::k,.head henter (Steps.trans hsteps (.one ?_))⟩
      exact step_leave_panicked hleave
     | outgrown=>exact hR.elim
    case round l f tmps as body=>
     obtain ⟨hl,hc⟩:=h1
     obtain ⟨v,w2,hl2,hR,hsteps⟩:=hc w1 rfl (fat b a (.inRegion ops (i::rest)::k)) cs
     have henter:step P (lone (fat b a (.inRegion ops (i::rest)::k)) cs w) =
       .next (lone (Frame.round l f tmps as body .normal) (fat b a (.inRegion ops (i::rest)::k)::cs) w1):=
      step_lone_go (by rw [hg];simp [stepG.apply,hr,fat])
     refine go _ w2 (hl.trans hl2) hR (.head henter ?_)
     rw [← hfin];exact hsteps
   | halt x w1=>
    rw [hr] at h1
    cases x <;> simp only at h1
    case panic v=>
     refine .inr ⟨a,_,w1,h1.1,h1.2,.inRegion ops (i::rest)::k,.one (step_lone_go ?_)⟩
     rw [hg];simp [stepG.apply,hr,Frame.raise,fat]
  ·rw [if_neg hwt] at h
   have hs:=st_op_skip (P:=P) (b:=b) (a:=a) (k:=k) (cs:=cs) (w:=w) (ops:=ops) (i:=i) (rest:=rest) (by simp [ho];simpa using hwt)
   simp only [ho,Option.bind_some] at hs
   exact go _ w (Lk.refl w) h (.one hs)
def Wp (P:Program) (rd:Option Nat) (fn:FuncId) (c:Code) (Q:Exit→Act→Hp→Prop) (a:Act) (H:Hp):Prop:=
 ∀ (b:Frame) (k:List Item) (cs:List Frame) (w:World),b.fn=fn→b.roundOf=rd→w.heap=H →
  ∃ e a' w',Lk w w'∧Q e a' w'.heap∧Arr P (lone (fat b a (.code c::k)) cs w) b k cs e a' w'
section rules
variable {P:Program}{rd:Option Nat}{fn:FuncId}{Q:Exit→Act→Hp→Prop}{a:Act}{H:Hp}
theorem Wp.mono {c:Code}{Q':Exit→Act→Hp→Prop}(h:Wp P rd fn c Q a H) (hq:∀ e a H,Q e a H→Q' e a H):Wp P rd fn c Q' a H:=
 fun b k cs w h1 h2 h3=>let ⟨e,a',w',l,q,r⟩:=h b k cs w h1 h2 h3;⟨e,a',w',l,hq _ _ _ q,r⟩
theorem Wp.skip (h:Q .normal a H):Wp P rd fn .skip Q a H:=fun b k cs w h1 h2 h3=>⟨.normal,a,w,Lk.refl w,by rw [h3];exact h,.one st_skip⟩
theorem Wp.label {l:Nat}(h:Q .normal a H):Wp P rd fn (.label l) Q a H:=fun b k cs w h1 h2 h3=>⟨.normal,a,w,Lk.refl w,by rw [h3];exact h,.one st_label⟩
theorem Wp.exit {id:Nat}(h:Q (.exit id) a H):Wp P rd fn (.exit id) Q a H:=fun b k cs w h1 h2 h3=>⟨.exit id,a,w,Lk.refl w,by rw [h3];exact h,k,rfl,.refl _ _⟩
theorem Wp.ret (h:Q .ret a H):Wp P rd fn .ret Q a H:=fun b k cs w h1 h2 h3=>⟨.ret,a,w,Lk.refl w,by rw [h3];exact h,k,.refl _ _⟩
theorem Wp.seq {x y:Code}(h:Wp P rd fn x (fun e a' H'=>match e with | .normal=>Wp P rd fn y Q a' H' | e=>Q e a' H') a H):Wp P rd fn (.seq x y) Q a H:=by
 intro b k cs w h1 h2 h3
 obtain ⟨e,a₁,w₁,hl,hq,harr⟩:=h b (.code y::k) cs w h1 h2 h3
 cases e with
 | normal=>
  obtain ⟨e₂,a₂,w₂,hl₂,hq₂,harr₂⟩:=hq b k cs w₁ h1 h2 rfl
  exact ⟨e₂,a₂,w₂,hl.trans hl₂,hq₂,.of_steps (.head st_seq harr) harr₂⟩
 | exit id=>obtain ⟨k0,h0,hs⟩:=harr;exact ⟨.exit id,a₁,w₁,hl,hq,k0,by rw [h0];simp [exitTo],.head st_seq hs⟩
 | ret=>obtain ⟨k0,hs⟩:=harr;exact ⟨.ret,a₁,w₁,hl,hq,k0,.head st_seq hs⟩
 | panic ch=>obtain ⟨k0,hs⟩:=harr;exact ⟨.panic ch,a₁,w₁,hl,hq,k0,.head st_seq hs⟩
 | goto l=>exact harr.elim
 | outgrown=>exact harr.elim
theorem Wp.cond {c:Operand}{x y:Code}{t:Bool}(hc:a.eval c = .bool t) (h:Wp P rd fn (if t then x else y) Q a H):Wp P rd fn (.cond c x y) Q a H:=
 fun b k cs w h1 h2 h3=>let ⟨e,a',w',l,q,r⟩:=h b k cs w h1 h2 h3;⟨e,a',w',l,q,.of_steps (.one (st_cond hc)) r⟩
theorem Wp.block {id:Nat}{c:Code}(h:Wp P rd fn c (fun e a' H'=>match e with | .exit id'=>if id'=id then Q .normal a' H' else Q (.exit id') a' H' | e=>Q e a' H') a H) :
  Wp P rd fn (.block id c) Q a H:=by
 intro b k cs w h1 h2 h3
 obtain ⟨e,a₁,w₁,hl,hq,harr⟩:=h b (.inBlock id::k) cs w h1 h2 h3
 cases e with
 | normal=>exact ⟨.normal,a₁,w₁,hl,hq,.head st_block (Steps.trans harr (.one st_inBlock))⟩
 | exit id'=>
  obtain ⟨k0,h0,hs⟩:=harr
  by_cases hid:id'=id
  ·simp only [hid,if_true] at hq
   refine ⟨.normal,a₁,w₁,hl,hq,.head st_block (Steps.trans hs (.one (st_exit ?_)))⟩
   rw [h0];simp [exitTo,hid]
  ·simp only [hid,if_false] at hq
   refine ⟨.exit id',a₁,w₁,hl,hq,k0,?_,.head st_block hs⟩
   have:(id == id')=false:=by simp;exact fun h=>hid h.symm
   rw [h0];simp [exitTo,this]
 | ret=>obtain ⟨k0,hs⟩:=harr;exact ⟨.ret,a₁,w₁,hl,hq,k0,.head st_block hs⟩
 | panic ch=>obtain ⟨k0,hs⟩:=harr;exact ⟨.panic ch,a₁,w₁,hl,hq,k0,.head st_block hs⟩
 | goto l=>exact harr.elim
 | outgrown=>exact harr.elim
theorem Wp.scope {c:Code}(h:Wp P rd fn c Q a H):Wp P rd fn (.scope c) Q a H:=by
 intro b k cs w h1 h2 h3
 obtain ⟨e,a₁,w₁,hl,hq,harr⟩:=h b (.inScope c::k) cs w h1 h2 h3
 cases e with
 | normal=>exact ⟨.normal,a₁,w₁,hl,hq,.head st_scope (Steps.trans harr (.one st_inScope))⟩
 | exit id=>obtain ⟨k0,h0,hs⟩:=harr;exact ⟨.exit id,a₁,w₁,hl,hq,k0,by rw [h0];simp [exitTo],.head st_scope hs⟩
 | ret=>obtain ⟨k0,hs⟩:=harr;exact ⟨.ret,a₁,w₁,hl,hq,k0,.head st_scope hs⟩
 | panic ch=>obtain ⟨k0,hs⟩:=harr;exact ⟨.panic ch,a₁,w₁,hl,hq,k0,.head st_scope hs⟩
 | goto l=>exact harr.elim
 | outgrown=>exact harr.elim
theorem Wp.loop {c:Code}(I:Act→Hp→Nat→Prop) (m:Nat) (h₀:I a H m)
  (round:∀ a H m,I a H m→Wp P rd fn c (fun e a' H'=>match e with | .normal=>∃ m',m' < m∧I a' H' m' | e=>Q e a' H') a H):Wp P rd fn (.loop c) Q a H:=by
 intro b k cs w h1 h2 h3
 have key:∀ n a w,I a w.heap n →
   ∃ e a' w',Lk w w'∧Q e a' w'.heap∧Arr P (lone (fat b a (.code c :: .inLoop c::k)) cs w) b k cs e a' w':=by
  intro n
  induction n using Nat.strongRecOn with
  | _ n ih=>
   intro a w hI
   obtain ⟨e,a₁,w₁,hl,hq,harr⟩:=round a w.heap n hI b (.inLoop c::k) cs w h1 h2 rfl
   cases e with
   | normal=>
    obtain ⟨n',hlt,hI₁⟩:=hq
    obtain ⟨e₂,a₂,w₂,hl₂,hq₂,harr₂⟩:=ih n' hlt a₁ w₁ hI₁
    exact ⟨e₂,a₂,w₂,hl.trans hl₂,hq₂,.of_steps (Steps.trans harr (.one st_inLoop)) harr₂⟩
   | exit id=>obtain ⟨k0,h0,hs⟩:=harr;exact ⟨.exit id,a₁,w₁,hl,hq,k0,by rw [h0];simp [exitTo],hs⟩
   | ret=>obtain ⟨k0,hs⟩:=harr;exact ⟨.ret,a₁,w₁,hl,hq,k0,hs⟩
   | panic ch=>obtain ⟨k0,hs⟩:=harr;exact ⟨.panic ch,a₁,w₁,hl,hq,k0,hs⟩
   | goto l=>exact harr.elim
   | outgrown=>exact harr.elim
 obtain ⟨e,a',w',hl,hq,harr⟩:=key m a w (by rw [h3];exact h₀)
 exact ⟨e,a',w',hl,hq,.of_steps (.one st_loop) harr⟩
def ofR (Q:Exit→Act→Hp→Prop):Act→List PanicEntry→Hp→Prop:=fun a ch H=>Q (.panic ch) a H
theorem Wp.region {id:Nat}{ops:Array Oper}(h:WpR P rd ops (List.range ops.size) (fun a H=>Q .normal a H) (ofR Q) a H):Wp P rd fn (.region id ops false) Q a H:=by
 intro b k cs w h1 h2 h3
 rcases h b k cs w h2 h3 with ⟨a',w',hl,hk,hs⟩ | ⟨a',ch,w',hl,hz,k0,hs⟩
 ·exact ⟨.normal,a',w',hl,hk,.head st_region hs⟩
 ·exact ⟨.panic ch,a',w',hl,hz,k0,.head st_region hs⟩
theorem Wp.region_draw {id:Nat}{ops:Array Oper}(h:∀ t,WpR P rd ops (Region.schedule (P.follows .mixedOrders) ops t) (fun a H=>Q .normal a H) (ofR Q) a H) :
  Wp P rd fn (.region id ops true) Q a H:=by
 intro b k cs w h1 h2 h3
 have hl0:Lk w { w with drawn:=w.drawn+1 }:=⟨rfl,rfl,rfl⟩
 rcases h _ b k cs { w with drawn:=w.drawn+1 } h2 h3 with ⟨a',w',hl,hk,hs⟩ | ⟨a',ch,w',hl,hz,k0,hs⟩
 ·exact ⟨.normal,a',w',hl0.trans hl,hk,.head st_region_draw hs⟩
 ·exact ⟨.panic ch,a',w',hl0.trans hl,hz,k0,.head st_region_draw hs⟩
end rules
end Go.V
end
section
namespace Go.V
def YR (P:Program) (ops:Array Oper) (o:Oper) (v:Value) (a:Act) (H:Hp):Prop:=
 (Region.wanted o (yielded ops a.tmps)=true∧∀ w:World,w.heap=H→(execOp a.eval o).run P w = .ok (.value v) w) ∨
 (Region.wanted o (yielded ops a.tmps)=false∧v=undef)
def YP (P:Program) (ops:Array Oper) (o:Oper) (v:Value) (a:Act):Prop:=∀ H,YR P ops o v a H
theorem YR.of_same {P:Program}{ops:Array Oper}{o:Oper}{v:Value}{a a':Act}{H:Hp}(hy:YR P ops o v a H) (he:execOp a'.eval o=execOp a.eval o)
  (hw:Region.wanted o (yielded ops a'.tmps)=Region.wanted o (yielded ops a.tmps)):YR P ops o v a' H:=by
 unfold YR at *
 rw [he,hw]
 exact hy
def isDefer (o:Oper):Bool:=match o.op with | .defer _=>true | _=>false
def xStep (P:Program) (rd:Option Nat) (rB:Oper→Bool) (ops:Array Oper) (i:Nat) (a:Act) (H:Hp) (K:Act→Hp→Prop) (Z:List PanicEntry→Hp→Prop):Prop:=
 match ops[i]? with
 | none=>K a H
 | some o=>if rB o then ∃ v,YR P ops o v a H∧K (a.put o.dst v) H
  else if Region.wanted o (yielded ops a.tmps) then rdOk rd o=true∧DoesA P rd o a H K Z else K (a.put o.dst undef) H
section
variable {P:Program}{rd:Option Nat}{rB:Oper→Bool}{ops:Array Oper}
theorem xStep.mono {i:Nat}{a:Act}{H:Hp}{K K':Act→Hp→Prop}{Z Z':List PanicEntry→Hp→Prop}
  (h:xStep P rd rB ops i a H K Z) (hk:∀ a' H',K a' H'→K' a' H') (hz:∀ c H',Z c H'→Z' c H'):xStep P rd rB ops i a H K' Z':=by
 unfold xStep at *
 split at h
 ·exact hk _ _ h
 ·split at h
  ·rename_i hr;rw [if_pos hr];obtain ⟨v,hy,hK⟩:=h;exact ⟨v,hy,hk _ _ hK⟩
  ·rename_i hr
   rw [if_neg hr]
   split at h
   ·rename_i hw;rw [if_pos hw];exact ⟨h.1,h.2.mono hk hz⟩
   ·rename_i hw;rw [if_neg hw];exact hk _ _ h
theorem xStep.stepS {i:Nat}{a:Act}{H:Hp}{K:Act→Hp→Prop}{Z:List PanicEntry→Hp→Prop}(hrB:∀ o,rB o=true→isDefer o=false)
  (h:xStep P rd rB ops i a H K Z):stepS P rd ops i a H K Z:=by
 unfold xStep at h
 unfold Go.V.stepS
 cases ho:ops[i]? with
 | none=>simp only [ho] at h;exact h
 | some o=>
  simp only [ho] at h ⊢
  by_cases hr:rB o=true
  ·rw [if_pos hr] at h
   obtain ⟨v,hy,hK⟩:=h
   rcases hy with ⟨hw,hv⟩ | ⟨hw,rfl⟩
   ·rw [if_pos hw]
    have hd:=hrB o hr
    refine ⟨by unfold rdOk;split <;> simp_all [isDefer],?_⟩
    intro w hwH
    rw [hv w hwH]
    exact ⟨Lk.refl w,by rw [hwH];exact hK⟩
   ·rw [if_neg (by simp [hw])]
    exact hK
  ·rw [if_neg hr] at h
   exact h
def anyX (P:Program) (rd:Option Nat) (rB:Oper→Bool) (ops:Array Oper) (K:Act→Hp→Prop) (Z:Act→List PanicEntry→Hp→Prop):Nat→Array Bool→Act→Hp→Prop
 | 0,listed,a,H=>Region.ready .any ops listed = []∧K a H
 | fuel+1,listed,a,H=>
  (Region.ready .any ops listed = []→K a H) ∧
  ∀ i∈Region.ready .any ops listed,xStep P rd rB ops i a H (anyX P rd rB ops K Z fuel (listed.setIfInBounds i true)) (Z a)
theorem anyX_sound {K:Act→Hp→Prop}{Z:Act→List PanicEntry→Hp→Prop}(hrB:∀ o,rB o=true→isDefer o=false) :
  ∀ (fuel t:Nat) (listed:Array Bool) (a:Act) (H:Hp),anyX P rd rB ops K Z fuel listed a H →
  WpR P rd ops (Region.linearise.go .any ops fuel t listed []) K Z a H:=by
 intro fuel
 induction fuel with
 | zero=>intro t listed a H h;simp only [Region.linearise.go,List.reverse_nil];exact WpR.nil h.2
 | succ fuel ih=>
  intro t listed a H h
  obtain ⟨h₀,h₁⟩:=h
  simp only [Region.linearise.go]
  change WpR P rd ops (match (Region.ready .any ops listed)[t % (Region.ready .any ops listed).length]? with
   | some i=>Region.linearise.go .any ops fuel (t / (Region.ready .any ops listed).length) (listed.setIfInBounds i true) [i]
   | none=>[].reverse) K Z a H
  cases hi:(Region.ready .any ops listed)[t % (Region.ready .any ops listed).length]? with
  | none=>
   have hnil:Region.ready .any ops listed = []:=by
    cases hr:Region.ready .any ops listed with
    | nil=>rfl
    | cons x xs=>
     rw [hr] at hi
     have hlt:t % (x::xs).length < (x::xs).length:=Nat.mod_lt _ (by simp)
     simp at hi
     simp at hlt
     omega
   exact WpR.nil (h₀ hnil)
  | some i=>
   simp only []
   rw [linearise_go_acc,List.reverse_singleton,List.singleton_append]
   exact WpR.cons (((h₁ i (List.mem_of_getElem? hi)).stepS hrB).mono (fun a H=>ih _ _ a H) (fun _ _ h=>h))
theorem xStep_put {i j:Nat}{oi oj:Oper}{v:Value}{pB:Bool}(hj:ops[j]? = some oj) (hap:oi.apart ops oj=true) (hpr:rB oj=true∨pB=true)
  (hsi:∀ cs b,oi.op ≠ .select cs b) (hsj:∀ cs b,oj.op ≠ .select cs b)
  {K:Act→Hp→Prop}{Z:Act→List PanicEntry→Hp→Prop}(hZ:∀ (a:Act) d u c H,Z (a.put d u) c H→Z a c H) {a:Act}{H:Hp}
  (hy:YR P ops oi v a H) (hp:pB=true→YP P ops oi v a) (h:xStep P rd rB ops j (a.put oi.dst v) H K (Z (a.put oi.dst v))) :
  xStep P rd rB ops j a H (fun a' H'=>(YR P ops oi v a' H'∧(pB=true→YP P ops oi v a'))∧K (a'.put oi.dst v) H') (Z a):=by
 obtain ⟨h1,h2,h3⟩:=Oper.apart_spec hap
 have keep:∀ (a:Act) (H:Hp),YR P ops oi v a H→∀ u,YR P ops oi v (a.put oj.dst u) H:=fun a H hy u=>
  hy.of_same (execOp_put oi hsi a oj.dst u h3) (wanted_put oi a oj.dst u h3)
 have keepP:∀ (a:Act),YP P ops oi v a→∀ u,YP P ops oi v (a.put oj.dst u):=fun a hy u H=>keep a H (hy H) u
 have keepD:∀ (a:Act) d H,YR P ops oi v a H→YR P ops oi v { a with defers:=d::a.defers } H:=fun a d H hy=>hy.of_same rfl rfl
 unfold xStep at *
 simp only [hj] at *
 rw [wanted_put oj a oi.dst v h1] at h
 split
 ·rename_i hr
  rw [if_pos hr] at h
  obtain ⟨u,hu,hK⟩:=h
  refine ⟨u,?_,⟨keep a H hy u,fun hb=>keepP a (hp hb) u⟩,by rw [← Act.put_comm a v u h2];exact hK⟩
  exact hu.of_same (execOp_put oj hsj a oi.dst v h1).symm (wanted_put oj a oi.dst v h1).symm
 ·rename_i hr
  rw [if_neg hr] at h
  have hpB:pB=true:=hpr.resolve_left hr
  have hP:=hp hpB
  split
  ·rename_i hw
   rw [if_pos hw] at h
   refine ⟨h.1,?_⟩
   intro w hwH
   have h4:=h.2 w hwH
   rw [execOp_put oj hsj a oi.dst v h1] at h4
   generalize (execOp a.eval oj).run P w=r at *
   cases r with
   | ok n w'=>
    cases n <;> simp only at h4 ⊢
    case value u=>exact ⟨h4.1,⟨keepP a hP u _,fun _=>keepP a hP u⟩,by rw [← Act.put_comm a v u h2];exact h4.2⟩
    case skip=>exact ⟨h4.1,⟨keepP a hP _ _,fun _=>keepP a hP _⟩,by rw [← Act.put_comm a v undef h2];exact h4.2⟩
    case defer d=>
     refine ⟨h4.1,⟨keep _ _ (keepD a d _ (hP _)) _,fun _ H=>keep _ _ (keepD a d _ (hP _)) _⟩,?_⟩
     rw [← Act.put_comm _ v undef h2,← Act.put_defers]
     exact h4.2
    case enter f args=>
     exact ⟨h4.1,h4.2.mono (fun u H' he=>⟨⟨keepP a hP u _,fun _=>keepP a hP u⟩,by rw [← Act.put_comm a v u h2];exact he⟩) (fun _ _ hz=>hZ _ _ _ _ _ hz)⟩
    case round l f tmps as body=>
     exact ⟨h4.1,h4.2.mono (fun u H' he=>⟨⟨keepP a hP u _,fun _=>keepP a hP u⟩,by rw [← Act.put_comm a v u h2];exact he⟩)⟩
   | halt x w'=>
    cases x <;> simp only at h4 ⊢
    case panic u=>exact ⟨h4.1,hZ _ _ _ _ _ h4.2⟩
  ·rename_i hw
   rw [if_neg hw] at h
   exact ⟨⟨keep a H hy _,fun hb=>keepP a (hp hb) _⟩,by rw [← Act.put_comm a v undef h2];exact h⟩
def ClosedL (ops:Array Oper) (l:Array Bool):Prop:=
 ∀ (j:Nat) (oj:Oper),ops[j]? = some oj→l.getD j false=true→∀ e∈oj.after,Region.binds .any e=true→l.getD e.on false=true
theorem ClosedL.set {l:Array Bool}{i:Nat}(h:ClosedL ops l) (hi:i∈Region.ready .any ops l):ClosedL ops (l.setIfInBounds i true):=by
 obtain ⟨_,o,ho,hall⟩:=mem_ready.1 hi
 intro j oj hj hl e he hb
 by_cases hij:i=j
 ·subst hij
  rw [ho] at hj
  cases hj
  exact getD_set_true (hall e he hb)
 ·rw [getD_set_ne false hij] at hl
  exact getD_set_true (h j oj hj hl e he hb)
def befOf (T:List Nat) (j:Nat) (o:Oper):Nat:=
 o.after.toList.foldl (fun a e=>if Region.binds .any e then (a ||| 2 ^ e.on) ||| (if e.on < j then T.getD e.on 0 else 0) else a) 0
def befL:List Oper→Nat→List Nat→List Nat
 | [],_,T=>T
 | o::os,j,T=>befL os (j+1) (T ++ [befOf T j o])
theorem befOf_bit {T:List Nat}{j i:Nat}{o:Oper}(h:(befOf T j o).testBit i=true) :
  ∃ e∈o.after,Region.binds .any e=true∧(e.on=i∨(e.on < j∧(T.getD e.on 0).testBit i=true)):=by
 unfold befOf at h
 have key:∀ (l:List Edge) (a:Nat),(l.foldl (fun a e=>if Region.binds .any e then (a ||| 2 ^ e.on) ||| (if e.on < j then T.getD e.on 0 else 0) else a) a).testBit i=true →
   a.testBit i=true∨∃ e∈l,Region.binds .any e=true∧(e.on=i∨(e.on < j∧(T.getD e.on 0).testBit i=true)):=by
  intro l
  induction l with
  | nil=>intro a h;exact .inl h
  | cons e l ih=>
   intro a h
   rcases ih _ h with h | ⟨e',he',h⟩
   ·dsimp only at h
    revert h
    intro h
    by_cases hb:Region.binds .any e=true
    ·rw [if_pos hb] at h
     simp only [Nat.testBit_or,Bool.or_eq_true] at h
     rcases h with (h | h) | h
     ·exact .inl h
     ·rw [Nat.testBit_two_pow] at h
      exact .inr ⟨e,List.mem_cons_self,hb,.inl (by simpa using h)⟩
     ·by_cases hl:e.on < j
      ·rw [if_pos hl] at h
       exact .inr ⟨e,List.mem_cons_self,hb,.inr ⟨hl,h⟩⟩
      ·rw [if_neg hl] at h;simp at h
    ·rw [if_neg hb] at h;exact .inl h
   ·exact .inr ⟨e',List.mem_cons_of_mem _ he',h⟩
 rcases key _ _ h with h | ⟨e,he,h⟩
 ·simp at h
 ·exact ⟨e,by simpa using he,h⟩
def TabOk (ops:Array Oper) (T:List Nat):Prop:=
 ∀ (j i:Nat) (o:Oper),ops[j]? = some o→(T.getD j 0).testBit i=true→∃ e∈o.after,Region.binds .any e=true∧(e.on=i∨(e.on < j∧(T.getD e.on 0).testBit i=true))
theorem befL_ok:∀ (os:List Oper) (j:Nat) (T:List Nat),T.length=j→(∀ k,os[k]? = ops[j+k]?)→(∀ k,k < j→∀ i o,ops[k]? = some o→(T.getD k 0).testBit i=true →
  ∃ e∈o.after,Region.binds .any e=true∧(e.on=i∨(e.on < k∧(T.getD e.on 0).testBit i=true)))→TabOk ops (befL os j T)
 | [],j,T,hl,hos,h=>by
  intro k i o ho hb
  simp only [befL] at hb ⊢
  have hk:k < j:=by
   rcases Nat.lt_or_ge k j with h' | h'
   ·exact h'
   ·have:=hos (k - j)
    rw [show j+(k - j)=k by omega,ho] at this
    simp at this
  exact h k hk i o ho hb
 | o::os,j,T,hl,hos,h=>by
  unfold befL
  refine befL_ok os (j+1) _ (by simp [hl]) (fun k=>?_) ?_
  ·have:=hos (k+1)
   simp only [List.getElem?_cons_succ] at this
   rw [this];congr 1;omega
  ·intro k hk i o' ho' hb
   have old:∀ m,m < j→(T ++ [befOf T j o]).getD m 0=T.getD m 0:=by
    intro m hm
    simp only [List.getD_eq_getElem?_getD]
    rw [List.getElem?_append_left (by omega)]
   by_cases hkj:k < j
   ·rw [old k hkj] at hb
    obtain ⟨e,he,hbd,h2⟩:=h k hkj i o' ho' hb
    refine ⟨e,he,hbd,h2.imp id fun h3=>⟨h3.1,?_⟩⟩
    rw [old e.on (by omega)]
    exact h3.2
   ·have hkj':k=j:=by omega
    subst hkj'
    have ho2:ops[k]? = some o:=by have:=hos 0;simpa using this.symm
    rw [ho2] at ho'
    cases ho'
    have e0:(T ++ [befOf T k o]).getD k 0=befOf T k o:=by
     simp only [List.getD_eq_getElem?_getD]
     rw [List.getElem?_append_right (by omega)]
     simp [hl]
    rw [e0] at hb
    obtain ⟨e,he,hbd,h2⟩:=befOf_bit hb
    refine ⟨e,he,hbd,h2.imp id fun h3=>⟨h3.1,?_⟩⟩
    rw [old e.on h3.1]
    exact h3.2
theorem TabOk.waits {T:List Nat}(hT:TabOk ops T) {l:Array Bool}(hc:ClosedL ops l) {i:Nat}(hi:l.getD i false=false) :
  ∀ (n j:Nat) (oj:Oper),j < n→ops[j]? = some oj→(∀ e∈oj.after,Region.binds .any e=true→l.getD e.on false=true)→(T.getD j 0).testBit i=false:=by
 intro n
 induction n with
 | zero=>intro j oj hj;omega
 | succ n ih=>
  intro j oj hj ho hall
  cases hb:(T.getD j 0).testBit i with
  | false=>rfl
  | true=>
   obtain ⟨e,he,hbd,h | ⟨hlt,h⟩⟩:=hT j i oj ho hb
   ·have:=hall e he hbd
    rw [h,hi] at this
    cases this
   ·have hl:=hall e he hbd
    cases ho2:ops[e.on]? with
    | none=>
     -- nothing stands there: its bits are none
     have:=hT e.on i
     rw [ho2] at this
     exfalso
     have h5:e.on < ops.size:=by
      have:=(Array.getElem?_eq_some_iff.1 ho).1
      omega
     rw [Array.getElem?_eq_none_iff] at ho2
     omega
    | some o2=>
     have:=ih e.on o2 (by omega) ho2 (hc e.on o2 ho2 hl)
     rw [h] at this
     cases this
theorem anyX_first {i:Nat}{oi:Oper}{v:Value}{pB:Bool}{K:Act→Hp→Prop}{Z:Act→List PanicEntry→Hp→Prop}(hi:ops[i]? = some oi) (hri:rB oi=true) {T:List Nat}(hT:TabOk ops T)
  (hsel:∀ (j:Nat) (o:Oper) cs b,ops[j]? = some o→o.op ≠ .select cs b)
  (hZ:∀ (a:Act) d u c H,Z (a.put d u) c H→Z a c H) :
  ∀ (fuel:Nat) (listed:Array Bool) (a:Act) (H:Hp),
   (∀ j oj,ops[j]? = some oj→j≠i→listed.getD j true=false→(T.getD j 0).testBit i=false→oi.apart ops oj=true∧(rB oj=true∨pB=true)) →
   ClosedL ops listed→i∈Region.ready .any ops listed→YR P ops oi v a H→(pB=true→YP P ops oi v a) →
   anyX P rd rB ops K Z fuel (listed.setIfInBounds i true) (a.put oi.dst v) H→anyX P rd rB ops K Z (fuel+1) listed a H:=by
 have own:∀ (a:Act) (H:Hp) (K':Act→Hp→Prop),YR P ops oi v a H→K' (a.put oi.dst v) H→xStep P rd rB ops i a H K' (Z a):=by
  intro a H K' hy h
  unfold xStep
  simp only [hi]
  rw [if_pos hri]
  exact ⟨v,hy,h⟩
 intro fuel
 induction fuel with
 | zero=>
  intro listed a H _ _ hr hy hp h
  refine ⟨fun h0=>(by rw [h0] at hr;cases hr),fun j hj=>?_⟩
  by_cases hji:j=i
  ·subst hji;exact own a H _ hy h
  ·have:=ready_mono hj hji
   rw [h.1] at this
   cases this
 | succ fuel ih=>
  intro listed a H hfree hcl hr hy hp h
  refine ⟨fun h0=>(by rw [h0] at hr;cases hr),fun j hj=>?_⟩
  by_cases hji:j=i
  ·subst hji;exact own a H _ hy h
  ·have h1:=h.2 j (ready_mono hj hji)
   obtain ⟨hjun,oj,hoj,hall⟩:=mem_ready.1 hj
   have hif:listed.getD i false=false:=by
    have h0:=(mem_ready.1 hr).1
    rcases Nat.lt_or_ge i listed.size with h' | h'
    ·simp [h'] at h0 ⊢;exact h0
    ·simp [Array.getElem?_eq_none h']
   have hnot:=hT.waits hcl hif (j+1) j oj (by omega) hoj hall
   obtain ⟨hap,hpr⟩:=hfree j oj hoj hji hjun hnot
   have h2:=xStep_put (i:=i) hoj hap hpr (fun cs b=>hsel i oi cs b hi) (fun cs b=>hsel j oj cs b hoj) hZ hy hp h1
   have hfree':∀ k ok,ops[k]? = some ok→k≠i→(listed.setIfInBounds j true).getD k true=false →
     (T.getD k 0).testBit i=false→oi.apart ops ok=true∧(rB ok=true∨pB=true):=fun k ok hk hki hun hno=>by
    refine hfree k ok hk hki ?_ hno
    by_cases hjk:j=k
    ·subst hjk;exact hjun
    ·rw [getD_set_ne true hjk] at hun;exact hun
   refine h2.mono (fun a' H' h3=>ih (listed.setIfInBounds j true) a' H' hfree' (hcl.set hj) (ready_mono hr (Ne.symm hji)) h3.1.1 h3.1.2 ?_) (fun _ _ h=>h)
   rw [Array.setIfInBounds_comm _ _ hji]
   exact h3.2
def freeB (T:List Nat) (pB rB:Oper→Bool) (ops:Array Oper) (listed:Array Bool) (i:Nat):Bool:=
 match ops[i]? with
 | none=>false
 | some oi=>rB oi && (List.range ops.size).all fun j=>j == i || listed.getD j true || match ops[j]? with
   | some oj=>(T.getD j 0).testBit i || (oi.apart ops oj && (rB oj || pB oi))
   | none=>true
theorem freeB_spec {T:List Nat}{pB:Oper→Bool}{i:Nat}{oi:Oper}{listed:Array Bool}(hi:ops[i]? = some oi) (h:freeB T pB rB ops listed i=true):rB oi=true ∧
  ∀ (j:Nat) (oj:Oper),ops[j]? = some oj→j≠i→listed.getD j true=false→(T.getD j 0).testBit i=false →
   oi.apart ops oj=true∧(rB oj=true∨pB oi=true):=by
 simp only [freeB,hi,Bool.and_eq_true,List.all_eq_true,List.mem_range] at h
 refine ⟨h.1,fun j oj hj hne hun hno=>?_⟩
 have h1:=h.2 j (Array.getElem?_eq_some_iff.1 hj).1
 simp only [hj,Bool.or_eq_true,beq_iff_eq,hne,false_or,hun,Bool.false_eq_true] at h1
 rcases h1 with h1 | h1
 ·rw [hno] at h1;cases h1
 ·simp only [Bool.and_eq_true,Bool.or_eq_true] at h1
  exact h1
end
end Go.V
end
section
namespace Go.V
def hcell (H:Hp) (a:Addr):Option Value:=match H[a.block]? with
 | some (.cells c _ _)=>if a.spot.isSome then none else c[a.off]?
 | _=>none
def hfrozen (H:Hp) (a:Addr):Bool:=match H[a.block]? with
 | some (.cells _ _ (lo,hi))=>lo≤a.off && a.off < hi
 | _=>false
def hset (H:Hp) (a:Addr) (v:Value):Hp:=H.modify a.block fun
 | .cells c elem frozen=>.cells (if a.spot.isSome then c else c.setIfInBounds a.off v) elem frozen
 | o=>o
def hshape (H:Hp) (r:Nat):Option (TypeId × Nat):=match H[r]? with
 | some (.cells c elem _)=>some (elem,c.size)
 | _=>none
def hfreeze (H:Hp) (a:Addr) (n:Nat):Hp:=if n=0 then H else H.modify a.block fun
 | .cells c elem (lo,hi)=>.cells c elem (if lo == hi then (a.off,a.off+n) else (min lo a.off,max hi (a.off+n)))
 | o=>o
def isCells:Obj→Bool | .cells ..=>true | _=>false
def Newb (H:Hp) (o:Obj) (b:Nat) (H':Hp):Prop:=b=H.size∧H'=H.push o
def hrun (P:Program) {α : Type}:Sem α→Hp→(α→Hp→Prop)→(Value→Hp→Prop)→Prop
 | .pure a,H,K,_=>K a H
 | .load _ a k,H,K,Z=>∃ v,hcell H a=some v∧hrun P (k v) H K Z
 | .store _ a v k,H,K,Z=>v.oneCell=true∧(∃ u,hcell H a=some u)∧hfrozen H a=false∧hrun P k (hset H a v) K Z
 | .new o k,H,K,Z=>∀ b H',Newb H o b H'→hrun P (k b) H' K Z
 | .shape r k,H,K,Z=>hrun P (k (hshape H r)) H K Z
 | .freeze a n k,H,K,Z=>hrun P k (hfreeze H a n) K Z
 | .frozen a k,H,K,Z=>hrun P (k (hfrozen H a)) H K Z
 | .getObj r k,H,K,Z=>∃ o,H[r]? = some o∧isCells o=false∧hrun P (k o) H K Z
 | .setObj r o k,H,K,Z=>(∃ o',H[r]? = some o'∧isCells o'=false)∧hrun P k (H.setIfInBounds r o) K Z
 | .choose q k,H,K,Z=>if q.forced then hrun P (k 0) H K Z else ∀ t,hrun P (k (q.cut t)) H K Z
 | .sys _ _,_,_,_=>False
 | .program k,H,K,Z=>hrun P (k P) H K Z
 | .mark _ k,H,K,Z=>hrun P k H K Z
 | .halt h,H,_,Z=>match h with | .panic v=>Z v H | _=>False
theorem hrun_sound {α : Type}{P:Program}(s:Sem α):∀ {H:Hp}{K : α→Hp→Prop}{Z:Value→Hp→Prop},hrun P s H K Z→∀ w:World,w.heap=H →
  match s.run P w with
  | .ok a w'=>Lk w w'∧K a w'.heap
  | .halt (.panic v) w'=>Lk w w'∧Z v w'.heap
  | .halt _ _=>False:=by
 induction s with
 | pure a=>intro H K Z h w hw;subst hw;exact ⟨Lk.refl w,h⟩
 | load m a k ih=>
  intro H K Z h w hw
  subst hw
  obtain ⟨v,hv,h⟩:=h
  have:w.cell? a=some v:=hv
  simp only [Sem.run,this]
  exact ih v h w rfl
 | store m a v k ih=>
  intro H K Z h w hw
  subst hw
  obtain ⟨h1,⟨u,h2⟩,h3,h⟩:=h
  have e2:w.cell? a=some u:=h2
  have e3:w.frozen? a=false:=h3
  have h5:=ih h (w.setCell a v) rfl
  have hl:Lk w (w.setCell a v):=⟨rfl,rfl,rfl⟩
  have key:Sem.run P (.store m a v k) w=k.run P (w.setCell a v):=by
   cases v <;> first
    | (simp [Value.oneCell] at h1;done)
    | simp [Sem.run,e2,e3]
  rw [key]
  generalize k.run P (w.setCell a v)=r at *
  cases r with
  | ok a w'=>exact ⟨hl.trans h5.1,h5.2⟩
  | halt x w'=>cases x <;> first | exact h5.elim | exact ⟨hl.trans h5.1,h5.2⟩
 | new o k ih=>
  intro H K Z h w hw
  subst hw
  simp only [Sem.run]
  have h5:=ih w.heap.size (h w.heap.size (w.heap.push o) ⟨rfl,rfl⟩) { w with heap:=w.heap.push o } rfl
  have hl:Lk w { w with heap:=w.heap.push o }:=⟨rfl,rfl,rfl⟩
  generalize (k w.heap.size).run P { w with heap:=w.heap.push o } = r at *
  cases r with
  | ok a w'=>exact ⟨hl.trans h5.1,h5.2⟩
  | halt x w'=>cases x <;> first | exact h5.elim | exact ⟨hl.trans h5.1,h5.2⟩
 | shape r k ih=>intro H K Z h w hw;subst hw;exact ih (w.shape? r) h w rfl
 | freeze a n k ih=>
  intro H K Z h w hw
  subst hw
  simp only [Sem.run]
  have hf:(w.freeze a n).heap=hfreeze w.heap a n:=by unfold World.freeze hfreeze;split <;> rfl
  have hl:Lk w (w.freeze a n):=by unfold World.freeze;split <;> exact ⟨rfl,rfl,rfl⟩
  have h5:=ih h (w.freeze a n) hf
  generalize k.run P (w.freeze a n)=r at *
  cases r with
  | ok a w'=>exact ⟨hl.trans h5.1,h5.2⟩
  | halt x w'=>cases x <;> first | exact h5.elim | exact ⟨hl.trans h5.1,h5.2⟩
 | frozen a k ih=>intro H K Z h w hw;subst hw;exact ih (w.frozen? a) h w rfl
 | getObj r k ih=>
  intro H K Z h w hw
  subst hw
  obtain ⟨o,h1,h2,h⟩:=h
  have key:Sem.run P (.getObj r k) w=(k o).run P w:=by
   simp only [Sem.run,h1]
   cases o <;> first | (simp [isCells] at h2;done) | rfl
  rw [key]
  exact ih o h w rfl
 | setObj r o k ih=>
  intro H K Z h w hw
  subst hw
  obtain ⟨⟨o',h1,h2⟩,h⟩:=h
  have key:Sem.run P (.setObj r o k) w=k.run P { w with heap:=w.heap.setIfInBounds r o }:=by
   simp only [Sem.run,h1]
   cases o' <;> first | (simp [isCells] at h2;done) | rfl
  rw [key]
  have hl:Lk w { w with heap:=w.heap.setIfInBounds r o }:=⟨rfl,rfl,rfl⟩
  have h5:=ih h { w with heap:=w.heap.setIfInBounds r o } rfl
  generalize k.run P { w with heap:=w.heap.setIfInBounds r o } = r at *
  cases r with
  | ok a w'=>exact ⟨hl.trans h5.1,h5.2⟩
  | halt x w'=>cases x <;> first | exact h5.elim | exact ⟨hl.trans h5.1,h5.2⟩
 | choose q k ih=>
  intro H K Z h w hw
  subst hw
  simp only [hrun] at h
  simp only [Sem.run]
  by_cases hq:q.forced=true
  ·rw [if_pos hq] at h ⊢
   exact ih 0 h w rfl
  ·rw [if_neg hq] at h ⊢
   have hl:Lk w { w with drawn:=w.drawn+1 }:=⟨rfl,rfl,rfl⟩
   have h5:=ih _ (h (w.tape w.drawn q)) { w with drawn:=w.drawn+1 } rfl
   generalize (k (q.cut (w.tape w.drawn q))).run P { w with drawn:=w.drawn+1 } = r at *
   cases r with
   | ok a w'=>exact ⟨hl.trans h5.1,h5.2⟩
   | halt x w'=>cases x <;> first | exact h5.elim | exact ⟨hl.trans h5.1,h5.2⟩
 | sys c k ih=>intro H K Z h;exact h.elim
 | program k ih=>intro H K Z h w hw;exact ih P h w hw
 | mark m k ih=>intro H K Z h w hw;exact ih h w hw
 | halt x=>
  intro H K Z h w hw
  subst hw
  cases x <;> first | exact h.elim | exact ⟨Lk.refl w,h⟩
theorem hrun.mono {α : Type}{P:Program}(s:Sem α):∀ {H:Hp}{K K' : α→Hp→Prop}{Z Z':Value→Hp→Prop},hrun P s H K Z→(∀ a H,K a H→K' a H)→(∀ a H,Z a H→Z' a H)→hrun P s H K' Z':=by
 induction s with
 | pure a=>intro H K K' Z Z' h hk hz;exact hk _ _ h
 | load m a k ih=>intro H K K' Z Z' h hk hz;obtain ⟨v,hv,h⟩:=h;exact ⟨v,hv,ih v h hk hz⟩
 | store m a v k ih=>intro H K K' Z Z' h hk hz;exact ⟨h.1,h.2.1,h.2.2.1,ih h.2.2.2 hk hz⟩
 | new o k ih=>intro H K K' Z Z' h hk hz b H' hb;exact ih b (h b H' hb) hk hz
 | shape r k ih=>intro H K K' Z Z' h hk hz;exact ih _ h hk hz
 | freeze a n k ih=>intro H K K' Z Z' h hk hz;exact ih h hk hz
 | frozen a k ih=>intro H K K' Z Z' h hk hz;exact ih _ h hk hz
 | getObj r k ih=>intro H K K' Z Z' h hk hz;obtain ⟨o,h1,h2,h⟩:=h;exact ⟨o,h1,h2,ih o h hk hz⟩
 | setObj r o k ih=>intro H K K' Z Z' h hk hz;exact ⟨h.1,ih h.2 hk hz⟩
 | choose q k ih=>
  intro H K K' Z Z' h hk hz
  simp only [hrun] at h ⊢
  by_cases hq:q.forced=true
  ·rw [if_pos hq] at h ⊢;exact ih 0 h hk hz
  ·rw [if_neg hq] at h ⊢;exact fun t=>ih _ (h t) hk hz
 | sys c k ih=>intro H K K' Z Z' h;exact h.elim
 | program k ih=>intro H K K' Z Z' h hk hz;exact ih P h hk hz
 | mark m k ih=>intro H K K' Z Z' h hk hz;exact ih h hk hz
 | halt x=>intro H K K' Z Z' h hk hz;cases x <;> first | exact h.elim | exact hz _ _ h
def pureV (P:Program) {α : Type}:Sem α→Option α
 | .pure a=>some a
 | .program k=>pureV P (k P)
 | .mark _ k=>pureV P k
 | _=>none
theorem pureV_run {P:Program}{α : Type}(s:Sem α):∀ {a : α},pureV P s=some a→∀ w,s.run P w = .ok a w:=by
 induction s <;> intro x h w <;> simp only [pureV] at h <;> try (cases h;done)
 case pure a=>cases h;rfl
 case program k ih=>exact ih P h w
 case mark m k ih=>exact ih h w
structure Sl where
 a:Option Addr
 n:Nat
 c:Nat
inductive Sc where
 | int (k:IntKind) | bool | str | ptr | sl | map | raw
inductive Ty1 where
 | sc (s:Sc)
 | agg (ss:List Sc)
inductive Ty where
 | one (t:Ty1)
 | tup (ts:List Ty1)
def exS:Sc→(Value→Prop)→Prop
 | .int k,F=>∃ n:Int,F (.int k n)
 | .bool,F=>∃ b:Bool,F (.bool b)
 | .str,F=>∃ s:ByteArray,F (.string s)
 | .ptr,F=>∃ p:Option Addr,F (.pointer p)
 | .sl,F=>∃ s:Sl,F (.slice s.a s.n s.c)
 | .map,F=>∃ m:Option Nat,F (.map m)
 | .raw,F=>∃ v:Value,F v
def exLs:List Sc→(List Value→Prop)→Prop
 | [],F=>F []
 | s::ss,F=>exS s fun v=>exLs ss fun vs=>F (v::vs)
def ex1:Ty1→(Value→Prop)→Prop
 | .sc s,F=>exS s F
 | .agg ss,F=>exLs ss fun vs=>F (.agg vs.toArray)
def ex1s:List Ty1→(List Value→Prop)→Prop
 | [],F=>F []
 | t::ts,F=>ex1 t fun v=>ex1s ts fun vs=>F (v::vs)
def exT:Ty→(Value→Prop)→Prop
 | .one t,F=>ex1 t F
 | .tup ts,F=>ex1s ts fun vs=>F (.tuple vs.toArray)
theorem exS_ex {s:Sc}{F:Value→Prop}(h:exS s F):∃ v,F v:=by cases s <;> (obtain ⟨x,hx⟩:=h;exact ⟨_,hx⟩)
theorem exLs_ex:∀ {ss:List Sc}{F:List Value→Prop},exLs ss F→∃ vs,vs.length=ss.length∧F vs
 | [],F,h=>⟨[],rfl,h⟩
 | s::ss,F,h=>by
  obtain ⟨v,h⟩:=exS_ex h
  obtain ⟨vs,hl,h⟩:=exLs_ex h
  exact ⟨v::vs,by simp [hl],h⟩
theorem ex1_ex {t:Ty1}{F:Value→Prop}(h:ex1 t F):∃ v,F v:=by
 cases t with
 | sc s=>exact exS_ex h
 | agg ss=>obtain ⟨vs,_,h⟩:=exLs_ex h;exact ⟨_,h⟩
theorem ex1s_ex:∀ {ss:List Ty1}{F:List Value→Prop},ex1s ss F→∃ vs,F vs
 | [],F,h=>⟨[],h⟩
 | s::ss,F,h=>by
  obtain ⟨v,h⟩:=ex1_ex h
  obtain ⟨vs,h⟩:=ex1s_ex h
  exact ⟨v::vs,h⟩
theorem exT_ex {t:Ty}{F:Value→Prop}(h:exT t F):∃ v,F v:=by
 cases t with
 | one t=>exact ex1_ex h
 | tup ts=>obtain ⟨vs,h⟩:=ex1s_ex h;exact ⟨_,h⟩
def scD:TypeDesc→Sc
 | .int k=>.int k
 | .bool=>.bool
 | .string=>.str
 | .pointer _=>.ptr
 | .slice _=>.sl
 | .map _ _=>.map
 | _=>.raw
def leaves (P:Program):Nat→TypeId→List Sc
 | 0,_=>[.raw]
 | n+1,t=>match P.underlying t with
  | some (.struct fs)=>fs.toList.flatMap fun f=>leaves P n f.type
  | some (.array len e)=>(List.replicate len (leaves P n e)).flatten
  | some d=>[scD d]
  | none=>[.raw]
def ty1 (P:Program) (t:TypeId):Ty1:=match P.underlying t with
 | some (.struct _) | some (.array _ _)=>.agg (leaves P 8 t)
 | some d=>.sc (scD d)
 | none=>.sc .raw
def tyOf (P:Program) (t:TypeId):Ty:=match P.underlying t with
 | some (.tuple ts)=>.tup (ts.toList.map (ty1 P))
 | _=>.one (ty1 P t)
def szOk (P:Program) (t:TypeId) (n:Nat):Bool:=match P.info? t with | some i=>i.size == n | none=>false
def AtL (H:Hp) (a:Addr):Nat→List Value→Prop
 | _,[]=>True
 | i,v::vs=>hcell H (a.add i)=some v∧AtL H a (i+1) vs
def StL (a:Addr):Nat→List Value→Hp→(Hp→Prop)→Prop
 | _,[],H,K=>K H
 | i,v::vs,H,K=>v.oneCell=true∧(∃ u,hcell H (a.add i)=some u)∧hfrozen H (a.add i)=false∧StL a (i+1) vs (hset H (a.add i) v) K
def ldT (P:Program) (t:TypeId) (H:Hp) (a:Addr) (K:Value→Prop):Prop:=match P.underlying t with
 | some (.struct _) | some (.array _ _)=>if szOk P t (leaves P 8 t).length then exLs (leaves P 8 t) fun cs=>AtL H a 0 cs∧K (.agg cs.toArray) else False
 | some d=>exS (scD d) fun v=>hcell H a=some v∧K v
 | none=>False
def stAgg (P:Program) (t:TypeId) (a:Addr) (v:Value) (H:Hp) (K:Hp→Prop):Prop:=match v with
 | .agg cs=>if szOk P t cs.size then StL a 0 cs.toList H K else False
 | _=>False
def stT (P:Program) (t:TypeId) (a:Addr) (v:Value) (H:Hp) (K:Hp→Prop):Prop:=match P.underlying t with
 | some (.struct _) | some (.array _ _)=>stAgg P t a v H K
 | some _=>if szOk P t 1 then StL a 0 [v] H K else False
 | none=>False
theorem szOk_spec {P:Program}{t:TypeId}{n:Nat}(h:szOk P t n=true):∃ i,P.info? t=some i∧i.size=n:=by
 unfold szOk at h
 split at h
 ·rename_i i hi;exact ⟨i,hi,by simpa using h⟩
 ·simp at h
theorem sizeOf_run {P:Program}{t:TypeId}{n:Nat}(h:szOk P t n=true) (w:World):(sizeOf t).run P w = .ok n w:=by
 obtain ⟨i,hi,hn⟩:=szOk_spec h
 simp [sizeOf,typeInfo,program,bind,Sem.bind,pure,Sem.run,hi,hn]
theorem run_bind {α β : Type}(P:Program) (s:Sem α) (k : α→Sem β) (w:World) :
  (s.bind k).run P w=match s.run P w with | .ok a w'=>(k a).run P w' | .halt h w'=>.halt h w':=by
 induction s generalizing w with
 | pure a=>rfl
 | load m a f ih=>simp only [Sem.bind,Sem.run];(repeat' split) <;> simp_all
 | store m a v f ih=>cases v <;> simp only [Sem.bind,Sem.run] <;> (repeat' split) <;> simp_all
 | new o f ih=>simp only [Sem.bind,Sem.run];exact ih _ _
 | shape r f ih=>simp only [Sem.bind,Sem.run];exact ih _ _
 | freeze a n f ih=>simp only [Sem.bind,Sem.run];exact ih _
 | frozen a f ih=>simp only [Sem.bind,Sem.run];exact ih _ _
 | getObj r f ih=>simp only [Sem.bind,Sem.run];(repeat' split) <;> simp_all
 | setObj r o f ih=>simp only [Sem.bind,Sem.run];(repeat' split) <;> simp_all
 | choose q f ih=>simp only [Sem.bind,Sem.run];(repeat' split) <;> simp_all
 | sys c f ih=>simp only [Sem.bind,Sem.run];exact ih _ _
 | program f ih=>simp only [Sem.bind,Sem.run];exact ih _ _
 | mark m f ih=>simp only [Sem.bind,Sem.run];exact ih _
 | halt h=>rfl
theorem loadCells_run {P:Program}{w:World}{a:Addr}:∀ (cs:List Value) (i:Nat) (acc:Array Value),AtL w.heap a i cs →
  (loadCellsFrom a i cs.length acc).run P w = .ok (acc++cs.toArray) w
 | [],i,acc,_=>by simp [loadCellsFrom,pure,Sem.run]
 | c::cs,i,acc,h=>by
  obtain ⟨h1,h2⟩:=h
  have h1':w.cell? (a.add i)=some c:=h1
  simp only [List.length_cons,loadCellsFrom,bind,load,Sem.bind,Sem.run,h1']
  rw [loadCells_run cs (i+1) (acc.push c) h2]
  simp
theorem ldT_run {P:Program}{t:TypeId}{H:Hp}{a:Addr}{K:Value→Prop}(h:ldT P t H a K) :
  ∃ v,K v∧∀ w:World,w.heap=H→(loadVar t a).run P w = .ok v w:=by
 unfold ldT at h
 have agg:∀ (hu:∀ w,(isAgg t).run P w = .ok true w),(if szOk P t (leaves P 8 t).length then exLs (leaves P 8 t) fun cs=>AtL H a 0 cs∧K (.agg cs.toArray) else False) →
   ∃ v,K v∧∀ w:World,w.heap=H→(loadVar t a).run P w = .ok v w:=by
  intro hu h
  split at h
  ·rename_i hs
   obtain ⟨cs,hl,hat,hK⟩:=exLs_ex h
   refine ⟨_,hK,fun w hw=>?_⟩
   subst hw
   unfold loadVar
   simp only [bind]
   rw [run_bind,hu w]
   simp only [if_true]
   rw [run_bind,sizeOf_run (hl ▸ hs) w]
   simp only
   rw [run_bind]
   unfold loadCells
   rw [loadCells_run cs 0 #[] hat]
   simp [pure,Sem.run]
  ·exact h.elim
 split at h
 ·rename_i fs hu
  exact agg (fun w=>by simp [isAgg,underlying,program,bind,Sem.bind,pure,Sem.run,hu]) h
 ·rename_i l e hu
  exact agg (fun w=>by simp [isAgg,underlying,program,bind,Sem.bind,pure,Sem.run,hu]) h
 ·rename_i d hn1 hn2 hu
  obtain ⟨v,hv,hK⟩:=exS_ex h
  refine ⟨v,hK,fun w hw=>?_⟩
  subst hw
  have hv':w.cell? a=some v:=hv
  unfold loadVar
  simp only [bind]
  rw [run_bind]
  have:(isAgg t).run P w = .ok false w:=by
   simp only [isAgg,underlying,program,bind,Sem.bind,pure,Sem.run,hu]
   try (cases d <;> first | rfl | (exact absurd hu (hn1 _)) | (exact absurd hu (hn2 _ _)))
  rw [this]
  simp only [Bool.false_eq_true,if_false,load,Sem.run,hv']
 ·exact h.elim
theorem storeCells_run {P:Program}{a:Addr}:∀ (cs:List Value) (i:Nat) {H:Hp}{K:Hp→Prop},StL a i cs H K→∀ w:World,w.heap=H →
  ∃ w',(storeCells a cs i).run P w = .ok () w'∧Lk w w'∧K w'.heap
 | [],i,H,K,h,w,hw=>by subst hw;exact ⟨w,rfl,Lk.refl w,h⟩
 | c::cs,i,H,K,h,w,hw=>by
  subst hw
  obtain ⟨h1,⟨u,h2⟩,h3,h⟩:=h
  have e2:w.cell? (a.add i)=some u:=h2
  have e3:w.frozen? (a.add i)=false:=h3
  obtain ⟨w',hr,hl,hK⟩:=storeCells_run (P:=P) cs (i+1) h (w.setCell (a.add i) c) rfl
  refine ⟨w',?_,Lk.trans ⟨rfl,rfl,rfl⟩ hl,hK⟩
  rw [← hr]
  cases c <;> first
   | (simp [Value.oneCell] at h1;done)
   | simp [storeCells,store,bind,Sem.bind,Sem.run,e2,e3,pure]
theorem stT_run {P:Program}{t:TypeId}{a:Addr}{v:Value}{H:Hp}{K:Hp→Prop}(h:stT P t a v H K) :
  ∀ w:World,w.heap=H→∃ w',(storeVar t a v).run P w = .ok () w'∧Lk w w'∧K w'.heap:=by
 intro w hw
 have fin:∀ (n:Nat) (hs:szOk P t n=true) (hn:v.cells.size=n),StL a 0 v.cells.toList H K→∃ w',(storeVar t a v).run P w = .ok () w'∧Lk w w'∧K w'.heap:=by
  intro n hs hn hst
  obtain ⟨w',hr,hl,hK⟩:=storeCells_run (P:=P) v.cells.toList 0 hst w hw
  refine ⟨w',?_,hl,hK⟩
  unfold storeVar
  simp only [bind]
  rw [run_bind,sizeOf_run hs w]
  simp only [hn,ne_eq,not_true_eq_false,if_false]
  exact hr
 have agg:stAgg P t a v H K→∃ w',(storeVar t a v).run P w = .ok () w'∧Lk w w'∧K w'.heap:=by
  clear h
  intro h
  cases v with
  | agg cs=>
   simp only [stAgg] at h
   by_cases hs:szOk P t cs.size=true
   ·rw [if_pos hs] at h;exact fin cs.size hs rfl h
   ·rw [if_neg hs] at h;exact h.elim
  | _=>exact h.elim
 unfold stT at h
 split at h
 ·exact agg h
 ·exact agg h
 ·split at h
  ·rename_i hs
   have h1:v.oneCell=true:=h.1
   have hc:v.cells=#[v]:=by cases v <;> first | rfl | (simp [Value.oneCell] at h1;done)
   exact fin 1 hs (by rw [hc];rfl) (by rw [hc];exact h)
  ·exact h.elim
 ·exact h.elim
end Go.V
end
section
namespace Go.V
structure Env where
 t:List (Bool × Value)
 d:List Deferred
def Env.act (E:Env):Act:={ tmps:=(E.t.map (·.2)).toArray,defers:=E.d }
def getK:List (Bool × Value)→Nat→(Bool × Value→Prop)→Prop
 | [],_,k=>k (false,undef)
 | x::_,0,k=>k x
 | _::xs,n+1,k=>getK xs n k
def setK {α : Type}:List α→Nat→α→(List α→Prop)→Prop
 | [],_,_,k=>k []
 | _::xs,0,v,k=>k (v::xs)
 | x::xs,n+1,v,k=>setK xs n v (fun ys=>k (x::ys))
theorem getK_eq:∀ (l:List (Bool × Value)) (i:Nat) (k:Bool × Value→Prop),getK l i k=k (l.getD i (false,undef))
 | [],i,k=>by simp [getK]
 | x::xs,0,k=>rfl
 | x::xs,n+1,k=>by simp [getK,getK_eq xs n k]
theorem setK_eq {α : Type}:∀ (l:List α) (i:Nat) (v : α) (k:List α→Prop),setK l i v k=k (l.set i v)
 | [],i,v,k=>by simp [setK]
 | x::xs,0,v,k=>rfl
 | x::xs,n+1,v,k=>by simp [setK,setK_eq xs n v]
theorem Env.eval_tmp (E:Env) (t:Nat):E.act.eval (.tmp t)=(E.t.getD t (false,undef)).2:=by
 simp only [Env.act,Act.eval]
 simp [Array.getD_eq_getD_getElem?,List.getD_eq_getElem?_getD]
 cases E.t[t]? <;> rfl
def putE (E:Env) (dst:Option Tmp) (v:Bool × Value) (k:Env→Prop):Prop:=match dst with
 | some d=>setK E.t d v fun t'=>k ⟨t',E.d⟩
 | none=>k E
theorem putE_act {E:Env}{dst:Option Tmp}{v:Bool × Value}{k:Env→Prop}(h:putE E dst v k):∃ E',E'.act=E.act.put dst v.2∧E'.d=E.d∧k E':=by
 cases dst with
 | none=>exact ⟨E,rfl,rfl,h⟩
 | some d=>
  simp only [putE,setK_eq] at h
  refine ⟨⟨E.t.set d v,E.d⟩,?_,rfl,h⟩
  simp only [Env.act,Act.put]
  congr 1
  simp [List.map_set]
def opK (E:Env):Operand→(Bool × Value→Prop)→Prop
 | .tmp t,k=>getK E.t t k
 | .const v,k=>k (true,v)
 | .global g,k=>k (true,.pointer (some ⟨g,0,none⟩))
 | .func f,k=>k (true,.func (.func f) #[] #[])
theorem opK_sound {E:Env}{x:Operand}{k:Bool × Value→Prop}(h:opK E x k):∃ f,k (f,E.act.eval x):=by
 cases x with
 | tmp t=>simp only [opK,getK_eq] at h;rw [Env.eval_tmp];exact ⟨(E.t.getD t (false,undef)).1,h⟩
 | const v=>exact ⟨_,h⟩
 | global g=>exact ⟨_,h⟩
 | func f=>exact ⟨_,h⟩
def argK (E:Env):List Operand→(List Value→Prop)→Prop
 | [],k=>k []
 | x::xs,k=>opK E x fun v=>argK E xs fun vs=>k (v.2::vs)
theorem argK_sound {E:Env}:∀ {xs:List Operand}{k:List Value→Prop},argK E xs k→k (xs.map E.act.eval)
 | [],k,h=>h
 | x::xs,k,h=>by
  obtain ⟨f,h⟩:=opK_sound (k:=fun v=>argK E xs fun vs=>k (v.2::vs)) h
  exact argK_sound (k:=fun vs=>k (E.act.eval x::vs)) h
def brK (c:Bool × Value) (A B:Prop):Prop:=match c with
 | (true,.bool true)=>A
 | (true,.bool false)=>B
 | (_,.bool b)=>(b=true→A)∧(b=false→B)
 | _=>False
theorem brK_sound {c:Bool × Value}{A B:Prop}(h:brK c A B):∃ b,c.2 = .bool b∧(b=true→A)∧(b=false→B):=by
 obtain ⟨f,v⟩:=c
 cases v with
 | bool b=>cases f <;> cases b <;> exact ⟨_,rfl,by simpa [brK] using h⟩
 | _=>cases f <;> exact h.elim
def nilck (p:Option Addr) (K:Addr→Prop):Prop:=match p with | some ad=>K ad | none=>False
def IxA (a:Option Addr) (n:Nat) (i:Int) (sz:Nat) (K:Addr→Prop):Prop:=∃ ad,a=some ad∧(0≤i∧i < (n:Int))∧K (ad.add (i.toNat*sz))
def bt (s:ByteArray) (i:Int):Int:=((s.data.toList.getD i.toNat 0).toNat:Int)
def IxS (s:ByteArray) (i:Int) (K:Int→Prop):Prop:=(0≤i∧i < (s.size:Int))∧K (bt s i)
def SlS (s:ByteArray) (lo hi:Int) (K:ByteArray→Prop):Prop:=(0≤lo∧lo≤hi∧hi≤(s.size:Int))∧K (s.extract lo.toNat hi.toNat)
def cut (a:Option Addr) (c:Nat) (lo hi:Nat) (sz:Nat):Sl:=⟨if c=lo then a else a.map (·.add (lo*sz)),hi - lo,c - lo⟩
def SlX (a:Option Addr) (c:Nat) (lo hi:Int) (sz:Nat) (K:Sl→Prop):Prop:=(0≤lo∧lo≤hi∧hi≤(c:Int))∧K (cut a c lo.toNat hi.toNat sz)
def ixA (P:Program) (t:TypeId) (v i:Value) (K:Addr→Prop):Prop:=match P.underlying t,v,i with
 | some (.slice e),.slice a n _,.int _ j=>(match P.info? e with | some inf=>IxA a n j inf.size K | none=>False)
 | some (.array len e),.pointer (some ad),.int _ j=>(match P.info? e with | some inf=>(0≤j∧j < (len:Int))∧K (ad.add (j.toNat*inf.size)) | none=>False)
 | _,_,_=>False
theorem run_sizeOf {P:Program}{e:TypeId}{inf:TypeInfo}(h:P.info? e=some inf) (w:World):(sizeOf e).run P w = .ok inf.size w:=by
 simp [sizeOf,typeInfo,program,bind,Sem.bind,pure,Sem.run,h]
theorem run_underlying {P:Program}{t:TypeId}{d:TypeDesc}(h:P.underlying t=some d) (w:World):(underlying t).run P w = .ok d w:=by
 simp [underlying,program,bind,Sem.bind,pure,Sem.run,h]
theorem ixA_sound {P:Program}{t:TypeId}{v i:Value}{K:Addr→Prop}(h:ixA P t v i K):∃ ad,K ad∧∀ w,(Instr.indexAt t v i).run P w = .ok (.pointer (some ad)) w:=by
 unfold ixA at h
 split at h
 ·rename_i e a n c k j hu
  split at h
  ·rename_i inf hi
   obtain ⟨ad,rfl,hb,hK⟩:=h
   refine ⟨_,hK,fun w=>?_⟩
   simp only [Instr.indexAt,asIntOf,bind,Sem.bind,pure]
   rw [run_bind,run_underlying hu w]
   simp only [Sem.bind]
   rw [run_bind,run_underlying hu w]
   simp only [hb,and_self,if_true]
   rw [run_bind,run_sizeOf hi w]
   rfl
  ·exact h.elim
 ·rename_i len e ad k j hu
  split at h
  ·rename_i inf hi
   obtain ⟨hb,hK⟩:=h
   refine ⟨_,hK,fun w=>?_⟩
   simp only [Instr.indexAt,asIntOf,bind,Sem.bind,pure]
   rw [run_bind,run_underlying hu w]
   simp only [Sem.bind,Instr.sureAddr,pure]
   rw [run_bind,run_underlying hu w]
   simp only [hb,and_self,if_true]
   rw [run_bind,run_sizeOf hi w]
   rfl
  ·exact h.elim
 ·exact h.elim
def ixV (P:Program) (t:TypeId) (v i:Value) (K:Value→Prop) (raw:Prop):Prop:=match P.underlying t,v,i with
 | some .string,.string s,.int _ j=>IxS s j fun n=>K (.int .u8 n)
 | _,_,_=>raw
theorem ixS_run {P:Program}{t:TypeId}{s:ByteArray}{k:IntKind}{j:Int}(hu:P.underlying t=some .string) (hb:0≤j∧j < (s.size:Int)) (w:World) :
  (Instr.index t (.string s) (.int k j)).run P w = .ok (.int .u8 (bt s j)) w:=by
 simp only [Instr.index,asIntOf,bind,Sem.bind,pure]
 rw [run_bind,run_underlying hu w]
 simp only [hb.1,if_true]
 have hlt:j.toNat < s.size:=by omega
 have e1:s[j.toNat]? = some s[j.toNat]:=by simp [hlt]
 have e2:bt s j=(s[j.toNat].toNat:Int):=by
  unfold bt
  have hlt':j.toNat < s.data.toList.length:=by simpa using hlt
  have h3:s.data.toList.getD j.toNat 0=s[j.toNat]:=by
   rw [List.getD_eq_getElem?_getD,List.getElem?_eq_getElem hlt']
   rfl
  rw [h3]
 rw [e1,e2]
 rfl
def intO (o:Option Value) (d:Int) (K:Int→Prop):Prop:=match o with
 | none=>K d
 | some (.int _ j)=>K j
 | _=>False
def slK (P:Program) (t:TypeId) (v:Value) (lo hi:Option Value) (K:Value→Prop):Prop:=match P.underlying t,v with
 | some .string,.string s=>intO lo 0 fun l=>intO hi (s.size:Int) fun h=>SlS s l h fun r=>K (.string r)
 | some (.slice e),.slice a n c=>(match P.info? e with
   | some inf=>intO lo 0 fun l=>intO hi (n:Int) fun h=>n≤c∧SlX a c l h inf.size fun s=>K (.slice s.a s.n s.c)
   | none=>False)
 | _,_=>False
theorem intO_sound {o:Option Value}{d:Int}{K:Int→Prop}(h:intO o d K):(o=none∧K d)∨∃ k j,o=some (.int k j)∧K j:=by
 unfold intO at h
 split at h
 ·exact .inl ⟨rfl,h⟩
 ·exact .inr ⟨_,_,rfl,h⟩
 ·exact h.elim
theorem sliceBound_run {P:Program}{k:IntKind}{j:Int}{y:Nat}{code:BoundsCode}(h0:0≤j) (h1:j≤(y:Int)) (w:World) :
  (Instr.sliceBound (.int k j) y code).run P w = .ok j.toNat w:=by
 simp [Instr.sliceBound,asIntOf,bind,Sem.bind,pure,h0,h1,Sem.run]
theorem bounds_run {P:Program}{isSl:Bool}{n c:Nat}{lo hi:Option Value}{l h:Int}(hlo:(lo=none∧l=0)∨∃ k,lo=some (.int k l)) (hhi:(hi=none∧h=(n:Int))∨∃ k,hi=some (.int k h))
  (h0:0≤l) (h1:l≤h) (h2:h≤(c:Int)) (w:World):(Instr.sliceBounds isSl n c lo hi none).run P w = .ok (l.toNat,h.toNat,c) w:=by
 unfold Instr.sliceBounds
 simp only [bind,pure,Sem.bind]
 rcases hhi with ⟨rfl,rfl⟩ | ⟨k,rfl⟩
 ·rcases hlo with ⟨rfl,rfl⟩ | ⟨k',rfl⟩
  ·simp [Sem.bind,Sem.run]
  ·simp only [Sem.bind]
   rw [run_bind,sliceBound_run h0 (by omega) w]
   simp [Sem.run]
 ·simp only
  rw [run_bind,sliceBound_run (by omega) h2 w]
  rcases hlo with ⟨rfl,rfl⟩ | ⟨k',rfl⟩
  ·simp [Sem.bind,Sem.run]
  ·simp only
   rw [run_bind,sliceBound_run h0 (by omega) w]
   simp [Sem.run]
theorem slK_sound {P:Program}{t:TypeId}{v:Value}{lo hi:Option Value}{K:Value→Prop}(h:slK P t v lo hi K) :
  ∃ r,K r∧∀ w,(Instr.sliceAt t v lo hi none).run P w = .ok r w:=by
 unfold slK at h
 have conv:∀ {o:Option Value}{d:Int}{K:Int→Prop},intO o d K→∃ j,K j∧((o=none∧j=d)∨∃ k,o=some (.int k j)):=by
  intro o d K h
  rcases intO_sound h with ⟨rfl,h⟩ | ⟨k,j,rfl,h⟩
  ·exact ⟨d,h,.inl ⟨rfl,rfl⟩⟩
  ·exact ⟨j,h,.inr ⟨k,rfl⟩⟩
 split at h
 ·rename_i s hu
  obtain ⟨l,h,hlo⟩:=conv h
  obtain ⟨u,h,hhi⟩:=conv h
  obtain ⟨⟨h0,h1,h2⟩,hK⟩:=h
  refine ⟨_,hK,fun w=>?_⟩
  simp only [Instr.sliceAt,bind]
  rw [run_bind,run_underlying hu w]
  simp only [Instr.slice,bind]
  rw [run_bind,run_underlying hu w]
  simp only [Option.isSome_none,Bool.false_eq_true,if_false,pure,Sem.bind]
  rw [run_bind,bounds_run hlo hhi h0 h1 h2 w]
  rfl
 ·rename_i e a n c hu
  split at h
  ·rename_i inf hi'
   obtain ⟨l,h,hlo⟩:=conv h
   obtain ⟨u,h,hhi⟩:=conv h
   obtain ⟨hnc,⟨h0,h1,h2⟩,hK⟩:=h
   refine ⟨_,hK,fun w=>?_⟩
   simp only [Instr.sliceAt,bind]
   rw [run_bind,run_underlying hu w]
   simp only [Instr.slice,bind]
   rw [run_bind,run_underlying hu w]
   simp only
   rw [run_bind,bounds_run hlo hhi h0 h1 h2 w]
   simp only
   rw [run_bind,run_sizeOf hi' w]
   rfl
  ·exact h.elim
 ·exact h.elim
def SlX3 (a:Option Addr) (c:Nat) (lo hi mx:Int) (sz:Nat) (K:Sl→Prop):Prop:=(0≤lo∧lo≤hi∧hi≤mx∧mx≤(c:Int))∧K (cut a mx.toNat lo.toNat hi.toNat sz)
def slK3 (P:Program) (t:TypeId) (v:Value) (lo hi:Option Value) (m:Value) (K:Value→Prop):Prop:=match P.underlying t,v,hi,m with
 | some (.slice e),.slice a n c,some (.int _ h),.int _ mx=>(match P.info? e with
   | some inf=>intO lo 0 fun l=>SlX3 a c l h mx inf.size fun s=>K (.slice s.a s.n s.c)
   | none=>False)
 | _,_,_,_=>False
theorem slK3_sound {P:Program}{t:TypeId}{v:Value}{lo hi:Option Value}{m:Value}{K:Value→Prop}(h:slK3 P t v lo hi m K) :
  ∃ r,K r∧∀ w,(Instr.sliceAt t v lo hi (some m)).run P w = .ok r w:=by
 unfold slK3 at h
 split at h
 ·rename_i e a n c k hh k' mx hu
  split at h
  ·rename_i inf hi'
   have key:∀ (l:Int),(lo=none∧l=0∨∃ k,lo=some (.int k l))→SlX3 a c l hh mx inf.size (fun s=>K (.slice s.a s.n s.c))→∃ r,K r∧∀ w,(Instr.sliceAt t (.slice a n c) lo (some (.int k hh)) (some (.int k' mx))).run P w = .ok r w:=by
    rintro l hlo ⟨⟨h0,h1,h2,h3⟩,hK⟩
    refine ⟨_,hK,fun w=>?_⟩
    have hb:(Instr.sliceBounds true n c lo (some (.int k hh)) (some (.int k' mx))).run P w = .ok (l.toNat,hh.toNat,mx.toNat) w:=by
     unfold Instr.sliceBounds
     simp only [bind,pure,Sem.bind]
     rw [run_bind,sliceBound_run (by omega) h3 w]
     simp only
     rw [run_bind,sliceBound_run (by omega) (by omega) w]
     rcases hlo with ⟨rfl,rfl⟩ | ⟨k2,rfl⟩
     ·simp [Sem.bind,Sem.run]
     ·simp only
      rw [run_bind,sliceBound_run h0 (by omega) w]
      simp [Sem.run]
    simp only [Instr.sliceAt,bind]
    rw [run_bind,run_underlying hu w]
    simp only [Instr.slice,bind]
    rw [run_bind,run_underlying hu w]
    simp only
    rw [run_bind,hb]
    simp only
    rw [run_bind,run_sizeOf hi' w]
    rfl
   rcases intO_sound h with ⟨hn,h⟩ | ⟨k2,j,hj,h⟩
   ·exact key 0 (.inl ⟨hn,rfl⟩) h
   ·exact key j (.inr ⟨k2,hj⟩) h
  ·exact h.elim
 ·exact h.elim
def PEq (p:Option Addr) (b:Addr) (K:Bool→Prop):Prop:=match p with
 | none=>K false
 | some a=>a.block=b.block∧K (a == b)
def eqSc (d:TypeDesc) (v u:Value):Option Bool:=match d,v,u with
 | .bool,.bool a,.bool b=>some (a == b)
 | .int _,.int k a,.int k' b=>if k=k' then some (a == b) else none
 | .string,.string a,.string b=>some (a == b)
 | _,_,_=>none
def eqFs (P:Program) (xs ys:List Value):List Field→Option Bool
 | []=>some true
 | f::fs=>if f.name == "_" then none else match P.underlying f.type with
  | none=>none
  | some d=>match xs[f.offset]?,ys[f.offset]? with
   | some v,some u=>match eqSc d v u with
    | none=>none
    | some b=>match eqFs P xs ys fs with
     | none=>none
     | some r=>some (b && r)
   | _,_=>none
def eqAg (P:Program) (t:TypeId) (xs ys:List Value):Option Bool:=
 if P.stoodInHeld t || P.eqGuardType P.depth t then none else match P.underlying t with
  | some (.struct fs)=>eqFs P xs ys fs.toList
  | _=>none
theorem eqSc_run {P:Program}{t:TypeId}{d:TypeDesc}{v u:Value}{b:Bool}(hd:P.underlying t=some d) (h:eqSc d v u=some b) (n:Nat) (w:World):(Op.equalIn (n+1) t v u).run P w = .ok b w:=by
 simp only [Op.equalIn,bind]
 rw [run_bind,run_underlying hd w]
 unfold eqSc at h
 split at h
 ·simp only [Option.some.injEq] at h;subst h;rfl
 ·split at h
  ·rename_i hk
   simp only [Option.some.injEq] at h;subst h
   simp only [hk,if_true]
   rfl
  ·cases h
 ·simp only [Option.some.injEq] at h;subst h;rfl
 ·cases h
theorem part_sc {P:Program}{t:TypeId}{d:TypeDesc}{v u:Value}{b:Bool}{xs:List Value}{o:Nat}(hd:P.underlying t=some d) (h:eqSc d v u=some b) (hv:xs[o]? = some v) (w:World):(part t xs.toArray o).run P w = .ok v w:=by
 unfold part isAgg
 simp only [bind]
 rw [run_bind,run_bind,run_underlying hd w]
 unfold eqSc at h
 split at h <;> first | (cases h;done) | skip
 all_goals
  simp only [pure,Sem.run,Bool.false_eq_true,if_false,List.getElem?_toArray,hv]
theorem part_sc2 {P:Program}{t:TypeId}{d:TypeDesc}{v u:Value}{b:Bool}{xs:List Value}{o:Nat}(hd:P.underlying t=some d) (h:eqSc d v u=some b) (hv:xs[o]? = some u) (w:World):(part t xs.toArray o).run P w = .ok u w:=by
 unfold part isAgg
 simp only [bind]
 rw [run_bind,run_bind,run_underlying hd w]
 unfold eqSc at h
 split at h <;> first | (cases h;done) | skip
 all_goals
  simp only [pure,Sem.run,Bool.false_eq_true,if_false,List.getElem?_toArray,hv]
theorem eqFs_run {P:Program}{xs ys:List Value}(n:Nat):∀ (fs:List Field) (r:Bool),eqFs P xs ys fs=some r→∀ w:World,
  (do
   for f in fs do
    if f.name ≠ "_" then
     if !(← Op.equalIn (n+1) f.type (← part f.type xs.toArray f.offset) (← part f.type ys.toArray f.offset)) then return false
   pure true:Sem Bool).run P w = .ok r w:=by
 intro fs
 induction fs with
 | nil=>intro r h w;simp only [eqFs,Option.some.injEq] at h;subst h;rfl
 | cons f fs ih=>
  intro r h w
  unfold eqFs at h
  split at h
  ·cases h
  ·rename_i hname
   split at h
   ·cases h
   ·rename_i d hd
    split at h
    ·rename_i v u hv hu
     split at h
     ·cases h
     ·rename_i b hb
      split at h
      ·cases h
      ·rename_i r' hr'
       simp only [Option.some.injEq] at h
       subst h
       have ih':=ih r' hr' w
       have hn:f.name ≠ "_" := by simpa using hname
       simp only [List.forIn_cons,bind] at ih' ⊢
       rw [run_bind,run_bind,if_pos hn,run_bind,part_sc hd hb hv w]
       simp only
       rw [run_bind,part_sc2 hd hb hu w]
       simp only
       rw [run_bind,eqSc_run hd hb n w]
       simp only
       cases b with
       | false=>rfl
       | true=>
        simp only [Bool.not_true,Bool.false_eq_true,if_false,pure,Sem.run,Bool.true_and]
        rw [run_bind] at ih'
        exact ih'
    ·cases h
theorem eqAg_run {P:Program}{t:TypeId}{xs ys:List Value}{r:Bool}(h:eqAg P t xs ys=some r) (w:World) :
  (Op.equal t (.agg xs.toArray) (.agg ys.toArray)).run P w = .ok r w∧P.eqGuardType P.depth t=false:=by
 unfold eqAg at h
 split at h
 ·cases h
 ·rename_i hg
  simp only [Bool.or_eq_true,not_or,Bool.not_eq_true] at hg
  refine ⟨?_,hg.2⟩
  split at h
  ·rename_i fs hfs
   have key:(Op.equalIn (9998+1+1) t (.agg xs.toArray) (.agg ys.toArray)).run P w = .ok r w:=by
    rw [Op.equalIn]
    simp only [bind]
    rw [run_bind,run_underlying hfs w]
    simp only [program]
    rw [run_bind]
    simp only [Sem.run,hg.1,Bool.false_eq_true,if_false,pure]
    have:=eqFs_run 9998 fs.toList r h w
    simp only [bind] at this
    rw [← Array.forIn_toList]
    exact this
   exact key
  ·cases h
def NilI (v:Value) (K:Bool→Prop):Prop:=match v with
 | .nilIface=>K true
 | .iface _ _=>K false
 | _=>False
def binK (P:Program) (op:BinOp) (t:TypeId) (yc:Bool) (v u:Value) (K:Value→Prop) (raw:Prop):Prop:=match op,v,u with
 | .shl,.int k a,.int _ b=>if yc then raw else 0≤b∧K (.int k (k.wrap (a*2 ^ min b.toNat k.bits)))
 | .shr,.int k a,.int _ b=>if yc then raw else 0≤b∧K (.int k (a.fdiv (2 ^ min b.toNat k.bits)))
 | .quo,.int k a,.int k' b=>if yc then raw else if k=k' then b≠0∧K (.int k (k.wrap (a.tdiv b))) else False
 | .rem,.int k a,.int k' b=>if yc then raw else if k=k' then b≠0∧K (.int k (a.tmod b)) else False
 | .add,.string a,.string b=>a.size+b.size≤4611686018427387904∧K (.string (a++b))
 | .eql,.pointer p,.pointer none=>(match P.underlying t with | some (.pointer _)=>K (.bool p.isNone) | _=>False)
 | .neq,.pointer p,.pointer none=>(match P.underlying t with | some (.pointer _)=>K (.bool (!p.isNone)) | _=>False)
 | .eql,.pointer p,.pointer (some b)=>(match P.underlying t with | some (.pointer e)=>(match P.info? e with | some inf=>if inf.size=0 then False else PEq p b fun r=>K (.bool r) | none=>False) | _=>False)
 | .neq,.pointer p,.pointer (some b)=>(match P.underlying t with | some (.pointer e)=>(match P.info? e with | some inf=>if inf.size=0 then False else PEq p b fun r=>K (.bool (!r)) | none=>False) | _=>False)
 | .eql,.slice a _ _,.slice none _ _=>(match P.underlying t with | some (.slice _)=>K (.bool a.isNone) | _=>False)
 | .neq,.slice a _ _,.slice none _ _=>(match P.underlying t with | some (.slice _)=>K (.bool (!a.isNone)) | _=>False)
 | .eql,.map m,.map none=>(match P.underlying t with | some (.map _ _)=>K (.bool m.isNone) | _=>False)
 | .neq,.map m,.map none=>(match P.underlying t with | some (.map _ _)=>K (.bool (!m.isNone)) | _=>False)
 | .eql,.agg xs,.agg ys=>(match eqAg P t xs.toList ys.toList with | some r=>K (.bool r) | none=>False)
 | .neq,.agg xs,.agg ys=>(match eqAg P t xs.toList ys.toList with | some r=>K (.bool (!r)) | none=>False)
 | _,_,_=>raw
def binC (P:Program) (op:BinOp) (t:TypeId) (yc:Bool) (v u:Value) (K:Value→Prop) (raw:Prop):Prop:=match u with
 | .nilIface=>if yc then (match P.underlying t with
   | some (.interface _)=>(match op with
    | .eql=>NilI v fun b=>K (.bool b)
    | .neq=>NilI v fun b=>K (.bool (!b))
    | _=>raw)
   | _=>raw) else raw
 | _=>binK P op t yc v u K raw
def pureK (P:Program) (o:Oper) (E:Env) (K:Bool × Value→Prop):Prop:=match pureV P (execOp E.act.eval o) with
 | some (.value v)=>K (false,v)
 | _=>False
theorem pureK_sound {P:Program}{o:Oper}{E:Env}{K:Bool × Value→Prop}(h:pureK P o E K) :
  ∃ f v,K (f,v)∧∀ w,(execOp E.act.eval o).run P w = .ok (.value v) w:=by
 unfold pureK at h
 split at h
 ·rename_i v hv;exact ⟨_,v,h,fun w=>pureV_run _ hv w⟩
 ·exact h.elim
def isConst (x:Operand):Bool:=match x with | .const _=>true | _=>false
def copP (P:Program) (o:Oper) (E:Env) (K:Bool × Value→Prop):Prop:=match o.op with
 | .move x | .assign x=>opK E x K
 | .pick c a b=>opK E c fun c=>brK c (opK E a K) (opK E b K)
 | .nilCheck x=>opK E x fun v=>(match v.2 with
   | .pointer p=>nilck p fun ad=>K (false,.pointer (some ad))
   | _=>pureK P o E K)
 | .indexAddr t x i=>opK E x fun v=>opK E i fun u=>ixA P t v.2 u.2 fun ad=>K (false,.pointer (some ad))
 | .index t x i=>opK E x fun v=>opK E i fun u=>ixV P t v.2 u.2 (fun r=>K (false,r)) (pureK P o E K)
 | .slice t x lo hi none=>opK E x fun v=>slK P t v.2 (lo.map E.act.eval) (hi.map E.act.eval) fun r=>K (false,r)
 | .slice t x lo hi (some m)=>opK E x fun v=>opK E m fun u=>slK3 P t v.2 (lo.map E.act.eval) (hi.map E.act.eval) u.2 fun r=>K (false,r)
 | .binOp op t x y _=>opK E x fun v=>opK E y fun u=>binC P op t (isConst y) v.2 u.2 (fun r=>K (false,r)) (pureK P o E K)
 | _=>pureK P o E K
theorem equal_ptr {P:Program}{t e:TypeId}(h:P.underlying t=some (.pointer e)) (p:Option Addr) (w:World):(Op.equal t (.pointer p) (.pointer none)).run P w = .ok p.isNone w:=by
 have:∀ d,(Op.equalIn (d+1) t (.pointer p) (.pointer none)).run P w = .ok p.isNone w:=by
  intro d
  simp only [Op.equalIn,bind]
  rw [run_bind,run_underlying h w]
  cases p <;> rfl
 exact this 9999
theorem equal_pp {P:Program}{t e:TypeId}{inf:TypeInfo}(h:P.underlying t=some (.pointer e)) (hi:P.info? e=some inf) (hs:inf.size≠0) {p:Option Addr}{b:Addr}{K:Bool→Prop}(hp:PEq p b K) :
  ∃ r,K r∧∀ w,(Op.equal t (.pointer p) (.pointer (some b))).run P w = .ok r w:=by
 have eqd:∀ d w,(Op.equalIn (d+1) t (.pointer p) (.pointer (some b))).run P w=(match p with
   | none=>pure false
   | some a=>do if (← sizeOf e)≠0 then sameAddr a b else if a == b then pure true else pure ((← choose .zeroSizeEq)=1):Sem Bool).run P w:=by
  intro d w
  simp only [Op.equalIn,bind]
  rw [run_bind,run_underlying h w]
  cases p <;> rfl
 cases p with
 | none=>exact ⟨false,hp,fun w=>eqd 9999 w⟩
 | some a=>
  obtain ⟨hb,hK⟩:=hp
  refine ⟨_,hK,fun w=>?_⟩
  refine (eqd 9999 w).trans ?_
  simp only [bind]
  rw [run_bind,run_sizeOf hi w]
  simp only [hs,ne_eq,not_false_eq_true,if_true]
  have:(a.block == b.block)=true:=by simpa using hb
  simp only [sameAddr,this,if_true,pure,Sem.run]
theorem equal_sl {P:Program}{t e:TypeId}(h:P.underlying t=some (.slice e)) (a:Option Addr) (n c n' c':Nat) (w:World):(Op.equal t (.slice a n c) (.slice none n' c')).run P w = .ok a.isNone w:=by
 have:∀ d,(Op.equalIn (d+1) t (.slice a n c) (.slice none n' c')).run P w = .ok a.isNone w:=by
  intro d
  simp only [Op.equalIn,bind]
  rw [run_bind,run_underlying h w]
  cases a <;> rfl
 exact this 9999
theorem equal_map {P:Program}{t k e:TypeId}(h:P.underlying t=some (.map k e)) (m:Option Nat) (w:World):(Op.equal t (.map m) (.map none)).run P w = .ok m.isNone w:=by
 have:∀ d,(Op.equalIn (d+1) t (.map m) (.map none)).run P w = .ok m.isNone w:=by
  intro d
  simp only [Op.equalIn,bind]
  rw [run_bind,run_underlying h w]
  cases m <;> rfl
 exact this 9999
theorem eqGuard_scalar {P:Program}{op:BinOp}{t:TypeId}{x y:Operand}{a b:Value}(h:∀ cs,a ≠ .agg cs) (h':a ≠ .nilIface) (w:World):(eqGuard op t x y a b).run P w = .ok () w:=by
 unfold eqGuard
 cases op <;> (try (simp [bind,Sem.bind,pure,Sem.run];done))
 all_goals
  simp only [Bool.not_true,Bool.false_eq_true,if_false,bind,pure,Sem.bind]
  cases a <;> first
   | (exact absurd rfl (h _))
   | (exact absurd rfl h')
   | rfl
theorem run_bin {P:Program}{o:Oper}{E:Env}{op:BinOp}{t t':TypeId}{x y:Operand}(ho:o.op = .binOp op t x y t') {r:Value}
  (h1:∀ cs,E.act.eval x ≠ .agg cs) (h2:E.act.eval x ≠ .nilIface) (w:World) (hr:(binOp op t (E.act.eval x) (E.act.eval y)).run P w = .ok r w) :
  (execOp E.act.eval o).run P w = .ok (.value r) w:=by
 unfold execOp
 rw [ho]
 simp only [bind]
 rw [run_bind,run_bind,eqGuard_scalar h1 h2 w]
 simp only [hr]
 rfl
theorem run_bin_agg {P:Program}{o:Oper}{E:Env}{op:BinOp}{t t':TypeId}{x y:Operand}(ho:o.op = .binOp op t x y t') {r:Value}{xs ys:Array Value}
  (h1:E.act.eval x = .agg xs) (h2:E.act.eval y = .agg ys) (hop:op = .eql∨op = .neq) (hg:P.eqGuardType P.depth t=false) (w:World) (hr:(binOp op t (E.act.eval x) (E.act.eval y)).run P w = .ok r w) :
  (execOp E.act.eval o).run P w = .ok (.value r) w:=by
 have hgd:(eqGuard op t x y (E.act.eval x) (E.act.eval y)).run P w = .ok () w:=by
  rw [h1,h2]
  unfold eqGuard
  rcases hop with rfl | rfl <;>
   (simp only [program,bind,Sem.bind,pure,Sem.run,hg,Bool.not_true,Bool.not_false,Bool.false_eq_true,if_true,if_false]) <;> rfl
 unfold execOp
 rw [ho]
 simp only [bind]
 rw [run_bind,run_bind,hgd]
 simp only [hr]
 rfl
theorem run_bin_nil {P:Program}{o:Oper}{E:Env}{op:BinOp}{t t':TypeId}{x y:Operand}(ho:o.op = .binOp op t x y t') {r:Value}
  (hy:isConst y=true) (h1:∀ cs,E.act.eval x ≠ .agg cs) (w:World) (hr:(binOp op t (E.act.eval x) (E.act.eval y)).run P w = .ok r w) :
  (execOp E.act.eval o).run P w = .ok (.value r) w:=by
 have hgd:(eqGuard op t x y (E.act.eval x) (E.act.eval y)).run P w = .ok () w:=by
  by_cases hn:E.act.eval x = .nilIface
  ·cases y <;> first | (cases hy;done) | skip
   rw [hn]
   unfold eqGuard
   generalize E.act.eval (Operand.const _)=u
   cases op <;> (try (simp [bind,Sem.bind,pure,Sem.run];done))
   all_goals
    cases u <;> simp [bind,Sem.bind,pure,Sem.run]
  ·exact eqGuard_scalar h1 hn w
 unfold execOp
 rw [ho]
 simp only [bind]
 rw [run_bind,run_bind,hgd]
 simp only [hr]
 rfl
theorem binK_sound {P:Program}{o:Oper}{E:Env}{op:BinOp}{t t':TypeId}{x y:Operand}(ho:o.op = .binOp op t x y t') {K:Bool × Value→Prop}
  (h:binK P op t (isConst y) (E.act.eval x) (E.act.eval y) (fun r=>K (false,r)) (pureK P o E K)) :
  ∃ f v,K (f,v)∧∀ w,(execOp E.act.eval o).run P w = .ok (.value v) w:=by
 have done:∀ (r:Value),K (false,r)→(∀ cs,E.act.eval x ≠ .agg cs)→E.act.eval x ≠ .nilIface→(∀ w,(binOp op t (E.act.eval x) (E.act.eval y)).run P w = .ok r w) →
   ∃ f v,K (f,v)∧∀ w,(execOp E.act.eval o).run P w = .ok (.value v) w:=
  fun r hK h1 h2 hr=>⟨false,r,hK,fun w=>run_bin ho h1 h2 w (hr w)⟩
 generalize hv:E.act.eval x=v at *
 generalize hu:E.act.eval y=u at *
 have eqd:∀ (r:Bool),K (false,.bool r)→op = .eql→(∀ cs,v ≠ .agg cs)→v ≠ .nilIface→binOp op t v u=(do pure (.bool (← Op.equal t v u)))→(∀ w,(Op.equal t v u).run P w = .ok r w) →
   ∃ f v,K (f,v)∧∀ w,(execOp E.act.eval o).run P w = .ok (.value v) w:=by
  intro r hK ho h1 h2 hb hr
  refine done _ hK h1 h2 (fun w=>?_)
  rw [hb]
  simp only [bind]
  rw [run_bind,hr w]
  rfl
 have neqd:∀ (r:Bool),K (false,.bool (!r))→op = .neq→(∀ cs,v ≠ .agg cs)→v ≠ .nilIface→binOp op t v u=(do pure (.bool (!(← Op.equal t v u))))→(∀ w,(Op.equal t v u).run P w = .ok r w) →
   ∃ f v,K (f,v)∧∀ w,(execOp E.act.eval o).run P w = .ok (.value v) w:=by
  intro r hK ho h1 h2 hb hr
  refine done _ hK h1 h2 (fun w=>?_)
  rw [hb]
  simp only [bind]
  rw [run_bind,hr w]
  rfl
 unfold binK at h
 split at h
 ·rename_i k a k' b
  split at h
  ·exact pureK_sound h
  ·refine done _ h.2 (by simp) (by simp) (fun w=>?_)
   have:¬ (b < 0):=Int.not_lt.2 h.1
   simp [binOp,Op.shift,this,pure,Sem.run]
 ·rename_i k a k' b
  split at h
  ·exact pureK_sound h
  ·refine done _ h.2 (by simp) (by simp) (fun w=>?_)
   have:¬ (b < 0):=Int.not_lt.2 h.1
   simp [binOp,Op.shift,this,pure,Sem.run]
 ·split at h
  ·exact pureK_sound h
  ·split at h
   ·rename_i hk
    subst hk
    refine done _ h.2 (by simp) (by simp) (fun w=>?_)
    simp [binOp,Op.intDiv,h.1,pure,Sem.run]
   ·exact h.elim
 ·split at h
  ·exact pureK_sound h
  ·split at h
   ·rename_i hk
    subst hk
    refine done _ h.2 (by simp) (by simp) (fun w=>?_)
    simp [binOp,Op.intDiv,h.1,pure,Sem.run]
   ·exact h.elim
 ·rename_i a b
  refine done _ h.2 (by simp) (by simp) (fun w=>?_)
  have hs:=h.1
  have:¬ (((a.size+b.size:Nat):Int) > IntKind.i64.max):=by simp [IntKind.max,IntKind.signed,IntKind.bits];omega
  simp only [binOp,Op.stringOp,this,if_false,pure,Sem.run]
 ·split at h
  ·rename_i d hd;exact eqd _ h rfl (by simp) (by simp) rfl (equal_ptr hd _)
  ·exact h.elim
 ·split at h
  ·rename_i d hd;exact neqd _ h rfl (by simp) (by simp) rfl (equal_ptr hd _)
  ·exact h.elim
 ·split at h
  ·rename_i e hd
   split at h
   ·rename_i inf hi
    split at h
    ·exact h.elim
    ·rename_i hs
     obtain ⟨r,hK,hr⟩:=equal_pp hd hi hs h
     exact eqd _ hK rfl (by simp) (by simp) rfl hr
   ·exact h.elim
  ·exact h.elim
 ·split at h
  ·rename_i e hd
   split at h
   ·rename_i inf hi
    split at h
    ·exact h.elim
    ·rename_i hs
     obtain ⟨r,hK,hr⟩:=equal_pp hd hi hs h
     exact neqd _ hK rfl (by simp) (by simp) rfl hr
   ·exact h.elim
  ·exact h.elim
 ·split at h
  ·rename_i d hd;exact eqd _ h rfl (by simp) (by simp) rfl (equal_sl hd _ _ _ _ _)
  ·exact h.elim
 ·split at h
  ·rename_i d hd;exact neqd _ h rfl (by simp) (by simp) rfl (equal_sl hd _ _ _ _ _)
  ·exact h.elim
 ·split at h
  ·rename_i d d' hd;exact eqd _ h rfl (by simp) (by simp) rfl (equal_map hd _)
  ·exact h.elim
 ·split at h
  ·rename_i d d' hd;exact neqd _ h rfl (by simp) (by simp) rfl (equal_map hd _)
  ·exact h.elim
 ·rename_i xs ys
  split at h
  ·rename_i r hr
   have e:=fun w=>eqAg_run (P:=P) (t:=t) (xs:=xs.toList) (ys:=ys.toList) hr w
   simp only [Array.toArray_toList] at e
   refine ⟨false,_,h,fun w=>run_bin_agg ho hv hu (.inl rfl) (e w).2 w ?_⟩
   rw [hv,hu]
   show (do pure (Value.bool (← Op.equal t (.agg xs) (.agg ys))):Sem Value).run P w=_
   simp only [bind]
   rw [run_bind,(e w).1]
   rfl
  ·exact h.elim
 ·rename_i xs ys
  split at h
  ·rename_i r hr
   have e:=fun w=>eqAg_run (P:=P) (t:=t) (xs:=xs.toList) (ys:=ys.toList) hr w
   simp only [Array.toArray_toList] at e
   refine ⟨false,_,h,fun w=>run_bin_agg ho hv hu (.inr rfl) (e w).2 w ?_⟩
   rw [hv,hu]
   show (do pure (Value.bool (!(← Op.equal t (.agg xs) (.agg ys)))):Sem Value).run P w=_
   simp only [bind]
   rw [run_bind,(e w).1]
   rfl
  ·exact h.elim
 ·exact pureK_sound h
theorem equal_nil {P:Program}{t:TypeId}{ms:Array (String × TypeId)}{v:Value}{K:Bool→Prop}(ht:P.underlying t=some (.interface ms)) (h:NilI v K):∃ r,K r∧(∀ cs,v ≠ .agg cs)∧(∀ w,(Op.equal t v .nilIface).run P w = .ok r w) ∧
  (binOp .eql t v .nilIface=(do pure (.bool (← Op.equal t v .nilIface))))∧(binOp .neq t v .nilIface=(do pure (.bool (!(← Op.equal t v .nilIface))))):=by
 unfold NilI at h
 have eqd:∀ d w r,(match v with | .nilIface=>r=true | .iface _ _=>r=false | _=>False)→(Op.equalIn (d+1) t v .nilIface).run P w = .ok r w:=by
  intro d w r hr
  simp only [Op.equalIn,bind]
  rw [run_bind,run_underlying ht w]
  split at hr
  ·subst hr;rfl
  ·subst hr;rfl
  ·exact hr.elim
 split at h
 ·exact ⟨true,h,by simp,fun w=>eqd 9999 w true rfl,rfl,rfl⟩
 ·exact ⟨false,h,by simp,fun w=>eqd 9999 w false rfl,rfl,rfl⟩
 ·exact h.elim
theorem binC_sound {P:Program}{o:Oper}{E:Env}{op:BinOp}{t t':TypeId}{x y:Operand}(ho:o.op = .binOp op t x y t') {K:Bool × Value→Prop}
  (h:binC P op t (isConst y) (E.act.eval x) (E.act.eval y) (fun r=>K (false,r)) (pureK P o E K)) :
  ∃ f v,K (f,v)∧∀ w,(execOp E.act.eval o).run P w = .ok (.value v) w:=by
 unfold binC at h
 split at h
 ·rename_i hu
  split at h
  ·rename_i hy
   split at h
   ·rename_i ms hms
    split at h
    ·obtain ⟨r,hK,h1,hr,hb,_⟩:=equal_nil hms h
     refine ⟨false,_,hK,fun w=>run_bin_nil ho hy h1 w ?_⟩
     rw [hu,hb]
     simp only [bind]
     rw [run_bind,hr w]
     rfl
    ·obtain ⟨r,hK,h1,hr,_,hb⟩:=equal_nil hms h
     refine ⟨false,_,hK,fun w=>run_bin_nil ho hy h1 w ?_⟩
     rw [hu,hb]
     simp only [bind]
     rw [run_bind,hr w]
     rfl
    ·exact pureK_sound h
   ·exact pureK_sound h
  ·exact pureK_sound h
 ·exact binK_sound ho h
theorem beqBA {a b:ByteArray}:(a == b)=true↔a=b:=by
 cases a with | mk x=>cases b with | mk y=>
 show (x == y)=true↔_
 simp
end Go.V
end
