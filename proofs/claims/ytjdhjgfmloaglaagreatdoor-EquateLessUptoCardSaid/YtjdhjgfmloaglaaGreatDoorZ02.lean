import Derived.Test.YtjdhjgfmloaglaaGreatDoorZ01
set_option linter.unusedVariables false
set_option linter.unusedSimpArgs false
section
namespace Go.V
theorem copP_sound {P:Program}{o:Oper}{E:Env}{K:Bool × Value→Prop}(h:copP P o E K) :
  ∃ f v,K (f,v)∧∀ w,(execOp E.act.eval o).run P w = .ok (.value v) w:=by
 unfold copP at h
 split at h
 ·rename_i x ho
  obtain ⟨f,h⟩:=opK_sound h
  exact ⟨f,_,h,fun w=>by simp [execOp,ho,pure,Sem.run]⟩
 ·rename_i x ho
  obtain ⟨f,h⟩:=opK_sound h
  exact ⟨f,_,h,fun w=>by simp [execOp,ho,pure,Sem.run]⟩
 ·rename_i c a b ho
  obtain ⟨f,h⟩:=opK_sound h
  obtain ⟨t,hc,h1,h2⟩:=brK_sound h
  simp only at hc
  cases t with
  | true=>
   obtain ⟨f,h⟩:=opK_sound (h1 rfl)
   exact ⟨f,_,h,fun w=>by simp [execOp,ho,hc,asBool,bind,Sem.bind,pure,Sem.run]⟩
  | false=>
   obtain ⟨f,h⟩:=opK_sound (h2 rfl)
   exact ⟨f,_,h,fun w=>by simp [execOp,ho,hc,asBool,bind,Sem.bind,pure,Sem.run]⟩
 ·rename_i x ho
  obtain ⟨f,h⟩:=opK_sound h
  simp only at h
  split at h
  ·rename_i p hp
   cases p with
   | none=>exact h.elim
   | some ad=>exact ⟨_,_,h,fun w=>by simp [execOp,ho,hp,pure,Sem.run]⟩
  ·exact pureK_sound h
 ·rename_i t x i ho
  obtain ⟨f,h⟩:=opK_sound h
  obtain ⟨f',h⟩:=opK_sound h
  obtain ⟨ad,hK,hr⟩:=ixA_sound h
  refine ⟨_,_,hK,fun w=>?_⟩
  unfold execOp
  rw [ho]
  simp only [bind]
  rw [run_bind,hr w]
  rfl
 ·rename_i t x i ho
  obtain ⟨f,h⟩:=opK_sound h
  obtain ⟨f',h⟩:=opK_sound h
  simp only [ixV] at h
  split at h
  ·rename_i s k j hu hv hi
   refine ⟨_,_,h.2,fun w=>?_⟩
   unfold execOp
   rw [ho]
   simp only [bind]
   rw [run_bind,hv,hi,ixS_run hu h.1 w]
   rfl
  ·exact pureK_sound h
 ·rename_i t x lo hi ho
  obtain ⟨f,h⟩:=opK_sound h
  obtain ⟨r,hK,hr⟩:=slK_sound h
  refine ⟨_,_,hK,fun w=>?_⟩
  unfold execOp
  rw [ho]
  simp only [bind,Option.map_none]
  rw [run_bind,hr w]
  rfl
 ·rename_i t x lo hi m ho
  obtain ⟨f,h⟩:=opK_sound h
  obtain ⟨f',h⟩:=opK_sound h
  obtain ⟨r,hK,hr⟩:=slK3_sound h
  refine ⟨_,_,hK,fun w=>?_⟩
  unfold execOp
  rw [ho]
  simp only [bind,Option.map_some]
  rw [run_bind,hr w]
  rfl
 ·rename_i op t x y t' ho
  obtain ⟨f,h⟩:=opK_sound h
  obtain ⟨f',h⟩:=opK_sound h
  exact binC_sound ho h
 ·exact pureK_sound h
def lenPure (P:Program) (c:Call):Bool:=match (c.argTypes[0]?).bind P.underlying with
 | some .string | some (.slice _) | some (.int _)=>true
 | _=>false
def cvPure (P:Program) (s d:TypeId):Bool:=match P.underlying s,P.underlying d with
 | some (.int _),some (.int _)=>true
 | some .string,some .string=>true
 | _,_=>false
def isP (P:Program) (o:Oper):Bool:=match o.op with
 | .move _ | .assign _ | .pick .. | .nilCheck _ | .fieldAddr .. | .field .. | .indexAddr .. | .index .. | .binOp .. | .unOp .. | .extract .. | .makeFunc .. | .makeInterface ..=>true
 | .slice ..=>true
 | .convert s d _=>cvPure P s d
 | .call c=>(match c.callee with
   | .builtin .len | .builtin .cap | .builtin .min | .builtin .max=>lenPure P c
   | _=>false)
 | _=>false
def isLoad (o:Oper):Bool:=match o.op with | .load ..=>true | _=>false
def isR (P:Program) (o:Oper):Bool:=isP P o || isLoad o
theorem isR_defer {P:Program}(o:Oper) (h:isR P o=true):isDefer o=false:=by
 unfold isDefer
 split
 ·rename_i c hc;simp [isR,isP,isLoad,hc] at h
 ·rfl
def ptrK (v:Value) (K:Addr→Prop):Prop:=match v with | .pointer (some ad)=>K ad | _=>False
theorem ptrK_sound {v:Value}{K:Addr→Prop}(h:ptrK v K):∃ ad,v = .pointer (some ad)∧K ad:=by
 unfold ptrK at h
 split at h
 ·exact ⟨_,rfl,h⟩
 ·exact h.elim
def loadC (P:Program) (o:Oper) (E:Env) (H:Hp) (K:Bool × Value→Prop):Prop:=match o.op with
 | .load t x=>opK E x fun v=>ptrK v.2 fun ad=>ldT P t H ad fun r=>K (false,r)
 | _=>False
theorem loadC_sound {P:Program}{o:Oper}{E:Env}{H:Hp}{K:Bool × Value→Prop}(h:loadC P o E H K) :
  ∃ f v,K (f,v)∧∀ w:World,w.heap=H→(execOp E.act.eval o).run P w = .ok (.value v) w:=by
 unfold loadC at h
 split at h
 ·rename_i t x ho
  obtain ⟨f,h⟩:=opK_sound h
  obtain ⟨ad,hv,h⟩:=ptrK_sound h
  obtain ⟨v,hK,hr⟩:=ldT_run h
  refine ⟨_,v,hK,fun w hw=>?_⟩
  simp only at hv
  unfold execOp
  rw [ho]
  simp only [bind,Instr.loadAt,hv,Instr.sureAddr,pure,Sem.bind]
  rw [run_bind,hr w hw]
  rfl
 ·exact h.elim
def fnOk (P:Program) (g:FuncId):Bool:=match P.funcs[g]? with
 | some fn=>!(fn.name == "runtime.NumGoroutine") && fn.body.isSome
 | none=>false
def ExtF (P:Program) (g:FuncId) (args:List Value) (H:Hp) (K:Value→Hp→Prop):Prop:=
 hrun P (callFunc g args.toArray) H (fun nx H'=>match nx with | .value v=>K v H' | _=>False) (fun _ _=>False)
def Yld (P:Program) (l:Nat) (args:List Value) (H:Hp) (K:Value→Hp→Prop):Prop:=
 ∃ r,H[l]? = some (.loop r)∧args.length=r.params.size ∧
  Rnd P l r.fn ((r.params.zip args.toArray).foldl (fun tmps (t,a)=>tmps.setIfInBounds t a) r.tmps) r.assign r.body H K
def callV (P:Program) (v:Value) (args:List Value) (H:Hp) (K:Value→Hp→Prop) (Z:List PanicEntry→Hp→Prop):Prop:=match v with
 | .func (.func g) first cap=>if fnOk P g then CallF P g (first.toList++args++cap.toList).toArray H K Z else ExtF P g (first.toList++args++cap.toList) H K
 | .func (.yield l) first _=>Yld P l (first.toList++args) H K
 | _=>False
def App (P:Program) (ts:Array TypeId) (ty:TypeId) (H:Hp) (vs:List Value) (K:Sl→Hp→Prop):Prop:=
 hrun P (Builtin.append_ ts ty vs.toArray) H (fun r H'=>∃ s:Sl,r = .slice s.a s.n s.c∧K s H') (fun _ _=>False)
def Cpy (P:Program) (ts:Array TypeId) (ty:TypeId) (H:Hp) (vs:List Value) (K:Int→Hp→Prop):Prop:=
 hrun P (Builtin.copy_ ts ty vs.toArray) H (fun r H'=>∃ n:Int,r = .int .i64 n∧K n H') (fun _ _=>False)
def MkS (P:Program) (t:TypeId) (H:Hp) (l c:Value) (K:Sl→Hp→Prop):Prop:=
 hrun P (Instr.makeSlice t l c) H (fun r H'=>∃ s:Sl,r = .slice s.a s.n s.c∧K s H') (fun _ _=>False)
def Cvt (P:Program) (s d:TypeId) (H:Hp) (v:Value) (K:Value→Hp→Prop):Prop:=hrun P (convert s d v) H K (fun _ _=>False)
def Lkp (P:Program) (t:TypeId) (H:Hp) (m k:Value) (ok:Bool) (K:Value→Hp→Prop):Prop:=hrun P (Instr.lookup t m k ok) H K (fun _ _=>False)
def MUp (P:Program) (t:TypeId) (H:Hp) (m k x:Value) (K:Hp→Prop):Prop:=hrun P (Instr.mapUpdate t m k x) H (fun _ H'=>K H') (fun _ _=>False)
def Blt (P:Program) (b:Builtin) (ts:Array TypeId) (ty:TypeId) (cs:Array Bool) (H:Hp) (vs:List Value) (K:Value→Hp→Prop):Prop:=
 hrun P (builtin b ts ty cs vs.toArray) H (fun nx H'=>match nx with | .value v=>K v H' | _=>False) (fun _ _=>False)
def rawK (P:Program) (o:Oper) (E:Env) (H:Hp) (K:Value→Hp→Prop) (Z:List PanicEntry→Hp→Prop):Prop:=
 hrun P (execOp E.act.eval o) H (fun nx H'=>match nx with | .value v=>K v H' | .skip=>K undef H' | _=>False) (fun v H'=>Z [{ v:=v,recovered:=false }] H')
def plainRaw (o:Oper):Bool:=match o.op with
 | .box .. | .alloc .. | .build .. | .buildSlice .. | .makeMap .. | .panic _ | .mapUpdate .. | .insert ..=>true
 | _=>false
def copW (P:Program) (o:Oper) (E:Env) (H:Hp) (K:Bool × Value→Hp→Prop) (Z:List PanicEntry→Hp→Prop):Prop:=match o.op with
 | .store t x y=>opK E x fun v=>opK E y fun u=>ptrK v.2 fun ad=>stT P t ad u.2 H fun H'=>K (false,undef) H'
 | .call c=>(match c.callee with
   | .value f=>opK E f fun fv=>argK E c.args.toList fun vs=>callV P fv.2 vs H (fun r H'=>exT (tyOf P o.type) fun u=>r=u∧K (false,u) H') Z
   | .builtin .append=>argK E c.args.toList fun vs=>App P c.argTypes o.type H vs fun s H'=>K (false,.slice s.a s.n s.c) H'
   | .builtin .copy=>argK E c.args.toList fun vs=>Cpy P c.argTypes o.type H vs fun n H'=>K (false,.int .i64 n) H'
   | .builtin b=>argK E c.args.toList fun vs=>Blt P b c.argTypes o.type (c.args.map fun | .const _=>true | _=>false) H vs fun r H'=>exT (tyOf P o.type) fun u=>r=u∧K (false,u) H'
   | _=>rawK P o E H (fun r H'=>exT (tyOf P o.type) fun u=>r=u∧K (false,u) H') Z)
 | .makeSlice t l c=>opK E l fun v=>opK E c fun u=>MkS P t H v.2 u.2 fun s H'=>K (false,.slice s.a s.n s.c) H'
 | .convert s d x=>opK E x fun v=>Cvt P s d H v.2 fun r H'=>exT (tyOf P d) fun u=>r=u∧K (false,u) H'
 | .lookup t m k ok=>opK E m fun v=>opK E k fun u=>Lkp P t H v.2 u.2 ok fun r H'=>exT (tyOf P o.type) fun w=>r=w∧K (false,w) H'
 | .mapUpdate t m k x=>opK E m fun v=>opK E k fun u=>opK E x fun z=>MUp P t H v.2 u.2 z.2 fun H'=>K (false,undef) H'
 | .insert t m k x=>opK E m fun v=>opK E k fun u=>opK E x fun z=>MUp P t H v.2 u.2 z.2 fun H'=>K (false,undef) H'
 | _=>if plainRaw o then rawK P o E H (fun v H'=>K (false,v) H') Z else rawK P o E H (fun r H'=>exT (tyOf P o.type) fun u=>r=u∧K (false,u) H') Z
theorem does_of_hrun {P:Program}{rd:Option Nat}{o:Oper}{a:Act}{H:Hp}{K:Act→Hp→Prop}{Z:List PanicEntry→Hp→Prop}{K':Next→Hp→Prop}
  (h:hrun P (execOp a.eval o) H K' (fun v H'=>Z [{ v:=v,recovered:=false }] H'))
  (hk:∀ nx H',K' nx H'→match nx with
   | .value v=>K (a.put o.dst v) H'
   | .skip=>K (a.put o.dst undef) H'
   | .defer d=>K ({ a with defers:=d::a.defers }.put o.dst undef) H'
   | .enter f args=>CallF P f args H' (fun v H''=>K (a.put o.dst v) H'') Z
   | .round l f tmps as body=>Rnd P l f tmps as body H' (fun v H''=>K (a.put o.dst v) H'')
   | _=>False):DoesA P rd o a H K Z:=by
 intro w hw
 have h1:=hrun_sound _ h w hw
 generalize (execOp a.eval o).run P w=r at *
 cases r with
 | ok nx w'=>
  simp only at h1
  have h2:=hk nx w'.heap h1.2
  cases nx <;> simp only at h2 ⊢ <;> exact ⟨h1.1,h2⟩
 | halt x w'=>cases x <;> simp only at h1 ⊢ <;> exact h1
theorem rawK_sound {P:Program}{rd:Option Nat}{o:Oper}{E:Env}{H:Hp}{K:Value→Hp→Prop}{K':Act→Hp→Prop}{Z:List PanicEntry→Hp→Prop}(h:rawK P o E H K Z)
  (hk:∀ v H',K v H'→K' (E.act.put o.dst v) H'):DoesA P rd o E.act H K' Z:=by
 refine does_of_hrun h ?_
 intro nx H' hn
 cases nx <;> first | exact hn.elim | exact hk _ _ hn
theorem callV_sound {P:Program}{rd:Option Nat}{o:Oper}{E:Env}{H:Hp}{K:Value→Hp→Prop}{K':Act→Hp→Prop}{Z:List PanicEntry→Hp→Prop}{c:Call}{f:Operand}
  (ho:o.op = .call c) (hf:c.callee = .value f) (h:callV P (E.act.eval f) (c.args.toList.map E.act.eval) H K Z)
  (hk:∀ v H',K v H'→K' (E.act.put o.dst v) H'):DoesA P rd o E.act H K' Z:=by
 have hargs:(c.args.map E.act.eval)=(c.args.toList.map E.act.eval).toArray:=by apply Array.ext';simp
 unfold callV at h
 split at h
 ·rename_i g first cap hv
  have hex:execOp E.act.eval o=callFunc g (first.toList++c.args.toList.map E.act.eval++cap.toList).toArray:=by
   unfold execOp
   rw [ho]
   simp only [resolve,hf,hv,Deferred.ofValue,bind,Sem.bind,pure,invoke,hargs]
   congr 1
   apply Array.ext'
   simp
  split at h
  ·rename_i hg
   unfold fnOk at hg
   split at hg
   ·rename_i fn hfn
    simp only [Bool.and_eq_true,Bool.not_eq_true'] at hg
    intro w hw
    have:(execOp E.act.eval o).run P w = .ok (.enter g (first.toList++c.args.toList.map E.act.eval++cap.toList).toArray) w:=by
     rw [hex]
     have hb:fn.body.isNone=false:=by cases hb:fn.body <;> simp_all
     have h1:=hg.1
     simp only [callFunc,program,bind,Sem.bind,Sem.run,hfn,h1,hb,pure,Bool.false_eq_true,if_false]
    rw [this]
    simp only
    refine ⟨Lk.refl w,?_⟩
    rw [hw]
    exact h.mono hk (fun _ _ h=>h)
   ·simp at hg
  ·unfold ExtF at h
   refine does_of_hrun (K':=fun nx H'=>match nx with | .value v=>K v H' | _=>False) ?_ ?_
   ·rw [hex]
    exact h.mono _ (fun _ _ h=>h) (fun _ _ h=>h.elim)
   ·intro nx H' hn
    cases nx <;> first | exact hn.elim | exact hk _ _ hn
 ·rename_i l first cap hv
  obtain ⟨r,hl,hsz,hR⟩:=h
  intro w hw
  subst hw
  have:(execOp E.act.eval o).run P w = .ok (.round l r.fn ((r.params.zip (first.toList++c.args.toList.map E.act.eval).toArray).foldl (fun tmps (t,a)=>tmps.setIfInBounds t a) r.tmps) r.assign r.body) w:=by
   unfold execOp
   rw [ho]
   have e:first++(c.args.toList.map E.act.eval).toArray=(first.toList++c.args.toList.map E.act.eval).toArray:=by apply Array.ext';simp
   have hs:((first.toList++c.args.toList.map E.act.eval).toArray).size=r.params.size:=by simpa using hsz
   simp only [resolve,hf,hv,Deferred.ofValue,bind,Sem.bind,pure,invoke,hargs,e,Instr.yield,Instr.getLoop,getObj,Sem.run,hl,hs,ne_eq,not_true_eq_false,if_false]
  rw [this]
  exact ⟨Lk.refl w,hR.mono hk⟩
 ·exact h.elim
theorem builtin_does {P:Program}{rd:Option Nat}{o:Oper}{E:Env}{H:Hp}{K:Value→Hp→Prop}{K':Act→Hp→Prop}{Z:List PanicEntry→Hp→Prop}{s:Sem Value}
  (hex:execOp E.act.eval o=s.bind fun v=>.pure (.value v)) (h:hrun P s H K (fun _ _=>False)) (hk:∀ v H',K v H'→K' (E.act.put o.dst v) H'):DoesA P rd o E.act H K' Z:=by
 intro w hw
 have h1:=hrun_sound _ h w hw
 rw [hex,run_bind]
 generalize s.run P w=r at *
 cases r with
 | ok v w'=>simp only [Sem.run] at h1 ⊢;exact ⟨h1.1,hk _ _ h1.2⟩
 | halt x w'=>cases x <;> simp only at h1 ⊢ <;> exact h1.2.elim
theorem unit_does {P:Program}{rd:Option Nat}{o:Oper}{E:Env}{H:Hp}{K:Hp→Prop}{K':Act→Hp→Prop}{Z:List PanicEntry→Hp→Prop}{s:Sem Unit}
  (hex:execOp E.act.eval o=s.bind fun _=>.pure .skip) (h:hrun P s H (fun _ H'=>K H') (fun _ _=>False)) (hk:∀ H',K H'→K' (E.act.put o.dst undef) H'):DoesA P rd o E.act H K' Z:=by
 intro w hw
 have h1:=hrun_sound _ h w hw
 rw [hex,run_bind]
 generalize s.run P w=r at *
 cases r with
 | ok v w'=>simp only [Sem.run] at h1 ⊢;exact ⟨h1.1,hk _ h1.2⟩
 | halt x w'=>cases x <;> simp only at h1 ⊢ <;> exact h1.2.elim
theorem copW_sound {P:Program}{rd:Option Nat}{o:Oper}{E:Env}{H:Hp}{K:Bool × Value→Hp→Prop}{K':Act→Hp→Prop}{Z:List PanicEntry→Hp→Prop}(h:copW P o E H K Z)
  (hk:∀ f v H',K (f,v) H'→K' (E.act.put o.dst v) H'):DoesA P rd o E.act H K' Z:=by
 have typed:∀ {K2:Value→Hp→Prop},(∀ r H',K2 r H'→exT (tyOf P o.type) fun u=>r=u∧K (false,u) H')→∀ v H',K2 v H'→K' (E.act.put o.dst v) H':=by
  intro K2 h2 v H' hv
  obtain ⟨u,rfl,hu⟩:=exT_ex (h2 v H' hv)
  exact hk _ _ _ hu
 unfold copW at h
 split at h
 ·rename_i t x y ho
  obtain ⟨f,h⟩:=opK_sound h
  obtain ⟨f',h⟩:=opK_sound h
  obtain ⟨ad,hv,h⟩:=ptrK_sound h
  simp only at hv
  intro w hw
  obtain ⟨w',hr,hl,hK⟩:=stT_run h w hw
  have:(execOp E.act.eval o).run P w = .ok .skip w':=by
   unfold execOp
   rw [ho]
   simp only [bind,Instr.storeAt,hv,Instr.sureAddr,pure,Sem.bind]
   rw [run_bind,hr]
   rfl
  rw [this]
  exact ⟨hl,hk _ _ _ hK⟩
 ·rename_i c ho
  split at h
  ·rename_i f hf
   obtain ⟨f',h⟩:=opK_sound h
   have h:=argK_sound h
   exact callV_sound ho hf h (typed fun _ _ h=>h)
  ·rename_i hb
   have h:=argK_sound h
   refine builtin_does (s:=Builtin.append_ c.argTypes o.type (c.args.toList.map E.act.eval).toArray) ?_ h ?_
   ·unfold execOp
    rw [ho]
    have hargs:(c.args.map E.act.eval)=(c.args.toList.map E.act.eval).toArray:=by apply Array.ext';simp
    simp only [resolve,hb,bind,Sem.bind,pure,invoke,builtin,hargs]
   ·rintro v H' ⟨s,rfl,h⟩;exact hk _ _ _ h
  ·rename_i hb
   have h:=argK_sound h
   refine builtin_does (s:=Builtin.copy_ c.argTypes o.type (c.args.toList.map E.act.eval).toArray) ?_ h ?_
   ·unfold execOp
    rw [ho]
    have hargs:(c.args.map E.act.eval)=(c.args.toList.map E.act.eval).toArray:=by apply Array.ext';simp
    simp only [resolve,hb,bind,Sem.bind,pure,invoke,builtin,hargs]
   ·rintro v H' ⟨s,rfl,h⟩;exact hk _ _ _ h
  ·rename_i b hb1 hb2 hb
   have h:=argK_sound h
   have hargs:(c.args.map E.act.eval)=(c.args.toList.map E.act.eval).toArray:=by apply Array.ext';simp
   refine does_of_hrun (K':=fun nx H'=>match nx with | .value v=>exT (tyOf P o.type) fun u=>v=u∧K (false,u) H' | _=>False) ?_ ?_
   ·have:execOp E.act.eval o=builtin b c.argTypes o.type (c.args.map fun | .const _=>true | _=>false) (c.args.toList.map E.act.eval).toArray:=by
     unfold execOp
     rw [ho]
     simp only [resolve,hb,bind,Sem.bind,pure,invoke,hargs]
     rfl
    rw [this]
    exact h.mono _ (fun _ _ h=>h) (fun _ _ h=>h.elim)
   ·intro nx H' hn
    cases nx <;> first | exact hn.elim | exact typed (fun _ _ h=>h) _ _ hn
  ·exact rawK_sound h (typed fun _ _ h=>h)
 ·rename_i t l c ho
  obtain ⟨f,h⟩:=opK_sound h
  obtain ⟨f',h⟩:=opK_sound h
  refine builtin_does (s:=Instr.makeSlice t (E.act.eval l) (E.act.eval c)) ?_ h ?_
  ·unfold execOp;rw [ho];rfl
  ·rintro v H' ⟨s,rfl,h⟩;exact hk _ _ _ h
 ·rename_i s d x ho
  obtain ⟨f,h⟩:=opK_sound h
  refine builtin_does (s:=convert s d (E.act.eval x)) ?_ h ?_
  ·unfold execOp;rw [ho];rfl
  ·intro v H' hv
   obtain ⟨u,rfl,hu⟩:=exT_ex hv
   exact hk _ _ _ hu
 ·rename_i t m k ok ho
  obtain ⟨f,h⟩:=opK_sound h
  obtain ⟨f',h⟩:=opK_sound h
  refine builtin_does (s:=Instr.lookup t (E.act.eval m) (E.act.eval k) ok) ?_ h (typed fun _ _ h=>h)
  unfold execOp;rw [ho];rfl
 ·rename_i t m k x ho
  obtain ⟨f,h⟩:=opK_sound h
  obtain ⟨f',h⟩:=opK_sound h
  obtain ⟨f'',h⟩:=opK_sound h
  refine unit_does (s:=Instr.mapUpdate t (E.act.eval m) (E.act.eval k) (E.act.eval x)) ?_ h fun H' h=>hk _ _ _ h
  unfold execOp;rw [ho];rfl
 ·rename_i t m k x ho
  obtain ⟨f,h⟩:=opK_sound h
  obtain ⟨f',h⟩:=opK_sound h
  obtain ⟨f'',h⟩:=opK_sound h
  refine unit_does (s:=Instr.mapUpdate t (E.act.eval m) (E.act.eval k) (E.act.eval x)) ?_ h fun H' h=>hk _ _ _ h
  unfold execOp;rw [ho];rfl
 ·split at h
  ·exact rawK_sound h (fun v H' h=>hk _ _ _ h)
  ·exact rawK_sound h (typed fun _ _ h=>h)
def opC (P:Program) (rd:Option Nat) (o:Oper) (E:Env) (H:Hp) (K:Env→Hp→Prop) (Z:List Deferred→List PanicEntry→Hp→Prop):Prop:=
 if isP P o then copP P o E fun v=>putE E o.dst v fun E'=>K E' H
 else if isLoad o then loadC P o E H fun v=>putE E o.dst v fun E'=>K E' H
 else if isDefer o then (if rd.isNone then hrun P (execOp E.act.eval o) H (fun nx H'=>match nx with | .defer d=>putE ⟨E.t,d::E.d⟩ o.dst (false,undef) fun E'=>K E' H' | _=>False) (fun _ _=>False) else False)
 else copW P o E H (fun v H'=>putE E o.dst v fun E'=>K E' H') (Z E.d)
def guardC (ops:Array Oper) (o:Oper) (E:Env) (yes no:Env→Prop):Prop:=match o.guard with
 | none=>yes E
 | some (g,want)=>(match (ops[g]?).bind (·.dst) with
   | none=>no E
   | some d=>getK E.t d fun fv=>(match fv with
     | (true,.bool b)=>if b == want then yes E else no E
     | (false,.bool b)=>(b=true→setK E.t d (true,.bool true) fun t'=>if true == want then yes ⟨t',E.d⟩ else no ⟨t',E.d⟩) ∧
       (b=false→setK E.t d (true,.bool false) fun t'=>if false == want then yes ⟨t',E.d⟩ else no ⟨t',E.d⟩)
     | _=>no E))
theorem guardC_sound {ops:Array Oper}{o:Oper}{E:Env}{yes no:Env→Prop}(h:guardC ops o E yes no) :
  ∃ E':Env,E'.act=E.act∧E'.d=E.d∧((Region.wanted o (yielded ops E.act.tmps)=true∧yes E')∨(Region.wanted o (yielded ops E.act.tmps)=false∧no E')):=by
 unfold guardC at h
 unfold Region.wanted
 split at h
 ·rename_i hg;exact ⟨E,rfl,rfl,.inl ⟨by simp [hg],h⟩⟩
 ·rename_i g want hg
  simp only [hg]
  split at h
  ·rename_i hd
   refine ⟨E,rfl,rfl,.inr ⟨by simp [yielded,hd],h⟩⟩
  ·rename_i d hd
   rw [getK_eq] at h
   have hy:yielded ops E.act.tmps g=match (E.t[d]?).map (·.2) with | some (.bool b)=>some b | _=>none:=by
    unfold yielded
    rw [hd]
    simp [Env.act]
    cases E.t[d]? <;> rfl
   cases hx:E.t[d]? with
   | none=>
    rw [List.getD_eq_getElem?_getD,hx] at h
    simp only [Option.getD_none] at h
    refine ⟨E,rfl,rfl,.inr ⟨by rw [hy,hx];rfl,?_⟩⟩
    simpa [undef] using h
   | some fv=>
    rw [List.getD_eq_getElem?_getD,hx] at h
    simp only [Option.getD_some] at h
    rw [hy,hx]
    obtain ⟨f,v⟩:=fv
    have other:(∀ b,v ≠ .bool b)→no E→∃ E':Env,E'.act=E.act∧E'.d=E.d∧((((match (some (f,v)).map (·.2) with | some (.bool b)=>some b | _=>(none:Option Bool)) == some want)=true∧yes E') ∨
      (((match (some (f,v)).map (·.2) with | some (.bool b)=>some b | _=>(none:Option Bool)) == some want)=false∧no E')):=by
     intro hn hno
     refine ⟨E,rfl,rfl,.inr ⟨?_,hno⟩⟩
     cases v <;> first | rfl | (exact absurd rfl (hn _))
    cases v with
    | bool b=>
     cases f with
     | true=>
      simp only at h
      refine ⟨E,rfl,rfl,?_⟩
      by_cases hb:(b == want)=true
      ·rw [if_pos hb] at h
       left
       have:b=want:=by simpa using hb
       subst this
       exact ⟨by simp,h⟩
      ·rw [if_neg hb] at h
       right
       have:b≠want:=by simpa using hb
       exact ⟨by simpa using this,h⟩
     | false=>
      simp only [setK_eq] at h
      have act_set:∀ b',b=b'→(⟨E.t.set d (true,.bool b'),E.d⟩:Env).act=E.act:=by
       intro b' hb'
       subst hb'
       simp only [Env.act]
       congr 2
       apply List.ext_getElem?
       intro j
       simp only [List.getElem?_map,List.getElem?_set]
       by_cases hj:d=j
       ·subst hj
        by_cases hl:d < E.t.length
        ·rw [List.getElem?_eq_getElem hl] at hx
         simp only [Option.some.injEq] at hx
         simp [hl,hx]
        ·simp [List.getElem?_eq_none (Nat.not_lt.1 hl)] at hx
       ·simp [hj]
      cases b with
      | true=>
       have h:=h.1 rfl
       refine ⟨_,act_set true rfl,rfl,?_⟩
       cases want
       ·right;exact ⟨rfl,h⟩
       ·left;exact ⟨rfl,h⟩
      | false=>
       have h:=h.2 rfl
       refine ⟨_,act_set false rfl,rfl,?_⟩
       cases want
       ·left;exact ⟨rfl,h⟩
       ·right;exact ⟨rfl,h⟩
    | _=>exact other (by simp) (by cases f <;> exact h)
def stepC (P:Program) (rd:Option Nat) (ops:Array Oper) (i:Nat) (E:Env) (H:Hp) (K:Env→Hp→Prop) (Z:List Deferred→List PanicEntry→Hp→Prop):Prop:=
 match ops[i]? with
 | none=>K E H
 | some o=>guardC ops o E (fun E'=>opC P rd o E' H K Z) (fun E'=>putE E' o.dst (false,undef) fun E''=>K E'' H)
def onE (K:Env→Hp→Prop):Act→Hp→Prop:=fun a H=>∃ E:Env,E.act=a∧K E H
def onZ (Z:List Deferred→List PanicEntry→Hp→Prop):Act→List PanicEntry→Hp→Prop:=fun a ch H=>Z a.defers ch H
theorem stepC_yields {P:Program}{rd:Option Nat}{ops:Array Oper}{i:Nat}{o:Oper}{E:Env}{H:Hp}{K:Env→Hp→Prop}{Z:List Deferred→List PanicEntry→Hp→Prop}
  (hi:ops[i]? = some o) (hr:isR P o=true) (h:stepC P rd ops i E H K Z):∃ v,YR P ops o v E.act H∧(isP P o=true→YP P ops o v E.act)∧onE K (E.act.put o.dst v) H:=by
 unfold stepC at h
 simp only [hi] at h
 obtain ⟨E',ha,hd,⟨hw,h⟩ | ⟨hw,h⟩⟩:=guardC_sound h
 ·unfold opC at h
  by_cases hp:isP P o=true
  ·rw [if_pos hp] at h
   obtain ⟨f,v,hK,hv⟩:=copP_sound h
   obtain ⟨E2,he,_,hK⟩:=putE_act hK
   have hy:YP P ops o v E.act:=fun H'=>.inl ⟨hw,fun w _=>by rw [← ha];exact hv w⟩
   exact ⟨v,hy H,fun _=>hy,E2,by rw [he,ha],hK⟩
  ·rw [if_neg hp] at h
   have hl:isLoad o=true:=by simpa [isR,hp] using hr
   rw [if_pos hl] at h
   obtain ⟨f,v,hK,hv⟩:=loadC_sound h
   obtain ⟨E2,he,_,hK⟩:=putE_act hK
   exact ⟨v,.inl ⟨hw,fun w hwH=>by rw [← ha];exact hv w hwH⟩,fun hp'=>absurd hp' hp,E2,by rw [he,ha],hK⟩
 ·obtain ⟨E2,he,_,hK⟩:=putE_act h
  exact ⟨undef,.inr ⟨hw,rfl⟩,fun _ _=>.inr ⟨hw,rfl⟩,E2,by rw [he,ha],hK⟩
theorem stepC_sound {P:Program}{rd:Option Nat}{ops:Array Oper}{i:Nat}{E:Env}{H:Hp}{K:Env→Hp→Prop}{Z:List Deferred→List PanicEntry→Hp→Prop}
  (h:stepC P rd ops i E H K Z):xStep P rd (isR P) ops i E.act H (onE K) (onZ Z E.act):=by
 unfold xStep
 cases hi:ops[i]? with
 | none=>unfold stepC at h;simp only [hi] at h;exact ⟨E,rfl,h⟩
 | some o=>
  simp only
  by_cases hr:isR P o=true
  ·rw [if_pos hr]
   obtain ⟨v,hy,_,hK⟩:=stepC_yields hi hr h
   exact ⟨v,hy,hK⟩
  ·rw [if_neg hr]
   unfold stepC at h
   simp only [hi] at h
   obtain ⟨E',ha,hd,⟨hw,h⟩ | ⟨hw,h⟩⟩:=guardC_sound h
   ·rw [if_pos hw]
    unfold opC at h
    have hp:¬ isP P o=true:=fun hp=>hr (by simp [isR,hp])
    have hl:¬ isLoad o=true:=fun hl=>hr (by simp [isR,hl])
    rw [if_neg hp,if_neg hl] at h
    by_cases hdf:isDefer o=true
    ·rw [if_pos hdf] at h
     split at h
     ·rename_i hrd
      refine ⟨by unfold rdOk;split <;> simp_all,?_⟩
      rw [← ha]
      refine does_of_hrun (h.mono _ (fun _ _ h=>h) (fun _ _ h=>h.elim)) ?_
      intro nx H' hn
      cases nx <;> simp only at hn ⊢
      obtain ⟨E2,he,_,hK⟩:=putE_act hn
      exact ⟨E2,he,hK⟩
     ·exact h.elim
    ·rw [if_neg hdf] at h
     refine ⟨by unfold rdOk;split <;> simp_all [isDefer],?_⟩
     have:onZ Z E.act=Z E'.d:=by unfold onZ;rw [hd];rfl
     rw [this,← ha]
     refine copW_sound h ?_
     intro f v H' hK
     obtain ⟨E2,he,_,hK⟩:=putE_act hK
     exact ⟨E2,he,hK⟩
   ·rw [if_neg (by simp [hw])]
    obtain ⟨E2,he,_,hK⟩:=putE_act h
    exact ⟨E2,by rw [he,ha],hK⟩
def seqC (P:Program) (rd:Option Nat) (ops:Array Oper) (Z:List Deferred→List PanicEntry→Hp→Prop) (K:Env→Hp→Prop):List Nat→Env→Hp→Prop
 | [],E,H=>K E H
 | i::rest,E,H=>stepC P rd ops i E H (fun E' H'=>seqC P rd ops Z K rest E' H') Z
def allC:List Nat→(Nat→Prop)→Prop
 | [],_=>True
 | [i],f=>f i
 | i::is,f=>f i∧allC is f
theorem allC_mem:∀ {l:List Nat}{f:Nat→Prop},allC l f→∀ i∈l,f i
 | [],_,_,_,h=>by cases h
 | [i],f,h,j,hj=>by rw [List.mem_singleton] at hj;subst hj;exact h
 | i::k::is,f,h,j,hj=>by
  rcases List.mem_cons.1 hj with rfl | hj
  ·exact h.1
  ·exact allC_mem h.2 j hj
def anyC (P:Program) (rd:Option Nat) (ops:Array Oper) (T:List Nat) (Z:List Deferred→List PanicEntry→Hp→Prop) (K:Env→Hp→Prop):Nat→List Bool→Env→Hp→Prop
 | 0,listed,E,H=>(match Region.ready .any ops listed.toArray with | []=>K E H | _=>False)
 | n+1,listed,E,H=>(match Region.ready .any ops listed.toArray with
  | []=>K E H
  | r::rs=>(match (r::rs).find? (freeB T (isP P) (isR P) ops listed.toArray) with
   | some i=>setK listed i true fun l'=>stepC P rd ops i E H (fun E' H'=>anyC P rd ops T Z K n l' E' H') Z
   | none=>allC (r::rs) fun i=>setK listed i true fun l'=>stepC P rd ops i E H (fun E' H'=>anyC P rd ops T Z K n l' E' H') Z))
theorem put_defers (a:Act) (d:Option Tmp) (v:Value):(a.put d v).defers=a.defers:=by cases d <;> rfl
theorem anyC_sound {P:Program}{rd:Option Nat}{ops:Array Oper}{Z:List Deferred→List PanicEntry→Hp→Prop}{K:Env→Hp→Prop}{T:List Nat}(hT:TabOk ops T) (hs:Region.noSelect ops=true) :
  ∀ (n:Nat) (listed:List Bool) (E:Env) (H:Hp),ClosedL ops listed.toArray→anyC P rd ops T Z K n listed E H→anyX P rd (isR P) ops (onE K) (onZ Z) n listed.toArray E.act H:=by
 have setA:∀ (l:List Bool) (i:Nat),(l.set i true).toArray=l.toArray.setIfInBounds i true:=by intro l i;simp
 intro n
 induction n with
 | zero=>
  intro listed E H hcl h
  unfold anyC at h
  split at h
  ·rename_i hr;exact ⟨hr,E,rfl,h⟩
  ·exact h.elim
 | succ n ih=>
  intro listed E H hcl h
  unfold anyC at h
  split at h
  ·rename_i hr
   exact ⟨fun _=>⟨E,rfl,h⟩,by rw [hr];simp⟩
  ·rename_i r rs hr
   split at h
   ·rename_i i hf
    have hfree:=List.find?_some hf
    have hmem:=List.mem_of_find?_eq_some hf
    rw [← hr] at hmem
    obtain ⟨_,o,ho,_⟩:=mem_ready.1 hmem
    obtain ⟨hri,hspec⟩:=freeB_spec ho hfree
    rw [setK_eq] at h
    obtain ⟨v,hy,hp,E',he,hK⟩:=stepC_yields ho hri h
    refine anyX_first (pB:=isP P o) ho hri hT (fun j oj cs b hj=>Region.noSelect_spec hs j oj cs b hj) ?_ n listed.toArray E.act H hspec hcl hmem hy hp ?_
    ·intro a d u c H hz;unfold onZ at *;rw [put_defers] at hz;exact hz
    ·rw [← setA,← he];exact ih _ _ _ (by rw [setA];exact hcl.set hmem) hK
   ·refine ⟨fun h0=>(by rw [hr] at h0;cases h0),fun i hi=>?_⟩
    have hmem:=hi
    rw [hr] at hi
    have h1:=allC_mem h i hi
    simp only [setK_eq] at h1
    refine (stepC_sound h1).mono ?_ (fun _ _ h=>h)
    rintro a' H' ⟨E',he,hK⟩
    rw [← setA,← he]
    exact ih _ _ _ (by rw [setA];exact hcl.set hmem) hK
def regC (P:Program) (rd:Option Nat) (ops:Array Oper) (draw:Bool) (Z:List Deferred→List PanicEntry→Hp→Prop) (K:Env→Hp→Prop) (E:Env) (H:Hp):Prop:=
 if draw then (if Region.noSelect ops && P.follows .mixedOrders then anyC P rd ops (befL ops.toList 0 []) Z K ops.size (List.replicate ops.size false) E H else False) else seqC P rd ops Z K (List.range ops.size) E H
end Go.V
end
section
namespace Go.V
section
variable {P:Program}{rd:Option Nat}{rB:Oper→Bool}{ops:Array Oper}
def Ext (o:Oper) (a a':Act):Prop:=∃ ds u,a'=({ a with defers:=ds }:Act).put o.dst u
theorem Ext.put {o:Oper}{a:Act}{u:Value}:Ext o a (a.put o.dst u):=⟨a.defers,u,rfl⟩
theorem Ext.exec {o x:Oper}{a a':Act}(h:Ext o a a') (hs:∀ cs b,x.op ≠ .select cs b) (hx:∀ d,o.dst=some d→d∉x.looksAt ops) :
  execOp a'.eval x=execOp a.eval x∧Region.wanted x (yielded ops a'.tmps)=Region.wanted x (yielded ops a.tmps):=by
 obtain ⟨ds,u,rfl⟩:=h
 exact ⟨execOp_put x hs _ o.dst u hx,wanted_put x _ o.dst u hx⟩
def FR (P:Program) (ops:Array Oper) (o:Oper) (v:Value) (a:Act) (H:Hp):Prop:=
 Region.wanted o (yielded ops a.tmps)=true→∀ w:World,w.heap=H→(execOp a.eval o).run P w = .ok (.value v) w
theorem YR.fr {o:Oper}{v:Value}{a:Act}{H:Hp}(h:YR P ops o v a H):FR P ops o v a H:=by
 intro hw
 rcases h with h | h
 ·exact h.2
 ·rw [hw] at h;cases h.1
theorem YR.re {o:Oper}{v:Value}{a a':Act}{H H':Hp}(h:YR P ops o v a H) (hw:Region.wanted o (yielded ops a'.tmps)=Region.wanted o (yielded ops a.tmps)) (hf:FR P ops o v a' H'):YR P ops o v a' H':=by
 rcases h with h | h
 ·exact .inl ⟨by rw [hw];exact h.1,hf (by rw [hw];exact h.1)⟩
 ·exact .inr ⟨by rw [hw];exact h.1,h.2⟩
theorem FR.same {o:Oper}{v:Value}{a a':Act}{H:Hp}(h:FR P ops o v a H) (he:execOp a'.eval o=execOp a.eval o) (hw:Region.wanted o (yielded ops a'.tmps)=Region.wanted o (yielded ops a.tmps)):FR P ops o v a' H:=by
 unfold FR at *
 rw [he,hw]
 exact h
theorem doesA_ext {o:Oper}{a:Act}{H:Hp}{K:Act→Hp→Prop}{Z:List PanicEntry→Hp→Prop}(h:DoesA P rd o a H K Z):DoesA P rd o a H (fun a' H'=>Ext o a a'∧K a' H') Z:=by
 intro w hw
 have h1:=h w hw
 generalize (execOp a.eval o).run P w=r at *
 cases r with
 | ok n w'=>
  cases n <;> simp only at h1 ⊢
  case value v=>exact ⟨h1.1,Ext.put,h1.2⟩
  case skip=>exact ⟨h1.1,Ext.put,h1.2⟩
  case defer d=>exact ⟨h1.1,⟨_,_,rfl⟩,h1.2⟩
  case enter f args=>exact ⟨h1.1,h1.2.mono (fun u H' x=>⟨Ext.put,x⟩) (fun _ _ h=>h)⟩
  case round l f tmps as body=>exact ⟨h1.1,h1.2.mono (fun u H' x=>⟨Ext.put,x⟩)⟩
 | halt x w'=>
  cases x <;> simp only at h1 ⊢
  exact h1
theorem xStep_ext {j:Nat}{o:Oper}(ho:ops[j]? = some o) {a:Act}{H:Hp}{K:Act→Hp→Prop}{Z:List PanicEntry→Hp→Prop}(h:xStep P rd rB ops j a H K Z) :
  xStep P rd rB ops j a H (fun a' H'=>Ext o a a'∧K a' H') Z:=by
 unfold xStep at *
 simp only [ho] at *
 split
 ·rename_i hr
  rw [if_pos hr] at h
  obtain ⟨v,hv,hK⟩:=h
  exact ⟨v,hv,Ext.put,hK⟩
 ·rename_i hr
  rw [if_neg hr] at h
  split
  ·rename_i hw
   rw [if_pos hw] at h
   exact ⟨h.1,doesA_ext h.2⟩
  ·rename_i hw
   rw [if_neg hw] at h
   exact ⟨Ext.put,h⟩
theorem xStep_swap {j:Nat}{oi oj:Oper}{v:Value}(hj:ops[j]? = some oj) (hap:oi.apart ops oj=true)
  (hsj:∀ cs b,oj.op ≠ .select cs b)
  {K:Act→Hp→Prop}{Z:Act→List PanicEntry→Hp→Prop}(hZ:∀ (a:Act) d u c H,Z (a.put d u) c H→Z a c H) {a:Act}{H:Hp}
  (h:xStep P rd rB ops j (a.put oi.dst v) H K (Z (a.put oi.dst v))) :
  xStep P rd rB ops j a H (fun a' H'=>Ext oj a a'∧K (a'.put oi.dst v) H') (Z a):=by
 obtain ⟨h1,h2,h3⟩:=Oper.apart_spec hap
 unfold xStep at *
 simp only [hj] at *
 rw [wanted_put oj a oi.dst v h1] at h
 split
 ·rename_i hr
  rw [if_pos hr] at h
  obtain ⟨u,hu,hK⟩:=h
  refine ⟨u,?_,Ext.put,by rw [← Act.put_comm a v u h2];exact hK⟩
  exact hu.of_same (execOp_put oj hsj a oi.dst v h1).symm (wanted_put oj a oi.dst v h1).symm
 ·rename_i hr
  rw [if_neg hr] at h
  split
  ·rename_i hw
   rw [if_pos hw] at h
   refine ⟨h.1,?_⟩
   intro w hwH
   have h4:=h.2 w hwH
   rw [execOp_put oj hsj a oi.dst v h1] at h4
   generalize (execOp a.eval oj).run P w=r at *
   cases r with
   | ok n w'=>
    cases n <;> simp only at h4 ⊢
    case value u=>exact ⟨h4.1,Ext.put,by rw [← Act.put_comm a v u h2];exact h4.2⟩
    case skip=>exact ⟨h4.1,Ext.put,by rw [← Act.put_comm a v undef h2];exact h4.2⟩
    case defer d=>
     refine ⟨h4.1,⟨_,_,rfl⟩,?_⟩
     rw [← Act.put_comm _ v undef h2,← Act.put_defers]
     exact h4.2
    case enter f args=>
     exact ⟨h4.1,h4.2.mono (fun u H' he=>⟨Ext.put,by rw [← Act.put_comm a v u h2];exact he⟩) (fun _ _ hz=>hZ _ _ _ _ _ hz)⟩
    case round l f tmps as body=>
     exact ⟨h4.1,h4.2.mono (fun u H' he=>⟨Ext.put,by rw [← Act.put_comm a v u h2];exact he⟩)⟩
   | halt x w'=>
    cases x <;> simp only at h4 ⊢
    case panic u=>exact ⟨h4.1,hZ _ _ _ _ _ h4.2⟩
  ·rename_i hw
   rw [if_neg hw] at h
   exact ⟨Ext.put,by rw [← Act.put_comm a v undef h2];exact h⟩
abbrev Pend:=List (Nat × Value)
def keepP (T:List Nat) (j:Nat) (pend:Pend):Pend:=pend.filter fun p=>!(T.getD j 0).testBit p.1
def PF (P:Program) (ops:Array Oper) (T:List Nat) (j:Nat) (pend:Pend) (a:Act) (H:Hp):Prop:=
 ∀ p∈pend,(T.getD j 0).testBit p.1=false→∀ o,ops[p.1]? = some o→FR P ops o p.2 a H
def anyZ (P:Program) (rd:Option Nat) (rB:Oper→Bool) (ops:Array Oper) (T:List Nat) (K:Act→Hp→Prop) (Z:Act→List PanicEntry→Hp→Prop):Nat→Array Bool→Pend→Act→Hp→Prop
 | 0,listed,_,a,H=>Region.ready .any ops listed = []∧K a H
 | fuel+1,listed,pend,a,H=>
  (Region.ready .any ops listed = []→K a H) ∧
  ∀ i∈Region.ready .any ops listed,xStep P rd rB ops i a H (fun a' H'=>PF P ops T i pend a' H'∧anyZ P rd rB ops T K Z fuel (listed.setIfInBounds i true) (keepP T i pend) a' H') (Z a)
variable {T:List Nat}{K:Act→Hp→Prop}{Z:Act→List PanicEntry→Hp→Prop}
theorem anyZ_mono:∀ (fuel:Nat) (listed:Array Bool) (p q:Pend) (a:Act) (H:Hp),(∀ x∈q,x∈p)→anyZ P rd rB ops T K Z fuel listed p a H→anyZ P rd rB ops T K Z fuel listed q a H
 | 0,_,_,_,_,_,_,h=>h
 | fuel+1,listed,p,q,a,H,hs,h=>by
  refine ⟨h.1,fun i hi=>(h.2 i hi).mono (fun a' H' hh=>⟨fun x hx=>hh.1 x (hs x hx),?_⟩) (fun _ _ h=>h)⟩
  refine anyZ_mono fuel _ _ _ _ _ (fun x hx=>?_) hh.2
  unfold keepP at hx ⊢
  rw [List.mem_filter] at hx ⊢
  exact ⟨hs x hx.1,hx.2⟩
theorem anyZ_X:∀ (fuel:Nat) (listed:Array Bool) (p:Pend) (a:Act) (H:Hp),anyZ P rd rB ops T K Z fuel listed p a H→anyX P rd rB ops K Z fuel listed a H
 | 0,_,_,_,_,h=>h
 | fuel+1,listed,p,a,H,h=>⟨h.1,fun i hi=>(h.2 i hi).mono (fun a' H' hh=>anyZ_X fuel _ _ _ _ hh.2) (fun _ _ h=>h)⟩
def PendOk (P:Program) (ops:Array Oper) (T:List Nat) (listed:Array Bool) (pend:Pend) (a:Act) (H:Hp):Prop:=
 ∀ p∈pend,∃ o,ops[p.1]? = some o∧YR P ops o p.2 a H∧(listed.getD p.1 false=true) ∧
  ∀ (j:Nat) (oj:Oper),ops[j]? = some oj→listed.getD j true=false→(T.getD j 0).testBit p.1=false→o.apart ops oj=true
theorem PendOk.step {listed:Array Bool}{pend:Pend}{a a':Act}{H H':Hp}{j:Nat}{oj:Oper}(hsel:∀ (j:Nat) (o:Oper) cs b,ops[j]? = some o→o.op ≠ .select cs b)
  (h:PendOk P ops T listed pend a H) (hj:ops[j]? = some oj) (hju:listed.getD j true=false) (he:Ext oj a a') (hf:PF P ops T j pend a' H'):PendOk P ops T (listed.setIfInBounds j true) (keepP T j pend) a' H':=by
 intro p hp
 unfold keepP at hp
 rw [List.mem_filter] at hp
 obtain ⟨hp,hb⟩:=hp
 have hb':(T.getD j 0).testBit p.1=false:=by simpa using hb
 obtain ⟨o,ho,hy,hl,hap⟩:=h p hp
 have h3:=(Oper.apart_spec (hap j oj hj hju hb')).2.2
 have hx:=he.exec (ops:=ops) (fun cs b=>hsel p.1 o cs b ho) h3
 refine ⟨o,ho,hy.re hx.2 (hf p hp hb' o ho),getD_set_true hl,?_⟩
 intro k ok hk hku
 refine hap k ok hk ?_
 by_cases hjk:j=k
 ·subst hjk;exact hju
 ·rwa [getD_set_ne true hjk] at hku
theorem anyZ_first {i:Nat}{oi:Oper}{v:Value}{pB:Bool}(hi:ops[i]? = some oi) (hri:rB oi=true) (hT:TabOk ops T)
  (hsel:∀ (j:Nat) (o:Oper) cs b,ops[j]? = some o→o.op ≠ .select cs b)
  (hZ:∀ (a:Act) d u c H,Z (a.put d u) c H→Z a c H) (hself:∀ d,oi.dst=some d→d∉oi.looksAt ops) :
  ∀ (fuel:Nat) (listed:Array Bool) (pend:Pend) (a:Act) (H:Hp),
   (∀ j oj,ops[j]? = some oj→j≠i→listed.getD j true=false→(T.getD j 0).testBit i=false→oi.apart ops oj=true) →
   ClosedL ops listed→i∈Region.ready .any ops listed→YR P ops oi v a H→(pB=true→YP P ops oi v a) →
   PendOk P ops T listed pend a H→(∀ p∈pend,∀ o,ops[p.1]? = some o→∀ d,oi.dst=some d→d∉o.looksAt ops) →
   anyZ P rd rB ops T K Z fuel (listed.setIfInBounds i true) (if pB then pend else (i,v)::pend) (a.put oi.dst v) H→anyZ P rd rB ops T K Z (fuel+1) listed pend a H:=by
 intro fuel
 induction fuel with
 | zero=>
  intro listed pend a H hfree hcl hr hy hp hpd hno h
  refine ⟨fun h0=>(by rw [h0] at hr;cases hr),fun j hj=>?_⟩
  by_cases hji:j=i
  ·subst hji
   unfold xStep
   simp only [hi]
   rw [if_pos hri]
   refine ⟨v,hy,?_,h⟩
   intro p hp' _ o ho
   obtain ⟨o',ho',hy',_⟩:=hpd p hp'
   rw [ho] at ho'
   cases ho'
   exact hy'.fr.same (execOp_put o (fun cs b=>hsel _ o cs b ho) a oi.dst v (hno p hp' o ho)) (wanted_put o a oi.dst v (hno p hp' o ho))
  ·have:=ready_mono hj hji
   rw [h.1] at this
   cases this
 | succ fuel ih=>
  intro listed pend a H hfree hcl hr hy hp hpd hno h
  refine ⟨fun h0=>(by rw [h0] at hr;cases hr),fun j hj=>?_⟩
  by_cases hji:j=i
  ·subst hji
   unfold xStep
   simp only [hi]
   rw [if_pos hri]
   refine ⟨v,hy,?_,?_⟩
   ·intro p hp' _ o ho
    obtain ⟨o',ho',hy',_⟩:=hpd p hp'
    rw [ho] at ho'
    cases ho'
    exact hy'.fr.same (execOp_put o (fun cs b=>hsel _ o cs b ho) a oi.dst v (hno p hp' o ho)) (wanted_put o a oi.dst v (hno p hp' o ho))
   ·refine anyZ_mono _ _ _ _ _ _ (fun x hx=>?_) h
    have hx':x∈pend:=(List.mem_filter.1 hx).1
    cases pB
    ·exact List.mem_cons_of_mem _ hx'
    ·exact hx'
  ·have h1:=h.2 j (ready_mono hj hji)
   obtain ⟨hjun,oj,hoj,hall⟩:=mem_ready.1 hj
   have hif:listed.getD i false=false:=by
    have h0:=(mem_ready.1 hr).1
    rcases Nat.lt_or_ge i listed.size with h' | h'
    ·simp [h'] at h0 ⊢;exact h0
    ·simp [Array.getElem?_eq_none h']
   have hnot:=hT.waits hcl hif (j+1) j oj (by omega) hoj hall
   have hap:=hfree j oj hoj hji hjun hnot
   have h3:=(Oper.apart_spec hap).2.2
   have h2:=xStep_swap (oi:=oi) (v:=v) hoj hap (fun cs b=>hsel j oj cs b hoj) hZ h1
   refine h2.mono ?_ (fun _ _ h=>h)
   rintro a' H' ⟨hext,hPF,htree⟩
   have hx:=hext.exec (ops:=ops) (fun cs b=>hsel i oi cs b hi) h3
   -- what i reads,behind j
   have hy':YR P ops oi v a' H':=by
    cases hb:pB with
    | true=>exact (hp hb H').of_same hx.1 hx.2
    | false=>
     rw [hb] at hPF
     have hf:=hPF (i,v) List.mem_cons_self hnot oi hi
     refine hy.re hx.2 (hf.same ?_ ?_)
     ·exact (execOp_put oi (fun cs b=>hsel i oi cs b hi) a' oi.dst v hself).symm
     ·exact (wanted_put oi a' oi.dst v hself).symm
   have hp':pB=true→YP P ops oi v a':=fun hb A=>(hp hb A).of_same hx.1 hx.2
   have hPF':PF P ops T j pend a' H':=by
    intro p hpm hpb o ho
    have hf:=hPF p (by cases pB;exact List.mem_cons_of_mem _ hpm;exact hpm) hpb o ho
    exact hf.same (execOp_put o (fun cs b=>hsel _ o cs b ho) a' oi.dst v (hno p hpm o ho)).symm (wanted_put o a' oi.dst v (hno p hpm o ho)).symm
   refine ⟨hPF',?_⟩
   refine ih (listed.setIfInBounds j true) (keepP T j pend) a' H' ?_ (hcl.set hj) (ready_mono hr (Ne.symm hji)) hy' hp' (hpd.step hsel hoj hjun hext hPF') ?_ ?_
   ·intro k ok hk hki hun hno'
    refine hfree k ok hk hki ?_ hno'
    by_cases hjk:j=k
    ·subst hjk;exact hjun
    ·rw [getD_set_ne true hjk] at hun;exact hun
   ·exact fun p hpm=>hno p (List.mem_filter.1 hpm).1
   ·rw [Array.setIfInBounds_comm _ _ hji]
    have e:keepP T j (if pB=true then pend else (i,v)::pend)=if pB=true then keepP T j pend else (i,v)::keepP T j pend:=by
     cases pB
     ·unfold keepP
      rw [if_neg Bool.false_ne_true,if_neg Bool.false_ne_true,List.filter_cons,if_pos (by simp only [hnot];rfl)]
     ·rfl
    rw [e] at htree
    exact htree
end
def freeQ (P:Program) (T:List Nat) (pend:List Nat) (ops:Array Oper) (listed:Array Bool) (i:Nat):Bool:=
 match ops[i]? with
 | none=>false
 | some oi=>isR P oi && ((match oi.dst with | some d=>!(oi.looksAt ops).contains d | none=>true) &&
   ((pend.all fun p=>match ops[p]? with
    | some o=>(match oi.dst with | some d=>!(o.looksAt ops).contains d | none=>true)
    | none=>true) &&
   (List.range ops.size).all fun j=>j == i || listed.getD j true || match ops[j]? with
    | some oj=>(T.getD j 0).testBit i || oi.apart ops oj
    | none=>true))
def ldAgg (P:Program) (t:TypeId) (H:Hp) (a:Addr) (v:Value):Prop:=match v with
 | .agg cs=>if szOk P t cs.size then AtL H a 0 cs.toList else False
 | _=>False
def ldIs (P:Program) (t:TypeId) (H:Hp) (a:Addr) (v:Value):Prop:=match P.underlying t with
 | some (.struct _) | some (.array _ _)=>ldAgg P t H a v
 | some _=>hcell H a=some v
 | none=>False
def factL (P:Program) (o:Oper) (E:Env) (H:Hp) (v:Value):Prop:=match o.op with
 | .load t x=>opK E x fun av=>ptrK av.2 fun ad=>ldIs P t H ad v
 | _=>False
def outB (ops:Array Oper) (o:Oper) (E:Env) (yes no:Prop):Prop:=match o.guard with
 | none=>yes
 | some (g,want)=>(match (ops[g]?).bind (·.dst) with
   | none=>no
   | some d=>getK E.t d fun fv=>(match fv with
     | (true,.bool b)=>if b == want then yes else no
     | _=>yes))
def factsC (P:Program) (ops:Array Oper) (T:List Nat) (j:Nat) (E:Env) (H:Hp) (k:Prop):Pend→Prop
 | []=>k
 | p::ps=>if (T.getD j 0).testBit p.1 then factsC P ops T j E H k ps else (match ops[p.1]? with
   | some o=>outB ops o E (factL P o E H p.2∧factsC P ops T j E H k ps) (factsC P ops T j E H k ps)
   | none=>factsC P ops T j E H k ps)
def addP (P:Program) (ops:Array Oper) (i:Nat) (pend:Pend) (E:Env) (k:Pend→Prop):Prop:=match ops[i]? with
 | some o=>if isP P o then k pend else (match o.dst with
   | some d=>if d < E.t.length then getK E.t d fun fv=>k ((i,fv.2)::pend) else False
   | none=>False)
 | none=>False
def anyQ (P:Program) (rd:Option Nat) (ops:Array Oper) (T:List Nat) (Z:List Deferred→List PanicEntry→Hp→Prop) (K:Env→Hp→Prop):Nat→List Bool→Pend→Env→Hp→Prop
 | 0,listed,pend,E,H=>(match Region.ready .any ops listed.toArray with | []=>K E H | _=>False)
 | n+1,listed,pend,E,H=>(match Region.ready .any ops listed.toArray with
  | []=>K E H
  | r::rs=>(match (r::rs).find? (freeQ P T (pend.map (·.1)) ops listed.toArray) with
   | some i=>setK listed i true fun l'=>stepC P rd ops i E H (fun E' H'=>addP P ops i pend E' fun pend'=>anyQ P rd ops T Z K n l' pend' E' H') Z
   | none=>allC (r::rs) fun i=>setK listed i true fun l'=>stepC P rd ops i E H (fun E' H'=>factsC P ops T i E' H' (anyQ P rd ops T Z K n l' (keepP T i pend) E' H') pend) Z))
theorem ldAgg_run {P:Program}{t:TypeId}{H:Hp}{a:Addr}{v:Value}(hu:∀ w,(isAgg t).run P w = .ok true w) (h:ldAgg P t H a v):∀ w:World,w.heap=H→(loadVar t a).run P w = .ok v w:=by
 cases v <;> try (exact h.elim)
 rename_i cs
 unfold ldAgg at h
 simp only at h
 split at h
 ·rename_i hs
  intro w hw
  subst hw
  unfold loadVar
  simp only [bind]
  rw [run_bind,hu w]
  simp only [if_true]
  rw [run_bind,sizeOf_run hs w]
  simp only
  rw [run_bind]
  unfold loadCells
  have e:cs.size=cs.toList.length:=by simp
  rw [e,loadCells_run cs.toList 0 #[] h]
  simp [pure,Sem.run]
 ·exact h.elim
theorem ldIs_run {P:Program}{t:TypeId}{H:Hp}{a:Addr}{v:Value}(h:ldIs P t H a v):∀ w:World,w.heap=H→(loadVar t a).run P w = .ok v w:=by
 unfold ldIs at h
 split at h
 ·rename_i fs hu
  exact ldAgg_run (fun w=>by simp [isAgg,underlying,program,bind,Sem.bind,pure,Sem.run,hu]) h
 ·rename_i l e hu
  exact ldAgg_run (fun w=>by simp [isAgg,underlying,program,bind,Sem.bind,pure,Sem.run,hu]) h
 ·rename_i d hn1 hn2 hu
  intro w hw
  subst hw
  have hc:hcell w.heap a=some v:=h
  have ha:(isAgg t).run P w = .ok false w:=by
   simp only [isAgg,underlying,program,bind,Sem.bind,pure,Sem.run,hu]
   try (cases d <;> first | rfl | (exact absurd hu (hn1 _)) | (exact absurd hu (hn2 _ _)))
  unfold loadVar
  simp only [bind]
  rw [run_bind,ha]
  simp only [Bool.false_eq_true,if_false]
  simp only [load,Sem.run,show w.cell? a=some v from hc]
 ·exact h.elim
theorem factL_sound {P:Program}{ops:Array Oper}{o:Oper}{E:Env}{H:Hp}{v:Value}(h:factL P o E H v):FR P ops o v E.act H:=by
 intro _
 unfold factL at h
 split at h
 ·rename_i t x ho
  obtain ⟨f,h⟩:=opK_sound h
  obtain ⟨ad,hv,h⟩:=ptrK_sound h
  intro w hw
  simp only at hv
  unfold execOp
  rw [ho]
  simp only [bind,Instr.loadAt,hv,Instr.sureAddr,pure,Sem.bind]
  rw [run_bind,ldIs_run h w hw]
  rfl
 ·exact h.elim
theorem outB_sound {ops:Array Oper}{o:Oper}{E:Env}{yes no:Prop}(h:outB ops o E yes no):yes∨(no∧Region.wanted o (yielded ops E.act.tmps)=false):=by
 unfold outB at h
 unfold Region.wanted
 split at h
 ·exact .inl h
 ·rename_i g want hg
  simp only [hg]
  split at h
  ·rename_i hd
   exact .inr ⟨h,by simp [yielded,hd]⟩
  ·rename_i d hd
   rw [getK_eq] at h
   have hy:yielded ops E.act.tmps g=match (E.t[d]?).map (·.2) with | some (.bool b)=>some b | _=>none:=by
    unfold yielded
    rw [hd]
    simp [Env.act]
    cases E.t[d]? <;> rfl
   cases hx:E.t[d]? with
   | none=>
    rw [List.getD_eq_getElem?_getD,hx] at h
    simp only [Option.getD_none] at h
    exact .inl h
   | some fv=>
    rw [List.getD_eq_getElem?_getD,hx] at h
    simp only [Option.getD_some] at h
    rw [hy,hx]
    obtain ⟨f,v⟩:=fv
    cases f with
    | false=>exact .inl (by cases v <;> exact h)
    | true=>
     cases v with
     | bool b=>
      simp only at h
      by_cases hb:(b == want)=true
      ·rw [if_pos hb] at h;exact .inl h
      ·rw [if_neg hb] at h
       have:b≠want:=by simpa using hb
       exact .inr ⟨h,by simpa using this⟩
     | _=>exact .inl h
theorem factsC_sound {P:Program}{ops:Array Oper}{T:List Nat}{j:Nat}{E:Env}{H:Hp}{k:Prop}:∀ {pend:Pend},factsC P ops T j E H k pend→PF P ops T j pend E.act H∧k
 | [],h=>⟨(fun p hp=>by cases hp),h⟩
 | p::ps,h=>by
  unfold factsC at h
  by_cases hb:(T.getD j 0).testBit p.1=true
  ·rw [if_pos hb] at h
   obtain ⟨h1,h2⟩:=factsC_sound h
   refine ⟨fun q hq hqb=>?_,h2⟩
   rcases List.mem_cons.1 hq with rfl | hq
   ·rw [hb] at hqb;cases hqb
   ·exact h1 q hq hqb
  ·rw [if_neg hb] at h
   cases ho:ops[p.1]? with
   | none=>
    simp only [ho] at h
    obtain ⟨h1,h2⟩:=factsC_sound h
    refine ⟨fun q hq hqb=>?_,h2⟩
    rcases List.mem_cons.1 hq with rfl | hq
    ·intro o ho';rw [ho] at ho';cases ho'
    ·exact h1 q hq hqb
   | some o=>
    simp only [ho] at h
    rcases outB_sound h with ⟨hf,h⟩ | ⟨h,hw⟩
    ·obtain ⟨h1,h2⟩:=factsC_sound h
     refine ⟨fun q hq hqb=>?_,h2⟩
     rcases List.mem_cons.1 hq with rfl | hq
     ·intro o' ho';rw [ho] at ho';cases ho';exact factL_sound hf
     ·exact h1 q hq hqb
    ·obtain ⟨h1,h2⟩:=factsC_sound h
     refine ⟨fun q hq hqb=>?_,h2⟩
     rcases List.mem_cons.1 hq with rfl | hq
     ·intro o' ho';rw [ho] at ho';cases ho';intro hw';rw [hw] at hw';cases hw'
     ·exact h1 q hq hqb
theorem freeQ_spec {P:Program}{T:List Nat}{pend:List Nat}{ops:Array Oper}{listed:Array Bool}{i:Nat}{oi:Oper}(hi:ops[i]? = some oi) (h:freeQ P T pend ops listed i=true) :
  isR P oi=true∧(∀ d,oi.dst=some d→d∉oi.looksAt ops)∧(∀ p∈pend,∀ o,ops[p]? = some o→∀ d,oi.dst=some d→d∉o.looksAt ops) ∧
  ∀ (j:Nat) (oj:Oper),ops[j]? = some oj→j≠i→listed.getD j true=false→(T.getD j 0).testBit i=false→oi.apart ops oj=true:=by
 simp only [freeQ,hi,Bool.and_eq_true,List.all_eq_true,List.mem_range] at h
 obtain ⟨h1,h2,h3,h4⟩:=h
 refine ⟨h1,fun d hd=>?_,fun p hp o ho d hd=>?_,fun j oj hj hne hun hno=>?_⟩
 ·rw [hd] at h2;simpa using h2
 ·have:=h3 p hp
  rw [ho,hd] at this
  simpa using this
 ·have hjs:j < ops.size:=(Array.getElem?_eq_some_iff.1 hj).1
  have:=h4 j hjs
  rw [hj] at this
  have hne':(j == i)=false:=by simpa using hne
  rw [hne',hun] at this
  simp only [Bool.false_or,hno] at this
  exact this
theorem slot_of {E E':Env}{d:Nat}{v:Value}(he:E'.act=E.act.put (some d) v) (hd:d < E'.t.length):(E'.t.getD d (false,undef)).2=v:=by
 have h1:=congrArg (fun a:Act=>a.tmps[d]?) he
 simp only [Env.act,Act.put] at h1
 have hlen:=congrArg (fun a:Act=>a.tmps.size) he
 simp only [Env.act,Act.put] at hlen
 simp at hlen
 simp at h1
 rw [List.getElem?_eq_getElem hd] at h1
 rw [List.getD_eq_getElem?_getD,List.getElem?_eq_getElem hd]
 simp only [Option.map_some,Option.getD_some] at h1 ⊢
 have hdl:d < E.t.length:=by omega
 rw [List.getElem?_set_self (by simpa using hdl)] at h1
 exact Option.some.inj h1
theorem anyQ_sound {P:Program}{rd:Option Nat}{ops:Array Oper}{Z:List Deferred→List PanicEntry→Hp→Prop}{K:Env→Hp→Prop}{T:List Nat}(hT:TabOk ops T) (hs:Region.noSelect ops=true) :
  ∀ (n:Nat) (listed:List Bool) (pend:Pend) (E:Env) (H:Hp),ClosedL ops listed.toArray→PendOk P ops T listed.toArray pend E.act H→anyQ P rd ops T Z K n listed pend E H →
   anyZ P rd (isR P) ops T (onE K) (onZ Z) n listed.toArray pend E.act H:=by
 have setA:∀ (l:List Bool) (i:Nat),(l.set i true).toArray=l.toArray.setIfInBounds i true:=by intro l i;simp
 have hsel:∀ (j:Nat) (o:Oper) cs b,ops[j]? = some o→o.op ≠ .select cs b:=fun j oj cs b hj=>Region.noSelect_spec hs j oj cs b hj
 intro n
 induction n with
 | zero=>
  intro listed pend E H hcl hpd h
  unfold anyQ at h
  split at h
  ·rename_i hr;exact ⟨hr,E,rfl,h⟩
  ·exact h.elim
 | succ n ih=>
  intro listed pend E H hcl hpd h
  unfold anyQ at h
  split at h
  ·rename_i hr
   exact ⟨fun _=>⟨E,rfl,h⟩,by rw [hr];simp⟩
  ·rename_i r rs hr
   split at h
   ·rename_i i hf
    have hfree:=List.find?_some hf
    have hmem:=List.mem_of_find?_eq_some hf
    rw [← hr] at hmem
    obtain ⟨hun,o,ho,_⟩:=mem_ready.1 hmem
    obtain ⟨hri,hself,hno,hspec⟩:=freeQ_spec ho hfree
    have hno':∀ p∈pend,∀ o',ops[p.1]? = some o'→∀ d,o.dst=some d→d∉o'.looksAt ops:=fun p hp=>hno p.1 (List.mem_map.2 ⟨p,hp,rfl⟩)
    rw [setK_eq] at h
    obtain ⟨v,hy,hp,E',he,hK⟩:=stepC_yields ho hri h
    have hZ:∀ (a:Act) d u c H,onZ Z (a.put d u) c H→onZ Z a c H:=by
     intro a d u c H hz;unfold onZ at *;rw [put_defers] at hz;exact hz
    -- those that were read,behind this one
    have hpd2:PendOk P ops T (listed.toArray.setIfInBounds i true) pend E'.act H:=by
     intro p hpm
     obtain ⟨o',ho',hy',hl',hap'⟩:=hpd p hpm
     refine ⟨o',ho',?_,getD_set_true hl',?_⟩
     ·rw [he]
      exact hy'.of_same (execOp_put o' (fun cs b=>hsel _ o' cs b ho') _ o.dst v (hno' p hpm o' ho')) (wanted_put o' _ o.dst v (hno' p hpm o' ho'))
     ·intro k ok hk hku
      refine hap' k ok hk ?_
      by_cases hjk:i=k
      ·subst hjk;exact hun
      ·rwa [getD_set_ne true hjk] at hku
    unfold addP at hK
    simp only [ho] at hK
    by_cases hpP:isP P o=true
    ·rw [if_pos hpP] at hK
     refine anyZ_first (pB:=true) ho hri hT hsel hZ hself n listed.toArray pend E.act H hspec hcl hmem hy (fun _=>hp hpP) hpd hno' ?_
     rw [if_pos rfl,← setA,← he]
     exact ih _ _ _ _ (by rw [setA];exact hcl.set hmem) (by rw [setA];exact hpd2) hK
    ·rw [if_neg hpP] at hK
     cases hdst:o.dst with
     | none=>rw [hdst] at hK;exact hK.elim
     | some d=>
      simp only [hdst] at hK
      split at hK
      ·rename_i hdl
       rw [getK_eq] at hK
       have hv:(E'.t.getD d (false,undef)).2=v:=slot_of (E:=E) (E':=E') (d:=d) (v:=v) (by rw [he,hdst]) hdl
       rw [hv] at hK
       refine anyZ_first (pB:=false) ho hri hT hsel hZ hself n listed.toArray pend E.act H hspec hcl hmem hy (fun h=>by cases h) hpd hno' ?_
       rw [if_neg Bool.false_ne_true,← setA,← he]
       refine ih _ _ _ _ (by rw [setA];exact hcl.set hmem) ?_ hK
       intro p hpm
       rw [setA]
       rcases List.mem_cons.1 hpm with rfl | hpm
       ·refine ⟨o,ho,?_,?_,?_⟩
        ·rw [he]
         exact hy.of_same (execOp_put o (fun cs b=>hsel _ o cs b ho) _ o.dst v hself) (wanted_put o _ o.dst v hself)
        ·have hlt:i < listed.toArray.size:=by
          rcases Nat.lt_or_ge i listed.toArray.size with h' | h'
          ·exact h'
          ·rw [Array.getD_eq_getD_getElem?,Array.getElem?_eq_none h'] at hun
           cases hun
         rw [Array.getD_eq_getD_getElem?,Array.getElem?_setIfInBounds_self_of_lt hlt]
         rfl
        ·intro k ok hk hku hkb
         by_cases hik:k=i
         ·subst hik
          exfalso
          have hlt:k < listed.toArray.size:=by
           rcases Nat.lt_or_ge k listed.toArray.size with h' | h'
           ·exact h'
           ·rw [Array.getD_eq_getD_getElem?,Array.getElem?_eq_none h'] at hun
            cases hun
          rw [Array.getD_eq_getD_getElem?,Array.getElem?_setIfInBounds_self_of_lt hlt] at hku
          cases hku
         ·refine hspec k ok hk hik ?_ hkb
          rwa [getD_set_ne true (Ne.symm hik)] at hku
       ·exact hpd2 p hpm
      ·exact hK.elim
   ·refine ⟨fun h0=>(by rw [h0] at hr;cases hr),fun i hi=>?_⟩
    have hmem:=hi
    rw [hr] at hi
    have h1:=allC_mem h i hi
    simp only [setK_eq] at h1
    obtain ⟨hun,o,ho,_⟩:=mem_ready.1 hmem
    refine (xStep_ext ho (stepC_sound h1)).mono ?_ (fun _ _ h=>h)
    rintro a' H' ⟨hext,E',he,hK⟩
    obtain ⟨hPF,hK⟩:=factsC_sound hK
    rw [he] at hPF
    refine ⟨hPF,?_⟩
    rw [← setA,← he]
    refine ih _ _ _ _ (by rw [setA];exact hcl.set hmem) ?_ hK
    rw [setA,he]
    exact hpd.step hsel ho hun hext hPF
def regQ (P:Program) (rd:Option Nat) (ops:Array Oper) (Z:List Deferred→List PanicEntry→Hp→Prop) (K:Env→Hp→Prop) (E:Env) (H:Hp):Prop:=
 if Region.noSelect ops && P.follows .mixedOrders then anyQ P rd ops (befL ops.toList 0 []) Z K ops.size (List.replicate ops.size false) [] E H else False
end Go.V
end
section
namespace Go.V
def Sc.T:Sc→Type
 | .int _=>Int | .bool=>Bool | .str=>ByteArray | .ptr=>Option Addr | .sl=>Sl | .map=>Option Nat | .raw=>Value
def Tup:List Sc→Type
 | []=>Unit
 | s::ss=>s.T × Tup ss
def Ty1.T:Ty1→Type
 | .sc s=>s.T
 | .agg ss=>Tup ss
def Sc.val:(s:Sc)→s.T→Value
 | .int k,n=>.int k n
 | .bool,b=>.bool b
 | .str,s=>.string s
 | .ptr,p=>.pointer p
 | .sl,s=>.slice (Sl.a s) (Sl.n s) (Sl.c s)
 | .map,m=>.map m
 | .raw,v=>v
def tupV:(ss:List Sc)→Tup ss→List Value
 | [],_=>[]
 | s::ss,y=>s.val y.1::tupV ss y.2
def Ty1.val:(t:Ty1)→t.T→Value
 | .sc s,y=>s.val y
 | .agg ss,y=>.agg (tupV ss y).toArray
def unS:(s:Sc)→Value→(s.T→Prop)→Prop
 | .int k,v,F=>(match v with | .int k' n=>if k'=k then F n else False | _=>False)
 | .bool,v,F=>(match v with | .bool b=>F b | _=>False)
 | .str,v,F=>(match v with | .string b=>F b | _=>False)
 | .ptr,v,F=>(match v with | .pointer b=>F b | _=>False)
 | .sl,v,F=>(match v with | .slice a n c=>F (⟨a,n,c⟩:Sl) | _=>False)
 | .map,v,F=>(match v with | .map b=>F b | _=>False)
 | .raw,v,F=>F v
theorem unS_sound {s:Sc}{v:Value}{F:s.T→Prop}(h:unS s v F):∃ y,s.val y=v∧F y:=by
 cases s with
 | int k=>
  cases v <;> first | exact h.elim | skip
  rename_i k' n
  simp only [unS] at h
  split at h
  ·rename_i hk;subst hk;exact ⟨n,rfl,h⟩
  ·exact h.elim
 | raw=>exact ⟨v,rfl,h⟩
 | _=>cases v <;> first | exact h.elim | exact ⟨_,rfl,h⟩
def unL:(ss:List Sc)→List Value→(Tup ss→Prop)→Prop
 | [],[],F=>F ()
 | s::ss,v::vs,F=>unS s v fun y=>unL ss vs fun ys=>F (y,ys)
 | _,_,_=>False
theorem unL_sound:∀ {ss:List Sc}{vs:List Value}{F:Tup ss→Prop},unL ss vs F→∃ y,tupV ss y=vs∧F y
 | [],[],F,h=>⟨(),rfl,h⟩
 | s::ss,v::vs,F,h=>by
  obtain ⟨y,hy,h⟩:=unS_sound h
  obtain ⟨ys,hys,h⟩:=unL_sound h
  exact ⟨(y,ys),by simp [tupV,hy,hys],h⟩
 | [],_::_,F,h=>h.elim
 | _::_,[],F,h=>h.elim
def un1:(t:Ty1)→Value→(t.T→Prop)→Prop
 | .sc s,v,F=>unS s v F
 | .agg ss,v,F=>(match v with | .agg cs=>unL ss cs.toList F | _=>False)
theorem un1_sound {t:Ty1}{v:Value}{F:t.T→Prop}(h:un1 t v F):∃ y,t.val y=v∧F y:=by
 cases t with
 | sc s=>exact unS_sound h
 | agg ss=>
  cases v <;> first | exact h.elim | skip
  rename_i cs
  obtain ⟨y,hy,h⟩:=unL_sound h
  exact ⟨y,by simp only [Ty1.val,hy],h⟩
def Cur:List Ty1→Type→Type
 | [],β=>β
 | t::ts,β=>t.T→Cur ts β
def faC {β : Type}:(ts:List Ty1)→Cur ts β→(List Value→β→Prop)→Prop
 | [],I,F=>F [] I
 | t::ts,I,F=>∀ y:t.T,faC ts (I y) fun vs b=>F (t.val y::vs) b
def apC {β : Type}:(ts:List Ty1)→Cur ts β→List Value→(β→Prop)→Prop
 | [],I,_,k=>k I
 | t::ts,I,v::vs,k=>un1 t v fun y=>apC ts (I y) vs k
 | _::_,_,[],_=>False
theorem apC_fa {β : Type}:∀ {ts:List Ty1}{I:Cur ts β}{vs:List Value}{k : β→Prop}{F:List Value→β→Prop},vs.length=ts.length→apC ts I vs k→faC ts I F→∃ b,k b∧F vs b
 | [],I,[],k,F,_,h,hf=>⟨I,h,hf⟩
 | t::ts,I,v::vs,k,F,hl,h,hf=>by
  obtain ⟨y,hy,h⟩:=un1_sound h
  have hf:=hf y
  rw [hy] at hf
  exact apC_fa (ts:=ts) (vs:=vs) (Nat.succ.inj hl) h hf
 | [],I,_::_,k,F,hl,_,_=>by simp at hl
 | _::_,I,[],k,F,hl,_,_=>by simp at hl
def slotsK (E:List (Bool × Value)):List Nat→(List Value→Prop)→Prop
 | [],k=>k []
 | s::ss,k=>getK E s fun v=>slotsK E ss fun vs=>k (v.2::vs)
def valAt (E:Env) (i:Nat):Value:=(E.t.getD i (false,undef)).2
theorem slotsK_eq {E:Env}:∀ {ss:List Nat}{k:List Value→Prop},slotsK E.t ss k→k (ss.map (valAt E))
 | [],k,h=>h
 | s::ss,k,h=>by
  simp only [slotsK,getK_eq] at h
  exact slotsK_eq (k:=fun vs=>k (valAt E s::vs)) h
def findV:List Nat→List Value→Nat→Option Value
 | s::ss,v::vs,i=>if s == i then some v else findV ss vs i
 | _,_,_=>none
theorem findV_map {f:Nat→Value}:∀ {ss:List Nat}{i:Nat}{v:Value},findV ss (ss.map f) i=some v→v=f i
 | [],i,v,h=>by simp [findV] at h
 | s::ss,i,v,h=>by
  simp only [List.map_cons,findV] at h
  by_cases hs:(s == i)=true
  ·rw [if_pos hs] at h
   have:s=i:=by simpa using hs
   subst this
   exact (Option.some.inj h).symm
  ·rw [if_neg hs] at h
   exact findV_map h
def upd (ms sl:List Nat) (vs:List Value) (scr:Nat→Value):Nat→List (Bool × Value)→List (Bool × Value)
 | _,[]=>[]
 | i,x::xs=>(match findV sl vs i with | some v=>(false,v) | none=>if ms.contains i then (false,scr i) else x)::upd ms sl vs scr (i+1) xs
def AgrA (ms:List Nat) (a a':Act):Prop:=a'.tmps.size=a.tmps.size∧∀ i,ms.contains i=false→a'.tmps[i]? = a.tmps[i]?
theorem AgrA.refl (ms:List Nat) (a:Act):AgrA ms a a:=⟨rfl,fun _ _=>rfl⟩
theorem AgrA.trans {m1 m2:List Nat}{a b c:Act}(h:AgrA m1 a b) (k:AgrA m2 b c):AgrA (m1++m2) a c:=by
 refine ⟨k.1.trans h.1,fun i hi=>?_⟩
 simp only [List.contains_append,Bool.or_eq_false_iff] at hi
 exact (k.2 i hi.2).trans (h.2 i hi.1)
theorem AgrA.trans1 {m:List Nat}{a b c:Act}(h:AgrA m a b) (k:AgrA m b c):AgrA m a c:=
 ⟨k.1.trans h.1,fun i hi=>(k.2 i hi).trans (h.2 i hi)⟩
theorem AgrA.left {m1 m2:List Nat}{a b:Act}(h:AgrA m1 a b):AgrA (m1++m2) a b:=
 ⟨h.1,fun i hi=>h.2 i (by simp only [List.contains_append,Bool.or_eq_false_iff] at hi;exact hi.1)⟩
theorem AgrA.right {m1 m2:List Nat}{a b:Act}(h:AgrA m2 a b):AgrA (m1++m2) a b:=
 ⟨h.1,fun i hi=>h.2 i (by simp only [List.contains_append,Bool.or_eq_false_iff] at hi;exact hi.2)⟩
theorem upd_act {ms sl:List Nat}{E E':Env}(h:AgrA ms E.act E'.act) (hd:E'.d=E.d) :
  (⟨upd ms sl (sl.map (valAt E')) (valAt E') 0 E.t,E.d⟩:Env).act=E'.act:=by
 have hlen:E'.t.length=E.t.length:=by have:=h.1;simpa [Env.act] using this
 have key:∀ (l:List (Bool × Value)) (j:Nat),(∀ i,i < l.length→ms.contains (j+i)=false→(l[i]?).map (·.2)=some (valAt E' (j+i))) →
   (upd ms sl (sl.map (valAt E')) (valAt E') j l).map (·.2)=(List.range l.length).map (fun i=>valAt E' (j+i)):=by
  intro l
  induction l with
  | nil=>intro j _;rfl
  | cons x xs ih=>
   intro j hx
   simp only [upd,List.map_cons,List.length_cons,List.range_succ_eq_map,List.map_map]
   congr 1
   ·cases hf:findV sl (sl.map (valAt E')) j with
    | some v=>simp only [hf];exact findV_map hf
    | none=>
     simp only [hf]
     by_cases hm:ms.contains j=true
     ·rw [if_pos hm];rfl
     ·rw [if_neg hm]
      have:=hx 0 (by simp) (by simpa using hm)
      simpa using this
   ·rw [ih (j+1) (fun i hi hm=>?_)]
    ·apply List.map_congr_left
     intro i _
     simp only [Function.comp]
     congr 1
     omega
    ·have:=hx (i+1) (by simpa using hi) (by rw [← hm];congr 1;omega)
     simp only [List.getElem?_cons_succ] at this
     rw [this]
     congr 2
     omega
 simp only [Env.act]
 rw [key E.t 0 ?_]
 ·congr 1
  ·congr 1
   apply List.ext_getElem?
   intro i
   simp only [List.getElem?_map,Nat.zero_add]
   by_cases hi:i < E.t.length
   ·rw [List.getElem?_range hi]
    have hi':i < E'.t.length:=by omega
    simp [valAt,hi']
   ·rw [List.getElem?_eq_none (by simpa using hi),List.getElem?_eq_none (by omega)]
    rfl
  ·exact hd.symm
 ·intro i hi hm
  have h2:=h.2 i (by simpa using hm)
  have hi':i < E'.t.length:=by omega
  simp only [Env.act] at h2
  simp at h2
  rw [List.getElem?_eq_getElem hi,List.getElem?_eq_getElem hi'] at h2
  rw [List.getElem?_eq_getElem hi]
  simp only [Option.map_some,Option.some.injEq] at h2 ⊢
  simp [valAt,hi',h2]
def mods:Code→List Nat
 | .region _ ops _=>ops.toList.filterMap (·.dst)
 | .seq a b=>mods a++mods b
 | .cond _ a b=>mods a++mods b
 | .block _ c=>mods c
 | .loop c=>mods c
 | .scope c=>mods c
 | _=>[]
def key:Code→Nat
 | .region id _ _=>id
 | .seq a b=>if key a=1000000 then key b else key a
 | .cond _ a b=>if key a=1000000 then key b else key a
 | .block _ c=>key c
 | .loop c=>key c
 | .scope c=>key c
 | .rangeFunc _ _ a b=>if key a=1000000 then key b else key a
 | _=>1000000
def dsame (d d':List Deferred) (k:Prop):Prop:=match d,d' with
 | [],[]=>k
 | d,d'=>d'=d∧k
theorem dsame_sound {d d':List Deferred}{k:Prop}(h:dsame d d' k):d'=d∧k:=by
 unfold dsame at h
 split at h
 ·exact ⟨rfl,h⟩
 ·exact h
def endLoopK (l:Nat) (H:Hp) (K:Option Code→Hp→Prop):Prop:=
 ∃ r,H[l]? = some (.loop r)∧(r.state == .busy)=false∧∀ H',H'=H.setIfInBounds l (.loop { r with state:=.exhausted })→K r.pending H'
def exitsOf:Code→List Nat
 | .exit id=>[id]
 | .seq a b=>exitsOf a++exitsOf b
 | .cond _ a b=>exitsOf a++exitsOf b
 | .block id c=>(exitsOf c).filter fun x=>!(x == id)
 | .loop c=>exitsOf c
 | .scope c=>exitsOf c
 | .rangeFunc _ _ a b=>exitsOf a++exitsOf b
 | _=>[]
def retIn:Code→Bool
 | .ret=>true
 | .seq a b=>retIn a || retIn b
 | .cond _ a b=>retIn a || retIn b
 | .block _ c=>retIn c
 | .loop c=>retIn c
 | .scope c=>retIn c
 | .rangeFunc _ _ a b=>retIn a || retIn b
 | _=>false
def jmpL:List Nat→Nat→(Nat→Prop)→Prop
 | [],_,_=>False
 | x::xs,id,k=>if id=x then k x else jmpL xs id k
theorem jmpL_sound:∀ {l:List Nat}{id:Nat}{k:Nat→Prop},jmpL l id k→k id
 | [],_,_,h=>h.elim
 | x::xs,id,k,h=>by
  unfold jmpL at h
  split at h
  ·rename_i he;subst he;exact h
  ·exact jmpL_sound h
def jmpV (j:Option Code) (A B:Prop) (C:Nat→Prop):Prop:=match j with
 | none=>A
 | some .ret=>B
 | some (.exit id)=>C id
 | _=>False
def jmpK (c:Code) (j:Option Code) (Q:Exit→Env→Hp→Prop) (E:Env) (H:Hp):Prop:=
 jmpV j (Q .normal E H) (if retIn c then Q .ret E H else False) (fun id=>jmpL (exitsOf c) id fun x=>Q (.exit x) E H)
def callG (P:Program) (v:Value) (args:List Value) (H:Hp) (K:Value→Hp→Prop) (Z:List PanicEntry→Hp→Prop):Prop:=match v with
 | .func (.func g) first cap=>if fnOk P g then CallF P g (first.toList++args++cap.toList).toArray H K Z else False
 | _=>False
abbrev Ann:=Nat→Option (List (Nat × Ty1))
def comp (P:Program) (rd:Option Nat) (fn:FuncId) (aJ aL:Ann) (Z:List Deferred→List PanicEntry→Hp→Prop):Code→(Exit→Env→Hp→Prop)→Env→Hp→Prop
 | .skip,Q,E,H=>Q .normal E H
 | .label _,Q,E,H=>Q .normal E H
 | .region id ops draw,Q,E,H=>if draw && (aJ (2000000+id)).isSome then regQ P rd ops Z (fun E' H'=>Q .normal E' H') E H else regC P rd ops draw Z (fun E' H'=>Q .normal E' H') E H
 | .seq x y,Q,E,H=>(match aJ (key y) with
  | none=>comp P rd fn aJ aL Z x (fun e E' H'=>match e with | .normal=>comp P rd fn aJ aL Z y Q E' H' | e=>Q e E' H') E H
  | some js=>∃ J:Cur (js.map (·.2)) (Hp→Prop),
    (faC (js.map (·.2)) J fun vs j=>∀ H',j H'→∀ scr:Nat→Value,comp P rd fn aJ aL Z y Q ⟨upd (mods x) (js.map (·.1)) vs scr 0 E.t,E.d⟩ H') ∧
    comp P rd fn aJ aL Z x (fun e E' H'=>match e with | .normal=>dsame E.d E'.d (slotsK E'.t (js.map (·.1)) fun vs=>apC (js.map (·.2)) J vs fun j=>j H') | e=>Q e E' H') E H)
 | .cond c x y,Q,E,H=>opK E c fun fv=>brK fv (comp P rd fn aJ aL Z x Q E H) (comp P rd fn aJ aL Z y Q E H)
 | .block id c,Q,E,H=>comp P rd fn aJ aL Z c (fun e E' H'=>match e with | .exit id'=>if id'=id then Q .normal E' H' else Q (.exit id') E' H' | e=>Q e E' H') E H
 | .loop c,Q,E,H=>(match aL (key c) with
  | none=>False
  | some ls=>∃ I:Cur (ls.map (·.2)) (Hp→Nat→Prop),
    (∃ m,slotsK E.t (ls.map (·.1)) fun vs=>apC (ls.map (·.2)) I vs fun j=>j H m) ∧
    faC (ls.map (·.2)) I fun vs j=>∀ H' m,j H' m→∀ scr:Nat→Value,comp P rd fn aJ aL Z c
     (fun e E' H''=>match e with | .normal=>∃ m',m' < m∧dsame E.d E'.d (slotsK E'.t (ls.map (·.1)) fun vs'=>apC (ls.map (·.2)) I vs' fun j'=>j' H'' m') | e=>Q e E' H'')
     ⟨upd (mods c) (ls.map (·.1)) vs scr 0 E.t,E.d⟩ H')
 | .exit id,Q,E,H=>Q (.exit id) E H
 | .ret,Q,E,H=>Q .ret E H
 | .scope c,Q,E,H=>comp P rd fn aJ aL Z c Q E H
 | .rangeFunc f params as body,Q,E,H=>(match rd with
  | some _=>False
  | none=>opK E f fun fv=>∀ D H1,Newb H (.deferred (some [])) D H1→∀ l H2,Newb H1 (.loop ⟨.ready,none,fn,E.act.tmps,params,as,body,D⟩) l H2 →
    callG P fv.2 [.func (.yield l) #[] #[]] H2 (fun _ H3=>endLoopK l H3 fun j H4=>jmpK body j Q ⟨E.t,{ target:=.collected D,args:=#[] }::E.d⟩ H4) (fun _ _=>False))
 | .goto _,_,_,_=>False
 | .refuse _,_,_,_=>False
theorem callG_run {P:Program}{v:Value}{args:List Value}{H:Hp}{K:Value→Hp→Prop}{Z:List PanicEntry→Hp→Prop}(h:callG P v args H K Z) :
  ∃ g as,CallF P g as H K Z∧∀ w:World,((Deferred.ofValue v args.toArray).bind fun d=>invoke d.target d.args).run P w = .ok (.enter g as) w:=by
 unfold callG at h
 split at h
 ·rename_i g first cap
  split at h
  ·rename_i hg
   refine ⟨g,_,h,fun w=>?_⟩
   unfold fnOk at hg
   split at hg
   ·rename_i fn hfn
    simp only [Bool.and_eq_true,Bool.not_eq_true'] at hg
    have hb:fn.body.isNone=false:=by cases hb:fn.body <;> simp_all
    have h1:=hg.1
    have e:first++args.toArray++cap=(first.toList++args++cap.toList).toArray:=by apply Array.ext';simp
    simp only [Deferred.ofValue,pure,Sem.bind,invoke,e,callFunc,program,bind,Sem.run,hfn,h1,hb,Bool.false_eq_true,if_false]
   ·simp at hg
  ·exact h.elim
 ·exact h.elim
theorem st_rangeFunc {P:Program}{b:Frame}{a:Act}{k:List Item}{cs:List Frame}{w w2:World}{f:Operand}{params:Array Tmp}{as body:Code}{l:Nat}{mark:List Deferred}{w1:World}{g:FuncId}{args:Array Value}
  (he:(Instr.enterLoop b.fn a.tmps params as body b.roundOf).run P w = .ok (l,mark) w1)
  (hc:((Deferred.ofValue (a.eval f) #[.func (.yield l) #[] #[]]).bind fun d=>invoke d.target d.args).run P w1 = .ok (.enter g args) w2) :
  step P (lone (fat b a (.code (.rangeFunc f params as body)::k)) cs w) =
   .next (lone (Frame.enter P g args .normal) (fat b { a with defers:=mark++a.defers } (.inRangeFunc l::k)::cs) w2):=
 step_lone_go (by
  have h0:({ a with defers:=mark++a.defers }:Act).eval=a.eval:=by funext x;cases x <;> rfl
  have h1:=fat_eval b { a with defers:=mark++a.defers } (.inRangeFunc l::k)
  rw [h0] at h1
  simp only [fat] at h1
  have h2:(do let d ← resolve ({ b with tmps:=a.tmps,todo:=.inRangeFunc l::k,defers:=mark++a.defers,mode:=.run }:Frame).eval { callee:=.value f,args:=#[.const (.func (.yield l) #[] #[])],argTypes:=#[] } 0;invoke d.target d.args:Sem Next) =
    ((Deferred.ofValue (a.eval f) #[.func (.yield l) #[] #[]]).bind fun d=>invoke d.target d.args):=by
   simp only [resolve,bind,h1]
   simp only [List.map_toArray,List.map_cons,List.map_nil,Act.eval]
  simp only [stepG,stepG.exec,fat]
  rw [Sem.runT_eq,he]
  simp only [GStep.bare_after,stepG.apply]
  rw [h2]
  simp only [Sem.runT_eq,hc,GStep.bare_after,if_true]
  rfl)
theorem st_endRangeFunc {P:Program}{b:Frame}{a:Act}{k:List Item}{cs:List Frame}{w w1:World}{l:Nat}{jump:Option Code}(he:(Instr.endLoop l).run P w = .ok jump w1) :
  step P (lone (fat b a (.endRangeFunc l::k)) cs w) = .next (lone (fat b a ((jump.map Item.code).toList++k)) cs w1):=
 step_lone_go (by
  simp only [stepG,stepG.exec,fat]
  rw [Sem.runT_eq,he]
  simp only [GStep.bare_after]
  rfl)
section
variable {P:Program}{rd:Option Nat}{fn:FuncId}{aJ aL:Ann}{Z:List Deferred→List PanicEntry→Hp→Prop}
theorem agr_put {ms:List Nat}{a:Act}{o:Oper}{v:Value}(h:∀ d,o.dst=some d→ms.contains d=true):AgrA ms a (a.put o.dst v):=by
 cases hd:o.dst with
 | none=>exact AgrA.refl ms a
 | some d=>
  refine ⟨by simp [Act.put],fun i hi=>?_⟩
  have:d≠i:=fun e=>by rw [← e,h d hd] at hi;simp at hi
  simp [Act.put,Array.getElem?_setIfInBounds_ne this]
theorem does_agr {ms:List Nat}{o:Oper}{a:Act}{H:Hp}{K:Act→Hp→Prop}{Y:List PanicEntry→Hp→Prop}(hm:∀ d,o.dst=some d→ms.contains d=true) (h:DoesA P rd o a H K Y) :
  DoesA P rd o a H (fun a' H'=>AgrA ms a a'∧K a' H') Y:=by
 intro w hw
 have h1:=h w hw
 generalize (execOp a.eval o).run P w=r at *
 cases r with
 | ok nx w'=>
  cases nx <;> simp only at h1 ⊢
  case value v=>exact ⟨h1.1,agr_put hm,h1.2⟩
  case skip=>exact ⟨h1.1,agr_put hm,h1.2⟩
  case defer d=>
   refine ⟨h1.1,?_,h1.2⟩
   have:=agr_put (ms:=ms) (a:={ a with defers:=d::a.defers }) (v:=undef) hm
   exact this
  case enter f args=>exact ⟨h1.1,h1.2.mono (fun v H' h=>⟨agr_put hm,h⟩) (fun _ _ h=>h)⟩
  case round l f tmps as body=>exact ⟨h1.1,h1.2.mono (fun v H' h=>⟨agr_put hm,h⟩)⟩
 | halt x w'=>cases x <;> exact h1
theorem xStep_agr {ms:List Nat}{rB:Oper→Bool}{ops:Array Oper}(hm:∀ (i:Nat) (o:Oper),ops[i]? = some o→∀ d,o.dst=some d→ms.contains d=true) {i:Nat}{a:Act}{H:Hp}
  {K:Act→Hp→Prop}{Y:List PanicEntry→Hp→Prop}(h:xStep P rd rB ops i a H K Y):xStep P rd rB ops i a H (fun a' H'=>AgrA ms a a'∧K a' H') Y:=by
 unfold xStep at *
 cases ho:ops[i]? with
 | none=>simp only [ho] at h ⊢;exact ⟨AgrA.refl _ _,h⟩
 | some o=>
  simp only [ho] at h ⊢
  split at h
  ·rename_i hr;rw [if_pos hr];obtain ⟨v,hy,hK⟩:=h;exact ⟨v,hy,agr_put (hm i o ho),hK⟩
  ·rename_i hr
   rw [if_neg hr]
   split at h
   ·rename_i hw;rw [if_pos hw];exact ⟨h.1,does_agr (hm i o ho) h.2⟩
   ·rename_i hw;rw [if_neg hw];exact ⟨agr_put (hm i o ho),h⟩
theorem anyX_agr {ms:List Nat}{rB:Oper→Bool}{ops:Array Oper}(hm:∀ (i:Nat) (o:Oper),ops[i]? = some o→∀ d,o.dst=some d→ms.contains d=true) {K:Act→Hp→Prop}{Y:Act→List PanicEntry→Hp→Prop}{a0:Act} :
  ∀ (n:Nat) (l:Array Bool) (a:Act) (H:Hp),AgrA ms a0 a→anyX P rd rB ops K Y n l a H→anyX P rd rB ops (fun a' H'=>AgrA ms a0 a'∧K a' H') Y n l a H:=by
 intro n
 induction n with
 | zero=>intro l a H hg h;exact ⟨h.1,hg,h.2⟩
 | succ n ih=>
  intro l a H hg h
  exact ⟨fun h0=>⟨hg,h.1 h0⟩,fun i hi=>(xStep_agr hm (h.2 i hi)).mono (fun a' H' hk=>ih _ _ _ (hg.trans1 hk.1) hk.2) (fun _ _ h=>h)⟩
theorem seqC_agr {ms:List Nat}{ops:Array Oper}(hm:∀ (i:Nat) (o:Oper),ops[i]? = some o→∀ d,o.dst=some d→ms.contains d=true) {K:Env→Hp→Prop}{a0:Act}:∀ (l:List Nat) {E:Env}{H:Hp},
  AgrA ms a0 E.act→seqC P rd ops Z K l E H→WpR P rd ops l (fun a' H'=>AgrA ms a0 a'∧onE K a' H') (onZ Z) E.act H
 | [],E,H,hg,h=>WpR.nil ⟨hg,E,rfl,h⟩
 | i::rest,E,H,hg,h=>WpR.cons (((xStep_agr hm (stepC_sound h)).stepS isR_defer).mono (fun a' H' ⟨hg',E',he,hK⟩=>by
   subst he;exact seqC_agr hm rest (hg.trans1 hg') hK) (fun _ _ h=>h))
theorem mods_region {id:Nat}{ops:Array Oper}{draw:Bool}:∀ (i:Nat) (o:Oper),ops[i]? = some o→∀ d,o.dst=some d→(mods (.region id ops draw)).contains d=true:=by
 intro i o ho d hd
 simp only [mods,List.contains_iff_mem,List.mem_filterMap]
 exact ⟨o,by simpa using Array.mem_of_getElem? ho,hd⟩
def Good (ms:List Nat) (a:Act) (Q:Exit→Env→Hp→Prop) (Z:List Deferred→List PanicEntry→Hp→Prop):Exit→Act→Hp→Prop
 | .panic ch,a',H'=>Z a'.defers ch H'
 | e,a',H'=>AgrA ms a a'∧∃ E':Env,E'.act=a'∧Q e E' H'
theorem good_region {id:Nat}{ops:Array Oper}{draw:Bool}{Q:Exit→Env→Hp→Prop}{E:Env}{H:Hp}(h:regC P rd ops draw Z (fun E' H'=>Q .normal E' H') E H) :
  Wp P rd fn (.region id ops draw) (Good (mods (.region id ops draw)) E.act Q Z) E.act H:=by
 unfold regC at h
 cases draw with
 | false=>
  simp only [Bool.false_eq_true,if_false] at h
  exact Wp.region (seqC_agr mods_region _ (AgrA.refl _ _) h)
 | true=>
  simp only [if_true] at h
  split at h
  ·rename_i hc
   simp only [Bool.and_eq_true] at hc
   refine Wp.region_draw fun t=>?_
   simp only [Region.schedule,hc.2,Bool.true_or,if_true]
   have hT:TabOk ops (befL ops.toList 0 []):=befL_ok ops.toList 0 [] rfl (fun k=>by simp) (fun k hk=>by omega)
   have hcl:ClosedL ops (List.replicate ops.size false).toArray:=by
    intro j oj hj hl
    exfalso
    have:(List.replicate ops.size false).toArray.getD j false=false:=by
     simp [Array.getD_eq_getD_getElem?,List.getElem?_replicate]
     rw [Array.getElem?_replicate];split <;> rfl
    rw [this] at hl;cases hl
   have h1:=anyC_sound hT hc.1 ops.size _ _ _ hcl h
   have h2:=anyX_agr (ms:=mods (.region id ops true)) mods_region ops.size _ _ _ (AgrA.refl _ _) h1
   have e:(List.replicate ops.size false).toArray=Array.replicate ops.size false:=by simp
   rw [e] at h2
   exact anyX_sound isR_defer ops.size t _ _ _ h2
  ·exact h.elim
theorem good_regionQ {id:Nat}{ops:Array Oper}{Q:Exit→Env→Hp→Prop}{E:Env}{H:Hp}(h:regQ P rd ops Z (fun E' H'=>Q .normal E' H') E H) :
  Wp P rd fn (.region id ops true) (Good (mods (.region id ops true)) E.act Q Z) E.act H:=by
 unfold regQ at h
 split at h
 ·rename_i hc
  simp only [Bool.and_eq_true] at hc
  refine Wp.region_draw fun t=>?_
  simp only [Region.schedule,hc.2,Bool.true_or,if_true]
  have hT:TabOk ops (befL ops.toList 0 []):=befL_ok ops.toList 0 [] rfl (fun k=>by simp) (fun k hk=>by omega)
  have hcl:ClosedL ops (List.replicate ops.size false).toArray:=by
   intro j oj hj hl
   exfalso
   have:(List.replicate ops.size false).toArray.getD j false=false:=by
    simp [Array.getD_eq_getD_getElem?,List.getElem?_replicate]
    rw [Array.getElem?_replicate];split <;> rfl
   rw [this] at hl;cases hl
  have h0:=anyQ_sound hT hc.1 ops.size _ [] _ _ hcl (fun p hp=>by cases hp) h
  have h1:=anyZ_X _ _ _ _ _ h0
  have h2:=anyX_agr (ms:=mods (.region id ops true)) mods_region ops.size _ _ _ (AgrA.refl _ _) h1
  have e:(List.replicate ops.size false).toArray=Array.replicate ops.size false:=by simp
  rw [e] at h2
  exact anyX_sound isR_defer ops.size t _ _ _ h2
 ·exact h.elim
theorem comp_sound:∀ (c:Code) {Q:Exit→Env→Hp→Prop}{E:Env}{H:Hp},comp P rd fn aJ aL Z c Q E H→Wp P rd fn c (Good (mods c) E.act Q Z) E.act H:=by
 intro c
 induction c with
 | skip=>intro Q E H h;exact Wp.skip ⟨AgrA.refl _ _,E,rfl,h⟩
 | label l=>intro Q E H h;exact Wp.label ⟨AgrA.refl _ _,E,rfl,h⟩
 | region id ops draw=>
  intro Q E H h
  unfold comp at h
  split at h
  ·rename_i hd
   simp only [Bool.and_eq_true] at hd
   obtain ⟨rfl,_⟩:=hd
   exact good_regionQ h
  ·exact good_region h
 | exit id=>intro Q E H h;exact Wp.exit ⟨AgrA.refl _ _,E,rfl,h⟩
 | ret=>intro Q E H h;exact Wp.ret ⟨AgrA.refl _ _,E,rfl,h⟩
 | goto l=>intro Q E H h;exact h.elim
 | refuse w=>intro Q E H h;exact h.elim
 | scope c ih=>intro Q E H h;exact Wp.scope (ih h)
 | cond c x y ihx ihy=>
  intro Q E H h
  obtain ⟨f,h⟩:=opK_sound h
  obtain ⟨b,hb,h1,h2⟩:=brK_sound h
  refine Wp.cond hb ?_
  cases b with
  | true=>
   refine (ihx (h1 rfl)).mono ?_
   intro e a' H' hg
   cases e <;> first | exact hg | exact ⟨hg.1.left,hg.2⟩
  | false=>
   refine (ihy (h2 rfl)).mono ?_
   intro e a' H' hg
   cases e <;> first | exact hg | exact ⟨hg.1.right,hg.2⟩
 | block id c ih=>
  intro Q E H h
  refine Wp.block ((ih h).mono ?_)
  intro e a' H' hg
  cases e with
  | exit id'=>
   obtain ⟨hg1,E',he,hQ⟩:=hg
   simp only at hQ ⊢
   by_cases hid:id'=id
   ·rw [if_pos hid] at hQ ⊢;exact ⟨hg1,E',he,hQ⟩
   ·rw [if_neg hid] at hQ ⊢;exact ⟨hg1,E',he,hQ⟩
  | _=>exact hg
 | seq x y ihx ihy=>
  intro Q E H h
  unfold comp at h
  cases hj:aJ (key y) with
  | none=>
   rw [hj] at h
   refine Wp.seq ((ihx h).mono ?_)
   intro e a' H' hg
   cases e with
   | normal=>
    obtain ⟨hg1,E',rfl,hQ⟩:=hg
    refine (ihy hQ).mono ?_
    intro e2 a2 H2 hg2
    cases e2 <;> first | exact hg2 | exact ⟨hg1.trans hg2.1,hg2.2⟩
   | panic ch=>exact hg
   | _=>exact ⟨hg.1.left,hg.2⟩
  | some js=>
   rw [hj] at h
   obtain ⟨J,hfa,hx⟩:=h
   refine Wp.seq ((ihx hx).mono ?_)
   intro e a' H' hg
   cases e with
   | normal=>
    obtain ⟨hg1,E',rfl,hQ⟩:=hg
    obtain ⟨hd,hQ⟩:=dsame_sound hQ
    have hQ:=slotsK_eq hQ
    obtain ⟨b,hb,hF⟩:=apC_fa (by simp) hQ hfa
    have hy:=hF H' hb (valAt E')
    have hact:=upd_act (sl:=js.map (·.1)) hg1 hd
    have h5:=ihy hy
    rw [hact] at h5
    refine h5.mono ?_
    intro e2 a2 H2 hg2
    cases e2 <;> first | exact hg2 | exact ⟨hg1.trans hg2.1,hg2.2⟩
   | panic ch=>exact hg
   | _=>exact ⟨hg.1.left,hg.2⟩
 | loop c ih=>
  intro Q E H h
  unfold comp at h
  cases hl:aL (key c) with
  | none=>rw [hl] at h;exact h.elim
  | some ls=>
   rw [hl] at h
   obtain ⟨I,⟨m,h0⟩,hfa⟩:=h
   refine Wp.loop (fun a' H' m'=>AgrA (mods c) E.act a'∧∃ E':Env,E'.act=a'∧E'.d=E.d∧apC (ls.map (·.2)) I ((ls.map (·.1)).map (valAt E')) fun j=>j H' m') m ?_ ?_
   ·exact ⟨AgrA.refl _ _,E,rfl,rfl,slotsK_eq h0⟩
   ·rintro a1 H1 m1 ⟨hg1,E1,rfl,hd1,hap⟩
    obtain ⟨b,hb,hF⟩:=apC_fa (by simp) hap hfa
    have hc:=hF H1 m1 hb (valAt E1)
    have hact:=upd_act (sl:=ls.map (·.1)) hg1 hd1
    have h5:=ih hc
    rw [hact] at h5
    refine h5.mono ?_
    intro e a' H' hg
    cases e with
    | normal=>
     obtain ⟨hg2,E2,rfl,m',hm',hQ⟩:=hg
     obtain ⟨hd2,hQ⟩:=dsame_sound hQ
     exact ⟨m',hm',hg1.trans1 hg2,E2,rfl,hd2,slotsK_eq hQ⟩
    | panic ch=>exact hg
    | _=>exact ⟨hg1.trans1 hg.1,hg.2⟩
 | rangeFunc f params as body ih1 ih2=>
  intro Q E H h
  unfold comp at h
  cases hrd:rd with
  | some l=>rw [hrd] at h;exact h.elim
  | none=>
   rw [hrd] at h
   obtain ⟨fl,h⟩:=opK_sound h
   simp only at h
   intro b k cs w h1 h2 h3
   subst h3
   have h4:=h w.heap.size (w.heap.push (.deferred (some []))) ⟨rfl,rfl⟩ _ _ ⟨rfl,rfl⟩
   obtain ⟨g,as',hcall,hrun⟩:=callG_run h4
   let w1:World:={ w with heap:=(w.heap.push (.deferred (some []))).push (.loop ⟨.ready,none,fn,E.act.tmps,params,as,body,w.heap.size⟩) }
   have hent:(Instr.enterLoop b.fn E.act.tmps params as body b.roundOf).run P w = .ok ((w.heap.push (.deferred (some []))).size,[{ target:=.collected w.heap.size,args:=#[] }]) w1:=by
    rw [h2,h1]
    rfl
   have hst:=st_rangeFunc (k:=k) (cs:=cs) hent (hrun w1)
   obtain ⟨e,w2,fr,⟨hl2,hR⟩,hsteps,_,hleave⟩:=hcall w1 rfl (fat b { E.act with defers:=[{ target:=.collected w.heap.size,args:=#[] }]++E.act.defers } (.inRangeFunc (w.heap.push (.deferred (some []))).size::k)::cs)
   cases e with
   | panicked ch=>exact hR.elim
   | outgrown=>exact hR.elim
   | returned v=>
    obtain ⟨r,hr,hbusy,hK⟩:=hR
    let w3:World:={ w2 with heap:=w2.heap.setIfInBounds (w.heap.push (.deferred (some []))).size (.loop { r with state:=.exhausted }) }
    have hK:=hK w3.heap rfl
    have hend:(Instr.endLoop (w.heap.push (.deferred (some []))).size).run P w2 = .ok r.pending w3:=by
     simp only [Instr.endLoop,Instr.getLoop,getObj,setObj,bind,Sem.bind,pure,Sem.run,hr]
     rw [hbusy]
     simp only [Bool.false_eq_true,if_false,Sem.bind,Sem.run,hr]
     rfl
    let a2:Act:={ E.act with defers:={ target:=.collected w.heap.size,args:=#[] }::E.act.defers }
    have hsteps2:Steps P (lone (fat b E.act (.code (.rangeFunc f params as body)::k)) cs w) (lone (fat b a2 ((r.pending.map Item.code).toList++k)) cs w3):=by
     refine .head hst (Steps.trans hsteps (.head (step_leave_returned hleave) ?_))
     exact .one (st_endRangeFunc (b:=b) (a:=a2) (k:=k) (cs:=cs) hend)
    have hl3:Lk w w3:=Lk.trans (b:=w1) ⟨rfl,rfl,rfl⟩ (hl2.trans ⟨rfl,rfl,rfl⟩)
    have hag:AgrA (mods (.rangeFunc f params as body)) E.act a2:=⟨rfl,fun _ _=>rfl⟩
    simp only [] at hK
    generalize hj:r.pending=jp at hK
    unfold jmpK jmpV at hK
    split at hK
    ·rw [hj] at hsteps2
     exact ⟨.normal,a2,w3,hl3,⟨hag,_,rfl,hK⟩,hsteps2⟩
    ·rw [hj] at hsteps2
     split at hK
     ·exact ⟨.ret,a2,w3,hl3,⟨hag,_,rfl,hK⟩,k,hsteps2⟩
     ·exact hK.elim
    ·rename_i id
     rw [hj] at hsteps2
     exact ⟨.exit id,a2,w3,hl3,⟨hag,_,rfl,jmpL_sound hK⟩,k,rfl,hsteps2⟩
    ·exact hK.elim
end
end Go.V
end
