/- Operations that read, write, make memory or call; a region's operations in text order and in open order. -/
import Derived.Test.YtigbdoicgdmliaaDoorV3
set_option linter.unusedVariables false
set_option linter.unusedSimpArgs false
namespace Go.V

theorem copP_sound {P : Program} {o : Oper} {E : Env} {K : Bool × Value → Prop} (h : copP P o E K) :
    ∃ f v, K (f, v) ∧ ∀ w, (execOp E.act.eval o).run P w = .ok (.value v) w := by
  unfold copP at h
  split at h
  · rename_i x ho
    obtain ⟨f, h⟩ := opK_sound h
    exact ⟨f, _, h, fun w => by simp [execOp, ho, pure, Sem.run]⟩
  · rename_i x ho
    obtain ⟨f, h⟩ := opK_sound h
    exact ⟨f, _, h, fun w => by simp [execOp, ho, pure, Sem.run]⟩
  · rename_i c a b ho
    obtain ⟨f, h⟩ := opK_sound h
    obtain ⟨t, hc, h1, h2⟩ := brK_sound h
    simp only at hc
    cases t with
    | true =>
      obtain ⟨f, h⟩ := opK_sound (h1 rfl)
      exact ⟨f, _, h, fun w => by simp [execOp, ho, hc, asBool, bind, Sem.bind, pure, Sem.run]⟩
    | false =>
      obtain ⟨f, h⟩ := opK_sound (h2 rfl)
      exact ⟨f, _, h, fun w => by simp [execOp, ho, hc, asBool, bind, Sem.bind, pure, Sem.run]⟩
  · rename_i x ho
    obtain ⟨f, h⟩ := opK_sound h
    simp only at h
    split at h
    · rename_i p hp
      cases p with
      | none => exact h.elim
      | some ad => exact ⟨_, _, h, fun w => by simp [execOp, ho, hp, pure, Sem.run]⟩
    · exact pureK_sound h
  · rename_i t x i ho
    obtain ⟨f, h⟩ := opK_sound h
    obtain ⟨f', h⟩ := opK_sound h
    obtain ⟨ad, hK, hr⟩ := ixA_sound h
    refine ⟨_, _, hK, fun w => ?_⟩
    unfold execOp
    rw [ho]
    simp only [bind]
    rw [run_bind, hr w]
    rfl
  · rename_i t x i ho
    obtain ⟨f, h⟩ := opK_sound h
    obtain ⟨f', h⟩ := opK_sound h
    simp only [ixV] at h
    split at h
    · rename_i s k j hu hv hi
      refine ⟨_, _, h.2, fun w => ?_⟩
      unfold execOp
      rw [ho]
      simp only [bind]
      rw [run_bind, hv, hi, ixS_run hu h.1 w]
      rfl
    · exact pureK_sound h
  · rename_i t x lo hi ho
    obtain ⟨f, h⟩ := opK_sound h
    obtain ⟨r, hK, hr⟩ := slK_sound h
    refine ⟨_, _, hK, fun w => ?_⟩
    unfold execOp
    rw [ho]
    simp only [bind, Option.map_none]
    rw [run_bind, hr w]
    rfl
  · rename_i t x lo hi m ho
    obtain ⟨f, h⟩ := opK_sound h
    obtain ⟨f', h⟩ := opK_sound h
    obtain ⟨r, hK, hr⟩ := slK3_sound h
    refine ⟨_, _, hK, fun w => ?_⟩
    unfold execOp
    rw [ho]
    simp only [bind, Option.map_some]
    rw [run_bind, hr w]
    rfl
  · rename_i op t x y t' ho
    obtain ⟨f, h⟩ := opK_sound h
    obtain ⟨f', h⟩ := opK_sound h
    exact binC_sound ho h
  · exact pureK_sound h

def lenPure (P : Program) (c : Call) : Bool := match (c.argTypes[0]?).bind P.underlying with
  | some .string | some (.slice _) | some (.int _) => true
  | _ => false
def cvPure (P : Program) (s d : TypeId) : Bool := match P.underlying s, P.underlying d with
  | some (.int _), some (.int _) => true
  | some .string, some .string => true
  | _, _ => false
def isP (P : Program) (o : Oper) : Bool := match o.op with
  | .move _ | .assign _ | .pick .. | .nilCheck _ | .fieldAddr .. | .field .. | .indexAddr .. | .index .. | .binOp .. | .unOp .. | .extract .. | .makeFunc .. | .makeInterface .. => true
  | .slice .. => true
  | .convert s d _ => cvPure P s d
  | .call c => (match c.callee with
      | .builtin .len | .builtin .cap | .builtin .min | .builtin .max => lenPure P c
      | _ => false)
  | _ => false
def isLoad (o : Oper) : Bool := match o.op with | .load .. => true | _ => false
def isR (P : Program) (o : Oper) : Bool := isP P o || isLoad o
theorem isR_defer {P : Program} (o : Oper) (h : isR P o = true) : isDefer o = false := by
  unfold isDefer
  split
  · rename_i c hc; simp [isR, isP, isLoad, hc] at h
  · rfl

def ptrK (v : Value) (K : Addr → Prop) : Prop := match v with | .pointer (some ad) => K ad | _ => False
theorem ptrK_sound {v : Value} {K : Addr → Prop} (h : ptrK v K) : ∃ ad, v = .pointer (some ad) ∧ K ad := by
  unfold ptrK at h
  split at h
  · exact ⟨_, rfl, h⟩
  · exact h.elim
def loadC (P : Program) (o : Oper) (E : Env) (H : Hp) (K : Bool × Value → Prop) : Prop := match o.op with
  | .load t x => opK E x fun v => ptrK v.2 fun ad => ldT P t H ad fun r => K (false, r)
  | _ => False
theorem loadC_sound {P : Program} {o : Oper} {E : Env} {H : Hp} {K : Bool × Value → Prop} (h : loadC P o E H K) :
    ∃ f v, K (f, v) ∧ ∀ w : World, w.heap = H → (execOp E.act.eval o).run P w = .ok (.value v) w := by
  unfold loadC at h
  split at h
  · rename_i t x ho
    obtain ⟨f, h⟩ := opK_sound h
    obtain ⟨ad, hv, h⟩ := ptrK_sound h
    obtain ⟨v, hK, hr⟩ := ldT_run h
    refine ⟨_, v, hK, fun w hw => ?_⟩
    simp only at hv
    unfold execOp
    rw [ho]
    simp only [bind, Instr.loadAt, hv, Instr.sureAddr, pure, Sem.bind]
    rw [run_bind, hr w hw]
    rfl
  · exact h.elim

def fnOk (P : Program) (g : FuncId) : Bool := match P.funcs[g]? with
  | some fn => !(fn.name == "runtime.NumGoroutine") && fn.body.isSome
  | none => false
/-- A function without a Go body. -/
def ExtF (P : Program) (g : FuncId) (args : List Value) (H : Hp) (K : Value → Hp → Prop) : Prop :=
  hrun P (callFunc g args.toArray) H (fun nx H' => match nx with | .value v => K v H' | _ => False) (fun _ _ => False)
/-- A call of a loop's yield. -/
def Yld (P : Program) (l : Nat) (args : List Value) (H : Hp) (K : Value → Hp → Prop) : Prop :=
  ∃ r, H[l]? = some (.loop r) ∧ args.length = r.params.size ∧
    Rnd P l r.fn ((r.params.zip args.toArray).foldl (fun tmps (t, a) => tmps.setIfInBounds t a) r.tmps) r.assign r.body H K
def callV (P : Program) (v : Value) (args : List Value) (H : Hp) (K : Value → Hp → Prop) (Z : List PanicEntry → Hp → Prop) : Prop := match v with
  | .func (.func g) first cap => if fnOk P g then CallF P g (first.toList ++ args ++ cap.toList).toArray H K Z else ExtF P g (first.toList ++ args ++ cap.toList) H K
  | .func (.yield l) first _ => Yld P l (first.toList ++ args) H K
  | _ => False

def App (P : Program) (ts : Array TypeId) (ty : TypeId) (H : Hp) (vs : List Value) (K : Sl → Hp → Prop) : Prop :=
  hrun P (Builtin.append_ ts ty vs.toArray) H (fun r H' => ∃ s : Sl, r = .slice s.a s.n s.c ∧ K s H') (fun _ _ => False)
def Cpy (P : Program) (ts : Array TypeId) (ty : TypeId) (H : Hp) (vs : List Value) (K : Int → Hp → Prop) : Prop :=
  hrun P (Builtin.copy_ ts ty vs.toArray) H (fun r H' => ∃ n : Int, r = .int .i64 n ∧ K n H') (fun _ _ => False)
def MkS (P : Program) (t : TypeId) (H : Hp) (l c : Value) (K : Sl → Hp → Prop) : Prop :=
  hrun P (Instr.makeSlice t l c) H (fun r H' => ∃ s : Sl, r = .slice s.a s.n s.c ∧ K s H') (fun _ _ => False)
def Cvt (P : Program) (s d : TypeId) (H : Hp) (v : Value) (K : Value → Hp → Prop) : Prop := hrun P (convert s d v) H K (fun _ _ => False)
/-- another builtin -/
def Blt (P : Program) (b : Builtin) (ts : Array TypeId) (ty : TypeId) (cs : Array Bool) (H : Hp) (vs : List Value) (K : Value → Hp → Prop) : Prop :=
  hrun P (builtin b ts ty cs vs.toArray) H (fun nx H' => match nx with | .value v => K v H' | _ => False) (fun _ _ => False)
def rawK (P : Program) (o : Oper) (E : Env) (H : Hp) (K : Value → Hp → Prop) (Z : List PanicEntry → Hp → Prop) : Prop :=
  hrun P (execOp E.act.eval o) H (fun nx H' => match nx with | .value v => K v H' | .skip => K undef H' | _ => False) (fun v H' => Z [{ v := v, recovered := false }] H')

def plainRaw (o : Oper) : Bool := match o.op with
  | .box .. | .alloc .. | .build .. | .buildSlice .. | .makeMap .. | .panic _ | .mapUpdate .. | .insert .. => true
  | _ => false
def copW (P : Program) (o : Oper) (E : Env) (H : Hp) (K : Bool × Value → Hp → Prop) (Z : List PanicEntry → Hp → Prop) : Prop := match o.op with
  | .store t x y => opK E x fun v => opK E y fun u => ptrK v.2 fun ad => stT P t ad u.2 H fun H' => K (false, undef) H'
  | .call c => (match c.callee with
      | .value f => opK E f fun fv => argK E c.args.toList fun vs => callV P fv.2 vs H (fun r H' => exT (tyOf P o.type) fun u => r = u ∧ K (false, u) H') Z
      | .builtin .append => argK E c.args.toList fun vs => App P c.argTypes o.type H vs fun s H' => K (false, .slice s.a s.n s.c) H'
      | .builtin .copy => argK E c.args.toList fun vs => Cpy P c.argTypes o.type H vs fun n H' => K (false, .int .i64 n) H'
      | .builtin b => argK E c.args.toList fun vs => Blt P b c.argTypes o.type (c.args.map fun | .const _ => true | _ => false) H vs fun r H' => exT (tyOf P o.type) fun u => r = u ∧ K (false, u) H'
      | _ => rawK P o E H (fun r H' => exT (tyOf P o.type) fun u => r = u ∧ K (false, u) H') Z)
  | .makeSlice t l c => opK E l fun v => opK E c fun u => MkS P t H v.2 u.2 fun s H' => K (false, .slice s.a s.n s.c) H'
  | .convert s d x => opK E x fun v => Cvt P s d H v.2 fun r H' => exT (tyOf P d) fun u => r = u ∧ K (false, u) H'
  | _ => if plainRaw o then rawK P o E H (fun v H' => K (false, v) H') Z else rawK P o E H (fun r H' => exT (tyOf P o.type) fun u => r = u ∧ K (false, u) H') Z

theorem does_of_hrun {P : Program} {rd : Option Nat} {o : Oper} {a : Act} {H : Hp} {K : Act → Hp → Prop} {Z : List PanicEntry → Hp → Prop} {K' : Next → Hp → Prop}
    (h : hrun P (execOp a.eval o) H K' (fun v H' => Z [{ v := v, recovered := false }] H'))
    (hk : ∀ nx H', K' nx H' → match nx with
      | .value v => K (a.put o.dst v) H'
      | .skip => K (a.put o.dst undef) H'
      | .defer d => K ({ a with defers := d :: a.defers }.put o.dst undef) H'
      | .enter f args => CallF P f args H' (fun v H'' => K (a.put o.dst v) H'') Z
      | .round l f tmps as body => Rnd P l f tmps as body H' (fun v H'' => K (a.put o.dst v) H'')
      | _ => False) : DoesA P rd o a H K Z := by
  intro w hw
  have h1 := hrun_sound _ h w hw
  generalize (execOp a.eval o).run P w = r at *
  cases r with
  | ok nx w' =>
    simp only at h1
    have h2 := hk nx w'.heap h1.2
    cases nx <;> simp only at h2 ⊢ <;> exact ⟨h1.1, h2⟩
  | halt x w' => cases x <;> simp only at h1 ⊢ <;> exact h1

theorem rawK_sound {P : Program} {rd : Option Nat} {o : Oper} {E : Env} {H : Hp} {K : Value → Hp → Prop} {K' : Act → Hp → Prop} {Z : List PanicEntry → Hp → Prop} (h : rawK P o E H K Z)
    (hk : ∀ v H', K v H' → K' (E.act.put o.dst v) H') : DoesA P rd o E.act H K' Z := by
  refine does_of_hrun h ?_
  intro nx H' hn
  cases nx <;> first | exact hn.elim | exact hk _ _ hn

theorem callV_sound {P : Program} {rd : Option Nat} {o : Oper} {E : Env} {H : Hp} {K : Value → Hp → Prop} {K' : Act → Hp → Prop} {Z : List PanicEntry → Hp → Prop} {c : Call} {f : Operand}
    (ho : o.op = .call c) (hf : c.callee = .value f) (h : callV P (E.act.eval f) (c.args.toList.map E.act.eval) H K Z)
    (hk : ∀ v H', K v H' → K' (E.act.put o.dst v) H') : DoesA P rd o E.act H K' Z := by
  have hargs : (c.args.map E.act.eval) = (c.args.toList.map E.act.eval).toArray := by apply Array.ext'; simp
  unfold callV at h
  split at h
  · rename_i g first cap hv
    have hex : execOp E.act.eval o = callFunc g (first.toList ++ c.args.toList.map E.act.eval ++ cap.toList).toArray := by
      unfold execOp
      rw [ho]
      simp only [resolve, hf, hv, Deferred.ofValue, bind, Sem.bind, pure, invoke, hargs]
      congr 1
      apply Array.ext'
      simp
    split at h
    · rename_i hg
      unfold fnOk at hg
      split at hg
      · rename_i fn hfn
        simp only [Bool.and_eq_true, Bool.not_eq_true'] at hg
        intro w hw
        have : (execOp E.act.eval o).run P w = .ok (.enter g (first.toList ++ c.args.toList.map E.act.eval ++ cap.toList).toArray) w := by
          rw [hex]
          have hb : fn.body.isNone = false := by cases hb : fn.body <;> simp_all
          have h1 := hg.1
          simp only [callFunc, program, bind, Sem.bind, Sem.run, hfn, h1, hb, pure, Bool.false_eq_true, if_false]
        rw [this]
        simp only
        refine ⟨Lk.refl w, ?_⟩
        rw [hw]
        exact h.mono hk (fun _ _ h => h)
      · simp at hg
    · unfold ExtF at h
      refine does_of_hrun (K' := fun nx H' => match nx with | .value v => K v H' | _ => False) ?_ ?_
      · rw [hex]
        exact h.mono _ (fun _ _ h => h) (fun _ _ h => h.elim)
      · intro nx H' hn
        cases nx <;> first | exact hn.elim | exact hk _ _ hn
  · rename_i l first cap hv
    obtain ⟨r, hl, hsz, hR⟩ := h
    intro w hw
    subst hw
    have : (execOp E.act.eval o).run P w = .ok (.round l r.fn ((r.params.zip (first.toList ++ c.args.toList.map E.act.eval).toArray).foldl (fun tmps (t, a) => tmps.setIfInBounds t a) r.tmps) r.assign r.body) w := by
      unfold execOp
      rw [ho]
      have e : first ++ (c.args.toList.map E.act.eval).toArray = (first.toList ++ c.args.toList.map E.act.eval).toArray := by apply Array.ext'; simp
      have hs : ((first.toList ++ c.args.toList.map E.act.eval).toArray).size = r.params.size := by simpa using hsz
      simp only [resolve, hf, hv, Deferred.ofValue, bind, Sem.bind, pure, invoke, hargs, e, Instr.yield, Instr.getLoop, getObj, Sem.run, hl, hs, ne_eq, not_true_eq_false, if_false]
    rw [this]
    exact ⟨Lk.refl w, hR.mono hk⟩
  · exact h.elim

theorem builtin_does {P : Program} {rd : Option Nat} {o : Oper} {E : Env} {H : Hp} {K : Value → Hp → Prop} {K' : Act → Hp → Prop} {Z : List PanicEntry → Hp → Prop} {s : Sem Value}
    (hex : execOp E.act.eval o = s.bind fun v => .pure (.value v)) (h : hrun P s H K (fun _ _ => False)) (hk : ∀ v H', K v H' → K' (E.act.put o.dst v) H') : DoesA P rd o E.act H K' Z := by
  intro w hw
  have h1 := hrun_sound _ h w hw
  rw [hex, run_bind]
  generalize s.run P w = r at *
  cases r with
  | ok v w' => simp only [Sem.run] at h1 ⊢; exact ⟨h1.1, hk _ _ h1.2⟩
  | halt x w' => cases x <;> simp only at h1 ⊢ <;> exact h1.2.elim

theorem copW_sound {P : Program} {rd : Option Nat} {o : Oper} {E : Env} {H : Hp} {K : Bool × Value → Hp → Prop} {K' : Act → Hp → Prop} {Z : List PanicEntry → Hp → Prop} (h : copW P o E H K Z)
    (hk : ∀ f v H', K (f, v) H' → K' (E.act.put o.dst v) H') : DoesA P rd o E.act H K' Z := by
  have typed : ∀ {K2 : Value → Hp → Prop}, (∀ r H', K2 r H' → exT (tyOf P o.type) fun u => r = u ∧ K (false, u) H') → ∀ v H', K2 v H' → K' (E.act.put o.dst v) H' := by
    intro K2 h2 v H' hv
    obtain ⟨u, rfl, hu⟩ := exT_ex (h2 v H' hv)
    exact hk _ _ _ hu
  unfold copW at h
  split at h
  · rename_i t x y ho
    obtain ⟨f, h⟩ := opK_sound h
    obtain ⟨f', h⟩ := opK_sound h
    obtain ⟨ad, hv, h⟩ := ptrK_sound h
    simp only at hv
    intro w hw
    obtain ⟨w', hr, hl, hK⟩ := stT_run h w hw
    have : (execOp E.act.eval o).run P w = .ok .skip w' := by
      unfold execOp
      rw [ho]
      simp only [bind, Instr.storeAt, hv, Instr.sureAddr, pure, Sem.bind]
      rw [run_bind, hr]
      rfl
    rw [this]
    exact ⟨hl, hk _ _ _ hK⟩
  · rename_i c ho
    split at h
    · rename_i f hf
      obtain ⟨f', h⟩ := opK_sound h
      have h := argK_sound h
      exact callV_sound ho hf h (typed fun _ _ h => h)
    · rename_i hb
      have h := argK_sound h
      refine builtin_does (s := Builtin.append_ c.argTypes o.type (c.args.toList.map E.act.eval).toArray) ?_ h ?_
      · unfold execOp
        rw [ho]
        have hargs : (c.args.map E.act.eval) = (c.args.toList.map E.act.eval).toArray := by apply Array.ext'; simp
        simp only [resolve, hb, bind, Sem.bind, pure, invoke, builtin, hargs]
      · rintro v H' ⟨s, rfl, h⟩; exact hk _ _ _ h
    · rename_i hb
      have h := argK_sound h
      refine builtin_does (s := Builtin.copy_ c.argTypes o.type (c.args.toList.map E.act.eval).toArray) ?_ h ?_
      · unfold execOp
        rw [ho]
        have hargs : (c.args.map E.act.eval) = (c.args.toList.map E.act.eval).toArray := by apply Array.ext'; simp
        simp only [resolve, hb, bind, Sem.bind, pure, invoke, builtin, hargs]
      · rintro v H' ⟨s, rfl, h⟩; exact hk _ _ _ h
    · rename_i b hb1 hb2 hb
      have h := argK_sound h
      have hargs : (c.args.map E.act.eval) = (c.args.toList.map E.act.eval).toArray := by apply Array.ext'; simp
      refine does_of_hrun (K' := fun nx H' => match nx with | .value v => exT (tyOf P o.type) fun u => v = u ∧ K (false, u) H' | _ => False) ?_ ?_
      · have : execOp E.act.eval o = builtin b c.argTypes o.type (c.args.map fun | .const _ => true | _ => false) (c.args.toList.map E.act.eval).toArray := by
          unfold execOp
          rw [ho]
          simp only [resolve, hb, bind, Sem.bind, pure, invoke, hargs]
          rfl
        rw [this]
        exact h.mono _ (fun _ _ h => h) (fun _ _ h => h.elim)
      · intro nx H' hn
        cases nx <;> first | exact hn.elim | exact typed (fun _ _ h => h) _ _ hn
    · exact rawK_sound h (typed fun _ _ h => h)
  · rename_i t l c ho
    obtain ⟨f, h⟩ := opK_sound h
    obtain ⟨f', h⟩ := opK_sound h
    refine builtin_does (s := Instr.makeSlice t (E.act.eval l) (E.act.eval c)) ?_ h ?_
    · unfold execOp; rw [ho]; rfl
    · rintro v H' ⟨s, rfl, h⟩; exact hk _ _ _ h
  · rename_i s d x ho
    obtain ⟨f, h⟩ := opK_sound h
    refine builtin_does (s := convert s d (E.act.eval x)) ?_ h ?_
    · unfold execOp; rw [ho]; rfl
    · intro v H' hv
      obtain ⟨u, rfl, hu⟩ := exT_ex hv
      exact hk _ _ _ hu
  · split at h
    · exact rawK_sound h (fun v H' h => hk _ _ _ h)
    · exact rawK_sound h (typed fun _ _ h => h)

/-! ### one operation of a region -/
def opC (P : Program) (rd : Option Nat) (o : Oper) (E : Env) (H : Hp) (K : Env → Hp → Prop) (Z : List Deferred → List PanicEntry → Hp → Prop) : Prop :=
  if isP P o then copP P o E fun v => putE E o.dst v fun E' => K E' H
  else if isLoad o then loadC P o E H fun v => putE E o.dst v fun E' => K E' H
  else if isDefer o then (if rd.isNone then hrun P (execOp E.act.eval o) H (fun nx H' => match nx with | .defer d => putE ⟨E.t, d :: E.d⟩ o.dst (false, undef) fun E' => K E' H' | _ => False) (fun _ _ => False) else False)
  else copW P o E H (fun v H' => putE E o.dst v fun E' => K E' H') (Z E.d)

def guardC (ops : Array Oper) (o : Oper) (E : Env) (yes no : Env → Prop) : Prop := match o.guard with
  | none => yes E
  | some (g, want) => (match (ops[g]?).bind (·.dst) with
      | none => no E
      | some d => getK E.t d fun fv => (match fv with
          | (true, .bool b) => if b == want then yes E else no E
          | (false, .bool b) => (b = true → setK E.t d (true, .bool true) fun t' => if true == want then yes ⟨t', E.d⟩ else no ⟨t', E.d⟩) ∧
              (b = false → setK E.t d (true, .bool false) fun t' => if false == want then yes ⟨t', E.d⟩ else no ⟨t', E.d⟩)
          | _ => no E))

theorem guardC_sound {ops : Array Oper} {o : Oper} {E : Env} {yes no : Env → Prop} (h : guardC ops o E yes no) :
    ∃ E' : Env, E'.act = E.act ∧ E'.d = E.d ∧ ((Region.wanted o (yielded ops E.act.tmps) = true ∧ yes E') ∨ (Region.wanted o (yielded ops E.act.tmps) = false ∧ no E')) := by
  unfold guardC at h
  unfold Region.wanted
  split at h
  · rename_i hg; exact ⟨E, rfl, rfl, .inl ⟨by simp [hg], h⟩⟩
  · rename_i g want hg
    simp only [hg]
    split at h
    · rename_i hd
      refine ⟨E, rfl, rfl, .inr ⟨by simp [yielded, hd], h⟩⟩
    · rename_i d hd
      rw [getK_eq] at h
      have hy : yielded ops E.act.tmps g = match (E.t[d]?).map (·.2) with | some (.bool b) => some b | _ => none := by
        unfold yielded
        rw [hd]
        simp [Env.act]
        cases E.t[d]? <;> rfl
      cases hx : E.t[d]? with
      | none =>
        rw [List.getD_eq_getElem?_getD, hx] at h
        simp only [Option.getD_none] at h
        refine ⟨E, rfl, rfl, .inr ⟨by rw [hy, hx]; rfl, ?_⟩⟩
        simpa [undef] using h
      | some fv =>
        rw [List.getD_eq_getElem?_getD, hx] at h
        simp only [Option.getD_some] at h
        rw [hy, hx]
        obtain ⟨f, v⟩ := fv
        have other : (∀ b, v ≠ .bool b) → no E → ∃ E' : Env, E'.act = E.act ∧ E'.d = E.d ∧ ((((match (some (f, v)).map (·.2) with | some (.bool b) => some b | _ => (none : Option Bool)) == some want) = true ∧ yes E') ∨
            (((match (some (f, v)).map (·.2) with | some (.bool b) => some b | _ => (none : Option Bool)) == some want) = false ∧ no E')) := by
          intro hn hno
          refine ⟨E, rfl, rfl, .inr ⟨?_, hno⟩⟩
          cases v <;> first | rfl | (exact absurd rfl (hn _))
        cases v with
        | bool b =>
          cases f with
          | true =>
            simp only at h
            refine ⟨E, rfl, rfl, ?_⟩
            by_cases hb : (b == want) = true
            · rw [if_pos hb] at h
              left
              have : b = want := by simpa using hb
              subst this
              exact ⟨by simp, h⟩
            · rw [if_neg hb] at h
              right
              have : b ≠ want := by simpa using hb
              exact ⟨by simpa using this, h⟩
          | false =>
            simp only [setK_eq] at h
            have act_set : ∀ b', b = b' → (⟨E.t.set d (true, .bool b'), E.d⟩ : Env).act = E.act := by
              intro b' hb'
              subst hb'
              simp only [Env.act]
              congr 2
              apply List.ext_getElem?
              intro j
              simp only [List.getElem?_map, List.getElem?_set]
              by_cases hj : d = j
              · subst hj
                by_cases hl : d < E.t.length
                · rw [List.getElem?_eq_getElem hl] at hx
                  simp only [Option.some.injEq] at hx
                  simp [hl, hx]
                · simp [List.getElem?_eq_none (Nat.not_lt.1 hl)] at hx
              · simp [hj]
            cases b with
            | true =>
              have h := h.1 rfl
              refine ⟨_, act_set true rfl, rfl, ?_⟩
              cases want
              · right; exact ⟨rfl, h⟩
              · left; exact ⟨rfl, h⟩
            | false =>
              have h := h.2 rfl
              refine ⟨_, act_set false rfl, rfl, ?_⟩
              cases want
              · left; exact ⟨rfl, h⟩
              · right; exact ⟨rfl, h⟩
        | _ => exact other (by simp) (by cases f <;> exact h)

def stepC (P : Program) (rd : Option Nat) (ops : Array Oper) (i : Nat) (E : Env) (H : Hp) (K : Env → Hp → Prop) (Z : List Deferred → List PanicEntry → Hp → Prop) : Prop :=
  match ops[i]? with
  | none => K E H
  | some o => guardC ops o E (fun E' => opC P rd o E' H K Z) (fun E' => putE E' o.dst (false, undef) fun E'' => K E'' H)

/-- what a list of temporaries says of a frame's -/
def onE (K : Env → Hp → Prop) : Act → Hp → Prop := fun a H => ∃ E : Env, E.act = a ∧ K E H
def onZ (Z : List Deferred → List PanicEntry → Hp → Prop) : Act → List PanicEntry → Hp → Prop := fun a ch H => Z a.defers ch H

theorem stepC_yields {P : Program} {rd : Option Nat} {ops : Array Oper} {i : Nat} {o : Oper} {E : Env} {H : Hp} {K : Env → Hp → Prop} {Z : List Deferred → List PanicEntry → Hp → Prop}
    (hi : ops[i]? = some o) (hr : isR P o = true) (h : stepC P rd ops i E H K Z) : ∃ v, YR P ops o v E.act H ∧ (isP P o = true → YP P ops o v E.act) ∧ onE K (E.act.put o.dst v) H := by
  unfold stepC at h
  simp only [hi] at h
  obtain ⟨E', ha, hd, ⟨hw, h⟩ | ⟨hw, h⟩⟩ := guardC_sound h
  · unfold opC at h
    by_cases hp : isP P o = true
    · rw [if_pos hp] at h
      obtain ⟨f, v, hK, hv⟩ := copP_sound h
      obtain ⟨E2, he, _, hK⟩ := putE_act hK
      have hy : YP P ops o v E.act := fun H' => .inl ⟨hw, fun w _ => by rw [← ha]; exact hv w⟩
      exact ⟨v, hy H, fun _ => hy, E2, by rw [he, ha], hK⟩
    · rw [if_neg hp] at h
      have hl : isLoad o = true := by simpa [isR, hp] using hr
      rw [if_pos hl] at h
      obtain ⟨f, v, hK, hv⟩ := loadC_sound h
      obtain ⟨E2, he, _, hK⟩ := putE_act hK
      exact ⟨v, .inl ⟨hw, fun w hwH => by rw [← ha]; exact hv w hwH⟩, fun hp' => absurd hp' hp, E2, by rw [he, ha], hK⟩
  · obtain ⟨E2, he, _, hK⟩ := putE_act h
    exact ⟨undef, .inr ⟨hw, rfl⟩, fun _ _ => .inr ⟨hw, rfl⟩, E2, by rw [he, ha], hK⟩

theorem stepC_sound {P : Program} {rd : Option Nat} {ops : Array Oper} {i : Nat} {E : Env} {H : Hp} {K : Env → Hp → Prop} {Z : List Deferred → List PanicEntry → Hp → Prop}
    (h : stepC P rd ops i E H K Z) : xStep P rd (isR P) ops i E.act H (onE K) (onZ Z E.act) := by
  unfold xStep
  cases hi : ops[i]? with
  | none => unfold stepC at h; simp only [hi] at h; exact ⟨E, rfl, h⟩
  | some o =>
    simp only
    by_cases hr : isR P o = true
    · rw [if_pos hr]
      obtain ⟨v, hy, _, hK⟩ := stepC_yields hi hr h
      exact ⟨v, hy, hK⟩
    · rw [if_neg hr]
      unfold stepC at h
      simp only [hi] at h
      obtain ⟨E', ha, hd, ⟨hw, h⟩ | ⟨hw, h⟩⟩ := guardC_sound h
      · rw [if_pos hw]
        unfold opC at h
        have hp : ¬ isP P o = true := fun hp => hr (by simp [isR, hp])
        have hl : ¬ isLoad o = true := fun hl => hr (by simp [isR, hl])
        rw [if_neg hp, if_neg hl] at h
        by_cases hdf : isDefer o = true
        · rw [if_pos hdf] at h
          split at h
          · rename_i hrd
            refine ⟨by unfold rdOk; split <;> simp_all, ?_⟩
            rw [← ha]
            refine does_of_hrun (h.mono _ (fun _ _ h => h) (fun _ _ h => h.elim)) ?_
            intro nx H' hn
            cases nx <;> simp only at hn ⊢
            obtain ⟨E2, he, _, hK⟩ := putE_act hn
            exact ⟨E2, he, hK⟩
          · exact h.elim
        · rw [if_neg hdf] at h
          refine ⟨by unfold rdOk; split <;> simp_all [isDefer], ?_⟩
          have : onZ Z E.act = Z E'.d := by unfold onZ; rw [hd]; rfl
          rw [this, ← ha]
          refine copW_sound h ?_
          intro f v H' hK
          obtain ⟨E2, he, _, hK⟩ := putE_act hK
          exact ⟨E2, he, hK⟩
      · rw [if_neg (by simp [hw])]
        obtain ⟨E2, he, _, hK⟩ := putE_act h
        exact ⟨E2, by rw [he, ha], hK⟩

/-! ### a region -/
def seqC (P : Program) (rd : Option Nat) (ops : Array Oper) (Z : List Deferred → List PanicEntry → Hp → Prop) (K : Env → Hp → Prop) : List Nat → Env → Hp → Prop
  | [], E, H => K E H
  | i :: rest, E, H => stepC P rd ops i E H (fun E' H' => seqC P rd ops Z K rest E' H') Z
theorem seqC_sound {P : Program} {rd : Option Nat} {ops : Array Oper} {Z : List Deferred → List PanicEntry → Hp → Prop} {K : Env → Hp → Prop} : ∀ (l : List Nat) {E : Env} {H : Hp},
    seqC P rd ops Z K l E H → WpR P rd ops l (onE K) (onZ Z) E.act H
  | [], E, H, h => WpR.nil ⟨E, rfl, h⟩
  | i :: rest, E, H, h => WpR.cons (((stepC_sound h).stepS isR_defer).mono (fun a' H' ⟨E', he, hK⟩ => he ▸ seqC_sound rest hK) (fun _ _ h => h))

def allC : List Nat → (Nat → Prop) → Prop
  | [], _ => True
  | [i], f => f i
  | i :: is, f => f i ∧ allC is f
theorem allC_mem : ∀ {l : List Nat} {f : Nat → Prop}, allC l f → ∀ i ∈ l, f i
  | [], _, _, _, h => by cases h
  | [i], f, h, j, hj => by rw [List.mem_singleton] at hj; subst hj; exact h
  | i :: k :: is, f, h, j, hj => by
    rcases List.mem_cons.1 hj with rfl | hj
    · exact h.1
    · exact allC_mem h.2 j hj

def anyC (P : Program) (rd : Option Nat) (ops : Array Oper) (T : List Nat) (Z : List Deferred → List PanicEntry → Hp → Prop) (K : Env → Hp → Prop) : Nat → List Bool → Env → Hp → Prop
  | 0, listed, E, H => (match Region.ready .any ops listed.toArray with | [] => K E H | _ => False)
  | n + 1, listed, E, H => (match Region.ready .any ops listed.toArray with
    | [] => K E H
    | r :: rs => (match (r :: rs).find? (freeB T (isP P) (isR P) ops listed.toArray) with
      | some i => setK listed i true fun l' => stepC P rd ops i E H (fun E' H' => anyC P rd ops T Z K n l' E' H') Z
      | none => allC (r :: rs) fun i => setK listed i true fun l' => stepC P rd ops i E H (fun E' H' => anyC P rd ops T Z K n l' E' H') Z))

theorem put_defers (a : Act) (d : Option Tmp) (v : Value) : (a.put d v).defers = a.defers := by cases d <;> rfl

theorem anyC_sound {P : Program} {rd : Option Nat} {ops : Array Oper} {Z : List Deferred → List PanicEntry → Hp → Prop} {K : Env → Hp → Prop} {T : List Nat} (hT : TabOk ops T) (hs : Region.noSelect ops = true) :
    ∀ (n : Nat) (listed : List Bool) (E : Env) (H : Hp), ClosedL ops listed.toArray → anyC P rd ops T Z K n listed E H → anyX P rd (isR P) ops (onE K) (onZ Z) n listed.toArray E.act H := by
  have setA : ∀ (l : List Bool) (i : Nat), (l.set i true).toArray = l.toArray.setIfInBounds i true := by intro l i; simp
  intro n
  induction n with
  | zero =>
    intro listed E H hcl h
    unfold anyC at h
    split at h
    · rename_i hr; exact ⟨hr, E, rfl, h⟩
    · exact h.elim
  | succ n ih =>
    intro listed E H hcl h
    unfold anyC at h
    split at h
    · rename_i hr
      exact ⟨fun _ => ⟨E, rfl, h⟩, by rw [hr]; simp⟩
    · rename_i r rs hr
      split at h
      · rename_i i hf
        have hfree := List.find?_some hf
        have hmem := List.mem_of_find?_eq_some hf
        rw [← hr] at hmem
        obtain ⟨_, o, ho, _⟩ := mem_ready.1 hmem
        obtain ⟨hri, hspec⟩ := freeB_spec ho hfree
        rw [setK_eq] at h
        obtain ⟨v, hy, hp, E', he, hK⟩ := stepC_yields ho hri h
        refine anyX_first (pB := isP P o) ho hri hT (fun j oj cs b hj => Region.noSelect_spec hs j oj cs b hj) ?_ n listed.toArray E.act H hspec hcl hmem hy hp ?_
        · intro a d u c H hz; unfold onZ at *; rw [put_defers] at hz; exact hz
        · rw [← setA, ← he]; exact ih _ _ _ (by rw [setA]; exact hcl.set hmem) hK
      · refine ⟨fun h0 => (by rw [hr] at h0; cases h0), fun i hi => ?_⟩
        have hmem := hi
        rw [hr] at hi
        have h1 := allC_mem h i hi
        simp only [setK_eq] at h1
        refine (stepC_sound h1).mono ?_ (fun _ _ h => h)
        rintro a' H' ⟨E', he, hK⟩
        rw [← setA, ← he]
        exact ih _ _ _ (by rw [setA]; exact hcl.set hmem) hK

def regC (P : Program) (rd : Option Nat) (ops : Array Oper) (draw : Bool) (Z : List Deferred → List PanicEntry → Hp → Prop) (K : Env → Hp → Prop) (E : Env) (H : Hp) : Prop :=
  if draw then (if Region.noSelect ops && P.follows .mixedOrders then anyC P rd ops (befL ops.toList 0 []) Z K ops.size (List.replicate ops.size false) E H else False) else seqC P rd ops Z K (List.range ops.size) E H
end Go.V

