import Derived.Test.YtlljjdbenocgnaaGreatDoorZ02
import Derived.Laws.Sem
import Derived.Laws.Append
import Derived.Laws.Strings
section
/- Functions whole, rounds of loops over functions, and what a law's row wants. -/
set_option linter.unusedVariables false
set_option linter.unusedSimpArgs false
namespace Go.V

/-! ### results -/
def resK (P : Program) : List ResultVar → Env → Hp → (List Value → Prop) → Prop
  | [], _, _, k => k []
  | .tmp t :: rs, E, H, k => getK E.t t fun v => resK P rs E H fun vs => k (v.2 :: vs)
  | .cell a T :: rs, E, H, k => getK E.t a fun v => ptrK v.2 fun ad => ldT P T H ad fun r => resK P rs E H fun vs => k (r :: vs)
def resV : List Value → Value
  | [v] => v
  | vs => .tuple vs.toArray
def unwK : List Deferred → Hp → (Hp → Prop) → Prop
  | [], H, k => k H
  | { target := .collected D, .. } :: ds, H, k => H[D]? = some (.deferred (some [])) ∧ ∀ H', H' = H.setIfInBounds D (.deferred none) → unwK ds H' k
  | _, _, _ => False
def retC (P : Program) (rs : List ResultVar) (E : Env) (H : Hp) (K : Value → Hp → Prop) : Prop := unwK E.d H fun H' => resK P rs E H' fun vs => K (resV vs) H'
def Zd (Z : List PanicEntry → Hp → Prop) : List Deferred → List PanicEntry → Hp → Prop := fun d ch H => match d with | [] => Z ch H | _ => False
def endC (P : Program) (rs : List ResultVar) (K : Value → Hp → Prop) : Exit → Env → Hp → Prop := fun e E H => match e with
  | .normal => retC P rs E H K
  | .ret => retC P rs E H K
  | _ => False
def entry (args : List Value) (n : Nat) : Env := ⟨(args ++ List.replicate (n - args.length) undef).map fun v => (false, v), []⟩
/-- A function, called. -/
def fnC (P : Program) (aJ aL : Ann) (f : FuncId) (args : List Value) (H : Hp) (K : Value → Hp → Prop) (Z : List PanicEntry → Hp → Prop) : Prop := match P.funcs[f]? with
  | some fn => (match fn.body with
    | some c => comp P none f aJ aL (Zd Z) c (endC P fn.results.toList K) (entry args fn.ntmps) H
    | none => False)
  | none => False

def resOne (tmps : Array Value) : ResultVar → Sem Value
  | .tmp t => pure (tmps.getD t undef)
  | .cell a t => do loadVar t (← asAddr (tmps.getD a undef))
theorem tmps_getD (E : Env) (t : Nat) : E.act.tmps.getD t undef = (E.t.getD t (false, undef)).2 := Env.eval_tmp E t

theorem resK_sound {P : Program} {E : Env} {H : Hp} : ∀ {rs : List ResultVar} {k : List Value → Prop}, resK P rs E H k →
    ∃ vs, k vs ∧ ∀ w : World, w.heap = H → (rs.mapM (resOne E.act.tmps)).run P w = .ok vs w
  | [], k, h => ⟨[], h, fun w _ => rfl⟩
  | .tmp t :: rs, k, h => by
    simp only [resK, getK_eq] at h
    obtain ⟨vs, hk, hr⟩ := resK_sound h
    refine ⟨_, hk, fun w hw => ?_⟩
    simp only [List.mapM_cons, resOne, bind, pure, Sem.bind]
    rw [run_bind, hr w hw, tmps_getD]
    rfl
  | .cell a T :: rs, k, h => by
    simp only [resK, getK_eq] at h
    obtain ⟨ad, hv, h⟩ := ptrK_sound h
    obtain ⟨v, h, hl⟩ := ldT_run h
    obtain ⟨vs, hk, hr⟩ := resK_sound h
    refine ⟨_, hk, fun w hw => ?_⟩
    simp only [List.mapM_cons, resOne, tmps_getD, hv, asAddr, bind, pure, Sem.bind]
    rw [run_bind, hl w hw]
    simp only
    rw [run_bind, hr w hw]
    rfl

theorem results_run {P : Program} {fn : Func} {E : Env} {H : Hp} {k : List Value → Prop} (h : resK P fn.results.toList E H k) :
    ∃ vs, k vs ∧ ∀ w : World, w.heap = H → (results fn E.act.tmps).run P w = .ok (resV vs) w := by
  obtain ⟨vs, hk, hr⟩ := resK_sound h
  refine ⟨vs, hk, fun w hw => ?_⟩
  have e : results fn E.act.tmps = (fn.results.toList.mapM (resOne E.act.tmps)).bind fun vs => .pure (resV vs) := by
    unfold results
    rw [Array.mapM_eq_mapM_toList]
    have hx : ∀ g : ResultVar → Sem Value, (∀ x, g x = resOne E.act.tmps x) → List.mapM g fn.results.toList = List.mapM (resOne E.act.tmps) fn.results.toList := by
      intro g hg
      rw [show g = resOne E.act.tmps from funext hg]
    rw [hx _ (by intro x; cases x <;> rfl)]
    rw [map_eq_pure_bind, bind_assoc]
    show Sem.bind _ _ = _
    congr 1
    funext vs
    rw [pure_bind]
    show Sem.pure _ = Sem.pure _
    congr 1
    match vs with
    | [] => rfl
    | [v] => rfl
    | a :: b :: r => rfl
  rw [e, run_bind, hr w hw]
  rfl

section
variable {P : Program} {b : Frame} {a : Act} {k : List Item} {cs : List Frame} {w : World}
theorem st_ret (hb : b.roundOf = none) : step P (lone (fat b a (.code .ret :: k)) cs w) = .next (lone { fat b a (.code .ret :: k) with mode := .returning } cs w) :=
  step_lone_go (by simp [stepG, stepG.exec, fat, hb])
theorem st_end (hb : b.roundOf = none) : step P (lone (fat b a []) cs w) = .next (lone { fat b a [] with mode := .returning } cs w) :=
  step_lone_go (by simp [stepG, stepG.exec, fat, hb])
theorem st_unw {D : Nat} {as : Array Value} {ds : List Deferred} {todo : List Item} (h : w.heap[D]? = some (.deferred (some []))) :
    step P (lone { fat b { a with defers := { target := .collected D, args := as } :: ds } todo with mode := .returning } cs w) =
      .next (lone { fat b { a with defers := ds } todo with mode := .returning } cs { w with heap := w.heap.setIfInBounds D (.deferred none) }) :=
  step_lone_go (by
    have : (Instr.takeDeferred D).run P w = .ok [] { w with heap := w.heap.setIfInBounds D (.deferred none) } := by
      simp only [Instr.takeDeferred, getObj, setObj, bind, Sem.bind, pure, Sem.run, h]
    simp [stepG, unwind, fat, this])

theorem unw_steps : ∀ {ds : List Deferred} {w : World} {K : Hp → Prop} {todo : List Item}, unwK ds w.heap K →
    ∃ w', Lk w w' ∧ K w'.heap ∧ Steps P (lone { fat b { a with defers := ds } todo with mode := .returning } cs w) (lone { fat b { a with defers := [] } todo with mode := .returning } cs w')
  | [], w, K, todo, h => ⟨w, Lk.refl w, h, .refl _ _⟩
  | d :: ds, w, K, todo, h => by
    obtain ⟨target, args⟩ := d
    cases target <;> first | exact h.elim | skip
    rename_i D
    obtain ⟨h1, h2⟩ := h
    obtain ⟨w', hl, hK, hs⟩ := unw_steps (w := { w with heap := w.heap.setIfInBounds D (.deferred none) }) (todo := todo) (h2 _ rfl)
    exact ⟨w', Lk.trans ⟨rfl, rfl, rfl⟩ hl, hK, .head (st_unw h1) hs⟩
end

theorem fnC_sound {P : Program} {aJ aL : Ann} {f : FuncId} {args : List Value} {H : Hp} {K : Value → Hp → Prop} {Z : List PanicEntry → Hp → Prop} (h : fnC P aJ aL f args H K Z) :
    CallF P f args.toArray H K Z := by
  intro w hw cs
  subst hw
  unfold fnC at h
  cases hf : P.funcs[f]? with
  | none => rw [hf] at h; exact h.elim
  | some fn =>
    rw [hf] at h
    simp only at h
    cases hb : fn.body with
    | none => rw [hb] at h; exact h.elim
    | some c =>
      rw [hb] at h
      simp only at h
      let b : Frame := { (default : Frame) with fn := f, kind := .normal }
      have hbr : b.roundOf = none := rfl
      have henter : Frame.enter P f args.toArray .normal = fat b (entry args fn.ntmps).act [.code c] := by
        simp [Frame.enter, fat, hf, hb, b, entry, Env.act, Function.comp_def]
        rfl
      obtain ⟨e, a', w', hl, hq, harr⟩ := comp_sound c h b [] cs w rfl rfl rfl
      rw [← henter] at harr
      have fin : ∀ (E' : Env) (todo : List Item), E'.act = a' → retC P fn.results.toList E' w'.heap K →
          Steps P (lone (Frame.enter P f args.toArray .normal) cs w) (lone { fat b a' todo with mode := .returning } cs w') →
          ∃ e w' fr, (Lk w w' ∧ match e with
            | .returned v => K v w'.heap
            | .panicked ch => Z ch w'.heap
            | .outgrown => False) ∧ Comes P (lone (Frame.enter P f args.toArray .normal) cs w) (lone fr cs w') e ∧ fr.fn = f ∧ fr.leaving P w' e := by
        intro E' todo he hr hs
        unfold retC at hr
        obtain ⟨w2, hl2, hr, hs2⟩ := unw_steps (P := P) (b := b) (a := a') (cs := cs) (todo := todo) hr
        have hd : E'.d = a'.defers := by rw [← he]; rfl
        rw [hd] at hs2
        obtain ⟨vs, hK, hres⟩ := results_run hr
        refine ⟨.returned (resV vs), w2, _, ⟨hl.trans hl2, hK⟩, Steps.trans hs hs2, rfl, rfl, rfl, rfl, fn, hf, ?_⟩
        have := hres w2 rfl
        rw [he] at this
        exact this
      cases e with
      | normal => obtain ⟨_, E', he, hr⟩ := hq; exact fin E' [] he hr (Steps.trans harr (.one (st_end hbr)))
      | ret => obtain ⟨_, E', he, hr⟩ := hq; obtain ⟨k0, hs⟩ := harr; exact fin E' _ he hr (Steps.trans hs (.one (st_ret hbr)))
      | panic ch =>
        obtain ⟨k0, hs⟩ := harr
        simp only [Good, Zd] at hq
        split at hq
        · rename_i hd
          exact ⟨.panicked ch, w', _, ⟨hl, hq⟩, hs, rfl, rfl, hd, fn, hf⟩
        · exact hq.elim
      | exit id => exact hq.2.elim fun E' h => h.2.elim
      | goto l => exact harr.elim
      | outgrown => exact harr.elim

/-! ### a round of a loop over a function -/
def endR (l : Nat) (jump : Option Code) (H : Hp) (K : Value → Hp → Prop) : Prop :=
  ∃ r, H[l]? = some (.loop r) ∧ ∀ H', H' = H.setIfInBounds l (.loop { r with state := if jump.isNone then .ready else .done, pending := jump }) → K (.bool jump.isNone) H'
def endRC (l : Nat) (K : Value → Hp → Prop) : Exit → Env → Hp → Prop := fun e E H => match e with
  | .normal => endR l none H K
  | .ret => endR l (some .ret) H K
  | .exit id => endR l (some (.exit id)) H K
  | _ => False
/-- The round of loop l, its record's temporaries and code told. -/
def rndC (P : Program) (aJ aL : Ann) (l : Nat) (fn : FuncId) (as body : Code) (E : Env) (H : Hp) (K : Value → Hp → Prop) : Prop :=
  comp P (some l) fn aJ aL (fun _ _ _ => False) as (fun e E1 H1 => match e with
    | .normal => ∃ r, H1[l]? = some (.loop r) ∧ r.state = .ready ∧ ∀ H2, H2 = H1.setIfInBounds l (.loop { r with state := .busy }) →
        comp P (some l) fn aJ aL (fun _ _ _ => False) body (endRC l K) E1 H2
    | _ => False) E H

section
variable {P : Program} {b : Frame} {a : Act} {k : List Item} {c : Frame} {cs : List Frame} {w w' : World} {l : Nat}
theorem st_begin (hb : b.roundOf = some l) (h : (Instr.beginRound l).run P w = .ok () w') : step P (lone (fat b a (.beginRound :: k)) cs w) = .next (lone (fat b a k) cs w') :=
  step_lone_go (by
    have : (do b.roundOf.elim (stuck "beginRound: no round") Instr.beginRound; pure .skip : Sem Next).run P w = .ok .skip w' := by
      rw [hb]
      simp only [Option.elim, bind]
      rw [run_bind, h]
      rfl
    simp only [stepG, stepG.exec, fat, stepG.apply]
    rw [Sem.runT_eq, this]
    simp [Frame.finish])
theorem st_leave {jump : Option Code} {v : Value} (hb : b.roundOf = some l) (hk : b.kind = .normal) {todo : List Item} (ht : (todo = [] ∧ jump = none) ∨ (∃ k0, todo = .code .ret :: k0 ∧ jump = some .ret) ∨ (∃ id k0, todo = .code (.exit id) :: k0 ∧ exitTo id k0 = none ∧ jump = some (.exit id)))
    (h : (Instr.endRound l jump).run P w = .ok v w') : step P (lone (fat b a todo) (c :: cs) w) = .next (lone (c.finish v) cs w') :=
  step_lone_go (by
    rcases ht with ⟨rfl, rfl⟩ | ⟨k0, rfl, rfl⟩ | ⟨id, k0, rfl, hx, rfl⟩
    · simp only [stepG, stepG.exec, fat, hb]
      rw [Sem.runT_eq, h]
      simp [doReturn, hk]
    · simp only [stepG, stepG.exec, fat, hb]
      rw [Sem.runT_eq, h]
      simp [doReturn, hk]
    · simp only [stepG, stepG.exec, fat, hb, hx, Option.elim]
      rw [Sem.runT_eq, h]
      simp [doReturn, hk])
end

theorem rndC_sound {P : Program} {aJ aL : Ann} {l : Nat} {fn : FuncId} {as body : Code} {E : Env} {H : Hp} {K : Value → Hp → Prop} (hd : E.d = []) (h : rndC P aJ aL l fn as body E H K) :
    Rnd P l fn E.act.tmps as body H K := by
  intro w hw c cs
  subst hw
  let b : Frame := { (default : Frame) with fn := fn, kind := .normal, roundOf := some l }
  have hstart : Frame.round l fn E.act.tmps as body .normal = fat b E.act [.code as, .beginRound, .code body] := by
    simp only [Frame.round, fat, b, Env.act, hd]
  rw [hstart]
  obtain ⟨e, a1, w1, hl1, hq, harr⟩ := comp_sound as h b [.beginRound, .code body] (c :: cs) w rfl rfl rfl
  cases e with
  | normal =>
    obtain ⟨_, E1, rfl, r, hr, hst, hb⟩ := hq
    let w2 : World := { w1 with heap := w1.heap.setIfInBounds l (.loop { r with state := .busy }) }
    have hbeg : (Instr.beginRound l).run P w1 = .ok () w2 := by
      simp only [Instr.beginRound, Instr.getLoop, getObj, setObj, bind, Sem.bind, pure, Sem.run, hr, hst]
      rfl
    have hb := hb w2.heap rfl
    obtain ⟨e2, a2, w3, hl3, hq2, harr2⟩ := comp_sound body hb b [] (c :: cs) w2 rfl rfl rfl
    have hs1 : Steps P (lone (fat b E.act [.code as, .beginRound, .code body]) (c :: cs) w) (lone (fat b E1.act [.code body]) (c :: cs) w2) :=
      Steps.trans harr (.one (st_begin rfl hbeg))
    have hlk : Lk w w3 := hl1.trans (Lk.trans (b := w2) ⟨rfl, rfl, rfl⟩ hl3)
    have fin : ∀ (jump : Option Code) (todo : List Item), ((todo = [] ∧ jump = none) ∨ (∃ k0, todo = .code .ret :: k0 ∧ jump = some .ret) ∨ (∃ id k0, todo = .code (.exit id) :: k0 ∧ exitTo id k0 = none ∧ jump = some (.exit id))) →
        endR l jump w3.heap K → Steps P (lone (fat b E1.act [.code body]) (c :: cs) w2) (lone (fat b a2 todo) (c :: cs) w3) →
        ∃ v w', Lk w w' ∧ K v w'.heap ∧ Steps P (lone (fat b E.act [.code as, .beginRound, .code body]) (c :: cs) w) (lone (c.finish v) cs w') := by
      intro jump todo ht hR hs
      obtain ⟨r3, hr3, hK⟩ := hR
      let w4 : World := { w3 with heap := w3.heap.setIfInBounds l (.loop { r3 with state := if jump.isNone then .ready else .done, pending := jump }) }
      have hend : (Instr.endRound l jump).run P w3 = .ok (.bool jump.isNone) w4 := by
        simp only [Instr.endRound, Instr.getLoop, getObj, setObj, bind, Sem.bind, pure, Sem.run, hr3]
        rfl
      exact ⟨_, w4, hlk.trans ⟨rfl, rfl, rfl⟩, hK _ rfl, Steps.trans hs1 (Steps.trans hs (.one (st_leave rfl rfl ht hend)))⟩
    cases e2 with
    | normal => obtain ⟨_, E2, rfl, hR⟩ := hq2; exact fin none [] (.inl ⟨rfl, rfl⟩) hR harr2
    | ret => obtain ⟨_, E2, rfl, hR⟩ := hq2; obtain ⟨k0, hs⟩ := harr2; exact fin _ _ (.inr (.inl ⟨k0, rfl, rfl⟩)) hR hs
    | exit id => obtain ⟨_, E2, rfl, hR⟩ := hq2; obtain ⟨k0, hx, hs⟩ := harr2; exact fin _ _ (.inr (.inr ⟨id, k0, rfl, hx, rfl⟩)) hR hs
    | panic ch => exact hq2.elim
    | goto l => exact harr2.elim
    | outgrown => exact harr2.elim
  | panic ch => exact hq.elim
  | ret => exact hq.2.elim fun E' h => h.2.elim
  | exit id => exact hq.2.elim fun E' h => h.2.elim
  | goto l => exact harr.elim
  | outgrown => exact harr.elim

/-- yield's arguments laid into the record's temporaries -/
def layK : List Nat → List Value → List (Bool × Value) → (List (Bool × Value) → Prop) → Prop
  | p :: ps, v :: vs, t, k => setK t p (false, v) fun t' => layK ps vs t' k
  | [], [], t, k => k t
  | _, _, _, _ => False
theorem layK_eq : ∀ {ps : List Nat} {vs : List Value} {t : List (Bool × Value)} {k : List (Bool × Value) → Prop}, layK ps vs t k →
    ps.length = vs.length ∧ ∃ t', k t' ∧ (t'.map (·.2)).toArray = (ps.zip vs).foldl (fun tmps x => tmps.setIfInBounds x.1 x.2) (t.map (·.2)).toArray
  | p :: ps, v :: vs, t, k, h => by
    simp only [layK, setK_eq] at h
    obtain ⟨hl, t', hk, he⟩ := layK_eq h
    refine ⟨by simp [hl], t', hk, ?_⟩
    rw [he]
    simp [List.map_set]
  | [], [], t, k, h => ⟨rfl, t, h, rfl⟩
  | [], _ :: _, t, k, h => h.elim
  | _ :: _, [], t, k, h => h.elim

/-- A loop's record, as the machine lays it. -/
def findRF : Code → Nat → Option (Array Tmp × Code × Code)
  | .seq a b, n => (match findRF a n with | some r => some r | none => findRF b n)
  | .cond _ a b, n => (match findRF a n with | some r => some r | none => findRF b n)
  | .block _ c, n => findRF c n
  | .loop c, n => findRF c n
  | .scope c, n => findRF c n
  | .rangeFunc f ps as body, n => if key (.rangeFunc f ps as body) = n then some (ps, as, body) else (match findRF as n with | some r => some r | none => findRF body n)
  | _, _ => none
def lrec (f : Func) (fn : FuncId) (n : Nat) (tmps : List Value) (D : Nat) : Loop := match f.body.bind (findRF · n) with
  | some (ps, as, body) => ⟨.ready, none, fn, tmps.toArray, ps, as, body, D⟩
  | none => default
/-- A round of the loop with number n in function f, its yield called. -/
def yldC (P : Program) (aJ aL : Ann) (f : Func) (fn : FuncId) (n : Nat) (l : Nat) (tmps args : List Value) (H : Hp) (K : Value → Hp → Prop) : Prop := match f.body.bind (findRF · n) with
  | some (ps, as, body) => layK ps.toList args (tmps.map fun v => (false, v)) fun t => rndC P aJ aL l fn as body ⟨t, []⟩ H K
  | none => False
theorem yldC_sound {P : Program} {aJ aL : Ann} {f : Func} {fn n l : Nat} {tmps args : List Value} {H : Hp} {K : Value → Hp → Prop} {r : Loop}
    (hr : H[l]? = some (.loop r)) (hfn : r.fn = fn) (ht : r.tmps = tmps.toArray) (hp : r.params = (lrec f fn n tmps 0).params) (ha : r.assign = (lrec f fn n tmps 0).assign) (hb : r.body = (lrec f fn n tmps 0).body)
    (h : yldC P aJ aL f fn n l tmps args H K) : Yld P l args H K := by
  unfold yldC at h
  unfold lrec at hp ha hb
  cases hx : f.body.bind (findRF · n) with
  | none => rw [hx] at h; exact h.elim
  | some x =>
    obtain ⟨ps, as, body⟩ := x
    rw [hx] at h hp ha hb
    simp only at h hp ha hb
    obtain ⟨hl, t', hk, he⟩ := layK_eq h
    refine ⟨r, hr, by rw [hp]; simpa using hl.symm, ?_⟩
    have := rndC_sound (E := ⟨t', []⟩) rfl hk
    rw [hfn, ha, hb, hp]
    have e : (⟨t', []⟩ : Env).act.tmps = (ps.zip args.toArray).foldl (fun tmps (x : Tmp × Value) => tmps.setIfInBounds x.1 x.2) r.tmps := by
      simp only [Env.act]
      rw [he, ht]
      have h1 : (List.map (fun x : Bool × Value => x.2) (List.map (fun v => (false, v)) tmps)) = tmps := by simp [Function.comp_def]
      rw [h1]
      rw [← Array.foldl_toList]
      simp
    rw [e] at this
    exact this
end Go.V
end

section
/- Words that printed conditions use. -/
set_option linter.unusedVariables false
set_option linter.unusedSimpArgs false
namespace Go.V
abbrev w64 (x : Int) : Int := IntKind.wrap .i64 x
def bitAnd (k : IntKind) (x y : Int) : Int := k.wrap ((BitVec.ofInt k.bits x &&& BitVec.ofInt k.bits y).toNat)
def bitOr (k : IntKind) (x y : Int) : Int := k.wrap ((BitVec.ofInt k.bits x ||| BitVec.ofInt k.bits y).toNat)
def bitXor (k : IntKind) (x y : Int) : Int := k.wrap ((BitVec.ofInt k.bits x ^^^ BitVec.ofInt k.bits y).toNat)
def bitAndNot (k : IntKind) (x y : Int) : Int := k.wrap ((BitVec.ofInt k.bits x &&& ~~~BitVec.ofInt k.bits y).toNat)
def beqS (x y : ByteArray) : Bool := x.toList == y.toList
def ltS (x y : ByteArray) : Bool := Op.bytesLess x.toList y.toList
end Go.V
end

section
/- Blocks, frames and rows of one's own: the lemmas with which printed conditions are met. -/
set_option linter.unusedVariables false
set_option linter.unusedSimpArgs false
namespace Go.V

/-! ### frames -/
/-- All blocks beside S are as they were. -/
structure Fr (S : Nat → Prop) (H H' : Hp) : Prop where
  size : H.size ≤ H'.size
  keep : ∀ i, i < H.size → ¬ S i → H'[i]? = H[i]?
def no : Nat → Prop := fun _ => False
theorem lt_of_some {H : Hp} {b : Nat} {o : Obj} (h : H[b]? = some o) : b < H.size := (Array.getElem?_eq_some_iff.1 h).1
theorem Fr.refl (S : Nat → Prop) (H : Hp) : Fr S H H := ⟨Nat.le_refl _, fun _ _ _ => rfl⟩
theorem Fr.at {S : Nat → Prop} {H H' : Hp} (hf : Fr S H H') {b : Nat} {o : Obj} (h : H[b]? = some o) (hs : ¬ S b) : H'[b]? = some o := (hf.keep b (lt_of_some h) hs).trans h
theorem Fr.mono {S S' : Nat → Prop} {H H' : Hp} (hf : Fr S H H') (h : ∀ i, i < H.size → S i → S' i) : Fr S' H H' := ⟨hf.size, fun i hi hn => hf.keep i hi fun hs => hn (h i hi hs)⟩
/-- A further step, on blocks of S or on new ones. -/
theorem Fr.step {S T : Nat → Prop} {A B C : Hp} (h : Fr S A B) (k : Fr T B C) (ht : ∀ i, i < A.size → T i → S i) : Fr S A C :=
  ⟨Nat.le_trans h.size k.size, fun i hi hn => (k.keep i (Nat.lt_of_lt_of_le hi h.size) fun hti => hn (ht i hi hti)).trans (h.keep i hi hn)⟩
theorem Fr.trans {S : Nat → Prop} {A B C : Hp} (h : Fr S A B) (k : Fr S B C) : Fr S A C := h.step k fun _ _ h => h
theorem Fr.of_no {S : Nat → Prop} {H H' : Hp} (hf : Fr no H H') : Fr S H H' := hf.mono fun _ _ h => h.elim

theorem add_mk (b o k : Nat) : Addr.add ⟨b, o, none⟩ k = ⟨b, o + k, none⟩ := by unfold Addr.add; split <;> simp_all

/-! ### blocks -/
/-- A block of cells, none of them frozen. -/
def Blk (H : Hp) (b : Nat) (cs : List Value) (T : TypeId) : Prop := H[b]? = some (.cells cs.toArray T (0, 0))
theorem Blk.lt {H : Hp} {b : Nat} {cs : List Value} {T : TypeId} (h : Blk H b cs T) : b < H.size := lt_of_some h
theorem Blk.ld {H : Hp} {b : Nat} {cs : List Value} {T : TypeId} (h : Blk H b cs T) (i : Nat) : hcell H ⟨b, i, none⟩ = cs[i]? := by
  unfold hcell
  have h' : H[b]? = some (.cells cs.toArray T (0, 0)) := h
  simp only [h', Option.isSome_none, Bool.false_eq_true, if_false]
  simp
theorem Blk.frozen {H : Hp} {b : Nat} {cs : List Value} {T : TypeId} (h : Blk H b cs T) (i : Nat) : hfrozen H ⟨b, i, none⟩ = false := by
  unfold hfrozen
  have h' : H[b]? = some (.cells cs.toArray T (0, 0)) := h
  simp only [h']
  simp
theorem Fr.blk {S : Nat → Prop} {H H' : Hp} (hf : Fr S H H') {b : Nat} {cs : List Value} {T : TypeId} (h : Blk H b cs T) (hs : ¬ S b) : Blk H' b cs T := hf.at h hs

theorem Newb.fr {H H' : Hp} {o : Obj} {b : Nat} (h : Newb H o b H') : Fr no H H' := by
  obtain ⟨rfl, rfl⟩ := h
  exact ⟨by simp, fun i hi _ => by rw [Array.getElem?_push, if_neg (by omega)]⟩
theorem Newb.get {H H' : Hp} {o : Obj} {b : Nat} (h : Newb H o b H') : H'[b]? = some o := by
  obtain ⟨rfl, rfl⟩ := h
  simp
theorem Newb.eq {H H' : Hp} {o : Obj} {b : Nat} (h : Newb H o b H') : b = H.size := h.1
theorem Newb.size {H H' : Hp} {o : Obj} {b : Nat} (h : Newb H o b H') : H'.size = H.size + 1 := by
  obtain ⟨rfl, rfl⟩ := h
  simp
theorem Newb.blk {H H' : Hp} {cs : List Value} {T : TypeId} {b : Nat} (h : Newb H (.cells cs.toArray T) b H') : Blk H' b cs T := h.get

theorem hset_get {H : Hp} {a : Addr} {v : Value} {i : Nat} (h : i ≠ a.block) : (hset H a v)[i]? = H[i]? := by
  unfold hset
  rw [Array.getElem?_modify, if_neg (fun e => h e.symm)]
theorem hset_size {H : Hp} {a : Addr} {v : Value} : (hset H a v).size = H.size := by unfold hset; simp
theorem hset_fr {H : Hp} {b i : Nat} {v : Value} : Fr (fun j => j = b) H (hset H ⟨b, i, none⟩ v) := ⟨by rw [hset_size]; exact Nat.le_refl _, fun j hj hn => hset_get hn⟩
theorem hset_cells {H : Hp} {b i : Nat} {v : Value} {cs : List Value} {T : TypeId} {fr : Nat × Nat} (h : H[b]? = some (.cells cs.toArray T fr)) :
    (hset H ⟨b, i, none⟩ v)[b]? = some (.cells (cs.set i v).toArray T fr) := by
  unfold hset
  rw [Array.getElem?_modify]
  simp [h]

/-- one block changed -/
theorem setB {H H' : Hp} {i : Nat} {x y : Obj} (hx : H[i]? = some x) (h : H' = H.setIfInBounds i y) : Fr (fun j => j = i) H H' ∧ H'[i]? = some y ∧ H'.size = H.size := by
  subst h
  have hi := lt_of_some hx
  refine ⟨⟨by simp, fun j hj hn => ?_⟩, ?_, by simp⟩
  · rw [Array.getElem?_setIfInBounds_ne (Ne.symm hn)]
  · rw [Array.getElem?_setIfInBounds_self_of_lt hi]
theorem lrec_eq {f : Func} {n : Nat} (h : (f.body.bind (findRF · n)).isSome = true) : ∃ ps as body, ∀ (fn : FuncId) (tmps : List Value) (D : Nat), lrec f fn n tmps D = ⟨.ready, none, fn, tmps.toArray, ps, as, body, D⟩ := by
  unfold lrec
  cases hx : f.body.bind (findRF · n) with
  | none => rw [hx] at h; cases h
  | some x =>
    obtain ⟨ps, as, body⟩ := x
    exact ⟨ps, as, body, fun _ _ _ => rfl⟩

/-- Cells written one behind the other. -/
def setsL : List Value → Nat → List Value → List Value
  | cs, _, [] => cs
  | cs, i, v :: vs => setsL (cs.set i v) (i + 1) vs
theorem setsL_length : ∀ (vs cs : List Value) (i : Nat), (setsL cs i vs).length = cs.length
  | [], cs, i => rfl
  | v :: vs, cs, i => by rw [setsL, setsL_length vs]; simp
theorem stL_cells {b o : Nat} {T : TypeId} {fr : Nat × Nat} : ∀ (vs : List Value) (i : Nat) {H : Hp} {cs : List Value} {K : Hp → Prop}, H[b]? = some (.cells cs.toArray T fr) →
    o + i + vs.length ≤ cs.length → (∀ v ∈ vs, v.oneCell = true) → (fr.2 ≤ o + i ∨ fr.2 ≤ fr.1) →
    (∀ H', H'[b]? = some (.cells (setsL cs (o + i) vs).toArray T fr) → Fr (fun j => j = b) H H' → H'.size = H.size → K H') → StL ⟨b, o, none⟩ i vs H K
  | [], i, H, cs, K, h, hl, hv, hf, k => k H h (Fr.refl _ _) rfl
  | v :: vs, i, H, cs, K, h, hl, hv, hf, k => by
    simp only [List.length_cons] at hl
    refine ⟨hv v List.mem_cons_self, ?_, ?_, ?_⟩
    · rw [add_mk]
      unfold hcell
      simp only [h, Option.isSome_none, Bool.false_eq_true, if_false]
      exact ⟨cs[o + i]'(by omega), by simp⟩
    · rw [add_mk]
      unfold hfrozen
      simp only [h]
      obtain ⟨lo, hi⟩ := fr
      simp only at hf ⊢
      simp only [Bool.and_eq_false_iff, decide_eq_false_iff_not, Nat.not_le, Nat.not_lt]
      omega
    · rw [add_mk]
      have h1 := hset_cells (i := o + i) (v := v) h
      refine stL_cells vs (i + 1) h1 (by simp; omega) (fun u hu => hv u (List.mem_cons_of_mem _ hu)) (by omega) ?_
      intro H' h2 hf2 hs2
      refine k H' (by simpa [setsL, Nat.add_assoc] using h2) ((hset_fr (i := o + i) (v := v)).trans hf2) (by rw [hs2, hset_size])
theorem st_blk {b i : Nat} {v : Value} {cs : List Value} {T : TypeId} {H : Hp} {K : Hp → Prop} (h : Blk H b cs T) (hi : i < cs.length) (hv : v.oneCell = true)
    (k : ∀ H', Blk H' b (cs.set i v) T → Fr (fun j => j = b) H H' → H'.size = H.size → K H') : StL ⟨b, i, none⟩ 0 [v] H K :=
  stL_cells [v] 0 h (by simp; omega) (by simpa using hv) (.inr (Nat.le_refl _)) fun H' h1 h2 h3 => k H' h1 h2 h3

/-! ### runs over heaps -/
theorem hrun_bind {α β : Type} {P : Program} (s : Sem α) : ∀ {f : α → Sem β} {H : Hp} {K : β → Hp → Prop} {Z : Value → Hp → Prop},
    hrun P s H (fun a H' => hrun P (f a) H' K Z) Z → hrun P (s.bind f) H K Z := by
  induction s with
  | pure a => intro f H K Z h; exact h
  | load m a k ih => intro f H K Z h; obtain ⟨v, hv, h⟩ := h; exact ⟨v, hv, ih v h⟩
  | store m a v k ih => intro f H K Z h; exact ⟨h.1, h.2.1, h.2.2.1, ih h.2.2.2⟩
  | new o k ih => intro f H K Z h b H' hb; exact ih b (h b H' hb)
  | shape r k ih => intro f H K Z h; exact ih _ h
  | freeze a n k ih => intro f H K Z h; exact ih h
  | frozen a k ih => intro f H K Z h; exact ih _ h
  | getObj r k ih => intro f H K Z h; obtain ⟨o, h1, h2, h⟩ := h; exact ⟨o, h1, h2, ih o h⟩
  | setObj r o k ih => intro f H K Z h; exact ⟨h.1, ih h.2⟩
  | choose q k ih =>
    intro f H K Z h
    simp only [hrun, Sem.bind] at h ⊢
    by_cases hq : q.forced = true
    · rw [if_pos hq] at h ⊢; exact ih 0 h
    · rw [if_neg hq] at h ⊢; exact fun t => ih _ (h t)
  | sys c k ih => intro f H K Z h; exact h.elim
  | program k ih => intro f H K Z h; exact ih P h
  | mark m k ih => intro f H K Z h; exact ih h
  | halt x => intro f H K Z h; cases x <;> exact h

theorem hrun_pureV {α : Type} {P : Program} (s : Sem α) : ∀ {a : α}, pureV P s = some a → ∀ {H : Hp} {K : α → Hp → Prop} {Z : Value → Hp → Prop}, K a H → hrun P s H K Z := by
  induction s <;> intro x h H K Z hk <;> simp only [pureV] at h <;> try (cases h; done)
  case pure a => cases h; exact hk
  case program k ih => exact ih P h hk
  case mark m k ih => exact ih h hk
theorem pv_underlying {P : Program} {t : TypeId} {d : TypeDesc} (h : P.underlying t = some d) : pureV P (underlying t) = some d := by
  simp [underlying, program, bind, Sem.bind, pure, pureV, h]
theorem pv_sizeOf {P : Program} {t : TypeId} {i : TypeInfo} (h : P.info? t = some i) : pureV P (sizeOf t) = some i.size := by
  simp [sizeOf, typeInfo, program, bind, Sem.bind, pure, pureV, h]
theorem pv_typeInfo {P : Program} {t : TypeId} {i : TypeInfo} (h : P.info? t = some i) : pureV P (typeInfo t) = some i := by
  simp [typeInfo, program, bind, Sem.bind, pure, pureV, h]
theorem pv_zero {P : Program} {t : TypeId} {i : TypeInfo} {z : Value} (h : P.info? t = some i) (hz : i.zero = some z) : pureV P (zeroValue t) = some z := by
  simp [zeroValue, typeInfo, program, bind, Sem.bind, pure, pureV, h, hz]
theorem hrun_pv {α β : Type} {P : Program} {s : Sem α} {f : α → Sem β} {a : α} {H : Hp} {K : β → Hp → Prop} {Z : Value → Hp → Prop} (h : pureV P s = some a) (k : hrun P (f a) H K Z) : hrun P (s >>= f) H K Z :=
  hrun_bind s (hrun_pureV s h k)

theorem hrun_loadCells {P : Program} {a : Addr} : ∀ (cs : List Value) (i : Nat) (acc : Array Value) {H : Hp} {K : Array Value → Hp → Prop} {Z : Value → Hp → Prop}, AtL H a i cs → K (acc ++ cs.toArray) H →
    hrun P (loadCellsFrom a i cs.length acc) H K Z
  | [], i, acc, H, K, Z, _, k => by simpa [loadCellsFrom, pure, hrun] using k
  | c :: cs, i, acc, H, K, Z, h, k => by
    simp only [List.length_cons, loadCellsFrom]
    exact ⟨c, h.1, hrun_loadCells cs (i + 1) (acc.push c) h.2 (by simpa using k)⟩
theorem hrun_storeCells {P : Program} {a : Addr} : ∀ (vs : List Value) (i : Nat) {H : Hp} {K : Unit → Hp → Prop} {Z : Value → Hp → Prop}, StL a i vs H (fun H' => K () H') → hrun P (storeCells a vs i) H K Z
  | [], i, H, K, Z, h => h
  | v :: vs, i, H, K, Z, h => ⟨h.1, h.2.1, h.2.2.1, hrun_storeCells vs (i + 1) h.2.2.2⟩

theorem atL_of {H : Hp} {b o : Nat} {T : TypeId} {fr : Nat × Nat} {cs : List Value} (h : H[b]? = some (.cells cs.toArray T fr)) : ∀ (vs : List Value) (i : Nat), (∀ j, j < vs.length → cs[o + i + j]? = vs[j]?) → AtL H ⟨b, o, none⟩ i vs
  | [], i, _ => trivial
  | v :: vs, i, hv => by
    refine ⟨?_, atL_of h vs (i + 1) fun j hj => ?_⟩
    · rw [add_mk]
      unfold hcell
      simp only [h, Option.isSome_none, Bool.false_eq_true, if_false]
      have := hv 0 (by simp)
      simpa using this
    · have := hv (j + 1) (by simpa using hj)
      simpa [Nat.add_assoc, Nat.add_comm 1 j] using this

/-! ### rows of one's own -/
/-- A slice that owns its row from the row's head on; xs: its cells, elements flat. -/
def Row (H : Hp) (E : TypeId) (sz : Nat) (s : Sl) (xs : List Value) : Prop :=
  xs.length = s.n * sz ∧ ((s.a = none ∧ s.n = 0 ∧ s.c = 0) ∨ ∃ (g : Nat) (cs : List Value) (fr : Nat × Nat), s.a = some ⟨g, 0, none⟩ ∧ H[g]? = some (.cells cs.toArray E fr) ∧
    s.n ≤ s.c ∧ cs.length = s.c * sz ∧ cs.take (s.n * sz) = xs ∧ fr.2 ≤ s.n * sz)
def own (s : Sl) (i : Nat) : Prop := ∃ o, s.a = some ⟨i, o, none⟩
theorem Row.nil (H : Hp) (E : TypeId) (sz : Nat) : Row H E sz ⟨none, 0, 0⟩ [] := ⟨by simp, .inl ⟨rfl, rfl, rfl⟩⟩
theorem Row.keep {S : Nat → Prop} {H H' : Hp} {E : TypeId} {sz : Nat} {s : Sl} {xs : List Value} (h : Row H E sz s xs) (hf : Fr S H H') (hs : ∀ i, own s i → ¬ S i) : Row H' E sz s xs := by
  refine ⟨h.1, ?_⟩
  rcases h.2 with h | ⟨g, cs, fr, ha, hg, h⟩
  · exact .inl h
  · exact .inr ⟨g, cs, fr, ha, hf.at hg (hs g ⟨0, ha⟩), h⟩
theorem Row.lt {H : Hp} {E : TypeId} {sz : Nat} {s : Sl} {xs : List Value} (h : Row H E sz s xs) {i : Nat} (hi : own s i) : i < H.size := by
  obtain ⟨o, hi⟩ := hi
  rcases h.2 with h | ⟨g, cs, fr, ha, hg, h⟩
  · rw [h.1] at hi; cases hi
  · rw [ha] at hi; cases hi; exact lt_of_some hg
theorem Row.le {H : Hp} {E : TypeId} {sz : Nat} {s : Sl} {xs : List Value} (h : Row H E sz s xs) : s.n ≤ s.c := by
  rcases h.2 with h | ⟨g, cs, fr, ha, hg, h⟩
  · omega
  · exact h.1
/-- its cells, read -/
theorem Row.ld {H : Hp} {E : TypeId} {sz : Nat} {s : Sl} {xs : List Value} (h : Row H E sz s xs) {ad : Addr} (ha : s.a = some ad) (i : Nat) (hi : i < xs.length) : hcell H (ad.add i) = xs[i]? := by
  rcases h.2 with h' | ⟨g, cs, fr, ha', hg, h1, h2, h3, h4⟩
  · rw [h'.1] at ha; cases ha
  · rw [ha'] at ha
    cases ha
    rw [add_mk, Nat.zero_add]
    unfold hcell
    simp only [hg, Option.isSome_none, Bool.false_eq_true, if_false]
    rw [← h3, List.getElem?_take]
    have : i < s.n * sz := by rw [← h.1]; exact hi
    simp [this]
theorem Row.some {H : Hp} {E : TypeId} {sz : Nat} {s : Sl} {xs : List Value} (h : Row H E sz s xs) (hn : 0 < s.n) : ∃ g, s.a = some ⟨g, 0, none⟩ := by
  rcases h.2 with h' | ⟨g, cs, fr, ha', _⟩
  · omega
  · exact ⟨g, ha'⟩

/-- What an append's second operand holds: m elements, their cells ys. -/
def Src (H : Hp) (sz : Nat) (v : Value) (m : Nat) (ys : List Value) : Prop := ys.length = m * sz ∧ match v with
  | .slice (some ad) n _ => n = m ∧ AtL H ad 0 ys
  | .slice none n _ => n = m ∧ m = 0
  | .string s => s.size = m ∧ sz = 1 ∧ ys = s.data.toList.map fun b => .int .u8 b.toNat
  | _ => False
theorem Src.blk {H : Hp} {b : Nat} {cs : List Value} {T : TypeId} (h : Blk H b cs T) {sz m c : Nat} (hm : cs.length = m * sz) : Src H sz (.slice (some ⟨b, 0, none⟩) m c) m cs :=
  ⟨hm, rfl, atL_of h cs 0 fun j hj => by simp⟩
theorem Src.row {H : Hp} {E : TypeId} {sz : Nat} {s : Sl} {xs : List Value} (h : Row H E sz s xs) : Src H sz (.slice s.a s.n s.c) s.n xs := by
  refine ⟨h.1, ?_⟩
  rcases h.2 with h' | ⟨g, cs, fr, ha', hg, h1, h2, h3, h4⟩
  · rw [h'.1]; exact ⟨rfl, h'.2.1⟩
  · rw [ha']
    refine ⟨rfl, atL_of hg xs 0 fun j hj => ?_⟩
    rw [← h3, List.getElem?_take]
    have : j < s.n * sz := by rw [← h.1]; exact hj
    simp [this]
theorem hrun_lenOf {P : Program} {H : Hp} {sz m : Nat} {v : Value} {ys : List Value} (h : Src H sz v m ys) : pureV P (Builtin.lenOf v) = some m := by
  obtain ⟨_, h⟩ := h
  cases v <;> first | exact h.elim | skip
  · rename_i s; simp only at h; simp [Builtin.lenOf, pure, pureV, h.1]
  · rename_i a n c; cases a <;> (simp only at h; simp [Builtin.lenOf, pure, pureV, h.1])
theorem hrun_firstCells {P : Program} {H : Hp} {sz m : Nat} {v : Value} {ys : List Value} {K : Array Value → Hp → Prop} {Z : Value → Hp → Prop} (h : Src H sz v m ys) (k : K ys.toArray H) : hrun P (Builtin.firstCells sz m v) H K Z := by
  obtain ⟨hl, h⟩ := h
  cases v <;> first | exact h.elim | skip
  · rename_i s
    simp only at h
    obtain ⟨h1, h2, h3⟩ := h
    simp only [Builtin.firstCells, pure, hrun]
    have : ((s.extract 0 m).data.map fun b => Value.int .u8 b.toNat) = ys.toArray := by
      rw [h3, ← h1]
      apply Array.ext'
      have e : s.extract 0 s.size = s := by
        apply ByteArray.ext
        simp [ByteArray.data_extract]
      rw [e]
      simp
    rw [this]
    exact k
  · rename_i a n c
    cases a with
    | none =>
      simp only at h
      obtain ⟨h1, h2⟩ := h
      have : ys = [] := List.eq_nil_of_length_eq_zero (by rw [hl, h2]; simp)
      subst this
      exact k
    | some ad =>
      simp only at h
      simp only [Builtin.firstCells, loadCells]
      rw [← hl]
      exact hrun_loadCells ys 0 #[] h.2 (by simpa using k)

theorem zeroCells_size (z : Array Value) (n : Nat) : (Builtin.zeroCells z n).size = n * z.size := by simp [Builtin.zeroCells]

/-- nothing of it is frozen -/
def Nf (H : Hp) (s : Sl) : Prop := ∀ g o, s.a = some ⟨g, o, none⟩ → ∃ cs T, H[g]? = some (.cells cs T (0, 0))
theorem Nf.keep {S : Nat → Prop} {H H' : Hp} {s : Sl} (h : Nf H s) (hf : Fr S H H') (hs : ∀ i, own s i → ¬ S i) : Nf H' s := by
  intro g o e
  obtain ⟨cs, T, hg⟩ := h g o e
  exact ⟨cs, T, hf.at hg (hs g ⟨o, e⟩)⟩
/-- append(s, ..): s owns its row. -/
theorem app_row3 {P : Program} {T T2 E : TypeId} {inf : TypeInfo} {z : Value} (hu : P.underlying T = some (.slice E)) (hu2 : ∀ k, P.underlying T2 ≠ some (.int k)) (hu2' : ∃ d, P.underlying T2 = some d) (hi : P.info? E = some inf) (hz : inf.zero = some z) (hzs : z.cells.size = inf.size) (hb : 0 < inf.bytes)
    {H : Hp} {s : Sl} {xs ys : List Value} {y : Value} {m : Nat} {K : Sl → Hp → Prop} {ty : TypeId} (hr : Row H E inf.size s xs) (hy : Src H inf.size y m ys) (h1 : ∀ v ∈ ys, v.oneCell = true) (hl : (s.n + m) * inf.bytes ≤ 140737488355328)
    (k : ∀ s' H', Row H' E inf.size s' (xs ++ ys) → s'.n = s.n + m → Fr (own s) H H' → (∀ i, own s' i → own s i ∨ H.size ≤ i) → (Nf H s → Nf H' s') → (s.n + m ≤ s.c → s'.c = s.c ∧ s'.a = s.a) → K s' H') : App P #[T, T2] ty H [.slice s.a s.n s.c, y] K := by
  unfold App
  unfold Builtin.append_
  simp only [List.getElem?_toArray, List.getElem?_cons_zero, List.getElem?_cons_succ]
  refine hrun_pv (pv_underlying hu) ?_
  simp only
  refine hrun_pv (pv_sizeOf hi) ?_
  obtain ⟨d2, hd2⟩ := hu2'
  refine hrun_bind _ (hrun_pureV _ (pv_underlying hd2) ?_)
  simp only [pure, bind, Sem.bind]
  split
  · exact absurd hd2 (hu2 _)
  simp only [Bool.false_eq_true, if_false, Bool.not_false, if_true, Bool.not_true]
  refine hrun_bind _ (hrun_pureV _ (hrun_lenOf hy) ?_)
  have hle := hr.le
  by_cases hc : s.n + m ≤ s.c
  · rw [if_pos hc]
    refine hrun_bind _ (hrun_firstCells hy ?_)
    rcases hr.2 with h' | ⟨g, cs, fr, ha, hg, h2, h3, h4, h5⟩
    · have hm0 : m = 0 := by omega
      have hys : ys = [] := List.eq_nil_of_length_eq_zero (by rw [hy.1, hm0]; simp)
      subst hys
      rw [h'.1]
      simp only [hrun, pure]
      refine ⟨⟨none, s.n + m, s.c⟩, rfl, k _ H ⟨by simp [hr.1, hm0], .inl ⟨rfl, by show s.n + m = 0; omega, h'.2.2⟩⟩ rfl (Fr.refl _ _) (fun i hi => by obtain ⟨o, hi⟩ := hi; cases hi) (fun _ g o e => by cases e) (fun _ => ⟨rfl, h'.1.symm⟩)⟩
    · rw [ha]
      simp only
      refine hrun_bind _ (hrun_storeCells _ 0 ?_)
      rw [add_mk, Nat.zero_add]
      have hlen : s.n * inf.size + ys.length ≤ cs.length := by
        rw [h3, hy.1, ← Nat.add_mul]
        exact Nat.mul_le_mul_right _ hc
      refine stL_cells ys.toArray.toList 0 hg (by simpa using hlen) (by simpa using h1) (.inl (by simpa using h5)) ?_
      intro H' hg' hf' hs'
      simp only [hrun, pure]
      refine ⟨⟨some ⟨g, 0, none⟩, s.n + m, s.c⟩, rfl, k _ H' ⟨by simp [hr.1, hy.1, Nat.add_mul], .inr ⟨g, _, fr, rfl, hg', hc, ?_, ?_, ?_⟩⟩ rfl (hf'.mono fun i _ hi => ⟨0, by rw [hi]; exact ha⟩) (fun i hi => ?_) ?_ (fun _ => ⟨rfl, ha.symm⟩)⟩
      · rw [setsL_length]; exact h3
      · simp only [Nat.add_zero]
        have key : ∀ (vs cs : List Value) (i : Nat), i + vs.length ≤ cs.length → (setsL cs i vs).take (i + vs.length) = cs.take i ++ vs := by
          intro vs
          induction vs with
          | nil => intro cs i h; simp [setsL]
          | cons v vs ih =>
            intro cs i h
            simp only [List.length_cons] at h
            rw [setsL, show i + (v :: vs).length = (i + 1) + vs.length by simp; omega, ih (cs.set i v) (i + 1) (by simp; omega)]
            rw [List.take_set, List.take_succ_eq_append_getElem (by omega)]
            rw [List.set_append_right _ _ (by simp; omega)]
            have : i - (cs.take i).length = 0 := by simp; omega
            rw [this]
            simp
        have := key ys cs (s.n * inf.size) hlen
        rw [h4] at this
        rw [← this]
        congr 1
        rw [hy.1, Nat.add_mul]
      · exact Nat.le_trans h5 (Nat.mul_le_mul_right _ (Nat.le_add_right _ _))
      · obtain ⟨o, hi⟩ := hi
        simp only [Option.some.injEq, Addr.mk.injEq] at hi
        exact .inl ⟨0, by rw [← hi.1]; exact ha⟩
      · intro hnf g' o e
        simp only [Option.some.injEq, Addr.mk.injEq] at e
        obtain ⟨cs', T', hb'⟩ := hnf g 0 ha
        rw [hg] at hb'
        simp only [Option.some.injEq, Obj.cells.injEq] at hb'
        rw [hb'.2.2] at hg'
        exact ⟨_, _, by rw [← e.1]; exact hg'⟩
  · rw [if_neg hc]
    have hgr := growslice_fits (need := s.n + m) (old := s.c) (bytes := inf.bytes) (by omega) hl
    have hbig : s.n + m ≤ 140737488355328 := Nat.le_trans (Nat.le_mul_of_pos_right _ hb) hl
    refine hrun_pv (pv_typeInfo hi) ?_
    have hcond : ¬ (((s.n + m : Nat) : Int) > IntKind.i64.max ∧ (False ∨ inf.bytes = 0)) := by
      rintro ⟨_, h | h⟩
      · cases h
      · omega
    rw [if_neg hcond]
    refine hrun_bind _ (hrun_pureV _ (pv_typeInfo hi) ?_)
    have hbig2 : ¬ (Builtin.nextslicecap (s.n + m) s.c * inf.bytes > 2 ^ 48) := by
      have : (2 : Nat) ^ 48 = 281474976710656 := by decide
      omega
    rw [if_neg hbig2]
    refine hrun_bind _ ?_
    simp only [choose, hrun, Question.forced, Bool.false_eq_true, if_false, Question.cut]
    intro tp
    generalize hcap : s.n + m + tp % (2 ^ 63 - (s.n + m)) = cap
    refine hrun_bind _ (hrun_pureV _ (pv_typeInfo hi) ?_)
    refine hrun_bind _ ?_
    have askr : ∀ (n : Nat) {K : Unit → Hp → Prop} {Z : Value → Hp → Prop}, K () H → hrun P (askRoom n) H K Z := by
      intro n K Z hk
      unfold askRoom
      split
      · exact hk
      · exact hk
    refine askr _ ?_
    refine hrun_bind _ (hrun_firstCells (Src.row hr) ?_)
    refine hrun_bind _ (hrun_firstCells hy ?_)
    refine hrun_bind _ (hrun_pureV _ (pv_zero hi hz) ?_)
    refine hrun_bind _ ?_
    simp only [newRow, newObj, bind, Sem.bind, hrun, pure]
    intro g H' hn
    have hsz : (Builtin.zeroCells z.cells (cap - (s.n + m))).size = (cap - (s.n + m)) * inf.size := by rw [zeroCells_size, hzs]
    refine ⟨⟨some ⟨g, 0, none⟩, s.n + m, cap⟩, rfl, k _ H' ⟨by simp [hr.1, hy.1, Nat.add_mul], .inr ⟨g, xs ++ ys ++ (Builtin.zeroCells z.cells (cap - (s.n + m))).toList, (0, 0), rfl, ?_, by show s.n + m ≤ cap; omega, ?_, ?_, Nat.zero_le _⟩⟩ rfl hn.fr.of_no (fun i hi => ?_) (fun _ g' o e => ?_) (fun h => absurd h hc)⟩
    · rw [hn.get]
      congr 2
      apply Array.ext'
      simp
    · simp only [List.length_append, Array.length_toList, hsz, hr.1, hy.1]
      rw [← Nat.add_mul, ← Nat.add_mul]
      congr 1
      show s.n + m + (cap - (s.n + m)) = cap
      omega
    · have : (s.n + m) * inf.size = (xs ++ ys).length := by rw [List.length_append, hr.1, hy.1, Nat.add_mul]
      show List.take ((s.n + m) * inf.size) _ = _
      rw [this, List.take_left]
    · obtain ⟨o, hi⟩ := hi
      simp only [Option.some.injEq, Addr.mk.injEq] at hi
      rw [← hi.1, hn.eq]
      exact .inr (Nat.le_refl _)
    · simp only [Option.some.injEq, Addr.mk.injEq] at e
      exact ⟨_, _, by rw [← e.1]; exact hn.get⟩
theorem app_row2 {P : Program} {T T2 E : TypeId} {inf : TypeInfo} {z : Value} (hu : P.underlying T = some (.slice E)) (hu2 : ∀ k, P.underlying T2 ≠ some (.int k)) (hu2' : ∃ d, P.underlying T2 = some d) (hi : P.info? E = some inf) (hz : inf.zero = some z) (hzs : z.cells.size = inf.size) (hb : 0 < inf.bytes)
    {H : Hp} {s : Sl} {xs ys : List Value} {y : Value} {m : Nat} {K : Sl → Hp → Prop} {ty : TypeId} (hr : Row H E inf.size s xs) (hy : Src H inf.size y m ys) (h1 : ∀ v ∈ ys, v.oneCell = true) (hl : (s.n + m) * inf.bytes ≤ 140737488355328)
    (k : ∀ s' H', Row H' E inf.size s' (xs ++ ys) → s'.n = s.n + m → Fr (own s) H H' → (∀ i, own s' i → own s i ∨ H.size ≤ i) → (Nf H s → Nf H' s') → K s' H') : App P #[T, T2] ty H [.slice s.a s.n s.c, y] K :=
  app_row3 hu hu2 hu2' hi hz hzs hb hr hy h1 hl fun s' H' a b c d e _ => k s' H' a b c d e
theorem app_row {P : Program} {T T2 E : TypeId} {inf : TypeInfo} {z : Value} (hu : P.underlying T = some (.slice E)) (hu2 : ∀ k, P.underlying T2 ≠ some (.int k)) (hu2' : ∃ d, P.underlying T2 = some d) (hi : P.info? E = some inf) (hz : inf.zero = some z) (hzs : z.cells.size = inf.size) (hb : 0 < inf.bytes)
    {H : Hp} {s : Sl} {xs ys : List Value} {y : Value} {m : Nat} {K : Sl → Hp → Prop} {ty : TypeId} (hr : Row H E inf.size s xs) (hy : Src H inf.size y m ys) (h1 : ∀ v ∈ ys, v.oneCell = true) (hl : (s.n + m) * inf.bytes ≤ 140737488355328)
    (k : ∀ s' H', Row H' E inf.size s' (xs ++ ys) → s'.n = s.n + m → Fr (own s) H H' → (∀ i, own s' i → own s i ∨ H.size ≤ i) → K s' H') : App P #[T, T2] ty H [.slice s.a s.n s.c, y] K :=
  app_row2 hu hu2 hu2' hi hz hzs hb hr hy h1 hl fun s' H' a b c d _ => k s' H' a b c d
end Go.V
end

section
/- Bytes as cells, bytes to strings and back, of no program. -/
set_option linter.unusedVariables false
set_option linter.unusedSimpArgs false
namespace Go.V
def bv (l : List UInt8) : List Value := l.map fun b => .int .u8 (b.toNat : Int)
theorem bv_append (l m : List UInt8) : bv (l ++ m) = bv l ++ bv m := by simp [bv]
theorem bv_length (l : List UInt8) : (bv l).length = l.length := by simp [bv]
theorem bv_one (l : List UInt8) : ∀ v ∈ bv l, v.oneCell = true := by
  intro v hv
  obtain ⟨b, _, rfl⟩ := List.mem_map.1 hv
  rfl

theorem Src.str {H : Hp} (t : ByteArray) : Src H 1 (.string t) t.size (bv t.data.toList) := by
  refine ⟨?_, rfl, rfl, rfl⟩
  rw [bv_length]
  simp
theorem loadBytes_ok {P : Program} {Z : Value → Hp → Prop} : ∀ (l : List UInt8) (a : Addr) (acc : ByteArray) {H : Hp} {K : ByteArray → Hp → Prop}, (∀ j x, l[j]? = some x → hcell H (a.add j) = some (.int .u8 x.toNat)) →
    K ⟨acc.data ++ l.toArray⟩ H → hrun P (loadBytes a acc l.length) H K Z
  | [], a, acc, H, K, _, k => by
    unfold hrun
    simpa [loadBytes, pure] using k
  | x :: l, a, acc, H, K, h, k => by
    have h0 : hcell H a = some (.int .u8 x.toNat) := by
      have := h 0 x rfl
      simpa [Addr.add] using this
    have hx : ((x.toNat : Int).toNat).toUInt8 = x := by simp
    simp only [List.length_cons, loadBytes]
    refine hrun_bind _ ?_
    unfold load hrun
    refine ⟨_, h0, ?_⟩
    unfold hrun
    simp only [hx]
    refine loadBytes_ok l (a.add 1) (acc.push x) (fun j y hy => ?_) ?_
    · have := h (j + 1) y (by simpa using hy)
      have e : (a.add 1).add j = a.add (j + 1) := by
        unfold Addr.add
        by_cases hj : j = 0
        · subst hj; simp
        · simp [hj]; omega
      rw [e]; exact this
    · have e : (⟨(acc.push x).data ++ l.toArray⟩ : ByteArray) = ⟨acc.data ++ (x :: l).toArray⟩ := by
        apply ByteArray.ext
        simp [ByteArray.push]
      rw [e]
      exact k

theorem info_of {x : Option TypeInfo} {z : Option Value} {a b : Nat} (h : (x.map fun i => (i.zero, i.size, i.bytes)) = some (z, a, b)) : ∃ inf : TypeInfo, x = some inf ∧ inf.zero = z ∧ inf.size = a ∧ inf.bytes = b := by
  cases x with
  | none => cases h
  | some i =>
    simp only [Option.map_some, Option.some.injEq, Prod.mk.injEq] at h
    exact ⟨i, rfl, h.1, h.2.1, h.2.2⟩

theorem forIn_bytes {P : Program} {Z : Value → Hp → Prop} (f : Value → ByteArray → Sem (ForInStep ByteArray)) (hf : ∀ (b : UInt8) (r : ByteArray), f (.int .u8 (b.toNat : Int)) r = Sem.pure (.yield (r.push b))) :
    ∀ (l : List UInt8) (s : ByteArray) {H : Hp} {K : ByteArray → Hp → Prop}, K ⟨s.data ++ l.toArray⟩ H → hrun P (forIn (bv l) s f) H K Z
  | [], s, H, K, k => by
    simpa [bv, pure, hrun] using k
  | b :: l, s, H, K, k => by
    simp only [bv, List.map_cons, List.forIn_cons]
    refine hrun_bind _ ?_
    rw [hf]
    simp only [hrun]
    refine forIn_bytes f hf l (s.push b) ?_
    have e : (⟨(s.push b).data ++ l.toArray⟩ : ByteArray) = ⟨s.data ++ (b :: l).toArray⟩ := by
      apply ByteArray.ext
      simp [ByteArray.push]
    rw [e]
    exact k
theorem bytesStr_ok {P : Program} {src dst e : TypeId} (hs : P.underlying src = some (.slice e)) (he : P.underlying e = some (.int .u8)) (hd : P.underlying dst = some .string)
    {H : Hp} {a : Option Addr} {n c : Nat} {xs : List UInt8} {K : Value → Hp → Prop} (h : Src H 1 (.slice a n c) n (bv xs)) (k : K (.string ⟨xs.toArray⟩) H) : Cvt P src dst H (.slice a n c) K := by
  unfold Cvt convert
  refine hrun_pv (pv_underlying hs) ?_
  refine hrun_pv (pv_underlying hd) ?_
  simp only
  refine hrun_pv (pv_underlying he) ?_
  simp only [Conv.bytesToString]
  obtain ⟨hl, h⟩ := h
  rw [bv_length, Nat.mul_one] at hl
  cases a with
  | none =>
    have h0 : n = 0 := h.2
    have : xs = [] := List.eq_nil_of_length_eq_zero (by omega)
    subst this
    exact k
  | some ad =>
    simp only at h
    refine hrun_bind _ ?_
    have := hrun_loadCells (P := P) (Z := fun _ _ => False) (bv xs) 0 #[] h.2 (K := fun v A => A = H ∧ v = (bv xs).toArray) ⟨rfl, by simp⟩
    rw [bv_length, hl] at this
    refine hrun.mono _ this ?_ fun _ _ h => h
    rintro v A ⟨rfl, rfl⟩
    rw [List.forIn_toArray]
    refine hrun_bind _ (forIn_bytes _ ?_ xs ByteArray.empty ?_)
    · intro b r
      simp [Sem.bind, pure]
    · have e : (ByteArray.empty.data ++ xs.toArray) = xs.toArray := by
        rw [show ByteArray.empty.data = #[] from rfl]
        simp
      rw [e]
      exact k
/-! ### cells of blocks that stay -/
theorem hcell_lt {H : Hp} {a : Addr} {v : Value} (h : hcell H a = some v) : a.block < H.size := by
  unfold hcell at h
  cases hb : H[a.block]? with
  | none => rw [hb] at h; cases h
  | some o => exact lt_of_some hb
theorem hcell_eq {H H' : Hp} {a : Addr} (h : H'[a.block]? = H[a.block]?) : hcell H' a = hcell H a := by
  unfold hcell
  rw [h]
theorem Fr.cell {S : Nat → Prop} {H H' : Hp} (hf : Fr S H H') {a : Addr} {v : Value} (h : hcell H a = some v) (hs : ¬ S a.block) : hcell H' a = some v :=
  (hcell_eq (hf.keep _ (hcell_lt h) hs)).trans h
theorem add_block (a : Addr) (k : Nat) : (a.add k).block = a.block := by
  unfold Addr.add
  split <;> rfl
theorem add_zero' (a : Addr) : a.add 0 = a := by
  unfold Addr.add
  simp
theorem strBytes_ok {P : Program} {src dst e : TypeId} {d : TypeDesc} (hs : P.underlying src = some d) (hd : P.underlying dst = some (.slice e)) (he : P.underlying e = some (.int .u8))
    {H : Hp} {s : ByteArray} {K : Value → Hp → Prop} (k : ∀ (sl : Sl) (H' : Hp), sl.n = s.size → (∀ i x, s.data.toList[i]? = some x → ∃ ad, sl.a = some ad ∧ hcell H' (ad.add (i * 1)) = some (.int .u8 (x.toNat : Int))) → Fr no H H' → K (.slice sl.a sl.n sl.c) H') :
    Cvt P src dst H (.string s) K := by
  unfold Cvt convert
  refine hrun_pv (pv_underlying hs) ?_
  refine hrun_pv (pv_underlying hd) ?_
  refine hrun_pv (pv_underlying he) ?_
  simp only [Conv.stringToBytes, choose, newRow, newObj, markStringish, shape, freeze, bind, Sem.bind, pure, hrun, Question.forced, Bool.false_eq_true, if_false]
  intro t b A hn
  generalize hz : Array.replicate ((Question.appendCap s.size 0 e).cut t - s.size) (Value.int IntKind.u8 0) = z at hn
  have hsh : ∃ n, hshape A b = some (e, n) ∧ s.size ≤ n := by
    refine ⟨_, by unfold hshape; rw [hn.get], ?_⟩
    simp
  obtain ⟨n, hsh, hle⟩ := hsh
  simp only [hsh, hrun]
  have hfz : Fr no H (hfreeze A ⟨b, n, none⟩ 1) ∧ ∃ fr, (hfreeze A ⟨b, n, none⟩ 1)[b]? = some (.cells ((s.data.map fun b => Value.int .u8 b.toNat) ++ z) e fr) := by
    have hb := hn.eq
    refine ⟨⟨?_, fun i hi _ => ?_⟩, ?_⟩
    · have := hn.size
      simp [hfreeze]
      omega
    · rw [← hn.fr.keep i hi fun h => h]
      unfold hfreeze
      rw [if_neg (by omega), Array.getElem?_modify, if_neg (by show ¬ b = i; omega)]
    · unfold hfreeze
      rw [if_neg (by omega), Array.getElem?_modify]
      have := hn.get
      simp only [this, if_true, Option.map_some]
      exact ⟨_, rfl⟩
  obtain ⟨hf, fr, hg⟩ := hfz
  refine k ⟨some ⟨b, 0, none⟩, s.size, _⟩ _ rfl ?_ hf
  intro i x hx
  refine ⟨_, rfl, ?_⟩
  rw [add_mk]
  unfold hcell
  simp only [hg, Option.isSome_none, Bool.false_eq_true, if_false, Nat.zero_add, Nat.mul_one]
  have hi : i < s.data.size := by
    have := (List.getElem?_eq_some_iff.1 hx).1
    simpa using this
  rw [Array.getElem?_append_left (by simpa using hi), Array.getElem?_map]
  have : s.data[i]? = some x := by simpa using hx
  rw [this]
  rfl

theorem callV_mono {P : Program} {v : Value} {args : List Value} {H : Hp} {K K' : Value → Hp → Prop} {Z Z' : List PanicEntry → Hp → Prop}
    (h : callV P v args H K Z) (hk : ∀ v H', K v H' → K' v H') (hz : ∀ v H', Z v H' → Z' v H') : callV P v args H K' Z' := by
  unfold callV at h ⊢
  split at h
  · split at h
    · rename_i h1; rw [if_pos h1]; exact h.mono hk hz
    · rename_i h1
      rw [if_neg h1]
      unfold ExtF at h ⊢
      refine hrun.mono _ h ?_ fun _ _ h => h
      intro nx A hA
      cases nx <;> first | exact hk _ _ hA | exact hA
  · obtain ⟨r, h1, h2, h3⟩ := h
    exact ⟨r, h1, h2, h3.mono hk⟩
  · exact h.elim
end Go.V
end

section
/- Slices of rows: copy, append of zeros, the parts of a row; of no program. -/
set_option linter.unusedVariables false
set_option linter.unusedSimpArgs false
namespace Go.V

theorem setsL_eq : ∀ (vs cs : List Value) (o : Nat), o + vs.length ≤ cs.length → setsL cs o vs = cs.take o ++ vs ++ cs.drop (o + vs.length)
  | [], cs, o, h => by simp [setsL]
  | v :: vs, cs, o, h => by
    simp only [List.length_cons] at h
    rw [setsL, setsL_eq vs (cs.set o v) (o + 1) (by simp; omega)]
    rw [List.take_set, List.take_succ_eq_append_getElem (by omega), List.set_append_right _ _ (by simp; omega)]
    have e1 : o - (cs.take o).length = 0 := by simp; omega
    rw [e1, List.drop_set_of_lt (by omega)]
    simp only [List.set_cons_zero, List.length_cons, List.append_assoc, List.singleton_append, List.cons_append, List.nil_append]
    congr 3
    congr 1
    omega

theorem setsL_app {A B vs : List Value} {o : Nat} (ho : o = A.length) (h : vs.length ≤ B.length) : setsL (A ++ B) o vs = A ++ (vs ++ B.drop vs.length) := by
  subst ho
  rw [setsL_eq _ _ _ (by simp; omega), List.take_left, List.drop_append, List.append_assoc]
  congr 2
  rw [List.drop_of_length_le (by omega), List.nil_append]
  congr 1
  omega

theorem first_cells {P : Program} {H : Hp} {g o sz k n c : Nat} {cs : List Value} {T : TypeId} {fr : Nat × Nat} (hg : H[g]? = some (.cells cs.toArray T fr)) (hl : o + k * sz ≤ cs.length) {K : Array Value → Hp → Prop} {Z : Value → Hp → Prop}
    (h : K ((cs.drop o).take (k * sz)).toArray H) : hrun P (Builtin.firstCells sz k (.slice (some ⟨g, o, none⟩) n c)) H K Z := by
  simp only [Builtin.firstCells, loadCells]
  have hlen : ((cs.drop o).take (k * sz)).length = k * sz := by simp; omega
  rw [← hlen]
  refine hrun_loadCells _ 0 #[] ?_ (by simpa using h)
  refine atL_of hg _ 0 ?_
  intro j hj
  rw [hlen] at hj
  rw [List.getElem?_take, if_pos hj, List.getElem?_drop]
  congr 1

/-- copy into a row -/
theorem cpy_ok {P : Program} {T T2 E : TypeId} {inf : TypeInfo} {ty : TypeId} (hu : P.underlying T = some (.slice E)) (hi : P.info? E = some inf) {H : Hp} {g o n c m : Nat} {y : Value} {ys cs : List Value} {E' : TypeId} {fr : Nat × Nat} {K : Int → Hp → Prop}
    (hlen : pureV P (Builtin.lenOf y) = some m) (hfirst : ∀ {K : Array Value → Hp → Prop} {Z : Value → Hp → Prop}, K ys.toArray H → hrun P (Builtin.firstCells inf.size (Nat.min m n) y) H K Z)
    (hg : H[g]? = some (.cells cs.toArray E' fr)) (hl : o + ys.length ≤ cs.length) (h1 : ∀ v ∈ ys, v.oneCell = true) (hfr : fr.2 ≤ o ∨ fr.2 ≤ fr.1)
    (k : ∀ H', H'[g]? = some (.cells (setsL cs o ys).toArray E' fr) → Fr (fun j => j = g) H H' → H'.size = H.size → K ((Nat.min m n : Nat) : Int) H') :
    Cpy P #[T, T2] ty H [.slice (some ⟨g, o, none⟩) n c, y] K := by
  unfold Cpy Builtin.copy_
  simp only [List.getElem?_toArray, List.getElem?_cons_zero, List.getElem?_cons_succ]
  refine hrun_pv (pv_underlying hu) ?_
  simp only
  refine hrun_pv hlen ?_
  refine hrun_pv (pv_sizeOf hi) ?_
  refine hrun_bind _ (hfirst ?_)
  refine hrun_bind _ (hrun_storeCells _ 0 ?_)
  have := stL_cells (o := o) ys 0 hg (by simpa using hl) h1 (by simpa using hfr) (K := fun H' => ∃ r : Int, goInt (Nat.min m n) = .int .i64 r ∧ K r H') (fun H' h2 h3 h4 => ⟨_, rfl, k H' (by simpa using h2) h3 h4⟩)
  simpa [hrun, pure] using this

/-- append(s[:k], make(..)...) where it must grow -/
theorem app_make {P : Program} {T T2 E : TypeId} {k2 : IntKind} {inf : TypeInfo} {z : Value} {ty : TypeId} (hu : P.underlying T = some (.slice E)) (hu2 : P.underlying T2 = some (.int k2)) (hi : P.info? E = some inf) (hz : inf.zero = some z) (hzs : z.cells.size = inf.size) (hb : 0 < inf.bytes)
    {H : Hp} {s : Sl} {xs : List Value} {m : Nat} {K : Sl → Hp → Prop} (hx : ∀ {K : Array Value → Hp → Prop} {Z : Value → Hp → Prop}, K xs.toArray H → hrun P (Builtin.firstCells inf.size s.n (.slice s.a s.n s.c)) H K Z) (hxl : xs.length = s.n * inf.size)
    (hm : 0 < m * inf.size) (hc : s.c < s.n + m) (hl : (s.n + m) * inf.bytes ≤ 140737488355328)
    (k : ∀ g H' cap zs, Newb H (.cells (xs ++ zs).toArray E) g H' → s.n + m ≤ cap → (xs ++ zs).length = cap * inf.size → K ⟨some ⟨g, 0, none⟩, s.n + m, cap⟩ H') :
    App P #[T, T2] ty H [.slice s.a s.n s.c, .int .i64 (m : Int)] K := by
  have h63 : IntKind.i64.max = 9223372036854775807 := rfl
  have hbig : s.n + m ≤ 140737488355328 := Nat.le_trans (Nat.le_mul_of_pos_right _ hb) hl
  have hw : IntKind.i64.wrap (m : Int) = (m : Int) := by
    simp only [IntKind.wrap, IntKind.bits, IntKind.signed, Int.reducePow, Nat.reduceSub, Bool.true_and, decide_eq_true_eq, ge_iff_le]
    by_cases h : 9223372036854775808 ≤ (m : Int) % 18446744073709551616
    · rw [if_pos h]; omega
    · rw [if_neg h]; omega
  have hmb : m * inf.bytes ≤ 140737488355328 := Nat.le_trans (Nat.mul_le_mul_right _ (by omega)) hl
  have hgr := growslice_fits (need := s.n + m) (old := s.c) (bytes := inf.bytes) (by omega) hl
  unfold App Builtin.append_
  simp only [List.getElem?_toArray, List.getElem?_cons_zero, List.getElem?_cons_succ]
  refine hrun_pv (pv_underlying hu) ?_
  simp only
  refine hrun_pv (pv_sizeOf hi) ?_
  refine hrun_bind _ (hrun_pureV _ (pv_underlying hu2) ?_)
  simp only [pure, bind, Sem.bind, Bool.false_eq_true, if_false, Bool.not_false, if_true, Bool.not_true]
  refine hrun_bind _ ?_
  simp only [asInt, asIntOf, pure, bind, Sem.bind, hrun, hw]
  rw [if_neg (by omega)]
  refine hrun_bind _ (hrun_pureV _ (pv_typeInfo hi) ?_)
  have h248 : (2 : Int) ^ 48 = 281474976710656 := by decide
  have hmb' : ¬ ((m : Int) * (inf.bytes : Int) > 2 ^ 48) := by
    rw [h248]
    have : ((m * inf.bytes : Nat) : Int) = (m : Int) * (inf.bytes : Int) := by simp
    omega
  rw [if_neg hmb']
  have hmn : (m : Int).toNat = m := by omega
  simp only [hmn]
  rw [if_neg (by omega)]
  refine hrun_bind _ (hrun_pureV _ (pv_typeInfo hi) ?_)
  have hcond : ¬ (((s.n + m : Nat) : Int) > IntKind.i64.max ∧ (True ∨ inf.bytes = 0)) := by
    rintro ⟨h, _⟩
    rw [h63] at h
    omega
  rw [if_neg hcond]
  refine hrun_bind _ (hrun_pureV _ (pv_typeInfo hi) ?_)
  have hbig2 : ¬ (Builtin.nextslicecap (s.n + m) s.c * inf.bytes > 2 ^ 48) := by
    have : (2 : Nat) ^ 48 = 281474976710656 := by decide
    omega
  rw [if_neg hbig2]
  refine hrun_bind _ ?_
  simp only [choose, hrun, Question.forced, Bool.false_eq_true, if_false, Question.cut]
  intro tp
  generalize hcap : s.n + m + tp % (2 ^ 63 - (s.n + m)) = cap
  refine hrun_bind _ (hrun_pureV _ (pv_typeInfo hi) ?_)
  refine hrun_bind _ ?_
  have askr : ∀ (n : Nat) {K : Unit → Hp → Prop} {Z : Value → Hp → Prop}, K () H → hrun P (askRoom n) H K Z := by
    intro n K Z hk
    unfold askRoom
    split
    · exact hk
    · exact hk
  refine askr _ ?_
  refine hrun_bind _ (hx ?_)
  rw [if_neg (by omega)]
  refine hrun_bind _ (hrun_bind _ (hrun_pureV _ (pv_zero hi hz) ?_))
  simp only [hrun]
  refine hrun_bind _ (hrun_pureV _ (pv_zero hi hz) ?_)
  refine hrun_bind _ ?_
  simp only [newRow, newObj, bind, Sem.bind, hrun, pure]
  intro g H' hn
  have hs1 : (Builtin.zeroCells z.cells m).size = m * inf.size := by rw [zeroCells_size, hzs]
  have hs2 : (Builtin.zeroCells z.cells (cap - (s.n + m))).size = (cap - (s.n + m)) * inf.size := by rw [zeroCells_size, hzs]
  refine ⟨⟨some ⟨g, 0, none⟩, s.n + m, cap⟩, rfl, k g H' cap ((Builtin.zeroCells z.cells m).toList ++ (Builtin.zeroCells z.cells (cap - (s.n + m))).toList) ?_ (by omega) ?_⟩
  · have e : (xs ++ ((Builtin.zeroCells z.cells m).toList ++ (Builtin.zeroCells z.cells (cap - (s.n + m))).toList)).toArray = xs.toArray ++ Builtin.zeroCells z.cells m ++ Builtin.zeroCells z.cells (cap - (s.n + m)) := by
      apply Array.ext'
      simp
    rw [e]
    exact hn
  · simp only [List.length_append, Array.length_toList, hs1, hs2, hxl]
    rw [← Nat.add_mul, ← Nat.add_mul]
    congr 1
    omega
end Go.V
end

section
/- slices.Insert of one element into a row of one's own; of no program. -/
set_option linter.unusedVariables false
set_option linter.unusedSimpArgs false
namespace Go.V
attribute [local irreducible] Cvt ExtF CallF

theorem ov_ok {P : Program} {ov : FuncId} {T E : TypeId} {f : Func} {inf : TypeInfo} {ps rs : Array TypeId} (hf : P.funcs[ov]? = some f) (h1 : (f.name == "runtime.NumGoroutine") = false) (h2 : f.body.isNone = true) (h3 : (Extern.findNext f).isNone = true)
    (h4 : Extern.find f = some (Extern.SlicesOverlaps.overlaps ps rs)) (hp : ps[0]? = some T) (hu : P.underlying T = some (.slice E)) (hi : P.info? E = some inf)
    {H : Hp} {g1 g2 o1 o2 n1 n2 c1 c2 : Nat} {cs1 cs2 : List Value} {T1 T2 : TypeId} (ha : Blk H g1 cs1 T1) (hb : Blk H g2 cs2 T2) (hne : g1 ≠ g2) {K : Value → Hp → Prop} (k : K (.bool false) H) :
    ExtF P ov [.slice (some ⟨g1, o1, none⟩) n1 c1, .slice (some ⟨g2, o2, none⟩) n2 c2] H K := by
  unfold ExtF callFunc
  simp only [program, bind, Sem.bind, hrun, hf, h1, h2, Bool.false_eq_true, if_false, if_true, mark]
  cases hx : Extern.findNext f with
  | some e => rw [hx] at h3; cases h3
  | none =>
    simp only [h4]
    have hs1 : hshape H g1 = some (T1, cs1.length) := by
      unfold hshape
      have h' : H[g1]? = some (.cells cs1.toArray T1 (0, 0)) := ha
      rw [h']
      simp
    have hs2 : hshape H g2 = some (T2, cs2.length) := by
      unfold hshape
      have h' : H[g2]? = some (.cells cs2.toArray T2 (0, 0)) := hb
      rw [h']
      simp
    have f1 := ha.frozen
    have f2 := hb.frozen
    have hneb : (g1 == g2) = false := by simpa using hne
    have hneb' : (g1 != g2) = true := by simpa using hne
    have hdef : Extern.SlicesOverlaps.overlaps ps rs #[.slice (some ⟨g1, o1, none⟩) n1 c1, .slice (some ⟨g2, o2, none⟩) n2 c2] = (do
        let some t := ps[0]? | stuck "slices.overlaps: no parameter types"
        let .slice elem ← underlying t | stuck "slices.overlaps: slice type expected"
        let size ← sizeOf elem
        if n1 = 0 ∨ n2 = 0 ∨ size = 0 then pure (.bool false)
        else if g1 != g2 && (← frozen ⟨g1, o1, none⟩) && (← frozen ⟨g2, o2, none⟩) then unsupported .addressObserved
        else do
          if g1 != g2 then do
            noView ⟨g1, o1, none⟩; noView ⟨g2, o2, none⟩
            if ← mayBeOne ⟨g1, o1, none⟩ ⟨g2, o2, none⟩ then return .bool ((← choose (.extern "sameAddr.stringBytes" 2)) == 1)
          pure (.bool (g1 == g2 && o1 < o2 + n2 * size && o2 < o1 + n1 * size))) := rfl
    rw [hdef, hp]
    simp only [bind, Sem.bind]
    refine hrun_bind _ (hrun_bind _ (hrun_pureV _ (pv_underlying hu) ?_))
    simp only
    refine hrun_bind _ (hrun_pureV _ (pv_sizeOf hi) ?_)
    split
    · simp only [pure, hrun]; exact k
    · simp only [hneb', hneb, mayBeOne, noView, viewAt, stringish, shape, frozen, bind, Sem.bind, hrun, pure, f1, f2, hs1, hs2, Bool.and_false, Bool.false_and, Bool.false_eq_true, if_false, if_true, Option.isSome_some, Option.isSome_none]
      simpa [hrun] using k
/-- slices.Insert, as it is printed -/
def InsV (P : Program) (T Ti : TypeId) (ov rot : FuncId) (sz : Nat) (H : Hp) (s : Sl) (i : Int) (v : Sl) (K : Value → Hp → Prop) (Z : List PanicEntry → Hp → Prop) : Prop :=
  (s.n ≤ s.c ∧ SlX s.a s.c i (s.n : Int) sz fun cut => ((((v.n : Int) == 0) = true → K (.slice s.a s.n s.c) H) ∧ 
    (((v.n : Int) == 0) = false → (((i == (s.n : Int)) = true → App P #[T, T] T H [.slice s.a s.n s.c, .slice v.a v.n v.c] fun ap H1 => 
    (K (.slice ap.a ap.n ap.c) H1)) ∧ ((i == (s.n : Int)) = false → (((decide ((w64 ((s.n : Int) + (v.n : Int))) > (s.c : Int))) = true → 
    (s.n ≤ s.c ∧ SlX s.a s.c 0 i sz fun cut1 => (App P #[T, Ti] T H [.slice cut1.a cut1.n cut1.c, .int .i64 (w64 ((w64 ((s.n : Int) + (v.n : Int))) - i))] fun ap1 H2 => 
    (ap1.n ≤ ap1.c ∧ SlX ap1.a ap1.c i (ap1.n : Int) sz fun cut2 => (Cpy P #[T, T] Ti H2 [.slice cut2.a cut2.n cut2.c, .slice v.a v.n v.c] fun cp H3 => 
    (ap1.n ≤ ap1.c ∧ SlX ap1.a ap1.c (w64 (i + (v.n : Int))) (ap1.n : Int) sz fun cut3 => (s.n ≤ s.c ∧ 
    SlX s.a s.c i (s.n : Int) sz fun cut4 => (Cpy P #[T, T] Ti H3 [.slice cut3.a cut3.n cut3.c, .slice cut4.a cut4.n cut4.c] fun cp1 H4 => 
    (K (.slice ap1.a ap1.n ap1.c) H4))))))))) ∧ ((decide ((w64 ((s.n : Int) + (v.n : Int))) > (s.c : Int))) = false → 
    (s.n ≤ s.c ∧ SlX s.a s.c 0 (w64 ((s.n : Int) + (v.n : Int))) sz fun cut5 => (cut5.n ≤ cut5.c ∧ SlX cut5.a cut5.c (w64 (i + (v.n : Int))) (cut5.n : Int) sz fun cut6 => 
    (ExtF P ov [.slice v.a v.n v.c, .slice cut6.a cut6.n cut6.c] H fun r H5 => ∃ y : Bool, r = .bool y ∧ 
    (((!y) = true → (cut5.n ≤ cut5.c ∧ SlX cut5.a cut5.c (w64 (i + (v.n : Int))) (cut5.n : Int) sz fun cut7 => 
    (cut5.n ≤ cut5.c ∧ SlX cut5.a cut5.c i (cut5.n : Int) sz fun cut8 => (Cpy P #[T, T] Ti H5 [.slice cut7.a cut7.n cut7.c, .slice cut8.a cut8.n cut8.c] fun cp2 H6 => 
    (cut5.n ≤ cut5.c ∧ SlX cut5.a cut5.c i (cut5.n : Int) sz fun cut9 => (Cpy P #[T, T] Ti H6 [.slice cut9.a cut9.n cut9.c, .slice v.a v.n v.c] fun cp3 H7 => 
    (K (.slice cut5.a cut5.n cut5.c) H7))))))) ∧ ((!y) = false → (cut5.n ≤ cut5.c ∧ SlX cut5.a cut5.c (s.n : Int) (cut5.n : Int) sz fun cut10 => 
    (Cpy P #[T, T] Ti H5 [.slice cut10.a cut10.n cut10.c, .slice v.a v.n v.c] fun cp4 H8 => (cut5.n ≤ cut5.c ∧ 
    SlX cut5.a cut5.c i (cut5.n : Int) sz fun cut11 => (CallF P rot #[.slice cut11.a cut11.n cut11.c, .int .i64 (v.n : Int)] H8 (fun r1 H9 => 
    r1 = .tuple #[] ∧ K (.slice cut5.a cut5.n cut5.c) H9) Z))))))))))))))))

theorem cut_lo (a : Option Addr) (c hi sz : Nat) : cut a c 0 hi sz = ⟨a, hi, c⟩ := by
  unfold cut
  have : a.map (fun x => x.add (0 * sz)) = a := by
    cases a with
    | none => rfl
    | some ad => simp [add_zero']
  rw [this]
  split <;> rfl
theorem cut_at {g c lo hi sz : Nat} (h : lo < c) : cut (some ⟨g, 0, none⟩) c lo hi sz = ⟨some ⟨g, lo * sz, none⟩, hi - lo, c - lo⟩ := by
  unfold cut
  rw [if_neg (by omega)]
  simp only [Option.map_some, add_mk, Nat.zero_add]
theorem cut_end (a : Option Addr) (c hi sz : Nat) : cut a c c hi sz = ⟨a, hi - c, c - c⟩ := by
  unfold cut
  rw [if_pos rfl]

theorem ins_ok {P : Program} {T Ti E : TypeId} {k2 : IntKind} {ov rot : FuncId} {f : Func} {inf : TypeInfo} {ps rs : Array TypeId} {z : Value} {sz : Nat}
    (hf : P.funcs[ov]? = some f) (h1 : (f.name == "runtime.NumGoroutine") = false) (h2 : f.body.isNone = true) (h3 : (Extern.findNext f).isNone = true)
    (h4 : Extern.find f = some (Extern.SlicesOverlaps.overlaps ps rs)) (hp : ps[0]? = some T) (hu : P.underlying T = some (.slice E)) (hu2 : P.underlying Ti = some (.int k2)) (hi : P.info? E = some inf) (hz : inf.zero = some z) (hzs : z.cells.size = inf.size) (hb : 0 < inf.bytes) (hsz : inf.size = sz) (hsz0 : 0 < sz)
    {H : Hp} {s : Sl} {xs vs : List Value} {i b1 : Nat} {K : Value → Hp → Prop} {Z : List PanicEntry → Hp → Prop} (hr : Row H E sz s xs) (hnf : Nf H s) (hx1 : ∀ v ∈ xs, v.oneCell = true) (hv : Blk H b1 vs E) (hvl : vs.length = sz) (hv1 : ∀ v ∈ vs, v.oneCell = true) (hne : ¬ own s b1)
    (hin : i ≤ s.n) (hbig : (s.n + 1) * inf.bytes ≤ 140737488355328)
    (k : ∀ s' H', Row H' E sz s' (xs.take (i * sz) ++ vs ++ xs.drop (i * sz)) → Nf H' s' → s'.n = s.n + 1 → Fr (own s) H H' → (∀ j, own s' j → own s j ∨ H.size ≤ j) → K (.slice s'.a s'.n s'.c) H') :
    InsV P T Ti ov rot sz H s (i : Int) ⟨some ⟨b1, 0, none⟩, 1, 1⟩ K Z := by
  have hle := hr.le
  have hbn : s.n + 1 ≤ 140737488355328 := Nat.le_trans (Nat.le_mul_of_pos_right _ hb) hbig
  have w1 : ∀ n : Nat, n ≤ 140737488355328 → w64 (n : Int) = (n : Int) := by
    intro n hn
    simp only [w64, IntKind.wrap, IntKind.bits, IntKind.signed, Int.reducePow, Nat.reduceSub, Bool.true_and, decide_eq_true_eq, ge_iff_le]
    by_cases h : 9223372036854775808 ≤ (n : Int) % 18446744073709551616
    · rw [if_pos h]; omega
    · rw [if_neg h]; omega
  have e1 : w64 ((s.n : Int) + ((1 : Nat) : Int)) = ((s.n + 1 : Nat) : Int) := by rw [← w1 (s.n + 1) hbn]; rfl
  unfold InsV
  simp only [e1]
  refine ⟨hle, ⟨⟨by omega, by omega, by omega⟩, ?_⟩⟩
  refine ⟨fun h => by simp at h, fun _ => ⟨fun hend => ?_, fun hend => ?_⟩⟩
  · have hend' : i = s.n := by
      have : (i : Int) = (s.n : Int) := by simpa using hend
      omega
    subst hsz
    refine app_row2 hu (by intro k; rw [hu]; simp) ⟨_, hu⟩ hi hz hzs hb hr (Src.blk hv (by rw [hvl]; simp)) hv1 hbig ?_
    intro s' H' hr' hn' hf' ho' hnf'
    refine k s' H' ?_ (hnf' hnf) hn' hf' ho'
    have hl : xs.length = i * inf.size := by rw [hr.1, hend']
    rw [List.take_of_length_le (by omega), List.drop_of_length_le (by omega), List.append_nil]
    exact hr'
  have hlt : i < s.n := by
    have : ¬ (i : Int) = (s.n : Int) := by simpa using hend
    omega
  obtain ⟨g, hga⟩ := hr.some (by omega)
  rcases hr.2 with ⟨ha0, _⟩ | ⟨g', cs, fr, ha, hg, r1, r2, r3, r4⟩
  · rw [hga] at ha0; cases ha0
  obtain rfl : g' = g := by rw [hga] at ha; simpa using ha.symm
  have hfr0 : fr = (0, 0) := by
    obtain ⟨cs', T', hb'⟩ := hnf g' 0 hga
    rw [hg] at hb'
    simp only [Option.some.injEq, Obj.cells.injEq] at hb'
    exact hb'.2.2
  subst hfr0
  have hgb : b1 ≠ g' := fun e => hne ⟨0, by rw [hga, e]⟩
  have hxl := hr.1
  have hmul : i * sz + (s.n - i) * sz = s.n * sz := by rw [← Nat.add_mul]; congr 1; omega
  have hmul1 : (i + 1) * sz = i * sz + sz := Nat.succ_mul i sz
  have hmul2 : (s.n + 1) * sz = s.n * sz + sz := Nat.succ_mul s.n sz
  have hcsn : s.n * sz ≤ cs.length := by rw [r2]; exact Nat.mul_le_mul_right _ r1
  have hdrop : (cs.drop (i * sz)).take ((s.n - i) * sz) = xs.drop (i * sz) := by
    rw [← r3, List.drop_take]
    congr 1
    omega
  have htake : cs.take (i * sz) = xs.take (i * sz) := by
    rw [← r3, List.take_take]
    congr 1
    omega
  refine ⟨fun hgrow => ?_, fun hroom => ?_⟩
  · have hgrow' : s.c < s.n + 1 := by
      have : ((s.n + 1 : Nat) : Int) > (s.c : Int) := of_decide_eq_true hgrow
      omega
    have e2 : w64 (((s.n + 1 : Nat) : Int) - (i : Int)) = ((s.n + 1 - i : Nat) : Int) := by rw [← w1 (s.n + 1 - i) (by omega)]; congr 1; omega
    rw [e2]
    refine ⟨hle, ⟨⟨by omega, by omega, by omega⟩, ?_⟩⟩
    rw [show (0 : Int).toNat = 0 from rfl, Int.toNat_natCast, cut_lo]
    subst hsz
    have en : i + (s.n + 1 - i) = s.n + 1 := by omega
    refine app_make (s := ⟨s.a, i, s.c⟩) (m := s.n + 1 - i) hu hu2 hi hz hzs hb (xs := xs.take (i * inf.size)) ?_ ?_ (Nat.mul_pos (by omega) hsz0) (by show s.c < i + (s.n + 1 - i); omega) (by show (i + (s.n + 1 - i)) * inf.bytes ≤ _; rw [en]; exact hbig) ?_
    · intro K' Z' hk
      rw [hga]
      refine first_cells hg (by show 0 + i * inf.size ≤ _; omega) ?_
      rw [List.drop_zero, htake]
      exact hk
    · rw [List.length_take]; show _ = i * inf.size; omega
    intro g2 A cap zs hn hcap hzl
    have hA := hn.blk
    have hfA := hn.fr
    have hcap' : s.n + 1 ≤ cap := by have : i + (s.n + 1 - i) ≤ cap := hcap; omega
    have hcapl : (s.n + 1) * inf.size ≤ cap * inf.size := Nat.mul_le_mul_right _ hcap'
    simp only [en]
    have hg2 : g2 = H.size := hn.eq
    have hglt := lt_of_some hg
    have hb1lt := hv.lt
    refine ⟨hcap', ⟨⟨by omega, by omega, by omega⟩, ?_⟩⟩
    rw [Int.toNat_natCast, Int.toNat_natCast, cut_at (by omega)]
    refine cpy_ok hu hi (m := 1) (ys := vs) rfl ?_ hA (by rw [hvl, hzl]; omega) hv1 (.inr (Nat.le_refl _)) ?_
    · intro K' Z' hk
      have hm1 : Nat.min 1 (s.n + 1 - i) = 1 := Nat.min_eq_left (by omega)
      show hrun P (Builtin.firstCells inf.size (Nat.min 1 (s.n + 1 - i)) _) _ _ _
      rw [hm1]
      refine first_cells (hfA.blk hv fun h => h) (by rw [hvl]; omega) ?_
      rw [List.drop_zero, List.take_of_length_le (by rw [hvl]; omega)]
      exact hk
    intro B hB hfB hsB
    have e3 : w64 ((i : Int) + ((1 : Nat) : Int)) = ((i + 1 : Nat) : Int) := by rw [← w1 (i + 1) (by omega)]; rfl
    rw [e3]
    refine ⟨hcap', ⟨⟨by omega, by omega, by omega⟩, ?_⟩⟩
    refine ⟨hle, ⟨⟨by omega, by omega, by omega⟩, ?_⟩⟩
    simp only [Int.toNat_natCast]
    rw [hga, cut_at (by omega), cut_at (by omega)]
    have hgB : B[g']? = some (.cells cs.toArray E (0, 0)) := hfB.at (hfA.at hg fun h => h) (by omega)
    have hdl : (xs.drop (i * inf.size)).length = (s.n - i) * inf.size := by rw [List.length_drop, hxl]; omega
    refine cpy_ok hu hi (m := s.n - i) (ys := xs.drop (i * inf.size)) rfl ?_ hB ?_ (fun v hv => hx1 v (List.mem_of_mem_drop hv)) (.inr (Nat.le_refl _)) ?_
    · intro K' Z' hk
      have hm1 : Nat.min (s.n - i) (s.n + 1 - (i + 1)) = s.n - i := Nat.min_eq_left (by omega)
      show hrun P (Builtin.firstCells inf.size (Nat.min (s.n - i) (s.n + 1 - (i + 1))) _) _ _ _
      rw [hm1]
      refine first_cells hgB (by omega) ?_
      rw [hdrop]
      exact hk
    · rw [setsL_length, hzl, hdl]; omega
    intro C hC hfC hsC
    have hti : (xs.take (i * inf.size)).length = i * inf.size := by rw [List.length_take]; omega
    have hzl' : i * inf.size + zs.length = cap * inf.size := by rw [← hzl, List.length_append, hti]
    rw [setsL_app hti.symm (by omega), ← List.append_assoc, setsL_app (by rw [List.length_append, hti, hvl]; omega) (by rw [hdl, List.length_drop]; omega)] at hC
    have hlenC : (xs.take (i * inf.size) ++ vs ++ (xs.drop (i * inf.size) ++ (zs.drop vs.length).drop (xs.drop (i * inf.size)).length)).length = cap * inf.size := by
      simp only [List.length_append, hti, hvl, hdl, List.length_drop]
      omega
    have hfin : (xs.take (i * inf.size) ++ vs ++ xs.drop (i * inf.size)).length = (s.n + 1) * inf.size := by
      simp only [List.length_append, hti, hvl, hdl]
      omega
    refine k ⟨some ⟨g2, 0, none⟩, s.n + 1, cap⟩ C ⟨hfin, .inr ⟨g2, _, (0, 0), rfl, hC, hcap', hlenC, ?_, Nat.zero_le _⟩⟩ ?_ rfl ?_ ?_
    · rw [← List.append_assoc, ← hfin, List.take_left]
    · intro g0 o0 e0
      simp only [Option.some.injEq, Addr.mk.injEq] at e0
      exact ⟨_, _, by rw [← e0.1]; exact hC⟩
    · have : Fr no H A := hfA
      refine ((this.of_no (S := own s)).step hfB ?_).step hfC ?_
      · intro j hj ej; omega
      · intro j hj ej; omega
    · rintro j ⟨o, ho⟩
      simp only [Option.some.injEq, Addr.mk.injEq] at ho
      exact .inr (by omega)
  · have hroom' : s.n + 1 ≤ s.c := by
      have : ¬ ((s.n + 1 : Nat) : Int) > (s.c : Int) := of_decide_eq_false hroom
      omega
    have e3 : w64 ((i : Int) + ((1 : Nat) : Int)) = ((i + 1 : Nat) : Int) := by rw [← w1 (i + 1) (by omega)]; rfl
    rw [e3]
    refine ⟨hle, ⟨⟨by omega, by omega, by omega⟩, ?_⟩⟩
    simp only [show (0 : Int).toNat = 0 from rfl, Int.toNat_natCast, cut_lo]
    refine ⟨hroom', ⟨⟨by omega, by omega, by omega⟩, ?_⟩⟩
    simp only [Int.toNat_natCast]
    have hcut := @cut_at g' s.c (i + 1) (s.n + 1) sz
    rw [hga, cut_at (by omega)]
    refine ov_ok hf h1 h2 h3 h4 hp hu hi hv hg hgb ⟨false, rfl, fun _ => ?_, fun h => by simp at h⟩
    refine ⟨hroom', ⟨⟨by omega, by omega, by omega⟩, hroom', ⟨⟨by omega, by omega, by omega⟩, ?_⟩⟩⟩
    simp only [Int.toNat_natCast]
    rw [cut_at (by omega), cut_at (by omega)]
    subst hsz
    have hdl : (xs.drop (i * inf.size)).length = (s.n - i) * inf.size := by rw [List.length_drop, hxl]; omega
    have hti : (xs.take (i * inf.size)).length = i * inf.size := by rw [List.length_take]; omega
    have hcl : (s.n + 1) * inf.size ≤ cs.length := by rw [r2]; exact Nat.mul_le_mul_right _ hroom'
    refine cpy_ok hu hi (m := s.n + 1 - i) (ys := xs.drop (i * inf.size)) rfl ?_ hg (by rw [hdl]; omega) (fun v hv => hx1 v (List.mem_of_mem_drop hv)) (.inr (Nat.le_refl _)) ?_
    · intro K' Z' hk
      have hm1 : Nat.min (s.n + 1 - i) (s.n + 1 - (i + 1)) = s.n - i := by
        show min _ _ = _
        omega
      show hrun P (Builtin.firstCells inf.size (Nat.min (s.n + 1 - i) (s.n + 1 - (i + 1))) _) _ _ _
      rw [hm1]
      refine first_cells hg (by omega) ?_
      rw [hdrop]
      exact hk
    intro B hB hfB hsB
    refine ⟨hroom', ⟨⟨by omega, by omega, by omega⟩, ?_⟩⟩
    simp only [Int.toNat_natCast]
    rw [cut_at (by omega)]
    have hvB : Blk B b1 vs E := hfB.blk hv hgb
    refine cpy_ok hu hi (m := 1) (ys := vs) rfl ?_ hB (by rw [setsL_length, hvl]; omega) hv1 (.inr (Nat.le_refl _)) ?_
    · intro K' Z' hk
      have hm1 : Nat.min 1 (s.n + 1 - i) = 1 := Nat.min_eq_left (by omega)
      show hrun P (Builtin.firstCells inf.size (Nat.min 1 (s.n + 1 - i)) _) _ _ _
      rw [hm1]
      refine first_cells hvB (by rw [hvl]; omega) ?_
      rw [List.drop_zero, List.take_of_length_le (by rw [hvl]; omega)]
      exact hk
    intro C hC hfC hsC
    -- the cells: X, Y, what is behind
    generalize hR : cs.drop (s.n * inf.size) = R at *
    have hcs : cs = xs.take (i * inf.size) ++ (xs.drop (i * inf.size) ++ R) := by
      rw [← List.append_assoc, List.take_append_drop, ← hR, ← r3, List.take_append_drop]
    have hRl : inf.size ≤ R.length := by
      rw [← hR, List.length_drop]
      omega
    generalize hQ : xs.drop (i * inf.size) ++ R = Q at *
    have hQl : Q.length = (s.n - i) * inf.size + R.length := by rw [← hQ, List.length_append, hdl]
    have hcs2 : cs = (xs.take (i * inf.size) ++ Q.take inf.size) ++ Q.drop inf.size := by
      rw [List.append_assoc, List.take_append_drop]
      exact hcs
    have hQt : (Q.take inf.size).length = inf.size := by rw [List.length_take]; omega
    rw [hcs2, setsL_app (by rw [List.length_append, hti, hQt]; omega) (by rw [hdl, List.length_drop]; omega), List.append_assoc, setsL_app hti.symm (by rw [hvl, List.length_append, hQt]; omega)] at hC
    have hdropq : (Q.take inf.size ++ (xs.drop (i * inf.size) ++ (Q.drop inf.size).drop (xs.drop (i * inf.size)).length)).drop vs.length = xs.drop (i * inf.size) ++ (Q.drop inf.size).drop (xs.drop (i * inf.size)).length := by
      rw [hvl]
      conv => lhs; arg 1; rw [← hQt]
      exact List.drop_left
    rw [hdropq] at hC
    have hfin : (xs.take (i * inf.size) ++ vs ++ xs.drop (i * inf.size)).length = (s.n + 1) * inf.size := by
      simp only [List.length_append, hti, hvl, hdl]
      omega
    have hlenC : (xs.take (i * inf.size) ++ (vs ++ (xs.drop (i * inf.size) ++ (Q.drop inf.size).drop (xs.drop (i * inf.size)).length))).length = s.c * inf.size := by
      have hcc := congrArg List.length hcs
      rw [List.length_append, hti, hQl] at hcc
      simp only [List.length_append, hti, hvl, hdl, List.length_drop, hQl]
      omega
    refine k ⟨some ⟨g', 0, none⟩, s.n + 1, s.c⟩ C ⟨hfin, .inr ⟨g', _, (0, 0), rfl, hC, hroom', hlenC, ?_, Nat.zero_le _⟩⟩ ?_ rfl ?_ ?_
    · have e9 : xs.take (i * inf.size) ++ (vs ++ (xs.drop (i * inf.size) ++ (Q.drop inf.size).drop (xs.drop (i * inf.size)).length)) = (xs.take (i * inf.size) ++ vs ++ xs.drop (i * inf.size)) ++ (Q.drop inf.size).drop (xs.drop (i * inf.size)).length := by
        simp only [List.append_assoc]
      rw [e9, ← hfin, List.take_left]
    · intro g0 o0 e0
      simp only [Option.some.injEq, Addr.mk.injEq] at e0
      exact ⟨_, _, by rw [← e0.1]; exact hC⟩
    · refine (hfB.mono ?_).step hfC ?_
      · intro j _ ej
        exact ⟨0, by rw [hga, ej]⟩
      · intro j _ ej
        exact ⟨0, by rw [hga, ej]⟩
    · rintro j ⟨o, ho⟩
      simp only [Option.some.injEq, Addr.mk.injEq] at ho
      exact .inl ⟨0, by rw [hga, ho.1]⟩
end Go.V
end

section
/- slices.BinarySearchFunc over a row of numbers; of no program. -/
set_option linter.unusedVariables false
set_option linter.unusedSimpArgs false
namespace Go.V
attribute [local irreducible] Cvt ExtF CallF hrun callV
theorem wrap64 {x : Int} (h1 : -9223372036854775808 ≤ x) (h2 : x ≤ 9223372036854775807) : w64 x = x := by
  simp only [w64, IntKind.wrap, IntKind.bits, IntKind.signed, Int.reducePow, Nat.reduceSub, Bool.true_and, decide_eq_true_eq, ge_iff_le]
  by_cases h : 9223372036854775808 ≤ x % 18446744073709551616
  · rw [if_pos h]; omega
  · rw [if_neg h]; omega
theorem wrapu64 {x : Int} (h1 : 0 ≤ x) (h2 : x ≤ 18446744073709551615) : IntKind.wrap .u64 x = x := by
  simp only [IntKind.wrap, IntKind.bits, IntKind.signed, Int.reducePow, Nat.reduceSub, Bool.false_and, Bool.false_eq_true, if_false]
  omega
/-- the middle of two places -/
theorem mid_eq {i j : Nat} (h : i + j ≤ 9223372036854775807) : w64 (Int.fdiv (IntKind.wrap .u64 (w64 ((i : Int) + (j : Int)))) (2 ^ 1)) = (((i + j) / 2 : Nat) : Int) := by
  rw [wrap64 (x := (i : Int) + (j : Int)) (by omega) (by omega), wrapu64 (by omega) (by omega), Int.fdiv_eq_ediv_of_nonneg _ (by decide)]
  have : ((i : Int) + (j : Int)) / 2 ^ 1 = (((i + j) / 2 : Nat) : Int) := by
    rw [show (2 : Int) ^ 1 = 2 from rfl]
    omega
  rw [this, wrap64 (by omega) (by omega)]
/-- slices.BinarySearchFunc over numbers, as it is printed -/
def BsV (P : Program) (H : Hp) (x : Sl) (tgt : Value) (cmp : Value) (K : Value → Hp → Prop) (Z : List PanicEntry → Hp → Prop) : Prop :=
  ∃ I : Int → Int → Hp → Nat → Prop, (∃ m, I 0 (x.n : Int) H m) ∧ ∀ (i : Int) (j : Int), ∀ H1 m1, I i j H1 m1 → 
    ∀ scr : Nat → Value, (((decide (i < j)) = true → IxA x.a x.n (w64 (Int.fdiv (IntKind.wrap .u64 (w64 (i + j))) (2 ^ 1))) 1 fun ad => 
    (∃ x1 : Int, hcell H1 ad = some (.int .i64 x1) ∧ callV P cmp [.int .i64 x1, tgt] H1 (fun r H2 => 
    ∃ y : Int, r = .int .i64 y ∧ (((decide (y < 0)) = true → (∃ m2, m2 < m1 ∧ I (w64 ((w64 (Int.fdiv (IntKind.wrap .u64 (w64 (i + j))) (2 ^ 1))) + 1)) j H2 m2)) ∧ 
    ((decide (y < 0)) = false → (∃ m2, m2 < m1 ∧ I i (w64 (Int.fdiv (IntKind.wrap .u64 (w64 (i + j))) (2 ^ 1))) H2 m2)))) Z)) ∧ 
    ((decide (i < j)) = false → (((decide (i < (x.n : Int))) = true → IxA x.a x.n i 1 fun ad1 => (∃ x2 : Int, hcell H1 ad1 = some (.int .i64 x2) ∧ 
    callV P cmp [.int .i64 x2, tgt] H1 (fun r1 H3 => ∃ y1 : Int, r1 = .int .i64 y1 ∧ 
    K (.tuple #[.int .i64 i, .bool (y1 == 0)]) H3) Z)) ∧ ((decide (i < (x.n : Int))) = false → K (.tuple #[.int .i64 i, .bool false]) H1))))

/-- where a row parts: what is before it, and what is not -/
structure Split (n : Nat) (c : Nat → Int) (p : Nat) : Prop where
  le : p ≤ n
  lo : ∀ j, j < p → c j < 0
  hi : ∀ j, p ≤ j → j < n → 0 ≤ c j
theorem bs_ok {P : Program} {H : Hp} {x : Sl} {xs : List Int} {tgt cmp : Value} {c : Nat → Int} {K : Value → Hp → Prop} {Z : List PanicEntry → Hp → Prop} (hn : x.n = xs.length) (hbig : x.n ≤ 1000000000000)
    (hel : ∀ (i : Nat) (v : Int), xs[i]? = some v → ∃ ad, x.a = some ad ∧ hcell H (ad.add (i * 1)) = some (.int .i64 v))
    (hc : ∀ (i : Nat) (v : Int) (K' : Value → Hp → Prop), xs[i]? = some v → K' (.int .i64 (c i)) H → callV P cmp [.int .i64 v, tgt] H K' Z)
    (mono : ∀ i j, i ≤ j → j < x.n → c j < 0 → c i < 0) (k : ∀ p, Split x.n c p → K (.tuple #[.int .i64 (p : Int), .bool (decide (p < x.n) && (c p == 0))]) H) : BsV P H x tgt cmp K Z := by
  unfold BsV
  refine ⟨fun i j A m => ∃ a b : Nat, A = H ∧ i = (a : Int) ∧ j = (b : Int) ∧ a ≤ b ∧ b ≤ x.n ∧ m = b - a ∧ (∀ t, t < a → c t < 0) ∧ (∀ t, b ≤ t → t < x.n → 0 ≤ c t), ⟨x.n, 0, x.n, rfl, rfl, rfl, by omega, by omega, rfl, by omega, by omega⟩, ?_⟩
  rintro i j A m ⟨a, b, rfl, rfl, rfl, hab, hb, rfl, hlo, hhi⟩ scr
  refine ⟨fun hlt => ?_, fun hge => ?_⟩
  · have hlt' : a < b := by
      have : (a : Int) < (b : Int) := of_decide_eq_true hlt
      omega
    rw [mid_eq (by omega)]
    have hm1 : a ≤ (a + b) / 2 := by omega
    have hm2 : (a + b) / 2 < b := by omega
    generalize (a + b) / 2 = h at *
    have hv : xs[h]? = some (xs[h]'(by omega)) := List.getElem?_eq_getElem (by omega)
    obtain ⟨ad, ha, hcell⟩ := hel _ _ hv
    refine ⟨ad, ha, ⟨by omega, by omega⟩, _, by rw [Int.toNat_natCast]; exact hcell, hc _ _ _ hv ⟨_, rfl, fun hneg => ?_, fun hneg => ?_⟩⟩
    · have hneg' : c h < 0 := of_decide_eq_true hneg
      have e : w64 ((h : Int) + 1) = ((h + 1 : Nat) : Int) := by rw [wrap64 (by omega) (by omega)]; omega
      rw [e]
      refine ⟨b - (h + 1), by omega, h + 1, b, rfl, rfl, rfl, by omega, hb, rfl, ?_, hhi⟩
      intro t ht
      exact mono t h (by omega) (by omega) hneg'
    · have hneg' : ¬ c h < 0 := of_decide_eq_false hneg
      refine ⟨h - a, by omega, a, h, rfl, rfl, rfl, by omega, by omega, rfl, hlo, ?_⟩
      intro t ht htn
      apply Classical.byContradiction
      intro hc'
      exact hneg' (mono h t ht htn (by omega))
  · have hge' : a = b := by
      have : ¬ (a : Int) < (b : Int) := of_decide_eq_false hge
      omega
    subst hge'
    have hk := k a ⟨hb, hlo, hhi⟩
    refine ⟨fun hin => ?_, fun hin => ?_⟩
    · have hin' : a < x.n := by
        have : (a : Int) < (x.n : Int) := of_decide_eq_true hin
        omega
      have hv : xs[a]? = some (xs[a]'(by omega)) := List.getElem?_eq_getElem (by omega)
      obtain ⟨ad, ha, hcell⟩ := hel _ _ hv
      refine ⟨ad, ha, ⟨by omega, by omega⟩, _, by rw [Int.toNat_natCast]; exact hcell, hc _ _ _ hv ⟨_, rfl, ?_⟩⟩
      rw [decide_eq_true hin', Bool.true_and] at hk
      exact hk
    · have hin' : ¬ a < x.n := by
        have : ¬ (a : Int) < (x.n : Int) := of_decide_eq_false hin
        omega
      rw [decide_eq_false hin', Bool.false_and] at hk
      exact hk
end Go.V
end

section
/- Orders, and things with their numbers in order: plain words. -/
set_option linter.unusedVariables false
set_option linter.unusedSimpArgs false
namespace Go.V
/-- a strict order in which any two are comparable -/
structure Lin {τ : Type} (lt : τ → τ → Bool) : Prop where
  irr : ∀ x, lt x x = false
  tr : ∀ x y z, lt x y = true → lt y z = true → lt x z = true
  tot : ∀ x y, lt x y = true ∨ x = y ∨ lt y x = true
theorem linI : Lin (fun x y : Int => decide (x < y)) := by
  refine ⟨?_, ?_, ?_⟩
  · intro x; simp
  · intro x y z; simp only [decide_eq_true_eq]; omega
  · intro x y; simp only [decide_eq_true_eq]; omega
theorem bl_irr : ∀ x : List UInt8, Op.bytesLess x x = false
  | [] => rfl
  | a :: x => by simp [Op.bytesLess, bl_irr x]
theorem bl_tr : ∀ x y z : List UInt8, Op.bytesLess x y = true → Op.bytesLess y z = true → Op.bytesLess x z = true
  | x, [], z, h, _ => by cases x <;> simp [Op.bytesLess] at h
  | x, b :: y, [], _, h => by simp [Op.bytesLess] at h
  | [], b :: y, c :: z, _, _ => rfl
  | a :: x, b :: y, c :: z, h1, h2 => by
    simp only [Op.bytesLess, Bool.or_eq_true, decide_eq_true_eq, Bool.and_eq_true, beq_iff_eq] at h1 h2 ⊢
    rcases h1 with h1 | ⟨rfl, h1⟩
    · rcases h2 with h2 | ⟨rfl, h2⟩
      · exact .inl (UInt8.lt_trans h1 h2)
      · exact .inl h1
    · rcases h2 with h2 | ⟨rfl, h2⟩
      · exact .inl h2
      · exact .inr ⟨rfl, bl_tr x y z h1 h2⟩
theorem bl_tot : ∀ x y : List UInt8, Op.bytesLess x y = true ∨ x = y ∨ Op.bytesLess y x = true
  | [], [] => .inr (.inl rfl)
  | [], _ :: _ => .inl rfl
  | _ :: _, [] => .inr (.inr rfl)
  | a :: x, b :: y => by
    simp only [Op.bytesLess, Bool.or_eq_true, decide_eq_true_eq, Bool.and_eq_true, beq_iff_eq]
    rcases Nat.lt_trichotomy a.toNat b.toNat with h | h | h
    · exact .inl (.inl (UInt8.lt_iff_toNat_lt.2 h))
    · have : a = b := UInt8.toNat_inj.1 h
      subst this
      rcases bl_tot x y with h | rfl | h
      · exact .inl (.inr ⟨rfl, h⟩)
      · exact .inr (.inl rfl)
      · exact .inr (.inr (.inr ⟨rfl, h⟩))
    · exact .inr (.inr (.inl (UInt8.lt_iff_toNat_lt.2 h)))
theorem linS : Lin ltS := by
  refine ⟨fun x => bl_irr _, fun x y z => bl_tr _ _ _, fun x y => ?_⟩
  rcases bl_tot x.toList y.toList with h | h | h
  · exact .inl h
  · refine .inr (.inl ?_)
    rw [ByteArray.toList_eq, ByteArray.toList_eq] at h
    exact ByteArray.ext (Array.ext' h)
  · exact .inr (.inr h)
theorem beqS_iff {x y : ByteArray} : beqS x y = true ↔ x = y := by
  unfold beqS
  rw [ByteArray.toList_eq, ByteArray.toList_eq, beq_iff_eq]
  exact ⟨fun h => ByteArray.ext (Array.ext' h), fun h => by rw [h]⟩

section
variable {τ : Type} {lt : τ → τ → Bool}
def cmpT (lt : τ → τ → Bool) (x y : τ) : Int := if lt x y then -1 else if lt y x then 1 else 0
theorem cmpT_neg {x y : τ} : cmpT lt x y < 0 ↔ lt x y = true := by
  unfold cmpT
  split
  · simp_all
  · split <;> simp_all
theorem cmpT_zero (hl : Lin lt) {x y : τ} : cmpT lt x y = 0 ↔ x = y := by
  unfold cmpT
  constructor
  · intro h
    split at h
    · cases h
    · split at h
      · cases h
      · rcases hl.tot x y with h | h | h
        · simp_all
        · exact h
        · simp_all
  · rintro rfl
    simp [hl.irr]
def relT (lt : τ → τ → Bool) (ts : List τ) (a b : Nat) : Prop := ∃ x y, ts[a]? = some x ∧ ts[b]? = some y ∧ lt x y = true
/-- things, and their numbers as the things rise -/
structure Tbl (lt : τ → τ → Bool) (ts : List τ) (os : List Nat) : Prop where
  perm : os.Perm (List.range ts.length)
  inc : os.Pairwise (relT lt ts)
theorem Tbl.nil : Tbl lt ([] : List τ) [] := ⟨List.Perm.refl _, List.Pairwise.nil⟩
theorem Tbl.len {ts : List τ} {os : List Nat} (h : Tbl lt ts os) : os.length = ts.length := by
  have := h.perm.length_eq
  simpa using this
theorem Tbl.ltn {ts : List τ} {os : List Nat} (h : Tbl lt ts os) {j k : Nat} (hj : os[j]? = some k) : k < ts.length := by
  have : k ∈ List.range ts.length := h.perm.mem_iff.1 (List.mem_of_getElem? hj)
  exact List.mem_range.1 this
theorem Tbl.at {ts : List τ} {os : List Nat} (h : Tbl lt ts os) {k : Nat} (hk : k < ts.length) : ∃ j : Nat, os[j]? = some k := by
  have : k ∈ os := h.perm.mem_iff.2 (List.mem_range.2 hk)
  exact List.getElem?_of_mem this
theorem Tbl.rel {ts : List τ} {os : List Nat} (h : Tbl lt ts os) {i j a b : Nat} (hij : i < j) (ha : os[i]? = some a) (hb : os[j]? = some b) : relT lt ts a b := by
  obtain ⟨hi, rfl⟩ := List.getElem?_eq_some_iff.1 ha
  obtain ⟨hj, rfl⟩ := List.getElem?_eq_some_iff.1 hb
  exact List.pairwise_iff_getElem.1 h.inc i j hi hj hij
/-- each thing has one number -/
theorem Tbl.uniq (hl : Lin lt) {ts : List τ} {os : List Nat} (h : Tbl lt ts os) {a b : Nat} {x : τ} (ha : ts[a]? = some x) (hb : ts[b]? = some x) : a = b := by
  obtain ⟨i, hi⟩ := h.at (List.getElem?_eq_some_iff.1 ha).1
  obtain ⟨j, hj⟩ := h.at (List.getElem?_eq_some_iff.1 hb).1
  rcases Nat.lt_trichotomy i j with hij | rfl | hij
  · obtain ⟨u, v, hu, hv, huv⟩ := h.rel hij hi hj
    rw [ha] at hu
    rw [hb] at hv
    cases hu
    cases hv
    rw [hl.irr] at huv
    cases huv
  · rw [hi] at hj
    exact Option.some.inj hj
  · obtain ⟨u, v, hu, hv, huv⟩ := h.rel hij hj hi
    rw [hb] at hu
    rw [ha] at hv
    cases hu
    cases hv
    rw [hl.irr] at huv
    cases huv
/-- how a thing compares with the one at place j in order -/
def cAt (lt : τ → τ → Bool) (ts : List τ) (os : List Nat) (x : τ) (j : Nat) : Int := match os[j]? with
  | some k => (match ts[k]? with | some y => cmpT lt y x | none => 0)
  | none => 0
theorem cAt_eq {ts : List τ} {os : List Nat} {x y : τ} {j k : Nat} (h1 : os[j]? = some k) (h2 : ts[k]? = some y) : cAt lt ts os x j = cmpT lt y x := by
  unfold cAt
  rw [h1]
  simp only [h2]
theorem Tbl.get {ts : List τ} {os : List Nat} (h : Tbl lt ts os) {j : Nat} (hj : j < os.length) : ∃ k y, os[j]? = some k ∧ ts[k]? = some y := by
  have h1 : os[j]? = some os[j] := List.getElem?_eq_getElem hj
  exact ⟨_, _, h1, List.getElem?_eq_getElem (h.ltn h1)⟩
theorem Tbl.mono (hl : Lin lt) {ts : List τ} {os : List Nat} (h : Tbl lt ts os) (x : τ) : ∀ i j, i ≤ j → j < os.length → cAt lt ts os x j < 0 → cAt lt ts os x i < 0 := by
  intro i j hij hj hc
  rcases Nat.lt_or_eq_of_le hij with hlt | rfl
  · obtain ⟨a, u, ha, hu⟩ := h.get (j := i) (by omega)
    obtain ⟨b, v, hb, hv⟩ := h.get hj
    rw [cAt_eq hb hv, cmpT_neg] at hc
    rw [cAt_eq ha hu, cmpT_neg]
    obtain ⟨u', v', hu', hv', huv⟩ := h.rel hlt ha hb
    rw [hu] at hu'
    rw [hv] at hv'
    cases hu'
    cases hv'
    exact hl.tr _ _ _ huv hc
  · exact hc
/-- it is there -/
theorem Tbl.hit (hl : Lin lt) {ts : List τ} {os : List Nat} (h : Tbl lt ts os) {x : τ} {p : Nat} (hp : p < os.length) (hc : cAt lt ts os x p = 0) : ∃ k, os[p]? = some k ∧ ts[k]? = some x := by
  obtain ⟨k, y, h1, h2⟩ := h.get hp
  rw [cAt_eq h1 h2, cmpT_zero hl] at hc
  subst hc
  exact ⟨k, h1, h2⟩
/-- it is not there -/
theorem Tbl.miss (hl : Lin lt) {ts : List τ} {os : List Nat} (h : Tbl lt ts os) {x : τ} {p : Nat} (hs : Split os.length (cAt lt ts os x) p) (hc : ¬ (p < os.length ∧ cAt lt ts os x p = 0)) : x ∉ ts := by
  intro hx
  obtain ⟨k, hk⟩ := List.getElem?_of_mem hx
  obtain ⟨j, hj⟩ := h.at (List.getElem?_eq_some_iff.1 hk).1
  have hjl : j < os.length := (List.getElem?_eq_some_iff.1 hj).1
  have hz : cAt lt ts os x j = 0 := by rw [cAt_eq hj hk, cmpT_zero hl]
  have hpj : p ≤ j := by
    apply Classical.byContradiction
    intro hn
    have := hs.lo j (by omega)
    omega
  rcases Nat.lt_or_eq_of_le hpj with hlt | rfl
  · obtain ⟨a, u, ha, hu⟩ := h.get (j := p) (by omega)
    obtain ⟨u', v', hu', hv', huv⟩ := h.rel hlt ha hj
    rw [hu] at hu'
    rw [hk] at hv'
    cases hu'
    cases hv'
    have h1 := hs.hi p (Nat.le_refl _) (by omega)
    rw [cAt_eq ha hu] at h1
    have := cmpT_neg.2 huv
    omega
  · exact hc ⟨hjl, hz⟩
/-- a new thing -/
theorem Tbl.put (hl : Lin lt) {ts : List τ} {os : List Nat} (h : Tbl lt ts os) {x : τ} {p : Nat} (hs : Split os.length (cAt lt ts os x) p) (hc : ¬ (p < os.length ∧ cAt lt ts os x p = 0)) : Tbl lt (ts ++ [x]) (os.take p ++ [ts.length] ++ os.drop p) := by
  have hlen := h.len
  have ext : ∀ a b, relT lt ts a b → relT lt (ts ++ [x]) a b := by
    rintro a b ⟨u, v, hu, hv, huv⟩
    exact ⟨u, v, by rw [List.getElem?_append_left (List.getElem?_eq_some_iff.1 hu).1]; exact hu, by rw [List.getElem?_append_left (List.getElem?_eq_some_iff.1 hv).1]; exact hv, huv⟩
  have hnew : (ts ++ [x])[ts.length]? = some x := by simp
  refine ⟨?_, ?_⟩
  · rw [List.length_append, List.length_singleton, List.range_succ]
    have h1 : (os.take p ++ [ts.length] ++ os.drop p).Perm (os.take p ++ os.drop p ++ [ts.length]) := by
      rw [List.append_assoc, List.append_assoc]
      exact List.Perm.append_left _ List.perm_append_comm
    rw [List.take_append_drop] at h1
    exact h1.trans (h.perm.append_right _)
  · have hinc := h.inc
    rw [← List.take_append_drop p os, List.pairwise_append] at hinc
    obtain ⟨i1, i2, i3⟩ := hinc
    rw [List.append_assoc, List.pairwise_append]
    refine ⟨i1.imp (fun hab => ext _ _ hab), ?_, ?_⟩
    · rw [List.singleton_append, List.pairwise_cons]
      refine ⟨?_, i2.imp (fun hab => ext _ _ hab)⟩
      intro b hb
      obtain ⟨j, hj⟩ := List.getElem?_of_mem hb
      rw [List.getElem?_drop] at hj
      have hjl : p + j < os.length := (List.getElem?_eq_some_iff.1 hj).1
      have hv : ts[b]? = some (ts[b]'(h.ltn hj)) := List.getElem?_eq_getElem (h.ltn hj)
      have h0 := hs.hi (p + j) (by omega) hjl
      have hne : cAt lt ts os x (p + j) ≠ 0 := by
        intro hz
        have hmem : x ∈ ts := by
          rw [cAt_eq hj hv, cmpT_zero hl] at hz
          rw [← hz]
          exact List.getElem_mem _
        exact h.miss hl hs hc hmem
      rw [cAt_eq hj hv] at h0 hne
      refine ⟨x, _, hnew, by rw [List.getElem?_append_left (h.ltn hj)]; exact hv, ?_⟩
      unfold cmpT at h0 hne
      split at h0
      · simp at h0
      · split at hne
        · simp_all
        · split at hne
          · assumption
          · exact absurd rfl hne
    · intro a ha b hb
      rw [List.singleton_append, List.mem_cons] at hb
      rcases hb with rfl | hb
      · obtain ⟨j, hj⟩ := List.getElem?_of_mem ha
        rw [List.getElem?_take] at hj
        split at hj
        · rename_i hjp
          have hv : ts[a]? = some (ts[a]'(h.ltn hj)) := List.getElem?_eq_getElem (h.ltn hj)
          have h0 := hs.lo j hjp
          rw [cAt_eq hj hv, cmpT_neg] at h0
          exact ⟨_, x, by rw [List.getElem?_append_left (h.ltn hj)]; exact hv, hnew, h0⟩
        · cases hj
      · exact ext _ _ (i3 a ha b hb)
end
end Go.V
end

section
/- A table (two rows, of things and of their numbers in order) in a block; of no program. -/
set_option linter.unusedVariables false
set_option linter.unusedSimpArgs false
namespace Go.V
section
variable {τ : Type}
def numV (os : List Nat) : List Value := os.map fun (k : Nat) => Value.int .i64 (k : Int)
theorem numV_one (os : List Nat) : ∀ v ∈ numV os, v.oneCell = true := by
  intro v hv
  obtain ⟨b, _, rfl⟩ := List.mem_map.1 hv
  rfl
/-- a row of things that is read -/
structure Els (val : τ → Value) (H : Hp) (s : Sl) (xs : List τ) : Prop where
  len : s.n = xs.length
  el : ∀ (i : Nat) (x : τ), xs[i]? = some x → ∃ ad, s.a = some ad ∧ hcell H (ad.add (i * 1)) = some (val x)
theorem Els.keep {val : τ → Value} {S : Nat → Prop} {H H' : Hp} {s : Sl} {xs : List τ} (h : Els val H s xs) (hf : Fr S H H') (hs : ∀ i, i < H.size → ¬ S i) : Els val H' s xs := by
  refine ⟨h.len, fun i p hp => ?_⟩
  obtain ⟨ad, h2, h3⟩ := h.el i p hp
  exact ⟨ad, h2, hf.cell h3 (hs _ (hcell_lt h3))⟩
theorem Els.row {val : τ → Value} {H : Hp} {E : TypeId} {s : Sl} {xs : List τ} (h : Row H E 1 s (xs.map val)) : Els val H s xs := by
  have hl := h.1
  rw [List.length_map, Nat.mul_one] at hl
  refine ⟨hl.symm, fun i x hx => ?_⟩
  have hi : i < xs.length := (List.getElem?_eq_some_iff.1 hx).1
  obtain ⟨g, hg⟩ := h.some (by omega)
  refine ⟨_, hg, ?_⟩
  rw [h.ld hg (i * 1) (by rw [List.length_map]; omega), Nat.mul_one, List.getElem?_map, hx]
  rfl
/-- the rows' blocks -/
def tOwn (cs : List Value) (o : Nat) (i : Nat) : Prop := ∃ off n c, cs[o]? = some (.slice (some ⟨i, off, none⟩) n c) ∨ cs[o + 1]? = some (.slice (some ⟨i, off, none⟩) n c)
structure TbS (val : τ → Value) (lt : τ → τ → Bool) (E EI : TypeId) (H : Hp) (b o : Nat) (T : TypeId) (cs : List Value) (ts : List τ) (os : List Nat) : Prop where
  blk : Blk H b cs T
  rows : ∃ s1 s2 : Sl, cs[o]? = some (.slice s1.a s1.n s1.c) ∧ cs[o + 1]? = some (.slice s2.a s2.n s2.c) ∧ Row H E 1 s1 (ts.map val) ∧ Row H EI 1 s2 (numV os) ∧ Nf H s2 ∧ (∀ i, own s1 i → own s2 i → False)
  nob : ¬ tOwn cs o b
  ok : Tbl lt ts os
structure TbTo (val : τ → Value) (lt : τ → τ → Bool) (E EI : TypeId) (H H' : Hp) (b o : Nat) (T : TypeId) (cs cs' : List Value) (ts : List τ) (os : List Nat) : Prop where
  st : TbS val lt E EI H' b o T cs' ts os
  len : cs'.length = cs.length
  rest : ∀ i, i ≠ o → i ≠ o + 1 → cs'[i]? = cs[i]?
  fr : Fr (fun i => i = b ∨ tOwn cs o i) H H'
  own : ∀ i, tOwn cs' o i → tOwn cs o i ∨ H.size ≤ i
variable {val : τ → Value} {lt : τ → τ → Bool} {E EI : TypeId}
theorem tOwn_iff {s1 s2 : Sl} {cs : List Value} {o : Nat} (h1 : cs[o]? = some (.slice s1.a s1.n s1.c)) (h2 : cs[o + 1]? = some (.slice s2.a s2.n s2.c)) (i : Nat) : tOwn cs o i ↔ own s1 i ∨ own s2 i := by
  unfold tOwn own
  rw [h1, h2]
  constructor
  · rintro ⟨off, n, c, h | h⟩
    · simp only [Option.some.injEq, Value.slice.injEq] at h
      exact .inl ⟨off, h.1⟩
    · simp only [Option.some.injEq, Value.slice.injEq] at h
      exact .inr ⟨off, h.1⟩
  · rintro (⟨off, h⟩ | ⟨off, h⟩)
    · exact ⟨off, s1.n, s1.c, .inl (by rw [h])⟩
    · exact ⟨off, s2.n, s2.c, .inr (by rw [h])⟩
section
variable {H : Hp} {b o : Nat} {T : TypeId} {cs : List Value} {ts : List τ} {os : List Nat}
theorem TbS.own_lt (h : TbS val lt E EI H b o T cs ts os) {i : Nat} (hi : tOwn cs o i) : i < H.size := by
  obtain ⟨s1, s2, h1, h2, r1, r2, nf, ap⟩ := h.rows
  rcases (tOwn_iff h1 h2 i).1 hi with h | h
  · exact r1.lt h
  · exact r2.lt h
theorem TbS.keep {S : Nat → Prop} {H' : Hp} (h : TbS val lt E EI H b o T cs ts os) (hf : Fr S H H') (hb : ¬ S b) (hs : ∀ i, tOwn cs o i → ¬ S i) : TbS val lt E EI H' b o T cs ts os := by
  obtain ⟨s1, s2, h1, h2, r1, r2, nf, ap⟩ := h.rows
  exact ⟨hf.blk h.blk hb, ⟨s1, s2, h1, h2, r1.keep hf (fun i hi => hs i ((tOwn_iff h1 h2 i).2 (.inl hi))), r2.keep hf (fun i hi => hs i ((tOwn_iff h1 h2 i).2 (.inr hi))), nf.keep hf (fun i hi => hs i ((tOwn_iff h1 h2 i).2 (.inr hi))), ap⟩, h.nob, h.ok⟩
theorem TbTo.refl (h : TbS val lt E EI H b o T cs ts os) : TbTo val lt E EI H H b o T cs cs ts os := ⟨h, rfl, fun _ _ _ => rfl, Fr.refl _ _, fun _ h => .inl h⟩
theorem TbTo.of_no {H' : Hp} (h : TbS val lt E EI H b o T cs ts os) (hf : Fr no H H') : TbTo val lt E EI H H' b o T cs cs ts os := ⟨h.keep hf (fun h => h) (fun _ _ h => h), rfl, fun _ _ _ => rfl, hf.of_no, fun _ h => .inl h⟩
theorem TbTo.trans {A B C : Hp} {c1 c2 c3 : List Value} {t1 t2 : List τ} {o1 o2 : List Nat} (h : TbTo val lt E EI A B b o T c1 c2 t1 o1) (k : TbTo val lt E EI B C b o T c2 c3 t2 o2) : TbTo val lt E EI A C b o T c1 c3 t2 o2 := by
  refine ⟨k.st, k.len.trans h.len, fun i h1 h2 => (k.rest i h1 h2).trans (h.rest i h1 h2), ?_, ?_⟩
  · refine h.fr.step k.fr ?_
    intro i hi ht
    rcases ht with rfl | ht
    · exact .inl rfl
    · rcases h.own i ht with h' | h'
      · exact .inr h'
      · omega
  · intro i hi
    rcases k.own i hi with h' | h'
    · exact h.own i h'
    · exact .inr (Nat.le_trans h.fr.size h')
/-- a thing's cell -/
theorem TbS.thing (h : TbS val lt E EI H b o T cs ts os) {s1 : Sl} (hs : cs[o]? = some (.slice s1.a s1.n s1.c)) : s1.n = ts.length ∧ ∀ (i : Nat) (x : τ), ts[i]? = some x → ∃ ad, s1.a = some ad ∧ hcell H (ad.add (i * 1)) = some (val x) := by
  obtain ⟨s1', s2, h1, h2, r1, r2, nf, ap⟩ := h.rows
  obtain rfl : s1' = s1 := by
    rw [hs] at h1
    cases s1; cases s1'
    simp only [Option.some.injEq, Value.slice.injEq] at h1
    simp [h1]
  have hl := r1.1
  rw [List.length_map, Nat.mul_one] at hl
  refine ⟨hl.symm, fun i x hx => ?_⟩
  have hi : i < ts.length := (List.getElem?_eq_some_iff.1 hx).1
  obtain ⟨g, hg⟩ := r1.some (by omega)
  refine ⟨_, hg, ?_⟩
  rw [r1.ld hg (i * 1) (by rw [List.length_map]; omega), Nat.mul_one, List.getElem?_map, hx]
  rfl
theorem TbS.order (h : TbS val lt E EI H b o T cs ts os) {s2 : Sl} (hs : cs[o + 1]? = some (.slice s2.a s2.n s2.c)) : s2.n = os.length ∧ ∀ (i : Nat) (k : Nat), os[i]? = some k → ∃ ad, s2.a = some ad ∧ hcell H (ad.add (i * 1)) = some (.int .i64 (k : Int)) := by
  obtain ⟨s1, s2', h1, h2, r1, r2, nf, ap⟩ := h.rows
  obtain rfl : s2' = s2 := by
    rw [hs] at h2
    cases s2; cases s2'
    simp only [Option.some.injEq, Value.slice.injEq] at h2
    simp [h2]
  have hl := r2.1
  unfold numV at hl r2
  rw [List.length_map, Nat.mul_one] at hl
  refine ⟨hl.symm, fun i x hx => ?_⟩
  have hi : i < os.length := (List.getElem?_eq_some_iff.1 hx).1
  obtain ⟨g, hg⟩ := r2.some (by omega)
  refine ⟨_, hg, ?_⟩
  rw [r2.ld hg (i * 1) (by rw [List.length_map]; omega), Nat.mul_one, List.getElem?_map, hx]
  rfl
end
end
end Go.V
end
