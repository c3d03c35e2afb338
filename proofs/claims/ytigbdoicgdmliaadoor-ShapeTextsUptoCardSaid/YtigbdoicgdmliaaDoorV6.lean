/- Functions whole, rounds of loops over functions, and what a law's row wants. -/
import Derived.Test.YtigbdoicgdmliaaDoorV5
import Derived.Laws.Sem
set_option linter.unusedVariables false
set_option linter.unusedSimpArgs false
namespace Go.V

/-! ### results -/
def resK (P : Program) : List ResultVar → Env → Hp → (List Value → Prop) → Prop
  | [], _, _, k => k []
  | .tmp t :: rs, E, H, k => getK E.t t fun v => resK P rs E H fun vs => k (v.2 :: vs)
  | .cell a T :: rs, E, H, k => getK E.t a fun v => ptrK v.2 fun ad => ldT P T H ad fun r => resK P rs E H fun vs => k (r :: vs)
def resV : List Value → Value
  | [v] => v
  | vs => .tuple vs.toArray
def unwK : List Deferred → Hp → (Hp → Prop) → Prop
  | [], H, k => k H
  | { target := .collected D, .. } :: ds, H, k => H[D]? = some (.deferred (some [])) ∧ ∀ H', H' = H.setIfInBounds D (.deferred none) → unwK ds H' k
  | _, _, _ => False
def retC (P : Program) (rs : List ResultVar) (E : Env) (H : Hp) (K : Value → Hp → Prop) : Prop := unwK E.d H fun H' => resK P rs E H' fun vs => K (resV vs) H'
def Zd (Z : List PanicEntry → Hp → Prop) : List Deferred → List PanicEntry → Hp → Prop := fun d ch H => match d with | [] => Z ch H | _ => False
def endC (P : Program) (rs : List ResultVar) (K : Value → Hp → Prop) : Exit → Env → Hp → Prop := fun e E H => match e with
  | .normal => retC P rs E H K
  | .ret => retC P rs E H K
  | _ => False
def entry (args : List Value) (n : Nat) : Env := ⟨(args ++ List.replicate (n - args.length) undef).map fun v => (false, v), []⟩
/-- A function, called. -/
def fnC (P : Program) (aJ aL : Ann) (f : FuncId) (args : List Value) (H : Hp) (K : Value → Hp → Prop) (Z : List PanicEntry → Hp → Prop) : Prop := match P.funcs[f]? with
  | some fn => (match fn.body with
    | some c => comp P none f aJ aL (Zd Z) c (endC P fn.results.toList K) (entry args fn.ntmps) H
    | none => False)
  | none => False

def resOne (tmps : Array Value) : ResultVar → Sem Value
  | .tmp t => pure (tmps.getD t undef)
  | .cell a t => do loadVar t (← asAddr (tmps.getD a undef))
theorem tmps_getD (E : Env) (t : Nat) : E.act.tmps.getD t undef = (E.t.getD t (false, undef)).2 := Env.eval_tmp E t

theorem resK_sound {P : Program} {E : Env} {H : Hp} : ∀ {rs : List ResultVar} {k : List Value → Prop}, resK P rs E H k →
    ∃ vs, k vs ∧ ∀ w : World, w.heap = H → (rs.mapM (resOne E.act.tmps)).run P w = .ok vs w
  | [], k, h => ⟨[], h, fun w _ => rfl⟩
  | .tmp t :: rs, k, h => by
    simp only [resK, getK_eq] at h
    obtain ⟨vs, hk, hr⟩ := resK_sound h
    refine ⟨_, hk, fun w hw => ?_⟩
    simp only [List.mapM_cons, resOne, bind, pure, Sem.bind]
    rw [run_bind, hr w hw, tmps_getD]
    rfl
  | .cell a T :: rs, k, h => by
    simp only [resK, getK_eq] at h
    obtain ⟨ad, hv, h⟩ := ptrK_sound h
    obtain ⟨v, h, hl⟩ := ldT_run h
    obtain ⟨vs, hk, hr⟩ := resK_sound h
    refine ⟨_, hk, fun w hw => ?_⟩
    simp only [List.mapM_cons, resOne, tmps_getD, hv, asAddr, bind, pure, Sem.bind]
    rw [run_bind, hl w hw]
    simp only
    rw [run_bind, hr w hw]
    rfl

theorem results_run {P : Program} {fn : Func} {E : Env} {H : Hp} {k : List Value → Prop} (h : resK P fn.results.toList E H k) :
    ∃ vs, k vs ∧ ∀ w : World, w.heap = H → (results fn E.act.tmps).run P w = .ok (resV vs) w := by
  obtain ⟨vs, hk, hr⟩ := resK_sound h
  refine ⟨vs, hk, fun w hw => ?_⟩
  have e : results fn E.act.tmps = (fn.results.toList.mapM (resOne E.act.tmps)).bind fun vs => .pure (resV vs) := by
    unfold results
    rw [Array.mapM_eq_mapM_toList]
    have hx : ∀ g : ResultVar → Sem Value, (∀ x, g x = resOne E.act.tmps x) → List.mapM g fn.results.toList = List.mapM (resOne E.act.tmps) fn.results.toList := by
      intro g hg
      rw [show g = resOne E.act.tmps from funext hg]
    rw [hx _ (by intro x; cases x <;> rfl)]
    rw [map_eq_pure_bind, bind_assoc]
    show Sem.bind _ _ = _
    congr 1
    funext vs
    rw [pure_bind]
    show Sem.pure _ = Sem.pure _
    congr 1
    match vs with
    | [] => rfl
    | [v] => rfl
    | a :: b :: r => rfl
  rw [e, run_bind, hr w hw]
  rfl

section
variable {P : Program} {b : Frame} {a : Act} {k : List Item} {cs : List Frame} {w : World}
theorem st_ret (hb : b.roundOf = none) : step P (lone (fat b a (.code .ret :: k)) cs w) = .next (lone { fat b a (.code .ret :: k) with mode := .returning } cs w) :=
  step_lone_go (by simp [stepG, stepG.exec, fat, hb])
theorem st_end (hb : b.roundOf = none) : step P (lone (fat b a []) cs w) = .next (lone { fat b a [] with mode := .returning } cs w) :=
  step_lone_go (by simp [stepG, stepG.exec, fat, hb])
theorem st_unw {D : Nat} {as : Array Value} {ds : List Deferred} {todo : List Item} (h : w.heap[D]? = some (.deferred (some []))) :
    step P (lone { fat b { a with defers := { target := .collected D, args := as } :: ds } todo with mode := .returning } cs w) =
      .next (lone { fat b { a with defers := ds } todo with mode := .returning } cs { w with heap := w.heap.setIfInBounds D (.deferred none) }) :=
  step_lone_go (by
    have : (Instr.takeDeferred D).run P w = .ok [] { w with heap := w.heap.setIfInBounds D (.deferred none) } := by
      simp only [Instr.takeDeferred, getObj, setObj, bind, Sem.bind, pure, Sem.run, h]
    simp [stepG, unwind, fat, this])

theorem unw_steps : ∀ {ds : List Deferred} {w : World} {K : Hp → Prop} {todo : List Item}, unwK ds w.heap K →
    ∃ w', Lk w w' ∧ K w'.heap ∧ Steps P (lone { fat b { a with defers := ds } todo with mode := .returning } cs w) (lone { fat b { a with defers := [] } todo with mode := .returning } cs w')
  | [], w, K, todo, h => ⟨w, Lk.refl w, h, .refl _ _⟩
  | d :: ds, w, K, todo, h => by
    obtain ⟨target, args⟩ := d
    cases target <;> first | exact h.elim | skip
    rename_i D
    obtain ⟨h1, h2⟩ := h
    obtain ⟨w', hl, hK, hs⟩ := unw_steps (w := { w with heap := w.heap.setIfInBounds D (.deferred none) }) (todo := todo) (h2 _ rfl)
    exact ⟨w', Lk.trans ⟨rfl, rfl, rfl⟩ hl, hK, .head (st_unw h1) hs⟩
end

theorem fnC_sound {P : Program} {aJ aL : Ann} {f : FuncId} {args : List Value} {H : Hp} {K : Value → Hp → Prop} {Z : List PanicEntry → Hp → Prop} (h : fnC P aJ aL f args H K Z) :
    CallF P f args.toArray H K Z := by
  intro w hw cs
  subst hw
  unfold fnC at h
  cases hf : P.funcs[f]? with
  | none => rw [hf] at h; exact h.elim
  | some fn =>
    rw [hf] at h
    simp only at h
    cases hb : fn.body with
    | none => rw [hb] at h; exact h.elim
    | some c =>
      rw [hb] at h
      simp only at h
      let b : Frame := { (default : Frame) with fn := f, kind := .normal }
      have hbr : b.roundOf = none := rfl
      have henter : Frame.enter P f args.toArray .normal = fat b (entry args fn.ntmps).act [.code c] := by
        simp [Frame.enter, fat, hf, hb, b, entry, Env.act, Function.comp_def]
        rfl
      obtain ⟨e, a', w', hl, hq, harr⟩ := comp_sound c h b [] cs w rfl rfl rfl
      rw [← henter] at harr
      have fin : ∀ (E' : Env) (todo : List Item), E'.act = a' → retC P fn.results.toList E' w'.heap K →
          Steps P (lone (Frame.enter P f args.toArray .normal) cs w) (lone { fat b a' todo with mode := .returning } cs w') →
          ∃ e w' fr, (Lk w w' ∧ match e with
            | .returned v => K v w'.heap
            | .panicked ch => Z ch w'.heap
            | .outgrown => False) ∧ Comes P (lone (Frame.enter P f args.toArray .normal) cs w) (lone fr cs w') e ∧ fr.fn = f ∧ fr.leaving P w' e := by
        intro E' todo he hr hs
        unfold retC at hr
        obtain ⟨w2, hl2, hr, hs2⟩ := unw_steps (P := P) (b := b) (a := a') (cs := cs) (todo := todo) hr
        have hd : E'.d = a'.defers := by rw [← he]; rfl
        rw [hd] at hs2
        obtain ⟨vs, hK, hres⟩ := results_run hr
        refine ⟨.returned (resV vs), w2, _, ⟨hl.trans hl2, hK⟩, Steps.trans hs hs2, rfl, rfl, rfl, rfl, fn, hf, ?_⟩
        have := hres w2 rfl
        rw [he] at this
        exact this
      cases e with
      | normal => obtain ⟨_, E', he, hr⟩ := hq; exact fin E' [] he hr (Steps.trans harr (.one (st_end hbr)))
      | ret => obtain ⟨_, E', he, hr⟩ := hq; obtain ⟨k0, hs⟩ := harr; exact fin E' _ he hr (Steps.trans hs (.one (st_ret hbr)))
      | panic ch =>
        obtain ⟨k0, hs⟩ := harr
        simp only [Good, Zd] at hq
        split at hq
        · rename_i hd
          exact ⟨.panicked ch, w', _, ⟨hl, hq⟩, hs, rfl, rfl, hd, fn, hf⟩
        · exact hq.elim
      | exit id => exact hq.2.elim fun E' h => h.2.elim
      | goto l => exact harr.elim
      | outgrown => exact harr.elim

/-! ### a round of a loop over a function -/
def endR (l : Nat) (jump : Option Code) (H : Hp) (K : Value → Hp → Prop) : Prop :=
  ∃ r, H[l]? = some (.loop r) ∧ ∀ H', H' = H.setIfInBounds l (.loop { r with state := if jump.isNone then .ready else .done, pending := jump }) → K (.bool jump.isNone) H'
def endRC (l : Nat) (K : Value → Hp → Prop) : Exit → Env → Hp → Prop := fun e E H => match e with
  | .normal => endR l none H K
  | .ret => endR l (some .ret) H K
  | .exit id => endR l (some (.exit id)) H K
  | _ => False
/-- The round of loop l, its record's temporaries and code told. -/
def rndC (P : Program) (aJ aL : Ann) (l : Nat) (fn : FuncId) (as body : Code) (E : Env) (H : Hp) (K : Value → Hp → Prop) : Prop :=
  comp P (some l) fn aJ aL (fun _ _ _ => False) as (fun e E1 H1 => match e with
    | .normal => ∃ r, H1[l]? = some (.loop r) ∧ r.state = .ready ∧ ∀ H2, H2 = H1.setIfInBounds l (.loop { r with state := .busy }) →
        comp P (some l) fn aJ aL (fun _ _ _ => False) body (endRC l K) E1 H2
    | _ => False) E H

section
variable {P : Program} {b : Frame} {a : Act} {k : List Item} {c : Frame} {cs : List Frame} {w w' : World} {l : Nat}
theorem st_begin (hb : b.roundOf = some l) (h : (Instr.beginRound l).run P w = .ok () w') : step P (lone (fat b a (.beginRound :: k)) cs w) = .next (lone (fat b a k) cs w') :=
  step_lone_go (by
    have : (do b.roundOf.elim (stuck "beginRound: no round") Instr.beginRound; pure .skip : Sem Next).run P w = .ok .skip w' := by
      rw [hb]
      simp only [Option.elim, bind]
      rw [run_bind, h]
      rfl
    simp only [stepG, stepG.exec, fat, stepG.apply]
    rw [Sem.runT_eq, this]
    simp [Frame.finish])
theorem st_leave {jump : Option Code} {v : Value} (hb : b.roundOf = some l) (hk : b.kind = .normal) {todo : List Item} (ht : (todo = [] ∧ jump = none) ∨ (∃ k0, todo = .code .ret :: k0 ∧ jump = some .ret) ∨ (∃ id k0, todo = .code (.exit id) :: k0 ∧ exitTo id k0 = none ∧ jump = some (.exit id)))
    (h : (Instr.endRound l jump).run P w = .ok v w') : step P (lone (fat b a todo) (c :: cs) w) = .next (lone (c.finish v) cs w') :=
  step_lone_go (by
    rcases ht with ⟨rfl, rfl⟩ | ⟨k0, rfl, rfl⟩ | ⟨id, k0, rfl, hx, rfl⟩
    · simp only [stepG, stepG.exec, fat, hb]
      rw [Sem.runT_eq, h]
      simp [doReturn, hk]
    · simp only [stepG, stepG.exec, fat, hb]
      rw [Sem.runT_eq, h]
      simp [doReturn, hk]
    · simp only [stepG, stepG.exec, fat, hb, hx, Option.elim]
      rw [Sem.runT_eq, h]
      simp [doReturn, hk])
end

theorem rndC_sound {P : Program} {aJ aL : Ann} {l : Nat} {fn : FuncId} {as body : Code} {E : Env} {H : Hp} {K : Value → Hp → Prop} (hd : E.d = []) (h : rndC P aJ aL l fn as body E H K) :
    Rnd P l fn E.act.tmps as body H K := by
  intro w hw c cs
  subst hw
  let b : Frame := { (default : Frame) with fn := fn, kind := .normal, roundOf := some l }
  have hstart : Frame.round l fn E.act.tmps as body .normal = fat b E.act [.code as, .beginRound, .code body] := by
    simp only [Frame.round, fat, b, Env.act, hd]
  rw [hstart]
  obtain ⟨e, a1, w1, hl1, hq, harr⟩ := comp_sound as h b [.beginRound, .code body] (c :: cs) w rfl rfl rfl
  cases e with
  | normal =>
    obtain ⟨_, E1, rfl, r, hr, hst, hb⟩ := hq
    let w2 : World := { w1 with heap := w1.heap.setIfInBounds l (.loop { r with state := .busy }) }
    have hbeg : (Instr.beginRound l).run P w1 = .ok () w2 := by
      simp only [Instr.beginRound, Instr.getLoop, getObj, setObj, bind, Sem.bind, pure, Sem.run, hr, hst]
      rfl
    have hb := hb w2.heap rfl
    obtain ⟨e2, a2, w3, hl3, hq2, harr2⟩ := comp_sound body hb b [] (c :: cs) w2 rfl rfl rfl
    have hs1 : Steps P (lone (fat b E.act [.code as, .beginRound, .code body]) (c :: cs) w) (lone (fat b E1.act [.code body]) (c :: cs) w2) :=
      Steps.trans harr (.one (st_begin rfl hbeg))
    have hlk : Lk w w3 := hl1.trans (Lk.trans (b := w2) ⟨rfl, rfl, rfl⟩ hl3)
    have fin : ∀ (jump : Option Code) (todo : List Item), ((todo = [] ∧ jump = none) ∨ (∃ k0, todo = .code .ret :: k0 ∧ jump = some .ret) ∨ (∃ id k0, todo = .code (.exit id) :: k0 ∧ exitTo id k0 = none ∧ jump = some (.exit id))) →
        endR l jump w3.heap K → Steps P (lone (fat b E1.act [.code body]) (c :: cs) w2) (lone (fat b a2 todo) (c :: cs) w3) →
        ∃ v w', Lk w w' ∧ K v w'.heap ∧ Steps P (lone (fat b E.act [.code as, .beginRound, .code body]) (c :: cs) w) (lone (c.finish v) cs w') := by
      intro jump todo ht hR hs
      obtain ⟨r3, hr3, hK⟩ := hR
      let w4 : World := { w3 with heap := w3.heap.setIfInBounds l (.loop { r3 with state := if jump.isNone then .ready else .done, pending := jump }) }
      have hend : (Instr.endRound l jump).run P w3 = .ok (.bool jump.isNone) w4 := by
        simp only [Instr.endRound, Instr.getLoop, getObj, setObj, bind, Sem.bind, pure, Sem.run, hr3]
        rfl
      exact ⟨_, w4, hlk.trans ⟨rfl, rfl, rfl⟩, hK _ rfl, Steps.trans hs1 (Steps.trans hs (.one (st_leave rfl rfl ht hend)))⟩
    cases e2 with
    | normal => obtain ⟨_, E2, rfl, hR⟩ := hq2; exact fin none [] (.inl ⟨rfl, rfl⟩) hR harr2
    | ret => obtain ⟨_, E2, rfl, hR⟩ := hq2; obtain ⟨k0, hs⟩ := harr2; exact fin _ _ (.inr (.inl ⟨k0, rfl, rfl⟩)) hR hs
    | exit id => obtain ⟨_, E2, rfl, hR⟩ := hq2; obtain ⟨k0, hx, hs⟩ := harr2; exact fin _ _ (.inr (.inr ⟨id, k0, rfl, hx, rfl⟩)) hR hs
    | panic ch => exact hq2.elim
    | goto l => exact harr2.elim
    | outgrown => exact harr2.elim
  | panic ch => exact hq.elim
  | ret => exact hq.2.elim fun E' h => h.2.elim
  | exit id => exact hq.2.elim fun E' h => h.2.elim
  | goto l => exact harr.elim
  | outgrown => exact harr.elim

/-- yield's arguments laid into the record's temporaries -/
def layK : List Nat → List Value → List (Bool × Value) → (List (Bool × Value) → Prop) → Prop
  | p :: ps, v :: vs, t, k => setK t p (false, v) fun t' => layK ps vs t' k
  | [], [], t, k => k t
  | _, _, _, _ => False
theorem layK_eq : ∀ {ps : List Nat} {vs : List Value} {t : List (Bool × Value)} {k : List (Bool × Value) → Prop}, layK ps vs t k →
    ps.length = vs.length ∧ ∃ t', k t' ∧ (t'.map (·.2)).toArray = (ps.zip vs).foldl (fun tmps x => tmps.setIfInBounds x.1 x.2) (t.map (·.2)).toArray
  | p :: ps, v :: vs, t, k, h => by
    simp only [layK, setK_eq] at h
    obtain ⟨hl, t', hk, he⟩ := layK_eq h
    refine ⟨by simp [hl], t', hk, ?_⟩
    rw [he]
    simp [List.map_set]
  | [], [], t, k, h => ⟨rfl, t, h, rfl⟩
  | [], _ :: _, t, k, h => h.elim
  | _ :: _, [], t, k, h => h.elim

/-- A loop's record, as the machine lays it. -/
def findRF : Code → Nat → Option (Array Tmp × Code × Code)
  | .seq a b, n => (match findRF a n with | some r => some r | none => findRF b n)
  | .cond _ a b, n => (match findRF a n with | some r => some r | none => findRF b n)
  | .block _ c, n => findRF c n
  | .loop c, n => findRF c n
  | .scope c, n => findRF c n
  | .rangeFunc f ps as body, n => if key (.rangeFunc f ps as body) = n then some (ps, as, body) else (match findRF as n with | some r => some r | none => findRF body n)
  | _, _ => none
def lrec (f : Func) (fn : FuncId) (n : Nat) (tmps : List Value) (D : Nat) : Loop := match f.body.bind (findRF · n) with
  | some (ps, as, body) => ⟨.ready, none, fn, tmps.toArray, ps, as, body, D⟩
  | none => default
/-- A round of the loop with number n in function f, its yield called. -/
def yldC (P : Program) (aJ aL : Ann) (f : Func) (fn : FuncId) (n : Nat) (l : Nat) (tmps args : List Value) (H : Hp) (K : Value → Hp → Prop) : Prop := match f.body.bind (findRF · n) with
  | some (ps, as, body) => layK ps.toList args (tmps.map fun v => (false, v)) fun t => rndC P aJ aL l fn as body ⟨t, []⟩ H K
  | none => False
theorem yldC_sound {P : Program} {aJ aL : Ann} {f : Func} {fn n l : Nat} {tmps args : List Value} {H : Hp} {K : Value → Hp → Prop} {r : Loop}
    (hr : H[l]? = some (.loop r)) (hfn : r.fn = fn) (ht : r.tmps = tmps.toArray) (hp : r.params = (lrec f fn n tmps 0).params) (ha : r.assign = (lrec f fn n tmps 0).assign) (hb : r.body = (lrec f fn n tmps 0).body)
    (h : yldC P aJ aL f fn n l tmps args H K) : Yld P l args H K := by
  unfold yldC at h
  unfold lrec at hp ha hb
  cases hx : f.body.bind (findRF · n) with
  | none => rw [hx] at h; exact h.elim
  | some x =>
    obtain ⟨ps, as, body⟩ := x
    rw [hx] at h hp ha hb
    simp only at h hp ha hb
    obtain ⟨hl, t', hk, he⟩ := layK_eq h
    refine ⟨r, hr, by rw [hp]; simpa using hl.symm, ?_⟩
    have := rndC_sound (E := ⟨t', []⟩) rfl hk
    rw [hfn, ha, hb, hp]
    have e : (⟨t', []⟩ : Env).act.tmps = (ps.zip args.toArray).foldl (fun tmps (x : Tmp × Value) => tmps.setIfInBounds x.1 x.2) r.tmps := by
      simp only [Env.act]
      rw [he, ht]
      have h1 : (List.map (fun x : Bool × Value => x.2) (List.map (fun v => (false, v)) tmps)) = tmps := by simp [Function.comp_def]
      rw [h1]
      rw [← Array.foldl_toList]
      simp
    rw [e] at this
    exact this
end Go.V

