/- The steps of one goroutine's machine as conditions over heaps alone: what a piece of code comes to. -/
import Derived.Calls
import Derived.Orders
import Derived.Below
import Derived.KernelRfl
set_option linter.unusedVariables false
set_option linter.unusedSimpArgs false
namespace Go.V

abbrev Hp := Array Obj

/-- Streams and tape are as they were. -/
def Lk (w w' : World) : Prop := w'.os = w.os ∧ w'.tape = w.tape ∧ w'.output = w.output
theorem Lk.refl (w : World) : Lk w w := ⟨rfl, rfl, rfl⟩
theorem Lk.trans {a b c : World} (h : Lk a b) (k : Lk b c) : Lk a c := ⟨k.1.trans h.1, k.2.1.trans h.2.1, k.2.2.trans h.2.2⟩

/-- A call of a function, over heaps: K: it returns; Z: it panics. -/
def CallF (P : Program) (f : FuncId) (args : Array Value) (H : Hp) (K : Value → Hp → Prop) (Z : List PanicEntry → Hp → Prop) : Prop :=
  ∀ w : World, w.heap = H → Calls P f args w fun e w' => Lk w w' ∧ match e with
    | .returned v => K v w'.heap
    | .panicked ch => Z ch w'.heap
    | .outgrown => False

theorem CallF.mono {P : Program} {f : FuncId} {args : Array Value} {H : Hp} {K K' : Value → Hp → Prop} {Z Z' : List PanicEntry → Hp → Prop}
    (h : CallF P f args H K Z) (hk : ∀ v H', K v H' → K' v H') (hz : ∀ v H', Z v H' → Z' v H') : CallF P f args H K' Z' := by
  intro w hw
  refine (h w hw).mono ?_
  rintro e w' ⟨hl, hr⟩
  refine ⟨hl, ?_⟩
  cases e with
  | returned v => exact hk _ _ hr
  | panicked ch => exact hz _ _ hr
  | outgrown => exact hr

/-- A round of a range over a function. -/
def Rnd (P : Program) (l f : Nat) (tmps : Array Value) (as body : Code) (H : Hp) (K : Value → Hp → Prop) : Prop :=
  ∀ (w : World), w.heap = H → ∀ (c : Frame) (cs : List Frame), ∃ v w', Lk w w' ∧ K v w'.heap ∧
    Steps P (lone (Frame.round l f tmps as body .normal) (c :: cs) w) (lone (c.finish v) cs w')

theorem Rnd.mono {P : Program} {l f : Nat} {tmps : Array Value} {as body : Code} {H : Hp} {K K' : Value → Hp → Prop}
    (h : Rnd P l f tmps as body H K) (hk : ∀ v H', K v H' → K' v H') : Rnd P l f tmps as body H K' := by
  intro w hw c cs
  obtain ⟨v, w', hl, hr, hs⟩ := h w hw c cs
  exact ⟨v, w', hl, hk _ _ hr, hs⟩

/-! ### frames -/
def fat (b : Frame) (a : Act) (k : List Item) : Frame := { b with tmps := a.tmps, todo := k, defers := a.defers, mode := .run }
theorem fat_eval (b : Frame) (a : Act) (k : List Item) : (fat b a k).eval = a.eval := by funext x; cases x <;> rfl

section steps
variable {P : Program} {b : Frame} {a : Act} {k : List Item} {cs : List Frame} {w : World}
theorem st_skip : step P (lone (fat b a (.code .skip :: k)) cs w) = .next (lone (fat b a k) cs w) := step_lone_go (by simp [stepG, stepG.exec, fat])
theorem st_label {l : Nat} : step P (lone (fat b a (.code (.label l) :: k)) cs w) = .next (lone (fat b a k) cs w) := step_lone_go (by simp [stepG, stepG.exec, fat])
theorem st_inBlock {id : Nat} : step P (lone (fat b a (.inBlock id :: k)) cs w) = .next (lone (fat b a k) cs w) := step_lone_go (by simp [stepG, stepG.exec, fat])
theorem st_inScope {c : Code} : step P (lone (fat b a (.inScope c :: k)) cs w) = .next (lone (fat b a k) cs w) := step_lone_go (by simp [stepG, stepG.exec, fat])
theorem st_seq {x y : Code} : step P (lone (fat b a (.code (.seq x y) :: k)) cs w) = .next (lone (fat b a (.code x :: .code y :: k)) cs w) := step_lone_go (by simp [stepG, stepG.exec, fat])
theorem st_cond {c : Operand} {x y : Code} {t : Bool} (h : a.eval c = .bool t) :
    step P (lone (fat b a (.code (.cond c x y) :: k)) cs w) = .next (lone (fat b a (.code (if t then x else y) :: k)) cs w) :=
  step_lone_go (by
    have := congrFun (fat_eval b a (.code (.cond c x y) :: k)) c
    simp only [fat] at this
    simp [stepG, stepG.exec, fat, this, h])
theorem st_block {id : Nat} {c : Code} : step P (lone (fat b a (.code (.block id c) :: k)) cs w) = .next (lone (fat b a (.code c :: .inBlock id :: k)) cs w) := step_lone_go (by simp [stepG, stepG.exec, fat])
theorem st_loop {c : Code} : step P (lone (fat b a (.code (.loop c) :: k)) cs w) = .next (lone (fat b a (.code c :: .inLoop c :: k)) cs w) := step_lone_go (by simp [stepG, stepG.exec, fat])
theorem st_inLoop {c : Code} : step P (lone (fat b a (.inLoop c :: k)) cs w) = .next (lone (fat b a (.code c :: .inLoop c :: k)) cs w) := step_lone_go (by simp [stepG, stepG.exec, fat])
theorem st_scope {c : Code} : step P (lone (fat b a (.code (.scope c) :: k)) cs w) = .next (lone (fat b a (.code c :: .inScope c :: k)) cs w) := step_lone_go (by simp [stepG, stepG.exec, fat])
theorem st_exit {id : Nat} {k' : List Item} (h : exitTo id k = some k') : step P (lone (fat b a (.code (.exit id) :: k)) cs w) = .next (lone (fat b a k') cs w) :=
  step_lone_go (by simp [stepG, stepG.exec, fat, h])
theorem st_region {id : Nat} {ops : Array Oper} : step P (lone (fat b a (.code (.region id ops false) :: k)) cs w) = .next (lone (fat b a (.inRegion ops (List.range ops.size) :: k)) cs w) :=
  step_lone_go (by simp [stepG, stepG.exec, fat])
theorem st_region_draw {id : Nat} {ops : Array Oper} : step P (lone (fat b a (.code (.region id ops true) :: k)) cs w) =
      .next (lone (fat b a (.inRegion ops (Region.schedule (P.follows .mixedOrders) ops (w.tape w.drawn (.order b.fn id))) :: k)) cs { w with drawn := w.drawn + 1 }) :=
  step_lone_go (by simp [stepG, stepG.exec, fat, choose, Sem.run, Question.forced, Question.cut])
theorem st_region_end {ops : Array Oper} : step P (lone (fat b a (.inRegion ops [] :: k)) cs w) = .next (lone (fat b a k) cs w) := step_lone_go (by simp [stepG, stepG.exec, fat])
theorem st_op_skip {ops : Array Oper} {i : Nat} {rest : List Nat} (h : ((ops[i]?).map (Region.wanted · (yielded ops a.tmps))).getD false = false) :
    step P (lone (fat b a (.inRegion ops (i :: rest) :: k)) cs w) = .next (lone (fat b (a.put ((ops[i]?).bind (·.dst)) undef) (.inRegion ops rest :: k)) cs w) :=
  step_lone_go (by
    have h' := h
    simp only [fat] at *
    cases hd : (ops[i]?).bind (·.dst) <;> simp [stepG, stepG.exec, h', Frame.finish, hd, Act.put])
end steps

/-- May this operation stand in this frame? (a defer statement in a round is another thing) -/
def rdOk (rd : Option Nat) (o : Oper) : Bool := match rd, o.op with
  | some _, .defer _ => false
  | _, _ => true

section op
variable {P : Program} {b : Frame} {a : Act} {k : List Item} {cs : List Frame} {w : World} {ops : Array Oper}
theorem stG_op {i : Nat} {rest : List Nat} {o : Oper} (ho : ops[i]? = some o) (hw : Region.wanted o (yielded ops a.tmps) = true) (hd : rdOk b.roundOf o = true) :
    stepG P true { frame := fat b a (.inRegion ops (i :: rest) :: k), callers := cs, status := .running, dying := none } w =
      stepG.apply P true (fat b a (.inRegion ops (i :: rest) :: k)) cs none (execOp a.eval o) w := by
  have he := fat_eval b a (.inRegion ops (i :: rest) :: k)
  simp only [fat] at he
  cases hr : b.roundOf with
  | none =>
    rw [hr] at he
    simp [stepG, stepG.exec, stepG.oper, Frame.oper?, fat, ho, hw, he, hr]
  | some l =>
    rw [hr] at he
    cases hop : o.op <;> first
      | (simp [rdOk, hr, hop] at hd; done)
      | simp [stepG, stepG.exec, stepG.oper, Frame.oper?, fat, ho, hw, he, hr, hop]

theorem fat_finish (v : Value) {i : Nat} {rest : List Nat} {o : Oper} (ho : ops[i]? = some o) :
    (fat b a (.inRegion ops (i :: rest) :: k)).finish v = fat b (a.put o.dst v) (.inRegion ops rest :: k) := by
  cases hd : o.dst <;> simp [Frame.finish, fat, Act.put, ho, hd]
end op

/-- What one operation does. -/
def DoesA (P : Program) (rd : Option Nat) (o : Oper) (a : Act) (H : Hp) (K : Act → Hp → Prop) (Z : List PanicEntry → Hp → Prop) : Prop :=
  ∀ w : World, w.heap = H → match (execOp a.eval o).run P w with
    | .ok (.value v) w' => Lk w w' ∧ K (a.put o.dst v) w'.heap
    | .ok .skip w' => Lk w w' ∧ K (a.put o.dst undef) w'.heap
    | .ok (.defer d) w' => Lk w w' ∧ K ({ a with defers := d :: a.defers }.put o.dst undef) w'.heap
    | .ok (.enter f args) w' => Lk w w' ∧ CallF P f args w'.heap (fun v H' => K (a.put o.dst v) H') Z
    | .ok (.round l f tmps as body) w' => Lk w w' ∧ Rnd P l f tmps as body w'.heap (fun v H' => K (a.put o.dst v) H')
    | .halt (.panic v) w' => Lk w w' ∧ Z [{ v, recovered := false }] w'.heap
    | _ => False

theorem DoesA.mono {P : Program} {rd : Option Nat} {o : Oper} {a : Act} {H : Hp} {K K' : Act → Hp → Prop} {Z Z' : List PanicEntry → Hp → Prop}
    (h : DoesA P rd o a H K Z) (hk : ∀ a' H', K a' H' → K' a' H') (hz : ∀ c H', Z c H' → Z' c H') : DoesA P rd o a H K' Z' := by
  intro w hw
  have h1 := h w hw
  generalize (execOp a.eval o).run P w = r at *
  cases r with
  | ok n w' =>
    cases n <;> simp only at h1 ⊢ <;> first
      | exact ⟨h1.1, hk _ _ h1.2⟩
      | exact ⟨h1.1, h1.2.mono (fun _ _ x => hk _ _ x) hz⟩
      | exact ⟨h1.1, h1.2.mono (fun _ _ x => hk _ _ x)⟩
  | halt x w' => cases x <;> simp only at h1 ⊢ <;> exact ⟨h1.1, hz _ _ h1.2⟩

/-- One operation of a region, by its number. -/
def stepS (P : Program) (rd : Option Nat) (ops : Array Oper) (i : Nat) (a : Act) (H : Hp) (K : Act → Hp → Prop) (Z : List PanicEntry → Hp → Prop) : Prop :=
  match ops[i]? with
  | none => K a H
  | some o => if Region.wanted o (yielded ops a.tmps) then rdOk rd o = true ∧ DoesA P rd o a H K Z else K (a.put o.dst undef) H

theorem stepS.mono {P : Program} {rd : Option Nat} {ops : Array Oper} {i : Nat} {a : Act} {H : Hp} {K K' : Act → Hp → Prop} {Z Z' : List PanicEntry → Hp → Prop}
    (h : stepS P rd ops i a H K Z) (hk : ∀ a' H', K a' H' → K' a' H') (hz : ∀ c H', Z c H' → Z' c H') : stepS P rd ops i a H K' Z' := by
  unfold stepS at *
  split at h
  · exact hk _ _ h
  · split at h
    · rename_i hw; rw [if_pos hw]; exact ⟨h.1, h.2.mono hk hz⟩
    · rename_i hw; rw [if_neg hw]; exact hk _ _ h

/-- Where the machine stands behind a piece of code. -/
def Arr (P : Program) (m : Machine) (b : Frame) (k : List Item) (cs : List Frame) : Exit → Act → World → Prop
  | .normal, a, w => Steps P m (lone (fat b a k) cs w)
  | .exit id, a, w => ∃ k0, exitTo id k0 = exitTo id k ∧ Steps P m (lone (fat b a (.code (.exit id) :: k0)) cs w)
  | .goto _, _, _ => False
  | .ret, a, w => ∃ k0, Steps P m (lone (fat b a (.code .ret :: k0)) cs w)
  | .panic ch, a, w => ∃ k0, Steps P m (lone { fat b a k0 with mode := .panicking ch } cs w)
  | .outgrown, _, _ => False

theorem Arr.of_steps {P : Program} {m m₁ : Machine} {b : Frame} {k : List Item} {cs : List Frame} {e : Exit} {a : Act} {w : World}
    (h : Steps P m m₁) (h' : Arr P m₁ b k cs e a w) : Arr P m b k cs e a w := by
  cases e with
  | normal => exact h.trans h'
  | exit id => obtain ⟨k0, h0, hs⟩ := h'; exact ⟨k0, h0, h.trans hs⟩
  | ret => obtain ⟨k0, hs⟩ := h'; exact ⟨k0, h.trans hs⟩
  | panic ch => obtain ⟨k0, hs⟩ := h'; exact ⟨k0, h.trans hs⟩
  | goto l => exact h'.elim
  | outgrown => exact h'.elim

/-- A region's operations, in this order. -/
def WpR (P : Program) (rd : Option Nat) (ops : Array Oper) (l : List Nat) (K : Act → Hp → Prop) (Z : Act → List PanicEntry → Hp → Prop) (a : Act) (H : Hp) : Prop :=
  ∀ (b : Frame) (k : List Item) (cs : List Frame) (w : World), b.roundOf = rd → w.heap = H →
    (∃ a' w', Lk w w' ∧ K a' w'.heap ∧ Steps P (lone (fat b a (.inRegion ops l :: k)) cs w) (lone (fat b a' k) cs w')) ∨
    (∃ a' ch w', Lk w w' ∧ Z a' ch w'.heap ∧ ∃ k0, Steps P (lone (fat b a (.inRegion ops l :: k)) cs w) (lone { fat b a' k0 with mode := .panicking ch } cs w'))

theorem WpR.nil {P : Program} {rd : Option Nat} {ops : Array Oper} {K : Act → Hp → Prop} {Z : Act → List PanicEntry → Hp → Prop} {a : Act} {H : Hp} (h : K a H) :
    WpR P rd ops [] K Z a H := by
  intro b k cs w hb hw
  subst hw
  exact .inl ⟨a, w, Lk.refl w, h, .one st_region_end⟩

theorem WpR.cons {P : Program} {rd : Option Nat} {ops : Array Oper} {i : Nat} {rest : List Nat} {K : Act → Hp → Prop} {Z : Act → List PanicEntry → Hp → Prop} {a : Act} {H : Hp}
    (h : stepS P rd ops i a H (fun a' H' => WpR P rd ops rest K Z a' H') (Z a)) : WpR P rd ops (i :: rest) K Z a H := by
  intro b k cs w hb hw
  have go : ∀ (a1 : Act) (w1 : World), Lk w w1 → WpR P rd ops rest K Z a1 w1.heap →
      Steps P (lone (fat b a (.inRegion ops (i :: rest) :: k)) cs w) (lone (fat b a1 (.inRegion ops rest :: k)) cs w1) →
      (∃ a' w', Lk w w' ∧ K a' w'.heap ∧ Steps P (lone (fat b a (.inRegion ops (i :: rest) :: k)) cs w) (lone (fat b a' k) cs w')) ∨
      (∃ a' ch w', Lk w w' ∧ Z a' ch w'.heap ∧ ∃ k0, Steps P (lone (fat b a (.inRegion ops (i :: rest) :: k)) cs w) (lone { fat b a' k0 with mode := .panicking ch } cs w')) := by
    intro a1 w1 hl h1 hs
    rcases h1 b k cs w1 hb rfl with ⟨a', w', hl', hk, hs'⟩ | ⟨a', ch, w', hl', hz, k0, hs'⟩
    · exact .inl ⟨a', w', hl.trans hl', hk, hs.trans hs'⟩
    · exact .inr ⟨a', ch, w', hl.trans hl', hz, k0, hs.trans hs'⟩
  subst hw
  unfold stepS at h
  cases ho : ops[i]? with
  | none =>
    simp only [ho] at h
    have hs := st_op_skip (P := P) (b := b) (a := a) (k := k) (cs := cs) (w := w) (ops := ops) (i := i) (rest := rest) (by simp [ho])
    simp only [ho, Option.bind_none, Act.put] at hs
    exact go a w (Lk.refl w) h (.one hs)
  | some o =>
    simp only [ho] at h
    by_cases hwt : Region.wanted o (yielded ops a.tmps) = true
    · rw [if_pos hwt] at h
      obtain ⟨hd, h⟩ := h
      have h1 := h w rfl
      have hg := stG_op (P := P) (b := b) (k := k) (cs := cs) (w := w) (rest := rest) ho hwt (by rw [hb]; exact hd)
      have hfin : ∀ v, (fat b a (.inRegion ops (i :: rest) :: k)).finish v = fat b (a.put o.dst v) (.inRegion ops rest :: k) := fun v => fat_finish v ho
      cases hr : (execOp a.eval o).run P w with
      | ok n w1 =>
        rw [hr] at h1
        cases n <;> simp only at h1
        case value v =>
          refine go _ w1 h1.1 h1.2 (.one (step_lone_go ?_))
          rw [hg, ← hfin]; simp [stepG.apply, hr]
        case skip =>
          refine go _ w1 h1.1 h1.2 (.one (step_lone_go ?_))
          rw [hg, ← hfin]; simp [stepG.apply, hr]
        case defer d =>
          refine go _ w1 h1.1 h1.2 (.one (step_lone_go ?_))
          have hf2 : ({ fat b a (.inRegion ops (i :: rest) :: k) with defers := d :: a.defers } : Frame).finish undef =
              fat b ({ a with defers := d :: a.defers }.put o.dst undef) (.inRegion ops rest :: k) := by
            have := fat_finish (b := b) (a := { a with defers := d :: a.defers }) (k := k) (rest := rest) undef ho
            exact this
          rw [hg]; simp only [stepG.apply, Sem.runT_eq, hr, GStep.bare_after]
          exact congrArg (fun fr => GStep.go { frame := fr, callers := cs, status := .running, dying := none } w1) hf2
        case enter f args =>
          obtain ⟨hl, hc⟩ := h1
          obtain ⟨e, w2, fr, ⟨hl2, hR⟩, hsteps, _, hleave⟩ := hc w1 rfl (fat b a (.inRegion ops (i :: rest) :: k) :: cs)
          have henter : step P (lone (fat b a (.inRegion ops (i :: rest) :: k)) cs w) =
              .next (lone (Frame.enter P f args .normal) (fat b a (.inRegion ops (i :: rest) :: k) :: cs) w1) :=
            step_lone_go (by rw [hg]; simp [stepG.apply, hr, fat])
          cases e with
          | returned v =>
            refine go _ w2 (hl.trans hl2) hR (.head henter (Steps.trans hsteps (.one ?_)))
            rw [← hfin]; exact step_leave_returned hleave
          | panicked ch =>
            refine .inr ⟨a, ch, w2, hl.trans hl2, hR, .inRegion ops (i :: rest) :: k, .head henter (Steps.trans hsteps (.one ?_))⟩
            exact step_leave_panicked hleave
          | outgrown => exact hR.elim
        case round l f tmps as body =>
          obtain ⟨hl, hc⟩ := h1
          obtain ⟨v, w2, hl2, hR, hsteps⟩ := hc w1 rfl (fat b a (.inRegion ops (i :: rest) :: k)) cs
          have henter : step P (lone (fat b a (.inRegion ops (i :: rest) :: k)) cs w) =
              .next (lone (Frame.round l f tmps as body .normal) (fat b a (.inRegion ops (i :: rest) :: k) :: cs) w1) :=
            step_lone_go (by rw [hg]; simp [stepG.apply, hr, fat])
          refine go _ w2 (hl.trans hl2) hR (.head henter ?_)
          rw [← hfin]; exact hsteps
      | halt x w1 =>
        rw [hr] at h1
        cases x <;> simp only at h1
        case panic v =>
          refine .inr ⟨a, _, w1, h1.1, h1.2, .inRegion ops (i :: rest) :: k, .one (step_lone_go ?_)⟩
          rw [hg]; simp [stepG.apply, hr, Frame.raise, fat]
    · rw [if_neg hwt] at h
      have hs := st_op_skip (P := P) (b := b) (a := a) (k := k) (cs := cs) (w := w) (ops := ops) (i := i) (rest := rest) (by simp [ho]; simpa using hwt)
      simp only [ho, Option.bind_some] at hs
      exact go _ w (Lk.refl w) h (.one hs)

theorem WpR.draw {P : Program} {rd : Option Nat} {ops : Array Oper} {l : List Nat} {K : Act → Hp → Prop} {Z : Act → List PanicEntry → Hp → Prop} {a : Act} {H : Hp}
    (h : WpR P rd ops l K Z a H) : WpR P rd ops l K Z a H := h

/-- A piece of code. -/
def Wp (P : Program) (rd : Option Nat) (fn : FuncId) (c : Code) (Q : Exit → Act → Hp → Prop) (a : Act) (H : Hp) : Prop :=
  ∀ (b : Frame) (k : List Item) (cs : List Frame) (w : World), b.fn = fn → b.roundOf = rd → w.heap = H →
    ∃ e a' w', Lk w w' ∧ Q e a' w'.heap ∧ Arr P (lone (fat b a (.code c :: k)) cs w) b k cs e a' w'

section rules
variable {P : Program} {rd : Option Nat} {fn : FuncId} {Q : Exit → Act → Hp → Prop} {a : Act} {H : Hp}
theorem Wp.mono {c : Code} {Q' : Exit → Act → Hp → Prop} (h : Wp P rd fn c Q a H) (hq : ∀ e a H, Q e a H → Q' e a H) : Wp P rd fn c Q' a H :=
  fun b k cs w h1 h2 h3 => let ⟨e, a', w', l, q, r⟩ := h b k cs w h1 h2 h3; ⟨e, a', w', l, hq _ _ _ q, r⟩
theorem Wp.skip (h : Q .normal a H) : Wp P rd fn .skip Q a H := fun b k cs w h1 h2 h3 => ⟨.normal, a, w, Lk.refl w, by rw [h3]; exact h, .one st_skip⟩
theorem Wp.label {l : Nat} (h : Q .normal a H) : Wp P rd fn (.label l) Q a H := fun b k cs w h1 h2 h3 => ⟨.normal, a, w, Lk.refl w, by rw [h3]; exact h, .one st_label⟩
theorem Wp.exit {id : Nat} (h : Q (.exit id) a H) : Wp P rd fn (.exit id) Q a H := fun b k cs w h1 h2 h3 => ⟨.exit id, a, w, Lk.refl w, by rw [h3]; exact h, k, rfl, .refl _ _⟩
theorem Wp.ret (h : Q .ret a H) : Wp P rd fn .ret Q a H := fun b k cs w h1 h2 h3 => ⟨.ret, a, w, Lk.refl w, by rw [h3]; exact h, k, .refl _ _⟩
theorem Wp.seq {x y : Code} (h : Wp P rd fn x (fun e a' H' => match e with | .normal => Wp P rd fn y Q a' H' | e => Q e a' H') a H) : Wp P rd fn (.seq x y) Q a H := by
  intro b k cs w h1 h2 h3
  obtain ⟨e, a₁, w₁, hl, hq, harr⟩ := h b (.code y :: k) cs w h1 h2 h3
  cases e with
  | normal =>
    obtain ⟨e₂, a₂, w₂, hl₂, hq₂, harr₂⟩ := hq b k cs w₁ h1 h2 rfl
    exact ⟨e₂, a₂, w₂, hl.trans hl₂, hq₂, .of_steps (.head st_seq harr) harr₂⟩
  | exit id => obtain ⟨k0, h0, hs⟩ := harr; exact ⟨.exit id, a₁, w₁, hl, hq, k0, by rw [h0]; simp [exitTo], .head st_seq hs⟩
  | ret => obtain ⟨k0, hs⟩ := harr; exact ⟨.ret, a₁, w₁, hl, hq, k0, .head st_seq hs⟩
  | panic ch => obtain ⟨k0, hs⟩ := harr; exact ⟨.panic ch, a₁, w₁, hl, hq, k0, .head st_seq hs⟩
  | goto l => exact harr.elim
  | outgrown => exact harr.elim
theorem Wp.cond {c : Operand} {x y : Code} {t : Bool} (hc : a.eval c = .bool t) (h : Wp P rd fn (if t then x else y) Q a H) : Wp P rd fn (.cond c x y) Q a H :=
  fun b k cs w h1 h2 h3 => let ⟨e, a', w', l, q, r⟩ := h b k cs w h1 h2 h3; ⟨e, a', w', l, q, .of_steps (.one (st_cond hc)) r⟩
theorem Wp.block {id : Nat} {c : Code} (h : Wp P rd fn c (fun e a' H' => match e with | .exit id' => if id' = id then Q .normal a' H' else Q (.exit id') a' H' | e => Q e a' H') a H) :
    Wp P rd fn (.block id c) Q a H := by
  intro b k cs w h1 h2 h3
  obtain ⟨e, a₁, w₁, hl, hq, harr⟩ := h b (.inBlock id :: k) cs w h1 h2 h3
  cases e with
  | normal => exact ⟨.normal, a₁, w₁, hl, hq, .head st_block (Steps.trans harr (.one st_inBlock))⟩
  | exit id' =>
    obtain ⟨k0, h0, hs⟩ := harr
    by_cases hid : id' = id
    · simp only [hid, if_true] at hq
      refine ⟨.normal, a₁, w₁, hl, hq, .head st_block (Steps.trans hs (.one (st_exit ?_)))⟩
      rw [h0]; simp [exitTo, hid]
    · simp only [hid, if_false] at hq
      refine ⟨.exit id', a₁, w₁, hl, hq, k0, ?_, .head st_block hs⟩
      have : (id == id') = false := by simp; exact fun h => hid h.symm
      rw [h0]; simp [exitTo, this]
  | ret => obtain ⟨k0, hs⟩ := harr; exact ⟨.ret, a₁, w₁, hl, hq, k0, .head st_block hs⟩
  | panic ch => obtain ⟨k0, hs⟩ := harr; exact ⟨.panic ch, a₁, w₁, hl, hq, k0, .head st_block hs⟩
  | goto l => exact harr.elim
  | outgrown => exact harr.elim
theorem Wp.scope {c : Code} (h : Wp P rd fn c Q a H) : Wp P rd fn (.scope c) Q a H := by
  intro b k cs w h1 h2 h3
  obtain ⟨e, a₁, w₁, hl, hq, harr⟩ := h b (.inScope c :: k) cs w h1 h2 h3
  cases e with
  | normal => exact ⟨.normal, a₁, w₁, hl, hq, .head st_scope (Steps.trans harr (.one st_inScope))⟩
  | exit id => obtain ⟨k0, h0, hs⟩ := harr; exact ⟨.exit id, a₁, w₁, hl, hq, k0, by rw [h0]; simp [exitTo], .head st_scope hs⟩
  | ret => obtain ⟨k0, hs⟩ := harr; exact ⟨.ret, a₁, w₁, hl, hq, k0, .head st_scope hs⟩
  | panic ch => obtain ⟨k0, hs⟩ := harr; exact ⟨.panic ch, a₁, w₁, hl, hq, k0, .head st_scope hs⟩
  | goto l => exact harr.elim
  | outgrown => exact harr.elim
theorem Wp.loop {c : Code} (I : Act → Hp → Nat → Prop) (m : Nat) (h₀ : I a H m)
    (round : ∀ a H m, I a H m → Wp P rd fn c (fun e a' H' => match e with | .normal => ∃ m', m' < m ∧ I a' H' m' | e => Q e a' H') a H) : Wp P rd fn (.loop c) Q a H := by
  intro b k cs w h1 h2 h3
  have key : ∀ n a w, I a w.heap n →
      ∃ e a' w', Lk w w' ∧ Q e a' w'.heap ∧ Arr P (lone (fat b a (.code c :: .inLoop c :: k)) cs w) b k cs e a' w' := by
    intro n
    induction n using Nat.strongRecOn with
    | _ n ih =>
      intro a w hI
      obtain ⟨e, a₁, w₁, hl, hq, harr⟩ := round a w.heap n hI b (.inLoop c :: k) cs w h1 h2 rfl
      cases e with
      | normal =>
        obtain ⟨n', hlt, hI₁⟩ := hq
        obtain ⟨e₂, a₂, w₂, hl₂, hq₂, harr₂⟩ := ih n' hlt a₁ w₁ hI₁
        exact ⟨e₂, a₂, w₂, hl.trans hl₂, hq₂, .of_steps (Steps.trans harr (.one st_inLoop)) harr₂⟩
      | exit id => obtain ⟨k0, h0, hs⟩ := harr; exact ⟨.exit id, a₁, w₁, hl, hq, k0, by rw [h0]; simp [exitTo], hs⟩
      | ret => obtain ⟨k0, hs⟩ := harr; exact ⟨.ret, a₁, w₁, hl, hq, k0, hs⟩
      | panic ch => obtain ⟨k0, hs⟩ := harr; exact ⟨.panic ch, a₁, w₁, hl, hq, k0, hs⟩
      | goto l => exact harr.elim
      | outgrown => exact harr.elim
  obtain ⟨e, a', w', hl, hq, harr⟩ := key m a w (by rw [h3]; exact h₀)
  exact ⟨e, a', w', hl, hq, .of_steps (.one st_loop) harr⟩

def ofR (Q : Exit → Act → Hp → Prop) : Act → List PanicEntry → Hp → Prop := fun a ch H => Q (.panic ch) a H
theorem Wp.region {id : Nat} {ops : Array Oper} (h : WpR P rd ops (List.range ops.size) (fun a H => Q .normal a H) (ofR Q) a H) : Wp P rd fn (.region id ops false) Q a H := by
  intro b k cs w h1 h2 h3
  rcases h b k cs w h2 h3 with ⟨a', w', hl, hk, hs⟩ | ⟨a', ch, w', hl, hz, k0, hs⟩
  · exact ⟨.normal, a', w', hl, hk, .head st_region hs⟩
  · exact ⟨.panic ch, a', w', hl, hz, k0, .head st_region hs⟩
theorem Wp.region_draw {id : Nat} {ops : Array Oper} (h : ∀ t, WpR P rd ops (Region.schedule (P.follows .mixedOrders) ops t) (fun a H => Q .normal a H) (ofR Q) a H) :
    Wp P rd fn (.region id ops true) Q a H := by
  intro b k cs w h1 h2 h3
  have hl0 : Lk w { w with drawn := w.drawn + 1 } := ⟨rfl, rfl, rfl⟩
  rcases h _ b k cs { w with drawn := w.drawn + 1 } h2 h3 with ⟨a', w', hl, hk, hs⟩ | ⟨a', ch, w', hl, hz, k0, hs⟩
  · exact ⟨.normal, a', w', hl0.trans hl, hk, .head st_region_draw hs⟩
  · exact ⟨.panic ch, a', w', hl0.trans hl, hz, k0, .head st_region_draw hs⟩
end rules
end Go.V

