/- A function's code as a condition: loops by invariants over the temporaries that live, ways that meet by what holds there. -/
import Derived.Test.YtigbdoicgdmliaaDoorV4Q
set_option linter.unusedVariables false
set_option linter.unusedSimpArgs false
namespace Go.V

/-! ### typed temporaries -/
def Sc.T : Sc → Type
  | .int _ => Int | .bool => Bool | .str => ByteArray | .ptr => Option Addr | .sl => Sl | .map => Option Nat | .raw => Value
def Tup : List Sc → Type
  | [] => Unit
  | s :: ss => s.T × Tup ss
def Ty1.T : Ty1 → Type
  | .sc s => s.T
  | .agg ss => Tup ss
def Sc.val : (s : Sc) → s.T → Value
  | .int k, n => .int k n
  | .bool, b => .bool b
  | .str, s => .string s
  | .ptr, p => .pointer p
  | .sl, s => .slice (Sl.a s) (Sl.n s) (Sl.c s)
  | .map, m => .map m
  | .raw, v => v
def tupV : (ss : List Sc) → Tup ss → List Value
  | [], _ => []
  | s :: ss, y => s.val y.1 :: tupV ss y.2
def Ty1.val : (t : Ty1) → t.T → Value
  | .sc s, y => s.val y
  | .agg ss, y => .agg (tupV ss y).toArray

def unS : (s : Sc) → Value → (s.T → Prop) → Prop
  | .int k, v, F => (match v with | .int k' n => if k' = k then F n else False | _ => False)
  | .bool, v, F => (match v with | .bool b => F b | _ => False)
  | .str, v, F => (match v with | .string b => F b | _ => False)
  | .ptr, v, F => (match v with | .pointer b => F b | _ => False)
  | .sl, v, F => (match v with | .slice a n c => F (⟨a, n, c⟩ : Sl) | _ => False)
  | .map, v, F => (match v with | .map b => F b | _ => False)
  | .raw, v, F => F v
theorem unS_sound {s : Sc} {v : Value} {F : s.T → Prop} (h : unS s v F) : ∃ y, s.val y = v ∧ F y := by
  cases s with
  | int k =>
    cases v <;> first | exact h.elim | skip
    rename_i k' n
    simp only [unS] at h
    split at h
    · rename_i hk; subst hk; exact ⟨n, rfl, h⟩
    · exact h.elim
  | raw => exact ⟨v, rfl, h⟩
  | _ => cases v <;> first | exact h.elim | exact ⟨_, rfl, h⟩
def unL : (ss : List Sc) → List Value → (Tup ss → Prop) → Prop
  | [], [], F => F ()
  | s :: ss, v :: vs, F => unS s v fun y => unL ss vs fun ys => F (y, ys)
  | _, _, _ => False
theorem unL_sound : ∀ {ss : List Sc} {vs : List Value} {F : Tup ss → Prop}, unL ss vs F → ∃ y, tupV ss y = vs ∧ F y
  | [], [], F, h => ⟨(), rfl, h⟩
  | s :: ss, v :: vs, F, h => by
    obtain ⟨y, hy, h⟩ := unS_sound h
    obtain ⟨ys, hys, h⟩ := unL_sound h
    exact ⟨(y, ys), by simp [tupV, hy, hys], h⟩
  | [], _ :: _, F, h => h.elim
  | _ :: _, [], F, h => h.elim
def un1 : (t : Ty1) → Value → (t.T → Prop) → Prop
  | .sc s, v, F => unS s v F
  | .agg ss, v, F => (match v with | .agg cs => unL ss cs.toList F | _ => False)
theorem un1_sound {t : Ty1} {v : Value} {F : t.T → Prop} (h : un1 t v F) : ∃ y, t.val y = v ∧ F y := by
  cases t with
  | sc s => exact unS_sound h
  | agg ss =>
    cases v <;> first | exact h.elim | skip
    rename_i cs
    obtain ⟨y, hy, h⟩ := unL_sound h
    exact ⟨y, by simp only [Ty1.val, hy], h⟩

def Cur : List Ty1 → Type → Type
  | [], β => β
  | t :: ts, β => t.T → Cur ts β
def faC {β : Type} : (ts : List Ty1) → Cur ts β → (List Value → β → Prop) → Prop
  | [], I, F => F [] I
  | t :: ts, I, F => ∀ y : t.T, faC ts (I y) fun vs b => F (t.val y :: vs) b
def apC {β : Type} : (ts : List Ty1) → Cur ts β → List Value → (β → Prop) → Prop
  | [], I, _, k => k I
  | t :: ts, I, v :: vs, k => un1 t v fun y => apC ts (I y) vs k
  | _ :: _, _, [], _ => False
theorem apC_fa {β : Type} : ∀ {ts : List Ty1} {I : Cur ts β} {vs : List Value} {k : β → Prop} {F : List Value → β → Prop}, vs.length = ts.length → apC ts I vs k → faC ts I F → ∃ b, k b ∧ F vs b
  | [], I, [], k, F, _, h, hf => ⟨I, h, hf⟩
  | t :: ts, I, v :: vs, k, F, hl, h, hf => by
    obtain ⟨y, hy, h⟩ := un1_sound h
    have hf := hf y
    rw [hy] at hf
    exact apC_fa (ts := ts) (vs := vs) (Nat.succ.inj hl) h hf
  | [], I, _ :: _, k, F, hl, _, _ => by simp at hl
  | _ :: _, I, [], k, F, hl, _, _ => by simp at hl

def slotsK (E : List (Bool × Value)) : List Nat → (List Value → Prop) → Prop
  | [], k => k []
  | s :: ss, k => getK E s fun v => slotsK E ss fun vs => k (v.2 :: vs)
def valAt (E : Env) (i : Nat) : Value := (E.t.getD i (false, undef)).2
theorem slotsK_eq {E : Env} : ∀ {ss : List Nat} {k : List Value → Prop}, slotsK E.t ss k → k (ss.map (valAt E))
  | [], k, h => h
  | s :: ss, k, h => by
    simp only [slotsK, getK_eq] at h
    exact slotsK_eq (k := fun vs => k (valAt E s :: vs)) h

def findV : List Nat → List Value → Nat → Option Value
  | s :: ss, v :: vs, i => if s == i then some v else findV ss vs i
  | _, _, _ => none
theorem findV_map {f : Nat → Value} : ∀ {ss : List Nat} {i : Nat} {v : Value}, findV ss (ss.map f) i = some v → v = f i
  | [], i, v, h => by simp [findV] at h
  | s :: ss, i, v, h => by
    simp only [List.map_cons, findV] at h
    by_cases hs : (s == i) = true
    · rw [if_pos hs] at h
      have : s = i := by simpa using hs
      subst this
      exact (Option.some.inj h).symm
    · rw [if_neg hs] at h
      exact findV_map h
def upd (ms sl : List Nat) (vs : List Value) (scr : Nat → Value) : Nat → List (Bool × Value) → List (Bool × Value)
  | _, [] => []
  | i, x :: xs => (match findV sl vs i with | some v => (false, v) | none => if ms.contains i then (false, scr i) else x) :: upd ms sl vs scr (i + 1) xs

/-- Temporaries beside those of ms are as they were. -/
def AgrA (ms : List Nat) (a a' : Act) : Prop := a'.tmps.size = a.tmps.size ∧ ∀ i, ms.contains i = false → a'.tmps[i]? = a.tmps[i]?
theorem AgrA.refl (ms : List Nat) (a : Act) : AgrA ms a a := ⟨rfl, fun _ _ => rfl⟩
theorem AgrA.trans {m1 m2 : List Nat} {a b c : Act} (h : AgrA m1 a b) (k : AgrA m2 b c) : AgrA (m1 ++ m2) a c := by
  refine ⟨k.1.trans h.1, fun i hi => ?_⟩
  simp only [List.contains_append, Bool.or_eq_false_iff] at hi
  exact (k.2 i hi.2).trans (h.2 i hi.1)
theorem AgrA.trans1 {m : List Nat} {a b c : Act} (h : AgrA m a b) (k : AgrA m b c) : AgrA m a c :=
  ⟨k.1.trans h.1, fun i hi => (k.2 i hi).trans (h.2 i hi)⟩
theorem AgrA.left {m1 m2 : List Nat} {a b : Act} (h : AgrA m1 a b) : AgrA (m1 ++ m2) a b :=
  ⟨h.1, fun i hi => h.2 i (by simp only [List.contains_append, Bool.or_eq_false_iff] at hi; exact hi.1)⟩
theorem AgrA.right {m1 m2 : List Nat} {a b : Act} (h : AgrA m2 a b) : AgrA (m1 ++ m2) a b :=
  ⟨h.1, fun i hi => h.2 i (by simp only [List.contains_append, Bool.or_eq_false_iff] at hi; exact hi.2)⟩

theorem upd_act {ms sl : List Nat} {E E' : Env} (h : AgrA ms E.act E'.act) (hd : E'.d = E.d) :
    (⟨upd ms sl (sl.map (valAt E')) (valAt E') 0 E.t, E.d⟩ : Env).act = E'.act := by
  have hlen : E'.t.length = E.t.length := by have := h.1; simpa [Env.act] using this
  have key : ∀ (l : List (Bool × Value)) (j : Nat), (∀ i, i < l.length → ms.contains (j + i) = false → (l[i]?).map (·.2) = some (valAt E' (j + i))) →
      (upd ms sl (sl.map (valAt E')) (valAt E') j l).map (·.2) = (List.range l.length).map (fun i => valAt E' (j + i)) := by
    intro l
    induction l with
    | nil => intro j _; rfl
    | cons x xs ih =>
      intro j hx
      simp only [upd, List.map_cons, List.length_cons, List.range_succ_eq_map, List.map_map]
      congr 1
      · cases hf : findV sl (sl.map (valAt E')) j with
        | some v => simp only [hf]; exact findV_map hf
        | none =>
          simp only [hf]
          by_cases hm : ms.contains j = true
          · rw [if_pos hm]; rfl
          · rw [if_neg hm]
            have := hx 0 (by simp) (by simpa using hm)
            simpa using this
      · rw [ih (j + 1) (fun i hi hm => ?_)]
        · apply List.map_congr_left
          intro i _
          simp only [Function.comp]
          congr 1
          omega
        · have := hx (i + 1) (by simpa using hi) (by rw [← hm]; congr 1; omega)
          simp only [List.getElem?_cons_succ] at this
          rw [this]
          congr 2
          omega
  simp only [Env.act]
  rw [key E.t 0 ?_]
  · congr 1
    · congr 1
      apply List.ext_getElem?
      intro i
      simp only [List.getElem?_map, Nat.zero_add]
      by_cases hi : i < E.t.length
      · rw [List.getElem?_range hi]
        have hi' : i < E'.t.length := by omega
        simp [valAt, hi']
      · rw [List.getElem?_eq_none (by simpa using hi), List.getElem?_eq_none (by omega)]
        rfl
    · exact hd.symm
  · intro i hi hm
    have h2 := h.2 i (by simpa using hm)
    have hi' : i < E'.t.length := by omega
    simp only [Env.act] at h2
    simp at h2
    rw [List.getElem?_eq_getElem hi, List.getElem?_eq_getElem hi'] at h2
    rw [List.getElem?_eq_getElem hi]
    simp only [Option.map_some, Option.some.injEq] at h2 ⊢
    simp [valAt, hi', h2]

def mods : Code → List Nat
  | .region _ ops _ => ops.toList.filterMap (·.dst)
  | .seq a b => mods a ++ mods b
  | .cond _ a b => mods a ++ mods b
  | .block _ c => mods c
  | .loop c => mods c
  | .scope c => mods c
  | _ => []
/-- the number of a code's first region: by it loops and meetings are named -/
def key : Code → Nat
  | .region id _ _ => id
  | .seq a b => if key a = 1000000 then key b else key a
  | .cond _ a b => if key a = 1000000 then key b else key a
  | .block _ c => key c
  | .loop c => key c
  | .scope c => key c
  | .rangeFunc _ _ a b => if key a = 1000000 then key b else key a
  | _ => 1000000
def dsame (d d' : List Deferred) (k : Prop) : Prop := match d, d' with
  | [], [] => k
  | d, d' => d' = d ∧ k
theorem dsame_sound {d d' : List Deferred} {k : Prop} (h : dsame d d' k) : d' = d ∧ k := by
  unfold dsame at h
  split at h
  · exact ⟨rfl, h⟩
  · exact h

/-- what a loop over a function leaves with -/
def endLoopK (l : Nat) (H : Hp) (K : Option Code → Hp → Prop) : Prop :=
  ∃ r, H[l]? = some (.loop r) ∧ (r.state == .busy) = false ∧ ∀ H', H' = H.setIfInBounds l (.loop { r with state := .exhausted }) → K r.pending H'
def exitsOf : Code → List Nat
  | .exit id => [id]
  | .seq a b => exitsOf a ++ exitsOf b
  | .cond _ a b => exitsOf a ++ exitsOf b
  | .block id c => (exitsOf c).filter fun x => !(x == id)
  | .loop c => exitsOf c
  | .scope c => exitsOf c
  | .rangeFunc _ _ a b => exitsOf a ++ exitsOf b
  | _ => []
def retIn : Code → Bool
  | .ret => true
  | .seq a b => retIn a || retIn b
  | .cond _ a b => retIn a || retIn b
  | .block _ c => retIn c
  | .loop c => retIn c
  | .scope c => retIn c
  | .rangeFunc _ _ a b => retIn a || retIn b
  | _ => false
def jmpL : List Nat → Nat → (Nat → Prop) → Prop
  | [], _, _ => False
  | x :: xs, id, k => if id = x then k x else jmpL xs id k
theorem jmpL_sound : ∀ {l : List Nat} {id : Nat} {k : Nat → Prop}, jmpL l id k → k id
  | [], _, _, h => h.elim
  | x :: xs, id, k, h => by
    unfold jmpL at h
    split at h
    · rename_i he; subst he; exact h
    · exact jmpL_sound h
/-- what the loop's end does: it goes on, returns, or leaves to a block -/
def jmpV (j : Option Code) (A B : Prop) (C : Nat → Prop) : Prop := match j with
  | none => A
  | some .ret => B
  | some (.exit id) => C id
  | _ => False
def jmpK (c : Code) (j : Option Code) (Q : Exit → Env → Hp → Prop) (E : Env) (H : Hp) : Prop :=
  jmpV j (Q .normal E H) (if retIn c then Q .ret E H else False) (fun id => jmpL (exitsOf c) id fun x => Q (.exit x) E H)

/-- a call of a closure -/
def callG (P : Program) (v : Value) (args : List Value) (H : Hp) (K : Value → Hp → Prop) (Z : List PanicEntry → Hp → Prop) : Prop := match v with
  | .func (.func g) first cap => if fnOk P g then CallF P g (first.toList ++ args ++ cap.toList).toArray H K Z else False
  | _ => False

abbrev Ann := Nat → Option (List (Nat × Ty1))

def comp (P : Program) (rd : Option Nat) (fn : FuncId) (aJ aL : Ann) (Z : List Deferred → List PanicEntry → Hp → Prop) : Code → (Exit → Env → Hp → Prop) → Env → Hp → Prop
  | .skip, Q, E, H => Q .normal E H
  | .label _, Q, E, H => Q .normal E H
  | .region id ops draw, Q, E, H => if draw && (aJ (2000000 + id)).isSome then regQ P rd ops Z (fun E' H' => Q .normal E' H') E H else regC P rd ops draw Z (fun E' H' => Q .normal E' H') E H
  | .seq x y, Q, E, H => (match aJ (key y) with
    | none => comp P rd fn aJ aL Z x (fun e E' H' => match e with | .normal => comp P rd fn aJ aL Z y Q E' H' | e => Q e E' H') E H
    | some js => ∃ J : Cur (js.map (·.2)) (Hp → Prop),
        (faC (js.map (·.2)) J fun vs j => ∀ H', j H' → ∀ scr : Nat → Value, comp P rd fn aJ aL Z y Q ⟨upd (mods x) (js.map (·.1)) vs scr 0 E.t, E.d⟩ H') ∧
        comp P rd fn aJ aL Z x (fun e E' H' => match e with | .normal => dsame E.d E'.d (slotsK E'.t (js.map (·.1)) fun vs => apC (js.map (·.2)) J vs fun j => j H') | e => Q e E' H') E H)
  | .cond c x y, Q, E, H => opK E c fun fv => brK fv (comp P rd fn aJ aL Z x Q E H) (comp P rd fn aJ aL Z y Q E H)
  | .block id c, Q, E, H => comp P rd fn aJ aL Z c (fun e E' H' => match e with | .exit id' => if id' = id then Q .normal E' H' else Q (.exit id') E' H' | e => Q e E' H') E H
  | .loop c, Q, E, H => (match aL (key c) with
    | none => False
    | some ls => ∃ I : Cur (ls.map (·.2)) (Hp → Nat → Prop),
        (∃ m, slotsK E.t (ls.map (·.1)) fun vs => apC (ls.map (·.2)) I vs fun j => j H m) ∧
        faC (ls.map (·.2)) I fun vs j => ∀ H' m, j H' m → ∀ scr : Nat → Value, comp P rd fn aJ aL Z c
          (fun e E' H'' => match e with | .normal => ∃ m', m' < m ∧ dsame E.d E'.d (slotsK E'.t (ls.map (·.1)) fun vs' => apC (ls.map (·.2)) I vs' fun j' => j' H'' m') | e => Q e E' H'')
          ⟨upd (mods c) (ls.map (·.1)) vs scr 0 E.t, E.d⟩ H')
  | .exit id, Q, E, H => Q (.exit id) E H
  | .ret, Q, E, H => Q .ret E H
  | .scope c, Q, E, H => comp P rd fn aJ aL Z c Q E H
  | .rangeFunc f params as body, Q, E, H => (match rd with
    | some _ => False
    | none => opK E f fun fv => ∀ D H1, Newb H (.deferred (some [])) D H1 → ∀ l H2, Newb H1 (.loop ⟨.ready, none, fn, E.act.tmps, params, as, body, D⟩) l H2 →
        callG P fv.2 [.func (.yield l) #[] #[]] H2 (fun _ H3 => endLoopK l H3 fun j H4 => jmpK body j Q ⟨E.t, { target := .collected D, args := #[] } :: E.d⟩ H4) (fun _ _ => False))
  | .goto _, _, _, _ => False
  | .refuse _, _, _, _ => False

/-! ### soundness -/
theorem callG_run {P : Program} {v : Value} {args : List Value} {H : Hp} {K : Value → Hp → Prop} {Z : List PanicEntry → Hp → Prop} (h : callG P v args H K Z) :
    ∃ g as, CallF P g as H K Z ∧ ∀ w : World, ((Deferred.ofValue v args.toArray).bind fun d => invoke d.target d.args).run P w = .ok (.enter g as) w := by
  unfold callG at h
  split at h
  · rename_i g first cap
    split at h
    · rename_i hg
      refine ⟨g, _, h, fun w => ?_⟩
      unfold fnOk at hg
      split at hg
      · rename_i fn hfn
        simp only [Bool.and_eq_true, Bool.not_eq_true'] at hg
        have hb : fn.body.isNone = false := by cases hb : fn.body <;> simp_all
        have h1 := hg.1
        have e : first ++ args.toArray ++ cap = (first.toList ++ args ++ cap.toList).toArray := by apply Array.ext'; simp
        simp only [Deferred.ofValue, pure, Sem.bind, invoke, e, callFunc, program, bind, Sem.run, hfn, h1, hb, Bool.false_eq_true, if_false]
      · simp at hg
    · exact h.elim
  · exact h.elim

theorem st_rangeFunc {P : Program} {b : Frame} {a : Act} {k : List Item} {cs : List Frame} {w w2 : World} {f : Operand} {params : Array Tmp} {as body : Code} {l : Nat} {mark : List Deferred} {w1 : World} {g : FuncId} {args : Array Value}
    (he : (Instr.enterLoop b.fn a.tmps params as body b.roundOf).run P w = .ok (l, mark) w1)
    (hc : ((Deferred.ofValue (a.eval f) #[.func (.yield l) #[] #[]]).bind fun d => invoke d.target d.args).run P w1 = .ok (.enter g args) w2) :
    step P (lone (fat b a (.code (.rangeFunc f params as body) :: k)) cs w) =
      .next (lone (Frame.enter P g args .normal) (fat b { a with defers := mark ++ a.defers } (.inRangeFunc l :: k) :: cs) w2) :=
  step_lone_go (by
    have h0 : ({ a with defers := mark ++ a.defers } : Act).eval = a.eval := by funext x; cases x <;> rfl
    have h1 := fat_eval b { a with defers := mark ++ a.defers } (.inRangeFunc l :: k)
    rw [h0] at h1
    simp only [fat] at h1
    have h2 : (do let d ← resolve ({ b with tmps := a.tmps, todo := .inRangeFunc l :: k, defers := mark ++ a.defers, mode := .run } : Frame).eval { callee := .value f, args := #[.const (.func (.yield l) #[] #[])], argTypes := #[] } 0; invoke d.target d.args : Sem Next) =
        ((Deferred.ofValue (a.eval f) #[.func (.yield l) #[] #[]]).bind fun d => invoke d.target d.args) := by
      simp only [resolve, bind, h1]
      simp only [List.map_toArray, List.map_cons, List.map_nil, Act.eval]
    simp only [stepG, stepG.exec, fat]
    rw [Sem.runT_eq, he]
    simp only [GStep.bare_after, stepG.apply]
    rw [h2]
    simp only [Sem.runT_eq, hc, GStep.bare_after, if_true]
    rfl)

theorem st_endRangeFunc {P : Program} {b : Frame} {a : Act} {k : List Item} {cs : List Frame} {w w1 : World} {l : Nat} {jump : Option Code} (he : (Instr.endLoop l).run P w = .ok jump w1) :
    step P (lone (fat b a (.endRangeFunc l :: k)) cs w) = .next (lone (fat b a ((jump.map Item.code).toList ++ k)) cs w1) :=
  step_lone_go (by
    simp only [stepG, stepG.exec, fat]
    rw [Sem.runT_eq, he]
    simp only [GStep.bare_after]
    rfl)

section
variable {P : Program} {rd : Option Nat} {fn : FuncId} {aJ aL : Ann} {Z : List Deferred → List PanicEntry → Hp → Prop}

theorem agr_put {ms : List Nat} {a : Act} {o : Oper} {v : Value} (h : ∀ d, o.dst = some d → ms.contains d = true) : AgrA ms a (a.put o.dst v) := by
  cases hd : o.dst with
  | none => exact AgrA.refl ms a
  | some d =>
    refine ⟨by simp [Act.put], fun i hi => ?_⟩
    have : d ≠ i := fun e => by rw [← e, h d hd] at hi; simp at hi
    simp [Act.put, Array.getElem?_setIfInBounds_ne this]

theorem does_agr {ms : List Nat} {o : Oper} {a : Act} {H : Hp} {K : Act → Hp → Prop} {Y : List PanicEntry → Hp → Prop} (hm : ∀ d, o.dst = some d → ms.contains d = true) (h : DoesA P rd o a H K Y) :
    DoesA P rd o a H (fun a' H' => AgrA ms a a' ∧ K a' H') Y := by
  intro w hw
  have h1 := h w hw
  generalize (execOp a.eval o).run P w = r at *
  cases r with
  | ok nx w' =>
    cases nx <;> simp only at h1 ⊢
    case value v => exact ⟨h1.1, agr_put hm, h1.2⟩
    case skip => exact ⟨h1.1, agr_put hm, h1.2⟩
    case defer d =>
      refine ⟨h1.1, ?_, h1.2⟩
      have := agr_put (ms := ms) (a := { a with defers := d :: a.defers }) (v := undef) hm
      exact this
    case enter f args => exact ⟨h1.1, h1.2.mono (fun v H' h => ⟨agr_put hm, h⟩) (fun _ _ h => h)⟩
    case round l f tmps as body => exact ⟨h1.1, h1.2.mono (fun v H' h => ⟨agr_put hm, h⟩)⟩
  | halt x w' => cases x <;> exact h1

theorem xStep_agr {ms : List Nat} {rB : Oper → Bool} {ops : Array Oper} (hm : ∀ (i : Nat) (o : Oper), ops[i]? = some o → ∀ d, o.dst = some d → ms.contains d = true) {i : Nat} {a : Act} {H : Hp}
    {K : Act → Hp → Prop} {Y : List PanicEntry → Hp → Prop} (h : xStep P rd rB ops i a H K Y) : xStep P rd rB ops i a H (fun a' H' => AgrA ms a a' ∧ K a' H') Y := by
  unfold xStep at *
  cases ho : ops[i]? with
  | none => simp only [ho] at h ⊢; exact ⟨AgrA.refl _ _, h⟩
  | some o =>
    simp only [ho] at h ⊢
    split at h
    · rename_i hr; rw [if_pos hr]; obtain ⟨v, hy, hK⟩ := h; exact ⟨v, hy, agr_put (hm i o ho), hK⟩
    · rename_i hr
      rw [if_neg hr]
      split at h
      · rename_i hw; rw [if_pos hw]; exact ⟨h.1, does_agr (hm i o ho) h.2⟩
      · rename_i hw; rw [if_neg hw]; exact ⟨agr_put (hm i o ho), h⟩

theorem anyX_agr {ms : List Nat} {rB : Oper → Bool} {ops : Array Oper} (hm : ∀ (i : Nat) (o : Oper), ops[i]? = some o → ∀ d, o.dst = some d → ms.contains d = true) {K : Act → Hp → Prop} {Y : Act → List PanicEntry → Hp → Prop} {a0 : Act} :
    ∀ (n : Nat) (l : Array Bool) (a : Act) (H : Hp), AgrA ms a0 a → anyX P rd rB ops K Y n l a H → anyX P rd rB ops (fun a' H' => AgrA ms a0 a' ∧ K a' H') Y n l a H := by
  intro n
  induction n with
  | zero => intro l a H hg h; exact ⟨h.1, hg, h.2⟩
  | succ n ih =>
    intro l a H hg h
    exact ⟨fun h0 => ⟨hg, h.1 h0⟩, fun i hi => (xStep_agr hm (h.2 i hi)).mono (fun a' H' hk => ih _ _ _ (hg.trans1 hk.1) hk.2) (fun _ _ h => h)⟩

theorem seqC_agr {ms : List Nat} {ops : Array Oper} (hm : ∀ (i : Nat) (o : Oper), ops[i]? = some o → ∀ d, o.dst = some d → ms.contains d = true) {K : Env → Hp → Prop} {a0 : Act} : ∀ (l : List Nat) {E : Env} {H : Hp},
    AgrA ms a0 E.act → seqC P rd ops Z K l E H → WpR P rd ops l (fun a' H' => AgrA ms a0 a' ∧ onE K a' H') (onZ Z) E.act H
  | [], E, H, hg, h => WpR.nil ⟨hg, E, rfl, h⟩
  | i :: rest, E, H, hg, h => WpR.cons (((xStep_agr hm (stepC_sound h)).stepS isR_defer).mono (fun a' H' ⟨hg', E', he, hK⟩ => by
      subst he; exact seqC_agr hm rest (hg.trans1 hg') hK) (fun _ _ h => h))

theorem mods_region {id : Nat} {ops : Array Oper} {draw : Bool} : ∀ (i : Nat) (o : Oper), ops[i]? = some o → ∀ d, o.dst = some d → (mods (.region id ops draw)).contains d = true := by
  intro i o ho d hd
  simp only [mods, List.contains_iff_mem, List.mem_filterMap]
  exact ⟨o, by simpa using Array.mem_of_getElem? ho, hd⟩

/-- what the code's condition says of the machine -/
def Good (ms : List Nat) (a : Act) (Q : Exit → Env → Hp → Prop) (Z : List Deferred → List PanicEntry → Hp → Prop) : Exit → Act → Hp → Prop
  | .panic ch, a', H' => Z a'.defers ch H'
  | e, a', H' => AgrA ms a a' ∧ ∃ E' : Env, E'.act = a' ∧ Q e E' H'

theorem good_region {id : Nat} {ops : Array Oper} {draw : Bool} {Q : Exit → Env → Hp → Prop} {E : Env} {H : Hp} (h : regC P rd ops draw Z (fun E' H' => Q .normal E' H') E H) :
    Wp P rd fn (.region id ops draw) (Good (mods (.region id ops draw)) E.act Q Z) E.act H := by
  unfold regC at h
  cases draw with
  | false =>
    simp only [Bool.false_eq_true, if_false] at h
    exact Wp.region (seqC_agr mods_region _ (AgrA.refl _ _) h)
  | true =>
    simp only [if_true] at h
    split at h
    · rename_i hc
      simp only [Bool.and_eq_true] at hc
      refine Wp.region_draw fun t => ?_
      simp only [Region.schedule, hc.2, Bool.true_or, if_true]
      have hT : TabOk ops (befL ops.toList 0 []) := befL_ok ops.toList 0 [] rfl (fun k => by simp) (fun k hk => by omega)
      have hcl : ClosedL ops (List.replicate ops.size false).toArray := by
        intro j oj hj hl
        exfalso
        have : (List.replicate ops.size false).toArray.getD j false = false := by
          simp [Array.getD_eq_getD_getElem?, List.getElem?_replicate]
          rw [Array.getElem?_replicate]; split <;> rfl
        rw [this] at hl; cases hl
      have h1 := anyC_sound hT hc.1 ops.size _ _ _ hcl h
      have h2 := anyX_agr (ms := mods (.region id ops true)) mods_region ops.size _ _ _ (AgrA.refl _ _) h1
      have e : (List.replicate ops.size false).toArray = Array.replicate ops.size false := by simp
      rw [e] at h2
      exact anyX_sound isR_defer ops.size t _ _ _ h2
    · exact h.elim

theorem good_regionQ {id : Nat} {ops : Array Oper} {Q : Exit → Env → Hp → Prop} {E : Env} {H : Hp} (h : regQ P rd ops Z (fun E' H' => Q .normal E' H') E H) :
    Wp P rd fn (.region id ops true) (Good (mods (.region id ops true)) E.act Q Z) E.act H := by
  unfold regQ at h
  split at h
  · rename_i hc
    simp only [Bool.and_eq_true] at hc
    refine Wp.region_draw fun t => ?_
    simp only [Region.schedule, hc.2, Bool.true_or, if_true]
    have hT : TabOk ops (befL ops.toList 0 []) := befL_ok ops.toList 0 [] rfl (fun k => by simp) (fun k hk => by omega)
    have hcl : ClosedL ops (List.replicate ops.size false).toArray := by
      intro j oj hj hl
      exfalso
      have : (List.replicate ops.size false).toArray.getD j false = false := by
        simp [Array.getD_eq_getD_getElem?, List.getElem?_replicate]
        rw [Array.getElem?_replicate]; split <;> rfl
      rw [this] at hl; cases hl
    have h0 := anyQ_sound hT hc.1 ops.size _ [] _ _ hcl (fun p hp => by cases hp) h
    have h1 := anyZ_X _ _ _ _ _ h0
    have h2 := anyX_agr (ms := mods (.region id ops true)) mods_region ops.size _ _ _ (AgrA.refl _ _) h1
    have e : (List.replicate ops.size false).toArray = Array.replicate ops.size false := by simp
    rw [e] at h2
    exact anyX_sound isR_defer ops.size t _ _ _ h2
  · exact h.elim

theorem comp_sound : ∀ (c : Code) {Q : Exit → Env → Hp → Prop} {E : Env} {H : Hp}, comp P rd fn aJ aL Z c Q E H → Wp P rd fn c (Good (mods c) E.act Q Z) E.act H := by
  intro c
  induction c with
  | skip => intro Q E H h; exact Wp.skip ⟨AgrA.refl _ _, E, rfl, h⟩
  | label l => intro Q E H h; exact Wp.label ⟨AgrA.refl _ _, E, rfl, h⟩
  | region id ops draw =>
    intro Q E H h
    unfold comp at h
    split at h
    · rename_i hd
      simp only [Bool.and_eq_true] at hd
      obtain ⟨rfl, _⟩ := hd
      exact good_regionQ h
    · exact good_region h
  | exit id => intro Q E H h; exact Wp.exit ⟨AgrA.refl _ _, E, rfl, h⟩
  | ret => intro Q E H h; exact Wp.ret ⟨AgrA.refl _ _, E, rfl, h⟩
  | goto l => intro Q E H h; exact h.elim
  | refuse w => intro Q E H h; exact h.elim
  | scope c ih => intro Q E H h; exact Wp.scope (ih h)
  | cond c x y ihx ihy =>
    intro Q E H h
    obtain ⟨f, h⟩ := opK_sound h
    obtain ⟨b, hb, h1, h2⟩ := brK_sound h
    refine Wp.cond hb ?_
    cases b with
    | true =>
      refine (ihx (h1 rfl)).mono ?_
      intro e a' H' hg
      cases e <;> first | exact hg | exact ⟨hg.1.left, hg.2⟩
    | false =>
      refine (ihy (h2 rfl)).mono ?_
      intro e a' H' hg
      cases e <;> first | exact hg | exact ⟨hg.1.right, hg.2⟩
  | block id c ih =>
    intro Q E H h
    refine Wp.block ((ih h).mono ?_)
    intro e a' H' hg
    cases e with
    | exit id' =>
      obtain ⟨hg1, E', he, hQ⟩ := hg
      simp only at hQ ⊢
      by_cases hid : id' = id
      · rw [if_pos hid] at hQ ⊢; exact ⟨hg1, E', he, hQ⟩
      · rw [if_neg hid] at hQ ⊢; exact ⟨hg1, E', he, hQ⟩
    | _ => exact hg
  | seq x y ihx ihy =>
    intro Q E H h
    unfold comp at h
    cases hj : aJ (key y) with
    | none =>
      rw [hj] at h
      refine Wp.seq ((ihx h).mono ?_)
      intro e a' H' hg
      cases e with
      | normal =>
        obtain ⟨hg1, E', rfl, hQ⟩ := hg
        refine (ihy hQ).mono ?_
        intro e2 a2 H2 hg2
        cases e2 <;> first | exact hg2 | exact ⟨hg1.trans hg2.1, hg2.2⟩
      | panic ch => exact hg
      | _ => exact ⟨hg.1.left, hg.2⟩
    | some js =>
      rw [hj] at h
      obtain ⟨J, hfa, hx⟩ := h
      refine Wp.seq ((ihx hx).mono ?_)
      intro e a' H' hg
      cases e with
      | normal =>
        obtain ⟨hg1, E', rfl, hQ⟩ := hg
        obtain ⟨hd, hQ⟩ := dsame_sound hQ
        have hQ := slotsK_eq hQ
        obtain ⟨b, hb, hF⟩ := apC_fa (by simp) hQ hfa
        have hy := hF H' hb (valAt E')
        have hact := upd_act (sl := js.map (·.1)) hg1 hd
        have h5 := ihy hy
        rw [hact] at h5
        refine h5.mono ?_
        intro e2 a2 H2 hg2
        cases e2 <;> first | exact hg2 | exact ⟨hg1.trans hg2.1, hg2.2⟩
      | panic ch => exact hg
      | _ => exact ⟨hg.1.left, hg.2⟩
  | loop c ih =>
    intro Q E H h
    unfold comp at h
    cases hl : aL (key c) with
    | none => rw [hl] at h; exact h.elim
    | some ls =>
      rw [hl] at h
      obtain ⟨I, ⟨m, h0⟩, hfa⟩ := h
      refine Wp.loop (fun a' H' m' => AgrA (mods c) E.act a' ∧ ∃ E' : Env, E'.act = a' ∧ E'.d = E.d ∧ apC (ls.map (·.2)) I ((ls.map (·.1)).map (valAt E')) fun j => j H' m') m ?_ ?_
      · exact ⟨AgrA.refl _ _, E, rfl, rfl, slotsK_eq h0⟩
      · rintro a1 H1 m1 ⟨hg1, E1, rfl, hd1, hap⟩
        obtain ⟨b, hb, hF⟩ := apC_fa (by simp) hap hfa
        have hc := hF H1 m1 hb (valAt E1)
        have hact := upd_act (sl := ls.map (·.1)) hg1 hd1
        have h5 := ih hc
        rw [hact] at h5
        refine h5.mono ?_
        intro e a' H' hg
        cases e with
        | normal =>
          obtain ⟨hg2, E2, rfl, m', hm', hQ⟩ := hg
          obtain ⟨hd2, hQ⟩ := dsame_sound hQ
          exact ⟨m', hm', hg1.trans1 hg2, E2, rfl, hd2, slotsK_eq hQ⟩
        | panic ch => exact hg
        | _ => exact ⟨hg1.trans1 hg.1, hg.2⟩
  | rangeFunc f params as body ih1 ih2 =>
    intro Q E H h
    unfold comp at h
    cases hrd : rd with
    | some l => rw [hrd] at h; exact h.elim
    | none =>
      rw [hrd] at h
      obtain ⟨fl, h⟩ := opK_sound h
      simp only at h
      intro b k cs w h1 h2 h3
      subst h3
      have h4 := h w.heap.size (w.heap.push (.deferred (some []))) ⟨rfl, rfl⟩ _ _ ⟨rfl, rfl⟩
      obtain ⟨g, as', hcall, hrun⟩ := callG_run h4
      let w1 : World := { w with heap := (w.heap.push (.deferred (some []))).push (.loop ⟨.ready, none, fn, E.act.tmps, params, as, body, w.heap.size⟩) }
      have hent : (Instr.enterLoop b.fn E.act.tmps params as body b.roundOf).run P w = .ok ((w.heap.push (.deferred (some []))).size, [{ target := .collected w.heap.size, args := #[] }]) w1 := by
        rw [h2, h1]
        rfl
      have hst := st_rangeFunc (k := k) (cs := cs) hent (hrun w1)
      obtain ⟨e, w2, fr, ⟨hl2, hR⟩, hsteps, _, hleave⟩ := hcall w1 rfl (fat b { E.act with defers := [{ target := .collected w.heap.size, args := #[] }] ++ E.act.defers } (.inRangeFunc (w.heap.push (.deferred (some []))).size :: k) :: cs)
      cases e with
      | panicked ch => exact hR.elim
      | outgrown => exact hR.elim
      | returned v =>
        obtain ⟨r, hr, hbusy, hK⟩ := hR
        let w3 : World := { w2 with heap := w2.heap.setIfInBounds (w.heap.push (.deferred (some []))).size (.loop { r with state := .exhausted }) }
        have hK := hK w3.heap rfl
        have hend : (Instr.endLoop (w.heap.push (.deferred (some []))).size).run P w2 = .ok r.pending w3 := by
          simp only [Instr.endLoop, Instr.getLoop, getObj, setObj, bind, Sem.bind, pure, Sem.run, hr]
          rw [hbusy]
          simp only [Bool.false_eq_true, if_false, Sem.bind, Sem.run, hr]
          rfl
        let a2 : Act := { E.act with defers := { target := .collected w.heap.size, args := #[] } :: E.act.defers }
        have hsteps2 : Steps P (lone (fat b E.act (.code (.rangeFunc f params as body) :: k)) cs w) (lone (fat b a2 ((r.pending.map Item.code).toList ++ k)) cs w3) := by
          refine .head hst (Steps.trans hsteps (.head (step_leave_returned hleave) ?_))
          exact .one (st_endRangeFunc (b := b) (a := a2) (k := k) (cs := cs) hend)
        have hl3 : Lk w w3 := Lk.trans (b := w1) ⟨rfl, rfl, rfl⟩ (hl2.trans ⟨rfl, rfl, rfl⟩)
        have hag : AgrA (mods (.rangeFunc f params as body)) E.act a2 := ⟨rfl, fun _ _ => rfl⟩
        simp only [] at hK
        generalize hj : r.pending = jp at hK
        unfold jmpK jmpV at hK
        split at hK
        · rw [hj] at hsteps2
          exact ⟨.normal, a2, w3, hl3, ⟨hag, _, rfl, hK⟩, hsteps2⟩
        · rw [hj] at hsteps2
          split at hK
          · exact ⟨.ret, a2, w3, hl3, ⟨hag, _, rfl, hK⟩, k, hsteps2⟩
          · exact hK.elim
        · rename_i id
          rw [hj] at hsteps2
          exact ⟨.exit id, a2, w3, hl3, ⟨hag, _, rfl, jmpL_sound hK⟩, k, rfl, hsteps2⟩
        · exact hK.elim
end
end Go.V

