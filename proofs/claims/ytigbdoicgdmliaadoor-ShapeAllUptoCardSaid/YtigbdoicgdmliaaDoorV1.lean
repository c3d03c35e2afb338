/- A region whose order is open: what only reads may be taken first. -/
import Derived.Test.YtigbdoicgdmliaaDoorV0
set_option linter.unusedVariables false
set_option linter.unusedSimpArgs false
namespace Go.V

/-- An operation that only looks at its operands, or at the heap: it yields v. -/
def YR (P : Program) (ops : Array Oper) (o : Oper) (v : Value) (a : Act) (H : Hp) : Prop :=
  (Region.wanted o (yielded ops a.tmps) = true ∧ ∀ w : World, w.heap = H → (execOp a.eval o).run P w = .ok (.value v) w) ∨
  (Region.wanted o (yielded ops a.tmps) = false ∧ v = undef)
def YP (P : Program) (ops : Array Oper) (o : Oper) (v : Value) (a : Act) : Prop := ∀ H, YR P ops o v a H

theorem YR.of_same {P : Program} {ops : Array Oper} {o : Oper} {v : Value} {a a' : Act} {H : Hp} (hy : YR P ops o v a H) (he : execOp a'.eval o = execOp a.eval o)
    (hw : Region.wanted o (yielded ops a'.tmps) = Region.wanted o (yielded ops a.tmps)) : YR P ops o v a' H := by
  unfold YR at *
  rw [he, hw]
  exact hy

def isDefer (o : Oper) : Bool := match o.op with | .defer _ => true | _ => false

/-- One operation; of those that rB names it is shown that they only look. -/
def xStep (P : Program) (rd : Option Nat) (rB : Oper → Bool) (ops : Array Oper) (i : Nat) (a : Act) (H : Hp) (K : Act → Hp → Prop) (Z : List PanicEntry → Hp → Prop) : Prop :=
  match ops[i]? with
  | none => K a H
  | some o => if rB o then ∃ v, YR P ops o v a H ∧ K (a.put o.dst v) H
    else if Region.wanted o (yielded ops a.tmps) then rdOk rd o = true ∧ DoesA P rd o a H K Z else K (a.put o.dst undef) H

section
variable {P : Program} {rd : Option Nat} {rB : Oper → Bool} {ops : Array Oper}

theorem xStep.mono {i : Nat} {a : Act} {H : Hp} {K K' : Act → Hp → Prop} {Z Z' : List PanicEntry → Hp → Prop}
    (h : xStep P rd rB ops i a H K Z) (hk : ∀ a' H', K a' H' → K' a' H') (hz : ∀ c H', Z c H' → Z' c H') : xStep P rd rB ops i a H K' Z' := by
  unfold xStep at *
  split at h
  · exact hk _ _ h
  · split at h
    · rename_i hr; rw [if_pos hr]; obtain ⟨v, hy, hK⟩ := h; exact ⟨v, hy, hk _ _ hK⟩
    · rename_i hr
      rw [if_neg hr]
      split at h
      · rename_i hw; rw [if_pos hw]; exact ⟨h.1, h.2.mono hk hz⟩
      · rename_i hw; rw [if_neg hw]; exact hk _ _ h

theorem xStep.stepS {i : Nat} {a : Act} {H : Hp} {K : Act → Hp → Prop} {Z : List PanicEntry → Hp → Prop} (hrB : ∀ o, rB o = true → isDefer o = false)
    (h : xStep P rd rB ops i a H K Z) : stepS P rd ops i a H K Z := by
  unfold xStep at h
  unfold Go.V.stepS
  cases ho : ops[i]? with
  | none => simp only [ho] at h; exact h
  | some o =>
    simp only [ho] at h ⊢
    by_cases hr : rB o = true
    · rw [if_pos hr] at h
      obtain ⟨v, hy, hK⟩ := h
      rcases hy with ⟨hw, hv⟩ | ⟨hw, rfl⟩
      · rw [if_pos hw]
        have hd := hrB o hr
        refine ⟨by unfold rdOk; split <;> simp_all [isDefer], ?_⟩
        intro w hwH
        rw [hv w hwH]
        exact ⟨Lk.refl w, by rw [hwH]; exact hK⟩
      · rw [if_neg (by simp [hw])]
        exact hK
    · rw [if_neg hr] at h
      exact h

def anyX (P : Program) (rd : Option Nat) (rB : Oper → Bool) (ops : Array Oper) (K : Act → Hp → Prop) (Z : Act → List PanicEntry → Hp → Prop) : Nat → Array Bool → Act → Hp → Prop
  | 0, listed, a, H => Region.ready .any ops listed = [] ∧ K a H
  | fuel + 1, listed, a, H =>
    (Region.ready .any ops listed = [] → K a H) ∧
    ∀ i ∈ Region.ready .any ops listed, xStep P rd rB ops i a H (anyX P rd rB ops K Z fuel (listed.setIfInBounds i true)) (Z a)

theorem anyX_sound {K : Act → Hp → Prop} {Z : Act → List PanicEntry → Hp → Prop} (hrB : ∀ o, rB o = true → isDefer o = false) :
    ∀ (fuel t : Nat) (listed : Array Bool) (a : Act) (H : Hp), anyX P rd rB ops K Z fuel listed a H →
    WpR P rd ops (Region.linearise.go .any ops fuel t listed []) K Z a H := by
  intro fuel
  induction fuel with
  | zero => intro t listed a H h; simp only [Region.linearise.go, List.reverse_nil]; exact WpR.nil h.2
  | succ fuel ih =>
    intro t listed a H h
    obtain ⟨h₀, h₁⟩ := h
    simp only [Region.linearise.go]
    change WpR P rd ops (match (Region.ready .any ops listed)[t % (Region.ready .any ops listed).length]? with
      | some i => Region.linearise.go .any ops fuel (t / (Region.ready .any ops listed).length) (listed.setIfInBounds i true) [i]
      | none => [].reverse) K Z a H
    cases hi : (Region.ready .any ops listed)[t % (Region.ready .any ops listed).length]? with
    | none =>
      have hnil : Region.ready .any ops listed = [] := by
        cases hr : Region.ready .any ops listed with
        | nil => rfl
        | cons x xs =>
          rw [hr] at hi
          have hlt : t % (x :: xs).length < (x :: xs).length := Nat.mod_lt _ (by simp)
          simp at hi
          simp at hlt
          omega
      exact WpR.nil (h₀ hnil)
    | some i =>
      simp only []
      rw [linearise_go_acc, List.reverse_singleton, List.singleton_append]
      exact WpR.cons (((h₁ i (List.mem_of_getElem? hi)).stepS hrB).mono (fun a H => ih _ _ a H) (fun _ _ h => h))

theorem xStep_put {i j : Nat} {oi oj : Oper} {v : Value} {pB : Bool} (hj : ops[j]? = some oj) (hap : oi.apart ops oj = true) (hpr : rB oj = true ∨ pB = true)
    (hsi : ∀ cs b, oi.op ≠ .select cs b) (hsj : ∀ cs b, oj.op ≠ .select cs b)
    {K : Act → Hp → Prop} {Z : Act → List PanicEntry → Hp → Prop} (hZ : ∀ (a : Act) d u c H, Z (a.put d u) c H → Z a c H) {a : Act} {H : Hp}
    (hy : YR P ops oi v a H) (hp : pB = true → YP P ops oi v a) (h : xStep P rd rB ops j (a.put oi.dst v) H K (Z (a.put oi.dst v))) :
    xStep P rd rB ops j a H (fun a' H' => (YR P ops oi v a' H' ∧ (pB = true → YP P ops oi v a')) ∧ K (a'.put oi.dst v) H') (Z a) := by
  obtain ⟨h1, h2, h3⟩ := Oper.apart_spec hap
  have keep : ∀ (a : Act) (H : Hp), YR P ops oi v a H → ∀ u, YR P ops oi v (a.put oj.dst u) H := fun a H hy u =>
    hy.of_same (execOp_put oi hsi a oj.dst u h3) (wanted_put oi a oj.dst u h3)
  have keepP : ∀ (a : Act), YP P ops oi v a → ∀ u, YP P ops oi v (a.put oj.dst u) := fun a hy u H => keep a H (hy H) u
  have keepD : ∀ (a : Act) d H, YR P ops oi v a H → YR P ops oi v { a with defers := d :: a.defers } H := fun a d H hy => hy.of_same rfl rfl
  unfold xStep at *
  simp only [hj] at *
  rw [wanted_put oj a oi.dst v h1] at h
  split
  · rename_i hr
    rw [if_pos hr] at h
    obtain ⟨u, hu, hK⟩ := h
    refine ⟨u, ?_, ⟨keep a H hy u, fun hb => keepP a (hp hb) u⟩, by rw [← Act.put_comm a v u h2]; exact hK⟩
    exact hu.of_same (execOp_put oj hsj a oi.dst v h1).symm (wanted_put oj a oi.dst v h1).symm
  · rename_i hr
    rw [if_neg hr] at h
    have hpB : pB = true := hpr.resolve_left hr
    have hP := hp hpB
    split
    · rename_i hw
      rw [if_pos hw] at h
      refine ⟨h.1, ?_⟩
      intro w hwH
      have h4 := h.2 w hwH
      rw [execOp_put oj hsj a oi.dst v h1] at h4
      generalize (execOp a.eval oj).run P w = r at *
      cases r with
      | ok n w' =>
        cases n <;> simp only at h4 ⊢
        case value u => exact ⟨h4.1, ⟨keepP a hP u _, fun _ => keepP a hP u⟩, by rw [← Act.put_comm a v u h2]; exact h4.2⟩
        case skip => exact ⟨h4.1, ⟨keepP a hP _ _, fun _ => keepP a hP _⟩, by rw [← Act.put_comm a v undef h2]; exact h4.2⟩
        case defer d =>
          refine ⟨h4.1, ⟨keep _ _ (keepD a d _ (hP _)) _, fun _ H => keep _ _ (keepD a d _ (hP _)) _⟩, ?_⟩
          rw [← Act.put_comm _ v undef h2, ← Act.put_defers]
          exact h4.2
        case enter f args =>
          exact ⟨h4.1, h4.2.mono (fun u H' he => ⟨⟨keepP a hP u _, fun _ => keepP a hP u⟩, by rw [← Act.put_comm a v u h2]; exact he⟩) (fun _ _ hz => hZ _ _ _ _ _ hz)⟩
        case round l f tmps as body =>
          exact ⟨h4.1, h4.2.mono (fun u H' he => ⟨⟨keepP a hP u _, fun _ => keepP a hP u⟩, by rw [← Act.put_comm a v u h2]; exact he⟩)⟩
      | halt x w' =>
        cases x <;> simp only at h4 ⊢
        case panic u => exact ⟨h4.1, hZ _ _ _ _ _ h4.2⟩
    · rename_i hw
      rw [if_neg hw] at h
      exact ⟨⟨keep a H hy _, fun hb => keepP a (hp hb) _⟩, by rw [← Act.put_comm a v undef h2]; exact h⟩

/-- What is listed has what it waits for listed. -/
def ClosedL (ops : Array Oper) (l : Array Bool) : Prop :=
  ∀ (j : Nat) (oj : Oper), ops[j]? = some oj → l.getD j false = true → ∀ e ∈ oj.after, Region.binds .any e = true → l.getD e.on false = true
theorem ClosedL.set {l : Array Bool} {i : Nat} (h : ClosedL ops l) (hi : i ∈ Region.ready .any ops l) : ClosedL ops (l.setIfInBounds i true) := by
  obtain ⟨_, o, ho, hall⟩ := mem_ready.1 hi
  intro j oj hj hl e he hb
  by_cases hij : i = j
  · subst hij
    rw [ho] at hj
    cases hj
    exact getD_set_true (hall e he hb)
  · rw [getD_set_ne false hij] at hl
    exact getD_set_true (h j oj hj hl e he hb)

/-- Whom operation j waits for, all the way, as bits: told by a table T that agrees with the operations. -/
def befOf (T : List Nat) (j : Nat) (o : Oper) : Nat :=
  o.after.toList.foldl (fun a e => if Region.binds .any e then (a ||| 2 ^ e.on) ||| (if e.on < j then T.getD e.on 0 else 0) else a) 0
def befL : List Oper → Nat → List Nat → List Nat
  | [], _, T => T
  | o :: os, j, T => befL os (j + 1) (T ++ [befOf T j o])

theorem befOf_bit {T : List Nat} {j i : Nat} {o : Oper} (h : (befOf T j o).testBit i = true) :
    ∃ e ∈ o.after, Region.binds .any e = true ∧ (e.on = i ∨ (e.on < j ∧ (T.getD e.on 0).testBit i = true)) := by
  unfold befOf at h
  have key : ∀ (l : List Edge) (a : Nat), (l.foldl (fun a e => if Region.binds .any e then (a ||| 2 ^ e.on) ||| (if e.on < j then T.getD e.on 0 else 0) else a) a).testBit i = true →
      a.testBit i = true ∨ ∃ e ∈ l, Region.binds .any e = true ∧ (e.on = i ∨ (e.on < j ∧ (T.getD e.on 0).testBit i = true)) := by
    intro l
    induction l with
    | nil => intro a h; exact .inl h
    | cons e l ih =>
      intro a h
      rcases ih _ h with h | ⟨e', he', h⟩
      · dsimp only at h
        revert h
        intro h
        by_cases hb : Region.binds .any e = true
        · rw [if_pos hb] at h
          simp only [Nat.testBit_or, Bool.or_eq_true] at h
          rcases h with (h | h) | h
          · exact .inl h
          · rw [Nat.testBit_two_pow] at h
            exact .inr ⟨e, List.mem_cons_self, hb, .inl (by simpa using h)⟩
          · by_cases hl : e.on < j
            · rw [if_pos hl] at h
              exact .inr ⟨e, List.mem_cons_self, hb, .inr ⟨hl, h⟩⟩
            · rw [if_neg hl] at h; simp at h
        · rw [if_neg hb] at h; exact .inl h
      · exact .inr ⟨e', List.mem_cons_of_mem _ he', h⟩
  rcases key _ _ h with h | ⟨e, he, h⟩
  · simp at h
  · exact ⟨e, by simpa using he, h⟩

/-- the table is right below n -/
def TabOk (ops : Array Oper) (T : List Nat) : Prop :=
  ∀ (j i : Nat) (o : Oper), ops[j]? = some o → (T.getD j 0).testBit i = true → ∃ e ∈ o.after, Region.binds .any e = true ∧ (e.on = i ∨ (e.on < j ∧ (T.getD e.on 0).testBit i = true))

theorem befL_ok : ∀ (os : List Oper) (j : Nat) (T : List Nat), T.length = j → (∀ k, os[k]? = ops[j + k]?) → (∀ k, k < j → ∀ i o, ops[k]? = some o → (T.getD k 0).testBit i = true →
    ∃ e ∈ o.after, Region.binds .any e = true ∧ (e.on = i ∨ (e.on < k ∧ (T.getD e.on 0).testBit i = true))) → TabOk ops (befL os j T)
  | [], j, T, hl, hos, h => by
    intro k i o ho hb
    simp only [befL] at hb ⊢
    have hk : k < j := by
      rcases Nat.lt_or_ge k j with h' | h'
      · exact h'
      · have := hos (k - j)
        rw [show j + (k - j) = k by omega, ho] at this
        simp at this
    exact h k hk i o ho hb
  | o :: os, j, T, hl, hos, h => by
    unfold befL
    refine befL_ok os (j + 1) _ (by simp [hl]) (fun k => ?_) ?_
    · have := hos (k + 1)
      simp only [List.getElem?_cons_succ] at this
      rw [this]; congr 1; omega
    · intro k hk i o' ho' hb
      have old : ∀ m, m < j → (T ++ [befOf T j o]).getD m 0 = T.getD m 0 := by
        intro m hm
        simp only [List.getD_eq_getElem?_getD]
        rw [List.getElem?_append_left (by omega)]
      by_cases hkj : k < j
      · rw [old k hkj] at hb
        obtain ⟨e, he, hbd, h2⟩ := h k hkj i o' ho' hb
        refine ⟨e, he, hbd, h2.imp id fun h3 => ⟨h3.1, ?_⟩⟩
        rw [old e.on (by omega)]
        exact h3.2
      · have hkj' : k = j := by omega
        subst hkj'
        have ho2 : ops[k]? = some o := by have := hos 0; simpa using this.symm
        rw [ho2] at ho'
        cases ho'
        have e0 : (T ++ [befOf T k o]).getD k 0 = befOf T k o := by
          simp only [List.getD_eq_getElem?_getD]
          rw [List.getElem?_append_right (by omega)]
          simp [hl]
        rw [e0] at hb
        obtain ⟨e, he, hbd, h2⟩ := befOf_bit hb
        refine ⟨e, he, hbd, h2.imp id fun h3 => ⟨h3.1, ?_⟩⟩
        rw [old e.on h3.1]
        exact h3.2

theorem TabOk.waits {T : List Nat} (hT : TabOk ops T) {l : Array Bool} (hc : ClosedL ops l) {i : Nat} (hi : l.getD i false = false) :
    ∀ (n j : Nat) (oj : Oper), j < n → ops[j]? = some oj → (∀ e ∈ oj.after, Region.binds .any e = true → l.getD e.on false = true) → (T.getD j 0).testBit i = false := by
  intro n
  induction n with
  | zero => intro j oj hj; omega
  | succ n ih =>
    intro j oj hj ho hall
    cases hb : (T.getD j 0).testBit i with
    | false => rfl
    | true =>
      obtain ⟨e, he, hbd, h | ⟨hlt, h⟩⟩ := hT j i oj ho hb
      · have := hall e he hbd
        rw [h, hi] at this
        cases this
      · have hl := hall e he hbd
        cases ho2 : ops[e.on]? with
        | none =>
          -- nothing stands there: its bits are none
          have := hT e.on i
          rw [ho2] at this
          exfalso
          have h5 : e.on < ops.size := by
            have := (Array.getElem?_eq_some_iff.1 ho).1
            omega
          rw [Array.getElem?_eq_none_iff] at ho2
          omega
        | some o2 =>
          have := ih e.on o2 (by omega) ho2 (hc e.on o2 ho2 hl)
          rw [h] at this
          cases this

theorem anyX_first {i : Nat} {oi : Oper} {v : Value} {pB : Bool} {K : Act → Hp → Prop} {Z : Act → List PanicEntry → Hp → Prop} (hi : ops[i]? = some oi) (hri : rB oi = true) {T : List Nat} (hT : TabOk ops T)
    (hsel : ∀ (j : Nat) (o : Oper) cs b, ops[j]? = some o → o.op ≠ .select cs b)
    (hZ : ∀ (a : Act) d u c H, Z (a.put d u) c H → Z a c H) :
    ∀ (fuel : Nat) (listed : Array Bool) (a : Act) (H : Hp),
      (∀ j oj, ops[j]? = some oj → j ≠ i → listed.getD j true = false → (T.getD j 0).testBit i = false → oi.apart ops oj = true ∧ (rB oj = true ∨ pB = true)) →
      ClosedL ops listed → i ∈ Region.ready .any ops listed → YR P ops oi v a H → (pB = true → YP P ops oi v a) →
      anyX P rd rB ops K Z fuel (listed.setIfInBounds i true) (a.put oi.dst v) H → anyX P rd rB ops K Z (fuel + 1) listed a H := by
  have own : ∀ (a : Act) (H : Hp) (K' : Act → Hp → Prop), YR P ops oi v a H → K' (a.put oi.dst v) H → xStep P rd rB ops i a H K' (Z a) := by
    intro a H K' hy h
    unfold xStep
    simp only [hi]
    rw [if_pos hri]
    exact ⟨v, hy, h⟩
  intro fuel
  induction fuel with
  | zero =>
    intro listed a H _ _ hr hy hp h
    refine ⟨fun h0 => (by rw [h0] at hr; cases hr), fun j hj => ?_⟩
    by_cases hji : j = i
    · subst hji; exact own a H _ hy h
    · have := ready_mono hj hji
      rw [h.1] at this
      cases this
  | succ fuel ih =>
    intro listed a H hfree hcl hr hy hp h
    refine ⟨fun h0 => (by rw [h0] at hr; cases hr), fun j hj => ?_⟩
    by_cases hji : j = i
    · subst hji; exact own a H _ hy h
    · have h1 := h.2 j (ready_mono hj hji)
      obtain ⟨hjun, oj, hoj, hall⟩ := mem_ready.1 hj
      have hif : listed.getD i false = false := by
        have h0 := (mem_ready.1 hr).1
        rcases Nat.lt_or_ge i listed.size with h' | h'
        · simp [h'] at h0 ⊢; exact h0
        · simp [Array.getElem?_eq_none h']
      have hnot := hT.waits hcl hif (j + 1) j oj (by omega) hoj hall
      obtain ⟨hap, hpr⟩ := hfree j oj hoj hji hjun hnot
      have h2 := xStep_put (i := i) hoj hap hpr (fun cs b => hsel i oi cs b hi) (fun cs b => hsel j oj cs b hoj) hZ hy hp h1
      have hfree' : ∀ k ok, ops[k]? = some ok → k ≠ i → (listed.setIfInBounds j true).getD k true = false →
          (T.getD k 0).testBit i = false → oi.apart ops ok = true ∧ (rB ok = true ∨ pB = true) := fun k ok hk hki hun hno => by
        refine hfree k ok hk hki ?_ hno
        by_cases hjk : j = k
        · subst hjk; exact hjun
        · rw [getD_set_ne true hjk] at hun; exact hun
      refine h2.mono (fun a' H' h3 => ih (listed.setIfInBounds j true) a' H' hfree' (hcl.set hj) (ready_mono hr (Ne.symm hji)) h3.1.1 h3.1.2 ?_) (fun _ _ h => h)
      rw [Array.setIfInBounds_comm _ _ hji]
      exact h3.2

/-- May operation i be taken first? Those that may come ahead of it only look too (or it looks at its operands alone). -/
def freeB (T : List Nat) (pB rB : Oper → Bool) (ops : Array Oper) (listed : Array Bool) (i : Nat) : Bool :=
  match ops[i]? with
  | none => false
  | some oi => rB oi && (List.range ops.size).all fun j => j == i || listed.getD j true || match ops[j]? with
      | some oj => (T.getD j 0).testBit i || (oi.apart ops oj && (rB oj || pB oi))
      | none => true

theorem freeB_spec {T : List Nat} {pB : Oper → Bool} {i : Nat} {oi : Oper} {listed : Array Bool} (hi : ops[i]? = some oi) (h : freeB T pB rB ops listed i = true) : rB oi = true ∧
    ∀ (j : Nat) (oj : Oper), ops[j]? = some oj → j ≠ i → listed.getD j true = false → (T.getD j 0).testBit i = false →
      oi.apart ops oj = true ∧ (rB oj = true ∨ pB oi = true) := by
  simp only [freeB, hi, Bool.and_eq_true, List.all_eq_true, List.mem_range] at h
  refine ⟨h.1, fun j oj hj hne hun hno => ?_⟩
  have h1 := h.2 j (Array.getElem?_eq_some_iff.1 hj).1
  simp only [hj, Bool.or_eq_true, beq_iff_eq, hne, false_or, hun, Bool.false_eq_true] at h1
  rcases h1 with h1 | h1
  · rw [hno] at h1; cases h1
  · simp only [Bool.and_eq_true, Bool.or_eq_true] at h1
    exact h1
end
end Go.V

