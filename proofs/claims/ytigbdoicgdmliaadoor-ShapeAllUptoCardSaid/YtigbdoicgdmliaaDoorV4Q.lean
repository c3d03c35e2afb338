/- Regions whose order is open: what is read may be read first, where it stays as it is behind all that may come ahead of it. -/
import Derived.Test.YtigbdoicgdmliaaDoorV4
set_option linter.unusedVariables false
set_option linter.unusedSimpArgs false
namespace Go.V
section
variable {P : Program} {rd : Option Nat} {rB : Oper → Bool} {ops : Array Oper}
/-- a frame's temporaries behind one operation -/
def Ext (o : Oper) (a a' : Act) : Prop := ∃ ds u, a' = ({ a with defers := ds } : Act).put o.dst u
theorem Ext.put {o : Oper} {a : Act} {u : Value} : Ext o a (a.put o.dst u) := ⟨a.defers, u, rfl⟩
theorem Ext.exec {o x : Oper} {a a' : Act} (h : Ext o a a') (hs : ∀ cs b, x.op ≠ .select cs b) (hx : ∀ d, o.dst = some d → d ∉ x.looksAt ops) :
    execOp a'.eval x = execOp a.eval x ∧ Region.wanted x (yielded ops a'.tmps) = Region.wanted x (yielded ops a.tmps) := by
  obtain ⟨ds, u, rfl⟩ := h
  exact ⟨execOp_put x hs _ o.dst u hx, wanted_put x _ o.dst u hx⟩
/-- if it is wanted at all, this is what is read -/
def FR (P : Program) (ops : Array Oper) (o : Oper) (v : Value) (a : Act) (H : Hp) : Prop :=
  Region.wanted o (yielded ops a.tmps) = true → ∀ w : World, w.heap = H → (execOp a.eval o).run P w = .ok (.value v) w
theorem YR.fr {o : Oper} {v : Value} {a : Act} {H : Hp} (h : YR P ops o v a H) : FR P ops o v a H := by
  intro hw
  rcases h with h | h
  · exact h.2
  · rw [hw] at h; cases h.1
theorem YR.re {o : Oper} {v : Value} {a a' : Act} {H H' : Hp} (h : YR P ops o v a H) (hw : Region.wanted o (yielded ops a'.tmps) = Region.wanted o (yielded ops a.tmps)) (hf : FR P ops o v a' H') : YR P ops o v a' H' := by
  rcases h with h | h
  · exact .inl ⟨by rw [hw]; exact h.1, hf (by rw [hw]; exact h.1)⟩
  · exact .inr ⟨by rw [hw]; exact h.1, h.2⟩
theorem FR.same {o : Oper} {v : Value} {a a' : Act} {H : Hp} (h : FR P ops o v a H) (he : execOp a'.eval o = execOp a.eval o) (hw : Region.wanted o (yielded ops a'.tmps) = Region.wanted o (yielded ops a.tmps)) : FR P ops o v a' H := by
  unfold FR at *
  rw [he, hw]
  exact h
theorem doesA_ext {o : Oper} {a : Act} {H : Hp} {K : Act → Hp → Prop} {Z : List PanicEntry → Hp → Prop} (h : DoesA P rd o a H K Z) : DoesA P rd o a H (fun a' H' => Ext o a a' ∧ K a' H') Z := by
  intro w hw
  have h1 := h w hw
  generalize (execOp a.eval o).run P w = r at *
  cases r with
  | ok n w' =>
    cases n <;> simp only at h1 ⊢
    case value v => exact ⟨h1.1, Ext.put, h1.2⟩
    case skip => exact ⟨h1.1, Ext.put, h1.2⟩
    case defer d => exact ⟨h1.1, ⟨_, _, rfl⟩, h1.2⟩
    case enter f args => exact ⟨h1.1, h1.2.mono (fun u H' x => ⟨Ext.put, x⟩) (fun _ _ h => h)⟩
    case round l f tmps as body => exact ⟨h1.1, h1.2.mono (fun u H' x => ⟨Ext.put, x⟩)⟩
  | halt x w' =>
    cases x <;> simp only at h1 ⊢
    exact h1
theorem xStep_ext {j : Nat} {o : Oper} (ho : ops[j]? = some o) {a : Act} {H : Hp} {K : Act → Hp → Prop} {Z : List PanicEntry → Hp → Prop} (h : xStep P rd rB ops j a H K Z) :
    xStep P rd rB ops j a H (fun a' H' => Ext o a a' ∧ K a' H') Z := by
  unfold xStep at *
  simp only [ho] at *
  split
  · rename_i hr
    rw [if_pos hr] at h
    obtain ⟨v, hv, hK⟩ := h
    exact ⟨v, hv, Ext.put, hK⟩
  · rename_i hr
    rw [if_neg hr] at h
    split
    · rename_i hw
      rw [if_pos hw] at h
      exact ⟨h.1, doesA_ext h.2⟩
    · rename_i hw
      rw [if_neg hw] at h
      exact ⟨Ext.put, h⟩
/-- one operation ahead of another one that does not hang on it -/
theorem xStep_swap {j : Nat} {oi oj : Oper} {v : Value} (hj : ops[j]? = some oj) (hap : oi.apart ops oj = true)
    (hsj : ∀ cs b, oj.op ≠ .select cs b)
    {K : Act → Hp → Prop} {Z : Act → List PanicEntry → Hp → Prop} (hZ : ∀ (a : Act) d u c H, Z (a.put d u) c H → Z a c H) {a : Act} {H : Hp}
    (h : xStep P rd rB ops j (a.put oi.dst v) H K (Z (a.put oi.dst v))) :
    xStep P rd rB ops j a H (fun a' H' => Ext oj a a' ∧ K (a'.put oi.dst v) H') (Z a) := by
  obtain ⟨h1, h2, h3⟩ := Oper.apart_spec hap
  unfold xStep at *
  simp only [hj] at *
  rw [wanted_put oj a oi.dst v h1] at h
  split
  · rename_i hr
    rw [if_pos hr] at h
    obtain ⟨u, hu, hK⟩ := h
    refine ⟨u, ?_, Ext.put, by rw [← Act.put_comm a v u h2]; exact hK⟩
    exact hu.of_same (execOp_put oj hsj a oi.dst v h1).symm (wanted_put oj a oi.dst v h1).symm
  · rename_i hr
    rw [if_neg hr] at h
    split
    · rename_i hw
      rw [if_pos hw] at h
      refine ⟨h.1, ?_⟩
      intro w hwH
      have h4 := h.2 w hwH
      rw [execOp_put oj hsj a oi.dst v h1] at h4
      generalize (execOp a.eval oj).run P w = r at *
      cases r with
      | ok n w' =>
        cases n <;> simp only at h4 ⊢
        case value u => exact ⟨h4.1, Ext.put, by rw [← Act.put_comm a v u h2]; exact h4.2⟩
        case skip => exact ⟨h4.1, Ext.put, by rw [← Act.put_comm a v undef h2]; exact h4.2⟩
        case defer d =>
          refine ⟨h4.1, ⟨_, _, rfl⟩, ?_⟩
          rw [← Act.put_comm _ v undef h2, ← Act.put_defers]
          exact h4.2
        case enter f args =>
          exact ⟨h4.1, h4.2.mono (fun u H' he => ⟨Ext.put, by rw [← Act.put_comm a v u h2]; exact he⟩) (fun _ _ hz => hZ _ _ _ _ _ hz)⟩
        case round l f tmps as body =>
          exact ⟨h4.1, h4.2.mono (fun u H' he => ⟨Ext.put, by rw [← Act.put_comm a v u h2]; exact he⟩)⟩
      | halt x w' =>
        cases x <;> simp only at h4 ⊢
        case panic u => exact ⟨h4.1, hZ _ _ _ _ _ h4.2⟩
    · rename_i hw
      rw [if_neg hw] at h
      exact ⟨Ext.put, by rw [← Act.put_comm a v undef h2]; exact h⟩

/-- those that were read, and are perhaps read later on -/
abbrev Pend := List (Nat × Value)
def keepP (T : List Nat) (j : Nat) (pend : Pend) : Pend := pend.filter fun p => !(T.getD j 0).testBit p.1
def PF (P : Program) (ops : Array Oper) (T : List Nat) (j : Nat) (pend : Pend) (a : Act) (H : Hp) : Prop :=
  ∀ p ∈ pend, (T.getD j 0).testBit p.1 = false → ∀ o, ops[p.1]? = some o → FR P ops o p.2 a H
def anyZ (P : Program) (rd : Option Nat) (rB : Oper → Bool) (ops : Array Oper) (T : List Nat) (K : Act → Hp → Prop) (Z : Act → List PanicEntry → Hp → Prop) : Nat → Array Bool → Pend → Act → Hp → Prop
  | 0, listed, _, a, H => Region.ready .any ops listed = [] ∧ K a H
  | fuel + 1, listed, pend, a, H =>
    (Region.ready .any ops listed = [] → K a H) ∧
    ∀ i ∈ Region.ready .any ops listed, xStep P rd rB ops i a H (fun a' H' => PF P ops T i pend a' H' ∧ anyZ P rd rB ops T K Z fuel (listed.setIfInBounds i true) (keepP T i pend) a' H') (Z a)
variable {T : List Nat} {K : Act → Hp → Prop} {Z : Act → List PanicEntry → Hp → Prop}
theorem anyZ_mono : ∀ (fuel : Nat) (listed : Array Bool) (p q : Pend) (a : Act) (H : Hp), (∀ x ∈ q, x ∈ p) → anyZ P rd rB ops T K Z fuel listed p a H → anyZ P rd rB ops T K Z fuel listed q a H
  | 0, _, _, _, _, _, _, h => h
  | fuel + 1, listed, p, q, a, H, hs, h => by
    refine ⟨h.1, fun i hi => (h.2 i hi).mono (fun a' H' hh => ⟨fun x hx => hh.1 x (hs x hx), ?_⟩) (fun _ _ h => h)⟩
    refine anyZ_mono fuel _ _ _ _ _ (fun x hx => ?_) hh.2
    unfold keepP at hx ⊢
    rw [List.mem_filter] at hx ⊢
    exact ⟨hs x hx.1, hx.2⟩
theorem anyZ_X : ∀ (fuel : Nat) (listed : Array Bool) (p : Pend) (a : Act) (H : Hp), anyZ P rd rB ops T K Z fuel listed p a H → anyX P rd rB ops K Z fuel listed a H
  | 0, _, _, _, _, h => h
  | fuel + 1, listed, p, a, H, h => ⟨h.1, fun i hi => (h.2 i hi).mono (fun a' H' hh => anyZ_X fuel _ _ _ _ hh.2) (fun _ _ h => h)⟩
/-- what holds of those that are perhaps read later on -/
def PendOk (P : Program) (ops : Array Oper) (T : List Nat) (listed : Array Bool) (pend : Pend) (a : Act) (H : Hp) : Prop :=
  ∀ p ∈ pend, ∃ o, ops[p.1]? = some o ∧ YR P ops o p.2 a H ∧ (listed.getD p.1 false = true) ∧
    ∀ (j : Nat) (oj : Oper), ops[j]? = some oj → listed.getD j true = false → (T.getD j 0).testBit p.1 = false → o.apart ops oj = true
theorem PendOk.step {listed : Array Bool} {pend : Pend} {a a' : Act} {H H' : Hp} {j : Nat} {oj : Oper} (hsel : ∀ (j : Nat) (o : Oper) cs b, ops[j]? = some o → o.op ≠ .select cs b)
    (h : PendOk P ops T listed pend a H) (hj : ops[j]? = some oj) (hju : listed.getD j true = false) (he : Ext oj a a') (hf : PF P ops T j pend a' H') : PendOk P ops T (listed.setIfInBounds j true) (keepP T j pend) a' H' := by
  intro p hp
  unfold keepP at hp
  rw [List.mem_filter] at hp
  obtain ⟨hp, hb⟩ := hp
  have hb' : (T.getD j 0).testBit p.1 = false := by simpa using hb
  obtain ⟨o, ho, hy, hl, hap⟩ := h p hp
  have h3 := (Oper.apart_spec (hap j oj hj hju hb')).2.2
  have hx := he.exec (ops := ops) (fun cs b => hsel p.1 o cs b ho) h3
  refine ⟨o, ho, hy.re hx.2 (hf p hp hb' o ho), getD_set_true hl, ?_⟩
  intro k ok hk hku
  refine hap k ok hk ?_
  by_cases hjk : j = k
  · subst hjk; exact hju
  · rwa [getD_set_ne true hjk] at hku
theorem anyZ_first {i : Nat} {oi : Oper} {v : Value} {pB : Bool} (hi : ops[i]? = some oi) (hri : rB oi = true) (hT : TabOk ops T)
    (hsel : ∀ (j : Nat) (o : Oper) cs b, ops[j]? = some o → o.op ≠ .select cs b)
    (hZ : ∀ (a : Act) d u c H, Z (a.put d u) c H → Z a c H) (hself : ∀ d, oi.dst = some d → d ∉ oi.looksAt ops) :
    ∀ (fuel : Nat) (listed : Array Bool) (pend : Pend) (a : Act) (H : Hp),
      (∀ j oj, ops[j]? = some oj → j ≠ i → listed.getD j true = false → (T.getD j 0).testBit i = false → oi.apart ops oj = true) →
      ClosedL ops listed → i ∈ Region.ready .any ops listed → YR P ops oi v a H → (pB = true → YP P ops oi v a) →
      PendOk P ops T listed pend a H → (∀ p ∈ pend, ∀ o, ops[p.1]? = some o → ∀ d, oi.dst = some d → d ∉ o.looksAt ops) →
      anyZ P rd rB ops T K Z fuel (listed.setIfInBounds i true) (if pB then pend else (i, v) :: pend) (a.put oi.dst v) H → anyZ P rd rB ops T K Z (fuel + 1) listed pend a H := by
  intro fuel
  induction fuel with
  | zero =>
    intro listed pend a H hfree hcl hr hy hp hpd hno h
    refine ⟨fun h0 => (by rw [h0] at hr; cases hr), fun j hj => ?_⟩
    by_cases hji : j = i
    · subst hji
      unfold xStep
      simp only [hi]
      rw [if_pos hri]
      refine ⟨v, hy, ?_, h⟩
      intro p hp' _ o ho
      obtain ⟨o', ho', hy', _⟩ := hpd p hp'
      rw [ho] at ho'
      cases ho'
      exact hy'.fr.same (execOp_put o (fun cs b => hsel _ o cs b ho) a oi.dst v (hno p hp' o ho)) (wanted_put o a oi.dst v (hno p hp' o ho))
    · have := ready_mono hj hji
      rw [h.1] at this
      cases this
  | succ fuel ih =>
    intro listed pend a H hfree hcl hr hy hp hpd hno h
    refine ⟨fun h0 => (by rw [h0] at hr; cases hr), fun j hj => ?_⟩
    by_cases hji : j = i
    · subst hji
      unfold xStep
      simp only [hi]
      rw [if_pos hri]
      refine ⟨v, hy, ?_, ?_⟩
      · intro p hp' _ o ho
        obtain ⟨o', ho', hy', _⟩ := hpd p hp'
        rw [ho] at ho'
        cases ho'
        exact hy'.fr.same (execOp_put o (fun cs b => hsel _ o cs b ho) a oi.dst v (hno p hp' o ho)) (wanted_put o a oi.dst v (hno p hp' o ho))
      · refine anyZ_mono _ _ _ _ _ _ (fun x hx => ?_) h
        have hx' : x ∈ pend := (List.mem_filter.1 hx).1
        cases pB
        · exact List.mem_cons_of_mem _ hx'
        · exact hx'
    · have h1 := h.2 j (ready_mono hj hji)
      obtain ⟨hjun, oj, hoj, hall⟩ := mem_ready.1 hj
      have hif : listed.getD i false = false := by
        have h0 := (mem_ready.1 hr).1
        rcases Nat.lt_or_ge i listed.size with h' | h'
        · simp [h'] at h0 ⊢; exact h0
        · simp [Array.getElem?_eq_none h']
      have hnot := hT.waits hcl hif (j + 1) j oj (by omega) hoj hall
      have hap := hfree j oj hoj hji hjun hnot
      have h3 := (Oper.apart_spec hap).2.2
      have h2 := xStep_swap (oi := oi) (v := v) hoj hap (fun cs b => hsel j oj cs b hoj) hZ h1
      refine h2.mono ?_ (fun _ _ h => h)
      rintro a' H' ⟨hext, hPF, htree⟩
      have hx := hext.exec (ops := ops) (fun cs b => hsel i oi cs b hi) h3
      -- what i reads, behind j
      have hy' : YR P ops oi v a' H' := by
        cases hb : pB with
        | true => exact (hp hb H').of_same hx.1 hx.2
        | false =>
          rw [hb] at hPF
          have hf := hPF (i, v) List.mem_cons_self hnot oi hi
          refine hy.re hx.2 (hf.same ?_ ?_)
          · exact (execOp_put oi (fun cs b => hsel i oi cs b hi) a' oi.dst v hself).symm
          · exact (wanted_put oi a' oi.dst v hself).symm
      have hp' : pB = true → YP P ops oi v a' := fun hb A => (hp hb A).of_same hx.1 hx.2
      have hPF' : PF P ops T j pend a' H' := by
        intro p hpm hpb o ho
        have hf := hPF p (by cases pB; exact List.mem_cons_of_mem _ hpm; exact hpm) hpb o ho
        exact hf.same (execOp_put o (fun cs b => hsel _ o cs b ho) a' oi.dst v (hno p hpm o ho)).symm (wanted_put o a' oi.dst v (hno p hpm o ho)).symm
      refine ⟨hPF', ?_⟩
      refine ih (listed.setIfInBounds j true) (keepP T j pend) a' H' ?_ (hcl.set hj) (ready_mono hr (Ne.symm hji)) hy' hp' (hpd.step hsel hoj hjun hext hPF') ?_ ?_
      · intro k ok hk hki hun hno'
        refine hfree k ok hk hki ?_ hno'
        by_cases hjk : j = k
        · subst hjk; exact hjun
        · rw [getD_set_ne true hjk] at hun; exact hun
      · exact fun p hpm => hno p (List.mem_filter.1 hpm).1
      · rw [Array.setIfInBounds_comm _ _ hji]
        have e : keepP T j (if pB = true then pend else (i, v) :: pend) = if pB = true then keepP T j pend else (i, v) :: keepP T j pend := by
          cases pB
          · unfold keepP
            rw [if_neg Bool.false_ne_true, if_neg Bool.false_ne_true, List.filter_cons, if_pos (by simp only [hnot]; rfl)]
          · rfl
        rw [e] at htree
        exact htree
end

/-! ### the computing form -/
/-- may this be read first? -/
def freeQ (P : Program) (T : List Nat) (pend : List Nat) (ops : Array Oper) (listed : Array Bool) (i : Nat) : Bool :=
  match ops[i]? with
  | none => false
  | some oi => isR P oi && ((match oi.dst with | some d => !(oi.looksAt ops).contains d | none => true) &&
      ((pend.all fun p => match ops[p]? with
        | some o => (match oi.dst with | some d => !(o.looksAt ops).contains d | none => true)
        | none => true) &&
      (List.range ops.size).all fun j => j == i || listed.getD j true || match ops[j]? with
        | some oj => (T.getD j 0).testBit i || oi.apart ops oj
        | none => true))
/-- a variable holds this -/
def ldAgg (P : Program) (t : TypeId) (H : Hp) (a : Addr) (v : Value) : Prop := match v with
  | .agg cs => if szOk P t cs.size then AtL H a 0 cs.toList else False
  | _ => False
def ldIs (P : Program) (t : TypeId) (H : Hp) (a : Addr) (v : Value) : Prop := match P.underlying t with
  | some (.struct _) | some (.array _ _) => ldAgg P t H a v
  | some _ => hcell H a = some v
  | none => False
def factL (P : Program) (o : Oper) (E : Env) (H : Hp) (v : Value) : Prop := match o.op with
  | .load t x => opK E x fun av => ptrK av.2 fun ad => ldIs P t H ad v
  | _ => False
/-- is it known that this is not wanted? -/
def outB (ops : Array Oper) (o : Oper) (E : Env) (yes no : Prop) : Prop := match o.guard with
  | none => yes
  | some (g, want) => (match (ops[g]?).bind (·.dst) with
      | none => no
      | some d => getK E.t d fun fv => (match fv with
          | (true, .bool b) => if b == want then yes else no
          | _ => yes))
def factsC (P : Program) (ops : Array Oper) (T : List Nat) (j : Nat) (E : Env) (H : Hp) (k : Prop) : Pend → Prop
  | [] => k
  | p :: ps => if (T.getD j 0).testBit p.1 then factsC P ops T j E H k ps else (match ops[p.1]? with
      | some o => outB ops o E (factL P o E H p.2 ∧ factsC P ops T j E H k ps) (factsC P ops T j E H k ps)
      | none => factsC P ops T j E H k ps)
/-- what was read goes among those that are perhaps read later on -/
def addP (P : Program) (ops : Array Oper) (i : Nat) (pend : Pend) (E : Env) (k : Pend → Prop) : Prop := match ops[i]? with
  | some o => if isP P o then k pend else (match o.dst with
      | some d => if d < E.t.length then getK E.t d fun fv => k ((i, fv.2) :: pend) else False
      | none => False)
  | none => False
def anyQ (P : Program) (rd : Option Nat) (ops : Array Oper) (T : List Nat) (Z : List Deferred → List PanicEntry → Hp → Prop) (K : Env → Hp → Prop) : Nat → List Bool → Pend → Env → Hp → Prop
  | 0, listed, pend, E, H => (match Region.ready .any ops listed.toArray with | [] => K E H | _ => False)
  | n + 1, listed, pend, E, H => (match Region.ready .any ops listed.toArray with
    | [] => K E H
    | r :: rs => (match (r :: rs).find? (freeQ P T (pend.map (·.1)) ops listed.toArray) with
      | some i => setK listed i true fun l' => stepC P rd ops i E H (fun E' H' => addP P ops i pend E' fun pend' => anyQ P rd ops T Z K n l' pend' E' H') Z
      | none => allC (r :: rs) fun i => setK listed i true fun l' => stepC P rd ops i E H (fun E' H' => factsC P ops T i E' H' (anyQ P rd ops T Z K n l' (keepP T i pend) E' H') pend) Z))

theorem ldAgg_run {P : Program} {t : TypeId} {H : Hp} {a : Addr} {v : Value} (hu : ∀ w, (isAgg t).run P w = .ok true w) (h : ldAgg P t H a v) : ∀ w : World, w.heap = H → (loadVar t a).run P w = .ok v w := by
  cases v <;> try (exact h.elim)
  rename_i cs
  unfold ldAgg at h
  simp only at h
  split at h
  · rename_i hs
    intro w hw
    subst hw
    unfold loadVar
    simp only [bind]
    rw [run_bind, hu w]
    simp only [if_true]
    rw [run_bind, sizeOf_run hs w]
    simp only
    rw [run_bind]
    unfold loadCells
    have e : cs.size = cs.toList.length := by simp
    rw [e, loadCells_run cs.toList 0 #[] h]
    simp [pure, Sem.run]
  · exact h.elim
theorem ldIs_run {P : Program} {t : TypeId} {H : Hp} {a : Addr} {v : Value} (h : ldIs P t H a v) : ∀ w : World, w.heap = H → (loadVar t a).run P w = .ok v w := by
  unfold ldIs at h
  split at h
  · rename_i fs hu
    exact ldAgg_run (fun w => by simp [isAgg, underlying, program, bind, Sem.bind, pure, Sem.run, hu]) h
  · rename_i l e hu
    exact ldAgg_run (fun w => by simp [isAgg, underlying, program, bind, Sem.bind, pure, Sem.run, hu]) h
  · rename_i d hn1 hn2 hu
    intro w hw
    subst hw
    have hc : hcell w.heap a = some v := h
    have ha : (isAgg t).run P w = .ok false w := by
      simp only [isAgg, underlying, program, bind, Sem.bind, pure, Sem.run, hu]
      try (cases d <;> first | rfl | (exact absurd hu (hn1 _)) | (exact absurd hu (hn2 _ _)))
    unfold loadVar
    simp only [bind]
    rw [run_bind, ha]
    simp only [Bool.false_eq_true, if_false]
    simp only [load, Sem.run, show w.cell? a = some v from hc]
  · exact h.elim
theorem factL_sound {P : Program} {ops : Array Oper} {o : Oper} {E : Env} {H : Hp} {v : Value} (h : factL P o E H v) : FR P ops o v E.act H := by
  intro _
  unfold factL at h
  split at h
  · rename_i t x ho
    obtain ⟨f, h⟩ := opK_sound h
    obtain ⟨ad, hv, h⟩ := ptrK_sound h
    intro w hw
    simp only at hv
    unfold execOp
    rw [ho]
    simp only [bind, Instr.loadAt, hv, Instr.sureAddr, pure, Sem.bind]
    rw [run_bind, ldIs_run h w hw]
    rfl
  · exact h.elim
theorem outB_sound {ops : Array Oper} {o : Oper} {E : Env} {yes no : Prop} (h : outB ops o E yes no) : yes ∨ (no ∧ Region.wanted o (yielded ops E.act.tmps) = false) := by
  unfold outB at h
  unfold Region.wanted
  split at h
  · exact .inl h
  · rename_i g want hg
    simp only [hg]
    split at h
    · rename_i hd
      exact .inr ⟨h, by simp [yielded, hd]⟩
    · rename_i d hd
      rw [getK_eq] at h
      have hy : yielded ops E.act.tmps g = match (E.t[d]?).map (·.2) with | some (.bool b) => some b | _ => none := by
        unfold yielded
        rw [hd]
        simp [Env.act]
        cases E.t[d]? <;> rfl
      cases hx : E.t[d]? with
      | none =>
        rw [List.getD_eq_getElem?_getD, hx] at h
        simp only [Option.getD_none] at h
        exact .inl h
      | some fv =>
        rw [List.getD_eq_getElem?_getD, hx] at h
        simp only [Option.getD_some] at h
        rw [hy, hx]
        obtain ⟨f, v⟩ := fv
        cases f with
        | false => exact .inl (by cases v <;> exact h)
        | true =>
          cases v with
          | bool b =>
            simp only at h
            by_cases hb : (b == want) = true
            · rw [if_pos hb] at h; exact .inl h
            · rw [if_neg hb] at h
              have : b ≠ want := by simpa using hb
              exact .inr ⟨h, by simpa using this⟩
          | _ => exact .inl h
theorem factsC_sound {P : Program} {ops : Array Oper} {T : List Nat} {j : Nat} {E : Env} {H : Hp} {k : Prop} : ∀ {pend : Pend}, factsC P ops T j E H k pend → PF P ops T j pend E.act H ∧ k
  | [], h => ⟨(fun p hp => by cases hp), h⟩
  | p :: ps, h => by
    unfold factsC at h
    by_cases hb : (T.getD j 0).testBit p.1 = true
    · rw [if_pos hb] at h
      obtain ⟨h1, h2⟩ := factsC_sound h
      refine ⟨fun q hq hqb => ?_, h2⟩
      rcases List.mem_cons.1 hq with rfl | hq
      · rw [hb] at hqb; cases hqb
      · exact h1 q hq hqb
    · rw [if_neg hb] at h
      cases ho : ops[p.1]? with
      | none =>
        simp only [ho] at h
        obtain ⟨h1, h2⟩ := factsC_sound h
        refine ⟨fun q hq hqb => ?_, h2⟩
        rcases List.mem_cons.1 hq with rfl | hq
        · intro o ho'; rw [ho] at ho'; cases ho'
        · exact h1 q hq hqb
      | some o =>
        simp only [ho] at h
        rcases outB_sound h with ⟨hf, h⟩ | ⟨h, hw⟩
        · obtain ⟨h1, h2⟩ := factsC_sound h
          refine ⟨fun q hq hqb => ?_, h2⟩
          rcases List.mem_cons.1 hq with rfl | hq
          · intro o' ho'; rw [ho] at ho'; cases ho'; exact factL_sound hf
          · exact h1 q hq hqb
        · obtain ⟨h1, h2⟩ := factsC_sound h
          refine ⟨fun q hq hqb => ?_, h2⟩
          rcases List.mem_cons.1 hq with rfl | hq
          · intro o' ho'; rw [ho] at ho'; cases ho'; intro hw'; rw [hw] at hw'; cases hw'
          · exact h1 q hq hqb
theorem freeQ_spec {P : Program} {T : List Nat} {pend : List Nat} {ops : Array Oper} {listed : Array Bool} {i : Nat} {oi : Oper} (hi : ops[i]? = some oi) (h : freeQ P T pend ops listed i = true) :
    isR P oi = true ∧ (∀ d, oi.dst = some d → d ∉ oi.looksAt ops) ∧ (∀ p ∈ pend, ∀ o, ops[p]? = some o → ∀ d, oi.dst = some d → d ∉ o.looksAt ops) ∧
    ∀ (j : Nat) (oj : Oper), ops[j]? = some oj → j ≠ i → listed.getD j true = false → (T.getD j 0).testBit i = false → oi.apart ops oj = true := by
  simp only [freeQ, hi, Bool.and_eq_true, List.all_eq_true, List.mem_range] at h
  obtain ⟨h1, h2, h3, h4⟩ := h
  refine ⟨h1, fun d hd => ?_, fun p hp o ho d hd => ?_, fun j oj hj hne hun hno => ?_⟩
  · rw [hd] at h2; simpa using h2
  · have := h3 p hp
    rw [ho, hd] at this
    simpa using this
  · have hjs : j < ops.size := (Array.getElem?_eq_some_iff.1 hj).1
    have := h4 j hjs
    rw [hj] at this
    have hne' : (j == i) = false := by simpa using hne
    rw [hne', hun] at this
    simp only [Bool.false_or, hno] at this
    exact this
theorem slot_of {E E' : Env} {d : Nat} {v : Value} (he : E'.act = E.act.put (some d) v) (hd : d < E'.t.length) : (E'.t.getD d (false, undef)).2 = v := by
  have h1 := congrArg (fun a : Act => a.tmps[d]?) he
  simp only [Env.act, Act.put] at h1
  have hlen := congrArg (fun a : Act => a.tmps.size) he
  simp only [Env.act, Act.put] at hlen
  simp at hlen
  simp at h1
  rw [List.getElem?_eq_getElem hd] at h1
  rw [List.getD_eq_getElem?_getD, List.getElem?_eq_getElem hd]
  simp only [Option.map_some, Option.getD_some] at h1 ⊢
  have hdl : d < E.t.length := by omega
  rw [List.getElem?_set_self (by simpa using hdl)] at h1
  exact Option.some.inj h1
theorem anyQ_sound {P : Program} {rd : Option Nat} {ops : Array Oper} {Z : List Deferred → List PanicEntry → Hp → Prop} {K : Env → Hp → Prop} {T : List Nat} (hT : TabOk ops T) (hs : Region.noSelect ops = true) :
    ∀ (n : Nat) (listed : List Bool) (pend : Pend) (E : Env) (H : Hp), ClosedL ops listed.toArray → PendOk P ops T listed.toArray pend E.act H → anyQ P rd ops T Z K n listed pend E H →
      anyZ P rd (isR P) ops T (onE K) (onZ Z) n listed.toArray pend E.act H := by
  have setA : ∀ (l : List Bool) (i : Nat), (l.set i true).toArray = l.toArray.setIfInBounds i true := by intro l i; simp
  have hsel : ∀ (j : Nat) (o : Oper) cs b, ops[j]? = some o → o.op ≠ .select cs b := fun j oj cs b hj => Region.noSelect_spec hs j oj cs b hj
  intro n
  induction n with
  | zero =>
    intro listed pend E H hcl hpd h
    unfold anyQ at h
    split at h
    · rename_i hr; exact ⟨hr, E, rfl, h⟩
    · exact h.elim
  | succ n ih =>
    intro listed pend E H hcl hpd h
    unfold anyQ at h
    split at h
    · rename_i hr
      exact ⟨fun _ => ⟨E, rfl, h⟩, by rw [hr]; simp⟩
    · rename_i r rs hr
      split at h
      · rename_i i hf
        have hfree := List.find?_some hf
        have hmem := List.mem_of_find?_eq_some hf
        rw [← hr] at hmem
        obtain ⟨hun, o, ho, _⟩ := mem_ready.1 hmem
        obtain ⟨hri, hself, hno, hspec⟩ := freeQ_spec ho hfree
        have hno' : ∀ p ∈ pend, ∀ o', ops[p.1]? = some o' → ∀ d, o.dst = some d → d ∉ o'.looksAt ops := fun p hp => hno p.1 (List.mem_map.2 ⟨p, hp, rfl⟩)
        rw [setK_eq] at h
        obtain ⟨v, hy, hp, E', he, hK⟩ := stepC_yields ho hri h
        have hZ : ∀ (a : Act) d u c H, onZ Z (a.put d u) c H → onZ Z a c H := by
          intro a d u c H hz; unfold onZ at *; rw [put_defers] at hz; exact hz
        -- those that were read, behind this one
        have hpd2 : PendOk P ops T (listed.toArray.setIfInBounds i true) pend E'.act H := by
          intro p hpm
          obtain ⟨o', ho', hy', hl', hap'⟩ := hpd p hpm
          refine ⟨o', ho', ?_, getD_set_true hl', ?_⟩
          · rw [he]
            exact hy'.of_same (execOp_put o' (fun cs b => hsel _ o' cs b ho') _ o.dst v (hno' p hpm o' ho')) (wanted_put o' _ o.dst v (hno' p hpm o' ho'))
          · intro k ok hk hku
            refine hap' k ok hk ?_
            by_cases hjk : i = k
            · subst hjk; exact hun
            · rwa [getD_set_ne true hjk] at hku
        unfold addP at hK
        simp only [ho] at hK
        by_cases hpP : isP P o = true
        · rw [if_pos hpP] at hK
          refine anyZ_first (pB := true) ho hri hT hsel hZ hself n listed.toArray pend E.act H hspec hcl hmem hy (fun _ => hp hpP) hpd hno' ?_
          rw [if_pos rfl, ← setA, ← he]
          exact ih _ _ _ _ (by rw [setA]; exact hcl.set hmem) (by rw [setA]; exact hpd2) hK
        · rw [if_neg hpP] at hK
          cases hdst : o.dst with
          | none => rw [hdst] at hK; exact hK.elim
          | some d =>
            simp only [hdst] at hK
            split at hK
            · rename_i hdl
              rw [getK_eq] at hK
              have hv : (E'.t.getD d (false, undef)).2 = v := slot_of (E := E) (E' := E') (d := d) (v := v) (by rw [he, hdst]) hdl
              rw [hv] at hK
              refine anyZ_first (pB := false) ho hri hT hsel hZ hself n listed.toArray pend E.act H hspec hcl hmem hy (fun h => by cases h) hpd hno' ?_
              rw [if_neg Bool.false_ne_true, ← setA, ← he]
              refine ih _ _ _ _ (by rw [setA]; exact hcl.set hmem) ?_ hK
              intro p hpm
              rw [setA]
              rcases List.mem_cons.1 hpm with rfl | hpm
              · refine ⟨o, ho, ?_, ?_, ?_⟩
                · rw [he]
                  exact hy.of_same (execOp_put o (fun cs b => hsel _ o cs b ho) _ o.dst v hself) (wanted_put o _ o.dst v hself)
                · have hlt : i < listed.toArray.size := by
                    rcases Nat.lt_or_ge i listed.toArray.size with h' | h'
                    · exact h'
                    · rw [Array.getD_eq_getD_getElem?, Array.getElem?_eq_none h'] at hun
                      cases hun
                  rw [Array.getD_eq_getD_getElem?, Array.getElem?_setIfInBounds_self_of_lt hlt]
                  rfl
                · intro k ok hk hku hkb
                  by_cases hik : k = i
                  · subst hik
                    exfalso
                    have hlt : k < listed.toArray.size := by
                      rcases Nat.lt_or_ge k listed.toArray.size with h' | h'
                      · exact h'
                      · rw [Array.getD_eq_getD_getElem?, Array.getElem?_eq_none h'] at hun
                        cases hun
                    rw [Array.getD_eq_getD_getElem?, Array.getElem?_setIfInBounds_self_of_lt hlt] at hku
                    cases hku
                  · refine hspec k ok hk hik ?_ hkb
                    rwa [getD_set_ne true (Ne.symm hik)] at hku
              · exact hpd2 p hpm
            · exact hK.elim
      · refine ⟨fun h0 => (by rw [h0] at hr; cases hr), fun i hi => ?_⟩
        have hmem := hi
        rw [hr] at hi
        have h1 := allC_mem h i hi
        simp only [setK_eq] at h1
        obtain ⟨hun, o, ho, _⟩ := mem_ready.1 hmem
        refine (xStep_ext ho (stepC_sound h1)).mono ?_ (fun _ _ h => h)
        rintro a' H' ⟨hext, E', he, hK⟩
        obtain ⟨hPF, hK⟩ := factsC_sound hK
        rw [he] at hPF
        refine ⟨hPF, ?_⟩
        rw [← setA, ← he]
        refine ih _ _ _ _ (by rw [setA]; exact hcl.set hmem) ?_ hK
        rw [setA, he]
        exact hpd.step hsel ho hun hext hPF
def regQ (P : Program) (rd : Option Nat) (ops : Array Oper) (Z : List Deferred → List PanicEntry → Hp → Prop) (K : Env → Hp → Prop) (E : Env) (H : Hp) : Prop :=
  if Region.noSelect ops && P.follows .mixedOrders then anyQ P rd ops (befL ops.toList 0 []) Z K ops.size (List.replicate ops.size false) [] E H else False
end Go.V

