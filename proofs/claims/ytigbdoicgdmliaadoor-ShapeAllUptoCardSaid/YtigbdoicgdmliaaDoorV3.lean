/- Single operations of a region as conditions, the temporaries in a list. -/
import Derived.Test.YtigbdoicgdmliaaDoorV2
set_option linter.unusedVariables false
set_option linter.unusedSimpArgs false
namespace Go.V

/-- The temporaries, each with a mark (a Bool that is a literal), and the deferred calls. -/
structure Env where
  t : List (Bool × Value)
  d : List Deferred
def Env.act (E : Env) : Act := { tmps := (E.t.map (·.2)).toArray, defers := E.d }

def getK : List (Bool × Value) → Nat → (Bool × Value → Prop) → Prop
  | [], _, k => k (false, undef)
  | x :: _, 0, k => k x
  | _ :: xs, n + 1, k => getK xs n k
def setK {α : Type} : List α → Nat → α → (List α → Prop) → Prop
  | [], _, _, k => k []
  | _ :: xs, 0, v, k => k (v :: xs)
  | x :: xs, n + 1, v, k => setK xs n v (fun ys => k (x :: ys))
theorem getK_eq : ∀ (l : List (Bool × Value)) (i : Nat) (k : Bool × Value → Prop), getK l i k = k (l.getD i (false, undef))
  | [], i, k => by simp [getK]
  | x :: xs, 0, k => rfl
  | x :: xs, n + 1, k => by simp [getK, getK_eq xs n k]
theorem setK_eq {α : Type} : ∀ (l : List α) (i : Nat) (v : α) (k : List α → Prop), setK l i v k = k (l.set i v)
  | [], i, v, k => by simp [setK]
  | x :: xs, 0, v, k => rfl
  | x :: xs, n + 1, v, k => by simp [setK, setK_eq xs n v]

theorem Env.eval_tmp (E : Env) (t : Nat) : E.act.eval (.tmp t) = (E.t.getD t (false, undef)).2 := by
  simp only [Env.act, Act.eval]
  simp [Array.getD_eq_getD_getElem?, List.getD_eq_getElem?_getD]
  cases E.t[t]? <;> rfl

def putE (E : Env) (dst : Option Tmp) (v : Bool × Value) (k : Env → Prop) : Prop := match dst with
  | some d => setK E.t d v fun t' => k ⟨t', E.d⟩
  | none => k E
theorem putE_act {E : Env} {dst : Option Tmp} {v : Bool × Value} {k : Env → Prop} (h : putE E dst v k) : ∃ E', E'.act = E.act.put dst v.2 ∧ E'.d = E.d ∧ k E' := by
  cases dst with
  | none => exact ⟨E, rfl, rfl, h⟩
  | some d =>
    simp only [putE, setK_eq] at h
    refine ⟨⟨E.t.set d v, E.d⟩, ?_, rfl, h⟩
    simp only [Env.act, Act.put]
    congr 1
    simp [List.map_set]

def opK (E : Env) : Operand → (Bool × Value → Prop) → Prop
  | .tmp t, k => getK E.t t k
  | .const v, k => k (true, v)
  | .global g, k => k (true, .pointer (some ⟨g, 0, none⟩))
  | .func f, k => k (true, .func (.func f) #[] #[])
theorem opK_sound {E : Env} {x : Operand} {k : Bool × Value → Prop} (h : opK E x k) : ∃ f, k (f, E.act.eval x) := by
  cases x with
  | tmp t => simp only [opK, getK_eq] at h; rw [Env.eval_tmp]; exact ⟨(E.t.getD t (false, undef)).1, h⟩
  | const v => exact ⟨_, h⟩
  | global g => exact ⟨_, h⟩
  | func f => exact ⟨_, h⟩
def argK (E : Env) : List Operand → (List Value → Prop) → Prop
  | [], k => k []
  | x :: xs, k => opK E x fun v => argK E xs fun vs => k (v.2 :: vs)
theorem argK_sound {E : Env} : ∀ {xs : List Operand} {k : List Value → Prop}, argK E xs k → k (xs.map E.act.eval)
  | [], k, h => h
  | x :: xs, k, h => by
    obtain ⟨f, h⟩ := opK_sound (k := fun v => argK E xs fun vs => k (v.2 :: vs)) h
    exact argK_sound (k := fun vs => k (E.act.eval x :: vs)) h

def brK (c : Bool × Value) (A B : Prop) : Prop := match c with
  | (true, .bool true) => A
  | (true, .bool false) => B
  | (_, .bool b) => (b = true → A) ∧ (b = false → B)
  | _ => False
theorem brK_sound {c : Bool × Value} {A B : Prop} (h : brK c A B) : ∃ b, c.2 = .bool b ∧ (b = true → A) ∧ (b = false → B) := by
  obtain ⟨f, v⟩ := c
  cases v with
  | bool b => cases f <;> cases b <;> exact ⟨_, rfl, by simpa [brK] using h⟩
  | _ => cases f <;> exact h.elim

def nilck (p : Option Addr) (K : Addr → Prop) : Prop := match p with | some ad => K ad | none => False
def IxA (a : Option Addr) (n : Nat) (i : Int) (sz : Nat) (K : Addr → Prop) : Prop := ∃ ad, a = some ad ∧ (0 ≤ i ∧ i < (n : Int)) ∧ K (ad.add (i.toNat * sz))
def bt (s : ByteArray) (i : Int) : Int := ((s.data.toList.getD i.toNat 0).toNat : Int)
def IxS (s : ByteArray) (i : Int) (K : Int → Prop) : Prop := (0 ≤ i ∧ i < (s.size : Int)) ∧ K (bt s i)
def SlS (s : ByteArray) (lo hi : Int) (K : ByteArray → Prop) : Prop := (0 ≤ lo ∧ lo ≤ hi ∧ hi ≤ (s.size : Int)) ∧ K (s.extract lo.toNat hi.toNat)
def cut (a : Option Addr) (c : Nat) (lo hi : Nat) (sz : Nat) : Sl := ⟨if c = lo then a else a.map (·.add (lo * sz)), hi - lo, c - lo⟩
def SlX (a : Option Addr) (c : Nat) (lo hi : Int) (sz : Nat) (K : Sl → Prop) : Prop := (0 ≤ lo ∧ lo ≤ hi ∧ hi ≤ (c : Int)) ∧ K (cut a c lo.toNat hi.toNat sz)

def ixA (P : Program) (t : TypeId) (v i : Value) (K : Addr → Prop) : Prop := match P.underlying t, v, i with
  | some (.slice e), .slice a n _, .int _ j => (match P.info? e with | some inf => IxA a n j inf.size K | none => False)
  | some (.array len e), .pointer (some ad), .int _ j => (match P.info? e with | some inf => (0 ≤ j ∧ j < (len : Int)) ∧ K (ad.add (j.toNat * inf.size)) | none => False)
  | _, _, _ => False
theorem run_sizeOf {P : Program} {e : TypeId} {inf : TypeInfo} (h : P.info? e = some inf) (w : World) : (sizeOf e).run P w = .ok inf.size w := by
  simp [sizeOf, typeInfo, program, bind, Sem.bind, pure, Sem.run, h]
theorem run_underlying {P : Program} {t : TypeId} {d : TypeDesc} (h : P.underlying t = some d) (w : World) : (underlying t).run P w = .ok d w := by
  simp [underlying, program, bind, Sem.bind, pure, Sem.run, h]
theorem ixA_sound {P : Program} {t : TypeId} {v i : Value} {K : Addr → Prop} (h : ixA P t v i K) : ∃ ad, K ad ∧ ∀ w, (Instr.indexAt t v i).run P w = .ok (.pointer (some ad)) w := by
  unfold ixA at h
  split at h
  · rename_i e a n c k j hu
    split at h
    · rename_i inf hi
      obtain ⟨ad, rfl, hb, hK⟩ := h
      refine ⟨_, hK, fun w => ?_⟩
      simp only [Instr.indexAt, asIntOf, bind, Sem.bind, pure]
      rw [run_bind, run_underlying hu w]
      simp only [Sem.bind]
      rw [run_bind, run_underlying hu w]
      simp only [hb, and_self, if_true]
      rw [run_bind, run_sizeOf hi w]
      rfl
    · exact h.elim
  · rename_i len e ad k j hu
    split at h
    · rename_i inf hi
      obtain ⟨hb, hK⟩ := h
      refine ⟨_, hK, fun w => ?_⟩
      simp only [Instr.indexAt, asIntOf, bind, Sem.bind, pure]
      rw [run_bind, run_underlying hu w]
      simp only [Sem.bind, Instr.sureAddr, pure]
      rw [run_bind, run_underlying hu w]
      simp only [hb, and_self, if_true]
      rw [run_bind, run_sizeOf hi w]
      rfl
    · exact h.elim
  · exact h.elim

def ixV (P : Program) (t : TypeId) (v i : Value) (K : Value → Prop) (raw : Prop) : Prop := match P.underlying t, v, i with
  | some .string, .string s, .int _ j => IxS s j fun n => K (.int .u8 n)
  | _, _, _ => raw
theorem ixS_run {P : Program} {t : TypeId} {s : ByteArray} {k : IntKind} {j : Int} (hu : P.underlying t = some .string) (hb : 0 ≤ j ∧ j < (s.size : Int)) (w : World) :
    (Instr.index t (.string s) (.int k j)).run P w = .ok (.int .u8 (bt s j)) w := by
  simp only [Instr.index, asIntOf, bind, Sem.bind, pure]
  rw [run_bind, run_underlying hu w]
  simp only [hb.1, if_true]
  have hlt : j.toNat < s.size := by omega
  have e1 : s[j.toNat]? = some s[j.toNat] := by simp [hlt]
  have e2 : bt s j = (s[j.toNat].toNat : Int) := by
    unfold bt
    have hlt' : j.toNat < s.data.toList.length := by simpa using hlt
    have h3 : s.data.toList.getD j.toNat 0 = s[j.toNat] := by
      rw [List.getD_eq_getElem?_getD, List.getElem?_eq_getElem hlt']
      rfl
    rw [h3]
  rw [e1, e2]
  rfl

def intO (o : Option Value) (d : Int) (K : Int → Prop) : Prop := match o with
  | none => K d
  | some (.int _ j) => K j
  | _ => False
def slK (P : Program) (t : TypeId) (v : Value) (lo hi : Option Value) (K : Value → Prop) : Prop := match P.underlying t, v with
  | some .string, .string s => intO lo 0 fun l => intO hi (s.size : Int) fun h => SlS s l h fun r => K (.string r)
  | some (.slice e), .slice a n c => (match P.info? e with
      | some inf => intO lo 0 fun l => intO hi (n : Int) fun h => n ≤ c ∧ SlX a c l h inf.size fun s => K (.slice s.a s.n s.c)
      | none => False)
  | _, _ => False
theorem intO_sound {o : Option Value} {d : Int} {K : Int → Prop} (h : intO o d K) : (o = none ∧ K d) ∨ ∃ k j, o = some (.int k j) ∧ K j := by
  unfold intO at h
  split at h
  · exact .inl ⟨rfl, h⟩
  · exact .inr ⟨_, _, rfl, h⟩
  · exact h.elim
theorem sliceBound_run {P : Program} {k : IntKind} {j : Int} {y : Nat} {code : BoundsCode} (h0 : 0 ≤ j) (h1 : j ≤ (y : Int)) (w : World) :
    (Instr.sliceBound (.int k j) y code).run P w = .ok j.toNat w := by
  simp [Instr.sliceBound, asIntOf, bind, Sem.bind, pure, h0, h1, Sem.run]
theorem bounds_run {P : Program} {isSl : Bool} {n c : Nat} {lo hi : Option Value} {l h : Int} (hlo : (lo = none ∧ l = 0) ∨ ∃ k, lo = some (.int k l)) (hhi : (hi = none ∧ h = (n : Int)) ∨ ∃ k, hi = some (.int k h))
    (h0 : 0 ≤ l) (h1 : l ≤ h) (h2 : h ≤ (c : Int)) (w : World) : (Instr.sliceBounds isSl n c lo hi none).run P w = .ok (l.toNat, h.toNat, c) w := by
  unfold Instr.sliceBounds
  simp only [bind, pure, Sem.bind]
  rcases hhi with ⟨rfl, rfl⟩ | ⟨k, rfl⟩
  · rcases hlo with ⟨rfl, rfl⟩ | ⟨k', rfl⟩
    · simp [Sem.bind, Sem.run]
    · simp only [Sem.bind]
      rw [run_bind, sliceBound_run h0 (by omega) w]
      simp [Sem.run]
  · simp only
    rw [run_bind, sliceBound_run (by omega) h2 w]
    rcases hlo with ⟨rfl, rfl⟩ | ⟨k', rfl⟩
    · simp [Sem.bind, Sem.run]
    · simp only
      rw [run_bind, sliceBound_run h0 (by omega) w]
      simp [Sem.run]
theorem slK_sound {P : Program} {t : TypeId} {v : Value} {lo hi : Option Value} {K : Value → Prop} (h : slK P t v lo hi K) :
    ∃ r, K r ∧ ∀ w, (Instr.sliceAt t v lo hi none).run P w = .ok r w := by
  unfold slK at h
  have conv : ∀ {o : Option Value} {d : Int} {K : Int → Prop}, intO o d K → ∃ j, K j ∧ ((o = none ∧ j = d) ∨ ∃ k, o = some (.int k j)) := by
    intro o d K h
    rcases intO_sound h with ⟨rfl, h⟩ | ⟨k, j, rfl, h⟩
    · exact ⟨d, h, .inl ⟨rfl, rfl⟩⟩
    · exact ⟨j, h, .inr ⟨k, rfl⟩⟩
  split at h
  · rename_i s hu
    obtain ⟨l, h, hlo⟩ := conv h
    obtain ⟨u, h, hhi⟩ := conv h
    obtain ⟨⟨h0, h1, h2⟩, hK⟩ := h
    refine ⟨_, hK, fun w => ?_⟩
    simp only [Instr.sliceAt, bind]
    rw [run_bind, run_underlying hu w]
    simp only [Instr.slice, bind]
    rw [run_bind, run_underlying hu w]
    simp only [Option.isSome_none, Bool.false_eq_true, if_false, pure, Sem.bind]
    rw [run_bind, bounds_run hlo hhi h0 h1 h2 w]
    rfl
  · rename_i e a n c hu
    split at h
    · rename_i inf hi'
      obtain ⟨l, h, hlo⟩ := conv h
      obtain ⟨u, h, hhi⟩ := conv h
      obtain ⟨hnc, ⟨h0, h1, h2⟩, hK⟩ := h
      refine ⟨_, hK, fun w => ?_⟩
      simp only [Instr.sliceAt, bind]
      rw [run_bind, run_underlying hu w]
      simp only [Instr.slice, bind]
      rw [run_bind, run_underlying hu w]
      simp only
      rw [run_bind, bounds_run hlo hhi h0 h1 h2 w]
      simp only
      rw [run_bind, run_sizeOf hi' w]
      rfl
    · exact h.elim
  · exact h.elim

/-- a slice with three indexes -/
def SlX3 (a : Option Addr) (c : Nat) (lo hi mx : Int) (sz : Nat) (K : Sl → Prop) : Prop := (0 ≤ lo ∧ lo ≤ hi ∧ hi ≤ mx ∧ mx ≤ (c : Int)) ∧ K (cut a mx.toNat lo.toNat hi.toNat sz)
def slK3 (P : Program) (t : TypeId) (v : Value) (lo hi : Option Value) (m : Value) (K : Value → Prop) : Prop := match P.underlying t, v, hi, m with
  | some (.slice e), .slice a n c, some (.int _ h), .int _ mx => (match P.info? e with
      | some inf => intO lo 0 fun l => SlX3 a c l h mx inf.size fun s => K (.slice s.a s.n s.c)
      | none => False)
  | _, _, _, _ => False
theorem slK3_sound {P : Program} {t : TypeId} {v : Value} {lo hi : Option Value} {m : Value} {K : Value → Prop} (h : slK3 P t v lo hi m K) :
    ∃ r, K r ∧ ∀ w, (Instr.sliceAt t v lo hi (some m)).run P w = .ok r w := by
  unfold slK3 at h
  split at h
  · rename_i e a n c k hh k' mx hu
    split at h
    · rename_i inf hi'
      have key : ∀ (l : Int), (lo = none ∧ l = 0 ∨ ∃ k, lo = some (.int k l)) → SlX3 a c l hh mx inf.size (fun s => K (.slice s.a s.n s.c)) → ∃ r, K r ∧ ∀ w, (Instr.sliceAt t (.slice a n c) lo (some (.int k hh)) (some (.int k' mx))).run P w = .ok r w := by
        rintro l hlo ⟨⟨h0, h1, h2, h3⟩, hK⟩
        refine ⟨_, hK, fun w => ?_⟩
        have hb : (Instr.sliceBounds true n c lo (some (.int k hh)) (some (.int k' mx))).run P w = .ok (l.toNat, hh.toNat, mx.toNat) w := by
          unfold Instr.sliceBounds
          simp only [bind, pure, Sem.bind]
          rw [run_bind, sliceBound_run (by omega) h3 w]
          simp only
          rw [run_bind, sliceBound_run (by omega) (by omega) w]
          rcases hlo with ⟨rfl, rfl⟩ | ⟨k2, rfl⟩
          · simp [Sem.bind, Sem.run]
          · simp only
            rw [run_bind, sliceBound_run h0 (by omega) w]
            simp [Sem.run]
        simp only [Instr.sliceAt, bind]
        rw [run_bind, run_underlying hu w]
        simp only [Instr.slice, bind]
        rw [run_bind, run_underlying hu w]
        simp only
        rw [run_bind, hb]
        simp only
        rw [run_bind, run_sizeOf hi' w]
        rfl
      rcases intO_sound h with ⟨hn, h⟩ | ⟨k2, j, hj, h⟩
      · exact key 0 (.inl ⟨hn, rfl⟩) h
      · exact key j (.inr ⟨k2, hj⟩) h
    · exact h.elim
  · exact h.elim

/-- two addresses, held against each other -/
def PEq (p : Option Addr) (b : Addr) (K : Bool → Prop) : Prop := match p with
  | none => K false
  | some a => a.block = b.block ∧ K (a == b)

/-- structs of scalars, field by field -/
def eqSc (d : TypeDesc) (v u : Value) : Option Bool := match d, v, u with
  | .bool, .bool a, .bool b => some (a == b)
  | .int _, .int k a, .int k' b => if k = k' then some (a == b) else none
  | .string, .string a, .string b => some (a == b)
  | _, _, _ => none
def eqFs (P : Program) (xs ys : List Value) : List Field → Option Bool
  | [] => some true
  | f :: fs => if f.name == "_" then none else match P.underlying f.type with
    | none => none
    | some d => match xs[f.offset]?, ys[f.offset]? with
      | some v, some u => match eqSc d v u with
        | none => none
        | some b => match eqFs P xs ys fs with
          | none => none
          | some r => some (b && r)
      | _, _ => none
def eqAg (P : Program) (t : TypeId) (xs ys : List Value) : Option Bool :=
  if P.stoodInHeld t || P.eqGuardType P.depth t then none else match P.underlying t with
    | some (.struct fs) => eqFs P xs ys fs.toList
    | _ => none
theorem eqSc_run {P : Program} {t : TypeId} {d : TypeDesc} {v u : Value} {b : Bool} (hd : P.underlying t = some d) (h : eqSc d v u = some b) (n : Nat) (w : World) : (Op.equalIn (n + 1) t v u).run P w = .ok b w := by
  simp only [Op.equalIn, bind]
  rw [run_bind, run_underlying hd w]
  unfold eqSc at h
  split at h
  · simp only [Option.some.injEq] at h; subst h; rfl
  · split at h
    · rename_i hk
      simp only [Option.some.injEq] at h; subst h
      simp only [hk, if_true]
      rfl
    · cases h
  · simp only [Option.some.injEq] at h; subst h; rfl
  · cases h
theorem part_sc {P : Program} {t : TypeId} {d : TypeDesc} {v u : Value} {b : Bool} {xs : List Value} {o : Nat} (hd : P.underlying t = some d) (h : eqSc d v u = some b) (hv : xs[o]? = some v) (w : World) : (part t xs.toArray o).run P w = .ok v w := by
  unfold part isAgg
  simp only [bind]
  rw [run_bind, run_bind, run_underlying hd w]
  unfold eqSc at h
  split at h <;> first | (cases h; done) | skip
  all_goals
    simp only [pure, Sem.run, Bool.false_eq_true, if_false, List.getElem?_toArray, hv]
theorem part_sc2 {P : Program} {t : TypeId} {d : TypeDesc} {v u : Value} {b : Bool} {xs : List Value} {o : Nat} (hd : P.underlying t = some d) (h : eqSc d v u = some b) (hv : xs[o]? = some u) (w : World) : (part t xs.toArray o).run P w = .ok u w := by
  unfold part isAgg
  simp only [bind]
  rw [run_bind, run_bind, run_underlying hd w]
  unfold eqSc at h
  split at h <;> first | (cases h; done) | skip
  all_goals
    simp only [pure, Sem.run, Bool.false_eq_true, if_false, List.getElem?_toArray, hv]
theorem eqFs_run {P : Program} {xs ys : List Value} (n : Nat) : ∀ (fs : List Field) (r : Bool), eqFs P xs ys fs = some r → ∀ w : World,
    (do for f in fs do
          if f.name ≠ "_" then
            if !(← Op.equalIn (n + 1) f.type (← part f.type xs.toArray f.offset) (← part f.type ys.toArray f.offset)) then return false
        pure true : Sem Bool).run P w = .ok r w := by
  intro fs
  induction fs with
  | nil => intro r h w; simp only [eqFs, Option.some.injEq] at h; subst h; rfl
  | cons f fs ih =>
    intro r h w
    unfold eqFs at h
    split at h
    · cases h
    · rename_i hname
      split at h
      · cases h
      · rename_i d hd
        split at h
        · rename_i v u hv hu
          split at h
          · cases h
          · rename_i b hb
            split at h
            · cases h
            · rename_i r' hr'
              simp only [Option.some.injEq] at h
              subst h
              have ih' := ih r' hr' w
              have hn : f.name ≠ "_" := by simpa using hname
              simp only [List.forIn_cons, bind] at ih' ⊢
              rw [run_bind, run_bind, if_pos hn, run_bind, part_sc hd hb hv w]
              simp only
              rw [run_bind, part_sc2 hd hb hu w]
              simp only
              rw [run_bind, eqSc_run hd hb n w]
              simp only
              cases b with
              | false => rfl
              | true =>
                simp only [Bool.not_true, Bool.false_eq_true, if_false, pure, Sem.run, Bool.true_and]
                rw [run_bind] at ih'
                exact ih'
        · cases h
theorem eqAg_run {P : Program} {t : TypeId} {xs ys : List Value} {r : Bool} (h : eqAg P t xs ys = some r) (w : World) :
    (Op.equal t (.agg xs.toArray) (.agg ys.toArray)).run P w = .ok r w ∧ P.eqGuardType P.depth t = false := by
  unfold eqAg at h
  split at h
  · cases h
  · rename_i hg
    simp only [Bool.or_eq_true, not_or, Bool.not_eq_true] at hg
    refine ⟨?_, hg.2⟩
    split at h
    · rename_i fs hfs
      have key : (Op.equalIn (9998 + 1 + 1) t (.agg xs.toArray) (.agg ys.toArray)).run P w = .ok r w := by
        rw [Op.equalIn]
        simp only [bind]
        rw [run_bind, run_underlying hfs w]
        simp only [program]
        rw [run_bind]
        simp only [Sem.run, hg.1, Bool.false_eq_true, if_false, pure]
        have := eqFs_run 9998 fs.toList r h w
        simp only [bind] at this
        rw [← Array.forIn_toList]
        exact this
      exact key
    · cases h
/-- an interface's value, held against nil -/
def NilI (v : Value) (K : Bool → Prop) : Prop := match v with
  | .nilIface => K true
  | .iface _ _ => K false
  | _ => False
/-- operators whose answers hang on more than the kinds of their operands; 'yc': the second one is a constant -/
def binK (P : Program) (op : BinOp) (t : TypeId) (yc : Bool) (v u : Value) (K : Value → Prop) (raw : Prop) : Prop := match op, v, u with
  | .shl, .int k a, .int _ b => if yc then raw else 0 ≤ b ∧ K (.int k (k.wrap (a * 2 ^ min b.toNat k.bits)))
  | .shr, .int k a, .int _ b => if yc then raw else 0 ≤ b ∧ K (.int k (a.fdiv (2 ^ min b.toNat k.bits)))
  | .quo, .int k a, .int k' b => if yc then raw else if k = k' then b ≠ 0 ∧ K (.int k (k.wrap (a.tdiv b))) else False
  | .rem, .int k a, .int k' b => if yc then raw else if k = k' then b ≠ 0 ∧ K (.int k (a.tmod b)) else False
  | .add, .string a, .string b => a.size + b.size ≤ 4611686018427387904 ∧ K (.string (a ++ b))
  | .eql, .pointer p, .pointer none => (match P.underlying t with | some (.pointer _) => K (.bool p.isNone) | _ => False)
  | .neq, .pointer p, .pointer none => (match P.underlying t with | some (.pointer _) => K (.bool (!p.isNone)) | _ => False)
  | .eql, .pointer p, .pointer (some b) => (match P.underlying t with | some (.pointer e) => (match P.info? e with | some inf => if inf.size = 0 then False else PEq p b fun r => K (.bool r) | none => False) | _ => False)
  | .neq, .pointer p, .pointer (some b) => (match P.underlying t with | some (.pointer e) => (match P.info? e with | some inf => if inf.size = 0 then False else PEq p b fun r => K (.bool (!r)) | none => False) | _ => False)
  | .eql, .slice a _ _, .slice none _ _ => (match P.underlying t with | some (.slice _) => K (.bool a.isNone) | _ => False)
  | .neq, .slice a _ _, .slice none _ _ => (match P.underlying t with | some (.slice _) => K (.bool (!a.isNone)) | _ => False)
  | .eql, .map m, .map none => (match P.underlying t with | some (.map _ _) => K (.bool m.isNone) | _ => False)
  | .neq, .map m, .map none => (match P.underlying t with | some (.map _ _) => K (.bool (!m.isNone)) | _ => False)
  | .eql, .agg xs, .agg ys => (match eqAg P t xs.toList ys.toList with | some r => K (.bool r) | none => False)
  | .neq, .agg xs, .agg ys => (match eqAg P t xs.toList ys.toList with | some r => K (.bool (!r)) | none => False)
  | _, _, _ => raw
/-- as binK; a constant nil of an interface's type comes first -/
def binC (P : Program) (op : BinOp) (t : TypeId) (yc : Bool) (v u : Value) (K : Value → Prop) (raw : Prop) : Prop := match u with
  | .nilIface => if yc then (match P.underlying t with
      | some (.interface _) => (match op with
        | .eql => NilI v fun b => K (.bool b)
        | .neq => NilI v fun b => K (.bool (!b))
        | _ => raw)
      | _ => raw) else raw
  | _ => binK P op t yc v u K raw

def pureK (P : Program) (o : Oper) (E : Env) (K : Bool × Value → Prop) : Prop := match pureV P (execOp E.act.eval o) with
  | some (.value v) => K (false, v)
  | _ => False
theorem pureK_sound {P : Program} {o : Oper} {E : Env} {K : Bool × Value → Prop} (h : pureK P o E K) :
    ∃ f v, K (f, v) ∧ ∀ w, (execOp E.act.eval o).run P w = .ok (.value v) w := by
  unfold pureK at h
  split at h
  · rename_i v hv; exact ⟨_, v, h, fun w => pureV_run _ hv w⟩
  · exact h.elim
def isConst (x : Operand) : Bool := match x with | .const _ => true | _ => false

/-- Operations that look at their operands alone. -/
def copP (P : Program) (o : Oper) (E : Env) (K : Bool × Value → Prop) : Prop := match o.op with
  | .move x | .assign x => opK E x K
  | .pick c a b => opK E c fun c => brK c (opK E a K) (opK E b K)
  | .nilCheck x => opK E x fun v => (match v.2 with
      | .pointer p => nilck p fun ad => K (false, .pointer (some ad))
      | _ => pureK P o E K)
  | .indexAddr t x i => opK E x fun v => opK E i fun u => ixA P t v.2 u.2 fun ad => K (false, .pointer (some ad))
  | .index t x i => opK E x fun v => opK E i fun u => ixV P t v.2 u.2 (fun r => K (false, r)) (pureK P o E K)
  | .slice t x lo hi none => opK E x fun v => slK P t v.2 (lo.map E.act.eval) (hi.map E.act.eval) fun r => K (false, r)
  | .slice t x lo hi (some m) => opK E x fun v => opK E m fun u => slK3 P t v.2 (lo.map E.act.eval) (hi.map E.act.eval) u.2 fun r => K (false, r)
  | .binOp op t x y _ => opK E x fun v => opK E y fun u => binC P op t (isConst y) v.2 u.2 (fun r => K (false, r)) (pureK P o E K)
  | _ => pureK P o E K

theorem equal_ptr {P : Program} {t e : TypeId} (h : P.underlying t = some (.pointer e)) (p : Option Addr) (w : World) : (Op.equal t (.pointer p) (.pointer none)).run P w = .ok p.isNone w := by
  have : ∀ d, (Op.equalIn (d + 1) t (.pointer p) (.pointer none)).run P w = .ok p.isNone w := by
    intro d
    simp only [Op.equalIn, bind]
    rw [run_bind, run_underlying h w]
    cases p <;> rfl
  exact this 9999
theorem equal_pp {P : Program} {t e : TypeId} {inf : TypeInfo} (h : P.underlying t = some (.pointer e)) (hi : P.info? e = some inf) (hs : inf.size ≠ 0) {p : Option Addr} {b : Addr} {K : Bool → Prop} (hp : PEq p b K) :
    ∃ r, K r ∧ ∀ w, (Op.equal t (.pointer p) (.pointer (some b))).run P w = .ok r w := by
  have eqd : ∀ d w, (Op.equalIn (d + 1) t (.pointer p) (.pointer (some b))).run P w = (match p with
      | none => pure false
      | some a => do if (← sizeOf e) ≠ 0 then sameAddr a b else if a == b then pure true else pure ((← choose .zeroSizeEq) = 1) : Sem Bool).run P w := by
    intro d w
    simp only [Op.equalIn, bind]
    rw [run_bind, run_underlying h w]
    cases p <;> rfl
  cases p with
  | none => exact ⟨false, hp, fun w => eqd 9999 w⟩
  | some a =>
    obtain ⟨hb, hK⟩ := hp
    refine ⟨_, hK, fun w => ?_⟩
    refine (eqd 9999 w).trans ?_
    simp only [bind]
    rw [run_bind, run_sizeOf hi w]
    simp only [hs, ne_eq, not_false_eq_true, if_true]
    have : (a.block == b.block) = true := by simpa using hb
    simp only [sameAddr, this, if_true, pure, Sem.run]
theorem equal_sl {P : Program} {t e : TypeId} (h : P.underlying t = some (.slice e)) (a : Option Addr) (n c n' c' : Nat) (w : World) : (Op.equal t (.slice a n c) (.slice none n' c')).run P w = .ok a.isNone w := by
  have : ∀ d, (Op.equalIn (d + 1) t (.slice a n c) (.slice none n' c')).run P w = .ok a.isNone w := by
    intro d
    simp only [Op.equalIn, bind]
    rw [run_bind, run_underlying h w]
    cases a <;> rfl
  exact this 9999
theorem equal_map {P : Program} {t k e : TypeId} (h : P.underlying t = some (.map k e)) (m : Option Nat) (w : World) : (Op.equal t (.map m) (.map none)).run P w = .ok m.isNone w := by
  have : ∀ d, (Op.equalIn (d + 1) t (.map m) (.map none)).run P w = .ok m.isNone w := by
    intro d
    simp only [Op.equalIn, bind]
    rw [run_bind, run_underlying h w]
    cases m <;> rfl
  exact this 9999

theorem eqGuard_scalar {P : Program} {op : BinOp} {t : TypeId} {x y : Operand} {a b : Value} (h : ∀ cs, a ≠ .agg cs) (h' : a ≠ .nilIface) (w : World) : (eqGuard op t x y a b).run P w = .ok () w := by
  unfold eqGuard
  cases op <;> (try (simp [bind, Sem.bind, pure, Sem.run]; done))
  all_goals
    simp only [Bool.not_true, Bool.false_eq_true, if_false, bind, pure, Sem.bind]
    cases a <;> first
      | (exact absurd rfl (h _))
      | (exact absurd rfl h')
      | rfl

theorem run_bin {P : Program} {o : Oper} {E : Env} {op : BinOp} {t t' : TypeId} {x y : Operand} (ho : o.op = .binOp op t x y t') {r : Value}
    (h1 : ∀ cs, E.act.eval x ≠ .agg cs) (h2 : E.act.eval x ≠ .nilIface) (w : World) (hr : (binOp op t (E.act.eval x) (E.act.eval y)).run P w = .ok r w) :
    (execOp E.act.eval o).run P w = .ok (.value r) w := by
  unfold execOp
  rw [ho]
  simp only [bind]
  rw [run_bind, run_bind, eqGuard_scalar h1 h2 w]
  simp only [hr]
  rfl

theorem run_bin_agg {P : Program} {o : Oper} {E : Env} {op : BinOp} {t t' : TypeId} {x y : Operand} (ho : o.op = .binOp op t x y t') {r : Value} {xs ys : Array Value}
    (h1 : E.act.eval x = .agg xs) (h2 : E.act.eval y = .agg ys) (hop : op = .eql ∨ op = .neq) (hg : P.eqGuardType P.depth t = false) (w : World) (hr : (binOp op t (E.act.eval x) (E.act.eval y)).run P w = .ok r w) :
    (execOp E.act.eval o).run P w = .ok (.value r) w := by
  have hgd : (eqGuard op t x y (E.act.eval x) (E.act.eval y)).run P w = .ok () w := by
    rw [h1, h2]
    unfold eqGuard
    rcases hop with rfl | rfl <;>
      (simp only [program, bind, Sem.bind, pure, Sem.run, hg, Bool.not_true, Bool.not_false, Bool.false_eq_true, if_true, if_false]) <;> rfl
  unfold execOp
  rw [ho]
  simp only [bind]
  rw [run_bind, run_bind, hgd]
  simp only [hr]
  rfl
theorem run_bin_nil {P : Program} {o : Oper} {E : Env} {op : BinOp} {t t' : TypeId} {x y : Operand} (ho : o.op = .binOp op t x y t') {r : Value}
    (hy : isConst y = true) (h1 : ∀ cs, E.act.eval x ≠ .agg cs) (w : World) (hr : (binOp op t (E.act.eval x) (E.act.eval y)).run P w = .ok r w) :
    (execOp E.act.eval o).run P w = .ok (.value r) w := by
  have hgd : (eqGuard op t x y (E.act.eval x) (E.act.eval y)).run P w = .ok () w := by
    by_cases hn : E.act.eval x = .nilIface
    · cases y <;> first | (cases hy; done) | skip
      rw [hn]
      unfold eqGuard
      generalize E.act.eval (Operand.const _) = u
      cases op <;> (try (simp [bind, Sem.bind, pure, Sem.run]; done))
      all_goals
        cases u <;> simp [bind, Sem.bind, pure, Sem.run]
    · exact eqGuard_scalar h1 hn w
  unfold execOp
  rw [ho]
  simp only [bind]
  rw [run_bind, run_bind, hgd]
  simp only [hr]
  rfl
theorem binK_sound {P : Program} {o : Oper} {E : Env} {op : BinOp} {t t' : TypeId} {x y : Operand} (ho : o.op = .binOp op t x y t') {K : Bool × Value → Prop}
    (h : binK P op t (isConst y) (E.act.eval x) (E.act.eval y) (fun r => K (false, r)) (pureK P o E K)) :
    ∃ f v, K (f, v) ∧ ∀ w, (execOp E.act.eval o).run P w = .ok (.value v) w := by
  have done : ∀ (r : Value), K (false, r) → (∀ cs, E.act.eval x ≠ .agg cs) → E.act.eval x ≠ .nilIface → (∀ w, (binOp op t (E.act.eval x) (E.act.eval y)).run P w = .ok r w) →
      ∃ f v, K (f, v) ∧ ∀ w, (execOp E.act.eval o).run P w = .ok (.value v) w :=
    fun r hK h1 h2 hr => ⟨false, r, hK, fun w => run_bin ho h1 h2 w (hr w)⟩
  generalize hv : E.act.eval x = v at *
  generalize hu : E.act.eval y = u at *
  have eqd : ∀ (r : Bool), K (false, .bool r) → op = .eql → (∀ cs, v ≠ .agg cs) → v ≠ .nilIface → binOp op t v u = (do pure (.bool (← Op.equal t v u))) → (∀ w, (Op.equal t v u).run P w = .ok r w) →
      ∃ f v, K (f, v) ∧ ∀ w, (execOp E.act.eval o).run P w = .ok (.value v) w := by
    intro r hK ho h1 h2 hb hr
    refine done _ hK h1 h2 (fun w => ?_)
    rw [hb]
    simp only [bind]
    rw [run_bind, hr w]
    rfl
  have neqd : ∀ (r : Bool), K (false, .bool (!r)) → op = .neq → (∀ cs, v ≠ .agg cs) → v ≠ .nilIface → binOp op t v u = (do pure (.bool (!(← Op.equal t v u)))) → (∀ w, (Op.equal t v u).run P w = .ok r w) →
      ∃ f v, K (f, v) ∧ ∀ w, (execOp E.act.eval o).run P w = .ok (.value v) w := by
    intro r hK ho h1 h2 hb hr
    refine done _ hK h1 h2 (fun w => ?_)
    rw [hb]
    simp only [bind]
    rw [run_bind, hr w]
    rfl
  unfold binK at h
  split at h
  · rename_i k a k' b
    split at h
    · exact pureK_sound h
    · refine done _ h.2 (by simp) (by simp) (fun w => ?_)
      have : ¬ (b < 0) := Int.not_lt.2 h.1
      simp [binOp, Op.shift, this, pure, Sem.run]
  · rename_i k a k' b
    split at h
    · exact pureK_sound h
    · refine done _ h.2 (by simp) (by simp) (fun w => ?_)
      have : ¬ (b < 0) := Int.not_lt.2 h.1
      simp [binOp, Op.shift, this, pure, Sem.run]
  · split at h
    · exact pureK_sound h
    · split at h
      · rename_i hk
        subst hk
        refine done _ h.2 (by simp) (by simp) (fun w => ?_)
        simp [binOp, Op.intDiv, h.1, pure, Sem.run]
      · exact h.elim
  · split at h
    · exact pureK_sound h
    · split at h
      · rename_i hk
        subst hk
        refine done _ h.2 (by simp) (by simp) (fun w => ?_)
        simp [binOp, Op.intDiv, h.1, pure, Sem.run]
      · exact h.elim
  · rename_i a b
    refine done _ h.2 (by simp) (by simp) (fun w => ?_)
    have hs := h.1
    have : ¬ (((a.size + b.size : Nat) : Int) > IntKind.i64.max) := by simp [IntKind.max, IntKind.signed, IntKind.bits]; omega
    simp only [binOp, Op.stringOp, this, if_false, pure, Sem.run]
  · split at h
    · rename_i d hd; exact eqd _ h rfl (by simp) (by simp) rfl (equal_ptr hd _)
    · exact h.elim
  · split at h
    · rename_i d hd; exact neqd _ h rfl (by simp) (by simp) rfl (equal_ptr hd _)
    · exact h.elim
  · split at h
    · rename_i e hd
      split at h
      · rename_i inf hi
        split at h
        · exact h.elim
        · rename_i hs
          obtain ⟨r, hK, hr⟩ := equal_pp hd hi hs h
          exact eqd _ hK rfl (by simp) (by simp) rfl hr
      · exact h.elim
    · exact h.elim
  · split at h
    · rename_i e hd
      split at h
      · rename_i inf hi
        split at h
        · exact h.elim
        · rename_i hs
          obtain ⟨r, hK, hr⟩ := equal_pp hd hi hs h
          exact neqd _ hK rfl (by simp) (by simp) rfl hr
      · exact h.elim
    · exact h.elim
  · split at h
    · rename_i d hd; exact eqd _ h rfl (by simp) (by simp) rfl (equal_sl hd _ _ _ _ _)
    · exact h.elim
  · split at h
    · rename_i d hd; exact neqd _ h rfl (by simp) (by simp) rfl (equal_sl hd _ _ _ _ _)
    · exact h.elim
  · split at h
    · rename_i d d' hd; exact eqd _ h rfl (by simp) (by simp) rfl (equal_map hd _)
    · exact h.elim
  · split at h
    · rename_i d d' hd; exact neqd _ h rfl (by simp) (by simp) rfl (equal_map hd _)
    · exact h.elim
  · rename_i xs ys
    split at h
    · rename_i r hr
      have e := fun w => eqAg_run (P := P) (t := t) (xs := xs.toList) (ys := ys.toList) hr w
      simp only [Array.toArray_toList] at e
      refine ⟨false, _, h, fun w => run_bin_agg ho hv hu (.inl rfl) (e w).2 w ?_⟩
      rw [hv, hu]
      show (do pure (Value.bool (← Op.equal t (.agg xs) (.agg ys))) : Sem Value).run P w = _
      simp only [bind]
      rw [run_bind, (e w).1]
      rfl
    · exact h.elim
  · rename_i xs ys
    split at h
    · rename_i r hr
      have e := fun w => eqAg_run (P := P) (t := t) (xs := xs.toList) (ys := ys.toList) hr w
      simp only [Array.toArray_toList] at e
      refine ⟨false, _, h, fun w => run_bin_agg ho hv hu (.inr rfl) (e w).2 w ?_⟩
      rw [hv, hu]
      show (do pure (Value.bool (!(← Op.equal t (.agg xs) (.agg ys)))) : Sem Value).run P w = _
      simp only [bind]
      rw [run_bind, (e w).1]
      rfl
    · exact h.elim
  · exact pureK_sound h
theorem equal_nil {P : Program} {t : TypeId} {ms : Array (String × TypeId)} {v : Value} {K : Bool → Prop} (ht : P.underlying t = some (.interface ms)) (h : NilI v K) : ∃ r, K r ∧ (∀ cs, v ≠ .agg cs) ∧ (∀ w, (Op.equal t v .nilIface).run P w = .ok r w) ∧
    (binOp .eql t v .nilIface = (do pure (.bool (← Op.equal t v .nilIface)))) ∧ (binOp .neq t v .nilIface = (do pure (.bool (!(← Op.equal t v .nilIface))))) := by
  unfold NilI at h
  have eqd : ∀ d w r, (match v with | .nilIface => r = true | .iface _ _ => r = false | _ => False) → (Op.equalIn (d + 1) t v .nilIface).run P w = .ok r w := by
    intro d w r hr
    simp only [Op.equalIn, bind]
    rw [run_bind, run_underlying ht w]
    split at hr
    · subst hr; rfl
    · subst hr; rfl
    · exact hr.elim
  split at h
  · exact ⟨true, h, by simp, fun w => eqd 9999 w true rfl, rfl, rfl⟩
  · exact ⟨false, h, by simp, fun w => eqd 9999 w false rfl, rfl, rfl⟩
  · exact h.elim
theorem binC_sound {P : Program} {o : Oper} {E : Env} {op : BinOp} {t t' : TypeId} {x y : Operand} (ho : o.op = .binOp op t x y t') {K : Bool × Value → Prop}
    (h : binC P op t (isConst y) (E.act.eval x) (E.act.eval y) (fun r => K (false, r)) (pureK P o E K)) :
    ∃ f v, K (f, v) ∧ ∀ w, (execOp E.act.eval o).run P w = .ok (.value v) w := by
  unfold binC at h
  split at h
  · rename_i hu
    split at h
    · rename_i hy
      split at h
      · rename_i ms hms
        split at h
        · obtain ⟨r, hK, h1, hr, hb, _⟩ := equal_nil hms h
          refine ⟨false, _, hK, fun w => run_bin_nil ho hy h1 w ?_⟩
          rw [hu, hb]
          simp only [bind]
          rw [run_bind, hr w]
          rfl
        · obtain ⟨r, hK, h1, hr, _, hb⟩ := equal_nil hms h
          refine ⟨false, _, hK, fun w => run_bin_nil ho hy h1 w ?_⟩
          rw [hu, hb]
          simp only [bind]
          rw [run_bind, hr w]
          rfl
        · exact pureK_sound h
      · exact pureK_sound h
    · exact pureK_sound h
  · exact binK_sound ho h
theorem beqBA {a b : ByteArray} : (a == b) = true ↔ a = b := by
  cases a with | mk x => cases b with | mk y =>
  show (x == y) = true ↔ _
  simp
end Go.V

