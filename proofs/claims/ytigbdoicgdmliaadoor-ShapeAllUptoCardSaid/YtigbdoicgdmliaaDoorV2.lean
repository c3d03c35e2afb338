/- What single operations come to, over heaps, with the kinds of values told by the types. -/
import Derived.Test.YtigbdoicgdmliaaDoorV1
import Derived.Wp
set_option linter.unusedVariables false
set_option linter.unusedSimpArgs false
namespace Go.V

/-! ### heaps -/
def hcell (H : Hp) (a : Addr) : Option Value := match H[a.block]? with
  | some (.cells c _ _) => if a.spot.isSome then none else c[a.off]?
  | _ => none
def hfrozen (H : Hp) (a : Addr) : Bool := match H[a.block]? with
  | some (.cells _ _ (lo, hi)) => lo ≤ a.off && a.off < hi
  | _ => false
def hset (H : Hp) (a : Addr) (v : Value) : Hp := H.modify a.block fun
  | .cells c elem frozen => .cells (if a.spot.isSome then c else c.setIfInBounds a.off v) elem frozen
  | o => o
def hshape (H : Hp) (r : Nat) : Option (TypeId × Nat) := match H[r]? with
  | some (.cells c elem _) => some (elem, c.size)
  | _ => none
def hfreeze (H : Hp) (a : Addr) (n : Nat) : Hp := if n = 0 then H else H.modify a.block fun
  | .cells c elem (lo, hi) => .cells c elem (if lo == hi then (a.off, a.off + n) else (min lo a.off, max hi (a.off + n)))
  | o => o
def isCells : Obj → Bool | .cells .. => true | _ => false
/-- A new block. -/
def Newb (H : Hp) (o : Obj) (b : Nat) (H' : Hp) : Prop := b = H.size ∧ H' = H.push o

def hrun (P : Program) {α : Type} : Sem α → Hp → (α → Hp → Prop) → (Value → Hp → Prop) → Prop
  | .pure a, H, K, _ => K a H
  | .load _ a k, H, K, Z => ∃ v, hcell H a = some v ∧ hrun P (k v) H K Z
  | .store _ a v k, H, K, Z => v.oneCell = true ∧ (∃ u, hcell H a = some u) ∧ hfrozen H a = false ∧ hrun P k (hset H a v) K Z
  | .new o k, H, K, Z => ∀ b H', Newb H o b H' → hrun P (k b) H' K Z
  | .shape r k, H, K, Z => hrun P (k (hshape H r)) H K Z
  | .freeze a n k, H, K, Z => hrun P k (hfreeze H a n) K Z
  | .frozen a k, H, K, Z => hrun P (k (hfrozen H a)) H K Z
  | .getObj r k, H, K, Z => ∃ o, H[r]? = some o ∧ isCells o = false ∧ hrun P (k o) H K Z
  | .setObj r o k, H, K, Z => (∃ o', H[r]? = some o' ∧ isCells o' = false) ∧ hrun P k (H.setIfInBounds r o) K Z
  | .choose q k, H, K, Z => if q.forced then hrun P (k 0) H K Z else ∀ t, hrun P (k (q.cut t)) H K Z
  | .sys _ _, _, _, _ => False
  | .program k, H, K, Z => hrun P (k P) H K Z
  | .mark _ k, H, K, Z => hrun P k H K Z
  | .halt h, H, _, Z => match h with | .panic v => Z v H | _ => False

theorem hrun_sound {α : Type} {P : Program} (s : Sem α) : ∀ {H : Hp} {K : α → Hp → Prop} {Z : Value → Hp → Prop}, hrun P s H K Z → ∀ w : World, w.heap = H →
    match s.run P w with
    | .ok a w' => Lk w w' ∧ K a w'.heap
    | .halt (.panic v) w' => Lk w w' ∧ Z v w'.heap
    | .halt _ _ => False := by
  induction s with
  | pure a => intro H K Z h w hw; subst hw; exact ⟨Lk.refl w, h⟩
  | load m a k ih =>
    intro H K Z h w hw
    subst hw
    obtain ⟨v, hv, h⟩ := h
    have : w.cell? a = some v := hv
    simp only [Sem.run, this]
    exact ih v h w rfl
  | store m a v k ih =>
    intro H K Z h w hw
    subst hw
    obtain ⟨h1, ⟨u, h2⟩, h3, h⟩ := h
    have e2 : w.cell? a = some u := h2
    have e3 : w.frozen? a = false := h3
    have h5 := ih h (w.setCell a v) rfl
    have hl : Lk w (w.setCell a v) := ⟨rfl, rfl, rfl⟩
    have key : Sem.run P (.store m a v k) w = k.run P (w.setCell a v) := by
      cases v <;> first
        | (simp [Value.oneCell] at h1; done)
        | simp [Sem.run, e2, e3]
    rw [key]
    generalize k.run P (w.setCell a v) = r at *
    cases r with
    | ok a w' => exact ⟨hl.trans h5.1, h5.2⟩
    | halt x w' => cases x <;> first | exact h5.elim | exact ⟨hl.trans h5.1, h5.2⟩
  | new o k ih =>
    intro H K Z h w hw
    subst hw
    simp only [Sem.run]
    have h5 := ih w.heap.size (h w.heap.size (w.heap.push o) ⟨rfl, rfl⟩) { w with heap := w.heap.push o } rfl
    have hl : Lk w { w with heap := w.heap.push o } := ⟨rfl, rfl, rfl⟩
    generalize (k w.heap.size).run P { w with heap := w.heap.push o } = r at *
    cases r with
    | ok a w' => exact ⟨hl.trans h5.1, h5.2⟩
    | halt x w' => cases x <;> first | exact h5.elim | exact ⟨hl.trans h5.1, h5.2⟩
  | shape r k ih => intro H K Z h w hw; subst hw; exact ih (w.shape? r) h w rfl
  | freeze a n k ih =>
    intro H K Z h w hw
    subst hw
    simp only [Sem.run]
    have hf : (w.freeze a n).heap = hfreeze w.heap a n := by unfold World.freeze hfreeze; split <;> rfl
    have hl : Lk w (w.freeze a n) := by unfold World.freeze; split <;> exact ⟨rfl, rfl, rfl⟩
    have h5 := ih h (w.freeze a n) hf
    generalize k.run P (w.freeze a n) = r at *
    cases r with
    | ok a w' => exact ⟨hl.trans h5.1, h5.2⟩
    | halt x w' => cases x <;> first | exact h5.elim | exact ⟨hl.trans h5.1, h5.2⟩
  | frozen a k ih => intro H K Z h w hw; subst hw; exact ih (w.frozen? a) h w rfl
  | getObj r k ih =>
    intro H K Z h w hw
    subst hw
    obtain ⟨o, h1, h2, h⟩ := h
    have key : Sem.run P (.getObj r k) w = (k o).run P w := by
      simp only [Sem.run, h1]
      cases o <;> first | (simp [isCells] at h2; done) | rfl
    rw [key]
    exact ih o h w rfl
  | setObj r o k ih =>
    intro H K Z h w hw
    subst hw
    obtain ⟨⟨o', h1, h2⟩, h⟩ := h
    have key : Sem.run P (.setObj r o k) w = k.run P { w with heap := w.heap.setIfInBounds r o } := by
      simp only [Sem.run, h1]
      cases o' <;> first | (simp [isCells] at h2; done) | rfl
    rw [key]
    have hl : Lk w { w with heap := w.heap.setIfInBounds r o } := ⟨rfl, rfl, rfl⟩
    have h5 := ih h { w with heap := w.heap.setIfInBounds r o } rfl
    generalize k.run P { w with heap := w.heap.setIfInBounds r o } = r at *
    cases r with
    | ok a w' => exact ⟨hl.trans h5.1, h5.2⟩
    | halt x w' => cases x <;> first | exact h5.elim | exact ⟨hl.trans h5.1, h5.2⟩
  | choose q k ih =>
    intro H K Z h w hw
    subst hw
    simp only [hrun] at h
    simp only [Sem.run]
    by_cases hq : q.forced = true
    · rw [if_pos hq] at h ⊢
      exact ih 0 h w rfl
    · rw [if_neg hq] at h ⊢
      have hl : Lk w { w with drawn := w.drawn + 1 } := ⟨rfl, rfl, rfl⟩
      have h5 := ih _ (h (w.tape w.drawn q)) { w with drawn := w.drawn + 1 } rfl
      generalize (k (q.cut (w.tape w.drawn q))).run P { w with drawn := w.drawn + 1 } = r at *
      cases r with
      | ok a w' => exact ⟨hl.trans h5.1, h5.2⟩
      | halt x w' => cases x <;> first | exact h5.elim | exact ⟨hl.trans h5.1, h5.2⟩
  | sys c k ih => intro H K Z h; exact h.elim
  | program k ih => intro H K Z h w hw; exact ih P h w hw
  | mark m k ih => intro H K Z h w hw; exact ih h w hw
  | halt x =>
    intro H K Z h w hw
    subst hw
    cases x <;> first | exact h.elim | exact ⟨Lk.refl w, h⟩

theorem hrun.mono {α : Type} {P : Program} (s : Sem α) : ∀ {H : Hp} {K K' : α → Hp → Prop} {Z Z' : Value → Hp → Prop}, hrun P s H K Z → (∀ a H, K a H → K' a H) → (∀ a H, Z a H → Z' a H) → hrun P s H K' Z' := by
  induction s with
  | pure a => intro H K K' Z Z' h hk hz; exact hk _ _ h
  | load m a k ih => intro H K K' Z Z' h hk hz; obtain ⟨v, hv, h⟩ := h; exact ⟨v, hv, ih v h hk hz⟩
  | store m a v k ih => intro H K K' Z Z' h hk hz; exact ⟨h.1, h.2.1, h.2.2.1, ih h.2.2.2 hk hz⟩
  | new o k ih => intro H K K' Z Z' h hk hz b H' hb; exact ih b (h b H' hb) hk hz
  | shape r k ih => intro H K K' Z Z' h hk hz; exact ih _ h hk hz
  | freeze a n k ih => intro H K K' Z Z' h hk hz; exact ih h hk hz
  | frozen a k ih => intro H K K' Z Z' h hk hz; exact ih _ h hk hz
  | getObj r k ih => intro H K K' Z Z' h hk hz; obtain ⟨o, h1, h2, h⟩ := h; exact ⟨o, h1, h2, ih o h hk hz⟩
  | setObj r o k ih => intro H K K' Z Z' h hk hz; exact ⟨h.1, ih h.2 hk hz⟩
  | choose q k ih =>
    intro H K K' Z Z' h hk hz
    simp only [hrun] at h ⊢
    by_cases hq : q.forced = true
    · rw [if_pos hq] at h ⊢; exact ih 0 h hk hz
    · rw [if_neg hq] at h ⊢; exact fun t => ih _ (h t) hk hz
  | sys c k ih => intro H K K' Z Z' h; exact h.elim
  | program k ih => intro H K K' Z Z' h hk hz; exact ih P h hk hz
  | mark m k ih => intro H K K' Z Z' h hk hz; exact ih h hk hz
  | halt x => intro H K K' Z Z' h hk hz; cases x <;> first | exact h.elim | exact hz _ _ h

/-- What looks at neither the heap nor the tape. -/
def pureV (P : Program) {α : Type} : Sem α → Option α
  | .pure a => some a
  | .program k => pureV P (k P)
  | .mark _ k => pureV P k
  | _ => none
theorem pureV_run {P : Program} {α : Type} (s : Sem α) : ∀ {a : α}, pureV P s = some a → ∀ w, s.run P w = .ok a w := by
  induction s <;> intro x h w <;> simp only [pureV] at h <;> try (cases h; done)
  case pure a => cases h; rfl
  case program k ih => exact ih P h w
  case mark m k ih => exact ih h w

/-! ### kinds of values -/
structure Sl where
  a : Option Addr
  n : Nat
  c : Nat
def Sl.v (s : Sl) : Value := .slice s.a s.n s.c
inductive Sc where
  | int (k : IntKind) | bool | str | ptr | sl | map | raw
inductive Ty1 where
  | sc (s : Sc)
  | agg (ss : List Sc)
inductive Ty where
  | one (t : Ty1)
  | tup (ts : List Ty1)

def exS : Sc → (Value → Prop) → Prop
  | .int k, F => ∃ n : Int, F (.int k n)
  | .bool, F => ∃ b : Bool, F (.bool b)
  | .str, F => ∃ s : ByteArray, F (.string s)
  | .ptr, F => ∃ p : Option Addr, F (.pointer p)
  | .sl, F => ∃ s : Sl, F (.slice s.a s.n s.c)
  | .map, F => ∃ m : Option Nat, F (.map m)
  | .raw, F => ∃ v : Value, F v
def exLs : List Sc → (List Value → Prop) → Prop
  | [], F => F []
  | s :: ss, F => exS s fun v => exLs ss fun vs => F (v :: vs)
def ex1 : Ty1 → (Value → Prop) → Prop
  | .sc s, F => exS s F
  | .agg ss, F => exLs ss fun vs => F (.agg vs.toArray)
def ex1s : List Ty1 → (List Value → Prop) → Prop
  | [], F => F []
  | t :: ts, F => ex1 t fun v => ex1s ts fun vs => F (v :: vs)
def exT : Ty → (Value → Prop) → Prop
  | .one t, F => ex1 t F
  | .tup ts, F => ex1s ts fun vs => F (.tuple vs.toArray)

theorem exS_ex {s : Sc} {F : Value → Prop} (h : exS s F) : ∃ v, F v := by cases s <;> (obtain ⟨x, hx⟩ := h; exact ⟨_, hx⟩)
theorem exLs_ex : ∀ {ss : List Sc} {F : List Value → Prop}, exLs ss F → ∃ vs, vs.length = ss.length ∧ F vs
  | [], F, h => ⟨[], rfl, h⟩
  | s :: ss, F, h => by
    obtain ⟨v, h⟩ := exS_ex h
    obtain ⟨vs, hl, h⟩ := exLs_ex h
    exact ⟨v :: vs, by simp [hl], h⟩
theorem ex1_ex {t : Ty1} {F : Value → Prop} (h : ex1 t F) : ∃ v, F v := by
  cases t with
  | sc s => exact exS_ex h
  | agg ss => obtain ⟨vs, _, h⟩ := exLs_ex h; exact ⟨_, h⟩
theorem ex1s_ex : ∀ {ss : List Ty1} {F : List Value → Prop}, ex1s ss F → ∃ vs, F vs
  | [], F, h => ⟨[], h⟩
  | s :: ss, F, h => by
    obtain ⟨v, h⟩ := ex1_ex h
    obtain ⟨vs, h⟩ := ex1s_ex h
    exact ⟨v :: vs, h⟩
theorem exT_ex {t : Ty} {F : Value → Prop} (h : exT t F) : ∃ v, F v := by
  cases t with
  | one t => exact ex1_ex h
  | tup ts => obtain ⟨vs, h⟩ := ex1s_ex h; exact ⟨_, h⟩

def scD : TypeDesc → Sc
  | .int k => .int k
  | .bool => .bool
  | .string => .str
  | .pointer _ => .ptr
  | .slice _ => .sl
  | .map _ _ => .map
  | _ => .raw
def leaves (P : Program) : Nat → TypeId → List Sc
  | 0, _ => [.raw]
  | n + 1, t => match P.underlying t with
    | some (.struct fs) => fs.toList.flatMap fun f => leaves P n f.type
    | some (.array len e) => (List.replicate len (leaves P n e)).flatten
    | some d => [scD d]
    | none => [.raw]
def ty1 (P : Program) (t : TypeId) : Ty1 := match P.underlying t with
  | some (.struct _) | some (.array _ _) => .agg (leaves P 8 t)
  | some d => .sc (scD d)
  | none => .sc .raw
def tyOf (P : Program) (t : TypeId) : Ty := match P.underlying t with
  | some (.tuple ts) => .tup (ts.toList.map (ty1 P))
  | _ => .one (ty1 P t)

def szOk (P : Program) (t : TypeId) (n : Nat) : Bool := match P.info? t with | some i => i.size == n | none => false
def AtL (H : Hp) (a : Addr) : Nat → List Value → Prop
  | _, [] => True
  | i, v :: vs => hcell H (a.add i) = some v ∧ AtL H a (i + 1) vs
def StL (a : Addr) : Nat → List Value → Hp → (Hp → Prop) → Prop
  | _, [], H, K => K H
  | i, v :: vs, H, K => v.oneCell = true ∧ (∃ u, hcell H (a.add i) = some u) ∧ hfrozen H (a.add i) = false ∧ StL a (i + 1) vs (hset H (a.add i) v) K

/-- A variable of a type is read. -/
def ldT (P : Program) (t : TypeId) (H : Hp) (a : Addr) (K : Value → Prop) : Prop := match P.underlying t with
  | some (.struct _) | some (.array _ _) => if szOk P t (leaves P 8 t).length then exLs (leaves P 8 t) fun cs => AtL H a 0 cs ∧ K (.agg cs.toArray) else False
  | some d => exS (scD d) fun v => hcell H a = some v ∧ K v
  | none => False
def stAgg (P : Program) (t : TypeId) (a : Addr) (v : Value) (H : Hp) (K : Hp → Prop) : Prop := match v with
  | .agg cs => if szOk P t cs.size then StL a 0 cs.toList H K else False
  | _ => False
/-- A variable of a type is written. -/
def stT (P : Program) (t : TypeId) (a : Addr) (v : Value) (H : Hp) (K : Hp → Prop) : Prop := match P.underlying t with
  | some (.struct _) | some (.array _ _) => stAgg P t a v H K
  | some _ => if szOk P t 1 then StL a 0 [v] H K else False
  | none => False

theorem szOk_spec {P : Program} {t : TypeId} {n : Nat} (h : szOk P t n = true) : ∃ i, P.info? t = some i ∧ i.size = n := by
  unfold szOk at h
  split at h
  · rename_i i hi; exact ⟨i, hi, by simpa using h⟩
  · simp at h

theorem sizeOf_run {P : Program} {t : TypeId} {n : Nat} (h : szOk P t n = true) (w : World) : (sizeOf t).run P w = .ok n w := by
  obtain ⟨i, hi, hn⟩ := szOk_spec h
  simp [sizeOf, typeInfo, program, bind, Sem.bind, pure, Sem.run, hi, hn]

theorem run_bind {α β : Type} (P : Program) (s : Sem α) (k : α → Sem β) (w : World) :
    (s.bind k).run P w = match s.run P w with | .ok a w' => (k a).run P w' | .halt h w' => .halt h w' := by
  induction s generalizing w with
  | pure a => rfl
  | load m a f ih => simp only [Sem.bind, Sem.run]; (repeat' split) <;> simp_all
  | store m a v f ih => cases v <;> simp only [Sem.bind, Sem.run] <;> (repeat' split) <;> simp_all
  | new o f ih => simp only [Sem.bind, Sem.run]; exact ih _ _
  | shape r f ih => simp only [Sem.bind, Sem.run]; exact ih _ _
  | freeze a n f ih => simp only [Sem.bind, Sem.run]; exact ih _
  | frozen a f ih => simp only [Sem.bind, Sem.run]; exact ih _ _
  | getObj r f ih => simp only [Sem.bind, Sem.run]; (repeat' split) <;> simp_all
  | setObj r o f ih => simp only [Sem.bind, Sem.run]; (repeat' split) <;> simp_all
  | choose q f ih => simp only [Sem.bind, Sem.run]; (repeat' split) <;> simp_all
  | sys c f ih => simp only [Sem.bind, Sem.run]; exact ih _ _
  | program f ih => simp only [Sem.bind, Sem.run]; exact ih _ _
  | mark m f ih => simp only [Sem.bind, Sem.run]; exact ih _
  | halt h => rfl

theorem loadCells_run {P : Program} {w : World} {a : Addr} : ∀ (cs : List Value) (i : Nat) (acc : Array Value), AtL w.heap a i cs →
    (loadCellsFrom a i cs.length acc).run P w = .ok (acc ++ cs.toArray) w
  | [], i, acc, _ => by simp [loadCellsFrom, pure, Sem.run]
  | c :: cs, i, acc, h => by
    obtain ⟨h1, h2⟩ := h
    have h1' : w.cell? (a.add i) = some c := h1
    simp only [List.length_cons, loadCellsFrom, bind, load, Sem.bind, Sem.run, h1']
    rw [loadCells_run cs (i + 1) (acc.push c) h2]
    simp

theorem ldT_run {P : Program} {t : TypeId} {H : Hp} {a : Addr} {K : Value → Prop} (h : ldT P t H a K) :
    ∃ v, K v ∧ ∀ w : World, w.heap = H → (loadVar t a).run P w = .ok v w := by
  unfold ldT at h
  have agg : ∀ (hu : ∀ w, (isAgg t).run P w = .ok true w), (if szOk P t (leaves P 8 t).length then exLs (leaves P 8 t) fun cs => AtL H a 0 cs ∧ K (.agg cs.toArray) else False) →
      ∃ v, K v ∧ ∀ w : World, w.heap = H → (loadVar t a).run P w = .ok v w := by
    intro hu h
    split at h
    · rename_i hs
      obtain ⟨cs, hl, hat, hK⟩ := exLs_ex h
      refine ⟨_, hK, fun w hw => ?_⟩
      subst hw
      unfold loadVar
      simp only [bind]
      rw [run_bind, hu w]
      simp only [if_true]
      rw [run_bind, sizeOf_run (hl ▸ hs) w]
      simp only
      rw [run_bind]
      unfold loadCells
      rw [loadCells_run cs 0 #[] hat]
      simp [pure, Sem.run]
    · exact h.elim
  split at h
  · rename_i fs hu
    exact agg (fun w => by simp [isAgg, underlying, program, bind, Sem.bind, pure, Sem.run, hu]) h
  · rename_i l e hu
    exact agg (fun w => by simp [isAgg, underlying, program, bind, Sem.bind, pure, Sem.run, hu]) h
  · rename_i d hn1 hn2 hu
    obtain ⟨v, hv, hK⟩ := exS_ex h
    refine ⟨v, hK, fun w hw => ?_⟩
    subst hw
    have hv' : w.cell? a = some v := hv
    unfold loadVar
    simp only [bind]
    rw [run_bind]
    have : (isAgg t).run P w = .ok false w := by
      simp only [isAgg, underlying, program, bind, Sem.bind, pure, Sem.run, hu]
      try (cases d <;> first | rfl | (exact absurd hu (hn1 _)) | (exact absurd hu (hn2 _ _)))
    rw [this]
    simp only [Bool.false_eq_true, if_false, load, Sem.run, hv']
  · exact h.elim

theorem storeCells_run {P : Program} {a : Addr} : ∀ (cs : List Value) (i : Nat) {H : Hp} {K : Hp → Prop}, StL a i cs H K → ∀ w : World, w.heap = H →
    ∃ w', (storeCells a cs i).run P w = .ok () w' ∧ Lk w w' ∧ K w'.heap
  | [], i, H, K, h, w, hw => by subst hw; exact ⟨w, rfl, Lk.refl w, h⟩
  | c :: cs, i, H, K, h, w, hw => by
    subst hw
    obtain ⟨h1, ⟨u, h2⟩, h3, h⟩ := h
    have e2 : w.cell? (a.add i) = some u := h2
    have e3 : w.frozen? (a.add i) = false := h3
    obtain ⟨w', hr, hl, hK⟩ := storeCells_run (P := P) cs (i + 1) h (w.setCell (a.add i) c) rfl
    refine ⟨w', ?_, Lk.trans ⟨rfl, rfl, rfl⟩ hl, hK⟩
    rw [← hr]
    cases c <;> first
      | (simp [Value.oneCell] at h1; done)
      | simp [storeCells, store, bind, Sem.bind, Sem.run, e2, e3, pure]

theorem stT_run {P : Program} {t : TypeId} {a : Addr} {v : Value} {H : Hp} {K : Hp → Prop} (h : stT P t a v H K) :
    ∀ w : World, w.heap = H → ∃ w', (storeVar t a v).run P w = .ok () w' ∧ Lk w w' ∧ K w'.heap := by
  intro w hw
  have fin : ∀ (n : Nat) (hs : szOk P t n = true) (hn : v.cells.size = n), StL a 0 v.cells.toList H K → ∃ w', (storeVar t a v).run P w = .ok () w' ∧ Lk w w' ∧ K w'.heap := by
    intro n hs hn hst
    obtain ⟨w', hr, hl, hK⟩ := storeCells_run (P := P) v.cells.toList 0 hst w hw
    refine ⟨w', ?_, hl, hK⟩
    unfold storeVar
    simp only [bind]
    rw [run_bind, sizeOf_run hs w]
    simp only [hn, ne_eq, not_true_eq_false, if_false]
    exact hr
  have agg : stAgg P t a v H K → ∃ w', (storeVar t a v).run P w = .ok () w' ∧ Lk w w' ∧ K w'.heap := by
    clear h
    intro h
    cases v with
    | agg cs =>
      simp only [stAgg] at h
      by_cases hs : szOk P t cs.size = true
      · rw [if_pos hs] at h; exact fin cs.size hs rfl h
      · rw [if_neg hs] at h; exact h.elim
    | _ => exact h.elim
  unfold stT at h
  split at h
  · exact agg h
  · exact agg h
  · split at h
    · rename_i hs
      have h1 : v.oneCell = true := h.1
      have hc : v.cells = #[v] := by cases v <;> first | rfl | (simp [Value.oneCell] at h1; done)
      exact fin 1 hs (by rw [hc]; rfl) (by rw [hc]; exact h)
    · exact h.elim
  · exact h.elim
end Go.V

