/- Graphs, what leads where, and Tarjan's search as plain steps that keep an invariant; of no program. -/
import Derived.Test.YtoigfahdgphpdaaV17
set_option linter.unusedVariables false
set_option linter.unusedSimpArgs false
namespace Go.Tar
/-- what is led to -/
inductive Rch (E : Nat → Nat → Prop) : Nat → Nat → Prop
  | refl (a : Nat) : Rch E a a
  | tail {a b c : Nat} : Rch E a b → E b c → Rch E a c
theorem Rch.one {E : Nat → Nat → Prop} {a b : Nat} (h : E a b) : Rch E a b := .tail (.refl a) h
theorem Rch.trans {E : Nat → Nat → Prop} {a b c : Nat} (h : Rch E a b) (k : Rch E b c) : Rch E a c := by
  induction k with
  | refl => exact h
  | tail _ e ih => exact ih.tail e
theorem Rch.mono {E F : Nat → Nat → Prop} {a b : Nat} (h : Rch E a b) (k : ∀ a b, E a b → F a b) : Rch F a b := by
  induction h with
  | refl => exact .refl _
  | tail _ e ih => exact ih.tail (k _ _ e)
/-- a closed set keeps what is led to -/
theorem Rch.closed {E : Nat → Nat → Prop} {C : Nat → Prop} (hc : ∀ a b, C a → E a b → C b) {a b : Nat} (h : Rch E a b) (ha : C a) : C b := by
  induction h with
  | refl => exact ha
  | tail _ e ih => exact hc _ _ ih e
theorem Rch.flip {E : Nat → Nat → Prop} {a b : Nat} (h : Rch E a b) : Rch (fun x y => E y x) b a := by
  induction h with
  | refl => exact .refl _
  | tail _ e ih => exact (Rch.one (E := fun x y => E y x) e).trans ih
/-- where the search stands -/
structure St where
  num : Nat → Nat
  low : Nat → Nat
  wt : Nat → Bool
  wa : List Nat
  pt : Nat → Nat
  parts : Nat
  steps : List (Nat × Nat)
  met : Nat
def upd {α : Type} (f : Nat → α) (i : Nat) (v : α) : Nat → α := fun j => if j = i then v else f j
theorem upd_self {α : Type} {f : Nat → α} {i : Nat} {v : α} : upd f i v i = v := by simp [upd]
theorem upd_ne {α : Type} {f : Nat → α} {i j : Nat} {v : α} (h : j ≠ i) : upd f i v j = f j := by simp [upd, h]
/-- this edge was looked at -/
def seen (s : St) (v k : Nat) : Prop := s.num v ≠ 0 ∧ ∀ x ∈ s.steps, x.1 = v → k < x.2
/-- the step in whose part of the waiting ones v is -/
def ownr (s : St) (x : Nat × Nat) (v : Nat) : Prop := x ∈ s.steps ∧ s.num x.1 ≤ s.num v ∧ ∀ y ∈ s.steps, s.num y.1 ≤ s.num v → s.num y.1 ≤ s.num x.1
/-- how many are not met -/
def unv (f : Nat → Nat) (n : Nat) : Nat := (List.range n).countP fun v => f v == 0
theorem unv_zero : ∀ n : Nat, unv (fun _ => 0) n = n
  | 0 => rfl
  | n + 1 => by
    have := unv_zero n
    unfold unv at this ⊢
    rw [List.range_succ, List.countP_append, this]
    simp
theorem unv_same {f : Nat → Nat} {v k : Nat} : ∀ {n : Nat}, n ≤ v → unv (upd f v k) n = unv f n
  | 0, _ => rfl
  | n + 1, h => by
    have := unv_same (f := f) (v := v) (k := k) (n := n) (by omega)
    unfold unv at this ⊢
    rw [List.range_succ, List.countP_append, List.countP_append, this]
    have : upd f v k n = f n := upd_ne (by omega)
    simp [this]
theorem unv_upd {f : Nat → Nat} {v k : Nat} (h0 : f v = 0) (hk : k ≠ 0) : ∀ {n : Nat}, v < n → unv (upd f v k) n + 1 = unv f n
  | 0, h => by omega
  | n + 1, h => by
    by_cases hv : v = n
    · subst hv
      have := unv_same (f := f) (v := v) (k := k) (Nat.le_refl v)
      unfold unv at this ⊢
      rw [List.range_succ, List.countP_append, List.countP_append, this]
      simp [upd_self, h0, hk]
    · have := unv_upd h0 hk (n := n) (by omega)
      unfold unv at this ⊢
      rw [List.range_succ, List.countP_append, List.countP_append]
      have e : upd f v k n = f n := upd_ne (by omega)
      simp only [List.countP_singleton, e]
      omega
section
variable {n : Nat} {g : Nat → List Nat}
abbrev Eg (g : Nat → List Nat) (a b : Nat) : Prop := b ∈ g a
structure Inv (n : Nat) (g : Nat → List Nat) (s : St) : Prop where
  wa1 : s.wa.Pairwise fun a b => s.num b < s.num a
  wa2 : ∀ v, s.wt v = true ↔ v ∈ s.wa
  wa3 : ∀ v ∈ s.wa, 0 < s.num v
  lt : ∀ v, s.num v ≠ 0 → v < n
  met : ∀ v, s.num v ≤ s.met
  st1 : s.steps.Pairwise fun a b => s.num b.1 < s.num a.1
  st2 : ∀ x ∈ s.steps, x.1 ∈ s.wa ∧ x.2 ≤ (g x.1).length
  seg : ∀ v ∈ s.wa, ∃ x, ownr s x v
  down : ∀ x ∈ s.steps, ∀ v ∈ s.wa, s.num x.1 ≤ s.num v → Rch (Eg g) x.1 v
  up : ∀ v ∈ s.wa, ∀ x, ownr s x v → Rch (Eg g) v x.1
  low1 : ∀ x ∈ s.steps, s.low x.1 ≤ s.num x.1 ∧ ∃ w ∈ s.wa, s.low x.1 = s.num w ∧ Rch (Eg g) x.1 w
  proc : ∀ v k u, seen s v k → (g v)[k]? = some u → s.num u ≠ 0
  low2 : ∀ v ∈ s.wa, ∀ x, ownr s x v → ∀ k u, seen s v k → (g v)[k]? = some u → u ∈ s.wa → s.low x.1 ≤ s.num u
  done : ∀ v, s.num v ≠ 0 → v ∉ s.wa → ∀ u ∈ g v, s.num u ≠ 0 ∧ u ∉ s.wa
  cls : ∀ u v, s.num u ≠ 0 → u ∉ s.wa → s.num v ≠ 0 → v ∉ s.wa → (s.pt u = s.pt v ↔ Rch (Eg g) u v ∧ Rch (Eg g) v u)
  cnt : ∀ v, s.num v ≠ 0 → v ∉ s.wa → s.pt v < s.parts
  full : ∀ p, p < s.parts → ∃ v, s.num v ≠ 0 ∧ v ∉ s.wa ∧ s.pt v = p
  cle : s.parts + s.wa.length ≤ s.met
  ord : ∀ u v, s.num u ≠ 0 → u ∉ s.wa → v ∈ g u → s.pt v ≤ s.pt u
  unv : unv s.num n + s.met = n
theorem ownr.uniq {s : St} (h : Inv n g s) {x y : Nat × Nat} {v : Nat} (hx : ownr s x v) (hy : ownr s y v) : x = y := by
  have h1 := hx.2.2 y hy.1 hy.2.1
  have h2 := hy.2.2 x hx.1 hx.2.1
  have h3 : s.num x.1 = s.num y.1 := by omega
  obtain ⟨i, hi, ei⟩ := List.mem_iff_getElem.1 hx.1
  obtain ⟨j, hj, ej⟩ := List.mem_iff_getElem.1 hy.1
  have hp := List.pairwise_iff_getElem.1 h.st1
  rcases Nat.lt_trichotomy i j with hij | hij | hij
  · have := hp i j hi hj hij
    rw [ei, ej] at this
    omega
  · subst hij
    rw [← ei, ← ej]
  · have := hp j i hj hi hij
    rw [ei, ej] at this
    omega
/-- numbers of waiting ones part them -/
theorem Inv.inj {s : St} (h : Inv n g s) {u v : Nat} (hu : u ∈ s.wa) (hv : v ∈ s.wa) (e : s.num u = s.num v) : u = v := by
  obtain ⟨i, hi, ei⟩ := List.mem_iff_getElem.1 hu
  obtain ⟨j, hj, ej⟩ := List.mem_iff_getElem.1 hv
  have hp := List.pairwise_iff_getElem.1 h.wa1
  rcases Nat.lt_trichotomy i j with hij | hij | hij
  · have := hp i j hi hj hij
    rw [ei, ej] at this
    omega
  · subst hij
    rw [← ei, ← ej]
  · have := hp j i hj hi hij
    rw [ei, ej] at this
    omega
/-- the top step is the owner of all behind it -/
theorem Inv.top {s : St} {x : Nat × Nat} {r : List (Nat × Nat)} (h : Inv n g s) (e : s.steps = x :: r) {y : Nat × Nat} (hy : y ∈ s.steps) : s.num y.1 ≤ s.num x.1 := by
  have h1 := h.st1
  rw [e, List.pairwise_cons] at h1
  rw [e] at hy
  rcases List.mem_cons.1 hy with rfl | hy
  · exact Nat.le_refl _
  · exact Nat.le_of_lt (h1.1 y hy)
theorem Inv.topown {s : St} {x : Nat × Nat} {r : List (Nat × Nat)} (h : Inv n g s) (e : s.steps = x :: r) {v : Nat} (hv : s.num x.1 ≤ s.num v) : ownr s x v :=
  ⟨by rw [e]; exact List.mem_cons_self, hv, fun y hy _ => h.top e hy⟩
/-- a step's own member -/
theorem Inv.selfown {s : St} (h : Inv n g s) {x : Nat × Nat} (hx : x ∈ s.steps) : ownr s x x.1 := ⟨hx, Nat.le_refl _, fun _ _ h => h⟩
/-- steps of one member are one -/
theorem Inv.stinj {s : St} (h : Inv n g s) {x y : Nat × Nat} (hx : x ∈ s.steps) (hy : y ∈ s.steps) (e : x.1 = y.1) : x = y :=
  ownr.uniq h (h.selfown hx) (by rw [e]; exact h.selfown hy)

/-- at the beginning -/
def st0 : St := ⟨fun _ => 0, fun _ => 0, fun _ => false, [], fun _ => 0, 0, [], 0⟩
theorem inv0 : Inv n g st0 := by
  refine ⟨List.Pairwise.nil, ?_, ?_, ?_, ?_, List.Pairwise.nil, ?_, ?_, ?_, ?_, ?_, ?_, ?_, ?_, ?_, ?_, ?_, ?_, ?_, unv_zero n⟩ <;> simp [st0, seen, ownr]

/-- a member is met: the first one, or one that the top step leads to -/
def visit (s : St) (v : Nat) : St := { s with num := upd s.num v (s.met + 1), low := upd s.low v (s.met + 1), wt := upd s.wt v true, wa := v :: s.wa, steps := (v, 0) :: s.steps, met := s.met + 1 }
/-- as Inv, but that the top step's last edge may lead to v, that is not met yet -/
theorem visit_ok {s : St} {x : Nat × Nat} {r : List (Nat × Nat)} (h : Inv n g s) (e : s.steps = x :: r) {v : Nat} (hv : v < n) (h0 : s.num v = 0) (hx : (g x.1)[x.2]? = some v) :
    Inv n g (visit { s with steps := (x.1, x.2 + 1) :: r } v) := by
  have hvw : v ∉ s.wa := fun hc => by have := h.wa3 v hc; omega
  have hne : ∀ {u : Nat}, u ∈ s.wa → u ≠ v := fun hu e => hvw (e ▸ hu)
  have hnum : ∀ {u : Nat}, u ≠ v → upd s.num v (s.met + 1) u = s.num u := fun hu => upd_ne hu
  have hxs : x ∈ s.steps := by rw [e]; exact List.mem_cons_self
  have hxw := (h.st2 x hxs).1
  have hmem : ∀ {y : Nat × Nat}, y ∈ (x.1, x.2 + 1) :: r → ∃ y' ∈ s.steps, y'.1 = y.1 := by
    intro y hy
    rcases List.mem_cons.1 hy with rfl | hy
    · exact ⟨x, hxs, rfl⟩
    · exact ⟨y, by rw [e]; exact List.mem_cons_of_mem _ hy, rfl⟩
  have hmem' : ∀ {y : Nat × Nat}, y ∈ s.steps → ∃ y' ∈ (x.1, x.2 + 1) :: r, y'.1 = y.1 := by
    intro y hy
    rw [e] at hy
    rcases List.mem_cons.1 hy with rfl | hy
    · exact ⟨_, List.mem_cons_self, rfl⟩
    · exact ⟨y, List.mem_cons_of_mem _ hy, rfl⟩
  have hyv : ∀ {y : Nat × Nat}, y ∈ (x.1, x.2 + 1) :: r → y.1 ≠ v := by
    intro y hy
    obtain ⟨y', h1, h2⟩ := hmem hy
    rw [← h2]
    exact hne (h.st2 y' h1).1
  -- owners of the elder ones
  have hown : ∀ {y : Nat × Nat} {u : Nat}, u ≠ v → ownr (visit { s with steps := (x.1, x.2 + 1) :: r } v) y u → ∃ y', ownr s y' u ∧ y'.1 = y.1 := by
    rintro y u hu ⟨h1, h2, h3⟩
    simp only [visit] at h1 h2 h3
    rcases List.mem_cons.1 h1 with rfl | h1
    · rw [upd_self, hnum hu] at h2
      have := h.met u
      omega
    · obtain ⟨y', h4, h5⟩ := hmem h1
      refine ⟨y', ⟨h4, ?_, ?_⟩, h5⟩
      · rw [hnum (hyv h1), hnum hu] at h2
        rw [h5]
        exact h2
      · intro z hz hzn
        obtain ⟨z', h6, h7⟩ := hmem' hz
        have := h3 z' (List.mem_cons_of_mem _ h6)
        rw [hnum (hyv h6), hnum hu, hnum (hyv h1), h7] at this
        rw [h5]
        exact this hzn
  have hseen : ∀ {u k : Nat}, u ≠ v → seen (visit { s with steps := (x.1, x.2 + 1) :: r } v) u k → seen s u k ∨ (u = x.1 ∧ k = x.2) := by
    rintro u k hu ⟨h1, h2⟩
    simp only [visit] at h1 h2
    rw [hnum hu] at h1
    by_cases hc : u = x.1 ∧ k = x.2
    · exact .inr hc
    · refine .inl ⟨h1, ?_⟩
      intro y hy hyu
      rw [e] at hy
      rcases List.mem_cons.1 hy with rfl | hy
      · have := h2 (y.1, y.2 + 1) (List.mem_cons_of_mem _ List.mem_cons_self) hyu
        simp only at this
        have hne : k ≠ y.2 := fun e => hc ⟨hyu.symm, e⟩
        omega
      · exact h2 y (List.mem_cons_of_mem _ (List.mem_cons_of_mem _ hy)) hyu
  have hdn : ∀ {u : Nat}, upd s.num v (s.met + 1) u ≠ 0 → u ∉ v :: s.wa → s.num u ≠ 0 ∧ u ∉ s.wa ∧ u ≠ v := by
    intro u h1 h2
    rw [List.mem_cons, not_or] at h2
    rw [hnum h2.1] at h1
    exact ⟨h1, h2.2, h2.1⟩
  refine ⟨?_, ?_, ?_, ?_, ?_, ?_, ?_, ?_, ?_, ?_, ?_, ?_, ?_, ?_, ?_, ?_, ?_, ?_, ?_, ?_⟩
  · -- wa1
    show (v :: s.wa).Pairwise _
    rw [List.pairwise_cons]
    refine ⟨fun u hu => ?_, h.wa1.imp_of_mem fun {a b} ha hb hab => ?_⟩
    · show upd s.num v (s.met + 1) u < upd s.num v (s.met + 1) v
      rw [upd_self, hnum (hne hu)]
      have := h.met u
      omega
    · show upd s.num v (s.met + 1) b < upd s.num v (s.met + 1) a
      rw [hnum (hne ha), hnum (hne hb)]
      exact hab
  · intro u
    show upd s.wt v true u = true ↔ u ∈ v :: s.wa
    rw [List.mem_cons]
    by_cases hu : u = v
    · subst hu; simp [upd_self]
    · rw [upd_ne hu, h.wa2]; simp [hu]
  · intro u hu
    show 0 < upd s.num v (s.met + 1) u
    rcases List.mem_cons.1 hu with rfl | hu
    · rw [upd_self]; omega
    · rw [hnum (hne hu)]; exact h.wa3 u hu
  · intro u hu
    by_cases hc : u = v
    · subst hc; exact hv
    · exact h.lt u (by have : upd s.num v (s.met + 1) u ≠ 0 := hu; rwa [hnum hc] at this)
  · intro u
    show upd s.num v (s.met + 1) u ≤ s.met + 1
    by_cases hc : u = v
    · subst hc; rw [upd_self]; exact Nat.le_refl _
    · rw [hnum hc]; have := h.met u; omega
  · -- st1
    show ((v, 0) :: (x.1, x.2 + 1) :: r).Pairwise _
    have h1 := h.st1
    rw [e, List.pairwise_cons] at h1
    rw [List.pairwise_cons, List.pairwise_cons]
    refine ⟨fun y hy => ?_, fun y hy => ?_, h1.2.imp_of_mem fun {a b} ha hb hab => ?_⟩
    · show upd s.num v (s.met + 1) y.1 < upd s.num v (s.met + 1) v
      rw [upd_self, hnum (hyv hy)]
      have := h.met y.1
      omega
    · show upd s.num v (s.met + 1) y.1 < upd s.num v (s.met + 1) x.1
      rw [hnum (hyv (List.mem_cons_of_mem _ hy)), hnum (hne hxw)]
      exact h1.1 y hy
    · show upd s.num v (s.met + 1) b.1 < upd s.num v (s.met + 1) a.1
      rw [hnum (hyv (List.mem_cons_of_mem _ ha)), hnum (hyv (List.mem_cons_of_mem _ hb))]
      exact hab
  · intro y hy
    rcases List.mem_cons.1 hy with rfl | hy
    · exact ⟨List.mem_cons_self, Nat.zero_le _⟩
    · rcases List.mem_cons.1 hy with rfl | hy
      · exact ⟨List.mem_cons_of_mem _ hxw, (List.getElem?_eq_some_iff.1 hx).1⟩
      · have := h.st2 y (by rw [e]; exact List.mem_cons_of_mem _ hy)
        exact ⟨List.mem_cons_of_mem _ this.1, this.2⟩
  · -- seg
    intro u hu
    rcases List.mem_cons.1 hu with rfl | hu
    · refine ⟨(u, 0), List.mem_cons_self, Nat.le_refl _, fun y hy _ => ?_⟩
      show upd s.num u (s.met + 1) y.1 ≤ upd s.num u (s.met + 1) u
      rcases List.mem_cons.1 hy with rfl | hy
      · exact Nat.le_refl _
      · rw [upd_self, hnum (hyv hy)]
        have := h.met y.1
        omega
    · obtain ⟨y, h1, h2, h3⟩ := h.seg u hu
      obtain ⟨y', h4, h5⟩ := hmem' h1
      refine ⟨y', List.mem_cons_of_mem _ h4, ?_, ?_⟩
      · show upd s.num v (s.met + 1) y'.1 ≤ upd s.num v (s.met + 1) u
        rw [hnum (hyv h4), hnum (hne hu), h5]
        exact h2
      · intro z hz hzn
        have hzn' : upd s.num v (s.met + 1) z.1 ≤ upd s.num v (s.met + 1) u := hzn
        show upd s.num v (s.met + 1) z.1 ≤ upd s.num v (s.met + 1) y'.1
        rw [hnum (hyv h4), h5]
        rcases List.mem_cons.1 hz with rfl | hz
        · rw [upd_self, hnum (hne hu)] at hzn'
          have := h.met u
          omega
        · rw [hnum (hyv hz)]
          rw [hnum (hyv hz), hnum (hne hu)] at hzn'
          obtain ⟨z', h6, h7⟩ := hmem hz
          rw [← h7] at hzn' ⊢
          exact h3 z' h6 hzn'
  · -- down
    intro y hy u hu hyu
    have hyu' : upd s.num v (s.met + 1) y.1 ≤ upd s.num v (s.met + 1) u := hyu
    rcases List.mem_cons.1 hy with rfl | hy
    · rcases List.mem_cons.1 hu with rfl | hu
      · exact .refl _
      · rw [upd_self, hnum (hne hu)] at hyu'
        have := h.met u
        omega
    · obtain ⟨y', h1, h2⟩ := hmem hy
      rw [← h2]
      rcases List.mem_cons.1 hu with rfl | hu
      · have := h.down y' h1 x.1 hxw (h.top e h1)
        exact this.tail (List.mem_of_getElem? hx)
      · rw [hnum (hyv hy), hnum (hne hu), ← h2] at hyu'
        exact h.down y' h1 u hu hyu'
  · -- up
    intro u hu y hy
    rcases List.mem_cons.1 hu with rfl | hu
    · have : y = (u, 0) := by
        rcases List.mem_cons.1 hy.1 with h1 | h1
        · exact h1
        · exfalso
          have := hy.2.2 (u, 0) List.mem_cons_self (Nat.le_refl _)
          have h2 : upd s.num u (s.met + 1) u ≤ upd s.num u (s.met + 1) y.1 := this
          rw [upd_self, hnum (hyv h1)] at h2
          have := h.met y.1
          omega
      rw [this]
      exact .refl _
    · obtain ⟨y', h1, h2⟩ := hown (hne hu) hy
      rw [← h2]
      exact h.up u hu y' h1
  · -- low1
    intro y hy
    show upd s.low v (s.met + 1) y.1 ≤ upd s.num v (s.met + 1) y.1 ∧ ∃ w ∈ v :: s.wa, upd s.low v (s.met + 1) y.1 = upd s.num v (s.met + 1) w ∧ Rch (Eg g) y.1 w
    rcases List.mem_cons.1 hy with rfl | hy
    · exact ⟨by rw [upd_self, upd_self]; exact Nat.le_refl _, v, List.mem_cons_self, by rw [upd_self, upd_self], .refl _⟩
    · obtain ⟨y', h1, h2⟩ := hmem hy
      obtain ⟨h3, w, h4, h5, h6⟩ := h.low1 y' h1
      rw [upd_ne (hyv hy), hnum (hyv hy), ← h2]
      exact ⟨h3, w, List.mem_cons_of_mem _ h4, by rw [hnum (hne h4)]; exact h5, h6⟩
  · -- proc
    intro u k w hs hw
    show upd s.num v (s.met + 1) w ≠ 0
    by_cases hwv : w = v
    · subst hwv; rw [upd_self]; omega
    rw [hnum hwv]
    by_cases huv : u = v
    · subst huv
      have := hs.2 (u, 0) List.mem_cons_self rfl
      simp at this
    · rcases hseen huv hs with h1 | ⟨rfl, rfl⟩
      · exact h.proc u k w h1 hw
      · rw [hx] at hw
        cases hw
        exact absurd rfl hwv
  · -- low2
    intro u hu y hy k w hs hw hww
    show upd s.low v (s.met + 1) y.1 ≤ upd s.num v (s.met + 1) w
    rcases List.mem_cons.1 hu with rfl | hu
    · have := hs.2 (u, 0) List.mem_cons_self rfl
      simp at this
    · obtain ⟨y', h1, h2⟩ := hown (hne hu) hy
      have hyne : y.1 ≠ v := by rw [← h2]; exact hne (h.st2 y' h1.1).1
      rw [upd_ne hyne, ← h2]
      rcases List.mem_cons.1 hww with rfl | hww
      · rw [upd_self]
        have := (h.low1 y' h1.1).1
        have := h.met y'.1
        omega
      · rw [hnum (hne hww)]
        rcases hseen (hne hu) hs with h3 | ⟨rfl, rfl⟩
        · exact h.low2 u hu y' h1 k w h3 hw hww
        · rw [hx] at hw
          cases hw
          exact absurd hww hvw
  · -- done
    intro u h1 h2 w hw
    obtain ⟨h3, h4, h5⟩ := hdn h1 h2
    obtain ⟨h6, h7⟩ := h.done u h3 h4 w hw
    have hwv : w ≠ v := fun e => h6 (by rw [e]; exact h0)
    exact ⟨by show upd s.num v (s.met + 1) w ≠ 0; rw [hnum hwv]; exact h6, by rw [show (visit { s with steps := (x.1, x.2 + 1) :: r } v).wa = v :: s.wa from rfl, List.mem_cons, not_or]; exact ⟨hwv, h7⟩⟩
  · intro u w h1 h2 h3 h4
    obtain ⟨a1, a2, a3⟩ := hdn h1 h2
    obtain ⟨b1, b2, b3⟩ := hdn h3 h4
    exact h.cls u w a1 a2 b1 b2
  · intro u h1 h2
    obtain ⟨a1, a2, a3⟩ := hdn h1 h2
    exact h.cnt u a1 a2
  · intro p hp
    obtain ⟨u, h1, h2, h3⟩ := h.full p hp
    have huv : u ≠ v := fun e => h1 (by rw [e]; exact h0)
    exact ⟨u, by show upd s.num v (s.met + 1) u ≠ 0; rw [hnum huv]; exact h1, by show u ∉ v :: s.wa; rw [List.mem_cons, not_or]; exact ⟨huv, h2⟩, h3⟩
  · show s.parts + (v :: s.wa).length ≤ s.met + 1
    have := h.cle
    rw [List.length_cons]
    omega
  · intro a c h1 h2 hc
    obtain ⟨a1, a2, a3⟩ := hdn h1 h2
    exact h.ord a c a1 a2 hc
  · show unv (upd s.num v (s.met + 1)) n + (s.met + 1) = n
    have h1 := unv_upd (k := s.met + 1) h0 (by omega) hv
    have h2 := h.unv
    omega
theorem Inv.nowait {s : St} (h : Inv n g s) (e : s.steps = []) : s.wa = [] := by
  cases hw : s.wa with
  | nil => rfl
  | cons v l =>
    obtain ⟨x, hx, _⟩ := h.seg v (by rw [hw]; exact List.mem_cons_self)
    rw [e] at hx
    cases hx
/-- the first member of all that it leads to -/
theorem visit_first {s : St} (h : Inv n g s) (e : s.steps = []) {v : Nat} (hv : v < n) (h0 : s.num v = 0) : Inv n g (visit s v) := by
  have hw := h.nowait e
  have hnum : ∀ {u : Nat}, u ≠ v → upd s.num v (s.met + 1) u = s.num u := fun hu => upd_ne hu
  have hdn : ∀ {u : Nat}, upd s.num v (s.met + 1) u ≠ 0 → u ∉ v :: s.wa → s.num u ≠ 0 ∧ u ∉ s.wa ∧ u ≠ v := by
    intro u h1 h2
    rw [List.mem_cons, not_or] at h2
    rw [hnum h2.1] at h1
    exact ⟨h1, h2.2, h2.1⟩
  have hst : (visit s v).steps = [(v, 0)] := by simp [visit, e]
  have hwa : (visit s v).wa = [v] := by simp [visit, hw]
  have own : ∀ {y : Nat × Nat} {u : Nat}, ownr (visit s v) y u → y = (v, 0) := by
    intro y u hy
    have := hy.1
    rw [hst] at this
    exact List.mem_singleton.1 this
  refine ⟨?_, ?_, ?_, ?_, ?_, ?_, ?_, ?_, ?_, ?_, ?_, ?_, ?_, ?_, ?_, ?_, ?_, ?_, ?_, ?_⟩
  · rw [hwa]; simp
  · intro u
    rw [hwa]
    show upd s.wt v true u = true ↔ u ∈ [v]
    by_cases hu : u = v
    · subst hu; simp [upd_self]
    · rw [upd_ne hu, h.wa2, hw]; simp [hu]
  · intro u hu
    rw [hwa] at hu
    obtain rfl := List.mem_singleton.1 hu
    show 0 < upd s.num u (s.met + 1) u
    rw [upd_self]; omega
  · intro u hu
    by_cases hc : u = v
    · subst hc; exact hv
    · exact h.lt u (by have : upd s.num v (s.met + 1) u ≠ 0 := hu; rwa [hnum hc] at this)
  · intro u
    show upd s.num v (s.met + 1) u ≤ s.met + 1
    by_cases hc : u = v
    · subst hc; rw [upd_self]; exact Nat.le_refl _
    · rw [hnum hc]; have := h.met u; omega
  · rw [hst]; simp
  · intro y hy
    rw [hst] at hy
    obtain rfl := List.mem_singleton.1 hy
    rw [hwa]
    exact ⟨List.mem_cons_self, Nat.zero_le _⟩
  · intro u hu
    rw [hwa] at hu
    obtain rfl := List.mem_singleton.1 hu
    refine ⟨(u, 0), by rw [hst]; exact List.mem_cons_self, Nat.le_refl _, fun y hy _ => ?_⟩
    rw [hst] at hy
    obtain rfl := List.mem_singleton.1 hy
    exact Nat.le_refl _
  · intro y hy u hu _
    rw [hst] at hy
    obtain rfl := List.mem_singleton.1 hy
    rw [hwa] at hu
    obtain rfl := List.mem_singleton.1 hu
    exact .refl _
  · intro u hu y hy
    obtain rfl := own hy
    rw [hwa] at hu
    obtain rfl := List.mem_singleton.1 hu
    exact .refl _
  · intro y hy
    rw [hst] at hy
    obtain rfl := List.mem_singleton.1 hy
    show upd s.low v (s.met + 1) v ≤ upd s.num v (s.met + 1) v ∧ ∃ w ∈ (visit s v).wa, upd s.low v (s.met + 1) v = upd s.num v (s.met + 1) w ∧ Rch (Eg g) v w
    rw [hwa]
    exact ⟨by rw [upd_self, upd_self]; exact Nat.le_refl _, v, List.mem_cons_self, by rw [upd_self, upd_self], .refl _⟩
  · intro u k w hs hw'
    show upd s.num v (s.met + 1) w ≠ 0
    by_cases hwv : w = v
    · subst hwv; rw [upd_self]; omega
    rw [hnum hwv]
    by_cases huv : u = v
    · subst huv
      have := hs.2 (u, 0) (by rw [hst]; exact List.mem_cons_self) rfl
      simp at this
    · refine h.proc u k w ⟨?_, ?_⟩ hw'
      · have := hs.1
        have h1 : upd s.num v (s.met + 1) u ≠ 0 := this
        rwa [hnum huv] at h1
      · rw [e]; simp
  · intro u hu y hy k w hs
    rw [hwa] at hu
    obtain rfl := List.mem_singleton.1 hu
    have := hs.2 (u, 0) (by rw [hst]; exact List.mem_cons_self) rfl
    simp at this
  · intro u h1 h2 w hw'
    obtain ⟨h3, h4, h5⟩ := hdn h1 h2
    obtain ⟨h6, h7⟩ := h.done u h3 h4 w hw'
    have hwv : w ≠ v := fun e => h6 (by rw [e]; exact h0)
    exact ⟨by show upd s.num v (s.met + 1) w ≠ 0; rw [hnum hwv]; exact h6, by rw [show (visit s v).wa = v :: s.wa from rfl, List.mem_cons, not_or]; exact ⟨hwv, h7⟩⟩
  · intro u w h1 h2 h3 h4
    obtain ⟨a1, a2, a3⟩ := hdn h1 h2
    obtain ⟨b1, b2, b3⟩ := hdn h3 h4
    exact h.cls u w a1 a2 b1 b2
  · intro u h1 h2
    obtain ⟨a1, a2, a3⟩ := hdn h1 h2
    exact h.cnt u a1 a2
  · intro p hp
    obtain ⟨u, h1, h2, h3⟩ := h.full p hp
    have huv : u ≠ v := fun e => h1 (by rw [e]; exact h0)
    exact ⟨u, by show upd s.num v (s.met + 1) u ≠ 0; rw [hnum huv]; exact h1, by show u ∉ v :: s.wa; rw [List.mem_cons, not_or]; exact ⟨huv, h2⟩, h3⟩
  · show s.parts + (v :: s.wa).length ≤ s.met + 1
    have := h.cle
    rw [List.length_cons]
    omega
  · intro a c h1 h2 hc
    obtain ⟨a1, a2, a3⟩ := hdn h1 h2
    exact h.ord a c a1 a2 hc
  · show unv (upd s.num v (s.met + 1)) n + (s.met + 1) = n
    have h1 := unv_upd (k := s.met + 1) h0 (by omega) hv
    have h2 := h.unv
    omega

/-- an edge to one that was met -/
def look (s : St) (x : Nat × Nat) (r : List (Nat × Nat)) (u : Nat) : St := { s with steps := (x.1, x.2 + 1) :: r, low := if s.wt u then upd s.low x.1 (min (s.low x.1) (s.num u)) else s.low }
theorem look_ok {s : St} {x : Nat × Nat} {r : List (Nat × Nat)} (h : Inv n g s) (e : s.steps = x :: r) {u : Nat} (h0 : s.num u ≠ 0) (hx : (g x.1)[x.2]? = some u) : Inv n g (look s x r u) := by
  have hxs : x ∈ s.steps := by rw [e]; exact List.mem_cons_self
  have hxw := (h.st2 x hxs).1
  have hnr : ∀ {y : Nat × Nat}, y ∈ r → y.1 ≠ x.1 := by
    intro y hy he
    have h1 := h.st1
    rw [e, List.pairwise_cons] at h1
    have := h1.1 y hy
    rw [he] at this
    omega
  have hmem : ∀ {y : Nat × Nat}, y ∈ (x.1, x.2 + 1) :: r → ∃ y' ∈ s.steps, y'.1 = y.1 := by
    intro y hy
    rcases List.mem_cons.1 hy with rfl | hy
    · exact ⟨x, hxs, rfl⟩
    · exact ⟨y, by rw [e]; exact List.mem_cons_of_mem _ hy, rfl⟩
  have hmem' : ∀ {y : Nat × Nat}, y ∈ s.steps → ∃ y' ∈ (x.1, x.2 + 1) :: r, y'.1 = y.1 := by
    intro y hy
    rw [e] at hy
    rcases List.mem_cons.1 hy with rfl | hy
    · exact ⟨_, List.mem_cons_self, rfl⟩
    · exact ⟨y, List.mem_cons_of_mem _ hy, rfl⟩
  have hown : ∀ {y : Nat × Nat} {w : Nat}, ownr (look s x r u) y w → ∃ y', ownr s y' w ∧ y'.1 = y.1 := by
    rintro y w ⟨h1, h2, h3⟩
    obtain ⟨y', h4, h5⟩ := hmem h1
    refine ⟨y', ⟨h4, by rw [h5]; exact h2, fun z hz hzn => ?_⟩, h5⟩
    obtain ⟨z', h6, h7⟩ := hmem' hz
    have := h3 z' h6
    rw [h7] at this
    rw [h5]
    exact this hzn
  have hseen : ∀ {w k : Nat}, seen (look s x r u) w k → seen s w k ∨ (w = x.1 ∧ k = x.2) := by
    rintro w k ⟨h1, h2⟩
    by_cases hc : w = x.1 ∧ k = x.2
    · exact .inr hc
    · refine .inl ⟨h1, ?_⟩
      intro y hy hyu
      rw [e] at hy
      rcases List.mem_cons.1 hy with rfl | hy
      · have := h2 (y.1, y.2 + 1) List.mem_cons_self hyu
        simp only at this
        have hne : k ≠ y.2 := fun e => hc ⟨hyu.symm, e⟩
        omega
      · exact h2 y (List.mem_cons_of_mem _ hy) hyu
  have hlow : ∀ v, (look s x r u).low v ≤ s.low v := by
    intro v
    show (if s.wt u then upd s.low x.1 (min (s.low x.1) (s.num u)) else s.low) v ≤ _
    split
    · by_cases hv : v = x.1
      · subst hv; rw [upd_self]; exact Nat.min_le_left _ _
      · rw [upd_ne hv]; exact Nat.le_refl _
    · exact Nat.le_refl _
  have hlow' : u ∈ s.wa → (look s x r u).low x.1 ≤ s.num u := by
    intro hu
    show (if s.wt u then upd s.low x.1 (min (s.low x.1) (s.num u)) else s.low) x.1 ≤ _
    rw [if_pos ((h.wa2 u).2 hu), upd_self]
    exact Nat.min_le_right _ _
  refine ⟨h.wa1, h.wa2, h.wa3, h.lt, h.met, ?_, ?_, ?_, ?_, ?_, ?_, ?_, ?_, h.done, h.cls, h.cnt, h.full, h.cle, h.ord, h.unv⟩
  · have h1 := h.st1
    rw [e, List.pairwise_cons] at h1
    show ((x.1, x.2 + 1) :: r).Pairwise _
    rw [List.pairwise_cons]
    exact h1
  · intro y hy
    rcases List.mem_cons.1 hy with rfl | hy
    · exact ⟨hxw, (List.getElem?_eq_some_iff.1 hx).1⟩
    · exact h.st2 y (by rw [e]; exact List.mem_cons_of_mem _ hy)
  · intro v hv
    obtain ⟨y, h1, h2, h3⟩ := h.seg v hv
    obtain ⟨y', h4, h5⟩ := hmem' h1
    refine ⟨y', h4, by rw [h5]; exact h2, fun z hz hzn => ?_⟩
    obtain ⟨z', h6, h7⟩ := hmem hz
    have := h3 z' h6
    rw [h7] at this
    rw [h5]
    exact this hzn
  · intro y hy v hv hyv
    obtain ⟨y', h1, h2⟩ := hmem hy
    rw [← h2]
    exact h.down y' h1 v hv (by rw [h2]; exact hyv)
  · intro v hv y hy
    obtain ⟨y', h1, h2⟩ := hown hy
    rw [← h2]
    exact h.up v hv y' h1
  · intro y hy
    obtain ⟨y', h1, h2⟩ := hmem hy
    obtain ⟨h3, w, h4, h5, h6⟩ := h.low1 y' h1
    rw [h2] at h3 h5 h6
    refine ⟨Nat.le_trans (hlow _) h3, ?_⟩
    by_cases hc : s.wt u = true ∧ y.1 = x.1 ∧ s.num u < s.low x.1
    · refine ⟨u, (h.wa2 u).1 hc.1, ?_, ?_⟩
      · show (if s.wt u then upd s.low x.1 (min (s.low x.1) (s.num u)) else s.low) y.1 = s.num u
        rw [if_pos hc.1, hc.2.1, upd_self]
        omega
      · rw [hc.2.1]
        exact .one (List.mem_of_getElem? hx)
    · refine ⟨w, h4, ?_, h6⟩
      show (if s.wt u then upd s.low x.1 (min (s.low x.1) (s.num u)) else s.low) y.1 = s.num w
      rw [← h5]
      split
      · rename_i hu
        by_cases hy' : y.1 = x.1
        · rw [hy', upd_self]
          have : ¬ s.num u < s.low x.1 := fun hl => hc ⟨hu, hy', hl⟩
          omega
        · rw [upd_ne hy']
      · rfl
  · intro v k w hs hw
    rcases hseen hs with h1 | ⟨rfl, rfl⟩
    · exact h.proc v k w h1 hw
    · rw [hx] at hw
      cases hw
      exact h0
  · intro v hv y hy k w hs hw hww
    obtain ⟨y', h1, h2⟩ := hown hy
    rcases hseen hs with h3 | ⟨rfl, rfl⟩
    · have := h.low2 v hv y' h1 k w h3 hw hww
      rw [h2] at this
      exact Nat.le_trans (hlow _) this
    · rw [hx] at hw
      cases hw
      have : y' = x := ownr.uniq h h1 (h.selfown hxs)
      rw [← h2, this]
      exact hlow' hww

/-- the top step ends: what it leads to counts for the one below -/
def pop (s : St) (x : Nat × Nat) (r : List (Nat × Nat)) : St := { s with steps := r, low := match r with | [] => s.low | y :: _ => upd s.low y.1 (min (s.low y.1) (s.low x.1)) }
theorem Inv.below {s : St} {x : Nat × Nat} {r : List (Nat × Nat)} (h : Inv n g s) (e : s.steps = x :: r) {y : Nat × Nat} (hy : y ∈ r) : s.num y.1 < s.num x.1 := by
  have h1 := h.st1
  rw [e, List.pairwise_cons] at h1
  exact h1.1 y hy
/-- one that leads to some ahead of it waits on -/
theorem pop_ok {s : St} {x : Nat × Nat} {r : List (Nat × Nat)} (h : Inv n g s) (e : s.steps = x :: r) (hf : x.2 = (g x.1).length) (hl : s.low x.1 ≠ s.num x.1) : r ≠ [] ∧ Inv n g (pop s x r) := by
  have hxs : x ∈ s.steps := by rw [e]; exact List.mem_cons_self
  have hxw := (h.st2 x hxs).1
  obtain ⟨l1, w0, l2, l3, l4⟩ := h.low1 x hxs
  have hlt : s.num w0 < s.num x.1 := by omega
  obtain ⟨y0, hy0⟩ := h.seg w0 l2
  have hy0r : y0 ∈ r := by
    have := hy0.1
    rw [e] at this
    rcases List.mem_cons.1 this with rfl | h1
    · have := hy0.2.1
      omega
    · exact h1
  obtain ⟨b, r', hr⟩ : ∃ b r', r = b :: r' := by
    cases r with
    | nil => cases hy0r
    | cons b r' => exact ⟨b, r', rfl⟩
  refine ⟨by rw [hr]; simp, ?_⟩
  have hbs : b ∈ s.steps := by rw [e, hr]; exact List.mem_cons_of_mem _ List.mem_cons_self
  have hbx : s.num b.1 < s.num x.1 := h.below e (by rw [hr]; exact List.mem_cons_self)
  have hrb : ∀ {y : Nat × Nat}, y ∈ r → s.num y.1 ≤ s.num b.1 := by
    intro y hy
    have h1 := h.st1
    rw [e, hr, List.pairwise_cons, List.pairwise_cons] at h1
    rw [hr] at hy
    rcases List.mem_cons.1 hy with rfl | hy
    · exact Nat.le_refl _
    · exact Nat.le_of_lt (h1.2.1 y hy)
  have hrs : ∀ {y : Nat × Nat}, y ∈ r → y ∈ s.steps := fun hy => by rw [e]; exact List.mem_cons_of_mem _ hy
  have hrx : ∀ {y : Nat × Nat}, y ∈ r → y.1 ≠ x.1 := fun hy he => by
    have := h.below e hy
    rw [he] at this
    omega
  -- x leads to b
  have hxb : Rch (Eg g) x.1 b.1 := by
    have h1 := h.up w0 l2 y0 hy0
    have hbw := (h.st2 b hbs).1
    exact (l4.trans h1).trans (h.down y0 hy0.1 b.1 hbw (hrb hy0r))
  have hlowb : (pop s x r).low b.1 = min (s.low b.1) (s.low x.1) := by
    show (match r with | [] => s.low | y :: _ => upd s.low y.1 (min (s.low y.1) (s.low x.1))) b.1 = _
    rw [hr]
    exact upd_self
  have hlown : ∀ {v : Nat}, v ≠ b.1 → (pop s x r).low v = s.low v := by
    intro v hv
    show (match r with | [] => s.low | y :: _ => upd s.low y.1 (min (s.low y.1) (s.low x.1))) v = _
    rw [hr]
    exact upd_ne hv
  have hlowle : ∀ v, (pop s x r).low v ≤ s.low v := by
    intro v
    by_cases hv : v = b.1
    · rw [hv, hlowb]; exact Nat.min_le_left _ _
    · rw [hlown hv]; exact Nat.le_refl _
  -- owners behind the pop
  have hown : ∀ {y : Nat × Nat} {v : Nat}, ownr (pop s x r) y v → ownr s y v ∨ (ownr s x v ∧ y = b) := by
    rintro y v ⟨h1, h2, h3⟩
    have h1' : y ∈ r := h1
    by_cases hxv : s.num x.1 ≤ s.num v
    · refine .inr ⟨h.topown e hxv, ?_⟩
      have hb1 := h3 b (by show b ∈ r; rw [hr]; exact List.mem_cons_self) (by show s.num b.1 ≤ s.num v; omega)
      have hb2 := hrb h1'
      have : ownr s y y.1 := h.selfown (hrs h1')
      have he : s.num y.1 = s.num b.1 := Nat.le_antisymm hb2 hb1
      have := h.inj (h.st2 y (hrs h1')).1 (h.st2 b hbs).1 he
      exact h.stinj (hrs h1') hbs this
    · refine .inl ⟨hrs h1', h2, fun z hz hzn => ?_⟩
      rw [e] at hz
      rcases List.mem_cons.1 hz with rfl | hz
      · exact absurd hzn hxv
      · exact h3 z hz hzn
  have hseen : ∀ {v k u : Nat}, seen (pop s x r) v k → (g v)[k]? = some u → seen s v k := by
    rintro v k u ⟨h1, h2⟩ hu
    refine ⟨h1, fun y hy hyv => ?_⟩
    rw [e] at hy
    rcases List.mem_cons.1 hy with rfl | hy
    · have := (List.getElem?_eq_some_iff.1 hu).1
      rw [hf, hyv]
      exact this
    · exact h2 y hy hyv
  refine ⟨h.wa1, h.wa2, h.wa3, h.lt, h.met, ?_, ?_, ?_, ?_, ?_, ?_, ?_, ?_, h.done, h.cls, h.cnt, h.full, h.cle, h.ord, h.unv⟩
  · have h1 := h.st1
    rw [e, List.pairwise_cons] at h1
    exact h1.2
  · intro y hy
    exact h.st2 y (hrs hy)
  · intro v hv
    obtain ⟨y, hy⟩ := h.seg v hv
    by_cases hyx : y = x
    · subst hyx
      refine ⟨b, by show b ∈ r; rw [hr]; exact List.mem_cons_self, ?_, fun z hz _ => hrb hz⟩
      have := hy.2.1
      show s.num b.1 ≤ s.num v
      omega
    · refine ⟨y, ?_, hy.2.1, fun z hz hzn => hy.2.2 z (hrs hz) hzn⟩
      have := hy.1
      rw [e] at this
      exact (List.mem_cons.1 this).resolve_left hyx
  · intro y hy v hv hyv
    exact h.down y (hrs hy) v hv hyv
  · intro v hv y hy
    rcases hown hy with h1 | ⟨h1, rfl⟩
    · exact h.up v hv y h1
    · exact (h.up v hv x h1).trans hxb
  · intro y hy
    have hy' : y ∈ r := hy
    obtain ⟨h1, w, h2, h3, h4⟩ := h.low1 y (hrs hy')
    refine ⟨Nat.le_trans (hlowle _) h1, ?_⟩
    by_cases hyb : y.1 = b.1
    · by_cases hc : s.low x.1 < s.low b.1
      · refine ⟨w0, l2, ?_, ?_⟩
        · rw [hyb, hlowb]
          show _ = s.num w0
          omega
        · have hb := h.stinj (hrs hy') hbs hyb
          rw [hb]
          exact (h.down b hbs x.1 hxw (Nat.le_of_lt hbx)).trans l4
      · refine ⟨w, h2, ?_, h4⟩
        rw [hyb] at h3
        rw [hyb, hlowb]
        show _ = s.num w
        omega
    · exact ⟨w, h2, by rw [hlown hyb]; exact h3, h4⟩
  · intro v k u hs hu
    exact h.proc v k u (hseen hs hu) hu
  · intro v hv y hy k u hs hu huw
    have h2 := hseen hs hu
    rcases hown hy with h1 | ⟨h1, rfl⟩
    · exact Nat.le_trans (hlowle _) (h.low2 v hv y h1 k u h2 hu huw)
    · have := h.low2 v hv x h1 k u h2 hu huw
      rw [hlowb]
      exact Nat.le_trans (Nat.min_le_right _ _) this

/-- the first one of a part ends: the part stands -/
def close (s : St) (x : Nat × Nat) (r : List (Nat × Nat)) (pre rest : List Nat) : St :=
  { pop s x r with wa := rest, wt := fun v => if v ∈ pre ++ [x.1] then false else s.wt v, pt := fun v => if v ∈ pre ++ [x.1] then s.parts else s.pt v, parts := s.parts + 1 }
theorem close_ok {s : St} {x : Nat × Nat} {r : List (Nat × Nat)} {pre rest : List Nat} (h : Inv n g s) (e : s.steps = x :: r) (hf : x.2 = (g x.1).length) (hl : s.low x.1 = s.num x.1) (hw : s.wa = pre ++ x.1 :: rest) : Inv n g (close s x r pre rest) := by
  have hxs : x ∈ s.steps := by rw [e]; exact List.mem_cons_self
  have hxw := (h.st2 x hxs).1
  have hrs : ∀ {y : Nat × Nat}, y ∈ r → y ∈ s.steps := fun hy => by rw [e]; exact List.mem_cons_of_mem _ hy
  have hp := h.wa1
  rw [hw, List.pairwise_append, List.pairwise_cons] at hp
  obtain ⟨p1, ⟨p2, p3⟩, p4⟩ := hp
  have hpre : ∀ {v : Nat}, v ∈ pre → s.num x.1 < s.num v := fun hv => p4 _ hv _ List.mem_cons_self
  have hrest : ∀ {v : Nat}, v ∈ rest → s.num v < s.num x.1 := fun hv => p2 _ hv
  have hS : ∀ {v : Nat}, v ∈ pre ++ [x.1] → v ∈ s.wa ∧ s.num x.1 ≤ s.num v := by
    intro v hv
    rcases List.mem_append.1 hv with hv | hv
    · exact ⟨by rw [hw]; exact List.mem_append.2 (.inl hv), Nat.le_of_lt (hpre hv)⟩
    · rw [List.mem_singleton.1 hv]; exact ⟨hxw, Nat.le_refl _⟩
  have hSr : ∀ {v : Nat}, v ∈ s.wa ↔ v ∈ pre ++ [x.1] ∨ v ∈ rest := by
    intro v
    rw [hw]
    simp only [List.mem_append, List.mem_cons, List.mem_singleton, List.not_mem_nil, or_false]
    constructor
    · rintro (h | h | h)
      · exact .inl (.inl h)
      · exact .inl (.inr h)
      · exact .inr h
    · rintro ((h | h) | h)
      · exact .inl h
      · exact .inr (.inl h)
      · exact .inr (.inr h)
  have hSn : ∀ {v : Nat}, v ∈ rest → v ∉ pre ++ [x.1] := by
    intro v hv hc
    have h1 := hrest hv
    have h2 := (hS hc).2
    omega
  have hxS : x.1 ∈ pre ++ [x.1] := List.mem_append.2 (.inr List.mem_cons_self)
  have hrw : ∀ {v : Nat}, v ∈ rest → v ∈ s.wa := fun hv => hSr.2 (.inr hv)
  -- low of those below stays
  have hlow : ∀ {y : Nat × Nat}, y ∈ r → (close s x r pre rest).low y.1 = s.low y.1 := by
    intro y hy
    show (match r with | [] => s.low | z :: _ => upd s.low z.1 (min (s.low z.1) (s.low x.1))) y.1 = _
    cases r with
    | nil => cases hy
    | cons b r' =>
      simp only
      by_cases hyb : y.1 = b.1
      · rw [hyb, upd_self]
        have h1 := h.below e (y := b) List.mem_cons_self
        have h2 := (h.low1 b (hrs List.mem_cons_self)).1
        omega
      · rw [upd_ne hyb]
  have hown : ∀ {y : Nat × Nat} {v : Nat}, v ∈ rest → ownr (close s x r pre rest) y v → ownr s y v := by
    rintro y v hv ⟨h1, h2, h3⟩
    refine ⟨hrs h1, h2, fun z hz hzn => ?_⟩
    rw [e] at hz
    rcases List.mem_cons.1 hz with rfl | hz
    · have := hrest hv
      omega
    · exact h3 z hz hzn
  have hseen : ∀ {v k u : Nat}, seen (close s x r pre rest) v k → (g v)[k]? = some u → seen s v k := by
    rintro v k u ⟨h1, h2⟩ hu
    refine ⟨h1, fun y hy hyv => ?_⟩
    rw [e] at hy
    rcases List.mem_cons.1 hy with rfl | hy
    · have := (List.getElem?_eq_some_iff.1 hu).1
      rw [hf, hyv]
      exact this
    · exact h2 y hy hyv
  -- edges out of the part
  have hfin : ∀ {v : Nat}, v ∈ pre ++ [x.1] → ∀ k, k < (g v).length → seen s v k := by
    intro v hv k hk
    obtain ⟨h1, h2⟩ := hS hv
    refine ⟨by have := h.wa3 v h1; omega, fun y hy hyv => ?_⟩
    rw [e] at hy
    rcases List.mem_cons.1 hy with rfl | hy
    · rw [hf, hyv]; exact hk
    · have := h.below e hy
      rw [hyv] at this
      omega
  have hout : ∀ {v u : Nat}, v ∈ pre ++ [x.1] → u ∈ g v → s.num u ≠ 0 ∧ u ∉ rest := by
    intro v u hv hu
    obtain ⟨k, hk⟩ := List.getElem?_of_mem hu
    have hsn := hfin hv k (List.getElem?_eq_some_iff.1 hk).1
    refine ⟨h.proc v k u hsn hk, fun hur => ?_⟩
    obtain ⟨h1, h2⟩ := hS hv
    have := h.low2 v h1 x (h.topown e h2) k u hsn hk (hrw hur)
    have := hrest hur
    omega
  have hdn : ∀ {v : Nat}, s.num v ≠ 0 → v ∉ rest → v ∈ pre ++ [x.1] ∨ v ∉ s.wa := by
    intro v h1 h2
    by_cases hc : v ∈ s.wa
    · exact .inl ((hSr.1 hc).resolve_right h2)
    · exact .inr hc
  have hcl : ∀ {u v : Nat}, Rch (Eg g) u v → (s.num u ≠ 0 ∧ u ∉ s.wa) → s.num v ≠ 0 ∧ v ∉ s.wa := by
    intro u v huv hu
    exact huv.closed (C := fun a => s.num a ≠ 0 ∧ a ∉ s.wa) (fun a b ha hab => h.done a ha.1 ha.2 b hab) hu
  have hSx : ∀ {v : Nat}, v ∈ pre ++ [x.1] → Rch (Eg g) x.1 v ∧ Rch (Eg g) v x.1 := by
    intro v hv
    obtain ⟨h1, h2⟩ := hS hv
    exact ⟨h.down x hxs v h1 h2, h.up v h1 x (h.topown e h2)⟩
  have ptS : ∀ {v : Nat}, v ∈ pre ++ [x.1] → (close s x r pre rest).pt v = s.parts := fun hv => if_pos hv
  have ptN : ∀ {v : Nat}, v ∉ s.wa → (close s x r pre rest).pt v = s.pt v := fun hv => if_neg fun hc => hv (hS hc).1
  refine ⟨p3, ?_, ?_, h.lt, h.met, ?_, ?_, ?_, ?_, ?_, ?_, ?_, ?_, ?_, ?_, ?_, ?_, ?_, ?_, h.unv⟩
  · intro v
    show (if v ∈ pre ++ [x.1] then false else s.wt v) = true ↔ v ∈ rest
    by_cases hc : v ∈ pre ++ [x.1]
    · rw [if_pos hc]
      simp only [Bool.false_eq_true, false_iff]
      exact fun hr => hSn hr hc
    · rw [if_neg hc, h.wa2, hSr]
      exact ⟨fun h => h.resolve_left hc, .inr⟩
  · intro v hv
    exact h.wa3 v (hrw hv)
  · have h1 := h.st1
    rw [e, List.pairwise_cons] at h1
    exact h1.2
  · intro y hy
    have hy' : y ∈ r := hy
    have h1 := h.st2 y (hrs hy')
    refine ⟨?_, h1.2⟩
    have h2 := h.below e hy'
    refine (hSr.1 h1.1).resolve_left fun hc => ?_
    have := (hS hc).2
    omega
  · intro v hv
    have hv' : v ∈ rest := hv
    obtain ⟨y, hy⟩ := h.seg v (hrw hv')
    refine ⟨y, ?_, hy.2.1, fun z hz hzn => hy.2.2 z (hrs hz) hzn⟩
    have h1 := hy.1
    rw [e] at h1
    rcases List.mem_cons.1 h1 with rfl | h1
    · have := hy.2.1
      have := hrest hv'
      omega
    · exact h1
  · intro y hy v hv hyv
    exact h.down y (hrs hy) v (hrw hv) hyv
  · intro v hv y hy
    exact h.up v (hrw hv) y (hown hv hy)
  · intro y hy
    have hy' : y ∈ r := hy
    obtain ⟨h1, w, h2, h3, h4⟩ := h.low1 y (hrs hy')
    have hyx := h.below e hy'
    rw [hlow hy']
    refine ⟨h1, w, ?_, h3, h4⟩
    refine (hSr.1 h2).resolve_left fun hc => ?_
    have := (hS hc).2
    omega
  · intro v k u hs hu
    exact h.proc v k u (hseen hs hu) hu
  · intro v hv y hy k u hs hu huw
    have hv' : v ∈ rest := hv
    have h1 := hown hv' hy
    have hyr : y ∈ r := hy.1
    rw [hlow hyr]
    exact h.low2 v (hrw hv') y h1 k u (hseen hs hu) hu (hrw huw)
  · intro v h1 h2 u hu
    rcases hdn h1 h2 with hc | hc
    · exact hout hc hu
    · obtain ⟨h3, h4⟩ := h.done v h1 hc u hu
      exact ⟨h3, fun hr => h4 (hrw hr)⟩
  · intro u v h1 h2 h3 h4
    rcases hdn h1 h2 with hu | hu
    · rcases hdn h3 h4 with hv | hv
      · rw [ptS hu, ptS hv]
        exact ⟨fun _ => ⟨(hSx hu).2.trans (hSx hv).1, (hSx hv).2.trans (hSx hu).1⟩, fun _ => rfl⟩
      · rw [ptS hu, ptN hv]
        refine ⟨fun hc => ?_, fun hc => ?_⟩
        · have := h.cnt v h3 hv
          omega
        · exact absurd (hS hu).1 (hcl hc.2 ⟨h3, hv⟩).2
    · rcases hdn h3 h4 with hv | hv
      · rw [ptN hu, ptS hv]
        refine ⟨fun hc => ?_, fun hc => ?_⟩
        · have := h.cnt u h1 hu
          omega
        · exact absurd (hS hv).1 (hcl hc.1 ⟨h1, hu⟩).2
      · rw [ptN hu, ptN hv]
        exact h.cls u v h1 hu h3 hv
  · intro v h1 h2
    show _ < s.parts + 1
    rcases hdn h1 h2 with hv | hv
    · rw [ptS hv]; omega
    · rw [ptN hv]
      have := h.cnt v h1 hv
      omega
  · intro p hp
    have hp' : p < s.parts + 1 := hp
    by_cases hc : p = s.parts
    · exact ⟨x.1, by have := h.wa3 _ hxw; show s.num x.1 ≠ 0; omega, fun hr => hSn hr hxS, by rw [ptS hxS]; exact hc.symm⟩
    · obtain ⟨v, h1, h2, h3⟩ := h.full p (by omega)
      exact ⟨v, h1, fun hr => h2 (hrw hr), by rw [ptN h2]; exact h3⟩
  · show s.parts + 1 + rest.length ≤ s.met
    have := h.cle
    rw [hw, List.length_append, List.length_cons] at this
    omega
  · intro u v h1 h2 hv
    rcases hdn h1 h2 with hu | hu
    · rw [ptS hu]
      obtain ⟨a1, a2⟩ := hout hu hv
      rcases hdn a1 a2 with hc | hc
      · rw [ptS hc]; exact Nat.le_refl _
      · rw [ptN hc]; exact Nat.le_of_lt (h.cnt v a1 hc)
    · rw [ptN hu, ptN (h.done u h1 hu v hv).2]
      exact h.ord u v h1 hu hv
/-- how much is left to do -/
def left (n : Nat) (g : Nat → List Nat) (s : St) : Nat := ((List.range n).map fun v => if s.num v = 0 then 2 + (g v).length else 0).sum + (s.steps.map fun x => 1 + ((g x.1).length - x.2)).sum
theorem sum_upd {f : Nat → Nat} {c : Nat → Nat} {v k : Nat} (h0 : f v = 0) (hk : k ≠ 0) : ∀ {n : Nat}, (v < n → ((List.range n).map fun u => if upd f v k u = 0 then c u else 0).sum + c v = ((List.range n).map fun u => if f u = 0 then c u else 0).sum) ∧ (n ≤ v → ((List.range n).map fun u => if upd f v k u = 0 then c u else 0).sum = ((List.range n).map fun u => if f u = 0 then c u else 0).sum)
  | 0 => ⟨fun h => by omega, fun _ => rfl⟩
  | n + 1 => by
    obtain ⟨i1, i2⟩ := sum_upd (c := c) h0 hk (n := n)
    simp only [List.range_succ, List.map_append, List.sum_append, List.map_cons, List.map_nil, List.sum_cons, List.sum_nil, Nat.add_zero]
    refine ⟨fun h => ?_, fun h => ?_⟩
    · by_cases hv : v = n
      · subst hv
        rw [i2 (Nat.le_refl _), upd_self, if_neg hk, if_pos h0, Nat.add_zero]
      · have h1 := i1 (by omega)
        rw [upd_ne (show n ≠ v by omega)]
        omega
    · rw [i2 (by omega), upd_ne (show n ≠ v by omega)]
theorem left_visit {s : St} {v : Nat} (hv : v < n) (h0 : s.num v = 0) : left n g (visit s v) + 1 = left n g s := by
  have h1 := (sum_upd (c := fun v => 2 + (g v).length) (k := s.met + 1) h0 (by omega) (n := n)).1 hv
  unfold left visit
  simp only [List.map_cons, List.sum_cons]
  omega
theorem left_step {s : St} {x : Nat × Nat} {r : List (Nat × Nat)} (e : s.steps = x :: r) (hx : x.2 < (g x.1).length) : left n g { s with steps := (x.1, x.2 + 1) :: r } + 1 = left n g s := by
  unfold left
  rw [e]
  simp only [List.map_cons, List.sum_cons]
  omega
theorem left_look {s : St} {x : Nat × Nat} {r : List (Nat × Nat)} {u : Nat} (e : s.steps = x :: r) (hx : x.2 < (g x.1).length) : left n g (look s x r u) + 1 = left n g s := by
  rw [← left_step e hx]
  rfl
theorem left_pop {s : St} {x : Nat × Nat} {r : List (Nat × Nat)} (e : s.steps = x :: r) : left n g (pop s x r) < left n g s := by
  unfold left
  rw [e, show (pop s x r).num = s.num from rfl, show (pop s x r).steps = r from rfl]
  simp only [List.map_cons, List.sum_cons]
  omega
theorem left_close {s : St} {x : Nat × Nat} {r : List (Nat × Nat)} {pre rest : List Nat} (e : s.steps = x :: r) : left n g (close s x r pre rest) < left n g s := by
  unfold left
  rw [e, show (close s x r pre rest).num = s.num from rfl, show (close s x r pre rest).steps = r from rfl]
  simp only [List.map_cons, List.sum_cons]
  omega
theorem steps_left (s : St) : s.steps.length ≤ left n g s := by
  have key : ∀ l : List (Nat × Nat), l.length ≤ (l.map fun x => 1 + ((g x.1).length - x.2)).sum := by
    intro l
    induction l with
    | nil => simp
    | cons x l ih => simp only [List.length_cons, List.map_cons, List.sum_cons]; omega
  have := key s.steps
  unfold left
  omega
theorem left0 {D : Nat} (h : ∀ v, (g v).length ≤ D) : left n g st0 ≤ n * (2 + D) := by
  have key : ∀ m : Nat, ((List.range m).map fun v => if st0.num v = 0 then 2 + (g v).length else 0).sum ≤ m * (2 + D) := by
    intro m
    induction m with
    | zero => simp
    | succ m ih =>
      simp only [List.range_succ, List.map_append, List.sum_append, List.map_cons, List.map_nil, List.sum_cons, List.sum_nil, Nat.succ_mul]
      have : st0.num m = 0 := rfl
      rw [if_pos this]
      have := h m
      omega
  unfold left
  have := key n
  simpa [st0] using this
theorem Inv.wale {s : St} (h : Inv n g s) : s.wa.length ≤ n ∧ s.parts ≤ n ∧ s.met ≤ n := by
  have h1 := h.cle
  have h2 := h.unv
  omega
/-- behind the search -/
theorem Inv.final {s : St} (h : Inv n g s) (e : s.steps = []) (ha : ∀ v, v < n → s.num v ≠ 0) : (∀ u v, u < n → v < n → (s.pt u = s.pt v ↔ Rch (Eg g) u v ∧ Rch (Eg g) v u)) ∧ (∀ v, v < n → s.pt v < s.parts) ∧ (∀ p, p < s.parts → ∃ v, v < n ∧ s.pt v = p) ∧ s.parts ≤ n ∧ (∀ u v, u < n → v ∈ g u → s.pt v ≤ s.pt u) := by
  have hw := h.nowait e
  have hn : ∀ v, v ∉ s.wa := by rw [hw]; simp
  refine ⟨fun u v hu hv => h.cls u v (ha u hu) (hn u) (ha v hv) (hn v), fun v hv => h.cnt v (ha v hv) (hn v), fun p hp => ?_, ?_, ?_⟩
  · obtain ⟨v, h1, _, h3⟩ := h.full p hp
    exact ⟨v, h.lt v h1, h3⟩
  · have h1 := h.cle
    have h2 := h.unv
    omega
  · intro u v hu hv
    exact h.ord u v (ha u hu) (hn u) hv
end
end Go.Tar

