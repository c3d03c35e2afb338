/- tarjan: Parts. -/
import Derived.Test.YtoigfahdgphpdaaC7B
import Derived.Test.YtoigfahdgphpdaaG7P
set_option linter.unusedVariables false
set_option linter.unusedSimpArgs false
-- tInt: 3
-- tInts: 42
-- tIntss: 38
-- parts: 22
namespace Go.Proofs.Ytoigfahdgphpdaa.C7
open Go Go.V Go.Proofs Go.Proofs.Ytoigfahdgphpdaa.N07 Go.Tar
attribute [local irreducible] Cvt ExtF CallF hrun App MkS
/-- what leads where, of edges -/
def m0 (N : Nat) (es : List (Int × Int)) (i j : Nat) : Bool := i == j || (adj N es i).contains j
def rE (N : Nat) (es : List (Int × Int)) : Nat → Nat → Bool := wrs (m0 N es) N
theorem rE_iff {N : Nat} {es : List (Int × Int)} {i j : Nat} (hi : i < N) : rE N es i j = true ↔ Rch (Eg (adj N es)) i j := by
  constructor
  · intro h
    refine wrs_sound (m := m0 N es) ?_ N h
    intro a b hab
    unfold m0 at hab
    rw [Bool.or_eq_true] at hab
    rcases hab with hab | hab
    · rw [eq_of_beq hab]; exact .refl _
    · exact .one (by simpa using hab)
  · intro h
    refine wrs_full (E := Eg (adj N es)) ?_ ?_ ?_ h hi
    · intro a b hab
      have hab' : b ∈ adj N es a := hab
      unfold m0
      simp [hab']
    · intro a _
      simp [m0]
    · intro a b hab
      have hab' : b ∈ adj N es a := hab
      refine ⟨?_, adj_lt hab'⟩
      unfold adj at hab'
      obtain ⟨e, _, he⟩ := List.mem_filterMap.1 hab'
      split at he
      · rename_i hc
        simp only [inb, Bool.and_eq_true, decide_eq_true_eq, beq_iff_eq] at hc
        omega
      · cases he
/-- the parts in order -/
def partsOf (N : Nat) (es : List (Int × Int)) : List (List Nat) := bld (rE N es) N N fun _ => false
def nOf (n : Int) : Nat := if n < 0 ∨ n > 20000 then 0 else n.toNat
theorem nOf_le {n : Int} : nOf n ≤ 20000 := by unfold nOf; split <;> omega
section
variable {N P : Nat} {pt : Nat → Nat} {g : Nat → List Nat}
/-- who leads to whom, as far as these edges go -/
structure LdOk (pt : Nat → Nat) (W : Nat → Nat → Prop) (ld : Nat → List Nat) : Prop where
  iff : ∀ p q, p ∈ ld q ↔ p ≠ q ∧ ∃ u v, W u v ∧ pt u = p ∧ pt v = q
  nd : ∀ q, (ld q).Nodup
theorem LdOk.congr {W W' : Nat → Nat → Prop} {ld : Nat → List Nat} (h : LdOk pt W ld) (hw : ∀ u v, W u v ↔ W' u v) : LdOk pt W' ld :=
  ⟨fun p q => (h.iff p q).trans ⟨fun ⟨a, u, v, b, c⟩ => ⟨a, u, v, (hw u v).1 b, c⟩, fun ⟨a, u, v, b, c⟩ => ⟨a, u, v, (hw u v).2 b, c⟩⟩, h.nd⟩
theorem LdOk.skip {W : Nat → Nat → Prop} {ld : Nat → List Nat} {a c : Nat} (h : LdOk pt W ld) (hs : pt a = pt c ∨ pt a ∈ ld (pt c)) : LdOk pt (fun u v => W u v ∨ (u = a ∧ v = c)) ld := by
  refine ⟨fun p q => ⟨fun hp => ?_, ?_⟩, h.nd⟩
  · obtain ⟨h1, u, v, h2, h3⟩ := (h.iff p q).1 hp
    exact ⟨h1, u, v, .inl h2, h3⟩
  · rintro ⟨h1, u, v, h2 | ⟨rfl, rfl⟩, h3, h4⟩
    · exact (h.iff p q).2 ⟨h1, u, v, h2, h3, h4⟩
    · rcases hs with hs | hs
      · exact absurd (by rw [← h3, ← h4, hs]) h1
      · rw [← h3, ← h4]; exact hs
theorem LdOk.put {W : Nat → Nat → Prop} {ld : Nat → List Nat} {a c : Nat} (h : LdOk pt W ld) (h1 : pt a ≠ pt c) (h2 : pt a ∉ ld (pt c)) : LdOk pt (fun u v => W u v ∨ (u = a ∧ v = c)) (upd ld (pt c) (ld (pt c) ++ [pt a])) := by
  refine ⟨fun p q => ?_, fun q => ?_⟩
  · by_cases hq : q = pt c
    · subst hq
      rw [upd_self, List.mem_append, List.mem_singleton, h.iff]
      constructor
      · rintro (⟨a1, u, v, a2, a3⟩ | rfl)
        · exact ⟨a1, u, v, .inl a2, a3⟩
        · exact ⟨h1, a, c, .inr ⟨rfl, rfl⟩, rfl, rfl⟩
      · rintro ⟨a1, u, v, a2 | ⟨rfl, rfl⟩, a3, a4⟩
        · exact .inl ⟨a1, u, v, a2, a3, a4⟩
        · exact .inr a3.symm
    · rw [upd_ne hq, h.iff]
      constructor
      · rintro ⟨a1, u, v, a2, a3⟩
        exact ⟨a1, u, v, .inl a2, a3⟩
      · rintro ⟨a1, u, v, a2 | ⟨rfl, rfl⟩, a3, a4⟩
        · exact ⟨a1, u, v, a2, a3, a4⟩
        · exact absurd a4.symm hq
  · by_cases hq : q = pt c
    · subst hq
      rw [upd_self, List.nodup_append]
      exact ⟨h.nd _, by simp, fun x hx y hy e => by rw [List.mem_singleton.1 hy] at e; rw [e] at hx; exact h2 hx⟩
    · rw [upd_ne hq]; exact h.nd _
def opn (P : Nat) (ld : Nat → List Nat) (D : Nat → Bool) (p : Nat) : Int := if D p = true then -1 else (cnt (fun q => !D q && decide (p ∈ ld q)) P : Nat)
theorem opn_put {ld : Nat → List Nat} {D : Nat → Bool} {p q : Nat} (hD : ∀ p, D p = false) (hq : q < P) (h2 : p ∉ ld q) : opn P (upd ld q (ld q ++ [p])) D = upd (opn P ld D) p (opn P ld D p + 1) := by
  funext x
  unfold opn
  simp only [hD, Bool.false_eq_true, if_false, Bool.not_false, Bool.true_and]
  by_cases hx : x = p
  · subst hx
    rw [upd_self]
    have := cnt_up (f := fun q => decide (x ∈ ld q)) (f' := fun q' => decide (x ∈ upd ld q (ld q ++ [x]) q')) (v := q) (by simpa using h2) (by simp [upd_self]) (fun u hu => by simp [upd_ne hu]) hq
    rw [this]
    omega
  · rw [upd_ne hx]
    congr 1
    refine cnt_congr fun v _ => ?_
    by_cases hv : v = q
    · subst hv
      simp [upd_self, hx]
    · simp [upd_ne hv]
end
section
variable {H : Hp} {K : Value → Hp → Prop} {Z : List PanicEntry → Hp → Prop}
def pre (N : Nat) (pt : Nat → Nat) (j p : Nat) : List Nat := (List.range j).filter fun v => pt v == p
theorem pre_succ {N j p : Nat} {pt : Nat → Nat} : pre N pt (j + 1) p = if pt j = p then pre N pt j p ++ [j] else pre N pt j p := by
  unfold pre
  rw [List.range_succ, List.filter_append]
  by_cases h : pt j = p
  · simp [h]
  · simp [h]
theorem pre_le {N j p : Nat} {pt : Nat → Nat} : (pre N pt j p).length ≤ j := by
  have := List.length_filter_le (fun v => pt v == p) (List.range j)
  rw [List.length_range] at this
  exact this
theorem ld_le {N : Nat} {ld : Nat → List Nat} {W : Nat → Nat → Prop} {pt : Nat → Nat} (h : LdOk pt W ld) (hP : ∀ u v, W u v → pt u < N) (q : Nat) : (ld q).length ≤ N := by
  have h1 : ∀ l : List Nat, l.Nodup → (∀ x ∈ l, x < N) → l.length ≤ N := by
    intro l hn hl
    have hsub : l.length = cnt (fun v => decide (v ∈ l)) N := by
      clear h hP
      induction l with
      | nil => exact (cnt_zero.2 fun v _ => by simp).symm
      | cons a l ih =>
        rw [List.nodup_cons] at hn
        rw [List.length_cons, ih hn.2 fun x hx => hl x (List.mem_cons_of_mem _ hx)]
        exact (cnt_up (v := a) (by simpa using hn.1) (by simp) (fun u hu => by simp [hu]) (hl a List.mem_cons_self)).symm
    rw [hsub]
    exact cnt_le N
  refine h1 _ (h.nd q) fun p hp => ?_
  obtain ⟨_, u, v, hw, hu, _⟩ := (h.iff p q).1 hp
  rw [← hu]
  exact hP u v hw
/-- what is led to stands ahead -/
def OrdOk (N : Nat) (pt : Nat → Nat) (g : Nat → List Nat) (ch : List Nat) : Prop := ∀ a p b, ch = a ++ p :: b → ∀ u, u < N → pt u = p → ∀ v ∈ g u, pt v = p ∨ pt v ∈ a
theorem OrdOk.snoc {N : Nat} {pt : Nat → Nat} {g : Nat → List Nat} {ch : List Nat} {p : Nat} (h : OrdOk N pt g ch) (hp : ∀ u, u < N → pt u = p → ∀ v ∈ g u, pt v = p ∨ pt v ∈ ch) : OrdOk N pt g (ch ++ [p]) := by
  intro a q b e
  rcases List.eq_nil_or_concat b with rfl | ⟨b', x, rfl⟩
  · have e' : ch ++ [p] = a ++ [q] := e
    obtain ⟨rfl, h2⟩ := List.append_inj' e' rfl
    simp only [List.cons.injEq, and_true] at h2
    subst h2
    exact hp
  · have e' : ch ++ [p] = (a ++ q :: b') ++ [x] := by rw [e]; simp
    obtain ⟨h1, h2⟩ := List.append_inj' e' rfl
    exact h a q b' h1
/-- what is known of the parts in order -/
def PartsFacts (N : Nat) (es : List (Int × Int)) : Prop := ∃ (P : Nat) (pt : Nat → Nat) (ch : List Nat), PtOk (rE N es) N P pt (adj N es) ∧ ch.length = P ∧ (∀ p ∈ ch, p < P) ∧ ch.Nodup ∧ (∀ p, p < P → p ∈ ch) ∧ partsOf N es = ch.map (mem pt N) ∧ OrdOk N pt (adj N es) ch
end
end Go.Proofs.Ytoigfahdgphpdaa.C7

