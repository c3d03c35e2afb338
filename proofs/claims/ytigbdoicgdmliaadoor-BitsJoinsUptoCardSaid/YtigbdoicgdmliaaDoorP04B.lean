/- Two sets side by side: plain words. -/
import Derived.Test.YtigbdoicgdmliaaDoorP04
set_option linter.unusedVariables false
set_option linter.unusedSimpArgs false
namespace Go.Proofs.YtigbdoicgdmliaaDoor.P04
open Go Go.V
theorem get_eq {a : Bk} {l : List Bk} {k : Nat} (e : a.1 = k) : get (a :: l) k = a.2 := by unfold get; rw [if_pos e]
theorem get_ne {a : Bk} {l : List Bk} {k : Nat} (e : ¬ a.1 = k) : get (a :: l) k = get l k := by rw [get, if_neg e]
theorem get_nil (k : Nat) : get [] k = 0 := rfl
instance {bl : List Bk} {n : Nat} : Decidable (Mem bl n) := inferInstanceAs (Decidable (_ = true))
/-- key, bits of the one, bits of the other -/
abbrev Pr := Nat × Nat × Nat
def pairs : List Bk → List Bk → List Pr
  | [], [] => []
  | a :: as, [] => (a.1, a.2, 0) :: pairs as []
  | [], b :: bs => (b.1, 0, b.2) :: pairs [] bs
  | a :: as, b :: bs => if a.1 < b.1 then (a.1, a.2, 0) :: pairs as (b :: bs) else if b.1 < a.1 then (b.1, 0, b.2) :: pairs (a :: as) bs else (a.1, a.2, b.2) :: pairs as bs
termination_by a b => a.length + b.length
def keep1 (op : Nat → Nat → Nat) (p : Pr) : List Bk := if op p.2.1 p.2.2 ≠ 0 then [(p.1, op p.2.1 p.2.2)] else []
def keep (op : Nat → Nat → Nat) (l : List Pr) : List Bk := l.flatMap (keep1 op)
def made (op : Nat → Nat → Nat) (a b : List Bk) : List Bk := keep op (pairs a b)
theorem keep_cons (op : Nat → Nat → Nat) (p : Pr) (l : List Pr) : keep op (p :: l) = keep1 op p ++ keep op l := by unfold keep; rw [List.flatMap_cons]
theorem keep_ge {op : Nat → Nat → Nat} {L : Nat} {l : List Pr} (h : ∀ p ∈ l, L < p.1) : ∀ b ∈ keep op l, L < b.1 := by
  intro b hb
  obtain ⟨p, hp, hb⟩ := List.mem_flatMap.1 hb
  unfold keep1 at hb
  split at hb
  · rw [List.mem_singleton.1 hb]
    exact h p hp
  · cases hb
theorem pairs_ge (L : Nat) (a b : List Bk) : (∀ x ∈ a, L < x.1) → (∀ x ∈ b, L < x.1) → ∀ p ∈ pairs a b, L < p.1 := by
  induction a, b using pairs.induct with
  | case1 => intro _ _ p hp; rw [pairs] at hp; cases hp
  | case2 a as ih =>
    intro h1 h2 p hp
    rw [pairs] at hp
    rcases List.mem_cons.1 hp with rfl | hp
    · exact h1 _ List.mem_cons_self
    · exact ih (fun x hx => h1 x (List.mem_cons_of_mem _ hx)) h2 p hp
  | case3 b bs ih =>
    intro h1 h2 p hp
    rw [pairs] at hp
    rcases List.mem_cons.1 hp with rfl | hp
    · exact h2 _ List.mem_cons_self
    · exact ih h1 (fun x hx => h2 x (List.mem_cons_of_mem _ hx)) p hp
  | case4 a as b bs hlt ih =>
    intro h1 h2 p hp
    rw [pairs, if_pos hlt] at hp
    rcases List.mem_cons.1 hp with rfl | hp
    · exact h1 _ List.mem_cons_self
    · exact ih (fun x hx => h1 x (List.mem_cons_of_mem _ hx)) h2 p hp
  | case5 a as b bs hlt hlt2 ih =>
    intro h1 h2 p hp
    rw [pairs, if_neg hlt, if_pos hlt2] at hp
    rcases List.mem_cons.1 hp with rfl | hp
    · exact h2 _ List.mem_cons_self
    · exact ih h1 (fun x hx => h2 x (List.mem_cons_of_mem _ hx)) p hp
  | case6 a as b bs hlt hlt2 ih =>
    intro h1 h2 p hp
    rw [pairs, if_neg hlt, if_neg hlt2] at hp
    rcases List.mem_cons.1 hp with rfl | hp
    · exact h1 _ List.mem_cons_self
    · exact ih (fun x hx => h1 x (List.mem_cons_of_mem _ hx)) (fun x hx => h2 x (List.mem_cons_of_mem _ hx)) p hp
theorem pairs_lt (a b : List Bk) : (∀ x ∈ a, x.2 < 2 ^ 64) → (∀ x ∈ b, x.2 < 2 ^ 64) → ∀ p ∈ pairs a b, p.2.1 < 2 ^ 64 ∧ p.2.2 < 2 ^ 64 := by
  have t : ∀ {x : Bk} {l : List Bk}, (∀ y ∈ x :: l, y.2 < 2 ^ 64) → ∀ y ∈ l, y.2 < 2 ^ 64 := fun h y hy => h y (List.mem_cons_of_mem _ hy)
  induction a, b using pairs.induct with
  | case1 => intro _ _ p hp; rw [pairs] at hp; cases hp
  | case2 a as ih =>
    intro h1 h2 p hp
    rw [pairs] at hp
    rcases List.mem_cons.1 hp with rfl | hp
    · exact ⟨h1 a List.mem_cons_self, Nat.two_pow_pos 64⟩
    · exact ih (t h1) h2 p hp
  | case3 b bs ih =>
    intro h1 h2 p hp
    rw [pairs] at hp
    rcases List.mem_cons.1 hp with rfl | hp
    · exact ⟨Nat.two_pow_pos 64, h2 b List.mem_cons_self⟩
    · exact ih h1 (t h2) p hp
  | case4 a as b bs hlt ih =>
    intro h1 h2 p hp
    rw [pairs, if_pos hlt] at hp
    rcases List.mem_cons.1 hp with rfl | hp
    · exact ⟨h1 a List.mem_cons_self, Nat.two_pow_pos 64⟩
    · exact ih (t h1) h2 p hp
  | case5 a as b bs hlt hlt2 ih =>
    intro h1 h2 p hp
    rw [pairs, if_neg hlt, if_pos hlt2] at hp
    rcases List.mem_cons.1 hp with rfl | hp
    · exact ⟨Nat.two_pow_pos 64, h2 b List.mem_cons_self⟩
    · exact ih h1 (t h2) p hp
  | case6 a as b bs hlt hlt2 ih =>
    intro h1 h2 p hp
    rw [pairs, if_neg hlt, if_neg hlt2] at hp
    rcases List.mem_cons.1 hp with rfl | hp
    · exact ⟨h1 a List.mem_cons_self, h2 b List.mem_cons_self⟩
    · exact ih (t h1) (t h2) p hp
theorem pairs_len (a b : List Bk) : (pairs a b).length ≤ a.length + b.length := by
  induction a, b using pairs.induct with
  | case1 => rw [pairs]; exact Nat.zero_le _
  | case2 a as ih => rw [pairs]; simp only [List.length_cons] at *; omega
  | case3 b bs ih => rw [pairs]; simp only [List.length_cons] at *; omega
  | case4 a as b bs hlt ih => rw [pairs, if_pos hlt]; simp only [List.length_cons] at *; omega
  | case5 a as b bs hlt hlt2 ih => rw [pairs, if_neg hlt, if_pos hlt2]; simp only [List.length_cons] at *; omega
  | case6 a as b bs hlt hlt2 ih => rw [pairs, if_neg hlt, if_neg hlt2]; simp only [List.length_cons] at *; omega
theorem keep_snoc (op : Nat → Nat → Nat) (p : Pr) (l : List Pr) : keep op (l ++ [p]) = keep op l ++ keep1 op p := by unfold keep; rw [List.flatMap_append, List.flatMap_singleton]
theorem keep_len (op : Nat → Nat → Nat) (l : List Pr) : (keep op l).length ≤ l.length := by
  induction l with
  | nil => exact Nat.zero_le _
  | cons p l ih =>
    rw [keep_cons, List.length_append, List.length_cons]
    have : (keep1 op p).length ≤ 1 := by unfold keep1; split <;> simp
    omega
/-- an operation on bits -/
structure Opr (op : Nat → Nat → Nat) (f : Bool → Bool → Bool) : Prop where
  bit : ∀ x y i, x < 2 ^ 64 → y < 2 ^ 64 → (op x y).testBit i = (f (x.testBit i) (y.testBit i) && decide (i < 64))
  no : f false false = false
theorem Opr.zero {op : Nat → Nat → Nat} {f : Bool → Bool → Bool} (h : Opr op f) : op 0 0 = 0 := by
  apply Nat.eq_of_testBit_eq
  intro i
  rw [h.bit 0 0 i (by decide) (by decide), Nat.zero_testBit, h.no, Bool.false_and]
theorem Opr.lt {op : Nat → Nat → Nat} {f : Bool → Bool → Bool} (h : Opr op f) {x y : Nat} (hx : x < 2 ^ 64) (hy : y < 2 ^ 64) : op x y < 2 ^ 64 := by
  apply Nat.lt_pow_two_of_testBit
  intro i hi
  rw [h.bit x y i hx hy, decide_eq_false (by omega), Bool.and_false]
section
variable {op : Nat → Nat → Nat} {f : Bool → Bool → Bool} (h : Opr op f)
include h
/-- one pair more -/
theorem keep_step {k x y : Nat} {l : List Pr} (hx : x < 2 ^ 64) (hy : y < 2 ^ 64) (hk : k ≤ 4194304) (hl : ∀ p ∈ l, k < p.1) (hw : Wf (keep op l)) :
    Wf (keep op ((k, x, y) :: l)) ∧ ∀ j, get (keep op ((k, x, y) :: l)) j = if k = j then op x y else get (keep op l) j := by
  rw [keep_cons]
  have hg := keep_ge (op := op) hl
  unfold keep1
  simp only
  split
  · rename_i hne
    refine ⟨⟨List.pairwise_cons.2 ⟨fun b hb => hg b hb, hw.up⟩, fun b hb => ?_⟩, fun j => rfl⟩
    rcases List.mem_cons.1 hb with rfl | hb
    · exact ⟨hne, h.lt hx hy, hk⟩
    · exact hw.ok b hb
  · rename_i hz
    refine ⟨hw, fun j => ?_⟩
    rw [List.nil_append]
    split
    · rename_i e
      subst e
      have : op x y = 0 := by omega
      rw [this]
      exact get_none fun b hb => by have := hg b hb; omega
    · rfl
theorem made_get (a b : List Bk) : Wf a → Wf b → Wf (made op a b) ∧ ∀ k, get (made op a b) k = op (get a k) (get b k) := by
  have hz := h.zero
  unfold made
  induction a, b using pairs.induct with
  | case1 =>
    intro _ _
    rw [pairs]
    exact ⟨⟨List.Pairwise.nil, by simp [keep]⟩, fun k => hz.symm⟩
  | case2 a as ih =>
    intro h1 h2
    obtain ⟨i1, i2⟩ := ih h1.tail h2
    have ha := h1.ok a List.mem_cons_self
    have hp := (List.pairwise_cons.1 h1.up).1
    rw [pairs]
    obtain ⟨s1, s2⟩ := keep_step h (y := 0) ha.2.1 (by decide) ha.2.2 (pairs_ge a.1 as [] hp (by simp)) i1
    refine ⟨s1, fun k => ?_⟩
    rw [s2, i2]
    by_cases e : a.1 = k
    · rw [if_pos e, get_eq e, get_nil]
    · rw [if_neg e, get_ne e]
  | case3 b bs ih =>
    intro h1 h2
    obtain ⟨i1, i2⟩ := ih h1 h2.tail
    have hb := h2.ok b List.mem_cons_self
    have hp := (List.pairwise_cons.1 h2.up).1
    rw [pairs]
    obtain ⟨s1, s2⟩ := keep_step h (x := 0) (by decide) hb.2.1 hb.2.2 (pairs_ge b.1 [] bs (by simp) hp) i1
    refine ⟨s1, fun k => ?_⟩
    rw [s2, i2]
    by_cases e : b.1 = k
    · rw [if_pos e, get_eq e, get_nil]
    · rw [if_neg e, get_ne e]
  | case4 a as b bs hlt ih =>
    intro h1 h2
    obtain ⟨i1, i2⟩ := ih h1.tail h2
    have ha := h1.ok a List.mem_cons_self
    have hp := (List.pairwise_cons.1 h1.up).1
    have hq := (List.pairwise_cons.1 h2.up).1
    have hbs : ∀ x ∈ b :: bs, a.1 < x.1 := fun x hx => by
      rcases List.mem_cons.1 hx with rfl | hx
      · exact hlt
      · have := hq x hx; omega
    rw [pairs, if_pos hlt]
    obtain ⟨s1, s2⟩ := keep_step h (y := 0) ha.2.1 (by decide) ha.2.2 (pairs_ge a.1 as (b :: bs) hp hbs) i1
    refine ⟨s1, fun k => ?_⟩
    rw [s2, i2]
    by_cases e : a.1 = k
    · have e0 : get (b :: bs) k = 0 := get_none fun x hx => by have := hbs x hx; omega
      rw [if_pos e, e0, get_eq e]
    · rw [if_neg e, get_ne e]
  | case5 a as b bs hlt hlt2 ih =>
    intro h1 h2
    obtain ⟨i1, i2⟩ := ih h1 h2.tail
    have hb := h2.ok b List.mem_cons_self
    have hp := (List.pairwise_cons.1 h1.up).1
    have hq := (List.pairwise_cons.1 h2.up).1
    have has : ∀ x ∈ a :: as, b.1 < x.1 := fun x hx => by
      rcases List.mem_cons.1 hx with rfl | hx
      · exact hlt2
      · have := hp x hx; omega
    rw [pairs, if_neg hlt, if_pos hlt2]
    obtain ⟨s1, s2⟩ := keep_step h (x := 0) (by decide) hb.2.1 hb.2.2 (pairs_ge b.1 (a :: as) bs has hq) i1
    refine ⟨s1, fun k => ?_⟩
    rw [s2, i2]
    by_cases e : b.1 = k
    · have e0 : get (a :: as) k = 0 := get_none fun x hx => by have := has x hx; omega
      rw [if_pos e, e0, get_eq e]
    · rw [if_neg e, get_ne (a := b) e]
  | case6 a as b bs hlt hlt2 ih =>
    intro h1 h2
    obtain ⟨i1, i2⟩ := ih h1.tail h2.tail
    have ha := h1.ok a List.mem_cons_self
    have hb := h2.ok b List.mem_cons_self
    have hp := (List.pairwise_cons.1 h1.up).1
    have hq := (List.pairwise_cons.1 h2.up).1
    have hab : a.1 = b.1 := by omega
    rw [pairs, if_neg hlt, if_neg hlt2]
    obtain ⟨s1, s2⟩ := keep_step h ha.2.1 hb.2.1 ha.2.2 (pairs_ge a.1 as bs hp (fun x hx => by have := hq x hx; omega)) i1
    refine ⟨s1, fun k => ?_⟩
    rw [s2, i2]
    by_cases e : a.1 = k
    · rw [if_pos e, get_eq e, get_eq (a := b) (by omega)]
    · rw [if_neg e, get_ne e, get_ne (a := b) (by omega)]
theorem made_mem {a b : List Bk} (ha : Wf a) (hb : Wf b) (n : Nat) : Mem (made op a b) n ↔ f (decide (Mem a n)) (decide (Mem b n)) = true := by
  have d : ∀ l : List Bk, decide (Mem l n) = (get l (n / 64)).testBit (n % 64) := fun l => Bool.decide_eq_true
  rw [d, d]
  unfold Mem
  rw [(made_get h a b ha hb).2, h.bit _ _ _ (get_lt ha _) (get_lt hb _), decide_eq_true (Nat.mod_lt _ (by decide)), Bool.and_true]
end
theorem opr_or : Opr (· ||| ·) (· || ·) := ⟨fun x y i hx hy => by
  rw [Nat.testBit_or]
  by_cases hi : i < 64
  · rw [decide_eq_true hi, Bool.and_true]
  · have : ∀ z : Nat, z < 2 ^ 64 → z.testBit i = false := fun z hz => Nat.testBit_lt_two_pow (Nat.lt_of_lt_of_le hz (Nat.pow_le_pow_right (by decide) (by omega)))
    rw [this x hx, this y hy]; rfl, rfl⟩
theorem opr_and : Opr (· &&& ·) (· && ·) := ⟨fun x y i hx hy => by
  rw [Nat.testBit_and]
  by_cases hi : i < 64
  · rw [decide_eq_true hi, Bool.and_true]
  · have : ∀ z : Nat, z < 2 ^ 64 → z.testBit i = false := fun z hz => Nat.testBit_lt_two_pow (Nat.lt_of_lt_of_le hz (Nat.pow_le_pow_right (by decide) (by omega)))
    rw [this x hx, this y hy]; rfl, rfl⟩
/-- what is in one alone -/
def andNot (x y : Nat) : Nat := x &&& (2 ^ 64 - 1 - y)
theorem opr_not : Opr andNot (fun a b => a && !b) := ⟨fun x y i hx hy => by
  unfold andNot
  rw [Nat.testBit_and]
  by_cases hi : i < 64
  · rw [Nat.sub_sub, Nat.add_comm 1 y, Nat.testBit_two_pow_sub_succ hy]
    simp [hi]
  · have : ∀ z : Nat, z < 2 ^ 64 → z.testBit i = false := fun z hz => Nat.testBit_lt_two_pow (Nat.lt_of_lt_of_le hz (Nat.pow_le_pow_right (by decide) (by omega)))
    rw [this x hx]; simp, rfl⟩
end Go.Proofs.YtigbdoicgdmliaaDoor.P04

