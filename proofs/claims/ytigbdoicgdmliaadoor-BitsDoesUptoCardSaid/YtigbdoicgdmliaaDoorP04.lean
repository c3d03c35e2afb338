/- Sets of numbers, sixty-four in a block: plain words. -/
import Derived.Test.YtigbdoicgdmliaaDoorV24
set_option linter.unusedVariables false
set_option linter.unusedSimpArgs false
namespace Go.Proofs.YtigbdoicgdmliaaDoor.P04
open Go Go.V
abbrev Bk := Nat × Nat
/-- how many bits there are -/
def pc : Nat → Nat → Nat
  | 0, _ => 0
  | n + 1, x => x % 2 + pc n (x / 2)
/-- the places of the bits -/
def bitsL : Nat → Nat → Nat → List Nat
  | 0, _, _ => []
  | n + 1, k, x => (if x % 2 = 1 then [k] else []) ++ bitsL n (k + 1) (x / 2)
theorem bitsL_len : ∀ (n k x : Nat), (bitsL n k x).length = pc n x
  | 0, _, _ => rfl
  | n + 1, k, x => by
    unfold bitsL pc
    rw [List.length_append, bitsL_len n]
    split
    · rename_i h; rw [h]; rfl
    · have : x % 2 = 0 := by omega
      rw [this]; rfl
theorem mem_bitsL : ∀ (n k x m : Nat), m ∈ bitsL n k x ↔ k ≤ m ∧ m < k + n ∧ x.testBit (m - k) = true
  | 0, k, x, m => by simp [bitsL]; omega
  | n + 1, k, x, m => by
    unfold bitsL
    rw [List.mem_append, mem_bitsL n (k + 1) (x / 2) m]
    have hif : m ∈ (if x % 2 = 1 then [k] else []) ↔ m = k ∧ x % 2 = 1 := by
      split
      · rename_i h; simp [h]
      · rename_i h; simp [h]
    rw [hif]
    constructor
    · rintro (⟨rfl, h⟩ | ⟨h1, h2, h3⟩)
      · refine ⟨Nat.le_refl _, by omega, ?_⟩
        rw [Nat.sub_self, Nat.testBit_zero]
        exact decide_eq_true h
      · refine ⟨by omega, by omega, ?_⟩
        have e : m - k = (m - (k + 1)) + 1 := by omega
        rw [e, Nat.testBit_succ]
        exact h3
    · rintro ⟨h1, h2, h3⟩
      rcases Nat.eq_or_lt_of_le h1 with e | e
      · left
        refine ⟨e.symm, ?_⟩
        rw [← e, Nat.sub_self, Nat.testBit_zero] at h3
        exact of_decide_eq_true h3
      · right
        refine ⟨by omega, by omega, ?_⟩
        have e : m - k = (m - (k + 1)) + 1 := by omega
        rw [e, Nat.testBit_succ] at h3
        exact h3
abbrev Up (l : List Nat) : Prop := l.Pairwise (· < ·)
theorem bitsL_up : ∀ (n k x : Nat), Up (bitsL n k x)
  | 0, _, _ => List.Pairwise.nil
  | n + 1, k, x => by
    unfold bitsL
    have ih := bitsL_up n (k + 1) (x / 2)
    split
    · rw [List.singleton_append]
      unfold Up
      rw [List.pairwise_cons]
      exact ⟨fun m hm => by have := (mem_bitsL n (k + 1) (x / 2) m).1 hm; omega, ih⟩
    · exact ih
theorem up_same : ∀ {a b : List Nat}, Up a → Up b → (∀ z, z ∈ a ↔ z ∈ b) → a = b
  | [], [], _, _, _ => rfl
  | [], y :: b, _, _, h => absurd ((h y).2 List.mem_cons_self) (by simp)
  | x :: a, [], _, _, h => absurd ((h x).1 List.mem_cons_self) (by simp)
  | x :: a, y :: b, ha, hb, h => by
    unfold Up at ha hb
    rw [List.pairwise_cons] at ha hb
    have hxy : x = y := by
      rcases List.mem_cons.1 ((h x).1 List.mem_cons_self) with e | hx
      · exact e
      · rcases List.mem_cons.1 ((h y).2 List.mem_cons_self) with e | hy
        · exact e.symm
        · have h1 := hb.1 x hx
          have h2 := ha.1 y hy
          omega
    subst hxy
    congr 1
    refine up_same ha.2 hb.2 fun z => ?_
    constructor
    · intro hz
      rcases List.mem_cons.1 ((h z).1 (List.mem_cons_of_mem _ hz)) with e | hz'
      · subst e
        have := ha.1 z hz
        omega
      · exact hz'
    · intro hz
      rcases List.mem_cons.1 ((h z).2 (List.mem_cons_of_mem _ hz)) with e | hz'
      · subst e
        have := hb.1 z hz
        omega
      · exact hz'
/-- a set in blocks -/
structure Wf (bl : List Bk) : Prop where
  up : bl.Pairwise (fun a b => a.1 < b.1)
  ok : ∀ b ∈ bl, b.2 ≠ 0 ∧ b.2 < 2 ^ 64 ∧ b.1 ≤ 4194304
def get : List Bk → Nat → Nat
  | [], _ => 0
  | b :: l, k => if b.1 = k then b.2 else get l k
def Mem (bl : List Bk) (n : Nat) : Prop := (get bl (n / 64)).testBit (n % 64) = true
theorem get_none : ∀ {bl : List Bk} {k : Nat}, (∀ b ∈ bl, b.1 ≠ k) → get bl k = 0
  | [], _, _ => rfl
  | b :: l, k, h => by
    unfold get
    rw [if_neg (h b List.mem_cons_self)]
    exact get_none fun x hx => h x (List.mem_cons_of_mem _ hx)
theorem get_mem : ∀ {bl : List Bk} {b : Bk}, bl.Pairwise (fun a b => a.1 < b.1) → b ∈ bl → get bl b.1 = b.2
  | c :: l, b, hp, hb => by
    rw [List.pairwise_cons] at hp
    unfold get
    rcases List.mem_cons.1 hb with rfl | hb
    · rw [if_pos rfl]
    · have := hp.1 b hb
      rw [if_neg (by omega)]
      exact get_mem hp.2 hb
theorem get_in : ∀ {bl : List Bk} {k : Nat}, get bl k ≠ 0 → (k, get bl k) ∈ bl
  | [], k, h => absurd rfl h
  | c :: l, k, h => by
    unfold get at h ⊢
    split at h
    · rename_i e
      rw [if_pos e, ← e]
      exact List.mem_cons_self
    · rename_i e
      rw [if_neg e]
      exact List.mem_cons_of_mem _ (get_in h)
theorem Wf.tail {b : Bk} {l : List Bk} (h : Wf (b :: l)) : Wf l := ⟨(List.pairwise_cons.1 h.up).2, fun x hx => h.ok x (List.mem_cons_of_mem _ hx)⟩
theorem get_lt {bl : List Bk} (h : Wf bl) (k : Nat) : get bl k < 2 ^ 64 := by
  rcases Nat.eq_zero_or_pos (get bl k) with e | e
  · rw [e]; decide
  · exact (h.ok _ (get_in (by omega))).2.1
/-- blocks with the same bits are the same -/
theorem wf_same {a b : List Bk} (ha : Wf a) (hb : Wf b) (h : ∀ k, get a k = get b k) : a = b := by
  have sub : ∀ {a b : List Bk}, Wf a → Wf b → (∀ k, get a k = get b k) → ∀ x ∈ a, x ∈ b := by
    intro a b ha hb h x hx
    have e := get_mem ha.up hx
    rw [h] at e
    have h0 := (ha.ok x hx).1
    have := get_in (bl := b) (k := x.1) (by rw [e]; exact h0)
    rw [e] at this
    exact this
  have s1 := sub ha hb h
  have s2 := sub hb ha fun k => (h k).symm
  clear sub h
  induction a generalizing b with
  | nil =>
    cases b with
    | nil => rfl
    | cons y b => exact absurd (s2 y List.mem_cons_self) (by simp)
  | cons x a ih =>
    cases b with
    | nil => exact absurd (s1 x List.mem_cons_self) (by simp)
    | cons y b =>
      have pa := List.pairwise_cons.1 ha.up
      have pb := List.pairwise_cons.1 hb.up
      have hxy : x = y := by
        rcases List.mem_cons.1 (s1 x List.mem_cons_self) with e | hx
        · exact e
        · rcases List.mem_cons.1 (s2 y List.mem_cons_self) with e | hy
          · exact e.symm
          · have h1 := pb.1 x hx
            have h2 := pa.1 y hy
            omega
      subst hxy
      congr 1
      refine ih ha.tail hb.tail (fun z hz => ?_) fun z hz => ?_
      · rcases List.mem_cons.1 (s1 z (List.mem_cons_of_mem _ hz)) with e | h
        · subst e
          have := pa.1 z hz
          omega
        · exact h
      · rcases List.mem_cons.1 (s2 z (List.mem_cons_of_mem _ hz)) with e | h
        · subst e
          have := pb.1 z hz
          omega
        · exact h
theorem wf_same' {a b : List Bk} (ha : Wf a) (hb : Wf b) (h : ∀ n, Mem a n ↔ Mem b n) : a = b := by
  refine wf_same ha hb fun k => ?_
  apply Nat.eq_of_testBit_eq
  intro i
  by_cases hi : i < 64
  · have := h (k * 64 + i)
    unfold Mem at this
    have e1 : (k * 64 + i) / 64 = k := by omega
    have e2 : (k * 64 + i) % 64 = i := by omega
    rw [e1, e2] at this
    exact Bool.eq_iff_iff.2 this
  · have h64 : ∀ {l : List Bk}, Wf l → (get l k).testBit i = false := fun hl => Nat.testBit_lt_two_pow (Nat.lt_of_lt_of_le (get_lt hl k) (Nat.pow_le_pow_right (by decide) (by omega)))
    rw [h64 ha, h64 hb]
/-- what a set tells -/
def tell (b : Bk) : List Nat := bitsL 64 (b.1 * 64) b.2
def tells (bl : List Bk) : List Nat := bl.flatMap tell
theorem mem_tell {b : Bk} {n : Nat} : n ∈ tell b ↔ n / 64 = b.1 ∧ b.2.testBit (n % 64) = true := by
  unfold tell
  rw [mem_bitsL]
  constructor
  · rintro ⟨h1, h2, h3⟩
    have e : n - b.1 * 64 = n % 64 := by omega
    rw [e] at h3
    exact ⟨by omega, h3⟩
  · rintro ⟨h1, h2⟩
    have e : n - b.1 * 64 = n % 64 := by omega
    rw [e]
    exact ⟨by omega, by omega, h2⟩
theorem mem_tells {bl : List Bk} (h : Wf bl) {n : Nat} : n ∈ tells bl ↔ Mem bl n := by
  unfold tells Mem
  rw [List.mem_flatMap]
  constructor
  · rintro ⟨b, hb, hn⟩
    obtain ⟨h1, h2⟩ := mem_tell.1 hn
    rw [h1, get_mem h.up hb]
    exact h2
  · intro hn
    have h0 : get bl (n / 64) ≠ 0 := by
      intro e
      rw [e, Nat.zero_testBit] at hn
      cases hn
    exact ⟨_, get_in h0, mem_tell.2 ⟨rfl, hn⟩⟩
theorem tells_up : ∀ {bl : List Bk}, Wf bl → Up (tells bl)
  | [], _ => List.Pairwise.nil
  | b :: l, h => by
    have ih := tells_up h.tail
    unfold tells
    rw [List.flatMap_cons]
    unfold Up
    rw [List.pairwise_append]
    refine ⟨bitsL_up _ _ _, ih, fun x hx y hy => ?_⟩
    obtain ⟨c, hc, hy⟩ := List.mem_flatMap.1 hy
    have h1 := (mem_tell.1 hx).1
    have h2 := (mem_tell.1 hy).1
    have h3 := (List.pairwise_cons.1 h.up).1 c hc
    omega
theorem tells_len : ∀ bl : List Bk, (tells bl).length = (bl.map fun b => pc 64 b.2).sum
  | [] => rfl
  | b :: l => by
    unfold tells
    rw [List.flatMap_cons, List.length_append, List.map_cons, List.sum_cons]
    have := tells_len l
    unfold tells at this
    rw [this]
    unfold tell
    rw [bitsL_len]
/-- two sets tell the same only if they are the same -/
theorem tells_inj {a b : List Bk} (ha : Wf a) (hb : Wf b) : tells a = tells b ↔ a = b := by
  constructor
  · intro h
    refine wf_same' ha hb fun n => ?_
    rw [← mem_tells ha, ← mem_tells hb, h]
  · rintro rfl; rfl
theorem tell_pos {b : Bk} (h0 : b.2 ≠ 0) (h1 : b.2 < 2 ^ 64) : tell b ≠ [] := by
  intro e
  have : ∃ i, i < 64 ∧ b.2.testBit i = true := by
    rcases Classical.em (∃ i, i < 64 ∧ b.2.testBit i = true) with h | h
    · exact h
    · exfalso
      apply h0
      apply Nat.eq_of_testBit_eq
      intro i
      rw [Nat.zero_testBit]
      by_cases hi : i < 64
      · cases hb : b.2.testBit i with
        | false => rfl
        | true => exact absurd ⟨i, hi, hb⟩ h
      · exact Nat.testBit_lt_two_pow (Nat.lt_of_lt_of_le h1 (Nat.pow_le_pow_right (by decide) (by omega)))
  obtain ⟨i, hi, hb⟩ := this
  have : b.1 * 64 + i ∈ tell b := mem_tell.2 ⟨by omega, by
    have e : (b.1 * 64 + i) % 64 = i := by omega
    rw [e]
    exact hb⟩
  rw [e] at this
  cases this
/-- how many runs of numbers lie in blocks of their own -/
def runs : Option Nat → List Nat → Nat
  | _, [] => 0
  | p, x :: l => (if p = some (x / 64) then 0 else 1) + runs (some (x / 64)) l
theorem runs_same : ∀ {k : Nat} {l : List Nat} {m : List Nat}, (∀ x ∈ l, x / 64 = k) → runs (some k) (l ++ m) = runs (some k) m
  | k, [], m, _ => rfl
  | k, x :: l, m, h => by
    have e := h x List.mem_cons_self
    rw [List.cons_append, runs, e, if_pos rfl, Nat.zero_add]
    exact runs_same fun y hy => h y (List.mem_cons_of_mem _ hy)
theorem runs_tells : ∀ {bl : List Bk} {p : Option Nat}, Wf bl → (∀ b ∈ bl, p ≠ some b.1) → runs p (tells bl) = bl.length
  | [], p, _, _ => rfl
  | b :: l, p, h, hp => by
    have hb := h.ok b List.mem_cons_self
    unfold tells
    rw [List.flatMap_cons]
    have hall : ∀ x ∈ tell b, x / 64 = b.1 := fun x hx => (mem_tell.1 hx).1
    cases ht : tell b with
    | nil => exact absurd ht (tell_pos hb.1 hb.2.1)
    | cons y t =>
      rw [ht] at hall
      have e := hall y List.mem_cons_self
      rw [List.cons_append, runs, e, if_neg (hp b List.mem_cons_self), runs_same fun x hx => hall x (List.mem_cons_of_mem _ hx)]
      have := runs_tells (p := some b.1) h.tail fun c hc e => by
        have := (List.pairwise_cons.1 h.up).1 c hc
        have e' := Option.some.inj e
        omega
      unfold tells at this
      rw [this, List.length_cons]
      omega
/-! ### adding -/
def bitOf (n : Nat) : Nat := 2 ^ (n % 64)
theorem bitOf_lt (n : Nat) : bitOf n < 2 ^ 64 := Nat.pow_lt_pow_right (by decide) (Nat.mod_lt _ (by decide))
theorem bitOf_test (n i : Nat) : (bitOf n).testBit i = decide (n % 64 = i) := by
  unfold bitOf
  rw [Nat.testBit_two_pow]
def putB : List Bk → Nat → List Bk
  | [], n => [(n / 64, bitOf n)]
  | b :: l, n => if b.1 < n / 64 then b :: putB l n else if b.1 = n / 64 then (b.1, b.2 ||| bitOf n) :: l else (n / 64, bitOf n) :: b :: l
theorem putB_ge : ∀ {l : List Bk} {n k : Nat}, (∀ b ∈ l, k < b.1) → k < n / 64 → ∀ b ∈ putB l n, k < b.1
  | [], n, k, _, hk, b, hb => by
    rw [List.mem_singleton.1 hb]
    exact hk
  | c :: l, n, k, h, hk, b, hb => by
    unfold putB at hb
    split at hb
    · rcases List.mem_cons.1 hb with rfl | hb
      · exact h _ List.mem_cons_self
      · exact putB_ge (fun x hx => h x (List.mem_cons_of_mem _ hx)) hk b hb
    · split at hb
      · rcases List.mem_cons.1 hb with rfl | hb
        · exact h c List.mem_cons_self
        · exact h b (List.mem_cons_of_mem _ hb)
      · rcases List.mem_cons.1 hb with rfl | hb
        · exact hk
        · exact h b hb
theorem putB_wf : ∀ {l : List Bk} {n : Nat}, Wf l → n ≤ 268435456 → Wf (putB l n)
  | [], n, _, hn => by
    have h0 : bitOf n ≠ 0 := by unfold bitOf; exact Nat.ne_of_gt (Nat.two_pow_pos _)
    refine ⟨by simp [putB], fun b hb => ?_⟩
    rw [List.mem_singleton.1 hb]
    exact ⟨h0, bitOf_lt n, by simp only; omega⟩
  | c :: l, n, h, hn => by
    have h0 : bitOf n ≠ 0 := by unfold bitOf; exact Nat.ne_of_gt (Nat.two_pow_pos _)
    have hp := List.pairwise_cons.1 h.up
    unfold putB
    split
    · rename_i hlt
      have ih := putB_wf h.tail hn
      refine ⟨List.pairwise_cons.2 ⟨fun b hb => putB_ge (fun x hx => hp.1 x hx) hlt b hb, ih.up⟩, fun b hb => ?_⟩
      rcases List.mem_cons.1 hb with rfl | hb
      · exact h.ok _ List.mem_cons_self
      · exact ih.ok b hb
    · split
      · rename_i _ he
        have hc := h.ok c List.mem_cons_self
        refine ⟨List.pairwise_cons.2 ⟨hp.1, hp.2⟩, fun b hb => ?_⟩
        rcases List.mem_cons.1 hb with rfl | hb
        · refine ⟨?_, Nat.or_lt_two_pow hc.2.1 (bitOf_lt n), hc.2.2⟩
          intro e
          have := congrArg (fun x => x.testBit (n % 64)) e
          simp only [Nat.testBit_or, bitOf_test, Nat.zero_testBit] at this
          simp at this
        · exact h.ok b (List.mem_cons_of_mem _ hb)
      · rename_i h1 h2
        refine ⟨List.pairwise_cons.2 ⟨fun b hb => ?_, h.up⟩, fun b hb => ?_⟩
        · rcases List.mem_cons.1 hb with rfl | hb
          · simp only; omega
          · have := hp.1 b hb
            simp only; omega
        · rcases List.mem_cons.1 hb with rfl | hb
          · exact ⟨h0, bitOf_lt n, by simp only; omega⟩
          · exact h.ok b hb
theorem putB_get : ∀ {l : List Bk} {n k : Nat}, Wf l → get (putB l n) k = if n / 64 = k then get l k ||| bitOf n else get l k
  | [], n, k, _ => by
    unfold putB get
    split
    · simp [get]
    · rfl
  | c :: l, n, k, h => by
    have hp := List.pairwise_cons.1 h.up
    unfold putB
    split
    · rename_i hlt
      rw [get, get, putB_get h.tail]
      by_cases e : c.1 = k
      · rw [if_pos e, if_neg (by omega), if_pos e]
      · rw [if_neg e, if_neg e]
    · split
      · rename_i _ he
        rw [get, get]
        simp only
        by_cases e : c.1 = k
        · rw [if_pos e, if_pos (by omega), if_pos e]
        · rw [if_neg e, if_neg (by omega), if_neg e]
      · rename_i h1 h2
        rw [get]
        simp only
        by_cases e : n / 64 = k
        · rw [if_pos e, if_pos e]
          have : get (c :: l) k = 0 := get_none fun b hb => by
            rcases List.mem_cons.1 hb with rfl | hb
            · omega
            · have := hp.1 b hb
              omega
          rw [this, Nat.zero_or]
        · rw [if_neg e, if_neg e]
theorem putB_mem {l : List Bk} {n m : Nat} (h : Wf l) : Mem (putB l n) m ↔ m = n ∨ Mem l m := by
  unfold Mem
  rw [putB_get h]
  by_cases e : n / 64 = m / 64
  · rw [if_pos e, Nat.testBit_or, bitOf_test, Bool.or_eq_true, decide_eq_true_eq]
    constructor
    · rintro (h | h)
      · exact .inr h
      · exact .inl (by omega)
    · rintro (rfl | h)
      · exact .inr rfl
      · exact .inl h
  · rw [if_neg e]
    constructor
    · exact .inr
    · rintro (rfl | h)
      · exact absurd rfl e
      · exact h
end Go.Proofs.YtigbdoicgdmliaaDoor.P04

