/- Sets of numbers: rising lists beside blocks; plain words. -/
import Derived.Test.YtigbdoicgdmliaaDoorP04C
import Derived.Lib.TrailingZeros
set_option linter.unusedVariables false
set_option linter.unusedSimpArgs false
namespace Go.Proofs.YtigbdoicgdmliaaDoor.P04
open Go Go.V
/-! ### a number into a rising list -/
def insL : List Nat → Nat → List Nat
  | [], n => [n]
  | x :: l, n => if x < n then x :: insL l n else n :: x :: l
theorem mem_insL : ∀ {l : List Nat} {n m : Nat}, m ∈ insL l n ↔ m = n ∨ m ∈ l
  | [], n, m => by simp [insL]
  | x :: l, n, m => by
    unfold insL
    split
    · rw [List.mem_cons, mem_insL, List.mem_cons]
      constructor
      · rintro (h | h | h) <;> simp [h]
      · rintro (h | h | h) <;> simp [h]
    · simp
theorem insL_len : ∀ (l : List Nat) (n : Nat), (insL l n).length = l.length + 1
  | [], n => rfl
  | x :: l, n => by
    unfold insL
    split
    · rw [List.length_cons, insL_len, List.length_cons]
    · rfl
theorem insL_up : ∀ {l : List Nat} {n : Nat}, Up l → n ∉ l → Up (insL l n)
  | [], n, _, _ => by simp [insL, Up]
  | x :: l, n, h, hn => by
    unfold Up at h ⊢
    rw [List.pairwise_cons] at h
    unfold insL
    have hx : n ≠ x := fun e => hn (by rw [e]; exact List.mem_cons_self)
    split
    · rw [List.pairwise_cons]
      refine ⟨fun y hy => ?_, insL_up h.2 fun hm => hn (List.mem_cons_of_mem _ hm)⟩
      rcases mem_insL.1 hy with rfl | hy
      · omega
      · exact h.1 y hy
    · rw [List.pairwise_cons, List.pairwise_cons]
      refine ⟨fun y hy => ?_, h⟩
      rcases List.mem_cons.1 hy with rfl | hy
      · omega
      · have := h.1 y hy
        omega
theorem insL_at : ∀ {l : List Nat} {n i : Nat}, i ≤ l.length → (∀ x ∈ l.take i, x < n) → (∀ x, l[i]? = some x → ¬ x < n) → insL l n = l.take i ++ n :: l.drop i
  | [], n, i, hi, _, _ => by
    have : i = 0 := by simpa using hi
    subst this
    rfl
  | x :: l, n, 0, _, _, h => by
    have := h x rfl
    unfold insL
    rw [if_neg this]
    rfl
  | x :: l, n, i + 1, hi, h1, h2 => by
    rw [List.take_succ_cons] at h1
    unfold insL
    rw [if_pos (h1 x List.mem_cons_self), insL_at (i := i) (by simpa using hi) (fun y hy => h1 y (List.mem_cons_of_mem _ hy)) (by simpa using h2)]
    rfl
/-- whatever is asked to be put -/
def addB (bl : List Bk) (n : Int) : List Bk := if n < 0 ∨ n > 268435456 then bl else putB bl n.toNat
def isNew (bl : List Bk) (n : Int) : Bool := if n < 0 ∨ n > 268435456 then false else decide (¬ Mem bl n.toNat)
theorem putB_old {bl : List Bk} {n : Nat} (h : Wf bl) (hn : n ≤ 268435456) (hm : Mem bl n) : putB bl n = bl :=
  wf_same' (putB_wf h hn) h fun m => by
    rw [putB_mem h]
    constructor
    · rintro (rfl | h)
      · exact hm
      · exact h
    · exact .inr
theorem addB_wf {bl : List Bk} (h : Wf bl) (n : Int) : Wf (addB bl n) := by
  unfold addB
  split
  · exact h
  · exact putB_wf h (by omega)
theorem tells_put {bl : List Bk} {n : Nat} (h : Wf bl) (hn : n ≤ 268435456) (hm : ¬ Mem bl n) : tells (putB bl n) = insL (tells bl) n := by
  have hm' : n ∉ tells bl := fun hx => hm ((mem_tells h).1 hx)
  refine up_same (tells_up (putB_wf h hn)) (insL_up (tells_up h) hm') fun z => ?_
  rw [mem_tells (putB_wf h hn), putB_mem h, mem_insL, mem_tells h]
theorem tells_add {bl : List Bk} (h : Wf bl) (n : Int) : tells (addB bl n) = if isNew bl n then insL (tells bl) n.toNat else tells bl := by
  unfold addB isNew
  by_cases h1 : n < 0 ∨ n > 268435456
  · rw [if_pos h1, if_pos h1]; rfl
  · rw [if_neg h1, if_neg h1]
    by_cases hm : Mem bl n.toNat
    · rw [decide_eq_false (fun h => h hm), putB_old h (by omega) hm]; rfl
    · rw [decide_eq_true hm, if_pos rfl, tells_put h (by omega) hm]
theorem tells_bd {bl : List Bk} (h : Wf bl) : ∀ x ∈ tells bl, x < 268435520 := by
  intro x hx
  obtain ⟨b, hb, hx⟩ := List.mem_flatMap.1 hx
  have h1 := (mem_tell.1 hx).1
  have := (h.ok b hb).2.2
  omega
/-- all numbers of a set are small -/
def Sm (bl : List Bk) : Prop := ∀ x, Mem bl x → x ≤ 268435456
theorem Sm.nil : Sm [] := fun x h => by
  unfold Mem at h
  rw [get_nil, Nat.zero_testBit] at h
  cases h
theorem Sm.put {bl : List Bk} {n : Nat} (h : Wf bl) (hs : Sm bl) (hn : n ≤ 268435456) : Sm (putB bl n) := fun x hx => by
  rcases (putB_mem h).1 hx with rfl | hx
  · exact hn
  · exact hs x hx
theorem Sm.add {bl : List Bk} (h : Wf bl) (hs : Sm bl) (n : Int) : Sm (addB bl n) := by
  unfold addB
  split
  · exact hs
  · exact hs.put h (by omega)
theorem wf_nil : Wf [] := ⟨List.Pairwise.nil, by simp⟩
/-! ### where a block is -/
theorem putB_ins : ∀ {bl : List Bk} {n p : Nat}, p ≤ bl.length → (∀ b ∈ bl.take p, b.1 < n / 64) → (∀ b, bl[p]? = some b → n / 64 < b.1) → putB bl n = bl.take p ++ (n / 64, bitOf n) :: bl.drop p
  | [], n, p, hp, _, _ => by
    have : p = 0 := by simpa using hp
    subst this
    rfl
  | c :: l, n, 0, _, _, h => by
    have := h c rfl
    unfold putB
    rw [if_neg (by omega), if_neg (by omega)]
    rfl
  | c :: l, n, p + 1, hp, h1, h2 => by
    rw [List.take_succ_cons] at h1
    unfold putB
    rw [if_pos (h1 c List.mem_cons_self), putB_ins (p := p) (by simpa using hp) (fun b hb => h1 b (List.mem_cons_of_mem _ hb)) (by simpa using h2)]
    rfl
theorem putB_set : ∀ {bl : List Bk} {n p : Nat} {b : Bk}, (∀ b ∈ bl.take p, b.1 < n / 64) → bl[p]? = some b → b.1 = n / 64 → putB bl n = bl.set p (b.1, b.2 ||| bitOf n)
  | [], n, p, b, _, h, _ => by simp at h
  | c :: l, n, 0, b, _, h, e => by
    simp only [List.getElem?_cons_zero, Option.some.injEq] at h
    subst h
    unfold putB
    rw [if_neg (by omega), if_pos e]
    rfl
  | c :: l, n, p + 1, b, h1, h2, e => by
    rw [List.take_succ_cons] at h1
    unfold putB
    rw [if_pos (h1 c List.mem_cons_self), putB_set (p := p) (fun b hb => h1 b (List.mem_cons_of_mem _ hb)) (by simpa using h2) e]
    rfl
theorem get_at {bl : List Bk} (h : Wf bl) {p : Nat} {b : Bk} (hb : bl[p]? = some b) : get bl b.1 = b.2 := get_mem h.up (List.mem_of_getElem? hb)
theorem get_gap {bl : List Bk} (h : Wf bl) {p k : Nat} (h1 : ∀ b ∈ bl.take p, b.1 < k) (h2 : ∀ b, bl[p]? = some b → k < b.1) : get bl k = 0 := by
  refine get_none fun b hb => ?_
  obtain ⟨i, hi, rfl⟩ := List.getElem_of_mem hb
  by_cases hip : i < p
  · have := h1 bl[i] (by
      rw [List.mem_take_iff_getElem]
      exact ⟨i, by omega, rfl⟩)
    omega
  · rcases Nat.eq_or_lt_of_le (Nat.not_lt.1 hip) with e | e
    · subst e
      have := h2 bl[p] (List.getElem?_eq_getElem hi)
      omega
    · have hpl : p < bl.length := by omega
      have := h2 bl[p] (List.getElem?_eq_getElem hpl)
      have := List.pairwise_iff_getElem.1 h.up p i hpl hi e
      omega
theorem bit_there (x n : Nat) : (x &&& bitOf n = 0) ↔ x.testBit (n % 64) = false := by
  constructor
  · intro h
    have := congrArg (fun y => y.testBit (n % 64)) h
    simp only [Nat.testBit_and, bitOf_test, Nat.zero_testBit] at this
    simpa using this
  · intro h
    apply Nat.eq_of_testBit_eq
    intro i
    rw [Nat.testBit_and, bitOf_test, Nat.zero_testBit]
    by_cases e : n % 64 = i
    · rw [← e, h, Bool.false_and]
    · rw [decide_eq_false e, Bool.and_false]
theorem shr_there (x n : Nat) : (x / 2 ^ (n % 64)) % 2 = 1 ↔ x.testBit (n % 64) = true := by
  rw [← Nat.shiftRight_eq_div_pow, Nat.testBit_eq_decide_div_mod_eq, decide_eq_true_eq, Nat.shiftRight_eq_div_pow]
/-! ### joining -/
theorem foldl_put : ∀ {l : List Nat} {a : List Bk}, Wf a → (∀ x ∈ l, x ≤ 268435456) → Wf (l.foldl putB a) ∧ ∀ m, Mem (l.foldl putB a) m ↔ m ∈ l ∨ Mem a m
  | [], a, h, _ => ⟨h, fun m => by simp⟩
  | x :: l, a, h, hl => by
    obtain ⟨h1, h2⟩ := foldl_put (l := l) (putB_wf h (hl x List.mem_cons_self)) fun y hy => hl y (List.mem_cons_of_mem _ hy)
    refine ⟨h1, fun m => ?_⟩
    rw [List.foldl_cons, h2, putB_mem h, List.mem_cons]
    constructor
    · rintro (h | h | h) <;> simp [h]
    · rintro ((h | h) | h) <;> simp [h]
def orB (a b : List Bk) : List Bk := made (· ||| ·) a b
def lessB (a b : List Bk) : List Bk := made andNot a b
def bothB (a b : List Bk) : List Bk := made (· &&& ·) a b
section
variable {a b : List Bk} (ha : Wf a) (hb : Wf b)
include ha hb
theorem orB_wf : Wf (orB a b) := (made_get opr_or a b ha hb).1
theorem lessB_wf : Wf (lessB a b) := (made_get opr_not a b ha hb).1
theorem bothB_wf : Wf (bothB a b) := (made_get opr_and a b ha hb).1
theorem orB_mem (n : Nat) : Mem (orB a b) n ↔ Mem a n ∨ Mem b n := by
  unfold orB
  rw [made_mem opr_or ha hb, Bool.or_eq_true, decide_eq_true_eq, decide_eq_true_eq]
theorem lessB_mem (n : Nat) : Mem (lessB a b) n ↔ Mem a n ∧ ¬ Mem b n := by
  unfold lessB
  rw [made_mem opr_not ha hb, Bool.and_eq_true, decide_eq_true_eq, Bool.not_eq_true', decide_eq_false_iff_not]
theorem bothB_mem (n : Nat) : Mem (bothB a b) n ↔ Mem a n ∧ Mem b n := by
  unfold bothB
  rw [made_mem opr_and ha hb, Bool.and_eq_true, decide_eq_true_eq, decide_eq_true_eq]
theorem orB_sm (h1 : Sm a) (h2 : Sm b) : Sm (orB a b) := fun x hx => by
  rcases (orB_mem ha hb x).1 hx with h | h
  · exact h1 x h
  · exact h2 x h
theorem join_fold (h2 : Sm b) : (tells b).foldl putB a = orB a b := by
  have hs : ∀ x ∈ tells b, x ≤ 268435456 := fun x hx => h2 x ((mem_tells hb).1 hx)
  obtain ⟨h3, h4⟩ := foldl_put ha hs
  refine wf_same' h3 (orB_wf ha hb) fun n => ?_
  rw [h4, orB_mem ha hb, mem_tells hb]
  exact Or.comm
theorem tells_less : tells (lessB a b) = (tells a).filter fun x => decide (¬ Mem b x) := by
  refine up_same (tells_up (lessB_wf ha hb)) ((tells_up ha).filter _) fun z => ?_
  rw [mem_tells (lessB_wf ha hb), lessB_mem ha hb, List.mem_filter, mem_tells ha, decide_eq_true_eq]
theorem tells_both : tells (bothB a b) = (tells a).filter fun x => decide (Mem b x) := by
  refine up_same (tells_up (bothB_wf ha hb)) ((tells_up ha).filter _) fun z => ?_
  rw [mem_tells (bothB_wf ha hb), bothB_mem ha hb, List.mem_filter, mem_tells ha, decide_eq_true_eq]
theorem parted_len : (tells (lessB a b)).length + (tells (bothB a b)).length = (tells a).length := by
  rw [tells_less ha hb, tells_both ha hb]
  generalize tells a = l
  induction l with
  | nil => rfl
  | cons x l ih =>
    rw [List.filter_cons, List.filter_cons, List.length_cons]
    by_cases h : Mem b x
    · rw [decide_eq_true h, decide_eq_false (fun k => k h), if_neg (by decide), if_pos rfl, List.length_cons]
      omega
    · rw [decide_eq_false h, decide_eq_true h, if_pos rfl, if_neg (by decide), List.length_cons]
      omega
theorem parted_none : bothB (lessB a b) (bothB a b) = [] := by
  refine wf_same' (bothB_wf (lessB_wf ha hb) (bothB_wf ha hb)) wf_nil fun n => ?_
  rw [bothB_mem (lessB_wf ha hb) (bothB_wf ha hb), lessB_mem ha hb, bothB_mem ha hb]
  constructor
  · rintro ⟨⟨_, h1⟩, _, h2⟩
    exact absurd h2 h1
  · intro h
    unfold Mem at h
    rw [get_nil, Nat.zero_testBit] at h
    cases h
theorem parted_all : orB (lessB a b) (bothB a b) = a := by
  refine wf_same' (orB_wf (lessB_wf ha hb) (bothB_wf ha hb)) ha fun n => ?_
  rw [orB_mem (lessB_wf ha hb) (bothB_wf ha hb), lessB_mem ha hb, bothB_mem ha hb]
  constructor
  · rintro (⟨h, _⟩ | ⟨h, _⟩) <;> exact h
  · intro h
    by_cases hm : Mem b n
    · exact .inr ⟨h, hm⟩
    · exact .inl ⟨h, hm⟩
theorem orB_comm : orB a b = orB b a :=
  wf_same' (orB_wf ha hb) (orB_wf hb ha) fun n => by
    rw [orB_mem ha hb, orB_mem hb ha]
    exact Or.comm
theorem orB_more : (tells a).length ≤ (tells (orB a b)).length := by
  have h1 := tells_both (orB_wf ha hb) ha
  have e : bothB (orB a b) a = a := wf_same' (bothB_wf (orB_wf ha hb) ha) ha fun n => by
    rw [bothB_mem (orB_wf ha hb) ha, orB_mem ha hb]
    exact ⟨fun h => h.2, fun h => ⟨.inl h, h⟩⟩
  rw [e] at h1
  rw [h1]
  exact List.length_filter_le _ _
end
theorem orB_self {a : List Bk} (ha : Wf a) : orB a a = a :=
  wf_same' (orB_wf ha ha) ha fun n => by rw [orB_mem ha ha, or_self_iff]
/-! ### a block's numbers, one by one -/
theorem and_low : ∀ x : Nat, x % 2 = 0 → 0 < x → x &&& (x - 1) = 2 * (x / 2 &&& (x / 2 - 1)) := by
  intro x h h0
  apply Nat.eq_of_testBit_eq
  intro i
  cases i with
  | zero => rw [Nat.testBit_and, Nat.testBit_zero, Nat.testBit_zero, Nat.testBit_zero]; simp [h]
  | succ i =>
    rw [Nat.testBit_and, Nat.testBit_succ, Nat.testBit_succ, Nat.testBit_succ, Nat.mul_div_cancel_left _ (by decide), Nat.testBit_and]
    have : (x - 1) / 2 = x / 2 - 1 := by omega
    rw [this]
theorem and_low1 : ∀ x : Nat, x % 2 = 1 → x &&& (x - 1) = 2 * (x / 2) := by
  intro x h
  apply Nat.eq_of_testBit_eq
  intro i
  cases i with
  | zero => rw [Nat.testBit_and, Nat.testBit_zero, Nat.testBit_zero, Nat.testBit_zero]; simp; omega
  | succ i =>
    rw [Nat.testBit_and, Nat.testBit_succ, Nat.testBit_succ, Nat.testBit_succ, Nat.mul_div_cancel_left _ (by decide)]
    have : (x - 1) / 2 = x / 2 := by omega
    rw [this, Bool.and_self]
theorem bitsL_next : ∀ (n k x : Nat), x ≠ 0 → x < 2 ^ n → bitsL n k x = (k + Lib.ctzFrom n x) :: bitsL n k (x &&& (x - 1))
  | 0, k, x, h, hx => by simp at hx; omega
  | n + 1, k, x, h, hx => by
    unfold bitsL Lib.ctzFrom
    by_cases h1 : x % 2 = 1
    · rw [if_pos h1, if_pos h1, and_low1 x h1, if_neg (by omega), Nat.mul_div_cancel_left _ (by decide)]
      rfl
    · have h0 : x % 2 = 0 := by omega
      rw [if_neg h1, if_neg h1, and_low x h0 (by omega), if_neg (by omega), Nat.mul_div_cancel_left _ (by decide), List.nil_append, List.nil_append,
        bitsL_next n (k + 1) (x / 2) (by omega) (by rw [Nat.pow_succ] at hx; omega), Nat.add_assoc, Nat.add_comm 1]
theorem bitsL_zero : ∀ n k : Nat, bitsL n k 0 = []
  | 0, _ => rfl
  | n + 1, k => by
    unfold bitsL
    rw [if_neg (by decide), List.nil_append]
    exact bitsL_zero n (k + 1)
theorem bitsL_step {k x : Nat} (h : x ≠ 0) (hx : x < 2 ^ 64) : bitsL 64 k x = (k + Lib.ctz 64 x) :: bitsL 64 k (x &&& (x - 1)) := by
  rw [bitsL_next 64 k x h hx]
  unfold Lib.ctz
  rw [if_neg h]
theorem and_less {x : Nat} (h : x ≠ 0) : x &&& (x - 1) < x := Nat.lt_of_le_of_lt Nat.and_le_right (by omega)
theorem pc_le : ∀ n x, pc n x ≤ n
  | 0, _ => Nat.le_refl _
  | n + 1, x => by
    have := pc_le n (x / 2)
    unfold pc
    omega
theorem len_tells : ∀ {bl : List Bk}, Wf bl → bl.length ≤ (tells bl).length
  | [], _ => Nat.le_refl _
  | b :: l, h => by
    have hb := h.ok b List.mem_cons_self
    have := len_tells h.tail
    unfold tells at this ⊢
    rw [List.flatMap_cons, List.length_append, List.length_cons]
    have : tell b ≠ [] := tell_pos hb.1 hb.2.1
    have := List.length_pos_iff.2 this
    omega
theorem tells_take (bl : List Bk) (j : Nat) : (tells (bl.take j)).length ≤ (tells bl).length := by
  have e : tells bl = tells (bl.take j) ++ tells (bl.drop j) := by
    unfold tells
    rw [← List.flatMap_append, List.take_append_drop]
  rw [e, List.length_append]
  omega
theorem tells_snoc {bl : List Bk} {j : Nat} {x : Bk} (h : bl[j]? = some x) : tells (bl.take (j + 1)) = tells (bl.take j) ++ tell x := by
  obtain ⟨hj, rfl⟩ := List.getElem?_eq_some_iff.1 h
  unfold tells
  rw [List.take_succ_eq_append_getElem hj, List.flatMap_append, List.flatMap_singleton]
theorem nodup_len {α : Type} : ∀ {l m : List α}, l.Nodup → (∀ x ∈ l, x ∈ m) → l.length ≤ m.length
  | [], m, _, _ => Nat.zero_le _
  | x :: l, m, hn, hs => by
    rw [List.nodup_cons] at hn
    obtain ⟨a, b, rfl⟩ := List.append_of_mem (hs x List.mem_cons_self)
    have := nodup_len (l := l) (m := a ++ b) hn.2 fun y hy => by
      have := hs y (List.mem_cons_of_mem _ hy)
      have hne : y ≠ x := fun e => hn.1 (e ▸ hy)
      simp only [List.mem_append, List.mem_cons] at this ⊢
      rcases this with h | h | h
      · exact .inl h
      · exact absurd h hne
      · exact .inr h
    simp only [List.length_cons, List.length_append] at this ⊢
    omega
/-! ### how many blocks -/
theorem runs_snoc : ∀ (l : List Nat) (p : Option Nat) (x : Nat), runs p (l ++ [x]) = runs p l + (if (match l.getLast? with | some y => some (y / 64) | none => p) = some (x / 64) then 0 else 1)
  | [], p, x => by by_cases h : p = some (x / 64) <;> simp [runs, h]
  | y :: l, p, x => by
    rw [List.cons_append, runs, runs_snoc l (some (y / 64)) x, runs, Nat.add_assoc]
    congr 2
    cases l with
    | nil => rfl
    | cons z l =>
      rw [List.getLast?_cons_cons]
      cases h : (z :: l).getLast? with
      | none => simp at h
      | some w => rfl
end Go.Proofs.YtigbdoicgdmliaaDoor.P04

