/- Tokens: plain words over digits' words. -/
import Derived.Test.YthaejcmllibeoaaDoorC01B
import Derived.Test.YthaejcmllibeoaaDoorV21
set_option linter.unusedVariables false
set_option linter.unusedSimpArgs false
namespace Go.Proofs.YthaejcmllibeoaaDoor.P09
open Go Go.V Go.Proofs Go.Proofs.YthaejcmllibeoaaDoor.C01
attribute [local irreducible] Cvt ExtF CallF hrun App MkS
abbrev Tk := Int × List UInt8 × Int
def keysL : List (List UInt8) := [[97, 100, 100, 114], [99, 97, 108, 108], [99, 111, 112, 121], [101, 108, 115, 101], [101, 120, 116, 101, 114, 110], [102, 110], [102, 114, 101, 101], [103, 108, 111, 98, 97, 108], [105, 99, 97, 108, 108], [105, 102], [105, 110, 100, 101, 120], [105, 110, 112, 117, 116], [105, 110, 116], [105, 115, 110, 117, 108, 108], [108, 101, 115, 115], [108, 111, 97, 100], [109, 101, 109, 98, 101, 114], [109, 105, 110, 117, 115], [109, 111, 100, 117, 108, 101], [110, 101, 119], [110, 117, 108, 108], [111, 98, 106], [112, 108, 117, 115], [112, 116, 114], [114, 101, 116, 117, 114, 110], [115, 97, 109, 101], [115, 116, 97, 116, 105, 99], [115, 116, 111, 114, 101], [115, 116, 114, 117, 99, 116], [116, 105, 109, 101, 115], [118, 97, 114], [119, 104, 105, 108, 101]]
def marksL : List UInt8 := [123, 125, 40, 41, 91, 93, 59, 61, 44, 45]
def isKey (t : List UInt8) : Bool := keysL.contains t
/-- of a word, or a number: the kind, or what is wrong -/
def hdD (t : List UInt8) : Bool := match t with | [] => false | c :: _ => isD c
def wordT (t : List UInt8) (behind : Bool) : Int × Int :=
  if hdD t then (if behind then (0, 3) else (3, (readL t).2)) else if isKey t then (2, 0) else if nameL t then (1, 0) else (0, 11)
/-- what stands at the beginning: what is wrong, a kind (0: nothing), its text, the rest, a line more -/
def tokS : List UInt8 → Int × Int × List UInt8 × List UInt8 × Nat
  | [] => (0, 0, [], [], 0)
  | c :: r =>
    if c = 10 then (0, 0, [], r, 1)
    else if c = 32 ∨ c = 9 ∨ c = 13 then (0, 0, [], r, 0)
    else if c = 35 then (0, 0, [], (c :: r).dropWhile (fun x => !(x == 10)), 0)
    else if c ∈ marksL then (0, 4, [c], r, 0)
    else if isL c || isD c then ((wordT (splA (c :: r)) (wordy (splB (c :: r)))).2, (wordT (splA (c :: r)) (wordy (splB (c :: r)))).1, splA (c :: r), splB (c :: r), 0)
    else (16, 0, [], c :: r, 0)
theorem step_cons (c : UInt8) (r : List UInt8) : tokS (c :: r) =
    if c = 10 then (0, 0, [], r, 1)
    else if c = 32 ∨ c = 9 ∨ c = 13 then (0, 0, [], r, 0)
    else if c = 35 then (0, 0, [], (c :: r).dropWhile (fun x => !(x == 10)), 0)
    else if c ∈ marksL then (0, 4, [c], r, 0)
    else if isL c || isD c then ((wordT (splA (c :: r)) (wordy (splB (c :: r)))).2, (wordT (splA (c :: r)) (wordy (splB (c :: r)))).1, splA (c :: r), splB (c :: r), 0)
    else (16, 0, [], c :: r, 0) := rfl
theorem drop_le (p : UInt8 → Bool) (l : List UInt8) : (l.dropWhile p).length ≤ l.length := (List.dropWhile_sublist p).length_le
def more (k : Int) (t : List UInt8) (n : Int) : List Tk := if k = 0 then [] else [(k, t, n)]
/-- a text's tokens; or none, the line of what is wrong, and what -/
def allT : Nat → List UInt8 → Int → List Tk → List Tk × Int × Int
  | 0, _, _, acc => (acc, 0, 0)
  | f + 1, l, n, acc =>
    if l = [] then (acc, 0, 0)
    else if (tokS l).1 ≠ 0 then ([], n, (tokS l).1)
    else allT f (tokS l).2.2.2.1 (n + (tokS l).2.2.2.2) (acc ++ more (tokS l).2.1 (tokS l).2.2.1 n)
def tokens (l : List UInt8) : List Tk × Int × Int := if l.length > 20000 then ([], 0, 9) else allT (l.length + 1) l 1 []
theorem all_nil (f : Nat) (n : Int) (acc : List Tk) : allT f [] n acc = (acc, 0, 0) := by cases f <;> simp [allT]
theorem splA_ne {c : UInt8} {r : List UInt8} (h : (isL c || isD c) = true) : splA (c :: r) ≠ [] := by
  unfold splA
  rw [List.takeWhile_cons]
  have : inW (wordy (c :: r)) c = true := by
    unfold inW
    show (isD c || (isL c && isL c)) = true
    revert h
    cases isL c <;> cases isD c <;> simp
  rw [this]
  simp
theorem splB_lt {c : UInt8} {r : List UInt8} (h : (isL c || isD c) = true) : (splB (c :: r)).length < (c :: r).length := by
  have h1 := congrArg List.length (spl_app (c :: r))
  rw [List.length_append] at h1
  have : 0 < (splA (c :: r)).length := List.length_pos_iff.2 (splA_ne h)
  omega
/-- each step takes something -/
theorem step_lt {l : List UInt8} (h0 : l ≠ []) (he : (tokS l).1 = 0) : (tokS l).2.2.2.1.length < l.length := by
  cases l with
  | nil => exact absurd rfl h0
  | cons c r =>
    rw [step_cons] at he ⊢
    split
    · simp
    · rename_i h1
      split
      · simp
      · rename_i h2
        split
        · rename_i h3
          subst h3
          rw [List.dropWhile_cons]
          simp only [show ((35 : UInt8) == 10) = false from by decide, Bool.not_false, if_true]
          exact Nat.lt_succ_of_le (drop_le _ _)
        · rename_i h3
          split
          · simp
          · rename_i h4
            split
            · rename_i h5
              exact splB_lt h5
            · rename_i h5
              rw [if_neg h1, if_neg h2, if_neg h3, if_neg h4, if_neg h5] at he
              simp at he
/-- all that is read is among the text's bytes -/
theorem split_any {t r : List UInt8} {w : Bool} (hw : wordy t = w) (ht : t.all (inW w) = true) (h0 : t ≠ []) (hr : ∀ c, r[0]? = some c → inW w c = false) : splA (t ++ r) = t ∧ splB (t ++ r) = r := by
  have hwy : wordy (t ++ r) = w := by
    cases t with
    | nil => exact absurd rfl h0
    | cons c t => exact hw
  unfold splA splB
  rw [hwy]
  have : (t ++ r).takeWhile (inW w) = (t ++ r).take t.length ∧ (t ++ r).dropWhile (inW w) = (t ++ r).drop t.length := by
    refine takeWhile_at ?_ ?_
    · intro i b hi hb
      rw [List.getElem?_append_left hi] at hb
      rw [List.all_eq_true] at ht
      exact ht b (List.mem_of_getElem? hb)
    · cases r with
      | nil => left; simp
      | cons c r => right; exact ⟨c, by simp, hr c rfl⟩
  rw [this.1, this.2]
  simp
theorem splA_all (l : List UInt8) : (splA l).all (inW (wordy l)) = true := by
  unfold splA
  exact List.all_takeWhile
theorem wordy_splA {l : List UInt8} (h : splA l ≠ []) : wordy (splA l) = wordy l := by
  cases l with
  | nil => rfl
  | cons c r =>
    unfold splA at h ⊢
    rw [List.takeWhile_cons] at h ⊢
    split
    · rfl
    · rename_i h'
      rw [if_neg h'] at h
      exact absurd rfl h
/-- a token whose text stands for itself, where a blank, or nothing, is behind it -/
def Self (k : Int) (t : List UInt8) : Prop := t ≠ [] ∧ k ≠ 0 ∧ ∀ r : List UInt8, (∀ c, r[0]? = some c → c = 32 ∨ c = 9) → tokS (t ++ r) = (0, k, t, r, 0)
theorem blank_not {c : UInt8} {w : Bool} (h : c = 32 ∨ c = 9) : inW w c = false := by
  rcases h with rfl | rfl <;> cases w <;> decide
theorem letter_not {c : UInt8} (h : (isL c || isD c) = true) : c ≠ 10 ∧ ¬ (c = 32 ∨ c = 9 ∨ c = 13) ∧ c ≠ 35 ∧ c ∉ marksL := by
  have key : ∀ x : UInt8, (isL x || isD x) = false → c ≠ x := fun x hx e => by rw [e, hx] at h; cases h
  refine ⟨key 10 (by decide), fun e => ?_, key 35 (by decide), fun e => ?_⟩
  · rcases e with e | e | e
    · exact key 32 (by decide) e
    · exact key 9 (by decide) e
    · exact key 13 (by decide) e
  · unfold marksL at e
    simp only [List.mem_cons, List.not_mem_nil, or_false] at e
    rcases e with e | e | e | e | e | e | e | e | e | e <;> exact key _ (by decide) e
theorem step_self {l : List UInt8} (he : (tokS l).1 = 0) (hk : (tokS l).2.1 ≠ 0) : Self (tokS l).2.1 (tokS l).2.2.1 := by
  cases l with
  | nil => exact absurd rfl hk
  | cons c r =>
    rw [step_cons] at he hk ⊢
    split
    · rename_i h; rw [if_pos h] at hk; exact absurd rfl hk
    · rename_i h1
      rw [if_neg h1] at hk he
      split
      · rename_i h; rw [if_pos h] at hk; exact absurd rfl hk
      · rename_i h2
        rw [if_neg h2] at hk he
        split
        · rename_i h; rw [if_pos h] at hk; exact absurd rfl hk
        · rename_i h3
          rw [if_neg h3] at hk he
          split
          · rename_i h4
            refine ⟨by simp, (show (4 : Int) ≠ 0 by decide), fun r' _ => ?_⟩
            show tokS (c :: r') = _
            rw [step_cons, if_neg h1, if_neg h2, if_neg h3, if_pos h4]
          · rename_i h4
            rw [if_neg h4] at hk he
            split
            · rename_i h5
              rw [if_pos h5] at hk he
              simp only at hk he ⊢
              have hne := splA_ne (r := r) h5
              refine ⟨hne, hk, fun r' hr' => ?_⟩
              have hwy := wordy_splA hne
              have hsp := split_any (t := splA (c :: r)) (r := r') hwy (splA_all _) hne fun x hx => blank_not (hr' x hx)
              obtain ⟨c', t', ht'⟩ : ∃ c' t', splA (c :: r) = c' :: t' := by
                cases h : splA (c :: r) with
                | nil => exact absurd h hne
                | cons c' t' => exact ⟨c', t', rfl⟩
              have hcc : c' = c := by
                have : splA (c :: r) = (c :: r).take (splA (c :: r)).length := by
                  have h7 : (splA (c :: r) ++ splB (c :: r)).take (splA (c :: r)).length = splA (c :: r) := List.take_left
                  rw [spl_app] at h7
                  exact h7.symm
                rw [ht'] at this
                simp at this
                exact this.1
              subst hcc
              have hb' : wordy r' = false := by
                cases r' with
                | nil => rfl
                | cons x r' =>
                  rcases hr' x rfl with rfl | rfl <;> rfl
              have hbeh : wordT (splA (c' :: r)) false = wordT (splA (c' :: r)) (wordy (splB (c' :: r))) := by
                cases hb : wordy (splB (c' :: r)) with
                | false => rfl
                | true =>
                  rw [hb] at he
                  unfold wordT at he ⊢
                  by_cases h6 : hdD (splA (c' :: r)) = true
                  · rw [if_pos h6] at he
                    simp at he
                  · rw [if_neg h6, if_neg h6]
              rw [ht'] at hsp hbeh he hk ⊢
              show tokS (c' :: (t' ++ r')) = _
              rw [step_cons, if_neg h1, if_neg h2, if_neg h3, if_neg h4, if_pos h5]
              have e1 : splA (c' :: (t' ++ r')) = c' :: t' := hsp.1
              have e2 : splB (c' :: (t' ++ r')) = r' := hsp.2
              rw [e1, e2, hb', hbeh, he]
            · rename_i h5
              rw [if_neg h5] at hk
              exact absurd rfl hk
theorem all_self : ∀ (f : Nat) (l : List UInt8) (n : Int) (acc : List Tk), (∀ x ∈ acc, Self x.1 x.2.1) → ∀ x ∈ (allT f l n acc).1, Self x.1 x.2.1
  | 0, _, _, acc, h => h
  | f + 1, l, n, acc, h => by
    unfold allT
    split
    · exact h
    · split
      · simp
      · rename_i he
        refine all_self f _ _ _ fun x hx => ?_
        rcases List.mem_append.1 hx with hx | hx
        · exact h x hx
        · unfold more at hx
          split at hx
          · simp at hx
          · rename_i hk
            rw [List.mem_singleton.1 hx]
            exact step_self (by simpa using he) hk
/-- more fuel than there are bytes is enough -/
theorem all_fuel : ∀ (f g : Nat) (l : List UInt8) (n : Int) (acc : List Tk), l.length < f → l.length < g → allT f l n acc = allT g l n acc
  | 0, _, _, _, _, h, _ => by omega
  | _ + 1, 0, _, _, _, _, h => by omega
  | f + 1, g + 1, l, n, acc, h1, h2 => by
    unfold allT
    split
    · rfl
    · rename_i h0
      split
      · rfl
      · rename_i he
        have := step_lt h0 (by simpa using he)
        exact all_fuel f g _ _ _ (by omega) (by omega)
/-- one step -/
theorem all_step {f : Nat} {l : List UInt8} {n : Int} {acc : List Tk} (h0 : l ≠ []) (he : (tokS l).1 = 0) : allT (f + 1) l n acc = allT f (tokS l).2.2.2.1 (n + (tokS l).2.2.2.2) (acc ++ more (tokS l).2.1 (tokS l).2.2.1 n) := by
  rw [allT, if_neg h0, if_neg (by simpa using he)]
theorem all_err {f : Nat} {l : List UInt8} {n : Int} {acc : List Tk} (h0 : l ≠ []) (he : (tokS l).1 ≠ 0) : allT (f + 1) l n acc = ([], n, (tokS l).1) := by
  rw [allT, if_neg h0, if_pos he]
/-- texts with a blank between each two -/
def joinL : List (List UInt8) → List UInt8
  | [] => []
  | [t] => t
  | t :: u :: l => t ++ 32 :: joinL (u :: l)
theorem joinL_snoc (l : List (List UInt8)) (t : List UInt8) : joinL (l ++ [t]) = if l = [] then t else joinL l ++ 32 :: t := by
  induction l with
  | nil => rfl
  | cons a l ih =>
    rw [if_neg (by simp)]
    cases l with
    | nil => rfl
    | cons b l =>
      rw [if_neg (by simp)] at ih
      show a ++ 32 :: joinL (b :: l ++ [t]) = _
      rw [ih]
      simp [joinL]
theorem all_one {k : Int} {t r : List UInt8} {f : Nat} {n : Int} {acc : List Tk} (hs : Self k t) (hr : ∀ c, r[0]? = some c → c = 32 ∨ c = 9) : allT (f + 1) (t ++ r) n acc = allT f r n (acc ++ [(k, t, n)]) := by
  have h1 := hs.2.2 r hr
  have h0 : t ++ r ≠ [] := by
    intro h
    exact hs.1 (List.append_eq_nil_iff.1 h).1
  rw [all_step h0 (by rw [h1])]
  rw [h1]
  simp [more, hs.2.1]
theorem step_blank {r : List UInt8} : tokS (32 :: r) = (0, 0, [], r, 0) := rfl
theorem step_tab {r : List UInt8} : tokS (9 :: r) = (0, 0, [], r, 0) := rfl
theorem all_join : ∀ (l : List Tk) (f : Nat) (acc : List Tk), (∀ x ∈ l, Self x.1 x.2.1) → (joinL (l.map (·.2.1))).length < f → allT f (joinL (l.map (·.2.1))) 1 acc = (acc ++ l.map (fun x => (x.1, x.2.1, 1)), 0, 0)
  | [], f, acc, _, h => by simp [joinL, all_nil]
  | [x], f + 1, acc, hs, h => by
    have := all_one (r := []) (f := f) (n := 1) (acc := acc) (hs x List.mem_cons_self) (by simp)
    rw [List.append_nil] at this
    show allT (f + 1) x.2.1 1 acc = _
    rw [this, all_nil]
    simp
  | x :: y :: l, 0, acc, hs, h => by omega
  | x :: y :: l, 1, acc, hs, h => by
    have := (hs x List.mem_cons_self).1
    simp [joinL] at h
  | x :: y :: l, f + 2, acc, hs, h => by
    show allT (f + 2) (x.2.1 ++ 32 :: joinL ((y :: l).map (·.2.1))) 1 acc = _
    have hl : (joinL ((x :: y :: l).map (·.2.1))).length = x.2.1.length + 1 + (joinL ((y :: l).map (·.2.1))).length := by
      show (x.2.1 ++ 32 :: joinL ((y :: l).map (·.2.1))).length = _
      simp
      omega
    rw [hl] at h
    have hx : 0 < x.2.1.length := List.length_pos_iff.2 (hs x List.mem_cons_self).1
    rw [all_one (hs x List.mem_cons_self) (by intro c hc; simp at hc; exact .inl hc.symm), all_step (by simp) (by rw [step_blank]), step_blank]
    simp only [more, if_true, List.append_nil]
    rw [show (1 : Int) + ((0 : Nat) : Int) = 1 from rfl, all_join (y :: l) f _ (fun z hz => hs z (List.mem_cons_of_mem _ hz)) (by omega)]
    simp
/-- a note and blanks ahead of each -/
def noted (note : List UInt8) (l : List (List UInt8)) : List UInt8 := l.flatMap fun t => [9, 35] ++ note ++ [10, 32] ++ t
theorem dropNote {note r : List UInt8} (hn : 10 ∉ note) : (35 :: (note ++ 10 :: r)).dropWhile (fun x => !(x == (10 : UInt8))) = 10 :: r := by
  rw [List.dropWhile_cons]
  simp only [show ((35 : UInt8) == 10) = false from by decide, Bool.not_false, if_true]
  induction note with
  | nil => rfl
  | cons c note ih =>
    rw [List.cons_append, List.dropWhile_cons]
    have : (c == 10) = false := by
      rw [beq_eq_false_iff_ne]
      intro h
      exact hn (by rw [h]; exact List.mem_cons_self)
    rw [this]
    exact ih fun h => hn (List.mem_cons_of_mem _ h)
def lined : List Tk → Int → List Tk
  | [], _ => []
  | x :: l, n => (x.1, x.2.1, n) :: lined l (n + 1)
theorem all_noted {note : List UInt8} (hn : 10 ∉ note) : ∀ (l : List Tk) (f : Nat) (n : Int) (acc : List Tk), (∀ x ∈ l, Self x.1 x.2.1) → (noted note (l.map (·.2.1))).length < f →
    allT f (noted note (l.map (·.2.1))) n acc = (acc ++ lined l (n + 1), 0, 0)
  | [], f, n, acc, _, h => by simp [noted, all_nil, lined]
  | x :: l, f, n, acc, hs, h => by
    have hx := hs x List.mem_cons_self
    have hxl : 0 < x.2.1.length := List.length_pos_iff.2 hx.1
    have e : noted note ((x :: l).map (·.2.1)) = 9 :: 35 :: (note ++ 10 :: 32 :: (x.2.1 ++ noted note (l.map (·.2.1)))) := by simp [noted]
    have hl : (noted note ((x :: l).map (·.2.1))).length = 4 + note.length + x.2.1.length + (noted note (l.map (·.2.1))).length := by
      rw [e]
      simp
      omega
    rw [hl] at h
    obtain ⟨g, rfl⟩ : ∃ g, f = g + 5 := ⟨f - 5, by omega⟩
    have hr : ∀ c, (noted note (l.map (·.2.1)))[0]? = some c → c = 32 ∨ c = 9 := by
      intro c hc
      cases l with
      | nil => simp [noted] at hc
      | cons y l => simp [noted] at hc; exact .inr hc.symm
    rw [e, all_step (by simp) (by rw [step_tab]), step_tab]
    simp only [more, if_true, List.append_nil]
    have s2 : ∀ r : List UInt8, tokS (35 :: (note ++ 10 :: r)) = (0, 0, [], 10 :: r, 0) := by
      intro r
      rw [step_cons, if_neg (by decide), if_neg (by decide), if_pos rfl, dropNote hn]
    rw [all_step (by simp) (by rw [s2]), s2]
    simp only [more, if_true, List.append_nil]
    have s3 : ∀ r : List UInt8, tokS (10 :: r) = (0, 0, [], r, 1) := fun _ => rfl
    rw [all_step (by simp) (by rw [s3]), s3]
    simp only [more, if_true, List.append_nil]
    rw [all_step (by simp) (by rw [step_blank]), step_blank]
    simp only [more, if_true, List.append_nil]
    rw [all_one hx hr]
    have en : n + ((0 : Nat) : Int) + ((0 : Nat) : Int) + ((1 : Nat) : Int) + ((0 : Nat) : Int) = n + 1 := by omega
    rw [en, all_noted hn l g (n + 1) _ (fun z hz => hs z (List.mem_cons_of_mem _ hz)) (by omega)]
    simp [lined]
end Go.Proofs.YthaejcmllibeoaaDoor.P09

