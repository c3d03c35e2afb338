/- Texts as lists of bytes in rows; rows that are only read; of no program. -/
import Derived.Test.YtigbdoicgdmliaaDoorV20
set_option linter.unusedVariables false
set_option linter.unusedSimpArgs false
namespace Go.V
attribute [local irreducible] Cvt ExtF CallF hrun
def flL (l : List UInt8) : List Value := [.string (str l)]
theorem FlL : Fl flL 1 := ⟨fun _ => rfl, fun x v hv => by rw [List.mem_singleton.1 hv]; rfl⟩
def ltL (a b : List UInt8) : Bool := Op.bytesLess a b
theorem linL : Lin ltL := ⟨bl_irr, bl_tr, bl_tot⟩
theorem lt_strL (a b : List UInt8) : ltS (str a) (str b) = ltL a b := lt_str a b
/-- a row that is only read -/
def rdI {τ : Type} (fl : τ → List Value) (sz : Nat) (s : Sl) (l : List τ) : It where
  ok H := Rd fl sz H s l ∧ ∀ i, rown s i → i < H.size
  fp := rown s
  lt h hi := h.2 _ hi
  st := by
    intro H H' h hs
    have hlt : ∀ i, rown s i → i < H'.size := by
      intro i hi
      have h1 := hs i hi
      have h2 := h.2 i hi
      rw [Array.getElem?_eq_getElem h2] at h1
      exact (Array.getElem?_eq_some_iff.1 h1).1
    refine ⟨⟨h.1.len, h.1.le, fun i x k v hx hv => ?_⟩, hlt⟩
    obtain ⟨ad, ha, hc⟩ := h.1.el i x k v hx hv
    refine ⟨ad, ha, ?_⟩
    have hb : (ad.add (i * sz + k)).block = ad.block := add_block _ _
    have h1 := hs ad.block ⟨ad, ha, rfl⟩
    unfold hcell at hc ⊢
    rw [hb] at hc ⊢
    rw [h1]
    exact hc
/-- a text among texts -/
theorem els_rd {H : Hp} {s : Sl} {xs : List ByteArray} {val : ByteArray → Value} (hv : ∀ x, val x = .string x) (h : Els val H s xs) (hc : s.n ≤ s.c) : Rd flL 1 H s (xs.map (·.data.toList)) := by
  refine ⟨by rw [List.length_map]; exact h.len, hc, fun i x k v hx hk => ?_⟩
  rw [List.getElem?_map] at hx
  cases hxi : xs[i]? with
  | none => rw [hxi] at hx; cases hx
  | some y =>
    rw [hxi] at hx
    simp only [Option.map_some, Option.some.injEq] at hx
    subst hx
    have hk0 : k = 0 := by have := (List.getElem?_eq_some_iff.1 hk).1; simp [flL] at this; exact this
    subst hk0
    simp only [flL, List.getElem?_cons_zero, Option.some.injEq] at hk
    subst hk
    obtain ⟨ad, ha, hc⟩ := h.el i y hxi
    refine ⟨ad, ha, ?_⟩
    rw [Nat.add_zero, hc, hv, ← str_of]
theorem rd_els {H : Hp} {s : Sl} {xs : List (List UInt8)} {val : ByteArray → Value} (hv : ∀ x, val x = .string x) (h : Rd flL 1 H s xs) : Els val H s (xs.map str) := by
  refine ⟨by rw [List.length_map]; exact h.len, fun i x hx => ?_⟩
  rw [List.getElem?_map] at hx
  cases hxi : xs[i]? with
  | none => rw [hxi] at hx; cases hx
  | some y =>
    rw [hxi] at hx
    simp only [Option.map_some, Option.some.injEq] at hx
    subst hx
    obtain ⟨ad, ha, hc⟩ := h.el i y 0 (.string (str y)) hxi rfl
    exact ⟨ad, ha, by rw [hv]; exact hc⟩
/-- rising texts, as lists -/
theorem rising_map {ys : List ByteArray} (h : Rising ltS ys) : Rising ltL (ys.map (·.data.toList)) := by
  unfold Rising at h ⊢
  rw [List.pairwise_map]
  refine h.imp ?_
  intro a b hab
  rw [str_of a, str_of b, lt_str] at hab
  exact hab
theorem map_str (xs : List (List UInt8)) : (xs.map str).map (·.data.toList) = xs := by
  rw [List.map_map]
  have : ((·.data.toList) ∘ str : List UInt8 → List UInt8) = id := by
    funext x
    exact str_data x
  rw [this, List.map_id]
theorem u8_int {a b : UInt8} : (((a.toNat : Int) == (b.toNat : Int)) = true) ↔ a = b := by
  rw [beq_iff_eq]
  constructor
  · intro h
    exact UInt8.toNat_inj.1 (by omega)
  · rintro rfl
    rfl
/-- how many bytes two texts share at their beginnings -/
def shL : List UInt8 → List UInt8 → Nat
  | a :: x, b :: y => if a = b then shL x y + 1 else 0
  | _, _ => 0
theorem shL_at : ∀ {x y : List UInt8} {j : Nat}, j ≤ x.length → j ≤ y.length → x.take j = y.take j → (j = x.length ∨ j = y.length ∨ x[j]? ≠ y[j]?) → shL x y = j
  | [], y, j, h1, _, _, _ => by
    have : j = 0 := by simpa using h1
    subst this
    cases y <;> rfl
  | x :: xs, [], j, _, h2, _, _ => by
    have : j = 0 := by simpa using h2
    subst this
    rfl
  | x :: xs, y :: ys, 0, _, _, _, h => by
    rcases h with h | h | h
    · cases h
    · cases h
    · rw [shL, if_neg (fun e => h (by rw [e]; rfl))]
  | x :: xs, y :: ys, j + 1, h1, h2, he, h => by
    rw [List.take_succ_cons, List.take_succ_cons, List.cons.injEq] at he
    rw [shL, if_pos he.1, shL_at (by simpa using h1) (by simpa using h2) he.2 (by
      rcases h with h | h | h
      · left; simpa using h
      · right; left; simpa using h
      · right; right; simpa using h)]
theorem shL_le : ∀ (x y : List UInt8), shL x y ≤ x.length ∧ shL x y ≤ y.length ∧ x.take (shL x y) = y.take (shL x y)
  | [], y => by cases y <;> simp [shL]
  | x :: xs, [] => by simp [shL]
  | x :: xs, y :: ys => by
    rw [shL]
    by_cases h : x = y
    · rw [if_pos h]
      obtain ⟨a, b, c⟩ := shL_le xs ys
      exact ⟨by simpa using a, by simpa using b, by rw [List.take_succ_cons, List.take_succ_cons, c, h]⟩
    · rw [if_neg h]
      simp
end Go.V

