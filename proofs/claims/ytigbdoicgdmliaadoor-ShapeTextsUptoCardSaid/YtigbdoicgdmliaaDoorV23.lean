/- slices.BinarySearch over rising texts; of no program. -/
import Derived.Test.YtigbdoicgdmliaaDoorV22
set_option linter.unusedVariables false
set_option linter.unusedSimpArgs false
namespace Go.V
attribute [local irreducible] Cvt ExtF CallF hrun
/-- slices.BinarySearch over texts, as it is printed; fl: cmp.Less, fn: isNaN -/
def BinV (P : Program) (fl fn : FuncId) (H : Hp) (x : Sl) (target : ByteArray) (K : Value → Hp → Prop) (Z : List PanicEntry → Hp → Prop) : Prop :=
  ∃ I : Int → Int → Hp → Nat → Prop, (∃ m, I 0 (x.n : Int) H m) ∧ ∀ (i : Int) (j : Int), ∀ H1 m1, I i j H1 m1 → 
    ∀ scr : Nat → Value, (((decide (i < j)) = true → IxA x.a x.n (w64 (Int.fdiv (IntKind.wrap .u64 (w64 (i + j))) (2 ^ 1))) 1 fun ad => 
    (∃ x1 : ByteArray, hcell H1 ad = some (.string x1) ∧ CallF P fl #[.string x1, .string target] H1 (fun r H2 => 
    ∃ y : Bool, r = .bool y ∧ ((y = true → (∃ m2, m2 < m1 ∧ I (w64 ((w64 (Int.fdiv (IntKind.wrap .u64 (w64 (i + j))) (2 ^ 1))) + 1)) j H2 m2)) ∧ 
    (y = false → (∃ m2, m2 < m1 ∧ I i (w64 (Int.fdiv (IntKind.wrap .u64 (w64 (i + j))) (2 ^ 1))) H2 m2)))) Z)) ∧ 
    ((decide (i < j)) = false → (((decide (i < (x.n : Int))) = true → IxA x.a x.n i 1 fun ad1 => (∃ x2 : ByteArray, hcell H1 ad1 = some (.string x2) ∧ 
    (((beqS x2 target) = true → K (.tuple #[.int .i64 i, .bool true]) H1) ∧ ((beqS x2 target) = false → 
    IxA x.a x.n i 1 fun ad2 => (∃ x3 : ByteArray, hcell H1 ad2 = some (.string x3) ∧ CallF P fn #[.string x3] H1 (fun r1 H3 => 
    ∃ y1 : Bool, r1 = .bool y1 ∧ ((y1 = true → CallF P fn #[.string target] H3 (fun r2 H4 => 
    ∃ y2 : Bool, r2 = .bool y2 ∧ K (.tuple #[.int .i64 i, .bool y2]) H4) Z) ∧ (y1 = false → K (.tuple #[.int .i64 i, .bool false]) H3))) Z))))) ∧ 
    ((decide (i < (x.n : Int))) = false → K (.tuple #[.int .i64 i, .bool false]) H1))))
/-- where a rising row parts at a text -/
structure PartAt (xs : List (List UInt8)) (t : List UInt8) (p : Nat) : Prop where
  le : p ≤ xs.length
  lo : ∀ (i : Nat) (x : List UInt8), i < p → xs[i]? = some x → ltL x t = true
  hi : ∀ (i : Nat) (x : List UInt8), p ≤ i → xs[i]? = some x → ltL x t = false
theorem PartAt.mem {xs : List (List UInt8)} {t : List UInt8} {p : Nat} (h : PartAt xs t p) (hr : Rising ltL xs) : t ∈ xs ↔ xs[p]? = some t := by
  constructor
  · intro hm
    obtain ⟨i, hi⟩ := List.getElem?_of_mem hm
    rcases Nat.lt_trichotomy i p with hip | hip | hip
    · have := h.lo i t hip hi
      rw [linL.irr] at this
      cases this
    · rw [← hip]; exact hi
    · obtain ⟨h2, e2⟩ := List.getElem?_eq_some_iff.1 hi
      have hp : p < xs.length := by omega
      have hlt := List.pairwise_iff_getElem.1 hr p i hp h2 hip
      rw [e2] at hlt
      have := h.hi p _ (Nat.le_refl _) (List.getElem?_eq_getElem hp)
      rw [hlt] at this
      cases this
  · exact fun hp => List.mem_of_getElem? hp
theorem binv_ok {P : Program} {fl fn : FuncId} {H : Hp} {s : Sl} {xs : List (List UInt8)} {t : List UInt8} {K : Value → Hp → Prop} {Z : List PanicEntry → Hp → Prop} (h : Rd flL 1 H s xs) (hr : Rising ltL xs) (hbig : xs.length ≤ 1000000000000)
    (hless : ∀ (a b : ByteArray) (K' : Value → Hp → Prop), K' (.bool (ltS a b)) H → CallF P fl #[.string a, .string b] H K' Z)
    (hnan : ∀ (a : ByteArray) (K' : Value → Hp → Prop), K' (.bool false) H → CallF P fn #[.string a] H K' Z)
    (k : ∀ p : Nat, PartAt xs t p → K (.tuple #[.int .i64 (p : Int), .bool (decide (t ∈ xs))]) H) : BinV P fl fn H s (str t) K Z := by
  have hn := h.len
  have mono : ∀ {i j : Nat} {x y : List UInt8}, i ≤ j → xs[i]? = some x → xs[j]? = some y → ltL y t = true → ltL x t = true := by
    intro i j x y hij hx hy hlt
    rcases Nat.eq_or_lt_of_le hij with rfl | hij
    · rw [hx] at hy; cases hy; exact hlt
    · obtain ⟨h1, e1⟩ := List.getElem?_eq_some_iff.1 hx
      obtain ⟨h2, e2⟩ := List.getElem?_eq_some_iff.1 hy
      have := List.pairwise_iff_getElem.1 hr i j h1 h2 hij
      rw [e1, e2] at this
      exact linL.tr _ _ _ this hlt
  unfold BinV
  refine ⟨fun i j A m => ∃ a b : Nat, A = H ∧ i = (a : Int) ∧ j = (b : Int) ∧ a ≤ b ∧ b ≤ xs.length ∧ m = b - a ∧ (∀ (i : Nat) x, i < a → xs[i]? = some x → ltL x t = true) ∧ (∀ (i : Nat) x, b ≤ i → xs[i]? = some x → ltL x t = false),
    ⟨_, 0, xs.length, rfl, rfl, by rw [hn], Nat.zero_le _, Nat.le_refl _, rfl, fun i x hi => by omega, fun i x hi hx => by have := (List.getElem?_eq_some_iff.1 hx).1; omega⟩, ?_⟩
  rintro i j A m ⟨a, b, rfl, rfl, rfl, hab, hb, rfl, hlo, hhi⟩ scr
  refine ⟨fun hlt => ?_, fun hge => ?_⟩
  · have hlt' : a < b := dlt hlt
    rw [mid_eq (by omega)]
    have hm1 : a ≤ (a + b) / 2 := by omega
    have hm2 : (a + b) / 2 < b := by omega
    generalize (a + b) / 2 = c at *
    have hv : xs[c]? = some (xs[c]'(by omega)) := List.getElem?_eq_getElem (by omega)
    generalize xs[c]'(by omega) = x at hv
    refine h.ixn FlL hv fun ad had => ⟨_, had, hless _ _ _ ⟨_, rfl, fun hy => ?_, fun hy => ?_⟩⟩
    · rw [lt_strL] at hy
      refine ⟨b - (c + 1), by omega, c + 1, b, rfl, wi (by omega), rfl, by omega, hb, rfl, fun i y hi hy' => mono (by omega) hy' hv hy, hhi⟩
    · rw [lt_strL] at hy
      refine ⟨c - a, by omega, a, c, rfl, rfl, rfl, by omega, by omega, rfl, hlo, fun i y hi hy' => ?_⟩
      cases e : ltL y t with
      | false => rfl
      | true => rw [mono hi hv hy' e] at hy; cases hy
  · have hab' : a = b := by have := dge hge; omega
    subst hab'
    have hp : PartAt xs t a := ⟨hb, hlo, hhi⟩
    have hk := k a hp
    refine ⟨fun hlt => ?_, fun hge2 => ?_⟩
    · have hlt' : a < xs.length := by have := dlt hlt; omega
      have hv : xs[a]? = some (xs[a]'hlt') := List.getElem?_eq_getElem hlt'
      generalize xs[a]'hlt' = x at hv
      refine h.ixn FlL hv fun ad had => ⟨_, had, fun he => ?_, fun he => ?_⟩
      · have hx : x = t := by rw [beq_str] at he; exact of_decide_eq_true he
        rw [decide_eq_true ((hp.mem hr).2 (by rw [hv, hx]))] at hk
        exact hk
      · have hx : x ≠ t := by rw [beq_str] at he; exact of_decide_eq_false he
        rw [decide_eq_false (fun hm => hx (by have := (hp.mem hr).1 hm; rw [hv] at this; exact Option.some.inj this))] at hk
        refine h.ixn FlL hv fun ad1 had1 => ⟨_, had1, hnan _ _ ⟨_, rfl, (fun h => by cases h), fun _ => hk⟩⟩
    · have hge2' : xs.length ≤ a := by have := dge hge2; omega
      rw [decide_eq_false (fun hm => by
        have := (hp.mem hr).1 hm
        rw [List.getElem?_eq_none hge2'] at this
        cases this)] at hk
      exact hk
end Go.V

