/- Parts in order, plain: what leads where by rounds, and the order in which parts are told; of no program. -/
import Derived.Test.YtoigfahdgphpdaaG7
set_option linter.unusedVariables false
set_option linter.unusedSimpArgs false
namespace Go.Tar
/-! ### what leads where, by rounds -/
def wst (m : Nat → Nat → Bool) (k : Nat) : Nat → Nat → Bool := fun i j => m i j || (m i k && m k j)
def wrs (m : Nat → Nat → Bool) : Nat → Nat → Nat → Bool
  | 0 => m
  | k + 1 => wst (wrs m k) k
theorem wrs_step {m : Nat → Nat → Bool} {k i j : Nat} : wrs m (k + 1) i j = true ↔ wrs m k i j = true ∨ (wrs m k i k = true ∧ wrs m k k j = true) := by
  show wst (wrs m k) k i j = true ↔ _
  unfold wst
  rw [Bool.or_eq_true, Bool.and_eq_true]
theorem wrs_mono {m : Nat → Nat → Bool} {i j : Nat} (h : m i j = true) : ∀ k, wrs m k i j = true
  | 0 => h
  | k + 1 => wrs_step.2 (.inl (wrs_mono h k))
theorem wrs_trans {m : Nat → Nat → Bool} : ∀ (K : Nat) {i k j : Nat}, k < K → wrs m K i k = true → wrs m K k j = true → wrs m K i j = true
  | 0, _, _, _, h, _, _ => by omega
  | K + 1, i, k, j, hk, h1, h2 => by
    by_cases he : k = K
    · subst he
      have a : wrs m k i k = true := by
        rcases wrs_step.1 h1 with h | h
        · exact h
        · exact h.1
      have b : wrs m k k j = true := by
        rcases wrs_step.1 h2 with h | h
        · exact h
        · exact h.2
      exact wrs_step.2 (.inr ⟨a, b⟩)
    · have hk' : k < K := by omega
      rcases wrs_step.1 h1 with h1 | ⟨h1, h1'⟩
      · rcases wrs_step.1 h2 with h2 | ⟨h2, h2'⟩
        · exact wrs_step.2 (.inl (wrs_trans K hk' h1 h2))
        · exact wrs_step.2 (.inr ⟨wrs_trans K hk' h1 h2, h2'⟩)
      · rcases wrs_step.1 h2 with h2 | ⟨h2, h2'⟩
        · exact wrs_step.2 (.inr ⟨h1, wrs_trans K hk' h1' h2⟩)
        · exact wrs_step.2 (.inr ⟨h1, h2'⟩)
theorem wrs_sound {E : Nat → Nat → Prop} {m : Nat → Nat → Bool} (h : ∀ i j, m i j = true → Rch E i j) : ∀ (k : Nat) {i j : Nat}, wrs m k i j = true → Rch E i j
  | 0, i, j, hw => h i j hw
  | k + 1, i, j, hw => by
    rcases wrs_step.1 hw with h1 | ⟨h1, h2⟩
    · exact wrs_sound h k h1
    · exact (wrs_sound h k h1).trans (wrs_sound h k h2)
theorem wrs_full {E : Nat → Nat → Prop} {m : Nat → Nat → Bool} {N : Nat} (h1 : ∀ i j, E i j → m i j = true) (h2 : ∀ i, i < N → m i i = true) (h3 : ∀ i j, E i j → i < N ∧ j < N) {i j : Nat} (h : Rch E i j) (hi : i < N) : wrs m N i j = true := by
  induction h with
  | refl => exact wrs_mono (h2 _ hi) N
  | tail h e ih =>
    have hb := h3 _ _ e
    exact wrs_trans N hb.1 ih (wrs_mono (h1 _ _ e) N)

/-! ### counting -/
def cnt (f : Nat → Bool) (n : Nat) : Nat := (List.range n).countP f
theorem cnt_succ {f : Nat → Bool} {n : Nat} : cnt f (n + 1) = cnt f n + if f n then 1 else 0 := by
  unfold cnt
  rw [List.range_succ, List.countP_append, List.countP_singleton]
theorem cnt_le {f : Nat → Bool} : ∀ n, cnt f n ≤ n
  | 0 => Nat.le_refl _
  | n + 1 => by
    have := cnt_le (f := f) n
    rw [cnt_succ]
    split <;> omega
theorem cnt_congr {f f' : Nat → Bool} : ∀ {n : Nat}, (∀ v, v < n → f v = f' v) → cnt f n = cnt f' n
  | 0, _ => rfl
  | n + 1, h => by rw [cnt_succ, cnt_succ, cnt_congr fun v hv => h v (by omega), h n (by omega)]
theorem cnt_up {f f' : Nat → Bool} {v : Nat} (h0 : f v = false) (h1 : f' v = true) (he : ∀ u, u ≠ v → f' u = f u) : ∀ {n : Nat}, v < n → cnt f' n = cnt f n + 1
  | 0, h => by omega
  | n + 1, h => by
    rw [cnt_succ, cnt_succ]
    by_cases hv : v = n
    · subst hv
      rw [cnt_congr fun u hu => he u (by omega), h0, h1]
      simp
    · rw [cnt_up h0 h1 he (by omega), he n (by omega)]
      omega
theorem cnt_zero {f : Nat → Bool} : ∀ {n : Nat}, cnt f n = 0 ↔ ∀ v, v < n → f v = false
  | 0 => ⟨fun _ v h => by omega, fun _ => rfl⟩
  | n + 1 => by
    rw [cnt_succ]
    constructor
    · intro h v hv
      have h1 : cnt f n = 0 := by omega
      by_cases hn : v = n
      · subst hn
        cases hf : f v with
        | false => rfl
        | true => rw [hf] at h; simp at h
      · exact cnt_zero.1 h1 v (by omega)
    · intro h
      rw [cnt_zero.2 fun v hv => h v (by omega), h n (by omega)]
      rfl
theorem cnt_lt {f : Nat → Bool} : ∀ {n : Nat}, cnt f n < n → ∃ v, v < n ∧ f v = false
  | 0, h => by omega
  | n + 1, h => by
    rw [cnt_succ] at h
    cases hf : f n with
    | false => exact ⟨n, by omega, hf⟩
    | true =>
      rw [hf] at h
      obtain ⟨v, h1, h2⟩ := cnt_lt (f := f) (n := n) (by simp at h; omega)
      exact ⟨v, by omega, h2⟩
theorem cnt_all {f : Nat → Bool} {n : Nat} (h : cnt f n = n) : ∀ v, v < n → f v = true := by
  intro v hv
  cases hf : f v with
  | true => rfl
  | false =>
    exfalso
    have h1 := cnt_up (f := f) (f' := upd f v true) hf upd_self (fun u hu => upd_ne hu) hv
    have := cnt_le (f := upd f v true) n
    omega
theorem least {Q : Nat → Prop} {p : Nat} (h : Q p) : ∃ q, q ≤ p ∧ Q q ∧ ∀ k, k < q → ¬ Q k := by
  induction p using Nat.strongRecOn with
  | ind p ih =>
    by_cases hc : ∃ k, k < p ∧ Q k
    · obtain ⟨k, hk, hq⟩ := hc
      obtain ⟨q, h1, h2, h3⟩ := ih k hk hq
      exact ⟨q, by omega, h2, h3⟩
    · exact ⟨p, Nat.le_refl _, h, fun k hk hq => hc ⟨k, hk, hq⟩⟩

/-! ### the parts in order -/
section
variable {r : Nat → Nat → Bool} {N : Nat}
def cls (r : Nat → Nat → Bool) (N : Nat) (i : Nat) : List Nat := (List.range N).filter fun j => r i j && r j i
def fre (r : Nat → Nat → Bool) (N : Nat) (dn : Nat → Bool) (i : Nat) : Bool := (List.range N).all fun j => !(r i j && !(r j i)) || dn j
def pck (r : Nat → Nat → Bool) (N : Nat) (dn : Nat → Bool) : Option Nat := (List.range N).find? fun i => !dn i && fre r N dn i
def dnx (r : Nat → Nat → Bool) (dn : Nat → Bool) (i : Nat) : Nat → Bool := fun j => dn j || (r i j && r j i)
def bld (r : Nat → Nat → Bool) (N : Nat) : Nat → (Nat → Bool) → List (List Nat)
  | 0, _ => []
  | k + 1, dn => match pck r N dn with
    | none => []
    | some i => cls r N i :: bld r N k (dnx r dn i)
theorem pck_some {dn : Nat → Bool} {i : Nat} (hi : i < N) (h1 : dn i = false) (h2 : fre r N dn i = true) (h3 : ∀ j, j < i → dn j = false → fre r N dn j = false) : pck r N dn = some i := by
  unfold pck
  rw [List.find?_range_eq_some]
  refine ⟨by rw [h1, h2]; rfl, List.mem_range.2 hi, fun j hj => ?_⟩
  cases hd : dn j with
  | true => rfl
  | false => rw [h3 j hj hd]; rfl
theorem pck_none {dn : Nat → Bool} (h : ∀ i, i < N → dn i = true ∨ fre r N dn i = false) : pck r N dn = none := by
  unfold pck
  rw [List.find?_eq_none]
  intro i hi
  rcases h i (List.mem_range.1 hi) with h | h <;> rw [h] <;> simp
theorem pck_spec {dn : Nat → Bool} {i : Nat} (h : pck r N dn = some i) : i < N ∧ dn i = false ∧ fre r N dn i = true := by
  unfold pck at h
  rw [List.find?_range_eq_some] at h
  obtain ⟨h1, h2, _⟩ := h
  rw [Bool.and_eq_true] at h1
  exact ⟨List.mem_range.1 h2, by simpa using h1.1, h1.2⟩
theorem bld_none {dn : Nat → Bool} (h : pck r N dn = none) : ∀ k, bld r N k dn = []
  | 0 => rfl
  | k + 1 => by unfold bld; rw [h]
theorem bld_some {dn : Nat → Bool} {i k : Nat} (h : pck r N dn = some i) : bld r N (k + 1) dn = cls r N i :: bld r N k (dnx r dn i) := by
  show (match pck r N dn with
    | none => []
    | some i => cls r N i :: bld r N k (dnx r dn i)) = _
  rw [h]
theorem fre_iff {dn : Nat → Bool} {i : Nat} : fre r N dn i = true ↔ ∀ j, j < N → r i j = true → r j i = false → dn j = true := by
  unfold fre
  rw [List.all_eq_true]
  constructor
  · intro h j hj h1 h2
    have := h j (List.mem_range.2 hj)
    rw [h1, h2] at this
    simpa using this
  · intro h j hj
    have hj' := List.mem_range.1 hj
    cases h1 : r i j with
    | false => simp
    | true =>
      cases h2 : r j i with
      | true => simp
      | false => rw [h j hj' h1 h2]; simp
/-- parts by numbers are the parts of what leads round -/
structure PtOk (r : Nat → Nat → Bool) (N P : Nat) (pt : Nat → Nat) (g : Nat → List Nat) : Prop where
  eqv : ∀ u v, u < N → v < N → (pt u = pt v ↔ r u v = true ∧ r v u = true)
  lt : ∀ v, v < N → pt v < P
  full : ∀ p, p < P → ∃ v, v < N ∧ pt v = p
  le : P ≤ N
  ord : ∀ u v, u < N → v ∈ g u → pt v ≤ pt u
  glt : ∀ u v, v ∈ g u → v < N
  reach : ∀ u v, u < N → v < N → (r u v = true ↔ Rch (Eg g) u v)
theorem Rch.lt {g : Nat → List Nat} (hg : ∀ u v, v ∈ g u → v < N) {u v : Nat} (h : Rch (Eg g) u v) (hu : u < N) : v < N := by
  induction h with
  | refl => exact hu
  | tail _ e _ => exact hg _ _ e
def mem (pt : Nat → Nat) (N p : Nat) : List Nat := (List.range N).filter fun v => pt v == p
section
variable {P : Nat} {pt : Nat → Nat} {g : Nat → List Nat}
theorem mem_iff {p v : Nat} : v ∈ mem pt N p ↔ v < N ∧ pt v = p := by simp [mem]
theorem PtOk.cls (h : PtOk r N P pt g) {i : Nat} (hi : i < N) : cls r N i = mem pt N (pt i) := by
  unfold Tar.cls mem
  refine List.filter_congr fun j hj => ?_
  have hj' := List.mem_range.1 hj
  have := h.eqv j i hj' hi
  by_cases hc : pt j = pt i
  · obtain ⟨a, b⟩ := this.1 hc
    rw [a, b, beq_iff_eq.2 hc]
    rfl
  · have hb : (pt j == pt i) = false := by simpa using hc
    rw [hb]
    cases h1 : r i j with
    | false => rfl
    | true =>
      cases h2 : r j i with
      | false => rfl
      | true => exact absurd (this.2 ⟨h2, h1⟩) hc
theorem mem_pos (h : PtOk r N P pt g) {p : Nat} (hp : p < P) : ∃ v l, mem pt N p = v :: l := by
  obtain ⟨v, h1, h2⟩ := h.full p hp
  have hv : v ∈ mem pt N p := mem_iff.2 ⟨h1, h2⟩
  cases hm : mem pt N p with
  | nil => rw [hm] at hv; cases hv
  | cons a l => exact ⟨a, l, rfl⟩
theorem mem_first {p v : Nat} {l : List Nat} (h : mem pt N p = v :: l) : (v < N ∧ pt v = p) ∧ ∀ u, u < N → pt u = p → v ≤ u := by
  have hv : v ∈ mem pt N p := by rw [h]; exact List.mem_cons_self
  refine ⟨mem_iff.1 hv, fun u h1 h2 => ?_⟩
  have hu : u ∈ mem pt N p := mem_iff.2 ⟨h1, h2⟩
  have hs : (mem pt N p).Pairwise (· < ·) := List.Pairwise.filter _ List.pairwise_lt_range
  rw [h] at hu hs
  rw [List.pairwise_cons] at hs
  rcases List.mem_cons.1 hu with rfl | hu
  · exact Nat.le_refl _
  · exact Nat.le_of_lt (hs.1 u hu)
/-- all others that a part leads to stand -/
def Op (N : Nat) (pt : Nat → Nat) (g : Nat → List Nat) (D : Nat → Bool) (p : Nat) : Prop := ∀ u, u < N → pt u = p → ∀ v ∈ g u, pt v = p ∨ D (pt v) = true
theorem Op.reach (h : PtOk r N P pt g) {D : Nat → Bool} (hD : ∀ p, p < P → D p = true → Op N pt g D p) {i : Nat} (hi : i < N) (ho : Op N pt g D (pt i)) : ∀ j, Rch (Eg g) i j → pt j = pt i ∨ D (pt j) = true := by
  intro j hj
  have : (j < N) ∧ (pt j = pt i ∨ D (pt j) = true) := by
    refine hj.closed (C := fun v => v < N ∧ (pt v = pt i ∨ D (pt v) = true)) ?_ ⟨hi, .inl rfl⟩
    rintro a b ⟨ha, hc⟩ hab
    have hb := h.glt a b hab
    refine ⟨hb, ?_⟩
    rcases hc with hc | hc
    · exact ho a ha hc b hab
    · rcases hD (pt a) (h.lt a ha) hc a ha rfl b hab with h1 | h1
      · rw [h1]; exact .inr hc
      · exact .inr h1
  exact this.2
theorem fre_op (h : PtOk r N P pt g) {D : Nat → Bool} {dn : Nat → Bool} (hdn : ∀ j, j < N → dn j = D (pt j)) (hD : ∀ p, p < P → D p = true → Op N pt g D p) {i : Nat} (hi : i < N) : fre r N dn i = true ↔ Op N pt g D (pt i) := by
  rw [fre_iff]
  constructor
  · intro hf u hu he v hv
    by_cases hc : pt v = pt i
    · exact .inl hc
    · right
      have hvN := h.glt u v hv
      have h1 : r i u = true := ((h.eqv u i hu hi).1 he).2
      have h2 : r i v = true := (h.reach i v hi hvN).2 (((h.reach i u hi hu).1 h1).tail hv)
      have h3 : r v i = false := by
        cases h3 : r v i with
        | false => rfl
        | true => exact absurd ((h.eqv v i hvN hi).2 ⟨h3, h2⟩) hc
      rw [← hdn v hvN]
      exact hf v hvN h2 h3
  · intro ho j hj h1 h2
    rw [hdn j hj]
    rcases ho.reach h hD hi j ((h.reach i j hi hj).1 h1) with h3 | h3
    · have := (h.eqv j i hj hi).1 h3
      rw [h2] at this
      exact absurd this.1 (by simp)
    · exact h3
/-- there is one whose others stand -/
theorem op_ex (h : PtOk r N P pt g) {D : Nat → Bool} {p : Nat} (hp : p < P) (hn : D p = false) : ∃ q, q < P ∧ D q = false ∧ Op N pt g D q := by
  obtain ⟨q, h1, ⟨h2, h3⟩, h4⟩ := least (Q := fun q => q < P ∧ D q = false) ⟨hp, hn⟩
  refine ⟨q, h2, h3, fun u hu he v hv => ?_⟩
  have hle := h.ord u v hu hv
  rw [he] at hle
  rcases Nat.lt_or_eq_of_le hle with hlt | heq
  · right
    cases hd : D (pt v) with
    | true => rfl
    | false => exact absurd ⟨by omega, hd⟩ (h4 _ hlt)
  · exact .inl heq
/-- the one with the least first member is what is told next -/
theorem pck_op (h : PtOk r N P pt g) {D : Nat → Bool} {dn : Nat → Bool} (hdn : ∀ j, j < N → dn j = D (pt j)) (hD : ∀ p, p < P → D p = true → Op N pt g D p) {p v : Nat} {l : List Nat} (hp : p < P) (hn : D p = false) (ho : Op N pt g D p) (hm : mem pt N p = v :: l)
    (hmin : ∀ q u m, q < P → D q = false → Op N pt g D q → mem pt N q = u :: m → v ≤ u) : pck r N dn = some v := by
  obtain ⟨⟨hv, he⟩, _⟩ := mem_first hm
  refine pck_some hv (by rw [hdn v hv, he]; exact hn) ((fre_op h hdn hD hv).2 (by rw [he]; exact ho)) ?_
  intro j hj hd
  have hjN : j < N := by omega
  rw [hdn j hjN] at hd
  cases hf : fre r N dn j with
  | false => rfl
  | true =>
    exfalso
    have hoj := (fre_op h hdn hD hjN).1 hf
    obtain ⟨u, m, hm'⟩ := mem_pos h (h.lt j hjN)
    have h1 := hmin _ u m (h.lt j hjN) hd hoj hm'
    have h2 := (mem_first hm').2 j hjN rfl
    omega
theorem dnx_op (h : PtOk r N P pt g) {D : Nat → Bool} {dn : Nat → Bool} (hdn : ∀ j, j < N → dn j = D (pt j)) {p v : Nat} (hv : v < N) (he : pt v = p) : ∀ j, j < N → dnx r dn v j = upd D p true (pt j) := by
  intro j hj
  unfold dnx
  rw [hdn j hj]
  have := h.eqv j v hj hv
  by_cases hc : pt j = p
  · rw [hc, upd_self]
    have := this.1 (by rw [hc, he])
    rw [this.1, this.2]
    simp
  · rw [upd_ne hc]
    cases h1 : r v j with
    | false => simp
    | true =>
      cases h2 : r j v with
      | false => simp
      | true => exact absurd (by rw [this.2 ⟨h2, h1⟩]; exact he) hc
theorem op_next (h : PtOk r N P pt g) {D : Nat → Bool} (hD : ∀ p, p < P → D p = true → Op N pt g D p) {p : Nat} (ho : Op N pt g D p) : ∀ q, q < P → upd D p true q = true → Op N pt g (upd D p true) q := by
  have mono : ∀ q, D q = true → upd D p true q = true := by
    intro q hq
    by_cases hc : q = p
    · rw [hc, upd_self]
    · rw [upd_ne hc]; exact hq
  intro q hq hd u hu he v hv
  by_cases hc : q = p
  · subst hc
    exact (ho u hu he v hv).imp id (mono _)
  · rw [upd_ne hc] at hd
    exact (hD q hq hd u hu he v hv).imp id (mono _)
end
end
end Go.Tar

