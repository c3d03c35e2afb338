/- Orders, and things with their numbers in order: plain words. -/
import Derived.Test.YtigbdoicgdmliaaDoorV12
import Derived.Laws.Strings
set_option linter.unusedVariables false
set_option linter.unusedSimpArgs false
namespace Go.V
/-- a strict order in which any two are comparable -/
structure Lin {τ : Type} (lt : τ → τ → Bool) : Prop where
  irr : ∀ x, lt x x = false
  tr : ∀ x y z, lt x y = true → lt y z = true → lt x z = true
  tot : ∀ x y, lt x y = true ∨ x = y ∨ lt y x = true
theorem linI : Lin (fun x y : Int => decide (x < y)) := by
  refine ⟨?_, ?_, ?_⟩
  · intro x; simp
  · intro x y z; simp only [decide_eq_true_eq]; omega
  · intro x y; simp only [decide_eq_true_eq]; omega
theorem bl_irr : ∀ x : List UInt8, Op.bytesLess x x = false
  | [] => rfl
  | a :: x => by simp [Op.bytesLess, bl_irr x]
theorem bl_tr : ∀ x y z : List UInt8, Op.bytesLess x y = true → Op.bytesLess y z = true → Op.bytesLess x z = true
  | x, [], z, h, _ => by cases x <;> simp [Op.bytesLess] at h
  | x, b :: y, [], _, h => by simp [Op.bytesLess] at h
  | [], b :: y, c :: z, _, _ => rfl
  | a :: x, b :: y, c :: z, h1, h2 => by
    simp only [Op.bytesLess, Bool.or_eq_true, decide_eq_true_eq, Bool.and_eq_true, beq_iff_eq] at h1 h2 ⊢
    rcases h1 with h1 | ⟨rfl, h1⟩
    · rcases h2 with h2 | ⟨rfl, h2⟩
      · exact .inl (UInt8.lt_trans h1 h2)
      · exact .inl h1
    · rcases h2 with h2 | ⟨rfl, h2⟩
      · exact .inl h2
      · exact .inr ⟨rfl, bl_tr x y z h1 h2⟩
theorem bl_tot : ∀ x y : List UInt8, Op.bytesLess x y = true ∨ x = y ∨ Op.bytesLess y x = true
  | [], [] => .inr (.inl rfl)
  | [], _ :: _ => .inl rfl
  | _ :: _, [] => .inr (.inr rfl)
  | a :: x, b :: y => by
    simp only [Op.bytesLess, Bool.or_eq_true, decide_eq_true_eq, Bool.and_eq_true, beq_iff_eq]
    rcases Nat.lt_trichotomy a.toNat b.toNat with h | h | h
    · exact .inl (.inl (UInt8.lt_iff_toNat_lt.2 h))
    · have : a = b := UInt8.toNat_inj.1 h
      subst this
      rcases bl_tot x y with h | rfl | h
      · exact .inl (.inr ⟨rfl, h⟩)
      · exact .inr (.inl rfl)
      · exact .inr (.inr (.inr ⟨rfl, h⟩))
    · exact .inr (.inr (.inl (UInt8.lt_iff_toNat_lt.2 h)))
theorem linS : Lin ltS := by
  refine ⟨fun x => bl_irr _, fun x y z => bl_tr _ _ _, fun x y => ?_⟩
  rcases bl_tot x.toList y.toList with h | h | h
  · exact .inl h
  · refine .inr (.inl ?_)
    rw [ByteArray.toList_eq, ByteArray.toList_eq] at h
    exact ByteArray.ext (Array.ext' h)
  · exact .inr (.inr h)
theorem beqS_iff {x y : ByteArray} : beqS x y = true ↔ x = y := by
  unfold beqS
  rw [ByteArray.toList_eq, ByteArray.toList_eq, beq_iff_eq]
  exact ⟨fun h => ByteArray.ext (Array.ext' h), fun h => by rw [h]⟩

section
variable {τ : Type} {lt : τ → τ → Bool}
def cmpT (lt : τ → τ → Bool) (x y : τ) : Int := if lt x y then -1 else if lt y x then 1 else 0
theorem cmpT_neg {x y : τ} : cmpT lt x y < 0 ↔ lt x y = true := by
  unfold cmpT
  split
  · simp_all
  · split <;> simp_all
theorem cmpT_zero (hl : Lin lt) {x y : τ} : cmpT lt x y = 0 ↔ x = y := by
  unfold cmpT
  constructor
  · intro h
    split at h
    · cases h
    · split at h
      · cases h
      · rcases hl.tot x y with h | h | h
        · simp_all
        · exact h
        · simp_all
  · rintro rfl
    simp [hl.irr]
def relT (lt : τ → τ → Bool) (ts : List τ) (a b : Nat) : Prop := ∃ x y, ts[a]? = some x ∧ ts[b]? = some y ∧ lt x y = true
/-- things, and their numbers as the things rise -/
structure Tbl (lt : τ → τ → Bool) (ts : List τ) (os : List Nat) : Prop where
  perm : os.Perm (List.range ts.length)
  inc : os.Pairwise (relT lt ts)
theorem Tbl.nil : Tbl lt ([] : List τ) [] := ⟨List.Perm.refl _, List.Pairwise.nil⟩
theorem Tbl.len {ts : List τ} {os : List Nat} (h : Tbl lt ts os) : os.length = ts.length := by
  have := h.perm.length_eq
  simpa using this
theorem Tbl.ltn {ts : List τ} {os : List Nat} (h : Tbl lt ts os) {j k : Nat} (hj : os[j]? = some k) : k < ts.length := by
  have : k ∈ List.range ts.length := h.perm.mem_iff.1 (List.mem_of_getElem? hj)
  exact List.mem_range.1 this
theorem Tbl.at {ts : List τ} {os : List Nat} (h : Tbl lt ts os) {k : Nat} (hk : k < ts.length) : ∃ j : Nat, os[j]? = some k := by
  have : k ∈ os := h.perm.mem_iff.2 (List.mem_range.2 hk)
  exact List.getElem?_of_mem this
theorem Tbl.rel {ts : List τ} {os : List Nat} (h : Tbl lt ts os) {i j a b : Nat} (hij : i < j) (ha : os[i]? = some a) (hb : os[j]? = some b) : relT lt ts a b := by
  obtain ⟨hi, rfl⟩ := List.getElem?_eq_some_iff.1 ha
  obtain ⟨hj, rfl⟩ := List.getElem?_eq_some_iff.1 hb
  exact List.pairwise_iff_getElem.1 h.inc i j hi hj hij
/-- each thing has one number -/
theorem Tbl.uniq (hl : Lin lt) {ts : List τ} {os : List Nat} (h : Tbl lt ts os) {a b : Nat} {x : τ} (ha : ts[a]? = some x) (hb : ts[b]? = some x) : a = b := by
  obtain ⟨i, hi⟩ := h.at (List.getElem?_eq_some_iff.1 ha).1
  obtain ⟨j, hj⟩ := h.at (List.getElem?_eq_some_iff.1 hb).1
  rcases Nat.lt_trichotomy i j with hij | rfl | hij
  · obtain ⟨u, v, hu, hv, huv⟩ := h.rel hij hi hj
    rw [ha] at hu
    rw [hb] at hv
    cases hu
    cases hv
    rw [hl.irr] at huv
    cases huv
  · rw [hi] at hj
    exact Option.some.inj hj
  · obtain ⟨u, v, hu, hv, huv⟩ := h.rel hij hj hi
    rw [hb] at hu
    rw [ha] at hv
    cases hu
    cases hv
    rw [hl.irr] at huv
    cases huv
/-- how a thing compares with the one at place j in order -/
def cAt (lt : τ → τ → Bool) (ts : List τ) (os : List Nat) (x : τ) (j : Nat) : Int := match os[j]? with
  | some k => (match ts[k]? with | some y => cmpT lt y x | none => 0)
  | none => 0
theorem cAt_eq {ts : List τ} {os : List Nat} {x y : τ} {j k : Nat} (h1 : os[j]? = some k) (h2 : ts[k]? = some y) : cAt lt ts os x j = cmpT lt y x := by
  unfold cAt
  rw [h1]
  simp only [h2]
theorem Tbl.get {ts : List τ} {os : List Nat} (h : Tbl lt ts os) {j : Nat} (hj : j < os.length) : ∃ k y, os[j]? = some k ∧ ts[k]? = some y := by
  have h1 : os[j]? = some os[j] := List.getElem?_eq_getElem hj
  exact ⟨_, _, h1, List.getElem?_eq_getElem (h.ltn h1)⟩
theorem Tbl.mono (hl : Lin lt) {ts : List τ} {os : List Nat} (h : Tbl lt ts os) (x : τ) : ∀ i j, i ≤ j → j < os.length → cAt lt ts os x j < 0 → cAt lt ts os x i < 0 := by
  intro i j hij hj hc
  rcases Nat.lt_or_eq_of_le hij with hlt | rfl
  · obtain ⟨a, u, ha, hu⟩ := h.get (j := i) (by omega)
    obtain ⟨b, v, hb, hv⟩ := h.get hj
    rw [cAt_eq hb hv, cmpT_neg] at hc
    rw [cAt_eq ha hu, cmpT_neg]
    obtain ⟨u', v', hu', hv', huv⟩ := h.rel hlt ha hb
    rw [hu] at hu'
    rw [hv] at hv'
    cases hu'
    cases hv'
    exact hl.tr _ _ _ huv hc
  · exact hc
/-- it is there -/
theorem Tbl.hit (hl : Lin lt) {ts : List τ} {os : List Nat} (h : Tbl lt ts os) {x : τ} {p : Nat} (hp : p < os.length) (hc : cAt lt ts os x p = 0) : ∃ k, os[p]? = some k ∧ ts[k]? = some x := by
  obtain ⟨k, y, h1, h2⟩ := h.get hp
  rw [cAt_eq h1 h2, cmpT_zero hl] at hc
  subst hc
  exact ⟨k, h1, h2⟩
/-- it is not there -/
theorem Tbl.miss (hl : Lin lt) {ts : List τ} {os : List Nat} (h : Tbl lt ts os) {x : τ} {p : Nat} (hs : Split os.length (cAt lt ts os x) p) (hc : ¬ (p < os.length ∧ cAt lt ts os x p = 0)) : x ∉ ts := by
  intro hx
  obtain ⟨k, hk⟩ := List.getElem?_of_mem hx
  obtain ⟨j, hj⟩ := h.at (List.getElem?_eq_some_iff.1 hk).1
  have hjl : j < os.length := (List.getElem?_eq_some_iff.1 hj).1
  have hz : cAt lt ts os x j = 0 := by rw [cAt_eq hj hk, cmpT_zero hl]
  have hpj : p ≤ j := by
    apply Classical.byContradiction
    intro hn
    have := hs.lo j (by omega)
    omega
  rcases Nat.lt_or_eq_of_le hpj with hlt | rfl
  · obtain ⟨a, u, ha, hu⟩ := h.get (j := p) (by omega)
    obtain ⟨u', v', hu', hv', huv⟩ := h.rel hlt ha hj
    rw [hu] at hu'
    rw [hk] at hv'
    cases hu'
    cases hv'
    have h1 := hs.hi p (Nat.le_refl _) (by omega)
    rw [cAt_eq ha hu] at h1
    have := cmpT_neg.2 huv
    omega
  · exact hc ⟨hjl, hz⟩
/-- a new thing -/
theorem Tbl.put (hl : Lin lt) {ts : List τ} {os : List Nat} (h : Tbl lt ts os) {x : τ} {p : Nat} (hs : Split os.length (cAt lt ts os x) p) (hc : ¬ (p < os.length ∧ cAt lt ts os x p = 0)) : Tbl lt (ts ++ [x]) (os.take p ++ [ts.length] ++ os.drop p) := by
  have hlen := h.len
  have ext : ∀ a b, relT lt ts a b → relT lt (ts ++ [x]) a b := by
    rintro a b ⟨u, v, hu, hv, huv⟩
    exact ⟨u, v, by rw [List.getElem?_append_left (List.getElem?_eq_some_iff.1 hu).1]; exact hu, by rw [List.getElem?_append_left (List.getElem?_eq_some_iff.1 hv).1]; exact hv, huv⟩
  have hnew : (ts ++ [x])[ts.length]? = some x := by simp
  refine ⟨?_, ?_⟩
  · rw [List.length_append, List.length_singleton, List.range_succ]
    have h1 : (os.take p ++ [ts.length] ++ os.drop p).Perm (os.take p ++ os.drop p ++ [ts.length]) := by
      rw [List.append_assoc, List.append_assoc]
      exact List.Perm.append_left _ List.perm_append_comm
    rw [List.take_append_drop] at h1
    exact h1.trans (h.perm.append_right _)
  · have hinc := h.inc
    rw [← List.take_append_drop p os, List.pairwise_append] at hinc
    obtain ⟨i1, i2, i3⟩ := hinc
    rw [List.append_assoc, List.pairwise_append]
    refine ⟨i1.imp (fun hab => ext _ _ hab), ?_, ?_⟩
    · rw [List.singleton_append, List.pairwise_cons]
      refine ⟨?_, i2.imp (fun hab => ext _ _ hab)⟩
      intro b hb
      obtain ⟨j, hj⟩ := List.getElem?_of_mem hb
      rw [List.getElem?_drop] at hj
      have hjl : p + j < os.length := (List.getElem?_eq_some_iff.1 hj).1
      have hv : ts[b]? = some (ts[b]'(h.ltn hj)) := List.getElem?_eq_getElem (h.ltn hj)
      have h0 := hs.hi (p + j) (by omega) hjl
      have hne : cAt lt ts os x (p + j) ≠ 0 := by
        intro hz
        have hmem : x ∈ ts := by
          rw [cAt_eq hj hv, cmpT_zero hl] at hz
          rw [← hz]
          exact List.getElem_mem _
        exact h.miss hl hs hc hmem
      rw [cAt_eq hj hv] at h0 hne
      refine ⟨x, _, hnew, by rw [List.getElem?_append_left (h.ltn hj)]; exact hv, ?_⟩
      unfold cmpT at h0 hne
      split at h0
      · simp at h0
      · split at hne
        · simp_all
        · split at hne
          · assumption
          · exact absurd rfl hne
    · intro a ha b hb
      rw [List.singleton_append, List.mem_cons] at hb
      rcases hb with rfl | hb
      · obtain ⟨j, hj⟩ := List.getElem?_of_mem ha
        rw [List.getElem?_take] at hj
        split at hj
        · rename_i hjp
          have hv : ts[a]? = some (ts[a]'(h.ltn hj)) := List.getElem?_eq_getElem (h.ltn hj)
          have h0 := hs.lo j hjp
          rw [cAt_eq hj hv, cmpT_neg] at h0
          exact ⟨_, x, by rw [List.getElem?_append_left (h.ltn hj)]; exact hv, hnew, h0⟩
        · cases hj
      · exact ext _ _ (i3 a ha b hb)
end
end Go.V

