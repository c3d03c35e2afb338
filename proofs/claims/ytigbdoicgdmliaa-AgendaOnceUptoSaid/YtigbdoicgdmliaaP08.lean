/- Things that wait, each once: plain words. -/
import Derived.Test.YtigbdoicgdmliaaV22
set_option linter.unusedVariables false
set_option linter.unusedSimpArgs false
namespace Go.V
noncomputable instance : DecidableEq ByteArray := fun a b => Classical.propDecidable _
noncomputable instance (x : ByteArray) (m : List ByteArray) : Decidable (x ∈ m) := Classical.propDecidable _
section
variable {τ : Type} {ts : List τ} {ws : List Bool} {qs : List Nat}
/-- all that ever came, of each whether it waits, the numbers of those that wait -/
structure AgOk (ts : List τ) (ws : List Bool) (qs : List Nat) : Prop where
  len : ws.length = ts.length
  lt : ∀ q ∈ qs, q < ts.length
  nd : qs.Nodup
  w : ∀ n b, ws[n]? = some b → (b = true ↔ n ∈ qs)
theorem AgOk.nil : AgOk ([] : List τ) [] [] := ⟨rfl, by simp, List.nodup_nil, by simp⟩
theorem rise_mem' (hu : ∀ (a b : Nat) (x : τ), ts[a]? = some x → ts[b]? = some x → a = b) {n : Nat} {x : τ} (hx : ts[n]? = some x) : x ∈ riseL ts qs ↔ n ∈ qs := by
  unfold riseL
  rw [List.mem_filterMap]
  constructor
  · rintro ⟨k, hk, hk2⟩
    rw [hu _ _ _ hx hk2]
    exact hk
  · intro h
    exact ⟨n, h, hx⟩
theorem rise_in {x : τ} (h : x ∈ riseL ts qs) : x ∈ ts := by
  unfold riseL at h
  obtain ⟨k, _, hk⟩ := List.mem_filterMap.1 h
  exact List.mem_of_getElem? hk
theorem rise_map : ∀ {qs : List Nat}, (∀ q ∈ qs, q < ts.length) → (riseL ts qs).map some = qs.map (ts[·]?)
  | [], _ => rfl
  | q :: qs, h => by
    have hq : ts[q]? = some (ts[q]'(h q List.mem_cons_self)) := List.getElem?_eq_getElem _
    unfold riseL
    rw [List.filterMap_cons, hq]
    simp only [List.map_cons]
    rw [hq]
    congr 1
    exact rise_map fun k hk => h k (List.mem_cons_of_mem _ hk)
theorem rise_len' (h : ∀ q ∈ qs, q < ts.length) : (riseL ts qs).length = qs.length := by
  have := congrArg List.length (rise_map h)
  simpa using this
theorem rise_get (h : ∀ q ∈ qs, q < ts.length) {i n : Nat} {x : τ} (hi : qs[i]? = some n) (hx : ts[n]? = some x) : (riseL ts qs)[i]? = some x := by
  have h1 := congrArg (fun l => l[i]?) (rise_map h)
  simp only [List.getElem?_map, hi, Option.map_some, hx] at h1
  cases hr : (riseL ts qs)[i]? with
  | none => rw [hr] at h1; cases h1
  | some y => rw [hr] at h1; simpa using h1
theorem map_erase {α β : Type} (f : α → β) : ∀ (l : List α) (i : Nat), (l.eraseIdx i).map f = (l.map f).eraseIdx i
  | [], i => by simp
  | a :: l, 0 => by simp
  | a :: l, i + 1 => by simp [map_erase f l i]
theorem nodup_inj {l : List Nat} (h : l.Nodup) {i j n : Nat} (hi : l[i]? = some n) (hj : l[j]? = some n) : i = j := by
  obtain ⟨h1, e1⟩ := List.getElem?_eq_some_iff.1 hi
  obtain ⟨h2, e2⟩ := List.getElem?_eq_some_iff.1 hj
  unfold List.Nodup at h
  rw [List.pairwise_iff_getElem] at h
  rcases Nat.lt_trichotomy i j with hij | hij | hij
  · exact absurd (e1.trans e2.symm) (h i j h1 h2 hij)
  · exact hij
  · exact absurd (e2.trans e1.symm) (h j i h2 h1 hij)
theorem rise_erase (h : ∀ q ∈ qs, q < ts.length) (i : Nat) : riseL ts (qs.eraseIdx i) = (riseL ts qs).eraseIdx i := by
  have h2 : ∀ q ∈ qs.eraseIdx i, q < ts.length := fun q hq => h q (List.mem_of_mem_eraseIdx hq)
  have e : (riseL ts (qs.eraseIdx i)).map some = ((riseL ts qs).eraseIdx i).map some := by
    rw [rise_map h2, map_erase, map_erase, rise_map h]
  exact (List.map_inj_right (fun a b h => Option.some.inj h)).1 e
theorem rise_snoc {n : Nat} {x : τ} (hx : ts[n]? = some x) : riseL ts (qs ++ [n]) = riseL ts qs ++ [x] := by
  unfold riseL
  rw [List.filterMap_append]
  simp [hx]
theorem rise_grow (h : ∀ q ∈ qs, q < ts.length) (x : τ) : riseL (ts ++ [x]) qs = riseL ts qs := by
  unfold riseL
  have : ∀ {qs : List Nat}, (∀ q ∈ qs, q < ts.length) → qs.filterMap (fun k => (ts ++ [x])[k]?) = qs.filterMap (fun k => ts[k]?) := by
    intro qs
    induction qs with
    | nil => intro _; rfl
    | cons q qs ih =>
      intro h
      rw [List.filterMap_cons, List.filterMap_cons, List.getElem?_append_left (h q List.mem_cons_self), ih fun k hk => h k (List.mem_cons_of_mem _ hk)]
  exact this h
theorem AgOk.grow (h : AgOk ts ws qs) (x : τ) : AgOk (ts ++ [x]) (ws ++ [false]) qs := by
  refine ⟨by simp [h.len], fun q hq => by have := h.lt q hq; rw [List.length_append]; omega, h.nd, fun n b hb => ?_⟩
  rcases Nat.lt_or_ge n ws.length with hn | hn
  · rw [List.getElem?_append_left hn] at hb
    exact h.w n b hb
  · rw [List.getElem?_append_right hn] at hb
    have hn0 : n - ws.length = 0 := by have := (List.getElem?_eq_some_iff.1 hb).1; simp at this; omega
    rw [hn0] at hb
    simp only [List.getElem?_cons_zero, Option.some.injEq] at hb
    subst hb
    constructor
    · intro h; cases h
    · intro hq
      have := h.lt n hq
      have := h.len
      omega
theorem AgOk.push (h : AgOk ts ws qs) {n : Nat} (hn : ws[n]? = some false) : AgOk ts (ws.set n true) (qs ++ [n]) := by
  have hnl := (List.getElem?_eq_some_iff.1 hn).1
  have hnq : n ∉ qs := fun hq => by have := (h.w n false hn).2 hq; cases this
  refine ⟨by rw [List.length_set]; exact h.len, fun q hq => ?_, ?_, fun m b hb => ?_⟩
  · rcases List.mem_append.1 hq with hq | hq
    · exact h.lt q hq
    · rw [List.mem_singleton.1 hq, ← h.len]; exact hnl
  · rw [List.nodup_append]
    refine ⟨h.nd, by simp, fun a ha b hb => ?_⟩
    rw [List.mem_singleton.1 hb]
    rintro rfl
    exact hnq ha
  · rw [List.mem_append, List.mem_singleton]
    by_cases hm : m = n
    · subst hm
      rw [List.getElem?_set_self hnl] at hb
      cases hb
      simp
    · rw [List.getElem?_set_ne (Ne.symm hm)] at hb
      rw [h.w m b hb]
      simp [hm]
theorem AgOk.take (h : AgOk ts ws qs) {i n : Nat} (hi : qs[i]? = some n) : AgOk ts (ws.set n false) (qs.eraseIdx i) := by
  have hnl : n < ws.length := by rw [h.len]; exact h.lt n (List.mem_of_getElem? hi)
  obtain ⟨hil, hie⟩ := List.getElem?_eq_some_iff.1 hi
  have hno : n ∉ qs.eraseIdx i := by
    intro hm
    rw [List.mem_eraseIdx_iff_getElem?] at hm
    obtain ⟨j, hji, e⟩ := hm
    exact hji (nodup_inj h.nd e hi)
  refine ⟨by rw [List.length_set]; exact h.len, fun q hq => h.lt q (List.mem_of_mem_eraseIdx hq), h.nd.sublist (List.eraseIdx_sublist _ _), fun m b hb => ?_⟩
  by_cases hm : m = n
  · subst hm
    rw [List.getElem?_set_self hnl] at hb
    cases hb
    simp [hno]
  · rw [List.getElem?_set_ne (Ne.symm hm)] at hb
    rw [h.w m b hb]
    constructor
    · intro hq
      obtain ⟨j, hj⟩ := List.getElem?_of_mem hq
      rw [List.mem_eraseIdx_iff_getElem?]
      refine ⟨j, fun e => ?_, hj⟩
      subst e
      rw [hi] at hj
      cases hj
      exact hm rfl
    · exact fun hq => List.mem_of_mem_eraseIdx hq
/-- what a number picks among so many -/
def pickN (n : Int) (len : Nat) : Nat := ((n % 18446744073709551616) % (len : Int)).toNat
theorem pick_lt {n : Int} {len : Nat} (h : 0 < len) : pickN n len < len := by
  unfold pickN
  have h1 := Int.emod_lt_of_pos (n % 18446744073709551616) (show (0 : Int) < len by omega)
  have h2 := Int.emod_nonneg (n % 18446744073709551616) (show (len : Int) ≠ 0 by omega)
  omega
end
end Go.V

