/- What is put is taken again, and in one way alone: plain words. -/
import Derived.Test.YtigbdoicgdmliaaP02
set_option linter.unusedVariables false
set_option linter.unusedSimpArgs false
namespace Go.Proofs.Ytigbdoicgdmliaa.P02
open Go Go.V Go.Proofs
theorem u8n {n : Nat} (h : n < 256) : n.toUInt8.toNat = n := by
  rw [Nat.toUInt8, UInt8.toNat_ofNat']
  omega
theorem look_numB : ∀ (m n k acc : Nat) (rest : List UInt8), n ≤ m → acc < 128 ^ k → acc + n * 128 ^ k ≤ 268435456 → (0 < n ∨ k = 0) → k ≤ 4 → lookL k acc (numB n ++ rest) = (acc + n * 128 ^ k, k + (numB n).length, 0) := by
  intro m
  induction m with
  | zero =>
    intro n k acc rest hm ha hs hz hk
    have hn : n = 0 := by omega
    subst hn
    have hk0 : k = 0 := by omega
    subst hk0
    have ha0 : acc = 0 := by simpa using ha
    subst ha0
    rw [numB_lt (by omega)]
    rfl
  | succ m ih =>
    intro n k acc rest hm ha hs hz hk
    have p4 : (128 : Nat) ^ 4 = 268435456 := by decide
    by_cases h : n < 128
    · rw [numB_lt h, List.singleton_append, lookL, u8n (by omega)]
      have h1 : ¬ (k = 4 ∧ 1 < n) := by
        rintro ⟨rfl, h1⟩
        rw [p4] at hs ha
        omega
      rw [if_neg h1, if_neg (by omega), if_neg (by omega), Nat.mod_eq_of_lt h, if_neg (by omega)]
      rfl
    · have hk4 : k ≠ 4 := by
        rintro rfl
        rw [p4] at hs
        omega
      rw [numB_ge h, List.cons_append, lookL, u8n (by omega), if_neg (fun h => hk4 h.1), if_pos (by omega)]
      have e1 : (n % 128 + 128) % 128 = n % 128 := by omega
      have e2 : n % 128 * 128 ^ k + n / 128 * 128 ^ (k + 1) = n * 128 ^ k := by
        rw [Nat.pow_succ, Nat.mul_comm (128 ^ k) 128, ← Nat.mul_assoc, ← Nat.add_mul]
        congr 1
        omega
      have e3 : n % 128 * 128 ^ k ≤ 127 * 128 ^ k := Nat.mul_le_mul_right _ (by omega)
      have e4 : (128 : Nat) ^ (k + 1) = 128 ^ k * 128 := Nat.pow_succ _ _
      rw [e1, ih (n / 128) (k + 1) _ rest (by omega) (by omega) (by omega) (.inl (by omega)) (by omega)]
      simp only [List.length_cons, Prod.mk.injEq, and_true]
      omega
theorem look_numB0 {n : Nat} (h : n ≤ 268435456) (rest : List UInt8) : lookL 0 0 (numB n ++ rest) = (n, (numB n).length, 0) := by
  have := look_numB n n 0 0 rest (Nat.le_refl _) (by decide) (by omega) (.inr rfl) (by omega)
  simpa using this
/-- the other way round -/
theorem look_inv : ∀ (l : List UInt8) (k acc : Nat), acc < 128 ^ k → (lookL k acc l).2.2 = 0 → ∃ n, (lookL k acc l).1 = acc + n * 128 ^ k ∧ k ≤ (lookL k acc l).2.1 ∧ l.take ((lookL k acc l).2.1 - k) = numB n ∧ (0 < n ∨ k = 0)
  | [], k, acc, ha, h => by simp [lookL] at h
  | c :: l, k, acc, ha, h => by
    have h256 := c.toNat_lt
    have hc : c.toNat.toUInt8 = c := by simp
    unfold lookL at h ⊢
    split at h
    · cases h
    · rename_i h1
      rw [if_neg h1]
      split at h
      · rename_i h2
        rw [if_pos h2]
        have e3 : c.toNat % 128 * 128 ^ k ≤ 127 * 128 ^ k := Nat.mul_le_mul_right _ (by omega)
        have e4 : (128 : Nat) ^ (k + 1) = 128 ^ k * 128 := Nat.pow_succ _ _
        obtain ⟨n, i1, i2, i3, i4⟩ := look_inv l (k + 1) _ (by omega) h
        generalize lookL (k + 1) (acc + c.toNat % 128 * 128 ^ k) l = L at *
        have hn : 0 < n := by omega
        refine ⟨n * 128 + c.toNat % 128, ?_, by omega, ?_, .inl (by omega)⟩
        · rw [i1, e4, Nat.add_mul, Nat.mul_comm (128 ^ k) 128, ← Nat.mul_assoc]
          omega
        · have e5 : L.2.1 - k = (L.2.1 - (k + 1)) + 1 := by omega
          rw [e5, List.take_succ_cons, i3, numB_ge (n := n * 128 + c.toNat % 128) (by omega)]
          have d1 : (n * 128 + c.toNat % 128) % 128 + 128 = c.toNat := by omega
          have d2 : (n * 128 + c.toNat % 128) / 128 = n := by omega
          rw [d1, d2, hc]
      · rename_i h2
        rw [if_neg h2]
        split at h
        · cases h
        · rename_i h3
          rw [if_neg h3]
          split at h
          · cases h
          · rename_i h4
            rw [if_neg h4]
            have hm : c.toNat % 128 = c.toNat := by omega
            refine ⟨c.toNat, by simp only [hm], by simp, ?_, by omega⟩
            have : k + 1 - k = 1 := by omega
            simp only [this, List.take_succ_cons, List.take_zero]
            rw [numB_lt (by omega), hc]

/-- what is put: a number, or a text -/
abbrev Put := Bool × Int × ByteArray
def putP (s : St) (p : Put) : St := if p.1 then putT s p.2.2 else putN s p.2.1
def encP (p : Put) : List UInt8 := if p.1 then numB p.2.2.size ++ p.2.2.data.toList else numB p.2.1.toNat
def okP (p : Put) : Prop := if p.1 then p.2.2.size ≤ 200000 else 0 ≤ p.2.1 ∧ p.2.1 ≤ 268435456
theorem putP_ok {s : St} {p : Put} (h : (putP s p).2 = 0) : s.2 = 0 ∧ okP p ∧ (putP s p).1 = s.1 ++ encP p := by
  unfold putP at h ⊢
  unfold okP encP
  split at h
  · rename_i hp
    simp only [hp, if_true]
    unfold putT at h ⊢
    by_cases h0 : s.2 = 0
    · by_cases h1 : 200000 < p.2.2.size
      · simp [h0, h1] at h
      · simp only [h0, h1, ne_eq, not_true_eq_false, if_false, List.append_assoc, and_true, true_and]
        omega
    · simp [h0] at h
  · rename_i hp
    have hp' : p.1 = false := by simpa using hp
    simp only [hp', Bool.false_eq_true, if_false]
    unfold putN at h ⊢
    by_cases h0 : s.2 = 0
    · by_cases h1 : p.2.1 < 0 ∨ 268435456 < p.2.1
      · simp [h0, h1] at h
      · simp only [h0, h1, ne_eq, not_true_eq_false, if_false, and_true, true_and]
        omega
    · simp [h0] at h
theorem foldl_ok : ∀ (xs : List Put) (s : St), (xs.foldl putP s).2 = 0 → s.2 = 0 ∧ (∀ p ∈ xs, okP p) ∧ (xs.foldl putP s).1 = s.1 ++ xs.flatMap encP
  | [], s, h => ⟨h, by simp, by simp⟩
  | p :: xs, s, h => by
    rw [List.foldl_cons] at h ⊢
    obtain ⟨h1, h2, h3⟩ := foldl_ok xs _ h
    obtain ⟨k1, k2, k3⟩ := putP_ok h1
    refine ⟨k1, ?_, ?_⟩
    · intro q hq
      rcases List.mem_cons.1 hq with rfl | hq
      · exact k2
      · exact h2 q hq
    · rw [h3, k3, List.flatMap_cons, List.append_assoc]

/-- a number is taken again -/
theorem num_again {s : ByteArray} {at_ n : Nat} {rest : List UInt8} (h : s.data.toList.drop at_ = numB n ++ rest) (hn : n ≤ 268435456) : numM (s, at_, 0) = (n, (s, at_ + (numB n).length, 0)) := by
  have hl : lookL 0 0 (restL (s, at_, 0)) = (n, (numB n).length, 0) := by
    show lookL 0 0 (s.data.toList.drop at_) = _
    rw [h]
    exact look_numB0 hn rest
  unfold numM takeM
  simp [hl]
theorem extract_eq {s t : ByteArray} {a : Nat} {pre post : List UInt8} (h : s.data.toList = pre ++ (t.data.toList ++ post)) (ha : a = pre.length) : s.extract a (a + t.size) = t := by
  apply ByteArray.ext
  apply Array.ext'
  have ht : t.size = t.data.toList.length := by simp
  rw [ByteArray.data_extract, Array.toList_extract, List.extract_eq_take_drop, h, ha, List.drop_left, Nat.add_sub_cancel_left, ht, List.take_left]
theorem text_again {s t : ByteArray} {at_ : Nat} {pre rest : List UInt8} (h : s.data.toList = pre ++ (numB t.size ++ (t.data.toList ++ rest))) (ha : at_ = pre.length) (hn : t.size ≤ 268435456) :
    textM (s, at_, 0) = (t, (s, at_ + (numB t.size).length + t.size, 0)) := by
  have hl : lookL 0 0 (restL (s, at_, 0)) = (t.size, (numB t.size).length, 0) := by
    show lookL 0 0 (s.data.toList.drop at_) = _
    rw [h, ha, List.drop_left]
    exact look_numB0 hn _
  have hs : s.size = pre.length + ((numB t.size).length + (t.size + rest.length)) := by
    have e1 : s.size = s.data.toList.length := by simp
    have e2 : t.size = t.data.toList.length := by simp
    rw [e1, h]
    simp
  have hx : s.extract (at_ + (numB t.size).length) (at_ + (numB t.size).length + t.size) = t :=
    extract_eq (pre := pre ++ numB t.size) (post := rest) (by rw [h]; simp) (by simp [ha])
  have hc : ¬ s.size - at_ - (numB t.size).length < t.size := by omega
  unfold textM takeM
  simp [hl, hc, hx]
theorem num_zero {s : ByteArray} {a : Nat} (h : (numM (s, a, 0)).2.2.2 = 0) : (lookL 0 0 (s.data.toList.drop a)).2.2 = 0 ∧ numM (s, a, 0) = ((lookL 0 0 (s.data.toList.drop a)).1, (s, a + (lookL 0 0 (s.data.toList.drop a)).2.1, 0)) := by
  by_cases h1 : (lookL 0 0 (s.data.toList.drop a)).2.2 = 0
  · simp [numM, takeM, restL, h1]
  · simp [numM, takeM, restL, h1] at h
theorem text_zero {s : ByteArray} {a : Nat} (h : (textM (s, a, 0)).2.2.2 = 0) : (lookL 0 0 (s.data.toList.drop a)).2.2 = 0 ∧ (lookL 0 0 (s.data.toList.drop a)).1 ≤ s.size - a - (lookL 0 0 (s.data.toList.drop a)).2.1 ∧
    textM (s, a, 0) = (s.extract (a + (lookL 0 0 (s.data.toList.drop a)).2.1) (a + (lookL 0 0 (s.data.toList.drop a)).2.1 + (lookL 0 0 (s.data.toList.drop a)).1), (s, a + (lookL 0 0 (s.data.toList.drop a)).2.1 + (lookL 0 0 (s.data.toList.drop a)).1, 0)) := by
  by_cases h1 : (lookL 0 0 (s.data.toList.drop a)).2.2 = 0
  · by_cases h2 : s.size - a - (lookL 0 0 (s.data.toList.drop a)).2.1 < (lookL 0 0 (s.data.toList.drop a)).1
    · simp [textM, takeM, restL, h1, h2] at h
    · refine ⟨h1, by omega, ?_⟩
      simp [textM, takeM, restL, h1, h2]
  · simp [textM, takeM, restL, h1] at h
/-- whatever is taken as one number and one text is what these put -/
theorem one_way {s : ByteArray} (h0 : (numM (s, 0, 0)).2.2.2 = 0) (h1 : (textM (numM (s, 0, 0)).2).2.2.2 = 0) (h2 : (textM (numM (s, 0, 0)).2).2.2.1 = s.size) :
    numB (numM (s, 0, 0)).1 ++ numB (textM (numM (s, 0, 0)).2).1.size ++ (textM (numM (s, 0, 0)).2).1.data.toList = s.data.toList ∧ (numM (s, 0, 0)).1 ≤ 268435456 ∧ (textM (numM (s, 0, 0)).2).1.size ≤ s.size := by
  obtain ⟨a1, a2⟩ := num_zero h0
  rw [a2] at h1 h2 ⊢
  simp only [Nat.zero_add] at h1 h2 ⊢
  have k1 := (lookL_ok (s.data.toList.drop 0) 0 0 (by omega)).1 a1
  obtain ⟨n, i1, _, i3, _⟩ := look_inv (s.data.toList.drop 0) 0 0 (by decide) a1
  generalize lookL 0 0 (s.data.toList.drop 0) = L at *
  obtain ⟨b1, b2, b3⟩ := text_zero h1
  rw [b3] at h2 ⊢
  simp only at h2 ⊢
  have k2 := (lookL_ok (s.data.toList.drop L.2.1) 0 0 (by omega)).1 b1
  obtain ⟨m, j1, _, j3, _⟩ := look_inv (s.data.toList.drop L.2.1) 0 0 (by decide) b1
  generalize lookL 0 0 (s.data.toList.drop L.2.1) = M at *
  have hlen : s.data.toList.length = s.size := by simp
  simp only [List.drop_zero, Nat.pow_zero, Nat.mul_one, Nat.zero_add, Nat.sub_zero] at *
  have ht : (s.extract (L.2.1 + M.2.1) (L.2.1 + M.2.1 + M.1)).data.toList = s.data.toList.drop (L.2.1 + M.2.1) := by
    rw [ByteArray.data_extract, Array.toList_extract, List.extract_eq_take_drop, List.take_of_length_le]
    rw [List.length_drop, hlen]
    omega
  have hsz : (s.extract (L.2.1 + M.2.1) (L.2.1 + M.2.1 + M.1)).size = M.1 := by
    rw [ByteArray.size_extract]
    omega
  refine ⟨?_, by omega, by rw [hsz]; omega⟩
  rw [ht, hsz, i1, ← i3, j1, ← j3]
  have e : s.data.toList.drop (L.2.1 + M.2.1) = (s.data.toList.drop L.2.1).drop M.2.1 := by rw [List.drop_drop]
  rw [e, List.append_assoc, List.take_append_drop, List.take_append_drop]
end Go.Proofs.Ytigbdoicgdmliaa.P02

