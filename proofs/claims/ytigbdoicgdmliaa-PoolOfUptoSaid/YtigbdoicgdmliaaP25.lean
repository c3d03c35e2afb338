/- A pool in bytes and back: plain words. -/
import Derived.Test.YtigbdoicgdmliaaC25C
import Derived.Test.YtigbdoicgdmliaaP02B
set_option linter.unusedVariables false
set_option linter.unusedSimpArgs false
namespace Go.Proofs.Ytigbdoicgdmliaa.C25
open Go Go.V Go.Proofs Go.Proofs.Ytigbdoicgdmliaa.P02
/-! ### what was written is read -/
theorem wr0 (s : ByteArray) (a : Nat) : wr (s, a, 0) = 0 := by
  have e : rdoneM (s, a, 0) = if a < s.size then (a, 6) else (a, 0) := by
    unfold rdoneM
    simp
  unfold wr
  rw [e]
  by_cases h : a < s.size
  · rw [if_pos h]; simp
  · rw [if_neg h]; simp
theorem fail0 (r : P02.Rd) (h : r.2.2 = 0) : failM r 0 = r := by
  obtain ⟨s, a, e⟩ := r
  have : e = 0 := h
  subst this
  rfl
theorem next_again {last x : List UInt8} {first : Bool} (hx : x.length ≤ 1000) (hr : first = false → ltL last x = true) : nextL last (shL last x) (x.drop (shL last x)) first = (x, 0) := by
  obtain ⟨h1, h2, h3⟩ := shL_le last x
  have e : last.take (shL last x) ++ x.drop (shL last x) = x := by rw [h3, List.take_append_drop]
  unfold nextL
  rw [if_neg (by omega), e, if_neg (by omega), if_neg, if_neg (by simp)]
  rintro ⟨hf, h | h⟩
  · have := linL.tr _ _ _ (hr hf) h
    rw [linL.irr] at this
    cases this
  · have := hr hf
    rw [h, linL.irr] at this
    cases this
theorem last_lt {acc : List (List UInt8)} {x : List UInt8} {q : List (List UInt8)} (hr : Rising ltL (acc ++ x :: q)) (hne : acc.isEmpty = false) : ltL (acc.getLastD []) x = true := by
  unfold Rising at hr
  rw [List.pairwise_append] at hr
  refine hr.2.2 _ ?_ _ List.mem_cons_self
  have hne' : acc ≠ [] := fun e => by rw [e] at hne; cases hne
  rw [List.getLastD_eq_getLast?, List.getLast?_eq_some_getLast hne']
  exact List.getLast_mem hne'
theorem rd_written {s : ByteArray} {more : List UInt8} : ∀ (q acc : List (List UInt8)) (pre : List UInt8), s.data.toList = pre ++ (bodyL (acc.getLastD []) q ++ more) → Rising ltL (acc ++ q) → (∀ x ∈ q, x.length ≤ 1000) → (acc.getLastD []).length ≤ 1000 →
    rdL q.length acc (s, pre.length, 0) = (acc ++ q, (s, pre.length + (bodyL (acc.getLastD []) q).length, 0))
  | [], acc, pre, _, _, _, _ => by simp [rdL, bodyL]
  | x :: q, acc, pre, hs, hr, hlen, hlast => by
    obtain ⟨h1, h2, h3⟩ := shL_le (acc.getLastD []) x
    have hx := hlen x List.mem_cons_self
    rw [bodyL] at hs
    have hn : numM (s, pre.length, 0) = (shL (acc.getLastD []) x, (s, pre.length + (numB (shL (acc.getLastD []) x)).length, 0)) :=
      num_again (rest := numB (x.length - shL (acc.getLastD []) x) ++ (x.drop (shL (acc.getLastD []) x) ++ bodyL x q) ++ more) (by rw [hs, List.drop_left]; simp only [List.append_assoc]) (by omega)
    have hsz : (str (x.drop (shL (acc.getLastD []) x))).size = x.length - shL (acc.getLastD []) x := by rw [str_size, List.length_drop]
    have ht : textM (s, pre.length + (numB (shL (acc.getLastD []) x)).length, 0) = (str (x.drop (shL (acc.getLastD []) x)), (s, pre.length + (numB (shL (acc.getLastD []) x)).length + (numB (x.length - shL (acc.getLastD []) x)).length + (x.length - shL (acc.getLastD []) x), 0)) := by
      have := text_again (s := s) (t := str (x.drop (shL (acc.getLastD []) x))) (at_ := pre.length + (numB (shL (acc.getLastD []) x)).length) (pre := pre ++ numB (shL (acc.getLastD []) x)) (rest := bodyL x q ++ more) (by
        rw [hs, str_data, hsz]
        simp only [List.append_assoc]) (by rw [List.length_append]) (by rw [hsz]; omega)
      rw [hsz] at this
      exact this
    rw [List.length_cons, rdL, wr0, if_neg (by simp), hn]
    simp only
    rw [ht]
    simp only
    rw [wr0, if_neg (by simp), str_data, next_again hx (fun h => last_lt hr h), fail0 _ rfl]
    have hr2 : Rising ltL ((acc ++ [x]) ++ q) := by rw [List.append_assoc]; exact hr
    have hgl : (acc ++ [x]).getLastD [] = x := by rw [List.getLastD_concat]
    have ih := rd_written (more := more) q (acc ++ [x]) (pre ++ (numB (shL (acc.getLastD []) x) ++ (numB (x.length - shL (acc.getLastD []) x) ++ x.drop (shL (acc.getLastD []) x)))) (by
      rw [hs, hgl]
      simp only [List.append_assoc]) hr2 (fun y hy => hlen y (List.mem_cons_of_mem _ hy)) (by rw [hgl]; exact hx)
    rw [hgl] at ih
    simp only [List.length_append, List.length_drop] at ih
    rw [show pre.length + (numB (shL (acc.getLastD []) x)).length + (numB (x.length - shL (acc.getLastD []) x)).length + (x.length - shL (acc.getLastD []) x) = pre.length + ((numB (shL (acc.getLastD []) x)).length + ((numB (x.length - shL (acc.getLastD []) x)).length + (x.length - shL (acc.getLastD []) x))) by omega]
    rw [ih, bodyL]
    simp only [List.append_assoc, List.length_append, List.length_drop, List.cons_append, List.nil_append]
    congr 3
    omega
theorem read_written {ts : List (List UInt8)} {more : List UInt8} (hr : Rising ltL ts) (hlen : ∀ x ∈ ts, x.length ≤ 1000) (hn : ts.length ≤ 6000) :
    readP (str (bytesL ts ++ more), 0, 0) = (ts, (str (bytesL ts ++ more), (bytesL ts).length, 0)) := by
  have h1 : numM (str (bytesL ts ++ more), 0, 0) = (ts.length, (str (bytesL ts ++ more), 0 + (numB ts.length).length, 0)) :=
    num_again (rest := bodyL [] ts ++ more) (by rw [str_data, List.drop_zero]; unfold bytesL; rw [List.append_assoc]) (by omega)
  unfold readP
  rw [h1]
  simp only
  rw [if_neg (by omega)]
  have := rd_written (s := str (bytesL ts ++ more)) (more := more) ts [] (numB ts.length) (by rw [str_data]; unfold bytesL; rw [List.append_assoc]; rfl) (by simpa using hr) hlen (Nat.zero_le _)
  rw [Nat.zero_add, this]
  unfold bytesL
  rw [List.nil_append, List.length_append]
  rfl
/-! ### what is read is what is written -/
theorem look6 : ∀ (l : List UInt8) (k n : Nat), (lookL k n l).2.2 ≠ 6
  | [], _, _ => by simp [lookL]
  | c :: l, k, n => by
    unfold lookL
    split
    · simp
    · split
      · exact look6 l _ _
      · split
        · simp
        · split <;> simp
theorem take6 {ρ : Nat → Nat} {r : P02.Rd} (h : r.2.2 ≠ 6) : (takeM ρ r).2.2.2 ≠ 6 := by
  by_cases h0 : r.2.2 = 0
  · by_cases h1 : (lookL 0 0 (restL r)).2.2 = 0
    · by_cases h2 : r.1.size - r.2.1 - (lookL 0 0 (restL r)).2.1 < ρ (lookL 0 0 (restL r)).1
      · rw [C02R.takeM_bad h0 (e := 1) (by rw [if_pos ⟨h1, h2⟩]) (by decide)]
        simp
      · rw [C02R.takeM_good h0 h1 h2]
        simp
    · rw [C02R.takeM_bad h0 (e := (lookL 0 0 (restL r)).2.2) (by rw [if_neg (by rintro ⟨h', _⟩; exact h1 h')]) h1]
      exact look6 _ _ _
  · rw [C02R.takeM_err h0]
    exact h
theorem num6 {r : P02.Rd} (h : r.2.2 ≠ 6) : (numM r).2.2.2 ≠ 6 := take6 h
theorem text6 {r : P02.Rd} (h : r.2.2 ≠ 6) : (textM r).2.2.2 ≠ 6 := take6 h
theorem next6 (last : List UInt8) (n : Nat) (rest : List UInt8) (first : Bool) : (nextL last n rest first).2 ≠ 6 := by
  unfold nextL
  split
  · simp
  · split
    · simp
    · split
      · simp
      · split <;> simp
theorem fail6 {r : P02.Rd} {e : Int} (h : r.2.2 ≠ 6) (he : e ≠ 6) : (failM r e).2.2 ≠ 6 := by
  unfold failM
  split
  · exact he
  · exact h
theorem wr_zero {r : P02.Rd} (h : r.2.2 ≠ 6) : wr r = 0 ↔ r.2.2 = 0 := by
  obtain ⟨s, a, e⟩ := r
  constructor
  · intro hw
    by_cases h0 : e = 0
    · exact h0
    · have e1 : rdoneM (s, a, e) = (a, e) := by
        unfold rdoneM
        simp [h0]
      unfold wr at hw
      rw [e1] at hw
      rw [if_pos h] at hw
      exact absurd hw h0
  · intro h0
    have : e = 0 := h0
    subst this
    exact wr0 s a
theorem rd_err : ∀ (k : Nat) (acc : List (List UInt8)) (r : P02.Rd), r.2.2 ≠ 0 → r.2.2 ≠ 6 → (rdL k acc r).2 = r
  | 0, _, _, _, _ => rfl
  | k + 1, acc, r, h, h6 => by
    rw [rdL, if_pos (fun hw => h ((wr_zero h6).1 hw))]
theorem num_fwd {s : ByteArray} {a : Nat} (ha : a ≤ s.size) (h : (numM (s, a, 0)).2.2.2 = 0) : ∃ n a', numM (s, a, 0) = (n, (s, a', 0)) ∧ n ≤ 268435456 ∧ a' ≤ s.size ∧ s.data.toList.take a' = s.data.toList.take a ++ numB n := by
  obtain ⟨a1, a2⟩ := num_zero h
  have k1 := (lookL_ok (s.data.toList.drop a) 0 0 (by omega)).1 a1
  obtain ⟨n, i1, _, i3, _⟩ := look_inv (s.data.toList.drop a) 0 0 (by decide) a1
  rw [a2]
  generalize lookL 0 0 (s.data.toList.drop a) = L at *
  have hlen : s.data.toList.length = s.size := by simp
  rw [List.length_drop] at k1
  simp only [Nat.pow_zero, Nat.mul_one, Nat.zero_add, Nat.sub_zero] at i1 i3
  refine ⟨_, _, rfl, k1.1, by omega, ?_⟩
  rw [i1, ← i3, List.take_add]
theorem text_fwd {s : ByteArray} {a : Nat} (ha : a ≤ s.size) (h : (textM (s, a, 0)).2.2.2 = 0) : ∃ t a', textM (s, a, 0) = (t, (s, a', 0)) ∧ a' ≤ s.size ∧ s.data.toList.take a' = s.data.toList.take a ++ (numB t.size ++ t.data.toList) := by
  obtain ⟨b1, b2, b3⟩ := text_zero h
  have k2 := (lookL_ok (s.data.toList.drop a) 0 0 (by omega)).1 b1
  obtain ⟨m, j1, _, j3, _⟩ := look_inv (s.data.toList.drop a) 0 0 (by decide) b1
  rw [b3]
  generalize lookL 0 0 (s.data.toList.drop a) = M at *
  have hlen : s.data.toList.length = s.size := by simp
  rw [List.length_drop] at k2
  simp only [Nat.pow_zero, Nat.mul_one, Nat.zero_add, Nat.sub_zero] at j1 j3
  refine ⟨_, _, rfl, by omega, ?_⟩
  have hsz : (s.extract (a + M.2.1) (a + M.2.1 + M.1)).size = M.1 := by
    rw [ByteArray.size_extract]
    omega
  have ht : (s.extract (a + M.2.1) (a + M.2.1 + M.1)).data.toList = (s.data.toList.drop (a + M.2.1)).take M.1 := by
    rw [ByteArray.data_extract, Array.toList_extract, List.extract_eq_take_drop, Nat.add_sub_cancel_left]
  rw [hsz, ht, List.take_add, List.take_add, List.append_assoc, ← List.drop_drop, j3, j1]
theorem next_zero {last rest : List UInt8} {n : Nat} {first : Bool} (h : (nextL last n rest first).2 = 0) : n ≤ last.length ∧ (nextL last n rest first).1 = last.take n ++ rest ∧ (last.take n ++ rest).length ≤ 1000 ∧ shL last (last.take n ++ rest) = n := by
  unfold nextL at h ⊢
  by_cases h1 : last.length < n
  · rw [if_pos h1] at h; cases h
  rw [if_neg h1] at h ⊢
  by_cases h2 : 1000 < (last.take n ++ rest).length
  · rw [if_pos h2] at h; cases h
  rw [if_neg h2] at h ⊢
  by_cases h3 : first = false ∧ (ltL (last.take n ++ rest) last = true ∨ last.take n ++ rest = last)
  · rw [if_pos h3] at h; cases h
  rw [if_neg h3] at h ⊢
  by_cases h4 : shL last (last.take n ++ rest) ≠ n
  · rw [if_pos h4] at h; cases h
  rw [if_neg h4]
  exact ⟨by omega, rfl, by omega, by simpa using h4⟩
theorem rd_back {s : ByteArray} : ∀ (k : Nat) (acc : List (List UInt8)) (a : Nat), a ≤ s.size → (rdL k acc (s, a, 0)).2.2.2 = 0 → ∃ q a', rdL k acc (s, a, 0) = (acc ++ q, (s, a', 0)) ∧ q.length = k ∧ a' ≤ s.size ∧ (∀ x ∈ q, x.length ≤ 1000) ∧
    s.data.toList.take a' = s.data.toList.take a ++ bodyL (acc.getLastD []) q
  | 0, acc, a, ha, _ => ⟨[], a, by rw [rdL, List.append_nil], rfl, ha, by simp, by rw [bodyL, List.append_nil]⟩
  | k + 1, acc, a, ha, h => by
    rw [rdL, wr0, if_neg (by simp)] at h ⊢
    have h60 : ((s, a, 0) : P02.Rd).2.2 ≠ 6 := by show (0 : Int) ≠ 6; decide
    by_cases hw : wr (textM (numM (s, a, 0)).2).2 = 0
    · rw [if_neg (by simpa using hw)] at h ⊢
      have ht0 := (wr_zero (text6 (num6 h60))).1 hw
      have hn0 : (numM (s, a, 0)).2.2.2 = 0 := by
        by_cases h' : (numM (s, a, 0)).2.2.2 = 0
        · exact h'
        · have : textM (numM (s, a, 0)).2 = (⟨#[]⟩, (numM (s, a, 0)).2) := by
            unfold textM
            rw [C02R.takeM_err h']
          rw [this] at ht0
          exact absurd ht0 h'
      obtain ⟨n, a1, e1, hn, ha1, et1⟩ := num_fwd ha hn0
      rw [e1] at ht0 h ⊢
      simp only at ht0 h ⊢
      obtain ⟨t, a2, e2, ha2, et2⟩ := text_fwd ha1 ht0
      rw [e2] at h ⊢
      simp only at h ⊢
      have hx0 : (nextL (acc.getLastD []) n t.data.toList acc.isEmpty).2 = 0 := by
        by_cases h' : (nextL (acc.getLastD []) n t.data.toList acc.isEmpty).2 = 0
        · exact h'
        · exfalso
          have e3 : (failM (s, a2, 0) (nextL (acc.getLastD []) n t.data.toList acc.isEmpty).2).2.2 = (nextL (acc.getLastD []) n t.data.toList acc.isEmpty).2 := rfl
          rw [rd_err k _ _ (by rw [e3]; exact h') (by rw [e3]; exact next6 _ _ _ _), e3] at h
          exact h' h
      obtain ⟨z1, z2, z3, z4⟩ := next_zero hx0
      rw [hx0, fail0 _ rfl] at h ⊢
      rw [z2] at h ⊢
      obtain ⟨q, a3, e4, hq, ha3, hlen, et3⟩ := rd_back k _ a2 ha2 h
      refine ⟨((acc.getLastD []).take n ++ t.data.toList) :: q, a3, by rw [e4, List.append_assoc]; rfl, by rw [List.length_cons, hq], ha3, ?_, ?_⟩
      · intro x hx
        rcases List.mem_cons.1 hx with rfl | hx
        · exact z3
        · exact hlen x hx
      · rw [List.getLastD_concat] at et3
        rw [et3, et2, et1, bodyL, z4]
        have hl : ((acc.getLastD []).take n).length = n := by rw [List.length_take]; omega
        have e5 : ((acc.getLastD []).take n ++ t.data.toList).length - n = t.size := by
          have : t.data.toList.length = t.size := by simp
          rw [List.length_append, hl, this]
          omega
        have e6 : ((acc.getLastD []).take n ++ t.data.toList).drop n = t.data.toList := by
          have := List.drop_left (l₁ := (acc.getLastD []).take n) (l₂ := t.data.toList)
          rw [hl] at this
          exact this
        rw [e5, e6]
        simp only [List.append_assoc]
    · rw [if_pos hw] at h
      exact absurd ((wr_zero (text6 (num6 h60))).2 h) hw
theorem read_back {s : ByteArray} (h : wr (readP (s, 0, 0)).2 = 0) : ∃ ts a, readP (s, 0, 0) = (ts, (s, a, 0)) ∧ a ≤ s.size ∧ ts.length ≤ 6000 ∧ (∀ x ∈ ts, x.length ≤ 1000) ∧ s.data.toList.take a = bytesL ts := by
  have h60 : ((s, 0, 0) : P02.Rd).2.2 ≠ 6 := by show (0 : Int) ≠ 6; decide
  have hbase : ∀ (k : Nat) (acc : List (List UInt8)) (r : P02.Rd), r.2.2 ≠ 6 → wr (rdL k acc r).2 = 0 → r.2.2 = 0 ∧ (rdL k acc r).2.2.2 = 0 := by
    intro k
    induction k with
    | zero => intro acc r h6 hw; exact ⟨(wr_zero h6).1 hw, (wr_zero h6).1 hw⟩
    | succ k ih =>
      intro acc r h6 hw
      by_cases h0 : r.2.2 = 0
      · refine ⟨h0, ?_⟩
        rw [rdL] at hw ⊢
        by_cases hw0 : wr r = 0
        · rw [if_neg (by simpa using hw0)] at hw ⊢
          by_cases hw1 : wr (textM (numM r).2).2 = 0
          · rw [if_neg (by simpa using hw1)] at hw ⊢
            exact (ih _ _ (fail6 (text6 (num6 h6)) (next6 _ _ _ _)) hw).2
          · rw [if_pos hw1] at hw
            exact absurd hw hw1
        · rw [if_pos hw0] at hw
          exact absurd hw hw0
      · rw [rd_err _ _ _ h0 h6] at hw
        exact absurd ((wr_zero h6).1 hw) h0
  unfold readP at h ⊢
  have hb : ¬ 6000 < (numM (s, 0, 0)).1 ∧ (numM (s, 0, 0)).2.2.2 = 0 := by
    by_cases hc : 6000 < (numM (s, 0, 0)).1
    · rw [if_pos hc] at h
      have := (hbase _ _ _ (fail6 (num6 h60) (by decide)) h).1
      unfold failM at this
      split at this
      · cases this
      · rename_i h'; exact absurd this h'
    · rw [if_neg hc] at h
      exact ⟨hc, (hbase _ _ _ (num6 h60) h).1⟩
  rw [if_neg hb.1] at h ⊢
  obtain ⟨n, a1, e1, hn, ha1, et1⟩ := num_fwd (Nat.zero_le _) hb.2
  have hb1 := hb.1
  rw [e1] at h hb1 ⊢
  simp only at h hb1 ⊢
  obtain ⟨q, a2, e2, hq, ha2, hlen, et2⟩ := rd_back n [] a1 ha1 (hbase _ _ _ (by show (0 : Int) ≠ 6; decide) h).2
  refine ⟨q, a2, by rw [e2]; rfl, ha2, by omega, hlen, ?_⟩
  rw [et2, et1, hq.symm]
  unfold bytesL
  simp
end Go.Proofs.Ytigbdoicgdmliaa.C25

