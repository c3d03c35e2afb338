/- weftref02.Reader: what its methods do. -/
import Derived.Test.YtoigfahdgphpdaaC02R
set_option linter.unusedVariables false
set_option linter.unusedSimpArgs false
-- qNumber: 34
-- qText: 35
-- qFail: 37
-- qDone: 38
-- qnumber: 72
namespace Go.Proofs.Ytoigfahdgphpdaa.Q02R
open Go Go.V Go.Proofs Go.Proofs.Ytoigfahdgphpdaa.N02 Go.Proofs.Ytoigfahdgphpdaa.P02 Go.Proofs.Ytoigfahdgphpdaa.C02R
attribute [local irreducible] Cvt ExtF CallF hrun
theorem bt_eq {s : ByteArray} {i : Nat} {j : Int} (h : j = (i : Int)) : bt s j = ((s.data.toList.getD i 0).toNat : Int) := by
  subst h
  unfold bt
  rw [Int.toNat_natCast]
theorem shAdd {n c k : Nat} (hk : k ≤ 4) (hn : n < 128 ^ k) (hc : c < 256) : w64 ((n : Int) + w64 (Int.tmod (w64 (c : Int)) 128 * 2 ^ (min (Int.toNat (w64 (7 * (k : Int)))) (IntKind.bits .i64)))) = ((n + c % 128 * 128 ^ k : Nat) : Int) := by
  have e1 : w64 (c : Int) = c := w64_id (by omega) (by omega)
  have e2 : w64 (7 * (k : Int)) = 7 * k := w64_id (by omega) (by omega)
  have e3 : min (7 * (k : Int)).toNat (IntKind.bits .i64) = 7 * k := by
    simp only [IntKind.bits]
    omega
  have hp : (128 : Nat) ^ k = 2 ^ (7 * k) := by rw [Nat.pow_mul]
  have hb : 128 ^ k ≤ 268435456 := by
    have : (128 : Nat) ^ k ≤ 128 ^ 4 := Nat.pow_le_pow_right (by omega) hk
    have : (128 : Nat) ^ 4 = 268435456 := by decide
    omega
  have hm : c % 128 * 128 ^ k ≤ 127 * 268435456 := Nat.mul_le_mul (by omega) hb
  have t : Int.tmod (c : Int) 128 = ((c % 128 : Nat) : Int) := by
    rw [Int.tmod_eq_emod_of_nonneg (by omega)]
    omega
  rw [e1, e2, e3, t]
  have e4 : ((c % 128 : Nat) : Int) * 2 ^ (7 * k) = ((c % 128 * 128 ^ k : Nat) : Int) := by rw [hp]; simp
  rw [e4, w64_id (x := ((c % 128 * 128 ^ k : Nat) : Int)) (by omega) (by omega), w64_id (by omega) (by omega)]
  omega

theorem number_ok {H : Hp} {s : ByteArray} {i : Nat} {K : Value → Hp → Prop} {Z : List PanicEntry → Hp → Prop} (hi : i ≤ s.size) (hs : s.size ≤ 4611686018427387904)
    (k : ∀ y : Int, ((lookL 0 0 (s.data.toList.drop i)).2.2 = 0 → y = ((i + (lookL 0 0 (s.data.toList.drop i)).2.1 : Nat) : Int)) → K (.tuple #[.int .i64 ((lookL 0 0 (s.data.toList.drop i)).1 : Int), .int .i64 y, .int .i64 (lookL 0 0 (s.data.toList.drop i)).2.2]) H) :
    CallF Try.prog 72 #[.string s, .int .i64 (i : Int)] H K Z := by
  refine V72_ok ?_
  unfold V72
  have hlen : s.data.toList.length = s.size := by simp
  refine ⟨fun n j B m => ∃ nn jj : Nat, B = H ∧ j = (jj : Int) ∧ jj ≤ 4 ∧ n = (nn : Int) ∧ nn < 128 ^ jj ∧ m = 5 - jj ∧ lookL jj nn (s.data.toList.drop (i + jj)) = lookL 0 0 (s.data.toList.drop i), ⟨5, 0, 0, rfl, rfl, by decide, rfl, by decide, rfl, rfl⟩, ?_⟩
  rintro n j B m ⟨nn, jj, rfl, rfl, h1, rfl, h2, rfl, h4⟩ scr
  refine ⟨fun _ => ?_, fun hge => by simp at hge; omega⟩
  have ei : w64 ((i : Int) + (jj : Int)) = ((i + jj : Nat) : Int) := by rw [w64_id (by omega) (by omega)]; omega
  rw [ei]
  refine ⟨fun hge => ?_, fun hlt => ?_⟩
  · have hge' : s.size ≤ i + jj := by
      have : ((i + jj : Nat) : Int) ≥ (s.size : Int) := of_decide_eq_true hge
      omega
    have hnil : s.data.toList.drop (i + jj) = [] := List.drop_eq_nil_of_le (by omega)
    rw [hnil] at h4
    have e1 : lookL 0 0 (s.data.toList.drop i) = (0, 0, 1) := h4.symm
    have hk := k 0 (by rw [e1]; intro h; cases h)
    rw [e1] at hk
    exact hk
  · have hlt' : i + jj < s.size := by
      have : ¬ ((i + jj : Nat) : Int) ≥ (s.size : Int) := of_decide_eq_false hlt
      omega
    refine ⟨⟨by omega, by omega⟩, ?_⟩
    rw [bt_eq rfl]
    rw [drop_cons hlt'] at h4
    have h256 := (s.data.toList.getD (i + jj) 0).toNat_lt
    generalize hc : s.data.toList.getD (i + jj) 0 = c at *
    have ec : w64 (c.toNat : Int) = c.toNat := w64_id (by omega) (by omega)
    have hsh := shAdd h1 h2 h256
    have kk : ∀ y : Int, ((lookL 0 0 (s.data.toList.drop i)).2.2 = 0 → y = ((i + (lookL 0 0 (s.data.toList.drop i)).2.1 : Nat) : Int)) → K (.tuple #[.int .i64 ((lookL 0 0 (s.data.toList.drop i)).1 : Int), .int .i64 y, .int .i64 (lookL 0 0 (s.data.toList.drop i)).2.2]) B := k
    rw [← h4] at kk
    refine ⟨fun C => C = B ∧ ¬ (jj = 4 ∧ 1 < c.toNat), ?_, ?_, ?_⟩
    · rintro C ⟨rfl, hnot⟩ scr1
      rw [hsh, ec]
      rw [lookL, if_neg hnot] at h4 kk
      refine ⟨by rw [w64_id (by omega) (by omega)]; omega, fun hm => ?_, fun hm => ?_⟩
      · have hm' : ¬ 128 ≤ c.toNat := by
          have : (c.toNat : Int) < 128 := of_decide_eq_true hm
          omega
        rw [if_neg hm'] at kk
        have ey : w64 (((i + jj : Nat) : Int) + 1) = ((i + (jj + 1) : Nat) : Int) := by rw [w64_id (by omega) (by omega)]; omega
        rw [ey]
        refine ⟨fun hz => ⟨fun hp => ?_, fun hp => ⟨fun hr => ?_, fun hr => ?_⟩⟩, fun hz => ⟨fun hr => ?_, fun hr => ?_⟩⟩
        · have hz' : c.toNat = 0 := by
            have : (c.toNat : Int) = 0 := by simpa using hz
            omega
          have hp' : (jj : Int) > 0 := of_decide_eq_true hp
          rw [if_pos ⟨hz', by omega⟩] at kk
          exact kk 0 (by intro h; cases h)
        · have hp' : ¬ (jj : Int) > 0 := of_decide_eq_false hp
          have hr' : ((nn + c.toNat % 128 * 128 ^ jj : Nat) : Int) > 268435456 := of_decide_eq_true hr
          rw [if_neg (by omega), if_pos (by omega)] at kk
          exact kk 0 (by intro h; cases h)
        · have hp' : ¬ (jj : Int) > 0 := of_decide_eq_false hp
          have hr' : ¬ ((nn + c.toNat % 128 * 128 ^ jj : Nat) : Int) > 268435456 := of_decide_eq_false hr
          rw [if_neg (by omega), if_neg (by omega)] at kk
          exact kk _ (fun _ => rfl)
        · have hz' : ¬ c.toNat = 0 := by
            have : ¬ (c.toNat : Int) = 0 := by simpa using hz
            omega
          have hr' : ((nn + c.toNat % 128 * 128 ^ jj : Nat) : Int) > 268435456 := of_decide_eq_true hr
          rw [if_neg (fun h => hz' h.1), if_pos (by omega)] at kk
          exact kk 0 (by intro h; cases h)
        · have hz' : ¬ c.toNat = 0 := by
            have : ¬ (c.toNat : Int) = 0 := by simpa using hz
            omega
          have hr' : ¬ ((nn + c.toNat % 128 * 128 ^ jj : Nat) : Int) > 268435456 := of_decide_eq_false hr
          rw [if_neg (fun h => hz' h.1), if_neg (by omega)] at kk
          exact kk _ (fun _ => rfl)
      · have hm' : 128 ≤ c.toNat := by
          have : ¬ (c.toNat : Int) < 128 := of_decide_eq_false hm
          omega
        rw [if_pos hm'] at h4
        have hj4 : jj ≠ 4 := fun h => hnot ⟨h, by omega⟩
        have ej : w64 ((jj : Int) + 1) = ((jj + 1 : Nat) : Int) := by rw [w64_id (by omega) (by omega)]; omega
        rw [ej]
        refine ⟨5 - (jj + 1), by omega, _, jj + 1, rfl, rfl, by omega, rfl, ?_, rfl, h4⟩
        rw [Nat.pow_succ]
        have : c.toNat % 128 * 128 ^ jj ≤ 127 * 128 ^ jj := Nat.mul_le_mul_right _ (by omega)
        omega
    · intro h4'
      have h4'' : jj = 4 := by
        have : (jj : Int) = 4 := by simpa using h4'
        omega
      rw [ec]
      refine ⟨fun hc1 => ?_, fun hc1 => ?_⟩
      · have hc1' : (c.toNat : Int) > 1 := of_decide_eq_true hc1
        rw [lookL, if_pos ⟨h4'', by omega⟩] at kk
        exact kk 0 (by intro h; cases h)
      · have hc1' : ¬ (c.toNat : Int) > 1 := of_decide_eq_false hc1
        exact ⟨rfl, fun h => hc1' (by omega)⟩
    · intro h4'
      have h4'' : ¬ (jj : Int) = 4 := by simpa using h4'
      exact ⟨rfl, fun h => h4'' (by omega)⟩
section
variable {H : Hp} {b o : Nat} {T : TypeId} {cs : List Value} {r : Rd}
theorem numM_err (h : r.2.2 ≠ 0) : numM r = (0, r) := by rw [numM, takeM_err h]
theorem numM_bad (h : r.2.2 = 0) (h1 : (lookL 0 0 (restL r)).2.2 ≠ 0) : numM r = (0, (r.1, r.2.1, (lookL 0 0 (restL r)).2.2)) := by
  rw [numM, takeM_bad h (e := (lookL 0 0 (restL r)).2.2) (by rw [if_neg (fun h => h1 h.1)]) h1]
theorem numM_good (h : r.2.2 = 0) (h1 : (lookL 0 0 (restL r)).2.2 = 0) : numM r = ((lookL 0 0 (restL r)).1, (r.1, r.2.1 + (lookL 0 0 (restL r)).2.1, 0)) := by
  rw [numM, takeM_good h h1 (Nat.not_lt_zero _)]
  rfl
theorem qnumber_ok {K : Value → Hp → Prop} {Z : List PanicEntry → Hp → Prop} (h : RdS H b o T cs r) (k : ∀ H' cs', RdTo H H' b o T cs cs' (numM r).2 → K (.int .i64 ((numM r).1 : Int)) H') : CallF Try.prog 34 #[.pointer (some ⟨b, o, none⟩)] H K Z := by
  refine V34_ok ?_
  unfold V34
  have hle := h.le
  have hbig := h.big
  have hl := lookL_ok (restL r) 0 0 (by omega)
  have hrl := restL_len r hle
  refine ⟨_, h.ld0, _, h.ld1, number_ok hle hbig ?_⟩
  show ∀ y : Int, ((lookL 0 0 (restL r)).2.2 = 0 → y = ((r.2.1 + (lookL 0 0 (restL r)).2.1 : Nat) : Int)) → _
  intro y hy
  refine ⟨_, _, _, rfl, _, h.ld2, fun h0 => ?_, fun h0 => ⟨fun h1 => ?_, fun h1 => ?_⟩⟩
  · have h0' : r.2.2 ≠ 0 := by simpa using h0
    rw [numM_err h0'] at k
    exact k H cs (RdTo.refl h)
  · have h0' : r.2.2 = 0 := by simpa using h0
    have h1' : (lookL 0 0 (restL r)).2.2 ≠ 0 := by simpa [restL] using h1
    rw [numM_bad h0' h1'] at k
    refine C02R.setE h ?_
    intro A hA
    exact k A _ hA
  · have h0' : r.2.2 = 0 := by simpa using h0
    have h1' : (lookL 0 0 (restL r)).2.2 = 0 := by simpa [restL] using h1
    rw [numM_good h0' h1'] at k
    have hll := hl.1 h1'
    refine setAt (n := r.2.1 + (lookL 0 0 (restL r)).2.1) h (hy h1') (by omega) ?_
    intro A hA
    rw [h0'] at hA
    exact k A _ hA
theorem textM_err (h : r.2.2 ≠ 0) : textM r = (⟨#[]⟩, r) := by rw [textM, takeM_err h]
theorem textM_bad (h : r.2.2 = 0) (h1 : (lookL 0 0 (restL r)).2.2 ≠ 0) : textM r = (⟨#[]⟩, (r.1, r.2.1, (lookL 0 0 (restL r)).2.2)) := by
  rw [textM, takeM_bad h (e := (lookL 0 0 (restL r)).2.2) (by rw [if_neg (fun h => h1 h.1)]) h1]
theorem textM_short (h : r.2.2 = 0) (h1 : (lookL 0 0 (restL r)).2.2 = 0) (h2 : r.1.size - r.2.1 - (lookL 0 0 (restL r)).2.1 < (lookL 0 0 (restL r)).1) : textM r = (⟨#[]⟩, (r.1, r.2.1, 1)) := by
  rw [textM, takeM_bad h (e := 1) (by rw [if_pos ⟨h1, h2⟩]) (by decide)]
theorem textM_good (h : r.2.2 = 0) (h1 : (lookL 0 0 (restL r)).2.2 = 0) (h2 : ¬ r.1.size - r.2.1 - (lookL 0 0 (restL r)).2.1 < (lookL 0 0 (restL r)).1) :
    textM r = (r.1.extract (r.2.1 + (lookL 0 0 (restL r)).2.1) (r.2.1 + (lookL 0 0 (restL r)).2.1 + (lookL 0 0 (restL r)).1), (r.1, r.2.1 + (lookL 0 0 (restL r)).2.1 + (lookL 0 0 (restL r)).1, 0)) := by
  rw [textM, takeM_good h h1 h2]
  rfl
theorem qtext_ok {K : Value → Hp → Prop} {Z : List PanicEntry → Hp → Prop} (h : RdS H b o T cs r) (k : ∀ H' cs', RdTo H H' b o T cs cs' (textM r).2 → K (.string (textM r).1) H') : CallF Try.prog 35 #[.pointer (some ⟨b, o, none⟩)] H K Z := by
  refine V35_ok ?_
  unfold V35
  have hle := h.le
  have hbig := h.big
  have hl := lookL_ok (restL r) 0 0 (by omega)
  have hrl := restL_len r hle
  refine ⟨_, h.ld1, qnumber_ok h ?_⟩
  intro A c2 hA
  refine ⟨_, rfl, _, hA.st.ld2, ?_⟩
  by_cases h0 : r.2.2 = 0
  · by_cases h1 : (lookL 0 0 (restL r)).2.2 = 0
    · have hg := numM_good h0 h1
      have hll := hl.1 h1
      rw [hg] at hA ⊢
      refine ⟨fun h => by simp at h, fun _ => ⟨_, hA.st.ld0, _, hA.st.ld1, fun h2 => ?_, fun h2 => ?_⟩⟩
      · have h2' : ((lookL 0 0 (restL r)).1 : Int) > w64 ((r.1.size : Int) - ((r.2.1 + (lookL 0 0 (restL r)).2.1 : Nat) : Int)) := of_decide_eq_true h2
        rw [w64_id (by omega) (by omega)] at h2'
        rw [textM_short h0 h1 (by omega)] at k
        refine setAt (n := r.2.1) hA.st rfl hle ?_
        intro B hB
        refine C02R.setE hB.st ?_
        intro C hC
        exact k C _ ((hA.trans hB).trans hC)
      · have h2' : ¬ ((lookL 0 0 (restL r)).1 : Int) > w64 ((r.1.size : Int) - ((r.2.1 + (lookL 0 0 (restL r)).2.1 : Nat) : Int)) := of_decide_eq_false h2
        rw [w64_id (by omega) (by omega)] at h2'
        rw [textM_good h0 h1 (by omega)] at k
        generalize lookL 0 0 (restL r) = L at *
        refine ⟨_, hA.st.ld1, ?_⟩
        have e1 : w64 (((r.2.1 + L.2.1 : Nat) : Int) + (L.1 : Int)) = ((r.2.1 + L.2.1 + L.1 : Nat) : Int) := by rw [w64_id (by omega) (by omega)]; omega
        refine setAt (n := r.2.1 + L.2.1 + L.1) hA.st e1 (by show r.2.1 + L.2.1 + L.1 ≤ r.1.size; omega) ?_
        intro B hB
        refine ⟨_, hB.st.ld0, _, hB.st.ld1, _, hB.st.ld1, ?_⟩
        show SlS r.1 (w64 (((r.2.1 + L.2.1 + L.1 : Nat) : Int) - (L.1 : Int))) ((r.2.1 + L.2.1 + L.1 : Nat) : Int) _
        have e2 : w64 (((r.2.1 + L.2.1 + L.1 : Nat) : Int) - (L.1 : Int)) = ((r.2.1 + L.2.1 : Nat) : Int) := by rw [w64_id (by omega) (by omega)]; omega
        rw [e2]
        refine ⟨⟨by omega, by omega, by omega⟩, ?_⟩
        rw [Int.toNat_natCast, Int.toNat_natCast]
        exact k B _ (hA.trans hB)
    · have hg := numM_bad h0 h1
      rw [hg] at hA ⊢
      rw [textM_bad h0 h1] at k
      refine ⟨fun _ => k A c2 hA, fun h => ?_⟩
      exact absurd (by simpa using h) h1
  · have hg := numM_err h0
    rw [hg] at hA ⊢
    rw [textM_err h0] at k
    refine ⟨fun _ => k A c2 hA, fun h => ?_⟩
    exact absurd (by simpa using h) h0
theorem qfail_ok {e : Int} {K : Value → Hp → Prop} {Z : List PanicEntry → Hp → Prop} (h : RdS H b o T cs r) (k : ∀ H' cs', RdTo H H' b o T cs cs' (failM r e) → K (.tuple #[]) H') : CallF Try.prog 37 #[.pointer (some ⟨b, o, none⟩), .int .i64 e] H K Z := by
  refine V37_ok ?_
  unfold V37
  refine ⟨_, h.ld2, fun h0 => ?_, fun h0 => ?_⟩
  · have h0' : r.2.2 = 0 := by simpa using h0
    refine C02R.setE h ?_
    intro A hA
    exact k A _ (by rw [failM, if_pos h0']; exact hA)
  · have h0' : ¬ r.2.2 = 0 := by simpa using h0
    exact k H cs (by rw [failM, if_neg h0']; exact RdTo.refl h)
theorem qdone_ok {K : Value → Hp → Prop} {Z : List PanicEntry → Hp → Prop} (h : RdS H b o T cs r) (k : K (.tuple #[.int .i64 ((rdoneM r).1 : Int), .int .i64 (rdoneM r).2]) H) : CallF Try.prog 38 #[.pointer (some ⟨b, o, none⟩)] H K Z := by
  refine V38_ok ?_
  unfold V38
  unfold rdoneM at k
  refine ⟨_, h.ld2, fun h0 => ⟨_, h.ld1, _, h.ld0, fun h1 => ⟨_, h.ld1, ?_⟩, fun h1 => ⟨_, h.ld1, _, h.ld2, ?_⟩⟩, fun h0 => ⟨_, h.ld1, _, h.ld2, ?_⟩⟩
  · have h0' : r.2.2 = 0 := by simpa using h0
    have h1' : r.2.1 < r.1.size := by simpa using h1
    rw [if_pos ⟨h0', h1'⟩] at k
    exact k
  · have h1' : ¬ r.2.1 < r.1.size := by simpa using h1
    rw [if_neg (fun h => h1' h.2)] at k
    exact k
  · have h0' : ¬ r.2.2 = 0 := by simpa using h0
    rw [if_neg (fun h => h0' h.1)] at k
    exact k
end
end Go.Proofs.Ytoigfahdgphpdaa.Q02R

