/- varint.Reader and weftref02.Reader, wherever they lie in a block: what their methods do. -/
import Derived.Test.YtigbdoicgdmliaaN02
import Derived.Test.YtigbdoicgdmliaaV9
import Derived.Test.YtigbdoicgdmliaaP02
set_option linter.unusedVariables false
set_option linter.unusedSimpArgs false
-- tBs: 66
-- tU8: 5
-- tStr: 9
-- tRdr: 117
-- new: 38
-- vText: 74
-- vNumber: 71
-- vDone: 40
-- vTake: 107
-- vLook: 143
-- vText1: 109
-- vNumber1: 108
-- vFail: 72
namespace Go.Proofs.Ytigbdoicgdmliaa.C02R
open Go Go.V Go.Proofs Go.Proofs.Ytigbdoicgdmliaa.N02 Go.Proofs.Ytigbdoicgdmliaa.P02
attribute [local irreducible] Cvt ExtF CallF hrun
theorem pvu1 : Try.prog.underlying 66 = some (.slice 5) := by kernel_rfl
theorem pvu2 : Try.prog.underlying 9 = some .string := by kernel_rfl
theorem pvu3 : Try.prog.underlying 5 = some (.int .u8) := by kernel_rfl

/-- a reader (text, place, error) at place o of block b -/
structure RdS (H : Hp) (b o : Nat) (T : TypeId) (cs : List Value) (r : Rd) : Prop where
  blk : Blk H b cs T
  str : cs[o]? = some (.string r.1)
  at_ : cs[o + 1]? = some (.int .i64 (r.2.1 : Int))
  err : cs[o + 2]? = some (.int .i64 r.2.2)
  le : r.2.1 ≤ r.1.size
  big : r.1.size ≤ 4611686018427387904
structure RdTo (H H' : Hp) (b o : Nat) (T : TypeId) (cs cs' : List Value) (r : Rd) : Prop where
  st : RdS H' b o T cs' r
  len : cs'.length = cs.length
  rest : ∀ i, i ≠ o → i ≠ o + 1 → i ≠ o + 2 → cs'[i]? = cs[i]?
  fr : Fr (fun i => i = b) H H'
section
variable {H : Hp} {b o : Nat} {T : TypeId} {cs : List Value} {r : Rd}
theorem RdTo.refl (h : RdS H b o T cs r) : RdTo H H b o T cs cs r := ⟨h, rfl, fun _ _ _ _ => rfl, Fr.refl _ _⟩
theorem RdTo.trans {H1 H2 : Hp} {c1 c2 : List Value} {r1 r2 : Rd} (h : RdTo H H1 b o T cs c1 r1) (k : RdTo H1 H2 b o T c1 c2 r2) : RdTo H H2 b o T cs c2 r2 :=
  ⟨k.st, k.len.trans h.len, fun i a b c => (k.rest i a b c).trans (h.rest i a b c), h.fr.trans k.fr⟩
theorem RdS.keep {S : Nat → Prop} {H' : Hp} (h : RdS H b o T cs r) (hf : Fr S H H') (hs : ¬ S b) : RdS H' b o T cs r := ⟨hf.blk h.blk hs, h.str, h.at_, h.err, h.le, h.big⟩
theorem RdTo.pre {A B : Hp} {c2 : List Value} {r2 : Rd} (h : Fr no H A) (k : RdTo A B b o T cs c2 r2) : RdTo H B b o T cs c2 r2 := ⟨k.st, k.len, k.rest, (h.of_no).trans k.fr⟩
theorem RdS.ld0 (h : RdS H b o T cs r) : hcell H ⟨b, o, none⟩ = some (.string r.1) := by rw [h.blk.ld]; exact h.str
theorem RdS.ld1 (h : RdS H b o T cs r) : hcell H (Addr.add ⟨b, o, none⟩ 1) = some (.int .i64 (r.2.1 : Int)) := by rw [add_mk, h.blk.ld]; exact h.at_
theorem RdS.ld2 (h : RdS H b o T cs r) : hcell H (Addr.add ⟨b, o, none⟩ 2) = some (.int .i64 r.2.2) := by rw [add_mk, h.blk.ld]; exact h.err
theorem setAt {n : Nat} {v : Int} {K : Hp → Prop} (h : RdS H b o T cs r) (hv : v = (n : Int)) (hn : n ≤ r.1.size) (k : ∀ H', RdTo H H' b o T cs (cs.set (o + 1) (.int .i64 (n : Int))) (r.1, n, r.2.2) → K H') : StL (Addr.add ⟨b, o, none⟩ 1) 0 [.int .i64 v] H K := by
  subst hv
  rw [add_mk]
  have hl := (List.getElem?_eq_some_iff.1 h.at_).1
  refine st_blk h.blk hl rfl ?_
  intro A hA hf _
  exact k A ⟨⟨hA, by rw [List.getElem?_set_ne (by omega)]; exact h.str, List.getElem?_set_self hl, by rw [List.getElem?_set_ne (by omega)]; exact h.err, hn, h.big⟩, by simp, fun i _ hi _ => List.getElem?_set_ne (Ne.symm hi), hf⟩
theorem setE {e : Int} {K : Hp → Prop} (h : RdS H b o T cs r) (k : ∀ H', RdTo H H' b o T cs (cs.set (o + 2) (.int .i64 e)) (r.1, r.2.1, e) → K H') : StL (Addr.add ⟨b, o, none⟩ 2) 0 [.int .i64 e] H K := by
  rw [add_mk]
  have hl := (List.getElem?_eq_some_iff.1 h.err).1
  refine st_blk h.blk hl rfl ?_
  intro A hA hf _
  exact k A ⟨⟨hA, by rw [List.getElem?_set_ne (by omega)]; exact h.str, by rw [List.getElem?_set_ne (by omega)]; exact h.at_, List.getElem?_set_self hl, h.le, h.big⟩, by simp, fun i _ _ hi => List.getElem?_set_ne (Ne.symm hi), hf⟩

theorem new_ok {s : ByteArray} {K : Value → Hp → Prop} {Z : List PanicEntry → Hp → Prop} (hs : s.size ≤ 4611686018427387904) (k : ∀ b H', b = H.size → RdS H' b 0 117 [.string s, .int .i64 0, .int .i64 0] (s, 0, 0) → Fr no H H' → K (.pointer (some ⟨b, 0, none⟩)) H') : CallF Try.prog 38 #[.string s] H K Z := by
  refine V38_ok ?_
  unfold V38
  intro b A hn
  exact k b A hn.eq ⟨hn.blk, rfl, rfl, rfl, Nat.zero_le _, hs⟩ hn.fr
theorem fail_ok {e : Int} {K : Value → Hp → Prop} {Z : List PanicEntry → Hp → Prop} (h : RdS H b o T cs r) (k : ∀ H' cs', RdTo H H' b o T cs cs' (failM r e) → K (.tuple #[]) H') : CallF Try.prog 72 #[.pointer (some ⟨b, o, none⟩), .int .i64 e] H K Z := by
  refine V72_ok ?_
  unfold V72
  refine ⟨_, h.ld2, fun h0 => ?_, fun h0 => ?_⟩
  · have h0' : r.2.2 = 0 := by simpa using h0
    refine setE h ?_
    intro A hA
    exact k A _ (by rw [failM, if_pos h0']; exact hA)
  · have h0' : ¬ r.2.2 = 0 := by simpa using h0
    exact k H cs (by rw [failM, if_neg h0']; exact RdTo.refl h)
theorem done_ok {K : Value → Hp → Prop} {Z : List PanicEntry → Hp → Prop} (h : RdS H b o T cs r) (k : K (.tuple #[.int .i64 ((rdoneM r).1 : Int), .int .i64 (rdoneM r).2]) H) : CallF Try.prog 40 #[.pointer (some ⟨b, o, none⟩)] H K Z := by
  refine V40_ok ?_
  unfold V40
  unfold rdoneM at k
  refine ⟨_, h.ld2, fun h0 => ⟨_, h.ld1, _, h.ld0, fun h1 => ⟨_, h.ld1, ?_⟩, fun h1 => ⟨_, h.ld1, _, h.ld2, ?_⟩⟩, fun h0 => ⟨_, h.ld1, _, h.ld2, ?_⟩⟩
  · have h0' : r.2.2 = 0 := by simpa using h0
    have h1' : r.2.1 < r.1.size := by simpa using h1
    rw [if_pos ⟨h0', h1'⟩] at k
    exact k
  · have h1' : ¬ r.2.1 < r.1.size := by simpa using h1
    rw [if_neg (fun h => h1' h.2)] at k
    exact k
  · have h0' : ¬ r.2.2 = 0 := by simpa using h0
    rw [if_neg (fun h => h0' h.1)] at k
    exact k

theorem look_ok {K : Value → Hp → Prop} {Z : List PanicEntry → Hp → Prop} (h : RdS H b o T cs r) (k : ∀ H', Fr no H H' → K (.tuple #[.int .i64 ((lookL 0 0 (restL r)).1 : Int), .int .i64 ((lookL 0 0 (restL r)).2.1 : Int), .int .i64 (lookL 0 0 (restL r)).2.2]) H') :
    CallF Try.prog 143 #[.pointer (some ⟨b, o, none⟩)] H K Z := by
  refine V143_ok ?_
  unfold V143
  obtain ⟨s, at_, e⟩ := r
  have hle : at_ ≤ s.size := h.le
  have hbig : s.size ≤ 4611686018427387904 := h.big
  refine ⟨_, h.ld0, _, h.ld1, _, h.ld0, _, h.ld1, ?_⟩
  show SlS s (at_ : Int) (if w64 ((at_ : Int) + 5) < (s.size : Int) then w64 ((at_ : Int) + 5) else (s.size : Int)) _
  rw [w64_id (x := (at_ : Int) + 5) (by omega) (by omega)]
  have hhi : (if (at_ : Int) + 5 < (s.size : Int) then (at_ : Int) + 5 else (s.size : Int)) = ((min (at_ + 5) s.size : Nat) : Int) := by split <;> omega
  rw [hhi]
  refine ⟨⟨by omega, by omega, by omega⟩, ?_⟩
  have ex : (s.extract (at_ : Int).toNat ((min (at_ + 5) s.size : Nat) : Int).toNat).data.toList = (s.data.toList.drop at_).take 5 := by
    rw [Int.toNat_natCast, Int.toNat_natCast, ByteArray.data_extract, Array.toList_extract]
    rw [List.extract_eq_take_drop]
    have hlen : s.data.toList.length = s.size := by simp
    rcases Nat.le_total (at_ + 5) s.size with h1 | h1
    · rw [Nat.min_eq_left h1, Nat.add_sub_cancel_left]
    · rw [Nat.min_eq_right h1, List.take_of_length_le (by rw [List.length_drop, hlen]; exact Nat.le_refl _), List.take_of_length_le (by rw [List.length_drop, hlen]; omega)]
  refine strBytes_ok pvu2 pvu1 pvu3 ?_
  intro sl A hn hcell hf
  refine ⟨sl, rfl, ?_⟩
  rw [ex] at hcell
  have hsl : sl.n = ((s.data.toList.drop at_).take 5).length := by
    rw [hn, ← ex, Array.length_toList]
    rfl
  have hrest : restL (s, at_, e) = s.data.toList.drop at_ := rfl
  rw [hrest] at k
  generalize s.data.toList.drop at_ = L at *
  have hl5 : sl.n = min 5 L.length := by rw [hsl, List.length_take]
  refine ⟨fun n i B m => ∃ nn : Nat, B = A ∧ 0 ≤ i ∧ i ≤ 5 ∧ n = (nn : Int) ∧ nn < 128 ^ i.toNat ∧ m = 5 - i.toNat ∧ i.toNat ≤ 4 ∧ lookL i.toNat nn (L.drop i.toNat) = lookL 0 0 L, ⟨5, 0, rfl, by omega, by omega, rfl, by decide, rfl, by decide, rfl⟩, ?_⟩
  rintro n i B m ⟨nn, rfl, h0, h1, rfl, h2, rfl, h3, h4⟩ scr
  refine ⟨fun hlt => ?_, fun hge => ?_⟩
  · have hlt' : i < sl.n := by simpa using hlt
    have hiL : i.toNat < L.length := by omega
    have hd : L.drop i.toNat = L[i.toNat] :: L.drop (i.toNat + 1) := List.drop_eq_getElem_cons hiL
    have hg : (L.take 5)[i.toNat]? = some L[i.toNat] := by rw [List.getElem?_take, if_pos (by omega), List.getElem?_eq_getElem hiL]
    obtain ⟨ad, ha, hc⟩ := hcell _ _ hg
    generalize L[i.toNat] = c at *
    rw [hd] at h4
    have hi : ((i.toNat : Nat) : Int) = i := by omega
    have hor := orShift (n := nn) (c := c.toNat % 128) (k := i.toNat) h3 h2 (by omega)
    rw [hi] at hor
    refine ⟨ad, ha, ⟨h0, hlt'⟩, _, hc, fun C => C = B ∧ ¬ (i.toNat = 4 ∧ 1 < c.toNat), ?_, ?_, ?_⟩
    · rintro C ⟨rfl, hnot⟩ scr1
      rw [and127u, and128u, hor]
      refine ⟨by rw [w64_id (by omega) (by omega)]; omega, fun hm => ?_, fun hm => ?_⟩
      · have hm' : 128 ≤ c.toNat := by simpa using hm
        rw [lookL, if_neg hnot, if_pos hm'] at h4
        have hi4 : i.toNat ≠ 4 := by
          intro h
          exact hnot ⟨h, by omega⟩
        rw [w64_id (by omega) (by omega)]
        have e : (i + 1).toNat = i.toNat + 1 := by omega
        refine ⟨5 - (i.toNat + 1), by omega, _, rfl, by omega, by omega, rfl, ?_, by rw [e], by omega, by rw [e]; exact h4⟩
        rw [e, Nat.pow_succ]
        have : c.toNat % 128 * 128 ^ i.toNat ≤ 127 * 128 ^ i.toNat := Nat.mul_le_mul_right _ (by omega)
        omega
      · have hm' : ¬ 128 ≤ c.toNat := by simpa using hm
        have hk := k C hf
        rw [← h4, lookL, if_neg hnot, if_neg hm'] at hk
        refine ⟨fun hz => ⟨fun hp => ?_, fun hp => ⟨fun hr => ?_, fun hr => ?_⟩⟩, fun hz => ⟨fun hr => ?_, fun hr => ?_⟩⟩
        · have hz' : c.toNat = 0 := by
            have : (c.toNat : Int) = 0 := by simpa using hz
            omega
          have hp' : 0 < i := by simpa using hp
          rw [if_pos ⟨hz', by omega⟩] at hk
          exact hk
        · have hp' : ¬ 0 < i := by simpa using hp
          have hr' : 268435456 < nn + c.toNat % 128 * 128 ^ i.toNat := by
            have : ((nn + c.toNat % 128 * 128 ^ i.toNat : Nat) : Int) > 268435456 := by simpa using hr
            omega
          rw [if_neg (by omega), if_pos hr'] at hk
          exact hk
        · have hp' : ¬ 0 < i := by simpa using hp
          have hr' : ¬ 268435456 < nn + c.toNat % 128 * 128 ^ i.toNat := by
            have : ((nn + c.toNat % 128 * 128 ^ i.toNat : Nat) : Int) ≤ 268435456 := by simpa using hr
            omega
          rw [if_neg (by omega), if_neg hr'] at hk
          have e : w64 (i + 1) = ((i.toNat + 1 : Nat) : Int) := by rw [w64_id (by omega) (by omega)]; omega
          rw [e]
          exact hk
        · have hz' : ¬ c.toNat = 0 := by
            have : ¬ (c.toNat : Int) = 0 := by simpa using hz
            omega
          have hr' : 268435456 < nn + c.toNat % 128 * 128 ^ i.toNat := by
            have : ((nn + c.toNat % 128 * 128 ^ i.toNat : Nat) : Int) > 268435456 := by simpa using hr
            omega
          rw [if_neg (fun h => hz' h.1), if_pos hr'] at hk
          exact hk
        · have hz' : ¬ c.toNat = 0 := by
            have : ¬ (c.toNat : Int) = 0 := by simpa using hz
            omega
          have hr' : ¬ 268435456 < nn + c.toNat % 128 * 128 ^ i.toNat := by
            have : ((nn + c.toNat % 128 * 128 ^ i.toNat : Nat) : Int) ≤ 268435456 := by simpa using hr
            omega
          rw [if_neg (fun h => hz' h.1), if_neg hr'] at hk
          have e : w64 (i + 1) = ((i.toNat + 1 : Nat) : Int) := by rw [w64_id (by omega) (by omega)]; omega
          rw [e]
          exact hk
    · intro h4'
      have h4'' : i = 4 := by simpa using h4'
      refine ⟨fun hc1 => ?_, fun hc1 => ?_⟩
      · have hc1' : 1 < c.toNat := by
          have : (c.toNat : Int) > 1 := by simpa using hc1
          omega
        have hk := k B hf
        rw [← h4, lookL, if_pos ⟨by omega, hc1'⟩] at hk
        exact hk
      · have hc1' : ¬ 1 < c.toNat := by
          have : (c.toNat : Int) ≤ 1 := by simpa using hc1
          omega
        exact ⟨rfl, fun h => hc1' h.2⟩
    · intro h4'
      have h4'' : ¬ i = 4 := by simpa using h4'
      exact ⟨rfl, fun h => h4'' (by omega)⟩
  · have hge' : (sl.n : Int) ≤ i := by simpa using hge
    have hnil : L.drop i.toNat = [] := List.drop_eq_nil_of_le (by omega)
    have hk := k B hf
    rw [← h4, hnil] at hk
    exact hk

theorem takeM_err {ρ : Nat → Nat} {r : Rd} (h : r.2.2 ≠ 0) : takeM ρ r = ((0, ⟨#[]⟩), r) := by rw [takeM, if_pos h]
theorem takeM_bad {ρ : Nat → Nat} {r : Rd} (h : r.2.2 = 0) {e : Int} (he : e = if (lookL 0 0 (restL r)).2.2 = 0 ∧ r.1.size - r.2.1 - (lookL 0 0 (restL r)).2.1 < ρ (lookL 0 0 (restL r)).1 then 1 else (lookL 0 0 (restL r)).2.2) (h1 : e ≠ 0) : takeM ρ r = ((0, ⟨#[]⟩), (r.1, r.2.1, e)) := by
  rw [takeM, if_neg (by simpa using h)]
  simp only
  rw [← he, if_pos h1]
theorem takeM_good {ρ : Nat → Nat} {r : Rd} (h : r.2.2 = 0) (h1 : (lookL 0 0 (restL r)).2.2 = 0) (h2 : ¬ r.1.size - r.2.1 - (lookL 0 0 (restL r)).2.1 < ρ (lookL 0 0 (restL r)).1) :
    takeM ρ r = (((lookL 0 0 (restL r)).1, r.1.extract (r.2.1 + (lookL 0 0 (restL r)).2.1) (r.2.1 + (lookL 0 0 (restL r)).2.1 + ρ (lookL 0 0 (restL r)).1)), (r.1, r.2.1 + (lookL 0 0 (restL r)).2.1 + ρ (lookL 0 0 (restL r)).1, 0)) := by
  rw [takeM, if_neg (by simpa using h)]
  simp only [h1, h2, and_false, if_false, ne_eq, not_true_eq_false]
theorem take_ok {rest : Value} {ρ : Nat → Nat} {K : Value → Hp → Prop} {Z : List PanicEntry → Hp → Prop} (hρ : ∀ n, ρ n ≤ n) (hrest : ∀ (n : Nat) (A : Hp) (K' : Value → Hp → Prop), K' (.int .i64 (ρ n : Int)) A → callV Try.prog rest [.int .i64 (n : Int)] A K' Z)
    (h : RdS H b o T cs r) (k : ∀ H' cs', RdTo H H' b o T cs cs' (takeM ρ r).2 → K (.tuple #[.int .i64 ((takeM ρ r).1.1 : Int), .string (takeM ρ r).1.2]) H') :
    CallF Try.prog 107 #[.pointer (some ⟨b, o, none⟩), rest] H K Z := by
  refine V107_ok ?_
  unfold V107
  have hle := h.le
  have hbig := h.big
  have hl := lookL_ok (restL r) 0 0 (by omega)
  have hrl := restL_len r hle
  refine ⟨_, h.ld2, fun h0 => ?_, fun h0 => ?_⟩
  · have h0' : r.2.2 ≠ 0 := by simpa using h0
    have := k H cs (by rw [takeM_err h0']; exact RdTo.refl h)
    rw [takeM_err h0'] at this
    exact this
  have h0' : r.2.2 = 0 := by simpa using h0
  refine look_ok h ?_
  intro A hf
  have hA : RdS A b o T cs r := h.keep hf fun h => h
  have kk : ∀ B c2, RdTo A B b o T cs c2 (takeM ρ r).2 → K (.tuple #[.int .i64 ((takeM ρ r).1.1 : Int), .string (takeM ρ r).1.2]) B := fun B c2 hB => k B c2 (RdTo.pre hf hB)
  refine ⟨_, _, _, rfl, fun e B => B = A ∧ e = (if (lookL 0 0 (restL r)).2.2 = 0 ∧ r.1.size - r.2.1 - (lookL 0 0 (restL r)).2.1 < ρ (lookL 0 0 (restL r)).1 then 1 else (lookL 0 0 (restL r)).2.2), ?_, ?_, ?_⟩
  · rintro e B ⟨rfl, he⟩ scr
    refine ⟨fun h1 => ?_, fun h1 => ?_⟩
    · have h1' : e ≠ 0 := by simpa using h1
      have hb := takeM_bad (ρ := ρ) h0' he h1'
      refine setE hA ?_
      intro C hC
      have := kk C _ (by rw [hb]; exact hC)
      rw [hb] at this
      exact this
    · have h1' : e = 0 := by simpa using h1
      have hlk : (lookL 0 0 (restL r)).2.2 = 0 ∧ ¬ r.1.size - r.2.1 - (lookL 0 0 (restL r)).2.1 < ρ (lookL 0 0 (restL r)).1 := by
        rw [h1'] at he
        by_cases h2 : (lookL 0 0 (restL r)).2.2 = 0
        · refine ⟨h2, fun h3 => ?_⟩
          rw [if_pos ⟨h2, h3⟩] at he
          cases he
        · rw [if_neg (fun h => h2 h.1)] at he
          exact absurd he.symm h2
      have hg := takeM_good (ρ := ρ) h0' hlk.1 hlk.2
      have hll := hl.1 hlk.1
      have hr := hρ (lookL 0 0 (restL r)).1
      refine ⟨_, hA.ld1, hrest _ _ _ ⟨_, rfl, ?_⟩⟩
      rw [hg] at kk
      generalize lookL 0 0 (restL r) = L at *
      have e1 : w64 ((r.2.1 : Int) + (L.2.1 : Int)) = ((r.2.1 + L.2.1 : Nat) : Int) := by rw [w64_id (by omega) (by omega)]; omega
      rw [e1]
      have e2 : w64 (((r.2.1 + L.2.1 : Nat) : Int) + (ρ L.1 : Int)) = ((r.2.1 + L.2.1 + ρ L.1 : Nat) : Int) := by rw [w64_id (by omega) (by omega)]; omega
      refine setAt (n := r.2.1 + L.2.1 + ρ L.1) hA e2 (by omega) ?_
      intro C hC
      have hC' := hC
      rw [h0'] at hC'
      refine ⟨_, hC.st.ld0, _, hC.st.ld1, ?_⟩
      show SlS r.1 ((r.2.1 + L.2.1 : Nat) : Int) ((r.2.1 + L.2.1 + ρ L.1 : Nat) : Int) _
      refine ⟨⟨by omega, by omega, by omega⟩, ?_⟩
      rw [Int.toNat_natCast, Int.toNat_natCast]
      exact kk C _ hC'
  · intro h1
    have h1' : (lookL 0 0 (restL r)).2.2 = 0 := by simpa using h1
    have hll := hl.1 h1'
    have hr := hρ (lookL 0 0 (restL r)).1
    rw [h1']
    generalize lookL 0 0 (restL r) = L at *
    have e1 : w64 (w64 ((r.1.size : Int) - (r.2.1 : Int)) - (L.2.1 : Int)) = ((r.1.size - r.2.1 - L.2.1 : Nat) : Int) := by
      rw [w64_id (x := (r.1.size : Int) - (r.2.1 : Int)) (by omega) (by omega), w64_id (by omega) (by omega)]
      omega
    have fin : ((decide ((ρ L.1 : Int) > w64 (w64 ((r.1.size : Int) - (r.2.1 : Int)) - (L.2.1 : Int))) = true → (A = A ∧ (1 : Int) = if (0 : Int) = 0 ∧ r.1.size - r.2.1 - L.2.1 < ρ L.1 then 1 else 0)) ∧
        (decide ((ρ L.1 : Int) > w64 (w64 ((r.1.size : Int) - (r.2.1 : Int)) - (L.2.1 : Int))) = false → (A = A ∧ (0 : Int) = if (0 : Int) = 0 ∧ r.1.size - r.2.1 - L.2.1 < ρ L.1 then 1 else 0))) := by
      rw [e1]
      refine ⟨fun h => ⟨rfl, ?_⟩, fun h => ⟨rfl, ?_⟩⟩
      · have h' : ((ρ L.1 : Nat) : Int) > ((r.1.size - r.2.1 - L.2.1 : Nat) : Int) := of_decide_eq_true h
        rw [if_pos ⟨rfl, by omega⟩]
      · have h' : ¬ ((ρ L.1 : Nat) : Int) > ((r.1.size - r.2.1 - L.2.1 : Nat) : Int) := of_decide_eq_false h
        rw [if_neg]
        rintro ⟨_, h2⟩
        omega
    refine ⟨hrest _ _ _ ⟨_, rfl, _, hA.ld0, _, hA.ld1, fin⟩, ⟨_, hA.ld0, hrest _ _ _ ⟨_, rfl, _, hA.ld1, fin⟩, _, hA.ld1, hrest _ _ _ ⟨_, rfl, fin⟩⟩, _, hA.ld1, hrest _ _ _ ⟨_, rfl, _, hA.ld0, fin⟩, _, hA.ld0, hrest _ _ _ ⟨_, rfl, fin⟩⟩
  · intro h1
    have h1' : ¬ (lookL 0 0 (restL r)).2.2 = 0 := by simpa using h1
    have e : (lookL 0 0 (restL r)).2.2 = (if (lookL 0 0 (restL r)).2.2 = 0 ∧ r.1.size - r.2.1 - (lookL 0 0 (restL r)).2.1 < ρ (lookL 0 0 (restL r)).1 then 1 else (lookL 0 0 (restL r)).2.2) := by
      rw [if_neg (fun h => h1' h.1)]
    exact ⟨⟨rfl, e⟩, ⟨⟨rfl, e⟩, ⟨rfl, e⟩⟩, ⟨rfl, e⟩, ⟨rfl, e⟩⟩

theorem okN1 : fnOk Try.prog 108 = true := by kernel_rfl
theorem okT1 : fnOk Try.prog 109 = true := by kernel_rfl
theorem vnumber_ok {K : Value → Hp → Prop} {Z : List PanicEntry → Hp → Prop} (h : RdS H b o T cs r) (k : ∀ H' cs', RdTo H H' b o T cs cs' (numM r).2 → K (.int .i64 ((numM r).1 : Int)) H') : CallF Try.prog 71 #[.pointer (some ⟨b, o, none⟩)] H K Z := by
  refine V71_ok ?_
  unfold V71
  refine take_ok (ρ := fun _ => 0) (fun n => Nat.zero_le _) ?_ h ?_
  · intro n A K' hk
    unfold callV
    simp only [okN1, if_true]
    exact V108_ok hk
  · intro A c2 hA
    exact ⟨_, _, rfl, k A c2 hA⟩
theorem vtext_ok {K : Value → Hp → Prop} {Z : List PanicEntry → Hp → Prop} (h : RdS H b o T cs r) (k : ∀ H' cs', RdTo H H' b o T cs cs' (textM r).2 → K (.string (textM r).1) H') : CallF Try.prog 74 #[.pointer (some ⟨b, o, none⟩)] H K Z := by
  refine V74_ok ?_
  unfold V74
  refine take_ok (ρ := id) (fun n => Nat.le_refl _) ?_ h ?_
  · intro n A K' hk
    unfold callV
    simp only [okT1, if_true]
    exact V109_ok hk
  · intro A c2 hA
    exact ⟨_, _, rfl, k A c2 hA⟩
end
end Go.Proofs.Ytigbdoicgdmliaa.C02R

