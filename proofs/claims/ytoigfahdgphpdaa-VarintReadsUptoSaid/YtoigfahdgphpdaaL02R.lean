/- weftlaw02: the laws VarintReads, VarintBack and VarintOne over heaps. -/
import Derived.Test.YtoigfahdgphpdaaL02
import Derived.Test.YtoigfahdgphpdaaQ02R
set_option linter.unusedVariables false
set_option linter.unusedSimpArgs false
-- tRdr: 106
-- tQr: 58
-- lawReads: 9
-- lawBack: 5
-- lawOne: 6
-- vText: 27
-- vNumber: 28
-- tPut: 29
-- works: 25
namespace Go.Proofs.Ytoigfahdgphpdaa.L02R
open Go Go.V Go.Proofs Go.Proofs.Ytoigfahdgphpdaa.N02 Go.Proofs.Ytoigfahdgphpdaa.Bld Go.Proofs.Ytoigfahdgphpdaa.P02 Go.Proofs.Ytoigfahdgphpdaa.L02 Go.Proofs.Ytoigfahdgphpdaa.C02R Go.Proofs.Ytoigfahdgphpdaa.Q02R
attribute [local irreducible] Cvt ExtF CallF hrun
theorem same2 {a : Int} {P Q : Prop} (h : Q) : (((a != a) = true → P) ∧ ((a != a) = false → Q)) := ⟨fun h => by simp at h, fun _ => h⟩
theorem sameS {a : ByteArray} {P Q : Prop} (h : Q) : (((!(beqS a a)) = true → P) ∧ ((!(beqS a a)) = false → Q)) := ⟨fun h => by simp [beqS_self] at h, fun _ => h⟩
/-- a row of numbers -/
structure Ints (H : Hp) (s : Sl) (xs : List Int) : Prop where
  len : s.n = xs.length
  big : xs.length ≤ 1048576
  el : ∀ (i : Nat) (x : Int), xs[i]? = some x → ∃ ad, s.a = some ad ∧ hcell H (ad.add (i * 1)) = some (.int .i64 x)
theorem Ints.keep {S : Nat → Prop} {H H' : Hp} {s : Sl} {xs : List Int} (h : Ints H s xs) (hf : Fr S H H') (hs : ∀ i, i < H.size → ¬ S i) : Ints H' s xs := by
  refine ⟨h.len, h.big, fun i p hp => ?_⟩
  obtain ⟨ad, h2, h3⟩ := h.el i p hp
  exact ⟨ad, h2, hf.cell h3 (hs _ (hcell_lt h3))⟩
theorem reads_ok {H : Hp} {s : ByteArray} {l : Sl} {xs : List Int} {K : Value → Hp → Prop} {Z : List PanicEntry → Hp → Prop} (h : Ints H l xs) (hs : s.size ≤ 1048576) (k : ∀ H', Fr no H H' → K (.bool true) H') : CallF Try.prog 9 #[.string s, .slice l.a l.n l.c] H K Z := by
  refine V9_ok ?_
  unfold V9
  have hl := h.len
  have hb := h.big
  refine new_ok (by omega) ?_
  intro b1 A e1 r1 f1
  refine ⟨_, rfl, ?_⟩
  intro b2 B hn2
  have e2 := hn2.eq
  have hlt1 := r1.blk.lt
  refine ⟨fun h => by simp at h, fun _ => ?_⟩
  have q1 : RdS B b2 0 58 [.string s, .int .i64 0, .int .i64 0] (s, 0, 0) := ⟨hn2.blk, rfl, rfl, rfl, Nat.zero_le _, by show s.size ≤ _; omega⟩
  have hne : b2 ≠ b1 := by omega
  have hAs := f1.size
  refine ⟨fun i C m => ∃ r c1 c2, 0 ≤ i ∧ i ≤ 300 ∧ i ≤ l.n ∧ m = 300 - i.toNat ∧ RdS C b1 0 106 c1 r ∧ RdS C b2 0 58 c2 r ∧ Fr no H C, ⟨_, _, _, _, by omega, by omega, by omega, rfl, r1.keep (S := no) hn2.fr (fun h => h), q1, f1.trans hn2.fr⟩, ?_⟩
  rintro i C m ⟨r, c1, c2, h0, h300, hln, rfl, hr, hq, hf⟩ scr
  refine ⟨fun D => D = C ∧ i < l.n ∧ i < 300, ?_, ?_⟩
  · rintro D ⟨rfl, hlt, h3⟩ scr1
    have next : ∀ (E : Hp) (r' : Rd) (c1 c2 : List Value), RdS E b1 0 106 c1 r' → RdS E b2 0 58 c2 r' → Fr no H E → ∃ m2, m2 < 300 - i.toNat ∧ ∃ r c1 c2, 0 ≤ w64 (i + 1) ∧ w64 (i + 1) ≤ 300 ∧ w64 (i + 1) ≤ l.n ∧ m2 = 300 - (w64 (i + 1)).toNat ∧ RdS E b1 0 106 c1 r ∧ RdS E b2 0 58 c2 r ∧ Fr no H E := by
      intro E r' c1 c2 k1 k2 kf
      rw [w64_id (by omega) (by omega)]
      exact ⟨300 - (i + 1).toNat, by omega, r', c1, c2, by omega, by omega, by omega, rfl, k1, k2, kf⟩
    have both : ∀ {E F : Hp} {r' : Rd} {d1 d2 : List Value}, RdTo D E b1 0 106 c1 d1 r' → RdTo E F b2 0 58 c2 d2 r' → RdS F b1 0 106 d1 r' ∧ RdS F b2 0 58 d2 r' ∧ Fr no H F := by
      intro E F r' d1 d2 k1 k2
      refine ⟨k1.st.keep k2.fr (Ne.symm hne), k2.st, ?_⟩
      refine (hf.step k1.fr ?_).step k2.fr ?_
      · intro j hj e; omega
      · intro j hj e; omega
    have hq' : ∀ {E : Hp} {r' : Rd} {d1 : List Value}, RdTo D E b1 0 106 c1 d1 r' → RdS E b2 0 58 c2 r := fun k1 => hq.keep k1.fr hne
    have hp : xs[i.toNat]? = some (xs[i.toNat]'(by omega)) := List.getElem?_eq_getElem (by omega)
    have hI := h.keep hf (fun _ _ h => h)
    obtain ⟨ad, ha, hc⟩ := hI.el _ _ hp
    refine ⟨ad, ha, ⟨h0, hlt⟩, _, hc, fun _ => ?_, fun _ => ⟨fun _ => ?_, fun _ => ⟨fun _ => ?_, fun _ => ⟨fun _ => ?_, fun _ => ?_⟩⟩⟩⟩
    · refine vnumber_ok hr ?_
      intro E d1 hE
      refine ⟨_, rfl, qnumber_ok (hq' hE) ?_⟩
      intro F d2 hF
      obtain ⟨g1, g2, g3⟩ := both hE hF
      exact ⟨_, rfl, same2 (done_ok g1 ⟨_, _, rfl, qdone_ok g2 ⟨_, _, rfl, same2 (same2 (next F _ _ _ g1 g2 g3))⟩⟩)⟩
    · refine vtext_ok hr ?_
      intro E d1 hE
      refine ⟨_, rfl, qtext_ok (hq' hE) ?_⟩
      intro F d2 hF
      obtain ⟨g1, g2, g3⟩ := both hE hF
      exact ⟨_, rfl, sameS (done_ok g1 ⟨_, _, rfl, qdone_ok g2 ⟨_, _, rfl, same2 (same2 (next F _ _ _ g1 g2 g3))⟩⟩)⟩
    · refine fail_ok hr ?_
      intro E d1 hE
      refine ⟨rfl, qfail_ok (hq' hE) ?_⟩
      intro F d2 hF
      obtain ⟨g1, g2, g3⟩ := both hE hF
      exact ⟨rfl, done_ok g1 ⟨_, _, rfl, qdone_ok g2 ⟨_, _, rfl, same2 (same2 (next F _ _ _ g1 g2 g3))⟩⟩⟩
    · refine fail_ok hr ?_
      intro E d1 hE
      refine ⟨rfl, qfail_ok (hq' hE) ?_⟩
      intro F d2 hF
      obtain ⟨g1, g2, g3⟩ := both hE hF
      exact ⟨rfl, done_ok g1 ⟨_, _, rfl, qdone_ok g2 ⟨_, _, rfl, same2 (same2 (next F _ _ _ g1 g2 g3))⟩⟩⟩
    · exact done_ok hr ⟨_, _, rfl, qdone_ok hq ⟨_, _, rfl, same2 (same2 (next D _ _ _ hr hq hf))⟩⟩
  · have fin : CallF Try.prog 25 #[] C (fun r19 H23 => ∃ y5 : Bool, r19 = .bool y5 ∧ K (.bool y5) H23) Z := by
      refine works_ok ?_
      intro E hE
      exact ⟨_, rfl, k E (hf.trans hE)⟩
    refine ⟨fun hlt => ⟨fun h3 => ⟨rfl, by simpa using hlt, by simpa using h3⟩, fun _ => fin⟩, fun _ => fin⟩
theorem putL_ok {xs : List Put} (h : (putL xs).2 = 0) : (∀ p ∈ xs, okP p) ∧ (putL xs).1 = xs.flatMap encP := by
  obtain ⟨_, h1, h2⟩ := foldl_ok xs ([], 0) h
  exact ⟨h1, by simpa [putL] using h2⟩
/-- the place behind the first i that were put -/
def posP (xs : List Put) (i : Nat) : Nat := ((xs.take i).flatMap encP).length
theorem parts {xs : List Put} {i : Nat} {p : Put} (hp : xs[i]? = some p) : xs.flatMap encP = (xs.take i).flatMap encP ++ (encP p ++ (xs.drop (i + 1)).flatMap encP) := by
  obtain ⟨hi, rfl⟩ := List.getElem?_eq_some_iff.1 hp
  have : xs = xs.take i ++ (xs[i] :: xs.drop (i + 1)) := by rw [← List.drop_eq_getElem_cons hi, List.take_append_drop]
  conv => lhs; rw [this]
  rw [List.flatMap_append, List.flatMap_cons]
theorem posP_succ {xs : List Put} {i : Nat} {p : Put} (hp : xs[i]? = some p) : posP xs (i + 1) = posP xs i + (encP p).length := by
  obtain ⟨hi, rfl⟩ := List.getElem?_eq_some_iff.1 hp
  unfold posP
  rw [List.take_succ_eq_append_getElem hi, List.flatMap_append, List.length_append]
  simp
theorem back_text {xs : List Put} {i : Nat} {p : Put} (hp : xs[i]? = some p) (ht : p.1 = true) (hok : okP p) : textM (⟨(xs.flatMap encP).toArray⟩, posP xs i, 0) = (p.2.2, (⟨(xs.flatMap encP).toArray⟩, posP xs (i + 1), 0)) := by
  have hs : p.2.2.size ≤ 200000 := by simpa [okP, ht] using hok
  have he : encP p = numB p.2.2.size ++ p.2.2.data.toList := by simp [encP, ht]
  rw [text_again (at_ := posP xs i) (t := p.2.2) (pre := (xs.take i).flatMap encP) (rest := (xs.drop (i + 1)).flatMap encP) (by rw [parts hp, he, List.append_assoc]) rfl (by omega), posP_succ hp, he]
  have : p.2.2.data.toList.length = p.2.2.size := by simp
  rw [List.length_append, this, Nat.add_assoc]
theorem back_num {xs : List Put} {i : Nat} {p : Put} (hp : xs[i]? = some p) (ht : p.1 = false) (hok : okP p) : numM (⟨(xs.flatMap encP).toArray⟩, posP xs i, 0) = (p.2.1.toNat, (⟨(xs.flatMap encP).toArray⟩, posP xs (i + 1), 0)) ∧ (p.2.1.toNat : Int) = p.2.1 := by
  have hs : 0 ≤ p.2.1 ∧ p.2.1 ≤ 268435456 := by simpa [okP, ht] using hok
  have he : encP p = numB p.2.1.toNat := by simp [encP, ht]
  refine ⟨?_, by omega⟩
  rw [num_again (n := p.2.1.toNat) (rest := (xs.drop (i + 1)).flatMap encP) ?_ (by omega), posP_succ hp, he]
  show (xs.flatMap encP).drop (posP xs i) = _
  rw [parts hp, he]
  exact List.drop_left
theorem sameD {a : Int} {P Q : Prop} (h : P) : (((a == a) = true → P) ∧ ((a == a) = false → Q)) := ⟨fun _ => h, fun h => by simp at h⟩
theorem back_ok {H : Hp} {l : Sl} {xs : List Put} {K : Value → Hp → Prop} {Z : List PanicEntry → Hp → Prop} (h : Puts H l xs) (k : ∀ H', Fr no H H' → K (.bool true) H') : CallF Try.prog 5 #[.slice l.a l.n l.c] H K Z := by
  refine V5_ok ?_
  unfold V5
  have hl := h.len
  have hb := h.big
  refine works_ok ?_
  intro A fA
  refine ⟨true, rfl, fun h => by simp at h, fun _ => ?_⟩
  have hA := h.keep fA (fun _ _ h => h)
  refine light_ok hA ?_
  intro y1
  refine ⟨y1, rfl, fun _ => k A fA, fun _ => ?_⟩
  refine write_ok hA ?_
  intro B fB
  have fHB := fA.trans fB
  have hlen := take_len xs (fun i p hp => (h.el i p hp).1) xs.length
  rw [List.take_length] at hlen
  have hPB := hA.keep fB (fun _ _ h => h)
  unfold doneV
  split
  · rename_i h0
    obtain ⟨hok, hst⟩ := putL_ok h0
    refine ⟨_, _, rfl, fun h => by simp at h, fun _ => ?_⟩
    rw [hst] at hlen ⊢
    have hsz : (⟨(xs.flatMap encP).toArray⟩ : ByteArray).size = (xs.flatMap encP).length := rfl
    refine new_ok (by rw [hsz]; omega) ?_
    intro b1 C e1 r1 fC
    refine ⟨_, rfl, fun h => by simp at h, fun _ => ?_⟩
    refine ⟨fun i D m => ∃ c1, 0 ≤ i ∧ i ≤ l.n ∧ m = l.n - i.toNat ∧ RdS D b1 0 106 c1 (⟨(xs.flatMap encP).toArray⟩, posP xs i.toNat, 0) ∧ Fr no B D, ⟨_, _, by omega, by omega, rfl, r1, fC⟩, ?_⟩
    rintro i D m ⟨c1, i0, i1, rfl, hr, fD⟩ scr
    have hP := hPB.keep fD (fun _ _ h => h)
    refine ⟨fun hlt => ?_, fun hge => ?_⟩
    · have hlt' : i < l.n := by simpa using hlt
      have hp : xs[i.toNat]? = some (xs[i.toNat]'(by omega)) := List.getElem?_eq_getElem (by omega)
      have hokp := hok _ (List.mem_of_getElem? hp)
      have next : ∀ {E : Hp} {c2 : List Value}, RdTo D E b1 0 106 c1 c2 (⟨(xs.flatMap encP).toArray⟩, posP xs (i.toNat + 1), 0) → (∃ m2, m2 < l.n - i.toNat ∧ ∃ c1, 0 ≤ w64 (i + 1) ∧ w64 (i + 1) ≤ l.n ∧ m2 = l.n - (w64 (i + 1)).toNat ∧ RdS E b1 0 106 c1 (⟨(xs.flatMap encP).toArray⟩, posP xs (w64 (i + 1)).toNat, 0) ∧ Fr no B E) := by
        intro E c2 hE
        rw [w64_id (by omega) (by omega)]
        have e : (i + 1).toNat = i.toNat + 1 := by omega
        rw [e]
        refine ⟨l.n - (i.toNat + 1), by omega, c2, by omega, by omega, rfl, hE.st, fD.step hE.fr ?_⟩
        intro j hj ej
        omega
      have fE : ∀ {E : Hp} {c2 : List Value} {r' : Rd}, RdTo D E b1 0 106 c1 c2 r' → Fr no B E := fun hE => fD.step hE.fr (by intro j hj ej; omega)
      obtain ⟨hs, ad, ha, cc0, cc1, cc2⟩ := hP.el _ _ hp
      have bt := back_text (i := i.toNat) hp
      have bn := back_num (i := i.toNat) hp
      generalize xs[i.toNat]'(by omega) = p at *
      refine ⟨ad, ha, ⟨i0, hlt'⟩, _, cc0, ?_, ?_⟩
      · intro ht
        have bt' := bt ht hokp
        have tail : ∀ {E : Hp} {c2 : List Value}, RdTo D E b1 0 106 c1 c2 (textM (⟨(xs.flatMap encP).toArray⟩, posP xs i.toNat, 0)).2 → Puts E l xs ∧ (∃ m2, m2 < l.n - i.toNat ∧ ∃ c1, 0 ≤ w64 (i + 1) ∧ w64 (i + 1) ≤ l.n ∧ m2 = l.n - (w64 (i + 1)).toNat ∧ RdS E b1 0 106 c1 (⟨(xs.flatMap encP).toArray⟩, posP xs (w64 (i + 1)).toNat, 0) ∧ Fr no B E) := by
          intro E c2 hE
          rw [bt'] at hE
          exact ⟨hPB.keep (fE hE) (fun _ _ h => h), next hE⟩
        refine ⟨ad, ha, ⟨i0, hlt'⟩, ?_, _, cc2, ?_⟩
        · refine vtext_ok hr ?_
          intro E c2 hE
          obtain ⟨hPE, hn⟩ := tail hE
          obtain ⟨_, ad', ha', d0, d1, d2⟩ := hPE.el _ _ hp
          obtain rfl : ad' = ad := by rw [ha] at ha'; exact (Option.some.inj ha').symm
          refine ⟨_, rfl, _, d2, ?_⟩
          rw [bt']
          refine sameS ⟨ad', ha, ⟨i0, hlt'⟩, _, d0, fun hx => ?_, fun _ => ⟨hn, hn⟩⟩
          rw [ht] at hx; cases hx
        · refine vtext_ok hr ?_
          intro E c2 hE
          obtain ⟨hPE, hn⟩ := tail hE
          obtain ⟨_, ad', ha', d0, d1, d2⟩ := hPE.el _ _ hp
          obtain rfl : ad' = ad := by rw [ha] at ha'; exact (Option.some.inj ha').symm
          refine ⟨_, rfl, ?_⟩
          rw [bt']
          refine sameS ⟨ad', ha, ⟨i0, hlt'⟩, _, d0, fun hx => ?_, fun _ => ⟨hn, hn⟩⟩
          rw [ht] at hx; cases hx
      · intro ht
        obtain ⟨bn', hcast⟩ := bn ht hokp
        have numb : (CallF Try.prog 28 #[.pointer (some ⟨b1, 0, none⟩)] D (fun r10 E => ∃ y9 : Int, r10 = .int .i64 y9 ∧ ∃ x10 : Int, hcell E (Addr.add (ad.add (i.toNat * 3)) 1) = some (.int .i64 x10) ∧ (((y9 != x10) = true → K (.bool false) E) ∧ ((y9 != x10) = false → (∃ m2, m2 < l.n - i.toNat ∧ ∃ c1, 0 ≤ w64 (i + 1) ∧ w64 (i + 1) ≤ l.n ∧ m2 = l.n - (w64 (i + 1)).toNat ∧ RdS E b1 0 106 c1 (⟨(xs.flatMap encP).toArray⟩, posP xs (w64 (i + 1)).toNat, 0) ∧ Fr no B E)))) Z) ∧
            (∃ x11 : Int, hcell D (Addr.add (ad.add (i.toNat * 3)) 1) = some (.int .i64 x11) ∧ CallF Try.prog 28 #[.pointer (some ⟨b1, 0, none⟩)] D (fun r11 E => ∃ y10 : Int, r11 = .int .i64 y10 ∧ (((y10 != x11) = true → K (.bool false) E) ∧ ((y10 != x11) = false → (∃ m2, m2 < l.n - i.toNat ∧ ∃ c1, 0 ≤ w64 (i + 1) ∧ w64 (i + 1) ≤ l.n ∧ m2 = l.n - (w64 (i + 1)).toNat ∧ RdS E b1 0 106 c1 (⟨(xs.flatMap encP).toArray⟩, posP xs (w64 (i + 1)).toNat, 0) ∧ Fr no B E)))) Z) := by
          refine ⟨?_, _, cc1, ?_⟩
          · refine vnumber_ok hr ?_
            intro E c2 hE
            have hPE := hPB.keep (fE hE) (fun _ _ h => h)
            obtain ⟨_, ad', ha', d0, d1, d2⟩ := hPE.el _ _ hp
            obtain rfl : ad' = ad := by rw [ha] at ha'; exact (Option.some.inj ha').symm
            rw [bn'] at hE ⊢
            refine ⟨_, rfl, _, d1, ?_⟩
            simp only [hcast]
            exact same2 (next hE)
          · refine vnumber_ok hr ?_
            intro E c2 hE
            rw [bn'] at hE ⊢
            refine ⟨_, rfl, ?_⟩
            simp only [hcast]
            exact same2 (next hE)
        refine ⟨⟨ad, ha, ⟨i0, hlt'⟩, _, cc0, fun _ => ⟨ad, ha, ⟨i0, hlt'⟩, numb⟩, fun hx => ?_⟩, ⟨ad, ha, ⟨i0, hlt'⟩, _, cc0, fun _ => ⟨ad, ha, ⟨i0, hlt'⟩, numb⟩, fun hx => ?_⟩⟩
        · rw [ht] at hx; cases hx
        · rw [ht] at hx; cases hx
    · have hge' : l.n ≤ i := by simpa using hge
      have epos : posP xs i.toNat = (xs.flatMap encP).length := by
        unfold posP
        rw [List.take_of_length_le (by omega)]
      rw [epos] at hr
      refine done_ok hr ?_
      have ed : rdoneM ((⟨(xs.flatMap encP).toArray⟩, (xs.flatMap encP).length, 0) : Rd) = ((xs.flatMap encP).length, 0) := by
        unfold rdoneM
        rw [if_neg]
        rintro ⟨_, h⟩
        exact Nat.lt_irrefl _ h
      rw [ed]
      refine ⟨_, _, rfl, ?_⟩
      rw [hsz]
      exact sameD (k D (fHB.trans fD))
  · rename_i h0
    refine ⟨_, _, rfl, fun _ => k B fHB, fun h => absurd (by simpa using h) h0⟩
theorem one_ok {H : Hp} {s : ByteArray} {K : Value → Hp → Prop} {Z : List PanicEntry → Hp → Prop} (hs : s.size ≤ 1048576) (k : ∀ H', Fr no H H' → K (.bool true) H') : CallF Try.prog 6 #[.string s] H K Z := by
  refine V6_ok ?_
  unfold V6
  refine works_ok ?_
  intro A fA
  refine ⟨true, rfl, fun h => by simp at h, fun _ => ⟨fun _ => k A fA, fun hsz => ?_⟩⟩
  have hsz' : s.size ≤ 20000 := by
    have : ¬ (s.size : Int) > 20000 := of_decide_eq_false hsz
    omega
  refine new_ok (by omega) ?_
  intro b1 C e1 r1 fC
  have fHC := fA.trans fC
  refine ⟨_, rfl, fun h => by simp at h, fun _ => ?_⟩
  refine vnumber_ok r1 ?_
  intro D c1 hD
  refine ⟨_, rfl, vtext_ok hD.st ?_⟩
  intro E c2 hE
  refine ⟨_, rfl, done_ok hE.st ⟨_, _, rfl, fun _ => ?_, fun hz => ?_⟩⟩
  · refine k E (fHC.step (hD.fr.trans hE.fr) ?_)
    intro j hj ej
    have := fA.size
    omega
  have fE : Fr no H E := by
    refine fHC.step (hD.fr.trans hE.fr) ?_
    intro j hj ej
    have := fA.size
    omega
  intro b2 F hnF
  have hle := hE.st.le
  have hz' : (rdoneM (textM (numM (s, 0, 0)).2).2).2 = 0 := by simpa using hz
  have hst := (takeM_le (ρ := fun _ => 0) (r := (s, 0, 0)) (Nat.zero_le _)).1
  have hst2 : (textM (numM (s, 0, 0)).2).2.1 = s := (takeM_le (ρ := id) (r := (numM (s, 0, 0)).2) hD.st.le).1.trans hst
  have h1 : (textM (numM (s, 0, 0)).2).2.2.2 = 0 ∧ (textM (numM (s, 0, 0)).2).2.2.1 = s.size := by
    unfold rdoneM at hz'
    by_cases hc : (textM (numM (s, 0, 0)).2).2.2.2 = 0 ∧ (textM (numM (s, 0, 0)).2).2.2.1 < (textM (numM (s, 0, 0)).2).2.1.size
    · rw [if_pos hc] at hz'
      cases hz'
    · rw [if_neg hc] at hz'
      refine ⟨hz', ?_⟩
      have : ¬ (textM (numM (s, 0, 0)).2).2.2.1 < (textM (numM (s, 0, 0)).2).2.1.size := fun h => hc ⟨hz', h⟩
      rw [hst2] at this hle
      omega
  have h0 : (numM (s, 0, 0)).2.2.2 = 0 := by
    apply Classical.byContradiction
    intro hne
    have := textM_err (r := (numM (s, 0, 0)).2) hne
    rw [this] at h1
    exact hne h1.1
  obtain ⟨w1, w2, w3⟩ := one_way h0 h1.1 h1.2
  generalize (numM (s, 0, 0)).1 = n at *
  generalize (textM (numM (s, 0, 0)).2).1 = t at *
  have hb : Blk F b2 [.bool false, .int .i64 (n : Int), .string ⟨#[]⟩, .bool true, .int .i64 0, .string t] 29 := hnF.blk
  have hP : Puts F ⟨some ⟨b2, 0, none⟩, 2, 2⟩ [(false, (n : Int), ⟨#[]⟩), (true, 0, t)] := by
    refine ⟨rfl, by simp, ?_⟩
    intro i p hp
    match i with
    | 0 =>
      simp only [List.getElem?_cons_zero, Option.some.injEq] at hp
      subst hp
      refine ⟨by show (0 : Nat) ≤ _; omega, _, rfl, ?_, ?_, ?_⟩ <;> (simp only [add_mk]; rw [hb.ld]; rfl)
    | 1 =>
      simp only [List.getElem?_cons_succ, List.getElem?_cons_zero, Option.some.injEq] at hp
      subst hp
      refine ⟨by show t.size ≤ _; omega, _, rfl, ?_, ?_, ?_⟩ <;> (simp only [add_mk]; rw [hb.ld]; rfl)
    | i + 2 => simp at hp
  refine write_ok hP ?_
  intro G fG
  have ep : putL [(false, (n : Int), ⟨#[]⟩), (true, 0, t)] = (s.data.toList, 0) := by
    have c1 : ¬ ((n : Int) < 0 ∨ 268435456 < (n : Int)) := by omega
    have c2 : ¬ 200000 < t.size := by omega
    simp only [putL, List.foldl_cons, List.foldl_nil, putP, putN, putT, Bool.false_eq_true, if_false, if_true, ne_eq, not_true_eq_false, c1, c2, Int.toNat_natCast, List.nil_append, w1]
  rw [ep]
  refine ⟨_, _, rfl, fun _ => ?_, fun h => by simp at h⟩
  have eb : beqS (⟨s.data.toList.toArray⟩ : ByteArray) s = true := by
    have : (⟨s.data.toList.toArray⟩ : ByteArray) = s := by
      apply ByteArray.ext
      simp
    rw [this, beqS_self]
  show K (.bool (beqS (⟨s.data.toList.toArray⟩ : ByteArray) s)) G
  rw [eb]
  exact k G ((fE.trans hnF.fr).trans fG)
end Go.Proofs.Ytoigfahdgphpdaa.L02R

