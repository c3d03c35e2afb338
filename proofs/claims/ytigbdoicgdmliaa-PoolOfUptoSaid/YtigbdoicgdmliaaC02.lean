/- varint.Writer, wherever it lies in a block: what its methods do. -/
import Derived.Test.YtigbdoicgdmliaaBld
import Derived.Test.YtigbdoicgdmliaaP02
set_option linter.unusedVariables false
set_option linter.unusedSimpArgs false
-- tPW: 64
-- tInt: 3
-- bWriteByte: 105
-- bWriteString: 106
-- bString: 67
-- groups: 104
-- groupsL: 141
-- wNumber: 64
-- wText: 66
-- wDone: 33
namespace Go.Proofs.Ytigbdoicgdmliaa.C02
open Go Go.V Go.Proofs Go.Proofs.Ytigbdoicgdmliaa.N02 Go.Proofs.Ytigbdoicgdmliaa.Bld Go.Proofs.Ytigbdoicgdmliaa.P02
attribute [local irreducible] Cvt ExtF CallF hrun

theorem okGroupsL : fnOk Try.prog 141 = true := by kernel_rfl
theorem groupsL_ok {H : Hp} {yield : Value} {bN : Nat} {x : Int} {K : Value → Hp → Prop} {Z : List PanicEntry → Hp → Prop} (Inv : List UInt8 → Hp → Prop) (hb : Blk H bN [.int .i64 x] 3) (hx : 0 ≤ x) (hx2 : x ≤ 4611686018427387904)
    (h0 : Inv [] H) (keep : ∀ done A B, Inv done A → Fr (fun j => j = bN) A B → Inv done B)
    (step : ∀ done (c : UInt8) A v, (∃ tl, done ++ c :: tl = numB x.toNat) → Inv done A → Blk A bN [v] 3 → callV Try.prog yield [.int .u8 (c.toNat : Int)] A (fun r B => r = .bool true ∧ Inv (done ++ [c]) B ∧ Blk B bN [v] 3) Z)
    (fin : ∀ A, Inv (numB x.toNat) A → K (.tuple #[]) A) : CallF Try.prog 141 #[yield, .pointer (some ⟨bN, 0, none⟩)] H K Z := by
  refine V141_ok ?_
  unfold V141
  refine ⟨fun A m => ∃ (y : Int) (done : List UInt8), 0 ≤ y ∧ y ≤ x ∧ m = y.toNat ∧ Blk A bN [.int .i64 y] 3 ∧ Inv done A ∧ done ++ numB y.toNat = numB x.toNat, ⟨x.toNat, x, [], hx, Int.le_refl _, rfl, hb, h0, rfl⟩, ?_⟩
  rintro A m ⟨y, done, hy0, hyx, rfl, hbA, hI, hd⟩ scr
  have hld : hcell A ⟨bN, 0, none⟩ = some (.int .i64 y) := hbA.ld 0
  refine ⟨y, hld, ?_, ?_⟩
  · intro hgt
    have hgt' : 127 < y := by simpa using hgt
    refine ⟨y, hld, ?_⟩
    have e : IntKind.wrap .u8 (bitOr .i64 (bitAnd .i64 y 127) 128) = ((y.toNat % 128 + 128).toUInt8.toNat : Int) := by
      rw [and127 hy0 (by omega), or128 (by omega) (by omega), u8_id (by omega) (by omega)]
      have : (y.toNat % 128 + 128).toUInt8.toNat = y.toNat % 128 + 128 := by
        rw [Nat.toUInt8, UInt8.toNat_ofNat']
        omega
      omega
    rw [e]
    refine callV_mono (step done _ A _ ⟨_, by rw [← hd, numB_ge (n := y.toNat) (by omega)]⟩ hI hbA) ?_ fun _ _ h => h
    rintro r B ⟨rfl, hI2, hbB⟩
    refine ⟨true, rfl, ?_, fun h => by cases h⟩
    intro _
    refine ⟨y, hbB.ld 0, ?_⟩
    refine st_blk hbB (by simp) rfl ?_
    intro C hbC hfC _
    have e2 : Int.fdiv y (2 ^ 7) = y / 128 := by
      rw [Int.fdiv_eq_ediv_of_nonneg _ (by decide)]
      rfl
    refine ⟨(y / 128).toNat, by omega, y / 128, done ++ [_], by omega, by omega, rfl, ?_, keep _ _ _ hI2 hfC, ?_⟩
    · rw [← e2]; exact hbC
    · rw [← hd, numB_ge (n := y.toNat) (by omega)]
      have : (y / 128).toNat = y.toNat / 128 := by omega
      rw [this]
      simp
  · intro hgt
    have hgt' : y ≤ 127 := by simpa using hgt
    refine ⟨y, hld, ?_, fun h => by simp at h; omega⟩
    intro _
    refine ⟨y, hld, ?_⟩
    have e : IntKind.wrap .u8 y = (y.toNat.toUInt8.toNat : Int) := by
      rw [u8_id (by omega) (by omega)]
      have : y.toNat.toUInt8.toNat = y.toNat := by
        rw [Nat.toUInt8, UInt8.toNat_ofNat']
        omega
      omega
    rw [e]
    refine callV_mono (step done _ A _ ⟨_, by rw [← hd, numB_lt (n := y.toNat) (by omega)]⟩ hI hbA) ?_ fun _ _ h => h
    rintro r B ⟨rfl, hI2, hbB⟩
    refine ⟨true, rfl, fin B ?_⟩
    rw [← hd, numB_lt (n := y.toNat) (by omega)]
    exact hI2
/-! ### the writer -/
structure WrS (H : Hp) (b o : Nat) (T : TypeId) (cs : List Value) (st : St) : Prop where
  bld : BldS H b o T cs st.1
  err : cs[o + 2]? = some (.int .i64 st.2)
structure WrTo (H H' : Hp) (b o : Nat) (T : TypeId) (cs cs' : List Value) (st : St) : Prop where
  st : WrS H' b o T cs' st
  len : cs'.length = cs.length
  rest : ∀ i, i ≠ o → i ≠ o + 1 → i ≠ o + 2 → cs'[i]? = cs[i]?
  fr : Fr (fun i => i = b ∨ bOwn cs o i) H H'
  own : ∀ i, bOwn cs' o i → bOwn cs o i ∨ H.size ≤ i
theorem WrTo.refl {H : Hp} {b o : Nat} {T : TypeId} {cs : List Value} {st : St} (h : WrS H b o T cs st) : WrTo H H b o T cs cs st :=
  ⟨h, rfl, fun _ _ _ _ => rfl, Fr.refl _ _, fun _ h => .inl h⟩
theorem WrTo.trans {A B C : Hp} {b o : Nat} {T : TypeId} {c1 c2 c3 : List Value} {xs ys : St} (h : WrTo A B b o T c1 c2 xs) (k : WrTo B C b o T c2 c3 ys) : WrTo A C b o T c1 c3 ys := by
  refine ⟨k.st, k.len.trans h.len, fun i h1 h2 h3 => (k.rest i h1 h2 h3).trans (h.rest i h1 h2 h3), ?_, ?_⟩
  · refine h.fr.step k.fr ?_
    intro i hi ht
    rcases ht with rfl | ht
    · exact .inl rfl
    · rcases h.own i ht with h' | h'
      · exact .inr h'
      · omega
  · intro i hi
    rcases k.own i hi with h' | h'
    · exact h.own i h'
    · exact .inr (Nat.le_trans h.fr.size h')
theorem WrTo.of_bld {A B : Hp} {b o : Nat} {T : TypeId} {c1 c2 : List Value} {st : St} {ys : List UInt8} (hs : WrS A b o T c1 st) (h : BldTo A B b o T c1 c2 ys) : WrTo A B b o T c1 c2 (ys, st.2) :=
  ⟨⟨h.st, by rw [h.rest (o + 2) (by omega) (by omega)]; exact hs.err⟩, h.len, fun i h1 h2 _ => h.rest i h1 h2, h.fr, h.own⟩
theorem WrS.lt {H : Hp} {b o : Nat} {T : TypeId} {cs : List Value} {st : St} (h : WrS H b o T cs st) : o + 2 < cs.length := (List.getElem?_eq_some_iff.1 h.err).1
theorem WrS.ldErr {H : Hp} {b o : Nat} {T : TypeId} {cs : List Value} {st : St} (h : WrS H b o T cs st) : hcell H (Addr.add ⟨b, o, none⟩ 2) = some (.int .i64 st.2) := by
  rw [add_mk, h.bld.blk.ld]
  exact h.err
/-- the error is written -/
theorem setErr {H : Hp} {b o : Nat} {T : TypeId} {cs : List Value} {st : St} {e : Int} {K : Hp → Prop} (h : WrS H b o T cs st) (k : ∀ H', WrTo H H' b o T cs (cs.set (o + 2) (.int .i64 e)) (st.1, e) → H'.size = H.size → K H') :
    StL (Addr.add ⟨b, o, none⟩ 2) 0 [.int .i64 e] H K := by
  rw [add_mk]
  refine st_blk h.bld.blk h.lt rfl ?_
  intro H' hb' hf hs
  obtain ⟨hb, ⟨p, hp1, hp2⟩, ⟨s, hs1, hr, hn⟩, hl⟩ := h.bld
  have hs1' : (cs.set (o + 2) (.int .i64 e))[o + 1]? = some (.slice s.a s.n s.c) := by rw [List.getElem?_set_ne (by omega)]; exact hs1
  refine k H' ⟨⟨⟨hb', ⟨p, by rw [List.getElem?_set_ne (by omega)]; exact hp1, hp2⟩, ⟨s, hs1', hr.keep hf (fun i hi e => hn (e ▸ hi)), hn⟩, by simpa using hl⟩, List.getElem?_set_self h.lt⟩, by simp, ?_, hf.mono fun i _ hi => .inl hi, ?_⟩ hs
  · intro i _ _ hi
    exact List.getElem?_set_ne (Ne.symm hi)
  · intro i hi
    rw [own_iff hs1'] at hi
    rw [own_iff hs1]
    exact .inl hi

theorem number {H : Hp} {b o : Nat} {T : TypeId} {cs : List Value} {st : St} {n : Int} {K : Value → Hp → Prop} {Z : List PanicEntry → Hp → Prop} (h : WrS H b o T cs st) (hl : st.1.length + 5 ≤ 140737488355328)
    (k : ∀ H' cs', WrTo H H' b o T cs cs' (putN st n) → K (.tuple #[]) H') : CallF Try.prog 64 #[.pointer (some ⟨b, o, none⟩), .int .i64 n] H K Z := by
  refine V64_ok ?_
  unfold V64
  intro bW H1 hn1
  have hbW : Blk H1 bW [.pointer (some ⟨b, o, none⟩)] 64 := hn1.blk
  have hbl := h.bld.blk.lt
  have hbW1 := hn1.eq
  have st1 : WrS H1 b o T cs st := ⟨h.bld.keep (S := no) hn1.fr (fun h => h) (fun _ _ h => h), h.err⟩
  have hld : ∀ {A : Hp}, Blk A bW [.pointer (some ⟨b, o, none⟩)] 64 → hcell A ⟨bW, 0, none⟩ = some (.pointer (some ⟨b, o, none⟩)) := fun h => h.ld 0
  have hownW : ¬ bOwn cs o bW := by
    intro hc
    have := h.bld.own_lt hc
    omega
  have to1 : WrTo H H1 b o T cs cs st := ⟨st1, rfl, fun _ _ _ _ => rfl, hn1.fr.of_no, fun _ h => .inl h⟩
  -- the error, and whether it is put
  let st2 : St := if st.2 = 0 ∧ (n < 0 ∨ 268435456 < n) then (st.1, 2) else st
  refine ⟨fun A => Blk A bW [.pointer (some ⟨b, o, none⟩)] 64 ∧ ∃ c2, WrTo H1 A b o T cs c2 st2, ?_, ?_⟩
  · rintro A ⟨hA, c2, to2⟩ scr
    refine ⟨_, hld hA, st2.2, to2.st.ldErr, ?_, ?_⟩
    · intro he
      have he' : st2.2 ≠ 0 := by simpa using he
      refine k A c2 ?_
      have : putN st n = st2 := by
        unfold putN
        by_cases h1 : st.2 = 0
        · by_cases h2 : n < 0 ∨ 268435456 < n
          · simp [st2, h1, h2]
          · simp [st2, h1, h2] at he'
        · simp [st2, h1]
      rw [this]
      exact to1.trans to2
    · intro he
      have he' : st2.2 = 0 := by simpa using he
      have hst : st.2 = 0 ∧ ¬ (n < 0 ∨ 268435456 < n) := by
        by_cases h1 : st.2 = 0 ∧ (n < 0 ∨ 268435456 < n)
        · simp [st2, h1] at he'
        · simp only [st2, if_neg h1] at he'
          exact ⟨he', fun h2 => h1 ⟨he', h2⟩⟩
      have hst2 : st2 = st := by simp only [st2, hst.1, hst.2, and_false, if_false]
      rw [hst2] at to2
      have hput : putN st n = (st.1 ++ numB n.toNat, 0) := by simp [putN, hst]
      refine V104_ok ?_
      unfold V104
      intro bN B hnB
      refine ⟨_, rfl, ?_⟩
      intro D C hnC l E hnE
      unfold callG
      simp only [okGroupsL, if_true]
      have sHA := to2.fr.size
      have e1 := hnB.eq
      have e2 := hnC.eq
      have e3 := hnE.eq
      have z1 := hnB.size
      have z2 := hnC.size
      have z3 := hnE.size
      have zW := hn1.size
      have hbN : Blk E bN [.int .i64 n] 3 := (hnE.fr.blk (hnC.fr.blk hnB.blk fun h => h) fun h => h)
      have hWE : Blk E bW [.pointer (some ⟨b, o, none⟩)] 64 := hnE.fr.blk (hnC.fr.blk (hnB.fr.blk hA fun h => h) fun h => h) fun h => h
      have hDE : E[D]? = some (.deferred (some [])) := hnE.fr.at hnC.get fun h => h
      have hlE := hnE.get
      have hfE : Fr no A E := (hnB.fr.trans hnC.fr).trans hnE.fr
      have bA := to2.st.bld.blk.lt
      have bWA := hA.lt
      have c2W : ¬ bOwn c2 o bW := by
        intro hc
        rcases to2.own _ hc with h' | h'
        · exact hownW h'
        · omega
      have bbW : b ≠ bW := by omega
      have hm := Mid.start to2.st.bld hfE
      -- the loop's record
      obtain ⟨ps, asg, body, hlr⟩ := lrec_eq (f := Try.f64) (n := 5) (by kernel_rfl)
      rw [hlr] at hlE
      have free : ∀ {X : Hp} {c3 : List Value} {ys : List UInt8}, Mid A E.size X b o T c2 c3 ys → ∀ i, (i = bW ∨ A.size ≤ i) → i < E.size → i ≠ b ∧ ¬ bOwn c3 o i := by
        intro X c3 ys hM i h1 h2
        refine ⟨by omega, fun hc => ?_⟩
        rcases hM.own _ hc with h' | h'
        · rcases h1 with rfl | h1
          · exact c2W h'
          · have := hM.oa i h'; omega
        · omega
      refine groupsL_ok (fun done X => ∃ c3, Mid A E.size X b o T c2 c3 (st.1 ++ done) ∧ Blk X bW [.pointer (some ⟨b, o, none⟩)] 64 ∧ X[D]? = some (.deferred (some [])) ∧ X[l]? = some (.loop ⟨.ready, none, _, _, ps, asg, body, D⟩))
        hbN (by omega) (by omega) ⟨c2, by simpa using hm, hWE, hDE, hlE⟩ ?_ ?_ ?_
      · rintro done X Y ⟨c3, hM, h1, h2, h3⟩ hf
        exact ⟨c3, hM.other hf (by omega) (by omega), hf.blk h1 (by omega), hf.at h2 (by omega), hf.at h3 (by omega)⟩
      · rintro done c X v ⟨tl, htl⟩ ⟨c3, hM, h1, h2, h3⟩ hbNX
        unfold callV
        simp only [List.nil_append]
        refine yldC_sound h3 rfl rfl (by rw [hlr]) (by rw [hlr]) (by rw [hlr]) (R64_5_ok ?_)
        unfold R64_5
        refine ⟨_, h3, rfl, ?_⟩
        intro X1 hX1
        obtain ⟨f1, g1, s1⟩ := setB h3 hX1
        have hM1 := hM.other f1 (by omega) (by omega)
        refine ⟨_, hld (f1.blk h1 (by omega)), ?_⟩
        have h5 := numB_len5 (n := n.toNat) (by omega)
        rw [← htl] at h5
        simp only [List.length_append, List.length_cons] at h5
        refine writeByte hM1.st (by simp only [List.length_append]; omega) ?_
        intro X2 c4 hto
        have k1 : ∀ {i : Nat} {x : Obj}, X1[i]? = some x → (i = bW ∨ A.size ≤ i) → i < E.size → X2[i]? = some x := fun hx h1 h2 => hto.keep hx (free hM1 _ h1 h2).1 (free hM1 _ h1 h2).2
        have g2 := k1 g1 (by omega) (by omega)
        refine ⟨_, rfl, _, g2, ?_⟩
        intro X3 hX3
        obtain ⟨f3, g3, s3⟩ := setB g2 hX3
        refine ⟨rfl, ⟨c4, by rw [← List.append_assoc]; exact (hM1.step hto).other f3 (by omega) (by omega), f3.blk (k1 (f1.blk h1 (by omega)) (by omega) (by omega)) (by omega), f3.at (k1 (f1.at h2 (by omega)) (by omega) (by omega)) (by omega), g3⟩, ?_⟩
        exact f3.blk (k1 (f1.blk hbNX (by omega)) (by omega) (by omega)) (by omega)
      · rintro X ⟨c3, hM, h1, h2, h3⟩
        refine ⟨_, h3, rfl, ?_⟩
        intro X1 hX1
        obtain ⟨f1, g1, s1⟩ := setB h3 hX1
        refine ⟨f1.at h2 (by omega), ?_⟩
        intro X2 hX2
        obtain ⟨f2, g2, s2⟩ := setB (f1.at h2 (by omega)) hX2
        have hM2 := (hM.other f1 (by omega) (by omega)).other f2 (by omega) (by omega)
        refine k X2 c3 ?_
        rw [hput]
        have := (to1.trans to2).trans (WrTo.of_bld to2.st hM2.to)
        rw [hst.1] at this
        exact this
  · refine ⟨_, hld hbW, st.2, st1.ldErr, ?_, ?_⟩
    · intro h0
      have h0' : st.2 = 0 := by simpa using h0
      have bad : n < 0 ∨ 268435456 < n → StL (Addr.add ⟨b, o, none⟩ 2) 0 [.int .i64 2] H1 fun A => Blk A bW [.pointer (some ⟨b, o, none⟩)] 64 ∧ ∃ c2, WrTo H1 A b o T cs c2 st2 := by
        intro hb
        have e : st2 = (st.1, 2) := by simp only [st2, h0', hb, and_self, if_true]
        rw [e]
        refine setErr st1 ?_
        intro A to2 _
        exact ⟨to2.fr.blk hbW (by rintro (h | h); · omega
                                  · exact hownW h), _, to2⟩
      refine ⟨?_, ?_⟩
      · intro h1
        exact ⟨_, hld hbW, bad (.inl (by simpa using h1))⟩
      · intro h1
        refine ⟨?_, ?_⟩
        · intro h2
          exact ⟨_, hld hbW, bad (.inr (by simpa using h2))⟩
        · intro h2
          have e : st2 = st := by
            have h1' : ¬ n < 0 := by simpa using h1
            have h2' : ¬ 268435456 < n := by simpa using h2
            simp only [st2, h1', h2', or_self, and_false, if_false]
          rw [e]
          exact ⟨hbW, cs, WrTo.refl st1⟩
    · intro h0
      have h0' : ¬ st.2 = 0 := by simpa using h0
      have e : st2 = st := by simp only [st2, h0', false_and, if_false]
      rw [e]
      exact ⟨hbW, cs, WrTo.refl st1⟩
theorem text {H : Hp} {b o : Nat} {T : TypeId} {cs : List Value} {st : St} {t : ByteArray} {K : Value → Hp → Prop} {Z : List PanicEntry → Hp → Prop} (h : WrS H b o T cs st) (hl : st.1.length + 200005 ≤ 140737488355328)
    (k : ∀ H' cs', WrTo H H' b o T cs cs' (putT st t) → K (.tuple #[]) H') : CallF Try.prog 66 #[.pointer (some ⟨b, o, none⟩), .string t] H K Z := by
  refine V66_ok ?_
  unfold V66
  have good : st.2 = 0 → t.size ≤ 200000 → CallF Try.prog 64 #[.pointer (some ⟨b, o, none⟩), .int .i64 (t.size : Int)] H (fun r H2 =>
      r = .tuple #[] ∧ CallF Try.prog 106 #[.pointer (some ⟨b, o, none⟩), .string t] H2 (fun r1 H3 => ∃ y_0 : Int, ∃ y_1 : Value, r1 = .tuple #[.int .i64 y_0, y_1] ∧ K (.tuple #[]) H3) Z) Z := by
    intro h0 hs
    have hp : putN st (t.size : Int) = (st.1 ++ numB t.size, 0) := by
      have e : (t.size : Int).toNat = t.size := by omega
      have : ¬ ((t.size : Int) < 0 ∨ 268435456 < (t.size : Int)) := by omega
      simp only [putN, h0, this, e, ne_eq, not_true_eq_false, if_false]
    refine number h (by omega) ?_
    intro A c2 h2
    rw [hp] at h2
    have h5 := numB_len5 (n := t.size) (by omega)
    refine ⟨rfl, writeString h2.st.bld (by simp only [List.length_append]; omega) ?_⟩
    intro B c3 h3
    refine ⟨_, _, rfl, k B c3 ?_⟩
    have e : putT st t = (st.1 ++ numB t.size ++ t.data.toList, 0) := by
      have : ¬ 200000 < t.size := by omega
      simp only [putT, h0, this, ne_eq, not_true_eq_false, if_false]
    rw [e]
    exact h2.trans (WrTo.of_bld h2.st h3)
  refine ⟨_, h.ldErr, ?_, ?_⟩
  · intro h0
    have h0' : st.2 = 0 := by simpa using h0
    refine ⟨?_, ?_⟩
    · intro h1
      have h1' : 200000 < t.size := by
        have : (t.size : Int) > 200000 := by simpa using h1
        omega
      refine setErr h ?_
      intro A hA _
      refine ⟨_, hA.st.ldErr, fun h => (by cases h), fun _ => k A (cs.set (o + 2) (.int .i64 9)) ?_⟩
      have e : putT st t = (st.1, 9) := by simp only [putT, h0', h1', ne_eq, not_true_eq_false, if_false, if_true]
      rw [e]
      exact hA
    · intro h1
      have h1' : t.size ≤ 200000 := by
        have : (t.size : Int) ≤ 200000 := by simpa using h1
        omega
      exact ⟨_, h.ldErr, fun _ => good h0' h1', fun h => absurd h0' (by simpa using h)⟩
  · intro h0
    have h0' : ¬ st.2 = 0 := by simpa using h0
    refine ⟨_, h.ldErr, fun h => absurd (by simpa using h) h0', fun _ => k H cs ?_⟩
    have e : putT st t = st := by simp only [putT, ne_eq, h0', not_false_eq_true, if_true]
    rw [e]
    exact WrTo.refl h
theorem done {H : Hp} {b o : Nat} {T : TypeId} {cs : List Value} {st : St} {K : Value → Hp → Prop} {Z : List PanicEntry → Hp → Prop} (h : WrS H b o T cs st) (hl : st.1.length < 2 ^ 63)
    (k : ∀ H', WrTo H H' b o T cs cs st → K (doneV st) H') : CallF Try.prog 33 #[.pointer (some ⟨b, o, none⟩)] H K Z := by
  refine V33_ok ?_
  unfold V33
  refine ⟨_, h.ldErr, ?_, ?_⟩
  · intro h0
    have h0' : ¬ st.2 = 0 := by simpa using h0
    refine ⟨_, h.ldErr, ?_⟩
    have := k H (WrTo.refl h)
    rw [doneV, if_neg h0'] at this
    exact this
  · intro h0
    have h0' : st.2 = 0 := by simpa using h0
    refine string h.bld hl ?_
    intro A hA
    refine ⟨_, rfl, ?_⟩
    have := k A (WrTo.of_bld h hA)
    rw [doneV, if_pos h0'] at this
    exact this
end Go.Proofs.Ytigbdoicgdmliaa.C02

