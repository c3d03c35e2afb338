/- pool, and weftref25: a pool in bytes. -/
import Derived.Test.YtigbdoicgdmliaaC25
set_option linter.unusedVariables false
set_option linter.unusedSimpArgs false
-- shared: 65
-- list: 63
-- write: 32
-- rShared: 70
-- rBytes: 35
-- rOf: 29
-- rNumber: 69
namespace Go.Proofs.Ytigbdoicgdmliaa.C25
open Go Go.V Go.Proofs Go.Proofs.Ytigbdoicgdmliaa.N25 Go.Proofs.Ytigbdoicgdmliaa.P02
attribute [local irreducible] Cvt ExtF CallF hrun App MkS
def bodyL : List UInt8 → List (List UInt8) → List UInt8
  | _, [] => []
  | last, s :: r => numB (shL last s) ++ (numB (s.length - shL last s) ++ (s.drop (shL last s) ++ bodyL s r))
def bytesL (ts : List (List UInt8)) : List UInt8 := numB ts.length ++ bodyL [] ts
theorem dropx {τ : Type} {l : List τ} {j : Nat} {x : τ} (h : l[j]? = some x) : l.drop j = x :: l.drop (j + 1) := by
  obtain ⟨h1, rfl⟩ := List.getElem?_eq_some_iff.1 h
  exact List.drop_eq_getElem_cons h1
section
variable {H : Hp} {K : Value → Hp → Prop} {Z : List PanicEntry → Hp → Prop}
theorem take_more {a b : List UInt8} {j : Nat} {x : UInt8} (h : a.take j = b.take j) (ha : a[j]? = some x) (hb : b[j]? = some x) : a.take (j + 1) = b.take (j + 1) := by
  obtain ⟨h1, rfl⟩ := List.getElem?_eq_some_iff.1 ha
  obtain ⟨h2, e⟩ := List.getElem?_eq_some_iff.1 hb
  rw [List.take_succ_eq_append_getElem h1, List.take_succ_eq_append_getElem h2, h, e]
theorem shared_ok {a b : List UInt8} (ha : a.length ≤ 1000000000) (k : K (.int .i64 (shL a b : Nat)) H) : CallF Try.prog 65 #[.string (str a), .string (str b)] H K Z := by
  refine V65_ok ?_
  unfold V65
  simp only [str_size]
  refine ⟨fun t A m => ∃ j : Nat, A = H ∧ t = (j : Int) ∧ j ≤ a.length ∧ j ≤ b.length ∧ a.take j = b.take j ∧ m = a.length - j, ⟨_, 0, rfl, rfl, Nat.zero_le _, Nat.zero_le _, rfl, rfl⟩, ?_⟩
  rintro t A m ⟨j, rfl, rfl, h1, h2, he, rfl⟩ scr
  refine ⟨fun hlt => ?_, fun hge => ?_⟩
  · have hlt' := of_decide_eq_true hlt
    have hj : j < a.length ∧ j < b.length := by
      split at hlt' <;> omega
    have hx : a[j]? = some a[j] := List.getElem?_eq_getElem hj.1
    have hy : b[j]? = some b[j] := List.getElem?_eq_getElem hj.2
    generalize a[j] = x at hx
    generalize b[j] = y at hy
    refine IxS.mk hx (IxS.mk hy ⟨fun h => ?_, fun h => ?_⟩)
    · obtain rfl := u8_int.1 h
      exact ⟨a.length - (j + 1), by omega, j + 1, rfl, wi (by omega), hj.1, hj.2, take_more he hx hy, rfl⟩
    · have hne : x ≠ y := fun e => by rw [u8_int.2 e] at h; cases h
      rw [shL_at h1 h2 he (.inr (.inr (by rw [hx, hy]; simpa using hne)))] at k
      exact k
  · have hge' := of_decide_eq_false hge
    have hj : j = a.length ∨ j = b.length := by
      split at hge' <;> omega
    rw [shL_at h1 h2 he (by rcases hj with h | h; exact .inl h; exact .inr (.inl h))] at k
    exact k
theorem rshared_ok {a b : List UInt8} (ha : a.length ≤ 1000000000) (k : K (.int .i64 (shL a b : Nat)) H) : CallF Try.prog 70 #[.string (str a), .string (str b)] H K Z := by
  refine V70_ok ?_
  unfold V70
  simp only [str_size]
  refine ⟨fun t A m => ∃ j : Nat, A = H ∧ t = (j : Int) ∧ j ≤ a.length ∧ j ≤ b.length ∧ a.take j = b.take j ∧ m = a.length - j, ⟨_, 0, rfl, rfl, Nat.zero_le _, Nat.zero_le _, rfl, rfl⟩, ?_⟩
  rintro t A m ⟨j, rfl, rfl, h1, h2, he, rfl⟩ scr
  have fin : (j = a.length ∨ j = b.length ∨ a[j]? ≠ b[j]?) → K (.int .i64 (j : Int)) A := fun h => by
    rw [shL_at h1 h2 he h] at k
    exact k
  refine ⟨fun hlt => ⟨fun hlt2 => ?_, fun hge => fin (.inr (.inl (by have := dge hge; omega)))⟩, fun hge => fin (.inl (by have := dge hge; omega))⟩
  have hj1 := dlt hlt
  have hj2 := dlt hlt2
  have hx : a[j]? = some a[j] := List.getElem?_eq_getElem hj1
  have hy : b[j]? = some b[j] := List.getElem?_eq_getElem hj2
  generalize a[j] = x at hx
  generalize b[j] = y at hy
  refine IxS.mk hx (IxS.mk hy ⟨fun h => ?_, fun h => ?_⟩)
  · obtain rfl := u8_int.1 h
    exact ⟨a.length - (j + 1), by omega, j + 1, rfl, wi (by omega), hj1, hj2, take_more he hx hy, rfl⟩
  · have hne : x ≠ y := fun e => by rw [u8_int.2 e] at h; cases h
    exact fin (.inr (.inr (by rw [hx, hy]; simpa using hne)))
theorem putN_ok {xs : List UInt8} {n : Nat} (h : n ≤ 268435456) : putN (xs, 0) (n : Int) = (xs ++ numB n, 0) := by
  unfold putN
  rw [if_neg (by simp), if_neg (by omega), Int.toNat_natCast]
theorem putT_ok {xs t : List UInt8} (h : t.length ≤ 200000) : putT (xs, 0) (str t) = (xs ++ (numB t.length ++ t), 0) := by
  unfold putT
  rw [if_neg (by simp), if_neg (by rw [str_size]; omega), str_size, str_data, List.append_assoc]
/-- what a pool may be, to be written -/
structure Okp (ts : List (List UInt8)) : Prop where
  few : ts.length ≤ 268435456
  short : ∀ t ∈ ts, t.length ≤ 200000
  light : (bytesL ts).length ≤ 1000000000000
theorem write_ok {p : Addr} {ts : List (List UInt8)} {b o : Nat} {T : TypeId} {cs : List Value} {xs : List UInt8} (hts : Okp ts) (hw : C02.WrS H b o T cs (xs, 0)) (hx : xs.length ≤ 1000000000000)
    {s : Sl} (hc : hcell H p = some (.slice s.a s.n s.c)) (hp : ∀ A, Fr (fun i => i = b ∨ Bld.bOwn cs o i) H A → Rd flL 1 A s ts) (k : ∀ H' cs', C02.WrTo H H' b o T cs cs' (xs ++ bytesL ts, 0) → K (.tuple #[]) H') :
    CallF Try.prog 32 #[.pointer (some p), .pointer (some ⟨b, o, none⟩)] H K Z := by
  refine V32_ok ?_
  unfold V32
  have hlight := hts.light
  have hfew := hts.few
  unfold bytesL at hlight
  rw [List.length_append] at hlight
  have hn := (hp H (Fr.refl _ _)).len
  refine V63_ok ?_
  unfold V63
  refine ⟨(fun h => by cases h), fun _ => ⟨s, hc, s, rfl, ?_⟩⟩
  refine C02.number hw (by show xs.length + 5 ≤ _; omega) fun A cs1 w1 => ⟨rfl, ?_⟩
  have hw1 : C02.WrTo H A b o T cs cs1 (xs ++ numB ts.length, 0) := by
    have := w1
    rw [hn, putN_ok hts.few] at this
    exact this
  refine ⟨fun last t B m => ∃ (j : Nat) (lst pre : List UInt8) (cs2 : List Value), last = str lst ∧ t = (j : Int) ∧ j ≤ ts.length ∧ C02.WrTo H B b o T cs cs2 (xs ++ pre, 0) ∧ pre ++ bodyL lst (ts.drop j) = bytesL ts ∧ lst.length ≤ 200000 ∧ m = ts.length - j,
    ⟨_, 0, [], _, cs1, rfl, rfl, Nat.zero_le _, hw1, by rw [List.drop_zero]; rfl, Nat.zero_le _, rfl⟩, ?_⟩
  rintro last t B m ⟨j, lst, pre, cs2, rfl, rfl, hj, w2, hpre, hlst, rfl⟩ scr
  have hB : Rd flL 1 B s ts := hp B w2.fr
  refine ⟨fun hlt => ?_, fun hge => ?_⟩
  · have hjl : j < ts.length := by have := dlt hlt; omega
    have hx' : ts[j]? = some ts[j] := List.getElem?_eq_getElem hjl
    have hshort := hts.short _ (List.getElem_mem hjl)
    generalize ts[j] = x at hx' hshort
    obtain ⟨sh1, sh2, sh3⟩ := shL_le lst x
    rw [dropx hx', bodyL] at hpre
    have hl2 := congrArg List.length hpre
    unfold bytesL at hl2
    simp only [List.length_append, List.length_drop] at hl2
    refine hB.ixn FlL hx' fun ad had => ⟨_, had, shared_ok (by omega) ⟨_, rfl, ?_⟩⟩
    refine C02.number w2.st (by show (xs ++ pre).length + 5 ≤ _; rw [List.length_append]; omega) fun C cs3 w3 => ⟨rfl, ?_⟩
    rw [putN_ok (by omega)] at w3
    refine SlS.from sh2 ?_
    refine C02.text w3.st (by show ((xs ++ pre) ++ _).length + _ ≤ _; rw [List.length_append, List.length_append]; omega) fun D cs4 w4 => ⟨rfl, ?_⟩
    rw [putT_ok (by rw [List.length_drop]; omega), List.length_drop] at w4
    refine ⟨ts.length - (j + 1), by omega, j + 1, x, pre ++ (numB (shL lst x) ++ (numB (x.length - shL lst x) ++ x.drop (shL lst x))), cs4, rfl, wi (by omega), hjl, ?_, ?_, hshort, rfl⟩
    · have := (w2.trans w3).trans w4
      simpa [List.append_assoc] using this
    · rw [← hpre]
      simp only [List.append_assoc]
  · have hjl : j = ts.length := by have := dge hge; omega
    subst hjl
    rw [List.drop_length, bodyL, List.append_nil] at hpre
    rw [hpre] at w2
    exact k B cs2 w2
theorem rnum_ok {n : Nat} (h1 : n ≤ 268435456) (k : ∀ H', Fr no H H' → K (.string (str (numB n))) H') : CallF Try.prog 69 #[.int .i64 (n : Int)] H K Z :=
  Q02.number (by omega) (by omega) fun H' hf => by
    rw [Int.toNat_natCast]
    exact k H' hf
theorem rbytes_ok {l : Sl} {ts : List (List UInt8)} (hts : Okp ts) (hl : Rd flL 1 H l ts) (k : ∀ H', Fr no H H' → K (.string (str (bytesL ts))) H') : CallF Try.prog 35 #[.slice l.a l.n l.c] H K Z := by
  refine V35_ok ?_
  unfold V35
  have hlight := hts.light
  have hfew := hts.few
  have hn := hl.len
  have e0 : (l.n : Int) = ((ts.length : Nat) : Int) := by rw [hn]
  rw [e0]
  refine rnum_ok hts.few fun A fA => ⟨_, rfl, ?_⟩
  refine ⟨fun s last t B m => ∃ (j : Nat) (lst pre : List UInt8), s = str pre ∧ last = str lst ∧ t = (j : Int) ∧ j ≤ ts.length ∧ Fr no H B ∧ pre ++ bodyL lst (ts.drop j) = bytesL ts ∧ lst.length ≤ 200000 ∧ m = ts.length - j,
    ⟨_, 0, [], _, rfl, rfl, rfl, Nat.zero_le _, fA, by rw [List.drop_zero]; rfl, Nat.zero_le _, rfl⟩, ?_⟩
  rintro s last t B m ⟨j, lst, pre, rfl, rfl, rfl, hj, fB, hpre, hlst, rfl⟩ scr
  refine ⟨fun hlt => ?_, fun hge => ?_⟩
  · have hjl : j < ts.length := dlt hlt
    have hx : ts[j]? = some ts[j] := List.getElem?_eq_getElem hjl
    have hshort := hts.short _ (List.getElem_mem hjl)
    generalize ts[j] = x at hx hshort
    obtain ⟨sh1, sh2, sh3⟩ := shL_le lst x
    rw [dropx hx, bodyL] at hpre
    have hl2 := congrArg List.length hpre
    simp only [List.length_append, List.length_drop] at hl2
    have e1 : w64 (((str x).size : Int) - ((shL lst x : Nat) : Int)) = ((x.length - shL lst x : Nat) : Int) := by
      rw [str_size, wrap64 (by omega) (by omega)]; omega
    have leaf : ∀ {C : Hp} {m1 : Nat}, Fr no H C → m1 = ts.length - j → IxA l.a l.n (j : Int) 1 fun ad => ∃ x3 : ByteArray, hcell C ad = some (.string x3) ∧ ∃ m2, m2 < m1 ∧ ∃ (j' : Nat) (lst' pre' : List UInt8),
        (((str pre ++ str (numB (shL lst x))) ++ str (numB (x.length - shL lst x))) ++ str (x.drop (shL lst x))) = str pre' ∧ x3 = str lst' ∧ w64 ((j : Int) + 1) = (j' : Int) ∧ j' ≤ ts.length ∧ Fr no H C ∧ pre' ++ bodyL lst' (ts.drop j') = bytesL ts ∧ lst'.length ≤ 200000 ∧ m2 = ts.length - j' := by
      intro C m1 fC em
      refine hl.ixn FlL hx fun ad had => ⟨_, fC.cell had fun h => h, ts.length - (j + 1), by omega, j + 1, x, _, by rw [str_app, str_app, str_app], rfl, wi (by omega), hjl, fC, ?_, hshort, rfl⟩
      rw [← hpre]
      simp only [List.append_assoc]
    have z1 : (str pre).size + (str (numB (shL lst x))).size ≤ 4611686018427387904 := by rw [str_size, str_size]; omega
    have z2 : (str pre ++ str (numB (shL lst x))).size + (str (numB (x.length - shL lst x))).size ≤ 4611686018427387904 := by rw [str_app, str_size, str_size, List.length_append]; omega
    have z3 : ((str pre ++ str (numB (shL lst x))) ++ str (numB (x.length - shL lst x))).size + (str (x.drop (shL lst x))).size ≤ 4611686018427387904 := by
      rw [str_app, str_app, str_size, str_size, List.length_append, List.length_append, List.length_drop]; omega
    refine hl.ixn FlL hx fun ad had => ⟨_, fB.cell had fun h => h, rshared_ok (by omega) ⟨_, rfl, hl.ixn FlL hx fun ad1 had1 => hl.ixn FlL hx fun ad2 had2 => ⟨?_, ⟨_, fB.cell had1 fun h => h, ?_, ?_⟩, ⟨_, fB.cell had2 fun h => h, SlS.from sh2 ⟨?_, ⟨_, fB.cell had1 fun h => h, ?_⟩⟩⟩⟩⟩⟩
    · refine rnum_ok (by omega) fun C fC => ⟨_, rfl, z1, _, (fB.trans fC).cell had1 fun h => h, ?_, ⟨_, (fB.trans fC).cell had2 fun h => h, SlS.from sh2 ?_⟩⟩
      · rw [e1]
        refine rnum_ok (by omega) fun D fD => ⟨_, rfl, z2, _, ((fB.trans fC).trans fD).cell had2 fun h => h, SlS.from sh2 ⟨z3, leaf ((fB.trans fC).trans fD) rfl⟩⟩
      · rw [e1]
        exact rnum_ok (by omega) fun D fD => ⟨_, rfl, z2, z3, leaf ((fB.trans fC).trans fD) rfl⟩
    · refine rnum_ok (by omega) fun C fC => ⟨_, rfl, z1, ?_, ⟨_, (fB.trans fC).cell had2 fun h => h, SlS.from sh2 ?_⟩⟩
      · rw [e1]
        refine rnum_ok (by omega) fun D fD => ⟨_, rfl, z2, _, ((fB.trans fC).trans fD).cell had2 fun h => h, SlS.from sh2 ⟨z3, leaf ((fB.trans fC).trans fD) rfl⟩⟩
      · rw [e1]
        exact rnum_ok (by omega) fun D fD => ⟨_, rfl, z2, z3, leaf ((fB.trans fC).trans fD) rfl⟩
    · refine ⟨_, fB.cell had2 fun h => h, SlS.from sh2 ?_⟩
      refine rnum_ok (by omega) fun C fC => ⟨_, rfl, z1, ?_⟩
      rw [e1]
      exact rnum_ok (by omega) fun D fD => ⟨_, rfl, z2, z3, leaf ((fB.trans fC).trans fD) rfl⟩
    · refine rnum_ok (by omega) fun C fC => ⟨_, rfl, z1, _, (fB.trans fC).cell had1 fun h => h, ?_⟩
      rw [e1]
      exact rnum_ok (by omega) fun D fD => ⟨_, rfl, z2, z3, leaf ((fB.trans fC).trans fD) rfl⟩
    · refine rnum_ok (by omega) fun C fC => ⟨_, rfl, z1, ?_⟩
      rw [e1]
      exact rnum_ok (by omega) fun D fD => ⟨_, rfl, z2, z3, leaf ((fB.trans fC).trans fD) rfl⟩
  · have hjl : j = ts.length := by have := dge hge; omega
    subst hjl
    rw [List.drop_length, bodyL, List.append_nil] at hpre
    rw [hpre]
    exact k B fB
end
end Go.Proofs.Ytigbdoicgdmliaa.C25

