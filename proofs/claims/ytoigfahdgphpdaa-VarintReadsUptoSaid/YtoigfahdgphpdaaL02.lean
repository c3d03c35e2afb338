/- weftlaw02: the laws' helpers and the law VarintWrites. -/
import Derived.Test.YtoigfahdgphpdaaC02
import Derived.Test.YtoigfahdgphpdaaQ02
import Derived.Test.YtoigfahdgphpdaaP02B
set_option linter.unusedVariables false
set_option linter.unusedSimpArgs false
-- tWr: 95
-- tRw: 27
-- tPut: 29
-- light: 15
-- write: 18
-- works: 25
-- lawWrites: 3
namespace Go.Proofs.Ytoigfahdgphpdaa.L02
open Go Go.V Go.Proofs Go.Proofs.Ytoigfahdgphpdaa.N02 Go.Proofs.Ytoigfahdgphpdaa.Bld Go.Proofs.Ytoigfahdgphpdaa.P02 Go.Proofs.Ytoigfahdgphpdaa.C02 Go.Proofs.Ytoigfahdgphpdaa.Q02
attribute [local irreducible] Cvt ExtF CallF hrun

def putL (l : List Put) : St := l.foldl putP ([], 0)
theorem putN_len (s : St) (n : Int) : (putN s n).1.length ≤ s.1.length + 5 := by
  unfold putN
  split
  · omega
  · split
    · simp
    · have := numB_len5 (n := n.toNat) (by omega)
      simp only [List.length_append]
      omega
theorem putT_len (s : St) (t : ByteArray) : (putT s t).1.length ≤ s.1.length + 5 + t.size := by
  unfold putT
  split
  · omega
  · split
    · simp; omega
    · have := numB_len5 (n := t.size) (by omega)
      simp only [List.length_append, Array.length_toList]
      show _ + _ + t.size ≤ _
      omega
theorem putP_len (s : St) (p : Put) : (putP s p).1.length ≤ s.1.length + 5 + p.2.2.size := by
  unfold putP
  split
  · exact putT_len _ _
  · have := putN_len s p.2.1; omega
theorem putL_take (xs : List Put) {i : Nat} {p : Put} (h : xs[i]? = some p) : putL (xs.take (i + 1)) = putP (putL (xs.take i)) p := by
  obtain ⟨hi, rfl⟩ := List.getElem?_eq_some_iff.1 h
  rw [putL, List.take_succ_eq_append_getElem hi, List.foldl_append]
  rfl
/-- the row of what is put -/
structure Puts (H : Hp) (s : Sl) (xs : List Put) : Prop where
  len : s.n = xs.length
  big : xs.length ≤ 1048576
  el : ∀ i p, xs[i]? = some p → p.2.2.size ≤ 1048576 ∧ ∃ ad, s.a = some ad ∧ hcell H (ad.add (i * 3)) = some (.bool p.1) ∧ hcell H (Addr.add (ad.add (i * 3)) 1) = some (.int .i64 p.2.1) ∧ hcell H (Addr.add (ad.add (i * 3)) 2) = some (.string p.2.2)
theorem Puts.keep {S : Nat → Prop} {H H' : Hp} {s : Sl} {xs : List Put} (h : Puts H s xs) (hf : Fr S H H') (hs : ∀ i, i < H.size → ¬ S i) : Puts H' s xs := by
  refine ⟨h.len, h.big, fun i p hp => ?_⟩
  obtain ⟨h1, ad, h2, h3, h4, h5⟩ := h.el i p hp
  exact ⟨h1, ad, h2, hf.cell h3 (hs _ (hcell_lt h3)), hf.cell h4 (hs _ (hcell_lt h4)), hf.cell h5 (hs _ (hcell_lt h5))⟩
theorem take_len (xs : List Put) (hs : ∀ (i : Nat) (p : Put), xs[i]? = some p → p.2.2.size ≤ 1048576) : ∀ i, (putL (xs.take i)).1.length ≤ i * 1048581
  | 0 => by simp [putL]
  | i + 1 => by
    by_cases hi : i < xs.length
    · have hp : xs[i]? = some xs[i] := List.getElem?_eq_getElem hi
      rw [putL_take xs hp]
      have := take_len xs hs i
      have := putP_len (putL (xs.take i)) xs[i]
      have := hs i _ hp
      omega
    · have h1 : xs.take (i + 1) = xs.take i := by rw [List.take_of_length_le (by omega), List.take_of_length_le (by omega)]
      rw [h1]
      exact Nat.le_trans (take_len xs hs i) (Nat.mul_le_mul_right _ (Nat.le_succ i))

theorem light_ok {H : Hp} {l : Sl} {xs : List Put} {K : Value → Hp → Prop} {Z : List PanicEntry → Hp → Prop} (h : Puts H l xs) (k : ∀ y : Bool, K (.bool y) H) : CallF Try.prog 15 #[.slice l.a l.n l.c] H K Z := by
  refine V15_ok ?_
  unfold V15
  have hl := h.len
  have hb := h.big
  refine ⟨fun n i A m => A = H ∧ 0 ≤ i ∧ i ≤ l.n ∧ m = l.n - i.toNat, ⟨_, rfl, by omega, by omega, rfl⟩, ?_⟩
  rintro n i A m ⟨rfl, h0, h1, rfl⟩ scr
  refine ⟨fun hlt => ?_, fun _ => k true⟩
  have hlt' : i < l.n := by simpa using hlt
  have hp : xs[i.toNat]? = some (xs[i.toNat]'(by omega)) := List.getElem?_eq_getElem (by omega)
  obtain ⟨hs, ad, ha, c0, c1, c2⟩ := h.el _ _ hp
  refine ⟨ad, ha, ⟨h0, hlt'⟩, _, c2, fun _ => k false, fun _ => ⟨fun _ => k false, fun _ => ?_⟩⟩
  refine ⟨l.n - (i.toNat + 1), by omega, rfl, ?_⟩
  rw [w64_id (by omega) (by omega)]
  omega

theorem write_ok {H : Hp} {l : Sl} {xs : List Put} {K : Value → Hp → Prop} {Z : List PanicEntry → Hp → Prop} (h : Puts H l xs) (k : ∀ H', Fr no H H' → K (doneV (putL xs)) H') : CallF Try.prog 18 #[.slice l.a l.n l.c] H K Z := by
  refine V18_ok ?_
  unfold V18
  intro b A hn
  have hl := h.len
  have hb := h.big
  have hbk := hn.blk
  have e := hn.eq
  have hz := hn.size
  have w0 : WrS A b 0 95 [.pointer none, .slice none 0 0, .int .i64 0] ([], 0) := ⟨⟨hbk, ⟨none, rfl, .inl rfl⟩, ⟨⟨none, 0, 0⟩, rfl, Row.nil _ _ _, by rintro ⟨o, h⟩; cases h⟩, by kernel_rfl⟩, rfl⟩
  have no0 : ∀ i, ¬ bOwn [.pointer none, .slice none 0 0, .int .i64 0] 0 i := by
    rintro i ⟨o, n, c, h⟩
    simp at h
  refine ⟨fun i B m => ∃ cs, 0 ≤ i ∧ i ≤ l.n ∧ m = l.n - i.toNat ∧ WrTo A B b 0 95 [.pointer none, .slice none 0 0, .int .i64 0] cs (putL (xs.take i.toNat)), ⟨_, _, by omega, by omega, rfl, WrTo.refl w0⟩, ?_⟩
  have fr : ∀ {B cs st}, WrTo A B b 0 95 [.pointer none, .slice none 0 0, .int .i64 0] cs st → Fr no H B := by
    intro B cs st hB
    refine hn.fr.step hB.fr ?_
    rintro i hi (h | h)
    · omega
    · exact (no0 i h).elim
  rintro i B m ⟨cs, h0, h1, rfl, hB⟩ scr
  have hlen := take_len xs (fun i p hp => (h.el i p hp).1) i.toNat
  have hP := h.keep (fr hB) (fun _ _ h => h)
  refine ⟨fun hlt => ?_, fun hge => ?_⟩
  · have hlt' : i < l.n := by simpa using hlt
    have hp : xs[i.toNat]? = some (xs[i.toNat]'(by omega)) := List.getElem?_eq_getElem (by omega)
    have hnext : ∀ {C cs' st}, st = putL (xs.take (i.toNat + 1)) → WrTo A C b 0 95 [.pointer none, .slice none 0 0, .int .i64 0] cs' st → ∃ m2, m2 < l.n - i.toNat ∧ ∃ cs, 0 ≤ w64 (i + 1) ∧ w64 (i + 1) ≤ l.n ∧ m2 = l.n - (w64 (i + 1)).toNat ∧ WrTo A C b 0 95 [.pointer none, .slice none 0 0, .int .i64 0] cs (putL (xs.take (w64 (i + 1)).toNat)) := by
      intro C cs' st hst hC
      rw [w64_id (by omega) (by omega)]
      have e : (i + 1).toNat = i.toNat + 1 := by omega
      rw [e, ← hst]
      exact ⟨l.n - (i.toNat + 1), by omega, cs', by omega, by omega, rfl, hC⟩
    obtain ⟨hs, ad, ha, c0, c1, c2⟩ := hP.el _ _ hp
    have hput := putL_take xs hp
    refine ⟨ad, ha, ⟨h0, hlt'⟩, _, c0, ?_, ?_⟩
    · intro ht
      refine ⟨ad, ha, ⟨h0, hlt'⟩, _, c2, ?_⟩
      refine text hB.st (by omega) ?_
      intro C cs' hC
      refine ⟨rfl, hnext ?_ (hB.trans hC)⟩
      rw [hput, putP, if_pos ht]
    · intro ht
      refine ⟨ad, ha, ⟨h0, hlt'⟩, _, c1, ?_⟩
      refine C02.number hB.st (by omega) ?_
      intro C cs' hC
      refine ⟨rfl, hnext ?_ (hB.trans hC)⟩
      rw [hput, putP, if_neg (by simp [ht])]
  · have hge' : l.n ≤ i := by simpa using hge
    have e1 : xs.take i.toNat = xs := List.take_of_length_le (by omega)
    rw [e1] at hB hlen
    refine C02.done hB.st (by omega) ?_
    intro C hC
    have := k C (fr (hB.trans hC))
    generalize putL xs = st at *
    unfold doneV at this ⊢
    split at this
    · exact ⟨_, _, by rw [if_pos (by assumption)], this⟩
    · exact ⟨_, _, by rw [if_neg (by assumption)], this⟩
theorem doneV_cases (st : St) : ∃ (y : ByteArray) (e : Int), doneV st = .tuple #[.string y, .int .i64 e] := by
  unfold doneV
  split
  · exact ⟨_, _, rfl⟩
  · exact ⟨_, _, rfl⟩
theorem beqS_self (y : ByteArray) : beqS y y = true := by simp [beqS]
theorem writes_ok {H : Hp} {l : Sl} {xs : List Put} {K : Value → Hp → Prop} {Z : List PanicEntry → Hp → Prop} (h : Puts H l xs) (k : ∀ H', Fr no H H' → K (.bool true) H') : CallF Try.prog 3 #[.slice l.a l.n l.c] H K Z := by
  refine V3_ok ?_
  unfold V3
  have hl := h.len
  have hb := h.big
  refine light_ok h ?_
  intro y
  refine ⟨y, rfl, fun _ => k H (Fr.refl _ _), fun _ => ?_⟩
  intro b A hn
  have e := hn.eq
  have w0 : RwS A b 0 27 [.string ⟨#[]⟩, .int .i64 0] ([], 0) := ⟨hn.blk, rfl, rfl⟩
  have fr : ∀ {B c1 c2 st}, RwTo A B b 0 27 c1 c2 st → Fr no H B := by
    intro B c1 c2 st hB
    refine hn.fr.step hB.fr ?_
    rintro i hi h
    omega
  refine ⟨fun i B m => ∃ cs, 0 ≤ i ∧ i ≤ l.n ∧ m = l.n - i.toNat ∧ RwTo A B b 0 27 [.string ⟨#[]⟩, .int .i64 0] cs (putL (xs.take i.toNat)), ⟨_, _, by omega, by omega, rfl, RwTo.refl w0⟩, ?_⟩
  rintro i B m ⟨cs, h0, h1, rfl, hB⟩ scr
  have hlen := take_len xs (fun i p hp => (h.el i p hp).1) i.toNat
  have hP := h.keep (fr hB) (fun _ _ h => h)
  refine ⟨fun hlt => ?_, fun hge => ?_⟩
  · have hlt' : i < l.n := by simpa using hlt
    have hp : xs[i.toNat]? = some (xs[i.toNat]'(by omega)) := List.getElem?_eq_getElem (by omega)
    have hnext : ∀ {C cs' st}, st = putL (xs.take (i.toNat + 1)) → RwTo B C b 0 27 cs cs' st → ∃ m2, m2 < l.n - i.toNat ∧ ∃ cs, 0 ≤ w64 (i + 1) ∧ w64 (i + 1) ≤ l.n ∧ m2 = l.n - (w64 (i + 1)).toNat ∧ RwTo A C b 0 27 [.string ⟨#[]⟩, .int .i64 0] cs (putL (xs.take (w64 (i + 1)).toNat)) := by
      intro C cs' st hst hC
      rw [w64_id (by omega) (by omega)]
      have e : (i + 1).toNat = i.toNat + 1 := by omega
      rw [e, ← hst]
      exact ⟨l.n - (i.toNat + 1), by omega, cs', by omega, by omega, rfl, ⟨hC.st, hC.len.trans hB.len, fun i h1 h2 => (hC.rest i h1 h2).trans (hB.rest i h1 h2), hB.fr.trans hC.fr⟩⟩
    obtain ⟨hs, ad, ha, c0, c1, c2⟩ := hP.el _ _ hp
    have hput := putL_take xs hp
    refine ⟨ad, ha, ⟨h0, hlt'⟩, _, c0, ?_, ?_⟩
    · intro ht
      refine ⟨ad, ha, ⟨h0, hlt'⟩, _, c2, ?_⟩
      refine wtext hB.st (by omega) ?_
      intro C cs' hC
      refine ⟨rfl, hnext ?_ hC⟩
      rw [hput, putP, if_pos ht]
    · intro ht
      refine ⟨ad, ha, ⟨h0, hlt'⟩, _, c1, ?_⟩
      refine wnumber hB.st (by omega) ?_
      intro C cs' hC
      refine ⟨rfl, hnext ?_ hC⟩
      rw [hput, putP, if_neg (by simp [ht])]
  · have hge' : l.n ≤ i := by simpa using hge
    have e1 : xs.take i.toNat = xs := List.take_of_length_le (by omega)
    rw [e1] at hB
    refine write_ok hP ?_
    intro C hC
    obtain ⟨y, er, hd⟩ := doneV_cases (putL xs)
    rw [hd]
    refine ⟨y, er, rfl, ?_⟩
    refine wdone (st := putL xs) ⟨hC.blk hB.st.blk (fun h => h), hB.st.str, hB.st.err⟩ ?_
    rw [hd]
    refine ⟨y, er, rfl, ?_, ?_⟩
    · intro _
      simp only [beq_self_eq_true]
      exact k C ((fr hB).trans hC)
    · intro h
      rw [beqS_self] at h
      cases h
theorem works_ok {H : Hp} {K : Value → Hp → Prop} {Z : List PanicEntry → Hp → Prop} (k : ∀ H', Fr no H H' → K (.bool true) H') : CallF Try.prog 25 #[] H K Z := by
  refine V25_ok ?_
  unfold V25
  intro b A hn
  have hb : Blk A b [.bool false, .int .i64 300, .string ⟨#[]⟩, .bool true, .int .i64 0, .string ⟨#[97, 98]⟩] 29 := hn.blk
  have hP : Puts A ⟨some ⟨b, 0, none⟩, 2, 2⟩ [(false, 300, ⟨#[]⟩), (true, 0, ⟨#[97, 98]⟩)] := by
    refine ⟨rfl, by simp, ?_⟩
    intro i p hp
    match i with
    | 0 =>
      simp only [List.getElem?_cons_zero, Option.some.injEq] at hp
      subst hp
      refine ⟨by decide, _, rfl, ?_, ?_, ?_⟩ <;> (simp only [add_mk]; rw [hb.ld]; rfl)
    | 1 =>
      simp only [List.getElem?_cons_succ, List.getElem?_cons_zero, Option.some.injEq] at hp
      subst hp
      refine ⟨by decide, _, rfl, ?_, ?_, ?_⟩ <;> (simp only [add_mk]; rw [hb.ld]; rfl)
    | i + 2 => simp at hp
  refine write_ok hP ?_
  intro B hB
  have e : putL [(false, 300, ⟨#[]⟩), (true, 0, ⟨#[97, 98]⟩)] = ([172, 2, 2, 97, 98], 0) := by
    have n1 : numB 300 = [172, 2] := by
      rw [numB_ge (by omega), numB_lt (by omega)]
      decide
    have n2 : numB (⟨#[97, 98]⟩ : ByteArray).size = [2] := by
      rw [numB_lt (by decide)]
      decide
    simp only [putL, List.foldl_cons, List.foldl_nil, putP, putN, putT, Bool.false_eq_true, if_false, if_true, ne_eq, not_true_eq_false, n2]
    simp [n1]
    decide
  rw [e]
  refine ⟨_, _, rfl, ?_, ?_⟩
  · intro _
    exact k B (hn.fr.trans hB)
  · intro h
    have := (beqS_self ⟨#[172, 2, 2, 97, 98]⟩).symm.trans h
    cases this
end Go.Proofs.Ytoigfahdgphpdaa.L02

