/- weftref05, the reference: what its functions do. -/
import Derived.Test.YtigbdoicgdmliaaC05S
set_option linter.unusedVariables false
set_option linter.unusedSimpArgs false
-- rNumber: 31
-- rInto: 101
-- rSorted: 61
-- same: 50
-- tE: 9
-- tTs: 47
namespace Go.Proofs.Ytigbdoicgdmliaa.Q05
open Go Go.V Go.Proofs Go.Proofs.Ytigbdoicgdmliaa.N05 Go.Proofs.Ytigbdoicgdmliaa.C05S
attribute [local irreducible] Cvt ExtF CallF hrun
section
variable {H : Hp}
theorem number_ok {l : Sl} {xs : List ByteArray} {x : ByteArray} {K : Value → Hp → Prop} {Z : List PanicEntry → Hp → Prop} (h : Els val H l xs) (hbig : xs.length ≤ 1000000000)
    (k1 : ∀ i : Nat, xs[i]? = some x → (∀ j, j < i → xs[j]? ≠ some x) → K (.int .i64 (i : Int)) H) (k2 : x ∉ xs → K (.int .i64 (-1)) H) : CallF Try.prog 31 #[.slice l.a l.n l.c, .string x] H K Z := by
  refine V31_ok ?_
  unfold V31
  have hl := h.len
  refine ⟨fun i A m => ∃ j : Nat, A = H ∧ i = (j : Int) ∧ j ≤ xs.length ∧ m = xs.length - j ∧ ∀ t, t < j → xs[t]? ≠ some x, ⟨_, 0, rfl, rfl, Nat.zero_le _, rfl, by omega⟩, ?_⟩
  rintro i A m ⟨j, rfl, rfl, hj, rfl, hno⟩ scr
  refine ⟨fun hlt => ?_, fun hge => ?_⟩
  · have hlt' : j < xs.length := by
      have : (j : Int) < (l.n : Int) := of_decide_eq_true hlt
      omega
    have hx : xs[j]? = some xs[j] := List.getElem?_eq_getElem hlt'
    obtain ⟨ad, ha, hc⟩ := h.el _ _ hx
    refine ⟨ad, ha, ⟨by omega, by omega⟩, _, by rw [Int.toNat_natCast]; exact hc, fun he => ?_, fun he => ?_⟩
    · have he' := beqS_iff.1 he
      exact k1 j (by rw [hx, he']) hno
    · have he' : ¬ xs[j] = x := by
        intro e
        rw [beqS_iff.2 e] at he
        cases he
      have e : w64 ((j : Int) + 1) = ((j + 1 : Nat) : Int) := by rw [wrap64 (by omega) (by omega)]; omega
      rw [e]
      refine ⟨xs.length - (j + 1), by omega, j + 1, rfl, rfl, hlt', rfl, ?_⟩
      intro t ht
      rcases Nat.lt_or_eq_of_le (Nat.le_of_lt_succ ht) with h' | rfl
      · exact hno t h'
      · rw [hx]
        intro e
        exact he' (Option.some.inj e)
  · have hge' : j = xs.length := by
      have : ¬ (j : Int) < (l.n : Int) := of_decide_eq_false hge
      omega
    subst hge'
    refine k2 ?_
    intro hm
    obtain ⟨t, ht⟩ := List.getElem?_of_mem hm
    exact hno t (List.getElem?_eq_some_iff.1 ht).1 ht

theorem same_ok {a b : Sl} {xs : List ByteArray} {K : Value → Hp → Prop} {Z : List PanicEntry → Hp → Prop} (ha : Els val H a xs) (hb : Els val H b xs) (hbig : xs.length ≤ 1000000000) (k : K (.bool true) H) : CallF Try.prog 50 #[.slice a.a a.n a.c, .slice b.a b.n b.c] H K Z := by
  refine V50_ok ?_
  unfold V50
  have hl := ha.len
  have hl2 := hb.len
  refine ⟨fun h => ?_, fun _ => ?_⟩
  · rw [hl, hl2] at h
    simp at h
  refine ⟨fun i A m => ∃ j : Nat, A = H ∧ i = (j : Int) ∧ j ≤ xs.length ∧ m = xs.length - j, ⟨_, 0, rfl, rfl, Nat.zero_le _, rfl⟩, ?_⟩
  rintro i A m ⟨j, rfl, rfl, hj, rfl⟩ scr
  refine ⟨fun hlt => ⟨fun hlt2 => ?_, fun _ => k⟩, fun _ => k⟩
  have hlt' : j < xs.length := by
    have : (j : Int) < (a.n : Int) := of_decide_eq_true hlt
    omega
  have hx : xs[j]? = some xs[j] := List.getElem?_eq_getElem hlt'
  obtain ⟨ad, e1, e2⟩ := ha.el _ _ hx
  obtain ⟨ad', e3, e4⟩ := hb.el _ _ hx
  have e : w64 ((j : Int) + 1) = ((j + 1 : Nat) : Int) := by rw [wrap64 (by omega) (by omega)]; omega
  rw [e]
  refine ⟨ad, e1, ⟨by omega, by omega⟩, _, by rw [Int.toNat_natCast]; exact e2, ad', e3, ⟨by omega, by omega⟩, _, by rw [Int.toNat_natCast]; exact e4, fun hn => ?_, fun _ => ⟨xs.length - (j + 1), by omega, j + 1, rfl, rfl, hlt', rfl⟩⟩
  rw [beqS_iff.2 rfl] at hn
  cases hn

/-- a list of three parts is made anew -/
def MkV (P : Program) (T E : TypeId) (H : Hp) (m : Sl) (x : ByteArray) (k : Int) (K : Value → Hp → Prop) : Prop :=
  ∀ b2 H7, Newb H (.cells #[] E) b2 H7 → (m.n ≤ m.c ∧ SlX m.a m.c 0 k 1 fun cut2 => (App P #[T, T] T H7 [.slice (some ⟨b2, 0, none⟩) 0 0, .slice cut2.a cut2.n cut2.c] fun ap3 H8 =>
    (∀ b3 H9, Newb H8 (.cells #[.string x] E) b3 H9 → App P #[T, T] T H9 [.slice ap3.a ap3.n ap3.c, .slice (some ⟨b3, 0, none⟩) 1 1] fun ap4 H10 =>
    (m.n ≤ m.c ∧ SlX m.a m.c k (m.n : Int) 1 fun cut3 => (App P #[T, T] T H10 [.slice ap4.a ap4.n ap4.c, .slice cut3.a cut3.n cut3.c] fun ap5 H11 => (K (.slice ap5.a ap5.n ap5.c) H11))))))
theorem mk_ok {m : Sl} {ys : List ByteArray} {x : ByteArray} {p : Nat} {K : Value → Hp → Prop} (hr : Row H 9 1 m (ys.map val)) (hp : p ≤ ys.length) (hbig : ys.length ≤ 2000000)
    (k : ∀ s' H', Row H' 9 1 s' ((ys.take p ++ [x] ++ ys.drop p).map val) → Fr no H H' → (∀ i, own s' i → H.size ≤ i) → K (.slice s'.a s'.n s'.c) H') : MkV Try.prog 47 9 H m x (p : Int) K := by
  unfold MkV
  intro b A hn
  have eb := hn.eq
  have zb := hn.size
  obtain ⟨inf, j1, j2, j3, j4⟩ := iE
  have hl := hr.1
  rw [List.length_map, Nat.mul_one] at hl
  have one : ∀ zs : List ByteArray, ∀ v ∈ zs.map val, v.oneCell = true := by
    intro zs v hv
    obtain ⟨z, _, rfl⟩ := List.mem_map.1 hv
    rfl
  have hle := hr.le
  refine ⟨hle, ⟨⟨by omega, by omega, by omega⟩, ?_⟩⟩
  rw [Int.toNat_natCast, show (0 : Int).toNat = 0 from rfl]
  have rA : Row A 9 inf.size ⟨some ⟨b, 0, none⟩, 0, 0⟩ [] := ⟨by simp, .inr ⟨b, [], (0, 0), rfl, hn.get, Nat.le_refl _, by simp, by simp, Nat.zero_le _⟩⟩
  have hrA := hr.keep hn.fr (fun _ _ h => h)
  have s1 := Src.part hrA (lo := 0) (hi := p) (by omega) (by omega)
  rw [Nat.sub_zero, List.drop_zero, ← List.map_take] at s1
  have hne : (u : ∀ k, Try.prog.underlying 47 ≠ some (.int k)) → True := fun _ => trivial
  have u2 : ∀ k, Try.prog.underlying 47 ≠ some (.int k) := by intro k; rw [uTs]; simp
  rw [← j3] at s1
  refine app_row (s := ⟨some ⟨b, 0, none⟩, 0, 0⟩) uTs u2 ⟨_, uTs⟩ j1 j2 (by rw [j3]; rfl) (by rw [j4]; decide) rA (by rw [j3] at s1 ⊢; exact s1) (one _) (by rw [j4]; show (0 + p) * _ ≤ _; omega) ?_
  intro sa B rB nB fB oB
  rw [List.nil_append] at rB
  have nB' : sa.n = p := by rw [nB]; exact Nat.zero_add _
  have osa : ∀ i, own sa i → H.size ≤ i := by
    intro i hi
    rcases oB i hi with ⟨o, ho⟩ | h
    · simp only [Option.some.injEq, Addr.mk.injEq] at ho
      omega
    · omega
  have fHB : Fr no H B := by
    refine hn.fr.step fB ?_
    rintro i hi ⟨o, ho⟩
    simp only [Option.some.injEq, Addr.mk.injEq] at ho
    omega
  intro b3 C hn3
  have e3 := hn3.eq
  have z3 := hn3.size
  have sBH := fHB.size
  have bC : Blk C b3 [.string x] 9 := hn3.blk
  refine app_row uTs u2 ⟨_, uTs⟩ j1 j2 (by rw [j3]; rfl) (by rw [j4]; decide) (rB.keep hn3.fr (fun _ _ h => h)) (Src.blk bC (by rw [j3]; rfl)) (one [x]) (by rw [j4, nB']; omega) ?_
  intro sb D rD nD fD oD
  have osb : ∀ i, own sb i → H.size ≤ i := by
    intro i hi
    rcases oD i hi with h | h
    · exact osa i h
    · omega
  have fHD : Fr no H D := by
    refine (fHB.trans hn3.fr).step fD ?_
    intro i hi h
    have := osa i h
    omega
  refine ⟨hle, ⟨⟨by omega, by omega, by omega⟩, ?_⟩⟩
  rw [Int.toNat_natCast, Int.toNat_natCast]
  have s3 := Src.part (hr.keep fHD (fun _ _ h => h)) (lo := p) (hi := m.n) (by omega) (Nat.le_refl _)
  rw [← List.map_drop, List.take_of_length_le (by rw [List.length_map, List.length_drop]; omega)] at s3
  refine app_row uTs u2 ⟨_, uTs⟩ j1 j2 (by rw [j3]; rfl) (by rw [j4]; decide) rD (by rw [j3]; exact s3) (one _) (by rw [j4, nD, nB']; omega) ?_
  intro sc E rE nE fE oE
  rw [j3] at rE
  refine k sc E ?_ ?_ ?_
  · rw [List.map_append, List.map_append]
    exact rE
  · refine fHD.step fE ?_
    intro i hi h
    have := osb i h
    omega
  · intro i hi
    rcases oE i hi with h | h
    · exact osb i h
    · have := fHD.size
      omega

theorem into_ok {m : Sl} {ys : List ByteArray} {x : ByteArray} {K : Value → Hp → Prop} {Z : List PanicEntry → Hp → Prop} (hr : Row H 9 1 m (ys.map val)) (hris : Rising lt ys) (hbig : ys.length ≤ 2000000)
    (k : ∀ s' H' zs, Row H' 9 1 s' (zs.map val) → Rising lt zs → (∀ z, z ∈ zs ↔ z ∈ ys ∨ z = x) → zs.length ≤ ys.length + 1 → Fr no H H' → (∀ i, own s' i → own m i ∨ H.size ≤ i) → K (.slice s'.a s'.n s'.c) H') :
    CallF Try.prog 101 #[.slice m.a m.n m.c, .string x] H K Z := by
  refine V101_ok ?_
  unfold V101
  have hE := Els.row hr
  have hl := hE.len
  refine ⟨fun i A mm => ∃ j : Nat, A = H ∧ i = (j : Int) ∧ j ≤ ys.length ∧ mm = ys.length - j ∧ ∀ (t : Nat) (y : ByteArray), t < j → ys[t]? = some y → lt y x = true, ⟨_, 0, rfl, rfl, Nat.zero_le _, rfl, by omega⟩, ?_⟩
  rintro i A mm ⟨j, rfl, rfl, hj, rfl, hlo⟩ scr
  have mkj : ∀ (hhi : ∀ (t : Nat) (y : ByteArray), j ≤ t → ys[t]? = some y → lt x y = true), MkV Try.prog 47 9 A m x (j : Int) K := by
    intro hhi
    refine mk_ok hr hj hbig ?_
    intro s' H' r f o
    refine k s' H' _ r ?_ ?_ ?_ f (fun i hi => .inr (o i hi))
    · have hris' := hris
      unfold Rising at hris' ⊢
      rw [← List.take_append_drop j ys, List.pairwise_append] at hris'
      obtain ⟨i1, i2, i3⟩ := hris'
      rw [List.append_assoc, List.pairwise_append]
      refine ⟨i1, ?_, ?_⟩
      · rw [List.singleton_append, List.pairwise_cons]
        refine ⟨?_, i2⟩
        intro y hy
        obtain ⟨t, ht⟩ := List.getElem?_of_mem hy
        rw [List.getElem?_drop] at ht
        exact hhi (j + t) y (by omega) ht
      · intro y hy z hz
        rw [List.singleton_append, List.mem_cons] at hz
        rcases hz with rfl | hz
        · obtain ⟨t, ht⟩ := List.getElem?_of_mem hy
          rw [List.getElem?_take] at ht
          split at ht
          · rename_i htj
            exact hlo t y htj ht
          · cases ht
        · exact i3 y hy z hz
    · intro z
      conv => rhs; rw [← List.take_append_drop j ys]
      simp only [List.mem_append, List.mem_singleton]
      constructor
      · rintro ((h | h) | h)
        · exact .inl (.inl h)
        · exact .inr h
        · exact .inl (.inr h)
      · rintro ((h | h) | h)
        · exact .inl (.inl h)
        · exact .inr h
        · exact .inl (.inr h)
    · simp only [List.length_append, List.length_take, List.length_drop, List.length_singleton]
      omega
  have later : ∀ {y : ByteArray}, ys[j]? = some y → lt x y = true → ∀ (t : Nat) (y' : ByteArray), j ≤ t → ys[t]? = some y' → lt x y' = true := by
    intro y hy hxy t y' ht hy'
    rcases Nat.lt_or_eq_of_le ht with h | rfl
    · obtain ⟨a1, rfl⟩ := List.getElem?_eq_some_iff.1 hy
      obtain ⟨a2, rfl⟩ := List.getElem?_eq_some_iff.1 hy'
      exact lin.tr _ _ _ hxy (List.pairwise_iff_getElem.1 hris j t a1 a2 h)
    · rw [hy] at hy'
      cases hy'
      exact hxy
  refine ⟨fun hlt => ?_, fun hge => ?_⟩
  · have hlt' : j < ys.length := by
      have : (j : Int) < (m.n : Int) := of_decide_eq_true hlt
      omega
    have hy : ys[j]? = some ys[j] := List.getElem?_eq_getElem hlt'
    obtain ⟨ad, ha, hc⟩ := hE.el _ _ hy
    refine ⟨ad, ha, ⟨by omega, by omega⟩, _, by rw [Int.toNat_natCast]; exact hc, fun h1 => ?_, fun h1 => ⟨fun _ => ?_, fun h => by rw [hlt] at h; cases h⟩⟩
    · have e : w64 ((j : Int) + 1) = ((j + 1 : Nat) : Int) := by rw [wrap64 (by omega) (by omega)]; omega
      rw [e]
      refine ⟨ys.length - (j + 1), by omega, j + 1, rfl, rfl, hlt', rfl, ?_⟩
      intro t y ht hy'
      rcases Nat.lt_or_eq_of_le (Nat.le_of_lt_succ ht) with h' | rfl
      · exact hlo t y h' hy'
      · rw [hy] at hy'
        cases hy'
        exact h1
    · refine ⟨ad, ha, ⟨by omega, by omega⟩, _, by rw [Int.toNat_natCast]; exact hc, fun h2 => ?_, fun h2 => ?_⟩
      · have e2 := beqS_iff.1 h2
        refine k m A ys hr hris ?_ (by omega) (Fr.refl _ _) (fun i hi => .inl hi)
        intro z
        constructor
        · exact .inl
        · rintro (h | rfl)
          · exact h
          · rw [← e2]; exact List.getElem_mem _
      · refine mkj (later hy ?_)
        rcases lin.tot x ys[j] with h | h | h
        · exact h
        · rw [beqS_iff.2 h.symm] at h2
          cases h2
        · have h1' : lt ys[j] x = false := h1
          rw [h1'] at h
          cases h
  · have hge' : j = ys.length := by
      have : ¬ (j : Int) < (m.n : Int) := of_decide_eq_false hge
      omega
    refine ⟨(fun h => by rw [hge] at h; cases h), fun _ => mkj ?_⟩
    intro t y ht hy
    have := (List.getElem?_eq_some_iff.1 hy).1
    omega
theorem rsorted_ok {l : Sl} {xs : List ByteArray} {K : Value → Hp → Prop} {Z : List PanicEntry → Hp → Prop} (h : Els val H l xs) (hbig : xs.length ≤ 2000000)
    (k : ∀ s' H' ys, Rising lt ys → (∀ z, z ∈ ys ↔ z ∈ xs) → Row H' 9 1 s' (ys.map val) → Fr no H H' → (∀ i, own s' i → H.size ≤ i) → K (.slice s'.a s'.n s'.c) H') :
    CallF Try.prog 61 #[.slice l.a l.n l.c] H K Z := by
  refine V61_ok ?_
  unfold V61
  have hl := h.len
  refine ⟨fun s i A m => ∃ (j : Nat) (ys : List ByteArray), i = (j : Int) ∧ j ≤ xs.length ∧ m = xs.length - j ∧ Row A 9 1 s (ys.map val) ∧ Rising lt ys ∧ (∀ z, z ∈ ys ↔ z ∈ xs.take j) ∧ ys.length ≤ j ∧ Fr no H A ∧ (∀ i, own s i → H.size ≤ i),
    ⟨_, 0, [], rfl, Nat.zero_le _, rfl, Row.nil _ _ _, List.Pairwise.nil, by simp, Nat.le_refl _, Fr.refl _ _, by rintro i ⟨o, e⟩; cases e⟩, ?_⟩
  rintro s i A m ⟨j, ys, rfl, hj, rfl, hr, hris, hmem, hyl, hf, ho⟩ scr
  refine ⟨fun hlt => ?_, fun hge => ?_⟩
  · have hlt' : j < xs.length := by
      have : (j : Int) < (l.n : Int) := of_decide_eq_true hlt
      omega
    have hx : xs[j]? = some xs[j] := List.getElem?_eq_getElem hlt'
    obtain ⟨ad, ha, hc⟩ := (h.keep hf (fun _ _ h => h)).el _ _ hx
    refine ⟨ad, ha, ⟨by omega, by omega⟩, _, by rw [Int.toNat_natCast]; exact hc, ?_⟩
    refine into_ok hr hris (by omega) ?_
    intro s' B zs r1 r2 r3 r4 r5 r6
    have e : w64 ((j : Int) + 1) = ((j + 1 : Nat) : Int) := by rw [wrap64 (by omega) (by omega)]; omega
    rw [e]
    refine ⟨s', rfl, xs.length - (j + 1), by omega, j + 1, zs, rfl, hlt', rfl, r1, r2, ?_, by omega, hf.trans r5, ?_⟩
    · intro z
      rw [r3 z, hmem z, List.take_succ_eq_append_getElem hlt', List.mem_append, List.mem_singleton]
    · intro i hi
      rcases r6 i hi with h' | h'
      · exact ho i h'
      · have := hf.size; omega
  · have hge' : j = xs.length := by
      have : ¬ (j : Int) < (l.n : Int) := of_decide_eq_false hge
      omega
    subst hge'
    rw [List.take_length] at hmem
    exact k s A ys hris hmem hr hf ho
end
end Go.Proofs.Ytigbdoicgdmliaa.Q05

