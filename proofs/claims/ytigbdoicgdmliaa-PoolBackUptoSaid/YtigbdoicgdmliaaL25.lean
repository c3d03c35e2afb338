/- weftlaw25: helpers. -/
import Derived.Test.YtigbdoicgdmliaaP25
import Derived.Test.YtigbdoicgdmliaaQ05
set_option linter.unusedVariables false
set_option linter.unusedSimpArgs false
-- tWr: 71
-- tStr: 9
-- tStrs: 47
-- write: 32
-- wDone: 33
-- rOf: 29
-- great: 27
-- same: 34
-- works: 37
namespace Go.Proofs.Ytigbdoicgdmliaa.L25
open Go Go.V Go.Proofs Go.Proofs.Ytigbdoicgdmliaa.N25 Go.Proofs.Ytigbdoicgdmliaa.P02 Go.Proofs.Ytigbdoicgdmliaa.C25
attribute [local irreducible] Cvt ExtF CallF hrun App MkS
def sumL (xs : List (List UInt8)) : Nat := (xs.map List.length).sum
theorem sum_mem {xs : List (List UInt8)} {x : List UInt8} (h : x ∈ xs) : x.length ≤ sumL xs := by
  induction xs with
  | nil => cases h
  | cons y xs ih =>
    unfold sumL at ih ⊢
    rw [List.map_cons, List.sum_cons]
    rcases List.mem_cons.1 h with rfl | h
    · omega
    · have := ih h; omega
theorem body_len {M : Nat} (hM : M ≤ 200000) : ∀ (ts : List (List UInt8)) (last : List UInt8), (∀ x ∈ ts, x.length ≤ M) → (bodyL last ts).length ≤ ts.length * (M + 10)
  | [], _, _ => by simp [bodyL]
  | x :: r, last, h => by
    have h1 := h x List.mem_cons_self
    have h2 := body_len hM r x fun y hy => h y (List.mem_cons_of_mem _ hy)
    obtain ⟨s1, s2, _⟩ := shL_le last x
    have n1 := numB_len5 (n := shL last x) (by omega)
    have n2 := numB_len5 (n := x.length - shL last x) (by omega)
    rw [bodyL]
    simp only [List.length_append, List.length_drop, List.length_cons]
    rw [Nat.add_mul]
    omega
theorem okp_of {ts : List (List UInt8)} {M : Nat} (hM : M ≤ 200000) (hn : ts.length ≤ 6000) (h : ∀ x ∈ ts, x.length ≤ M) : Okp ts := by
  refine ⟨by omega, fun t ht => Nat.le_trans (h t ht) hM, ?_⟩
  have h1 := body_len hM ts [] h
  have h2 := numB_len5 (n := ts.length) (by omega)
  have h3 : ts.length * (M + 10) ≤ 6000 * (200000 + 10) := Nat.mul_le_mul hn (by omega)
  unfold bytesL
  rw [List.length_append]
  omega
section
variable {H : Hp} {K : Value → Hp → Prop} {Z : List PanicEntry → Hp → Prop}
theorem great_ok {l : Sl} {xs : List (List UInt8)} (h : Rd flL 1 H l xs) (hb : ∀ x ∈ xs, x.length ≤ 1048576) (k1 : K (.bool true) H) (k2 : xs.length ≤ 100 → sumL xs ≤ 20000 → K (.bool false) H) : CallF Try.prog 27 #[.slice l.a l.n l.c] H K Z := by
  refine V27_ok ?_
  unfold V27
  have hn := h.len
  refine ⟨fun n i A m => ∃ j : Nat, A = H ∧ i = (j : Int) ∧ n = ((sumL (xs.take j) : Nat) : Int) ∧ sumL (xs.take j) ≤ 20000 ∧ j ≤ 100 ∧ j ≤ xs.length ∧ m = xs.length - j, ⟨_, 0, rfl, rfl, rfl, Nat.zero_le _, Nat.zero_le _, Nat.zero_le _, rfl⟩, ?_⟩
  rintro n i A m ⟨j, rfl, rfl, rfl, hs, hj, hjl, rfl⟩ scr
  refine ⟨fun hlt => ?_, fun hge => ?_⟩
  · have hlt' : j < xs.length := by have := dlt hlt; omega
    have hx : xs[j]? = some xs[j] := List.getElem?_eq_getElem hlt'
    have hsz := hb _ (List.getElem_mem hlt')
    have htk : sumL (xs.take (j + 1)) = sumL (xs.take j) + xs[j].length := by
      rw [List.take_succ_eq_append_getElem hlt']
      unfold sumL
      rw [List.map_append, List.sum_append]
      simp
    generalize xs[j] = x at hx hsz htk
    have e : w64 (((sumL (xs.take j) : Nat) : Int) + ((str x).size : Int)) = ((sumL (xs.take (j + 1)) : Nat) : Int) := by
      rw [str_size, htk, wid (by omega) (by omega)]
      omega
    refine h.ixn FlL hx fun ad had => ⟨_, had, fun _ => k1, fun hlo => ?_⟩
    rw [e]
    refine ⟨fun _ => k1, fun hle => ⟨xs.length - (j + 1), by omega, j + 1, rfl, wi (by omega), rfl, ?_, ?_, hlt', rfl⟩⟩
    · have := of_decide_eq_false hle
      omega
    · have := of_decide_eq_false hlo
      omega
  · have : j = xs.length := by have := dge hge; omega
    subst this
    rw [List.take_length] at hs
    exact k2 hj hs
theorem idx_eq {ts : List (List UInt8)} (hr : Rising ltL ts) {i j : Nat} {t : List UInt8} (hi : ts[i]? = some t) (hj : ts[j]? = some t) : i = j := by
  obtain ⟨h1, e1⟩ := List.getElem?_eq_some_iff.1 hi
  obtain ⟨h2, e2⟩ := List.getElem?_eq_some_iff.1 hj
  rcases Nat.lt_trichotomy i j with h | h | h
  · have := List.pairwise_iff_getElem.1 hr i j h1 h2 h
    rw [e1, e2, linL.irr] at this
    cases this
  · exact h
  · have := List.pairwise_iff_getElem.1 hr j i h2 h1 h
    rw [e1, e2, linL.irr] at this
    cases this
theorem same_ok {p : Addr} {l : Sl} {ts : List (List UInt8)} (hp : PlS H p ts) (hl : Rd flL 1 H l ts) (hr : Rising ltL ts) (hbig : ts.length ≤ 1000000000) (k : K (.bool true) H) : CallF Try.prog 34 #[.pointer (some p), .slice l.a l.n l.c] H K Z := by
  refine V34_ok ?_
  unfold V34
  have hn := hl.len
  refine len_ok hp ⟨_, rfl, fun hne => ?_, fun _ => ?_⟩
  · rw [hn] at hne
    simp at hne
  refine ⟨fun i A m => ∃ j : Nat, A = H ∧ i = (j : Int) ∧ j ≤ ts.length ∧ m = ts.length - j, ⟨_, 0, rfl, rfl, Nat.zero_le _, rfl⟩, ?_⟩
  rintro i A m ⟨j, rfl, rfl, hj, rfl⟩ scr
  refine ⟨fun hlt => ?_, fun hge => ?_⟩
  · have hlt' : j < ts.length := by have := dlt hlt; omega
    have hx : ts[j]? = some ts[j] := List.getElem?_eq_getElem hlt'
    generalize ts[j] = x at hx
    refine at_ok hp (fun t h0 ht => ?_) (fun h => by omega)
    rw [Int.toNat_natCast, hx] at ht
    cases ht
    refine ⟨_, _, rfl, hl.ixn FlL hx fun ad had => ⟨_, had, ?_⟩⟩
    refine number_ok hp hr hbig (fun i hi => ?_) (fun hno => absurd (List.mem_of_getElem? hx) hno)
    obtain rfl := idx_eq hr hi hx
    refine ⟨_, _, rfl, hl.ixn FlL hx fun ad1 had1 => ⟨_, had1, fun h => ?_, fun _ => ⟨(fun h => by cases h), fun _ => ⟨fun h => ?_, fun _ => ⟨(fun h => by cases h), fun _ => ⟨ts.length - (i + 1), by omega, i + 1, rfl, wi (by omega), hlt', rfl⟩⟩⟩⟩⟩⟩
    · rw [beqS_iff.2 rfl] at h
      cases h
    · simp at h
  · refine at_ok hp (fun t h0 ht => ?_) (fun _ => ⟨_, _, rfl, ?_⟩)
    · have := (List.getElem?_eq_some_iff.1 ht).1
      omega
    · refine at_ok hp (fun t h0 ht => by omega) (fun _ => ⟨_, _, rfl, fun _ => k, (fun h => by cases h)⟩)
/-- texts in order, by the reference -/
theorem rof_ok {l : Sl} {xs : List (List UInt8)} (h : Rd flL 1 H l xs) (hbig : xs.length ≤ 2000000)
    (k : ∀ s ts H', Rising ltL ts → (∀ z, z ∈ ts ↔ z ∈ xs) → Rd flL 1 H' s ts → Fr no H H' → K (.slice s.a s.n s.c) H') : CallF Try.prog 29 #[.slice l.a l.n l.c] H K Z := by
  refine V29_ok ?_
  unfold V29
  refine Q05.rsorted_ok (rd_els (val := C05S.val) (fun _ => rfl) h) (by rw [List.length_map]; exact hbig) ?_
  intro s A ys hris hmem hrow hf hown
  refine ⟨s, rfl, ?_⟩
  refine k s (ys.map (·.data.toList)) A (rising_map hris) (fun z => ?_) (row_rdI hrow).1 hf
  rw [List.mem_map]
  constructor
  · rintro ⟨y, hy, rfl⟩
    have := (hmem y).1 hy
    obtain ⟨x, hx, e⟩ := List.mem_map.1 this
    rw [← e, str_data]
    exact hx
  · intro hz
    exact ⟨str z, (hmem _).2 (List.mem_map.2 ⟨z, hz, rfl⟩), str_data z⟩
/-! ### a new writer -/
def wcs : List Value := [.pointer none, .slice none 0 0, .int .i64 0]
theorem wcs_no (i : Nat) : ¬ Bld.bOwn wcs 0 i := by
  rintro ⟨o, n, c, h⟩
  simp [wcs] at h
theorem wr_new {A : Hp} {b : Nat} (hb : Blk A b wcs 71) : C02.WrS A b 0 71 wcs ([], 0) :=
  ⟨⟨hb, ⟨none, rfl, .inl rfl⟩, ⟨⟨none, 0, 0⟩, rfl, Row.nil _ _ _, by rintro ⟨o, h⟩; cases h⟩, by kernel_rfl⟩, rfl⟩
theorem wr_fr {A B : Hp} {b : Nat} {cs : List Value} {st : St} (h : C02.WrTo A B b 0 71 wcs cs st) : Fr (fun i => i = b) A B := h.fr.mono fun i _ hi => hi.resolve_right (wcs_no i)
theorem write_new {b bP : Nat} {s : Sl} {ts : List (List UInt8)} (hts : Okp ts) (hb : Blk H b wcs 71) (hp : (plI bP s ts).ok H) (hne : ¬ (plI bP s ts).fp b)
    (k : ∀ H' cs', C02.WrTo H H' b 0 71 wcs cs' (bytesL ts, 0) → K (.tuple #[]) H') : CallF Try.prog 32 #[.pointer (some ⟨bP, 0, none⟩), .pointer (some ⟨b, 0, none⟩)] H K Z := by
  refine write_ok (xs := []) hts (wr_new hb) (Nat.zero_le _) (s := s) (hp.1.ld 0) (fun A hA => hp.2.1.keep hA fun i hi => ?_) (fun H' cs' hw => k H' cs' hw)
  rintro (rfl | h)
  · exact hne (.inr hi)
  · exact wcs_no i h
theorem done_new {A : Hp} {b : Nat} {cs : List Value} {ts : List (List UInt8)} (hts : Okp ts) (hw : C02.WrTo A H b 0 71 wcs cs (bytesL ts, 0)) (k : ∀ H', Fr (fun i => i = b) A H' → K (.tuple #[.string (str (bytesL ts)), .int .i64 0]) H') :
    CallF Try.prog 33 #[.pointer (some ⟨b, 0, none⟩)] H K Z := by
  have hl := hts.light
  refine C02.done hw.st (by show (bytesL ts).length < _; omega) fun H' h => ?_
  exact k H' (wr_fr (hw.trans h))
theorem mem3 {ts : List (List UInt8)} (h : ∀ z, z ∈ ts ↔ z ∈ [[98], [97, 98], [(97 : UInt8)]]) (hr : Rising ltL ts) : ts = [[97], [97, 98], [98]] := by
  refine rising_eq linL hr ?_ ?_
  · unfold Rising
    decide
  · intro x
    rw [h x]
    simp only [List.mem_cons, List.not_mem_nil, or_false]
    constructor
    · rintro (h | h | h) <;> simp [h]
    · rintro (h | h | h) <;> simp [h]
theorem works_ok (k : ∀ H', Fr no H H' → K (.bool true) H') : CallF Try.prog 37 #[] H K Z := by
  refine V37_ok ?_
  unfold V37
  intro b A hA b1 B hB
  have hr : RowN flL 9 1 B ⟨some ⟨b1, 0, none⟩, 3, 3⟩ [[98], [97, 98], [97]] := rowN_lit FlL (by decide) hB.blk rfl
  refine of_ok (hr.rd FlL (by decide)) (by decide) fun bP s ts C hris hmem hlen fC hpl hfp => ⟨_, rfl, ?_⟩
  obtain rfl := mem3 hmem hris
  have hts : Okp [[97], [97, 98], [(98 : UInt8)]] := okp_of (M := 2) (by decide) (by decide) (by simp)
  have hbk : Blk C b wcs 71 := fC.blk (hB.fr.blk hA.blk fun h => h) fun h => h
  have hne : ¬ (plI bP s [[97], [97, 98], [98]]).fp b := by
    intro h
    have h1 := hfp b h
    have h2 := hA.eq
    have h3 := hA.size
    have h4 := hB.size
    omega
  refine write_new hts hbk hpl hne fun D cs' hD => ⟨rfl, ?_⟩
  refine done_new hts hD fun E fE => ⟨_, _, rfl, fun _ => ?_, (fun h => by cases h)⟩
  have e : beqS (str (bytesL [[97], [97, 98], [98]])) ⟨#[3, 0, 1, 97, 1, 1, 98, 0, 1, 98]⟩ = true := by
    show beqS _ (str [3, 0, 1, 97, 1, 1, 98, 0, 1, 98]) = true
    rw [beq_str, decide_eq_true_eq]
    simp [bytesL, bodyL, shL, numB_lt]
  rw [e]
  refine k E ?_
  refine ((hA.fr.trans hB.fr).trans fC).step fE ?_
  intro i hi e
  have := hA.eq
  omega
end
end Go.Proofs.Ytigbdoicgdmliaa.L25

