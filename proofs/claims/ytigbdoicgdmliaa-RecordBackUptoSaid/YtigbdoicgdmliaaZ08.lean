import Derived.Test.YtigbdoicgdmliaaZ07
section
/- pool, and weftref25: what their functions do, on lists of bytes. -/
set_option linter.unusedVariables false
set_option linter.unusedSimpArgs false
-- tPool: 108
-- tStr: 9
-- of: 28
-- list: 63
-- number: 30
-- pat: 68
-- len: 36
-- shared: 65
-- write: 32
-- next: 75
-- wrong: 73
-- read: 39
-- rShared: 70
-- rBytes: 35
-- rOf: 29
-- bs: 62
-- less: 102
-- nan: 103
namespace Go.Proofs.Ytigbdoicgdmliaa.C25
open Go Go.V Go.Proofs Go.Proofs.Ytigbdoicgdmliaa.N25 Go.Proofs.Ytigbdoicgdmliaa.P02
attribute [local irreducible] Cvt ExtF CallF hrun App MkS
section
variable {H : Hp} {K : Value → Hp → Prop} {Z : List PanicEntry → Hp → Prop}
theorem row_rdI {E : TypeId} {s : Sl} {xs : List ByteArray} (h : Row H E 1 s (xs.map C05S.val)) : (rdI flL 1 s (xs.map (·.data.toList))).ok H := by
  refine ⟨els_rd (fun _ => rfl) (Els.row h) ?_, ?_⟩
  · rcases h.2 with h | ⟨g, cs, fr, ha, hg, h1, _⟩
    · rw [h.2.1]; exact Nat.zero_le _
    · exact h1
  · rintro i ⟨ad, ha, rfl⟩
    rcases h.2 with h | ⟨g, cs, fr, ha', hg, h1, _⟩
    · rw [h.1] at ha; cases ha
    · rw [ha'] at ha
      cases ha
      exact (Array.getElem?_eq_some_iff.1 hg).1
theorem less_ok {x y : List UInt8} (k : K (.bool (ltL x y)) H) : CallF Try.prog 102 #[.string (str x), .string (str y)] H K Z := by
  refine V102_ok ?_
  unfold V102
  refine C05S.nan_ok ⟨_, rfl, (fun h => by cases h), fun _ => ?_⟩
  rw [lt_strL]
  exact k
theorem bs_ok {s : Sl} {ts : List (List UInt8)} {t : List UInt8} (h : Rd flL 1 H s ts) (hr : Rising ltL ts) (hbig : ts.length ≤ 1000000000)
    (k1 : ∀ i : Nat, ts[i]? = some t → K (.tuple #[.int .i64 (i : Int), .bool true]) H) (k2 : ∀ i : Nat, t ∉ ts → K (.tuple #[.int .i64 (i : Int), .bool false]) H) : CallF Try.prog 62 #[.slice s.a s.n s.c, .string (str t)] H K Z := by
  refine V62_ok ?_
  unfold V62
  have hl := h.len
  have hrise : ∀ (i j : Nat) (x y : List UInt8), i < j → ts[i]? = some x → ts[j]? = some y → ltL x y = true := by
    intro i j x y hij hi hj
    obtain ⟨h1, rfl⟩ := List.getElem?_eq_some_iff.1 hi
    obtain ⟨h2, rfl⟩ := List.getElem?_eq_some_iff.1 hj
    exact List.pairwise_iff_getElem.1 hr i j h1 h2 hij
  refine ⟨fun i j A m => ∃ a b : Nat, A = H ∧ i = (a : Int) ∧ j = (b : Int) ∧ a ≤ b ∧ b ≤ ts.length ∧ m = b - a ∧ (∀ (c : Nat) (x : List UInt8), c < a → ts[c]? = some x → ltL x t = true) ∧ (∀ (c : Nat) (x : List UInt8), b ≤ c → ts[c]? = some x → ltL x t = false),
    ⟨_, 0, ts.length, rfl, rfl, by rw [hl], Nat.zero_le _, Nat.le_refl _, rfl, fun c x hc => absurd hc (Nat.not_lt_zero _), fun c x hc hx => by have := (List.getElem?_eq_some_iff.1 hx).1; omega⟩, ?_⟩
  rintro i j A m ⟨a, b, rfl, rfl, rfl, hab, hb, rfl, hlo, hhi⟩ scr
  refine ⟨fun hlt => ?_, fun hge => ?_⟩
  · have hlt' := dlt hlt
    rw [mid_eq (by omega)]
    have hm : (a + b) / 2 < ts.length := by omega
    have hx : ts[(a + b) / 2]? = some ts[(a + b) / 2] := List.getElem?_eq_getElem hm
    generalize ts[(a + b) / 2] = x at hx
    refine h.ixn FlL hx fun ad had => ⟨_, had, less_ok ⟨_, rfl, fun hy => ?_, fun hy => ?_⟩⟩
    · refine ⟨b - ((a + b) / 2 + 1), by omega, (a + b) / 2 + 1, b, rfl, wi (by omega), rfl, by omega, hb, rfl, fun c y hc hy' => ?_, hhi⟩
      rcases Nat.lt_or_ge c ((a + b) / 2) with h1 | h1
      · exact linL.tr _ _ _ (hrise _ _ _ _ h1 hy' hx) hy
      · have : c = (a + b) / 2 := by omega
        subst this
        rw [hx] at hy'
        cases hy'
        exact hy
    · refine ⟨(a + b) / 2 - a, by omega, a, (a + b) / 2, rfl, rfl, rfl, by omega, by omega, rfl, hlo, fun c y hc hy' => ?_⟩
      rcases Nat.lt_or_ge ((a + b) / 2) c with h1 | h1
      · cases hyt : ltL y t with
        | false => rfl
        | true =>
          have := linL.tr _ _ _ (hrise _ _ _ _ h1 hx hy') hyt
          rw [this] at hy
          cases hy
      · have : c = (a + b) / 2 := by omega
        subst this
        rw [hx] at hy'
        cases hy'
        exact hy
  · have hge' := dge hge
    have e : b = a := by omega
    subst e
    have none_ : ts[b]? ≠ some t → t ∉ ts := by
      intro hn hm
      obtain ⟨c, hc⟩ := List.getElem?_of_mem hm
      rcases Nat.lt_trichotomy c b with h1 | h1 | h1
      · have := hlo c t h1 hc
        rw [linL.irr] at this
        cases this
      · subst h1
        exact hn hc
      · have hcl := (List.getElem?_eq_some_iff.1 hc).1
        have hx : ts[b]? = some ts[b] := List.getElem?_eq_getElem (by omega)
        have h2 := hrise _ _ _ _ h1 hx hc
        have h3 := hhi b _ (Nat.le_refl _) hx
        rw [h2] at h3
        cases h3
    refine ⟨fun hlt => ?_, fun hge2 => ?_⟩
    · have hbl : b < ts.length := by have := of_decide_eq_true hlt; omega
      have hx : ts[b]? = some ts[b] := List.getElem?_eq_getElem hbl
      generalize ts[b] = x at hx
      refine h.ixn FlL hx fun ad had => ⟨_, had, fun heq => ?_, fun hne => ?_⟩
      · rw [beq_str] at heq
        have : x = t := of_decide_eq_true heq
        subst this
        exact k1 b hx
      · rw [beq_str] at hne
        have hne' : x ≠ t := of_decide_eq_false hne
        refine h.ixn FlL hx fun ad had => ⟨_, had, V103_ok ?_⟩
        unfold V103
        refine ⟨_, rfl, fun h => ?_, fun _ => k2 b (none_ (by rw [hx]; simpa using hne'))⟩
        rw [beqS_iff.2 rfl] at h
        cases h
    · have hbl : ts.length ≤ b := by have := of_decide_eq_false hge2; omega
      exact k2 b (none_ (by rw [List.getElem?_eq_none hbl]; simp))
/-- a pool's texts, as they are read -/
def PlS (H : Hp) (ad : Addr) (ts : List (List UInt8)) : Prop := ∃ s : Sl, hcell H ad = some (.slice s.a s.n s.c) ∧ Rd flL 1 H s ts
theorem PlS.more {H' : Hp} {ad : Addr} {ts : List (List UInt8)} (h : PlS H ad ts) (hf : Fr no H H') : PlS H' ad ts := by
  obtain ⟨s, h1, h2⟩ := h
  exact ⟨s, hf.cell h1 fun h => h, h2.more hf⟩
theorem list_ok {ad : Addr} {ts : List (List UInt8)} (h : PlS H ad ts) (k : ∀ s : Sl, Rd flL 1 H s ts → K (.slice s.a s.n s.c) H) : CallF Try.prog 63 #[.pointer (some ad)] H K Z := by
  refine V63_ok ?_
  unfold V63
  obtain ⟨s, h1, h2⟩ := h
  exact ⟨(fun h => by cases h), fun _ => ⟨s, h1, k s h2⟩⟩
theorem listN_ok (k : K (.slice none 0 0) H) : CallF Try.prog 63 #[.pointer none] H K Z := by
  refine V63_ok ?_
  unfold V63
  exact ⟨fun _ => k, (fun h => by cases h)⟩
theorem number_ok {ad : Addr} {ts : List (List UInt8)} {t : List UInt8} (h : PlS H ad ts) (hr : Rising ltL ts) (hbig : ts.length ≤ 1000000000)
    (k1 : ∀ i : Nat, ts[i]? = some t → K (.tuple #[.int .i64 (i : Int), .bool true]) H) (k2 : t ∉ ts → K (.tuple #[.int .i64 0, .bool false]) H) : CallF Try.prog 30 #[.pointer (some ad), .string (str t)] H K Z := by
  refine V30_ok ?_
  unfold V30
  refine list_ok h fun s hs => ⟨s, rfl, bs_ok hs hr hbig (fun i hi => ?_) (fun i hi => ?_)⟩
  · exact ⟨_, _, rfl, (fun h => by cases h), fun _ => k1 i hi⟩
  · exact ⟨_, _, rfl, fun _ => k2 hi, (fun h => by cases h)⟩
theorem numberN_ok {t : List UInt8} (k : K (.tuple #[.int .i64 0, .bool false]) H) : CallF Try.prog 30 #[.pointer none, .string (str t)] H K Z := by
  refine V30_ok ?_
  unfold V30
  refine listN_ok ⟨⟨none, 0, 0⟩, rfl, bs_ok (ts := []) Rd.nil List.Pairwise.nil (Nat.zero_le _) (fun i hi => by simp at hi) (fun i hi => ?_)⟩
  exact ⟨_, _, rfl, fun _ => k, (fun h => by cases h)⟩
theorem at_ok {ad : Addr} {ts : List (List UInt8)} {n : Int} (h : PlS H ad ts)
    (k1 : ∀ t, 0 ≤ n → ts[n.toNat]? = some t → K (.tuple #[.string (str t), .bool true]) H) (k2 : (n < 0 ∨ (ts.length : Int) ≤ n) → K (.tuple #[.string ⟨#[]⟩, .bool false]) H) : CallF Try.prog 68 #[.pointer (some ad), .int .i64 n] H K Z := by
  refine V68_ok ?_
  unfold V68
  refine list_ok h fun s hs => ⟨s, rfl, fun h0 => ⟨fun h1 => ?_, fun h1 => k2 (.inr ?_)⟩, fun h0 => k2 (.inl ?_)⟩
  · have hl := hs.len
    have h0' := of_decide_eq_true h0
    have h1' := of_decide_eq_true h1
    have hx : ts[n.toNat]? = some (ts[n.toNat]'(by omega)) := List.getElem?_eq_getElem _
    exact hs.ix1 FlL h0' hx fun ad had => ⟨_, had, k1 _ h0' hx⟩
  · have hl := hs.len
    have h1' := of_decide_eq_false h1
    omega
  · have := of_decide_eq_false h0
    omega
theorem len_ok {ad : Addr} {ts : List (List UInt8)} (h : PlS H ad ts) (k : K (.int .i64 (ts.length : Int)) H) : CallF Try.prog 36 #[.pointer (some ad)] H K Z := by
  refine V36_ok ?_
  unfold V36
  refine list_ok h fun s hs => ⟨s, rfl, ?_⟩
  rw [hs.len]
  exact k
theorem lenN_ok (k : K (.int .i64 0) H) : CallF Try.prog 36 #[.pointer none] H K Z := by
  refine V36_ok ?_
  unfold V36
  exact listN_ok ⟨⟨none, 0, 0⟩, rfl, k⟩
/-- a pool: its struct and its texts -/
def plI (b : Nat) (s : Sl) (ts : List (List UInt8)) : It where
  ok H := Blk H b [.slice s.a s.n s.c] 108 ∧ (rdI flL 1 s ts).ok H
  fp i := i = b ∨ rown s i
  lt h hi := by
    rcases hi with rfl | hi
    · exact h.1.lt
    · exact h.2.2 _ hi
  st := by
    intro H H' h hs
    refine ⟨?_, (rdI flL 1 s ts).st h.2 fun i hi => hs i (.inr hi)⟩
    have h1 := hs b (.inl rfl)
    show H'[b]? = _
    rw [h1]
    exact h.1
theorem plI_s {b : Nat} {s : Sl} {ts : List (List UInt8)} (h : (plI b s ts).ok H) : PlS H ⟨b, 0, none⟩ ts := ⟨s, h.1.ld 0, h.2.1⟩
theorem of_ok {l : Sl} {xs : List (List UInt8)} (h : Rd flL 1 H l xs) (hbig : xs.length ≤ 2000000)
    (k : ∀ b s ts H', Rising ltL ts → (∀ z, z ∈ ts ↔ z ∈ xs) → ts.length ≤ xs.length → Fr no H H' → (plI b s ts).ok H' → (∀ i, (plI b s ts).fp i → H.size ≤ i) → K (.pointer (some ⟨b, 0, none⟩)) H') : CallF Try.prog 28 #[.slice l.a l.n l.c] H K Z := by
  refine V28_ok ?_
  unfold V28
  refine C05S.sorted_ok (rd_els (val := C05S.val) (fun _ => rfl) h) (by rw [List.length_map]; exact hbig) ?_
  intro s A ys hris hmem hlen hrow hf hown
  refine ⟨s, rfl, fun b B hn => ?_⟩
  refine k b s (ys.map (·.data.toList)) B (rising_map hris) (fun z => ?_) (by simpa using hlen) (hf.trans hn.fr) ⟨hn.blk, row_rdI (hrow.keep hn.fr fun _ _ h => h)⟩ ?_
  · rw [List.mem_map]
    constructor
    · rintro ⟨y, hy, rfl⟩
      have := (hmem y).1 hy
      obtain ⟨x, hx, e⟩ := List.mem_map.1 this
      rw [← e, str_data]
      exact hx
    · intro hz
      exact ⟨str z, (hmem _).2 (List.mem_map.2 ⟨z, hz, rfl⟩), str_data z⟩
  · have hs := hf.size
    have he := hn.eq
    rintro i (rfl | ⟨ad, ha, rfl⟩)
    · omega
    · refine hown _ ?_
      rcases hrow.2 with h' | ⟨g, cs, fr, ha', _⟩
      · rw [h'.1] at ha; cases ha
      · rw [ha'] at ha
        cases ha
        exact ⟨0, ha'⟩
end
end Go.Proofs.Ytigbdoicgdmliaa.C25
end

section
/- pool, and weftref25: a pool in bytes. -/
set_option linter.unusedVariables false
set_option linter.unusedSimpArgs false
-- shared: 65
-- list: 63
-- write: 32
-- rShared: 70
-- rBytes: 35
-- rOf: 29
-- rNumber: 69
namespace Go.Proofs.Ytigbdoicgdmliaa.C25
open Go Go.V Go.Proofs Go.Proofs.Ytigbdoicgdmliaa.N25 Go.Proofs.Ytigbdoicgdmliaa.P02
attribute [local irreducible] Cvt ExtF CallF hrun App MkS
def bodyL : List UInt8 → List (List UInt8) → List UInt8
  | _, [] => []
  | last, s :: r => numB (shL last s) ++ (numB (s.length - shL last s) ++ (s.drop (shL last s) ++ bodyL s r))
def bytesL (ts : List (List UInt8)) : List UInt8 := numB ts.length ++ bodyL [] ts
theorem dropx {τ : Type} {l : List τ} {j : Nat} {x : τ} (h : l[j]? = some x) : l.drop j = x :: l.drop (j + 1) := by
  obtain ⟨h1, rfl⟩ := List.getElem?_eq_some_iff.1 h
  exact List.drop_eq_getElem_cons h1
section
variable {H : Hp} {K : Value → Hp → Prop} {Z : List PanicEntry → Hp → Prop}
theorem take_more {a b : List UInt8} {j : Nat} {x : UInt8} (h : a.take j = b.take j) (ha : a[j]? = some x) (hb : b[j]? = some x) : a.take (j + 1) = b.take (j + 1) := by
  obtain ⟨h1, rfl⟩ := List.getElem?_eq_some_iff.1 ha
  obtain ⟨h2, e⟩ := List.getElem?_eq_some_iff.1 hb
  rw [List.take_succ_eq_append_getElem h1, List.take_succ_eq_append_getElem h2, h, e]
theorem shared_ok {a b : List UInt8} (ha : a.length ≤ 1000000000) (k : K (.int .i64 (shL a b : Nat)) H) : CallF Try.prog 65 #[.string (str a), .string (str b)] H K Z := by
  refine V65_ok ?_
  unfold V65
  simp only [str_size]
  refine ⟨fun t A m => ∃ j : Nat, A = H ∧ t = (j : Int) ∧ j ≤ a.length ∧ j ≤ b.length ∧ a.take j = b.take j ∧ m = a.length - j, ⟨_, 0, rfl, rfl, Nat.zero_le _, Nat.zero_le _, rfl, rfl⟩, ?_⟩
  rintro t A m ⟨j, rfl, rfl, h1, h2, he, rfl⟩ scr
  refine ⟨fun hlt => ?_, fun hge => ?_⟩
  · have hlt' := of_decide_eq_true hlt
    have hj : j < a.length ∧ j < b.length := by
      split at hlt' <;> omega
    have hx : a[j]? = some a[j] := List.getElem?_eq_getElem hj.1
    have hy : b[j]? = some b[j] := List.getElem?_eq_getElem hj.2
    generalize a[j] = x at hx
    generalize b[j] = y at hy
    refine IxS.mk hx (IxS.mk hy ⟨fun h => ?_, fun h => ?_⟩)
    · obtain rfl := u8_int.1 h
      exact ⟨a.length - (j + 1), by omega, j + 1, rfl, wi (by omega), hj.1, hj.2, take_more he hx hy, rfl⟩
    · have hne : x ≠ y := fun e => by rw [u8_int.2 e] at h; cases h
      rw [shL_at h1 h2 he (.inr (.inr (by rw [hx, hy]; simpa using hne)))] at k
      exact k
  · have hge' := of_decide_eq_false hge
    have hj : j = a.length ∨ j = b.length := by
      split at hge' <;> omega
    rw [shL_at h1 h2 he (by rcases hj with h | h; exact .inl h; exact .inr (.inl h))] at k
    exact k
theorem rshared_ok {a b : List UInt8} (ha : a.length ≤ 1000000000) (k : K (.int .i64 (shL a b : Nat)) H) : CallF Try.prog 70 #[.string (str a), .string (str b)] H K Z := by
  refine V70_ok ?_
  unfold V70
  simp only [str_size]
  refine ⟨fun t A m => ∃ j : Nat, A = H ∧ t = (j : Int) ∧ j ≤ a.length ∧ j ≤ b.length ∧ a.take j = b.take j ∧ m = a.length - j, ⟨_, 0, rfl, rfl, Nat.zero_le _, Nat.zero_le _, rfl, rfl⟩, ?_⟩
  rintro t A m ⟨j, rfl, rfl, h1, h2, he, rfl⟩ scr
  have fin : (j = a.length ∨ j = b.length ∨ a[j]? ≠ b[j]?) → K (.int .i64 (j : Int)) A := fun h => by
    rw [shL_at h1 h2 he h] at k
    exact k
  refine ⟨fun hlt => ⟨fun hlt2 => ?_, fun hge => fin (.inr (.inl (by have := dge hge; omega)))⟩, fun hge => fin (.inl (by have := dge hge; omega))⟩
  have hj1 := dlt hlt
  have hj2 := dlt hlt2
  have hx : a[j]? = some a[j] := List.getElem?_eq_getElem hj1
  have hy : b[j]? = some b[j] := List.getElem?_eq_getElem hj2
  generalize a[j] = x at hx
  generalize b[j] = y at hy
  refine IxS.mk hx (IxS.mk hy ⟨fun h => ?_, fun h => ?_⟩)
  · obtain rfl := u8_int.1 h
    exact ⟨a.length - (j + 1), by omega, j + 1, rfl, wi (by omega), hj1, hj2, take_more he hx hy, rfl⟩
  · have hne : x ≠ y := fun e => by rw [u8_int.2 e] at h; cases h
    exact fin (.inr (.inr (by rw [hx, hy]; simpa using hne)))
theorem putN_ok {xs : List UInt8} {n : Nat} (h : n ≤ 268435456) : putN (xs, 0) (n : Int) = (xs ++ numB n, 0) := by
  unfold putN
  rw [if_neg (by simp), if_neg (by omega), Int.toNat_natCast]
theorem putT_ok {xs t : List UInt8} (h : t.length ≤ 200000) : putT (xs, 0) (str t) = (xs ++ (numB t.length ++ t), 0) := by
  unfold putT
  rw [if_neg (by simp), if_neg (by rw [str_size]; omega), str_size, str_data, List.append_assoc]
/-- what a pool may be, to be written -/
structure Okp (ts : List (List UInt8)) : Prop where
  few : ts.length ≤ 268435456
  short : ∀ t ∈ ts, t.length ≤ 200000
  light : (bytesL ts).length ≤ 1000000000000
theorem write_ok {p : Addr} {ts : List (List UInt8)} {b o : Nat} {T : TypeId} {cs : List Value} {xs : List UInt8} (hts : Okp ts) (hw : C02.WrS H b o T cs (xs, 0)) (hx : xs.length ≤ 1000000000000)
    {s : Sl} (hc : hcell H p = some (.slice s.a s.n s.c)) (hp : ∀ A, Fr (fun i => i = b ∨ Bld.bOwn cs o i) H A → Rd flL 1 A s ts) (k : ∀ H' cs', C02.WrTo H H' b o T cs cs' (xs ++ bytesL ts, 0) → K (.tuple #[]) H') :
    CallF Try.prog 32 #[.pointer (some p), .pointer (some ⟨b, o, none⟩)] H K Z := by
  refine V32_ok ?_
  unfold V32
  have hlight := hts.light
  have hfew := hts.few
  unfold bytesL at hlight
  rw [List.length_append] at hlight
  have hn := (hp H (Fr.refl _ _)).len
  refine V63_ok ?_
  unfold V63
  refine ⟨(fun h => by cases h), fun _ => ⟨s, hc, s, rfl, ?_⟩⟩
  refine C02.number hw (by show xs.length + 5 ≤ _; omega) fun A cs1 w1 => ⟨rfl, ?_⟩
  have hw1 : C02.WrTo H A b o T cs cs1 (xs ++ numB ts.length, 0) := by
    have := w1
    rw [hn, putN_ok hts.few] at this
    exact this
  refine ⟨fun last t B m => ∃ (j : Nat) (lst pre : List UInt8) (cs2 : List Value), last = str lst ∧ t = (j : Int) ∧ j ≤ ts.length ∧ C02.WrTo H B b o T cs cs2 (xs ++ pre, 0) ∧ pre ++ bodyL lst (ts.drop j) = bytesL ts ∧ lst.length ≤ 200000 ∧ m = ts.length - j,
    ⟨_, 0, [], _, cs1, rfl, rfl, Nat.zero_le _, hw1, by rw [List.drop_zero]; rfl, Nat.zero_le _, rfl⟩, ?_⟩
  rintro last t B m ⟨j, lst, pre, cs2, rfl, rfl, hj, w2, hpre, hlst, rfl⟩ scr
  have hB : Rd flL 1 B s ts := hp B w2.fr
  refine ⟨fun hlt => ?_, fun hge => ?_⟩
  · have hjl : j < ts.length := by have := dlt hlt; omega
    have hx' : ts[j]? = some ts[j] := List.getElem?_eq_getElem hjl
    have hshort := hts.short _ (List.getElem_mem hjl)
    generalize ts[j] = x at hx' hshort
    obtain ⟨sh1, sh2, sh3⟩ := shL_le lst x
    rw [dropx hx', bodyL] at hpre
    have hl2 := congrArg List.length hpre
    unfold bytesL at hl2
    simp only [List.length_append, List.length_drop] at hl2
    refine hB.ixn FlL hx' fun ad had => ⟨_, had, shared_ok (by omega) ⟨_, rfl, ?_⟩⟩
    refine C02.number w2.st (by show (xs ++ pre).length + 5 ≤ _; rw [List.length_append]; omega) fun C cs3 w3 => ⟨rfl, ?_⟩
    rw [putN_ok (by omega)] at w3
    refine SlS.from sh2 ?_
    refine C02.text w3.st (by show ((xs ++ pre) ++ _).length + _ ≤ _; rw [List.length_append, List.length_append]; omega) fun D cs4 w4 => ⟨rfl, ?_⟩
    rw [putT_ok (by rw [List.length_drop]; omega), List.length_drop] at w4
    refine ⟨ts.length - (j + 1), by omega, j + 1, x, pre ++ (numB (shL lst x) ++ (numB (x.length - shL lst x) ++ x.drop (shL lst x))), cs4, rfl, wi (by omega), hjl, ?_, ?_, hshort, rfl⟩
    · have := (w2.trans w3).trans w4
      simpa [List.append_assoc] using this
    · rw [← hpre]
      simp only [List.append_assoc]
  · have hjl : j = ts.length := by have := dge hge; omega
    subst hjl
    rw [List.drop_length, bodyL, List.append_nil] at hpre
    rw [hpre] at w2
    exact k B cs2 w2
theorem rnum_ok {n : Nat} (h1 : n ≤ 268435456) (k : ∀ H', Fr no H H' → K (.string (str (numB n))) H') : CallF Try.prog 69 #[.int .i64 (n : Int)] H K Z :=
  Q02.number (by omega) (by omega) fun H' hf => by
    rw [Int.toNat_natCast]
    exact k H' hf
theorem rbytes_ok {l : Sl} {ts : List (List UInt8)} (hts : Okp ts) (hl : Rd flL 1 H l ts) (k : ∀ H', Fr no H H' → K (.string (str (bytesL ts))) H') : CallF Try.prog 35 #[.slice l.a l.n l.c] H K Z := by
  refine V35_ok ?_
  unfold V35
  have hlight := hts.light
  have hfew := hts.few
  have hn := hl.len
  have e0 : (l.n : Int) = ((ts.length : Nat) : Int) := by rw [hn]
  rw [e0]
  refine rnum_ok hts.few fun A fA => ⟨_, rfl, ?_⟩
  refine ⟨fun s last t B m => ∃ (j : Nat) (lst pre : List UInt8), s = str pre ∧ last = str lst ∧ t = (j : Int) ∧ j ≤ ts.length ∧ Fr no H B ∧ pre ++ bodyL lst (ts.drop j) = bytesL ts ∧ lst.length ≤ 200000 ∧ m = ts.length - j,
    ⟨_, 0, [], _, rfl, rfl, rfl, Nat.zero_le _, fA, by rw [List.drop_zero]; rfl, Nat.zero_le _, rfl⟩, ?_⟩
  rintro s last t B m ⟨j, lst, pre, rfl, rfl, rfl, hj, fB, hpre, hlst, rfl⟩ scr
  refine ⟨fun hlt => ?_, fun hge => ?_⟩
  · have hjl : j < ts.length := dlt hlt
    have hx : ts[j]? = some ts[j] := List.getElem?_eq_getElem hjl
    have hshort := hts.short _ (List.getElem_mem hjl)
    generalize ts[j] = x at hx hshort
    obtain ⟨sh1, sh2, sh3⟩ := shL_le lst x
    rw [dropx hx, bodyL] at hpre
    have hl2 := congrArg List.length hpre
    simp only [List.length_append, List.length_drop] at hl2
    have e1 : w64 (((str x).size : Int) - ((shL lst x : Nat) : Int)) = ((x.length - shL lst x : Nat) : Int) := by
      rw [str_size, wrap64 (by omega) (by omega)]; omega
    have leaf : ∀ {C : Hp} {m1 : Nat}, Fr no H C → m1 = ts.length - j → IxA l.a l.n (j : Int) 1 fun ad => ∃ x3 : ByteArray, hcell C ad = some (.string x3) ∧ ∃ m2, m2 < m1 ∧ ∃ (j' : Nat) (lst' pre' : List UInt8),
        (((str pre ++ str (numB (shL lst x))) ++ str (numB (x.length - shL lst x))) ++ str (x.drop (shL lst x))) = str pre' ∧ x3 = str lst' ∧ w64 ((j : Int) + 1) = (j' : Int) ∧ j' ≤ ts.length ∧ Fr no H C ∧ pre' ++ bodyL lst' (ts.drop j') = bytesL ts ∧ lst'.length ≤ 200000 ∧ m2 = ts.length - j' := by
      intro C m1 fC em
      refine hl.ixn FlL hx fun ad had => ⟨_, fC.cell had fun h => h, ts.length - (j + 1), by omega, j + 1, x, _, by rw [str_app, str_app, str_app], rfl, wi (by omega), hjl, fC, ?_, hshort, rfl⟩
      rw [← hpre]
      simp only [List.append_assoc]
    have z1 : (str pre).size + (str (numB (shL lst x))).size ≤ 4611686018427387904 := by rw [str_size, str_size]; omega
    have z2 : (str pre ++ str (numB (shL lst x))).size + (str (numB (x.length - shL lst x))).size ≤ 4611686018427387904 := by rw [str_app, str_size, str_size, List.length_append]; omega
    have z3 : ((str pre ++ str (numB (shL lst x))) ++ str (numB (x.length - shL lst x))).size + (str (x.drop (shL lst x))).size ≤ 4611686018427387904 := by
      rw [str_app, str_app, str_size, str_size, List.length_append, List.length_append, List.length_drop]; omega
    refine hl.ixn FlL hx fun ad had => ⟨_, fB.cell had fun h => h, rshared_ok (by omega) ⟨_, rfl, hl.ixn FlL hx fun ad1 had1 => hl.ixn FlL hx fun ad2 had2 => ⟨?_, ⟨_, fB.cell had1 fun h => h, ?_, ?_⟩, ⟨_, fB.cell had2 fun h => h, SlS.from sh2 ⟨?_, ⟨_, fB.cell had1 fun h => h, ?_⟩⟩⟩⟩⟩⟩
    · refine rnum_ok (by omega) fun C fC => ⟨_, rfl, z1, _, (fB.trans fC).cell had1 fun h => h, ?_, ⟨_, (fB.trans fC).cell had2 fun h => h, SlS.from sh2 ?_⟩⟩
      · rw [e1]
        refine rnum_ok (by omega) fun D fD => ⟨_, rfl, z2, _, ((fB.trans fC).trans fD).cell had2 fun h => h, SlS.from sh2 ⟨z3, leaf ((fB.trans fC).trans fD) rfl⟩⟩
      · rw [e1]
        exact rnum_ok (by omega) fun D fD => ⟨_, rfl, z2, z3, leaf ((fB.trans fC).trans fD) rfl⟩
    · refine rnum_ok (by omega) fun C fC => ⟨_, rfl, z1, ?_, ⟨_, (fB.trans fC).cell had2 fun h => h, SlS.from sh2 ?_⟩⟩
      · rw [e1]
        refine rnum_ok (by omega) fun D fD => ⟨_, rfl, z2, _, ((fB.trans fC).trans fD).cell had2 fun h => h, SlS.from sh2 ⟨z3, leaf ((fB.trans fC).trans fD) rfl⟩⟩
      · rw [e1]
        exact rnum_ok (by omega) fun D fD => ⟨_, rfl, z2, z3, leaf ((fB.trans fC).trans fD) rfl⟩
    · refine ⟨_, fB.cell had2 fun h => h, SlS.from sh2 ?_⟩
      refine rnum_ok (by omega) fun C fC => ⟨_, rfl, z1, ?_⟩
      rw [e1]
      exact rnum_ok (by omega) fun D fD => ⟨_, rfl, z2, z3, leaf ((fB.trans fC).trans fD) rfl⟩
    · refine rnum_ok (by omega) fun C fC => ⟨_, rfl, z1, _, (fB.trans fC).cell had1 fun h => h, ?_⟩
      rw [e1]
      exact rnum_ok (by omega) fun D fD => ⟨_, rfl, z2, z3, leaf ((fB.trans fC).trans fD) rfl⟩
    · refine rnum_ok (by omega) fun C fC => ⟨_, rfl, z1, ?_⟩
      rw [e1]
      exact rnum_ok (by omega) fun D fD => ⟨_, rfl, z2, z3, leaf ((fB.trans fC).trans fD) rfl⟩
  · have hjl : j = ts.length := by have := dge hge; omega
    subst hjl
    rw [List.drop_length, bodyL, List.append_nil] at hpre
    rw [hpre]
    exact k B fB
end
end Go.Proofs.Ytigbdoicgdmliaa.C25
end

section
/- pool: a pool, read. -/
set_option linter.unusedVariables false
set_option linter.unusedSimpArgs false
-- shared: 65
-- next: 75
-- wrong: 73
-- read: 39
-- tStrs: 47
-- tStr: 9
-- tPool: 108
namespace Go.Proofs.Ytigbdoicgdmliaa.C25
open Go Go.V Go.Proofs Go.Proofs.Ytigbdoicgdmliaa.N25 Go.Proofs.Ytigbdoicgdmliaa.P02
attribute [local irreducible] Cvt ExtF CallF hrun App MkS
theorem tyStr : TyS Try.prog 47 9 1 16 (.string ⟨#[]⟩) := ⟨by kernel_rfl, by kernel_rfl, rfl, by decide⟩
/-- the text behind another one -/
def nextL (last : List UInt8) (n : Nat) (rest : List UInt8) (first : Bool) : List UInt8 × Int :=
  if last.length < n then ([], 2) else if 1000 < (last.take n ++ rest).length then ([], 9)
  else if first = false ∧ (ltL (last.take n ++ rest) last = true ∨ last.take n ++ rest = last) then ([], 13)
  else if shL last (last.take n ++ rest) ≠ n then ([], 3) else (last.take n ++ rest, 0)
/-- what is wrong in a reader -/
def wr (r : P02.Rd) : Int := if (rdoneM r).2 ≠ 6 then (rdoneM r).2 else 0
def rdL : Nat → List (List UInt8) → P02.Rd → List (List UInt8) × P02.Rd
  | 0, acc, r => (acc, r)
  | k + 1, acc, r =>
    if wr r ≠ 0 then (acc, r)
    else if wr (textM (numM r).2).2 ≠ 0 then (acc, (textM (numM r).2).2)
    else rdL k (acc ++ [(nextL (acc.getLastD []) (numM r).1 (textM (numM r).2).1.data.toList acc.isEmpty).1]) (failM (textM (numM r).2).2 (nextL (acc.getLastD []) (numM r).1 (textM (numM r).2).1.data.toList acc.isEmpty).2)
def readP (r : P02.Rd) : List (List UInt8) × P02.Rd := rdL (numM r).1 [] (if 6000 < (numM r).1 then failM (numM r).2 4 else (numM r).2)
section
variable {H : Hp} {K : Value → Hp → Prop} {Z : List PanicEntry → Hp → Prop}
theorem next_ok {last rest : List UInt8} {n : Nat} {first : Bool} (h1 : last.length ≤ 1000000000) (h2 : rest.length ≤ 4611686017427387904) (k : K (.tuple #[.string (str (nextL last n rest first).1), .int .i64 (nextL last n rest first).2]) H) :
    CallF Try.prog 75 #[.string (str last), .int .i64 (n : Int), .string (str rest), .bool first] H K Z := by
  refine V75_ok ?_
  unfold V75
  have go : ∀ {a b}, nextL last n rest first = (a, b) → K (.tuple #[.string (str a), .int .i64 b]) H := fun e => by rw [e] at k; exact k
  refine ⟨fun hgt => go ?_, fun hle => ?_⟩
  · have := of_decide_eq_true hgt
    rw [str_size] at this
    unfold nextL
    rw [if_pos (by omega)]
  have hle' : n ≤ last.length := by
    have := of_decide_eq_false hle
    rw [str_size] at this
    omega
  have n1 : ¬ last.length < n := by omega
  have hlen : (last.take n ++ rest).length = n + rest.length := by rw [List.length_append, List.length_take]; omega
  refine SlS.to hle' ⟨by rw [str_size, str_size, List.length_take]; omega, ?_⟩
  rw [str_app, str_size]
  refine ⟨fun hgt => go ?_, fun hle2 => ?_⟩
  · have := of_decide_eq_true hgt
    unfold nextL
    rw [if_neg n1, if_pos (by omega)]
  have n2 : ¬ 1000 < (last.take n ++ rest).length := by have := of_decide_eq_false hle2; omega
  rw [lt_strL, beq_str]
  have tail : ¬ (first = false ∧ (ltL (last.take n ++ rest) last = true ∨ last.take n ++ rest = last)) → CallF Try.prog 65 #[.string (str last), .string (str (last.take n ++ rest))] H (fun r H1 => ∃ y : Int, r = .int .i64 y ∧ (((y != (n : Int)) = true → K (.tuple #[.string ⟨#[]⟩, .int .i64 3]) H1) ∧ ((y != (n : Int)) = false → 
    K (.tuple #[.string (str (last.take n ++ rest)), .int .i64 0]) H1))) Z := by
    intro n3
    refine shared_ok h1 ⟨_, rfl, fun hne => go ?_, fun heq => go ?_⟩
    · have : shL last (last.take n ++ rest) ≠ n := fun e => by rw [e] at hne; simp at hne
      unfold nextL
      rw [if_neg n1, if_neg n2, if_neg n3, if_pos this]
    · have : shL last (last.take n ++ rest) = n := by
        have : ((shL last (last.take n ++ rest) : Nat) : Int) = (n : Int) := by simpa using heq
        omega
      unfold nextL
      rw [if_neg n1, if_neg n2, if_neg n3, if_neg (by rw [this]; simp)]
  refine ⟨fun hf => ⟨fun hbad => go ?_, fun hgood => tail ?_⟩, fun hf => tail ?_⟩
  · have n3 : first = false ∧ (ltL (last.take n ++ rest) last = true ∨ last.take n ++ rest = last) := by
      refine ⟨by simpa using hf, ?_⟩
      simpa [Bool.or_eq_true] using hbad
    unfold nextL
    rw [if_neg n1, if_neg n2, if_pos n3]
  · rintro ⟨_, h⟩
    have : (ltL (last.take n ++ rest) last || decide (last.take n ++ rest = last)) = true := by
      rw [Bool.or_eq_true, decide_eq_true_eq]
      exact h
    rw [this] at hgood
    cases hgood
  · rintro ⟨h, _⟩
    rw [h] at hf
    cases hf
/-- a reader, as a thing -/
def rdrI (b o : Nat) (T : TypeId) (cs : List Value) (r : P02.Rd) : It where
  ok H := C02R.RdS H b o T cs r
  fp i := i = b
  lt h hi := by subst hi; exact h.blk.lt
  st h hs := ⟨(hs b rfl).trans h.blk, h.str, h.at_, h.err, h.le, h.big⟩
theorem _root_.Go.V.Sym.rdr {H0 : Hp} {S : Nat → Prop} {L : List It} {k b o : Nat} {T : TypeId} {cs cs' : List Value} {r r' : P02.Rd} {H' : Hp} (h : Sym H0 S H L) (hk : L[k]? = some (rdrI b o T cs r)) (ht : C02R.RdTo H H' b o T cs cs' r') : Sym H0 S H' (L.set k (rdrI b o T cs' r')) :=
  h.setk hk ht.fr ht.st fun i hi => .inl hi
theorem wrong_ok {b o : Nat} {T : TypeId} {cs : List Value} {r : P02.Rd} (h : C02R.RdS H b o T cs r) (k : K (.int .i64 (wr r)) H) : CallF Try.prog 73 #[.pointer (some ⟨b, o, none⟩)] H K Z := by
  refine V73_ok ?_
  unfold V73
  unfold wr at k
  refine C02R.done_ok h ⟨_, _, rfl, fun hne => ?_, fun heq => ?_⟩
  · have : (rdoneM r).2 ≠ 6 := by simpa using hne
    rw [if_pos this] at k
    exact k
  · have : ¬ (rdoneM r).2 ≠ 6 := by simpa using heq
    rw [if_neg this] at k
    exact k
theorem readN_ok (k : K (.tuple #[.pointer none, .int .i64 7]) H) : CallF Try.prog 39 #[.pointer none] H K Z := by
  refine V39_ok ?_
  unfold V39
  exact ⟨fun _ => k, (fun h => by cases h)⟩
theorem take_cases (ρ : Nat → Nat) (r : P02.Rd) : (takeM ρ r).1 = (0, ⟨#[]⟩) ∨ ((lookL 0 0 (restL r)).2.2 = 0 ∧ (takeM ρ r).1.1 = (lookL 0 0 (restL r)).1 ∧ (takeM ρ r).1.2.size ≤ r.1.size - r.2.1 - (lookL 0 0 (restL r)).2.1) := by
  by_cases h : r.2.2 = 0
  · by_cases h1 : (lookL 0 0 (restL r)).2.2 = 0
    · by_cases h2 : r.1.size - r.2.1 - (lookL 0 0 (restL r)).2.1 < ρ (lookL 0 0 (restL r)).1
      · left
        rw [C02R.takeM_bad h (e := 1) (by rw [if_pos ⟨h1, h2⟩]) (by decide)]
      · right
        rw [C02R.takeM_good h h1 h2]
        refine ⟨h1, rfl, ?_⟩
        show (ByteArray.extract _ _ _).size ≤ _
        rw [ByteArray.size_extract]
        omega
    · left
      rw [C02R.takeM_bad h (e := (lookL 0 0 (restL r)).2.2) (by rw [if_neg (by rintro ⟨h', _⟩; exact h1 h')]) h1]
  · left
    rw [C02R.takeM_err h]
theorem text_len {r : P02.Rd} (hb : r.1.size ≤ 4611686017427387904) : (textM r).1.data.toList.length ≤ 4611686017427387904 := by
  have e : (textM r).1.data.toList.length = (textM r).1.size := by simp
  rw [e]
  show (takeM id r).1.2.size ≤ _
  rcases take_cases id r with h | ⟨_, _, h⟩
  · rw [h]; exact Nat.zero_le _
  · omega
theorem num_le (r : P02.Rd) : (numM r).1 ≤ 268435456 := by
  show (takeM (fun _ => 0) r).1.1 ≤ _
  rcases take_cases (fun _ => 0) r with h | ⟨h1, h2, _⟩
  · rw [h]; exact Nat.zero_le _
  · rw [h2]
    exact ((lookL_ok (restL r) 0 0 (by omega)).1 h1).1
theorem next_len (last : List UInt8) (n : Nat) (rest : List UInt8) (first : Bool) : (nextL last n rest first).1.length ≤ 1000 := by
  unfold nextL
  by_cases h1 : last.length < n
  · rw [if_pos h1]; exact Nat.zero_le _
  · rw [if_neg h1]
    by_cases h2 : 1000 < (last.take n ++ rest).length
    · rw [if_pos h2]; exact Nat.zero_le _
    · rw [if_neg h2]
      by_cases h3 : first = false ∧ (ltL (last.take n ++ rest) last = true ∨ last.take n ++ rest = last)
      · rw [if_pos h3]; exact Nat.zero_le _
      · rw [if_neg h3]
        by_cases h4 : shL last (last.take n ++ rest) ≠ n
        · rw [if_pos h4]; exact Nat.zero_le _
        · rw [if_neg h4]
          show (last.take n ++ rest).length ≤ 1000
          omega
theorem read_ok {b o : Nat} {T : TypeId} {cs : List Value} {r : P02.Rd} (h : C02R.RdS H b o T cs r) (hb : r.1.size ≤ 4611686017427387904)
    (k1 : ∀ H' cs', wr (readP r).2 ≠ 0 → Sym H (rdrI b o T cs r).fp H' [rdrI b o T cs' (readP r).2] → K (.tuple #[.pointer none, .int .i64 (wr (readP r).2)]) H')
    (k2 : ∀ H' cs' bP s, wr (readP r).2 = 0 → Sym H (rdrI b o T cs r).fp H' [plI bP s (readP r).1, rdrI b o T cs' (readP r).2] → K (.tuple #[.pointer (some ⟨bP, 0, none⟩), .int .i64 0]) H') :
    CallF Try.prog 39 #[.pointer (some ⟨b, o, none⟩)] H K Z := by
  refine V39_ok ?_
  unfold V39
  refine ⟨(fun h => by cases h), fun _ => ?_⟩
  intro bP A hA
  have s0 := (Sym.start1 (a := rdrI b o T cs r) h).newb (cs := [.slice none 0 0]) hA
  refine C02R.vnumber_ok (s0.get (k := 1) rfl : C02R.RdS _ b o T cs r) fun B cs1 hB => ⟨_, rfl, ?_⟩
  have s1 := (s0.rdr (k := 1) rfl hB).nilrow flL 9 1
  replace s1 := s1.re [1, 0, 2] (by decide)
  let r1 := if 6000 < (numM r).1 then failM (numM r).2 4 else (numM r).2
  refine ⟨fun C => ∃ cs2, Sym H (rdrI b o T cs r).fp C [blk bP [.slice none 0 0] 108, arr flL 9 1 ⟨none, 0, 0⟩ [], rdrI b o T cs2 r1], ?_, fun hbig => ?_, fun hsmall => ?_⟩
  rotate_left
  · have hbig' : 6000 < (numM r).1 := by have := of_decide_eq_true hbig; omega
    refine C02R.fail_ok (s1.get (k := 2) rfl : C02R.RdS _ b o T cs1 (numM r).2) fun C cs2 hC => ⟨rfl, cs2, ?_⟩
    have := s1.rdr (k := 2) rfl hC
    have e : r1 = failM (numM r).2 4 := if_pos hbig'
    rw [e]
    exact this
  · have hsmall' : ¬ 6000 < (numM r).1 := by have := of_decide_eq_false hsmall; omega
    refine ⟨cs1, ?_⟩
    have e : r1 = (numM r).2 := if_neg hsmall'
    rw [e]
    exact s1
  rintro C ⟨cs2, s2⟩ scr
  have hr1 : readP r = rdL (numM r).1 [] r1 := rfl
  have hsz : r1.1 = r.1 := by
    have h1 : (numM r).2.1 = r.1 := (takeM_le (ρ := fun _ => 0) h.le).1
    show (if 6000 < (numM r).1 then failM (numM r).2 4 else (numM r).2).1 = r.1
    split
    · unfold failM; split <;> exact h1
    · exact h1
  have hn6 := num_le r
  refine ⟨fun last i D m => ∃ (j : Nat) (acc : List (List UInt8)) (s : Sl) (cs3 : List Value) (r2 : P02.Rd), i = (j : Int) ∧ j ≤ (numM r).1 ∧ last = str (acc.getLastD []) ∧ (acc.getLastD []).length ≤ 1000 ∧ acc.length = j ∧ s.n = j ∧ m = (numM r).1 - j ∧
      Sym H (rdrI b o T cs r).fp D [blk bP [.slice s.a s.n s.c] 108, arr flL 9 1 s acc, rdrI b o T cs3 r2] ∧ rdL ((numM r).1 - j) acc r2 = readP r ∧ r2.1 = r.1,
    ⟨_, 0, [], ⟨none, 0, 0⟩, cs2, r1, rfl, Nat.zero_le _, rfl, Nat.zero_le _, rfl, rfl, rfl, s2, by rw [Nat.sub_zero]; exact hr1.symm, hsz⟩, ?_⟩
  rintro last i D m ⟨j, acc, s, cs3, r2, rfl, hj, rfl, hlast, hacc, hsn, rfl, s3, hrd, hr2⟩ scr1
  -- the end: what was read is told
  have fin : ∀ {E : Hp} {cs4 : List Value} {r3 : P02.Rd}, readP r = (acc, r3) → Sym H (rdrI b o T cs r).fp E [blk bP [.slice s.a s.n s.c] 108, arr flL 9 1 s acc, rdrI b o T cs4 r3] →
      CallF Try.prog 73 #[.pointer (some ⟨b, o, none⟩)] E (fun r5 H9 => ∃ y4 : Int, r5 = .int .i64 y4 ∧ (((y4 != 0) = true → K (.tuple #[.pointer none, .int .i64 y4]) H9) ∧ ((y4 != 0) = false → K (.tuple #[.pointer (some ⟨bP, 0, none⟩), .int .i64 0]) H9))) Z := by
    intro E cs4 r3 he s4
    refine wrong_ok (s4.get (k := 2) rfl : C02R.RdS _ b o T cs4 r3) ⟨_, rfl, fun hne => ?_, fun heq => ?_⟩
    · have hne' : wr r3 ≠ 0 := by simpa using hne
      have e : wr r3 = wr (readP r).2 := by rw [he]
      rw [e] at hne' ⊢
      refine k1 E cs4 hne' ?_
      have e2 : (readP r).2 = r3 := by rw [he]
      rw [e2]
      exact s4.re [2] (by decide)
    · have heq' : wr r3 = 0 := by simpa using heq
      have e2 : (readP r).2 = r3 := by rw [he]
      have e1 : (readP r).1 = acc := by rw [he]
      refine k2 E cs4 bP s (by rw [e2]; exact heq') ?_
      rw [e1, e2]
      have hrow := s4.rd (k := 1) FlL (by decide) rfl
      have hok : (plI bP s acc).ok E := ⟨s4.get (k := 0) rfl, hrow, fun i hi => ?_⟩
      · have own_ : ∀ i, rown s i → own s i := by
          rintro i ⟨ad, ha, rfl⟩
          have h1 : RowN flL 9 1 E s acc := s4.get (k := 1) rfl
          rcases h1.row.2 with h' | ⟨g, _, _, ha', _⟩
          · rw [h'.1] at ha; cases ha
          · rw [ha'] at ha; cases ha; exact ⟨0, ha'⟩
        have a1 := s4.apt (i := 0) (j := 2) rfl rfl (by decide)
        have a2 := s4.apt (i := 1) (j := 2) rfl rfl (by decide)
        refine ⟨s4.fr, ?_, ?_, ?_⟩
        · intro a ha
          simp only [List.mem_cons, List.not_mem_nil, or_false] at ha
          rcases ha with rfl | rfl
          · exact hok
          · exact s4.get (k := 2) rfl
        · rw [List.pairwise_cons]
          refine ⟨?_, by simp⟩
          intro a ha i hi hi2
          rw [List.mem_singleton.1 ha] at hi2
          rcases hi with hi | hi
          · exact a1 i hi hi2
          · exact a2 i (own_ i hi) hi2
        · intro a ha i hi
          simp only [List.mem_cons, List.not_mem_nil, or_false] at ha
          rcases ha with rfl | rfl
          · rcases hi with hi | hi
            · exact s4.fp _ (List.mem_of_getElem? (i := 0) rfl) i hi
            · exact s4.fp _ (List.mem_of_getElem? (i := 1) rfl) i (own_ i hi)
          · exact s4.fp _ (List.mem_of_getElem? (i := 2) rfl) i hi
      · have h1 : RowN flL 9 1 E s acc := s4.get (k := 1) rfl
        obtain ⟨ad, ha, rfl⟩ := hi
        rcases h1.row.2 with h' | ⟨g, _, _, ha', _⟩
        · rw [h'.1] at ha; cases ha
        · rw [ha'] at ha; cases ha; exact h1.row.lt ⟨0, ha'⟩
  have hle2 : r2.2.1 ≤ r2.1.size := (s3.get (k := 2) rfl : C02R.RdS _ b o T cs3 r2).le
  refine ⟨fun D' => D' = D ∧ wr r2 = 0 ∧ j < (numM r).1, ?_, fun hlt => ?_, fun hge => ?_⟩
  rotate_left
  · have hjl : j < (numM r).1 := by have := of_decide_eq_true hlt; omega
    refine wrong_ok (s3.get (k := 2) rfl : C02R.RdS _ b o T cs3 r2) ⟨_, rfl, fun h0 => ⟨rfl, by simpa using h0, hjl⟩, fun h0 => fin ?_ s3⟩
    have h0' : wr r2 ≠ 0 := by simpa using h0
    rw [← hrd]
    obtain ⟨q, hq⟩ : ∃ q, (numM r).1 - j = q + 1 := ⟨(numM r).1 - j - 1, by omega⟩
    rw [hq, rdL, if_pos h0']
  · have hjl : (numM r).1 - j = 0 := by have := of_decide_eq_false hge; omega
    refine fin ?_ s3
    rw [← hrd, hjl, rdL]
  rintro D' ⟨rfl, h0, hjl⟩ scr2
  obtain ⟨q, hq⟩ : ∃ q, (numM r).1 - j = q + 1 := ⟨(numM r).1 - j - 1, by omega⟩
  rw [hq, rdL, if_neg (by rw [h0]; simp)] at hrd
  refine C02R.vnumber_ok (s3.get (k := 2) rfl : C02R.RdS _ b o T cs3 r2) fun E cs4 hE => ⟨_, rfl, ?_⟩
  have s4 := s3.rdr (k := 2) rfl hE
  refine C02R.vtext_ok (s4.get (k := 2) rfl : C02R.RdS _ b o T cs4 (numM r2).2) fun F cs5 hF => ⟨_, rfl, ?_⟩
  have s5 := s4.rdr (k := 2) rfl hF
  have hnl := takeM_le (ρ := fun _ => 0) hle2
  have htl := text_len (r := (numM r2).2) (by show (takeM (fun _ => 0) r2).2.1.size ≤ _; rw [hnl.1, hr2]; exact hb)
  refine wrong_ok (s5.get (k := 2) rfl : C02R.RdS _ b o T cs5 (textM (numM r2).2).2) ⟨_, rfl, fun hne => ?_, fun heq => ?_⟩
  · have hne' : wr (textM (numM r2).2).2 ≠ 0 := by simpa using hne
    rw [if_pos hne'] at hrd
    exact fin hrd.symm s5
  · have heq' : ¬ wr (textM (numM r2).2).2 ≠ 0 := by simpa using heq
    rw [if_neg heq'] at hrd
    have efirst : ((j : Int) == 0) = acc.isEmpty := by
      cases acc with
      | nil => simp at hacc; subst hacc; rfl
      | cons a l => simp at hacc; subst hacc; simp; omega
    rw [efirst, str_of (textM (numM r2).2).1]
    refine next_ok (by omega) htl ⟨_, _, rfl, ?_⟩
    refine C02R.fail_ok (s5.get (k := 2) rfl : C02R.RdS _ b o T cs5 (textM (numM r2).2).2) fun G cs6 hG => ⟨rfl, ?_⟩
    have s6 := s5.rdr (k := 2) rfl hG
    refine ⟨s, s6.ld (k := 0) rfl 0, fun b1 I hI => ?_⟩
    refine s6.app1 (k := 1) tyStr FlL (by decide) hI rfl (by omega) fun ap I1 hap s7 => ?_
    refine s7.stb (k := 0) (i := 0) rfl (by simp) rfl fun I2 s8 => ?_
    have hlen := next_len (acc.getLastD []) (numM r2).1 (textM (numM r2).2).1.data.toList acc.isEmpty
    refine ⟨(numM r).1 - (j + 1), by omega, j + 1, _, ap, cs6, _, wi (by omega), hjl, ?_, ?_, by rw [List.length_append, hacc]; rfl, by rw [hap, hsn], rfl, s8, ?_, ?_⟩
    · rw [List.getLastD_concat]
    · rw [List.getLastD_concat]; exact hlen
    · rw [show (numM r).1 - (j + 1) = q by omega]
      exact hrd
    · have h1 := takeM_le (ρ := id) (r := (numM r2).2) (by show (takeM (fun _ => 0) r2).2.2.1 ≤ (takeM (fun _ => 0) r2).2.1.size; rw [hnl.1]; exact hnl.2)
      have h2 : (textM (numM r2).2).2.1 = r.1 := by
        show (takeM id (numM r2).2).2.1 = r.1
        rw [h1.1]
        show (takeM (fun _ => 0) r2).2.1 = r.1
        rw [hnl.1, hr2]
      unfold failM
      split <;> exact h2
end
end Go.Proofs.Ytigbdoicgdmliaa.C25
end

section
/- What is put is taken again, and in one way alone: plain words. -/
set_option linter.unusedVariables false
set_option linter.unusedSimpArgs false
namespace Go.Proofs.Ytigbdoicgdmliaa.P02
open Go Go.V Go.Proofs
theorem u8n {n : Nat} (h : n < 256) : n.toUInt8.toNat = n := by
  rw [Nat.toUInt8, UInt8.toNat_ofNat']
  omega
theorem look_numB : ∀ (m n k acc : Nat) (rest : List UInt8), n ≤ m → acc < 128 ^ k → acc + n * 128 ^ k ≤ 268435456 → (0 < n ∨ k = 0) → k ≤ 4 → lookL k acc (numB n ++ rest) = (acc + n * 128 ^ k, k + (numB n).length, 0) := by
  intro m
  induction m with
  | zero =>
    intro n k acc rest hm ha hs hz hk
    have hn : n = 0 := by omega
    subst hn
    have hk0 : k = 0 := by omega
    subst hk0
    have ha0 : acc = 0 := by simpa using ha
    subst ha0
    rw [numB_lt (by omega)]
    rfl
  | succ m ih =>
    intro n k acc rest hm ha hs hz hk
    have p4 : (128 : Nat) ^ 4 = 268435456 := by decide
    by_cases h : n < 128
    · rw [numB_lt h, List.singleton_append, lookL, u8n (by omega)]
      have h1 : ¬ (k = 4 ∧ 1 < n) := by
        rintro ⟨rfl, h1⟩
        rw [p4] at hs ha
        omega
      rw [if_neg h1, if_neg (by omega), if_neg (by omega), Nat.mod_eq_of_lt h, if_neg (by omega)]
      rfl
    · have hk4 : k ≠ 4 := by
        rintro rfl
        rw [p4] at hs
        omega
      rw [numB_ge h, List.cons_append, lookL, u8n (by omega), if_neg (fun h => hk4 h.1), if_pos (by omega)]
      have e1 : (n % 128 + 128) % 128 = n % 128 := by omega
      have e2 : n % 128 * 128 ^ k + n / 128 * 128 ^ (k + 1) = n * 128 ^ k := by
        rw [Nat.pow_succ, Nat.mul_comm (128 ^ k) 128, ← Nat.mul_assoc, ← Nat.add_mul]
        congr 1
        omega
      have e3 : n % 128 * 128 ^ k ≤ 127 * 128 ^ k := Nat.mul_le_mul_right _ (by omega)
      have e4 : (128 : Nat) ^ (k + 1) = 128 ^ k * 128 := Nat.pow_succ _ _
      rw [e1, ih (n / 128) (k + 1) _ rest (by omega) (by omega) (by omega) (.inl (by omega)) (by omega)]
      simp only [List.length_cons, Prod.mk.injEq, and_true]
      omega
theorem look_numB0 {n : Nat} (h : n ≤ 268435456) (rest : List UInt8) : lookL 0 0 (numB n ++ rest) = (n, (numB n).length, 0) := by
  have := look_numB n n 0 0 rest (Nat.le_refl _) (by decide) (by omega) (.inr rfl) (by omega)
  simpa using this
/-- the other way round -/
theorem look_inv : ∀ (l : List UInt8) (k acc : Nat), acc < 128 ^ k → (lookL k acc l).2.2 = 0 → ∃ n, (lookL k acc l).1 = acc + n * 128 ^ k ∧ k ≤ (lookL k acc l).2.1 ∧ l.take ((lookL k acc l).2.1 - k) = numB n ∧ (0 < n ∨ k = 0)
  | [], k, acc, ha, h => by simp [lookL] at h
  | c :: l, k, acc, ha, h => by
    have h256 := c.toNat_lt
    have hc : c.toNat.toUInt8 = c := by simp
    unfold lookL at h ⊢
    split at h
    · cases h
    · rename_i h1
      rw [if_neg h1]
      split at h
      · rename_i h2
        rw [if_pos h2]
        have e3 : c.toNat % 128 * 128 ^ k ≤ 127 * 128 ^ k := Nat.mul_le_mul_right _ (by omega)
        have e4 : (128 : Nat) ^ (k + 1) = 128 ^ k * 128 := Nat.pow_succ _ _
        obtain ⟨n, i1, i2, i3, i4⟩ := look_inv l (k + 1) _ (by omega) h
        generalize lookL (k + 1) (acc + c.toNat % 128 * 128 ^ k) l = L at *
        have hn : 0 < n := by omega
        refine ⟨n * 128 + c.toNat % 128, ?_, by omega, ?_, .inl (by omega)⟩
        · rw [i1, e4, Nat.add_mul, Nat.mul_comm (128 ^ k) 128, ← Nat.mul_assoc]
          omega
        · have e5 : L.2.1 - k = (L.2.1 - (k + 1)) + 1 := by omega
          rw [e5, List.take_succ_cons, i3, numB_ge (n := n * 128 + c.toNat % 128) (by omega)]
          have d1 : (n * 128 + c.toNat % 128) % 128 + 128 = c.toNat := by omega
          have d2 : (n * 128 + c.toNat % 128) / 128 = n := by omega
          rw [d1, d2, hc]
      · rename_i h2
        rw [if_neg h2]
        split at h
        · cases h
        · rename_i h3
          rw [if_neg h3]
          split at h
          · cases h
          · rename_i h4
            rw [if_neg h4]
            have hm : c.toNat % 128 = c.toNat := by omega
            refine ⟨c.toNat, by simp only [hm], by simp, ?_, by omega⟩
            have : k + 1 - k = 1 := by omega
            simp only [this, List.take_succ_cons, List.take_zero]
            rw [numB_lt (by omega), hc]

/-- what is put: a number, or a text -/
abbrev Put := Bool × Int × ByteArray
def putP (s : St) (p : Put) : St := if p.1 then putT s p.2.2 else putN s p.2.1
def encP (p : Put) : List UInt8 := if p.1 then numB p.2.2.size ++ p.2.2.data.toList else numB p.2.1.toNat
def okP (p : Put) : Prop := if p.1 then p.2.2.size ≤ 200000 else 0 ≤ p.2.1 ∧ p.2.1 ≤ 268435456
theorem putP_ok {s : St} {p : Put} (h : (putP s p).2 = 0) : s.2 = 0 ∧ okP p ∧ (putP s p).1 = s.1 ++ encP p := by
  unfold putP at h ⊢
  unfold okP encP
  split at h
  · rename_i hp
    simp only [hp, if_true]
    unfold putT at h ⊢
    by_cases h0 : s.2 = 0
    · by_cases h1 : 200000 < p.2.2.size
      · simp [h0, h1] at h
      · simp only [h0, h1, ne_eq, not_true_eq_false, if_false, List.append_assoc, and_true, true_and]
        omega
    · simp [h0] at h
  · rename_i hp
    have hp' : p.1 = false := by simpa using hp
    simp only [hp', Bool.false_eq_true, if_false]
    unfold putN at h ⊢
    by_cases h0 : s.2 = 0
    · by_cases h1 : p.2.1 < 0 ∨ 268435456 < p.2.1
      · simp [h0, h1] at h
      · simp only [h0, h1, ne_eq, not_true_eq_false, if_false, and_true, true_and]
        omega
    · simp [h0] at h
theorem foldl_ok : ∀ (xs : List Put) (s : St), (xs.foldl putP s).2 = 0 → s.2 = 0 ∧ (∀ p ∈ xs, okP p) ∧ (xs.foldl putP s).1 = s.1 ++ xs.flatMap encP
  | [], s, h => ⟨h, by simp, by simp⟩
  | p :: xs, s, h => by
    rw [List.foldl_cons] at h ⊢
    obtain ⟨h1, h2, h3⟩ := foldl_ok xs _ h
    obtain ⟨k1, k2, k3⟩ := putP_ok h1
    refine ⟨k1, ?_, ?_⟩
    · intro q hq
      rcases List.mem_cons.1 hq with rfl | hq
      · exact k2
      · exact h2 q hq
    · rw [h3, k3, List.flatMap_cons, List.append_assoc]

/-- a number is taken again -/
theorem num_again {s : ByteArray} {at_ n : Nat} {rest : List UInt8} (h : s.data.toList.drop at_ = numB n ++ rest) (hn : n ≤ 268435456) : numM (s, at_, 0) = (n, (s, at_ + (numB n).length, 0)) := by
  have hl : lookL 0 0 (restL (s, at_, 0)) = (n, (numB n).length, 0) := by
    show lookL 0 0 (s.data.toList.drop at_) = _
    rw [h]
    exact look_numB0 hn rest
  unfold numM takeM
  simp [hl]
theorem extract_eq {s t : ByteArray} {a : Nat} {pre post : List UInt8} (h : s.data.toList = pre ++ (t.data.toList ++ post)) (ha : a = pre.length) : s.extract a (a + t.size) = t := by
  apply ByteArray.ext
  apply Array.ext'
  have ht : t.size = t.data.toList.length := by simp
  rw [ByteArray.data_extract, Array.toList_extract, List.extract_eq_take_drop, h, ha, List.drop_left, Nat.add_sub_cancel_left, ht, List.take_left]
theorem text_again {s t : ByteArray} {at_ : Nat} {pre rest : List UInt8} (h : s.data.toList = pre ++ (numB t.size ++ (t.data.toList ++ rest))) (ha : at_ = pre.length) (hn : t.size ≤ 268435456) :
    textM (s, at_, 0) = (t, (s, at_ + (numB t.size).length + t.size, 0)) := by
  have hl : lookL 0 0 (restL (s, at_, 0)) = (t.size, (numB t.size).length, 0) := by
    show lookL 0 0 (s.data.toList.drop at_) = _
    rw [h, ha, List.drop_left]
    exact look_numB0 hn _
  have hs : s.size = pre.length + ((numB t.size).length + (t.size + rest.length)) := by
    have e1 : s.size = s.data.toList.length := by simp
    have e2 : t.size = t.data.toList.length := by simp
    rw [e1, h]
    simp
  have hx : s.extract (at_ + (numB t.size).length) (at_ + (numB t.size).length + t.size) = t :=
    extract_eq (pre := pre ++ numB t.size) (post := rest) (by rw [h]; simp) (by simp [ha])
  have hc : ¬ s.size - at_ - (numB t.size).length < t.size := by omega
  unfold textM takeM
  simp [hl, hc, hx]
theorem num_zero {s : ByteArray} {a : Nat} (h : (numM (s, a, 0)).2.2.2 = 0) : (lookL 0 0 (s.data.toList.drop a)).2.2 = 0 ∧ numM (s, a, 0) = ((lookL 0 0 (s.data.toList.drop a)).1, (s, a + (lookL 0 0 (s.data.toList.drop a)).2.1, 0)) := by
  by_cases h1 : (lookL 0 0 (s.data.toList.drop a)).2.2 = 0
  · simp [numM, takeM, restL, h1]
  · simp [numM, takeM, restL, h1] at h
theorem text_zero {s : ByteArray} {a : Nat} (h : (textM (s, a, 0)).2.2.2 = 0) : (lookL 0 0 (s.data.toList.drop a)).2.2 = 0 ∧ (lookL 0 0 (s.data.toList.drop a)).1 ≤ s.size - a - (lookL 0 0 (s.data.toList.drop a)).2.1 ∧
    textM (s, a, 0) = (s.extract (a + (lookL 0 0 (s.data.toList.drop a)).2.1) (a + (lookL 0 0 (s.data.toList.drop a)).2.1 + (lookL 0 0 (s.data.toList.drop a)).1), (s, a + (lookL 0 0 (s.data.toList.drop a)).2.1 + (lookL 0 0 (s.data.toList.drop a)).1, 0)) := by
  by_cases h1 : (lookL 0 0 (s.data.toList.drop a)).2.2 = 0
  · by_cases h2 : s.size - a - (lookL 0 0 (s.data.toList.drop a)).2.1 < (lookL 0 0 (s.data.toList.drop a)).1
    · simp [textM, takeM, restL, h1, h2] at h
    · refine ⟨h1, by omega, ?_⟩
      simp [textM, takeM, restL, h1, h2]
  · simp [textM, takeM, restL, h1] at h
/-- whatever is taken as one number and one text is what these put -/
theorem one_way {s : ByteArray} (h0 : (numM (s, 0, 0)).2.2.2 = 0) (h1 : (textM (numM (s, 0, 0)).2).2.2.2 = 0) (h2 : (textM (numM (s, 0, 0)).2).2.2.1 = s.size) :
    numB (numM (s, 0, 0)).1 ++ numB (textM (numM (s, 0, 0)).2).1.size ++ (textM (numM (s, 0, 0)).2).1.data.toList = s.data.toList ∧ (numM (s, 0, 0)).1 ≤ 268435456 ∧ (textM (numM (s, 0, 0)).2).1.size ≤ s.size := by
  obtain ⟨a1, a2⟩ := num_zero h0
  rw [a2] at h1 h2 ⊢
  simp only [Nat.zero_add] at h1 h2 ⊢
  have k1 := (lookL_ok (s.data.toList.drop 0) 0 0 (by omega)).1 a1
  obtain ⟨n, i1, _, i3, _⟩ := look_inv (s.data.toList.drop 0) 0 0 (by decide) a1
  generalize lookL 0 0 (s.data.toList.drop 0) = L at *
  obtain ⟨b1, b2, b3⟩ := text_zero h1
  rw [b3] at h2 ⊢
  simp only at h2 ⊢
  have k2 := (lookL_ok (s.data.toList.drop L.2.1) 0 0 (by omega)).1 b1
  obtain ⟨m, j1, _, j3, _⟩ := look_inv (s.data.toList.drop L.2.1) 0 0 (by decide) b1
  generalize lookL 0 0 (s.data.toList.drop L.2.1) = M at *
  have hlen : s.data.toList.length = s.size := by simp
  simp only [List.drop_zero, Nat.pow_zero, Nat.mul_one, Nat.zero_add, Nat.sub_zero] at *
  have ht : (s.extract (L.2.1 + M.2.1) (L.2.1 + M.2.1 + M.1)).data.toList = s.data.toList.drop (L.2.1 + M.2.1) := by
    rw [ByteArray.data_extract, Array.toList_extract, List.extract_eq_take_drop, List.take_of_length_le]
    rw [List.length_drop, hlen]
    omega
  have hsz : (s.extract (L.2.1 + M.2.1) (L.2.1 + M.2.1 + M.1)).size = M.1 := by
    rw [ByteArray.size_extract]
    omega
  refine ⟨?_, by omega, by rw [hsz]; omega⟩
  rw [ht, hsz, i1, ← i3, j1, ← j3]
  have e : s.data.toList.drop (L.2.1 + M.2.1) = (s.data.toList.drop L.2.1).drop M.2.1 := by rw [List.drop_drop]
  rw [e, List.append_assoc, List.take_append_drop, List.take_append_drop]
end Go.Proofs.Ytigbdoicgdmliaa.P02
end

section
/- A pool in bytes and back: plain words. -/
set_option linter.unusedVariables false
set_option linter.unusedSimpArgs false
namespace Go.Proofs.Ytigbdoicgdmliaa.C25
open Go Go.V Go.Proofs Go.Proofs.Ytigbdoicgdmliaa.P02
/-! ### what was written is read -/
theorem wr0 (s : ByteArray) (a : Nat) : wr (s, a, 0) = 0 := by
  have e : rdoneM (s, a, 0) = if a < s.size then (a, 6) else (a, 0) := by
    unfold rdoneM
    simp
  unfold wr
  rw [e]
  by_cases h : a < s.size
  · rw [if_pos h]; simp
  · rw [if_neg h]; simp
theorem fail0 (r : P02.Rd) (h : r.2.2 = 0) : failM r 0 = r := by
  obtain ⟨s, a, e⟩ := r
  have : e = 0 := h
  subst this
  rfl
theorem next_again {last x : List UInt8} {first : Bool} (hx : x.length ≤ 1000) (hr : first = false → ltL last x = true) : nextL last (shL last x) (x.drop (shL last x)) first = (x, 0) := by
  obtain ⟨h1, h2, h3⟩ := shL_le last x
  have e : last.take (shL last x) ++ x.drop (shL last x) = x := by rw [h3, List.take_append_drop]
  unfold nextL
  rw [if_neg (by omega), e, if_neg (by omega), if_neg, if_neg (by simp)]
  rintro ⟨hf, h | h⟩
  · have := linL.tr _ _ _ (hr hf) h
    rw [linL.irr] at this
    cases this
  · have := hr hf
    rw [h, linL.irr] at this
    cases this
theorem last_lt {acc : List (List UInt8)} {x : List UInt8} {q : List (List UInt8)} (hr : Rising ltL (acc ++ x :: q)) (hne : acc.isEmpty = false) : ltL (acc.getLastD []) x = true := by
  unfold Rising at hr
  rw [List.pairwise_append] at hr
  refine hr.2.2 _ ?_ _ List.mem_cons_self
  have hne' : acc ≠ [] := fun e => by rw [e] at hne; cases hne
  rw [List.getLastD_eq_getLast?, List.getLast?_eq_some_getLast hne']
  exact List.getLast_mem hne'
theorem rd_written {s : ByteArray} {more : List UInt8} : ∀ (q acc : List (List UInt8)) (pre : List UInt8), s.data.toList = pre ++ (bodyL (acc.getLastD []) q ++ more) → Rising ltL (acc ++ q) → (∀ x ∈ q, x.length ≤ 1000) → (acc.getLastD []).length ≤ 1000 →
    rdL q.length acc (s, pre.length, 0) = (acc ++ q, (s, pre.length + (bodyL (acc.getLastD []) q).length, 0))
  | [], acc, pre, _, _, _, _ => by simp [rdL, bodyL]
  | x :: q, acc, pre, hs, hr, hlen, hlast => by
    obtain ⟨h1, h2, h3⟩ := shL_le (acc.getLastD []) x
    have hx := hlen x List.mem_cons_self
    rw [bodyL] at hs
    have hn : numM (s, pre.length, 0) = (shL (acc.getLastD []) x, (s, pre.length + (numB (shL (acc.getLastD []) x)).length, 0)) :=
      num_again (rest := numB (x.length - shL (acc.getLastD []) x) ++ (x.drop (shL (acc.getLastD []) x) ++ bodyL x q) ++ more) (by rw [hs, List.drop_left]; simp only [List.append_assoc]) (by omega)
    have hsz : (str (x.drop (shL (acc.getLastD []) x))).size = x.length - shL (acc.getLastD []) x := by rw [str_size, List.length_drop]
    have ht : textM (s, pre.length + (numB (shL (acc.getLastD []) x)).length, 0) = (str (x.drop (shL (acc.getLastD []) x)), (s, pre.length + (numB (shL (acc.getLastD []) x)).length + (numB (x.length - shL (acc.getLastD []) x)).length + (x.length - shL (acc.getLastD []) x), 0)) := by
      have := text_again (s := s) (t := str (x.drop (shL (acc.getLastD []) x))) (at_ := pre.length + (numB (shL (acc.getLastD []) x)).length) (pre := pre ++ numB (shL (acc.getLastD []) x)) (rest := bodyL x q ++ more) (by
        rw [hs, str_data, hsz]
        simp only [List.append_assoc]) (by rw [List.length_append]) (by rw [hsz]; omega)
      rw [hsz] at this
      exact this
    rw [List.length_cons, rdL, wr0, if_neg (by simp), hn]
    simp only
    rw [ht]
    simp only
    rw [wr0, if_neg (by simp), str_data, next_again hx (fun h => last_lt hr h), fail0 _ rfl]
    have hr2 : Rising ltL ((acc ++ [x]) ++ q) := by rw [List.append_assoc]; exact hr
    have hgl : (acc ++ [x]).getLastD [] = x := by rw [List.getLastD_concat]
    have ih := rd_written (more := more) q (acc ++ [x]) (pre ++ (numB (shL (acc.getLastD []) x) ++ (numB (x.length - shL (acc.getLastD []) x) ++ x.drop (shL (acc.getLastD []) x)))) (by
      rw [hs, hgl]
      simp only [List.append_assoc]) hr2 (fun y hy => hlen y (List.mem_cons_of_mem _ hy)) (by rw [hgl]; exact hx)
    rw [hgl] at ih
    simp only [List.length_append, List.length_drop] at ih
    rw [show pre.length + (numB (shL (acc.getLastD []) x)).length + (numB (x.length - shL (acc.getLastD []) x)).length + (x.length - shL (acc.getLastD []) x) = pre.length + ((numB (shL (acc.getLastD []) x)).length + ((numB (x.length - shL (acc.getLastD []) x)).length + (x.length - shL (acc.getLastD []) x))) by omega]
    rw [ih, bodyL]
    simp only [List.append_assoc, List.length_append, List.length_drop, List.cons_append, List.nil_append]
    congr 3
    omega
theorem read_written {ts : List (List UInt8)} {more : List UInt8} (hr : Rising ltL ts) (hlen : ∀ x ∈ ts, x.length ≤ 1000) (hn : ts.length ≤ 6000) :
    readP (str (bytesL ts ++ more), 0, 0) = (ts, (str (bytesL ts ++ more), (bytesL ts).length, 0)) := by
  have h1 : numM (str (bytesL ts ++ more), 0, 0) = (ts.length, (str (bytesL ts ++ more), 0 + (numB ts.length).length, 0)) :=
    num_again (rest := bodyL [] ts ++ more) (by rw [str_data, List.drop_zero]; unfold bytesL; rw [List.append_assoc]) (by omega)
  unfold readP
  rw [h1]
  simp only
  rw [if_neg (by omega)]
  have := rd_written (s := str (bytesL ts ++ more)) (more := more) ts [] (numB ts.length) (by rw [str_data]; unfold bytesL; rw [List.append_assoc]; rfl) (by simpa using hr) hlen (Nat.zero_le _)
  rw [Nat.zero_add, this]
  unfold bytesL
  rw [List.nil_append, List.length_append]
  rfl
/-! ### what is read is what is written -/
theorem look6 : ∀ (l : List UInt8) (k n : Nat), (lookL k n l).2.2 ≠ 6
  | [], _, _ => by simp [lookL]
  | c :: l, k, n => by
    unfold lookL
    split
    · simp
    · split
      · exact look6 l _ _
      · split
        · simp
        · split <;> simp
theorem take6 {ρ : Nat → Nat} {r : P02.Rd} (h : r.2.2 ≠ 6) : (takeM ρ r).2.2.2 ≠ 6 := by
  by_cases h0 : r.2.2 = 0
  · by_cases h1 : (lookL 0 0 (restL r)).2.2 = 0
    · by_cases h2 : r.1.size - r.2.1 - (lookL 0 0 (restL r)).2.1 < ρ (lookL 0 0 (restL r)).1
      · rw [C02R.takeM_bad h0 (e := 1) (by rw [if_pos ⟨h1, h2⟩]) (by decide)]
        simp
      · rw [C02R.takeM_good h0 h1 h2]
        simp
    · rw [C02R.takeM_bad h0 (e := (lookL 0 0 (restL r)).2.2) (by rw [if_neg (by rintro ⟨h', _⟩; exact h1 h')]) h1]
      exact look6 _ _ _
  · rw [C02R.takeM_err h0]
    exact h
theorem num6 {r : P02.Rd} (h : r.2.2 ≠ 6) : (numM r).2.2.2 ≠ 6 := take6 h
theorem text6 {r : P02.Rd} (h : r.2.2 ≠ 6) : (textM r).2.2.2 ≠ 6 := take6 h
theorem next6 (last : List UInt8) (n : Nat) (rest : List UInt8) (first : Bool) : (nextL last n rest first).2 ≠ 6 := by
  unfold nextL
  split
  · simp
  · split
    · simp
    · split
      · simp
      · split <;> simp
theorem fail6 {r : P02.Rd} {e : Int} (h : r.2.2 ≠ 6) (he : e ≠ 6) : (failM r e).2.2 ≠ 6 := by
  unfold failM
  split
  · exact he
  · exact h
theorem wr_zero {r : P02.Rd} (h : r.2.2 ≠ 6) : wr r = 0 ↔ r.2.2 = 0 := by
  obtain ⟨s, a, e⟩ := r
  constructor
  · intro hw
    by_cases h0 : e = 0
    · exact h0
    · have e1 : rdoneM (s, a, e) = (a, e) := by
        unfold rdoneM
        simp [h0]
      unfold wr at hw
      rw [e1] at hw
      rw [if_pos h] at hw
      exact absurd hw h0
  · intro h0
    have : e = 0 := h0
    subst this
    exact wr0 s a
theorem rd_err : ∀ (k : Nat) (acc : List (List UInt8)) (r : P02.Rd), r.2.2 ≠ 0 → r.2.2 ≠ 6 → (rdL k acc r).2 = r
  | 0, _, _, _, _ => rfl
  | k + 1, acc, r, h, h6 => by
    rw [rdL, if_pos (fun hw => h ((wr_zero h6).1 hw))]
theorem num_fwd {s : ByteArray} {a : Nat} (ha : a ≤ s.size) (h : (numM (s, a, 0)).2.2.2 = 0) : ∃ n a', numM (s, a, 0) = (n, (s, a', 0)) ∧ n ≤ 268435456 ∧ a' ≤ s.size ∧ s.data.toList.take a' = s.data.toList.take a ++ numB n := by
  obtain ⟨a1, a2⟩ := num_zero h
  have k1 := (lookL_ok (s.data.toList.drop a) 0 0 (by omega)).1 a1
  obtain ⟨n, i1, _, i3, _⟩ := look_inv (s.data.toList.drop a) 0 0 (by decide) a1
  rw [a2]
  generalize lookL 0 0 (s.data.toList.drop a) = L at *
  have hlen : s.data.toList.length = s.size := by simp
  rw [List.length_drop] at k1
  simp only [Nat.pow_zero, Nat.mul_one, Nat.zero_add, Nat.sub_zero] at i1 i3
  refine ⟨_, _, rfl, k1.1, by omega, ?_⟩
  rw [i1, ← i3, List.take_add]
theorem text_fwd {s : ByteArray} {a : Nat} (ha : a ≤ s.size) (h : (textM (s, a, 0)).2.2.2 = 0) : ∃ t a', textM (s, a, 0) = (t, (s, a', 0)) ∧ a' ≤ s.size ∧ s.data.toList.take a' = s.data.toList.take a ++ (numB t.size ++ t.data.toList) := by
  obtain ⟨b1, b2, b3⟩ := text_zero h
  have k2 := (lookL_ok (s.data.toList.drop a) 0 0 (by omega)).1 b1
  obtain ⟨m, j1, _, j3, _⟩ := look_inv (s.data.toList.drop a) 0 0 (by decide) b1
  rw [b3]
  generalize lookL 0 0 (s.data.toList.drop a) = M at *
  have hlen : s.data.toList.length = s.size := by simp
  rw [List.length_drop] at k2
  simp only [Nat.pow_zero, Nat.mul_one, Nat.zero_add, Nat.sub_zero] at j1 j3
  refine ⟨_, _, rfl, by omega, ?_⟩
  have hsz : (s.extract (a + M.2.1) (a + M.2.1 + M.1)).size = M.1 := by
    rw [ByteArray.size_extract]
    omega
  have ht : (s.extract (a + M.2.1) (a + M.2.1 + M.1)).data.toList = (s.data.toList.drop (a + M.2.1)).take M.1 := by
    rw [ByteArray.data_extract, Array.toList_extract, List.extract_eq_take_drop, Nat.add_sub_cancel_left]
  rw [hsz, ht, List.take_add, List.take_add, List.append_assoc, ← List.drop_drop, j3, j1]
theorem next_zero {last rest : List UInt8} {n : Nat} {first : Bool} (h : (nextL last n rest first).2 = 0) : n ≤ last.length ∧ (nextL last n rest first).1 = last.take n ++ rest ∧ (last.take n ++ rest).length ≤ 1000 ∧ shL last (last.take n ++ rest) = n := by
  unfold nextL at h ⊢
  by_cases h1 : last.length < n
  · rw [if_pos h1] at h; cases h
  rw [if_neg h1] at h ⊢
  by_cases h2 : 1000 < (last.take n ++ rest).length
  · rw [if_pos h2] at h; cases h
  rw [if_neg h2] at h ⊢
  by_cases h3 : first = false ∧ (ltL (last.take n ++ rest) last = true ∨ last.take n ++ rest = last)
  · rw [if_pos h3] at h; cases h
  rw [if_neg h3] at h ⊢
  by_cases h4 : shL last (last.take n ++ rest) ≠ n
  · rw [if_pos h4] at h; cases h
  rw [if_neg h4]
  exact ⟨by omega, rfl, by omega, by simpa using h4⟩
theorem rd_back {s : ByteArray} : ∀ (k : Nat) (acc : List (List UInt8)) (a : Nat), a ≤ s.size → (rdL k acc (s, a, 0)).2.2.2 = 0 → ∃ q a', rdL k acc (s, a, 0) = (acc ++ q, (s, a', 0)) ∧ q.length = k ∧ a' ≤ s.size ∧ (∀ x ∈ q, x.length ≤ 1000) ∧
    s.data.toList.take a' = s.data.toList.take a ++ bodyL (acc.getLastD []) q
  | 0, acc, a, ha, _ => ⟨[], a, by rw [rdL, List.append_nil], rfl, ha, by simp, by rw [bodyL, List.append_nil]⟩
  | k + 1, acc, a, ha, h => by
    rw [rdL, wr0, if_neg (by simp)] at h ⊢
    have h60 : ((s, a, 0) : P02.Rd).2.2 ≠ 6 := by show (0 : Int) ≠ 6; decide
    by_cases hw : wr (textM (numM (s, a, 0)).2).2 = 0
    · rw [if_neg (by simpa using hw)] at h ⊢
      have ht0 := (wr_zero (text6 (num6 h60))).1 hw
      have hn0 : (numM (s, a, 0)).2.2.2 = 0 := by
        by_cases h' : (numM (s, a, 0)).2.2.2 = 0
        · exact h'
        · have : textM (numM (s, a, 0)).2 = (⟨#[]⟩, (numM (s, a, 0)).2) := by
            unfold textM
            rw [C02R.takeM_err h']
          rw [this] at ht0
          exact absurd ht0 h'
      obtain ⟨n, a1, e1, hn, ha1, et1⟩ := num_fwd ha hn0
      rw [e1] at ht0 h ⊢
      simp only at ht0 h ⊢
      obtain ⟨t, a2, e2, ha2, et2⟩ := text_fwd ha1 ht0
      rw [e2] at h ⊢
      simp only at h ⊢
      have hx0 : (nextL (acc.getLastD []) n t.data.toList acc.isEmpty).2 = 0 := by
        by_cases h' : (nextL (acc.getLastD []) n t.data.toList acc.isEmpty).2 = 0
        · exact h'
        · exfalso
          have e3 : (failM (s, a2, 0) (nextL (acc.getLastD []) n t.data.toList acc.isEmpty).2).2.2 = (nextL (acc.getLastD []) n t.data.toList acc.isEmpty).2 := rfl
          rw [rd_err k _ _ (by rw [e3]; exact h') (by rw [e3]; exact next6 _ _ _ _), e3] at h
          exact h' h
      obtain ⟨z1, z2, z3, z4⟩ := next_zero hx0
      rw [hx0, fail0 _ rfl] at h ⊢
      rw [z2] at h ⊢
      obtain ⟨q, a3, e4, hq, ha3, hlen, et3⟩ := rd_back k _ a2 ha2 h
      refine ⟨((acc.getLastD []).take n ++ t.data.toList) :: q, a3, by rw [e4, List.append_assoc]; rfl, by rw [List.length_cons, hq], ha3, ?_, ?_⟩
      · intro x hx
        rcases List.mem_cons.1 hx with rfl | hx
        · exact z3
        · exact hlen x hx
      · rw [List.getLastD_concat] at et3
        rw [et3, et2, et1, bodyL, z4]
        have hl : ((acc.getLastD []).take n).length = n := by rw [List.length_take]; omega
        have e5 : ((acc.getLastD []).take n ++ t.data.toList).length - n = t.size := by
          have : t.data.toList.length = t.size := by simp
          rw [List.length_append, hl, this]
          omega
        have e6 : ((acc.getLastD []).take n ++ t.data.toList).drop n = t.data.toList := by
          have := List.drop_left (l₁ := (acc.getLastD []).take n) (l₂ := t.data.toList)
          rw [hl] at this
          exact this
        rw [e5, e6]
        simp only [List.append_assoc]
    · rw [if_pos hw] at h
      exact absurd ((wr_zero (text6 (num6 h60))).2 h) hw
theorem read_back {s : ByteArray} (h : wr (readP (s, 0, 0)).2 = 0) : ∃ ts a, readP (s, 0, 0) = (ts, (s, a, 0)) ∧ a ≤ s.size ∧ ts.length ≤ 6000 ∧ (∀ x ∈ ts, x.length ≤ 1000) ∧ s.data.toList.take a = bytesL ts := by
  have h60 : ((s, 0, 0) : P02.Rd).2.2 ≠ 6 := by show (0 : Int) ≠ 6; decide
  have hbase : ∀ (k : Nat) (acc : List (List UInt8)) (r : P02.Rd), r.2.2 ≠ 6 → wr (rdL k acc r).2 = 0 → r.2.2 = 0 ∧ (rdL k acc r).2.2.2 = 0 := by
    intro k
    induction k with
    | zero => intro acc r h6 hw; exact ⟨(wr_zero h6).1 hw, (wr_zero h6).1 hw⟩
    | succ k ih =>
      intro acc r h6 hw
      by_cases h0 : r.2.2 = 0
      · refine ⟨h0, ?_⟩
        rw [rdL] at hw ⊢
        by_cases hw0 : wr r = 0
        · rw [if_neg (by simpa using hw0)] at hw ⊢
          by_cases hw1 : wr (textM (numM r).2).2 = 0
          · rw [if_neg (by simpa using hw1)] at hw ⊢
            exact (ih _ _ (fail6 (text6 (num6 h6)) (next6 _ _ _ _)) hw).2
          · rw [if_pos hw1] at hw
            exact absurd hw hw1
        · rw [if_pos hw0] at hw
          exact absurd hw hw0
      · rw [rd_err _ _ _ h0 h6] at hw
        exact absurd ((wr_zero h6).1 hw) h0
  unfold readP at h ⊢
  have hb : ¬ 6000 < (numM (s, 0, 0)).1 ∧ (numM (s, 0, 0)).2.2.2 = 0 := by
    by_cases hc : 6000 < (numM (s, 0, 0)).1
    · rw [if_pos hc] at h
      have := (hbase _ _ _ (fail6 (num6 h60) (by decide)) h).1
      unfold failM at this
      split at this
      · cases this
      · rename_i h'; exact absurd this h'
    · rw [if_neg hc] at h
      exact ⟨hc, (hbase _ _ _ (num6 h60) h).1⟩
  rw [if_neg hb.1] at h ⊢
  obtain ⟨n, a1, e1, hn, ha1, et1⟩ := num_fwd (Nat.zero_le _) hb.2
  have hb1 := hb.1
  rw [e1] at h hb1 ⊢
  simp only at h hb1 ⊢
  obtain ⟨q, a2, e2, hq, ha2, hlen, et2⟩ := rd_back n [] a1 ha1 (hbase _ _ _ (by show (0 : Int) ≠ 6; decide) h).2
  refine ⟨q, a2, by rw [e2]; rfl, ha2, by omega, hlen, ?_⟩
  rw [et2, et1, hq.symm]
  unfold bytesL
  simp
end Go.Proofs.Ytigbdoicgdmliaa.C25
end

section
/- A summary as numbers and texts in a row, and what a writer makes of them: plain words. -/
set_option linter.unusedVariables false
set_option linter.unusedSimpArgs false
namespace Go.Proofs.Ytigbdoicgdmliaa.P26
open Go Go.V Go.Proofs Go.Proofs.Ytigbdoicgdmliaa.P02
/-- a number, or a text -/
inductive Ev where
  | n (x : Int)
  | t (x : L8)
def evL {τ : Type} (f : τ → List Ev) (l : List τ) : List Ev := .n (l.length : Int) :: l.flatMap f
def evM (m : Mk) : List Ev := [.n m.1, .t m.2]
def evO (o : ObjD) : List Ev := [.t o.name, .t o.kinds] ++ evL evM o.marks
def evF (f : FnD) : List Ev := [.t f.name, .t f.kinds, .t f.ret]
def evT (x : L8) : List Ev := [.t x]
def evC (c : ConD) : List Ev := [.n c.op, .t c.a, .t c.b, .n c.k, .t c.tag] ++ evL evT c.args
def evS (s : SumD) : List Ev := [.t s.name] ++ evL evT s.gives ++ evL evT s.wants ++ evL evT s.keeps ++ evL evO s.sys.objs ++ evL evF s.sys.fns ++ evL evC s.sys.cons
/-- its texts -/
def txts : List Ev → List L8
  | [] => []
  | .n _ :: l => txts l
  | .t x :: l => x :: txts l
theorem txts_app (a b : List Ev) : txts (a ++ b) = txts a ++ txts b := by
  induction a with
  | nil => rfl
  | cons e a ih =>
    cases e with
    | n x => exact ih
    | t x => show x :: txts (a ++ b) = x :: (txts a ++ txts b); rw [ih]
theorem txts_len (a : List Ev) : (txts a).length ≤ a.length := by
  induction a with
  | nil => exact Nat.le_refl _
  | cons e a ih =>
    cases e with
    | n x => simp only [txts, List.length_cons]; omega
    | t x => simp only [txts, List.length_cons]; omega
/-- bytes, and what is wrong -/
abbrev Ws := L8 × Int
def failW (w : Ws) (e : Int) : Ws := if w.2 = 0 then (w.1, e) else w
def numW (w : Ws) (n : Int) : Ws := if n < 0 ∨ 268435456 < n then failW w 2 else (w.1 ++ numB n.toNat, w.2)
def txtW (look : L8 → Option Nat) (w : Ws) (t : L8) : Ws := match look t with
  | some i => numW w i
  | none => numW (failW w 7) 0
def stepW (look : L8 → Option Nat) (w : Ws) : Ev → Ws
  | .n x => numW w x
  | .t x => txtW look w x
abbrev foldW (look : L8 → Option Nat) (w : Ws) (l : List Ev) : Ws := l.foldl (stepW look) w
theorem numW_len (w : Ws) (n : Int) : (numW w n).1.length ≤ w.1.length + 5 := by
  unfold numW
  split
  · unfold failW; split <;> simp
  · rename_i h
    simp only [List.length_append]
    have := numB_len5 (n := n.toNat) (by omega)
    omega
theorem stepW_len (look : L8 → Option Nat) (w : Ws) (e : Ev) : (stepW look w e).1.length ≤ w.1.length + 5 := by
  cases e with
  | n x => exact numW_len w x
  | t x =>
    show (txtW look w x).1.length ≤ _
    unfold txtW
    split
    · exact numW_len w _
    · have := numW_len (failW w 7) 0
      have h : (failW w 7).1 = w.1 := by unfold failW; split <;> rfl
      rw [h] at this
      exact this
theorem foldW_len (look : L8 → Option Nat) : ∀ (l : List Ev) (w : Ws), (foldW look w l).1.length ≤ w.1.length + 5 * l.length
  | [], w => by simp [foldW]
  | e :: l, w => by
    have h1 := stepW_len look w e
    have h2 := foldW_len look l (stepW look w e)
    show (foldW look (stepW look w e) l).1.length ≤ _
    simp only [List.length_cons]
    omega
theorem foldW_app (look : L8 → Option Nat) (w : Ws) (a b : List Ev) : foldW look w (a ++ b) = foldW look (foldW look w a) b := List.foldl_append
/-- the document's writer: nothing more is written once something is wrong -/
def numX (w : Ws) (n : Int) : Ws := if (n < 0 ∨ 268435456 < n) ∧ w.2 = 0 then (w.1, 2) else if w.2 = 0 then (w.1 ++ numB n.toNat, 0) else w
def txtX (look : L8 → Option Nat) (w : Ws) (t : L8) : Ws := match look t with
  | some i => numX w i
  | none => numX (failW w 7) 0
def stepX (look : L8 → Option Nat) (w : Ws) : Ev → Ws
  | .n x => numX w x
  | .t x => txtX look w x
abbrev foldX (look : L8 → Option Nat) (w : Ws) (l : List Ev) : Ws := l.foldl (stepX look) w
def Like (a b : Ws) : Prop := a.2 = b.2 ∧ (a.2 = 0 → a.1 = b.1)
theorem num_like {a b : Ws} (h : Like a b) (n : Int) : Like (numW a n) (numX b n) := by
  obtain ⟨a1, a2⟩ := a
  obtain ⟨b1, b2⟩ := b
  obtain ⟨h1, h2⟩ := h
  simp only at h1 h2
  subst h1
  unfold numW numX failW Like
  by_cases h0 : a2 = 0
  · have := h2 h0
    subst this
    by_cases hn : n < 0 ∨ 268435456 < n
    · simp [h0, hn]
    · simp [h0, hn]
  · by_cases hn : n < 0 ∨ 268435456 < n
    · simp [h0, hn]
    · simp [h0, hn]
theorem fail_like {a b : Ws} (h : Like a b) (e : Int) : Like (failW a e) (failW b e) := by
  obtain ⟨a1, a2⟩ := a
  obtain ⟨b1, b2⟩ := b
  obtain ⟨h1, h2⟩ := h
  simp only at h1 h2
  subst h1
  unfold failW Like
  by_cases h0 : a2 = 0
  · rw [if_pos h0, if_pos h0]
    exact ⟨rfl, fun _ => h2 h0⟩
  · rw [if_neg h0, if_neg h0]
    exact ⟨rfl, fun h => absurd h h0⟩
theorem step_like {look : L8 → Option Nat} {a b : Ws} (h : Like a b) (e : Ev) : Like (stepW look a e) (stepX look b e) := by
  cases e with
  | n x => exact num_like h x
  | t x =>
    show Like (txtW look a x) (txtX look b x)
    unfold txtW txtX
    split
    · exact num_like h _
    · exact num_like (fail_like h 7) 0
theorem fold_like {look : L8 → Option Nat} : ∀ (l : List Ev) {a b : Ws}, Like a b → Like (foldW look a l) (foldX look b l)
  | [], _, _, h => h
  | e :: l, _, _, h => fold_like l (step_like h e)
theorem foldX_app (look : L8 → Option Nat) (w : Ws) (a b : List Ev) : foldX look w (a ++ b) = foldX look (foldX look w a) b := List.foldl_append
theorem numX_len (w : Ws) (n : Int) : (numX w n).1.length ≤ w.1.length + 5 := by
  unfold numX
  split
  · simp
  · split
    · rename_i h1 h2
      simp only [List.length_append]
      have := numB_len5 (n := n.toNat) (by omega)
      omega
    · simp
theorem stepX_len (look : L8 → Option Nat) (w : Ws) (e : Ev) : (stepX look w e).1.length ≤ w.1.length + 5 := by
  cases e with
  | n x => exact numX_len w x
  | t x =>
    show (txtX look w x).1.length ≤ _
    unfold txtX
    split
    · exact numX_len w _
    · have := numX_len (failW w 7) 0
      have h : (failW w 7).1 = w.1 := by unfold failW; split <;> rfl
      rw [h] at this
      exact this
theorem foldX_len (look : L8 → Option Nat) : ∀ (l : List Ev) (w : Ws), (foldX look w l).1.length ≤ w.1.length + 5 * l.length
  | [], w => by simp [foldX]
  | e :: l, w => by
    have h1 := stepX_len look w e
    have h2 := foldX_len look l (stepX look w e)
    show (foldX look (stepX look w e) l).1.length ≤ _
    simp only [List.length_cons]
    omega
/-- where a text stands in a pool -/
def poolIx (ts : List L8) (t : L8) : Option Nat := if t ∈ ts then some (ts.idxOf t) else none
theorem pool_some {ts : List L8} {t : L8} {i : Nat} (hr : Rising ltL ts) (h : ts[i]? = some t) : poolIx ts t = some i := by
  have hm := List.mem_of_getElem? h
  unfold poolIx
  rw [if_pos hm]
  have hlt := List.idxOf_lt_length_of_mem hm
  have hg : ts[ts.idxOf t]? = some t := by rw [List.getElem?_eq_getElem hlt, List.getElem_idxOf]
  obtain ⟨h1, e1⟩ := List.getElem?_eq_some_iff.1 h
  obtain ⟨h2, e2⟩ := List.getElem?_eq_some_iff.1 hg
  congr 1
  rcases Nat.lt_trichotomy (ts.idxOf t) i with hij | hij | hij
  · have := List.pairwise_iff_getElem.1 hr _ _ h2 h1 hij
    rw [e1, e2, linL.irr] at this
    cases this
  · exact hij
  · have := List.pairwise_iff_getElem.1 hr _ _ h1 h2 hij
    rw [e1, e2, linL.irr] at this
    cases this
theorem pool_none {ts : List L8} {t : L8} (h : t ∉ ts) : poolIx ts t = none := by unfold poolIx; rw [if_neg h]
theorem pool_get {ts : List L8} {t : L8} {i : Nat} (h : poolIx ts t = some i) : ts[i]? = some t := by
  unfold poolIx at h
  split at h
  · rename_i hm
    obtain rfl := Option.some.inj h
    have hlt := List.idxOf_lt_length_of_mem hm
    rw [List.getElem?_eq_getElem hlt, List.getElem_idxOf]
  · cases h
end Go.Proofs.Ytigbdoicgdmliaa.P26
end

section
/- Bytes as a summary: plain words. -/
set_option linter.unusedVariables false
set_option linter.unusedSimpArgs false
namespace Go.Proofs.Ytigbdoicgdmliaa.P26R
open Go Go.V Go.Proofs Go.Proofs.Ytigbdoicgdmliaa.P02 Go.Proofs.Ytigbdoicgdmliaa.C25
abbrev Rr := P02.Rd
def textR (ts : List L8) (r : Rr) : L8 × Rr :=
  if (numM r).2.2.2 ≠ 0 then ([], (numM r).2) else match ts[(numM r).1]? with
    | some t => (t, (numM r).2)
    | none => ([], failM (numM r).2 2)
def manyR (r : Rr) : Nat × Rr := if 6000 < (numM r).1 then (0, failM (numM r).2 4) else numM r
def thN {α : Type} (one : Rr → α × Rr) : Nat → Rr → List α → List α × Rr
  | 0, r, acc => (acc, r)
  | n + 1, r, acc => if r.2.2 ≠ 0 then (acc, r) else thN one n (one r).2 (acc ++ [(one r).1])
def thR {α : Type} (one : Rr → α × Rr) (r : Rr) : List α × Rr := thN one (manyR r).1 (manyR r).2 []
def markR (ts : List L8) (r : Rr) : Mk × Rr := (((numM r).1, (textR ts (numM r).2).1), (textR ts (numM r).2).2)
def objR (ts : List L8) (r : Rr) : ObjD × Rr :=
  let a := textR ts r
  let b := textR ts a.2
  let c := thR (markR ts) b.2
  (⟨a.1, b.1, c.1⟩, c.2)
def fnR (ts : List L8) (r : Rr) : FnD × Rr :=
  let a := textR ts r
  let b := textR ts a.2
  let c := textR ts b.2
  (⟨a.1, b.1, c.1⟩, c.2)
def conR (ts : List L8) (r : Rr) : ConD × Rr :=
  let o := numM r
  let a := textR ts o.2
  let b := textR ts a.2
  let k := numM b.2
  let t := textR ts k.2
  let l := thR (textR ts) t.2
  (⟨o.1, a.1, b.1, k.1, t.1, l.1⟩, l.2)
def sumR (ts : List L8) (r : Rr) : SumD × Rr :=
  let n := textR ts r
  let g := thR (textR ts) n.2
  let w := thR (textR ts) g.2
  let k := thR (textR ts) w.2
  let o := thR (objR ts) k.2
  let f := thR (fnR ts) o.2
  let c := thR (conR ts) f.2
  (⟨n.1, g.1, w.1, k.1, ⟨o.1, f.1, c.1⟩⟩, c.2)
def noSum : SumD := ⟨[], [], [], [], ⟨[], [], []⟩⟩
/-- what reading comes to -/
def readS (ts : List L8) (s : ByteArray) : SumD × Int :=
  let x := sumR ts (s, 0, 0)
  if (rdoneM x.2).2 ≠ 0 then (noSum, (rdoneM x.2).2) else (x.1, 0)
/-- no way of reading finds bytes behind the end -/
def K6 {α : Type} (f : Rr → α × Rr) : Prop := ∀ r : Rr, r.2.2 ≠ 6 → (f r).2.2.2 ≠ 6
theorem k6_num : K6 numM := fun r h => num6 h
theorem k6_text (ts : List L8) : K6 (textR ts) := by
  intro r h
  unfold textR
  split
  · exact num6 h
  · split
    · exact num6 h
    · exact fail6 (num6 h) (by decide)
theorem k6_many : K6 manyR := by
  intro r h
  unfold manyR
  split
  · exact fail6 (num6 h) (by decide)
  · exact num6 h
theorem k6_thN {α : Type} {one : Rr → α × Rr} (h1 : K6 one) : ∀ (n : Nat) (r : Rr) (acc : List α), r.2.2 ≠ 6 → (thN one n r acc).2.2.2 ≠ 6
  | 0, r, acc, h => h
  | n + 1, r, acc, h => by
    unfold thN
    split
    · exact h
    · exact k6_thN h1 n _ _ (h1 r h)
theorem k6_th {α : Type} {one : Rr → α × Rr} (h1 : K6 one) : K6 (thR one) := fun r h => k6_thN h1 _ _ _ (k6_many r h)
theorem k6_mark (ts : List L8) : K6 (markR ts) := fun r h => k6_text ts _ (k6_num r h)
theorem k6_obj (ts : List L8) : K6 (objR ts) := by
  intro r h
  have a := k6_text ts r h
  have b := k6_text ts _ a
  have c := k6_th (k6_mark ts) _ b
  unfold objR
  exact c
theorem k6_fn (ts : List L8) : K6 (fnR ts) := fun r h => k6_text ts _ (k6_text ts _ (k6_text ts r h))
theorem k6_con (ts : List L8) : K6 (conR ts) := by
  intro r h
  have a := k6_num r h
  have b := k6_text ts _ a
  have c := k6_text ts _ b
  have d := k6_num _ c
  have e := k6_text ts _ d
  have f := k6_th (k6_text ts) _ e
  unfold conR
  exact f
section
attribute [local irreducible] thR textR objR fnR conR
theorem k6_sum (ts : List L8) : K6 (sumR ts) := by
  intro r h
  have a := k6_text ts r h
  have b := k6_th (k6_text ts) _ a
  have c := k6_th (k6_text ts) _ b
  have d := k6_th (k6_text ts) _ c
  have e := k6_th (k6_obj ts) _ d
  have f := k6_th (k6_fn ts) _ e
  have g := k6_th (k6_con ts) _ f
  unfold sumR
  exact g
end
theorem thN_err {α : Type} {one : Rr → α × Rr} {n : Nat} {r : Rr} {acc : List α} (h : r.2.2 ≠ 0) : thN one n r acc = (acc, r) := by
  cases n with
  | zero => rfl
  | succ n => rw [thN, if_pos h]
theorem thN_go {α : Type} {one : Rr → α × Rr} {n : Nat} {r : Rr} {acc : List α} (h : r.2.2 = 0) : thN one (n + 1) r acc = thN one n (one r).2 (acc ++ [(one r).1]) := by
  rw [thN, if_neg (by simpa using h)]
theorem fail_ne (r : Rr) {e : Int} (he : e ≠ 0) : (failM r e).2.2 ≠ 0 := by
  unfold failM
  split
  · exact he
  · assumption
/-- the numbers that are read -/
theorem many_le (r : Rr) : (manyR r).1 ≤ 6000 := by
  unfold manyR
  split
  · exact Nat.zero_le _
  · rename_i h
    omega
theorem th_alt {α : Type} {one : Rr → α × Rr} {r : Rr} : thR one r = thN one (numM r).1 (if 6000 < (numM r).1 then failM (numM r).2 4 else (numM r).2) [] := by
  unfold thR manyR
  split
  · rw [thN_err (fail_ne _ (by decide)), thN_err (fail_ne _ (by decide))]
  · rfl
end Go.Proofs.Ytigbdoicgdmliaa.P26R
end
