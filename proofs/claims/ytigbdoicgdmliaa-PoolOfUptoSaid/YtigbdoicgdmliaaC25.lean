/- pool, and weftref25: what their functions do, on lists of bytes. -/
import Derived.Test.YtigbdoicgdmliaaN25
import Derived.Test.YtigbdoicgdmliaaV21
import Derived.Test.YtigbdoicgdmliaaC05S
import Derived.Test.YtigbdoicgdmliaaC02
import Derived.Test.YtigbdoicgdmliaaC02R
import Derived.Test.YtigbdoicgdmliaaQ02
set_option linter.unusedVariables false
set_option linter.unusedSimpArgs false
-- tPool: 108
-- tStr: 9
-- of: 28
-- list: 63
-- number: 30
-- pat: 68
-- len: 36
-- shared: 65
-- write: 32
-- next: 75
-- wrong: 73
-- read: 39
-- rShared: 70
-- rBytes: 35
-- rOf: 29
-- bs: 62
-- less: 102
-- nan: 103
namespace Go.Proofs.Ytigbdoicgdmliaa.C25
open Go Go.V Go.Proofs Go.Proofs.Ytigbdoicgdmliaa.N25 Go.Proofs.Ytigbdoicgdmliaa.P02
attribute [local irreducible] Cvt ExtF CallF hrun App MkS
section
variable {H : Hp} {K : Value → Hp → Prop} {Z : List PanicEntry → Hp → Prop}
theorem row_rdI {E : TypeId} {s : Sl} {xs : List ByteArray} (h : Row H E 1 s (xs.map C05S.val)) : (rdI flL 1 s (xs.map (·.data.toList))).ok H := by
  refine ⟨els_rd (fun _ => rfl) (Els.row h) ?_, ?_⟩
  · rcases h.2 with h | ⟨g, cs, fr, ha, hg, h1, _⟩
    · rw [h.2.1]; exact Nat.zero_le _
    · exact h1
  · rintro i ⟨ad, ha, rfl⟩
    rcases h.2 with h | ⟨g, cs, fr, ha', hg, h1, _⟩
    · rw [h.1] at ha; cases ha
    · rw [ha'] at ha
      cases ha
      exact (Array.getElem?_eq_some_iff.1 hg).1
theorem less_ok {x y : List UInt8} (k : K (.bool (ltL x y)) H) : CallF Try.prog 102 #[.string (str x), .string (str y)] H K Z := by
  refine V102_ok ?_
  unfold V102
  refine C05S.nan_ok ⟨_, rfl, (fun h => by cases h), fun _ => ?_⟩
  rw [lt_strL]
  exact k
theorem bs_ok {s : Sl} {ts : List (List UInt8)} {t : List UInt8} (h : Rd flL 1 H s ts) (hr : Rising ltL ts) (hbig : ts.length ≤ 1000000000)
    (k1 : ∀ i : Nat, ts[i]? = some t → K (.tuple #[.int .i64 (i : Int), .bool true]) H) (k2 : ∀ i : Nat, t ∉ ts → K (.tuple #[.int .i64 (i : Int), .bool false]) H) : CallF Try.prog 62 #[.slice s.a s.n s.c, .string (str t)] H K Z := by
  refine V62_ok ?_
  unfold V62
  have hl := h.len
  have hrise : ∀ (i j : Nat) (x y : List UInt8), i < j → ts[i]? = some x → ts[j]? = some y → ltL x y = true := by
    intro i j x y hij hi hj
    obtain ⟨h1, rfl⟩ := List.getElem?_eq_some_iff.1 hi
    obtain ⟨h2, rfl⟩ := List.getElem?_eq_some_iff.1 hj
    exact List.pairwise_iff_getElem.1 hr i j h1 h2 hij
  refine ⟨fun i j A m => ∃ a b : Nat, A = H ∧ i = (a : Int) ∧ j = (b : Int) ∧ a ≤ b ∧ b ≤ ts.length ∧ m = b - a ∧ (∀ (c : Nat) (x : List UInt8), c < a → ts[c]? = some x → ltL x t = true) ∧ (∀ (c : Nat) (x : List UInt8), b ≤ c → ts[c]? = some x → ltL x t = false),
    ⟨_, 0, ts.length, rfl, rfl, by rw [hl], Nat.zero_le _, Nat.le_refl _, rfl, fun c x hc => absurd hc (Nat.not_lt_zero _), fun c x hc hx => by have := (List.getElem?_eq_some_iff.1 hx).1; omega⟩, ?_⟩
  rintro i j A m ⟨a, b, rfl, rfl, rfl, hab, hb, rfl, hlo, hhi⟩ scr
  refine ⟨fun hlt => ?_, fun hge => ?_⟩
  · have hlt' := dlt hlt
    rw [mid_eq (by omega)]
    have hm : (a + b) / 2 < ts.length := by omega
    have hx : ts[(a + b) / 2]? = some ts[(a + b) / 2] := List.getElem?_eq_getElem hm
    generalize ts[(a + b) / 2] = x at hx
    refine h.ixn FlL hx fun ad had => ⟨_, had, less_ok ⟨_, rfl, fun hy => ?_, fun hy => ?_⟩⟩
    · refine ⟨b - ((a + b) / 2 + 1), by omega, (a + b) / 2 + 1, b, rfl, wi (by omega), rfl, by omega, hb, rfl, fun c y hc hy' => ?_, hhi⟩
      rcases Nat.lt_or_ge c ((a + b) / 2) with h1 | h1
      · exact linL.tr _ _ _ (hrise _ _ _ _ h1 hy' hx) hy
      · have : c = (a + b) / 2 := by omega
        subst this
        rw [hx] at hy'
        cases hy'
        exact hy
    · refine ⟨(a + b) / 2 - a, by omega, a, (a + b) / 2, rfl, rfl, rfl, by omega, by omega, rfl, hlo, fun c y hc hy' => ?_⟩
      rcases Nat.lt_or_ge ((a + b) / 2) c with h1 | h1
      · cases hyt : ltL y t with
        | false => rfl
        | true =>
          have := linL.tr _ _ _ (hrise _ _ _ _ h1 hx hy') hyt
          rw [this] at hy
          cases hy
      · have : c = (a + b) / 2 := by omega
        subst this
        rw [hx] at hy'
        cases hy'
        exact hy
  · have hge' := dge hge
    have e : b = a := by omega
    subst e
    have none_ : ts[b]? ≠ some t → t ∉ ts := by
      intro hn hm
      obtain ⟨c, hc⟩ := List.getElem?_of_mem hm
      rcases Nat.lt_trichotomy c b with h1 | h1 | h1
      · have := hlo c t h1 hc
        rw [linL.irr] at this
        cases this
      · subst h1
        exact hn hc
      · have hcl := (List.getElem?_eq_some_iff.1 hc).1
        have hx : ts[b]? = some ts[b] := List.getElem?_eq_getElem (by omega)
        have h2 := hrise _ _ _ _ h1 hx hc
        have h3 := hhi b _ (Nat.le_refl _) hx
        rw [h2] at h3
        cases h3
    refine ⟨fun hlt => ?_, fun hge2 => ?_⟩
    · have hbl : b < ts.length := by have := of_decide_eq_true hlt; omega
      have hx : ts[b]? = some ts[b] := List.getElem?_eq_getElem hbl
      generalize ts[b] = x at hx
      refine h.ixn FlL hx fun ad had => ⟨_, had, fun heq => ?_, fun hne => ?_⟩
      · rw [beq_str] at heq
        have : x = t := of_decide_eq_true heq
        subst this
        exact k1 b hx
      · rw [beq_str] at hne
        have hne' : x ≠ t := of_decide_eq_false hne
        refine h.ixn FlL hx fun ad had => ⟨_, had, V103_ok ?_⟩
        unfold V103
        refine ⟨_, rfl, fun h => ?_, fun _ => k2 b (none_ (by rw [hx]; simpa using hne'))⟩
        rw [beqS_iff.2 rfl] at h
        cases h
    · have hbl : ts.length ≤ b := by have := of_decide_eq_false hge2; omega
      exact k2 b (none_ (by rw [List.getElem?_eq_none hbl]; simp))
/-- a pool's texts, as they are read -/
def PlS (H : Hp) (ad : Addr) (ts : List (List UInt8)) : Prop := ∃ s : Sl, hcell H ad = some (.slice s.a s.n s.c) ∧ Rd flL 1 H s ts
theorem PlS.more {H' : Hp} {ad : Addr} {ts : List (List UInt8)} (h : PlS H ad ts) (hf : Fr no H H') : PlS H' ad ts := by
  obtain ⟨s, h1, h2⟩ := h
  exact ⟨s, hf.cell h1 fun h => h, h2.more hf⟩
theorem list_ok {ad : Addr} {ts : List (List UInt8)} (h : PlS H ad ts) (k : ∀ s : Sl, Rd flL 1 H s ts → K (.slice s.a s.n s.c) H) : CallF Try.prog 63 #[.pointer (some ad)] H K Z := by
  refine V63_ok ?_
  unfold V63
  obtain ⟨s, h1, h2⟩ := h
  exact ⟨(fun h => by cases h), fun _ => ⟨s, h1, k s h2⟩⟩
theorem listN_ok (k : K (.slice none 0 0) H) : CallF Try.prog 63 #[.pointer none] H K Z := by
  refine V63_ok ?_
  unfold V63
  exact ⟨fun _ => k, (fun h => by cases h)⟩
theorem number_ok {ad : Addr} {ts : List (List UInt8)} {t : List UInt8} (h : PlS H ad ts) (hr : Rising ltL ts) (hbig : ts.length ≤ 1000000000)
    (k1 : ∀ i : Nat, ts[i]? = some t → K (.tuple #[.int .i64 (i : Int), .bool true]) H) (k2 : t ∉ ts → K (.tuple #[.int .i64 0, .bool false]) H) : CallF Try.prog 30 #[.pointer (some ad), .string (str t)] H K Z := by
  refine V30_ok ?_
  unfold V30
  refine list_ok h fun s hs => ⟨s, rfl, bs_ok hs hr hbig (fun i hi => ?_) (fun i hi => ?_)⟩
  · exact ⟨_, _, rfl, (fun h => by cases h), fun _ => k1 i hi⟩
  · exact ⟨_, _, rfl, fun _ => k2 hi, (fun h => by cases h)⟩
theorem numberN_ok {t : List UInt8} (k : K (.tuple #[.int .i64 0, .bool false]) H) : CallF Try.prog 30 #[.pointer none, .string (str t)] H K Z := by
  refine V30_ok ?_
  unfold V30
  refine listN_ok ⟨⟨none, 0, 0⟩, rfl, bs_ok (ts := []) Rd.nil List.Pairwise.nil (Nat.zero_le _) (fun i hi => by simp at hi) (fun i hi => ?_)⟩
  exact ⟨_, _, rfl, fun _ => k, (fun h => by cases h)⟩
theorem at_ok {ad : Addr} {ts : List (List UInt8)} {n : Int} (h : PlS H ad ts)
    (k1 : ∀ t, 0 ≤ n → ts[n.toNat]? = some t → K (.tuple #[.string (str t), .bool true]) H) (k2 : (n < 0 ∨ (ts.length : Int) ≤ n) → K (.tuple #[.string ⟨#[]⟩, .bool false]) H) : CallF Try.prog 68 #[.pointer (some ad), .int .i64 n] H K Z := by
  refine V68_ok ?_
  unfold V68
  refine list_ok h fun s hs => ⟨s, rfl, fun h0 => ⟨fun h1 => ?_, fun h1 => k2 (.inr ?_)⟩, fun h0 => k2 (.inl ?_)⟩
  · have hl := hs.len
    have h0' := of_decide_eq_true h0
    have h1' := of_decide_eq_true h1
    have hx : ts[n.toNat]? = some (ts[n.toNat]'(by omega)) := List.getElem?_eq_getElem _
    exact hs.ix1 FlL h0' hx fun ad had => ⟨_, had, k1 _ h0' hx⟩
  · have hl := hs.len
    have h1' := of_decide_eq_false h1
    omega
  · have := of_decide_eq_false h0
    omega
theorem len_ok {ad : Addr} {ts : List (List UInt8)} (h : PlS H ad ts) (k : K (.int .i64 (ts.length : Int)) H) : CallF Try.prog 36 #[.pointer (some ad)] H K Z := by
  refine V36_ok ?_
  unfold V36
  refine list_ok h fun s hs => ⟨s, rfl, ?_⟩
  rw [hs.len]
  exact k
theorem lenN_ok (k : K (.int .i64 0) H) : CallF Try.prog 36 #[.pointer none] H K Z := by
  refine V36_ok ?_
  unfold V36
  exact listN_ok ⟨⟨none, 0, 0⟩, rfl, k⟩
/-- a pool: its struct and its texts -/
def plI (b : Nat) (s : Sl) (ts : List (List UInt8)) : It where
  ok H := Blk H b [.slice s.a s.n s.c] 108 ∧ (rdI flL 1 s ts).ok H
  fp i := i = b ∨ rown s i
  lt h hi := by
    rcases hi with rfl | hi
    · exact h.1.lt
    · exact h.2.2 _ hi
  st := by
    intro H H' h hs
    refine ⟨?_, (rdI flL 1 s ts).st h.2 fun i hi => hs i (.inr hi)⟩
    have h1 := hs b (.inl rfl)
    show H'[b]? = _
    rw [h1]
    exact h.1
theorem plI_s {b : Nat} {s : Sl} {ts : List (List UInt8)} (h : (plI b s ts).ok H) : PlS H ⟨b, 0, none⟩ ts := ⟨s, h.1.ld 0, h.2.1⟩
theorem of_ok {l : Sl} {xs : List (List UInt8)} (h : Rd flL 1 H l xs) (hbig : xs.length ≤ 2000000)
    (k : ∀ b s ts H', Rising ltL ts → (∀ z, z ∈ ts ↔ z ∈ xs) → ts.length ≤ xs.length → Fr no H H' → (plI b s ts).ok H' → (∀ i, (plI b s ts).fp i → H.size ≤ i) → K (.pointer (some ⟨b, 0, none⟩)) H') : CallF Try.prog 28 #[.slice l.a l.n l.c] H K Z := by
  refine V28_ok ?_
  unfold V28
  refine C05S.sorted_ok (rd_els (val := C05S.val) (fun _ => rfl) h) (by rw [List.length_map]; exact hbig) ?_
  intro s A ys hris hmem hlen hrow hf hown
  refine ⟨s, rfl, fun b B hn => ?_⟩
  refine k b s (ys.map (·.data.toList)) B (rising_map hris) (fun z => ?_) (by simpa using hlen) (hf.trans hn.fr) ⟨hn.blk, row_rdI (hrow.keep hn.fr fun _ _ h => h)⟩ ?_
  · rw [List.mem_map]
    constructor
    · rintro ⟨y, hy, rfl⟩
      have := (hmem y).1 hy
      obtain ⟨x, hx, e⟩ := List.mem_map.1 this
      rw [← e, str_data]
      exact hx
    · intro hz
      exact ⟨str z, (hmem _).2 (List.mem_map.2 ⟨z, hz, rfl⟩), str_data z⟩
  · have hs := hf.size
    have he := hn.eq
    rintro i (rfl | ⟨ad, ha, rfl⟩)
    · omega
    · refine hown _ ?_
      rcases hrow.2 with h' | ⟨g, cs, fr, ha', _⟩
      · rw [h'.1] at ha; cases ha
      · rw [ha'] at ha
        cases ha
        exact ⟨0, ha'⟩
end
end Go.Proofs.Ytigbdoicgdmliaa.C25

