/- token's reader: one token, and all of a text. -/
import Derived.Test.YthaejcmllibeoaaDoorC09
set_option linter.unusedVariables false
set_option linter.unusedSimpArgs false
-- all: 45
-- next: 65
-- put: 88
-- word: 89
-- ixByte: 86
-- tReader: 88
-- tTok: 64
-- tToks: 55
namespace Go.Proofs.YthaejcmllibeoaaDoor.C09B
open Go Go.V Go.Proofs Go.Proofs.YthaejcmllibeoaaDoor.N09 Go.Proofs.YthaejcmllibeoaaDoor.C01 Go.Proofs.YthaejcmllibeoaaDoor.P09 Go.Proofs.YthaejcmllibeoaaDoor.C09
attribute [local irreducible] Cvt ExtF CallF hrun App MkS
section
variable {H0 H : Hp} {R : List It} {K : Value → Hp → Prop} {Z : List PanicEntry → Hp → Prop} {b : Nat} {s : Sl} {rest : List UInt8} {line : Int} {toks : List Tk}
def rdr (b : Nat) (rest : List UInt8) (line : Int) (s : Sl) (toks : List Tk) (R : List It) : List It := blk b [.string (str rest), .int .i64 line, .slice s.a s.n s.c] 88 :: arr flK 64 3 s toks :: R
theorem ld0 (h : Sym H0 no H (rdr b rest line s toks R)) : hcell H ⟨b, 0, none⟩ = some (.string (str rest)) := h.ld (k := 0) rfl 0
theorem ld1 (h : Sym H0 no H (rdr b rest line s toks R)) : hcell H (Addr.add ⟨b, 0, none⟩ 1) = some (.int .i64 line) := by
  rw [add_mk, Nat.zero_add]
  exact h.ld (k := 0) rfl 1
theorem ld2 (h : Sym H0 no H (rdr b rest line s toks R)) : hcell H (Addr.add ⟨b, 0, none⟩ 2) = some (.slice s.a s.n s.c) := by
  rw [add_mk, Nat.zero_add]
  exact h.ld (k := 0) rfl 2
theorem put_ok {n : Nat} {kind : Int} (h : Sym H0 no H (rdr b rest line s toks R)) (hn : n ≤ rest.length) (hr : rest.length ≤ 1000000) (ht : toks.length ≤ 1000000)
    (kk : ∀ s' H', Sym H0 no H' (rdr b (rest.drop n) line s' (toks ++ [(kind, rest.take n, line)]) R) → K (.tuple #[]) H') : CallF Tryd.prog 88 #[.pointer (some ⟨b, 0, none⟩), .int .i64 kind, .int .i64 (n : Int)] H K Z := by
  refine V88_ok ?_
  unfold V88
  have hsn : s.n = toks.length := (h.rd (k := 1) FlK (by decide) rfl).len
  refine ⟨fun A => ∃ s', Sym H0 no A (rdr b rest line s' (toks ++ [(kind, rest.take n, line)]) R), ?_, ?_⟩
  · rintro A ⟨s', sA⟩ scr
    refine ⟨_, ld0 sA, SlS.from hn ?_⟩
    refine sA.stb (k := 0) (i := 0) rfl (by simp) rfl fun B sB => kk s' B sB
  · have go : ∀ {A B : Hp} {b1 : Nat}, Sym H0 no A (rdr b rest line s toks R) → Newb A (.cells #[.int .i64 kind, .string (str (rest.take n)), .int .i64 line] 64) b1 B →
        App Tryd.prog #[55, 55] 55 B [.slice s.a s.n s.c, .slice (some ⟨b1, 0, none⟩) 1 1] fun ap C => (StL (Addr.add ⟨b, 0, none⟩ 2) 0 [.slice ap.a ap.n ap.c] C fun D => ∃ s', Sym H0 no D (rdr b rest line s' (toks ++ [(kind, rest.take n, line)]) R)) := by
      intro A B b1 sA hB
      refine sA.app1 (k := 1) (x := (kind, rest.take n, line)) tyTok FlK (by decide) hB rfl (by omega) fun ap C hap sC => ?_
      rw [add_mk, Nat.zero_add]
      refine sC.stb (k := 0) (i := 2) rfl (by simp) rfl fun D sD => ⟨ap, sD⟩
    refine ⟨_, ld0 h, SlS.to hn ⟨_, ld1 h, ⟨_, ld2 h, fun b1 B hB => go h hB⟩, ⟨_, ld2 h, fun b1 B hB => go h hB⟩, fun b1 B hB => ?_⟩⟩
    have hB' := h.more hB.fr
    exact ⟨_, ld2 hB', go h hB⟩
theorem beh_eq {c : UInt8} {r : List UInt8} (hd : isD c = true) : decide (splA (splB (c :: r)) = []) = !wordy (splB (c :: r)) := by
  have hw : wordy (c :: r) = false := not_both hd
  cases hB : splB (c :: r) with
  | nil => rfl
  | cons x t =>
    have hx : inW false x = false := by
      have h1 : splB (c :: r) = (c :: r).dropWhile (inW false) := by unfold splB; rw [hw]
      rw [hB] at h1
      have h2 := List.head?_dropWhile_not (inW false) (c :: r)
      rw [← h1] at h2
      simpa using h2
    have hDx : isD x = false := by
      unfold inW at hx
      simpa using hx
    show decide (splA (x :: t) = []) = !isL x
    cases hL : isL x with
    | true =>
      rw [decide_eq_false (splA_ne (by rw [hL]; rfl))]
      rfl
    | false =>
      have : splA (x :: t) = [] := by
        unfold splA
        rw [List.takeWhile_cons]
        have : inW (wordy (x :: t)) x = false := by
          unfold inW
          show (isD x || (isL x && isL x)) = false
          rw [hDx, hL]
          rfl
        rw [this]
        rfl
      rw [decide_eq_true this]
      rfl
theorem word_ok {c : UInt8} {r : List UInt8} (ht : Tabs H0) (h : Sym H0 no H (rdr b (c :: r) line s toks R)) (hr : (c :: r).length ≤ 1000000) (hk : toks.length ≤ 1000000)
    (k0 : (isL c || isD c) = false → ∀ H', Sym H0 no H' (rdr b (c :: r) line s toks R) → K (.int .i64 16) H')
    (ke : (isL c || isD c) = true → (wordT (splA (c :: r)) (wordy (splB (c :: r)))).2 ≠ 0 → ∀ H', Sym H0 no H' (rdr b (c :: r) line s toks R) → K (.int .i64 (wordT (splA (c :: r)) (wordy (splB (c :: r)))).2) H')
    (kk : (isL c || isD c) = true → (wordT (splA (c :: r)) (wordy (splB (c :: r)))).2 = 0 → ∀ s' H', Sym H0 no H' (rdr b (splB (c :: r)) line s' (toks ++ [((wordT (splA (c :: r)) (wordy (splB (c :: r)))).1, splA (c :: r), line)]) R) → K (.int .i64 0) H') :
    CallF Tryd.prog 89 #[.pointer (some ⟨b, 0, none⟩)] H K Z := by
  refine V89_ok ?_
  unfold V89
  refine ⟨_, ld0 h, split_ok (by omega) fun A fA => ⟨_, _, rfl, ?_⟩⟩
  have sA := h.more fA
  have hA := splA_le (c :: r)
  have happ := spl_app (c :: r)
  have hB : (splB (c :: r)).length ≤ (c :: r).length := by
    have := congrArg List.length happ
    rw [List.length_append] at this
    omega
  have htk : (c :: r).take (splA (c :: r)).length = splA (c :: r) := by
    have h7 : (splA (c :: r) ++ splB (c :: r)).take (splA (c :: r)).length = splA (c :: r) := List.take_left
    rw [happ] at h7
    exact h7
  have hdr : (c :: r).drop (splA (c :: r)).length = splB (c :: r) := by
    have h7 : (splA (c :: r) ++ splB (c :: r)).drop (splA (c :: r)).length = splB (c :: r) := List.drop_left
    rw [happ] at h7
    exact h7
  refine ⟨fun he => ?_, fun hne => ?_⟩
  · rw [str_nil, beq_str] at he
    have he' := of_decide_eq_true he
    have hLD : (isL c || isD c) = false := by
      cases h1 : (isL c || isD c) with
      | false => rfl
      | true => exact absurd he' (splA_ne h1)
    exact k0 hLD A sA
  · rw [str_nil, beq_str] at hne
    have hne' : splA (c :: r) ≠ [] := of_decide_eq_false hne
    have hLD : (isL c || isD c) = true := by
      cases h1 : (isL c || isD c) with
      | true => rfl
      | false =>
        exfalso
        apply hne'
        unfold splA
        rw [List.takeWhile_cons]
        have : inW (wordy (c :: r)) c = false := by
          unfold inW
          show (isD c || (isL c && isL c)) = false
          revert h1
          cases isL c <;> cases isD c <;> simp
        rw [this]
        rfl
    obtain ⟨t, ht'⟩ : ∃ t, splA (c :: r) = c :: t := by
      cases hs : splA (c :: r) with
      | nil => exact absurd hs hne'
      | cons c' t =>
        rw [hs] at htk
        simp at htk
        exact ⟨t, by rw [htk.1]⟩
    have hd : hdD (splA (c :: r)) = isD c := by rw [ht']; rfl
    have ke' := ke hLD
    have kk' := kk hLD
    clear ke kk k0
    have hput : ∀ {kd : Int} {B : Hp}, Sym H0 no B (rdr b (c :: r) line s toks R) → (∀ s' H', Sym H0 no H' (rdr b (splB (c :: r)) line s' (toks ++ [(kd, splA (c :: r), line)]) R) → K (.int .i64 0) H') →
        CallF Tryd.prog 88 #[.pointer (some ⟨b, 0, none⟩), .int .i64 kd, .int .i64 ((str (splA (c :: r))).size : Int)] B (fun r4 H5 => r4 = .tuple #[] ∧ K (.int .i64 0) H5) Z := by
      intro kd B sB kk
      rw [str_size]
      refine put_ok sB hA hr hk fun s' C sC => ⟨rfl, kk s' C ?_⟩
      rw [htk, hdr] at sC
      exact sC
    refine ⟨fun t24 B => t24 = isD c ∧ B = A, ?_, ?_⟩
    · rintro _ _ ⟨rfl, rfl⟩ scr
      refine ⟨fun hD => ?_, fun hD => ?_⟩
      · have hbeh := beh_eq (r := r) hD
        refine split_ok (by omega) fun B fB => ⟨_, _, rfl, ?_⟩
        have sB := sA.more fB
        rw [str_nil, beq_str, hbeh]
        refine ⟨fun hw => ?_, fun hw => ?_⟩
        · have hw' : wordy (splB (c :: r)) = true := by simpa using hw
          have e : wordT (splA (c :: r)) (wordy (splB (c :: r))) = (0, 3) := by unfold wordT; rw [hd, hD, hw']; rfl
          rw [e] at ke'
          exact ke' (by decide) B sB
        · have hw' : wordy (splB (c :: r)) = false := by simpa using hw
          have e : wordT (splA (c :: r)) (wordy (splB (c :: r))) = (3, (readL (splA (c :: r))).2) := by unfold wordT; rw [hd, hD, hw']; rfl
          rw [e] at ke' kk'
          refine read_ok (by omega) fun C fC => ⟨_, _, rfl, fun he => ?_, fun he => ?_⟩
          · exact ke' (by simpa using he) C (sB.more fC)
          · exact hput (sB.more fC) (kk' (by simpa using he))
      · have htA := ht.more sA.fr
        refine isKey_ok htA fun B fB => ⟨_, rfl, fun hy => ?_, fun hy => ?_⟩
        · have e : wordT (splA (c :: r)) (wordy (splB (c :: r))) = (2, 0) := by unfold wordT; rw [hd, hD, hy]; rfl
          rw [e] at kk'
          exact hput (sA.more fB) (kk' rfl)
        · refine name_ok (by omega) fun C fC => ⟨_, rfl, fun hn => ?_, fun hn => ?_⟩
          · have hn' : nameL (splA (c :: r)) = false := by simpa using hn
            have e : wordT (splA (c :: r)) (wordy (splB (c :: r))) = (0, 11) := by unfold wordT; rw [hd, hD, hy, hn']; rfl
            rw [e] at ke'
            exact ke' (by decide) C ((sA.more fB).more fC)
          · have hn' : nameL (splA (c :: r)) = true := by simpa using hn
            have e : wordT (splA (c :: r)) (wordy (splB (c :: r))) = (1, 0) := by unfold wordT; rw [hd, hD, hy, hn']; rfl
            rw [e] at kk'
            exact hput ((sA.more fB).more fC) (kk' rfl)
    · rw [ht']
      refine IxS.mk (i := 0) rfl ⟨fun h1 => IxS.mk (i := 0) rfl ⟨?_, rfl⟩, fun h1 => ⟨?_, rfl⟩⟩
      · have h1' := of_decide_eq_true h1
        unfold isD
        rw [decide_eq_true (p := 48 ≤ c.toNat) (by omega), Bool.true_and]
        exact decide_eq_decide.2 (by omega)
      · have h1' := of_decide_eq_false h1
        unfold isD
        rw [decide_eq_false (p := 48 ≤ c.toNat) (by omega), Bool.false_and]
theorem ixb {l : List UInt8} {c : UInt8} (k : K (.int .i64 (Lib.indexByte l c)) H) : CallF Tryd.prog 86 #[.string (str l), .int .u8 (c.toNat : Int)] H K Z := by
  refine callF_same (v := .int .i64 (Lib.indexByte l c)) ?_ k
  intro w hw
  have := Any.strings_IndexByte S01.lays_indexByte (str l) (c.toNat : Int) w
  rw [str_data] at this
  have e : (c.toNat : Int).toNat.toUInt8 = c := by
    rw [Int.toNat_natCast]
    exact UInt8.ofNat_toNat
  rw [e] at this
  exact this
theorem ix_at : ∀ (l : List UInt8) (c : UInt8), (Lib.indexByte l c = -1 ∧ l.dropWhile (fun x => !(x == c)) = [] ∧ c ∉ l) ∨ ∃ n : Nat, n < l.length ∧ Lib.indexByte l c = (n : Int) ∧ l.dropWhile (fun x => !(x == c)) = l.drop n ∧ c ∈ l
  | [], c => by simp [Lib.indexByte]
  | x :: l, c => by
    rw [Lib.indexByte, List.dropWhile_cons]
    cases hx : (x == c) with
    | true =>
      have : x = c := by simpa using hx
      exact .inr ⟨0, by simp, rfl, rfl, by rw [this]; exact List.mem_cons_self⟩
    | false =>
      have hne : x ≠ c := by simpa using hx
      simp only [Bool.false_eq_true, if_false, Bool.not_false, if_true]
      rcases ix_at l c with ⟨h1, h2, h3⟩ | ⟨n, h1, h2, h3, h4⟩
      · left
        rw [h1]
        exact ⟨rfl, h2, by simp [h3, Ne.symm hne]⟩
      · right
        refine ⟨n + 1, by simpa using h1, ?_, by simpa using h3, List.mem_cons_of_mem _ h4⟩
        rw [h2, if_neg (by rw [beq_iff_eq]; omega)]
        rfl
/-- a mark, or something else -/
theorem marks_ix {c : UInt8} : decide (Lib.indexByte marksL c ≥ 0) = decide (c ∈ marksL) := by
  rcases ix_at marksL c with ⟨h1, _, h3⟩ | ⟨n, _, h2, _, h4⟩
  · rw [h1, decide_eq_false h3]; rfl
  · rw [h2, decide_eq_true h4, decide_eq_true (by omega)]
set_option maxRecDepth 4000 in
theorem next_ok (ht : Tabs H0) (h : Sym H0 no H (rdr b rest line s toks R)) (h0 : rest ≠ []) (hr : rest.length ≤ 1000000) (hk : toks.length ≤ 1000000) (hline : -1000000 ≤ line ∧ line ≤ 1000000)
    (ke : (tokS rest).1 ≠ 0 → ∀ H', Sym H0 no H' (rdr b rest line s toks R) → K (.int .i64 (tokS rest).1) H')
    (kk : (tokS rest).1 = 0 → ∀ s' H', Sym H0 no H' (rdr b (tokS rest).2.2.2.1 (line + (tokS rest).2.2.2.2) s' (toks ++ more (tokS rest).2.1 (tokS rest).2.2.1 line) R) → K (.int .i64 0) H') :
    CallF Tryd.prog 65 #[.pointer (some ⟨b, 0, none⟩)] H K Z := by
  refine V65_ok ?_
  unfold V65
  obtain ⟨c, r, rfl⟩ : ∃ c r, rest = c :: r := by
    cases rest with
    | nil => exact absurd rfl h0
    | cons c r => exact ⟨c, r, rfl⟩
  have u8 : ∀ x : Nat, x < 256 → (((c.toNat : Int) == (x : Int)) = decide (c = UInt8.ofNat x)) := by
    intro x hx
    rw [Bool.eq_iff_iff, beq_iff_eq, decide_eq_true_iff]
    constructor
    · intro h
      apply UInt8.toNat_inj.1
      rw [UInt8.toNat_ofNat']
      omega
    · rintro rfl
      rw [UInt8.toNat_ofNat']
      omega
  have e35 : ((c.toNat : Int) == 35) = decide (c = 35) := u8 35 (by decide)
  have e10 : ((c.toNat : Int) == 10) = decide (c = 10) := u8 10 (by decide)
  have e32 : ((c.toNat : Int) == 32) = decide (c = 32) := u8 32 (by decide)
  have e9 : ((c.toNat : Int) == 9) = decide (c = 9) := u8 9 (by decide)
  have e13 : ((c.toNat : Int) == 13) = decide (c = 13) := u8 13 (by decide)
  rw [step_cons] at ke kk
  refine ⟨_, ld0 h, IxS.mk (i := 0) rfl ?_⟩
  rw [e35, e10, e32, e9, e13]
  -- the rest but for its first byte
  have drop1 : ∀ {A : Hp} {ln : Int}, Sym H0 no A (rdr b (c :: r) ln s toks R) → (∀ B, Sym H0 no B (rdr b r ln s toks R) → K (.int .i64 0) B) →
      ∃ x6 : ByteArray, hcell A ⟨b, 0, none⟩ = some (.string x6) ∧ SlS x6 1 (x6.size : Int) fun cut2 => (StL ⟨b, 0, none⟩ 0 [.string cut2] A fun H5 => (K (.int .i64 0) H5)) := by
    intro A ln sA k
    refine ⟨_, ld0 sA, SlS.from (lo := 1) (by simp) ?_⟩
    exact sA.stb (k := 0) (i := 0) rfl (by simp) rfl fun B sB => k B sB
  have l0 : line + ((0 : Nat) : Int) = line := by omega
  refine ⟨fun h35 => ?_, fun h35 => ⟨fun h10 => ?_, fun h10 => ?_⟩⟩
  · have h35' : c = 35 := of_decide_eq_true h35
    subst h35'
    rw [if_neg (by decide), if_neg (by decide), if_pos rfl] at kk
    have kk' := kk rfl
    simp only [more, if_true, List.append_nil, l0] at kk'
    refine ⟨_, ld0 h, ixb (c := 10) ⟨_, rfl, fun hneg => ?_, fun hneg => ?_⟩⟩
    · rcases ix_at (35 :: r) 10 with ⟨_, h2, _⟩ | ⟨n, _, h2, _, _⟩
      · refine ⟨_, ld0 h, _, ld0 h, ?_⟩
        rw [str_size]
        refine SlS.mk (by omega) (Nat.le_refl _) ?_
        rw [List.drop_length, List.take_nil]
        rw [h2] at kk'
        exact h.stb (k := 0) (i := 0) rfl (by simp) rfl fun B sB => kk' s B sB
      · rw [h2] at hneg
        have := of_decide_eq_true hneg
        omega
    · rcases ix_at (35 :: r) 10 with ⟨h1, _, _⟩ | ⟨n, h1, h2, h3, _⟩
      · rw [h1] at hneg
        cases hneg
      · refine ⟨_, ld0 h, ?_⟩
        rw [h2]
        refine SlS.from (by omega) ?_
        rw [h3] at kk'
        exact h.stb (k := 0) (i := 0) rfl (by simp) rfl fun B sB => kk' s B sB
  · have h10' : c = 10 := of_decide_eq_true h10
    rw [if_pos h10'] at kk
    have kk' := kk rfl
    simp only [more, if_true, List.append_nil] at kk'
    refine ⟨_, ld1 h, ?_⟩
    rw [add_mk, Nat.zero_add]
    refine h.stb (k := 0) (i := 1) rfl (by simp) rfl fun A sA => ?_
    have e : w64 (line + 1) = line + ((1 : Nat) : Int) := by rw [wid (by omega) (by omega)]; rfl
    refine drop1 (ln := line + ((1 : Nat) : Int)) (by rw [← e]; exact sA) fun B sB => kk' s B sB
  · have h10' : ¬ c = 10 := of_decide_eq_false h10
    have h35' : ¬ c = 35 := of_decide_eq_false h35
    rw [if_neg h10'] at kk ke
    have blank : (c = 32 ∨ c = 9 ∨ c = 13) → ∃ x6 : ByteArray, hcell H ⟨b, 0, none⟩ = some (.string x6) ∧ SlS x6 1 (x6.size : Int) fun cut2 => (StL ⟨b, 0, none⟩ 0 [.string cut2] H fun H5 => (K (.int .i64 0) H5)) := by
      intro hb
      rw [if_pos hb] at kk
      have kk' := kk rfl
      simp only [more, if_true, List.append_nil, l0] at kk'
      exact drop1 h fun B sB => kk' s B sB
    have other : ¬ (c = 32 ∨ c = 9 ∨ c = 13) → CallF Tryd.prog 86 #[.string ⟨#[123, 125, 40, 41, 91, 93, 59, 61, 44, 45]⟩, .int .u8 (c.toNat : Int)] H (fun r2 H7 => 
        ∃ y1 : Int, r2 = .int .i64 y1 ∧ (((decide (y1 ≥ 0)) = true → CallF Tryd.prog 88 #[.pointer (some ⟨b, 0, none⟩), .int .i64 4, .int .i64 1] H7 (fun r3 H8 => 
        r3 = .tuple #[] ∧ K (.int .i64 0) H8) Z) ∧ ((decide (y1 ≥ 0)) = false → CallF Tryd.prog 89 #[.pointer (some ⟨b, 0, none⟩)] H7 (fun r4 H9 => 
        ∃ y2 : Int, r4 = .int .i64 y2 ∧ K (.int .i64 y2) H9) Z))) Z := by
      intro hb
      rw [if_neg hb, if_neg h35'] at kk ke
      refine ixb (l := marksL) ⟨_, rfl, ?_⟩
      rw [marks_ix]
      refine ⟨fun hm => ?_, fun hm => ?_⟩
      · have hm' : c ∈ marksL := of_decide_eq_true hm
        rw [if_pos hm'] at kk
        have kk' := kk rfl
        simp only [more, l0] at kk'
        rw [if_neg (by decide)] at kk'
        exact put_ok (n := 1) h (by simp) hr hk fun s' A sA => ⟨rfl, kk' s' A sA⟩
      · have hm' : ¬ c ∈ marksL := of_decide_eq_false hm
        rw [if_neg hm'] at kk ke
        refine word_ok ht h hr hk (fun hLD A sA => ⟨_, rfl, ?_⟩) (fun hLD he A sA => ⟨_, rfl, ?_⟩) (fun hLD he s' A sA => ⟨_, rfl, ?_⟩)
        · rw [if_neg (by rw [hLD]; decide)] at ke
          exact ke (by simp) A sA
        · rw [if_pos hLD] at ke
          exact ke he A sA
        · rw [if_pos hLD] at kk
          have kk' := kk he
          simp only [l0] at kk'
          refine kk' s' A ?_
          have hne : ¬ (wordT (splA (c :: r)) (wordy (splB (c :: r)))).1 = 0 := by
            intro h7
            revert he h7
            unfold wordT
            split
            · split
              · simp
              · intro _ h; cases h
            · split
              · intro _ h; cases h
              · split
                · intro _ h; cases h
                · intro h; cases h
          unfold more
          rw [if_neg hne]
          exact sA
    refine ⟨fun h32 => ⟨fun _ => blank (.inl (of_decide_eq_true h32)), fun h => by rw [h32] at h; cases h⟩, fun h32 => ⟨fun h9 => ⟨fun _ => blank (.inr (.inl (of_decide_eq_true h9))), fun h => by rw [h9] at h; cases h⟩, fun h9 => ⟨fun h13 => blank (.inr (.inr (of_decide_eq_true h13))), fun h13 => other ?_⟩⟩⟩
    rintro (h | h | h)
    · exact of_decide_eq_false h32 h
    · exact of_decide_eq_false h9 h
    · exact of_decide_eq_false h13 h
theorem all_ok {t : List UInt8} {L : List It} (ht : Tabs H0) (h : Sym H0 no H L) (hl : t.length ≤ 1000000000)
    (kk : ∀ s' H', Sym H0 no H' (arr flK 64 3 s' (tokens t).1 :: L) → K (.tuple #[.slice s'.a s'.n s'.c, .int .i64 (tokens t).2.1, .int .i64 (tokens t).2.2]) H') : CallF Tryd.prog 45 #[.string (str t)] H K Z := by
  refine V45_ok ?_
  unfold V45
  rw [str_size]
  refine ⟨fun hbig => ?_, fun hsm => ?_⟩
  · have hb : t.length > 20000 := by have := of_decide_eq_true hbig; omega
    unfold tokens at kk
    rw [if_pos hb] at kk
    exact kk ⟨none, 0, 0⟩ H (h.nilrow flK 64 3)
  · have hb : ¬ t.length > 20000 := by have := of_decide_eq_false hsm; omega
    unfold tokens at kk
    rw [if_neg hb] at kk
    intro b A hA
    have sA : Sym H0 no A (rdr b t 1 ⟨none, 0, 0⟩ [] L) := (h.nilrow flK 64 3).newb (cs := [.string (str t), .int .i64 1, .slice none 0 0]) hA
    refine ⟨fun B m => ∃ (f : Nat) (rest : List UInt8) (line : Int) (s : Sl) (toks : List Tk), Sym H0 no B (rdr b rest line s toks L) ∧ rest.length < f ∧ m = rest.length ∧ f ≤ 20001 ∧ 1 ≤ line ∧ line + rest.length ≤ 1 + t.length ∧ toks.length + rest.length ≤ t.length ∧ allT f rest line toks = allT (t.length + 1) t 1 [],
      ⟨_, t.length + 1, t, 1, ⟨none, 0, 0⟩, [], sA, by omega, rfl, by omega, by omega, by omega, by simp, rfl⟩, ?_⟩
    rintro B m ⟨f, rest, line, s, toks, sB, hf, rfl, hf2, hl1, hl2, hl3, he⟩ scr
    refine ⟨_, ld0 sB, ?_⟩
    rw [str_nil, beq_str]
    obtain ⟨f, rfl⟩ : ∃ g, f = g + 1 := ⟨f - 1, by omega⟩
    refine ⟨fun hne => ?_, fun hnil => ?_⟩
    · have hne' : rest ≠ [] := by simpa using hne
      refine next_ok ht sB hne' (by omega) (by omega) ⟨by omega, by omega⟩ (fun hE C sC => ⟨_, rfl, fun _ => ?_, fun h0 => ?_⟩) (fun hE s' C sC => ⟨_, rfl, fun h0 => ?_, fun _ => ?_⟩)
      · refine ⟨_, ld1 (b := b) sC, ?_⟩
        rw [all_err hne' hE] at he
        rw [← he] at kk
        refine kk ⟨none, 0, 0⟩ C ?_
        have s1 : Sym H0 no C L := (sC.sub (List.sublist_cons_self _ _)).sub (List.sublist_cons_self _ _)
        exact s1.nilrow flK 64 3
      · exact absurd (by simpa using h0) hE
      · simp at h0
      · have hlt := step_lt hne' hE
        rw [all_step hne' hE] at he
        have hd : ((tokS rest).2.2.2.2 : Int) ≤ 1 := by
          obtain ⟨c, r, rfl⟩ : ∃ c r, rest = c :: r := by
            cases rest with
            | nil => exact absurd rfl hne'
            | cons c r => exact ⟨c, r, rfl⟩
          rw [step_cons]
          repeat' split
          all_goals simp
        have hmore : (more (tokS rest).2.1 (tokS rest).2.2.1 line).length ≤ 1 := by
          unfold more
          split <;> simp
        refine ⟨_, hlt, f, _, _, s', _, sC, by omega, rfl, by omega, by omega, by omega, ?_, he⟩
        rw [List.length_append]
        omega
    · have hnil' : rest = [] := by simpa using hnil
      subst hnil'
      rw [all_nil] at he
      rw [← he] at kk
      refine ⟨s, ?_, kk s B (sB.sub (List.sublist_cons_self _ _))⟩
      have := sB.ld (k := 0) rfl 2
      exact this
end
end Go.Proofs.YthaejcmllibeoaaDoor.C09B

