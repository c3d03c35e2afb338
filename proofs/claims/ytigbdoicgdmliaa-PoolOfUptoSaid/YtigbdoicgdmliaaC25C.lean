/- pool: a pool, read. -/
import Derived.Test.YtigbdoicgdmliaaC25B
set_option linter.unusedVariables false
set_option linter.unusedSimpArgs false
-- shared: 65
-- next: 75
-- wrong: 73
-- read: 39
-- tStrs: 47
-- tStr: 9
-- tPool: 108
namespace Go.Proofs.Ytigbdoicgdmliaa.C25
open Go Go.V Go.Proofs Go.Proofs.Ytigbdoicgdmliaa.N25 Go.Proofs.Ytigbdoicgdmliaa.P02
attribute [local irreducible] Cvt ExtF CallF hrun App MkS
theorem tyStr : TyS Try.prog 47 9 1 16 (.string ⟨#[]⟩) := ⟨by kernel_rfl, by kernel_rfl, rfl, by decide⟩
/-- the text behind another one -/
def nextL (last : List UInt8) (n : Nat) (rest : List UInt8) (first : Bool) : List UInt8 × Int :=
  if last.length < n then ([], 2) else if 1000 < (last.take n ++ rest).length then ([], 9)
  else if first = false ∧ (ltL (last.take n ++ rest) last = true ∨ last.take n ++ rest = last) then ([], 13)
  else if shL last (last.take n ++ rest) ≠ n then ([], 3) else (last.take n ++ rest, 0)
/-- what is wrong in a reader -/
def wr (r : P02.Rd) : Int := if (rdoneM r).2 ≠ 6 then (rdoneM r).2 else 0
def rdL : Nat → List (List UInt8) → P02.Rd → List (List UInt8) × P02.Rd
  | 0, acc, r => (acc, r)
  | k + 1, acc, r =>
    if wr r ≠ 0 then (acc, r)
    else if wr (textM (numM r).2).2 ≠ 0 then (acc, (textM (numM r).2).2)
    else rdL k (acc ++ [(nextL (acc.getLastD []) (numM r).1 (textM (numM r).2).1.data.toList acc.isEmpty).1]) (failM (textM (numM r).2).2 (nextL (acc.getLastD []) (numM r).1 (textM (numM r).2).1.data.toList acc.isEmpty).2)
def readP (r : P02.Rd) : List (List UInt8) × P02.Rd := rdL (numM r).1 [] (if 6000 < (numM r).1 then failM (numM r).2 4 else (numM r).2)
section
variable {H : Hp} {K : Value → Hp → Prop} {Z : List PanicEntry → Hp → Prop}
theorem next_ok {last rest : List UInt8} {n : Nat} {first : Bool} (h1 : last.length ≤ 1000000000) (h2 : rest.length ≤ 4611686017427387904) (k : K (.tuple #[.string (str (nextL last n rest first).1), .int .i64 (nextL last n rest first).2]) H) :
    CallF Try.prog 75 #[.string (str last), .int .i64 (n : Int), .string (str rest), .bool first] H K Z := by
  refine V75_ok ?_
  unfold V75
  have go : ∀ {a b}, nextL last n rest first = (a, b) → K (.tuple #[.string (str a), .int .i64 b]) H := fun e => by rw [e] at k; exact k
  refine ⟨fun hgt => go ?_, fun hle => ?_⟩
  · have := of_decide_eq_true hgt
    rw [str_size] at this
    unfold nextL
    rw [if_pos (by omega)]
  have hle' : n ≤ last.length := by
    have := of_decide_eq_false hle
    rw [str_size] at this
    omega
  have n1 : ¬ last.length < n := by omega
  have hlen : (last.take n ++ rest).length = n + rest.length := by rw [List.length_append, List.length_take]; omega
  refine SlS.to hle' ⟨by rw [str_size, str_size, List.length_take]; omega, ?_⟩
  rw [str_app, str_size]
  refine ⟨fun hgt => go ?_, fun hle2 => ?_⟩
  · have := of_decide_eq_true hgt
    unfold nextL
    rw [if_neg n1, if_pos (by omega)]
  have n2 : ¬ 1000 < (last.take n ++ rest).length := by have := of_decide_eq_false hle2; omega
  rw [lt_strL, beq_str]
  have tail : ¬ (first = false ∧ (ltL (last.take n ++ rest) last = true ∨ last.take n ++ rest = last)) → CallF Try.prog 65 #[.string (str last), .string (str (last.take n ++ rest))] H (fun r H1 => ∃ y : Int, r = .int .i64 y ∧ (((y != (n : Int)) = true → K (.tuple #[.string ⟨#[]⟩, .int .i64 3]) H1) ∧ ((y != (n : Int)) = false → 
    K (.tuple #[.string (str (last.take n ++ rest)), .int .i64 0]) H1))) Z := by
    intro n3
    refine shared_ok h1 ⟨_, rfl, fun hne => go ?_, fun heq => go ?_⟩
    · have : shL last (last.take n ++ rest) ≠ n := fun e => by rw [e] at hne; simp at hne
      unfold nextL
      rw [if_neg n1, if_neg n2, if_neg n3, if_pos this]
    · have : shL last (last.take n ++ rest) = n := by
        have : ((shL last (last.take n ++ rest) : Nat) : Int) = (n : Int) := by simpa using heq
        omega
      unfold nextL
      rw [if_neg n1, if_neg n2, if_neg n3, if_neg (by rw [this]; simp)]
  refine ⟨fun hf => ⟨fun hbad => go ?_, fun hgood => tail ?_⟩, fun hf => tail ?_⟩
  · have n3 : first = false ∧ (ltL (last.take n ++ rest) last = true ∨ last.take n ++ rest = last) := by
      refine ⟨by simpa using hf, ?_⟩
      simpa [Bool.or_eq_true] using hbad
    unfold nextL
    rw [if_neg n1, if_neg n2, if_pos n3]
  · rintro ⟨_, h⟩
    have : (ltL (last.take n ++ rest) last || decide (last.take n ++ rest = last)) = true := by
      rw [Bool.or_eq_true, decide_eq_true_eq]
      exact h
    rw [this] at hgood
    cases hgood
  · rintro ⟨h, _⟩
    rw [h] at hf
    cases hf
/-- a reader, as a thing -/
def rdrI (b o : Nat) (T : TypeId) (cs : List Value) (r : P02.Rd) : It where
  ok H := C02R.RdS H b o T cs r
  fp i := i = b
  lt h hi := by subst hi; exact h.blk.lt
  st h hs := ⟨(hs b rfl).trans h.blk, h.str, h.at_, h.err, h.le, h.big⟩
theorem _root_.Go.V.Sym.rdr {H0 : Hp} {S : Nat → Prop} {L : List It} {k b o : Nat} {T : TypeId} {cs cs' : List Value} {r r' : P02.Rd} {H' : Hp} (h : Sym H0 S H L) (hk : L[k]? = some (rdrI b o T cs r)) (ht : C02R.RdTo H H' b o T cs cs' r') : Sym H0 S H' (L.set k (rdrI b o T cs' r')) :=
  h.setk hk ht.fr ht.st fun i hi => .inl hi
theorem wrong_ok {b o : Nat} {T : TypeId} {cs : List Value} {r : P02.Rd} (h : C02R.RdS H b o T cs r) (k : K (.int .i64 (wr r)) H) : CallF Try.prog 73 #[.pointer (some ⟨b, o, none⟩)] H K Z := by
  refine V73_ok ?_
  unfold V73
  unfold wr at k
  refine C02R.done_ok h ⟨_, _, rfl, fun hne => ?_, fun heq => ?_⟩
  · have : (rdoneM r).2 ≠ 6 := by simpa using hne
    rw [if_pos this] at k
    exact k
  · have : ¬ (rdoneM r).2 ≠ 6 := by simpa using heq
    rw [if_neg this] at k
    exact k
theorem readN_ok (k : K (.tuple #[.pointer none, .int .i64 7]) H) : CallF Try.prog 39 #[.pointer none] H K Z := by
  refine V39_ok ?_
  unfold V39
  exact ⟨fun _ => k, (fun h => by cases h)⟩
theorem take_cases (ρ : Nat → Nat) (r : P02.Rd) : (takeM ρ r).1 = (0, ⟨#[]⟩) ∨ ((lookL 0 0 (restL r)).2.2 = 0 ∧ (takeM ρ r).1.1 = (lookL 0 0 (restL r)).1 ∧ (takeM ρ r).1.2.size ≤ r.1.size - r.2.1 - (lookL 0 0 (restL r)).2.1) := by
  by_cases h : r.2.2 = 0
  · by_cases h1 : (lookL 0 0 (restL r)).2.2 = 0
    · by_cases h2 : r.1.size - r.2.1 - (lookL 0 0 (restL r)).2.1 < ρ (lookL 0 0 (restL r)).1
      · left
        rw [C02R.takeM_bad h (e := 1) (by rw [if_pos ⟨h1, h2⟩]) (by decide)]
      · right
        rw [C02R.takeM_good h h1 h2]
        refine ⟨h1, rfl, ?_⟩
        show (ByteArray.extract _ _ _).size ≤ _
        rw [ByteArray.size_extract]
        omega
    · left
      rw [C02R.takeM_bad h (e := (lookL 0 0 (restL r)).2.2) (by rw [if_neg (by rintro ⟨h', _⟩; exact h1 h')]) h1]
  · left
    rw [C02R.takeM_err h]
theorem text_len {r : P02.Rd} (hb : r.1.size ≤ 4611686017427387904) : (textM r).1.data.toList.length ≤ 4611686017427387904 := by
  have e : (textM r).1.data.toList.length = (textM r).1.size := by simp
  rw [e]
  show (takeM id r).1.2.size ≤ _
  rcases take_cases id r with h | ⟨_, _, h⟩
  · rw [h]; exact Nat.zero_le _
  · omega
theorem num_le (r : P02.Rd) : (numM r).1 ≤ 268435456 := by
  show (takeM (fun _ => 0) r).1.1 ≤ _
  rcases take_cases (fun _ => 0) r with h | ⟨h1, h2, _⟩
  · rw [h]; exact Nat.zero_le _
  · rw [h2]
    exact ((lookL_ok (restL r) 0 0 (by omega)).1 h1).1
theorem next_len (last : List UInt8) (n : Nat) (rest : List UInt8) (first : Bool) : (nextL last n rest first).1.length ≤ 1000 := by
  unfold nextL
  by_cases h1 : last.length < n
  · rw [if_pos h1]; exact Nat.zero_le _
  · rw [if_neg h1]
    by_cases h2 : 1000 < (last.take n ++ rest).length
    · rw [if_pos h2]; exact Nat.zero_le _
    · rw [if_neg h2]
      by_cases h3 : first = false ∧ (ltL (last.take n ++ rest) last = true ∨ last.take n ++ rest = last)
      · rw [if_pos h3]; exact Nat.zero_le _
      · rw [if_neg h3]
        by_cases h4 : shL last (last.take n ++ rest) ≠ n
        · rw [if_pos h4]; exact Nat.zero_le _
        · rw [if_neg h4]
          show (last.take n ++ rest).length ≤ 1000
          omega
theorem read_ok {b o : Nat} {T : TypeId} {cs : List Value} {r : P02.Rd} (h : C02R.RdS H b o T cs r) (hb : r.1.size ≤ 4611686017427387904)
    (k1 : ∀ H' cs', wr (readP r).2 ≠ 0 → Sym H (rdrI b o T cs r).fp H' [rdrI b o T cs' (readP r).2] → K (.tuple #[.pointer none, .int .i64 (wr (readP r).2)]) H')
    (k2 : ∀ H' cs' bP s, wr (readP r).2 = 0 → Sym H (rdrI b o T cs r).fp H' [plI bP s (readP r).1, rdrI b o T cs' (readP r).2] → K (.tuple #[.pointer (some ⟨bP, 0, none⟩), .int .i64 0]) H') :
    CallF Try.prog 39 #[.pointer (some ⟨b, o, none⟩)] H K Z := by
  refine V39_ok ?_
  unfold V39
  refine ⟨(fun h => by cases h), fun _ => ?_⟩
  intro bP A hA
  have s0 := (Sym.start1 (a := rdrI b o T cs r) h).newb (cs := [.slice none 0 0]) hA
  refine C02R.vnumber_ok (s0.get (k := 1) rfl : C02R.RdS _ b o T cs r) fun B cs1 hB => ⟨_, rfl, ?_⟩
  have s1 := (s0.rdr (k := 1) rfl hB).nilrow flL 9 1
  replace s1 := s1.re [1, 0, 2] (by decide)
  let r1 := if 6000 < (numM r).1 then failM (numM r).2 4 else (numM r).2
  refine ⟨fun C => ∃ cs2, Sym H (rdrI b o T cs r).fp C [blk bP [.slice none 0 0] 108, arr flL 9 1 ⟨none, 0, 0⟩ [], rdrI b o T cs2 r1], ?_, fun hbig => ?_, fun hsmall => ?_⟩
  rotate_left
  · have hbig' : 6000 < (numM r).1 := by have := of_decide_eq_true hbig; omega
    refine C02R.fail_ok (s1.get (k := 2) rfl : C02R.RdS _ b o T cs1 (numM r).2) fun C cs2 hC => ⟨rfl, cs2, ?_⟩
    have := s1.rdr (k := 2) rfl hC
    have e : r1 = failM (numM r).2 4 := if_pos hbig'
    rw [e]
    exact this
  · have hsmall' : ¬ 6000 < (numM r).1 := by have := of_decide_eq_false hsmall; omega
    refine ⟨cs1, ?_⟩
    have e : r1 = (numM r).2 := if_neg hsmall'
    rw [e]
    exact s1
  rintro C ⟨cs2, s2⟩ scr
  have hr1 : readP r = rdL (numM r).1 [] r1 := rfl
  have hsz : r1.1 = r.1 := by
    have h1 : (numM r).2.1 = r.1 := (takeM_le (ρ := fun _ => 0) h.le).1
    show (if 6000 < (numM r).1 then failM (numM r).2 4 else (numM r).2).1 = r.1
    split
    · unfold failM; split <;> exact h1
    · exact h1
  have hn6 := num_le r
  refine ⟨fun last i D m => ∃ (j : Nat) (acc : List (List UInt8)) (s : Sl) (cs3 : List Value) (r2 : P02.Rd), i = (j : Int) ∧ j ≤ (numM r).1 ∧ last = str (acc.getLastD []) ∧ (acc.getLastD []).length ≤ 1000 ∧ acc.length = j ∧ s.n = j ∧ m = (numM r).1 - j ∧
      Sym H (rdrI b o T cs r).fp D [blk bP [.slice s.a s.n s.c] 108, arr flL 9 1 s acc, rdrI b o T cs3 r2] ∧ rdL ((numM r).1 - j) acc r2 = readP r ∧ r2.1 = r.1,
    ⟨_, 0, [], ⟨none, 0, 0⟩, cs2, r1, rfl, Nat.zero_le _, rfl, Nat.zero_le _, rfl, rfl, rfl, s2, by rw [Nat.sub_zero]; exact hr1.symm, hsz⟩, ?_⟩
  rintro last i D m ⟨j, acc, s, cs3, r2, rfl, hj, rfl, hlast, hacc, hsn, rfl, s3, hrd, hr2⟩ scr1
  -- the end: what was read is told
  have fin : ∀ {E : Hp} {cs4 : List Value} {r3 : P02.Rd}, readP r = (acc, r3) → Sym H (rdrI b o T cs r).fp E [blk bP [.slice s.a s.n s.c] 108, arr flL 9 1 s acc, rdrI b o T cs4 r3] →
      CallF Try.prog 73 #[.pointer (some ⟨b, o, none⟩)] E (fun r5 H9 => ∃ y4 : Int, r5 = .int .i64 y4 ∧ (((y4 != 0) = true → K (.tuple #[.pointer none, .int .i64 y4]) H9) ∧ ((y4 != 0) = false → K (.tuple #[.pointer (some ⟨bP, 0, none⟩), .int .i64 0]) H9))) Z := by
    intro E cs4 r3 he s4
    refine wrong_ok (s4.get (k := 2) rfl : C02R.RdS _ b o T cs4 r3) ⟨_, rfl, fun hne => ?_, fun heq => ?_⟩
    · have hne' : wr r3 ≠ 0 := by simpa using hne
      have e : wr r3 = wr (readP r).2 := by rw [he]
      rw [e] at hne' ⊢
      refine k1 E cs4 hne' ?_
      have e2 : (readP r).2 = r3 := by rw [he]
      rw [e2]
      exact s4.re [2] (by decide)
    · have heq' : wr r3 = 0 := by simpa using heq
      have e2 : (readP r).2 = r3 := by rw [he]
      have e1 : (readP r).1 = acc := by rw [he]
      refine k2 E cs4 bP s (by rw [e2]; exact heq') ?_
      rw [e1, e2]
      have hrow := s4.rd (k := 1) FlL (by decide) rfl
      have hok : (plI bP s acc).ok E := ⟨s4.get (k := 0) rfl, hrow, fun i hi => ?_⟩
      · have own_ : ∀ i, rown s i → own s i := by
          rintro i ⟨ad, ha, rfl⟩
          have h1 : RowN flL 9 1 E s acc := s4.get (k := 1) rfl
          rcases h1.row.2 with h' | ⟨g, _, _, ha', _⟩
          · rw [h'.1] at ha; cases ha
          · rw [ha'] at ha; cases ha; exact ⟨0, ha'⟩
        have a1 := s4.apt (i := 0) (j := 2) rfl rfl (by decide)
        have a2 := s4.apt (i := 1) (j := 2) rfl rfl (by decide)
        refine ⟨s4.fr, ?_, ?_, ?_⟩
        · intro a ha
          simp only [List.mem_cons, List.not_mem_nil, or_false] at ha
          rcases ha with rfl | rfl
          · exact hok
          · exact s4.get (k := 2) rfl
        · rw [List.pairwise_cons]
          refine ⟨?_, by simp⟩
          intro a ha i hi hi2
          rw [List.mem_singleton.1 ha] at hi2
          rcases hi with hi | hi
          · exact a1 i hi hi2
          · exact a2 i (own_ i hi) hi2
        · intro a ha i hi
          simp only [List.mem_cons, List.not_mem_nil, or_false] at ha
          rcases ha with rfl | rfl
          · rcases hi with hi | hi
            · exact s4.fp _ (List.mem_of_getElem? (i := 0) rfl) i hi
            · exact s4.fp _ (List.mem_of_getElem? (i := 1) rfl) i (own_ i hi)
          · exact s4.fp _ (List.mem_of_getElem? (i := 2) rfl) i hi
      · have h1 : RowN flL 9 1 E s acc := s4.get (k := 1) rfl
        obtain ⟨ad, ha, rfl⟩ := hi
        rcases h1.row.2 with h' | ⟨g, _, _, ha', _⟩
        · rw [h'.1] at ha; cases ha
        · rw [ha'] at ha; cases ha; exact h1.row.lt ⟨0, ha'⟩
  have hle2 : r2.2.1 ≤ r2.1.size := (s3.get (k := 2) rfl : C02R.RdS _ b o T cs3 r2).le
  refine ⟨fun D' => D' = D ∧ wr r2 = 0 ∧ j < (numM r).1, ?_, fun hlt => ?_, fun hge => ?_⟩
  rotate_left
  · have hjl : j < (numM r).1 := by have := of_decide_eq_true hlt; omega
    refine wrong_ok (s3.get (k := 2) rfl : C02R.RdS _ b o T cs3 r2) ⟨_, rfl, fun h0 => ⟨rfl, by simpa using h0, hjl⟩, fun h0 => fin ?_ s3⟩
    have h0' : wr r2 ≠ 0 := by simpa using h0
    rw [← hrd]
    obtain ⟨q, hq⟩ : ∃ q, (numM r).1 - j = q + 1 := ⟨(numM r).1 - j - 1, by omega⟩
    rw [hq, rdL, if_pos h0']
  · have hjl : (numM r).1 - j = 0 := by have := of_decide_eq_false hge; omega
    refine fin ?_ s3
    rw [← hrd, hjl, rdL]
  rintro D' ⟨rfl, h0, hjl⟩ scr2
  obtain ⟨q, hq⟩ : ∃ q, (numM r).1 - j = q + 1 := ⟨(numM r).1 - j - 1, by omega⟩
  rw [hq, rdL, if_neg (by rw [h0]; simp)] at hrd
  refine C02R.vnumber_ok (s3.get (k := 2) rfl : C02R.RdS _ b o T cs3 r2) fun E cs4 hE => ⟨_, rfl, ?_⟩
  have s4 := s3.rdr (k := 2) rfl hE
  refine C02R.vtext_ok (s4.get (k := 2) rfl : C02R.RdS _ b o T cs4 (numM r2).2) fun F cs5 hF => ⟨_, rfl, ?_⟩
  have s5 := s4.rdr (k := 2) rfl hF
  have hnl := takeM_le (ρ := fun _ => 0) hle2
  have htl := text_len (r := (numM r2).2) (by show (takeM (fun _ => 0) r2).2.1.size ≤ _; rw [hnl.1, hr2]; exact hb)
  refine wrong_ok (s5.get (k := 2) rfl : C02R.RdS _ b o T cs5 (textM (numM r2).2).2) ⟨_, rfl, fun hne => ?_, fun heq => ?_⟩
  · have hne' : wr (textM (numM r2).2).2 ≠ 0 := by simpa using hne
    rw [if_pos hne'] at hrd
    exact fin hrd.symm s5
  · have heq' : ¬ wr (textM (numM r2).2).2 ≠ 0 := by simpa using heq
    rw [if_neg heq'] at hrd
    have efirst : ((j : Int) == 0) = acc.isEmpty := by
      cases acc with
      | nil => simp at hacc; subst hacc; rfl
      | cons a l => simp at hacc; subst hacc; simp; omega
    rw [efirst, str_of (textM (numM r2).2).1]
    refine next_ok (by omega) htl ⟨_, _, rfl, ?_⟩
    refine C02R.fail_ok (s5.get (k := 2) rfl : C02R.RdS _ b o T cs5 (textM (numM r2).2).2) fun G cs6 hG => ⟨rfl, ?_⟩
    have s6 := s5.rdr (k := 2) rfl hG
    refine ⟨s, s6.ld (k := 0) rfl 0, fun b1 I hI => ?_⟩
    refine s6.app1 (k := 1) tyStr FlL (by decide) hI rfl (by omega) fun ap I1 hap s7 => ?_
    refine s7.stb (k := 0) (i := 0) rfl (by simp) rfl fun I2 s8 => ?_
    have hlen := next_len (acc.getLastD []) (numM r2).1 (textM (numM r2).2).1.data.toList acc.isEmpty
    refine ⟨(numM r).1 - (j + 1), by omega, j + 1, _, ap, cs6, _, wi (by omega), hjl, ?_, ?_, by rw [List.length_append, hacc]; rfl, by rw [hap, hsn], rfl, s8, ?_, ?_⟩
    · rw [List.getLastD_concat]
    · rw [List.getLastD_concat]; exact hlen
    · rw [show (numM r).1 - (j + 1) = q by omega]
      exact hrd
    · have h1 := takeM_le (ρ := id) (r := (numM r2).2) (by show (takeM (fun _ => 0) r2).2.2.1 ≤ (takeM (fun _ => 0) r2).2.1.size; rw [hnl.1]; exact hnl.2)
      have h2 : (textM (numM r2).2).2.1 = r.1 := by
        show (takeM id (numM r2).2).2.1 = r.1
        rw [h1.1]
        show (takeM (fun _ => 0) r2).2.1 = r.1
        rw [hnl.1, hr2]
      unfold failM
      split <;> exact h2
end
end Go.Proofs.Ytigbdoicgdmliaa.C25

