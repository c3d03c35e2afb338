/- names, and weftref14: nodes in writing. -/
import Derived.Test.YthaejcmllibeoaaDoorC14
import Derived.Test.YthaejcmllibeoaaDoorBldI
set_option linter.unusedVariables false
set_option linter.unusedSimpArgs false
-- tNode: 41
-- tRNode: 37
-- right: 60
-- write: 61
-- text: 31
-- rText: 33
-- rTx: 17
namespace Go.Proofs.YthaejcmllibeoaaDoor.C14
open Go Go.V Go.Proofs Go.Proofs.YthaejcmllibeoaaDoor.N14 Go.Proofs.YthaejcmllibeoaaDoor.C01 Go.Proofs.YthaejcmllibeoaaDoor.P14 Go.Proofs.YthaejcmllibeoaaDoor.BldI
attribute [local irreducible] Cvt ExtF CallF hrun App MkS
/-- the table of the powers of ten -/
abbrev Pw (H : Hp) : Prop := TabH Tryd.prog H "internal/strconv.uint64pow10" .u64 Lib.pow10Tab
theorem itoa_dec {x : Int} (h : 0 ≤ x) : Lib.itoa x = dec x := by
  unfold Lib.itoa dec
  rw [if_neg (by omega)]
theorem dec_len5 {x : Int} (h : Cnt x) : (dec x).length ≤ 9 := dec_len 8 _ (by have := h.1; have := h.2; omega)
theorem copy_len {x : Int} (h : Cnt x) : (copyP x).length ≤ 10 := by
  unfold copyP
  have := dec_len5 h
  split
  · rw [List.length_cons]; omega
  · exact Nat.zero_le _
theorem tail_len {a : Nd} (h : RightP a) (hs : Sm a) : (tailP a).length ≤ 1048576 := by
  unfold tailP
  have := hs.2
  split
  · omega
  · split
    · decide
    · have : Cnt a.n := by
        obtain ⟨_, h2, _⟩ := h
        unfold Cnt at *
        grind
      have := dec_len5 this
      omega
section
variable {H : Hp} {K : Value → Hp → Prop} {Z : List PanicEntry → Hp → Prop}
set_option maxRecDepth 10000 in
theorem write_ok {a : Nd} (hr : RightP a) (hs : Sm a) (ht : Pw H) (k : ∀ H', Fr no H H' → K (.string (str (textL a))) H') : CallF Tryd.prog 61 #[ndA a] H K Z := by
  refine V61_ok ?_
  unfold V61
  intro bN A hA bB B hB
  have s0 := new_bld ((Sym.start H).newb (cs := ndV a) hA) hB
  have htl := tail_len hr hs
  have hfn := hs.1
  have hnm := hs.2
  have hcp : Cnt a.copy := by
    obtain ⟨h1, _⟩ := hr
    unfold Cnt at *
    grind
  have hcl := copy_len hcp
  have nd0 : Blk B bN (ndV a) 41 := s0.get (k := 1) rfl
  refine ⟨_, nd0.ld 1, wstr s0 (k := 0) rfl (by simp only [List.length_nil]; omega) fun C cs1 s1 => ⟨_, _, rfl, ?_⟩⟩
  have nd1 : Blk C bN (ndV a) 41 := s1.get (k := 1) rfl
  refine ⟨fun D => ∃ cs, Sym H no D [bldI bB cs (a.fn ++ copyP a.copy), blk bN (ndV a) 41], ?_, _, nd1.ld 2, fun hc => ⟨_, nd1.ld 2, ?_⟩, fun hc => ⟨cs1, ?_⟩⟩
  rotate_left
  · have hc' : a.copy > 0 := of_decide_eq_true hc
    refine text_ok (by have := hcp.1; omega) (by have := hcp.2; omega) (ht.more s1.frno) fun D fD => ⟨_, rfl, ?_, ?_⟩
    · rw [str_size, itoa_dec hcp.1]
      have := dec_len5 hcp
      show 1 + _ ≤ _
      omega
    · have e : (⟨#[126]⟩ : ByteArray) ++ str (Lib.itoa a.copy) = str (126 :: dec a.copy) := by
        rw [itoa_dec hcp.1]
        exact str_app [126] _
      rw [e]
      refine wstr (s1.more fD) (k := 0) rfl (by have := dec_len5 hcp; simp only [List.length_append, List.length_cons, List.length_nil]; omega) fun E cs2 s2 => ⟨_, _, rfl, cs2, ?_⟩
      unfold copyP
      rw [if_pos hc']
      exact s2
  · have hc' : ¬ a.copy > 0 := of_decide_eq_false hc
    unfold copyP
    rw [if_neg hc', List.append_nil]
    exact s1
  rintro D ⟨cs2, s2⟩ scr
  have nd2 : Blk D bN (ndV a) 41 := s2.get (k := 1) rfl
  refine ⟨fun E => ∃ cs, Sym H no E [bldI bB cs (if a.kind = 5 then [] else a.fn ++ (copyP a.copy ++ [markB a.kind])), blk bN (ndV a) 41], ?_, _, nd2.ld 0, fun h5 => ⟨_, nd2.ld 0, ?_⟩, fun h5 => ⟨cs2, ?_⟩⟩
  rotate_left
  · have h5' : a.kind ≠ 5 := by simpa using h5
    have hk := (right_kind hr).resolve_left h5'
    obtain ⟨kn, ek⟩ : ∃ kn : Nat, a.kind = (kn : Int) := ⟨a.kind.toNat, by omega⟩
    have hx : ([32, 46, 36, 64, 40, 32, 37, 35] : List UInt8)[kn]? = some (markB a.kind) := by
      have : kn = 1 ∨ kn = 2 ∨ kn = 3 ∨ kn = 4 ∨ kn = 6 ∨ kn = 7 := by omega
      rcases this with rfl | rfl | rfl | rfl | rfl | rfl <;> rw [ek] <;> rfl
    rw [ek]
    refine IxS.mk (l := [32, 46, 36, 64, 40, 32, 37, 35]) hx ?_
    refine wbyte s2 (k := 0) rfl (by simp only [List.length_append]; omega) fun E cs3 s3 => ⟨_, rfl, cs3, ?_⟩
    rw [← ek, if_neg h5', ← List.append_assoc]
    exact s3
  · have h5' : a.kind = 5 := by simpa using h5
    rw [if_pos h5']
    have e : a.fn ++ copyP a.copy = [] := by
      rcases hr.1 with ⟨_, h, h'⟩ | ⟨h, _⟩
      · rw [h, h']; rfl
      · exact absurd h5' h
    rw [e] at s2
    exact s2
  rintro E ⟨cs3, s3⟩ scr1
  have nd3 : Blk E bN (ndV a) 41 := s3.get (k := 1) rfl
  have hbl : (if a.kind = 5 then [] else a.fn ++ (copyP a.copy ++ [markB a.kind])).length ≤ 1048576 + 11 := by
    split
    · exact Nat.zero_le _
    · simp only [List.length_append, List.length_cons, List.length_nil]; omega
  have ebody : (if a.kind = 5 then [] else a.fn ++ (copyP a.copy ++ [markB a.kind])) ++ (if a.kind = 5 then a.name else tailP a) = bodyP a := by
    unfold bodyP
    by_cases h : a.kind = 5
    · rw [if_pos h, if_pos h, if_pos h]; rfl
    · rw [if_neg h, if_neg h, if_neg h]
      simp
  refine ⟨fun F => ∃ cs, Sym H no F [bldI bB cs (bodyP a), blk bN (ndV a) 41], ?_, _, nd3.ld 0, fun t F => F = E ∧ (t = true ↔ a.kind = 1 ∨ a.kind = 5 ∨ a.kind = 6), ?_, fun h => ⟨rfl, ?_⟩, fun h => ⟨fun h' => ⟨rfl, ?_⟩, fun h' => ⟨rfl, ?_⟩⟩⟩
  · rintro F ⟨cs4, s4⟩ scr2
    have nd4 : Blk F bN (ndV a) 41 := s4.get (k := 1) rfl
    have hlb : (bodyP a).length ≤ 2097152 + 20 := by
      rw [← ebody, List.length_append]
      have : (if a.kind = 5 then a.name else tailP a).length ≤ 1048576 := by
        split
        · exact hnm
        · exact htl
      omega
    refine ⟨_, nd4.ld 5, fun hne => ⟨_, nd4.ld 5, ?_⟩, fun heq => ?_⟩
    · have hne' : a.cell ≠ -1 := by simpa using hne
      have hcc : Cnt a.cell := by
        rcases hr.2.2 with h | ⟨_, h⟩
        · exact absurd h hne'
        · exact h
      have hdl := dec_len5 hcc
      refine text_ok (by have := hcc.1; omega) (by have := hcc.2; omega) (ht.more s4.frno) fun G fG => ⟨_, rfl, ?_, ?_⟩
      · rw [str_size, itoa_dec hcc.1]
        show 1 + _ ≤ _
        omega
      · have e : (⟨#[43]⟩ : ByteArray) ++ str (Lib.itoa a.cell) = str (43 :: dec a.cell) := by
          rw [itoa_dec hcc.1]
          exact str_app [43] _
        rw [e]
        refine wstr (s4.more fG) (k := 0) rfl (by simp only [List.length_cons]; omega) fun I cs5 s5 => ⟨_, _, rfl, ?_⟩
        refine bstr s5 (k := 0) rfl (by simp only [List.length_append, List.length_cons]; omega) fun J s6 => ⟨_, rfl, ?_⟩
        have := k J s6.frno
        unfold textL cellP at this
        rw [if_neg hne'] at this
        exact this
    · have heq' : a.cell = -1 := by simpa using heq
      refine bstr s4 (k := 0) rfl (by omega) fun J s6 => ⟨_, rfl, ?_⟩
      have := k J s6.frno
      unfold textL cellP at this
      rw [if_pos heq', List.append_nil] at this
      exact this
  · rintro t E ⟨rfl, htk⟩ scr2
    refine ⟨fun h => ⟨_, nd3.ld 3, ?_⟩, fun h => ⟨fun h4 => ?_, fun h4 => ⟨_, nd3.ld 4, ?_⟩⟩⟩
    · have hk := htk.1 h
      refine wstr s3 (k := 0) rfl (by omega) fun F cs4 s4 => ⟨_, _, rfl, cs4, ?_⟩
      have e : a.name = if a.kind = 5 then a.name else tailP a := by
        unfold tailP
        grind
      rw [← ebody]
      rw [e] at s4
      exact s4
    · have h4' : a.kind = 4 := by simpa using h4
      refine wbyte (c := 41) s3 (k := 0) rfl (by omega) fun F cs4 s4 => ⟨_, rfl, cs4, ?_⟩
      have e : [41] = if a.kind = 5 then a.name else tailP a := by
        unfold tailP
        grind
      rw [← ebody, ← e]
      exact s4
    · have h4' : a.kind ≠ 4 := by simpa using h4
      have hk : ¬ (a.kind = 1 ∨ a.kind = 5 ∨ a.kind = 6) := fun hk => by rw [htk.2 hk] at h; cases h
      have hcn : Cnt a.n := by
        obtain ⟨_, h2, _⟩ := hr
        unfold Cnt at *
        grind
      have hdl := dec_len5 hcn
      refine text_ok (by have := hcn.1; omega) (by have := hcn.2; omega) (ht.more s3.frno) fun F fF => ⟨_, rfl, ?_⟩
      rw [itoa_dec hcn.1]
      refine wstr (s3.more fF) (k := 0) rfl (by omega) fun G cs4 s4 => ⟨_, _, rfl, cs4, ?_⟩
      have e : dec a.n = if a.kind = 5 then a.name else tailP a := by
        unfold tailP
        grind
      rw [← ebody, ← e]
      exact s4
  · simp only [beq_iff_eq] at h ⊢
    grind
  · simp only [beq_iff_eq, beq_eq_false_iff_ne] at h h' ⊢
    grind
  · simp only [beq_iff_eq, beq_eq_false_iff_ne] at h h' ⊢
    grind
theorem ntext_ok {a : Nd} (hs : Sm a) (ht : Pw H) (k : ∀ H', Fr no H H' → K (if RightP a then .tuple #[.string (str (textL a)), .int .i64 0] else .tuple #[.string ⟨#[]⟩, .int .i64 11]) H') : CallF Tryd.prog 31 #[ndA a] H K Z := by
  refine V31_ok ?_
  unfold V31
  intro bN A hA
  have s0 := (Sym.start H).newb (cs := ndV a) hA
  refine ld6 (s0.get (k := 0) rfl) (right_ok hs fun B fB => ⟨_, rfl, fun h => ?_, fun h => ?_⟩)
  · have h' : ¬ RightP a := by simpa using h
    have := k B (hA.fr.trans fB)
    rw [if_neg h'] at this
    exact this
  · have h' : RightP a := by simpa using h
    have s1 := s0.more fB
    refine ld6 (s1.get (k := 0) rfl) (write_ok h' hs (ht.more s1.frno) fun C fC => ⟨_, rfl, ?_⟩)
    have := k C (s1.more fC).frno
    rw [if_pos h'] at this
    exact this
theorem rdtext {x : Int} (h : Cnt x) (k : ∀ H', Fr no H H' → K (.string (str (dec x))) H') : CallF Tryd.prog 17 #[.int .i64 x] H K Z :=
  rtext_ok (by have := h.1; omega) (by have := h.2; omega) fun H' f => by
    rw [itoa_dec h.1]
    exact k H' f
set_option maxRecDepth 10000 in
theorem rntext_ok {a : Nd} (hs : Sm a) (k : ∀ H', Fr no H H' → K (if RightP a then .tuple #[.string (str (textL a)), .int .i64 0] else .tuple #[.string ⟨#[]⟩, .int .i64 11]) H') : CallF Tryd.prog 33 #[ndA a] H K Z := by
  refine V33_ok ?_
  unfold V33
  intro bN A hA
  have s0 := (Sym.start H).newb (cs := ndV a) hA
  refine ld6 (s0.get (k := 0) rfl) (rright_ok hs fun B fB => ⟨_, rfl, fun h => ?_, fun h => ?_⟩)
  · have h' : ¬ RightP a := by simpa using h
    have := k B (hA.fr.trans fB)
    rw [if_neg h'] at this
    exact this
  have hr : RightP a := by simpa using h
  simp only [if_pos hr] at k
  have s1 := s0.more fB
  have nd1 : Blk B bN (ndV a) 37 := s1.get (k := 0) rfl
  have htl := tail_len hr hs
  have hfn := hs.1
  have hnm := hs.2
  have hcp : Cnt a.copy := by
    obtain ⟨h1, _⟩ := hr
    unfold Cnt at *
    grind
  have hcl := copy_len hcp
  have one : ∀ c : UInt8, (⟨#[c]⟩ : ByteArray) = str [c] := fun c => rfl
  refine ⟨_, nd1.ld 1, fun s C => s = str (a.fn ++ copyP a.copy) ∧ Fr no B C, ?_, _, nd1.ld 2, fun hc => ⟨?_, _, nd1.ld 2, rdtext hcp fun C fC => ⟨_, rfl, ?_, ?_, fC⟩⟩, fun hc => ⟨?_, Fr.refl _ _⟩⟩
  rotate_left
  · rw [one, str_size, str_size]; simp only [List.length_cons, List.length_nil]; omega
  · rw [one, str_app, str_size, str_size, List.length_append]; have := dec_len5 hcp; simp only [List.length_cons, List.length_nil]; omega
  · rw [one, str_app, str_app]
    unfold copyP
    rw [if_pos (of_decide_eq_true hc)]
    simp
  · unfold copyP
    rw [if_neg (of_decide_eq_false hc), List.append_nil]
  rintro s C ⟨rfl, fC⟩ scr
  have s2 := s1.more fC
  have nd2 : Blk C bN (ndV a) 37 := s2.get (k := 0) rfl
  have hk := right_kind hr
  have hlp : (a.fn ++ copyP a.copy).length ≤ 1048576 + 10 := by rw [List.length_append]; omega
  have hcn : a.kind = 2 ∨ a.kind = 3 ∨ a.kind = 7 → Cnt a.n := by
    obtain ⟨_, h2, _⟩ := hr
    unfold Cnt at *
    grind
  have ebody : ∀ {m : UInt8} {t : List UInt8}, a.kind ≠ 5 → m = markB a.kind → t = tailP a → (str (a.fn ++ copyP a.copy) ++ str [m]) ++ str t = str (bodyP a) := by
    intro m t h5 hm ht
    rw [hm, ht, str_app, str_app]
    unfold bodyP
    rw [if_neg h5]
    simp
  have z1 : ∀ m : UInt8, (str (a.fn ++ copyP a.copy)).size + (⟨#[m]⟩ : ByteArray).size ≤ 4611686018427387904 := by
    intro m
    rw [one, str_size, str_size]
    simp only [List.length_cons, List.length_nil]
    omega
  have z2 : ∀ (m : UInt8) (t : List UInt8), t.length ≤ 1048576 → (str (a.fn ++ copyP a.copy) ++ (⟨#[m]⟩ : ByteArray)).size + (str t).size ≤ 4611686018427387904 := by
    intro m t ht
    rw [one, str_app, str_size, str_size, List.length_append]
    simp only [List.length_cons, List.length_nil]
    omega
  refine ⟨fun s D => s = str (bodyP a) ∧ Fr no C D, ?_, _, nd2.ld 0, fun h1 => ⟨z1 _, _, nd2.ld 3, z2 _ _ hnm, ?_, Fr.refl _ _⟩, fun n1 => ⟨fun h2 => ⟨z1 _, _, nd2.ld 4, ?_⟩, fun n2 => ⟨fun h3 => ⟨z1 _, _, nd2.ld 4, ?_⟩, fun n3 => ⟨fun h4 => ⟨?_, ?_, Fr.refl _ _⟩, fun n4 => ⟨fun h5 => ⟨_, nd2.ld 3, ?_, Fr.refl _ _⟩, fun n5 => ⟨fun h6 => ⟨z1 _, _, nd2.ld 3, z2 _ _ hnm, ?_, Fr.refl _ _⟩, fun n6 => ⟨fun h7 => ⟨z1 _, _, nd2.ld 4, ?_⟩, fun n7 => ?_⟩⟩⟩⟩⟩⟩⟩
  · rintro s D ⟨rfl, fD⟩ scr1
    have s3 := s2.more fD
    have nd3 : Blk D bN (ndV a) 37 := s3.get (k := 0) rfl
    have hlb : (bodyP a).length ≤ 2097152 + 20 := by
      unfold bodyP
      split
      · omega
      · simp only [List.length_append, List.length_cons]; rw [List.length_append] at hlp; omega
    refine ⟨_, nd3.ld 5, fun hc => ⟨?_, _, nd3.ld 5, ?_⟩, fun hc => ?_⟩
    · rw [one, str_size, str_size]; simp only [List.length_cons, List.length_nil]; omega
    · have hne : a.cell ≠ -1 := by have := of_decide_eq_true hc; omega
      have hcc : Cnt a.cell := by
        rcases hr.2.2 with h | ⟨_, h⟩
        · exact absurd h hne
        · exact h
      refine rdtext hcc fun E fE => ⟨_, rfl, ?_, ?_⟩
      · have := dec_len5 hcc
        rw [one, str_app, str_size, str_size, List.length_append]; simp only [List.length_cons, List.length_nil]; omega
      · have := k E (s3.more fE).frno
        unfold textL cellP at this
        rw [if_neg hne] at this
        rw [one, str_app, str_app]
        simpa using this
    · have heq : a.cell = -1 := by
        have := of_decide_eq_false hc
        have h3 := hr.2.2
        unfold Cnt at h3
        omega
      have := k D s3.frno
      unfold textL cellP at this
      rw [if_pos heq, List.append_nil] at this
      exact this
  · have e : a.kind = 1 := by simpa using h1
    exact ebody (by omega) (by rw [e]; rfl) (by unfold tailP; rw [if_pos (.inl e)])
  · have e : a.kind = 2 := by simpa using h2
    have hc := hcn (.inl e)
    exact rdtext hc fun D fD => ⟨_, rfl, z2 _ _ (by have := dec_len5 hc; omega), ebody (by omega) (by rw [e]; rfl) (by unfold tailP; rw [if_neg (by omega), if_neg (by omega)]), fD⟩
  · have e : a.kind = 3 := by simpa using h3
    have hc := hcn (.inr (.inl e))
    exact rdtext hc fun D fD => ⟨_, rfl, z2 _ _ (by have := dec_len5 hc; omega), ebody (by omega) (by rw [e]; rfl) (by unfold tailP; rw [if_neg (by omega), if_neg (by omega)]), fD⟩
  · rw [show (⟨#[40, 41]⟩ : ByteArray) = str [40, 41] from rfl, str_size, str_size]
    simp only [List.length_cons, List.length_nil]
    omega
  · have e : a.kind = 4 := by simpa using h4
    rw [show (⟨#[40, 41]⟩ : ByteArray) = str [40, 41] from rfl, str_app]
    unfold bodyP tailP
    rw [if_neg (by omega), if_neg (by omega), if_pos e, e]
    simp [markB]
  · have e : a.kind = 5 := by simpa using h5
    unfold bodyP
    rw [if_pos e]
  · have e : a.kind = 6 := by simpa using h6
    exact ebody (by omega) (by rw [e]; rfl) (by unfold tailP; rw [if_pos (.inr e)])
  · have e : a.kind = 7 := by simpa using h7
    have hc := hcn (.inr (.inr e))
    exact rdtext hc fun D fD => ⟨_, rfl, z2 _ _ (by have := dec_len5 hc; omega), ebody (by omega) (by rw [e]; rfl) (by unfold tailP; rw [if_neg (by omega), if_neg (by omega)]), fD⟩
  · exfalso
    simp at n1 n2 n3 n4 n5 n6 n7
    omega
end
end Go.Proofs.YthaejcmllibeoaaDoor.C14

