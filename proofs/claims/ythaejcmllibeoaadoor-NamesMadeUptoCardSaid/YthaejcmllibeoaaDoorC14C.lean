/- names: a text as a node. -/
import Derived.Test.YthaejcmllibeoaaDoorC14B
set_option linter.unusedVariables false
set_option linter.unusedSimpArgs false
-- tNode: 41
-- number: 87
-- read: 63
-- readX: 35
-- base: 43
-- of: 36
-- cell: 38
-- object: 41
-- ixb: 86
namespace Go.Proofs.YthaejcmllibeoaaDoor.C14
open Go Go.V Go.Proofs Go.Proofs.YthaejcmllibeoaaDoor.N14 Go.Proofs.YthaejcmllibeoaaDoor.C01 Go.Proofs.YthaejcmllibeoaaDoor.P14 Go.Proofs.YthaejcmllibeoaaDoor.BldI
attribute [local irreducible] Cvt ExtF CallF hrun App MkS
theorem idx_eq (l : List UInt8) (c : UInt8) : Lib.indexByte l c = if c ∈ l then ((l.takeWhile (· != c)).length : Int) else -1 := by
  induction l with
  | nil => rfl
  | cons b l ih =>
    unfold Lib.indexByte
    by_cases hb : b = c
    · subst hb
      simp
    · have hbc : (b == c) = false := by simpa using hb
      rw [hbc, ih]
      have hm : (c ∈ b :: l) ↔ c ∈ l := by simp [Ne.symm hb]
      by_cases hc : c ∈ l
      · rw [if_pos hc, if_pos (hm.2 hc)]
        have e : (b != c) = true := by simpa using hb
        rw [List.takeWhile_cons, e]
        simp only [if_true, List.length_cons, Bool.false_eq_true, if_false]
        rw [if_neg (by simp)]
        omega
      · rw [if_neg hc, if_neg (fun h => hc (hm.1 h))]
        simp
theorem ix_kind (m : UInt8) : Lib.indexByte [32, 46, 36, 64, 40, 32, 37, 35] m = kindB m := by
  unfold kindB
  by_cases h1 : m = 46
  · subst h1; decide
  by_cases h2 : m = 36
  · subst h2; decide
  by_cases h3 : m = 64
  · subst h3; decide
  by_cases h4 : m = 40
  · subst h4; decide
  by_cases h5 : m = 37
  · subst h5; decide
  by_cases h6 : m = 35
  · subst h6; decide
  by_cases h7 : m = 32
  · subst h7; decide
  rw [if_neg h1, if_neg h2, if_neg h3, if_neg h4, if_neg h5, if_neg h6, if_neg h7, idx_eq, if_neg]
  simp only [List.mem_cons, List.not_mem_nil, or_false]
  grind
theorem until_take (l : List UInt8) (c : UInt8) : l.takeWhile (· != c) = l.take (l.takeWhile (· != c)).length ∧ l.dropWhile (· != c) = l.drop (l.takeWhile (· != c)).length := by
  have h : l.takeWhile (· != c) ++ l.dropWhile (· != c) = l := List.takeWhile_append_dropWhile
  constructor
  · have := List.take_left (l₁ := l.takeWhile (· != c)) (l₂ := l.dropWhile (· != c))
    rw [h] at this
    exact this.symm
  · have := List.drop_left (l₁ := l.takeWhile (· != c)) (l₂ := l.dropWhile (· != c))
    rw [h] at this
    exact this.symm
/-- a node handed back: out of its block into the result's, and from there -/
def RetV (b bN : Nat) (w : Value) (A : Hp) (K : Value → Hp → Prop) : Prop :=
  ∃ x_a : Int, ∃ x_b : ByteArray, ∃ x_c : Int, ∃ x_d : ByteArray, ∃ x_e : Int, ∃ x_f : Int, (hcell A ⟨bN, 0, none⟩ = some (.int .i64 x_a) ∧ hcell A ⟨bN, 1, none⟩ = some (.string x_b) ∧ hcell A ⟨bN, 2, none⟩ = some (.int .i64 x_c) ∧ hcell A ⟨bN, 3, none⟩ = some (.string x_d) ∧
    hcell A ⟨bN, 4, none⟩ = some (.int .i64 x_e) ∧ hcell A ⟨bN, 5, none⟩ = some (.int .i64 x_f) ∧ True) ∧ StL ⟨b, 0, none⟩ 0 [.int .i64 x_a, .string x_b, .int .i64 x_c, .string x_d, .int .i64 x_e, .int .i64 x_f] A fun H' =>
    (∃ y_a : Int, ∃ y_b : ByteArray, ∃ y_c : Int, ∃ y_d : ByteArray, ∃ y_e : Int, ∃ y_f : Int, (hcell H' ⟨b, 0, none⟩ = some (.int .i64 y_a) ∧ hcell H' ⟨b, 1, none⟩ = some (.string y_b) ∧ hcell H' ⟨b, 2, none⟩ = some (.int .i64 y_c) ∧ hcell H' ⟨b, 3, none⟩ = some (.string y_d) ∧
      hcell H' ⟨b, 4, none⟩ = some (.int .i64 y_e) ∧ hcell H' ⟨b, 5, none⟩ = some (.int .i64 y_f) ∧ True) ∧ K (.tuple #[.agg #[.int .i64 y_a, .string y_b, .int .i64 y_c, .string y_d, .int .i64 y_e, .int .i64 y_f], w]) H')
def StR (b : Nat) (a : Nd) (w : Value) (A : Hp) (K : Value → Hp → Prop) : Prop :=
  StL ⟨b, 0, none⟩ 0 (ndV a) A fun H' =>
    (∃ y_a : Int, ∃ y_b : ByteArray, ∃ y_c : Int, ∃ y_d : ByteArray, ∃ y_e : Int, ∃ y_f : Int, (hcell H' ⟨b, 0, none⟩ = some (.int .i64 y_a) ∧ hcell H' ⟨b, 1, none⟩ = some (.string y_b) ∧ hcell H' ⟨b, 2, none⟩ = some (.int .i64 y_c) ∧ hcell H' ⟨b, 3, none⟩ = some (.string y_d) ∧
      hcell H' ⟨b, 4, none⟩ = some (.int .i64 y_e) ∧ hcell H' ⟨b, 5, none⟩ = some (.int .i64 y_f) ∧ True) ∧ K (.tuple #[.agg #[.int .i64 y_a, .string y_b, .int .i64 y_c, .string y_d, .int .i64 y_e, .int .i64 y_f], w]) H')
theorem ndV_one (a : Nd) : ∀ v ∈ ndV a, v.oneCell = true := by
  intro v hv
  simp only [ndV, List.mem_cons, List.not_mem_nil, or_false] at hv
  rcases hv with rfl | rfl | rfl | rfl | rfl | rfl <;> rfl
def zN : Nd := ⟨0, [], 0, [], 0, 0⟩
section
variable {H : Hp} {K : Value → Hp → Prop} {Z : List PanicEntry → Hp → Prop}
theorem st_ret {H0 A : Hp} {S : Nat → Prop} {L : List It} {k b : Nat} {a z : Nd} {w : Value} {T : TypeId} (s : Sym H0 S A L) (hk : L[k]? = some (blk b (ndV z) T)) (kk : ∀ H', Sym H0 S H' (L.set k (blk b (ndV a) T)) → K (.tuple #[ndA a, w]) H') : StR b a w A K := by
  have hkl : k < L.length := (List.getElem?_eq_some_iff.1 hk).1
  refine s.stbs (k := k) (i := 0) hk (by simp [ndV]) (ndV_one a) fun B s1 => ?_
  exact ld6 (s1.get (k := k) (List.getElem?_set_self hkl) : Blk B b (ndV a) T) (kk B s1)
theorem ret_ok {H0 A : Hp} {S : Nat → Prop} {L : List It} {k j b bN : Nat} {a z : Nd} {w : Value} {T T' : TypeId} (s : Sym H0 S A L) (hj : L[j]? = some (blk bN (ndV a) T')) (hk : L[k]? = some (blk b (ndV z) T)) (kk : ∀ H', Sym H0 S H' (L.set k (blk b (ndV a) T)) → K (.tuple #[ndA a, w]) H') : RetV b bN w A K :=
  ld6 (s.get hj) (st_ret s hk kk)
theorem ixb_ok {l : List UInt8} {c : UInt8} (k : K (.int .i64 (Lib.indexByte l c)) H) : CallF Tryd.prog 86 #[.string (str l), .int .u8 (c.toNat : Int)] H K Z := by
  refine callF_same (v := .int .i64 (Lib.indexByte l c)) ?_ k
  intro w hw
  have := Any.strings_IndexByte S01.lays_indexByte (str l) (c.toNat : Int) w
  rw [str_data] at this
  have e : ((c.toNat : Int)).toNat.toUInt8 = c := by simp
  rw [e] at this
  exact this
theorem num_ok {l : List UInt8} (hl : l.length ≤ 1000000000) (k : ∀ H', Fr no H H' → K (.tuple #[.int .i64 (readL l).1, .bool ((readL l).2 == 0)]) H') : CallF Tryd.prog 87 #[.string (str l)] H K Z := by
  refine V87_ok ?_
  unfold V87
  exact read_ok hl fun H' f => ⟨_, _, rfl, k H' f⟩
set_option maxRecDepth 10000 in
theorem nread_ok {l : List UInt8} (hl : l.length ≤ 1000000000) (k1 : ∀ a H', parseO l = some a → Fr no H H' → K (.tuple #[ndA a, .bool true]) H') (k2 : ∀ a H', parseO l = none → Fr no H H' → K (.tuple #[ndA a, .bool false]) H') :
    CallF Tryd.prog 63 #[.string (str l)] H K Z := by
  refine V63_ok ?_
  unfold V63
  intro b A hA bN B hB
  have s0 := ((Sym.start H).newb (cs := ndV zN) hA).newb (cs := ndV zN) hB
  refine s0.stbs (k := 0) (i := 0) (vs := ndV ⟨0, [], 0, [], 0, -1⟩) rfl (by simp [ndV]) (ndV_one _) fun C s1 => ?_
  replace s1 : Sym H no C [blk bN (ndV ⟨0, [], 0, [], 0, -1⟩) 41, blk b (ndV zN) 41] := s1
  have good : ∀ {D : Hp} {a : Nd}, Sym H no D [blk bN (ndV a) 41, blk b (ndV zN) 41] → parseO l = some a → RetV b bN (.bool true) D K := fun s hp => ret_ok s (j := 0) (k := 1) rfl rfl fun H' s' => k1 _ H' hp s'.frno
  have bad : ∀ {D : Hp} {a : Nd}, Sym H no D [blk bN (ndV a) 41, blk b (ndV zN) 41] → parseO l = none → RetV b bN (.bool false) D K := fun s hp => ret_ok s (j := 0) (k := 1) rfl rfl fun H' s' => k2 _ H' hp s'.frno
  refine ⟨fun s ok D => ∃ (l1 : List UInt8) (c : Int), s = str l1 ∧ ok = true ∧ l1.length ≤ l.length ∧ Sym H no D [blk bN (ndV ⟨0, [], 0, [], 0, c⟩) 41, blk b (ndV zN) 41] ∧ parse2 c l1 = parseO l, ?_, ixb_ok (l := l) (c := 43) ⟨_, rfl, fun hge => ?_, fun hlt => ?_⟩⟩
  rotate_left
  · -- a cell is named
    rw [idx_eq] at hge ⊢
    have hm : (43 : UInt8) ∈ l := by
      apply Classical.byContradiction
      intro hn
      rw [if_neg hn] at hge
      cases hge
    rw [if_pos hm]
    obtain ⟨e1, e2⟩ := until_take l 43
    have hpl : (l.takeWhile (· != 43)).length < l.length := by
      have h : l.takeWhile (· != 43) ++ l.dropWhile (· != 43) = l := List.takeWhile_append_dropWhile
      have h2 : l.dropWhile (· != 43) ≠ [] := by
        intro he
        rw [dropWhile_nil] at he
        have := he 43 hm
        simp at this
      have := congrArg List.length h
      rw [List.length_append] at this
      have := List.length_pos_iff.2 h2
      omega
    rw [wi (by omega)]
    refine SlS.from (by omega) ?_
    have etail : l.drop ((l.takeWhile (· != 43)).length + 1) = (l.dropWhile (· != 43)).tail := by
      conv => rhs; rw [e2]
      rw [List.tail_drop]
    rw [etail]
    have htl : (l.dropWhile (· != 43)).tail.length ≤ l.length := by rw [← etail, List.length_drop]; omega
    have hpo : parseO l = if (readL ((l.dropWhile (· != 43)).tail)).2 = 0 then parse2 (readL ((l.dropWhile (· != 43)).tail)).1 (l.takeWhile (· != 43)) else none := by
      unfold parseO
      rw [if_pos hm]
    refine num_ok (by omega) fun D fD => ⟨_, _, rfl, ?_⟩
    refine (s1.more fD).stb (k := 0) (i := 5) rfl (by simp [ndV]) rfl fun E s2 => ?_
    replace s2 : Sym H no E [blk bN (ndV ⟨0, [], 0, [], 0, (readL ((l.dropWhile (· != 43)).tail)).1⟩) 41, blk b (ndV zN) 41] := s2
    refine ⟨fun hno => bad s2 ?_, fun hyes => SlS.to (by omega) ⟨_, _, rfl, by simpa using hyes, ?_, s2, ?_⟩⟩
    · have : ¬ (readL ((l.dropWhile (· != 43)).tail)).2 = 0 := by simpa using hno
      rw [hpo, if_neg this]
    · rw [List.length_take]; omega
    · have : (readL ((l.dropWhile (· != 43)).tail)).2 = 0 := by simpa using hyes
      rw [hpo, if_pos this, ← e1]
  · rw [idx_eq] at hlt
    have hm : (43 : UInt8) ∉ l := by
      intro hm
      rw [if_pos hm] at hlt
      have := of_decide_eq_false hlt
      omega
    refine ⟨l, -1, rfl, rfl, Nat.le_refl _, s1, ?_⟩
    unfold parseO
    rw [if_neg hm]
  rintro s ok D ⟨l1, c, rfl, rfl, hl1, s2, hp⟩ scr
  have happ := spl_app l1
  have hlen := congrArg List.length happ
  rw [List.length_append] at hlen
  refine split_ok (by omega) fun E fE => ⟨_, _, rfl, ?_⟩
  have s3 := s2.more fE
  rw [str_nil, beq_str]
  refine ⟨fun he => ?_, fun hne => ?_⟩
  · have he' : splB l1 = [] := of_decide_eq_true he
    refine s3.stb (k := 0) (i := 0) rfl (by simp [ndV]) rfl fun F s4 => ?_
    refine s4.stb (k := 0) (i := 3) rfl (by simp [ndV]) rfl fun G s5 => ?_
    replace s5 : Sym H no G [blk bN (ndV ⟨5, [], 0, splA l1, 0, c⟩) 41, blk b (ndV zN) 41] := s5
    refine good s5 ?_
    rw [← hp]
    unfold parse2
    rw [he']
  have hne' : splB l1 ≠ [] := of_decide_eq_false hne
  refine s3.stb (k := 0) (i := 1) rfl (by simp [ndV]) rfl fun F s4 => ?_
  replace s4 : Sym H no F [blk bN (ndV ⟨0, splA l1, 0, [], 0, c⟩) 41, blk b (ndV zN) 41] := s4
  obtain ⟨m0, r0, hmr⟩ : ∃ m r, splB l1 = m :: r := by
    cases hc : splB l1 with
    | nil => exact absurd hc hne'
    | cons m r => exact ⟨m, r, rfl⟩
  refine ⟨fun ok rest G => ∃ (lr : List UInt8) (copy : Int), ok = true ∧ rest = str lr ∧ lr ≠ [] ∧ lr.length ≤ l.length ∧ Sym H no G [blk bN (ndV ⟨0, splA l1, copy, [], 0, c⟩) 41, blk b (ndV zN) 41] ∧ parse3 c (splA l1) copy lr = parseO l, ?_, ?_⟩
  · rintro ok rest G ⟨lr, copy, rfl, rfl, hlr, hll, s5, hp3⟩ scr1
    obtain ⟨m, t, rfl⟩ : ∃ m t, lr = m :: t := by
      cases lr with
      | nil => exact absurd rfl hlr
      | cons m t => exact ⟨m, t, rfl⟩
    refine IxS.mk (i := 0) rfl (ixb_ok (l := [32, 46, 36, 64, 40, 32, 37, 35]) ⟨_, rfl, ?_⟩)
    rw [ix_kind]
    refine s5.stb (k := 0) (i := 0) rfl (by simp [ndV]) rfl fun I s6 => ?_
    replace s6 : Sym H no I [blk bN (ndV ⟨kindB m, splA l1, copy, [], 0, c⟩) 41, blk b (ndV zN) 41] := s6
    have nd6 : Blk I bN (ndV ⟨kindB m, splA l1, copy, [], 0, c⟩) 41 := s6.get (k := 0) rfl
    rw [parse3] at hp3
    have htl : t.length ≤ 1000000000 := by simp only [List.length_cons] at hll; omega
    refine ⟨fun ok G => ∃ a, Sym H no G [blk bN (ndV a) 41, blk b (ndV zN) 41] ∧ (ok = true → parseO l = some a) ∧ (ok = false → parseO l = none), ?_, SlS.from (lo := 1) (by simp) ⟨_, nd6.ld 0, fun t1 G => G = I ∧ (t1 = true ↔ kindB m = 1 ∨ kindB m = 6), ?_, fun h => ⟨rfl, ?_⟩, fun h => ⟨rfl, ?_⟩⟩⟩
    · rintro ok G ⟨a, s7, h1, h2⟩ scr2
      cases ok with
      | true => exact good s7 (h1 rfl)
      | false => exact bad s7 (h2 rfl)
    · rintro t1 I ⟨rfl, htk⟩ scr2
      refine ⟨fun h => ?_, fun h => ⟨fun h4 => ?_, fun h4 => ⟨fun t2 G => G = I ∧ (t2 = true ↔ kindB m = 2 ∨ kindB m = 3 ∨ kindB m = 7), ?_, fun h2 => ⟨rfl, ?_⟩, fun h2 => ⟨fun h3 => ⟨rfl, ?_⟩, fun h3 => ⟨rfl, ?_⟩⟩⟩⟩⟩
      · have hk := htk.1 h
        rw [if_pos hk] at hp3
        refine s6.stb (k := 0) (i := 3) rfl (by simp [ndV]) rfl fun J s7 => ⟨⟨kindB m, splA l1, copy, t, 0, c⟩, s7, fun _ => hp3.symm, (fun h => by cases h)⟩
      · have hk : ¬ (kindB m = 1 ∨ kindB m = 6) := fun hk => by rw [htk.2 hk] at h; cases h
        have h4' : kindB m = 4 := by simpa using h4
        rw [if_neg hk, if_pos h4'] at hp3
        have e : (str ((m :: t).drop 1)) = str t := rfl
        rw [e, show (⟨#[41]⟩ : ByteArray) = str [41] from rfl, beq_str]
        by_cases ht : t = [41]
        · rw [decide_eq_true ht]
          rw [if_pos ht] at hp3
          rw [h4'] at s6
          exact good s6 hp3.symm
        · rw [decide_eq_false ht]
          rw [if_neg ht] at hp3
          exact bad s6 hp3.symm
      · rintro t2 I ⟨rfl, ht2⟩ scr3
        have hk : ¬ (kindB m = 1 ∨ kindB m = 6) := fun hk => by rw [htk.2 hk] at h; cases h
        have h4' : ¬ kindB m = 4 := by simpa using h4
        rw [if_neg hk, if_neg h4'] at hp3
        refine ⟨fun h2 => ?_, fun h2 => ⟨_, s6, (fun h => by cases h), fun _ => ?_⟩⟩
        · rw [if_pos (ht2.1 h2)] at hp3
          have e : (str ((m :: t).drop 1)) = str t := rfl
          rw [e]
          refine num_ok htl fun G fG => ⟨_, _, rfl, ?_⟩
          refine (s6.more fG).stb (k := 0) (i := 4) rfl (by simp [ndV]) rfl fun J s7 => ⟨⟨kindB m, splA l1, copy, [], (readL t).1, c⟩, s7, fun hz => ?_, fun hz => ?_⟩
          · have : (readL t).2 = 0 := by simpa using hz
            rw [if_pos this] at hp3
            exact hp3.symm
          · have : ¬ (readL t).2 = 0 := by simpa using hz
            rw [if_neg this] at hp3
            exact hp3.symm
        · rw [if_neg (fun hk => by rw [ht2.2 hk] at h2; cases h2)] at hp3
          exact hp3.symm
      · simp only [beq_iff_eq] at h2 ⊢
        grind
      · simp only [beq_iff_eq, beq_eq_false_iff_ne] at h2 h3 ⊢
        grind
      · simp only [beq_iff_eq, beq_eq_false_iff_ne] at h2 h3 ⊢
        grind
    · simp only [beq_iff_eq] at h ⊢
      grind
    · simp only [beq_iff_eq, beq_eq_false_iff_ne] at h ⊢
      grind
  · have hr0 : r0.length ≤ l.length := by rw [hmr] at hlen; simp only [List.length_cons] at hlen; omega
    rw [hmr]
    unfold parse2 at hp
    rw [hmr] at hp
    simp only at hp
    refine IxS.mk (i := 0) rfl ⟨fun h126 => ?_, fun h126 => ⟨m0 :: r0, 0, rfl, rfl, by simp, by rw [hmr] at hlen; omega, s4, ?_⟩⟩
    · have e126 : m0 = 126 := by
        have : (m0.toNat : Int) = 126 := by simpa using h126
        apply UInt8.toNat_inj.1
        have : (126 : UInt8).toNat = 126 := rfl
        omega
      rw [if_pos e126] at hp
      refine SlS.from (lo := 1) (by simp) ?_
      have e : (str ((m0 :: r0).drop 1)) = str r0 := rfl
      rw [e]
      have happ2 := spl_app r0
      have hlen2 := congrArg List.length happ2
      rw [List.length_append] at hlen2
      refine split_ok (by omega) fun G fG => ⟨_, _, rfl, num_ok (by omega) fun I fI => ⟨_, _, rfl, ?_⟩⟩
      refine (s4.more (fG.trans fI)).stb (k := 0) (i := 2) rfl (by simp [ndV]) rfl fun J s5 => ?_
      replace s5 : Sym H no J [blk bN (ndV ⟨0, splA l1, (readL (splA r0)).1, [], 0, c⟩) 41, blk b (ndV zN) 41] := s5
      refine ⟨fun t G => G = J ∧ (t = false → (readL (splA r0)).2 = 0 ∧ splB r0 ≠ []) ∧ (t = true → parseO l = none), ?_, fun h => ⟨rfl, (fun h => by cases h), fun _ => ?_⟩, fun h => ⟨rfl, fun h' => ?_, fun h' => ?_⟩⟩
      · rintro t J ⟨rfl, ht, hf⟩ scr1
        refine ⟨fun h => bad s5 (hf h), fun h => ?_⟩
        obtain ⟨g1, g2⟩ := ht h
        rw [if_pos g1] at hp
        refine ⟨splB r0, _, by rw [g1]; rfl, rfl, g2, by omega, s5, hp⟩
      · have : ¬ (readL (splA r0)).2 = 0 := by simpa using h
        rw [if_neg this] at hp
        exact hp.symm
      · rw [beq_str] at h'
        exact ⟨by simpa using h, of_decide_eq_false h'⟩
      · rw [beq_str] at h'
        have h1 : (readL (splA r0)).2 = 0 := by simpa using h
        have h2 : splB r0 = [] := of_decide_eq_true h'
        rw [if_pos h1, h2] at hp
        exact hp.symm
    · have e126 : ¬ m0 = 126 := fun e => by rw [e] at h126; simp at h126
      rw [if_neg e126] at hp
      exact hp
end
end Go.Proofs.YthaejcmllibeoaaDoor.C14

