/- names, and weftref14: may a node be? -/
import Derived.Test.YthaejcmllibeoaaDoorN14
import Derived.Test.YthaejcmllibeoaaDoorP14
set_option linter.unusedVariables false
set_option linter.unusedSimpArgs false
-- tNode: 41
-- tRNode: 37
-- right: 60
-- cellRight: 84
-- rCount: 85
-- rRight: 62
namespace Go.Proofs.YthaejcmllibeoaaDoor.C14
open Go Go.V Go.Proofs Go.Proofs.YthaejcmllibeoaaDoor.N14 Go.Proofs.YthaejcmllibeoaaDoor.C01 Go.Proofs.YthaejcmllibeoaaDoor.P14
attribute [local irreducible] Cvt ExtF CallF hrun App MkS
/-- a node's cells -/
def ndV (a : Nd) : List Value := [.int .i64 a.kind, .string (str a.fn), .int .i64 a.copy, .string (str a.name), .int .i64 a.n, .int .i64 a.cell]
def ndA (a : Nd) : Value := .agg #[.int .i64 a.kind, .string (str a.fn), .int .i64 a.copy, .string (str a.name), .int .i64 a.n, .int .i64 a.cell]
/-- texts that are not great -/
def Sm (a : Nd) : Prop := a.fn.length ≤ 1048576 ∧ a.name.length ≤ 1048576
theorem ld6 {H : Hp} {b : Nat} {a : Nd} {T : TypeId} {P : Int → ByteArray → Int → ByteArray → Int → Int → Prop} (h : Blk H b (ndV a) T) (k : P a.kind (str a.fn) a.copy (str a.name) a.n a.cell) :
    ∃ x_a : Int, ∃ x_b : ByteArray, ∃ x_c : Int, ∃ x_d : ByteArray, ∃ x_e : Int, ∃ x_f : Int, (hcell H ⟨b, 0, none⟩ = some (.int .i64 x_a) ∧ hcell H ⟨b, 1, none⟩ = some (.string x_b) ∧ hcell H ⟨b, 2, none⟩ = some (.int .i64 x_c) ∧ hcell H ⟨b, 3, none⟩ = some (.string x_d) ∧
      hcell H ⟨b, 4, none⟩ = some (.int .i64 x_e) ∧ hcell H ⟨b, 5, none⟩ = some (.int .i64 x_f) ∧ True) ∧ P x_a x_b x_c x_d x_e x_f :=
  ⟨_, _, _, _, _, _, ⟨h.ld 0, h.ld 1, h.ld 2, h.ld 3, h.ld 4, h.ld 5, trivial⟩, k⟩
section
variable {H : Hp} {K : Value → Hp → Prop} {Z : List PanicEntry → Hp → Prop}
theorem cellRight_ok {a : Nd} (k : ∀ H', Fr no H H' → K (.bool (decide (a.cell = -1 ∨ Cnt a.cell))) H') : CallF Tryd.prog 84 #[ndA a] H K Z := by
  refine V84_ok ?_
  unfold V84
  intro bN A hA
  have hb : Blk A bN (ndV a) 41 := hA.blk
  refine ⟨_, hb.ld 5, fun h1 => ⟨_, hb.ld 5, ?_⟩, fun h1 => ?_⟩
  · have h1' := of_decide_eq_true h1
    have e : decide (a.cell ≤ 268435456) = decide (a.cell = -1 ∨ Cnt a.cell) := by
      apply decide_eq_decide.2
      unfold Cnt
      omega
    rw [e]
    exact k A hA.fr
  · have h1' := of_decide_eq_false h1
    have e : false = decide (a.cell = -1 ∨ Cnt a.cell) := by
      symm
      apply decide_eq_false
      unfold Cnt
      omega
    have hk := k A hA.fr
    rw [← e] at hk
    exact hk
/-- a node's first condition -/
def F1 (a : Nd) : Prop := a.kind = 5 ∧ a.fn = [] ∧ a.copy = 0 ∨ a.kind ≠ 5 ∧ nameL a.fn = true ∧ Cnt a.copy
theorem r56 {a : Nd} (f : F1 a) (h : a.kind = 5 ∨ a.kind = 6) : RightP a ↔ nameL a.name = true ∧ a.n = 0 ∧ (a.cell = -1 ∨ Cnt a.cell) := by
  unfold RightP F1 at *
  grind
theorem r1 {a : Nd} (f : F1 a) (h : a.kind = 1) : RightP a ↔ nameL a.name = true ∧ a.n = 0 ∧ a.cell = -1 := by
  unfold RightP F1 at *
  grind
theorem r7 {a : Nd} (f : F1 a) (h : a.kind = 7) : RightP a ↔ a.name = [] ∧ 1 ≤ a.n ∧ a.n ≤ 268435456 ∧ (a.cell = -1 ∨ Cnt a.cell) := by
  unfold RightP F1 Cnt at *
  grind
theorem r4 {a : Nd} (f : F1 a) (h : a.kind = 4) : RightP a ↔ a.name = [] ∧ a.n = 0 ∧ a.cell = -1 := by
  unfold RightP F1 at *
  grind
theorem r23 {a : Nd} (f : F1 a) {least : Int} (h : a.kind = 3 ∧ least = 1 ∨ a.kind = 2 ∧ least = 0) : RightP a ↔ a.name = [] ∧ least ≤ a.n ∧ a.n ≤ 268435456 ∧ a.cell = -1 := by
  unfold RightP F1 Cnt at *
  grind
theorem rno {a : Nd} (h1 : a.kind ≠ 1) (h2 : a.kind ≠ 2) (h3 : a.kind ≠ 3) (h4 : a.kind ≠ 4) (h5 : a.kind ≠ 5) (h6 : a.kind ≠ 6) (h7 : a.kind ≠ 7) : ¬ RightP a := by
  unfold RightP
  grind
theorem beq_str' (a b : List UInt8) : (str a == str b) = decide (a = b) := by
  show (a.toArray == b.toArray) = _
  rw [Bool.eq_iff_iff, beq_iff_eq, decide_eq_true_eq]
  simp
set_option maxRecDepth 10000 in
theorem right_ok {a : Nd} (hs : Sm a) (k : ∀ H', Fr no H H' → K (.bool (decide (RightP a))) H') : CallF Tryd.prog 60 #[ndA a] H K Z := by
  refine V60_ok ?_
  unfold V60
  intro bN A hA
  have s0 := (Sym.start H).newb (cs := ndV a) hA
  refine ld6 (s0.get (k := 0) rfl) ?_
  intro bR B hB
  have s1 := s0.newb (cs := ndV ⟨0, [], 0, [], 0, 0⟩) hB
  refine s1.stbs (k := 0) (i := 0) (cs := ndV ⟨0, [], 0, [], 0, 0⟩) rfl (by simp [ndV]) (by intro v hv; simp only [List.mem_cons, List.not_mem_nil, or_false] at hv; rcases hv with rfl | rfl | rfl | rfl | rfl | rfl <;> rfl) fun C s2 => ?_
  replace s2 : Sym H no C [blk bR (ndV a) 41, blk bN (ndV a) 41] := s2
  refine s2.stb (k := 0) (i := 0) rfl (by simp [ndV]) rfl fun D s3 => ?_
  refine s3.stb (k := 0) (i := 1) rfl (by simp [ndV]) rfl fun E s4 => ?_
  refine s4.stb (k := 0) (i := 2) rfl (by simp [ndV]) rfl fun F s5 => ?_
  replace s5 : Sym H no F [blk bR (ndV ⟨0, [], 0, a.name, a.n, a.cell⟩) 41, blk bN (ndV a) 41] := s5
  -- any answer is the right one
  have fin : ∀ {L : List It} {G : Hp} {b : Bool}, Sym H no G L → (b = true ↔ RightP a) → K (.bool b) G := by
    intro L G b hG hb
    have e : b = decide (RightP a) := by
      rw [Bool.eq_iff_iff, hb, decide_eq_true_eq]
    rw [e]
    exact k G hG.frno
  have finF : ∀ {L : List It} {G : Hp}, Sym H no G L → ¬ RightP a → K (.bool false) G := fun hG hb => fin hG ⟨(fun h => by cases h), fun h => absurd h hb⟩
  have hnm : a.name.length ≤ 1000000000 := by have := hs.2; omega
  refine ⟨fun G => Sym H no G [blk bR (ndV ⟨0, [], 0, a.name, a.n, a.cell⟩) 41, blk bN (ndV a) 41] ∧ (a.kind = 5 ∨ F1 a), ?_, ?_⟩
  · rintro G ⟨s6, f15⟩ scr
    have f1 : a.kind ≠ 5 → F1 a := fun h => f15.resolve_left h
    have nd : Blk G bN (ndV a) 41 := s6.get (k := 1) rfl
    have nr : Blk G bR (ndV ⟨0, [], 0, a.name, a.n, a.cell⟩) 41 := s6.get (k := 0) rfl
    refine ⟨_, nd.ld 0, fun least G' => G' = G ∧ (a.kind = 3 ∧ least = 1 ∨ a.kind = 2 ∧ least = 0), ?_, fun G' => G' = G ∧ (a.kind = 5 ∨ a.kind = 6) ∧ F1 a, ?_, fun h5 => ?_, fun h5 => ⟨fun h6 => ⟨rfl, .inr (by simpa using h6), f1 (by simpa using h5)⟩, fun h6 => ⟨fun h1 => ?_, fun h1 => ⟨fun h7 => ?_, fun h7 => ⟨fun h4 => ?_, fun h4 => ⟨fun h3 => ⟨rfl, .inl ⟨by simpa using h3, rfl⟩⟩, fun h3 => ⟨fun h2 => ⟨rfl, .inr ⟨by simpa using h2, rfl⟩⟩, fun h2 => ?_⟩⟩⟩⟩⟩⟩⟩
    · rintro least _ ⟨rfl, hk⟩ scr1
      have hr := r23 (f1 (by omega)) hk
      refine ⟨_, nd.ld 4, fun hge => ⟨_, nd.ld 4, fun hle => ld6 nr ⟨_, nd.ld 4, fin s6 ?_⟩, fun hgt => finF s6 ?_⟩, fun hlt => finF s6 ?_⟩
      · have := of_decide_eq_true hge
        have := of_decide_eq_true hle
        rw [hr, str_nil, beq_str', beq_str']
        simp
        grind
      · have := of_decide_eq_false hgt
        rw [hr]
        omega
      · have := of_decide_eq_false hlt
        rw [hr]
        omega
    · rintro _ ⟨rfl, hk, ff⟩ scr1
      have hr := r56 ff hk
      refine ⟨_, nd.ld 3, name_ok hnm fun H2 f2 => ⟨_, rfl, fun hy => ?_, fun hn => finF (s6.more f2) ?_⟩⟩
      · have s7 := s6.more f2
        have nd2 : Blk H2 bN (ndV a) 41 := s7.get (k := 1) rfl
        refine ld6 (s7.get (k := 0) rfl) ⟨_, nd2.ld 3, _, nd2.ld 5, fun hz => ld6 nd2 ?_, fun hz => finF s7 ?_⟩
        · refine cellRight_ok (a := a) fun H3 f3 => ⟨_, rfl, fin (s7.more f3) ?_⟩
          rw [str_nil, beq_str', beq_str'] at hz
          simp at hz
          rw [hr, decide_eq_true_eq]
          grind
        · rw [str_nil, beq_str', beq_str'] at hz
          simp at hz
          rw [hr]
          grind
      · rw [hr, hn]
        simp
    · have h5' : a.kind = 5 := by simpa using h5
      have noF : ¬ F1 a → ¬ RightP a := fun h h' => h h'.1
      refine ⟨_, nd.ld 1, fun hne => finF s6 (noF ?_), fun heq => ⟨_, nd.ld 2, fun hne => finF s6 (noF ?_), fun heq2 => ⟨rfl, .inl h5', .inl ⟨h5', ?_, by simpa using heq2⟩⟩⟩⟩
      · rw [str_nil, beq_str] at hne
        have : a.fn ≠ [] := by simpa using hne
        unfold F1
        grind
      · have : a.copy ≠ 0 := by simpa using hne
        unfold F1
        grind
      · rw [str_nil, beq_str] at heq
        simpa using heq
    · have h1' : a.kind = 1 := by simpa using h1
      have hr := r1 (f1 (by omega)) h1'
      refine ⟨_, nd.ld 3, name_ok hnm fun H2 f2 => ⟨_, rfl, fun hy => ?_, fun hn => finF (s6.more f2) ?_⟩⟩
      · have s7 := s6.more f2
        have nd2 : Blk H2 bN (ndV a) 41 := s7.get (k := 1) rfl
        refine ld6 (s7.get (k := 0) rfl) ⟨_, nd2.ld 3, fin s7 ?_⟩
        rw [hr, str_nil, beq_str', beq_str']
        simp
        grind
      · rw [hr, hn]
        simp
    · have h7' : a.kind = 7 := by simpa using h7
      have hr := r7 (f1 (by omega)) h7'
      refine ⟨_, nd.ld 4, fun hge => ⟨_, nd.ld 4, fun hle => ld6 nr ⟨_, nd.ld 4, _, nd.ld 5, fun hz => ld6 nd ?_, fun hz => finF s6 ?_⟩, fun hgt => finF s6 ?_⟩, fun hlt => finF s6 ?_⟩
      · have := of_decide_eq_true hge
        have := of_decide_eq_true hle
        refine cellRight_ok (a := a) fun H3 f3 => ⟨_, rfl, fin (s6.more f3) ?_⟩
        rw [str_nil, beq_str', beq_str'] at hz
        simp at hz
        rw [hr, decide_eq_true_eq]
        grind
      · rw [str_nil, beq_str', beq_str'] at hz
        simp at hz
        rw [hr]
        grind
      · have := of_decide_eq_false hgt
        rw [hr]
        omega
      · have := of_decide_eq_false hlt
        rw [hr]
        omega
    · have h4' : a.kind = 4 := by simpa using h4
      have hr := r4 (f1 (by omega)) h4'
      refine ld6 nr (fin s6 ?_)
      rw [hr, str_nil, beq_str', beq_str']
      simp
    · refine finF s6 (rno ?_ ?_ ?_ ?_ ?_ ?_ ?_)
      · simpa using h1
      · simpa using h2
      · simpa using h3
      · simpa using h4
      · simpa using h5
      · simpa using h6
      · simpa using h7
  · have nd : Blk F bN (ndV a) 41 := s5.get (k := 1) rfl
    refine ⟨_, nd.ld 0, fun h5 => ?_, fun h5 => ⟨s5, .inl (by simpa using h5)⟩⟩
    · have h5' : a.kind ≠ 5 := by simpa using h5
      have noF : ¬ F1 a → ¬ RightP a := fun h h' => h h'.1
      refine ⟨_, nd.ld 1, name_ok (by have := hs.1; omega) fun H2 f2 => ⟨_, rfl, fun hn => finF (s5.more f2) (noF ?_), fun hy => ?_⟩⟩
      · have hn' : nameL a.fn = false := by simpa using hn
        unfold F1
        grind
      · have hy' : nameL a.fn = true := by simpa using hy
        have s6 := s5.more f2
        have nd2 : Blk H2 bN (ndV a) 41 := s6.get (k := 1) rfl
        refine ⟨_, nd2.ld 2, fun hlt => finF s6 (noF ?_), fun hge => ⟨_, nd2.ld 2, fun hgt => finF s6 (noF ?_), fun hle => ⟨s6, .inr (.inr ⟨h5', hy', ?_, ?_⟩)⟩⟩⟩
        · have := of_decide_eq_true hlt
          unfold F1 Cnt
          omega
        · have := of_decide_eq_true hgt
          unfold F1 Cnt
          omega
        · have := of_decide_eq_false hge
          omega
        · have := of_decide_eq_false hle
          omega
theorem rcount_ok {x : Int} (k : K (.bool (decide (Cnt x))) H) : CallF Tryd.prog 85 #[.int .i64 x] H K Z := by
  refine V85_ok ?_
  unfold V85
  refine ⟨fun h => ?_, fun h => ?_⟩
  · have h' := of_decide_eq_true h
    have e : decide (x ≤ 268435456) = decide (Cnt x) := decide_eq_decide.2 (by unfold Cnt; omega)
    rw [e]
    exact k
  · have h' := of_decide_eq_false h
    have e : decide (Cnt x) = false := decide_eq_false (by unfold Cnt; omega)
    rw [e] at k
    exact k
/-- the reference's condition, in its own words -/
def named (a : Nd) : Bool := decide (a.kind = 1 ∨ a.kind = 5 ∨ a.kind = 6)
def numbered (a : Nd) : Bool := decide (a.kind = 2 ∨ a.kind = 3 ∨ a.kind = 7)
theorem name_nil : nameL [] = false := rfl
theorem rright_ok {a : Nd} (hs : Sm a) (k : ∀ H', Fr no H H' → K (.bool (decide (RightP a))) H') : CallF Tryd.prog 62 #[ndA a] H K Z := by
  refine V62_ok ?_
  unfold V62
  intro bN A hA
  have hb : Blk A bN (ndV a) 37 := hA.blk
  have fin : ∀ {b : Bool}, (b = true ↔ RightP a) → K (.bool b) A := by
    intro b hb
    have e : b = decide (RightP a) := by
      rw [Bool.eq_iff_iff, hb, decide_eq_true_eq]
    rw [e]
    exact k A hA.fr
  have finF : ¬ RightP a → K (.bool false) A := fun hb => fin ⟨(fun h => by cases h), fun h => absurd h hb⟩
  have h1 : a.fn.length ≤ 1000000000 := by have := hs.1; omega
  have h2 : a.name.length ≤ 1000000000 := by have := hs.2; omega
  refine ⟨fun G => G = A ∧ 1 ≤ a.kind ∧ a.kind ≤ 7 ∧ Cnt a.copy ∧ Cnt a.n ∧ (a.cell = -1 ∨ Cnt a.cell), ?_, _, hb.ld 0, fun hlt => finF ?_, fun hge => ⟨_, hb.ld 0, fun hgt => finF ?_, fun hle => ⟨_, hb.ld 2, rcount_ok ⟨_, rfl, fun hn => finF ?_, fun hc => ⟨_, hb.ld 4, rcount_ok ⟨_, rfl, fun hn => finF ?_, fun hcn => ⟨_, hb.ld 5, fun hne => ⟨_, hb.ld 5, rcount_ok ⟨_, rfl, fun hn => finF ?_, fun hcc => ⟨rfl, ?_⟩⟩⟩, fun heq => ⟨rfl, ?_⟩⟩⟩⟩⟩⟩⟩⟩
  rotate_left
  · have := of_decide_eq_true hlt
    unfold RightP
    omega
  · have := of_decide_eq_true hgt
    unfold RightP
    omega
  · simp at hn
    unfold RightP
    unfold Cnt at *
    grind
  · simp at hn
    unfold RightP
    unfold Cnt at *
    grind
  · simp at hn hne
    unfold RightP
    unfold Cnt at *
    grind
  · have := of_decide_eq_false hge
    have := of_decide_eq_false hle
    simp at hc hcn hcc
    exact ⟨by omega, by omega, hc, hcn, .inr hcc⟩
  · have := of_decide_eq_false hge
    have := of_decide_eq_false hle
    simp at hc hcn heq
    exact ⟨by omega, by omega, hc, hcn, .inl heq⟩
  rintro A ⟨rfl, k1, k7, hc, hn, hcell⟩ scr
  refine ⟨fun nm G => G = A ∧ nm = named a, ?_, _, hb.ld 0, fun h => ⟨rfl, ?_⟩, fun h => ⟨_, hb.ld 0, fun h' => ⟨rfl, ?_⟩, fun h' => ⟨_, hb.ld 0, rfl, ?_⟩⟩⟩
  rotate_left
  · have : a.kind = 1 := by simpa using h
    simp [named, this]
  · have : a.kind = 5 := by simpa using h'
    simp [named, this]
  · simp at h h'
    unfold named
    rw [Bool.eq_iff_iff, beq_iff_eq, decide_eq_true_eq]
    omega
  rintro _ A ⟨rfl, rfl⟩ scr1
  refine ⟨fun nm G => G = A ∧ nm = numbered a, ?_, _, hb.ld 0, fun h => ⟨rfl, ?_⟩, fun h => ⟨_, hb.ld 0, fun h' => ⟨rfl, ?_⟩, fun h' => ⟨_, hb.ld 0, rfl, ?_⟩⟩⟩
  rotate_left
  · have : a.kind = 2 := by simpa using h
    simp [numbered, this]
  · have : a.kind = 3 := by simpa using h'
    simp [numbered, this]
  · simp at h h'
    unfold numbered
    rw [Bool.eq_iff_iff, beq_iff_eq, decide_eq_true_eq]
    omega
  rintro _ A ⟨rfl, rfl⟩ scr2
  refine ⟨fun G => G = A ∧ F1 a ∧ (a.kind = 1 ∨ a.kind = 5 ∨ a.kind = 6 → nameL a.name = true) ∧ (¬ (a.kind = 1 ∨ a.kind = 5 ∨ a.kind = 6) → a.name = []) ∧ (¬ (a.kind = 2 ∨ a.kind = 3 ∨ a.kind = 7) → a.n = 0) ∧ ¬ (a.n = 0 ∧ (a.kind = 3 ∨ a.kind = 7)), ?_,
    fun t G => G = A ∧ (t = true ↔ ¬ F1 a), ?_, ?_⟩
  · rintro A ⟨rfl, f1, g1, g2, g3, g4⟩ scr3
    refine ⟨_, hb.ld 0, fun h => fin ?_, fun h => ⟨_, hb.ld 5, fin ?_⟩⟩
    · have := of_decide_eq_true h
      unfold F1 at f1
      unfold RightP Cnt at *
      grind
    · have := of_decide_eq_false h
      rw [beq_iff_eq]
      unfold F1 at f1
      unfold RightP Cnt at *
      grind
  · rintro t A ⟨rfl, ht⟩ scr3
    refine ⟨fun h => finF fun hr => (ht.1 h) hr.1, fun h => ?_⟩
    have f1 : F1 a := by
      apply Classical.byContradiction
      intro hn
      rw [ht.2 hn] at h
      cases h
    refine ⟨fun t G => G = A ∧ (t = true ↔ ¬ ((a.kind = 1 ∨ a.kind = 5 ∨ a.kind = 6 → nameL a.name = true) ∧ (¬ (a.kind = 1 ∨ a.kind = 5 ∨ a.kind = 6) → a.name = []))), ?_, ?_⟩
    · rintro t A ⟨rfl, ht⟩ scr4
      refine ⟨fun h => finF fun hr => (ht.1 h) ?_, fun h => ?_⟩
      · obtain ⟨_, h2, _⟩ := hr
        grind
      · have g : (a.kind = 1 ∨ a.kind = 5 ∨ a.kind = 6 → nameL a.name = true) ∧ (¬ (a.kind = 1 ∨ a.kind = 5 ∨ a.kind = 6) → a.name = []) := by
          apply Classical.byContradiction
          intro hn
          rw [ht.2 hn] at h
          cases h
        refine ⟨fun hnum => ⟨_, hb.ld 4, fun hne => finF ?_, fun heq => ⟨_, hb.ld 4, fun _ => ⟨_, hb.ld 0, fun h3 => finF ?_, fun h3 => ⟨_, hb.ld 0, fun h7 => finF ?_, fun h7 => ⟨rfl, f1, g.1, g.2, ?_⟩⟩⟩, fun hne => ?_⟩⟩, fun hnum => ⟨_, hb.ld 4, fun heq => ⟨_, hb.ld 0, fun h3 => finF ?_, fun h3 => ⟨_, hb.ld 0, fun h7 => finF ?_, fun h7 => ⟨rfl, f1, g.1, g.2, ?_⟩⟩⟩, fun hne => ⟨rfl, f1, g.1, g.2, ?_⟩⟩⟩ <;> simp [numbered] at * <;> (try unfold RightP) <;> grind
    · refine ⟨_, hb.ld 3, fun hd => ⟨rfl, ?_⟩, fun hd => ⟨fun hnm => ⟨_, hb.ld 3, rname_ok h2 ⟨_, rfl, rfl, ?_⟩⟩, fun hnm => ⟨rfl, ?_⟩⟩⟩
      · rw [str_nil, beq_str] at hd
        simp [named] at hd
        have := name_nil
        grind
      · rw [str_nil, beq_str] at hd
        simp [named] at hd hnm
        grind
      · rw [str_nil, beq_str] at hd
        simp [named] at hd hnm
        grind
  · refine ⟨_, hb.ld 0, _, hb.ld 1, fun hd => ⟨rfl, ?_⟩, fun hd => ⟨_, hb.ld 1, fun hne => ⟨_, hb.ld 1, rname_ok h1 ⟨_, rfl, fun hn => ⟨rfl, ?_⟩, fun hy => ⟨_, hb.ld 0, fun h5 => ⟨_, hb.ld 2, rfl, ?_⟩, fun h5 => ⟨rfl, ?_⟩⟩⟩⟩, fun he => ⟨_, hb.ld 0, fun h5 => ⟨_, hb.ld 2, rfl, ?_⟩, fun h5 => ⟨rfl, ?_⟩⟩⟩⟩ <;>
      rw [str_nil, beq_str] at * <;> simp at * <;> unfold F1 <;> have := name_nil <;> grind
end
end Go.Proofs.YthaejcmllibeoaaDoor.C14

