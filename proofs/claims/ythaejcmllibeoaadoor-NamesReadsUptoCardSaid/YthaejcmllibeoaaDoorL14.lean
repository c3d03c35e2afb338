/- weftlaw14: the laws. -/
import Derived.Test.YthaejcmllibeoaaDoorC14E
import Derived.Test.YthaejcmllibeoaaDoorV21
set_option linter.unusedVariables false
set_option linter.unusedSimpArgs false
-- tNode: 41
-- tRNode: 37
-- tStr: 9
-- base: 43
-- rBase: 44
-- own: 32
-- great: 30
-- works: 34
-- lawTexts: 8
-- lawReads: 11
-- lawMade: 10
-- lawOne: 9
-- lawBase: 12
namespace Go.Proofs.YthaejcmllibeoaaDoor.L14
open Go Go.V Go.Proofs Go.Proofs.YthaejcmllibeoaaDoor.N14 Go.Proofs.YthaejcmllibeoaaDoor.C01 Go.Proofs.YthaejcmllibeoaaDoor.P14 Go.Proofs.YthaejcmllibeoaaDoor.C14
attribute [local irreducible] Cvt ExtF CallF hrun App MkS
theorem eqN (a b : Nd) : ((a.kind == b.kind) && ((str a.fn == str b.fn) && ((a.copy == b.copy) && ((str a.name == str b.name) && ((a.n == b.n) && ((a.cell == b.cell) && true)))))) = decide (a = b) := by
  rw [beq_str', beq_str', Bool.eq_iff_iff, decide_eq_true_eq]
  obtain ⟨a1, a2, a3, a4, a5, a6⟩ := a
  obtain ⟨b1, b2, b3, b4, b5, b6⟩ := b
  simp
theorem eqN_self (a : Nd) : ((a.kind == a.kind) && ((str a.fn == str a.fn) && ((a.copy == a.copy) && ((str a.name == str a.name) && ((a.n == a.n) && ((a.cell == a.cell) && true)))))) = true := by
  rw [eqN, decide_eq_true rfl]
theorem body_len {a : Nd} (h : RightP a) : (textL a).length ≤ 100 := by
  have nl : ∀ {w : List UInt8}, nameL w = true → w.length ≤ 16 := by
    intro w hw
    unfold nameL at hw
    simp only [Bool.and_eq_true, decide_eq_true_eq] at hw
    exact hw.2.1
  have hcp : (copyP a.copy).length ≤ 10 := by
    apply copy_len
    obtain ⟨h1, _⟩ := h
    unfold Cnt at *
    grind
  have hcell : (cellP a.cell).length ≤ 10 := by
    unfold cellP
    split
    · exact Nat.zero_le _
    · rename_i hne
      have : Cnt a.cell := by
        rcases h.2.2 with h' | ⟨_, h'⟩
        · exact absurd h' hne
        · exact h'
      have := dec_len5 this
      rw [List.length_cons]
      omega
  have htail : (tailP a).length ≤ 16 := by
    unfold tailP
    split
    · rename_i hk
      rcases h.2.1 with ⟨_, h', _⟩ | ⟨h', _⟩ | ⟨h', _⟩
      · exact nl h'
      · omega
      · omega
    · split
      · decide
      · rename_i h1 h2
        have : Cnt a.n := by
          obtain ⟨_, h2, _⟩ := h
          unfold Cnt at *
          grind
        have := dec_len5 this
        omega
  unfold textL bodyP
  rw [List.length_append]
  split
  · rename_i h5
    have hn : a.name.length ≤ 16 := by
      rcases h.2.1 with ⟨_, h', _⟩ | ⟨h', _⟩ | ⟨h', _⟩
      · exact nl h'
      · omega
      · omega
    omega
  · rename_i h5
    have hn : a.fn.length ≤ 16 := by
      rcases h.1 with ⟨h', _⟩ | ⟨_, h', _⟩
      · exact absurd h' h5
      · exact nl h'
    rw [List.length_append, List.length_append, List.length_cons]
    omega
theorem dec_one {x : Int} (h : 0 ≤ x) (h2 : x < 10) : dec x = [UInt8.ofNat (48 + x.toNat)] := Lib.decDigits_one (by omega)
theorem read1 : readN [102, 126, 51, 46, 112] = some ⟨1, [102], 3, [112], 0, -1⟩ := by
  rw [readN_iff]
  refine ⟨by unfold RightP Cnt; decide, ?_⟩
  unfold textL bodyP copyP cellP tailP
  simp [dec_one, markB]
theorem base1 : baseL [102, 126, 51, 46, 112] = [102, 46, 112] := by
  unfold baseL
  rw [read1]
  simp only
  unfold textL bodyP copyP cellP tailP
  simp [markB]
theorem read2 : readN [102, 37, 120] = some ⟨6, [102], 0, [120], 0, -1⟩ := by
  rw [readN_iff]
  refine ⟨by unfold RightP Cnt; decide, ?_⟩
  unfold textL bodyP copyP cellP tailP
  simp [markB]
theorem cell2 : cellL [102, 37, 120] 2 = [102, 37, 120, 43, 50] := by
  unfold cellL
  rw [read2]
  simp only
  rw [if_neg (by decide)]
  unfold ofL
  rw [if_pos (by unfold RightP Cnt; decide)]
  unfold textL bodyP copyP cellP tailP
  simp [markB, dec_one]
section
variable {H : Hp} {K : Value → Hp → Prop} {Z : List PanicEntry → Hp → Prop}
theorem own_ok {a : Nd} (k : ∀ H', Fr no H H' → K (ndA a) H') : CallF Tryd.prog 32 #[ndA a] H K Z := by
  refine V32_ok ?_
  unfold V32
  intro bN A hA b B hB
  have s0 := ((Sym.start H).newb (cs := ndV a) hA).newb (cs := ndV zN) hB
  have nd : Blk B bN (ndV a) 37 := s0.get (k := 1) rfl
  refine ⟨_, nd.ld 0, _, nd.ld 1, _, nd.ld 2, _, nd.ld 3, _, nd.ld 4, _, nd.ld 5, ?_⟩
  refine s0.stbs (k := 0) (i := 0) (vs := ndV a) rfl (by simp [ndV]) (ndV_one a) fun C s1 => ?_
  exact ld6 (s1.get (k := 0) rfl : Blk C b (ndV a) 41) (k C s1.frno)
theorem great_ok {a : Nd} (k : ∀ (y : Bool) H', Fr no H H' → K (.bool y) H') : CallF Tryd.prog 30 #[ndA a] H K Z := by
  refine V30_ok ?_
  unfold V30
  intro bN A hA
  have nd : Blk A bN (ndV a) 37 := hA.blk
  exact ⟨_, nd.ld 1, fun _ => k _ _ hA.fr, fun _ => ⟨_, nd.ld 3, k _ _ hA.fr⟩⟩
set_option maxRecDepth 10000 in
theorem works_ok (ht : Pw H) (k : ∀ H', Fr no H H' → K (.bool true) H') : CallF Tryd.prog 34 #[] H K Z := by
  refine V34_ok ?_
  unfold V34
  refine readX_ok (l := [102, 126, 51, 46, 112]) (by decide) ht fun A fA => ?_
  rw [read1]
  refine ⟨_, _, _, _, _, _, _, rfl, ?_⟩
  intro bN B hB
  have s0 := ((Sym.start H).more fA).newb (cs := ndV zN) hB
  refine s0.stbs (k := 0) (i := 0) (vs := ndV ⟨1, [102], 3, [112], 0, -1⟩) rfl (by simp [ndV]) (ndV_one _) fun C s1 => ⟨fun _ => ?_, (fun h => by cases h)⟩
  replace s1 : Sym H no C [blk bN (ndV ⟨1, [102], 3, [112], 0, -1⟩) 41] := s1
  refine ld6 (s1.get (k := 0) rfl) ⟨fun _ => ?_, fun h => ?_⟩
  · refine base_ok (l := [102, 126, 51, 46, 112]) (by decide) (ht.more s1.frno) fun D fD => ⟨_, rfl, ?_⟩
    rw [base1]
    refine ⟨fun _ => ?_, fun h => ?_⟩
    · refine cell_ok (l := [102, 37, 120]) (by decide) (ht.more (s1.more fD).frno) fun E fE => ⟨_, rfl, ?_⟩
      rw [cell2]
      have : beqS (str [102, 37, 120, 43, 50]) ⟨#[102, 37, 120, 43, 50]⟩ = true := beqS_iff.2 rfl
      rw [this]
      exact k E ((s1.more fD).more fE).frno
    · have : beqS (str [102, 46, 112]) ⟨#[102, 46, 112]⟩ = true := beqS_iff.2 rfl
      rw [this] at h
      cases h
  · have := eqN_self ⟨1, [102], 3, [112], 0, -1⟩
    exact absurd (this.symm.trans h) (by simp)
theorem lawTexts_ok {a : Nd} (hs : Sm a) (ht : Pw H) (k : ∀ H', Fr no H H' → K (.bool true) H') : CallF Tryd.prog 8 #[ndA a] H K Z := by
  refine V8_ok ?_
  unfold V8
  intro bN A hA
  have s0 := (Sym.start H).newb (cs := ndV a) hA
  refine ld6 (s0.get (k := 0) rfl) (great_ok (a := a) fun y B fB => ⟨_, rfl, fun _ => k B (hA.fr.trans fB), fun _ => ?_⟩)
  have s1 := s0.more fB
  refine ld6 (s1.get (k := 0) rfl) (own_ok (a := a) fun C fC => ⟨_, _, _, _, _, _, rfl, ?_⟩)
  have s2 := s1.more fC
  refine ntext_ok hs (ht.more s2.frno) fun D fD => ?_
  have s3 := s2.more fD
  by_cases hr : RightP a
  · rw [if_pos hr]
    refine ⟨_, _, rfl, ld6 (s3.get (k := 0) rfl) (rntext_ok hs fun E fE => ?_)⟩
    rw [if_pos hr]
    refine ⟨_, _, rfl, fun _ => ⟨fun _ => works_ok (ht.more (s3.more fE).frno) fun F fF => ⟨_, rfl, k F ((s3.more fE).more fF).frno⟩, (fun h => by cases h)⟩, fun h => ?_⟩
    rw [beqS_iff.2 rfl] at h
    cases h
  · rw [if_neg hr]
    refine ⟨_, _, rfl, ld6 (s3.get (k := 0) rfl) (rntext_ok hs fun E fE => ?_)⟩
    rw [if_neg hr]
    refine ⟨_, _, rfl, fun _ => ⟨fun _ => works_ok (ht.more (s3.more fE).frno) fun F fF => ⟨_, rfl, k F ((s3.more fE).more fF).frno⟩, (fun h => by cases h)⟩, fun h => ?_⟩
    rw [beqS_iff.2 rfl] at h
    cases h
set_option maxRecDepth 10000 in
theorem lawReads_ok {l : List UInt8} (hl : l.length ≤ 1048576) (ht : Pw H) (k : ∀ H', Fr no H H' → K (.bool true) H') : CallF Tryd.prog 11 #[.string (str l)] H K Z := by
  refine V11_ok ?_
  unfold V11
  refine ⟨fun _ => k H (Fr.refl _ _), fun _ => ?_⟩
  refine readX_ok hl ht fun A fA => ⟨_, _, _, _, _, _, _, rfl, ?_⟩
  intro bA B hB
  have s0 := ((Sym.start H).more fA).newb (cs := ndV zN) hB
  refine s0.stbs (k := 0) (i := 0) (vs := ndV (rres (readN l)).1) rfl (by simp [ndV]) (ndV_one _) fun C s1 => ?_
  replace s1 : Sym H no C [blk bA (ndV (rres (readN l)).1) 41] := s1
  refine rreadX_ok hl fun D fD => ⟨_, _, _, _, _, _, _, rfl, ?_⟩
  intro bB E hE
  have s2 := (s1.more fD).newb (cs := ndV zN) hE
  refine s2.stbs (k := 0) (i := 0) (vs := ndV (rres (readN l)).1) rfl (by simp [ndV]) (ndV_one _) fun F s3 => ?_
  replace s3 : Sym H no F [blk bB (ndV (rres (readN l)).1) 37, blk bA (ndV (rres (readN l)).1) 41] := s3
  refine object_ok hl (ht.more s3.frno) fun G fG => ⟨_, _, _, rfl, robject_ok hl fun I fI => ⟨_, _, _, rfl, ?_⟩⟩
  have s4 := (s3.more fG).more fI
  have tail : ∀ {J : Hp}, Fr no I J → CallF Tryd.prog 43 #[.string (str l)] J (fun r5 H10 => ∃ y : ByteArray, r5 = .string y ∧ 
    CallF Tryd.prog 44 #[.string (str l)] H10 (fun r6 H11 => ∃ y1 : ByteArray, r6 = .string y1 ∧ (((beqS y y1) = true → 
    (((beqS (str (objL l).1) (str (objL l).1)) = true → ((((objL l).2.1 == (objL l).2.1) = true → ((((objL l).2.2 == (objL l).2.2) = true → CallF Tryd.prog 34 #[] H11 (fun r7 H12 => 
    ∃ y2 : Bool, r7 = .bool y2 ∧ K (.bool y2) H12) Z) ∧ (((objL l).2.2 == (objL l).2.2) = false → K (.bool false) H11))) ∧ 
    (((objL l).2.1 == (objL l).2.1) = false → K (.bool false) H11))) ∧ ((beqS (str (objL l).1) (str (objL l).1)) = false → K (.bool false) H11))) ∧ 
    ((beqS y y1) = false → K (.bool false) H11))) Z) Z := by
    intro J fJ
    have s5 := s4.more fJ
    refine base_ok hl (ht.more s5.frno) fun L fL => ⟨_, rfl, rbase_ok hl fun M fM => ⟨_, rfl, fun _ => ⟨fun _ => ⟨fun _ => ⟨fun _ => ?_, fun h => ?_⟩, fun h => ?_⟩, fun h => ?_⟩, fun h => ?_⟩⟩
    · have s6 := (s5.more fL).more fM
      exact works_ok (ht.more s6.frno) fun N fN => ⟨_, rfl, k N (s6.more fN).frno⟩
    · rw [beq_self_eq_true] at h; cases h
    · rw [beq_self_eq_true] at h; cases h
    · rw [beqS_iff.2 rfl] at h; cases h
    · rw [beqS_iff.2 rfl] at h; cases h
  refine ld6 (s4.get (k := 0) rfl) ⟨ld6 (s4.get (k := 1) rfl) (own_ok (a := (rres (readN l)).1) fun J fJ => ⟨_, _, _, _, _, _, rfl, fun _ => ⟨fun _ => tail fJ, fun h => ?_⟩, fun h => ?_⟩), own_ok (a := (rres (readN l)).1) fun J fJ => ⟨_, _, _, _, _, _, rfl, ld6 ((s4.more fJ).get (k := 1) rfl) ⟨fun _ => ⟨fun _ => tail fJ, fun h => ?_⟩, fun h => ?_⟩⟩⟩
  · rw [beq_self_eq_true] at h; cases h
  · rw [eqN_self] at h; cases h
  · rw [beq_self_eq_true] at h; cases h
  · rw [eqN_self] at h; cases h
theorem lawMade_ok {l : List UInt8} {kind n : Int} (hl : l.length ≤ 1048576) (ht : Pw H) (k : ∀ H', Fr no H H' → K (.bool true) H') : CallF Tryd.prog 10 #[.int .i64 kind, .string (str l), .int .i64 n] H K Z := by
  refine V10_ok ?_
  unfold V10
  refine ⟨fun _ => k H (Fr.refl _ _), fun _ => ?_⟩
  refine ⟨fun t A m => ∃ j : Nat, t = (j : Int) ∧ j ≤ 2 ∧ m = 2 - j ∧ Fr no H A, ⟨_, 0, rfl, by omega, rfl, Fr.refl _ _⟩, ?_⟩
  rintro t A m ⟨j, rfl, hj, rfl, fA⟩ scr
  refine ⟨fun hlt => ?_, fun hge => ?_⟩
  · have hjl : j < 2 := by have := of_decide_eq_true hlt; omega
    intro b B hB
    have s1 : Sym A no B [arr flL 9 1 ⟨some ⟨b, 0, none⟩, 2, 2⟩ [[102], l]] := (Sym.start A).lit (l := [[102], l]) FlL (by decide) hB rfl
    have hr := s1.rd (k := 0) FlL (by decide) rfl
    have hx : ([[102], l] : List (List UInt8))[j]? = some (if j = 0 then [102] else l) := by
      have : j = 0 ∨ j = 1 := by omega
      rcases this with rfl | rfl <;> rfl
    have hxl : (if j = 0 then [102] else l).length ≤ 1048576 := by
      split
      · decide
      · exact hl
    generalize (if j = 0 then [102] else l) = fn at hx hxl
    have fB := fA.trans hB.fr
    refine hr.ixn FlL hx fun ad had => ⟨_, had, ?_⟩
    have bad : ∀ {C : Hp} {x : List UInt8}, (!(beqS (str x) (str x))) = true → K (.bool false) C := by
      intro C x h
      rw [beqS_iff.2 rfl] at h
      cases h
    refine of_ok hxl hl (ht.more fB) fun C fC => ⟨_, rfl, rof_ok hxl hl fun D fD => ⟨_, rfl, bad, fun _ => ?_⟩⟩
    have fD' := (fB.trans fC).trans fD
    refine of_ok (name := []) hxl (Nat.zero_le _) (ht.more fD') fun E fE => ⟨_, rfl, rof_ok (name := []) hxl (Nat.zero_le _) fun F fF => ⟨_, rfl, bad, fun _ => ?_⟩⟩
    have fF' := (fD'.trans fE).trans fF
    refine of_ok (fn := []) (Nat.zero_le _) hl (ht.more fF') fun G fG => ⟨_, rfl, rof_ok (fn := []) (Nat.zero_le _) hl fun I fI => ⟨_, rfl, bad, fun _ => ?_⟩⟩
    exact ⟨2 - (j + 1), by omega, j + 1, wi (by omega), hjl, rfl, (fF'.trans fG).trans fI⟩
  · refine cell_ok hl (ht.more fA) fun B fB => ⟨_, rfl, rcell_ok hl fun C fC => ⟨_, rfl, fun _ => ?_, fun h => ?_⟩⟩
    · have f := (fA.trans fB).trans fC
      exact works_ok (ht.more f) fun D fD => ⟨_, rfl, k D (f.trans fD)⟩
    · rw [beqS_iff.2 rfl] at h
      cases h
theorem lawBase_ok {l : List UInt8} (hl : l.length ≤ 1048576) (ht : Pw H) (k : ∀ H', Fr no H H' → K (.bool true) H') : CallF Tryd.prog 12 #[.string (str l)] H K Z := by
  refine V12_ok ?_
  unfold V12
  refine works_ok ht fun A fA => ⟨_, rfl, (fun h => by cases h), fun _ => ⟨fun _ => k A fA, fun _ => ?_⟩⟩
  refine readX_ok hl (ht.more fA) fun B fB => ⟨_, _, _, _, _, _, _, rfl, ?_⟩
  intro bN C hC
  have s0 := ((Sym.start H).more (fA.trans fB)).newb (cs := ndV zN) hC
  refine s0.stbs (k := 0) (i := 0) (vs := ndV (rres (readN l)).1) rfl (by simp [ndV]) (ndV_one _) fun D s1 => ?_
  replace s1 : Sym H no D [blk bN (ndV (rres (readN l)).1) 41] := s1
  refine base_ok hl (ht.more s1.frno) fun E fE => ⟨_, rfl, object_ok hl (ht.more (s1.more fE).frno) fun F fF => ⟨_, _, _, rfl, ?_⟩⟩
  have s2 := (s1.more fE).more fF
  unfold baseL objL
  cases hr : readN l with
  | none =>
    refine ⟨fun _ => ⟨fun _ => ⟨fun _ => k F s2.frno, fun h => ?_⟩, fun h => ?_⟩, (fun h => by cases h)⟩
    · rw [show (⟨#[]⟩ : ByteArray) = str [] from rfl, beqS_iff.2 rfl] at h; cases h
    · rw [show (⟨#[]⟩ : ByteArray) = str [] from rfl, beqS_iff.2 rfl] at h; cases h
  | some a =>
    rw [hr] at s2
    replace s2 : Sym H no F [blk bN (ndV a) 41] := s2
    obtain ⟨hrp, htl⟩ := readN_iff.1 hr
    have hr0 := right_copy hrp
    have hrc := right_cell hrp
    have e0 : readN (textL { a with copy := 0 }) = some { a with copy := 0 } := readN_iff.2 ⟨hr0, rfl⟩
    have ec : readN (textL { a with cell := -1 }) = some { a with cell := -1 } := readN_iff.2 ⟨hrc, rfl⟩
    have l0 := body_len hr0
    have lc := body_len hrc
    simp only
    refine ⟨(fun h => by cases h), fun _ => ?_⟩
    refine readX_ok (by omega) (ht.more s2.frno) fun G fG => ?_
    rw [e0]
    refine ⟨_, _, _, _, _, _, _, rfl, ?_⟩
    intro bM I hI
    have s3 := (s2.more fG).newb (cs := ndV zN) hI
    refine s3.stbs (k := 0) (i := 0) (vs := ndV { a with copy := 0 }) rfl (by simp [ndV]) (ndV_one _) fun J s4 => ?_
    replace s4 : Sym H no J [blk bM (ndV { a with copy := 0 }) 41, blk bN (ndV a) 41] := s4
    refine ⟨fun M => Sym H no M [blk bM (ndV { a with copy := 0 }) 41, blk bN (ndV a) 41], ?_, (fun h => by cases h), fun _ => ?_⟩
    · intro M s5 scr
      by_cases hcell : a.cell = -1
      · rw [if_pos hcell]
        exact ⟨fun _ => k M s5.frno, (fun h => by cases h)⟩
      · rw [if_neg hcell]
        refine ⟨(fun h => by cases h), fun _ => object_ok (l := textL { a with cell := -1 }) (by omega) (ht.more s5.frno) fun N fN => ?_⟩
        unfold objL
        rw [ec]
        simp only [if_true]
        refine ⟨_, _, _, rfl, fun _ => ?_, (fun h => by cases h)⟩
        have s6 := s5.more fN
        refine cell_ok (l := textL { a with cell := -1 }) (by omega) (ht.more s6.frno) fun O fO => ⟨_, rfl, ?_⟩
        have hcc := hrp.2.2.resolve_left hcell
        have hc0 := hcc.2.1
        have e1 : cellL (textL { a with cell := -1 }) a.cell = l := by
          unfold cellL
          rw [ec]
          simp only
          rw [if_neg (by omega)]
          unfold ofL
          rw [if_pos hrp]
          exact htl
        rw [e1]
        have s7 := s6.more fO
        have nd : Blk O bN (ndV a) 41 := s7.get (k := 1) rfl
        refine ⟨fun _ => ⟨_, nd.ld 5, ?_⟩, fun h => ?_⟩
        · rw [beq_self_eq_true]
          exact k O s7.frno
        · rw [beqS_iff.2 rfl] at h
          cases h
    · refine base_ok (by omega) (ht.more s4.frno) fun M fM => ⟨_, rfl, ?_⟩
      unfold baseL
      rw [e0]
      simp only
      have s5 := s4.more fM
      have ndM : Blk M bM (ndV { a with copy := 0 }) 41 := s5.get (k := 0) rfl
      have ndN : Blk M bN (ndV a) 41 := s5.get (k := 1) rfl
      refine ⟨fun h => ?_, fun _ => ⟨_, ndM.ld 0, _, ndN.ld 0, fun h => ?_, fun _ => ⟨_, ndM.ld 2, (fun h => by cases h), fun _ => ⟨_, ndN.ld 5, fun h => ?_, fun _ => s5⟩⟩⟩⟩
      · rw [beqS_iff.2 rfl] at h; cases h
      · simp at h
      · exfalso
        have hcc := hrp.2.2
        unfold Cnt at hcc
        by_cases hcell : a.cell = -1
        · rw [if_pos hcell, hcell] at h
          revert h; decide
        · rw [if_neg hcell] at h
          have : decide (a.cell ≥ 0) = true := by
            apply decide_eq_true
            omega
          rw [this] at h
          cases h
set_option maxRecDepth 10000 in
theorem lawOne_ok {a c : Nd} {l : List UInt8} (ha : Sm a) (hc : Sm c) (hl : l.length ≤ 1048576) (ht : Pw H) (k : ∀ H', Fr no H H' → K (.bool true) H') : CallF Tryd.prog 9 #[ndA a, ndA c, .string (str l)] H K Z := by
  refine V9_ok ?_
  unfold V9
  intro bA A hA bB B hB
  have s0 := ((Sym.start H).newb (cs := ndV a) hA).newb (cs := ndV c) hB
  refine works_ok (ht.more s0.frno) fun C fC => ⟨_, rfl, (fun h => by cases h), fun _ => ?_⟩
  have s1 := s0.more fC
  refine ⟨fun D => Sym H no D [blk bB (ndV c) 37, blk bA (ndV a) 37], ?_, ?_⟩
  rotate_left
  · refine ld6 (s1.get (k := 1) rfl) (great_ok (a := a) fun y D fD => ⟨_, rfl, fun _ => k D (s1.more fD).frno, fun _ => ?_⟩)
    have s2 := s1.more fD
    refine ld6 (s2.get (k := 0) rfl) (great_ok (a := c) fun y E fE => ⟨_, rfl, fun _ => k E (s2.more fE).frno, fun _ => ⟨fun _ => k E (s2.more fE).frno, fun _ => s2.more fE⟩⟩)
  intro D s2 scr
  refine ld6 (s2.get (k := 1) rfl) (own_ok (a := a) fun E fE => ⟨_, _, _, _, _, _, rfl, ?_⟩)
  have s3 := s2.more fE
  refine ntext_ok ha (ht.more s3.frno) fun F fF => ?_
  have s4 := s3.more fF
  obtain ⟨ta, ea, eta, hta⟩ : ∃ (ta : List UInt8) (ea : Int), (if RightP a then Value.tuple #[.string (str (textL a)), .int .i64 0] else .tuple #[.string ⟨#[]⟩, .int .i64 11]) = .tuple #[.string (str ta), .int .i64 ea] ∧ ((ea == 0) = true → RightP a ∧ ta = textL a) := by
    by_cases h : RightP a
    · exact ⟨textL a, 0, by rw [if_pos h], fun _ => ⟨h, rfl⟩⟩
    · exact ⟨[], 11, by rw [if_neg h]; rfl, (fun h => by cases h)⟩
  obtain ⟨tc, ec, etc, htc⟩ : ∃ (tc : List UInt8) (ec : Int), (if RightP c then Value.tuple #[.string (str (textL c)), .int .i64 0] else .tuple #[.string ⟨#[]⟩, .int .i64 11]) = .tuple #[.string (str tc), .int .i64 ec] ∧ ((ec == 0) = true → RightP c ∧ tc = textL c) := by
    by_cases h : RightP c
    · exact ⟨textL c, 0, by rw [if_pos h], fun _ => ⟨h, rfl⟩⟩
    · exact ⟨[], 11, by rw [if_neg h]; rfl, (fun h => by cases h)⟩
  rw [eta]
  refine ⟨_, _, rfl, ld6 (s4.get (k := 0) rfl) (own_ok (a := c) fun G fG => ⟨_, _, _, _, _, _, rfl, ?_⟩)⟩
  have s5 := s4.more fG
  refine ntext_ok hc (ht.more s5.frno) fun I fI => ?_
  have s6 := s5.more fI
  rw [etc]
  refine ⟨_, _, rfl, fun J => Sym H no J [blk bB (ndV c) 37, blk bA (ndV a) 37], ?_, fun h0 => ?_, fun _ => s6⟩
  · intro J s7 scr1
    refine ⟨fun M => Fr no H M, ?_, fun h1 => ⟨fun h2 => ?_, fun _ => s7.frno⟩, fun _ => s7.frno⟩
    · intro M fM scr2
      refine readX_ok hl (ht.more fM) fun N fN => ⟨_, _, _, _, _, _, _, rfl, ?_⟩
      intro bN O hO
      have t0 := ((Sym.start H).more (fM.trans fN)).newb (cs := ndV zN) hO
      refine t0.stbs (k := 0) (i := 0) (vs := ndV (rres (readN l)).1) rfl (by simp [ndV]) (ndV_one _) fun P t1 => ?_
      replace t1 : Sym H no P [blk bN (ndV (rres (readN l)).1) 41] := t1
      cases hr : readN l with
      | none => exact ⟨fun _ => k P t1.frno, (fun h => by cases h)⟩
      | some n =>
        rw [hr] at t1
        replace t1 : Sym H no P [blk bN (ndV n) 41] := t1
        obtain ⟨hrp, htl⟩ := readN_iff.1 hr
        refine ⟨(fun h => by cases h), fun _ => ld6 (t1.get (k := 0) rfl) (ntext_ok (read_sm hl hr) (ht.more t1.frno) fun Q fQ => ?_)⟩
        rw [if_pos hrp, htl]
        refine ⟨_, _, rfl, fun _ => ?_, (fun h => by cases h)⟩
        rw [beqS_iff.2 rfl]
        exact k Q (t1.more fQ).frno
    · obtain ⟨ra, rfl⟩ := hta h1
      obtain ⟨rc, rfl⟩ := htc h2
      refine ld6 (s7.get (k := 1) rfl) (ld6 (s7.get (k := 0) rfl) ⟨fun h => ?_, fun _ => s7.frno⟩)
      rw [eqN, beq_str] at h
      exfalso
      have : decide (textL a = textL c) = decide (a = c) := decide_eq_decide.2 ⟨text_inj ra rc, fun h => by rw [h]⟩
      rw [this] at h
      simp at h
  · obtain ⟨ra, rfl⟩ := hta h0
    have hla := body_len ra
    have er : readN (textL a) = some a := readN_iff.2 ⟨ra, rfl⟩
    refine readX_ok (by omega) (ht.more s6.frno) fun J fJ => ?_
    rw [er]
    refine ⟨_, _, _, _, _, _, _, rfl, ?_⟩
    intro bN M hM
    have s7 := (s6.more fJ).newb (cs := ndV zN) hM
    refine s7.stbs (k := 0) (i := 0) (vs := ndV a) rfl (by simp [ndV]) (ndV_one _) fun N s8 => ⟨(fun h => by cases h), fun _ => ?_⟩
    replace s8 : Sym H no N [blk bN (ndV a) 41, blk bB (ndV c) 37, blk bA (ndV a) 37] := s8
    have s9 : Sym H no N [blk bB (ndV c) 37, blk bA (ndV a) 37] := s8.drop
    refine ld6 (s8.get (k := 2) rfl) ⟨ld6 (s8.get (k := 0) rfl) (own_ok (a := a) fun O fO => ⟨_, _, _, _, _, _, rfl, fun h => ?_, fun _ => s9.more fO⟩), own_ok (a := a) fun O fO => ⟨_, _, _, _, _, _, rfl, ld6 ((s8.more fO).get (k := 0) rfl) ⟨fun h => ?_, fun _ => s9.more fO⟩⟩⟩
    · rw [eqN_self] at h; cases h
    · rw [eqN_self] at h; cases h
end
end Go.Proofs.YthaejcmllibeoaaDoor.L14

