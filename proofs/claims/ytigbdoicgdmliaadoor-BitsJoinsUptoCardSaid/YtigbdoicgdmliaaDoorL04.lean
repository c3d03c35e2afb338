/- weftlaw04's laws over heaps. -/
import Derived.Test.YtigbdoicgdmliaaDoorC04E
set_option linter.unusedVariables false
set_option linter.unusedSimpArgs false
-- tInt: 3
-- list: 18
-- rSame: 17
-- tBk: 70
-- tPSet: 23
-- len: 13
-- tSet: 26
-- tRef: 28
-- works: 19
-- lawDoes: 3
-- lawJoins: 4
-- lawJ1: 24
namespace Go.Proofs.YtigbdoicgdmliaaDoor.L04
open Go Go.V Go.Proofs Go.Proofs.YtigbdoicgdmliaaDoor.N04 Go.Proofs.YtigbdoicgdmliaaDoor.P04 Go.Proofs.YtigbdoicgdmliaaDoor.C04
attribute [local irreducible] Cvt ExtF CallF hrun App MkS callV
section
variable {H : Hp} {K : Value → Hp → Prop} {Z : List PanicEntry → Hp → Prop}
theorem w1 : (tells (ofL [3, 70, 3])).length = 2 := by decide +kernel
theorem w2 : (ofL [3, 70, 3]).length = 2 := by decide +kernel
theorem w3 : (tells (orB (ofL [1, 2]) (ofL [2, 3]))).length - (tells (ofL [1, 2])).length = 1 := by
  have h1 := ofL_wf [1, 2]
  have h2 := ofL_wf [2, 3]
  rw [← joinL_eq h1 h2 (ofL_sm _)]
  decide +kernel
theorem works_ok (k : ∀ H', Fr no H H' → K (.bool true) H') : CallF Tryd.prog 19 #[] H K Z := by
  refine V19_ok ?_
  unfold V19
  intro b A hA
  have sA := (Sym.start H).lit (l := [(3 : Int), 70, 3]) FlI (by decide) hA (show 3 = 3 from rfl)
  refine of_ok (l := [3, 70, 3]) (sA.rd (k := 0) FlI (by decide) rfl) (by decide) fun b1 s1 B sB => ⟨_, rfl, ?_⟩
  have tB := sA.join sB
  intro b2 C hC
  have tC := tB.lit (l := [(1 : Int), 2]) FlI (by decide) hC (show 2 = 2 from rfl)
  refine of_ok (l := [1, 2]) (tC.rd (k := 0) FlI (by decide) rfl) (by decide) fun b3 s3 D sD => ⟨_, rfl, ?_⟩
  have tD := tC.join sD
  have hS1 : HasS D ⟨b1, 0, none⟩ (ofL [3, 70, 3]) := ⟨s1, tD.ld (k := 3) rfl 0, tD.rd (k := 4) FlK (by decide) rfl⟩
  have l1 := ofL_len [3, 70, 3]
  have l2 := ofL_len [1, 2]
  have l3 := ofL_len [2, 3]
  refine len_ok (ofL_wf _) (by simp only [List.length_cons, List.length_nil] at l1; omega) hS1 fun E fE => ⟨_, rfl, fun _ => ?_, fun hc => by rw [w1] at hc; cases hc⟩
  refine blocks_ok (ofL_wf _) (hS1.more fE) ⟨_, rfl, fun _ => ?_, fun hc => by rw [w2] at hc; cases hc⟩
  intro b4 F hF
  have tF := (tD.more fE).lit (l := [(2 : Int), 3]) FlI (by decide) hF (show 2 = 2 from rfl)
  refine of_ok (l := [2, 3]) (tF.rd (k := 0) FlI (by decide) rfl) (by decide) fun b5 s5 G sG => ⟨_, rfl, ?_⟩
  have tG := (tF.join sG).re [3, 4, 0, 1] (by decide)
  refine join_ok (R := [_, _]) tG ⟨s5, tG.ld (k := 2) rfl 0, tG.rd (k := 3) FlK (by decide) rfl⟩ (ofL_wf _) (ofL_wf _) (by simp only [List.length_cons, List.length_nil] at l2; omega) (by simp only [List.length_cons, List.length_nil] at l3; omega) fun s' I sI => ⟨_, rfl, ?_⟩
  rw [w3]
  exact k I sI.frno
theorem okLJ1 : fnOk Tryd.prog 24 = true := by kernel_rfl
theorem stop_ok (x : Int) : ∃ p : Nat, p ≤ 19 ∧ w64 (Int.tmod (IntKind.wrap .u64 x) 20) = (p : Int) := by
  have e : IntKind.wrap .u64 x = x % 18446744073709551616 := by
    simp only [IntKind.wrap, IntKind.bits, IntKind.signed, Int.reducePow, Nat.reduceSub, Bool.false_and, Bool.false_eq_true, if_false]
  have h0 : 0 ≤ x % 18446744073709551616 := Int.emod_nonneg _ (by decide)
  rw [e, Int.tmod_eq_emod_of_nonneg h0, wid (by omega) (by omega)]
  exact ⟨(x % 18446744073709551616 % 20).toNat, by omega, by omega⟩
theorem lawJoins_ok {l m : Sl} {ll ml : List Int} {stop : Int} (hl : Rd flI 1 H l ll) (hm : Rd flI 1 H m ml) (ht : TabH Tryd.prog H "math/bits.deBruijn64tab" .u8 tabDb) (k : ∀ H', Fr no H H' → K (.bool true) H') :
    CallF Tryd.prog 4 #[.slice l.a l.n l.c, .slice m.a m.n m.c, .int .i64 stop] H K Z := by
  refine V4_ok ?_
  unfold V4
  have nl := hl.len
  have nm := hm.len
  intro bStop A hA
  have sA : Sym H no A [blk bStop [.int .i64 stop] 3] := (Sym.start H).newb (cs := [.int .i64 stop]) hA
  refine works_ok fun B fB => ⟨_, rfl, (fun h => by cases h), fun _ => ?_⟩
  have sB := sA.more fB
  refine ⟨fun C => C = B ∧ ll.length ≤ 200 ∧ ml.length ≤ 200, ?_, fun _ => k B sB.frno, fun h1 => ⟨fun _ => k B sB.frno, fun h2 => ⟨rfl, by have := of_decide_eq_false h1; omega, by have := of_decide_eq_false h2; omega⟩⟩⟩
  rintro C ⟨hC, h1, h2⟩ scr
  subst C
  have la := ofL_len ll
  have lb := ofL_len ml
  have wa := ofL_wf ll
  have wb := ofL_wf ml
  have lab := orB_len wa wb
  have lba := orB_len wb wa
  have mba := orB_more wb wa
  refine of_ok (hl.more sB.frno) (by omega) fun b1 s1 C sC => ⟨_, rfl, ?_⟩
  have tC := sB.join sC
  refine of_ok (hm.more tC.frno) (by omega) fun b2 s2 D sD => ⟨_, rfl, ?_⟩
  have tD := tC.join sD
  have p1 : HasS D ⟨b1, 0, none⟩ (ofL ll) := ⟨s1, tD.ld (k := 2) rfl 0, tD.rd (k := 3) FlK (by decide) rfl⟩
  have p2 : HasS D ⟨b2, 0, none⟩ (ofL ml) := ⟨s2, tD.ld (k := 0) rfl 0, tD.rd (k := 1) FlK (by decide) rfl⟩
  refine less_ok p1 p2 wa wb (by omega) (by omega) fun b3 s3 E sE => ⟨_, rfl, ?_⟩
  have tE := tD.join sE
  refine both_ok (p1.more sE.frno) (p2.more sE.frno) wa wb (by omega) (by omega) fun b4 s4 F sF => ⟨_, rfl, ?_⟩
  have tF := tE.join sF
  have wl := lessB_wf wa wb
  have wo := bothB_wf wa wb
  have hpl := parted_len wa wb
  refine ⟨fun G => Sym H no G [blk b4 [.slice s4.a s4.n s4.c] 26, arr flK 70 2 s4 (bothB (ofL ll) (ofL ml)), blk b3 [.slice s3.a s3.n s3.c] 26, arr flK 70 2 s3 (lessB (ofL ll) (ofL ml)), blk b2 [.slice s2.a s2.n s2.c] 26, arr flK 70 2 s2 (ofL ml), blk b1 [.slice s1.a s1.n s1.c] 26, arr flK 70 2 s1 (ofL ll), blk bStop [.int .i64 stop] 3], ?_, ?_⟩
  rotate_left
  · -- what is in one alone, and in both
    have p3 : HasS F ⟨b3, 0, none⟩ (lessB (ofL ll) (ofL ml)) := ⟨s3, tF.ld (k := 2) rfl 0, tF.rd (k := 3) FlK (by decide) rfl⟩
    have p4 : HasS F ⟨b4, 0, none⟩ (bothB (ofL ll) (ofL ml)) := ⟨s4, tF.ld (k := 0) rfl 0, tF.rd (k := 1) FlK (by decide) rfl⟩
    have p1' : HasS F ⟨b1, 0, none⟩ (ofL ll) := ⟨s1, tF.ld (k := 6) rfl 0, tF.rd (k := 7) FlK (by decide) rfl⟩
    refine len_ok wl (by omega) p3 fun G fG => ⟨_, rfl, len_ok wo (by omega) (p4.more fG) fun G2 fG2 => ⟨_, rfl, len_ok wa (by omega) ((p1'.more fG).more fG2) fun G3 fG3 => ⟨_, rfl, fun hne => ?_, fun _ => ?_⟩⟩⟩
    · exfalso
      rw [wid (by omega) (by omega)] at hne
      have : ¬ ((tells (lessB (ofL ll) (ofL ml))).length : Int) + ((tells (bothB (ofL ll) (ofL ml))).length : Int) = ((tells (ofL ll)).length : Int) := by simpa using hne
      omega
    · refine both_ok (((p3.more fG).more fG2).more fG3) (((p4.more fG).more fG2).more fG3) wl wo (by omega) (by omega) fun b5 s5 G4 sG4 => ⟨_, rfl, ?_⟩
      rw [parted_none wa wb] at sG4
      refine len_ok wf_nil (by decide) ⟨s5, sG4.ld (k := 0) rfl 0, sG4.rd (k := 1) FlK (by decide) rfl⟩ fun G5 fG5 => ⟨_, rfl, (fun h => by cases h), fun _ => ?_⟩
      exact (((((tF.more fG).more fG2).more fG3).more sG4.frno).more fG5)
  intro G sG scr1
  have sG1 := sG.re [2, 3, 0, 1, 4, 5, 6, 7, 8] (by decide)
  refine join_ok (R := [_, _, _, _, _, _, _]) sG1 ⟨s4, sG1.ld (k := 2) rfl 0, sG1.rd (k := 3) FlK (by decide) rfl⟩ wl wo (by omega) (by omega) fun s3' I sI => ⟨_, rfl, ?_⟩
  rw [parted_all wa wb] at sI
  refine same_ok wa (by omega) ⟨s3', sI.ld (k := 0) rfl 0, sI.rd (k := 1) FlK (by decide) rfl⟩ ⟨s1, sI.ld (k := 6) rfl 0, sI.rd (k := 7) FlK (by decide) rfl⟩ ⟨_, rfl, (fun hc => by rw [decide_eq_true rfl] at hc; cases hc), fun _ => ?_⟩
  refine of_ok (hm.more sI.frno) (by omega) fun b7 s7 M sM => ⟨_, rfl, ?_⟩
  have tM := (sI.join sM).re [8, 9, 6, 7, 0, 1, 10] (by decide)
  refine join_ok (R := [_, _, _, _, _]) tM ⟨s2, tM.ld (k := 2) rfl 0, tM.rd (k := 3) FlK (by decide) rfl⟩ wa wb (by omega) (by omega) fun s1' N sN => ⟨_, rfl, ?_⟩
  refine of_ok (hl.more sN.frno) (by omega) fun b9 s9 O sO => ⟨_, rfl, ?_⟩
  have tO := (sN.join sO).re [6, 7, 0, 1, 2, 3, 4, 5, 8] (by decide)
  refine join_ok (R := [_, _, _, _, _, _, _]) tO ⟨s9, tO.ld (k := 2) rfl 0, tO.rd (k := 3) FlK (by decide) rfl⟩ wb wa (by omega) (by omega) fun s7' P sP => ⟨_, rfl, ?_⟩
  have wab := orB_wf wa wb
  rw [← orB_comm wa wb] at sP lba mba
  refine ⟨fun Q => Sym H no Q [blk b7 [.slice s7'.a s7'.n s7'.c] 26, arr flK 70 2 s7' (orB (ofL ll) (ofL ml)), blk b9 [.slice s9.a s9.n s9.c] 26, arr flK 70 2 s9 (ofL ll), blk b1 [.slice s1'.a s1'.n s1'.c] 26, arr flK 70 2 s1' (orB (ofL ll) (ofL ml)), blk b2 [.slice s2.a s2.n s2.c] 26, arr flK 70 2 s2 (ofL ml), blk bStop [.int .i64 stop] 3], ?_, ?_⟩
  rotate_left
  · have q1 : HasS P ⟨b1, 0, none⟩ (orB (ofL ll) (ofL ml)) := ⟨s1', sP.ld (k := 4) rfl 0, sP.rd (k := 5) FlK (by decide) rfl⟩
    have q7 : HasS P ⟨b7, 0, none⟩ (orB (ofL ll) (ofL ml)) := ⟨s7', sP.ld (k := 0) rfl 0, sP.rd (k := 1) FlK (by decide) rfl⟩
    have q2 : HasS P ⟨b2, 0, none⟩ (ofL ml) := ⟨s2, sP.ld (k := 6) rfl 0, sP.rd (k := 7) FlK (by decide) rfl⟩
    refine same_ok wab (by omega) q1 q7 ⟨_, rfl, (fun hc => by rw [decide_eq_true rfl] at hc; cases hc), fun _ => ?_⟩
    refine len_ok wab (by omega) q1 fun Q fQ => ⟨_, rfl, len_ok wb (by omega) (q2.more fQ) fun Q2 fQ2 => ⟨_, rfl, fun hne => ?_, fun _ => ⟨fun hneg => ?_, fun _ => ?_⟩⟩⟩
    · exfalso
      rw [← orB_comm wa wb] at hne
      rw [wid (by omega) (by omega)] at hne
      have : ¬ ((tells (orB (ofL ll) (ofL ml))).length : Int) = ((tells (ofL ml)).length : Int) + (((tells (orB (ofL ll) (ofL ml))).length - (tells (ofL ml)).length : Nat) : Int) := by simpa using hne
      omega
    · exfalso
      have := of_decide_eq_true hneg
      omega
    · exact (sP.more fQ).more fQ2
  intro Q sQ scr2
  intro bTold Q1 hQ1
  have t1 := sQ.newb (cs := [.int .i64 0]) hQ1
  refine t1.stb (k := 0) (i := 0) rfl (by simp) rfl fun Q2 t2 => ?_
  refine ⟨_, t2.ld (k := 9) rfl 0, ?_⟩
  obtain ⟨p, hp, ep⟩ := stop_ok stop
  rw [ep]
  refine t2.stb (k := 9) (i := 0) rfl (by simp) rfl fun Q3 t3 => ?_
  refine each_ok fun bS Q4 hQ4 => ⟨_, rfl, ?_⟩
  have t4 := t3.newb (cs := [.pointer (some ⟨b1, 0, none⟩)]) hQ4
  have t5 := t4.re [1, 10, 0, 6, 7] (by decide)
  unfold callV
  simp only [okE1, if_true]
  have hq : HasS Q4 ⟨b1, 0, none⟩ (orB (ofL ll) (ofL ml)) := ⟨s1', t5.ld (k := 3) rfl 0, t5.rd (k := 4) FlK (by decide) rfl⟩
  -- the end
  have fin : ∀ (t : Nat) (X : List It) (B : Hp), X = [blk bTold [.int .i64 (t : Int)] 3, blk bStop [.int .i64 (p : Int)] 3] → (t = (tells (orB (ofL ll) (ofL ml))).length ∧ t ≤ p ∨ t = p + 1 ∧ t ≤ (tells (orB (ofL ll) (ofL ml))).length) →
      Sym H no B (X ++ [blk bS [.pointer (some ⟨b1, 0, none⟩)] 23, blk b1 [.slice s1'.a s1'.n s1'.c] 26, arr flK 70 2 s1' (orB (ofL ll) (ofL ml))]) →
      ((Value.tuple #[]) = .tuple #[] ∧ ∃ x1 : Int, hcell B ⟨bTold, 0, none⟩ = some (.int .i64 x1) ∧ ∃ x2 : Int, hcell B ⟨bStop, 0, none⟩ = some (.int .i64 x2) ∧ 
        CallF Tryd.prog 13 #[.pointer (some ⟨b1, 0, none⟩)] B (fun r13 H21 => ∃ y12 : Int, r13 = .int .i64 y12 ∧ (hcell H21 ⟨bStop, 0, none⟩ = some (.int .i64 x2) ∧ 
        (hcell H21 ⟨bTold, 0, none⟩ = some (.int .i64 x1) ∧ K (.bool (x1 == (if y12 < (w64 (x2 + 1)) then y12 else (w64 (x2 + 1))))) H21))) Z) := by
    rintro t X B rfl ht sB
    refine ⟨rfl, _, sB.ld (k := 0) rfl 0, _, sB.ld (k := 1) rfl 0, len_ok wab (by omega) ⟨s1', sB.ld (k := 3) rfl 0, sB.rd (k := 4) FlK (by decide) rfl⟩ fun C fC => ⟨_, rfl, ?_⟩⟩
    have sC := sB.more fC
    refine ⟨sC.ld (k := 1) rfl 0, sC.ld (k := 0) rfl 0, ?_⟩
    have e : ((t : Int) == (if ((tells (orB (ofL ll) (ofL ml))).length : Int) < (w64 ((p : Int) + 1)) then ((tells (orB (ofL ll) (ofL ml))).length : Int) else (w64 ((p : Int) + 1)))) = true := by
      rw [wi (by omega), beq_iff_eq]
      split <;> omega
    rw [e]
    exact k C sC.frno
  refine each1_ok (H0 := H) (R := [blk bS [.pointer (some ⟨b1, 0, none⟩)] 23, blk b1 [.slice s1'.a s1'.n s1'.c] 26, arr flK 70 2 s1' (orB (ofL ll) (ofL ml))]) (X := [blk bTold [.int .i64 0] 3, blk bStop [.int .i64 (p : Int)] 3])
    (P := fun r X => ∃ t : Nat, X = [blk bTold [.int .i64 (t : Int)] 3, blk bStop [.int .i64 (p : Int)] 3] ∧ t + r.length = (tells (orB (ofL ll) (ofL ml))).length ∧ t ≤ p)
    (Fin := fun X => ∃ t : Nat, X = [blk bTold [.int .i64 (t : Int)] 3, blk bStop [.int .i64 (p : Int)] 3] ∧ t = p + 1 ∧ t ≤ (tells (orB (ofL ll) (ofL ml))).length) ?_ ht wab (by omega) hq ⟨0, rfl, by simp, by omega⟩ t5 (t5.ld (k := 2) rfl 0) ?_ ?_
  · rintro n r X R A' K' ⟨t, rfl, ht1, ht2⟩ u1 k1 k2
    unfold callV
    simp only [okLJ1, if_true]
    refine V24_ok ?_
    unfold V24
    rw [List.length_cons] at ht1
    refine ⟨_, u1.ld (k := 0) rfl 0, ?_⟩
    rw [wi (by omega)]
    refine u1.stb (k := 0) (i := 0) rfl (by simp) rfl fun B u2 => ?_
    refine ⟨_, u2.ld (k := 0) rfl 0, _, u2.ld (k := 1) rfl 0, ?_⟩
    by_cases hle : t + 1 ≤ p
    · have e : decide (((t + 1 : Nat) : Int) ≤ (p : Int)) = true := decide_eq_true (by omega)
      rw [e]
      exact k1 _ B ⟨t + 1, rfl, by omega, hle⟩ u2
    · have e : decide (((t + 1 : Nat) : Int) ≤ (p : Int)) = false := decide_eq_false (by omega)
      rw [e]
      exact k2 _ B ⟨t + 1, rfl, by omega, by omega⟩ u2
  · rintro X B ⟨t, eX, h1, h2⟩ sB
    exact fin t X B eX (.inl ⟨by simpa using h1, h2⟩) sB
  · rintro X B ⟨t, eX, h1, h2⟩ sB
    exact fin t X B eX (.inr ⟨h1, h2⟩) sB
/-- an operation: its kind and its number -/
def flO (o : Int × Int) : List Value := [.int .i64 o.1, .int .i64 o.2]
theorem FlO : Fl flO 2 := ⟨fun _ => rfl, fun x v hv => by
  unfold flO at hv
  simp only [List.mem_cons, List.not_mem_nil, or_false] at hv
  rcases hv with rfl | rfl <;> rfl⟩
/-- two sets, and what the document has of them -/
structure Two (H A : Hp) (b b1 : Nat) (c d : Sl) (al bl : List Bk) (U : List Nat) : Prop where
  wa : Wf al
  wb : Wf bl
  sa : Sm al
  sb : Sm bl
  u : ∀ x, Mem al x ∨ Mem bl x → x ∈ U
  mem : ∃ s t : Sl, Sym H no A [blk b [.slice s.a s.n s.c] 26, arr flK 70 2 s al, blk b1 [.slice t.a t.n t.c] 26, arr flK 70 2 t bl, arr flN 3 1 c (tells al), arr flN 3 1 d (tells bl)]
theorem Two.more {A B : Hp} {b b1 : Nat} {c d : Sl} {al bl : List Bk} {U : List Nat} (h : Two H A b b1 c d al bl U) (hf : Fr no A B) : Two H B b b1 c d al bl U := by
  obtain ⟨s, t, hm⟩ := h.mem
  exact ⟨h.wa, h.wb, h.sa, h.sb, h.u, s, t, hm.more hf⟩
theorem Two.fr {A : Hp} {b b1 : Nat} {c d : Sl} {al bl : List Bk} {U : List Nat} (h : Two H A b b1 c d al bl U) : Fr no H A := by
  obtain ⟨s, t, hm⟩ := h.mem
  exact hm.frno
theorem Two.la {A : Hp} {b b1 : Nat} {c d : Sl} {al bl : List Bk} {U : List Nat} (h : Two H A b b1 c d al bl U) : (tells al).length ≤ U.length ∧ (tells bl).length ≤ U.length :=
  ⟨nodup_len ((tells_up h.wa).imp fun h => Nat.ne_of_lt h) fun x hx => h.u x (.inl ((mem_tells h.wa).1 hx)), nodup_len ((tells_up h.wb).imp fun h => Nat.ne_of_lt h) fun x hx => h.u x (.inr ((mem_tells h.wb).1 hx))⟩
theorem Two.at {A : Hp} {b b1 : Nat} {c d : Sl} {al bl : List Bk} {U : List Nat} (h : Two H A b b1 c d al bl U) : HasS A ⟨b, 0, none⟩ al ∧ HasS A ⟨b1, 0, none⟩ bl ∧ Rd flN 1 A c (tells al) ∧ Rd flN 1 A d (tells bl) := by
  obtain ⟨s, t, hm⟩ := h.mem
  exact ⟨⟨s, hm.ld (k := 0) rfl 0, hm.rd (k := 1) FlK (by decide) rfl⟩, ⟨t, hm.ld (k := 2) rfl 0, hm.rd (k := 3) FlK (by decide) rfl⟩, hm.rd (k := 4) FlN (by decide) rfl, hm.rd (k := 5) FlN (by decide) rfl⟩
theorem Two.swap {A : Hp} {b b1 : Nat} {c d : Sl} {al bl : List Bk} {U : List Nat} (h : Two H A b b1 c d al bl U) : Two H A b1 b d c bl al U := by
  obtain ⟨s, t, hm⟩ := h.mem
  exact ⟨h.wb, h.wa, h.sb, h.sa, fun x hx => h.u x hx.symm, t, s, hm.re [2, 3, 0, 1, 5, 4] (by decide)⟩
theorem Two.wide {A : Hp} {b b1 : Nat} {c d : Sl} {al bl : List Bk} {U : List Nat} (h : Two H A b b1 c d al bl U) (x : Nat) : Two H A b b1 c d al bl (x :: U) :=
  ⟨h.wa, h.wb, h.sa, h.sb, fun y hy => List.mem_cons_of_mem _ (h.u y hy), h.mem⟩
-- add: 7
-- rAdd: 8
-- join: 9
-- rJoin: 10
theorem Two.add {A : Hp} {b b1 : Nat} {c d : Sl} {al bl : List Bk} {U : List Nat} {n : Int} {Kx : Sl → Bool → Bool → Hp → Prop} (h : Two H A b b1 c d al bl U) (hu : U.length ≤ 1000)
    (k : ∀ c' y B, Two H B b b1 c' d (addB al n) bl (n.toNat :: U) → Kx c' y y B) :
    CallF Tryd.prog 7 #[.pointer (some ⟨b, 0, none⟩), .int .i64 n] A (fun r7 H13 => ∃ y8 : Bool, r7 = .bool y8 ∧ CallF Tryd.prog 8 #[.slice c.a c.n c.c, .int .i64 n] H13 (fun r8 H14 => 
    ∃ y_0 : Sl, ∃ y_1 : Bool, r8 = .tuple #[.slice y_0.a y_0.n y_0.c, .bool y_1] ∧ (Kx y_0 y8 y_1 H14)) Z) Z := by
  have hl := h.la
  obtain ⟨s, t, hm⟩ := h.mem
  refine add_ok (R := [_, _, _, _]) hm h.wa (by omega) fun s' B sB => ⟨_, rfl, ?_⟩
  have sB' : Sym H no B [blk b [.slice s'.a s'.n s'.c] 26, arr flK 70 2 s' (addB al n), blk b1 [.slice t.a t.n t.c] 26, arr flK 70 2 t bl, arr flN 3 1 c (tells al), arr flN 3 1 d (tells bl)] := sB
  refine radd_ok (sB'.rd (k := 4) FlN (by decide) rfl) (by omega) fun c' C oC => ⟨c', _, rfl, ?_⟩
  have sC := (oC.put (sB'.re [4, 0, 1, 2, 3, 5] (by decide))).re [1, 2, 3, 4, 0, 5] (by decide)
  rw [addL_eq h.wa] at sC
  rw [newL_eq h.wa]
  refine k c' _ C ⟨addB_wf h.wa n, h.wb, h.sa.add h.wa n, h.sb, fun x hx => ?_, s', t, sC⟩
  rcases hx with hx | hx
  · unfold addB at hx
    split at hx
    · exact List.mem_cons_of_mem _ (h.u x (.inl hx))
    · rcases (putB_mem h.wa).1 hx with rfl | hx
      · exact List.mem_cons_self
      · exact List.mem_cons_of_mem _ (h.u x (.inl hx))
  · exact List.mem_cons_of_mem _ (h.u x (.inr hx))
theorem Two.join {A : Hp} {b b1 : Nat} {c d : Sl} {al bl : List Bk} {U : List Nat} {Kx : Sl → Int → Int → Hp → Prop} (h : Two H A b b1 c d al bl U) (hu : U.length ≤ 1000)
    (k : ∀ c' y B, Two H B b b1 c' d (orB al bl) bl U → Kx c' y y B) :
    CallF Tryd.prog 9 #[.pointer (some ⟨b, 0, none⟩), .pointer (some ⟨b1, 0, none⟩)] A (fun r11 H17 => ∃ y10 : Int, r11 = .int .i64 y10 ∧ CallF Tryd.prog 10 #[.slice c.a c.n c.c, .slice d.a d.n d.c] H17 (fun r12 H18 => 
    ∃ y_02 : Sl, ∃ y_12 : Int, r12 = .tuple #[.slice y_02.a y_02.n y_02.c, .int .i64 y_12] ∧ (Kx y_02 y10 y_12 H18)) Z) Z := by
  have hl := h.la
  have hat := h.at
  obtain ⟨s, t, hm⟩ := h.mem
  refine join_ok (R := [_, _, _, _]) hm hat.2.1 h.wa h.wb (by omega) (by omega) fun s' B sB => ⟨_, rfl, ?_⟩
  have sB' : Sym H no B [blk b [.slice s'.a s'.n s'.c] 26, arr flK 70 2 s' (orB al bl), blk b1 [.slice t.a t.n t.c] 26, arr flK 70 2 t bl, arr flN 3 1 c (tells al), arr flN 3 1 d (tells bl)] := sB
  refine rjoin_ok (sB'.rd (k := 4) FlN (by decide) rfl) (sB'.rd (k := 5) FlN (by decide) rfl) (by omega) (by omega) fun c' C oC => ⟨c', _, rfl, ?_⟩
  have sC := (oC.put (sB'.re [4, 0, 1, 2, 3, 5] (by decide))).re [1, 2, 3, 4, 0, 5] (by decide)
  rw [joinL_eq h.wa h.wb h.sb] at sC
  rw [joinL_eq h.wa h.wb h.sb]
  refine k c' _ C ⟨orB_wf h.wa h.wb, h.wb, orB_sm h.wa h.wb h.sa h.sb, h.sb, fun x hx => ?_, s', t, sC⟩
  rcases hx with hx | hx
  · exact h.u x ((orB_mem h.wa h.wb x).1 hx)
  · exact h.u x (.inr hx)
theorem Two.self {A : Hp} {b b1 : Nat} {c d : Sl} {al bl : List Bk} {U : List Nat} {Kx : Value → Hp → Prop} (h : Two H A b b1 c d al bl U) (hu : U.length ≤ 1000)
    (k : ∀ B, Two H B b b1 c d al bl U → Kx (.int .i64 0) B) : CallF Tryd.prog 9 #[.pointer (some ⟨b, 0, none⟩), .pointer (some ⟨b, 0, none⟩)] A Kx Z := by
  have hl := h.la
  have hat := h.at
  obtain ⟨s, t, hm⟩ := h.mem
  refine join_ok (R := [_, _, _, _]) hm hat.1 h.wa h.wa (by omega) (by omega) fun s' B sB => ?_
  rw [orB_self h.wa] at sB ⊢
  rw [Nat.sub_self]
  exact k B ⟨h.wa, h.wb, h.sa, h.sb, h.u, s', t, sB⟩
theorem lawDoes_ok {l : Sl} {ll : List (Int × Int)} (hl : Rd flO 2 H l ll) (hlb : ll.length ≤ 1048576) (hb : ∀ x ∈ ll, x.2 ≤ 9223372036854775807) (ht : TabH Tryd.prog H "math/bits.deBruijn64tab" .u8 tabDb) (k : ∀ H', Fr no H H' → K (.bool true) H') :
    CallF Tryd.prog 3 #[.slice l.a l.n l.c] H K Z := by
  refine V3_ok ?_
  unfold V3
  have nl := hl.len
  intro b A hA b1 B hB
  have sB : Sym H no B [blk b [.slice none 0 0] 26, arr flK 70 2 ⟨none, 0, 0⟩ [], blk b1 [.slice none 0 0] 26, arr flK 70 2 ⟨none, 0, 0⟩ [], arr flN 3 1 ⟨none, 0, 0⟩ [], arr flN 3 1 ⟨none, 0, 0⟩ []] :=
    ((((((((Sym.start H).newb (cs := [.slice none 0 0]) hA).newb (cs := [.slice none 0 0]) hB).nilrow flK 70 2).nilrow flK 70 2).nilrow flN 3 1).nilrow flN 3 1)).re [5, 2, 4, 3, 0, 1] (by decide)
  refine ⟨fun c d i C m => ∃ (j : Nat) (al bl : List Bk) (U : List Nat), i = (j : Int) ∧ j ≤ ll.length ∧ j ≤ 150 ∧ m = ll.length - j ∧ U.length ≤ j ∧ Two H C b b1 c d al bl U, ⟨_, 0, [], [], [], rfl, Nat.zero_le _, Nat.zero_le _, rfl, Nat.le_refl _, wf_nil, wf_nil, Sm.nil, Sm.nil, fun x hx => ?_, ⟨none, 0, 0⟩, ⟨none, 0, 0⟩, sB⟩, ?_⟩
  · exfalso
    unfold Mem at hx
    rw [get_nil, Nat.zero_testBit] at hx
    simp at hx
  rintro c d i C m ⟨j, al, bl, U, rfl, hj, h150, rfl, hU, hT⟩ scr
  have hla := hT.la
  -- the end
  have fin : CallF Tryd.prog 18 #[.pointer (some ⟨b, 0, none⟩)] C (fun r16 H22 => ∃ y13 : Sl, r16 = .slice y13.a y13.n y13.c ∧ 
      CallF Tryd.prog 17 #[.slice y13.a y13.n y13.c, .slice c.a c.n c.c] H22 (fun r17 H23 => ∃ y14 : Bool, r17 = .bool y14 ∧ 
      ((y14 = true → CallF Tryd.prog 18 #[.pointer (some ⟨b1, 0, none⟩)] H23 (fun r18 H24 => ∃ y15 : Sl, r18 = .slice y15.a y15.n y15.c ∧ 
      CallF Tryd.prog 17 #[.slice y15.a y15.n y15.c, .slice d.a d.n d.c] H24 (fun r19 H25 => ∃ y16 : Bool, r19 = .bool y16 ∧ 
      K (.bool y16) H25) Z) Z) ∧ (y14 = false → K (.bool false) H23))) Z) Z := by
    obtain ⟨p1, p2, p3, p4⟩ := hT.at
    refine llist_ok hT.wa (by omega) p1 (ht.more hT.fr) fun y D fD rD => ⟨y, rfl, rsame_ok rD (p3.more fD) (by omega) ⟨_, rfl, fun _ => ?_, fun hc => by rw [decide_eq_true rfl] at hc; cases hc⟩⟩
    refine llist_ok hT.wb (by omega) (p2.more fD) (ht.more (hT.fr.trans fD)) fun y2 E fE rE => ⟨y2, rfl, rsame_ok rE ((p4.more fD).more fE) (by omega) ⟨_, rfl, ?_⟩⟩
    rw [decide_eq_true rfl]
    exact k E ((hT.fr.trans fD).trans fE)
  refine ⟨fun D => D = C ∧ j < ll.length ∧ j < 150, ?_, fun hlt => ⟨fun hlt2 => ⟨rfl, by have := dlt hlt; omega, by have := of_decide_eq_true hlt2; omega⟩, fun _ => fin⟩, fun _ => fin⟩
  rintro D ⟨hD, hjl, hj150⟩ scr1
  subst D
  have hx : ll[j]? = some ll[j] := List.getElem?_eq_getElem hjl
  generalize ll[j] = o at hx
  have hn := hb o (List.mem_of_getElem? hx)
  obtain ⟨kind, n⟩ := o
  have ixO : ∀ {Kx : Addr → Prop}, (∀ ad, hcell C ad = some (.int .i64 kind) → hcell C (ad.add 1) = some (.int .i64 n) → Kx ad) → IxA l.a l.n (j : Int) 2 Kx := fun kk =>
    Rd.ix (x := (kind, n)) (by decide) FlO (hl.more hT.fr) (by omega) (by simpa using hx) fun ad h1 h2 => kk ad h2 (h1 1 _ rfl)
  refine ixO fun ad e1 e2 => ⟨_, e2, fun c1 d1 m3 k3 x1 y1 E => m3 = k3 ∧ x1 = y1 ∧ ∃ (al' bl' : List Bk) (V : List Nat), V.length ≤ j + 1 ∧ Two H E b b1 c1 d1 al' bl' V, ?_, ?_⟩
  · rintro c1 d1 m3 k3 x1 y1 E ⟨rfl, rfl, al', bl', V, hV, hE⟩ scr2
    have hle := hE.la
    refine ⟨fun hc => ?_, fun _ => ⟨fun hc => ?_, fun _ => ?_⟩⟩
    · rw [beq_self_eq_true] at hc; cases hc
    · simp at hc
    obtain ⟨p1, p2, p3, p4⟩ := hE.at
    have hbx := tells_bd hE.wa
    refine has_ok hE.wa (by omega) hn p1 fun F fF => ⟨_, rfl, rhas_ok (p3.more fF) (by omega) ⟨_, rfl, fun hc => ?_, fun _ => ?_⟩⟩
    · rw [memZ_eq hE.wa, beq_self_eq_true] at hc
      cases hc
    refine len_ok hE.wa (by omega) (p1.more fF) fun G fG => ⟨_, rfl, fun hc => ?_, fun _ => ?_⟩
    · rw [p3.len] at hc
      simp at hc
    refine blocks_ok hE.wa ((p1.more fF).more fG) ⟨_, rfl, rblocks_ok ((p3.more fF).more fG) (by omega) (fun x hx => by have := hbx x hx; omega) ⟨_, rfl, fun hc => ?_, fun _ => ?_⟩⟩
    · rw [runs_tells hE.wa (by simp)] at hc
      simp at hc
    refine same_ok hE.wa (by omega) ((p1.more fF).more fG) ((p2.more fF).more fG) ⟨_, rfl, rsame_ok ((p3.more fF).more fG) ((p4.more fF).more fG) (by omega) ⟨_, rfl, fun hc => ?_, fun _ => ?_⟩⟩
    · have e : decide (tells al' = tells bl') = decide (al' = bl') := by
        rw [Bool.eq_iff_iff, decide_eq_true_eq, decide_eq_true_eq]
        exact tells_inj hE.wa hE.wb
      rw [e, beq_self_eq_true] at hc
      cases hc
    · exact ⟨ll.length - (j + 1), by omega, j + 1, al', bl', V, wi (by omega), by omega, by omega, rfl, hV, (hE.more fF).more fG⟩
  · refine ixO fun ad1 e3 e4 => ⟨_, e3, fun _ => ?_, fun _ => ⟨fun _ => ?_, fun _ => ⟨fun _ => ?_, fun _ => ⟨fun _ => ?_, fun _ => ⟨fun _ => ?_, fun _ => ?_⟩⟩⟩⟩⟩
    · exact hT.add (by omega) fun c' y E hE => ⟨rfl, rfl, _, _, _, by rw [List.length_cons]; omega, hE⟩
    · exact hT.swap.add (by omega) fun c' y E hE => ⟨rfl, rfl, _, _, _, by rw [List.length_cons]; omega, hE.swap⟩
    · exact hT.join (by omega) fun c' y E hE => ⟨rfl, rfl, _, _, _, by omega, hE⟩
    · exact hT.swap.join (by omega) fun c' y E hE => ⟨rfl, rfl, _, _, _, by omega, hE.swap⟩
    · exact hT.self (by omega) fun E hE => ⟨0, rfl, rfl, rfl, _, _, _, by omega, hE⟩
    · exact ⟨rfl, rfl, al, bl, U, by omega, hT⟩
end
end Go.Proofs.YtigbdoicgdmliaaDoor.L04

