/- shape and weftref10: types in writing. -/
import Derived.Test.YtigbdoicgdmliaaDoorC10
import Derived.Test.YtigbdoicgdmliaaDoorBldI
set_option linter.unusedVariables false
set_option linter.unusedSimpArgs false
-- tTy: 51
-- sText: 26
-- sTag: 28
-- qText: 27
-- qtext: 52
-- qTag: 29
-- deep: 48
-- great: 25
-- bString: 49
namespace Go.Proofs.YtigbdoicgdmliaaDoor.C10
open Go Go.V Go.Proofs Go.Proofs.YtigbdoicgdmliaaDoor.N10 Go.Proofs.YtigbdoicgdmliaaDoor.P10 Go.Proofs.YtigbdoicgdmliaaDoor.C10D Go.Proofs.YtigbdoicgdmliaaDoor.BldI
attribute [local irreducible] Cvt ExtF CallF hrun App MkS callV
theorem itoa_le {n : Int} (h : I64 n) : (Lib.itoa n).length ≤ 21 := by
  unfold I64 at h
  have := dec_len 19 n.natAbs (by omega)
  have := dec_len 19 n.toNat (by omega)
  unfold Lib.itoa
  split
  · simp only [List.length_cons]; omega
  · omega
/-- a type's writing -/
abbrev txt (f : Nat) (t : TyD) : L8 := textS Lib.itoa f t
abbrev tag (t : TyD) : L8 := tagS Lib.itoa t
section
variable {f : Nat} {nm : L8} {n : Int} {kids : List TyD} {t : TyD} {k : Int}
theorem txt1 : txt (f + 1) (.mk 1 nm n kids) = [105, 110, 116] := by conv => lhs; unfold txt textS
                                                                     rw [if_pos rfl]
theorem txt2 : txt (f + 1) (.mk 2 nm n kids) = [112, 116, 114] := by conv => lhs; unfold txt textS
                                                                     rw [if_neg (by decide), if_pos rfl]
theorem txt3 : txt (f + 1) (.mk 3 nm n kids) = [115, 116, 114, 117, 99, 116, 32] ++ nm := by conv => lhs; unfold txt textS
                                                                                             rw [if_neg (by decide), if_neg (by decide), if_pos rfl]
theorem txt4 : txt (f + 1) (.mk 4 nm n [t]) = ([91] ++ Lib.itoa n ++ [93]) ++ txt f t := by
  conv => lhs; unfold txt textS
  rw [if_neg (by decide), if_neg (by decide), if_neg (by decide), if_pos rfl]
theorem txt5 (h : kids.length ≠ 1) : txt (f + 1) (.mk 4 nm n kids) = [63] := by
  conv => lhs; unfold txt textS
  rw [if_neg (by decide), if_neg (by decide), if_neg (by decide), if_pos rfl]
  match kids, h with
  | [], _ => rfl
  | [a], h => simp at h
  | a :: b :: r, _ => rfl
theorem txt6 (h1 : k ≠ 1) (h2 : k ≠ 2) (h3 : k ≠ 3) (h4 : k ≠ 4) : txt (f + 1) (.mk k nm n kids) = [63] := by
  conv => lhs; unfold txt textS
  rw [if_neg h1, if_neg h2, if_neg h3, if_neg h4]
theorem txt_len : ∀ {f : Nat} {t : TyD}, OkT t → (txt f t).length ≤ 1048583 + 23 * f
  | 0, t, _ => by unfold txt textS; simp
  | f + 1, .mk k nm n kids, h => by
    cases h with
    | mk hn hm hk e =>
      by_cases h1 : k = 1
      · subst h1; rw [txt1]; simp only [List.length_cons, List.length_nil]; omega
      by_cases h2 : k = 2
      · subst h2; rw [txt2]; simp only [List.length_cons, List.length_nil]; omega
      by_cases h3 : k = 3
      · subst h3; rw [txt3, List.length_append]; simp only [List.length_cons, List.length_nil]; omega
      by_cases h4 : k = 4
      · subst h4
        by_cases hk1 : kids.length = 1
        · obtain ⟨t, rfl⟩ := List.length_eq_one_iff.1 hk1
          have := txt_len (f := f) (e t List.mem_cons_self)
          have := itoa_le hn
          rw [txt4]
          simp only [List.length_append, List.length_cons, List.length_nil]
          omega
        · rw [txt5 hk1]; simp only [List.length_cons, List.length_nil]; omega
      · rw [txt6 h1 h2 h3 h4]; simp only [List.length_cons, List.length_nil]; omega
end
section
variable {H : Hp} {K : Value → Hp → Prop} {Z : List PanicEntry → Hp → Prop} {s : Sl} {l : List StD}
theorem beqI {a b : Int} : ((a == b) = true) ↔ a = b := by rw [beq_iff_eq]
theorem bneI {a b : Int} : ((a == b) = false) ↔ a ≠ b := by rw [beq_eq_false_iff_ne]
/-- a text behind another one -/
theorem catK {A : Hp} {a b : L8} {Kx : Value → Hp → Prop} (ha : a.length ≤ 1048800) (hb : b.length ≤ 1048800) (k : Kx (.string (str (a ++ b))) A) : (str a).size + (str b).size ≤ 4611686018427387904 ∧ Kx (.string (str a ++ str b)) A := by
  refine ⟨by rw [str_size, str_size]; omega, ?_⟩
  rw [str_app]
  exact k
theorem text_ok {h : HT} {t : TyD} (ht : InT H h t) (ho : OkT t) (hp : TabH Tryd.prog H "internal/strconv.uint64pow10" .u64 Lib.pow10Tab) (k : ∀ H', Fr no H H' → K (.string (str (txt 4 t))) H') : CallF Tryd.prog 26 #[tyV h] H K Z := by
  refine V26_ok ?_
  unfold V26
  intro bT A hA bB B hB
  have sB := new_bld (symTy (Sym.start H) hA) hB
  refine ⟨fun u C m => ∃ (j : Nat) (h' : HT) (t' : TyD) (pre : L8) (cs : List Value), u = (j : Int) ∧ j ≤ 4 ∧ m = 4 - j ∧ InT H h' t' ∧ OkT t' ∧ Sym H no C [bldI bB cs pre, blk bT (flHT h') 51] ∧ txt 4 t = pre ++ txt (4 - j) t' ∧ pre.length ≤ 23 * j, ⟨_, 0, h, t, [], _, rfl, by decide, rfl, ht, ho, sB, rfl, by decide⟩, ?_⟩
  rintro u C m ⟨j, h', t', pre, cs, rfl, hj, rfl, ht', ho', sC, ex, hpre⟩ scr
  -- the writing ends
  have fin : ∀ {r : L8} {Kx : Value → Hp → Prop} {D : Hp}, Sym H no D [bldI bB cs pre, blk bT (flHT h') 51] → txt (4 - j) t' = r → r.length ≤ 1048800 → (∀ E, Sym H no E [bldI bB cs pre, blk bT (flHT h') 51] → ((str pre).size + (str r).size ≤ 4611686018427387904 ∧ K (.string (str pre ++ str r)) E) → Kx (.string (str pre)) E) →
      CallF Tryd.prog 49 #[.pointer (some ⟨bB, 0, none⟩)] D Kx Z := by
    intro r Kx D sD er hr kk
    refine bstr sD (k := 0) rfl (by omega) fun E sE => kk E sE (catK (by omega) hr ?_)
    rw [← er, ← ex]
    exact k E sE.frno
  refine ⟨fun hlt => ?_, fun hge => ?_⟩
  rotate_left
  · have hj4 : j = 4 := by have := of_decide_eq_false hge; omega
    subst hj4
    exact fin sC (show txt (4 - 4) t' = [63] by unfold txt; rw [Nat.sub_self, textS]) (by decide) fun E sE kk => ⟨_, rfl, kk⟩
  have hj' : j < 4 := by have := of_decide_eq_true hlt; omega
  obtain ⟨f, hf⟩ : ∃ f, 4 - j = f + 1 := ⟨4 - j - 1, by omega⟩
  rw [hf] at ex fin
  obtain ⟨kd, nm, n, kids⟩ := t'
  have hlen := ht'.len
  have hkd : h'.1 = kd ∧ h'.2.1 = nm ∧ h'.2.2.1 = n := by cases ht'; exact ⟨rfl, rfl, rfl⟩
  obtain ⟨e1, e2, e3⟩ := hkd
  obtain ⟨hn, hm, hks, hke⟩ : I64 n ∧ nm.length ≤ 1048576 ∧ kids.length ≤ 1048576 ∧ ∀ t ∈ kids, OkT t := by
    cases ho' with
    | mk a b c d => exact ⟨a, b, c, d⟩
  refine ⟨_, sC.ld (k := 1) rfl 0, fun h1 => ?_, fun h1 => ⟨_, sC.ld (k := 1) rfl 0, fun h2 => ?_, fun h2 => ⟨_, sC.ld (k := 1) rfl 0, fun h3 => ?_, fun h3 => ⟨_, sC.ld (k := 1) rfl 0, fun h4 => ?_, fun h4 => ⟨h'.2.2.2, sC.ld (k := 1) rfl 3, fun h5 => ?_, fun h5 => ?_⟩⟩⟩⟩⟩
  · have : kd = 1 := by rw [← e1]; exact beqI.1 h1
    subst this
    exact fin sC txt1 (by decide) fun E sE kk => ⟨_, rfl, kk⟩
  · have : kd = 2 := by rw [← e1]; exact beqI.1 h2
    subst this
    exact fin sC txt2 (by decide) fun E sE kk => ⟨_, rfl, kk⟩
  · have : kd = 3 := by rw [← e1]; exact beqI.1 h3
    subst this
    refine ⟨_, sC.ld (k := 1) rfl 1, ?_⟩
    refine fin sC txt3 (by simp only [List.length_append, List.length_cons, List.length_nil]; omega) fun E sE kk => ⟨_, rfl, sE.ld (k := 1) rfl 1, ?_⟩
    rw [e2]
    have hs1 : (str pre).size + (⟨#[115, 116, 114, 117, 99, 116, 32]⟩ : ByteArray).size ≤ 4611686018427387904 := by rw [str_size]; show _ + 7 ≤ _; omega
    refine ⟨hs1, ?_⟩
    have e : (str pre ++ (⟨#[115, 116, 114, 117, 99, 116, 32]⟩ : ByteArray)) = str (pre ++ [115, 116, 114, 117, 99, 116, 32]) := str_app _ _
    rw [e]
    refine catK (by simp only [List.length_append, List.length_cons, List.length_nil]; omega) (by omega) ?_
    rw [List.append_assoc]
    have := kk.2
    rw [str_app] at this
    exact this
  · have n4 : kd ≠ 4 := by rw [← e1]; simpa using h4
    have n1 : kd ≠ 1 := by rw [← e1]; exact bneI.1 h1
    have n2 : kd ≠ 2 := by rw [← e1]; exact bneI.1 h2
    have n3 : kd ≠ 3 := by rw [← e1]; exact bneI.1 h3
    exact fin sC (txt6 n1 n2 n3 n4) (by decide) fun E sE kk => ⟨_, rfl, kk⟩
  · have : kd = 4 := by rw [← e1]; simpa using h4
    subst this
    have hne : kids.length ≠ 1 := by
      intro e
      rw [hlen, e] at h5
      simp at h5
    exact fin sC (txt5 hne) (by decide) fun E sE kk => ⟨_, rfl, kk⟩
  · have : kd = 4 := by rw [← e1]; simpa using h4
    subst this
    have hone : kids.length = 1 := by
      have : (h'.2.2.2.n : Int) = 1 := by simpa using h5
      omega
    obtain ⟨a, rfl⟩ := List.length_eq_one_iff.1 hone
    rw [txt4] at ex
    have hil := itoa_le hn
    refine ⟨_, sC.ld (k := 1) rfl 2, ?_⟩
    rw [e3]
    refine C10D.text_ok hn.1 hn.2 (hp.more sC.frno) fun D fD => ⟨_, rfl, ?_, ?_⟩
    · rw [str_size]; show 1 + _ ≤ _; omega
    have sD := sC.more fD
    have eb : ((⟨#[91]⟩ : ByteArray) ++ str (Lib.itoa n)) = str ([91] ++ Lib.itoa n) := str_app [91] _
    rw [eb]
    have ec : (str ([91] ++ Lib.itoa n) ++ (⟨#[93]⟩ : ByteArray)) = str ([91] ++ Lib.itoa n ++ [93]) := str_app _ [93]
    rw [ec]
    refine ⟨by rw [str_size]; show _ + 1 ≤ _; simp only [List.length_append, List.length_cons, List.length_nil]; omega, ?_⟩
    refine wstr sD (k := 0) rfl (by simp only [List.length_append, List.length_cons, List.length_nil]; omega) fun E cs' sE => ⟨_, _, rfl, h'.2.2.2, sE.ld (k := 1) rfl 3, ?_⟩
    have hx : [a][0]? = some a := rfl
    refine ht'.kid hx fun ad g hg h1' h2' => ⟨_, _, _, g.2.2.2, ⟨lf sE.frno h2', lf sE.frno (h1' 1 _ rfl), lf sE.frno (h1' 2 _ rfl), lf sE.frno (h1' 3 _ rfl), trivial⟩, ?_⟩
    refine sE.stbs (k := 1) (i := 0) (vs := flHT g) rfl (by simp [flHT]) (FlHT.one g) fun F sF => ?_
    refine ⟨4 - (j + 1), by omega, j + 1, g, a, pre ++ ([91] ++ Lib.itoa n ++ [93]), cs', by rw [wi (by omega)], by omega, rfl, hg, hke a List.mem_cons_self, sF, ?_, ?_⟩
    · have : 4 - (j + 1) = f := by omega
      rw [this, ex]; simp only [List.append_assoc]
    · simp only [List.length_append, List.length_cons, List.length_nil]
      omega
theorem tag_ok {h : HT} {t : TyD} (ht : InT H h t) (ho : OkT t) (hp : TabH Tryd.prog H "internal/strconv.uint64pow10" .u64 Lib.pow10Tab) (k : ∀ H', Fr no H H' → K (.string (str (tag t))) H') : CallF Tryd.prog 28 #[tyV h] H K Z := by
  refine V28_ok ?_
  unfold V28
  intro bT A hA
  have sA := symTy (Sym.start H) hA
  have hl := txt_len (f := 4) ho
  refine ⟨_, _, _, h.2.2.2, ⟨sA.ld (k := 0) rfl 0, sA.ld (k := 0) rfl 1, sA.ld (k := 0) rfl 2, sA.ld (k := 0) rfl 3, trivial⟩, ?_⟩
  refine text_ok (ht.more sA.frno) ho (hp.more sA.frno) fun B fB => ⟨_, rfl, ?_⟩
  exact catK (a := [91, 93]) (by decide) (by omega) (k B (sA.frno.trans fB))
theorem qtext_ok : ∀ (f : Nat) (h : HT) (t : TyD) (H : Hp) (K : Value → Hp → Prop), f ≤ 4 → InT H h t → OkT t → (∀ H', Fr no H H' → K (.string (str (txt f t))) H') → CallF Tryd.prog 52 #[tyV h, .int .i64 (5 - (f : Int))] H K Z := by
  intro f
  induction f with
  | zero =>
    intro h t H K _ ht ho k
    refine V52_ok ?_
    unfold V52
    intro bT A hA
    exact ⟨fun _ => k A (symTy (Sym.start H) hA).frno, fun hc => by have := of_decide_eq_false hc; omega⟩
  | succ f ih =>
    intro h t H K hf ht ho k
    refine V52_ok ?_
    unfold V52
    intro bT A hA
    have sA := symTy (Sym.start H) hA
    obtain ⟨kd, nm, n, kids⟩ := t
    have hlen := ht.len
    have hkd : h.1 = kd ∧ h.2.1 = nm ∧ h.2.2.1 = n := by cases ht; exact ⟨rfl, rfl, rfl⟩
    obtain ⟨e1, e2, e3⟩ := hkd
    obtain ⟨hn, hm, hks, hke⟩ : I64 n ∧ nm.length ≤ 1048576 ∧ kids.length ≤ 1048576 ∧ ∀ t ∈ kids, OkT t := by
      cases ho with
      | mk a b c d => exact ⟨a, b, c, d⟩
    have ed : w64 ((5 - ((f + 1 : Nat) : Int)) + 1) = 5 - (f : Int) := by rw [wid (by omega) (by omega)]; omega
    refine ⟨fun hc => by have := of_decide_eq_true hc; omega, fun _ => ⟨_, sA.ld (k := 0) rfl 0, fun h1 => ?_, fun h1 => ⟨_, sA.ld (k := 0) rfl 0, fun h2 => ?_, fun h2 => ⟨_, sA.ld (k := 0) rfl 0, fun h3 => ?_, fun h3 => ⟨_, sA.ld (k := 0) rfl 0, fun h4 => ⟨h.2.2.2, sA.ld (k := 0) rfl 3, fun h5 => ?_, fun h5 => ?_⟩, fun h4 => ?_⟩⟩⟩⟩⟩
    · have : kd = 1 := by rw [← e1]; exact beqI.1 h1
      subst this
      rw [txt1] at k
      exact k A sA.frno
    · have : kd = 2 := by rw [← e1]; exact beqI.1 h2
      subst this
      rw [txt2] at k
      exact k A sA.frno
    · have : kd = 3 := by rw [← e1]; exact beqI.1 h3
      subst this
      rw [txt3] at k
      refine ⟨_, sA.ld (k := 0) rfl 1, ?_⟩
      rw [e2]
      exact catK (a := [115, 116, 114, 117, 99, 116, 32]) (by decide) (by omega) (k A sA.frno)
    · have : kd = 4 := by rw [← e1]; exact beqI.1 h4
      subst this
      have hone : kids.length = 1 := by
        have : (h.2.2.2.n : Int) = 1 := by simpa using h5
        omega
      obtain ⟨a, rfl⟩ := List.length_eq_one_iff.1 hone
      rw [txt4] at k
      have hil := itoa_le hn
      have hal := txt_len (f := f) (hke a List.mem_cons_self)
      refine ⟨_, sA.ld (k := 0) rfl 2, h.2.2.2, sA.ld (k := 0) rfl 3, ?_⟩
      have hx : [a][0]? = some a := rfl
      refine ht.kid hx fun ad g hg h1' h2' => ⟨_, _, _, g.2.2.2, ⟨lf sA.frno h2', lf sA.frno (h1' 1 _ rfl), lf sA.frno (h1' 2 _ rfl), lf sA.frno (h1' 3 _ rfl), trivial⟩, ?_⟩
      rw [e3]
      refine rtext_ok hn.1 hn.2 fun D fD => ⟨_, rfl, ?_⟩
      have sD := sA.more fD
      refine ⟨⟨lf sD.frno h2', lf sD.frno (h1' 1 _ rfl), lf sD.frno (h1' 2 _ rfl), lf sD.frno (h1' 3 _ rfl), trivial⟩, sD.ld (k := 0) rfl 3, ?_, ?_⟩
      · rw [str_size]; show 1 + _ ≤ _; omega
      have eb : ((⟨#[91]⟩ : ByteArray) ++ str (Lib.itoa n)) = str ([91] ++ Lib.itoa n) := str_app [91] _
      rw [eb]
      have ec : (str ([91] ++ Lib.itoa n) ++ (⟨#[93]⟩ : ByteArray)) = str ([91] ++ Lib.itoa n ++ [93]) := str_app _ [93]
      rw [ec, ed]
      refine ⟨by rw [str_size]; show _ + 1 ≤ _; simp only [List.length_append, List.length_cons, List.length_nil]; omega, ?_⟩
      refine ih g a D _ (by omega) (hg.more sD.frno) (hke a List.mem_cons_self) fun E fE => ⟨_, rfl, ?_⟩
      exact catK (by simp only [List.length_append, List.length_cons, List.length_nil]; omega) (by omega) (k E (sD.frno.trans fE))
    · have : kd = 4 := by rw [← e1]; exact beqI.1 h4
      subst this
      have hne : kids.length ≠ 1 := by
        intro e
        rw [hlen, e] at h5
        simp at h5
      rw [txt5 hne] at k
      exact k A sA.frno
    · have n1 : kd ≠ 1 := by rw [← e1]; exact bneI.1 h1
      have n2 : kd ≠ 2 := by rw [← e1]; exact bneI.1 h2
      have n3 : kd ≠ 3 := by rw [← e1]; exact bneI.1 h3
      have n4 : kd ≠ 4 := by rw [← e1]; exact bneI.1 h4
      rw [txt6 n1 n2 n3 n4] at k
      exact k A sA.frno
theorem qText_ok {h : HT} {t : TyD} (ht : InT H h t) (ho : OkT t) (k : ∀ H', Fr no H H' → K (.string (str (txt 4 t))) H') : CallF Tryd.prog 27 #[tyV h] H K Z := by
  refine V27_ok ?_
  unfold V27
  intro bT A hA
  have sA := symTy (Sym.start H) hA
  refine ⟨_, _, _, h.2.2.2, ⟨sA.ld (k := 0) rfl 0, sA.ld (k := 0) rfl 1, sA.ld (k := 0) rfl 2, sA.ld (k := 0) rfl 3, trivial⟩, ?_⟩
  have e1 : (1 : Int) = 5 - ((4 : Nat) : Int) := rfl
  rw [e1]
  exact qtext_ok 4 h t A _ (by decide) (ht.more sA.frno) ho fun B fB => ⟨_, rfl, k B (sA.frno.trans fB)⟩
theorem qTag_ok {h : HT} {t : TyD} (ht : InT H h t) (ho : OkT t) (k : ∀ H', Fr no H H' → K (.string (str (tag t))) H') : CallF Tryd.prog 29 #[tyV h] H K Z := by
  refine V29_ok ?_
  unfold V29
  intro bT A hA
  have sA := symTy (Sym.start H) hA
  have hl := txt_len (f := 4) ho
  refine ⟨_, _, _, h.2.2.2, ⟨sA.ld (k := 0) rfl 0, sA.ld (k := 0) rfl 1, sA.ld (k := 0) rfl 2, sA.ld (k := 0) rfl 3, trivial⟩, ?_⟩
  refine qText_ok (ht.more sA.frno) ho fun B fB => ⟨_, rfl, ?_⟩
  exact catK (a := [91, 93]) (by decide) (by omega) (k B (sA.frno.trans fB))
theorem deep_ok : ∀ (f : Nat) (h : HT) (t : TyD) (H : Hp) (K : Value → Hp → Prop), f ≤ 1000 → InT H h t → OkT t → (∀ y H', Fr no H H' → K (.bool y) H') → CallF Tryd.prog 48 #[tyV h, .int .i64 (f : Int)] H K Z := by
  intro f
  induction f with
  | zero =>
    intro h t H K _ ht ho k
    refine V48_ok ?_
    unfold V48
    intro bT A hA
    exact ⟨fun _ => False, fun _ h => h.elim, fun _ => k true A (symTy (Sym.start H) hA).frno, fun hc => by cases hc⟩
  | succ f ih =>
    intro h t H K hf ht ho k
    refine V48_ok ?_
    unfold V48
    intro bT A hA
    have sA := symTy (Sym.start H) hA
    obtain ⟨kd, nm, n, kids⟩ := t
    have hlen := ht.len
    obtain ⟨hn, hm, hks, hke⟩ : I64 n ∧ nm.length ≤ 1048576 ∧ kids.length ≤ 1048576 ∧ ∀ t ∈ kids, OkT t := by
      cases ho with
      | mk a b c d => exact ⟨a, b, c, d⟩
    refine ⟨fun B => B = A, ?_, fun _ => k true A sA.frno, fun _ => ⟨_, sA.ld (k := 0) rfl 1, fun _ => k true A sA.frno, fun _ => ⟨h.2.2.2, sA.ld (k := 0) rfl 3, fun _ => k true A sA.frno, fun _ => rfl⟩⟩⟩
    rintro B hB scr
    subst B
    refine ⟨fun i B m => ∃ j : Nat, i = (j : Int) ∧ j ≤ kids.length ∧ m = kids.length - j ∧ Sym H no B [blk bT (flHT h) 51], ⟨_, 0, rfl, Nat.zero_le _, rfl, sA⟩, ?_⟩
    rintro i B m ⟨j, rfl, hj, rfl, sB⟩ scr1
    refine ⟨h.2.2.2, sB.ld (k := 0) rfl 3, fun hlt => ⟨h.2.2.2, sB.ld (k := 0) rfl 3, ?_⟩, fun _ => k false B sB.frno⟩
    have hj' : j < kids.length := by have := dlt hlt; omega
    have hx : kids[j]? = some kids[j] := List.getElem?_eq_getElem hj'
    generalize kids[j] = c at hx
    have ed : w64 (((f + 1 : Nat) : Int) - 1) = (f : Int) := by rw [wid (by omega) (by omega)]; omega
    refine ht.kid hx fun ad g hg h1' h2' => ⟨_, _, _, g.2.2.2, ⟨lf sB.frno h2', lf sB.frno (h1' 1 _ rfl), lf sB.frno (h1' 2 _ rfl), lf sB.frno (h1' 3 _ rfl), trivial⟩, ?_⟩
    rw [ed]
    refine ih g c B _ (by omega) (hg.more sB.frno) (hke c (List.mem_of_getElem? hx)) fun y C fC => ⟨y, rfl, fun _ => k true C (sB.frno.trans fC), fun _ => ⟨kids.length - (j + 1), by omega, j + 1, wi (by omega), hj', rfl, sB.more fC⟩⟩
theorem great_ok {h : HT} {t : TyD} (hs : RdS H s l) (hl : OkL l) (ht : InT H h t) (ho : OkT t) (k : ∀ y H', Fr no H H' → K (.bool y) H') : CallF Tryd.prog 25 #[.slice s.a s.n s.c, tyV h] H K Z := by
  refine V25_ok ?_
  unfold V25
  intro bT A hA
  have sA := symTy (Sym.start H) hA
  have hsn := hs.len
  have hl1 := hl.1
  refine ⟨fun B => Fr no H B, ?_, fun _ => k true A sA.frno, fun _ => ⟨_, _, _, h.2.2.2, ⟨sA.ld (k := 0) rfl 0, sA.ld (k := 0) rfl 1, sA.ld (k := 0) rfl 2, sA.ld (k := 0) rfl 3, trivial⟩, ?_⟩⟩
  rotate_left
  · exact deep_ok 8 h t A _ (by decide) (ht.more sA.frno) ho fun y B fB => ⟨y, rfl, fun _ => k true B (sA.frno.trans fB), fun _ => sA.frno.trans fB⟩
  rintro B fB scr
  refine ⟨fun i C m => ∃ j : Nat, i = (j : Int) ∧ j ≤ l.length ∧ m = l.length - j ∧ Fr no H C, ⟨_, 0, rfl, Nat.zero_le _, rfl, fB⟩, ?_⟩
  rintro i C m ⟨j, rfl, hj, rfl, fC⟩ scr1
  refine ⟨fun hlt => ?_, fun _ => k false C fC⟩
  have hj' : j < l.length := by have := dlt hlt; omega
  have hx : l[j]? = some l[j] := List.getElem?_eq_getElem hj'
  generalize l[j] = x at hx
  have hox := hl.2 x (List.mem_of_getElem? hx)
  have hol := hox.len
  refine ⟨fun D => Fr no H D, ?_, RdX.at FlHS (by decide) hs hx fun ad g hg h1 h2 => ⟨_, lf fC h2, fun _ => k true C fC, fun _ => RdX.at FlHS (by decide) hs hx fun ad g hg h1 h2 => ⟨g.2, lf fC (h1 1 _ rfl), fun _ => k true C fC, fun _ => fC⟩⟩⟩
  rintro D fD scr2
  refine ⟨fun u E m2 => ∃ q : Nat, u = (q : Int) ∧ q ≤ x.fields.length ∧ m2 = x.fields.length - q ∧ Fr no H E, ⟨_, 0, rfl, Nat.zero_le _, rfl, fD⟩, ?_⟩
  rintro u E m2 ⟨q, rfl, hq, rfl, fE⟩ scr3
  refine RdX.at FlHS (by decide) hs hx fun ad g hg h1 h2 => ⟨g.2, lf fE (h1 1 _ rfl), fun hlt => ?_, fun _ => ⟨l.length - (j + 1), by omega, j + 1, wi (by omega), hj', rfl, fE⟩⟩
  have hgl := hg.2.len
  have hq' : q < x.fields.length := by have := dlt hlt; omega
  have hy : x.fields[q]? = some x.fields[q] := List.getElem?_eq_getElem hq'
  generalize x.fields[q] = y at hy
  have hoy := hox.f y (List.mem_of_getElem? hy)
  refine RdX.at FlHS (by decide) hs hx fun ad1 g1 hg1 h11 h12 => ⟨g1.2, lf fE (h11 1 _ rfl), RdX.at FlHF (by decide) hg1.2 hy fun ad2 r hr h21 h22 => ⟨_, lf fE h22, fun _ => k true E fE, fun _ => ?_⟩⟩
  refine RdX.at FlHS (by decide) hs hx fun ad3 g3 hg3 h31 h32 => ⟨g3.2, lf fE (h31 1 _ rfl), RdX.at FlHF (by decide) hg3.2 hy fun ad4 w hw h41 h42 => ⟨w.2.1, str w.2.2.1, w.2.2.2.1, w.2.2.2.2, ⟨lf fE (h41 1 _ rfl), ?_, ?_, ?_, trivial⟩, ?_⟩⟩
  · rw [add_add]; exact lf fE (h41 2 _ rfl)
  · rw [add_add]; exact lf fE (h41 3 _ rfl)
  · rw [add_add]; exact lf fE (h41 4 _ rfl)
  refine deep_ok 8 w.2 y.2 E _ (by decide) (hw.2.more fE) hoy.2 fun z F fF => ⟨z, rfl, fun _ => k true F (fE.trans fF), fun _ => ⟨x.fields.length - (q + 1), by omega, q + 1, wi (by omega), hq', rfl, fE.trans fF⟩⟩
end
end Go.Proofs.YtigbdoicgdmliaaDoor.C10

