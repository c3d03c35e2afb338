/- weftlaw05: the law InternTexts over heaps. -/
import Derived.Test.YtoigfahdgphpdaaL05
set_option linter.unusedVariables false
set_option linter.unusedSimpArgs false
-- lawTexts: 13
-- rNumber: 47
-- rising: 52
-- risingL: 78
-- risingS: 73
-- great: 42
-- works: 46
-- tTabS: 71
-- tInt: 3
-- tStr: 9
-- tStrs: 65
-- tBool: 4
namespace Go.Proofs.Ytoigfahdgphpdaa.L05T
open Go Go.V Go.Proofs Go.Proofs.Ytoigfahdgphpdaa.N05 Go.Proofs.Ytoigfahdgphpdaa.L05 Go.Proofs.Ytoigfahdgphpdaa.C05S
attribute [local irreducible] Cvt ExtF CallF hrun
/-- what is not great is short -/
theorem great2_ok {H : Hp} {l : Sl} {xs : List ByteArray} {K : Value → Hp → Prop} {Z : List PanicEntry → Hp → Prop} (h : Els val H l xs) (hbig : xs.length ≤ 1000000000) (k1 : K (.bool true) H) (k2 : xs.length ≤ 200 → K (.bool false) H) : CallF Try.prog 42 #[.slice l.a l.n l.c] H K Z := by
  refine V42_ok ?_
  unfold V42
  have hl := h.len
  refine ⟨fun n i A m => ∃ j : Nat, A = H ∧ i = (j : Int) ∧ j ≤ xs.length ∧ m = xs.length - j ∧ j ≤ 200, ⟨_, 0, rfl, rfl, Nat.zero_le _, rfl, by omega⟩, ?_⟩
  rintro n i A m ⟨j, rfl, rfl, hj, rfl, h200⟩ scr
  refine ⟨fun hlt => ?_, fun hge => k2 ?_⟩
  · have hlt' : j < xs.length := by
      have : (j : Int) < (l.n : Int) := of_decide_eq_true hlt
      omega
    have hx : xs[j]? = some xs[j] := List.getElem?_eq_getElem hlt'
    obtain ⟨ad, e1, e2⟩ := h.el _ _ hx
    have e : w64 ((j : Int) + 1) = ((j + 1 : Nat) : Int) := by rw [wrap64 (by omega) (by omega)]; omega
    rw [e]
    refine ⟨ad, e1, ⟨by omega, by omega⟩, _, by rw [Int.toNat_natCast]; exact e2, fun _ => k1, fun hlt2 => ⟨fun _ => k1, fun _ => ⟨xs.length - (j + 1), by omega, j + 1, rfl, rfl, hlt', rfl, ?_⟩⟩⟩
    have : ¬ (j : Int) ≥ 200 := of_decide_eq_false hlt2
    omega
  · have : ¬ (j : Int) < (l.n : Int) := of_decide_eq_false hge
    omega
theorem okL : fnOk Try.prog 78 = true := by kernel_rfl
theorem riseL_get {ts : List ByteArray} {os : List Nat} {j : Nat} {k : Nat} {x : ByteArray} (h : Tbl lt ts os) (h1 : os[j]? = some k) (h2 : ts[k]? = some x) : (riseL ts os)[j]? = some x := by
  have hj := (List.getElem?_eq_some_iff.1 h1).1
  have e := rise_succ h1 h2
  have l1 := h.rise_len (j := j) (by omega)
  have happ : riseL ts os = riseL ts (os.take (j + 1)) ++ riseL ts (os.drop (j + 1)) := by
    unfold riseL
    rw [← List.filterMap_append, List.take_append_drop]
  rw [happ, e, List.append_assoc, List.getElem?_append_right (by omega), l1, Nat.sub_self]
  rfl
/-- one text is told -/
theorem risingL_ok {A : Hp} {x : ByteArray} {k j : Nat} {bG bI bW bM : Nat} {want m : Sl} {ws ts : List ByteArray} {K : Value → Hp → Prop} {Z : List PanicEntry → Hp → Prop} (hG : Blk A bG [.bool true] 4) (hI : Blk A bI [.int .i64 (j : Int)] 3) (hW : Blk A bW [.slice want.a want.n want.c] 65) (hM : Blk A bM [.slice m.a m.n m.c] 65)
    (n1 : bG ≠ bI) (hw : Els val A want ws) (hm : Els val A m ts) (hj : ws[j]? = some x) (hk : ts[k]? = some x) (hfirst : ∀ i, ts[i]? = some x → i = k) (hbig : ts.length ≤ 1000000000) (hjb : j ≤ 1000000000)
    (k1 : ∀ B, Blk B bG [.bool true] 4 → Blk B bI [.int .i64 ((j + 1 : Nat) : Int)] 3 → Fr (fun i => i = bG ∨ i = bI) A B → K (.bool (decide (((j + 1 : Nat) : Int) < 300))) B) :
    CallF Try.prog 78 #[.string x, .int .i64 (k : Int), .pointer (some ⟨bG, 0, none⟩), .pointer (some ⟨bI, 0, none⟩), .pointer (some ⟨bW, 0, none⟩), .pointer (some ⟨bM, 0, none⟩)] A K Z := by
  refine V78_ok ?_
  unfold V78
  have e : w64 ((j : Int) + 1) = ((j + 1 : Nat) : Int) := by rw [wrap64 (by omega) (by omega)]; omega
  have hjl := (List.getElem?_eq_some_iff.1 hj).1
  have hwl := hw.len
  obtain ⟨ad, ha, hc⟩ := hw.el _ _ hj
  have fin : ∀ y : Int, y = (k : Int) → StL ⟨bG, 0, none⟩ 0 [.bool ((k : Int) == y)] A fun H2 => (∃ x8 : Int, hcell H2 ⟨bI, 0, none⟩ = some (.int .i64 x8) ∧ StL ⟨bI, 0, none⟩ 0 [.int .i64 (w64 (x8 + 1))] H2 fun H3 => (∃ x9 : Int, hcell H3 ⟨bI, 0, none⟩ = some (.int .i64 x9) ∧ K (.bool (decide (x9 < 300))) H3)) := by
    rintro y rfl
    rw [show ((k : Int) == (k : Int)) = true from by simp]
    refine st_blk hG (by simp) rfl ?_
    intro B gB fB _
    have iB : Blk B bI [.int .i64 (j : Int)] 3 := fB.blk hI (Ne.symm n1)
    refine ⟨_, iB.ld 0, ?_⟩
    rw [e]
    refine st_blk iB (by simp) rfl ?_
    intro C iC fC _
    refine ⟨_, iC.ld 0, k1 C (fC.blk gB n1) iC ?_⟩
    refine (fB.mono fun i _ h => .inl h).step fC ?_
    intro i _ h
    exact .inr h
  refine ⟨true, hG.ld 0, fun _ => ⟨_, hI.ld 0, want, hW.ld 0, fun _ => ⟨want, hW.ld 0, _, hI.ld 0, ad, ha, ⟨by omega, by omega⟩, _, by rw [Int.toNat_natCast]; exact hc, fun _ => ⟨m, hM.ld 0, ?_⟩, fun h => ?_⟩, fun h => ?_⟩, fun h => by cases h⟩
  · refine Q05.number_ok hm hbig ?_ ?_
    · intro i hi _
      have := hfirst i hi
      subst this
      exact ⟨_, rfl, fin _ rfl⟩
    · intro hno
      exact absurd (List.mem_of_getElem? hk) hno
  · rw [beqS_iff.2 rfl] at h
    cases h
  · have : ¬ (j : Int) < (want.n : Int) := of_decide_eq_false h
    omega

set_option maxRecDepth 10000 in
theorem rising_ok {H : Hp} {b o : Nat} {T : TypeId} {cs : List Value} {ts : List ByteArray} {os : List Nat} {m : Sl} {K : Value → Hp → Prop} {Z : List PanicEntry → Hp → Prop} (h : Tb H b o T cs ts os) (hm : Els val H m ts) (hlen : ts.length ≤ 200)
    (k : ∀ H', Fr no H H' → K (.bool true) H') : CallF Try.prog 52 #[.pointer (some ⟨b, o, none⟩), .slice m.a m.n m.c] H K Z := by
  refine V52_ok ?_
  unfold V52
  intro bM A hnM
  have eM := hnM.eq
  have zM := hnM.size
  have hb := h.blk.lt
  have lenT := h.ok.len
  have mA : Blk A bM [.slice m.a m.n m.c] 65 := hnM.blk
  refine ⟨m, mA.ld 0, ?_⟩
  refine Q05.rsorted_ok (hm.keep hnM.fr (fun _ _ h => h)) (by omega) ?_
  intro want B ws hris hmem hrow fB oB
  have hws : ws = riseL ts os := rising_eq lin hris h.ok.rising fun z => (hmem z).trans (h.ok.rise_mem z).symm
  subst hws
  have zB := fB.size
  have tl : ∀ i, tOwn cs o i → i < H.size := fun i hi => h.own_lt hi
  have tbB : Tb B b o T cs ts os := (h.keep hnM.fr (fun h => h) (fun _ _ h => h)).keep fB (fun h => h) (fun _ _ h => h)
  have hmB := (hm.keep hnM.fr (fun _ _ h => h)).keep fB (fun _ _ h => h)
  have wB := Els.row hrow
  have mB : Blk B bM [.slice m.a m.n m.c] 65 := fB.blk mA fun h => h
  refine ⟨want, rfl, ?_⟩
  intro bW C hnW
  have eW := hnW.eq
  have zW := hnW.size
  refine st_blk hnW.blk (by simp) rfl ?_
  intro C1 wC1 fC1 zC1 bI C2 hnI
  have eI := hnI.eq
  have zI := hnI.size
  refine st_blk hnI.blk (by simp) rfl ?_
  intro C3 iC3 fC3 zC3 bG C4 hnG
  have eG := hnG.eq
  have zG := hnG.size
  refine st_blk hnG.blk (by simp) rfl ?_
  intro C5 gC5 fC5 zC5
  have ge : ∀ {S : Nat → Prop}, (∀ i, S i → B.size ≤ i) → True := fun _ => trivial
  have fBC : Fr (fun i => B.size ≤ i) B C5 := by
    refine ((((hnW.fr.of_no.step fC1 ?_).step hnI.fr (fun _ _ h => h.elim)).step fC3 ?_).step hnG.fr (fun _ _ h => h.elim)).step fC5 ?_
    · intro i hi e; omega
    · intro i hi e; omega
    · intro i hi e; omega
  have fBC' : Fr no B C5 := by
    refine ((((hnW.fr.step fC1 ?_).trans hnI.fr).step fC3 ?_).trans hnG.fr).step fC5 ?_
    · intro i hi e; omega
    · intro i hi e; omega
    · intro i hi e; omega
  have wC5 : Blk C5 bW [.slice want.a want.n want.c] 65 := fC5.blk (hnG.fr.blk (fC3.blk (hnI.fr.blk wC1 fun h => h) (by omega)) fun h => h) (by omega)
  have iC5 : Blk C5 bI [.int .i64 0] 3 := fC5.blk (hnG.fr.blk iC3 fun h => h) (by omega)
  have mC5 := fBC'.blk mB fun h => h
  have tb5 : Tb C5 b o T cs ts os := tbB.keep fBC' (fun h => h) (fun _ _ h => h)
  refine V73_ok ?_
  unfold V73
  intro bR D hnR
  have eR := hnR.eq
  have zR := hnR.size
  refine ⟨_, rfl, ?_⟩
  unfold callV
  simp only [okR1, if_true]
  have fBD : Fr no B D := fBC'.trans hnR.fr
  have hfHD : Fr no H D := ((hnM.fr.trans fB).trans fBD)
  refine rising1_ok (S := fun i => i = bG ∨ i = bI)
    (Inv := fun m' j X => Blk X bG [.bool true] 4 ∧ Blk X bI [.int .i64 (j : Int)] 3 ∧ Blk X bW [.slice want.a want.n want.c] 65 ∧ Blk X bM [.slice m.a m.n m.c] 65 ∧ Fr (fun i => B.size ≤ i) B X ∧ Fr no H X)
    (Fin := fun _ _ => False) (tb5.keep hnR.fr (fun h => h) (fun _ _ h => h)) (by omega) hnR.blk ?_ ?_ ?_ ?_ ?_ ?_ ?_ ?_
  · rintro (h' | h') <;> omega
  · rintro i hi (h' | h') <;> (have := tl i hi; omega)
  · rintro (h' | h') <;> omega
  · rintro i (h' | h') <;> omega
  · intro X fX
    have fX' := hnR.fr.trans fX
    exact ⟨fX'.blk gC5 fun h => h, fX'.blk iC5 fun h => h, fX'.blk wC5 fun h => h, fX'.blk mC5 fun h => h, (fBC'.trans fX').of_no, hfHD.trans fX⟩
  · rintro m' j X k' x hk' hx' hm1 hm2 hTbX ⟨g1, g2, g3, g4, gF, g7⟩
    have g5 := wB.keep gF (fun i hi h => by omega)
    have g6 := hmB.keep gF (fun i hi h => by omega)
    have hjl : j < os.length := (List.getElem?_eq_some_iff.1 hk').1
    unfold callV
    simp only [okL, if_true]
    refine risingL_ok g1 g2 g3 g4 (by omega) g5 g6 (riseL_get h.ok hk' hx') hx' (fun i hi => h.ok.uniq lin hi hx') (by omega) (by omega) ?_
    intro Y y1 y2 fY
    have hy : (decide (((j + 1 : Nat) : Int) < 300)) = true := decide_eq_true (by omega)
    rw [hy]
    refine ⟨true, rfl, fY.mono (fun i _ h' => .inl h'), fun _ => ⟨y1, y2, fY.blk g3 (by omega), fY.blk g4 (by omega), gF.step fY (by intro i hi e; omega), g7.step fY (by intro i hi e; omega)⟩, fun h => by cases h⟩
  · rintro m' X ⟨g1, g2, g3, g4, gF, g7⟩
    have g5 := wB.keep gF (fun i hi h => by omega)
    refine ⟨rfl, true, g1.ld 0, fun _ => ⟨_, g2.ld 0, want, g3.ld 0, ?_⟩, fun h => by cases h⟩
    have hl := g5.len
    have := h.ok.rise_len (j := os.length) (Nat.le_refl _)
    rw [List.take_length] at this
    have hk := k X g7
    rw [show ((os.length : Int) == (want.n : Int)) = true from by rw [beq_iff_eq]; omega]
    exact hk
  · intro j X _ h
    exact h.elim
theorem sameI {a b : Int} {P Q : Prop} (e : a = b) (h : Q) : (((a != b) = true → P) ∧ ((a != b) = false → Q)) := by
  subst e
  exact ⟨fun h => by simp at h, fun _ => h⟩
set_option maxRecDepth 10000 in
theorem texts_ok {H : Hp} {l ask : Sl} {xs aq : List ByteArray} {n : Int} {K : Value → Hp → Prop} {Z : List PanicEntry → Hp → Prop} (h : Els val H l xs) (hbig : xs.length ≤ 1048576) (h' : Els val H ask aq) (hbig' : aq.length ≤ 1048576) (k : ∀ H', Fr no H H' → K (.bool true) H') :
    CallF Try.prog 13 #[.slice l.a l.n l.c, .slice ask.a ask.n ask.c, .int .i64 n] H K Z := by
  refine V13_ok ?_
  unfold V13
  have hl := h.len
  have hl' := h'.len
  refine ⟨fun A => A = H ∧ xs.length ≤ 200, ?_, ?_⟩
  case refine_2 =>
    refine great2_ok h (by omega) ⟨_, rfl, fun _ => k H (Fr.refl _ _), fun h => by cases h⟩ fun h1 => ⟨_, rfl, (fun h => by cases h), fun _ => ?_⟩
    exact great2_ok h' (by omega) ⟨_, rfl, fun _ => k H (Fr.refl _ _), fun h => by cases h⟩ fun h2 => ⟨_, rfl, (fun h => by cases h), fun _ => ⟨rfl, h1⟩⟩
  rintro A0 ⟨rfl, h200⟩ scr b A3 hn3
  have eb := hn3.eq
  have z3 := hn3.size
  have f3 : Fr no A0 A3 := hn3.fr
  have t0 := tb_nil hn3.blk
  have ownT : ∀ {B c2 t2 o2}, TbT A3 B b 0 71 [.slice none 0 0, .slice none 0 0] c2 t2 o2 → ∀ i, tOwn c2 0 i → A3.size ≤ i := by
    intro B c2 t2 o2 hB i hi
    rcases hB.own i hi with h' | h'
    · exact (tOwn_nil h').elim
    · exact h'
  refine ⟨fun s i A m => ∃ (j : Nat) (cs : List Value) (ts : List ByteArray) (os : List Nat), i = (j : Int) ∧ j ≤ xs.length ∧ m = xs.length - j ∧ TbT A3 A b 0 71 [.slice none 0 0, .slice none 0 0] cs ts os ∧ ts.length ≤ j ∧ Row A 9 1 s (ts.map val) ∧ (∀ i, own s i → A3.size ≤ i ∧ ¬ tOwn cs 0 i) ∧ Fr no A0 A,
    ⟨_, 0, _, [], [], rfl, Nat.zero_le _, rfl, TbTo.refl t0, Nat.le_refl _, Row.nil _ _ _, (by rintro i ⟨o, e⟩; cases e), f3⟩, ?_⟩
  rintro s i A m ⟨j, cs, ts, os, rfl, hj, rfl, hT, htl, hr, hown, hf⟩ scr1
  have hE := h.keep hf (fun _ _ h => h)
  have hM := Els.row hr
  have hsn := hM.len
  have zA := hT.fr.size
  refine ⟨fun hlt => ?_, fun hge => ?_⟩
  · have hlt' : j < xs.length := by
      have : (j : Int) < (l.n : Int) := of_decide_eq_true hlt
      omega
    have hx : xs[j]? = some xs[j] := List.getElem?_eq_getElem hlt'
    obtain ⟨ad, ha, hc⟩ := hE.el _ _ hx
    generalize xs[j] = x at *
    have e : w64 ((j : Int) + 1) = ((j + 1 : Nat) : Int) := by rw [wrap64 (by omega) (by omega)]; omega
    rw [e]
    have hsT : ∀ i, own s i → ¬ (i = b ∨ tOwn cs 0 i) := by
      rintro i hi (h' | h')
      · have := (hown i hi).1; omega
      · exact (hown i hi).2 h'
    have frP : ∀ {B c2 t2 o2}, TbT A B b 0 71 cs c2 t2 o2 → Fr no A0 B := by
      intro B c2 t2 o2 hB
      refine hf.step hB.fr ?_
      rintro i hi (h' | h')
      · have := f3.size; omega
      · have := ownT hT i h'; have := f3.size; omega
    refine ⟨ad, ha, ⟨by omega, by omega⟩, _, by rw [Int.toNat_natCast]; exact hc, ?_⟩
    refine Q05.number_ok hM (by omega) ?_ ?_
    · intro i hi _
      refine ⟨_, rfl, ad, ha, ⟨by omega, by omega⟩, _, by rw [Int.toNat_natCast]; exact hc, ?_⟩
      refine put_ok hT.st (by omega) ?_ ?_
      · intro n' B hn' hB
        have hu := hT.st.ok.uniq lin hn' hi
        subst hu
        have hd : decide ((n' : Int) < 0) = false := decide_eq_false (by omega)
        refine ⟨_, _, rfl, (fun h => by rw [hd] at h; simp at h), fun _ => ⟨(fun h => by rw [hd] at h; cases h), fun _ => sameI rfl ?_⟩⟩
        refine len_ok hB.st ⟨_, rfl, sameI (by omega) ?_⟩
        exact ⟨xs.length - (j + 1), by omega, j + 1, cs, ts, os, rfl, hlt', rfl, hT.trans hB, by omega, hr.keep hB.fr hsT, hown, frP hB⟩
      · intro B cs' os' hno _
        exact absurd (List.mem_of_getElem? hi) hno
    · intro hno
      refine ⟨_, rfl, ad, ha, ⟨by omega, by omega⟩, _, by rw [Int.toNat_natCast]; exact hc, ?_⟩
      refine put_ok hT.st (by omega) ?_ ?_
      · intro n' B hn' _
        exact absurd (List.mem_of_getElem? hn') hno
      · intro B cs' os' _ hB
        have hd : decide ((-1 : Int) < 0) = true := by decide
        have hEB := h.keep (frP hB) (fun _ _ h => h)
        obtain ⟨ad', ha', hc'⟩ := hEB.el _ _ hx
        refine ⟨_, _, rfl, (fun h => by rw [hd] at h; simp at h), fun _ => ⟨fun _ => ⟨ad', ha', ⟨by omega, by omega⟩, _, by rw [Int.toNat_natCast]; exact hc', ?_⟩, fun h => by rw [hd] at h; cases h⟩⟩
        intro b1 C hnC
        have e1 := hnC.eq
        have zC := hnC.size
        have zB := hB.fr.size
        obtain ⟨inf, j1, j2, j3, j4⟩ := iE
        have hrC := (hr.keep hB.fr hsT).keep hnC.fr (fun _ _ h => h)
        rw [← j3] at hrC
        have bC : Blk C b1 [.string x] 9 := hnC.blk
        refine app_row2 uTs (by intro k; rw [uTs]; simp) ⟨_, uTs⟩ j1 j2 (by rw [j3]; rfl) (by rw [j4]; decide) hrC (Src.blk bC (by rw [j3]; rfl)) ?_ (by rw [j4]; omega) ?_
        · intro v hv'
          simp only [List.mem_singleton] at hv'
          subst hv'
          rfl
        intro ap D rD nD fD oD _
        rw [j3] at rD
        have hsb : ¬ own s b := fun hc => by have := (hown _ hc).1; omega
        have tlt : ∀ i, tOwn cs' 0 i → i < B.size := fun i hi => hB.st.own_lt hi
        have hst : ∀ i, tOwn cs' 0 i → ¬ own s i := by
          intro i hi hc
          rcases hB.own i hi with h' | h'
          · exact (hown i hc).2 h'
          · have := hr.lt hc; omega
        have hTB := hT.trans hB
        have stD : Tb D b 0 71 cs' (ts ++ [x]) os' := (hB.st.keep hnC.fr (fun h => h) (fun _ _ h => h)).keep fD hsb hst
        have toD : TbT A3 D b 0 71 [.slice none 0 0, .slice none 0 0] cs' (ts ++ [x]) os' := by
          refine ⟨stD, hTB.len, hTB.rest, ?_, hTB.own⟩
          refine (hTB.fr.step hnC.fr (fun _ _ h => h.elim)).step fD ?_
          intro i hi hc
          have := (hown i hc).1
          omega
        have lenx : (ts ++ [x]).length = ts.length + 1 := by simp
        refine sameI (by omega) ?_
        refine len_ok stD ⟨_, rfl, sameI (by omega) ?_⟩
        refine ⟨xs.length - (j + 1), by omega, j + 1, cs', ts ++ [x], os', rfl, hlt', rfl, toD, by omega, by rw [List.map_append]; exact rD, ?_, ?_⟩
        · intro i hi
          rcases oD i hi with h' | h'
          · exact ⟨(hown i h').1, fun hc => hst i hc h'⟩
          · exact ⟨by omega, fun hc => by have := tlt i hc; omega⟩
        · refine ((frP hB).trans hnC.fr).step fD ?_
          intro i hi hc
          have := (hown i hc).1
          have := f3.size
          omega
  · refine ⟨fun i B m => ∃ q : Nat, i = (q : Int) ∧ q ≤ aq.length ∧ m = aq.length - q ∧ Fr no A B, ⟨_, 0, rfl, Nat.zero_le _, rfl, Fr.refl _ _⟩, ?_⟩
    rintro i B m ⟨q, rfl, hq, rfl, fB⟩ scr2
    have hTB : Tb B b 0 71 cs ts os := hT.st.keep fB (fun h => h) (fun _ _ h => h)
    have hfB := hf.trans fB
    have hMB := hM.keep fB (fun _ _ h => h)
    refine ⟨fun hlt => ?_, fun _ => ?_⟩
    · have hql : q < aq.length := by
        have : (q : Int) < (ask.n : Int) := of_decide_eq_true hlt
        omega
      have hx : aq[q]? = some aq[q] := List.getElem?_eq_getElem hql
      obtain ⟨a1, a2, a3⟩ := (h'.keep hfB (fun _ _ h => h)).el _ _ hx
      generalize aq[q] = x at *
      have e : w64 ((q : Int) + 1) = ((q + 1 : Nat) : Int) := by rw [wrap64 (by omega) (by omega)]; omega
      rw [e]
      refine ⟨a1, a2, ⟨by omega, by omega⟩, _, by rw [Int.toNat_natCast]; exact a3, ?_⟩
      refine find_ok hTB (by omega) ?_ ?_
      · intro n' C hn' fC
        obtain ⟨c1, c2, c3⟩ := (h'.keep (hfB.trans fC) (fun _ _ h => h)).el _ _ hx
        have hMC := hMB.keep fC (fun _ _ h => h)
        have num : ∀ {K' : Value → Hp → Prop}, K' (.int .i64 (n' : Int)) C → CallF Try.prog 47 #[.slice s.a s.n s.c, .string x] C K' Z := by
          intro K' hK'
          refine Q05.number_ok hMC (by omega) ?_ ?_
          · intro i hi _
            have hu := hT.st.ok.uniq lin hn' hi
            subst hu
            exact hK'
          · intro hno
            exact absurd (List.mem_of_getElem? hn') hno
        have hd : decide ((n' : Int) ≥ 0) = true := decide_eq_true (by omega)
        refine ⟨_, _, rfl, c1, c2, ⟨by omega, by omega⟩, _, by rw [Int.toNat_natCast]; exact c3, num ⟨_, rfl, (fun h => by rw [hd] at h; simp at h), fun _ => ⟨c1, c2, ⟨by omega, by omega⟩, _, by rw [Int.toNat_natCast]; exact c3, num ⟨_, rfl, sameI ?_ ?_⟩⟩⟩⟩
        · split <;> omega
        · exact ⟨aq.length - (q + 1), by omega, q + 1, rfl, hql, rfl, fB.trans fC⟩
      · intro C hno fC
        obtain ⟨c1, c2, c3⟩ := (h'.keep (hfB.trans fC) (fun _ _ h => h)).el _ _ hx
        have hMC := hMB.keep fC (fun _ _ h => h)
        have num : ∀ {K' : Value → Hp → Prop}, K' (.int .i64 (-1)) C → CallF Try.prog 47 #[.slice s.a s.n s.c, .string x] C K' Z := by
          intro K' hK'
          refine Q05.number_ok hMC (by omega) ?_ ?_
          · intro i hi _
            exact absurd (List.mem_of_getElem? hi) hno
          · intro _
            exact hK'
        have hd : decide ((-1 : Int) ≥ 0) = false := by decide
        refine ⟨_, _, rfl, c1, c2, ⟨by omega, by omega⟩, _, by rw [Int.toNat_natCast]; exact c3, num ⟨_, rfl, (fun h => by rw [hd] at h; simp at h), fun _ => ⟨c1, c2, ⟨by omega, by omega⟩, _, by rw [Int.toNat_natCast]; exact c3, num ⟨_, rfl, sameI (by rfl) ?_⟩⟩⟩⟩
        exact ⟨aq.length - (q + 1), by omega, q + 1, rfl, hql, rfl, fB.trans fC⟩
    · have tail : CallF Try.prog 52 #[.pointer (some ⟨b, 0, none⟩), .slice s.a s.n s.c] B (fun r8 H15 => ∃ y5 : Bool, r8 = .bool y5 ∧ ((y5 = true → CallF Try.prog 46 #[] H15 (fun r9 H16 => ∃ y6 : Bool, r9 = .bool y6 ∧ K (.bool y6) H16) Z) ∧ (y5 = false → K (.bool false) H15))) Z := by
        refine rising_ok hTB hMB (by omega) ?_
        intro C fC
        refine ⟨true, rfl, fun _ => ?_, fun h => by cases h⟩
        refine works_ok ?_
        intro D fD
        exact ⟨true, rfl, k D ((hfB.trans fC).trans fD)⟩
      refine at_ok hTB ?_ ?_
      · intro x h0 hx
        have hlt := (List.getElem?_eq_some_iff.1 hx).1
        have d1 : decide (n ≥ 0) = true := decide_eq_true h0
        have d2 : decide (n < (s.n : Int)) = true := decide_eq_true (by omega)
        have d3 : decide (n < 0) = false := decide_eq_false (by omega)
        have d4 : decide (n ≥ (s.n : Int)) = false := decide_eq_false (by omega)
        obtain ⟨a1, a2, a3⟩ := hMB.el _ _ hx
        refine ⟨_, _, rfl, fun _ => ⟨fun _ => ⟨a1, a2, ⟨by omega, by omega⟩, _, a3, (fun h => by rw [beqS_iff.2 rfl] at h; cases h), fun _ => ⟨(fun h => by cases h), fun _ => ⟨(fun h => by rw [d3] at h; cases h), fun _ => ⟨(fun h => by rw [d4] at h; cases h), fun _ => tail⟩⟩⟩⟩, fun h => by rw [d2] at h; cases h⟩, fun h => by rw [d1] at h; cases h⟩
      · intro hbad
        have beq0 : ∀ {P : Prop}, (!(beqS (⟨#[]⟩ : ByteArray) ⟨#[]⟩)) = true → P := fun h => by rw [beqS_iff.2 rfl] at h; cases h
        by_cases h0 : n < 0
        · have d1 : decide (n ≥ 0) = false := decide_eq_false (by omega)
          have d3 : decide (n < 0) = true := decide_eq_true h0
          refine ⟨_, _, rfl, (fun h => by rw [d1] at h; cases h), fun _ => ⟨fun _ => ⟨beq0, fun _ => ⟨(fun h => by cases h), fun _ => tail⟩⟩, fun h => by rw [d3] at h; cases h⟩⟩
        · have d1 : decide (n ≥ 0) = true := decide_eq_true (by omega)
          have d2 : decide (n < (s.n : Int)) = false := decide_eq_false (by omega)
          have d3 : decide (n < 0) = false := decide_eq_false h0
          have d4 : decide (n ≥ (s.n : Int)) = true := decide_eq_true (by omega)
          refine ⟨_, _, rfl, fun _ => ⟨(fun h => by rw [d2] at h; cases h), fun _ => ⟨(fun h => by rw [d3] at h; cases h), fun _ => ⟨fun _ => ⟨beq0, fun _ => ⟨(fun h => by cases h), fun _ => tail⟩⟩, fun h => by rw [d4] at h; cases h⟩⟩⟩, fun h => by rw [d1] at h; cases h⟩
end Go.Proofs.Ytoigfahdgphpdaa.L05T

