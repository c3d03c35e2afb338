/- weftlaw05: the law InternOne over heaps. -/
import Derived.Test.YtoigfahdgphpdaaL05
set_option linter.unusedVariables false
set_option linter.unusedSimpArgs false
-- lawOne: 14
-- oneL: 58
-- works: 46
-- lenI: 56
-- risingI: 57
-- tTabI: 81
-- tInt: 3
-- tInts: 42
-- tBool: 4
namespace Go.Proofs.Ytoigfahdgphpdaa.L05O
open Go Go.V Go.Proofs Go.Proofs.Ytoigfahdgphpdaa.N05 Go.Proofs.Ytoigfahdgphpdaa.L05 Go.Proofs.Ytoigfahdgphpdaa.C05I
attribute [local irreducible] Cvt ExtF CallF hrun
theorem okOne : fnOk Try.prog 58 = true := by kernel_rfl
/-- one thing is told -/
theorem oneL_ok {A : Hp} {x k : Int} {bG bT bL bS : Nat} {told : Nat} {last stop : Int} {K : Value → Hp → Prop} {Z : List PanicEntry → Hp → Prop} (hG : Blk A bG [.bool true] 4) (hT : Blk A bT [.int .i64 (told : Int)] 3) (hL : Blk A bL [.int .i64 last] 3) (hS : Blk A bS [.int .i64 stop] 3)
    (n1 : bG ≠ bT) (n2 : bG ≠ bL) (n3 : bT ≠ bL) (n4 : bG ≠ bS) (n5 : bT ≠ bS) (n6 : bL ≠ bS) (hok : told = 0 ∨ last < x) (hbig : told ≤ 1000000000)
    (k1 : ∀ B, Blk B bG [.bool true] 4 → Blk B bT [.int .i64 ((told + 1 : Nat) : Int)] 3 → Blk B bL [.int .i64 x] 3 → Blk B bS [.int .i64 stop] 3 → Fr (fun i => i = bG ∨ i = bT ∨ i = bL) A B → K (.bool (decide (((told + 1 : Nat) : Int) ≤ stop))) B) :
    CallF Try.prog 58 #[.int .i64 x, .int .i64 k, .pointer (some ⟨bG, 0, none⟩), .pointer (some ⟨bT, 0, none⟩), .pointer (some ⟨bL, 0, none⟩), .pointer (some ⟨bS, 0, none⟩)] A K Z := by
  refine V58_ok ?_
  unfold V58
  have e : w64 ((told : Int) + 1) = ((told + 1 : Nat) : Int) := by rw [wrap64 (by omega) (by omega)]; omega
  have rest : StL ⟨bG, 0, none⟩ 0 [.bool true] A fun H4 => (StL ⟨bL, 0, none⟩ 0 [.int .i64 x] H4 fun H5 => (∃ x7 : Int, hcell H5 ⟨bT, 0, none⟩ = some (.int .i64 x7) ∧ StL ⟨bT, 0, none⟩ 0 [.int .i64 (w64 (x7 + 1))] H5 fun H6 =>
      (∃ x8 : Int, hcell H6 ⟨bT, 0, none⟩ = some (.int .i64 x8) ∧ ∃ x9 : Int, hcell H6 ⟨bS, 0, none⟩ = some (.int .i64 x9) ∧ K (.bool (decide (x8 ≤ x9))) H6))) := by
    refine st_blk hG (by simp) rfl ?_
    intro B bB fB _
    refine st_blk (fB.blk hL (Ne.symm n2)) (by simp) rfl ?_
    intro C bC fC _
    have tC : Blk C bT [.int .i64 (told : Int)] 3 := fC.blk (fB.blk hT (Ne.symm n1)) n3
    refine ⟨_, tC.ld 0, ?_⟩
    rw [e]
    refine st_blk tC (by simp) rfl ?_
    intro D bD fD _
    have sD : Blk D bS [.int .i64 stop] 3 := fD.blk (fC.blk (fB.blk hS (Ne.symm n4)) (Ne.symm n6)) (Ne.symm n5)
    refine ⟨_, bD.ld 0, _, sD.ld 0, k1 D (fD.blk (fC.blk bB n2) n1) bD (fD.blk bC (Ne.symm n3)) sD ?_⟩
    refine ((fB.mono fun i _ h => .inl h).step fC ?_).step fD ?_
    · intro i _ h; exact .inr (.inr h)
    · intro i _ h; exact .inr (.inl h)
  refine ⟨true, hG.ld 0, fun _ => ⟨_, hT.ld 0, fun h0 => rest, fun h0 => ⟨_, hL.ld 0, ?_⟩⟩, fun h => by cases h⟩
  have h0' : told ≠ 0 := by
    have : ¬ (told : Int) = 0 := by simpa using h0
    omega
  have hlt : last < x := by
    rcases hok with h | h
    · exact absurd h h0'
    · exact h
  rw [decide_eq_true hlt]
  exact rest
theorem mod20 (x : Int) : ∃ st : Nat, w64 (Int.tmod (IntKind.wrap .u64 x) 20) = (st : Int) ∧ st < 20 := by
  have h0 : 0 ≤ IntKind.wrap .u64 x := by
    simp only [IntKind.wrap, IntKind.bits, IntKind.signed, Int.reducePow, Nat.reduceSub, Bool.false_and, Bool.false_eq_true, if_false]
    omega
  generalize IntKind.wrap .u64 x = y at *
  rw [Int.tmod_eq_emod_of_nonneg h0, wrap64 (by omega) (by omega)]
  exact ⟨(y % 20).toNat, by omega, by omega⟩
theorem riseL_get {ts : List Int} {os : List Nat} {j : Nat} {k : Nat} {x : Int} (h : Tbl lt ts os) (h1 : os[j]? = some k) (h2 : ts[k]? = some x) : (riseL ts os)[j]? = some x := by
  have hj := (List.getElem?_eq_some_iff.1 h1).1
  have e := rise_succ h1 h2
  have l1 := h.rise_len (j := j) (by omega)
  have happ : riseL ts os = riseL ts (os.take (j + 1)) ++ riseL ts (os.drop (j + 1)) := by
    unfold riseL
    rw [← List.filterMap_append, List.take_append_drop]
  rw [happ, e, List.append_assoc, List.getElem?_append_right (by omega), l1, Nat.sub_self]
  rfl
set_option maxRecDepth 10000 in
theorem one_ok {H : Hp} {l : Sl} {xs : List Int} {stop : Int} {K : Value → Hp → Prop} {Z : List PanicEntry → Hp → Prop} (h : Els val H l xs) (hbig : xs.length ≤ 1048576) (k : ∀ H', Fr no H H' → K (.bool true) H') : CallF Try.prog 14 #[.slice l.a l.n l.c, .int .i64 stop] H K Z := by
  refine V14_ok ?_
  unfold V14
  intro bS A1 hn1
  have eS := hn1.eq
  refine works_ok ?_
  intro A2 f2
  refine ⟨true, rfl, (fun h => by cases h), fun _ => ⟨fun _ => k A2 (hn1.fr.trans f2), fun _ => ?_⟩⟩
  intro b A3 hn3
  have eb := hn3.eq
  have z1 := hn1.size
  have z2 := f2.size
  have z3 := hn3.size
  have hl := h.len
  have f3 : Fr no H A3 := (hn1.fr.trans f2).trans hn3.fr
  have t0 := tb_nil hn3.blk
  have bS3 : Blk A3 bS [.int .i64 stop] 3 := hn3.fr.blk (f2.blk hn1.blk fun h => h) fun h => h
  have frT : ∀ {B c2 t2 o2}, TbT A3 B b 0 81 [.slice none 0 0, .slice none 0 0] c2 t2 o2 → Fr (fun i => i = b) A3 B := by
    intro B c2 t2 o2 hB
    refine hB.fr.mono ?_
    rintro i _ (h' | h')
    · exact h'
    · exact (tOwn_nil h').elim
  have ownT : ∀ {B c2 t2 o2}, TbT A3 B b 0 81 [.slice none 0 0, .slice none 0 0] c2 t2 o2 → ∀ i, tOwn c2 0 i → A3.size ≤ i := by
    intro B c2 t2 o2 hB i hi
    rcases hB.own i hi with h' | h'
    · exact (tOwn_nil h').elim
    · exact h'
  refine ⟨fun s i A m => ∃ (j : Nat) (cs : List Value) (ts : List Int) (os : List Nat) (ns : List Int), i = (j : Int) ∧ j ≤ xs.length ∧ m = xs.length - j ∧ TbT A3 A b 0 81 [.slice none 0 0, .slice none 0 0] cs ts os ∧ ts.length ≤ j ∧ Row A 3 1 s (ns.map val) ∧ ns.length = j ∧
      (∀ (t : Nat) (x : Int), t < j → xs[t]? = some x → ∃ n : Nat, ns[t]? = some (n : Int) ∧ ts[n]? = some x) ∧ (∀ i, own s i → A3.size ≤ i ∧ ¬ tOwn cs 0 i) ∧ Fr no H A ∧ Blk A bS [.int .i64 stop] 3,
    ⟨_, 0, _, [], [], [], rfl, Nat.zero_le _, rfl, TbTo.refl t0, Nat.le_refl _, Row.nil _ _ _, rfl, (by intro t x h; omega), (by rintro i ⟨o, e⟩; cases e), f3, bS3⟩, ?_⟩
  rintro s i A m ⟨j, cs, ts, os, ns, rfl, hj, rfl, hT, htl, hr, hnl, hns, hown, hf, hS⟩ scr
  have hE := h.keep hf (fun _ _ h => h)
  have hsn : s.n = j := by
    have := hr.1
    rw [List.length_map, hnl, Nat.mul_one] at this
    exact this.symm
  refine ⟨fun hlt => ?_, fun hge => ?_⟩
  · have hlt' : j < xs.length := by
      have : (j : Int) < (l.n : Int) := of_decide_eq_true hlt
      omega
    have hx : xs[j]? = some xs[j] := List.getElem?_eq_getElem hlt'
    obtain ⟨ad, ha, hc⟩ := hE.el _ _ hx
    refine ⟨ad, ha, ⟨by omega, by omega⟩, _, by rw [Int.toNat_natCast]; exact hc, ?_⟩
    -- what follows a put
    have body : ∀ (B : Hp) (cs' : List Value) (ts' : List Int) (os' : List Nat) (n : Nat), TbT A B b 0 81 cs cs' ts' os' → ts'.length ≤ j + 1 → ts'[n]? = some xs[j] → (∀ (q : Nat) (x : Int), ts[q]? = some x → ts'[q]? = some x) →
        ∀ b1 C, Newb B (.cells #[.int .i64 (n : Int)] 3) b1 C → App Try.prog #[42, 42] 42 C [.slice s.a s.n s.c, .slice (some ⟨b1, 0, none⟩) 1 1] fun ap H7 => (∃ m2, m2 < xs.length - j ∧ ∃ (j' : Nat) (cs : List Value) (ts : List Int) (os : List Nat) (ns : List Int), w64 ((j : Int) + 1) = (j' : Int) ∧ j' ≤ xs.length ∧ m2 = xs.length - j' ∧ TbT A3 H7 b 0 81 [.slice none 0 0, .slice none 0 0] cs ts os ∧ ts.length ≤ j' ∧ Row H7 3 1 ap (ns.map val) ∧ ns.length = j' ∧
          (∀ (t : Nat) (x : Int), t < j' → xs[t]? = some x → ∃ n : Nat, ns[t]? = some (n : Int) ∧ ts[n]? = some x) ∧ (∀ i, own ap i → A3.size ≤ i ∧ ¬ tOwn cs 0 i) ∧ Fr no H H7 ∧ Blk H7 bS [.int .i64 stop] 3) := by
      intro B cs' ts' os' n hB htl' hn' hext b1 C hnC
      have e1 := hnC.eq
      have zC := hnC.size
      obtain ⟨inf, j1, j2, j3, j4⟩ := iInt
      have hsB : ∀ i, own s i → ¬ (i = b ∨ tOwn cs 0 i) := by
        rintro i hi (h' | h')
        · have := (hown i hi).1; omega
        · exact (hown i hi).2 h'
      have hrC := (hr.keep hB.fr hsB).keep hnC.fr (fun _ _ h => h)
      rw [← j3] at hrC
      have bC : Blk C b1 [.int .i64 (n : Int)] 3 := hnC.blk
      refine app_row2 uInts (by intro k; rw [uInts]; simp) ⟨_, uInts⟩ j1 j2 (by rw [j3]; rfl) (by rw [j4]; decide) hrC (Src.blk bC (by rw [j3]; rfl)) ?_ (by rw [j4]; omega) ?_
      · intro v hv'
        simp only [List.mem_singleton] at hv'
        subst hv'
        rfl
      intro ap D rD nD fD oD _
      rw [j3] at rD
      have hTB := hT.trans hB
      have hsb : ¬ own s b := fun hc => by have := (hown _ hc).1; omega
      have tlt : ∀ i, tOwn cs' 0 i → i < B.size := fun i hi => hB.st.own_lt hi
      have hst : ∀ i, tOwn cs' 0 i → ¬ own s i := by
        intro i hi hc
        rcases hB.own i hi with h' | h'
        · exact (hown i hc).2 h'
        · have := hr.lt hc; omega
      have stD : Tb D b 0 81 cs' ts' os' := (hB.st.keep hnC.fr (fun h => h) (fun _ _ h => h)).keep fD hsb hst
      have zB := hB.fr.size
      have zA := hT.fr.size
      have toD : TbT A3 D b 0 81 [.slice none 0 0, .slice none 0 0] cs' ts' os' := by
        refine ⟨stD, hTB.len, hTB.rest, ?_, hTB.own⟩
        refine (hTB.fr.step hnC.fr (fun _ _ h => h.elim)).step fD ?_
        intro i hi hc
        have := (hown i hc).1
        omega
      have e : w64 ((j : Int) + 1) = ((j + 1 : Nat) : Int) := by rw [wrap64 (by omega) (by omega)]; omega
      rw [e]
      refine ⟨xs.length - (j + 1), by omega, j + 1, cs', ts', os', ns ++ [(n : Int)], rfl, hlt', rfl, toD, htl', by rw [List.map_append]; exact rD, by rw [List.length_append, hnl]; rfl, ?_, ?_, ?_, ?_⟩
      · intro t x ht hxt
        rcases Nat.lt_or_eq_of_le (Nat.le_of_lt_succ ht) with h' | rfl
        · obtain ⟨q, q1, q2⟩ := hns t x h' hxt
          exact ⟨q, by rw [List.getElem?_append_left (by omega)]; exact q1, hext q x q2⟩
        · rw [hx] at hxt
          cases hxt
          exact ⟨n, by rw [← hnl]; simp, hn'⟩
      · intro i hi
        rcases oD i hi with h' | h'
        · refine ⟨(hown i h').1, fun hc => hst i hc h'⟩
        · refine ⟨by omega, fun hc => by have := tlt i hc; omega⟩
      · refine ((hf.step hB.fr ?_).trans hnC.fr).step fD ?_
        · rintro i hi (h' | h')
          · omega
          · have := ownT hT i h'; omega
        · intro i hi hc
          have := (hown i hc).1
          omega
      · refine fD.blk (hnC.fr.blk (hB.fr.blk hS ?_) fun h => h) ?_
        · rintro (h' | h')
          · omega
          · have := ownT hT _ h'; omega
        · intro hc
          have := (hown _ hc).1
          omega
    refine put_ok hT.st (by omega) ?_ ?_
    · intro n B hn hB
      exact ⟨_, _, rfl, body B cs ts os n hB (by omega) (by rw [hn]) (fun _ _ h => h)⟩
    · intro B cs' os' hn hB
      refine ⟨_, _, rfl, body B cs' _ os' ts.length hB (by rw [List.length_append, List.length_singleton]; omega) (by simp) ?_⟩
      intro q x hq
      rw [List.getElem?_append_left (List.getElem?_eq_some_iff.1 hq).1]
      exact hq
  · have hge' : j = xs.length := by
      have : ¬ (j : Int) < (l.n : Int) := of_decide_eq_false hge
      omega
    subst hge'
    have hNs := Els.row hr
    refine ⟨fun i B m => ∃ q : Nat, i = (q : Int) ∧ q ≤ xs.length ∧ m = xs.length - q ∧ Fr no A B, ⟨_, 0, rfl, Nat.zero_le _, rfl, Fr.refl _ _⟩, ?_⟩
    rintro i B m ⟨q, rfl, hq, rfl, fB⟩ scr1
    have hTB : Tb B b 0 81 cs ts os := hT.st.keep fB (fun h => h) (fun _ _ h => h)
    refine ⟨fun C => C = B ∧ q < xs.length, ?_, ?_⟩
    · rintro C ⟨rfl, hql⟩ scr2
      have hx : xs[q]? = some xs[q] := List.getElem?_eq_getElem hql
      obtain ⟨n, hn1', hn2'⟩ := hns q _ hql hx
      have hN : Els val C s ns := hNs.keep fB (fun _ _ h => h)
      have hX : Els val C l xs := hE.keep fB (fun _ _ h => h)
      obtain ⟨a1, a2, a3⟩ := hN.el _ _ hn1'
      obtain ⟨l1, l2, l3⟩ := hX.el _ _ hx
      refine ⟨a1, a2, ⟨by omega, by omega⟩, _, by rw [Int.toNat_natCast]; exact a3, ?_⟩
      refine at_ok hTB ?_ ?_
      · intro x' _ hx'
        rw [Int.toNat_natCast, hn2'] at hx'
        cases hx'
        refine ⟨_, _, rfl, l1, l2, ⟨by omega, by omega⟩, _, by rw [Int.toNat_natCast]; exact l3, ?_⟩
        refine find_ok hTB (by omega) ?_ ?_
        · intro n' D hn' fD
          have hu := hTB.ok.uniq lin hn' hn2'
          subst hu
          have hXD : Els val D l xs := hX.keep fD (fun _ _ h => h)
          have hND : Els val D s ns := hN.keep fD (fun _ _ h => h)
          obtain ⟨l4, l5, l6⟩ := hXD.el _ _ hx
          obtain ⟨a4, a5, a6⟩ := hND.el _ _ hn1'
          have hnl' := (List.getElem?_eq_some_iff.1 hn2').1
          refine ⟨_, _, rfl, l4, l5, ⟨by omega, by omega⟩, _, by rw [Int.toNat_natCast]; exact l6, fun h => by simp at h, fun _ => ⟨(fun h => by cases h), fun _ => ?_⟩⟩
          refine ⟨a4, a5, ⟨by omega, by omega⟩, _, by rw [Int.toNat_natCast]; exact a6, fun h => by simp at h, fun _ => ⟨(fun h => by cases h), fun _ => ⟨fun h => ?_, fun _ => ?_⟩⟩⟩
          · have : (n' : Int) < 0 := of_decide_eq_true h
            omega
          · refine len_ok (hTB.keep fD (fun h => h) (fun _ _ h => h)) ⟨_, rfl, fun h => ?_, fun _ => ?_⟩
            · have : (n' : Int) ≥ (ts.length : Int) := of_decide_eq_true h
              omega
            · have e : w64 ((q : Int) + 1) = ((q + 1 : Nat) : Int) := by rw [wrap64 (by omega) (by omega)]; omega
              rw [e]
              exact ⟨xs.length - (q + 1), by omega, q + 1, rfl, hql, rfl, fB.trans fD⟩
        · intro D hn' _
          exact absurd (List.mem_of_getElem? hn2') hn'
      · intro hbad
        have := (List.getElem?_eq_some_iff.1 hn2').1
        omega
    · refine ⟨fun hlt => ⟨fun _ => ⟨rfl, ?_⟩, fun hbad => ?_⟩, fun _ => ?_⟩
      · have : (q : Int) < (l.n : Int) := of_decide_eq_true hlt
        omega
      · have h1 : (q : Int) < (l.n : Int) := of_decide_eq_true hlt
        have h2 : ¬ (q : Int) < (s.n : Int) := of_decide_eq_false hbad
        omega
      · obtain ⟨st, hst, hst20⟩ := mod20 stop
        have sB : Blk B bS [.int .i64 stop] 3 := fB.blk hS fun h => h
        refine ⟨_, sB.ld 0, ?_⟩
        rw [hst]
        have zA := hT.fr.size
        have zB := fB.size
        have lenT := hT.st.ok.len
        refine st_blk sB (by simp) rfl ?_
        intro C0 sC0 fC0 zC0 bT C1 hnT bL C2 hnL bG C3 hnG
        have eT := hnT.eq
        have eL := hnL.eq
        have eG := hnG.eq
        have zT := hnT.size
        have zL := hnL.size
        have zG := hnG.size
        have fC3 : Fr no C0 C3 := (hnT.fr.trans hnL.fr).trans hnG.fr
        refine st_blk (hnG.fr.blk (hnL.fr.blk hnT.blk fun h => h) fun h => h) (by simp) rfl ?_
        intro C4 tC4 fC4 zC4
        refine st_blk (fC4.blk (hnG.fr.blk hnL.blk fun h => h) (by omega)) (by simp) rfl ?_
        intro C5 lC5 fC5 zC5
        refine st_blk (fC5.blk (fC4.blk hnG.blk (by omega)) (by omega)) (by simp) rfl ?_
        intro C6 gC6 fC6 zC6
        have tC6 : Blk C6 bT [.int .i64 0] 3 := fC6.blk (fC5.blk tC4 (by omega)) (by omega)
        have lC6 : Blk C6 bL [.int .i64 0] 3 := fC6.blk lC5 (by omega)
        have sC6 : Blk C6 bS [.int .i64 (st : Int)] 3 := fC6.blk (fC5.blk (fC4.blk (fC3.blk sC0 fun h => h) (by omega)) (by omega)) (by omega)
        have fAll : Fr no H C6 := by
          refine (((((hf.trans fB).step fC0 ?_).trans fC3).step fC4 ?_).step fC5 ?_).step fC6 ?_
          · intro i hi e; omega
          · intro i hi e; omega
          · intro i hi e; omega
          · intro i hi e; omega
        have tl : ∀ i, tOwn cs 0 i → A3.size ≤ i ∧ i < B.size := fun i hi => ⟨ownT hT i hi, by have := hT.st.own_lt hi; omega⟩
        have tb6 : Tb C6 b 0 81 cs ts os := by
          refine ((((hTB.keep fC0 (by omega) ?_).keep fC3 (fun h => h) (fun _ _ h => h)).keep fC4 (by omega) ?_).keep fC5 (by omega) ?_).keep fC6 (by omega) ?_
          · intro i hi e; have := tl i hi; omega
          · intro i hi e; have := tl i hi; omega
          · intro i hi e; have := tl i hi; omega
          · intro i hi e; have := tl i hi; omega
        refine V57_ok ?_
        unfold V57
        intro bR D hnR
        have eR := hnR.eq
        have zR := hnR.size
        refine ⟨_, rfl, ?_⟩
        unfold callV
        simp only [okR1, if_true]
        have tbD : Tb D b 0 81 cs ts os := tb6.keep hnR.fr (fun h => h) (fun _ _ h => h)
        have fR := hnR.fr
        have e1 : w64 ((st : Int) + 1) = ((st + 1 : Nat) : Int) := by rw [wrap64 (by omega) (by omega)]; omega
        have finK : ∀ (X : Hp) (t : Nat), Blk X bG [.bool true] 4 → Blk X bT [.int .i64 (t : Int)] 3 → Blk X bS [.int .i64 (st : Int)] 3 → Tb X b 0 81 cs ts os → Fr no H X → (t = if ts.length < st + 1 then ts.length else st + 1) →
            (∃ x6 : Bool, hcell X ⟨bG, 0, none⟩ = some (.bool x6) ∧ ((x6 = true → ((∃ x7 : Int, hcell X ⟨bT, 0, none⟩ = some (.int .i64 x7) ∧ ((∃ x8 : Int, hcell X ⟨bS, 0, none⟩ = some (.int .i64 x8) ∧ CallF Try.prog 56 #[.pointer (some ⟨b, 0, none⟩)] X (fun r7 H22 => ∃ y3 : Int, r7 = .int .i64 y3 ∧ K (.bool (x7 == (if y3 < (w64 (x8 + 1)) then y3 else (w64 (x8 + 1))))) H22) Z) ∧
              (CallF Try.prog 56 #[.pointer (some ⟨b, 0, none⟩)] X (fun r8 H23 => ∃ y4 : Int, r8 = .int .i64 y4 ∧ ∃ x9 : Int, hcell H23 ⟨bS, 0, none⟩ = some (.int .i64 x9) ∧ K (.bool (x7 == (if y4 < (w64 (x9 + 1)) then y4 else (w64 (x9 + 1))))) H23) Z))) ∧
              (∃ x10 : Int, hcell X ⟨bS, 0, none⟩ = some (.int .i64 x10) ∧ ((∃ x11 : Int, hcell X ⟨bT, 0, none⟩ = some (.int .i64 x11) ∧ CallF Try.prog 56 #[.pointer (some ⟨b, 0, none⟩)] X (fun r9 H24 => ∃ y5 : Int, r9 = .int .i64 y5 ∧ K (.bool (x11 == (if y5 < (w64 (x10 + 1)) then y5 else (w64 (x10 + 1))))) H24) Z) ∧
              (CallF Try.prog 56 #[.pointer (some ⟨b, 0, none⟩)] X (fun r10 H25 => ∃ y6 : Int, r10 = .int .i64 y6 ∧ ∃ x12 : Int, hcell H25 ⟨bT, 0, none⟩ = some (.int .i64 x12) ∧ K (.bool (x12 == (if y6 < (w64 (x10 + 1)) then y6 else (w64 (x10 + 1))))) H25) Z))) ∧
              (CallF Try.prog 56 #[.pointer (some ⟨b, 0, none⟩)] X (fun r11 H26 => ∃ y7 : Int, r11 = .int .i64 y7 ∧ ∃ x13 : Int, hcell H26 ⟨bT, 0, none⟩ = some (.int .i64 x13) ∧ ∃ x14 : Int, hcell H26 ⟨bS, 0, none⟩ = some (.int .i64 x14) ∧ K (.bool (x13 == (if y7 < (w64 (x14 + 1)) then y7 else (w64 (x14 + 1))))) H26) Z))) ∧
              (x6 = false → (((K (.bool false) X) ∧ (K (.bool false) X)) ∧ ((K (.bool false) X) ∧ (K (.bool false) X)) ∧ (K (.bool false) X))))) := by
          intro X t hG hTt hSs hTb hfX ht
          have hk := k X hfX
          have eq : (((t : Int) == (if (ts.length : Int) < (w64 ((st : Int) + 1)) then (ts.length : Int) else (w64 ((st : Int) + 1))))) = true := by
            rw [e1, beq_iff_eq]
            by_cases hc : ts.length < st + 1
            · rw [if_pos hc] at ht
              rw [if_pos (by omega)]
              omega
            · rw [if_neg hc] at ht
              rw [if_neg (by omega)]
              omega
          have fk : K (.bool ((t : Int) == (if (ts.length : Int) < (w64 ((st : Int) + 1)) then (ts.length : Int) else (w64 ((st : Int) + 1))))) X := by rw [eq]; exact hk
          exact ⟨true, hG.ld 0, fun _ => ⟨⟨_, hTt.ld 0, ⟨_, hSs.ld 0, len_ok hTb ⟨_, rfl, fk⟩⟩, len_ok hTb ⟨_, rfl, _, hSs.ld 0, fk⟩⟩, ⟨_, hSs.ld 0, ⟨_, hTt.ld 0, len_ok hTb ⟨_, rfl, fk⟩⟩, len_ok hTb ⟨_, rfl, _, hTt.ld 0, fk⟩⟩, len_ok hTb ⟨_, rfl, _, hTt.ld 0, _, hSs.ld 0, fk⟩⟩, fun h => by cases h⟩
        refine rising1_ok (S := fun i => i = bG ∨ i = bT ∨ i = bL)
          (Inv := fun m j X => Blk X bG [.bool true] 4 ∧ Blk X bT [.int .i64 (j : Int)] 3 ∧ (∃ last, Blk X bL [.int .i64 last] 3 ∧ (j = 0 ∨ (riseL ts os)[j - 1]? = some last)) ∧ Blk X bS [.int .i64 (st : Int)] 3 ∧ Tb X b 0 81 cs ts os ∧ Fr no H X ∧ j ≤ st)
          (Fin := fun j X => Blk X bG [.bool true] 4 ∧ Blk X bT [.int .i64 (j : Int)] 3 ∧ Blk X bS [.int .i64 (st : Int)] 3 ∧ Tb X b 0 81 cs ts os ∧ Fr no H X ∧ j = st + 1)
          tbD (by omega) hnR.blk ?_ ?_ ?_ ?_ ?_ ?_ ?_ ?_
        · rintro (h' | h' | h') <;> omega
        · rintro i hi (h' | h' | h') <;> (have := tl i hi; omega)
        · rintro (h' | h' | h') <;> omega
        · rintro i (h' | h' | h') <;> omega
        · intro X fX
          have fX' := fR.trans fX
          exact ⟨fX'.blk gC6 fun h => h, fX'.blk tC6 fun h => h, ⟨0, fX'.blk lC6 fun h => h, .inl rfl⟩, fX'.blk sC6 fun h => h, tb6.keep fX' (fun h => h) (fun _ _ h => h), fAll.trans fX', Nat.zero_le _⟩
        · rintro m j X k' x hk' hx' hm1 hm2 hTbX ⟨g1, g2, ⟨last, g3, g4⟩, g5, g6, g7, g8⟩
          have hjl : j < os.length := (List.getElem?_eq_some_iff.1 hk').1
          have hxr := riseL_get hT.st.ok hk' hx'
          have hok : j = 0 ∨ last < x := by
            rcases g4 with h' | h'
            · exact .inl h'
            · by_cases hj0 : j = 0
              · exact .inl hj0
              · obtain ⟨q1, rfl⟩ := List.getElem?_eq_some_iff.1 h'
                obtain ⟨q2, rfl⟩ := List.getElem?_eq_some_iff.1 hxr
                have := List.pairwise_iff_getElem.1 hT.st.ok.rising (j - 1) j q1 q2 (by omega)
                exact .inr (of_decide_eq_true this)
          unfold callV
          simp only [okOne, if_true]
          refine oneL_ok g1 g2 g3 g5 (by omega) (by omega) (by omega) (by omega) (by omega) (by omega) hok (by omega) ?_
          intro Y y1 y2 y3 y4 fY
          have tY : Tb Y b 0 81 cs ts os := g6.keep fY (by omega) (fun i hi => by have := tl i hi; omega)
          have fHY : Fr no H Y := g7.step fY (by intro i hi e; omega)
          refine ⟨_, rfl, fY.mono (fun i _ h' => .inl h'), fun hy => ?_, fun hy => ?_⟩
          · have hy' : ((j + 1 : Nat) : Int) ≤ (st : Int) := of_decide_eq_true hy
            exact ⟨y1, y2, ⟨x, y3, .inr (by rw [Nat.add_sub_cancel]; exact hxr)⟩, y4, tY, fHY, by omega⟩
          · have hy' : ¬ ((j + 1 : Nat) : Int) ≤ (st : Int) := of_decide_eq_false hy
            exact ⟨y1, y2, y4, tY, fHY, by omega⟩
        · rintro m X ⟨g1, g2, _, g5, g6, g7, g8⟩
          exact ⟨rfl, finK X os.length g1 g2 g5 g6 g7 (by rw [if_pos (by omega)]; exact lenT)⟩
        · rintro j X hj' ⟨g1, g2, g5, g6, g7, g8⟩
          exact ⟨rfl, finK X (j + 1) g1 g2 g5 g6 g7 (by rw [if_neg (by omega)]; exact g8)⟩
end Go.Proofs.Ytoigfahdgphpdaa.L05O

