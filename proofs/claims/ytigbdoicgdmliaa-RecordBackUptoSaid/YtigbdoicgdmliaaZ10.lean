import Derived.Test.YtigbdoicgdmliaaZ09
section
/- weftref26's writer, and the two ways to a summary's texts and bytes. -/
set_option linter.unusedVariables false
set_option linter.unusedSimpArgs false
-- xwnumber: 119
-- xwtext: 117
-- xwtexts: 118
-- xsummary: 93
-- xTexts: 47
-- xBytes: 49
-- texts: 51
-- texts1: 96
-- bytes: 48
-- bytes1: 94
-- rNumber: 69
-- pNumber: 30
-- tXW: 148
-- tWriter: 152
-- tSum: 90
-- tStr: 9
-- tStrs: 47
-- tObj: 128
-- tFn: 132
-- tCon: 136
namespace Go.Proofs.Ytigbdoicgdmliaa.C26X
open Go Go.V Go.Proofs Go.Proofs.Ytigbdoicgdmliaa.N26 Go.Proofs.Ytigbdoicgdmliaa.P02 Go.Proofs.Ytigbdoicgdmliaa.P26 Go.Proofs.Ytigbdoicgdmliaa.C26W
attribute [local irreducible] Cvt ExtF CallF hrun App MkS callV
def rowTI (s : Sl) (zs : List ByteArray) : It where
  ok H := Row H 9 1 s (zs.map C05S.val)
  fp i := own s i
  lt h hi := h.lt hi
  st := by
    intro H H' h hs
    refine ⟨h.1, ?_⟩
    rcases h.2 with h' | ⟨g, c, fr, ha, hg, h'⟩
    · exact .inl h'
    · exact .inr ⟨g, c, fr, ha, (hs g ⟨0, ha⟩).trans hg, h'⟩
/-- the document's writer, and what it holds -/
def XS (H0 H : Hp) (b : Nat) (ps : Sl) (w : Ws) (seen : List L8) (R : List It) : Prop :=
  ∃ (sa : Sl) (zs : List ByteArray), Sym H0 no H (blk b [.slice ps.a ps.n ps.c, .string (str w.1), .slice sa.a sa.n sa.c, .int .i64 w.2] 148 :: rowTI sa zs :: R) ∧ Rising C05S.lt zs ∧ (∀ z : L8, str z ∈ zs ↔ z ∈ seen) ∧ zs.length ≤ seen.length
section
variable {H0 H : Hp} {R : List It} {K : Value → Hp → Prop} {Z : List PanicEntry → Hp → Prop} {b : Nat} {ps : Sl} {w : Ws} {seen : List L8}
theorem XS.fr (h : XS H0 H b ps w seen R) : Fr no H0 H := by obtain ⟨_, _, h, _⟩ := h; exact h.fr
theorem XS.more {A : Hp} (h : XS H0 H b ps w seen R) (hf : Fr no H A) : XS H0 A b ps w seen R := by
  obtain ⟨sa, zs, h1, h2⟩ := h
  exact ⟨sa, zs, h1.more hf, h2⟩
theorem XS.newb {A : Hp} {c : Nat} {cs : List Value} {T : TypeId} (h : XS H0 H b ps w seen R) (hn : Newb H (.cells cs.toArray T) c A) : XS H0 A b ps w seen (blk c cs T :: R) := by
  obtain ⟨sa, zs, h1, h2⟩ := h
  exact ⟨sa, zs, rot2 (h1.newb hn), h2⟩
theorem XS.drop {x : It} (h : XS H0 H b ps w seen (x :: R)) : XS H0 H b ps w seen R := by
  obtain ⟨sa, zs, h1, h2⟩ := h
  exact ⟨sa, zs, h1.sub (List.Sublist.cons_cons _ (List.Sublist.cons_cons _ (List.sublist_cons_self _ _))), h2⟩
theorem XS.ld {c : Nat} {cs : List Value} {T : TypeId} (h : XS H0 H b ps w seen (blk c cs T :: R)) (i : Nat) : hcell H ⟨c, i, none⟩ = cs[i]? := by
  obtain ⟨sa, zs, h1, h2⟩ := h
  exact h1.ld (k := 2) rfl i
theorem XS.stbs {c : Nat} {vs cs : List Value} {T : TypeId} {Q : Hp → Prop} (h : XS H0 H b ps w seen (blk c cs T :: R)) (hl : vs.length = cs.length) (hv : ∀ v ∈ vs, v.oneCell = true) (k : ∀ A, XS H0 A b ps w seen (blk c vs T :: R) → Q A) : StL ⟨c, 0, none⟩ 0 vs H Q := by
  obtain ⟨sa, zs, h1, h2⟩ := h
  refine h1.stbs (k := 2) (i := 0) rfl (by omega) hv fun A sA => k A ⟨sa, zs, ?_, h2⟩
  have key : ∀ (vs pre cs : List Value), vs.length = cs.length → setsL (pre ++ cs) pre.length vs = pre ++ vs := by
    intro vs
    induction vs with
    | nil => intro pre cs hl; have : cs = [] := List.eq_nil_of_length_eq_zero hl.symm; subst this; rfl
    | cons v vs ih =>
      intro pre cs hl
      cases cs with
      | nil => cases hl
      | cons c cs =>
        rw [setsL, List.set_append_right _ _ (Nat.le_refl _), Nat.sub_self, List.set_cons_zero]
        have := ih (pre ++ [v]) cs (by simpa using hl)
        simp only [List.append_assoc, List.singleton_append, List.length_append, List.length_singleton] at this
        exact this
  have e : setsL cs 0 vs = vs := by have := key vs [] cs hl; simpa using this
  rw [e] at sA
  exact sA
theorem fr5 {x : Ws} {n : Int} : (numX x n).1.length ≤ x.1.length + 5 := numX_len x n
theorem str0 : (⟨#[]⟩ : ByteArray) = str [] := rfl
theorem xnum_ok {n : Int} (h : XS H0 H b ps w seen R) (hl : w.1.length ≤ 1000000000000) (kk : ∀ H', XS H0 H' b ps (numX w n) seen R → K (.tuple #[]) H') : CallF Try.prog 119 #[.pointer (some ⟨b, 0, none⟩), .int .i64 n] H K Z := by
  refine V119_ok ?_
  unfold V119
  obtain ⟨sa, zs, h1, h2⟩ := h
  have l3 : ∀ {A : Hp} {cs : List Value} {L : List It}, Sym H0 no A (blk b cs 148 :: L) → ∀ i, hcell A (Addr.add ⟨b, 0, none⟩ i) = cs[i]? := by
    intro A cs L hA i
    rw [add_mk, Nat.zero_add]
    exact hA.ld (k := 0) rfl i
  have bad : (n < 0 ∨ 268435456 < n) → ∀ {Y : Hp → Prop}, ∃ x : Int, hcell H (Addr.add ⟨b, 0, none⟩ 3) = some (.int .i64 x) ∧ (((x == 0) = true → 
      StL (Addr.add ⟨b, 0, none⟩ 3) 0 [.int .i64 2] H fun H1 => (∃ x1 : Int, hcell H1 (Addr.add ⟨b, 0, none⟩ 3) = some (.int .i64 x1) ∧ 
      (((x1 == 0) = true → ∃ x2 : ByteArray, hcell H1 (Addr.add ⟨b, 0, none⟩ 1) = some (.string x2) ∧ CallF Try.prog 69 #[.int .i64 n] H1 (fun r H2 => 
      ∃ y : ByteArray, r = .string y ∧ (hcell H2 (Addr.add ⟨b, 0, none⟩ 1) = some (.string x2) ∧ (x2.size + y.size ≤ 4611686018427387904 ∧ 
      StL (Addr.add ⟨b, 0, none⟩ 1) 0 [.string (x2 ++ y)] H2 fun H3 => (K (.tuple #[]) H3)))) Z) ∧ ((x1 == 0) = false → 
      K (.tuple #[]) H1)))) ∧ ((x == 0) = false → ∃ x3 : Int, hcell H (Addr.add ⟨b, 0, none⟩ 3) = some (.int .i64 x3) ∧ 
      (((x3 == 0) = true → ∃ x4 : ByteArray, hcell H (Addr.add ⟨b, 0, none⟩ 1) = some (.string x4) ∧ CallF Try.prog 69 #[.int .i64 n] H (fun r1 H4 => 
      ∃ y1 : ByteArray, r1 = .string y1 ∧ (hcell H4 (Addr.add ⟨b, 0, none⟩ 1) = some (.string x4) ∧ (x4.size + y1.size ≤ 4611686018427387904 ∧ 
      StL (Addr.add ⟨b, 0, none⟩ 1) 0 [.string (x4 ++ y1)] H4 fun H5 => (K (.tuple #[]) H5)))) Z) ∧ ((x3 == 0) = false → 
      K (.tuple #[]) H)))) := by
    intro hb Y
    refine ⟨_, l3 h1 3, fun h0 => ?_, fun h0 => ⟨_, l3 h1 3, fun h00 => (by rw [h0] at h00; cases h00), fun _ => ?_⟩⟩
    · have h0' : w.2 = 0 := by simpa using h0
      rw [add_mk, Nat.zero_add]
      refine h1.stb (k := 0) (i := 3) rfl (by simp) rfl fun A sA => ⟨2, sA.ld (k := 0) rfl 3, (fun h => by cases h), fun _ => kk A ⟨sa, zs, ?_, h2⟩⟩
      have e : numX w n = (w.1, 2) := by unfold numX; rw [if_pos ⟨hb, h0'⟩]
      rw [e]
      exact sA
    · have h0' : ¬ w.2 = 0 := by simpa using h0
      have e : numX w n = w := by unfold numX; rw [if_neg (fun h => h0' h.2), if_neg h0']
      rw [e] at kk
      exact kk H ⟨sa, zs, h1, h2⟩
  refine ⟨fun hn => bad (.inl (of_decide_eq_true hn)) (Y := fun _ => True), fun hn => ⟨fun hb => bad (.inr (of_decide_eq_true hb)) (Y := fun _ => True), fun hb => ⟨_, l3 h1 3, fun h0 => ?_, fun h0 => ?_⟩⟩⟩
  · have h0' : w.2 = 0 := by simpa using h0
    have hn' := of_decide_eq_false hn
    have hb' := of_decide_eq_false hb
    have e : numX w n = (w.1 ++ numB n.toNat, 0) := by unfold numX; rw [if_neg (by omega), if_pos h0']
    rw [e] at kk
    refine ⟨_, l3 h1 1, Q02.number (by omega) (by omega) fun A fA => ⟨_, rfl, ?_⟩⟩
    have sA := h1.more fA
    refine ⟨l3 sA 1, ?_, ?_⟩
    · have h5 := numB_len5 (n := n.toNat) (by omega)
      have e1 : (⟨(numB n.toNat).toArray⟩ : ByteArray) = str (numB n.toNat) := rfl
      rw [e1, str_size, str_size]
      omega
    · have e1 : (⟨(numB n.toNat).toArray⟩ : ByteArray) = str (numB n.toNat) := rfl
      rw [e1, str_app, add_mk, Nat.zero_add]
      refine sA.stb (k := 0) (i := 1) rfl (by simp) rfl fun B sB => kk B ⟨sa, zs, ?_, h2⟩
      rw [h0'] at sB
      exact sB
  · have h0' : ¬ w.2 = 0 := by simpa using h0
    have e : numX w n = w := by unfold numX; rw [if_neg (fun h => h0' h.2), if_neg h0']
    rw [e] at kk
    exact kk H ⟨sa, zs, h1, h2⟩
theorem els_of {A : Hp} {s : Sl} {ts : List L8} (h : Rd flL 1 A s ts) : Els C05S.val A s (ts.map str) := rd_els (fun _ => rfl) h
theorem xtext_ok {t : L8} {ts : List L8} (hp : Rd flL 1 H0 ps ts) (hts : ts.length ≤ 2000000) (hr : Rising ltL ts) (h : XS H0 H b ps w seen R) (hl : w.1.length ≤ 1000000000000) (hs : seen.length ≤ 2000000)
    (kk : ∀ H', XS H0 H' b ps (txtX (poolIx ts) w t) (seen ++ [t]) R → K (.tuple #[]) H') : CallF Try.prog 117 #[.pointer (some ⟨b, 0, none⟩), .string (str t)] H K Z := by
  refine V117_ok ?_
  unfold V117
  obtain ⟨sa, zs, h1, hris, hmem, hlen⟩ := h
  have l3 : ∀ {A : Hp} {cs : List Value} {L : List It}, Sym H0 no A (blk b cs 148 :: L) → ∀ i, hcell A (Addr.add ⟨b, 0, none⟩ i) = cs[i]? := by
    intro A cs L hA i
    rw [add_mk, Nat.zero_add]
    exact hA.ld (k := 0) rfl i
  refine ⟨_, l3 h1 2, Q05.into_ok (h1.get (k := 1) rfl) hris (by omega) fun s' A zs' hrow hris' hmem' hlen' fA hown => ⟨_, rfl, ?_⟩⟩
  have sA : Sym H0 no A (blk b [.slice ps.a ps.n ps.c, .string (str w.1), .slice sa.a sa.n sa.c, .int .i64 w.2] 148 :: rowTI s' zs' :: R) := h1.setk (k := 1) (b := rowTI s' zs') rfl fA.of_no hrow hown
  rw [add_mk, Nat.zero_add]
  refine sA.stb (k := 0) (i := 2) rfl (by simp) rfl fun B sB => ?_
  replace sB : Sym H0 no B (blk b [.slice ps.a ps.n ps.c, .string (str w.1), .slice s'.a s'.n s'.c, .int .i64 w.2] 148 :: rowTI s' zs' :: R) := sB
  have hm2 : ∀ z : L8, str z ∈ zs' ↔ z ∈ seen ++ [t] := by
    intro z
    rw [hmem', hmem z, List.mem_append, List.mem_singleton]
    constructor
    · rintro (h | h)
      · exact .inl h
      · exact .inr (str_inj h)
    · rintro (h | h)
      · exact .inl h
      · exact .inr (by rw [h])
  have hl2 : zs'.length ≤ (seen ++ [t]).length := by rw [List.length_append, List.length_singleton]; omega
  have XB : ∀ {w' : Ws} {C : Hp}, Sym H0 no C (blk b [.slice ps.a ps.n ps.c, .string (str w'.1), .slice s'.a s'.n s'.c, .int .i64 w'.2] 148 :: rowTI s' zs' :: R) → XS H0 C b ps w' (seen ++ [t]) R := fun sC => ⟨s', zs', sC, hris', hm2, hl2⟩
  refine ⟨_, sB.ld (k := 0) rfl 0, ?_⟩
  have hels := els_of (hp.more sB.fr)
  refine Q05.number_ok hels (by rw [List.length_map]; omega) (fun i hi _ => ⟨_, rfl, (fun hneg => by have := of_decide_eq_true hneg; omega), fun _ => ?_⟩) (fun hno => ⟨_, rfl, fun _ => ⟨_, l3 sB 3, fun h0 => ?_, fun h0 => ?_⟩, fun h => by cases h⟩)
  · rw [List.getElem?_map] at hi
    obtain ⟨u, hu, hut⟩ := Option.map_eq_some_iff.1 hi
    have : u = t := str_inj hut
    subst this
    have hix := pool_some hr hu
    have e : txtX (poolIx ts) w u = numX w (i : Int) := by unfold txtX; rw [hix]
    rw [e] at kk
    rw [if_neg (by omega)]
    exact xnum_ok (XB sB) hl fun C xC => ⟨rfl, kk C xC⟩
  · have h0' : w.2 = 0 := by simpa using h0
    have hix : poolIx ts t = none := pool_none fun hm => hno (List.mem_map.2 ⟨t, hm, rfl⟩)
    have e : txtX (poolIx ts) w t = numX (failW w 7) 0 := by unfold txtX; rw [hix]
    have e2 : failW w 7 = (w.1, 7) := by unfold failW; rw [if_pos h0']
    rw [e, e2] at kk
    rw [if_pos (by decide), add_mk, Nat.zero_add]
    refine sB.stb (k := 0) (i := 3) rfl (by simp) rfl fun C sC => ?_
    exact xnum_ok (XB (w' := (w.1, 7)) sC) hl fun D xD => ⟨rfl, kk D xD⟩
  · have h0' : ¬ w.2 = 0 := by simpa using h0
    have hix : poolIx ts t = none := pool_none fun hm => hno (List.mem_map.2 ⟨t, hm, rfl⟩)
    have e : txtX (poolIx ts) w t = numX (failW w 7) 0 := by unfold txtX; rw [hix]
    have e2 : failW w 7 = w := by unfold failW; rw [if_neg h0']
    rw [e, e2] at kk
    rw [if_pos (by decide)]
    exact xnum_ok (XB sB) hl fun D xD => ⟨rfl, kk D xD⟩
/-- a pool's texts in a row -/
structure Pl (H0 : Hp) (ps : Sl) (ts : List L8) : Prop where
  rd : Rd flL 1 H0 ps ts
  len : ts.length ≤ 2000000
  ris : Rising ltL ts
variable {ts : List L8}
theorem stepX5 (w : Ws) (e : Ev) : (stepX (poolIx ts) w e).1.length ≤ w.1.length + 5 := stepX_len _ w e
theorem xtexts_ok {sl : Sl} {xs : List L8} (hp : Pl H0 ps ts) (hx : Rd flL 1 H0 sl xs) (h : XS H0 H b ps w seen R) (hl : w.1.length + 5 * (evL evT xs).length ≤ 1000000000000) (hs : seen.length + (evL evT xs).length ≤ 2000000)
    (kk : ∀ H', XS H0 H' b ps (foldX (poolIx ts) w (evL evT xs)) (seen ++ txts (evL evT xs)) R → K (.tuple #[]) H') : CallF Try.prog 118 #[.pointer (some ⟨b, 0, none⟩), .slice sl.a sl.n sl.c] H K Z := by
  refine V118_ok ?_
  unfold V118
  have hn := hx.len
  unfold evL at hl hs kk
  rw [List.length_cons] at hl hs
  refine xnum_ok h (by omega) fun A xA => ⟨rfl, ?_⟩
  rw [hn] at xA
  have hbig : xs.length ≤ (xs.flatMap evT).length := by
    have : ∀ ys : List L8, ys.length ≤ (ys.flatMap evT).length := by
      intro ys
      induction ys with
      | nil => exact Nat.le_refl _
      | cons y ys ih =>
        rw [List.flatMap_cons, List.length_append, List.length_cons]
        have : 1 ≤ (evT y).length := by simp [evT]
        omega
    exact this xs
  refine ⟨fun i B q => ∃ j : Nat, i = (j : Int) ∧ j ≤ xs.length ∧ q = xs.length - j ∧ XS H0 B b ps (foldX (poolIx ts) (numX w (xs.length : Int)) ((xs.take j).flatMap evT)) (seen ++ txts ((xs.take j).flatMap evT)) R, ⟨_, 0, rfl, Nat.zero_le _, rfl, by simpa [txts] using xA⟩, ?_⟩
  rintro i B q ⟨j, rfl, hj, rfl, xB⟩ scr
  have hlen1 := foldX_len (poolIx ts) ((xs.take j).flatMap evT) (numX w (xs.length : Int))
  have hlen2 := numX_len w (xs.length : Int)
  have hlen3 := txts_len ((xs.take j).flatMap evT)
  refine ⟨fun hlt => ?_, fun hge => ?_⟩
  · have hjl : j < xs.length := by have := dlt hlt; omega
    have hxj : xs[j]? = some xs[j] := List.getElem?_eq_getElem hjl
    generalize xs[j] = x at hxj
    have hm := flat_mem evT hxj
    refine (hx.more xB.fr).ixn FlL hxj fun ad had => ⟨_, had, xtext_ok hp.rd hp.len hp.ris xB (by omega) (by rw [List.length_append]; omega) fun C xC => ⟨rfl, xs.length - (j + 1), by omega, j + 1, wi (by omega), hjl, rfl, ?_⟩⟩
    rw [flat_take evT hxj, foldX_app, txts_app, ← List.append_assoc]
    exact xC
  · have hjl : xs.length ≤ j := by have := dge hge; omega
    rw [List.take_of_length_le hjl] at xB
    exact kk B xB
theorem ev_ge {χ : Type} {f : χ → List Ev} (hf : ∀ x, 1 ≤ (f x).length) : ∀ ys : List χ, ys.length ≤ (ys.flatMap f).length
  | [] => Nat.le_refl _
  | y :: ys => by
    have := ev_ge hf ys
    have := hf y
    rw [List.flatMap_cons, List.length_append, List.length_cons]
    omega
set_option maxRecDepth 10000 in
theorem xsummary_ok {x : SumD} {s1 s2 s3 s4 s5 s6 : Sl} (hp : Pl H0 ps ts) (hx : RdSum H0 s1 s2 s3 s4 s5 s6 x) (h : XS H0 H b ps w seen R) (hl : w.1.length + 5 * (evS x).length ≤ 1000000000000) (hs : seen.length + (evS x).length ≤ 2000000)
    (kk : ∀ H', XS H0 H' b ps (foldX (poolIx ts) w (evS x)) (seen ++ txts (evS x)) R → K (.tuple #[]) H') :
    CallF Try.prog 93 #[.pointer (some ⟨b, 0, none⟩), .agg #[.string (str x.name), .slice s1.a s1.n s1.c, .slice s2.a s2.n s2.c, .slice s3.a s3.n s3.c, .slice s4.a s4.n s4.c, .slice s5.a s5.n s5.c, .slice s6.a s6.n s6.c]] H K Z := by
  refine V93_ok ?_
  unfold V93
  have hlen : (evS x).length = 1 + (evL evT x.gives).length + (evL evT x.wants).length + (evL evT x.keeps).length + (evL evO x.sys.objs).length + (evL evF x.sys.fns).length + (evL evC x.sys.cons).length := by
    unfold evS
    simp only [List.length_append, List.length_cons, List.length_nil]
  rw [hlen] at hl hs
  intro bS C hC
  have xC := h.newb (cs := [.string (str x.name), .slice s1.a s1.n s1.c, .slice s2.a s2.n s2.c, .slice s3.a s3.n s3.c, .slice s4.a s4.n s4.c, .slice s5.a s5.n s5.c, .slice s6.a s6.n s6.c]) hC
  have w0 := stepX_len (poolIx ts) w (.t x.name)
  simp only [stepX] at w0
  refine ⟨_, xC.ld 0, xtext_ok hp.rd hp.len hp.ris xC (by omega) (by omega) fun D xD => ⟨rfl, ?_⟩⟩
  generalize hw1 : txtX (poolIx ts) w x.name = w1 at xD w0
  have w1l := foldX_len (poolIx ts) (evL evT x.gives) w1
  have x1 := txts_len (evL evT x.gives)
  refine ⟨_, xD.ld 1, xtexts_ok hp hx.g xD (by omega) (by simp only [List.length_append, List.length_singleton]; omega) fun E xE => ⟨rfl, ?_⟩⟩
  generalize hw2 : foldX (poolIx ts) w1 (evL evT x.gives) = w2 at xE w1l
  have w2l := foldX_len (poolIx ts) (evL evT x.wants) w2
  have x2 := txts_len (evL evT x.wants)
  refine ⟨_, xE.ld 2, xtexts_ok hp hx.w xE (by omega) (by simp only [List.length_append, List.length_singleton]; omega) fun F xF => ⟨rfl, ?_⟩⟩
  generalize hw3 : foldX (poolIx ts) w2 (evL evT x.wants) = w3 at xF w2l
  have w3l := foldX_len (poolIx ts) (evL evT x.keeps) w3
  have x3 := txts_len (evL evT x.keeps)
  refine ⟨_, xF.ld 3, xtexts_ok hp hx.k xF (by omega) (by simp only [List.length_append, List.length_singleton]; omega) fun G xG => ⟨rfl, ?_⟩⟩
  generalize hw4 : foldX (poolIx ts) w3 (evL evT x.keeps) = w4 at xG w3l
  have w4l := foldX_len (poolIx ts) (evL evO x.sys.objs) w4
  have x4 := txts_len (evL evO x.sys.objs)
  have efin : foldX (poolIx ts) w (evS x) = foldX (poolIx ts) (foldX (poolIx ts) (foldX (poolIx ts) w4 (evL evO x.sys.objs)) (evL evF x.sys.fns)) (evL evC x.sys.cons) := by
    unfold evS
    simp only [foldX_app]
    rw [← hw4, ← hw3, ← hw2, ← hw1]
    rfl
  have sfin : seen ++ txts (evS x) = (((seen ++ [x.name] ++ txts (evL evT x.gives) ++ txts (evL evT x.wants) ++ txts (evL evT x.keeps)) ++ txts (evL evO x.sys.objs)) ++ txts (evL evF x.sys.fns)) ++ txts (evL evC x.sys.cons) := by
    unfold evS
    simp only [txts_app, txts, List.append_assoc]
  rw [efin, sfin] at kk
  generalize hseen : seen ++ [x.name] ++ txts (evL evT x.gives) ++ txts (evL evT x.wants) ++ txts (evL evT x.keeps) = q4 at xG kk
  have hq4 : q4.length + (evL evO x.sys.objs).length + (evL evF x.sys.fns).length + (evL evC x.sys.cons).length ≤ 2000000 := by
    rw [← hseen]
    simp only [List.length_append, List.length_singleton]
    omega
  have hw4' : w4.1.length + 5 * ((evL evO x.sys.objs).length + (evL evF x.sys.fns).length + (evL evC x.sys.cons).length) ≤ 1000000000000 := by omega
  clear hseen x1 x2 x3 w0 w1l w2l w3l hl hs hlen hw1 hw2 hw3 hw4 efin sfin xC xD xE xF
  have hno := hx.s.o.len
  have hnf := hx.s.f.len
  have hnc := hx.s.c.len
  have e4 : (evL evO x.sys.objs).length = 1 + (x.sys.objs.flatMap evO).length := by unfold evL; rw [List.length_cons]; omega
  have e5 : (evL evF x.sys.fns).length = 1 + (x.sys.fns.flatMap evF).length := by unfold evL; rw [List.length_cons]; omega
  have e6 : (evL evC x.sys.cons).length = 1 + (x.sys.cons.flatMap evC).length := by unfold evL; rw [List.length_cons]; omega
  have g4 := ev_ge (f := evO) (fun y => by unfold evO; simp) x.sys.objs
  have g5 := ev_ge (f := evF) (fun y => by unfold evF; simp) x.sys.fns
  have g6 := ev_ge (f := evC) (fun y => by unfold evC; simp) x.sys.cons
  rw [e4, e5, e6] at hq4 hw4'
  clear e4 e5 e6 w4l x4
  -- objects
  refine ⟨_, xG.ld 4, xnum_ok xG (by omega) fun A xA => ⟨rfl, ?_⟩⟩
  have l5 := numX_len w4 (s4.n : Int)
  have k5 : foldX (poolIx ts) w4 (evL evO x.sys.objs) = foldX (poolIx ts) (numX w4 (s4.n : Int)) (x.sys.objs.flatMap evO) := by rw [hno]; rfl
  have t5 : txts (evL evO x.sys.objs) = txts (x.sys.objs.flatMap evO) := rfl
  rw [k5, t5] at kk
  generalize numX w4 (s4.n : Int) = w5 at xA l5 kk
  clear k5 t5
  refine ⟨fun i B q => ∃ j : Nat, i = (j : Int) ∧ j ≤ x.sys.objs.length ∧ q = x.sys.objs.length - j ∧ XS H0 B b ps (foldX (poolIx ts) w5 ((x.sys.objs.take j).flatMap evO)) (q4 ++ txts ((x.sys.objs.take j).flatMap evO)) (blk bS _ 90 :: R), ⟨_, 0, rfl, Nat.zero_le _, rfl, by simpa [txts] using xA⟩, ?_⟩
  clear xA xG
  rintro i B q ⟨j, rfl, hj, rfl, xB⟩ scr
  have hlen1 := foldX_len (poolIx ts) ((x.sys.objs.take j).flatMap evO) w5
  have hlen3 := txts_len ((x.sys.objs.take j).flatMap evO)
  refine ⟨s4, xB.ld 4, fun hlt => ?_, fun hge => ?_⟩
  · have hjl : j < x.sys.objs.length := by have := dlt hlt; omega
    have hxj : x.sys.objs[j]? = some x.sys.objs[j] := List.getElem?_eq_getElem hjl
    generalize x.sys.objs[j] = o at hxj
    have hm := flat_mem evO hxj
    have htk := flat_take evO hxj
    generalize (x.sys.objs.take j).flatMap evO = es at *
    refine ⟨s4, xB.ld 4, ?_⟩
    obtain ⟨hs0, r0, r1, r2⟩ := hx.s.o
    have hhj : hs0[j]? = some (hs0[j]'(by omega)) := List.getElem?_eq_getElem _
    obtain ⟨he1, hin1⟩ := r2 j _ o hhj hxj
    generalize hs0[j]'(by omega) = hd at hhj he1 hin1
    refine (r0.more xB.fr).ix (by decide) FlHO (by omega) (by simpa using hhj) fun ad hc hc0 => ?_
    rw [he1] at hc hc0
    refine ⟨str o.name, str o.kinds, hd.2.2, ⟨by rw [hc0]; rfl, hc 1 _ rfl, hc 2 _ rfl, trivial⟩, fun bO C hC => ?_⟩
    have xC := xB.newb (cs := [.string ⟨#[]⟩, .string ⟨#[]⟩, .slice none 0 0]) hC
    refine xC.stbs rfl (by intro v hv; exact FlHO.one (HO.of o hd.2.2) v hv) fun D xD => ?_
    have elen : (evO o).length = 3 + (o.marks.flatMap evM).length := by unfold evO evL; rw [List.length_append, List.length_cons]; simp; omega
    rw [elen] at hm
    have u1 := stepX_len (poolIx ts) (foldX (poolIx ts) w5 es) (.t o.name)
    have u2 := stepX_len (poolIx ts) (stepX (poolIx ts) (foldX (poolIx ts) w5 es) (.t o.name)) (.t o.kinds)
    have u3 := numX_len (stepX (poolIx ts) (stepX (poolIx ts) (foldX (poolIx ts) w5 es) (.t o.name)) (.t o.kinds)) (hd.2.2.n : Int)
    simp only [stepX] at u1 u2 u3
    refine ⟨_, xD.ld 0, xtext_ok hp.rd hp.len hp.ris xD (by omega) (by rw [List.length_append]; omega) fun E xE => ⟨rfl, _, xE.ld 1, xtext_ok hp.rd hp.len hp.ris xE (by omega) (by simp only [List.length_append, List.length_singleton]; omega) fun F xF => ⟨rfl, hd.2.2, xF.ld 2, ?_⟩⟩⟩
    have hmn := hin1.len
    refine xnum_ok xF (by omega) fun G xG => ⟨rfl, ?_⟩
    have g7 := ev_ge (f := evM) (fun y => by unfold evM; simp) o.marks
    have eo : foldX (poolIx ts) w5 (es ++ evO o) = foldX (poolIx ts) (numX (txtX (poolIx ts) (txtX (poolIx ts) (foldX (poolIx ts) w5 es) o.name) o.kinds) (hd.2.2.n : Int)) (o.marks.flatMap evM) := by
      rw [foldX_app, hmn]
      unfold evO evL
      rw [foldX_app]
      rfl
    have so : q4 ++ txts (es ++ evO o) = (q4 ++ txts es ++ [o.name] ++ [o.kinds]) ++ txts (o.marks.flatMap evM) := by
      unfold evO evL
      simp only [txts_app, txts, List.append_assoc, List.singleton_append, List.cons_append, List.nil_append]
    have q7 : (q4 ++ txts es ++ [o.name] ++ [o.kinds]).length + (o.marks.flatMap evM).length ≤ 2000000 := by
      simp only [List.length_append, List.length_singleton]
      omega
    have q8 : (numX (txtX (poolIx ts) (txtX (poolIx ts) (foldX (poolIx ts) w5 es) o.name) o.kinds) (hd.2.2.n : Int)).1.length + 5 * (o.marks.flatMap evM).length ≤ 1000000000000 := by omega
    generalize q4 ++ txts es ++ [o.name] ++ [o.kinds] = q5 at xG q7 so
    generalize numX (txtX (poolIx ts) (txtX (poolIx ts) (foldX (poolIx ts) w5 es) o.name) o.kinds) (hd.2.2.n : Int) = w6 at xG q8 eo
    clear u1 u2 u3 hlen1 hlen3 xF xE xD xC xB
    refine ⟨fun i B q => ∃ k : Nat, i = (k : Int) ∧ k ≤ o.marks.length ∧ q = o.marks.length - k ∧ XS H0 B b ps (foldX (poolIx ts) w6 ((o.marks.take k).flatMap evM)) (q5 ++ txts ((o.marks.take k).flatMap evM)) (blk bO _ 128 :: blk bS _ 90 :: R), ⟨_, 0, rfl, Nat.zero_le _, rfl, by simpa [txts] using xG⟩, ?_⟩
    rintro i M q ⟨k, rfl, hk, rfl, xM⟩ scr1
    have v1 := foldX_len (poolIx ts) ((o.marks.take k).flatMap evM) w6
    have v3 := txts_len ((o.marks.take k).flatMap evM)
    refine ⟨hd.2.2, xM.ld 2, fun hlt2 => ?_, fun hge2 => ?_⟩
    · have hkl : k < o.marks.length := by have := dlt hlt2; omega
      have hmk : o.marks[k]? = some o.marks[k] := List.getElem?_eq_getElem hkl
      generalize o.marks[k] = mk at hmk
      have hm2 := flat_mem evM hmk
      have htk2 := flat_take evM hmk
      have em : (evM mk).length = 2 := rfl
      rw [em] at hm2
      generalize (o.marks.take k).flatMap evM = fs at *
      have ix : ∀ {A : Hp} {Q : Addr → Prop}, Fr no H0 A → (∀ ad, hcell A ad = some (.int .i64 mk.1) → hcell A (Addr.add ad 1) = some (.string (str mk.2)) → Q ad) → IxA hd.2.2.a hd.2.2.n (k : Int) 2 Q :=
        fun fA kq => (hin1.more fA).ix (by decide) FlM (by omega) (by simpa using hmk) fun ad hc hc0 => kq ad hc0 (hc 1 _ rfl)
      have t1 := numX_len (foldX (poolIx ts) w6 fs) mk.1
      refine ⟨hd.2.2, xM.ld 2, ix xM.fr fun ad c0 c1 => ⟨_, c0, xnum_ok xM (by omega) fun N xN => ⟨rfl, hd.2.2, xN.ld 2, ix xN.fr fun ad2 d0 d1 => ⟨_, d1, ?_⟩⟩⟩⟩
      refine xtext_ok hp.rd hp.len hp.ris xN (by omega) (by rw [List.length_append]; omega) fun P xP => ⟨rfl, o.marks.length - (k + 1), by omega, k + 1, wi (by omega), hkl, rfl, ?_⟩
      rw [htk2, foldX_app, txts_app, ← List.append_assoc]
      exact xP
    · have hkl : o.marks.length ≤ k := by have := dge hge2; omega
      rw [List.take_of_length_le hkl] at xM
      refine ⟨x.sys.objs.length - (j + 1), by omega, j + 1, wi (by omega), hjl, rfl, ?_⟩
      rw [htk, eo, so]
      exact xM.drop
  -- functions
  have hjl : x.sys.objs.length ≤ j := by have := dge hge; omega
  rw [List.take_of_length_le hjl] at xB hlen1 hlen3
  have hq5 : (q4 ++ txts (x.sys.objs.flatMap evO)).length + (1 + (x.sys.fns.flatMap evF).length) + (1 + (x.sys.cons.flatMap evC).length) ≤ 2000000 := by rw [List.length_append]; omega
  have hw5 : (foldX (poolIx ts) w5 (x.sys.objs.flatMap evO)).1.length + 5 * ((1 + (x.sys.fns.flatMap evF).length) + (1 + (x.sys.cons.flatMap evC).length)) ≤ 1000000000000 := by omega
  clear hge hj hjl hlen1 hlen3 l5 hq4 hw4' scr g4 hno
  generalize foldX (poolIx ts) w5 (x.sys.objs.flatMap evO) = w4 at *
  generalize q4 ++ txts (x.sys.objs.flatMap evO) = q4 at *
  refine ⟨s5, xB.ld 5, xnum_ok xB (by omega) fun A xA => ⟨rfl, ?_⟩⟩
  have l5 := numX_len w4 (s5.n : Int)
  have k5 : foldX (poolIx ts) w4 (evL evF x.sys.fns) = foldX (poolIx ts) (numX w4 (s5.n : Int)) (x.sys.fns.flatMap evF) := by rw [hnf]; rfl
  have t5 : txts (evL evF x.sys.fns) = txts (x.sys.fns.flatMap evF) := rfl
  rw [k5, t5] at kk
  generalize numX w4 (s5.n : Int) = w5 at xA l5 kk
  clear k5 t5
  refine ⟨fun i B q => ∃ j : Nat, i = (j : Int) ∧ j ≤ x.sys.fns.length ∧ q = x.sys.fns.length - j ∧ XS H0 B b ps (foldX (poolIx ts) w5 ((x.sys.fns.take j).flatMap evF)) (q4 ++ txts ((x.sys.fns.take j).flatMap evF)) (blk bS _ 90 :: R), ⟨_, 0, rfl, Nat.zero_le _, rfl, by simpa [txts] using xA⟩, ?_⟩
  clear xA xB
  rintro i B q ⟨j, rfl, hj, rfl, xB⟩ scr
  have hlen1 := foldX_len (poolIx ts) ((x.sys.fns.take j).flatMap evF) w5
  have hlen3 := txts_len ((x.sys.fns.take j).flatMap evF)
  refine ⟨s5, xB.ld 5, fun hlt => ?_, fun hge => ?_⟩
  · have hjl : j < x.sys.fns.length := by have := dlt hlt; omega
    have hxj : x.sys.fns[j]? = some x.sys.fns[j] := List.getElem?_eq_getElem hjl
    generalize x.sys.fns[j] = o at hxj
    have hm := flat_mem evF hxj
    have htk := flat_take evF hxj
    generalize (x.sys.fns.take j).flatMap evF = es at *
    have elen : (evF o).length = 3 := rfl
    rw [elen] at hm
    refine ⟨s5, xB.ld 5, (hx.s.f.more xB.fr).ix (by decide) FlF (by omega) (by simpa using hxj) fun ad hc hc0 => ⟨_, _, _, ⟨by rw [hc0]; rfl, hc 1 _ rfl, hc 2 _ rfl, trivial⟩, fun bF C hC => ?_⟩⟩
    have xC := xB.newb (cs := [.string ⟨#[]⟩, .string ⟨#[]⟩, .string ⟨#[]⟩]) hC
    refine xC.stbs rfl (by intro v hv; exact FlF.one o v hv) fun D xD => ?_
    have u1 := stepX_len (poolIx ts) (foldX (poolIx ts) w5 es) (.t o.name)
    have u2 := stepX_len (poolIx ts) (stepX (poolIx ts) (foldX (poolIx ts) w5 es) (.t o.name)) (.t o.kinds)
    simp only [stepX] at u1 u2
    refine ⟨_, xD.ld 0, xtext_ok hp.rd hp.len hp.ris xD (by omega) (by rw [List.length_append]; omega) fun E xE => ⟨rfl, ?_⟩⟩
    refine ⟨_, xE.ld 1, xtext_ok hp.rd hp.len hp.ris xE (by omega) (by simp only [List.length_append, List.length_singleton]; omega) fun F xF => ⟨rfl, ?_⟩⟩
    refine ⟨_, xF.ld 2, xtext_ok hp.rd hp.len hp.ris xF (by omega) (by simp only [List.length_append, List.length_singleton]; omega) fun G xG => ⟨rfl, x.sys.fns.length - (j + 1), by omega, j + 1, wi (by omega), hjl, rfl, ?_⟩⟩
    have so : q4 ++ txts (es ++ evF o) = q4 ++ txts es ++ [o.name] ++ [o.kinds] ++ [o.ret] := by simp [txts_app, evF, txts]
    rw [htk, foldX_app, so]
    exact xG.drop
  -- constraints
  have hjl : x.sys.fns.length ≤ j := by have := dge hge; omega
  rw [List.take_of_length_le hjl] at xB hlen1 hlen3
  have hq6 : (q4 ++ txts (x.sys.fns.flatMap evF)).length + (1 + (x.sys.cons.flatMap evC).length) ≤ 2000000 := by rw [List.length_append]; omega
  have hw6 : (foldX (poolIx ts) w5 (x.sys.fns.flatMap evF)).1.length + 5 * (1 + (x.sys.cons.flatMap evC).length) ≤ 1000000000000 := by omega
  clear hge hj hjl hlen1 hlen3 l5 hq5 hw5 scr g5 hnf
  generalize foldX (poolIx ts) w5 (x.sys.fns.flatMap evF) = w4 at *
  generalize q4 ++ txts (x.sys.fns.flatMap evF) = q4 at *
  refine ⟨s6, xB.ld 6, xnum_ok xB (by omega) fun A xA => ⟨rfl, ?_⟩⟩
  have l5 := numX_len w4 (s6.n : Int)
  have k5 : foldX (poolIx ts) w4 (evL evC x.sys.cons) = foldX (poolIx ts) (numX w4 (s6.n : Int)) (x.sys.cons.flatMap evC) := by rw [hnc]; rfl
  have t5 : txts (evL evC x.sys.cons) = txts (x.sys.cons.flatMap evC) := rfl
  rw [k5, t5] at kk
  generalize numX w4 (s6.n : Int) = w5 at xA l5 kk
  clear k5 t5
  refine ⟨fun i B q => ∃ j : Nat, i = (j : Int) ∧ j ≤ x.sys.cons.length ∧ q = x.sys.cons.length - j ∧ XS H0 B b ps (foldX (poolIx ts) w5 ((x.sys.cons.take j).flatMap evC)) (q4 ++ txts ((x.sys.cons.take j).flatMap evC)) (blk bS _ 90 :: R), ⟨_, 0, rfl, Nat.zero_le _, rfl, by simpa [txts] using xA⟩, ?_⟩
  clear xA xB
  rintro i B q ⟨j, rfl, hj, rfl, xB⟩ scr
  have hlen1 := foldX_len (poolIx ts) ((x.sys.cons.take j).flatMap evC) w5
  have hlen3 := txts_len ((x.sys.cons.take j).flatMap evC)
  refine ⟨s6, xB.ld 6, fun hlt => ?_, fun hge => ?_⟩
  · have hjl : j < x.sys.cons.length := by have := dlt hlt; omega
    have hxj : x.sys.cons[j]? = some x.sys.cons[j] := List.getElem?_eq_getElem hjl
    generalize x.sys.cons[j] = o at hxj
    have hm := flat_mem evC hxj
    have htk := flat_take evC hxj
    generalize (x.sys.cons.take j).flatMap evC = es at *
    have elen : (evC o).length = 5 + (evL evT o.args).length := by unfold evC; rw [List.length_append]; rfl
    rw [elen] at hm
    refine ⟨s6, xB.ld 6, ?_⟩
    obtain ⟨hs0, r0, r1, r2⟩ := hx.s.c
    have hhj : hs0[j]? = some (hs0[j]'(by omega)) := List.getElem?_eq_getElem _
    obtain ⟨he1, hin1⟩ := r2 j _ o hhj hxj
    generalize hs0[j]'(by omega) = hd at hhj he1 hin1
    refine (r0.more xB.fr).ix (by decide) FlHC (by omega) (by simpa using hhj) fun ad hc hc0 => ?_
    rw [he1] at hc hc0
    refine ⟨o.op, str o.a, str o.b, o.k, str o.tag, hd.2.2.2.2.2, ⟨by rw [hc0]; rfl, hc 1 _ rfl, hc 2 _ rfl, hc 3 _ rfl, hc 4 _ rfl, hc 5 _ rfl, trivial⟩, fun bC C hC => ?_⟩
    have xC := xB.newb (cs := [.int .i64 0, .string ⟨#[]⟩, .string ⟨#[]⟩, .int .i64 0, .string ⟨#[]⟩, .slice none 0 0]) hC
    refine xC.stbs rfl (by intro v hv; exact FlHC.one (HC.of o hd.2.2.2.2.2) v hv) fun D xD => ?_
    have u0 := stepX_len (poolIx ts) (foldX (poolIx ts) w5 es) (.n o.op)
    have u1 := stepX_len (poolIx ts) (stepX (poolIx ts) (foldX (poolIx ts) w5 es) (.n o.op)) (.t o.a)
    have u2 := stepX_len (poolIx ts) (stepX (poolIx ts) (stepX (poolIx ts) (foldX (poolIx ts) w5 es) (.n o.op)) (.t o.a)) (.t o.b)
    have u3 := stepX_len (poolIx ts) (stepX (poolIx ts) (stepX (poolIx ts) (stepX (poolIx ts) (foldX (poolIx ts) w5 es) (.n o.op)) (.t o.a)) (.t o.b)) (.n o.k)
    have u4 := stepX_len (poolIx ts) (stepX (poolIx ts) (stepX (poolIx ts) (stepX (poolIx ts) (stepX (poolIx ts) (foldX (poolIx ts) w5 es) (.n o.op)) (.t o.a)) (.t o.b)) (.n o.k)) (.t o.tag)
    simp only [stepX] at u0 u1 u2 u3 u4
    refine ⟨_, xD.ld 0, xnum_ok xD (by omega) fun E xE => ⟨rfl, ?_⟩⟩
    refine ⟨_, xE.ld 1, xtext_ok hp.rd hp.len hp.ris xE (by omega) (by rw [List.length_append]; omega) fun F xF => ⟨rfl, ?_⟩⟩
    refine ⟨_, xF.ld 2, xtext_ok hp.rd hp.len hp.ris xF (by omega) (by simp only [List.length_append, List.length_singleton]; omega) fun G xG => ⟨rfl, ?_⟩⟩
    refine ⟨_, xG.ld 3, xnum_ok xG (by omega) fun M xM => ⟨rfl, ?_⟩⟩
    refine ⟨_, xM.ld 4, xtext_ok hp.rd hp.len hp.ris xM (by omega) (by simp only [List.length_append, List.length_singleton]; omega) fun N xN => ⟨rfl, ?_⟩⟩
    refine ⟨hd.2.2.2.2.2, xN.ld 5, xtexts_ok hp hin1 xN (by omega) (by simp only [List.length_append, List.length_singleton]; omega) fun P xP => ⟨rfl, x.sys.cons.length - (j + 1), by omega, j + 1, wi (by omega), hjl, rfl, ?_⟩⟩
    have so : q4 ++ txts (es ++ evC o) = q4 ++ txts es ++ [o.a] ++ [o.b] ++ [o.tag] ++ txts (evL evT o.args) := by unfold evC; simp [txts_app, txts]
    have eo : foldX (poolIx ts) w5 (es ++ evC o) = foldX (poolIx ts) (txtX (poolIx ts) (numX (txtX (poolIx ts) (txtX (poolIx ts) (numX (foldX (poolIx ts) w5 es) o.op) o.a) o.b) o.k) o.tag) (evL evT o.args) := by
      rw [foldX_app]
      unfold evC
      rw [foldX_app]
      rfl
    rw [htk, so, eo]
    exact xP.drop
  · have hjl : x.sys.cons.length ≤ j := by have := dge hge; omega
    rw [List.take_of_length_le hjl] at xB
    exact kk B xB.drop
end
end Go.Proofs.Ytigbdoicgdmliaa.C26X
end

section
/- A summary's texts, and its bytes: record's way and the document's. -/
set_option linter.unusedVariables false
set_option linter.unusedSimpArgs false
-- xTexts: 47
-- xBytes: 49
-- texts: 51
-- texts1: 96
-- bytes: 48
-- bytes1: 94
-- tXW: 148
-- tWriter: 152
-- tSum: 90
-- tStr: 9
-- tStrs: 47
namespace Go.Proofs.Ytigbdoicgdmliaa.C26Y
open Go Go.V Go.Proofs Go.Proofs.Ytigbdoicgdmliaa.N26 Go.Proofs.Ytigbdoicgdmliaa.P02 Go.Proofs.Ytigbdoicgdmliaa.P26 Go.Proofs.Ytigbdoicgdmliaa.C26W Go.Proofs.Ytigbdoicgdmliaa.C26X
attribute [local irreducible] Cvt ExtF CallF hrun App MkS callV
theorem tyStr : TyS Try.prog 47 9 1 16 (.string ⟨#[]⟩) := ⟨by kernel_rfl, by kernel_rfl, rfl, by decide⟩
/-- a summary as an argument -/
abbrev sumA (n : L8) (s1 s2 s3 s4 s5 s6 : Sl) : Value := .agg #[.string (str n), .slice s1.a s1.n s1.c, .slice s2.a s2.n s2.c, .slice s3.a s3.n s3.c, .slice s4.a s4.n s4.c, .slice s5.a s5.n s5.c, .slice s6.a s6.n s6.c]
section
variable {H : Hp} {K : Value → Hp → Prop} {Z : List PanicEntry → Hp → Prop} {x : SumD} {s1 s2 s3 s4 s5 s6 : Sl}
theorem ok96 : fnOk Try.prog 96 = true := by kernel_rfl
theorem ok94 : fnOk Try.prog 94 = true := by kernel_rfl
theorem env_texts (H0 : Hp) (bL : Nat) : Env H0 none (fun _ => none) (.func (.func 96) #[] #[.pointer (some ⟨bL, 0, none⟩)]) (some bL) := by
  refine ⟨fun _ k => C25.numberN_ok k, ?_, fun t i h => by cases h⟩
  intro A K Z t s l L hA hl kk
  unfold callV
  simp only [ok96, if_true]
  refine V96_ok ?_
  unfold V96
  obtain ⟨h1, h2, h3⟩ : (seenI (some bL) s l).ok A := hA.get (k := 0) rfl
  refine ⟨s, h1.ld 0, fun b B hB => ?_⟩
  -- the two parts of it
  have hs := hA.sep
  rw [List.pairwise_cons] at hs
  have hS : Sym H0 no A (arr flL 9 1 s l :: blk bL [.slice s.a s.n s.c] 47 :: L) := by
    refine ⟨hA.fr, ?_, ?_, ?_⟩
    · intro a ha
      rcases List.mem_cons.1 ha with rfl | ha
      · exact h2
      · rcases List.mem_cons.1 ha with rfl | ha
        · exact h1
        · exact hA.ok a (List.mem_cons_of_mem _ ha)
    · rw [List.pairwise_cons, List.pairwise_cons]
      refine ⟨?_, ?_, hs.2⟩
      · intro a ha i hi hi2
        rcases List.mem_cons.1 ha with rfl | ha
        · have : i = bL := hi2
          exact h3 (this ▸ hi)
        · exact hs.1 a ha i (.inr hi) hi2
      · intro a ha i hi hi2
        exact hs.1 a ha i (.inl hi) hi2
    · intro a ha i hi
      rcases List.mem_cons.1 ha with rfl | ha
      · exact hA.fp _ List.mem_cons_self i (.inr hi)
      · rcases List.mem_cons.1 ha with rfl | ha
        · exact hA.fp _ List.mem_cons_self i (.inl hi)
        · exact hA.fp a (List.mem_cons_of_mem _ ha) i hi
  have hn : s.n = l.length := (hS.rd (k := 0) FlL (by decide) rfl).len
  refine hS.app1 (k := 0) (x := t) tyStr FlL (by decide) hB rfl (by omega) fun ap C hap sC => ?_
  refine sC.stb (k := 1) (i := 0) rfl (by simp) rfl fun D sD => kk ap D ?_
  replace sD : Sym H0 no D (arr flL 9 1 ap (l ++ [t]) :: blk bL [.slice ap.a ap.n ap.c] 47 :: L) := sD
  have g1 : RowN flL 9 1 D ap (l ++ [t]) := sD.get (k := 0) rfl
  have g2 : Blk D bL [.slice ap.a ap.n ap.c] 47 := sD.get (k := 1) rfl
  have hs' := sD.sep
  rw [List.pairwise_cons, List.pairwise_cons] at hs'
  refine ⟨sD.fr, ?_, ?_, ?_⟩
  · intro a ha
    rcases List.mem_cons.1 ha with rfl | ha
    · exact ⟨g2, g1, fun h => hs'.1 _ List.mem_cons_self bL h rfl⟩
    · exact sD.ok a (List.mem_cons_of_mem _ (List.mem_cons_of_mem _ ha))
  · rw [List.pairwise_cons]
    refine ⟨?_, hs'.2.2⟩
    intro a ha i hi hi2
    rcases hi with hi | hi
    · exact hs'.2.1 a ha i hi hi2
    · exact hs'.1 a (List.mem_cons_of_mem _ ha) i hi hi2
  · intro a ha i hi
    rcases List.mem_cons.1 ha with rfl | ha
    · rcases hi with hi | hi
      · exact sD.fp _ (List.mem_cons_of_mem _ List.mem_cons_self) i hi
      · exact sD.fp _ List.mem_cons_self i hi
    · exact sD.fp a (List.mem_cons_of_mem _ (List.mem_cons_of_mem _ ha)) i hi
theorem env_bytes {H0 : Hp} {p : Addr} {ts : List L8} (hp : C25.PlS H0 p ts) (hr : Rising ltL ts) (hl : ts.length ≤ 2000000) : Env H0 (some p) (poolIx ts) (.func (.func 94) #[] #[]) none := by
  refine ⟨fun {A K Z t} fA k => C25.number_ok (hp.more fA) hr (by omega) (fun i hi => ?_) (fun hno => ?_), ?_, fun t i h => ?_⟩
  · rw [pool_some hr hi] at k
    exact k
  · rw [pool_none hno] at k
    exact k
  · intro A K Z t s l L hA _ kk
    unfold callV
    simp only [ok94, if_true]
    refine V94_ok ?_
    unfold V94
    refine kk s A ⟨hA.fr, ?_, ?_, ?_⟩
    · intro a ha
      rcases List.mem_cons.1 ha with rfl | ha
      · exact trivial
      · exact hA.ok a (List.mem_cons_of_mem _ ha)
    · have := hA.sep
      rw [List.pairwise_cons] at this ⊢
      exact ⟨fun a ha i hi => hi.elim, this.2⟩
    · intro a ha i hi
      rcases List.mem_cons.1 ha with rfl | ha
      · exact hi.elim
      · exact hA.fp a (List.mem_cons_of_mem _ ha) i hi
  · have := (List.getElem?_eq_some_iff.1 (pool_get h)).1
    omega
/-- a new writer -/
theorem new_w {H0 A B : Hp} {L : List It} {b : Nat} {p : Option Addr} {sv : Value} (h : Sym H0 no A L) (hn : Newb A (.cells #[.pointer none, .slice none 0 0, .int .i64 0, .pointer p, sv, .int .i64 0] 152) b B) :
    Sym H0 no B (wI b [.pointer none, .slice none 0 0, .int .i64 0, .pointer p, sv, .int .i64 0] p sv ([], 0) :: L) := by
  refine h.new hn.fr ⟨⟨⟨hn.blk, ⟨none, rfl, .inl rfl⟩, ⟨⟨none, 0, 0⟩, rfl, Row.nil _ _ _, fun h => by obtain ⟨o, h⟩ := h; cases h⟩, by kernel_rfl⟩, rfl⟩, rfl, rfl, rfl, rfl⟩ fun i hi => ?_
  rcases hi with rfl | ⟨o, n, c, hi⟩
  · have := hn.eq; omega
  · simp at hi
theorem ld_sum {H0 A : Hp} {L : List It} {k bS : Nat} (h : Sym H0 no A L) (hk : L[k]? = some (blk bS [.string (str x.name), .slice s1.a s1.n s1.c, .slice s2.a s2.n s2.c, .slice s3.a s3.n s3.c, .slice s4.a s4.n s4.c, .slice s5.a s5.n s5.c, .slice s6.a s6.n s6.c] 90)) :
    (hcell A ⟨bS, 0, none⟩ = some (.string (str x.name)) ∧ hcell A ⟨bS, 1, none⟩ = some (.slice s1.a s1.n s1.c) ∧ hcell A ⟨bS, 2, none⟩ = some (.slice s2.a s2.n s2.c) ∧ hcell A ⟨bS, 3, none⟩ = some (.slice s3.a s3.n s3.c) ∧
      hcell A ⟨bS, 4, none⟩ = some (.slice s4.a s4.n s4.c) ∧ hcell A ⟨bS, 5, none⟩ = some (.slice s5.a s5.n s5.c) ∧ hcell A ⟨bS, 6, none⟩ = some (.slice s6.a s6.n s6.c) ∧ True) :=
  ⟨h.ld hk 0, h.ld hk 1, h.ld hk 2, h.ld hk 3, h.ld hk 4, h.ld hk 5, h.ld hk 6, trivial⟩
theorem texts_ok (hx : RdSum H s1 s2 s3 s4 s5 s6 x) (hev : (evS x).length ≤ 1900000)
    (k : ∀ s' ys H', Rising ltL ys → (∀ z, z ∈ ys ↔ z ∈ txts (evS x)) → ys.length ≤ 1900000 → Rd flL 1 H' s' ys → Fr no H H' → K (.slice s'.a s'.n s'.c) H') : CallF Try.prog 51 #[sumA x.name s1 s2 s3 s4 s5 s6] H K Z := by
  refine V51_ok ?_
  unfold V51
  intro bS A hA bL B hB b C hC
  have sA := (Sym.start H).newb (cs := [.string (str x.name), .slice s1.a s1.n s1.c, .slice s2.a s2.n s2.c, .slice s3.a s3.n s3.c, .slice s4.a s4.n s4.c, .slice s5.a s5.n s5.c, .slice s6.a s6.n s6.c]) hA
  have sB : Sym H no B (seenI (some bL) ⟨none, 0, 0⟩ [] :: _) := sA.new hB.fr (b := seenI (some bL) ⟨none, 0, 0⟩ []) ⟨hB.blk, ⟨Row.nil _ _ _, by intro g o e; cases e⟩, fun h => own_none rfl h⟩ fun i hi => by
    rcases hi with rfl | hi
    · have := hB.eq; omega
    · exact (own_none rfl hi).elim
  have sC := new_w sB hC
  refine ⟨str x.name, s1, s2, s3, s4, s5, s6, ld_sum sC (k := 2) rfl, summary_ok (env_texts H bL) hx sC (by simp only [List.length_nil]; omega) (by simp only [List.length_nil]; omega) fun D cs' s' sD => ⟨rfl, ?_⟩⟩
  obtain ⟨h1, h2, h3⟩ : (seenI (some bL) s' ([] ++ txts (evS x))).ok D := sD.get (k := 1) rfl
  rw [List.nil_append] at h2
  have hl := txts_len (evS x)
  refine ⟨s', h1.ld 0, C05S.sorted_ok (els_of (h2.rd FlL (by decide))) (by rw [List.length_map]; omega) fun s'' E ys hris hmem hlen hrow fE hown => ⟨_, rfl, ?_⟩⟩
  refine k s'' (ys.map (·.data.toList)) E (rising_map hris) (fun z => ?_) (by rw [List.length_map] at hlen ⊢; omega) (C25.row_rdI hrow).1 (sD.fr.trans fE)
  rw [List.mem_map]
  constructor
  · rintro ⟨y, hy, rfl⟩
    rw [hmem, List.mem_map] at hy
    obtain ⟨u, hu, rfl⟩ := hy
    rw [str_data]
    exact hu
  · intro hz
    exact ⟨str z, (hmem _).2 (List.mem_map.2 ⟨z, hz, rfl⟩), str_data z⟩
/-- what bytes, and an error, come to -/
def outW (w : Ws) : Value := .tuple #[.string (str (if w.2 = 0 then w.1 else [])), .int .i64 w.2]
theorem out_like {a b : Ws} (h : Like a b) : outW a = outW b := by
  unfold outW
  rw [h.1]
  by_cases h0 : b.2 = 0
  · rw [if_pos h0, if_pos h0, h.2 (by rw [h.1]; exact h0)]
  · rw [if_neg h0, if_neg h0]
theorem bytes_ok {p : Addr} {ts : List L8} (hp : C25.PlS H p ts) (hr : Rising ltL ts) (hl : ts.length ≤ 2000000) (hx : RdSum H s1 s2 s3 s4 s5 s6 x) (hev : (evS x).length ≤ 1900000)
    (k : ∀ H', Fr no H H' → K (outW (foldW (poolIx ts) ([], 0) (evS x))) H') : CallF Try.prog 48 #[.pointer (some p), sumA x.name s1 s2 s3 s4 s5 s6] H K Z := by
  refine V48_ok ?_
  unfold V48
  intro bS A hA b C hC
  have sA := (Sym.start H).newb (cs := [.string (str x.name), .slice s1.a s1.n s1.c, .slice s2.a s2.n s2.c, .slice s3.a s3.n s3.c, .slice s4.a s4.n s4.c, .slice s5.a s5.n s5.c, .slice s6.a s6.n s6.c]) hA
  have sB : Sym H no A (seenI none ⟨none, 0, 0⟩ [] :: _) := sA.new (Fr.refl _ _) (b := seenI none ⟨none, 0, 0⟩ []) trivial fun i hi => hi.elim
  have sC := new_w sB hC
  refine ⟨str x.name, s1, s2, s3, s4, s5, s6, ld_sum sC (k := 2) rfl, summary_ok (env_bytes hp hr hl) hx sC (by simp only [List.length_nil]; omega) (by simp only [List.length_nil]; omega) fun D cs' s' sD => ⟨rfl, ?_⟩⟩
  have hw : Wst D b cs' (some p) (.func (.func 94) #[] #[]) (foldW (poolIx ts) ([], 0) (evS x)) := sD.get (k := 0) rfl
  have hlen := foldW_len (poolIx ts) (evS x) ([], 0)
  simp only [List.length_nil] at hlen
  have hc5 : hcell D ⟨b, 5, none⟩ = some (.int .i64 (foldW (poolIx ts) ([], 0) (evS x)).2) := by rw [hw.wr.bld.blk.ld]; exact hw.c5
  generalize foldW (poolIx ts) ([], 0) (evS x) = w at *
  refine ⟨_, hc5, fun hne => ⟨_, hc5, ?_⟩, fun h0 => ?_⟩
  · have hne' : ¬ w.2 = 0 := by simpa using hne
    have hk := k D sD.fr
    unfold outW at hk
    rw [if_neg hne'] at hk
    exact hk
  · have h0' : w.2 = 0 := by simpa using h0
    refine C02.done hw.wr (by show w.1.length < _; omega) fun E ht => ?_
    have e : doneV (w.1, 0) = .tuple #[.string ⟨w.1.toArray⟩, .int .i64 0] := by unfold doneV; rw [if_pos rfl]
    rw [e]
    have fE : Fr no H E := sD.fr.step ht.fr fun i hi hw' => by
      rcases sD.fp _ List.mem_cons_self i hw' with h | h
      · exact h
      · omega
    have hk := k E fE
    unfold outW at hk
    rw [if_pos h0', h0'] at hk
    exact ⟨_, _, rfl, hk⟩
theorem pl_nil : Pl H ⟨none, 0, 0⟩ [] := ⟨Rd.nil, by simp, by unfold Rising; simp⟩
theorem xs_new {A B : Hp} {L : List It} {b : Nat} {ps : Sl} (h : Sym H no A L) (hn : Newb A (.cells #[.slice ps.a ps.n ps.c, .string ⟨#[]⟩, .slice none 0 0, .int .i64 0] 148) b B) : XS H B b ps ([], 0) [] L := by
  refine ⟨⟨none, 0, 0⟩, [], ?_, by unfold Rising; simp, by simp, Nat.le_refl _⟩
  have h1 : Sym H no A (rowTI ⟨none, 0, 0⟩ [] :: L) := h.new (Fr.refl _ _) (Row.nil _ _ _) fun i hi => (own_none rfl hi).elim
  exact h1.newb (cs := [.slice ps.a ps.n ps.c, .string (str []), .slice none 0 0, .int .i64 0]) hn
theorem xTexts_ok (hx : RdSum H s1 s2 s3 s4 s5 s6 x) (hev : (evS x).length ≤ 1900000)
    (k : ∀ s' ys H', Rising ltL ys → (∀ z, z ∈ ys ↔ z ∈ txts (evS x)) → ys.length ≤ 1900000 → Rd flL 1 H' s' ys → Fr no H H' → K (.slice s'.a s'.n s'.c) H') : CallF Try.prog 47 #[sumA x.name s1 s2 s3 s4 s5 s6] H K Z := by
  refine V47_ok ?_
  unfold V47
  intro bS A hA b C hC
  have sA := (Sym.start H).newb (cs := [.string (str x.name), .slice s1.a s1.n s1.c, .slice s2.a s2.n s2.c, .slice s3.a s3.n s3.c, .slice s4.a s4.n s4.c, .slice s5.a s5.n s5.c, .slice s6.a s6.n s6.c]) hA
  have xC := xs_new (ps := ⟨none, 0, 0⟩) sA hC
  obtain ⟨sa, zs, h1, _⟩ := xC
  have xC := xs_new (ps := ⟨none, 0, 0⟩) sA hC
  refine ⟨str x.name, s1, s2, s3, s4, s5, s6, ld_sum h1 (k := 2) rfl, xsummary_ok pl_nil hx xC (by simp only [List.length_nil]; omega) (by simp only [List.length_nil]; omega) fun D xD => ⟨rfl, ?_⟩⟩
  obtain ⟨sa, zs, hD, hris, hmem, hlen⟩ := xD
  have hrow : Row D 9 1 sa (zs.map C05S.val) := hD.get (k := 1) rfl
  have hl := txts_len (evS x)
  refine ⟨sa, hD.ld (k := 0) rfl 2, k sa (zs.map (·.data.toList)) D (rising_map hris) (fun z => ?_) (by rw [List.length_map]; rw [List.nil_append] at hlen; omega) (C25.row_rdI hrow).1 hD.fr⟩
  have hz := hmem z
  rw [List.nil_append] at hz
  rw [← hz, List.mem_map]
  constructor
  · rintro ⟨y, hy, rfl⟩
    rw [← str_of]
    exact hy
  · intro h
    exact ⟨str z, h, str_data z⟩
theorem xBytes_ok {ps : Sl} {ts : List L8} (hp : Pl H ps ts) (hx : RdSum H s1 s2 s3 s4 s5 s6 x) (hev : (evS x).length ≤ 1900000)
    (k : ∀ H', Fr no H H' → K (outW (foldW (poolIx ts) ([], 0) (evS x))) H') : CallF Try.prog 49 #[.slice ps.a ps.n ps.c, sumA x.name s1 s2 s3 s4 s5 s6] H K Z := by
  refine V49_ok ?_
  unfold V49
  intro bS A hA b C hC
  have sA := (Sym.start H).newb (cs := [.string (str x.name), .slice s1.a s1.n s1.c, .slice s2.a s2.n s2.c, .slice s3.a s3.n s3.c, .slice s4.a s4.n s4.c, .slice s5.a s5.n s5.c, .slice s6.a s6.n s6.c]) hA
  have xC := xs_new (ps := ps) sA hC
  obtain ⟨sa, zs, h1, _⟩ := xC
  have xC := xs_new (ps := ps) sA hC
  rw [out_like (fold_like (look := poolIx ts) (evS x) (a := ([], 0)) (b := ([], 0)) ⟨rfl, fun _ => rfl⟩)] at k
  refine ⟨str x.name, s1, s2, s3, s4, s5, s6, ld_sum h1 (k := 2) rfl, xsummary_ok hp hx xC (by simp only [List.length_nil]; omega) (by simp only [List.length_nil]; omega) fun D xD => ⟨rfl, ?_⟩⟩
  obtain ⟨sa, zs, hD, _⟩ := xD
  generalize foldX (poolIx ts) ([], 0) (evS x) = w at *
  refine ⟨_, hD.ld (k := 0) rfl 3, fun hne => ⟨_, hD.ld (k := 0) rfl 3, ?_⟩, fun h0 => ⟨_, hD.ld (k := 0) rfl 1, ?_⟩⟩
  · have hne' : ¬ w.2 = 0 := by simpa using hne
    have hk := k D hD.fr
    unfold outW at hk
    rw [if_neg hne'] at hk
    exact hk
  · have h0' : w.2 = 0 := by simpa using h0
    have hk := k D hD.fr
    unfold outW at hk
    rw [if_pos h0', h0'] at hk
    exact hk
end
end Go.Proofs.Ytigbdoicgdmliaa.C26Y
end

section
/- record.Read: bytes as a summary. -/
set_option linter.unusedVariables false
set_option linter.unusedSimpArgs false
-- vNew: 38
-- rtext: 76
-- read: 42
-- tRdr: 123
-- tVR: 117
-- tStr: 9
-- tObj: 128
-- tFn: 132
-- tCon: 136
-- tSum: 90
namespace Go.Proofs.Ytigbdoicgdmliaa.C26S
open Go Go.V Go.Proofs Go.Proofs.Ytigbdoicgdmliaa.N26 Go.Proofs.Ytigbdoicgdmliaa.P02 Go.Proofs.Ytigbdoicgdmliaa.P26R Go.Proofs.Ytigbdoicgdmliaa.C25 Go.Proofs.Ytigbdoicgdmliaa.C26R
attribute [local irreducible] Cvt ExtF CallF hrun App MkS callV
/-- a summary's cells -/
abbrev sumC (n : L8) (s1 s2 s3 s4 s5 s6 : Sl) : List Value := [.string (str n), .slice s1.a s1.n s1.c, .slice s2.a s2.n s2.c, .slice s3.a s3.n s3.c, .slice s4.a s4.n s4.c, .slice s5.a s5.n s5.c, .slice s6.a s6.n s6.c]
theorem sumC1 (n : L8) (s1 s2 s3 s4 s5 s6 : Sl) : ∀ v ∈ sumC n s1 s2 s3 s4 s5 s6, v.oneCell = true := by
  intro v hv
  simp only [List.mem_cons, List.not_mem_nil, or_false] at hv
  rcases hv with rfl | rfl | rfl | rfl | rfl | rfl | rfl <;> rfl
abbrev n0 : Sl := ⟨none, 0, 0⟩
theorem ld_sumC {H0 A : Hp} {L : List It} {k b : Nat} {n : L8} {s1 s2 s3 s4 s5 s6 : Sl} (h : Sym H0 no A L) (hk : L[k]? = some (blk b (sumC n s1 s2 s3 s4 s5 s6) 90)) :
    (hcell A ⟨b, 0, none⟩ = some (.string (str n)) ∧ hcell A ⟨b, 1, none⟩ = some (.slice s1.a s1.n s1.c) ∧ hcell A ⟨b, 2, none⟩ = some (.slice s2.a s2.n s2.c) ∧ hcell A ⟨b, 3, none⟩ = some (.slice s3.a s3.n s3.c) ∧
      hcell A ⟨b, 4, none⟩ = some (.slice s4.a s4.n s4.c) ∧ hcell A ⟨b, 5, none⟩ = some (.slice s5.a s5.n s5.c) ∧ hcell A ⟨b, 6, none⟩ = some (.slice s6.a s6.n s6.c) ∧ True) :=
  ⟨h.ld hk 0, h.ld hk 1, h.ld hk 2, h.ld hk 3, h.ld hk 4, h.ld hk 5, h.ld hk 6, trivial⟩
theorem rd_nil {H : Hp} : RdSum H n0 n0 n0 n0 n0 n0 noSum := ⟨Rd.nil, Rd.nil, Rd.nil, ⟨RdX.nil, Rd.nil, RdX.nil⟩⟩
theorem read_ok {H : Hp} {K : Value → Hp → Prop} {Z : List PanicEntry → Hp → Prop} {p : Addr} {ts : List L8} {s : ByteArray} (hp : C25.PlS H p ts) (hs : s.size ≤ 4611686018427387904)
    (k : ∀ H' s1 s2 s3 s4 s5 s6, Fr no H H' → RdSum H' s1 s2 s3 s4 s5 s6 (readS ts s).1 → K (.tuple #[C26Y.sumA (readS ts s).1.name s1 s2 s3 s4 s5 s6, .int .i64 (readS ts s).2]) H') : CallF Try.prog 42 #[.pointer (some p), .string s] H K Z := by
  refine V42_ok ?_
  unfold V42
  intro b1 A hA
  have sA := (Sym.start H).newb (cs := sumC [] n0 n0 n0 n0 n0 n0) hA
  refine C02R.new_ok hs fun bR B hbR hrd fB => ⟨_, rfl, fun b2 C hC => ?_⟩
  have sB : Sym H no B (rdrI bR 0 117 [.string s, .int .i64 0, .int .i64 0] (s, 0, 0) :: [blk b1 (sumC [] n0 n0 n0 n0 n0 n0) 90]) := sA.new fB hrd fun i hi => by
    have : i = bR := hi
    omega
  have sC : Sym H no C (rd2 b2 bR p [.string s, .int .i64 0, .int .i64 0] (s, 0, 0) [blk b1 (sumC [] n0 n0 n0 n0 n0 n0) 90]) := sB.newb (cs := [.pointer (some ⟨bR, 0, none⟩), .pointer (some p)]) hC
  have k0 : ((s, 0, 0) : Rr).2.2 ≠ (6 : Int) := (by decide : (0 : Int) ≠ 6)
  -- what is read
  have k1 := k6_text ts (s, 0, 0) k0
  have k2 := k6_th (k6_text ts) _ k1
  have k3 := k6_th (k6_text ts) _ k2
  have k4 := k6_th (k6_text ts) _ k3
  have k5 := k6_th (k6_obj ts) _ k4
  have k6 := k6_th (k6_fn ts) _ k5
  have e : readS ts s = (if (rdoneM (sumR ts (s, 0, 0)).2).2 ≠ 0 then (noSum, (rdoneM (sumR ts (s, 0, 0)).2).2) else ((sumR ts (s, 0, 0)).1, 0)) := rfl
  unfold sumR at e
  simp only at e
  refine text_ok hp sC k0 fun D cs1 sD => ⟨_, rfl, fun bS E hE => ?_⟩
  generalize textR ts (s, 0, 0) = x1 at *
  have sE : Sym H no E (rd2 b2 bR p cs1 x1.2 [blk bS (sumC [] n0 n0 n0 n0 n0 n0) 90, blk b1 (sumC [] n0 n0 n0 n0 n0 n0) 90]) := pull3 (sD.newb (cs := sumC [] n0 n0 n0 n0 n0 n0) hE)
  refine sE.stbs (k := 2) (i := 0) (vs := sumC x1.1 n0 n0 n0 n0 n0 n0) rfl (by simp) (sumC1 _ _ _ _ _ _ _) fun F sF => ?_
  replace sF : Sym H no F (rd2 b2 bR p cs1 x1.2 [blk bS (sumC x1.1 n0 n0 n0 n0 n0 n0) 90, blk b1 (sumC [] n0 n0 n0 n0 n0 n0) 90]) := sF
  refine thStr_ok (k6_text ts) (oneT hp) sF k1 fun G cs2 s1 sG => ⟨_, rfl, ?_⟩
  generalize thR (textR ts) x1.2 = x2 at *
  refine sG.stb (k := 3) (i := 1) rfl (by simp) rfl fun I sI => ?_
  replace sI : Sym H no I (rd2 b2 bR p cs2 x2.2 [arr flL 9 1 s1 x2.1, blk bS (sumC x1.1 s1 n0 n0 n0 n0 n0) 90, blk b1 (sumC [] n0 n0 n0 n0 n0 n0) 90]) := sI
  refine thStr_ok (k6_text ts) (oneT hp) sI k2 fun L cs3 s2 sL => ⟨_, rfl, ?_⟩
  generalize thR (textR ts) x2.2 = x3 at *
  refine sL.stb (k := 4) (i := 2) rfl (by simp) rfl fun M sM => ?_
  replace sM : Sym H no M (rd2 b2 bR p cs3 x3.2 [arr flL 9 1 s2 x3.1, arr flL 9 1 s1 x2.1, blk bS (sumC x1.1 s1 s2 n0 n0 n0 n0) 90, blk b1 (sumC [] n0 n0 n0 n0 n0 n0) 90]) := sM
  refine thStr_ok (k6_text ts) (oneT hp) sM k3 fun N cs4 s3 sN => ⟨_, rfl, ?_⟩
  generalize thR (textR ts) x3.2 = x4 at *
  refine sN.stb (k := 5) (i := 3) rfl (by simp) rfl fun O sO => ?_
  replace sO : Sym H no O (rd2 b2 bR p cs4 x4.2 [arr flL 9 1 s3 x4.1, arr flL 9 1 s2 x3.1, arr flL 9 1 s1 x2.1, blk bS (sumC x1.1 s1 s2 s3 n0 n0 n0) 90, blk b1 (sumC [] n0 n0 n0 n0 n0 n0) 90]) := sO
  refine thObj_ok (k6_obj ts) (oneO hp) sO k4 fun P cs5 s4 hs5 ps5 r5 sP => ⟨_, rfl, ?_⟩
  generalize thR (objR ts) x4.2 = x5 at *
  refine sP.stb (k := 7) (i := 4) rfl (by simp) rfl fun Q sQ => ?_
  replace sQ : Sym H no Q (rd2 b2 bR p cs5 x5.2 [arr flHO 128 3 s4 hs5, rdsI flM 2 ps5, arr flL 9 1 s3 x4.1, arr flL 9 1 s2 x3.1, arr flL 9 1 s1 x2.1, blk bS (sumC x1.1 s1 s2 s3 s4 n0 n0) 90, blk b1 (sumC [] n0 n0 n0 n0 n0 n0) 90]) := sQ
  refine thFn_ok (k6_fn ts) (oneF hp) sQ k5 fun R cs6 s5 sR => ⟨_, rfl, ?_⟩
  generalize thR (fnR ts) x5.2 = x6 at *
  refine sR.stb (k := 8) (i := 5) rfl (by simp) rfl fun S sS => ?_
  replace sS : Sym H no S (rd2 b2 bR p cs6 x6.2 [arr flF 132 3 s5 x6.1, arr flHO 128 3 s4 hs5, rdsI flM 2 ps5, arr flL 9 1 s3 x4.1, arr flL 9 1 s2 x3.1, arr flL 9 1 s1 x2.1, blk bS (sumC x1.1 s1 s2 s3 s4 s5 n0) 90, blk b1 (sumC [] n0 n0 n0 n0 n0 n0) 90]) := sS
  refine thCon_ok (k6_con ts) (oneC hp) sS k6 fun T cs7 s6 hs7 ps7 r7 sT => ⟨_, rfl, ?_⟩
  generalize thR (conR ts) x6.2 = x7 at *
  refine sT.stb (k := 10) (i := 6) rfl (by simp) rfl fun U sU => ?_
  replace sU : Sym H no U (rd2 b2 bR p cs7 x7.2 [arr flHC 136 6 s6 hs7, rdsI flL 1 ps7, arr flF 132 3 s5 x6.1, arr flHO 128 3 s4 hs5, rdsI flM 2 ps5, arr flL 9 1 s3 x4.1, arr flL 9 1 s2 x3.1, arr flL 9 1 s1 x2.1, blk bS (sumC x1.1 s1 s2 s3 s4 s5 s6) 90, blk b1 (sumC [] n0 n0 n0 n0 n0 n0) 90]) := sU
  refine ⟨_, ldR sU, C02R.done_ok (rdS sU) ⟨_, _, rfl, fun h0 => ?_, fun h0 => ?_⟩⟩
  · have h0' : (rdoneM x7.2).2 ≠ 0 := by simpa using h0
    rw [if_pos h0'] at e
    rw [e] at k
    refine sU.stbs (k := 11) (i := 0) (vs := sumC [] n0 n0 n0 n0 n0 n0) rfl (by simp) (sumC1 _ _ _ _ _ _ _) fun W sW => ?_
    replace sW : Sym H no W (rd2 b2 bR p cs7 x7.2 [arr flHC 136 6 s6 hs7, rdsI flL 1 ps7, arr flF 132 3 s5 x6.1, arr flHO 128 3 s4 hs5, rdsI flM 2 ps5, arr flL 9 1 s3 x4.1, arr flL 9 1 s2 x3.1, arr flL 9 1 s1 x2.1, blk bS (sumC x1.1 s1 s2 s3 s4 s5 s6) 90, blk b1 (sumC [] n0 n0 n0 n0 n0 n0) 90]) := sW
    exact ⟨_, n0, n0, n0, n0, n0, n0, ld_sumC sW (k := 11) rfl, k W n0 n0 n0 n0 n0 n0 sW.fr rd_nil⟩
  · have h0' : ¬ (rdoneM x7.2).2 ≠ 0 := by simpa using h0
    rw [if_neg h0'] at e
    rw [e] at k
    refine ⟨_, s1, s2, s3, s4, s5, s6, ld_sumC sU (k := 10) rfl, ?_⟩
    refine sU.stbs (k := 11) (i := 0) (vs := sumC x1.1 s1 s2 s3 s4 s5 s6) rfl (by simp) (sumC1 _ _ _ _ _ _ _) fun W sW => ?_
    replace sW : Sym H no W (rd2 b2 bR p cs7 x7.2 [arr flHC 136 6 s6 hs7, rdsI flL 1 ps7, arr flF 132 3 s5 x6.1, arr flHO 128 3 s4 hs5, rdsI flM 2 ps5, arr flL 9 1 s3 x4.1, arr flL 9 1 s2 x3.1, arr flL 9 1 s1 x2.1, blk bS (sumC x1.1 s1 s2 s3 s4 s5 s6) 90, blk b1 (sumC x1.1 s1 s2 s3 s4 s5 s6) 90]) := sW
    refine ⟨_, s1, s2, s3, s4, s5, s6, ld_sumC sW (k := 11) rfl, k W s1 s2 s3 s4 s5 s6 sW.fr ⟨?_, ?_, ?_, ⟨?_, ?_, ?_⟩⟩⟩
    · exact sW.rd (k := 9) FlL (by decide) rfl
    · exact sW.rd (k := 8) FlL (by decide) rfl
    · exact sW.rd (k := 7) FlL (by decide) rfl
    · exact rel_objs r5 (sW.rd (k := 5) FlHO (by decide) rfl) (sW.get (k := 6) rfl)
    · exact sW.rd (k := 4) FlF (by decide) rfl
    · exact rel_cons r7 (sW.rd (k := 2) FlHC (by decide) rfl) (sW.get (k := 3) rfl)
end Go.Proofs.Ytigbdoicgdmliaa.C26S
end

section
/- weftref02.Reader: what its methods do. -/
set_option linter.unusedVariables false
set_option linter.unusedSimpArgs false
-- qNumber: 88
-- qFail: 113
-- qDone: 89
-- qnumber: 114
namespace Go.Proofs.Ytigbdoicgdmliaa.Q02R
open Go Go.V Go.Proofs Go.Proofs.Ytigbdoicgdmliaa.N02 Go.Proofs.Ytigbdoicgdmliaa.P02 Go.Proofs.Ytigbdoicgdmliaa.C02R
attribute [local irreducible] Cvt ExtF CallF hrun
theorem bt_eq {s : ByteArray} {i : Nat} {j : Int} (h : j = (i : Int)) : bt s j = ((s.data.toList.getD i 0).toNat : Int) := by
  subst h
  unfold bt
  rw [Int.toNat_natCast]
theorem shAdd {n c k : Nat} (hk : k ≤ 4) (hn : n < 128 ^ k) (hc : c < 256) : w64 ((n : Int) + w64 (Int.tmod (w64 (c : Int)) 128 * 2 ^ (min (Int.toNat (w64 (7 * (k : Int)))) (IntKind.bits .i64)))) = ((n + c % 128 * 128 ^ k : Nat) : Int) := by
  have e1 : w64 (c : Int) = c := w64_id (by omega) (by omega)
  have e2 : w64 (7 * (k : Int)) = 7 * k := w64_id (by omega) (by omega)
  have e3 : min (7 * (k : Int)).toNat (IntKind.bits .i64) = 7 * k := by
    simp only [IntKind.bits]
    omega
  have hp : (128 : Nat) ^ k = 2 ^ (7 * k) := by rw [Nat.pow_mul]
  have hb : 128 ^ k ≤ 268435456 := by
    have : (128 : Nat) ^ k ≤ 128 ^ 4 := Nat.pow_le_pow_right (by omega) hk
    have : (128 : Nat) ^ 4 = 268435456 := by decide
    omega
  have hm : c % 128 * 128 ^ k ≤ 127 * 268435456 := Nat.mul_le_mul (by omega) hb
  have t : Int.tmod (c : Int) 128 = ((c % 128 : Nat) : Int) := by
    rw [Int.tmod_eq_emod_of_nonneg (by omega)]
    omega
  rw [e1, e2, e3, t]
  have e4 : ((c % 128 : Nat) : Int) * 2 ^ (7 * k) = ((c % 128 * 128 ^ k : Nat) : Int) := by rw [hp]; simp
  rw [e4, w64_id (x := ((c % 128 * 128 ^ k : Nat) : Int)) (by omega) (by omega), w64_id (by omega) (by omega)]
  omega

theorem number_ok {H : Hp} {s : ByteArray} {i : Nat} {K : Value → Hp → Prop} {Z : List PanicEntry → Hp → Prop} (hi : i ≤ s.size) (hs : s.size ≤ 4611686018427387904)
    (k : ∀ y : Int, ((lookL 0 0 (s.data.toList.drop i)).2.2 = 0 → y = ((i + (lookL 0 0 (s.data.toList.drop i)).2.1 : Nat) : Int)) → K (.tuple #[.int .i64 ((lookL 0 0 (s.data.toList.drop i)).1 : Int), .int .i64 y, .int .i64 (lookL 0 0 (s.data.toList.drop i)).2.2]) H) :
    CallF Try.prog 114 #[.string s, .int .i64 (i : Int)] H K Z := by
  refine V114_ok ?_
  unfold V114
  have hlen : s.data.toList.length = s.size := by simp
  refine ⟨fun n j B m => ∃ nn jj : Nat, B = H ∧ j = (jj : Int) ∧ jj ≤ 4 ∧ n = (nn : Int) ∧ nn < 128 ^ jj ∧ m = 5 - jj ∧ lookL jj nn (s.data.toList.drop (i + jj)) = lookL 0 0 (s.data.toList.drop i), ⟨5, 0, 0, rfl, rfl, by decide, rfl, by decide, rfl, rfl⟩, ?_⟩
  rintro n j B m ⟨nn, jj, rfl, rfl, h1, rfl, h2, rfl, h4⟩ scr
  refine ⟨fun _ => ?_, fun hge => by simp at hge; omega⟩
  have ei : w64 ((i : Int) + (jj : Int)) = ((i + jj : Nat) : Int) := by rw [w64_id (by omega) (by omega)]; omega
  rw [ei]
  refine ⟨fun hge => ?_, fun hlt => ?_⟩
  · have hge' : s.size ≤ i + jj := by
      have : ((i + jj : Nat) : Int) ≥ (s.size : Int) := of_decide_eq_true hge
      omega
    have hnil : s.data.toList.drop (i + jj) = [] := List.drop_eq_nil_of_le (by omega)
    rw [hnil] at h4
    have e1 : lookL 0 0 (s.data.toList.drop i) = (0, 0, 1) := h4.symm
    have hk := k 0 (by rw [e1]; intro h; cases h)
    rw [e1] at hk
    exact hk
  · have hlt' : i + jj < s.size := by
      have : ¬ ((i + jj : Nat) : Int) ≥ (s.size : Int) := of_decide_eq_false hlt
      omega
    refine ⟨⟨by omega, by omega⟩, ?_⟩
    rw [bt_eq rfl]
    rw [drop_cons hlt'] at h4
    have h256 := (s.data.toList.getD (i + jj) 0).toNat_lt
    generalize hc : s.data.toList.getD (i + jj) 0 = c at *
    have ec : w64 (c.toNat : Int) = c.toNat := w64_id (by omega) (by omega)
    have hsh := shAdd h1 h2 h256
    have kk : ∀ y : Int, ((lookL 0 0 (s.data.toList.drop i)).2.2 = 0 → y = ((i + (lookL 0 0 (s.data.toList.drop i)).2.1 : Nat) : Int)) → K (.tuple #[.int .i64 ((lookL 0 0 (s.data.toList.drop i)).1 : Int), .int .i64 y, .int .i64 (lookL 0 0 (s.data.toList.drop i)).2.2]) B := k
    rw [← h4] at kk
    refine ⟨fun C => C = B ∧ ¬ (jj = 4 ∧ 1 < c.toNat), ?_, ?_, ?_⟩
    · rintro C ⟨rfl, hnot⟩ scr1
      rw [hsh, ec]
      rw [lookL, if_neg hnot] at h4 kk
      refine ⟨by rw [w64_id (by omega) (by omega)]; omega, fun hm => ?_, fun hm => ?_⟩
      · have hm' : ¬ 128 ≤ c.toNat := by
          have : (c.toNat : Int) < 128 := of_decide_eq_true hm
          omega
        rw [if_neg hm'] at kk
        have ey : w64 (((i + jj : Nat) : Int) + 1) = ((i + (jj + 1) : Nat) : Int) := by rw [w64_id (by omega) (by omega)]; omega
        rw [ey]
        refine ⟨fun hz => ⟨fun hp => ?_, fun hp => ⟨fun hr => ?_, fun hr => ?_⟩⟩, fun hz => ⟨fun hr => ?_, fun hr => ?_⟩⟩
        · have hz' : c.toNat = 0 := by
            have : (c.toNat : Int) = 0 := by simpa using hz
            omega
          have hp' : (jj : Int) > 0 := of_decide_eq_true hp
          rw [if_pos ⟨hz', by omega⟩] at kk
          exact kk 0 (by intro h; cases h)
        · have hp' : ¬ (jj : Int) > 0 := of_decide_eq_false hp
          have hr' : ((nn + c.toNat % 128 * 128 ^ jj : Nat) : Int) > 268435456 := of_decide_eq_true hr
          rw [if_neg (by omega), if_pos (by omega)] at kk
          exact kk 0 (by intro h; cases h)
        · have hp' : ¬ (jj : Int) > 0 := of_decide_eq_false hp
          have hr' : ¬ ((nn + c.toNat % 128 * 128 ^ jj : Nat) : Int) > 268435456 := of_decide_eq_false hr
          rw [if_neg (by omega), if_neg (by omega)] at kk
          exact kk _ (fun _ => rfl)
        · have hz' : ¬ c.toNat = 0 := by
            have : ¬ (c.toNat : Int) = 0 := by simpa using hz
            omega
          have hr' : ((nn + c.toNat % 128 * 128 ^ jj : Nat) : Int) > 268435456 := of_decide_eq_true hr
          rw [if_neg (fun h => hz' h.1), if_pos (by omega)] at kk
          exact kk 0 (by intro h; cases h)
        · have hz' : ¬ c.toNat = 0 := by
            have : ¬ (c.toNat : Int) = 0 := by simpa using hz
            omega
          have hr' : ¬ ((nn + c.toNat % 128 * 128 ^ jj : Nat) : Int) > 268435456 := of_decide_eq_false hr
          rw [if_neg (fun h => hz' h.1), if_neg (by omega)] at kk
          exact kk _ (fun _ => rfl)
      · have hm' : 128 ≤ c.toNat := by
          have : ¬ (c.toNat : Int) < 128 := of_decide_eq_false hm
          omega
        rw [if_pos hm'] at h4
        have hj4 : jj ≠ 4 := fun h => hnot ⟨h, by omega⟩
        have ej : w64 ((jj : Int) + 1) = ((jj + 1 : Nat) : Int) := by rw [w64_id (by omega) (by omega)]; omega
        rw [ej]
        refine ⟨5 - (jj + 1), by omega, _, jj + 1, rfl, rfl, by omega, rfl, ?_, rfl, h4⟩
        rw [Nat.pow_succ]
        have : c.toNat % 128 * 128 ^ jj ≤ 127 * 128 ^ jj := Nat.mul_le_mul_right _ (by omega)
        omega
    · intro h4'
      have h4'' : jj = 4 := by
        have : (jj : Int) = 4 := by simpa using h4'
        omega
      rw [ec]
      refine ⟨fun hc1 => ?_, fun hc1 => ?_⟩
      · have hc1' : (c.toNat : Int) > 1 := of_decide_eq_true hc1
        rw [lookL, if_pos ⟨h4'', by omega⟩] at kk
        exact kk 0 (by intro h; cases h)
      · have hc1' : ¬ (c.toNat : Int) > 1 := of_decide_eq_false hc1
        exact ⟨rfl, fun h => hc1' (by omega)⟩
    · intro h4'
      have h4'' : ¬ (jj : Int) = 4 := by simpa using h4'
      exact ⟨rfl, fun h => h4'' (by omega)⟩
section
variable {H : Hp} {b o : Nat} {T : TypeId} {cs : List Value} {r : Rd}
theorem numM_err (h : r.2.2 ≠ 0) : numM r = (0, r) := by rw [numM, takeM_err h]
theorem numM_bad (h : r.2.2 = 0) (h1 : (lookL 0 0 (restL r)).2.2 ≠ 0) : numM r = (0, (r.1, r.2.1, (lookL 0 0 (restL r)).2.2)) := by
  rw [numM, takeM_bad h (e := (lookL 0 0 (restL r)).2.2) (by rw [if_neg (fun h => h1 h.1)]) h1]
theorem numM_good (h : r.2.2 = 0) (h1 : (lookL 0 0 (restL r)).2.2 = 0) : numM r = ((lookL 0 0 (restL r)).1, (r.1, r.2.1 + (lookL 0 0 (restL r)).2.1, 0)) := by
  rw [numM, takeM_good h h1 (Nat.not_lt_zero _)]
  rfl
theorem qnumber_ok {K : Value → Hp → Prop} {Z : List PanicEntry → Hp → Prop} (h : RdS H b o T cs r) (k : ∀ H' cs', RdTo H H' b o T cs cs' (numM r).2 → K (.int .i64 ((numM r).1 : Int)) H') : CallF Try.prog 88 #[.pointer (some ⟨b, o, none⟩)] H K Z := by
  refine V88_ok ?_
  unfold V88
  have hle := h.le
  have hbig := h.big
  have hl := lookL_ok (restL r) 0 0 (by omega)
  have hrl := restL_len r hle
  refine ⟨_, h.ld0, _, h.ld1, number_ok hle hbig ?_⟩
  show ∀ y : Int, ((lookL 0 0 (restL r)).2.2 = 0 → y = ((r.2.1 + (lookL 0 0 (restL r)).2.1 : Nat) : Int)) → _
  intro y hy
  refine ⟨_, _, _, rfl, _, h.ld2, fun h0 => ?_, fun h0 => ⟨fun h1 => ?_, fun h1 => ?_⟩⟩
  · have h0' : r.2.2 ≠ 0 := by simpa using h0
    rw [numM_err h0'] at k
    exact k H cs (RdTo.refl h)
  · have h0' : r.2.2 = 0 := by simpa using h0
    have h1' : (lookL 0 0 (restL r)).2.2 ≠ 0 := by simpa [restL] using h1
    rw [numM_bad h0' h1'] at k
    refine C02R.setE h ?_
    intro A hA
    exact k A _ hA
  · have h0' : r.2.2 = 0 := by simpa using h0
    have h1' : (lookL 0 0 (restL r)).2.2 = 0 := by simpa [restL] using h1
    rw [numM_good h0' h1'] at k
    have hll := hl.1 h1'
    refine setAt (n := r.2.1 + (lookL 0 0 (restL r)).2.1) h (hy h1') (by omega) ?_
    intro A hA
    rw [h0'] at hA
    exact k A _ hA
theorem textM_err (h : r.2.2 ≠ 0) : textM r = (⟨#[]⟩, r) := by rw [textM, takeM_err h]
theorem textM_bad (h : r.2.2 = 0) (h1 : (lookL 0 0 (restL r)).2.2 ≠ 0) : textM r = (⟨#[]⟩, (r.1, r.2.1, (lookL 0 0 (restL r)).2.2)) := by
  rw [textM, takeM_bad h (e := (lookL 0 0 (restL r)).2.2) (by rw [if_neg (fun h => h1 h.1)]) h1]
theorem textM_short (h : r.2.2 = 0) (h1 : (lookL 0 0 (restL r)).2.2 = 0) (h2 : r.1.size - r.2.1 - (lookL 0 0 (restL r)).2.1 < (lookL 0 0 (restL r)).1) : textM r = (⟨#[]⟩, (r.1, r.2.1, 1)) := by
  rw [textM, takeM_bad h (e := 1) (by rw [if_pos ⟨h1, h2⟩]) (by decide)]
theorem textM_good (h : r.2.2 = 0) (h1 : (lookL 0 0 (restL r)).2.2 = 0) (h2 : ¬ r.1.size - r.2.1 - (lookL 0 0 (restL r)).2.1 < (lookL 0 0 (restL r)).1) :
    textM r = (r.1.extract (r.2.1 + (lookL 0 0 (restL r)).2.1) (r.2.1 + (lookL 0 0 (restL r)).2.1 + (lookL 0 0 (restL r)).1), (r.1, r.2.1 + (lookL 0 0 (restL r)).2.1 + (lookL 0 0 (restL r)).1, 0)) := by
  rw [textM, takeM_good h h1 h2]
  rfl
theorem qfail_ok {e : Int} {K : Value → Hp → Prop} {Z : List PanicEntry → Hp → Prop} (h : RdS H b o T cs r) (k : ∀ H' cs', RdTo H H' b o T cs cs' (failM r e) → K (.tuple #[]) H') : CallF Try.prog 113 #[.pointer (some ⟨b, o, none⟩), .int .i64 e] H K Z := by
  refine V113_ok ?_
  unfold V113
  refine ⟨_, h.ld2, fun h0 => ?_, fun h0 => ?_⟩
  · have h0' : r.2.2 = 0 := by simpa using h0
    refine C02R.setE h ?_
    intro A hA
    exact k A _ (by rw [failM, if_pos h0']; exact hA)
  · have h0' : ¬ r.2.2 = 0 := by simpa using h0
    exact k H cs (by rw [failM, if_neg h0']; exact RdTo.refl h)
theorem qdone_ok {K : Value → Hp → Prop} {Z : List PanicEntry → Hp → Prop} (h : RdS H b o T cs r) (k : K (.tuple #[.int .i64 ((rdoneM r).1 : Int), .int .i64 (rdoneM r).2]) H) : CallF Try.prog 89 #[.pointer (some ⟨b, o, none⟩)] H K Z := by
  refine V89_ok ?_
  unfold V89
  unfold rdoneM at k
  refine ⟨_, h.ld2, fun h0 => ⟨_, h.ld1, _, h.ld0, fun h1 => ⟨_, h.ld1, ?_⟩, fun h1 => ⟨_, h.ld1, _, h.ld2, ?_⟩⟩, fun h0 => ⟨_, h.ld1, _, h.ld2, ?_⟩⟩
  · have h0' : r.2.2 = 0 := by simpa using h0
    have h1' : r.2.1 < r.1.size := by simpa using h1
    rw [if_pos ⟨h0', h1'⟩] at k
    exact k
  · have h1' : ¬ r.2.1 < r.1.size := by simpa using h1
    rw [if_neg (fun h => h1' h.2)] at k
    exact k
  · have h0' : ¬ r.2.2 = 0 := by simpa using h0
    rw [if_neg (fun h => h0' h.1)] at k
    exact k
end
end Go.Proofs.Ytigbdoicgdmliaa.Q02R
end

section
/- weftref26's reader: bytes as a summary, the document's way. -/
set_option linter.unusedVariables false
set_option linter.unusedSimpArgs false
-- qNumber: 88
-- qFail: 113
-- qDone: 89
-- xRead: 43
-- xtext: 84
-- xtexts: 85
-- xmany: 86
-- xobject: 87
-- tXR: 143
-- tQR: 141
-- tStr: 9
-- tObj: 128
-- tFn: 132
-- tCon: 136
-- tMark: 174
-- tSum: 90
namespace Go.Proofs.Ytigbdoicgdmliaa.C26T
open Go Go.V Go.Proofs Go.Proofs.Ytigbdoicgdmliaa.N26 Go.Proofs.Ytigbdoicgdmliaa.P02 Go.Proofs.Ytigbdoicgdmliaa.P26R Go.Proofs.Ytigbdoicgdmliaa.C25 Go.Proofs.Ytigbdoicgdmliaa.C26R Go.Proofs.Ytigbdoicgdmliaa.C26S
attribute [local irreducible] Cvt ExtF CallF hrun App MkS callV
def rq (b bR : Nat) (ps : Sl) (cs : List Value) (r : Rr) (R : List It) : List It := blk b [.slice ps.a ps.n ps.c, .pointer (some ⟨bR, 0, none⟩)] 143 :: rdrI bR 0 141 cs r :: R
section
variable {H0 H : Hp} {R : List It} {K : Value → Hp → Prop} {Z : List PanicEntry → Hp → Prop} {b bR : Nat} {ps : Sl} {cs : List Value} {r : Rr} {ts : List L8}
theorem rdQ (h : Sym H0 no H (rq b bR ps cs r R)) : C02R.RdS H bR 0 141 cs r := h.get (k := 1) rfl
theorem ldQ (h : Sym H0 no H (rq b bR ps cs r R)) : hcell H (Addr.add ⟨b, 0, none⟩ 1) = some (.pointer (some ⟨bR, 0, none⟩)) := by
  rw [add_mk, Nat.zero_add]
  exact h.ld (k := 0) rfl 1
theorem ldS (h : Sym H0 no H (rq b bR ps cs r R)) : hcell H ⟨b, 0, none⟩ = some (.slice ps.a ps.n ps.c) := h.ld (k := 0) rfl 0
theorem qput (h : Sym H0 no H (rq b bR ps cs r R)) {H' : Hp} {cs' : List Value} {r' : Rr} (ht : C02R.RdTo H H' bR 0 141 cs cs' r') : Sym H0 no H' (rq b bR ps cs' r' R) := h.rdr (k := 1) rfl ht
theorem qnum (h : Sym H0 no H (rq b bR ps cs r R)) (kk : ∀ H' cs', Sym H0 no H' (rq b bR ps cs' (numM r).2 R) → K (.int .i64 ((numM r).1 : Int)) H') : CallF Try.prog 88 #[.pointer (some ⟨bR, 0, none⟩)] H K Z :=
  Q02R.qnumber_ok (rdQ h) fun H' cs' ht => kk H' cs' (qput h ht)
theorem qfail {e : Int} (h : Sym H0 no H (rq b bR ps cs r R)) (kk : ∀ H' cs', Sym H0 no H' (rq b bR ps cs' (failM r e) R) → K (.tuple #[]) H') : CallF Try.prog 113 #[.pointer (some ⟨bR, 0, none⟩), .int .i64 e] H K Z :=
  Q02R.qfail_ok (rdQ h) fun H' cs' ht => kk H' cs' (qput h ht)
theorem pullq {x : It} {A : Hp} (h : Sym H0 no A (x :: rq b bR ps cs r R)) : Sym H0 no A (rq b bR ps cs r (x :: R)) := h.perm ((List.Perm.swap _ x _).trans ((List.Perm.swap _ x R).cons _))
theorem dropq {x : It} {A : Hp} (h : Sym H0 no A (rq b bR ps cs r (x :: R))) : Sym H0 no A (rq b bR ps cs r R) := h.sub (List.Sublist.cons_cons _ (List.Sublist.cons_cons _ (List.sublist_cons_self _ _)))
theorem dropq2 {x y : It} {A : Hp} (h : Sym H0 no A (rq b bR ps cs r (y :: x :: R))) : Sym H0 no A (rq b bR ps cs r (y :: R)) := h.sub (List.Sublist.cons_cons _ (List.Sublist.cons_cons _ (List.Sublist.cons_cons _ (List.sublist_cons_self _ _))))
theorem xrtext_ok (hp : Rd flL 1 H0 ps ts) (h : Sym H0 no H (rq b bR ps cs r R)) (kk : ∀ H' cs', Sym H0 no H' (rq b bR ps cs' (textR ts r).2 R) → K (.string (str (textR ts r).1)) H') : CallF Try.prog 84 #[.pointer (some ⟨b, 0, none⟩)] H K Z := by
  refine V84_ok ?_
  unfold V84
  refine ⟨_, ldQ h, qnum h fun A cs1 sA => ⟨_, rfl, _, ldQ sA, ?_⟩⟩
  refine ⟨_, (rdQ sA).ld2, fun hb => ?_, fun hb => ?_⟩
  · have hb' : (numM r).2.2.2 ≠ 0 := by simpa using hb
    have e : textR ts r = ([], (numM r).2) := by unfold textR; rw [if_pos hb']
    rw [e] at kk
    exact kk A cs1 sA
  · have hb' : (numM r).2.2.2 = 0 := by simpa using hb
    have hpA := hp.more sA.fr
    have hl := hpA.len
    refine ⟨ps, ldS sA, fun hge => ?_, fun hlt => ?_⟩
    · have hge' : ps.n ≤ (numM r).1 := by have := of_decide_eq_true hge; omega
      have e : textR ts r = ([], failM (numM r).2 2) := by
        unfold textR
        rw [if_neg (by simpa using hb'), List.getElem?_eq_none (by omega)]
      rw [e] at kk
      refine ⟨_, ldQ sA, C02R.setE (rdQ sA) fun B ht => ?_⟩
      have e2 : failM (numM r).2 2 = ((numM r).2.1, (numM r).2.2.1, 2) := by unfold failM; rw [if_pos hb']
      rw [e2] at kk
      exact kk B _ (qput sA ht)
    · have hlt' : (numM r).1 < ts.length := by have := of_decide_eq_false hlt; omega
      have hx : ts[(numM r).1]? = some (ts[(numM r).1]'hlt') := List.getElem?_eq_getElem _
      have e : textR ts r = (ts[(numM r).1]'hlt', (numM r).2) := by
        unfold textR
        rw [if_neg (by simpa using hb'), hx]
      rw [e] at kk
      exact ⟨ps, ldS sA, hpA.ixn FlL hx fun ad he => ⟨_, he, kk A cs1 sA⟩⟩
theorem xrmany_ok (h : Sym H0 no H (rq b bR ps cs r R)) (kk : ∀ H' cs', Sym H0 no H' (rq b bR ps cs' (manyR r).2 R) → K (.int .i64 ((manyR r).1 : Int)) H') : CallF Try.prog 86 #[.pointer (some ⟨b, 0, none⟩)] H K Z := by
  refine V86_ok ?_
  unfold V86
  refine ⟨_, ldQ h, qnum h fun A cs1 sA => ⟨_, rfl, fun hb => ?_, fun hb => ?_⟩⟩
  · have hb' : 6000 < (numM r).1 := by have := of_decide_eq_true hb; omega
    have e : manyR r = (0, failM (numM r).2 4) := by unfold manyR; rw [if_pos hb']
    rw [e] at kk
    exact ⟨_, ldQ sA, qfail sA fun B cs2 sB => ⟨rfl, kk B cs2 sB⟩⟩
  · have hb' : ¬ 6000 < (numM r).1 := by have := of_decide_eq_false hb; omega
    have e : manyR r = numM r := by unfold manyR; rw [if_neg hb']
    rw [e] at kk
    exact kk A cs1 sA
theorem xrtexts_ok (hp : Rd flL 1 H0 ps ts) (h : Sym H0 no H (rq b bR ps cs r R)) (kk : ∀ H' cs' s, Sym H0 no H' (rq b bR ps cs' (thR (textR ts) r).2 (arr flL 9 1 s (thR (textR ts) r).1 :: R)) → K (.slice s.a s.n s.c) H') : CallF Try.prog 85 #[.pointer (some ⟨b, 0, none⟩)] H K Z := by
  refine V85_ok ?_
  unfold V85
  have hm := many_le r
  unfold thR at kk
  refine xrmany_ok h fun A cs1 sA => ⟨_, rfl, ?_⟩
  generalize manyR r = x at *
  obtain ⟨n, r2⟩ := x
  simp only at kk sA hm ⊢
  refine ⟨fun l i C m => ∃ (j : Nat) (cs3 : List Value) (r3 : Rr) (acc : List L8), i = (j : Int) ∧ j ≤ n ∧ m = n - j ∧ acc.length = j ∧ Sym H0 no C (rq b bR ps cs3 r3 (arr flL 9 1 l acc :: R)) ∧ thN (textR ts) (n - j) r3 acc = thN (textR ts) n r2 [],
    ⟨_, 0, cs1, r2, [], rfl, Nat.zero_le _, rfl, rfl, pullq (sA.nilrow flL 9 1), rfl⟩, ?_⟩
  rintro l i C m ⟨j, cs3, r3, acc, rfl, hj, rfl, hacc, sC, he⟩ scr1
  refine ⟨fun hlt => ?_, fun hge => ?_⟩
  · have hjn : j < n := by have := dlt hlt; omega
    have en : n - j = (n - (j + 1)) + 1 := by omega
    refine ⟨_, ldQ sC, _, (rdQ sC).ld2, fun hy => ?_, fun hy => ?_⟩
    · have h0 : r3.2.2 = 0 := by simpa using hy
      rw [en, thN_go h0] at he
      refine xrtext_ok hp sC fun D cs4 sD => ⟨_, rfl, fun bb E hE => ?_⟩
      have hl : l.n = acc.length := (sD.rd (k := 2) FlL (by decide) rfl).len
      refine sD.app1 (k := 2) (x := (textR ts r3).1) C26R.tyStr FlL (by decide) hE rfl (by omega) fun ap F hap sF => ⟨n - (j + 1), by omega, j + 1, cs4, (textR ts r3).2, acc ++ [(textR ts r3).1], wi (by omega), hjn, rfl, by simp [hacc], sF, he⟩
    · have h0 : r3.2.2 ≠ 0 := by simpa using hy
      rw [thN_err h0] at he
      rw [← he] at kk
      exact kk C cs3 l sC
  · have hjn : n = j := by have := dge hge; omega
    rw [hjn, Nat.sub_self] at he
    have he' : (acc, r3) = thN (textR ts) n r2 [] := by rw [hjn]; exact he
    rw [← he'] at kk
    exact kk C cs3 l sC
theorem xrobject_ok (hp : Rd flL 1 H0 ps ts) (h : Sym H0 no H (rq b bR ps cs r R)) (kk : ∀ H' cs' s, Sym H0 no H' (rq b bR ps cs' (objR ts r).2 (arr flM 174 2 s (objR ts r).1.marks :: R)) → K (.agg #[.string (str (objR ts r).1.name), .string (str (objR ts r).1.kinds), .slice s.a s.n s.c]) H') : CallF Try.prog 87 #[.pointer (some ⟨b, 0, none⟩)] H K Z := by
  refine V87_ok ?_
  unfold V87
  intro b1 B hB
  have sB := pullq (h.newb (cs := [.string (str []), .string (str []), .slice none 0 0]) hB)
  unfold objR thR at kk
  simp only at kk
  refine xrtext_ok hp sB fun C cs1 sC => ⟨_, rfl, fun bO D hD => ?_⟩
  generalize textR ts r = x1 at *
  have sD := pullq (sC.newb (cs := [.string (str []), .string (str []), .slice none 0 0]) hD)
  refine sD.stbs (k := 2) (i := 0) (vs := [.string (str x1.1), .string (str []), .slice none 0 0]) rfl (by simp) (by intro v hv; exact FlHO.one (x1.1, [], ⟨none, 0, 0⟩) v hv) fun E sE => ?_
  replace sE : Sym H0 no E (rq b bR ps cs1 x1.2 (blk bO [.string (str x1.1), .string (str []), .slice none 0 0] 128 :: blk b1 [.string (str []), .string (str []), .slice none 0 0] 128 :: R)) := sE
  refine xrtext_ok hp sE fun F cs2 sF => ⟨_, rfl, ?_⟩
  generalize textR ts x1.2 = x2 at *
  refine sF.stb (k := 2) (i := 1) rfl (by simp) rfl fun G sG => ?_
  replace sG : Sym H0 no G (rq b bR ps cs2 x2.2 (blk bO [.string (str x1.1), .string (str x2.1), .slice none 0 0] 128 :: blk b1 [.string (str []), .string (str []), .slice none 0 0] 128 :: R)) := sG
  have hm := many_le x2.2
  refine xrmany_ok sG fun I cs3 sI => ⟨_, rfl, ?_⟩
  generalize manyR x2.2 = x at *
  obtain ⟨n, r2⟩ := x
  simp only at kk sI hm ⊢
  have done : ∀ {C : Hp} {cs4 : List Value} {r3 : Rr} {acc : List Mk} {s : Sl}, Sym H0 no C (rq b bR ps cs4 r3 (blk bO [.string (str x1.1), .string (str x2.1), .slice s.a s.n s.c] 128 :: arr flM 174 2 s acc :: blk b1 [.string (str []), .string (str []), .slice none 0 0] 128 :: R)) → (acc, r3) = thN (markR ts) n r2 [] →
      ∃ x_a : ByteArray, ∃ x_b : ByteArray, ∃ x_c : Sl, (hcell C ⟨bO, 0, none⟩ = some (.string x_a) ∧ hcell C ⟨bO, 1, none⟩ = some (.string x_b) ∧ hcell C ⟨bO, 2, none⟩ = some (.slice x_c.a x_c.n x_c.c) ∧ 
      True) ∧ StL ⟨b1, 0, none⟩ 0 [.string x_a, .string x_b, .slice x_c.a x_c.n x_c.c] C fun H18 => (∃ res_a : ByteArray, ∃ res_b : ByteArray, ∃ res_c : Sl, (hcell H18 ⟨b1, 0, none⟩ = some (.string res_a) ∧ 
      hcell H18 ⟨b1, 1, none⟩ = some (.string res_b) ∧ hcell H18 ⟨b1, 2, none⟩ = some (.slice res_c.a res_c.n res_c.c) ∧ 
      True) ∧ K (.agg #[.string res_a, .string res_b, .slice res_c.a res_c.n res_c.c]) H18) := by
    intro C cs4 r3 acc s sC he
    refine ⟨_, _, s, ⟨sC.ld (k := 2) rfl 0, sC.ld (k := 2) rfl 1, sC.ld (k := 2) rfl 2, trivial⟩, ?_⟩
    refine sC.stbs (k := 4) (i := 0) (vs := [.string (str x1.1), .string (str x2.1), .slice s.a s.n s.c]) rfl (by simp) (by intro v hv; exact FlHO.one (x1.1, x2.1, s) v hv) fun P sP => ?_
    replace sP : Sym H0 no P (rq b bR ps cs4 r3 (blk bO [.string (str x1.1), .string (str x2.1), .slice s.a s.n s.c] 128 :: arr flM 174 2 s acc :: blk b1 [.string (str x1.1), .string (str x2.1), .slice s.a s.n s.c] 128 :: R)) := sP
    rw [← he] at kk
    exact ⟨_, _, s, ⟨sP.ld (k := 4) rfl 0, sP.ld (k := 4) rfl 1, sP.ld (k := 4) rfl 2, trivial⟩, kk P cs4 s (dropq2 (dropq sP))⟩
  refine ⟨fun i C m => ∃ (j : Nat) (cs3 : List Value) (r3 : Rr) (acc : List Mk) (s : Sl), i = (j : Int) ∧ j ≤ n ∧ m = n - j ∧ acc.length = j ∧ Sym H0 no C (rq b bR ps cs3 r3 (blk bO [.string (str x1.1), .string (str x2.1), .slice s.a s.n s.c] 128 :: arr flM 174 2 s acc :: blk b1 [.string (str []), .string (str []), .slice none 0 0] 128 :: R)) ∧ thN (markR ts) (n - j) r3 acc = thN (markR ts) n r2 [],
    ⟨_, 0, cs3, r2, [], n0, rfl, Nat.zero_le _, rfl, rfl, ?_, rfl⟩, ?_⟩
  · have := sI.nilrow flM 174 2
    exact this.perm (by
      refine (List.perm_middle (l₁ := [_, _, _])).symm.trans ?_
      exact List.Perm.refl _)
  rintro i C m ⟨j, cs3, r3, acc, s, rfl, hj, rfl, hacc, sC, he⟩ scr1
  refine ⟨fun C' => C' = C ∧ j < n ∧ r3.2.2 = 0, ?_, ?_⟩
  · rintro _ ⟨rfl, hjn, h0⟩ scr2
    have en : n - j = (n - (j + 1)) + 1 := by omega
    rw [en, thN_go h0] at he
    refine ⟨_, ldQ sC, qnum sC fun D cs4 sD => ⟨_, rfl, fun bM E hE => ?_⟩⟩
    have sE := pullq (sD.newb (cs := [.int .i64 0, .string (str [])]) hE)
    refine sE.stbs (k := 2) (i := 0) (vs := [.int .i64 ((numM r3).1 : Int), .string (str [])]) rfl (by simp) (by intro v hv; exact FlM.one ((numM r3).1, []) v hv) fun F sF => ?_
    replace sF : Sym H0 no F (rq b bR ps cs4 (numM r3).2 (blk bM [.int .i64 ((numM r3).1 : Int), .string (str [])] 174 :: blk bO [.string (str x1.1), .string (str x2.1), .slice s.a s.n s.c] 128 :: arr flM 174 2 s acc :: blk b1 [.string (str []), .string (str []), .slice none 0 0] 128 :: R)) := sF
    refine xrtext_ok hp sF fun G cs5 sG => ⟨_, rfl, ?_⟩
    refine sG.stb (k := 2) (i := 1) rfl (by simp) rfl fun L sL => ?_
    replace sL : Sym H0 no L (rq b bR ps cs5 (markR ts r3).2 (blk bM [.int .i64 ((markR ts r3).1.1 : Int), .string (str (markR ts r3).1.2)] 174 :: blk bO [.string (str x1.1), .string (str x2.1), .slice s.a s.n s.c] 128 :: arr flM 174 2 s acc :: blk b1 [.string (str []), .string (str []), .slice none 0 0] 128 :: R)) := sL
    refine ⟨s, sL.ld (k := 3) rfl 2, _, _, ⟨sL.ld (k := 2) rfl 0, sL.ld (k := 2) rfl 1, trivial⟩, fun b4 M hM => ?_⟩
    have hl : s.n = acc.length := (sL.rd (k := 4) FlM (by decide) rfl).len
    refine (dropq sL).app1 (k := 3) (x := (markR ts r3).1) tyMark FlM (by decide) hM rfl (by omega) fun ap N hap sN => ?_
    refine sN.stb (k := 2) (i := 2) rfl (by simp) rfl fun O sO => ?_
    exact ⟨n - (j + 1), by omega, j + 1, cs5, (markR ts r3).2, acc ++ [(markR ts r3).1], ap, wi (by omega), hjn, rfl, by simp [hacc], sO, he⟩
  · refine ⟨fun hlt => ?_, fun hge => ?_⟩
    · have hjn : j < n := by have := dlt hlt; omega
      refine ⟨_, ldQ sC, _, (rdQ sC).ld2, fun hy => ?_, fun hy => ?_⟩
      · exact ⟨rfl, hjn, by simpa using hy⟩
      · have h0 : r3.2.2 ≠ 0 := by simpa using hy
        rw [thN_err h0] at he
        exact done sC he
    · have hjn : n = j := by have := dge hge; omega
      have he' : (acc, r3) = thN (markR ts) n r2 [] := by rw [hjn, Nat.sub_self] at he; rw [hjn]; exact he
      exact done sC he'
end
end Go.Proofs.Ytigbdoicgdmliaa.C26T
end

section
/- weftref26.Read. -/
set_option linter.unusedVariables false
set_option linter.unusedSimpArgs false
-- xRead: 43
-- tXR: 143
-- tQR: 141
-- tStr: 9
-- tObj: 128
-- tFn: 132
-- tCon: 136
-- tMark: 174
-- tSum: 90
namespace Go.Proofs.Ytigbdoicgdmliaa.C26U
open Go Go.V Go.Proofs Go.Proofs.Ytigbdoicgdmliaa.N26 Go.Proofs.Ytigbdoicgdmliaa.P02 Go.Proofs.Ytigbdoicgdmliaa.P26R Go.Proofs.Ytigbdoicgdmliaa.C25 Go.Proofs.Ytigbdoicgdmliaa.C26R Go.Proofs.Ytigbdoicgdmliaa.C26S Go.Proofs.Ytigbdoicgdmliaa.C26T
attribute [local irreducible] Cvt ExtF CallF hrun App MkS callV
theorem pm5 {a r x y z : It} {M : List It} : (a :: r :: x :: y :: z :: M).Perm (x :: y :: z :: a :: r :: M) := ((List.perm_middle (l₁ := [x, y, z])).symm.cons a).trans (List.perm_middle (l₁ := [x, y, z])).symm
theorem pm4 {a x y z : It} {M : List It} : (a :: x :: y :: z :: M).Perm (x :: y :: z :: a :: M) := (List.perm_middle (l₁ := [x, y, z])).symm
theorem xread_ok {H : Hp} {K : Value → Hp → Prop} {Z : List PanicEntry → Hp → Prop} {ps : Sl} {ts : List L8} {s : ByteArray} (hp : Rd flL 1 H ps ts) (hs : s.size ≤ 4611686018427387904)
    (k : ∀ H' s1 s2 s3 s4 s5 s6, Fr no H H' → RdSum H' s1 s2 s3 s4 s5 s6 (readS ts s).1 → K (.tuple #[C26Y.sumA (readS ts s).1.name s1 s2 s3 s4 s5 s6, .int .i64 (readS ts s).2]) H') : CallF Try.prog 43 #[.slice ps.a ps.n ps.c, .string s] H K Z := by
  refine V43_ok ?_
  unfold V43
  intro b1 A hA b2 B hB b3 C hC bS E hE
  have sA := (Sym.start H).newb (cs := sumC [] n0 n0 n0 n0 n0 n0) hA
  have sB : Sym H no B (rdrI b2 0 141 [.string s, .int .i64 0, .int .i64 0] (s, 0, 0) :: [blk b1 (sumC [] n0 n0 n0 n0 n0 n0) 90]) := sA.new hB.fr ⟨hB.blk, rfl, rfl, rfl, Nat.zero_le _, hs⟩ fun i hi => by
    have : i = b2 := hi
    have := hB.eq
    omega
  have sC : Sym H no C (rq b3 b2 ps [.string s, .int .i64 0, .int .i64 0] (s, 0, 0) [blk b1 (sumC [] n0 n0 n0 n0 n0 n0) 90]) := sB.newb (cs := [.slice ps.a ps.n ps.c, .pointer (some ⟨b2, 0, none⟩)]) hC
  have sE : Sym H no E (rq b3 b2 ps [.string s, .int .i64 0, .int .i64 0] (s, 0, 0) [blk bS (sumC [] n0 n0 n0 n0 n0 n0) 90, blk b1 (sumC [] n0 n0 n0 n0 n0 n0) 90]) := pullq (sC.newb (cs := sumC [] n0 n0 n0 n0 n0 n0) hE)
  have e : readS ts s = (if (rdoneM (sumR ts (s, 0, 0)).2).2 ≠ 0 then (noSum, (rdoneM (sumR ts (s, 0, 0)).2).2) else ((sumR ts (s, 0, 0)).1, 0)) := rfl
  unfold sumR at e
  simp only at e
  refine xrtext_ok hp sE fun F cs1 sF => ⟨_, rfl, ?_⟩
  generalize textR ts (s, 0, 0) = x1 at *
  refine sF.stb (k := 2) (i := 0) rfl (by simp) rfl fun G sG => ?_
  replace sG : Sym H no G (rq b3 b2 ps cs1 x1.2 [blk bS (sumC x1.1 n0 n0 n0 n0 n0 n0) 90, blk b1 (sumC [] n0 n0 n0 n0 n0 n0) 90]) := sG
  refine xrtexts_ok hp sG fun I cs2 s1 sI => ⟨_, rfl, ?_⟩
  generalize thR (textR ts) x1.2 = x2 at *
  refine sI.stb (k := 3) (i := 1) rfl (by simp) rfl fun L sL => ?_
  replace sL : Sym H no L (rq b3 b2 ps cs2 x2.2 [arr flL 9 1 s1 x2.1, blk bS (sumC x1.1 s1 n0 n0 n0 n0 n0) 90, blk b1 (sumC [] n0 n0 n0 n0 n0 n0) 90]) := sL
  refine xrtexts_ok hp sL fun M cs3 s2 sM => ⟨_, rfl, ?_⟩
  generalize thR (textR ts) x2.2 = x3 at *
  refine sM.stb (k := 4) (i := 2) rfl (by simp) rfl fun N sN => ?_
  replace sN : Sym H no N (rq b3 b2 ps cs3 x3.2 [arr flL 9 1 s2 x3.1, arr flL 9 1 s1 x2.1, blk bS (sumC x1.1 s1 s2 n0 n0 n0 n0) 90, blk b1 (sumC [] n0 n0 n0 n0 n0 n0) 90]) := sN
  refine xrtexts_ok hp sN fun O cs4 s3 sO => ⟨_, rfl, ?_⟩
  generalize thR (textR ts) x3.2 = x4 at *
  refine sO.stb (k := 5) (i := 3) rfl (by simp) rfl fun P sP => ?_
  replace sP : Sym H no P (rq b3 b2 ps cs4 x4.2 [arr flL 9 1 s3 x4.1, arr flL 9 1 s2 x3.1, arr flL 9 1 s1 x2.1, blk bS (sumC x1.1 s1 s2 s3 n0 n0 n0) 90, blk b1 (sumC [] n0 n0 n0 n0 n0 n0) 90]) := sP
  have sP' : Sym H no P (rq b3 b2 ps cs4 x4.2 (blk bS (sumC x1.1 s1 s2 s3 n0 n0 n0) 90 :: blk b1 (sumC [] n0 n0 n0 n0 n0 n0) 90 :: [arr flL 9 1 s3 x4.1, arr flL 9 1 s2 x3.1, arr flL 9 1 s1 x2.1])) := sP.re [0, 1, 5, 6, 2, 3, 4] (by decide)
  have hRows : ∀ {A : Hp} {L1 : List It}, Sym H no A (L1 ++ [arr flL 9 1 s3 x4.1, arr flL 9 1 s2 x3.1, arr flL 9 1 s1 x2.1]) → Rd flL 1 A s3 x4.1 ∧ Rd flL 1 A s2 x3.1 ∧ Rd flL 1 A s1 x2.1 := by
    intro A L1 hA
    have h3 := hA.sub (List.sublist_append_right L1 _)
    exact ⟨h3.rd (k := 0) FlL (by decide) rfl, h3.rd (k := 1) FlL (by decide) rfl, h3.rd (k := 2) FlL (by decide) rfl⟩
  clear sP
  generalize ([arr flL 9 1 s3 x4.1, arr flL 9 1 s2 x3.1, arr flL 9 1 s1 x2.1] : List It) = L3 at *
  refine xrmany_ok sP' fun Q cs5 sQ => ⟨_, rfl, ?_⟩
  unfold thR at e
  have hm5 := many_le x4.2
  generalize manyR x4.2 = m5 at *
  obtain ⟨n5, q5⟩ := m5
  simp only at sQ hm5 e ⊢
  refine ⟨fun A => ∃ cs5 s4 hs5 ps5, Rel HO.of ObjD.marks hs5 (thN (objR ts) n5 q5 []).1 ps5 ∧ Sym H no A (rq b3 b2 ps cs5 (thN (objR ts) n5 q5 []).2 (blk bS (sumC x1.1 s1 s2 s3 s4 n0 n0) 90 :: arr flHO 128 3 s4 hs5 :: rdsI flM 2 ps5 :: blk b1 (sumC [] n0 n0 n0 n0 n0 n0) 90 :: L3)), ?_, ?_⟩
  rotate_left
  · -- the objects
    refine ⟨fun i C m => ∃ (j : Nat) (cs6 : List Value) (r3 : Rr) (acc : List ObjD) (s4 : Sl) (hs : List HO) (pp : List (Sl × List Mk)), i = (j : Int) ∧ j ≤ n5 ∧ m = n5 - j ∧ acc.length = j ∧ Rel HO.of ObjD.marks hs acc pp ∧ Sym H no C (rq b3 b2 ps cs6 r3 (blk bS (sumC x1.1 s1 s2 s3 s4 n0 n0) 90 :: arr flHO 128 3 s4 hs :: rdsI flM 2 pp :: blk b1 (sumC [] n0 n0 n0 n0 n0 n0) 90 :: L3)) ∧ thN (objR ts) (n5 - j) r3 acc = thN (objR ts) n5 q5 [],
      ⟨_, 0, cs5, q5, [], n0, [], [], rfl, Nat.zero_le _, rfl, rfl, ⟨rfl, by simp⟩, ?_, rfl⟩, ?_⟩
    · exact ((sQ.nilrds flM 2).nilrow flHO 128 3).perm pm5
    rintro i C m ⟨j, cs6, r3, acc, s4, hs, pp, rfl, hj, rfl, hacc, hrel, sC, he⟩ scr1
    refine ⟨fun C' => C' = C ∧ j < n5 ∧ r3.2.2 = 0, ?_, ?_⟩
    · rintro _ ⟨rfl, hjn, h0⟩ scr2
      have en : n5 - j = (n5 - (j + 1)) + 1 := by omega
      rw [en, thN_go h0] at he
      refine ⟨s4, sC.ld (k := 2) rfl 4, xrobject_ok hp sC fun D cs7 si sD => ⟨_, _, si, rfl, sD.ld (k := 3) rfl 4, fun b6 G hG => ?_⟩⟩
      have sG := sD.more hG.fr
      have hl : s4.n = hs.length := (sD.rd (k := 4) FlHO (by decide) rfl).len
      have hh := hrel.1
      refine ⟨sG.ld (k := 3) rfl 4, ?_⟩
      refine sD.app1 (k := 4) (x := HO.of (objR ts r3).1 si) tyObj FlHO (by decide) hG rfl (by omega) fun ap N hap sN => ?_
      refine sN.stb (k := 3) (i := 4) rfl (by simp) rfl fun O' sO' => ?_
      replace sO' : Sym H no O' (rq b3 b2 ps cs7 (objR ts r3).2 (arr flM 174 2 si (objR ts r3).1.marks :: blk bS (sumC x1.1 s1 s2 s3 ap n0 n0) 90 :: arr flHO 128 3 ap (hs ++ [HO.of (objR ts r3).1 si]) :: rdsI flM 2 pp :: blk b1 (sumC [] n0 n0 n0 n0 n0 n0) 90 :: L3)) := sO'
      have sX := (sO'.perm (l := _) (R := arr flM 174 2 si (objR ts r3).1.marks :: rdsI flM 2 pp :: (rq b3 b2 ps cs7 (objR ts r3).2 (blk bS (sumC x1.1 s1 s2 s3 ap n0 n0) 90 :: arr flHO 128 3 ap (hs ++ [HO.of (objR ts r3).1 si]) :: blk b1 (sumC [] n0 n0 n0 n0 n0 n0) 90 :: L3))) ((List.perm_middle (l₁ := [_, _])).trans ((List.perm_middle (l₁ := [_, _, _, _])).cons _))).inrds FlM (by decide)
      have sY : Sym H no O' (rq b3 b2 ps cs7 (objR ts r3).2 (blk bS (sumC x1.1 s1 s2 s3 ap n0 n0) 90 :: arr flHO 128 3 ap (hs ++ [HO.of (objR ts r3).1 si]) :: rdsI flM 2 ((si, (objR ts r3).1.marks) :: pp) :: blk b1 (sumC [] n0 n0 n0 n0 n0 n0) 90 :: L3)) := sX.perm (List.perm_middle (l₁ := [_, _, _, _])).symm
      exact ⟨n5 - (j + 1), by omega, j + 1, cs7, (objR ts r3).2, acc ++ [(objR ts r3).1], ap, _, _, wi (by omega), hjn, rfl, by simp [hacc], hrel.snoc _ si, sY, he⟩
    · refine ⟨fun hlt => ?_, fun hge => ?_⟩
      · have hjn : j < n5 := by have := dlt hlt; omega
        refine ⟨_, ldQ sC, _, (rdQ sC).ld2, fun hy => ?_, fun hy => ?_⟩
        · exact ⟨rfl, hjn, by simpa using hy⟩
        · have h0 : r3.2.2 ≠ 0 := by simpa using hy
          rw [thN_err h0] at he
          rw [← he]
          exact ⟨_, _, _, _, hrel, sC⟩
      · have hjn : n5 = j := by have := dge hge; omega
        have he' : (acc, r3) = thN (objR ts) n5 q5 [] := by rw [hjn, Nat.sub_self] at he; rw [hjn]; exact he
        rw [← he']
        exact ⟨_, _, _, _, hrel, sC⟩
  rintro Q5 ⟨cs6, s4, hs5, ps5, rel5, sQ5⟩ scr5
  generalize thN (objR ts) n5 q5 [] = x5 at *
  have sQ6 : Sym H no Q5 (rq b3 b2 ps cs6 x5.2 (blk bS (sumC x1.1 s1 s2 s3 s4 n0 n0) 90 :: blk b1 (sumC [] n0 n0 n0 n0 n0 n0) 90 :: arr flHO 128 3 s4 hs5 :: rdsI flM 2 ps5 :: L3)) := sQ5.perm ((((List.perm_middle (l₁ := [_, _])).cons _).cons _).cons _)
  clear sQ5 sQ hm5
  have hRow5 : ∀ {A : Hp} {L1 : List It}, Sym H no A (L1 ++ (arr flHO 128 3 s4 hs5 :: rdsI flM 2 ps5 :: L3)) → RdO A s4 x5.1 ∧ Rd flL 1 A s3 x4.1 ∧ Rd flL 1 A s2 x3.1 ∧ Rd flL 1 A s1 x2.1 := by
    intro A L1 hA
    have h3 := hA.sub (List.sublist_append_right L1 _)
    exact ⟨rel_objs rel5 (h3.rd (k := 0) FlHO (by decide) rfl) (h3.get (k := 1) rfl), hRows (L1 := []) h3.drop.drop⟩
  clear hRows
  generalize (arr flHO 128 3 s4 hs5 :: rdsI flM 2 ps5 :: L3) = L5 at *
  refine xrmany_ok sQ6 fun Q cs5 sQ => ⟨_, rfl, ?_⟩
  have hm5 := many_le x5.2
  generalize manyR x5.2 = m5 at *
  obtain ⟨n5, q5⟩ := m5
  simp only at sQ hm5 e ⊢
  refine ⟨fun A => ∃ cs5 s5, Sym H no A (rq b3 b2 ps cs5 (thN (fnR ts) n5 q5 []).2 (blk bS (sumC x1.1 s1 s2 s3 s4 s5 n0) 90 :: arr flF 132 3 s5 (thN (fnR ts) n5 q5 []).1 :: blk b1 (sumC [] n0 n0 n0 n0 n0 n0) 90 :: L5)), ?_, ?_⟩
  rotate_left
  · -- the functions
    refine ⟨fun i C m => ∃ (j : Nat) (cs6 : List Value) (r3 : Rr) (acc : List FnD) (s5 : Sl), i = (j : Int) ∧ j ≤ n5 ∧ m = n5 - j ∧ acc.length = j ∧ Sym H no C (rq b3 b2 ps cs6 r3 (blk bS (sumC x1.1 s1 s2 s3 s4 s5 n0) 90 :: arr flF 132 3 s5 acc :: blk b1 (sumC [] n0 n0 n0 n0 n0 n0) 90 :: L5)) ∧ thN (fnR ts) (n5 - j) r3 acc = thN (fnR ts) n5 q5 [],
      ⟨_, 0, cs5, q5, [], n0, rfl, Nat.zero_le _, rfl, rfl, ?_, rfl⟩, ?_⟩
    · exact (sQ.nilrow flF 132 3).perm pm4
    rintro i C m ⟨j, cs6, r3, acc, s5, rfl, hj, rfl, hacc, sC, he⟩ scr1
    refine ⟨fun C' => C' = C ∧ j < n5 ∧ r3.2.2 = 0, ?_, ?_⟩
    · rintro _ ⟨rfl, hjn, h0⟩ scr2
      have en : n5 - j = (n5 - (j + 1)) + 1 := by omega
      rw [en, thN_go h0] at he
      refine xrtext_ok hp sC fun D cs7 sD => ⟨_, rfl, fun bF E hE => ?_⟩
      generalize hy1 : textR ts r3 = y1 at *
      have sE := pullq (sD.newb (cs := [.string (str []), .string (str []), .string (str [])]) hE)
      refine sE.stbs (k := 2) (i := 0) (vs := [.string (str y1.1), .string (str []), .string (str [])]) rfl (by simp) (by intro v hv; exact FlF.one ⟨y1.1, [], []⟩ v hv) fun F sF => ?_
      replace sF : Sym H no F (rq b3 b2 ps cs7 y1.2 (blk bF [.string (str y1.1), .string (str []), .string (str [])] 132 :: blk bS (sumC x1.1 s1 s2 s3 s4 s5 n0) 90 :: arr flF 132 3 s5 acc :: blk b1 (sumC [] n0 n0 n0 n0 n0 n0) 90 :: L5)) := sF
      refine xrtext_ok hp sF fun G cs8 sG => ⟨_, rfl, ?_⟩
      generalize hy2 : textR ts y1.2 = y2 at *
      refine sG.stb (k := 2) (i := 1) rfl (by simp) rfl fun I sI => ?_
      replace sI : Sym H no I (rq b3 b2 ps cs8 y2.2 (blk bF [.string (str y1.1), .string (str y2.1), .string (str [])] 132 :: blk bS (sumC x1.1 s1 s2 s3 s4 s5 n0) 90 :: arr flF 132 3 s5 acc :: blk b1 (sumC [] n0 n0 n0 n0 n0 n0) 90 :: L5)) := sI
      refine xrtext_ok hp sI fun L cs9 sL => ⟨_, rfl, ?_⟩
      generalize hy3 : textR ts y2.2 = y3 at *
      refine sL.stb (k := 2) (i := 2) rfl (by simp) rfl fun M sM => ?_
      replace sM : Sym H no M (rq b3 b2 ps cs9 y3.2 (blk bF [.string (str y1.1), .string (str y2.1), .string (str y3.1)] 132 :: blk bS (sumC x1.1 s1 s2 s3 s4 s5 n0) 90 :: arr flF 132 3 s5 acc :: blk b1 (sumC [] n0 n0 n0 n0 n0 n0) 90 :: L5)) := sM
      have ef : fnR ts r3 = (⟨y1.1, y2.1, y3.1⟩, y3.2) := by unfold fnR; simp only [hy1, hy2, hy3]
      rw [ef] at he
      refine ⟨s5, sM.ld (k := 3) rfl 5, _, _, _, ⟨sM.ld (k := 2) rfl 0, sM.ld (k := 2) rfl 1, sM.ld (k := 2) rfl 2, trivial⟩, fun b6 N hN => ?_⟩
      have hl : s5.n = acc.length := (sM.rd (k := 4) FlF (by decide) rfl).len
      refine (dropq sM).app1 (k := 3) (x := (⟨y1.1, y2.1, y3.1⟩ : FnD)) tyFn FlF (by decide) hN rfl (by omega) fun ap O hap sO => ?_
      refine sO.stb (k := 2) (i := 5) rfl (by simp) rfl fun P sP => ?_
      exact ⟨n5 - (j + 1), by omega, j + 1, cs9, y3.2, acc ++ [(⟨y1.1, y2.1, y3.1⟩ : FnD)], ap, wi (by omega), hjn, rfl, by simp [hacc], sP, he⟩
    · refine ⟨fun hlt => ?_, fun hge => ?_⟩
      · have hjn : j < n5 := by have := dlt hlt; omega
        refine ⟨_, ldQ sC, _, (rdQ sC).ld2, fun hy => ?_, fun hy => ?_⟩
        · exact ⟨rfl, hjn, by simpa using hy⟩
        · have h0 : r3.2.2 ≠ 0 := by simpa using hy
          rw [thN_err h0] at he
          rw [← he]
          exact ⟨_, _, sC⟩
      · have hjn : n5 = j := by have := dge hge; omega
        have he' : (acc, r3) = thN (fnR ts) n5 q5 [] := by rw [hjn, Nat.sub_self] at he; rw [hjn]; exact he
        rw [← he']
        exact ⟨_, _, sC⟩
  rintro Q6 ⟨cs7, s5, sQ7⟩ scr6
  generalize thN (fnR ts) n5 q5 [] = x6 at *
  have sQ8 : Sym H no Q6 (rq b3 b2 ps cs7 x6.2 (blk bS (sumC x1.1 s1 s2 s3 s4 s5 n0) 90 :: blk b1 (sumC [] n0 n0 n0 n0 n0 n0) 90 :: arr flF 132 3 s5 x6.1 :: L5)) := sQ7.perm ((((List.perm_middle (l₁ := [_])).cons _).cons _).cons _)
  clear sQ7 sQ hm5
  have hRow6 : ∀ {A : Hp} {L1 : List It}, Sym H no A (L1 ++ (arr flF 132 3 s5 x6.1 :: L5)) → Rd flF 3 A s5 x6.1 ∧ RdO A s4 x5.1 ∧ Rd flL 1 A s3 x4.1 ∧ Rd flL 1 A s2 x3.1 ∧ Rd flL 1 A s1 x2.1 := by
    intro A L1 hA
    have h3 := hA.sub (List.sublist_append_right L1 _)
    exact ⟨h3.rd (k := 0) FlF (by decide) rfl, hRow5 (L1 := []) h3.drop⟩
  clear hRow5
  generalize (arr flF 132 3 s5 x6.1 :: L5) = L6 at *
  refine xrmany_ok sQ8 fun Q cs5 sQ => ⟨_, rfl, ?_⟩
  have hm5 := many_le x6.2
  generalize manyR x6.2 = m5 at *
  obtain ⟨n5, q5⟩ := m5
  simp only at sQ hm5 e ⊢
  refine ⟨fun A => ∃ cs5 s6 hs7 ps7, Rel HC.of ConD.args hs7 (thN (conR ts) n5 q5 []).1 ps7 ∧ Sym H no A (rq b3 b2 ps cs5 (thN (conR ts) n5 q5 []).2 (blk bS (sumC x1.1 s1 s2 s3 s4 s5 s6) 90 :: arr flHC 136 6 s6 hs7 :: rdsI flL 1 ps7 :: blk b1 (sumC [] n0 n0 n0 n0 n0 n0) 90 :: L6)), ?_, ?_⟩
  rotate_left
  · -- the constraints
    refine ⟨fun i C m => ∃ (j : Nat) (cs6 : List Value) (r3 : Rr) (acc : List ConD) (s6 : Sl) (hs : List HC) (pp : List (Sl × List L8)), i = (j : Int) ∧ j ≤ n5 ∧ m = n5 - j ∧ acc.length = j ∧ Rel HC.of ConD.args hs acc pp ∧ Sym H no C (rq b3 b2 ps cs6 r3 (blk bS (sumC x1.1 s1 s2 s3 s4 s5 s6) 90 :: arr flHC 136 6 s6 hs :: rdsI flL 1 pp :: blk b1 (sumC [] n0 n0 n0 n0 n0 n0) 90 :: L6)) ∧ thN (conR ts) (n5 - j) r3 acc = thN (conR ts) n5 q5 [],
      ⟨_, 0, cs5, q5, [], n0, [], [], rfl, Nat.zero_le _, rfl, rfl, ⟨rfl, by simp⟩, ?_, rfl⟩, ?_⟩
    · exact ((sQ.nilrds flL 1).nilrow flHC 136 6).perm pm5
    rintro i C m ⟨j, cs6, r3, acc, s6, hs, pp, rfl, hj, rfl, hacc, hrel, sC, he⟩ scr1
    generalize hM : blk b1 (sumC [] n0 n0 n0 n0 n0 n0) 90 = itM at *
    refine ⟨fun C' => C' = C ∧ j < n5 ∧ r3.2.2 = 0, ?_, ?_⟩
    · rintro _ ⟨rfl, hjn, h0⟩ scr2
      have en : n5 - j = (n5 - (j + 1)) + 1 := by omega
      rw [en, thN_go h0] at he
      refine ⟨_, ldQ sC, qnum sC fun D cs7 sD => ⟨_, rfl, fun bF E hE => ?_⟩⟩
      generalize hy1 : numM r3 = y1 at *
      have sE := pullq (sD.newb (cs := [.int .i64 0, .string (str []), .string (str []), .int .i64 0, .string (str []), .slice none 0 0]) hE)
      generalize hT : (arr flHC 136 6 s6 hs :: rdsI flL 1 pp :: itM :: L6) = LT at *
      refine sE.stbs (k := 2) (i := 0) (vs := [.int .i64 (y1.1 : Int), .string (str []), .string (str []), .int .i64 0, .string (str []), .slice none 0 0]) rfl (by simp) (by intro v hv; exact FlHC.one (y1.1, [], [], 0, [], ⟨none, 0, 0⟩) v hv) fun F sF => ?_
      replace sF : Sym H no F (rq b3 b2 ps cs7 y1.2 (blk bF [.int .i64 (y1.1 : Int), .string (str []), .string (str []), .int .i64 0, .string (str []), .slice none 0 0] 136 :: blk bS (sumC x1.1 s1 s2 s3 s4 s5 s6) 90 :: LT)) := sF
      refine xrtext_ok hp sF fun G cs8 sG => ⟨_, rfl, ?_⟩
      generalize hy2 : textR ts y1.2 = y2 at *
      refine sG.stb (k := 2) (i := 1) rfl (by simp) rfl fun I sI => ?_
      replace sI : Sym H no I (rq b3 b2 ps cs8 y2.2 (blk bF [.int .i64 (y1.1 : Int), .string (str y2.1), .string (str []), .int .i64 0, .string (str []), .slice none 0 0] 136 :: blk bS (sumC x1.1 s1 s2 s3 s4 s5 s6) 90 :: LT)) := sI
      refine xrtext_ok hp sI fun L cs9 sL => ⟨_, rfl, ?_⟩
      generalize hy3 : textR ts y2.2 = y3 at *
      refine sL.stb (k := 2) (i := 2) rfl (by simp) rfl fun M sM => ?_
      replace sM : Sym H no M (rq b3 b2 ps cs9 y3.2 (blk bF [.int .i64 (y1.1 : Int), .string (str y2.1), .string (str y3.1), .int .i64 0, .string (str []), .slice none 0 0] 136 :: blk bS (sumC x1.1 s1 s2 s3 s4 s5 s6) 90 :: LT)) := sM
      refine ⟨_, ldQ sM, qnum sM fun N cs10 sN => ⟨_, rfl, ?_⟩⟩
      generalize hy4 : numM y3.2 = y4 at *
      refine sN.stb (k := 2) (i := 3) rfl (by simp) rfl fun O sO => ?_
      replace sO : Sym H no O (rq b3 b2 ps cs10 y4.2 (blk bF [.int .i64 (y1.1 : Int), .string (str y2.1), .string (str y3.1), .int .i64 (y4.1 : Int), .string (str []), .slice none 0 0] 136 :: blk bS (sumC x1.1 s1 s2 s3 s4 s5 s6) 90 :: LT)) := sO
      refine xrtext_ok hp sO fun P cs11 sP => ⟨_, rfl, ?_⟩
      generalize hy5 : textR ts y4.2 = y5 at *
      refine sP.stb (k := 2) (i := 4) rfl (by simp) rfl fun S sS => ?_
      replace sS : Sym H no S (rq b3 b2 ps cs11 y5.2 (blk bF [.int .i64 (y1.1 : Int), .string (str y2.1), .string (str y3.1), .int .i64 (y4.1 : Int), .string (str y5.1), .slice none 0 0] 136 :: blk bS (sumC x1.1 s1 s2 s3 s4 s5 s6) 90 :: LT)) := sS
      refine xrtexts_ok hp sS fun T cs12 sg sT => ⟨_, rfl, ?_⟩
      generalize hy6 : thR (textR ts) y5.2 = y6 at *
      refine sT.stb (k := 3) (i := 5) rfl (by simp) rfl fun U sU => ?_
      subst hT
      replace sU : Sym H no U (rq b3 b2 ps cs12 y6.2 (arr flL 9 1 sg y6.1 :: blk bF [.int .i64 (y1.1 : Int), .string (str y2.1), .string (str y3.1), .int .i64 (y4.1 : Int), .string (str y5.1), .slice sg.a sg.n sg.c] 136 :: blk bS (sumC x1.1 s1 s2 s3 s4 s5 s6) 90 :: arr flHC 136 6 s6 hs :: rdsI flL 1 pp :: itM :: L6)) := sU
      have ef : conR ts r3 = (⟨y1.1, y2.1, y3.1, y4.1, y5.1, y6.1⟩, y6.2) := by unfold conR; simp only [hy1, hy2, hy3, hy4, hy5, hy6]
      rw [ef] at he
      refine ⟨s6, sU.ld (k := 4) rfl 6, _, _, _, _, _, sg, ⟨sU.ld (k := 3) rfl 0, sU.ld (k := 3) rfl 1, sU.ld (k := 3) rfl 2, sU.ld (k := 3) rfl 3, sU.ld (k := 3) rfl 4, sU.ld (k := 3) rfl 5, trivial⟩, fun b6 V hV => ?_⟩
      have hl : s6.n = hs.length := (sU.rd (k := 5) FlHC (by decide) rfl).len
      have hh := hrel.1
      refine (dropq2 sU).app1 (k := 4) (x := HC.of ⟨y1.1, y2.1, y3.1, y4.1, y5.1, y6.1⟩ sg) tyCon FlHC (by decide) hV rfl (by omega) fun ap W hap sW => ?_
      refine sW.stb (k := 3) (i := 6) rfl (by simp) rfl fun X sX => ?_
      replace sX : Sym H no X (rq b3 b2 ps cs12 y6.2 (arr flL 9 1 sg y6.1 :: blk bS (sumC x1.1 s1 s2 s3 s4 s5 ap) 90 :: arr flHC 136 6 ap (hs ++ [HC.of ⟨y1.1, y2.1, y3.1, y4.1, y5.1, y6.1⟩ sg]) :: rdsI flL 1 pp :: itM :: L6)) := sX
      have sY := (sX.perm (l := _) (R := arr flL 9 1 sg y6.1 :: rdsI flL 1 pp :: (rq b3 b2 ps cs12 y6.2 (blk bS (sumC x1.1 s1 s2 s3 s4 s5 ap) 90 :: arr flHC 136 6 ap (hs ++ [HC.of ⟨y1.1, y2.1, y3.1, y4.1, y5.1, y6.1⟩ sg]) :: itM :: L6))) ((List.perm_middle (l₁ := [_, _])).trans ((List.perm_middle (l₁ := [_, _, _, _])).cons _))).inrds FlL (by decide)
      have sZ : Sym H no X (rq b3 b2 ps cs12 y6.2 (blk bS (sumC x1.1 s1 s2 s3 s4 s5 ap) 90 :: arr flHC 136 6 ap (hs ++ [HC.of ⟨y1.1, y2.1, y3.1, y4.1, y5.1, y6.1⟩ sg]) :: rdsI flL 1 ((sg, y6.1) :: pp) :: itM :: L6)) := sY.perm (List.perm_middle (l₁ := [_, _, _, _])).symm
      exact ⟨n5 - (j + 1), by omega, j + 1, cs12, y6.2, acc ++ [⟨y1.1, y2.1, y3.1, y4.1, y5.1, y6.1⟩], ap, _, _, wi (by omega), hjn, rfl, by simp [hacc], hrel.snoc _ sg, sZ, he⟩
    · refine ⟨fun hlt => ?_, fun hge => ?_⟩
      · have hjn : j < n5 := by have := dlt hlt; omega
        refine ⟨_, ldQ sC, _, (rdQ sC).ld2, fun hy => ?_, fun hy => ?_⟩
        · exact ⟨rfl, hjn, by simpa using hy⟩
        · have h0 : r3.2.2 ≠ 0 := by simpa using hy
          rw [thN_err h0] at he
          rw [← he]
          exact ⟨_, _, _, _, hrel, sC⟩
      · have hjn : n5 = j := by have := dge hge; omega
        have he' : (acc, r3) = thN (conR ts) n5 q5 [] := by rw [hjn, Nat.sub_self] at he; rw [hjn]; exact he
        rw [← he']
        exact ⟨_, _, _, _, hrel, sC⟩
  rintro U ⟨cs8, s6, hs7, ps7, rel7, sU⟩ scr7
  generalize thN (conR ts) n5 q5 [] = x7 at *
  refine ⟨_, ldQ sU, Q02R.qdone_ok (rdQ sU) ⟨_, _, rfl, fun h0 => ?_, fun h0 => ?_⟩⟩
  · have h0' : (rdoneM x7.2).2 ≠ 0 := by simpa using h0
    rw [if_pos h0'] at e
    rw [e] at k
    refine sU.stbs (k := 5) (i := 0) (vs := sumC [] n0 n0 n0 n0 n0 n0) rfl (by simp) (sumC1 _ _ _ _ _ _ _) fun W sW => ?_
    replace sW : Sym H no W (rq b3 b2 ps cs8 x7.2 (blk bS (sumC x1.1 s1 s2 s3 s4 s5 s6) 90 :: arr flHC 136 6 s6 hs7 :: rdsI flL 1 ps7 :: blk b1 (sumC [] n0 n0 n0 n0 n0 n0) 90 :: L6)) := sW
    exact ⟨_, n0, n0, n0, n0, n0, n0, ld_sumC sW (k := 5) rfl, k W n0 n0 n0 n0 n0 n0 sW.fr rd_nil⟩
  · have h0' : ¬ (rdoneM x7.2).2 ≠ 0 := by simpa using h0
    rw [if_neg h0'] at e
    rw [e] at k
    refine ⟨_, s1, s2, s3, s4, s5, s6, ld_sumC sU (k := 2) rfl, ?_⟩
    refine sU.stbs (k := 5) (i := 0) (vs := sumC x1.1 s1 s2 s3 s4 s5 s6) rfl (by simp) (sumC1 _ _ _ _ _ _ _) fun W sW => ?_
    replace sW : Sym H no W (rq b3 b2 ps cs8 x7.2 (blk bS (sumC x1.1 s1 s2 s3 s4 s5 s6) 90 :: arr flHC 136 6 s6 hs7 :: rdsI flL 1 ps7 :: blk b1 (sumC x1.1 s1 s2 s3 s4 s5 s6) 90 :: L6)) := sW
    obtain ⟨g5, g4, g3, g2, g1⟩ := hRow6 (L1 := [_, _, _, _, _, _]) sW
    exact ⟨_, s1, s2, s3, s4, s5, s6, ld_sumC sW (k := 5) rfl, k W s1 s2 s3 s4 s5 s6 sW.fr ⟨g1, g2, g3, ⟨g4, g5, rel_cons rel7 (sW.rd (k := 3) FlHC (by decide) rfl) (sW.get (k := 4) rfl)⟩⟩⟩
end Go.Proofs.Ytigbdoicgdmliaa.C26U
end
