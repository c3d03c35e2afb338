/- intern.Table over whole numbers: what its methods do. -/
import Derived.Test.YtigbdoicgdmliaaN05
import Derived.Test.YtigbdoicgdmliaaV15
set_option linter.unusedVariables false
set_option linter.unusedSimpArgs false
-- tInt: 3
-- tE: 3
-- tTs: 22
-- tInts: 22
-- tBool: 4
-- put: 53
-- find: 56
-- atF: 55
-- place: 97
-- place1: 132
-- bs: 131
-- cmp: 133
-- nan: 147
-- clone: 52
-- tTab: 32
-- tPTab: 153
-- insert: 98
-- overlaps: 134
-- rot: 135
namespace Go.Proofs.Ytigbdoicgdmliaa.C05I
open Go Go.V Go.Proofs Go.Proofs.Ytigbdoicgdmliaa.N05
attribute [local irreducible] Cvt ExtF CallF hrun
abbrev val (x : Int) : Value := .int .i64 x
abbrev lt (x y : Int) : Bool := decide (x < y)
theorem lin : Lin lt := linI
abbrev Tb := TbS val lt 3 3
abbrev TbT := TbTo val lt 3 3
theorem uInts : Try.prog.underlying 22 = some (.slice 3) := by kernel_rfl
theorem uInt : Try.prog.underlying 3 = some (.int .i64) := by kernel_rfl
theorem uTs : Try.prog.underlying 22 = some (.slice 3) := by kernel_rfl
theorem info_of {x : Option TypeInfo} {z : Option Value} {a b : Nat} (h : (x.map fun i => (i.zero, i.size, i.bytes)) = some (z, a, b)) : ∃ inf : TypeInfo, x = some inf ∧ inf.zero = z ∧ inf.size = a ∧ inf.bytes = b := by
  cases x with
  | none => cases h
  | some i =>
    simp only [Option.map_some, Option.some.injEq, Prod.mk.injEq] at h
    exact ⟨i, rfl, h.1, h.2.1, h.2.2⟩
theorem iInt : ∃ inf : TypeInfo, Try.prog.info? 3 = some inf ∧ inf.zero = some (.int .i64 0) ∧ inf.size = 1 ∧ inf.bytes = 8 := info_of (by kernel_rfl)
theorem iE : ∃ inf : TypeInfo, Try.prog.info? 3 = some inf ∧ inf.zero = some (.int .i64 0) ∧ inf.size = 1 ∧ inf.bytes = 8 := info_of (by kernel_rfl)

section
variable {H : Hp} {b o : Nat} {T : TypeId} {cs : List Value} {ts : List Int} {os : List Nat}
theorem nan_ok {x : Int} {K : Value → Hp → Prop} {Z : List PanicEntry → Hp → Prop} (k : K (.bool false) H) : CallF Try.prog 147 #[.int .i64 x] H K Z := by
  refine V147_ok ?_
  unfold V147
  rw [show (x != x) = false from by simp]
  exact k
theorem cmp_ok {x y : Int} {K : Value → Hp → Prop} {Z : List PanicEntry → Hp → Prop} (k : K (.int .i64 (cmpT lt x y)) H) : CallF Try.prog 133 #[.int .i64 x, .int .i64 y] H K Z := by
  refine V133_ok ?_
  unfold V133
  refine nan_ok ⟨_, rfl, nan_ok ⟨_, rfl, (fun h => by cases h), fun _ => ⟨(fun h => by cases h), fun _ => ?_⟩⟩⟩
  unfold cmpT at k
  refine ⟨fun h1 => ?_, fun h1 => ?_⟩
  · have h1' : lt x y = true := h1
    rw [if_pos h1'] at k
    exact k
  · have h1' : ¬ lt x y = true := by
      have : lt x y = false := h1
      rw [this]
      decide
    rw [if_neg h1'] at k
    refine ⟨fun h2 => ?_, fun h2 => ?_⟩
    · have h2' : lt y x = true := by
        exact h2
      rw [if_pos h2'] at k
      exact k
    · have h2' : ¬ lt y x = true := by
        intro h
        have h3 : y < x := of_decide_eq_true h
        have h4 : ¬ x > y := of_decide_eq_false h2
        exact h4 h3
      rw [if_neg h2'] at k
      exact k
theorem okP1 : fnOk Try.prog 132 = true := by kernel_rfl
theorem place_ok {x : Int} {K : Value → Hp → Prop} {Z : List PanicEntry → Hp → Prop} (h : Tb H b o T cs ts os) (hbig : ts.length ≤ 1000000000)
    (k : ∀ p H', Split os.length (cAt lt ts os x) p → Fr no H H' → K (.tuple #[.int .i64 (p : Int), .bool (decide (p < os.length) && (cAt lt ts os x p == 0))]) H') : CallF Try.prog 97 #[.pointer (some ⟨b, o, none⟩), .int .i64 x] H K Z := by
  refine V97_ok ?_
  unfold V97
  intro bT A hn
  have hA : Tb A b o T cs ts os := h.keep (S := no) hn.fr (fun h => h) (fun _ _ h => h)
  obtain ⟨s1, s2, c1, c2, _⟩ := h.rows
  have hT := hn.get
  have hld : hcell A ⟨bT, 0, none⟩ = some (.pointer (some ⟨b, o, none⟩)) := by
    unfold hcell
    simp only [hT, Option.isSome_none, Bool.false_eq_true, if_false]
    rfl
  have hb1 : hcell A (Addr.add ⟨b, o, none⟩ 1) = some (.slice s2.a s2.n s2.c) := by rw [add_mk, hA.blk.ld]; exact c2
  have hb0 : hcell A ⟨b, o, none⟩ = some (.slice s1.a s1.n s1.c) := by rw [hA.blk.ld]; exact c1
  obtain ⟨n1, e1⟩ := hA.thing c1
  obtain ⟨n2, e2⟩ := hA.order c2
  have hlen := h.ok.len
  have hbs : BsV Try.prog A s2 (.int .i64 x) (.func (.func 132) #[] #[.pointer (some ⟨bT, 0, none⟩)]) (fun r H2 => ∃ y_0 : Int, ∃ y_1 : Bool, r = .tuple #[.int .i64 y_0, .bool y_1] ∧ K (.tuple #[.int .i64 y_0, .bool y_1]) H2) Z := ?_
  · refine ⟨_, hld, s2, hb1, V131_ok ?_⟩
    unfold BsV at hbs
    unfold V131
    exact hbs
  refine bs_ok (xs := os.map fun (k : Nat) => (k : Int)) (c := cAt lt ts os x) (by rw [List.length_map]; exact n2) (by omega) ?_ ?_ ?_ ?_
  · intro i v hv
    rw [List.getElem?_map] at hv
    cases hk : os[i]? with
    | none => rw [hk] at hv; cases hv
    | some k' =>
      rw [hk] at hv
      simp only [Option.map_some, Option.some.injEq] at hv
      subst hv
      exact e2 i k' hk
  · intro i v K' hv hK
    rw [List.getElem?_map] at hv
    cases hk : os[i]? with
    | none => rw [hk] at hv; cases hv
    | some k' =>
      rw [hk] at hv
      simp only [Option.map_some, Option.some.injEq] at hv
      subst hv
      have hk' := h.ok.ltn hk
      have hx : ts[k']? = some ts[k'] := List.getElem?_eq_getElem hk'
      unfold callV
      simp only [okP1, if_true]
      refine V132_ok ?_
      unfold V132
      obtain ⟨ad, ha, hc⟩ := e1 _ _ hx
      refine ⟨_, hld, s1, hb0, ad, ha, ⟨by omega, by omega⟩, _, by rw [Int.toNat_natCast]; exact hc, ?_⟩
      refine cmp_ok ?_
      refine ⟨_, rfl, ?_⟩
      rw [cAt_eq hk hx] at hK
      exact hK
  · intro i j hij hj
    rw [n2] at hj
    exact h.ok.mono lin x i j hij hj
  · intro p hp
    rw [n2] at hp ⊢
    exact ⟨_, _, rfl, k p A hp hn.fr⟩

/-- a thing's number, or none -/
theorem find_ok {x : Int} {K : Value → Hp → Prop} {Z : List PanicEntry → Hp → Prop} (h : Tb H b o T cs ts os) (hbig : ts.length ≤ 1000000000)
    (k1 : ∀ (n : Nat) H', ts[n]? = some x → Fr no H H' → K (.tuple #[.int .i64 (n : Int), .bool true]) H') (k2 : ∀ H', x ∉ ts → Fr no H H' → K (.tuple #[.int .i64 0, .bool false]) H') :
    CallF Try.prog 56 #[.pointer (some ⟨b, o, none⟩), .int .i64 x] H K Z := by
  refine V56_ok ?_
  unfold V56
  refine place_ok h hbig ?_
  intro p A hp hf
  have hA : Tb A b o T cs ts os := h.keep hf (fun h => h) (fun _ _ h => h)
  obtain ⟨s1, s2, c1, c2, _⟩ := h.rows
  obtain ⟨n2, e2⟩ := hA.order c2
  refine ⟨_, _, rfl, fun hno => ?_, fun hyes => ?_⟩
  · refine k2 A (h.ok.miss lin hp ?_) hf
    rintro ⟨h1, h2⟩
    rw [decide_eq_true h1, h2] at hno
    simp at hno
  · have hy : p < os.length ∧ cAt lt ts os x p = 0 := by simpa using hyes
    obtain ⟨n, h1, h2⟩ := h.ok.hit lin hy.1 hy.2
    obtain ⟨ad, ha, hc⟩ := e2 _ _ h1
    exact ⟨s2, by rw [add_mk, hA.blk.ld]; exact c2, ad, ha, ⟨by omega, by omega⟩, _, by rw [Int.toNat_natCast]; exact hc, k1 n A h2 hf⟩
theorem at_ok {n : Int} {K : Value → Hp → Prop} {Z : List PanicEntry → Hp → Prop} (h : Tb H b o T cs ts os)
    (k1 : ∀ x, 0 ≤ n → ts[n.toNat]? = some x → K (.tuple #[.int .i64 x, .bool true]) H) (k2 : (n < 0 ∨ (ts.length : Int) ≤ n) → K (.tuple #[.int .i64 0, .bool false]) H) :
    CallF Try.prog 55 #[.pointer (some ⟨b, o, none⟩), .int .i64 n] H K Z := by
  refine V55_ok ?_
  unfold V55
  obtain ⟨s1, s2, c1, c2, _⟩ := h.rows
  obtain ⟨n1, e1⟩ := h.thing c1
  have hb0 : hcell H ⟨b, o, none⟩ = some (.slice s1.a s1.n s1.c) := by rw [h.blk.ld]; exact c1
  refine ⟨fun h0 => k2 (.inl (of_decide_eq_true h0)), fun h0 => ⟨s1, hb0, fun h1 => ?_, fun h1 => ?_⟩⟩
  · have h1' : n ≥ (s1.n : Int) := of_decide_eq_true h1
    exact k2 (.inr (by omega))
  · have h0' : ¬ n < 0 := of_decide_eq_false h0
    have h1' : ¬ n ≥ (s1.n : Int) := of_decide_eq_false h1
    have hx : ts[n.toNat]? = some (ts[n.toNat]'(by omega)) := List.getElem?_eq_getElem (by omega)
    obtain ⟨ad, ha, hc⟩ := e1 _ _ hx
    exact ⟨s1, hb0, ad, ha, ⟨by omega, by omega⟩, _, hc, k1 _ (by omega) hx⟩

theorem ins_call {s : Sl} {xs : List Nat} {i b1 n : Nat} {K : Value → Hp → Prop} {Z : List PanicEntry → Hp → Prop} (hr : Row H 3 1 s (numV xs)) (hnf : Nf H s) (hv : Blk H b1 [.int .i64 (n : Int)] 3) (hne : ¬ own s b1) (hin : i ≤ s.n) (hbig : s.n ≤ 1000000000)
    (k : ∀ s' H', Row H' 3 1 s' (numV (xs.take i ++ [n] ++ xs.drop i)) → Nf H' s' → s'.n = s.n + 1 → Fr (own s) H H' → (∀ j, own s' j → own s j ∨ H.size ≤ j) → K (.slice s'.a s'.n s'.c) H') :
    CallF Try.prog 98 #[.slice s.a s.n s.c, .int .i64 (i : Int), .slice (some ⟨b1, 0, none⟩) 1 1] H K Z := by
  obtain ⟨inf, i1, i2, i3, i4⟩ := iInt
  have hins : InsV Try.prog 22 3 134 135 1 H s (i : Int) ⟨some ⟨b1, 0, none⟩, 1, 1⟩ K Z := by
    refine ins_ok (f := Try.f134) (inf := inf) (ps := #[22, 22]) (rs := #[4]) (z := .int .i64 0) (by kernel_rfl) (by kernel_rfl) (by kernel_rfl) (by kernel_rfl) (by kernel_rfl) rfl uInts uInt i1 i2 (by rw [i3]; rfl) (by rw [i4]; decide) i3 (by decide) hr hnf (numV_one _) hv rfl ?_ hne hin (by rw [i4]; omega) ?_
    · intro v hv'
      simp only [List.mem_singleton] at hv'
      subst hv'
      rfl
    · intro s' H' h1 h2 h3 h4 h5
      refine k s' H' ?_ h2 h3 h4 h5
      rw [Nat.mul_one] at h1
      unfold numV at h1 ⊢
      rw [List.map_append, List.map_append, List.map_take, List.map_drop]
      exact h1
  refine V98_ok (s := s) (i := (i : Int)) (v := ⟨some ⟨b1, 0, none⟩, 1, 1⟩) ?_
  unfold InsV at hins
  unfold V98
  exact hins
/-- a thing is put -/
theorem put_ok {x : Int} {K : Value → Hp → Prop} {Z : List PanicEntry → Hp → Prop} (h : Tb H b o T cs ts os) (hbig : ts.length ≤ 2000000)
    (k1 : ∀ (n : Nat) H', ts[n]? = some x → TbT H H' b o T cs cs ts os → K (.tuple #[.int .i64 (n : Int), .bool false]) H')
    (k2 : ∀ H' cs' os', x ∉ ts → TbT H H' b o T cs cs' (ts ++ [x]) os' → K (.tuple #[.int .i64 (ts.length : Int), .bool true]) H') :
    CallF Try.prog 53 #[.pointer (some ⟨b, o, none⟩), .int .i64 x] H K Z := by
  refine V53_ok ?_
  unfold V53
  refine place_ok h (by omega) ?_
  intro p A hp hf
  have hA : Tb A b o T cs ts os := h.keep hf (fun h => h) (fun _ _ h => h)
  have toA : TbT H A b o T cs cs ts os := TbTo.of_no h hf
  obtain ⟨s1, s2, c1, c2, r1, r2, nf2, ap12⟩ := hA.rows
  obtain ⟨n1, e1⟩ := hA.thing c1
  obtain ⟨n2, e2⟩ := hA.order c2
  have hlen := h.ok.len
  have hb0 : hcell A ⟨b, o, none⟩ = some (.slice s1.a s1.n s1.c) := by rw [hA.blk.ld]; exact c1
  refine ⟨_, _, rfl, fun hyes => ?_, fun hno => ?_⟩
  · have hy : p < os.length ∧ cAt lt ts os x p = 0 := by simpa using hyes
    obtain ⟨n, h1, h2⟩ := h.ok.hit lin hy.1 hy.2
    obtain ⟨ad, ha, hc⟩ := e2 _ _ h1
    exact ⟨s2, by rw [add_mk, hA.blk.ld]; exact c2, ad, ha, ⟨by omega, by omega⟩, _, by rw [Int.toNat_natCast]; exact hc, k1 n A h2 toA⟩
  have hmiss : ¬ (p < os.length ∧ cAt lt ts os x p = 0) := by
    rintro ⟨h1, h2⟩
    rw [decide_eq_true h1, h2] at hno
    simp at hno
  have hnot := h.ok.miss lin hp hmiss
  have hput := h.ok.put lin hp hmiss
  refine ⟨s1, hb0, s1, hb0, ?_⟩
  intro bx B hnB
  have bB : Blk B bx [.int .i64 x] 3 := hnB.blk
  have eB := hnB.eq
  have fB := hnB.fr
  obtain ⟨infE, j1, j2, j3, j4⟩ := iE
  have r1B := r1.keep fB (fun _ _ h => h)
  rw [← j3] at r1B
  refine app_row2 uTs (by intro k; rw [uTs]; simp) ⟨_, uTs⟩ j1 j2 (by rw [j3]; rfl) (by rw [j4]; decide) r1B (Src.blk bB (by rw [j3]; rfl)) ?_ (by rw [j4]; omega) ?_
  · intro v hv'
    simp only [List.mem_singleton] at hv'
    subst hv'
    rfl
  intro sa C rC nC fC oC _
  rw [j3] at rC
  have hbA := hA.blk.lt
  have nob1 : ¬ own s1 b := fun hc => hA.nob ((tOwn_iff c1 c2 b).2 (.inl hc))
  have nob2 : ¬ own s2 b := fun hc => hA.nob ((tOwn_iff c1 c2 b).2 (.inr hc))
  have szB := hnB.size
  have bkC : Blk C b cs T := fC.blk (fB.blk hA.blk fun h => h) nob1
  have ho : o < cs.length := (List.getElem?_eq_some_iff.1 c1).1
  have ho1 : o + 1 < cs.length := (List.getElem?_eq_some_iff.1 c2).1
  refine st_blk bkC ho rfl ?_
  intro D bkD fD szD
  have gD2 : (cs.set o (.slice sa.a sa.n sa.c))[o + 1]? = some (.slice s2.a s2.n s2.c) := by rw [List.getElem?_set_ne (by omega)]; exact c2
  refine ⟨s2, by rw [add_mk, bkD.ld]; exact gD2, ?_⟩
  intro bn E hnE
  have bE : Blk E bn [.int .i64 (s1.n : Int)] 3 := hnE.blk
  have eE := hnE.eq
  have fE := hnE.fr
  have sCB := fC.size
  have lt2 : ∀ i, own s2 i → i < A.size := fun i hi => r2.lt hi
  have lt1 : ∀ i, own s1 i → i < A.size := fun i hi => r1.lt hi
  have ne2 : ∀ i, own s2 i → ¬ own s1 i := fun i h2 h1 => ap12 i h1 h2
  have r2E : Row E 3 1 s2 (numV os) := (((r2.keep fB (fun _ _ h => h)).keep fC ne2).keep fD (fun i hi e => nob2 (e ▸ hi))).keep fE (fun _ _ h => h)
  have nfE : Nf E s2 := (((nf2.keep fB (fun _ _ h => h)).keep fC ne2).keep fD (fun i hi e => nob2 (e ▸ hi))).keep fE (fun _ _ h => h)
  have ple : p ≤ s2.n := by rw [n2]; exact hp.le
  refine ins_call (n := s1.n) r2E nfE bE (fun hc => by have := lt2 _ hc; omega) ple (by omega) ?_
  intro sb F rF nfF nF fF oF
  have sED := fE.size
  have sFE := fF.size
  have bkE : Blk E b _ T := fE.blk bkD fun h => h
  have bkF : Blk F b _ T := fF.blk bkE nob2
  refine ⟨sb, rfl, ?_⟩
  rw [add_mk]
  refine st_blk bkF (by rw [List.length_set]; exact ho1) rfl ?_
  intro G bkG fG szG
  have nsa : ∀ i, own sa i → own s1 i ∨ A.size + 1 ≤ i := by
    intro i hi
    rcases oC i hi with h | h
    · exact .inl h
    · exact .inr (by omega)
  have nsab : ¬ own sa b := by
    intro hc
    rcases nsa b hc with h | h
    · exact nob1 h
    · omega
  have nsa2 : ∀ i, own sa i → ¬ own s2 i := by
    intro i hi h2
    rcases nsa i hi with h | h
    · exact ap12 i h h2
    · have := lt2 i h2; omega
  have nsbb : ¬ own sb b := by
    intro hc
    rcases oF b hc with h | h
    · exact nob2 h
    · omega
  have saltC : ∀ i, own sa i → i < C.size := fun i hi => rC.lt hi
  have rsG : Row G 3 1 sa (ts.map val ++ [.int .i64 x]) := (((rC.keep fD (fun i hi e => nsab (e ▸ hi))).keep fE (fun _ _ h => h)).keep fF nsa2).keep fG (fun i hi e => nsab (e ▸ hi))
  have rbG : Row G 3 1 sb (numV (os.take p ++ [s1.n] ++ os.drop p)) := rF.keep fG (fun i hi e => nsbb (e ▸ hi))
  have nbG : Nf G sb := nfF.keep fG (fun i hi e => nsbb (e ▸ hi))
  rw [n1] at rbG
  have g1 : ((cs.set o (.slice sa.a sa.n sa.c)).set (o + 1) (.slice sb.a sb.n sb.c))[o]? = some (.slice sa.a sa.n sa.c) := by rw [List.getElem?_set_ne (by omega)]; exact List.getElem?_set_self ho
  have g2 : ((cs.set o (.slice sa.a sa.n sa.c)).set (o + 1) (.slice sb.a sb.n sb.c))[o + 1]? = some (.slice sb.a sb.n sb.c) := List.getElem?_set_self (by rw [List.length_set]; exact ho1)
  have apart : ∀ i, own sa i → own sb i → False := by
    intro i ha hb'
    rcases oF i hb' with h | h
    · exact nsa2 i ha h
    · have := saltC i ha
      have := fD.size
      omega
  have hS : Tb G b o T ((cs.set o (.slice sa.a sa.n sa.c)).set (o + 1) (.slice sb.a sb.n sb.c)) (ts ++ [x]) (os.take p ++ [ts.length] ++ os.drop p) := by
    refine ⟨bkG, ⟨sa, sb, g1, g2, by rw [List.map_append]; exact rsG, rbG, nbG, apart⟩, ?_, hput⟩
    intro hc
    rcases (tOwn_iff g1 g2 b).1 hc with h | h
    · exact nsab h
    · exact nsbb h
  have hk := k2 G _ _ hnot (toA.trans ⟨hS, by simp, ?_, ?_, ?_⟩)
  · rw [← n1] at hk
    exact hk
  · intro i h1 h2
    rw [List.getElem?_set_ne (Ne.symm h2), List.getElem?_set_ne (Ne.symm h1)]
  · have q0 : Fr (fun i => i = b ∨ tOwn cs o i) A B := fB.of_no
    refine ((((q0.step fC ?_).step fD ?_).step (fE.of_no (S := no)) ?_).step fF ?_).step fG ?_
    · intro i _ hi; exact .inr ((tOwn_iff c1 c2 i).2 (.inl hi))
    · intro i _ hi; exact .inl hi
    · intro i _ hi; exact hi.elim
    · intro i _ hi; exact .inr ((tOwn_iff c1 c2 i).2 (.inr hi))
    · intro i _ hi; exact .inl hi
  · intro i hi
    rcases (tOwn_iff g1 g2 i).1 hi with h | h
    · rcases nsa i h with h' | h'
      · exact .inl ((tOwn_iff c1 c2 i).2 (.inl h'))
      · exact .inr (by omega)
    · rcases oF i h with h' | h'
      · exact .inl ((tOwn_iff c1 c2 i).2 (.inr h'))
      · have := fD.size
        exact .inr (by omega)

theorem clone_call {s : Sl} {xs : List Nat} {K : Value → Hp → Prop} {Z : List PanicEntry → Hp → Prop} (hr : Row H 3 1 s (numV xs)) (hbig : s.n ≤ 1000000000)
    (k : ∀ s' H', Row H' 3 1 s' (numV xs) → s'.n = s.n → Fr no H H' → (∀ i, own s' i → H.size ≤ i) → K (.slice s'.a s'.n s'.c) H') : CallF Try.prog 52 #[.slice s.a s.n s.c] H K Z := by
  obtain ⟨inf, i1, i2, i3, i4⟩ := iInt
  have hc : CloneV Try.prog 22 3 H s K Z := by
    refine Go.V.clone_ok uInts i1 i2 (by rw [i3]; rfl) (by rw [i4]; decide) (by rw [i3]; exact hr) (numV_one _) (by rw [i4]; omega) ?_
    intro s' H' h1 h2 h3 h4 _
    rw [i3] at h1
    exact k s' H' h1 h2 h3 h4
  refine V52_ok ?_
  unfold CloneV at hc
  unfold V52
  exact hc
theorem tb_nil {A : Hp} {b : Nat} (hb : Blk A b [.slice none 0 0, .slice none 0 0] 32) : Tb A b 0 32 [.slice none 0 0, .slice none 0 0] [] [] := by
  refine ⟨hb, ⟨⟨none, 0, 0⟩, ⟨none, 0, 0⟩, rfl, rfl, Row.nil _ _ _, Row.nil _ _ _, ?_, ?_⟩, ?_, Tbl.nil⟩
  · intro g o e; cases e
  · rintro i ⟨o, e⟩; cases e
  · rintro ⟨off, n, c, e | e⟩ <;> simp at e
theorem tOwn_nil {i : Nat} : ¬ tOwn [.slice none 0 0, .slice none 0 0] 0 i := by
  rintro ⟨off, n, c, e | e⟩ <;> simp at e
theorem mem_put {ts xs : List Int} {j : Nat} {x : Int} (hx : xs[j]? = some x) (hm : ∀ z, z ∈ ts ↔ z ∈ xs.take j) : (x ∈ ts → ∀ z, z ∈ ts ↔ z ∈ xs.take (j + 1)) ∧ (∀ z, z ∈ ts ++ [x] ↔ z ∈ xs.take (j + 1)) := by
  obtain ⟨hj, rfl⟩ := List.getElem?_eq_some_iff.1 hx
  rw [List.take_succ_eq_append_getElem hj]
  refine ⟨fun h z => ?_, fun z => ?_⟩
  · rw [List.mem_append, ← hm z, List.mem_singleton]
    constructor
    · exact .inl
    · rintro (h' | rfl)
      · exact h'
      · exact h
  · rw [List.mem_append, List.mem_append, ← hm z]
end
end Go.Proofs.Ytigbdoicgdmliaa.C05I

