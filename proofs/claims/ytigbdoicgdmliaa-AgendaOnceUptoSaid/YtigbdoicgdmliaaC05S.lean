/- intern.Table over texts: what its methods do. -/
import Derived.Test.YtigbdoicgdmliaaN05
import Derived.Test.YtigbdoicgdmliaaV15
set_option linter.unusedVariables false
set_option linter.unusedSimpArgs false
-- tInt: 3
-- tE: 9
-- tTs: 47
-- tInts: 22
-- tBool: 4
-- put: 57
-- find: 59
-- atF: 58
-- place: 99
-- place1: 137
-- bs: 136
-- cmp: 138
-- nan: 140
-- rising: 100
-- rising1: 139
-- sorted: 60
-- clone: 52
-- tTab: 50
-- tPTab: 155
-- insert: 98
-- overlaps: 134
-- rot: 135
namespace Go.Proofs.Ytigbdoicgdmliaa.C05S
open Go Go.V Go.Proofs Go.Proofs.Ytigbdoicgdmliaa.N05
attribute [local irreducible] Cvt ExtF CallF hrun
abbrev val (x : ByteArray) : Value := .string x
abbrev lt (x y : ByteArray) : Bool := ltS x y
theorem lin : Lin lt := linS
abbrev Tb := TbS val lt 9 3
abbrev TbT := TbTo val lt 9 3
theorem uInts : Try.prog.underlying 22 = some (.slice 3) := by kernel_rfl
theorem uInt : Try.prog.underlying 3 = some (.int .i64) := by kernel_rfl
theorem uTs : Try.prog.underlying 47 = some (.slice 9) := by kernel_rfl
theorem info_of {x : Option TypeInfo} {z : Option Value} {a b : Nat} (h : (x.map fun i => (i.zero, i.size, i.bytes)) = some (z, a, b)) : ∃ inf : TypeInfo, x = some inf ∧ inf.zero = z ∧ inf.size = a ∧ inf.bytes = b := by
  cases x with
  | none => cases h
  | some i =>
    simp only [Option.map_some, Option.some.injEq, Prod.mk.injEq] at h
    exact ⟨i, rfl, h.1, h.2.1, h.2.2⟩
theorem iInt : ∃ inf : TypeInfo, Try.prog.info? 3 = some inf ∧ inf.zero = some (.int .i64 0) ∧ inf.size = 1 ∧ inf.bytes = 8 := info_of (by kernel_rfl)
theorem iE : ∃ inf : TypeInfo, Try.prog.info? 9 = some inf ∧ inf.zero = some (.string ⟨#[]⟩) ∧ inf.size = 1 ∧ inf.bytes = 16 := info_of (by kernel_rfl)

section
variable {H : Hp} {b o : Nat} {T : TypeId} {cs : List Value} {ts : List ByteArray} {os : List Nat}
theorem nan_ok {x : ByteArray} {K : Value → Hp → Prop} {Z : List PanicEntry → Hp → Prop} (k : K (.bool false) H) : CallF Try.prog 140 #[.string x] H K Z := by
  refine V140_ok ?_
  unfold V140
  rw [beqS_iff.2 rfl]
  exact k
theorem cmp_ok {x y : ByteArray} {K : Value → Hp → Prop} {Z : List PanicEntry → Hp → Prop} (k : K (.int .i64 (cmpT lt x y)) H) : CallF Try.prog 138 #[.string x, .string y] H K Z := by
  refine V138_ok ?_
  unfold V138
  refine nan_ok ⟨_, rfl, nan_ok ⟨_, rfl, (fun h => by cases h), fun _ => ⟨(fun h => by cases h), fun _ => ?_⟩⟩⟩
  unfold cmpT at k
  refine ⟨fun h1 => ?_, fun h1 => ?_⟩
  · have h1' : lt x y = true := h1
    rw [if_pos h1'] at k
    exact k
  · have h1' : ¬ lt x y = true := by
      have : lt x y = false := h1
      rw [this]
      decide
    rw [if_neg h1'] at k
    refine ⟨fun h2 => ?_, fun h2 => ?_⟩
    · have h2' : lt y x = true := by
        rcases lin.tot x y with h | h | h
        · exact absurd h h1'
        · rw [beqS_iff.2 h, Bool.or_true] at h2
          cases h2
        · exact h
      rw [if_pos h2'] at k
      exact k
    · have h2' : ¬ lt y x = true := by
        intro h
        have e1 : ltS x y = false := h1
        have e2 : beqS x y = false := by
          cases e : beqS x y with
          | false => rfl
          | true =>
            rw [beqS_iff.1 e] at h
            rw [lin.irr] at h
            cases h
        rw [e1, e2] at h2
        cases h2
      rw [if_neg h2'] at k
      exact k
theorem okP1 : fnOk Try.prog 137 = true := by kernel_rfl
theorem place_ok {x : ByteArray} {K : Value → Hp → Prop} {Z : List PanicEntry → Hp → Prop} (h : Tb H b o T cs ts os) (hbig : ts.length ≤ 1000000000)
    (k : ∀ p H', Split os.length (cAt lt ts os x) p → Fr no H H' → K (.tuple #[.int .i64 (p : Int), .bool (decide (p < os.length) && (cAt lt ts os x p == 0))]) H') : CallF Try.prog 99 #[.pointer (some ⟨b, o, none⟩), .string x] H K Z := by
  refine V99_ok ?_
  unfold V99
  intro bT A hn
  have hA : Tb A b o T cs ts os := h.keep (S := no) hn.fr (fun h => h) (fun _ _ h => h)
  obtain ⟨s1, s2, c1, c2, _⟩ := h.rows
  have hT := hn.get
  have hld : hcell A ⟨bT, 0, none⟩ = some (.pointer (some ⟨b, o, none⟩)) := by
    unfold hcell
    simp only [hT, Option.isSome_none, Bool.false_eq_true, if_false]
    rfl
  have hb1 : hcell A (Addr.add ⟨b, o, none⟩ 1) = some (.slice s2.a s2.n s2.c) := by rw [add_mk, hA.blk.ld]; exact c2
  have hb0 : hcell A ⟨b, o, none⟩ = some (.slice s1.a s1.n s1.c) := by rw [hA.blk.ld]; exact c1
  obtain ⟨n1, e1⟩ := hA.thing c1
  obtain ⟨n2, e2⟩ := hA.order c2
  have hlen := h.ok.len
  have hbs : BsV Try.prog A s2 (.string x) (.func (.func 137) #[] #[.pointer (some ⟨bT, 0, none⟩)]) (fun r H2 => ∃ y_0 : Int, ∃ y_1 : Bool, r = .tuple #[.int .i64 y_0, .bool y_1] ∧ K (.tuple #[.int .i64 y_0, .bool y_1]) H2) Z := ?_
  · refine ⟨_, hld, s2, hb1, V136_ok ?_⟩
    unfold BsV at hbs
    unfold V136
    exact hbs
  refine bs_ok (xs := os.map fun (k : Nat) => (k : Int)) (c := cAt lt ts os x) (by rw [List.length_map]; exact n2) (by omega) ?_ ?_ ?_ ?_
  · intro i v hv
    rw [List.getElem?_map] at hv
    cases hk : os[i]? with
    | none => rw [hk] at hv; cases hv
    | some k' =>
      rw [hk] at hv
      simp only [Option.map_some, Option.some.injEq] at hv
      subst hv
      exact e2 i k' hk
  · intro i v K' hv hK
    rw [List.getElem?_map] at hv
    cases hk : os[i]? with
    | none => rw [hk] at hv; cases hv
    | some k' =>
      rw [hk] at hv
      simp only [Option.map_some, Option.some.injEq] at hv
      subst hv
      have hk' := h.ok.ltn hk
      have hx : ts[k']? = some ts[k'] := List.getElem?_eq_getElem hk'
      unfold callV
      simp only [okP1, if_true]
      refine V137_ok ?_
      unfold V137
      obtain ⟨ad, ha, hc⟩ := e1 _ _ hx
      refine ⟨_, hld, s1, hb0, ad, ha, ⟨by omega, by omega⟩, _, by rw [Int.toNat_natCast]; exact hc, ?_⟩
      refine cmp_ok ?_
      refine ⟨_, rfl, ?_⟩
      rw [cAt_eq hk hx] at hK
      exact hK
  · intro i j hij hj
    rw [n2] at hj
    exact h.ok.mono lin x i j hij hj
  · intro p hp
    rw [n2] at hp ⊢
    exact ⟨_, _, rfl, k p A hp hn.fr⟩

/-- a thing's number, or none -/
theorem find_ok {x : ByteArray} {K : Value → Hp → Prop} {Z : List PanicEntry → Hp → Prop} (h : Tb H b o T cs ts os) (hbig : ts.length ≤ 1000000000)
    (k1 : ∀ (n : Nat) H', ts[n]? = some x → Fr no H H' → K (.tuple #[.int .i64 (n : Int), .bool true]) H') (k2 : ∀ H', x ∉ ts → Fr no H H' → K (.tuple #[.int .i64 0, .bool false]) H') :
    CallF Try.prog 59 #[.pointer (some ⟨b, o, none⟩), .string x] H K Z := by
  refine V59_ok ?_
  unfold V59
  refine place_ok h hbig ?_
  intro p A hp hf
  have hA : Tb A b o T cs ts os := h.keep hf (fun h => h) (fun _ _ h => h)
  obtain ⟨s1, s2, c1, c2, _⟩ := h.rows
  obtain ⟨n2, e2⟩ := hA.order c2
  refine ⟨_, _, rfl, fun hno => ?_, fun hyes => ?_⟩
  · refine k2 A (h.ok.miss lin hp ?_) hf
    rintro ⟨h1, h2⟩
    rw [decide_eq_true h1, h2] at hno
    simp at hno
  · have hy : p < os.length ∧ cAt lt ts os x p = 0 := by simpa using hyes
    obtain ⟨n, h1, h2⟩ := h.ok.hit lin hy.1 hy.2
    obtain ⟨ad, ha, hc⟩ := e2 _ _ h1
    exact ⟨s2, by rw [add_mk, hA.blk.ld]; exact c2, ad, ha, ⟨by omega, by omega⟩, _, by rw [Int.toNat_natCast]; exact hc, k1 n A h2 hf⟩
theorem at_ok {n : Int} {K : Value → Hp → Prop} {Z : List PanicEntry → Hp → Prop} (h : Tb H b o T cs ts os)
    (k1 : ∀ x, 0 ≤ n → ts[n.toNat]? = some x → K (.tuple #[.string x, .bool true]) H) (k2 : (n < 0 ∨ (ts.length : Int) ≤ n) → K (.tuple #[.string ⟨#[]⟩, .bool false]) H) :
    CallF Try.prog 58 #[.pointer (some ⟨b, o, none⟩), .int .i64 n] H K Z := by
  refine V58_ok ?_
  unfold V58
  obtain ⟨s1, s2, c1, c2, _⟩ := h.rows
  obtain ⟨n1, e1⟩ := h.thing c1
  have hb0 : hcell H ⟨b, o, none⟩ = some (.slice s1.a s1.n s1.c) := by rw [h.blk.ld]; exact c1
  refine ⟨fun h0 => k2 (.inl (of_decide_eq_true h0)), fun h0 => ⟨s1, hb0, fun h1 => ?_, fun h1 => ?_⟩⟩
  · have h1' : n ≥ (s1.n : Int) := of_decide_eq_true h1
    exact k2 (.inr (by omega))
  · have h0' : ¬ n < 0 := of_decide_eq_false h0
    have h1' : ¬ n ≥ (s1.n : Int) := of_decide_eq_false h1
    have hx : ts[n.toNat]? = some (ts[n.toNat]'(by omega)) := List.getElem?_eq_getElem (by omega)
    obtain ⟨ad, ha, hc⟩ := e1 _ _ hx
    exact ⟨s1, hb0, ad, ha, ⟨by omega, by omega⟩, _, hc, k1 _ (by omega) hx⟩

theorem ins_call {s : Sl} {xs : List Nat} {i b1 n : Nat} {K : Value → Hp → Prop} {Z : List PanicEntry → Hp → Prop} (hr : Row H 3 1 s (numV xs)) (hnf : Nf H s) (hv : Blk H b1 [.int .i64 (n : Int)] 3) (hne : ¬ own s b1) (hin : i ≤ s.n) (hbig : s.n ≤ 1000000000)
    (k : ∀ s' H', Row H' 3 1 s' (numV (xs.take i ++ [n] ++ xs.drop i)) → Nf H' s' → s'.n = s.n + 1 → Fr (own s) H H' → (∀ j, own s' j → own s j ∨ H.size ≤ j) → K (.slice s'.a s'.n s'.c) H') :
    CallF Try.prog 98 #[.slice s.a s.n s.c, .int .i64 (i : Int), .slice (some ⟨b1, 0, none⟩) 1 1] H K Z := by
  obtain ⟨inf, i1, i2, i3, i4⟩ := iInt
  have hins : InsV Try.prog 22 3 134 135 1 H s (i : Int) ⟨some ⟨b1, 0, none⟩, 1, 1⟩ K Z := by
    refine ins_ok (f := Try.f134) (inf := inf) (ps := #[22, 22]) (rs := #[4]) (z := .int .i64 0) (by kernel_rfl) (by kernel_rfl) (by kernel_rfl) (by kernel_rfl) (by kernel_rfl) rfl uInts uInt i1 i2 (by rw [i3]; rfl) (by rw [i4]; decide) i3 (by decide) hr hnf (numV_one _) hv rfl ?_ hne hin (by rw [i4]; omega) ?_
    · intro v hv'
      simp only [List.mem_singleton] at hv'
      subst hv'
      rfl
    · intro s' H' h1 h2 h3 h4 h5
      refine k s' H' ?_ h2 h3 h4 h5
      rw [Nat.mul_one] at h1
      unfold numV at h1 ⊢
      rw [List.map_append, List.map_append, List.map_take, List.map_drop]
      exact h1
  refine V98_ok (s := s) (i := (i : Int)) (v := ⟨some ⟨b1, 0, none⟩, 1, 1⟩) ?_
  unfold InsV at hins
  unfold V98
  exact hins
/-- a thing is put -/
theorem put_ok {x : ByteArray} {K : Value → Hp → Prop} {Z : List PanicEntry → Hp → Prop} (h : Tb H b o T cs ts os) (hbig : ts.length ≤ 2000000)
    (k1 : ∀ (n : Nat) H', ts[n]? = some x → TbT H H' b o T cs cs ts os → K (.tuple #[.int .i64 (n : Int), .bool false]) H')
    (k2 : ∀ H' cs' os', x ∉ ts → TbT H H' b o T cs cs' (ts ++ [x]) os' → K (.tuple #[.int .i64 (ts.length : Int), .bool true]) H') :
    CallF Try.prog 57 #[.pointer (some ⟨b, o, none⟩), .string x] H K Z := by
  refine V57_ok ?_
  unfold V57
  refine place_ok h (by omega) ?_
  intro p A hp hf
  have hA : Tb A b o T cs ts os := h.keep hf (fun h => h) (fun _ _ h => h)
  have toA : TbT H A b o T cs cs ts os := TbTo.of_no h hf
  obtain ⟨s1, s2, c1, c2, r1, r2, nf2, ap12⟩ := hA.rows
  obtain ⟨n1, e1⟩ := hA.thing c1
  obtain ⟨n2, e2⟩ := hA.order c2
  have hlen := h.ok.len
  have hb0 : hcell A ⟨b, o, none⟩ = some (.slice s1.a s1.n s1.c) := by rw [hA.blk.ld]; exact c1
  refine ⟨_, _, rfl, fun hyes => ?_, fun hno => ?_⟩
  · have hy : p < os.length ∧ cAt lt ts os x p = 0 := by simpa using hyes
    obtain ⟨n, h1, h2⟩ := h.ok.hit lin hy.1 hy.2
    obtain ⟨ad, ha, hc⟩ := e2 _ _ h1
    exact ⟨s2, by rw [add_mk, hA.blk.ld]; exact c2, ad, ha, ⟨by omega, by omega⟩, _, by rw [Int.toNat_natCast]; exact hc, k1 n A h2 toA⟩
  have hmiss : ¬ (p < os.length ∧ cAt lt ts os x p = 0) := by
    rintro ⟨h1, h2⟩
    rw [decide_eq_true h1, h2] at hno
    simp at hno
  have hnot := h.ok.miss lin hp hmiss
  have hput := h.ok.put lin hp hmiss
  refine ⟨s1, hb0, s1, hb0, ?_⟩
  intro bx B hnB
  have bB : Blk B bx [.string x] 9 := hnB.blk
  have eB := hnB.eq
  have fB := hnB.fr
  obtain ⟨infE, j1, j2, j3, j4⟩ := iE
  have r1B := r1.keep fB (fun _ _ h => h)
  rw [← j3] at r1B
  refine app_row2 uTs (by intro k; rw [uTs]; simp) ⟨_, uTs⟩ j1 j2 (by rw [j3]; rfl) (by rw [j4]; decide) r1B (Src.blk bB (by rw [j3]; rfl)) ?_ (by rw [j4]; omega) ?_
  · intro v hv'
    simp only [List.mem_singleton] at hv'
    subst hv'
    rfl
  intro sa C rC nC fC oC _
  rw [j3] at rC
  have hbA := hA.blk.lt
  have nob1 : ¬ own s1 b := fun hc => hA.nob ((tOwn_iff c1 c2 b).2 (.inl hc))
  have nob2 : ¬ own s2 b := fun hc => hA.nob ((tOwn_iff c1 c2 b).2 (.inr hc))
  have szB := hnB.size
  have bkC : Blk C b cs T := fC.blk (fB.blk hA.blk fun h => h) nob1
  have ho : o < cs.length := (List.getElem?_eq_some_iff.1 c1).1
  have ho1 : o + 1 < cs.length := (List.getElem?_eq_some_iff.1 c2).1
  refine st_blk bkC ho rfl ?_
  intro D bkD fD szD
  have gD2 : (cs.set o (.slice sa.a sa.n sa.c))[o + 1]? = some (.slice s2.a s2.n s2.c) := by rw [List.getElem?_set_ne (by omega)]; exact c2
  refine ⟨s2, by rw [add_mk, bkD.ld]; exact gD2, ?_⟩
  intro bn E hnE
  have bE : Blk E bn [.int .i64 (s1.n : Int)] 3 := hnE.blk
  have eE := hnE.eq
  have fE := hnE.fr
  have sCB := fC.size
  have lt2 : ∀ i, own s2 i → i < A.size := fun i hi => r2.lt hi
  have lt1 : ∀ i, own s1 i → i < A.size := fun i hi => r1.lt hi
  have ne2 : ∀ i, own s2 i → ¬ own s1 i := fun i h2 h1 => ap12 i h1 h2
  have r2E : Row E 3 1 s2 (numV os) := (((r2.keep fB (fun _ _ h => h)).keep fC ne2).keep fD (fun i hi e => nob2 (e ▸ hi))).keep fE (fun _ _ h => h)
  have nfE : Nf E s2 := (((nf2.keep fB (fun _ _ h => h)).keep fC ne2).keep fD (fun i hi e => nob2 (e ▸ hi))).keep fE (fun _ _ h => h)
  have ple : p ≤ s2.n := by rw [n2]; exact hp.le
  refine ins_call (n := s1.n) r2E nfE bE (fun hc => by have := lt2 _ hc; omega) ple (by omega) ?_
  intro sb F rF nfF nF fF oF
  have sED := fE.size
  have sFE := fF.size
  have bkE : Blk E b _ T := fE.blk bkD fun h => h
  have bkF : Blk F b _ T := fF.blk bkE nob2
  refine ⟨sb, rfl, ?_⟩
  rw [add_mk]
  refine st_blk bkF (by rw [List.length_set]; exact ho1) rfl ?_
  intro G bkG fG szG
  have nsa : ∀ i, own sa i → own s1 i ∨ A.size + 1 ≤ i := by
    intro i hi
    rcases oC i hi with h | h
    · exact .inl h
    · exact .inr (by omega)
  have nsab : ¬ own sa b := by
    intro hc
    rcases nsa b hc with h | h
    · exact nob1 h
    · omega
  have nsa2 : ∀ i, own sa i → ¬ own s2 i := by
    intro i hi h2
    rcases nsa i hi with h | h
    · exact ap12 i h h2
    · have := lt2 i h2; omega
  have nsbb : ¬ own sb b := by
    intro hc
    rcases oF b hc with h | h
    · exact nob2 h
    · omega
  have saltC : ∀ i, own sa i → i < C.size := fun i hi => rC.lt hi
  have rsG : Row G 9 1 sa (ts.map val ++ [.string x]) := (((rC.keep fD (fun i hi e => nsab (e ▸ hi))).keep fE (fun _ _ h => h)).keep fF nsa2).keep fG (fun i hi e => nsab (e ▸ hi))
  have rbG : Row G 3 1 sb (numV (os.take p ++ [s1.n] ++ os.drop p)) := rF.keep fG (fun i hi e => nsbb (e ▸ hi))
  have nbG : Nf G sb := nfF.keep fG (fun i hi e => nsbb (e ▸ hi))
  rw [n1] at rbG
  have g1 : ((cs.set o (.slice sa.a sa.n sa.c)).set (o + 1) (.slice sb.a sb.n sb.c))[o]? = some (.slice sa.a sa.n sa.c) := by rw [List.getElem?_set_ne (by omega)]; exact List.getElem?_set_self ho
  have g2 : ((cs.set o (.slice sa.a sa.n sa.c)).set (o + 1) (.slice sb.a sb.n sb.c))[o + 1]? = some (.slice sb.a sb.n sb.c) := List.getElem?_set_self (by rw [List.length_set]; exact ho1)
  have apart : ∀ i, own sa i → own sb i → False := by
    intro i ha hb'
    rcases oF i hb' with h | h
    · exact nsa2 i ha h
    · have := saltC i ha
      have := fD.size
      omega
  have hS : Tb G b o T ((cs.set o (.slice sa.a sa.n sa.c)).set (o + 1) (.slice sb.a sb.n sb.c)) (ts ++ [x]) (os.take p ++ [ts.length] ++ os.drop p) := by
    refine ⟨bkG, ⟨sa, sb, g1, g2, by rw [List.map_append]; exact rsG, rbG, nbG, apart⟩, ?_, hput⟩
    intro hc
    rcases (tOwn_iff g1 g2 b).1 hc with h | h
    · exact nsab h
    · exact nsbb h
  have hk := k2 G _ _ hnot (toA.trans ⟨hS, by simp, ?_, ?_, ?_⟩)
  · rw [← n1] at hk
    exact hk
  · intro i h1 h2
    rw [List.getElem?_set_ne (Ne.symm h2), List.getElem?_set_ne (Ne.symm h1)]
  · have q0 : Fr (fun i => i = b ∨ tOwn cs o i) A B := fB.of_no
    refine ((((q0.step fC ?_).step fD ?_).step (fE.of_no (S := no)) ?_).step fF ?_).step fG ?_
    · intro i _ hi; exact .inr ((tOwn_iff c1 c2 i).2 (.inl hi))
    · intro i _ hi; exact .inl hi
    · intro i _ hi; exact hi.elim
    · intro i _ hi; exact .inr ((tOwn_iff c1 c2 i).2 (.inr hi))
    · intro i _ hi; exact .inl hi
  · intro i hi
    rcases (tOwn_iff g1 g2 i).1 hi with h | h
    · rcases nsa i h with h' | h'
      · exact .inl ((tOwn_iff c1 c2 i).2 (.inl h'))
      · exact .inr (by omega)
    · rcases oF i h with h' | h'
      · exact .inl ((tOwn_iff c1 c2 i).2 (.inr h'))
      · have := fD.size
        exact .inr (by omega)

theorem clone_call {s : Sl} {xs : List Nat} {K : Value → Hp → Prop} {Z : List PanicEntry → Hp → Prop} (hr : Row H 3 1 s (numV xs)) (hbig : s.n ≤ 1000000000)
    (k : ∀ s' H', Row H' 3 1 s' (numV xs) → s'.n = s.n → Fr no H H' → (∀ i, own s' i → H.size ≤ i) → K (.slice s'.a s'.n s'.c) H') : CallF Try.prog 52 #[.slice s.a s.n s.c] H K Z := by
  obtain ⟨inf, i1, i2, i3, i4⟩ := iInt
  have hc : CloneV Try.prog 22 3 H s K Z := by
    refine Go.V.clone_ok uInts i1 i2 (by rw [i3]; rfl) (by rw [i4]; decide) (by rw [i3]; exact hr) (numV_one _) (by rw [i4]; omega) ?_
    intro s' H' h1 h2 h3 h4 _
    rw [i3] at h1
    exact k s' H' h1 h2 h3 h4
  refine V52_ok ?_
  unfold CloneV at hc
  unfold V52
  exact hc
theorem okR1 : fnOk Try.prog 139 = true := by kernel_rfl
/-- all things are told, rising -/
theorem rising1_ok {bT : Nat} {yield : Value} {S : Nat → Prop} {Inv : Nat → Nat → Hp → Prop} {Fin : Nat → Hp → Prop} {K : Value → Hp → Prop} {Z : List PanicEntry → Hp → Prop} (h : Tb H b o T cs ts os) (hbig : ts.length ≤ 2000000) (hT : Blk H bT [.pointer (some ⟨b, o, none⟩)] 155)
    (hSb : ¬ S b) (hSo : ∀ i, tOwn cs o i → ¬ S i) (hST : ¬ S bT) (hS : ∀ i, S i → i < H.size) (start : ∀ A, Fr no H A → Inv A.size 0 A)
    (step : ∀ (m j : Nat) (A : Hp) (k : Nat) (x : ByteArray), os[j]? = some k → ts[k]? = some x → H.size ≤ m → m ≤ A.size → Tb A b o T cs ts os → Inv m j A → callV Try.prog yield [.string x, .int .i64 (k : Int)] A (fun r B => ∃ y : Bool, r = .bool y ∧ Fr (fun i => S i ∨ m ≤ i) A B ∧ (y = true → Inv m (j + 1) B) ∧ (y = false → Fin (j + 1) B)) Z)
    (fin1 : ∀ m A, Inv m os.length A → K (.tuple #[]) A) (fin2 : ∀ j A, j < os.length → Fin (j + 1) A → K (.tuple #[]) A) :
    CallF Try.prog 139 #[yield, .pointer (some ⟨bT, 0, none⟩)] H K Z := by
  refine V139_ok ?_
  unfold V139
  obtain ⟨s1, s2, c1, c2, r1, r2, nf, ap⟩ := h.rows
  obtain ⟨n2, e2⟩ := h.order c2
  have hlen := h.ok.len
  have hb := h.blk.lt
  have hbT := hT.lt
  refine ⟨_, hT.ld 0, s2, by rw [add_mk, h.blk.ld]; exact c2, ?_⟩
  refine clone_call r2 (by omega) ?_
  intro y A rA nA fA oA
  refine ⟨y, rfl, ?_⟩
  have hsz := fA.size
  refine ⟨fun t B m => ∃ j : Nat, t = (j : Int) ∧ j ≤ os.length ∧ m = os.length - j ∧ Inv A.size j B ∧ Fr (fun i => S i ∨ A.size ≤ i) A B, ⟨_, 0, rfl, Nat.zero_le _, rfl, start A fA, Fr.refl _ _⟩, ?_⟩
  rintro t B m ⟨j, rfl, hj, rfl, hI, fB⟩ scr
  have fHB : Fr (fun i => S i ∨ A.size ≤ i) H B := (fA.of_no).trans fB
  have hB : Tb B b o T cs ts os := h.keep fHB (by rintro (h' | h'); · exact hSb h'
                                                  · omega) (fun i hi => by
    rintro (h' | h')
    · exact hSo i hi h'
    · have := h.own_lt hi; omega)
  have hTB : Blk B bT [.pointer (some ⟨b, o, none⟩)] 155 := fHB.blk hT (by
    rintro (h' | h')
    · exact hST h'
    · omega)
  have rB : Row B 3 1 y (numV os) := rA.keep fB (fun i hi => by
    rintro (h' | h')
    · have := hS i h'; have := oA i hi; omega
    · have := rA.lt hi; omega)
  refine ⟨fun hlt => ?_, fun hge => ?_⟩
  · have hlt' : j < os.length := by
      have : (j : Int) < (y.n : Int) := of_decide_eq_true hlt
      omega
    obtain ⟨k, x, hk, hx⟩ := h.ok.get hlt'
    obtain ⟨g, hg⟩ := rB.some (by omega)
    have hld : hcell B (Addr.add ⟨g, 0, none⟩ (j * 1)) = some (.int .i64 (k : Int)) := by
      rw [rB.ld hg (j * 1) (by unfold numV; rw [List.length_map]; omega), Nat.mul_one]
      unfold numV
      rw [List.getElem?_map, hk]
      rfl
    obtain ⟨n1, e1⟩ := hB.thing c1
    obtain ⟨ad, ha, hc⟩ := e1 _ _ hx
    have hkl := h.ok.ltn hk
    refine ⟨_, hg, ⟨by omega, by omega⟩, _, by rw [Int.toNat_natCast]; exact hld, _, hTB.ld 0, s1, by rw [hB.blk.ld]; exact c1, ad, ha, ⟨by omega, by omega⟩, _, by rw [Int.toNat_natCast]; exact hc, ?_⟩
    refine callV_mono (step A.size j B k x hk hx hsz fB.size hB hI) ?_ fun _ _ h => h
    rintro r C ⟨y1, rfl, fC, hy1, hy2⟩
    refine ⟨y1, rfl, fun hn => ?_, fun hn => ?_⟩
    · have hy : y1 = false := by simpa using hn
      exact fin2 j C hlt' (hy2 hy)
    · have hy : y1 = true := by simpa using hn
      have e : w64 ((j : Int) + 1) = ((j + 1 : Nat) : Int) := by rw [wrap64 (by omega) (by omega)]; omega
      rw [e]
      exact ⟨os.length - (j + 1), by omega, j + 1, rfl, hlt', rfl, hy1 hy, fB.trans fC⟩
  · have hge' : j = os.length := by
      have : ¬ (j : Int) < (y.n : Int) := of_decide_eq_false hge
      omega
    subst hge'
    exact fin1 _ B hI

theorem tb_nil {A : Hp} {b : Nat} (hb : Blk A b [.slice none 0 0, .slice none 0 0] 50) : Tb A b 0 50 [.slice none 0 0, .slice none 0 0] [] [] := by
  refine ⟨hb, ⟨⟨none, 0, 0⟩, ⟨none, 0, 0⟩, rfl, rfl, Row.nil _ _ _, Row.nil _ _ _, ?_, ?_⟩, ?_, Tbl.nil⟩
  · intro g o e; cases e
  · rintro i ⟨o, e⟩; cases e
  · rintro ⟨off, n, c, e | e⟩ <;> simp at e
theorem tOwn_nil {i : Nat} : ¬ tOwn [.slice none 0 0, .slice none 0 0] 0 i := by
  rintro ⟨off, n, c, e | e⟩ <;> simp at e
theorem mem_put {ts xs : List ByteArray} {j : Nat} {x : ByteArray} (hx : xs[j]? = some x) (hm : ∀ z, z ∈ ts ↔ z ∈ xs.take j) : (x ∈ ts → ∀ z, z ∈ ts ↔ z ∈ xs.take (j + 1)) ∧ (∀ z, z ∈ ts ++ [x] ↔ z ∈ xs.take (j + 1)) := by
  obtain ⟨hj, rfl⟩ := List.getElem?_eq_some_iff.1 hx
  rw [List.take_succ_eq_append_getElem hj]
  refine ⟨fun h z => ?_, fun z => ?_⟩
  · rw [List.mem_append, ← hm z, List.mem_singleton]
    constructor
    · exact .inl
    · rintro (h' | rfl)
      · exact h'
      · exact h
  · rw [List.mem_append, List.mem_append, ← hm z]
set_option maxRecDepth 10000 in
theorem sorted_ok {l : Sl} {xs : List ByteArray} {K : Value → Hp → Prop} {Z : List PanicEntry → Hp → Prop} (h : Els val H l xs) (hbig : xs.length ≤ 2000000)
    (k : ∀ s' H' ys, Rising lt ys → (∀ z, z ∈ ys ↔ z ∈ xs) → ys.length ≤ xs.length → Row H' 9 1 s' (ys.map val) → Fr no H H' → (∀ i, own s' i → H.size ≤ i) → K (.slice s'.a s'.n s'.c) H') :
    CallF Try.prog 60 #[.slice l.a l.n l.c] H K Z := by
  refine V60_ok ?_
  unfold V60
  intro b A hnA
  have bA := hnA.blk
  have eA := hnA.eq
  have zA := hnA.size
  have hl := h.len
  have tA := tb_nil bA
  have hno : ∀ {B c2 t2 o2}, TbT A B b 0 50 [.slice none 0 0, .slice none 0 0] c2 t2 o2 → Fr no H B := by
    intro B c2 t2 o2 hB
    refine hnA.fr.step hB.fr ?_
    rintro i hi (h' | h')
    · omega
    · exact (tOwn_nil h').elim
  refine ⟨fun t B m => ∃ (j : Nat) (c2 : List Value) (ts : List ByteArray) (os : List Nat), t = (j : Int) ∧ j ≤ xs.length ∧ m = xs.length - j ∧ ts.length ≤ j ∧ (∀ z, z ∈ ts ↔ z ∈ xs.take j) ∧ TbT A B b 0 50 [.slice none 0 0, .slice none 0 0] c2 ts os,
    ⟨_, 0, _, [], [], rfl, Nat.zero_le _, rfl, Nat.le_refl _, by simp, TbTo.refl tA⟩, ?_⟩
  rintro t B m ⟨j, c2, ts, os, rfl, hj, rfl, htl, hmem, hB⟩ scr
  have hE := h.keep (hno hB) (fun _ _ h => h)
  refine ⟨fun hlt => ?_, fun hge => ?_⟩
  · have hlt' : j < xs.length := by
      have : (j : Int) < (l.n : Int) := of_decide_eq_true hlt
      omega
    have hx : xs[j]? = some xs[j] := List.getElem?_eq_getElem hlt'
    obtain ⟨ad, ha, hc⟩ := hE.el _ _ hx
    obtain ⟨m1, m2⟩ := mem_put hx hmem
    have e : w64 ((j : Int) + 1) = ((j + 1 : Nat) : Int) := by rw [wrap64 (by omega) (by omega)]; omega
    rw [e]
    refine ⟨ad, ha, ⟨by omega, by omega⟩, _, by rw [Int.toNat_natCast]; exact hc, ?_⟩
    refine put_ok hB.st (by omega) ?_ ?_
    · intro n C hn hC
      exact ⟨_, _, rfl, xs.length - (j + 1), by omega, j + 1, c2, ts, os, rfl, hlt', rfl, by omega, m1 (List.mem_of_getElem? hn), hB.trans hC⟩
    · intro C c3 os' hn hC
      exact ⟨_, _, rfl, xs.length - (j + 1), by omega, j + 1, c3, _, os', rfl, hlt', rfl, by rw [List.length_append, List.length_singleton]; omega, m2, hB.trans hC⟩
  · have hge' : j = xs.length := by
      have : ¬ (j : Int) < (l.n : Int) := of_decide_eq_false hge
      omega
    subst hge'
    rw [List.take_length] at hmem
    intro bOut C hnC
    have eC := hnC.eq
    have zC := hnC.size
    refine V100_ok ?_
    unfold V100
    intro bT D0 hnT
    have eT := hnT.eq
    have zT := hnT.size
    refine ⟨_, rfl, ?_⟩
    intro D E0 hnD l1 F hnL
    have eD := hnD.eq
    have zD := hnD.size
    have eL := hnL.eq
    have zL := hnL.size
    have fBF : Fr no B F := ((hnC.fr.trans hnT.fr).trans hnD.fr).trans hnL.fr
    have hTF : Blk F bT [.pointer (some ⟨b, 0, none⟩)] 155 := hnL.fr.blk (hnD.fr.blk hnT.blk fun h => h) fun h => h
    have hOF : Blk F bOut [.slice none 0 0] 47 := hnL.fr.blk (hnD.fr.blk (hnT.fr.blk hnC.blk fun h => h) fun h => h) fun h => h
    have hDF : F[D]? = some (.deferred (some [])) := hnL.fr.at hnD.get fun h => h
    have hLF := hnL.get
    obtain ⟨ps, asg, body, hlr⟩ := lrec_eq (f := Try.f60) (n := 9) (by kernel_rfl)
    rw [hlr] at hLF
    obtain ⟨tmps, hLF, hy⟩ : ∃ tmps : List Value, F[l1]? = some (.loop ⟨.ready, none, 60, tmps.toArray, ps, asg, body, D⟩) ∧ ∀ (X : Hp) (x : ByteArray) (n : Int) (K' : Value → Hp → Prop), R60_9 X bOut l1 x n K' → yldC Try.prog aJ60 aL60 Try.f60 60 9 l1 tmps [.string x, .int .i64 n] X K' := ⟨_, hLF, fun X x n K' h => R60_9_ok h⟩
    have hbB := hB.st.blk.lt
    have tF : Tb F b 0 50 c2 ts os := hB.st.keep fBF (fun h => h) (fun _ _ h => h)
    have hlen := hB.st.ok.len
    obtain ⟨infE, j1, j2, j3, j4⟩ := iE
    unfold callG
    simp only [okR1, if_true]
    refine rising1_ok (S := fun i => i = bOut ∨ i = l1) (Fin := fun _ _ => False)
      (Inv := fun m j X => F.size ≤ m ∧ X[l1]? = some (.loop ⟨.ready, none, 60, tmps.toArray, ps, asg, body, D⟩) ∧ X[D]? = some (.deferred (some [])) ∧ Fr no B X ∧ ∃ so : Sl, Blk X bOut [.slice so.a so.n so.c] 47 ∧ Row X 9 1 so ((riseL ts (os.take j)).map val) ∧ (∀ i, own so i → m ≤ i))
      tF (by omega) hTF (by omega) (fun i hi => by have := hB.st.own_lt hi; omega) (by omega) (by omega) ?_ ?_ ?_ ?_
    · intro X fX
      exact ⟨fX.size, fX.at hLF fun h => h, fX.at hDF fun h => h, fBF.trans fX, ⟨none, 0, 0⟩, fX.blk hOF fun h => h, Row.nil _ _ _, by rintro i ⟨o, e⟩; cases e⟩
    · rintro m j X k' x hk hx hmF hmX hTb ⟨hFm, hL, hD, hBX, so, hO, rO, oO⟩
      have hjl : j < os.length := (List.getElem?_eq_some_iff.1 hk).1
      have hrl := hB.st.ok.rise_len (j := j) (by omega)
      unfold callV
      simp only [List.nil_append]
      refine yldC_sound hL rfl rfl (by rw [hlr]) (by rw [hlr]) (by rw [hlr]) (hy _ _ _ _ ?_)
      unfold R60_9
      refine ⟨_, hL, rfl, ?_⟩
      intro X1 hX1
      obtain ⟨f1, g1, z1⟩ := setB hL hX1
      have hO1 : Blk X1 bOut [.slice so.a so.n so.c] 47 := f1.blk hO (by omega)
      refine ⟨so, hO1.ld 0, ?_⟩
      intro b1 X2 hn2
      have e2 := hn2.eq
      have z2 := hn2.size
      have rO1 : Row X1 9 1 so ((riseL ts (os.take j)).map val) := rO.keep f1 (fun i hi e => by have := oO i hi; omega)
      have rO2 := rO1.keep hn2.fr (fun _ _ h => h)
      rw [← j3] at rO2
      have hson : so.n = j := by
        have := rO.1
        rw [List.length_map, hrl, Nat.mul_one] at this
        exact this.symm
      have bb1 : Blk X2 b1 [.string x] 9 := hn2.blk
      refine app_row2 uTs (by intro k; rw [uTs]; simp) ⟨_, uTs⟩ j1 j2 (by rw [j3]; rfl) (by rw [j4]; decide) rO2 (Src.blk bb1 (by rw [j3]; rfl)) ?_ (by rw [j4]; omega) ?_
      · intro v hv'
        simp only [List.mem_singleton] at hv'
        subst hv'
        rfl
      intro sp X3 r3 n3 f3 o3 _
      rw [j3] at r3
      have hsob : ¬ own so bOut := fun hc => by have := oO _ hc; omega
      have hO3 : Blk X3 bOut [.slice so.a so.n so.c] 47 := f3.blk (hn2.fr.blk hO1 fun h => h) hsob
      refine st_blk hO3 (by simp) rfl ?_
      intro X4 hO4 f4 z4
      have z3 := f3.size
      have hL4 : X4[l1]? = some (.loop _) := f4.at (f3.at (hn2.fr.at g1 fun h => h) (fun hc => by have := oO _ hc; omega)) (by omega)
      refine ⟨_, hL4, ?_⟩
      intro X5 hX5
      obtain ⟨f5, g5, z5⟩ := setB hL4 hX5
      have hspb : ¬ own sp bOut := by
        intro hc
        rcases o3 _ hc with h' | h'
        · exact hsob h'
        · omega
      have hspm : ∀ i, own sp i → m ≤ i := by
        intro i hi
        rcases o3 _ hi with h' | h'
        · exact oO i h'
        · omega
      have hD5 : X5[D]? = some (.deferred (some [])) := f5.at (f4.at (f3.at (hn2.fr.at (f1.at hD (by omega)) fun h => h) (fun hc => by have := oO _ hc; omega)) (by omega)) (by omega)
      have hO5 : Blk X5 bOut [.slice sp.a sp.n sp.c] 47 := f5.blk hO4 (by omega)
      have r5 : Row X5 9 1 sp ((riseL ts (os.take (j + 1))).map val) := by
        rw [rise_succ hk hx, List.map_append]
        exact (r3.keep f4 (fun i hi e => hspb (e ▸ hi))).keep f5 (fun i hi e => by have := hspm i hi; omega)
      have fB5 : Fr no B X5 := by
        refine ((((hBX.step f1 ?_).step hn2.fr (fun _ _ h => h)).step f3 ?_).step f4 ?_).step f5 ?_
        · intro i hi e; omega
        · intro i hi hc; have := oO i hc; omega
        · intro i hi e; omega
        · intro i hi e; omega
      refine ⟨true, rfl, ?_, fun _ => ⟨hFm, g5, hD5, fB5, sp, hO5, r5, hspm⟩, fun h => by cases h⟩
      have q : Fr (fun i => (i = bOut ∨ i = l1) ∨ m ≤ i) X X1 := f1.mono fun i _ e => .inl (.inr e)
      refine (((q.step hn2.fr (fun _ _ h => h.elim)).step f3 ?_).step f4 ?_).step f5 ?_
      · intro i _ hc; exact .inr (oO i hc)
      · intro i _ e; exact .inl (.inl e)
      · intro i _ e; exact .inl (.inr e)
    · rintro m X ⟨hFm, hL, hD, hBX, so, hO, rO, oO⟩
      refine ⟨_, hL, rfl, ?_⟩
      intro X1 hX1
      obtain ⟨f1, g1, z1⟩ := setB hL hX1
      refine ⟨so, (f1.blk hO (by omega)).ld 0, f1.at hD (by omega), ?_⟩
      intro X2 hX2
      obtain ⟨f2, g2, z2⟩ := setB (f1.at hD (by omega)) hX2
      rw [List.take_length] at rO
      have hfr : Fr no H X2 := by
        refine (((hno hB).trans hBX).step f1 ?_).step f2 ?_
        · intro i hi e
          have := (hno hB).size
          omega
        · intro i hi e
          have := (hno hB).size
          omega
      have hrl := hB.st.ok.rise_len (j := os.length) (Nat.le_refl _)
      rw [List.take_length] at hrl
      refine k so X2 (riseL ts os) hB.st.ok.rising (fun z => (hB.st.ok.rise_mem z).trans (hmem z)) (by omega) ?_ hfr ?_
      · exact (rO.keep f1 (fun i hi e => by have := oO i hi; omega)).keep f2 (fun i hi e => by have := oO i hi; omega)
      · intro i hi
        have := oO i hi
        have := (hno hB).size
        have := fBF.size
        omega
    · intro j X _ h
      exact h.elim
end
end Go.Proofs.Ytigbdoicgdmliaa.C05S

