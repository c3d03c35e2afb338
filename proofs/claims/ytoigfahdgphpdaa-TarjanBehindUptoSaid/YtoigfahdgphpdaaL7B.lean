/- weftlaw07: the laws TarjanTurned and TarjanMore, over heaps. -/
import Derived.Test.YtoigfahdgphpdaaL7A
set_option linter.unusedVariables false
set_option linter.unusedSimpArgs false
-- tInt: 3
-- tInts: 42
-- tREdge: 45
-- tREdges: 35
-- lawTurned: 8
-- lawMore: 11
namespace Go.Proofs.Ytoigfahdgphpdaa.L7
open Go Go.V Go.Proofs Go.Proofs.Ytoigfahdgphpdaa.N07 Go.Proofs.Ytoigfahdgphpdaa.C7 Go.Tar
attribute [local irreducible] Cvt ExtF CallF hrun App MkS
theorem parts_le {r r' : Nat → Nat → Bool} {N P P' : Nat} {pt pt' : Nat → Nat} {g g' : Nat → List Nat} (h : PtOk r N P pt g) (h' : PtOk r' N P' pt' g') (hh : ∀ u v, u < N → v < N → pt' u = pt' v → pt u = pt v) : P ≤ P' := by
  let f : Nat → Nat := fun p => if hp : p < P then pt' (Classical.choose (h.full p hp)) else 0
  have hf : ∀ p, p < P → ∃ w, w < N ∧ pt w = p ∧ f p = pt' w := by
    intro p hp
    obtain ⟨h1, h2⟩ := Classical.choose_spec (h.full p hp)
    exact ⟨_, h1, h2, by show (if hp : p < P then _ else _) = _; rw [dif_pos hp]⟩
  have h1 : ((List.range P).map f).Nodup := map_nodup List.nodup_range fun x hx y hy e => by
    obtain ⟨u, a1, a2, a3⟩ := hf x (List.mem_range.1 hx)
    obtain ⟨v, b1, b2, b3⟩ := hf y (List.mem_range.1 hy)
    rw [← a2, ← b2]
    exact hh u v a1 b1 (by rw [← a3, ← b3, e])
  have h2 := nodup_le (P := P') h1 fun x hx => by
    obtain ⟨p, hp, rfl⟩ := List.mem_map.1 hx
    obtain ⟨u, a1, a2, a3⟩ := hf p (List.mem_range.1 hp)
    rw [a3]
    exact h'.lt u a1
  simpa using h2
def turn (es : List (Int × Int)) : List (Int × Int) := es.map fun e => (e.2, e.1)
theorem turn_adj {N u v : Nat} {es : List (Int × Int)} : v ∈ adj N (turn es) u ↔ u ∈ adj N es v := by
  unfold adj turn
  simp only [List.mem_filterMap, List.mem_map]
  constructor
  · rintro ⟨_, ⟨e, he, rfl⟩, h⟩
    split at h
    · rename_i hc
      simp only [Option.some.injEq] at h
      simp only [inb, Bool.and_eq_true, decide_eq_true_eq, beq_iff_eq] at hc
      refine ⟨e, he, ?_⟩
      rw [if_pos (by simp [inb]; omega), Option.some.injEq]
      omega
    · cases h
  · rintro ⟨e, he, h⟩
    split at h
    · rename_i hc
      simp only [Option.some.injEq] at h
      simp only [inb, Bool.and_eq_true, decide_eq_true_eq, beq_iff_eq] at hc
      refine ⟨_, ⟨e, he, rfl⟩, ?_⟩
      rw [if_pos (by simp [inb]; omega), Option.some.injEq]
      show e.1.toNat = v
      omega
    · cases h
theorem turn_rE {N u v : Nat} {es : List (Int × Int)} (hu : u < N) (hv : v < N) : rE N (turn es) u v = rE N es v u := by
  rw [Bool.eq_iff_iff, rE_iff hu, rE_iff hv]
  constructor
  · intro h
    exact h.flip.mono fun a b hab => turn_adj.1 hab
  · intro h
    exact h.flip.mono fun a b hab => turn_adj.2 hab
theorem turn_round {N : Nat} {es : List (Int × Int)} : roundOf N (turn es) = roundOf N es := by
  unfold roundOf
  congr 1
  · rw [Bool.eq_iff_iff, List.any_eq_true, List.any_eq_true]
    simp only [List.contains_iff_mem, turn_adj]
  · rw [Bool.eq_iff_iff]
    simp only [List.any_eq_true, List.mem_range, Bool.and_eq_true, bne_iff_ne, ne_eq]
    constructor
    · rintro ⟨u, hu, v, hv, hne, h1, h2⟩
      rw [turn_rE hu hv] at h1
      rw [turn_rE hv hu] at h2
      exact ⟨u, hu, v, hv, hne, h2, h1⟩
    · rintro ⟨u, hu, v, hv, hne, h1, h2⟩
      refine ⟨u, hu, v, hv, hne, ?_, ?_⟩
      · rw [turn_rE hu hv]; exact h2
      · rw [turn_rE hv hu]; exact h1
theorem turn_parts {N : Nat} {es : List (Int × Int)} (h : PartsFacts N es) (h' : PartsFacts N (turn es)) : (partsOf N es).length = (partsOf N (turn es)).length ∧ ∀ p ∈ partsOf N es, p ∈ partsOf N (turn es) := by
  obtain ⟨P, pt, ch, hP, h1, h2, h3, h4, h5, h6⟩ := h
  obtain ⟨P', pt', ch', hP', h1', h2', h3', h4', h5', h6'⟩ := h'
  have heq : ∀ u v, u < N → v < N → (pt' u = pt' v ↔ pt u = pt v) := by
    intro u v hu hv
    rw [hP'.eqv u v hu hv, hP.eqv u v hu hv, turn_rE hu hv, turn_rE hv hu]
    exact ⟨fun ⟨a, b⟩ => ⟨b, a⟩, fun ⟨a, b⟩ => ⟨b, a⟩⟩
  refine ⟨?_, ?_⟩
  · rw [h5, h5', List.length_map, List.length_map, h1, h1']
    exact Nat.le_antisymm (parts_le hP hP' fun u v hu hv => (heq u v hu hv).1) (parts_le hP' hP fun u v hu hv => (heq u v hu hv).2)
  · intro p hp
    rw [h5, List.mem_map] at hp
    rw [h5', List.mem_map]
    obtain ⟨q, hq, rfl⟩ := hp
    obtain ⟨w, hw, hwq⟩ := hP.full q (h2 q hq)
    refine ⟨pt' w, h4' _ (hP'.lt w hw), ?_⟩
    unfold Tar.mem
    refine List.filter_congr fun v hv => ?_
    have hv' := List.mem_range.1 hv
    rw [Bool.eq_iff_iff, beq_iff_eq, beq_iff_eq, heq v w hv' hw, hwq]
section
variable {H : Hp} {K : Value → Hp → Prop} {Z : List PanicEntry → Hp → Prop}
set_option maxRecDepth 10000 in
theorem lawTurned_ok {n : Int} {l : Sl} {es : List (Int × Int)} (h : Rd flE 2 H l es) (k : ∀ H', Fr no H H' → K (.bool true) H') : CallF Try.prog 8 #[.int .i64 n, .slice l.a l.n l.c] H K Z := by
  refine V8_ok ?_
  unfold V8
  have hln := h.len
  refine works_ok fun H1 f1 => ⟨_, rfl, (fun h => by cases h), fun _ => ⟨fun A => A = H1 ∧ es.length ≤ 200, ?_, ?_⟩⟩
  rotate_left
  · have hk := k H1 f1
    exact great_ok (h.more f1) ⟨_, rfl, fun _ => hk, fun h => by cases h⟩ fun hl => ⟨_, rfl, (fun h => by cases h), fun _ => ⟨fun _ => hk, fun _ => ⟨rfl, hl⟩⟩⟩
  rintro A ⟨rfl, hl⟩ scr
  refine ⟨fun m1 i B m => ∃ j : Nat, i = (j : Int) ∧ j ≤ es.length ∧ m = es.length - j ∧ Sym A no B [arr flE 45 2 m1 (turn (es.take j))], ⟨_, 0, rfl, Nat.zero_le _, rfl, (Sym.start A).nilrow flE 45 2⟩, ?_⟩
  rintro m1 i B m ⟨j, rfl, hj, rfl, hB⟩ scr1
  have em : m1.n = (turn (es.take j)).length := RowN.len FlE (by decide) (hB.get (k := 0) rfl)
  unfold turn at em
  rw [List.length_map, List.length_take] at em
  have fB := f1.trans hB.fr
  refine ⟨fun hlt => ?_, fun hge => ?_⟩
  · have hjl : j < es.length := by have := dlt hlt; omega
    have hx : es[j]? = some es[j] := List.getElem?_eq_getElem hjl
    have htk : es.take (j + 1) = es.take j ++ [es[j]] := List.take_succ_eq_append_getElem hjl
    generalize es[j] = e at hx htk
    have hA' := h.more fB
    refine hA'.ix (by decide) FlE (by omega) hx fun ad h1 _ => ⟨_, h1 1 _ rfl, hA'.ix (by decide) FlE (by omega) hx fun ad1 _ e0 => ⟨_, e0, fun b C hC => ?_⟩⟩
    refine hB.app1 (k := 0) (x := (e.2, e.1)) tyRE FlE (by decide) hC rfl (by omega) fun ap D hap hD => ⟨es.length - (j + 1), by omega, j + 1, wi (by omega), hjl, rfl, ?_⟩
    have : turn (es.take (j + 1)) = turn (es.take j) ++ [(e.2, e.1)] := by
      unfold turn
      rw [htk, List.map_append]
      rfl
    rw [this]
    exact hD
  have hjl : es.length ≤ j := by have := dge hge; omega
  rw [List.take_of_length_le hjl] at hB
  have hM := hB.rd (k := 0) FlE (by decide) rfl
  have htl : (turn es).length = es.length := by unfold turn; rw [List.length_map]
  refine edges_ok (h.more fB) (by omega) fun s C hC hs => ⟨s, rfl, ?_⟩
  refine parts_ok hs (by omega) fun p D hD hpf hp => ⟨p, rfl, ?_⟩
  have f2 := hC.trans hD
  refine edges_ok (hM.more f2) (by omega) fun s2 E hE hs2 => ⟨s2, rfl, ?_⟩
  refine parts_ok hs2 (by omega) fun q F hF hqf hq => ⟨q, rfl, ?_⟩
  have f3 := (f2.trans hE).trans hF
  have fF := fB.trans f3
  have hpF := (hp.more hE).more hF
  obtain ⟨tl, tm⟩ := turn_parts hpf hqf
  obtain ⟨pl1, pl2⟩ := parts_len (N := nOf n) (es := es) nOf_le
  have hpn := hp.len
  have hqn := hq.len
  refine ⟨fun G => Fr no F G, ?_, fun hne => ?_, fun _ => ?_⟩
  · intro G hG scr2
    have hpG := hpF.more hG
    have hqG := hq.more hG
    generalize partsOf (nOf n) es = a at *
    generalize partsOf (nOf n) (turn es) = b at *
    refine ⟨fun i A m => ∃ c : Nat, i = (c : Int) ∧ c ≤ a.length ∧ m = a.length - c ∧ Fr no G A, ⟨_, 0, rfl, Nat.zero_le _, rfl, Fr.refl _ _⟩, ?_⟩
    rintro i I m ⟨c, rfl, hc, rfl, hI⟩ scr3
    refine ⟨fun hlt => ?_, fun hge => k I ((fF.trans hG).trans hI)⟩
    have hca : c < a.length := by have := dlt hlt; omega
    have hx : a[c]? = some a[c] := List.getElem?_eq_getElem hca
    have hxm : a[c] ∈ b := tm _ (List.getElem_mem _)
    generalize a[c] = x at hx hxm
    refine ⟨fun fd i J m => ∃ d : Nat, i = (d : Int) ∧ d ≤ b.length ∧ m = b.length - d ∧ fd = decide (x ∈ b.take d) ∧ Fr no I J, ⟨_, 0, rfl, Nat.zero_le _, rfl, by simp, Fr.refl _ _⟩, ?_⟩
    rintro fd i J m ⟨d, rfl, hd, rfl, rfl, hJ⟩ scr4
    refine ⟨fun hlt => ?_, fun hge => ?_⟩
    · have hdb : d < b.length := by have := dlt hlt; omega
      have hy : b[d]? = some b[d] := List.getElem?_eq_getElem hdb
      have htk : b.take (d + 1) = b.take d ++ [b[d]] := List.take_succ_eq_append_getElem hdb
      have htd : (b.drop d).take 1 = [b[d]] := by
        rw [List.drop_eq_getElem_cons hdb]
        rfl
      generalize b[d] = y at hy htk htd
      refine ⟨fun ht => ⟨b.length - (d + 1), by omega, d + 1, wi (by omega), hdb, rfl, ?_, hJ⟩, fun hf => ?_⟩
      · have ht' : x ∈ b.take d := of_decide_eq_true ht
        rw [htk]
        simp [ht']
      · have hf' : x ∉ b.take d := of_decide_eq_false hf
        have hpJ := (hpG.more hI).more hJ
        have hqJ := (hqG.more hI).more hJ
        obtain ⟨sp, p1, p2, p3⟩ := hpJ
        obtain ⟨sq, q1, q2, q3⟩ := hqJ
        rw [wi (by omega), wi (by omega)]
        refine ⟨p1.le, ⟨by omega, by omega, by have := p1.le; omega⟩, q1.le, ⟨by omega, by omega, by have := q1.le; omega⟩, ?_⟩
        have c1 : RR flN 1 J (cut p.a p.c (c : Int).toNat ((c + 1 : Nat) : Int).toNat 1) [x] := by
          have hcs : c < sp.length := by omega
          refine ⟨[sp[c]], ?_, rfl, ?_⟩
          · have := p1.part FlS (lo := c) (hi := c + 1) (by omega) (by omega)
            rw [show c + 1 - c = 1 by omega, List.drop_eq_getElem_cons hcs] at this
            exact this
          · intro i si li hi hli
            cases i with
            | zero =>
              simp only [List.getElem?_cons_zero, Option.some.injEq] at hi hli
              subst hi hli
              exact p3 c _ _ (List.getElem?_eq_getElem hcs) hx
            | succ i => simp at hi
        have c2 : RR flN 1 J (cut q.a q.c (d : Int).toNat ((d + 1 : Nat) : Int).toNat 1) [y] := by
          have hds : d < sq.length := by omega
          refine ⟨[sq[d]], ?_, rfl, ?_⟩
          · have := q1.part FlS (lo := d) (hi := d + 1) (by omega) (by omega)
            rw [show d + 1 - d = 1 by omega, List.drop_eq_getElem_cons hds] at this
            exact this
          · intro i si li hi hli
            cases i with
            | zero =>
              simp only [List.getElem?_cons_zero, Option.some.injEq] at hi hli
              subst hi hli
              exact q3 d _ _ (List.getElem?_eq_getElem hds) hy
            | succ i => simp at hi
        refine same_ok c1 c2 (by simp) (fun z hz => by rw [List.mem_singleton.1 hz]; exact pl2 x (List.mem_of_getElem? hx)) ⟨_, rfl, b.length - (d + 1), by omega, d + 1, rfl, hdb, rfl, ?_, hJ⟩
        rw [htk]
        by_cases hxy : x = y
        · subst hxy; simp
        · simp [hf', hxy]
    · have hdb : b.length ≤ d := by have := dge hge; omega
      rw [List.take_of_length_le hdb, decide_eq_true hxm]
      exact ⟨(fun h => by cases h), fun _ => ⟨a.length - (c + 1), by omega, c + 1, wi (by omega), hca, rfl, hI.trans hJ⟩⟩
  · exfalso
    rw [hpn, hqn, tl] at hne
    simp at hne
  · refine edges_ok (h.more fF) (by omega) fun s3 G hG hs3 => ⟨s3, rfl, ?_⟩
    refine round_ok hs3 (by omega) fun I hI => ⟨_, rfl, ?_⟩
    have g1 := hG.trans hI
    refine edges_ok ((hM.more f3).more g1) (by omega) fun s4 J hJ hs4 => ⟨s4, rfl, ?_⟩
    refine round_ok hs4 (by omega) fun L hL => ⟨_, rfl, fun hne => ?_, fun _ => (g1.trans hJ).trans hL⟩
    rw [turn_round] at hne
    simp at hne

/-- all that less edges lead to -/
theorem adj_app {N v : Nat} {es es' : List (Int × Int)} : ∀ u, u ∈ adj N es v → u ∈ adj N (es ++ es') v := by
  intro u hu
  unfold adj at hu ⊢
  rw [List.filterMap_append, List.mem_append]
  exact .inl hu
theorem rE_app {N u v : Nat} {es es' : List (Int × Int)} (hu : u < N) (h : rE N es u v = true) : rE N (es ++ es') u v = true :=
  (rE_iff hu).2 (((rE_iff hu).1 h).mono fun a b hab => adj_app b hab)
theorem more_parts {N : Nat} {es es' : List (Int × Int)} (h : PartsFacts N es) (h' : PartsFacts N (es ++ es')) : (partsOf N (es ++ es')).length ≤ (partsOf N es).length := by
  obtain ⟨P, pt, ch, hP, h1, h2, h3, h4, h5, h6⟩ := h
  obtain ⟨P', pt', ch', hP', h1', h2', h3', h4', h5', h6'⟩ := h'
  rw [h5, h5', List.length_map, List.length_map, h1, h1']
  refine parts_le hP' hP fun u v hu hv he => ?_
  obtain ⟨a, b⟩ := (hP.eqv u v hu hv).1 he
  exact (hP'.eqv u v hu hv).2 ⟨rE_app hu a, rE_app hv b⟩
theorem more_round {N : Nat} {es es' : List (Int × Int)} (h : roundOf N es = true) : roundOf N (es ++ es') = true := by
  unfold roundOf at h ⊢
  rw [Bool.or_eq_true] at h ⊢
  rcases h with h | h
  · left
    rw [List.any_eq_true] at h ⊢
    obtain ⟨v, hv, h⟩ := h
    refine ⟨v, hv, ?_⟩
    rw [List.contains_iff_mem] at h ⊢
    exact adj_app v h
  · right
    simp only [List.any_eq_true, List.mem_range, Bool.and_eq_true, bne_iff_ne, ne_eq] at h ⊢
    obtain ⟨u, hu, v, hv, hne, h1, h2⟩ := h
    exact ⟨u, hu, v, hv, hne, rE_app hu h1, rE_app hv h2⟩
theorem filter_at {p : Nat → Bool} {b : List Nat} {j x : Nat} (hx : b[j]? = some x) (hp : p x = true) : (b.filter p)[((b.take j).filter p).length]? = some x := by
  obtain ⟨hj, rfl⟩ := List.getElem?_eq_some_iff.1 hx
  have e : b.filter p = (b.take j).filter p ++ (b.drop j).filter p := by rw [← List.filter_append, List.take_append_drop]
  rw [e, List.getElem?_append_right (Nat.le_refl _), Nat.sub_self, List.drop_eq_getElem_cons hj, List.filter_cons, if_pos hp]
  rfl
set_option maxRecDepth 10000 in
theorem lawMore_ok {n : Int} {l t : Sl} {es es' : List (Int × Int)} (h : Rd flE 2 H l es) (h' : Rd flE 2 H t es') (k : ∀ H', Fr no H H' → K (.bool true) H') : CallF Try.prog 11 #[.int .i64 n, .slice l.a l.n l.c, .slice t.a t.n t.c] H K Z := by
  refine V11_ok ?_
  unfold V11
  have hln := h.len
  have hln' := h'.len
  refine works_ok fun H1 f1 => ⟨_, rfl, (fun h => by cases h), fun _ => ⟨fun A => A = H1 ∧ es.length ≤ 200 ∧ es'.length ≤ 50 ∧ n ≤ 60, ?_, ?_⟩⟩
  rotate_left
  · have hk := k H1 f1
    refine great_ok (h.more f1) ⟨_, rfl, fun _ => hk, fun h => by cases h⟩ fun hl => ⟨_, rfl, (fun h => by cases h), fun _ => ⟨fun _ => hk, fun h1 => ⟨fun _ => hk, fun h2 => ⟨rfl, hl, ?_, ?_⟩⟩⟩⟩
    · have := of_decide_eq_false h1; omega
    · have := of_decide_eq_false h2; omega
  rintro A ⟨rfl, hl, hl', hn⟩ scr
  intro b0 B hB
  have hB1 := (Sym.start A).lit (fl := flE) (sz := 2) (l := []) (n := 0) FlE (by decide) hB rfl
  refine hB1.appR (k := 0) (s := ⟨some ⟨b0, 0, none⟩, 0, 0⟩) tyRE FlE (by decide) rfl ((h.more f1).more hB1.fr) (by show (0 + _) * _ ≤ _; omega) fun ap C hap hC0 => ?_
  have hC : Sym A no C [arr flE 45 2 ap es] := hC0
  have hapn : ap.n = es.length := by rw [hap]; show 0 + es.length = _; omega
  refine hC.appR (k := 0) tyRE FlE (by decide) rfl ((h'.more f1).more hC.fr) (by omega) fun ap1 D hap1 hD0 => ?_
  have hD : Sym A no D [arr flE 45 2 ap1 (es ++ es')] := hD0
  have hall := hD.rd (k := 0) FlE (by decide) rfl
  have fD := f1.trans hD.fr
  have hal : (es ++ es').length ≤ 1000 := by rw [List.length_append]; omega
  refine ⟨fun E => Fr no D E, ?_, ?_⟩
  · intro E fE scr1
    by_cases hn0 : n ≤ 0
    · refine ⟨fun i A m => A = E ∧ i = 0, ⟨0, rfl, rfl⟩, ?_⟩
      rintro i F m ⟨rfl, rfl⟩ scr2
      refine ⟨fun hlt => ?_, fun _ => k F (fD.trans fE)⟩
      have := of_decide_eq_true hlt
      omega
    obtain ⟨N, rfl⟩ : ∃ N : Nat, n = (N : Int) := ⟨n.toNat, by omega⟩
    have hNof : nOf (N : Int) = N := by rw [nOf_nat (by omega)]; omega
    refine ⟨fun i F m => ∃ c : Nat, i = (c : Int) ∧ c ≤ N ∧ m = N - c ∧ Fr no E F, ⟨_, 0, rfl, Nat.zero_le _, rfl, Fr.refl _ _⟩, ?_⟩
    rintro i F m ⟨c, rfl, hc, rfl, hF⟩ scr2
    have fF := (fD.trans fE).trans hF
    refine ⟨fun hlt => ?_, fun hge => k F fF⟩
    have hcN := dlt hlt
    refine edges_ok (h.more fF) (by omega) fun s1 G hG hs1 => ⟨s1, rfl, fun b1 I hI => ?_⟩
    have hI1 := (Sym.start G).lit (fl := flI) (sz := 1) (l := [(c : Int)]) (n := 1) FlI (by decide) hI rfl
    refine leads_ok (t := ⟨some ⟨b1, 0, none⟩, 1, 1⟩) (hs1.more hI.fr) (by omega) (hI1.rd (k := 0) FlI (by decide) rfl) (by simp) fun a J hJ ha => ⟨a, rfl, ?_⟩
    have fJ := (hG.trans hI.fr).trans hJ
    refine edges_ok (((hall.more fE).more hF).more fJ) (by omega) fun s2 L hL hs2 => ⟨s2, rfl, fun b2 M hM => ?_⟩
    have hM1 := (Sym.start L).lit (fl := flI) (sz := 1) (l := [(c : Int)]) (n := 1) FlI (by decide) hM rfl
    refine leads_ok (t := ⟨some ⟨b2, 0, none⟩, 1, 1⟩) (hs2.more hM.fr) hal (hM1.rd (k := 0) FlI (by decide) rfl) (by simp) fun b O hO hb => ⟨b, rfl, ?_⟩
    have fO := (hL.trans hM.fr).trans hO
    have ha' := ha.more fO
    rw [hNof] at ha' hb
    have hsub : leadsOf N es [(c : Int)] = (leadsOf N (es ++ es') [(c : Int)]).filter fun v => rE N es c v := by
      unfold leadsOf
      rw [List.filter_filter]
      refine List.filter_congr fun v _ => ?_
      have hin : inN N (c : Int) = true := by simp [inN, hcN]
      simp only [List.any_cons, List.any_nil, Bool.or_false, hin, Bool.true_and, Int.toNat_natCast]
      cases h1 : rE N es c v with
      | false => simp
      | true => rw [rE_app hcN h1]; rfl
    have han := ha'.len
    have hbn := hb.len
    have hlen := @leads_len N (es ++ es') [(c : Int)]
    generalize leadsOf N (es ++ es') [(c : Int)] = bl at *
    generalize leadsOf N es [(c : Int)] = al at *
    let p : Nat → Bool := fun v => rE N es c v
    have hal2 : al = bl.filter p := hsub
    have fl : ∀ j, ((bl.take j).filter p).length ≤ j := fun j => by
      have h1 := List.length_filter_le p (bl.take j)
      rw [List.length_take] at h1
      omega
    refine ⟨fun kk jj P m => ∃ j : Nat, P = O ∧ kk = (((bl.take j).filter p).length : Int) ∧ jj = (j : Int) ∧ j ≤ bl.length ∧ m = bl.length - j, ⟨_, 0, rfl, rfl, rfl, Nat.zero_le _, rfl⟩, ?_⟩
    rintro kk jj P m ⟨j, rfl, rfl, rfl, hj, rfl⟩ scr3
    have hflj := fl j
    have next : ∃ m3, m3 < N - c ∧ ∃ c' : Nat, w64 ((c : Int) + 1) = (c' : Int) ∧ c' ≤ N ∧ m3 = N - c' ∧ Fr no E P := ⟨N - (c + 1), by omega, c + 1, wi (by omega), hcN, rfl, (hF.trans fJ).trans fO⟩
    refine ⟨fun hlt => ⟨fun hlt2 => ?_, fun hge => ⟨fun hlt2 => ?_, fun _ => next⟩⟩, fun hge => ⟨fun hlt2 => ?_, fun _ => next⟩⟩
    · have hjb : j < bl.length := by have := dlt hlt; omega
      have hka : ((bl.take j).filter p).length < al.length := by have := dlt hlt2; omega
      have hx : bl[j]? = some bl[j] := List.getElem?_eq_getElem hjb
      have htk : bl.take (j + 1) = bl.take j ++ [bl[j]] := List.take_succ_eq_append_getElem hjb
      generalize bl[j] = x at hx htk
      have hy : al[((bl.take j).filter p).length]? = some (al[((bl.take j).filter p).length]'hka) := List.getElem?_eq_getElem _
      generalize al[((bl.take j).filter p).length]'hka = y at hy
      refine hb.ixn FlN hx fun ad e => ⟨_, e, ha'.ixn FlN hy fun ad1 e1 => ⟨_, e1, fun heq => ?_, fun hne => ?_⟩⟩
      · have heq' : x = y := by
          have : (x : Int) = (y : Int) := by simpa using heq
          omega
        have hpx : p x = true := by
          rw [heq']
          have hym : y ∈ bl.filter p := by rw [← hal2]; exact List.mem_of_getElem? hy
          exact (List.mem_filter.1 hym).2
        refine ⟨bl.length - (j + 1), by omega, j + 1, rfl, ?_, wi (by omega), hjb, rfl⟩
        rw [htk, List.filter_append]
        simp only [List.filter_cons, hpx, if_true, List.filter_nil, List.length_append, List.length_singleton]
        exact wi (by omega)
      · have hpx : p x = false := by
          cases hpx : p x with
          | false => rfl
          | true =>
            exfalso
            have := filter_at hx hpx
            rw [← hal2, hy] at this
            cases this
            simp at hne
        refine ⟨bl.length - (j + 1), by omega, j + 1, rfl, ?_, wi (by omega), hjb, rfl⟩
        rw [htk, List.filter_append]
        simp [hpx]
    · have := dge hge
      have := dlt hlt2
      omega
    · exfalso
      have hjb : bl.length ≤ j := by have := dge hge; omega
      rw [List.take_of_length_le hjb, ← hal2] at hlt2
      have := dlt hlt2
      omega
  · refine edges_ok hall (by omega) fun s1 E hE hs1 => ⟨s1, rfl, ?_⟩
    refine parts_ok hs1 hal fun p F hF hpf hp => ⟨p, rfl, ?_⟩
    have g1 := hE.trans hF
    refine edges_ok (h.more (fD.trans g1)) (by omega) fun s2 G hG hs2 => ⟨s2, rfl, ?_⟩
    refine parts_ok hs2 (by omega) fun q I hI hqf hq => ⟨q, rfl, ?_⟩
    have g2 := (g1.trans hG).trans hI
    refine ⟨fun hgt => ?_, fun _ => ?_⟩
    · exfalso
      have h1 := hp.len
      have h2 := hq.len
      have h3 := more_parts hqf hpf
      have := of_decide_eq_true hgt
      omega
    · refine edges_ok (h.more (fD.trans g2)) (by omega) fun s3 J hJ hs3 => ⟨s3, rfl, ?_⟩
      refine round_ok hs3 (by omega) fun L hL => ⟨_, rfl, fun ht => ?_, fun _ => (g2.trans hJ).trans hL⟩
      have g3 := (g2.trans hJ).trans hL
      refine edges_ok (hall.more g3) (by omega) fun s4 M hM hs4 => ⟨s4, rfl, ?_⟩
      refine round_ok hs4 hal fun O hO => ⟨_, rfl, fun hf => ?_, fun _ => (g3.trans hM).trans hO⟩
      exfalso
      rw [more_round ht] at hf
      cases hf
end
end Go.Proofs.Ytoigfahdgphpdaa.L7

