/- tarjan: Parts, walked. -/
import Derived.Test.YtoigfahdgphpdaaC7P
set_option linter.unusedVariables false
set_option linter.unusedSimpArgs false
-- tInt: 3
-- tInts: 42
-- tIntss: 38
-- tBool: 4
-- tStep: 131
-- tSearch: 104
-- parts: 22
namespace Go.Proofs.Ytoigfahdgphpdaa.C7
open Go Go.V Go.Proofs Go.Proofs.Ytoigfahdgphpdaa.N07 Go.Tar
attribute [local irreducible] Cvt ExtF CallF hrun App MkS
section
variable {H : Hp} {K : Value → Hp → Prop} {Z : List PanicEntry → Hp → Prop}
theorem ptok {N : Nat} {es : List (Int × Int)} {s : St} (hI : Inv N (adj N es) s) (hst : s.steps = []) (hvis : ∀ v, v < N → s.num v ≠ 0) : PtOk (rE N es) N s.parts s.pt (adj N es) := by
  obtain ⟨f1, f2, f3, f4, f5⟩ := hI.final hst hvis
  refine ⟨fun u v hu hv => ?_, f2, f3, f4, f5, fun u v hv => adj_lt hv, fun u v hu hv => rE_iff hu⟩
  rw [f1 u v hu hv, rE_iff hu, rE_iff hv]
abbrev ro (s : Sl) (ss : List Sl) (ls : List (List Nat)) : It := rows2 flN 42 3 1 none s ss ls
set_option maxRecDepth 20000 in
theorem parts_ok {n : Int} {l : Sl} {es : List (Int × Int)} (h : Rd flE 2 H l es) (hl : es.length ≤ 1000)
    (k : ∀ s H', Fr no H H' → PartsFacts (nOf n) es → RR flN 1 H' s (partsOf (nOf n) es) → K (.slice s.a s.n s.c) H') : CallF Try.prog 22 #[.int .i64 n, .slice l.a l.n l.c] H K Z := by
  refine V22_ok ?_
  unfold V22
  refine made_ok h (by omega) fun G ssG H1 hG0 hGn => ?_
  have hG1 : Sym H no H1 [ro G ssG (adjs (nOf n) es)] := hG0
  have hGn' : G.n = nOf n := hGn
  clear hG0 hGn
  refine ⟨G, rfl, ?_⟩
  have hok1 : Rows2 flN 42 3 1 none H1 G ssG (adjs (nOf n) es) := hG1.get (k := 0) rfl
  refine run_ok hok1 nOf_le hl fun b q s H2 hS hI hst hvis => ?_
  have hP := ptok hI hst hvis
  have hN : nOf n ≤ 20000 := nOf_le
  have hPle := hP.le
  generalize nOf n = N at *
  have hgl : ssG.length = N := by rw [hok1.len, adjs_len]
  have h2 : Sym H no H2 (SR N b G q s ++ [ro G ssG (adjs N es)]) := hG1.join hS
  refine ⟨_, rfl, ?_⟩
  refine ⟨_, by rw [add_mk]; exact h2.ld (k := 0) rfl 6, ?_⟩
  refine h2.make tyII FlS (zt := ⟨none, 0, 0⟩) rfl rfl (by omega) fun mk H3 hmk _ _ h3 => ?_
  have h3' := h3.none2 (fl := flN) (sz := 1) (E2 := 3)
  rw [mp_rep (N := s.parts) (f := pre N s.pt 0) fun _ => rfl] at h3'
  refine ⟨q.e, by rw [add_mk]; exact h3'.ld (k := 1) rfl 5, ?_⟩
  have e5 : q.e.n = N := by have := RowN.len FlN (by decide) (h3'.get (k := 6) rfl); rw [this]; simp [mp]
  -- the members
  refine ⟨fun t A m => ∃ (j : Nat) (ss : List Sl), t = (j : Int) ∧ j ≤ N ∧ m = N - j ∧ Sym H no A (ro mk ss (mp s.parts (pre N s.pt j)) :: (SR N b G q s ++ [ro G ssG (adjs N es)])), ⟨_, 0, _, rfl, Nat.zero_le _, rfl, h3'⟩, ?_⟩
  clear h3 h3'
  rintro t A m ⟨j, ssM, rfl, hj, rfl, hA⟩ scr
  refine ⟨fun hlt => ?_, fun hge => ?_⟩
  · have hjN : j < N := by have := dlt hlt; omega
    refine (hA.rd (k := 6) FlN (by decide) rfl).ixn FlN (mp_get hjN) fun ad ea => ⟨_, ea, ?_⟩
    have hpj := hP.lt j hjN
    have hok : Rows2 flN 42 3 1 none A mk ssM (mp s.parts (pre N s.pt j)) := hA.get (k := 0) rfl
    have hlen : ssM.length = s.parts := by rw [hok.len]; simp [mp]
    have hs : ssM[s.pt j]? = some (ssM[s.pt j]'(by omega)) := List.getElem?_eq_getElem _
    generalize ssM[s.pt j]'(by omega) = si at hs
    refine (hok.rd FlN (by decide)).1.ixn FlS hs fun ad2 e2 => ⟨si, e2, fun b1 B hB => ?_⟩
    refine app_in hA hs (mp_get hpj) hB (by have := @pre_le N j (s.pt j) s.pt; omega) fun ap C _ hst => hst _ fun D ss' hD => ?_
    refine ⟨N - (j + 1), by omega, j + 1, ss', wi (by omega), hjN, rfl, ?_⟩
    have e : (mp s.parts (pre N s.pt j)).set (s.pt j) (pre N s.pt j (s.pt j) ++ [j]) = mp s.parts (pre N s.pt (j + 1)) := by
      rw [mp_set]
      congr 1
      funext p
      rw [pre_succ]
      by_cases hp : p = s.pt j
      · subst hp; rw [upd_self, if_pos rfl]
      · rw [upd_ne hp, if_neg (Ne.symm hp)]
    rw [← e]
    exact hD
  have hge' : j = N := by have := dge hge; omega
  subst hge'
  have em : pre j s.pt j = Tar.mem s.pt j := rfl
  rw [em] at hA
  clear hge hj em
  -- who leads to whom
  refine ⟨_, by rw [add_mk]; exact hA.ld (k := 1) rfl 6, ?_⟩
  refine hA.make tyII FlS (zt := ⟨none, 0, 0⟩) rfl rfl (by omega) fun mk1 B hmk1 _ _ hB0 => ?_
  have hB := hB0.none2 (fl := flN) (sz := 1) (E2 := 3)
  rw [mp_rep (N := s.parts) (f := fun _ : Nat => ([] : List Nat)) fun _ => rfl] at hB
  refine ⟨_, by rw [add_mk]; exact hB.ld (k := 2) rfl 6, ?_⟩
  refine hB.make tyI FlI (zt := 0) rfl rfl (by omega) fun mk2 C hmk2 _ _ hC0 => ?_
  have hld0 : LdOk s.pt (fun u v => u < 0 ∧ v ∈ adj j es u) fun _ => [] := ⟨fun p q => by simp, fun q => by simp⟩
  have hC : Sym H no C (arr flI 3 1 mk2 (mp s.parts (opn s.parts (fun _ => []) fun _ => false)) :: ro mk1 (List.replicate s.parts ⟨none, 0, 0⟩) (mp s.parts fun _ => []) :: ro mk ssM (mp s.parts (Tar.mem s.pt j)) :: (SR j b G q s ++ [ro G ssG (adjs j es)])) := by
    have e : (List.replicate s.parts (0 : Int)) = mp s.parts (opn s.parts (fun _ => []) fun _ => false) := mp_rep fun v => by
      unfold opn
      rw [if_neg (by simp), cnt_zero.2 fun v _ => by simp]
      rfl
    rw [← e]
    exact hC0
  clear hB hB0 hC0
  refine ⟨q.e, by rw [add_mk]; exact hC.ld (k := 3) rfl 5, ?_⟩
  refine ⟨fun t A m => ∃ (i : Nat) (ssL : List Sl) (ld : Nat → List Nat), t = (i : Int) ∧ i ≤ j ∧ m = j - i ∧ LdOk s.pt (fun u v => u < i ∧ v ∈ adj j es u) ld ∧
      Sym H no A (arr flI 3 1 mk2 (mp s.parts (opn s.parts ld fun _ => false)) :: ro mk1 ssL (mp s.parts ld) :: ro mk ssM (mp s.parts (Tar.mem s.pt j)) :: (SR j b G q s ++ [ro G ssG (adjs j es)])), ⟨_, 0, _, _, rfl, Nat.zero_le _, rfl, hld0, hC⟩, ?_⟩
  clear hC hld0
  rintro t D m ⟨i, ssL, ld, rfl, hi, rfl, hld, hD⟩ scr1
  refine ⟨fun hlt => ?_, fun hge => ?_⟩
  · have hiN : i < j := by have := dlt hlt; omega
    refine (hD.rd (k := 8) FlN (by decide) rfl).ixn FlN (mp_get hiN) fun ad8 e8 => ⟨_, e8, ?_⟩
    have hsi : ssG[i]? = some (ssG[i]'(by omega)) := List.getElem?_eq_getElem _
    generalize ssG[i]'(by omega) = si at hsi
    have hokG : Rows2 flN 42 3 1 none D G ssG (adjs j es) := hD.get (k := 10) rfl
    refine (hokG.rd FlN (by decide)).1.ixn FlS hsi fun ad9 e9 => ⟨si, e9, ?_⟩
    have hsil : si.n = (adj j es i).length := ((hokG.rd FlN (by decide)).2 i si _ hsi (adjs_get hiN)).len
    refine ⟨fun t A m => ∃ (c : Nat) (ssL : List Sl) (ld : Nat → List Nat), t = (c : Int) ∧ c ≤ (adj j es i).length ∧ m = (adj j es i).length - c ∧ LdOk s.pt (fun u v => (u < i ∧ v ∈ adj j es u) ∨ (u = i ∧ v ∈ (adj j es i).take c)) ld ∧
        Sym H no A (arr flI 3 1 mk2 (mp s.parts (opn s.parts ld fun _ => false)) :: ro mk1 ssL (mp s.parts ld) :: ro mk ssM (mp s.parts (Tar.mem s.pt j)) :: (SR j b G q s ++ [ro G ssG (adjs j es)])), ⟨_, 0, ssL, ld, rfl, Nat.zero_le _, rfl, hld.congr fun u v => by simp, hD⟩, ?_⟩
    clear hD hld
    clear ssL ld
    rintro t E m ⟨c, ssL, ld, rfl, hc, rfl, hld, hE⟩ scr2
    have hael := @adj_le j i es
    refine ⟨fun hlt2 => ?_, fun hge2 => ?_⟩
    · have hcl : c < (adj j es i).length := by have := dlt hlt2; omega
      obtain ⟨u, hu⟩ : ∃ u, (adj j es i)[c]? = some u := ⟨_, List.getElem?_eq_getElem hcl⟩
      have huN : u < j := adj_lt (List.mem_of_getElem? hu)
      have htake : (adj j es i).take (c + 1) = (adj j es i).take c ++ [u] := by
        rw [List.take_succ_eq_append_getElem hcl]
        congr 2
        rw [List.getElem?_eq_getElem hcl] at hu
        exact Option.some.inj hu
      have hW : ∀ a d, ((a < i ∧ d ∈ adj j es a) ∨ (a = i ∧ d ∈ (adj j es i).take c)) ∨ (a = i ∧ d = u) ↔ ((a < i ∧ d ∈ adj j es a) ∨ (a = i ∧ d ∈ (adj j es i).take (c + 1))) := by
        intro a d
        rw [htake, List.mem_append, List.mem_singleton]
        constructor
        · rintro ((h | ⟨h1, h2⟩) | ⟨h1, h2⟩)
          · exact .inl h
          · exact .inr ⟨h1, .inl h2⟩
          · exact .inr ⟨h1, .inr h2⟩
        · rintro (h | ⟨h1, h2 | h2⟩)
          · exact .inl (.inl h)
          · exact .inl (.inr ⟨h1, h2⟩)
          · exact .inr ⟨h1, h2⟩
      have hokG : Rows2 flN 42 3 1 none E G ssG (adjs j es) := hE.get (k := 10) rfl
      have rsi := (hokG.rd FlN (by decide)).2 i si _ hsi (adjs_get hiN)
      refine rsi.ixn FlN hu fun ad10 e10 => ⟨_, e10, q.e, by rw [add_mk]; exact hE.ld (k := 3) rfl 5, ?_⟩
      refine (hE.rd (k := 8) FlN (by decide) rfl).ixn FlN (mp_get huN) fun ad12 e12 => ⟨_, e12, fun hne => ?_, fun heq => ?_⟩
      · have hne' : s.pt i ≠ s.pt u := by
          intro hc
          rw [hc] at hne
          simp at hne
        have hpu := hP.lt u huN
        have hpi := hP.lt i hiN
        have hokL : Rows2 flN 42 3 1 none E mk1 ssL (mp s.parts ld) := hE.get (k := 1) rfl
        have hlenL : ssL.length = s.parts := by rw [hokL.len]; simp [mp]
        have hsL : ssL[s.pt u]? = some (ssL[s.pt u]'(by omega)) := List.getElem?_eq_getElem _
        generalize ssL[s.pt u]'(by omega) = sL at hsL
        have hldl : (ld (s.pt u)).length ≤ s.parts := by
          refine ld_le (N := s.parts) hld ?_ _
          rintro a d (⟨h1, _⟩ | ⟨h1, _⟩)
          · exact hP.lt a (by omega)
          · rw [h1]; exact hpi
        have rL := (hokL.rd FlN (by decide)).2 (s.pt u) sL (ld (s.pt u)) hsL (mp_get hpu)
        refine (hokL.rd FlN (by decide)).1.ixn FlS hsL fun ad13 e13 => ⟨sL, e13, ?_⟩
        refine contains_ok rL (by omega) ⟨_, rfl, fun hno => ?_, fun hyes => ?_⟩
        · have hno' : s.pt i ∉ ld (s.pt u) := by simpa using hno
          refine (hokL.rd FlN (by decide)).1.ixn FlS hsL fun ad14 e14 => ⟨sL, e14, fun b1 F hF => ?_⟩
          have hE2 := hE.re [1, 0, 2, 3, 4, 5, 6, 7, 8, 9, 10] (by decide)
          have hE3 : Sym H no E (ro mk1 ssL (mp s.parts ld) :: arr flI 3 1 mk2 (mp s.parts (opn s.parts ld fun _ => false)) :: ro mk ssM (mp s.parts (Tar.mem s.pt j)) :: (SR j b G q s ++ [ro G ssG (adjs j es)])) := hE2
          refine app_in hE3 hsL (mp_get hpu) hF (by omega) fun ap I _ hst => hst _ fun J ss' hJ => ?_
          refine (hJ.rd (k := 1) FlI (by decide) rfl).ixn FlI (mp_get hpi) fun ad16 e16 => ⟨_, e16, ?_⟩
          have hop : opn s.parts ld (fun _ => false) (s.pt i) ≤ (s.parts : Int) ∧ 0 ≤ opn s.parts ld (fun _ => false) (s.pt i) := by
            unfold opn
            rw [if_neg (by simp)]
            have := cnt_le (f := fun q => !false && decide (s.pt i ∈ ld q)) s.parts
            constructor
            · exact Int.ofNat_le.2 this
            · omega
          rw [wid (by omega) (by omega)]
          refine hJ.stn (k := 1) (y := opn s.parts ld (fun _ => false) (s.pt i) + 1) FlI rfl (mp_get hpi) rfl fun L hL => ?_
          refine ⟨(adj j es i).length - (c + 1), by omega, c + 1, ss', upd ld (s.pt u) (ld (s.pt u) ++ [s.pt i]), wi (by omega), hcl, rfl, (hld.put hne' hno').congr hW, ?_⟩
          rw [opn_put (fun _ => rfl) hpu hno', ← mp_set, ← mp_set]
          exact hL.re [1, 0, 2, 3, 4, 5, 6, 7, 8, 9, 10] (by decide)
        · have hyes' : s.pt i ∈ ld (s.pt u) := by simpa using hyes
          exact ⟨(adj j es i).length - (c + 1), by omega, c + 1, ssL, ld, wi (by omega), hcl, rfl, (hld.skip (.inr hyes')).congr hW, hE⟩
      · have heq' : s.pt i = s.pt u := by
          have : ((s.pt u : Nat) : Int) = ((s.pt i : Nat) : Int) := by simpa using heq
          omega
        exact ⟨(adj j es i).length - (c + 1), by omega, c + 1, ssL, ld, wi (by omega), hcl, rfl, (hld.skip (.inl heq')).congr hW, hE⟩
    · have hge2' := dge hge2
      have htk : (adj j es i).take c = adj j es i := List.take_of_length_le (by omega)
      refine ⟨j - (i + 1), by omega, i + 1, ssL, ld, wi (by omega), hiN, rfl, hld.congr fun u v => ?_, hE⟩
      rw [htk]
      constructor
      · rintro (⟨h1, h2⟩ | ⟨rfl, h2⟩)
        · exact ⟨by omega, h2⟩
        · exact ⟨by omega, h2⟩
      · rintro ⟨h1, h2⟩
        by_cases hui : u = i
        · subst hui; exact .inr ⟨rfl, h2⟩
        · exact .inl ⟨by omega, h2⟩
  have hge' : i = j := by have := dge hge; omega
  subst hge'
  clear hge hi
  -- one by one
  refine ⟨_, by rw [add_mk]; exact hD.ld (k := 3) rfl 6, ?_⟩
  have hokM : Rows2 flN 42 3 1 none D mk ssM (mp s.parts (Tar.mem s.pt i)) := hD.get (k := 2) rfl
  have hlenM : ssM.length = s.parts := by rw [hokM.len]; simp [mp]
  have hokL : Rows2 flN 42 3 1 none D mk1 ssL (mp s.parts ld) := hD.get (k := 1) rfl
  have hlenL : ssL.length = s.parts := by rw [hokL.len]; simp [mp]
  have hiff : ∀ p q, p ∈ ld q ↔ p ≠ q ∧ ∃ u v, (u < i ∧ v ∈ adj i es u) ∧ s.pt u = p ∧ s.pt v = q := hld.iff
  -- nothing more that a part leads to: no other counted
  have hop0 : ∀ (D' : Nat → Bool) p, p < s.parts → D' p = false → (opn s.parts ld D' p = 0 ↔ Tar.Op i s.pt (adj i es) D' p) := by
    intro D' p hp hd
    unfold opn
    rw [if_neg (by rw [hd]; simp)]
    constructor
    · intro hz u hu hup v hv
      have hz' : cnt (fun q => !D' q && decide (p ∈ ld q)) s.parts = 0 := by omega
      have := cnt_zero.1 hz' (s.pt v) (hP.lt v (adj_lt hv))
      by_cases hc : s.pt v = p
      · exact .inl hc
      · right
        have hin : p ∈ ld (s.pt v) := (hiff p (s.pt v)).2 ⟨fun e => hc e.symm, u, v, ⟨hu, hv⟩, hup, rfl⟩
        simpa [hin] using this
    · intro ho
      rw [cnt_zero.2 fun q' hq' => ?_]
      · rfl
      cases hd' : D' q' with
      | true => simp
      | false =>
        by_cases hin : p ∈ ld q'
        · obtain ⟨hne, u, v, ⟨hu, hv⟩, hup, hvq⟩ := (hiff p q').1 hin
          rcases ho u hu hup v hv with h1 | h1
          · exact absurd (by rw [← hvq, h1]) hne
          · rw [hvq, hd'] at h1; cases h1
        · simp [hin]
  have hopb : ∀ (D' : Nat → Bool) p, -1 ≤ opn s.parts ld D' p ∧ opn s.parts ld D' p ≤ (s.parts : Int) := by
    intro D' p
    unfold opn
    split
    · omega
    · have := cnt_le (f := fun q => !D' q && decide (p ∈ ld q)) s.parts
      omega
  let ms : List Nat → List Sl := fun ch => ch.filterMap fun p => ssM[p]?
  have hmsl : ∀ ch : List Nat, (∀ p ∈ ch, p < s.parts) → (ms ch).length = ch.length := by
    intro ch
    induction ch with
    | nil => intro _; rfl
    | cons p ch ih =>
      intro hc
      have hp : ssM[p]? = some (ssM[p]'(by rw [hlenM]; exact hc p List.mem_cons_self)) := List.getElem?_eq_getElem _
      show (List.filterMap _ (p :: ch)).length = _
      rw [List.filterMap_cons, hp]
      simp only [List.length_cons]
      exact congrArg (· + 1) (ih fun x hx => hc x (List.mem_cons_of_mem _ hx))
  have hD1 := hD.nilrow flS 42 1
  let r := rE i es
  refine ⟨fun out t A m => ∃ (c : Nat) (ch : List Nat) (D' : Nat → Bool) (dn : Nat → Bool), t = (c : Int) ∧ c ≤ s.parts ∧ m = s.parts - c ∧ ch.length = c ∧ (∀ p ∈ ch, p < s.parts) ∧ (∀ v, v < i → dn v = D' (s.pt v)) ∧ (∀ p, p < s.parts → D' p = true → Tar.Op i s.pt (adj i es) D' p) ∧ cnt D' s.parts = c ∧ (∀ p, D' p = true ↔ p ∈ ch) ∧ ch.Nodup ∧ OrdOk i s.pt (adj i es) ch ∧
      (∀ k, bld r i (c + k) (fun _ => false) = ch.map (Tar.mem s.pt i) ++ bld r i k dn) ∧
      Sym H no A (arr flS 42 1 out (ms ch) :: arr flI 3 1 mk2 (mp s.parts (opn s.parts ld D')) :: ro mk1 ssL (mp s.parts ld) :: ro mk ssM (mp s.parts (Tar.mem s.pt i)) :: (SR i b G q s ++ [ro G ssG (adjs i es)])),
    ⟨_, 0, [], fun _ => false, fun _ => false, rfl, Nat.zero_le _, rfl, rfl, by simp, fun _ _ => rfl, by simp, cnt_zero.2 fun _ _ => rfl, by simp, by simp, fun a p b e => by simp at e, fun k => by simp, hD1⟩, ?_⟩
  clear hD1 hD hokM hokL
  rintro out t A1 m ⟨c, ch, D', dn, rfl, hc, rfl, hcl, hch, hdn, hDo, hcnt, hDch, hchn, hord, hbld, hA1⟩ scr2
  refine ⟨fun hlt => ?_, fun hge => ?_⟩
  rotate_left
  · -- all told
    have hge' : c = s.parts := by have := dge hge; omega
    have hall := cnt_all (f := D') (n := s.parts) (by omega)
    have hnone : pck r i dn = none := pck_none fun v hv => .inl (by rw [hdn v hv]; exact hall _ (hP.lt v hv))
    have hfin : partsOf i es = ch.map (Tar.mem s.pt i) := by
      have := hbld (i - s.parts)
      rw [bld_none hnone, List.append_nil, hge', show s.parts + (i - s.parts) = i by omega] at this
      exact this
    refine k out A1 hA1.fr ⟨s.parts, s.pt, ch, hP, by omega, hch, hchn, fun p hp => (hDch p).1 (hall p hp), hfin, hord⟩ ?_
    rw [hfin]
    have hokM : Rows2 flN 42 3 1 none A1 mk ssM (mp s.parts (Tar.mem s.pt i)) := hA1.get (k := 3) rfl
    refine ⟨ms ch, hA1.rd (k := 0) FlS (by decide) rfl, by rw [hmsl ch hch, List.length_map], ?_⟩
    have key : ∀ (ch : List Nat), (∀ p ∈ ch, p < s.parts) → ∀ (a : Nat) (si : Sl) (li : List Nat), (ms ch)[a]? = some si → (ch.map (Tar.mem s.pt i))[a]? = some li → Rd flN 1 A1 si li := by
      intro ch
      induction ch with
      | nil => intro _ a si li h1 _; simp [ms] at h1
      | cons p ch ih =>
        intro hc a si li h1 h2
        have hpl := hc p List.mem_cons_self
        have hp : ssM[p]? = some (ssM[p]'(by rw [hlenM]; exact hpl)) := List.getElem?_eq_getElem _
        have hms : ms (p :: ch) = ssM[p]'(by rw [hlenM]; exact hpl) :: ms ch := by
          show List.filterMap _ (p :: ch) = _
          rw [List.filterMap_cons, hp]
        rw [hms] at h1
        cases a with
        | zero =>
          simp only [List.getElem?_cons_zero, Option.some.injEq, List.map_cons] at h1 h2
          rw [← h1, ← h2]
          exact (hokM.rd FlN (by decide)).2 p _ _ hp (mp_get hpl)
        | succ a =>
          rw [List.getElem?_cons_succ] at h1
          rw [List.map_cons, List.getElem?_cons_succ] at h2
          exact ih (fun x hx => hc x (List.mem_cons_of_mem _ hx)) a si li h1 h2
    exact key ch hch
  have hclt := dlt hlt
  refine ⟨_, by rw [add_mk]; exact hA1.ld (k := 4) rfl 6, ?_⟩
  -- a part's first member
  have hfirst : ∀ p, p < s.parts → ∃ v l, Tar.mem s.pt i p = v :: l := fun p hp => mem_pos hP hp
  let fs : Nat → Nat := fun p => (Tar.mem s.pt i p).headD 0
  have hfs : ∀ p v l, Tar.mem s.pt i p = v :: l → fs p = v := fun p v l hm => by show (Tar.mem s.pt i p).headD 0 = v; rw [hm]; rfl
  let cand : Nat → Prop := fun p => D' p = false ∧ opn s.parts ld D' p = 0
  have hcand : ∀ p, p < s.parts → (opn s.parts ld D' p = 0 ↔ cand p) := by
    intro p hp
    constructor
    · intro hz
      refine ⟨?_, hz⟩
      cases hd : D' p with
      | false => rfl
      | true =>
        unfold opn at hz
        rw [if_pos hd] at hz
        cases hz
    · exact fun h => h.2
  refine ⟨fun best t B m => ∃ a : Nat, B = A1 ∧ t = (a : Int) ∧ a ≤ s.parts ∧ m = s.parts - a ∧ ((best = -1 ∧ ∀ p, p < a → ¬ cand p) ∨ ∃ p : Nat, best = (p : Int) ∧ p < a ∧ cand p ∧ ∀ q, q < a → cand q → fs p ≤ fs q), ⟨_, 0, rfl, rfl, Nat.zero_le _, rfl, .inl ⟨rfl, fun p hp => by omega⟩⟩, ?_⟩
  rintro best t B m ⟨a, rfl, rfl, ha, rfl, hbest⟩ scr3
  have hokM : Rows2 flN 42 3 1 none B mk ssM (mp s.parts (Tar.mem s.pt i)) := hA1.get (k := 3) rfl
  have hokL : Rows2 flN 42 3 1 none B mk1 ssL (mp s.parts ld) := hA1.get (k := 2) rfl
  have ixM : ∀ (p : Nat) (K' : Addr → Prop), p < s.parts → (∀ (ad : Addr) (si : Sl), ssM[p]? = some si → Rd flN 1 B si (Tar.mem s.pt i p) → hcell B ad = some (.slice si.a si.n si.c) → K' ad) → IxA mk.a mk.n (p : Int) 1 K' := by
    intro p K' hp hK
    have hs : ssM[p]? = some (ssM[p]'(by omega)) := List.getElem?_eq_getElem _
    exact (hokM.rd FlN (by decide)).1.ixn FlS hs fun ad e => hK ad _ hs ((hokM.rd FlN (by decide)).2 p _ _ hs (mp_get hp)) e
  have ixF : ∀ (p : Nat) (K' : Addr → Prop), p < s.parts → (∀ (ad : Addr) (si : Sl), hcell B ad = some (.slice si.a si.n si.c) → (∀ K2 : Addr → Prop, (∀ ad2, hcell B ad2 = some (.int .i64 (fs p : Int)) → K2 ad2) → IxA si.a si.n 0 1 K2) → K' ad) → IxA mk.a mk.n (p : Int) 1 K' := by
    intro p K' hp hK
    obtain ⟨v, l, hm⟩ := hfirst p hp
    refine ixM p K' hp fun ad si _ hr e => hK ad si e fun K2 hK2 => ?_
    rw [hm] at hr
    exact hr.ixn (i := 0) FlN rfl fun ad2 e2 => hK2 ad2 (by rw [hfs p v l hm]; exact e2)
  refine ⟨fun hlt2 => ?_, fun hge2 => ?_⟩
  · have halt := dlt hlt2
    refine (hA1.rd (k := 1) FlI (by decide) rfl).ixn FlI (mp_get halt) fun ad20 e20 => ⟨_, e20, fun hz => ?_, fun hz => ?_⟩
    · have hz' : cand a := (hcand a halt).1 (by simpa using hz)
      have new : (∀ q, q < a → cand q → fs a ≤ fs q) → ∃ m2, m2 < s.parts - a ∧ ∃ a' : Nat, B = B ∧ w64 ((a : Int) + 1) = (a' : Int) ∧ a' ≤ s.parts ∧ m2 = s.parts - a' ∧ ((((a : Nat) : Int) = -1 ∧ ∀ p, p < a' → ¬ cand p) ∨ ∃ p : Nat, ((a : Nat) : Int) = (p : Int) ∧ p < a' ∧ cand p ∧ ∀ q, q < a' → cand q → fs p ≤ fs q) := by
        intro hmin
        refine ⟨s.parts - (a + 1), by omega, a + 1, rfl, wi (by omega), halt, rfl, .inr ⟨a, rfl, by omega, hz', fun q hq hcq => ?_⟩⟩
        by_cases hqa : q = a
        · subst hqa; exact Nat.le_refl _
        · exact hmin q (by omega) hcq
      refine ⟨fun hneg => ?_, fun hpos => ?_⟩
      · have hneg' : best < 0 := of_decide_eq_true hneg
        refine new fun q hq hcq => ?_
        rcases hbest with ⟨_, hno⟩ | ⟨p, hp, _⟩
        · exact absurd hcq (hno q hq)
        · omega
      · have hpos' : ¬ best < 0 := of_decide_eq_false hpos
        rcases hbest with ⟨hb, _⟩ | ⟨p, rfl, hpa, hcp, hmin⟩
        · omega
        refine ixF a _ halt fun ad21 si e21 h21 => ⟨si, e21, h21 _ fun ad22 e22 => ⟨_, e22, ixF p _ (by omega) fun ad23 sj e23 h23 => ⟨sj, e23, h23 _ fun ad24 e24 => ⟨_, e24, fun hless => ?_, fun hless => ?_⟩⟩⟩⟩
        · have hless' := dlt hless
          exact new fun q hq hcq => Nat.le_trans (Nat.le_of_lt hless') (hmin q hq hcq)
        · have hless' := dge hless
          refine ⟨s.parts - (a + 1), by omega, a + 1, rfl, wi (by omega), halt, rfl, .inr ⟨p, rfl, by omega, hcp, fun q hq hcq => ?_⟩⟩
          by_cases hqa : q = a
          · subst hqa; exact hless'
          · exact hmin q (by omega) hcq
    · have hz' : ¬ cand a := fun hc => by
        have : opn s.parts ld D' a = 0 := hc.2
        rw [this] at hz
        simp at hz
      refine ⟨s.parts - (a + 1), by omega, a + 1, rfl, wi (by omega), halt, rfl, ?_⟩
      rcases hbest with ⟨hb, hno⟩ | ⟨p, hb, hpa, hcp, hmin⟩
      · refine .inl ⟨hb, fun p hp => ?_⟩
        by_cases hpa : p = a
        · subst hpa; exact hz'
        · exact hno p (by omega)
      · refine .inr ⟨p, hb, by omega, hcp, fun q hq hcq => ?_⟩
        by_cases hqa : q = a
        · subst hqa; exact absurd hcq hz'
        · exact hmin q (by omega) hcq
  have hge2' : a = s.parts := by have := dge hge2; omega
  subst hge2'
  obtain ⟨p, rfl, hpP, hcp, hmin⟩ : ∃ p : Nat, best = ((p : Nat) : Int) ∧ p < s.parts ∧ cand p ∧ ∀ q, q < s.parts → cand q → fs p ≤ fs q := by
    rcases hbest with ⟨_, hno⟩ | h
    · exfalso
      obtain ⟨u, hu, hdu⟩ := cnt_lt (f := D') (n := s.parts) (by omega)
      obtain ⟨q', h1, h2, h3⟩ := op_ex hP hu hdu
      exact hno q' h1 ⟨h2, (hop0 D' q' h1 h2).2 h3⟩
    · exact h
  have hoP : Tar.Op i s.pt (adj i es) D' p := (hop0 D' p hpP hcp.1).1 hcp.2
  obtain ⟨v, lv, hmv⟩ := hfirst p hpP
  have hpick : pck r i dn = some v := by
    refine pck_op hP hdn hDo hpP hcp.1 hoP hmv fun q u m hq hdq hoq hmq => ?_
    have := hmin q hq ⟨hdq, (hop0 D' q hq hdq).2 hoq⟩
    rw [hfs p v lv hmv, hfs q u m hmq] at this
    exact this
  obtain ⟨⟨hvi, hvp⟩, _⟩ := mem_first hmv
  have hclsv : cls r i v = Tar.mem s.pt i p := by rw [hP.cls hvi, hvp]
  have hDnext := op_next hP hDo hoP
  have hdnx := dnx_op hP hdn hvi hvp
  have hcnt' : cnt (upd D' p true) s.parts = c + 1 := by rw [cnt_up (f := D') hcp.1 upd_self (fun u hu => upd_ne hu) hpP, hcnt]
  have hbld' : ∀ k, bld r i (c + 1 + k) (fun _ => false) = (ch ++ [p]).map (Tar.mem s.pt i) ++ bld r i k (dnx r dn v) := by
    intro k
    rw [show c + 1 + k = c + (k + 1) by omega, hbld (k + 1), bld_some hpick, hclsv]
    simp
  -- what is counted of those that lead to it
  have hopn : ∀ x, opn s.parts ld (upd D' p true) x = if x = p then -1 else if x ∈ ld p then opn s.parts ld D' x - 1 else opn s.parts ld D' x := by
    intro x
    by_cases hx : x = p
    · subst hx
      rw [if_pos rfl]
      unfold opn
      rw [if_pos upd_self]
    · rw [if_neg hx]
      unfold opn
      rw [upd_ne hx]
      by_cases hd : D' x = true
      · rw [if_pos hd, if_pos hd]
        by_cases hin : x ∈ ld p
        · exfalso
          obtain ⟨hne, u, w, ⟨hu, hw⟩, hux, hwp⟩ := (hiff x p).1 hin
          rcases hDo x (by rw [← hux]; exact hP.lt u hu) hd u hu hux w hw with h1 | h1
          · exact hne (by rw [← hwp, h1])
          · rw [hwp, hcp.1] at h1; cases h1
        · rw [if_neg hin]
      · rw [if_neg hd, if_neg hd]
        by_cases hin : x ∈ ld p
        · rw [if_pos hin]
          have := cnt_up (f := fun q => !(upd D' p true q) && decide (x ∈ ld q)) (f' := fun q => !D' q && decide (x ∈ ld q)) (v := p) (by simp [upd_self]) (by simp [hcp.1, hin]) (fun u hu => by simp [upd_ne hu]) hpP
          omega
        · rw [if_neg hin]
          congr 1
          refine cnt_congr fun q' _ => ?_
          by_cases hq' : q' = p
          · subst hq'; simp [hin]
          · simp [upd_ne hq']
  have hpld : p ∉ ld p := fun hin => ((hiff p p).1 hin).1 rfl
  refine ixM p _ hpP fun ad25 sp hsp _ e25 => ⟨sp, e25, fun b2 C hC => ?_⟩
  have eo : out.n = c := by
    have := RowN.len FlS (by decide) (hA1.get (k := 0) rfl)
    rw [this, hmsl ch hch, hcl]
  refine hA1.app1 (k := 0) (x := sp) tyII FlS (by decide) hC rfl (by omega) fun ap E1 hap hE1 => ?_
  have hms2 : ms ch ++ [sp] = ms (ch ++ [p]) := by
    show _ = List.filterMap _ (ch ++ [p])
    rw [List.filterMap_append]
    congr 1
    rw [List.filterMap_cons, hsp]
    rfl
  rw [hms2] at hE1
  refine hE1.stn (k := 1) (y := (-1 : Int)) FlI rfl (mp_get hpP) rfl fun F hF0 => ?_
  have hF : Sym H no F (arr flS 42 1 ap (ms (ch ++ [p])) :: arr flI 3 1 mk2 ((mp s.parts (opn s.parts ld D')).set p (-1)) :: ro mk1 ssL (mp s.parts ld) :: ro mk ssM (mp s.parts (Tar.mem s.pt i)) :: (SR i b G q s ++ [ro G ssG (adjs i es)])) := hF0
  rw [mp_set] at hF
  have hokL2 : Rows2 flN 42 3 1 none F mk1 ssL (mp s.parts ld) := hF.get (k := 2) rfl
  have hsL : ssL[p]? = some (ssL[p]'(by omega)) := List.getElem?_eq_getElem _
  generalize ssL[p]'(by omega) = sL at hsL
  refine (hokL2.rd FlN (by decide)).1.ixn FlS hsL fun ad27 e27 => ⟨sL, e27, ?_⟩
  have hsLn : sL.n = (ld p).length := ((hokL2.rd FlN (by decide)).2 p sL _ hsL (mp_get hpP)).len
  have hldl : (ld p).length ≤ s.parts := ld_le (N := s.parts) hld (fun u v h => hP.lt u h.1) p
  have hnd := hld.nd p
  let opj : Nat → Nat → Int := fun e x => if x = p then -1 else if x ∈ (ld p).take e then opn s.parts ld D' x - 1 else opn s.parts ld D' x
  have hopj0 : upd (opn s.parts ld D') p (-1) = opj 0 := by
    funext x
    show _ = if x = p then -1 else if x ∈ (ld p).take 0 then _ else _
    by_cases hx : x = p
    · subst hx; rw [upd_self, if_pos rfl]
    · rw [upd_ne hx, if_neg hx, List.take_zero, if_neg (by simp)]
  rw [hopj0] at hF
  refine ⟨fun t A m => ∃ e : Nat, t = (e : Int) ∧ e ≤ (ld p).length ∧ m = (ld p).length - e ∧ Sym H no A (arr flS 42 1 ap (ms (ch ++ [p])) :: arr flI 3 1 mk2 (mp s.parts (opj e)) :: ro mk1 ssL (mp s.parts ld) :: ro mk ssM (mp s.parts (Tar.mem s.pt i)) :: (SR i b G q s ++ [ro G ssG (adjs i es)])), ⟨_, 0, rfl, Nat.zero_le _, rfl, hF⟩, ?_⟩
  clear hF hF0 hokL2 hE1
  rintro t I m ⟨e, rfl, he, rfl, hI2⟩ scr4
  refine ⟨fun hlt3 => ?_, fun hge3 => ?_⟩
  · have hel : e < (ld p).length := by have := dlt hlt3; omega
    obtain ⟨x, hx⟩ : ∃ x, (ld p)[e]? = some x := ⟨_, List.getElem?_eq_getElem hel⟩
    have hxin : x ∈ ld p := List.mem_of_getElem? hx
    have hxp : x ≠ p := fun e => hpld (e ▸ hxin)
    have hxP : x < s.parts := by
      obtain ⟨_, u, w, ⟨hu, _⟩, hux, _⟩ := (hiff x p).1 hxin
      rw [← hux]; exact hP.lt u hu
    have htake : (ld p).take (e + 1) = (ld p).take e ++ [x] := by
      rw [List.take_succ_eq_append_getElem hel]
      congr 2
      rw [List.getElem?_eq_getElem hel] at hx
      exact Option.some.inj hx
    have hxnt : x ∉ (ld p).take e := by
      intro hc
      have hnd2 : ((ld p).take (e + 1)).Nodup := hnd.sublist (List.take_sublist _ _)
      rw [htake, List.nodup_append] at hnd2
      exact hnd2.2.2 x hc x List.mem_cons_self rfl
    have hokL3 : Rows2 flN 42 3 1 none I mk1 ssL (mp s.parts ld) := hI2.get (k := 2) rfl
    have rL := (hokL3.rd FlN (by decide)).2 p sL _ hsL (mp_get hpP)
    refine rL.ixn FlN hx fun ad28 e28 => ⟨_, e28, ?_⟩
    refine (hI2.rd (k := 1) FlI (by decide) rfl).ixn FlI (mp_get hxP) fun ad29 e29 => ⟨_, e29, ?_⟩
    have hox : opj e x = opn s.parts ld D' x := by
      show (if x = p then -1 else if x ∈ (ld p).take e then _ else _) = _
      rw [if_neg hxp, if_neg hxnt]
    have hb := hopb D' x
    rw [hox, wid (by omega) (by omega)]
    refine hI2.stn (k := 1) (y := opn s.parts ld D' x - 1) FlI rfl (mp_get hxP) rfl fun J hJ0 => ?_
    have hJ : Sym H no J (arr flS 42 1 ap (ms (ch ++ [p])) :: arr flI 3 1 mk2 ((mp s.parts (opj e)).set x (opn s.parts ld D' x - 1)) :: ro mk1 ssL (mp s.parts ld) :: ro mk ssM (mp s.parts (Tar.mem s.pt i)) :: (SR i b G q s ++ [ro G ssG (adjs i es)])) := hJ0
    rw [mp_set] at hJ
    have hn : upd (opj e) x (opn s.parts ld D' x - 1) = opj (e + 1) := by
      funext y
      show _ = if y = p then -1 else if y ∈ (ld p).take (e + 1) then _ else _
      by_cases hy : y = x
      · subst hy
        rw [upd_self, if_neg hxp, htake, if_pos (by simp)]
      · rw [upd_ne hy]
        show (if y = p then -1 else if y ∈ (ld p).take e then _ else _) = _
        rw [htake]
        simp [hy]
    rw [hn] at hJ
    exact ⟨(ld p).length - (e + 1), by omega, e + 1, wi (by omega), hel, rfl, hJ⟩
  · have hge3' := dge hge3
    have hfin : opj e = opn s.parts ld (upd D' p true) := by
      funext x
      rw [hopn x]
      show (if x = p then -1 else if x ∈ (ld p).take e then _ else _) = _
      rw [List.take_of_length_le (by omega)]
    rw [hfin] at hI2
    refine ⟨s.parts - (c + 1), by omega, c + 1, ch ++ [p], upd D' p true, dnx r dn v, wi (by omega), hclt, rfl, by rw [List.length_append, hcl]; rfl, ?_, hdnx, hDnext, hcnt', ?_, ?_, ?_, hbld', hI2⟩
    · intro x hx
      rcases List.mem_append.1 hx with hx | hx
      · exact hch x hx
      · rw [List.mem_singleton.1 hx]; exact hpP
    · intro x
      rw [List.mem_append, List.mem_singleton, ← hDch]
      by_cases hx : x = p
      · subst hx; simp [upd_self]
      · rw [upd_ne hx]; simp [hx]
    · rw [List.nodup_append]
      refine ⟨hchn, by simp, fun x hx y hy e => ?_⟩
      rw [List.mem_singleton.1 hy] at e
      rw [e, ← hDch, hcp.1] at hx
      cases hx
    · refine hord.snoc fun u hu hup v hv => (hoP u hu hup v hv).imp id fun h => (hDch _).1 h
end
end Go.Proofs.Ytoigfahdgphpdaa.C7

