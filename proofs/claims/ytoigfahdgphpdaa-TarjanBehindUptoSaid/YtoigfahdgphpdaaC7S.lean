/- weftref07: Reach, Parts, Leads and Round, as they are written. -/
import Derived.Test.YtoigfahdgphpdaaC7R
import Derived.Test.YtoigfahdgphpdaaV19
set_option linter.unusedVariables false
set_option linter.unusedSimpArgs false
-- tInt: 3
-- tInts: 42
-- tIntss: 38
-- tBool: 4
-- tBools: 101
-- tBoolss: 110
-- rReach: 69
-- rFree: 70
-- rMember: 71
-- rParts: 31
-- rLeads: 41
-- rRound: 33
namespace Go.Proofs.Ytoigfahdgphpdaa.C7
open Go Go.V Go.Proofs Go.Proofs.Ytoigfahdgphpdaa.N07 Go.Tar
attribute [local irreducible] Cvt ExtF CallF hrun App MkS
theorem tyBB : TyS Try.prog 110 101 1 24 (.slice none 0 0) := ⟨by kernel_rfl, by kernel_rfl, rfl, by decide⟩
section
variable {H : Hp} {K : Value → Hp → Prop} {Z : List PanicEntry → Hp → Prop}
theorem member_ok {n x : Int} (k : K (.bool (decide (0 ≤ x) && decide (x < n))) H) : CallF Try.prog 71 #[.int .i64 n, .int .i64 x] H K Z := by
  refine V71_ok ?_
  unfold V71
  refine ⟨fun h => ?_, fun h => ?_⟩
  · have h' : 0 ≤ x := of_decide_eq_true h
    rw [decide_eq_true h', Bool.true_and] at k
    exact k
  · have h' : ¬ 0 ≤ x := of_decide_eq_false h
    rw [decide_eq_false h', Bool.false_and] at k
    exact k
/-- a matrix as rows -/
def mtx (N : Nat) (m : Nat → Nat → Bool) : List (List Bool) := mp N fun i => mp N (m i)
abbrev bo (s : Sl) (ss : List Sl) (ls : List (List Bool)) : It := rows2 flB 101 4 1 none s ss ls
theorem mtx_set {N i j : Nat} {m : Nat → Nat → Bool} {x : Bool} : (mtx N m).set i ((mp N (m i)).set j x) = mtx N (upd m i (upd (m i) j x)) := by
  unfold mtx
  rw [mp_set, mp_set]
  congr 1
  funext k
  by_cases hk : k = i
  · subst hk; rw [upd_self, upd_self]
  · rw [upd_ne hk, upd_ne hk]
theorem mtx_congr {N : Nat} {m m' : Nat → Nat → Bool} (h : ∀ i j, i < N → j < N → m i j = m' i j) : mtx N m = mtx N m' := by
  unfold mtx mp
  refine List.map_congr_left fun i hi => List.map_congr_left fun j hj => h i j (List.mem_range.1 hi) (List.mem_range.1 hj)
theorem m0_snoc {N : Nat} {es : List (Int × Int)} {e : Int × Int} (i j : Nat) : m0 N (es ++ [e]) i j = if inb N e then (m0 N es i j || (i == e.1.toNat && j == e.2.toNat)) else m0 N es i j := by
  unfold m0
  rw [adj_snoc]
  by_cases h : inb N e = true
  · rw [if_pos h, h, Bool.true_and]
    by_cases hi : e.1.toNat = i
    · subst hi
      rw [if_pos (by simp), List.contains_append]
      have hd : (j == e.2.toNat) = decide (j = e.2.toNat) := by
        by_cases hj : j = e.2.toNat
        · simp [hj]
        · simp [hj]
      rw [hd]
      simp [Bool.or_assoc]
    · rw [if_neg (by simpa using hi)]
      have : (i == e.1.toNat) = false := by simpa using Ne.symm hi
      rw [this]
      simp
  · rw [if_neg h, if_neg (by simp [h])]
theorem w_row {m : Nat → Nat → Bool} {k j : Nat} : wst m k k j = m k j := by
  unfold wst
  cases m k j <;> simp
theorem w_col {m : Nat → Nat → Bool} {k i : Nat} : wst m k i k = m i k := by
  unfold wst
  cases m i k <;> simp
set_option maxRecDepth 20000 in
theorem reach_ok {n : Int} {l : Sl} {es : List (Int × Int)} (h : Rd flE 2 H l es) (hl : es.length ≤ 1000) (hn : n ≤ 20000)
    (k : ∀ s ss H', s.n = n.toNat → Sym H no H' [bo s ss (mtx n.toNat (rE n.toNat es))] → K (.slice s.a s.n s.c) H') : CallF Try.prog 69 #[.int .i64 n, .slice l.a l.n l.c] H K Z := by
  refine V69_ok ?_
  unfold V69
  have emax : (if n < 0 then 0 else n) = ((n.toNat : Nat) : Int) := by split <;> omega
  rw [emax]
  have hN : n.toNat ≤ 20000 := by omega
  generalize n.toNat = N at *
  clear emax hn
  have hln := h.len
  refine (Sym.start H).make tyBB FlS (zt := ⟨none, 0, 0⟩) rfl rfl (by omega) fun mk H1 hmk _ _ h1 => ?_
  have h1' := h1.none2 (fl := flB) (sz := 1) (E2 := 4)
  rw [mp_rep (N := N) (f := fun _ : Nat => ([] : List Bool)) fun _ => rfl] at h1'
  -- each leads to itself
  let rw0 : Nat → Nat → List Bool := fun a i => if i < a then mp N fun j => j == i else []
  refine ⟨fun i A m => ∃ (a : Nat) (ss : List Sl), i = (a : Int) ∧ a ≤ N ∧ m = N - a ∧ Sym H no A [bo mk ss (mp N (rw0 a))], ⟨_, 0, _, rfl, Nat.zero_le _, rfl, by
    have e : (mp N fun _ : Nat => ([] : List Bool)) = mp N (rw0 0) := by
      congr 1
    rw [← e]
    exact h1'⟩, ?_⟩
  clear h1 h1'
  rintro i A m ⟨a, ss, rfl, ha, rfl, hA⟩ scr
  have hokA : Rows2 flB 101 4 1 none A mk ss (mp N (rw0 a)) := hA.get (k := 0) rfl
  have hssl : ss.length = N := by rw [hokA.len]; simp [mp]
  refine ⟨fun hlt => ?_, fun hge => ?_⟩
  · have haN : a < N := dlt hlt
    refine hA.make tyB FlB (zt := false) rfl rfl (by omega) fun mk1 B hmk1 _ _ hB => ?_
    rw [mp_rep (N := N) (f := fun _ : Nat => false) fun _ => rfl] at hB
    have hs : ss[a]? = some (ss[a]'(by omega)) := List.getElem?_eq_getElem _
    refine hB.put2 hs (mp_get haN) fun C hC => ?_
    have hokC : Rows2 flB 101 4 1 none C mk (ss.set a mk1) ((mp N (rw0 a)).set a (mp N fun _ => false)) := hC.get (k := 0) rfl
    have hs1 : (ss.set a mk1)[a]? = some mk1 := List.getElem?_set_self (by omega)
    refine (hokC.rd FlB (by decide)).1.ixn FlS hs1 fun ad1 e1 => ⟨mk1, e1, ?_⟩
    have hl1 : ((mp N (rw0 a)).set a (mp N fun _ => false))[a]? = some (mp N fun _ => false) := List.getElem?_set_self (by simp [mp, haN])
    refine hC.set2 (y := true) FlB hs1 hl1 (mp_get haN) rfl fun D hD => ?_
    refine ⟨N - (a + 1), by omega, a + 1, ss.set a mk1, wi (by omega), haN, rfl, ?_⟩
    have e : ((mp N (rw0 a)).set a (mp N fun _ => false)).set a ((mp N fun _ => false).set a true) = mp N (rw0 (a + 1)) := by
      rw [List.set_set, mp_set, mp_set]
      congr 1
      funext i
      by_cases hi : i = a
      · subst hi
        rw [upd_self]
        show _ = if i < i + 1 then _ else _
        rw [if_pos (by omega)]
        have : (upd (fun _ => false) i true : Nat → Bool) = fun j => j == i := by
          funext j
          by_cases hj : j = i
          · subst hj; simp [upd_self]
          · rw [upd_ne hj]; simp [hj]
        rw [this]
      · rw [upd_ne hi]
        show (if i < a then _ else _) = if i < a + 1 then _ else _
        by_cases hia : i < a
        · rw [if_pos hia, if_pos (by omega)]
        · rw [if_neg hia, if_neg (by omega)]
    rw [← e]
    exact hD
  have haN : a = N := by have := dge hge; omega
  subst haN
  have hA' : Sym H no A [bo mk ss (mtx a (m0 a []))] := by
    have e : mp a (rw0 a) = mtx a (m0 a []) := by
      unfold mtx mp
      refine List.map_congr_left fun i hi => ?_
      show (if i < a then _ else _) = _
      rw [if_pos (List.mem_range.1 hi)]
      refine List.map_congr_left fun j _ => ?_
      simp [m0, adj, BEq.comm]
    rw [← e]
    exact hA
  clear hA hokA hge ha
  -- edges
  refine ⟨fun i B m => ∃ c : Nat, i = (c : Int) ∧ c ≤ es.length ∧ m = es.length - c ∧ Sym H no B [bo mk ss (mtx a (m0 a (es.take c)))], ⟨_, 0, rfl, Nat.zero_le _, rfl, hA'⟩, ?_⟩
  clear hA'
  rintro i B m ⟨c, rfl, hc, rfl, hB⟩ scr1
  refine ⟨fun hlt => ?_, fun hge => ?_⟩
  · have hcl : c < es.length := by have := dlt hlt; omega
    have hx : es[c]? = some es[c] := List.getElem?_eq_getElem hcl
    have htk : es.take (c + 1) = es.take c ++ [es[c]] := List.take_succ_eq_append_getElem hcl
    generalize es[c] = e at hx htk
    have rl := h.more hB.fr
    have next : ∀ C, Sym H no C [bo mk ss (mtx a (m0 a (es.take (c + 1))))] → ∃ m2, m2 < es.length - c ∧ ∃ c' : Nat, w64 ((c : Int) + 1) = (c' : Int) ∧ c' ≤ es.length ∧ m2 = es.length - c' ∧ Sym H no C [bo mk ss (mtx a (m0 a (es.take c')))] :=
      fun C hC => ⟨es.length - (c + 1), by omega, c + 1, wi (by omega), hcl, rfl, hC⟩
    have stay : inb a e = false → ∃ m2, m2 < es.length - c ∧ ∃ c' : Nat, w64 ((c : Int) + 1) = (c' : Int) ∧ c' ≤ es.length ∧ m2 = es.length - c' ∧ Sym H no B [bo mk ss (mtx a (m0 a (es.take c')))] := by
      intro hin
      refine next B ?_
      have : mtx a (m0 a (es.take (c + 1))) = mtx a (m0 a (es.take c)) := mtx_congr fun i j _ _ => by rw [htk, m0_snoc, hin]; rfl
      rw [this]
      exact hB
    refine rl.ix (by decide) FlE (by omega) hx fun ad3 _ e3 => ⟨_, e3, member_ok ⟨_, rfl, fun hy => ?_, fun hy => ?_⟩⟩
    · refine rl.ix (by decide) FlE (by omega) hx fun ad4 h4 _ => ⟨_, h4 1 _ rfl, member_ok ⟨_, rfl, fun hy1 => ?_, fun hy1 => ?_⟩⟩
      · simp only [Bool.and_eq_true, decide_eq_true_eq] at hy hy1
        have hin : inb a e = true := by simp [inb]; omega
        obtain ⟨u, hu⟩ : ∃ u : Nat, e.1 = (u : Int) := ⟨e.1.toNat, by omega⟩
        obtain ⟨v, hv⟩ : ∃ v : Nat, e.2 = (v : Int) := ⟨e.2.toNat, by omega⟩
        have hua : u < a := by omega
        have hva : v < a := by omega
        have hok : Rows2 flB 101 4 1 none B mk ss (mtx a (m0 a (es.take c))) := hB.get (k := 0) rfl
        have hs : ss[u]? = some (ss[u]'(by omega)) := List.getElem?_eq_getElem _
        generalize ss[u]'(by omega) = su at hs
        refine rl.ix (by decide) FlE (by omega) hx fun ad5 _ e5 => ⟨_, e5, ?_⟩
        rw [hu]
        refine (hok.rd FlB (by decide)).1.ixn FlS hs fun ad6 e6 => ⟨su, e6, ?_⟩
        refine rl.ix (by decide) FlE (by omega) hx fun ad7 h7 _ => ⟨_, h7 1 _ rfl, ?_⟩
        rw [hv]
        refine hB.set2 (y := true) FlB hs (mp_get hua) (mp_get hva) rfl fun C hC => next C ?_
        have hC' : Sym H no C [bo mk ss ((mtx a (m0 a (es.take c))).set u ((mp a (m0 a (es.take c) u)).set v true))] := hC
        rw [mtx_set] at hC'
        have : mtx a (m0 a (es.take (c + 1))) = mtx a (upd (m0 a (es.take c)) u (upd (m0 a (es.take c) u) v true)) := mtx_congr fun i j _ _ => by
          rw [htk, m0_snoc, if_pos hin, hu, hv, Int.toNat_natCast, Int.toNat_natCast]
          by_cases hi : i = u
          · subst hi
            rw [upd_self]
            by_cases hj : j = v
            · subst hj; rw [upd_self]; simp
            · rw [upd_ne hj]; simp [hj]
          · rw [upd_ne hi]; simp [hi]
        rw [this]
        exact hC'
      · refine stay ?_
        simp only [Bool.and_eq_false_iff, decide_eq_false_iff_not] at hy1
        simp [inb]; omega
    · refine stay ?_
      simp only [Bool.and_eq_false_iff, decide_eq_false_iff_not] at hy
      simp [inb]; omega
  have hcl : es.length ≤ c := by have := dge hge; omega
  rw [List.take_of_length_le hcl] at hB
  clear hge hc hcl
  -- by rounds
  let W : Nat → Nat → Nat → Bool := wrs (m0 a es)
  have hok0 : ∀ {A : Hp} {m : Nat → Nat → Bool}, Sym H no A [bo mk ss (mtx a m)] → Rd flS 1 A mk ss ∧ ∀ (i : Nat) (si : Sl), i < a → ss[i]? = some si → Rd flB 1 A si (mp a (m i)) := by
    intro A m hA
    have hok : Rows2 flB 101 4 1 none A mk ss (mtx a m) := hA.get (k := 0) rfl
    exact ⟨(hok.rd FlB (by decide)).1, fun i si hi hs => (hok.rd FlB (by decide)).2 i si _ hs (mp_get hi)⟩
  refine ⟨fun kk C m => ∃ c : Nat, kk = (c : Int) ∧ c ≤ a ∧ m = a - c ∧ Sym H no C [bo mk ss (mtx a (W c))], ⟨_, 0, rfl, Nat.zero_le _, rfl, hB⟩, ?_⟩
  clear hB
  rintro kk C m ⟨c, rfl, hc, rfl, hC⟩ scr2
  refine ⟨fun hlt => ?_, fun hge => ?_⟩
  rotate_left
  · have : c = a := by have := dge hge; omega
    subst this
    exact k mk ss C hmk hC
  have hca := dlt hlt
  have hsc : ss[c]? = some (ss[c]'(by omega)) := List.getElem?_eq_getElem _
  generalize ss[c]'(by omega) = sc at hsc
  let M1 : Nat → Nat → Nat → Bool := fun d i => if i < d then wst (W c) c i else W c i
  refine ⟨fun i2 D m => ∃ d : Nat, i2 = (d : Int) ∧ d ≤ a ∧ m = a - d ∧ Sym H no D [bo mk ss (mtx a (M1 d))], ⟨_, 0, rfl, Nat.zero_le _, rfl, by
    have : mtx a (M1 0) = mtx a (W c) := mtx_congr fun i j _ _ => rfl
    rw [this]
    exact hC⟩, ?_⟩
  clear hC
  rintro i2 D m ⟨d, rfl, hd, rfl, hD⟩ scr3
  refine ⟨fun hlt => ?_, fun hge => ?_⟩
  rotate_left
  · have hda : d = a := by have := dge hge; omega
    subst hda
    refine ⟨d - (c + 1), by omega, c + 1, wi (by omega), hca, rfl, ?_⟩
    have : mtx d (W (c + 1)) = mtx d (M1 d) := mtx_congr fun i j hi _ => by
      show wst (W c) c i j = (if i < d then wst (W c) c i else W c i) j
      rw [if_pos hi]
    rw [this]
    exact hD
  have hda := dlt hlt
  have hsd : ss[d]? = some (ss[d]'(by omega)) := List.getElem?_eq_getElem _
  generalize ss[d]'(by omega) = sd at hsd
  let M2 : Nat → Nat → Nat → Bool := fun e => upd (M1 d) d fun j => if j < e then wst (W c) c d j else W c d j
  have hM20 : mtx a (M2 0) = mtx a (M1 d) := mtx_congr fun i j _ _ => by
    show upd (M1 d) d _ i j = _
    by_cases hi : i = d
    · subst hi
      rw [upd_self, if_neg (by omega)]
      show _ = (if i < i then wst (W c) c i else W c i) j
      rw [if_neg (by omega)]
    · rw [upd_ne hi]
  have hM2d : ∀ e j, M2 e d j = if j < e then wst (W c) c d j else W c d j := fun e j => by
    show upd (M1 d) d _ d j = _
    rw [upd_self]
  -- the row that is joined stays
  have hM2c : ∀ e j, e ≤ j → M2 e c j = W c c j := fun e j hj => by
    by_cases hcd : c = d
    · rw [hcd, hM2d, if_neg (by omega), hcd]
    · show upd (M1 d) d _ c j = _
      rw [upd_ne hcd]
      show (if c < d then wst (W c) c c else W c c) j = _
      split
      · exact w_row
      · rfl
  have hM1n : ∀ m', (∀ j, j < a → m' d j = wst (W c) c d j) → (∀ i j, i ≠ d → m' i j = M1 d i j) → mtx a m' = mtx a (M1 (d + 1)) := by
    intro m' h1 h2
    refine mtx_congr fun i j _ hj => ?_
    show _ = (if i < d + 1 then wst (W c) c i else W c i) j
    by_cases hi : i = d
    · subst hi
      rw [h1 j hj, if_pos (by omega)]
    · rw [h2 i j hi]
      show (if i < d then wst (W c) c i else W c i) j = _
      by_cases hid : i < d
      · rw [if_pos hid, if_pos (by omega)]
      · rw [if_neg hid, if_neg (by omega)]
  have done : ∀ e E, Sym H no E [bo mk ss (mtx a (M2 e))] → (∀ j, j < a → M2 e d j = wst (W c) c d j) → ∃ m2, m2 < a - d ∧ ∃ d' : Nat, w64 ((d : Int) + 1) = (d' : Int) ∧ d' ≤ a ∧ m2 = a - d' ∧ Sym H no E [bo mk ss (mtx a (M1 d'))] := by
    intro e E hE h1
    refine ⟨a - (d + 1), by omega, d + 1, wi (by omega), hda, rfl, ?_⟩
    rw [← hM1n (M2 e) h1 fun i j hi => by show upd (M1 d) d _ i j = _; rw [upd_ne hi]]
    exact hE
  refine ⟨fun j E m => ∃ e : Nat, j = (e : Int) ∧ e ≤ a ∧ m = a - e ∧ Sym H no E [bo mk ss (mtx a (M2 e))], ⟨_, 0, rfl, Nat.zero_le _, rfl, by rw [hM20]; exact hD⟩, ?_⟩
  clear hD
  rintro j E m ⟨e, rfl, he, rfl, hE⟩ scr4
  obtain ⟨r1, r2⟩ := hok0 hE
  refine ⟨fun F => F = E ∧ e < a ∧ W c d c = true, ?_, ?_⟩
  · rintro F ⟨rfl, hea, hW⟩ scr5
    have hval : wst (W c) c d e = (W c d e || W c c e) := by
      unfold wst
      rw [hW, Bool.true_and]
    have nxt : ∀ (v : Bool), v = wst (W c) c d e → IxA sd.a sd.n (e : Int) 1 fun ad => StL ad 0 [.bool v] F fun G => ∃ m2, m2 < a - e ∧ ∃ e' : Nat, w64 ((e : Int) + 1) = (e' : Int) ∧ e' ≤ a ∧ m2 = a - e' ∧ Sym H no G [bo mk ss (mtx a (M2 e'))] := by
      intro v hv
      refine hE.set2 (y := v) FlB hsd (mp_get hda) (mp_get hea) rfl fun G hG => ⟨a - (e + 1), by omega, e + 1, wi (by omega), hea, rfl, ?_⟩
      have hG' : Sym H no G [bo mk ss ((mtx a (M2 e)).set d ((mp a (M2 e d)).set e v))] := hG
      rw [mtx_set] at hG'
      have : mtx a (M2 (e + 1)) = mtx a (upd (M2 e) d (upd (M2 e d) e v)) := mtx_congr fun i j _ _ => by
        by_cases hi : i = d
        · subst hi
          rw [upd_self, hM2d]
          by_cases hj : j = e
          · subst hj; rw [upd_self, if_pos (by omega), hv]
          · rw [upd_ne hj, hM2d]
            by_cases hje : j < e
            · rw [if_pos hje, if_pos (by omega)]
            · rw [if_neg hje, if_neg (by omega)]
        · rw [upd_ne hi]
          show upd (M1 d) d _ i j = upd (M1 d) d _ i j
          rw [upd_ne hi, upd_ne hi]
      rw [this]
      exact hG'
    refine r1.ixn FlS hsd fun ad9 e9 => ⟨sd, e9, r1.ixn FlS hsd fun ad10 e10 => ⟨sd, e10, (r2 d sd hda hsd).ixn FlB (mp_get hea) fun ad11 e11 => ⟨_, e11, fun ht => ?_, fun hf => ?_⟩⟩⟩
    · have ht' : W c d e = true := by
        have : M2 e d e = true := ht
        rwa [hM2d, if_neg (by omega)] at this
      exact nxt true (by rw [hval, ht']; rfl)
    · have hf' : W c d e = false := by
        have : M2 e d e = false := hf
        rwa [hM2d, if_neg (by omega)] at this
      refine r1.ixn FlS hsc fun ad13 e13 => ⟨sc, e13, (r2 c sc hca hsc).ixn FlB (mp_get hea) fun ad14 e14 => ⟨_, e14, ?_⟩⟩
      refine nxt _ ?_
      rw [hM2c e e (Nat.le_refl _), hval, hf', Bool.false_or]
  · refine ⟨fun hlt => ?_, fun hge => ?_⟩
    · have hea := dlt hlt
      refine r1.ixn FlS hsd fun ad16 e16 => ⟨sd, e16, (r2 d sd hda hsd).ixn FlB (mp_get hca) fun ad17 e17 => ⟨_, e17, fun ht => ?_, fun hf => ?_⟩⟩
      · have ht' : M2 e d c = true := ht
        rw [hM2d, w_col] at ht'
        exact ⟨rfl, hea, by split at ht' <;> exact ht'⟩
      · have hf' : M2 e d c = false := hf
        rw [hM2d, w_col] at hf'
        have hf2 : W c d c = false := by split at hf' <;> exact hf'
        have hrow : ∀ j, wst (W c) c d j = W c d j := fun j => by unfold wst; rw [hf2]; simp
        refine done e E hE fun j hj => ?_
        rw [hM2d, hrow]
        split <;> rfl
    · have hea : a ≤ e := by have := dge hge; omega
      exact done e E hE fun j hj => by rw [hM2d, if_pos (by omega)]

/-- an entry of a matrix -/
theorem mtx_ix {N i j : Nat} {s : Sl} {m : Nat → Nat → Bool} {K' : Bool → Prop} (hr : RR flB 1 H s (mtx N m)) (hi : i < N) (hj : j < N) (k : K' (m i j)) :
    IxA s.a s.n (i : Int) 1 fun ad => ∃ x : Sl, hcell H ad = some (.slice x.a x.n x.c) ∧ IxA x.a x.n (j : Int) 1 fun ad1 => ∃ b : Bool, hcell H ad1 = some (.bool b) ∧ K' b :=
  hr.ixn (mp_get hi) fun ad si hsi e => ⟨si, e, hsi.ixn FlB (mp_get hj) fun ad1 e1 => ⟨_, e1, k⟩⟩
theorem free_ok {s t : Sl} {N i : Nat} {m : Nat → Nat → Bool} {dn : Nat → Bool} (hr : RR flB 1 H s (mtx N m)) (hd : Rd flB 1 H t (mp N dn)) (hi : i < N) (hN : N ≤ 20000)
    (k : K (.bool (fre m N dn i)) H) : CallF Try.prog 70 #[.slice s.a s.n s.c, .slice t.a t.n t.c, .int .i64 (i : Int)] H K Z := by
  refine V70_ok ?_
  unfold V70
  have hsn : s.n = N := by rw [hr.len]; simp [mtx, mp]
  have hfree : ∀ b, (fre m N dn i = true ↔ b = true) → K (.bool b) H := by
    intro b hb
    have : b = fre m N dn i := by cases b <;> cases h : fre m N dn i <;> simp_all
    rw [this]
    exact k
  refine ⟨fun j A m' => ∃ a : Nat, A = H ∧ j = (a : Int) ∧ a ≤ N ∧ m' = N - a ∧ ∀ v, v < a → m i v = true → m v i = false → dn v = true, ⟨_, 0, rfl, rfl, Nat.zero_le _, rfl, fun v hv => by omega⟩, ?_⟩
  rintro j A m' ⟨a, rfl, rfl, ha, rfl, hall⟩ scr
  refine ⟨fun hlt => ?_, fun hge => ?_⟩
  · have haN : a < N := by have := dlt hlt; omega
    have next : (m i a = true → m a i = false → dn a = true) → ∃ m3, m3 < N - a ∧ ∃ a' : Nat, A = A ∧ w64 ((a : Int) + 1) = (a' : Int) ∧ a' ≤ N ∧ m3 = N - a' ∧ ∀ v, v < a' → m i v = true → m v i = false → dn v = true := by
      intro h1
      refine ⟨N - (a + 1), by omega, a + 1, rfl, wi (by omega), haN, rfl, fun v hv => ?_⟩
      by_cases hva : v = a
      · subst hva; exact h1
      · exact hall v (by omega)
    refine mtx_ix (K' := fun x1 => _) hr hi haN ⟨fun h1 => ?_, fun h1 => next fun h => by rw [h1] at h; cases h⟩
    refine mtx_ix (K' := fun x1 => _) hr haN hi ⟨fun h2 => ?_, fun h2 => next fun _ h => by rw [h] at h2; cases h2⟩
    have h2' : m a i = false := by simpa using h2
    refine hd.ixn FlB (mp_get haN) fun ad4 e4 => ⟨_, e4, fun h3 => ?_, fun h3 => ?_⟩
    · have h3' : dn a = false := by simpa using h3
      refine hfree false ?_
      rw [fre_iff]
      simp only [Bool.false_eq_true, iff_false]
      intro hc
      rw [hc a haN h1 h2'] at h3'
      cases h3'
    · have h3' : dn a = true := by simpa using h3
      exact next fun _ _ => h3'
  · have haN : a = N := by have := dge hge; omega
    subst haN
    refine hfree true ?_
    rw [fre_iff]
    simp only [iff_true]
    exact hall
end
end Go.Proofs.Ytoigfahdgphpdaa.C7

