/- weftref07: Parts, Leads and Round. -/
import Derived.Test.YtoigfahdgphpdaaC7S
set_option linter.unusedVariables false
set_option linter.unusedSimpArgs false
-- tInt: 3
-- tInts: 42
-- tIntss: 38
-- tBool: 4
-- rParts: 31
-- rLeads: 41
-- rRound: 33
namespace Go.Proofs.Ytoigfahdgphpdaa.C7
open Go Go.V Go.Proofs Go.Proofs.Ytoigfahdgphpdaa.N07 Go.Tar
attribute [local irreducible] Cvt ExtF CallF hrun App MkS
section
variable {H : Hp} {K : Value → Hp → Prop} {Z : List PanicEntry → Hp → Prop}
theorem nOf_nat {n : Int} (h : n ≤ 20000) : nOf n = n.toNat := by unfold nOf; split <;> omega
theorem nOf_big {n : Int} (h : n > 20000) : nOf n = 0 := by unfold nOf; rw [if_pos (.inr h)]
theorem bld_len {r : Nat → Nat → Bool} {N : Nat} : ∀ (k : Nat) (dn : Nat → Bool), (bld r N k dn).length ≤ k
  | 0, _ => Nat.le_refl _
  | k + 1, dn => by
    unfold bld
    split
    · simp
    · have := bld_len (r := r) (N := N) k (dnx r dn ‹_›)
      rw [List.length_cons]
      omega
theorem cls_len {r : Nat → Nat → Bool} {N i : Nat} : (cls r N i).length ≤ N := by
  have := List.length_filter_le (fun j => r i j && r j i) (List.range N)
  rwa [List.length_range] at this
def clp (r : Nat → Nat → Bool) (i j : Nat) : List Nat := (List.range j).filter fun v => r i v && r v i
theorem clp_succ {r : Nat → Nat → Bool} {i j : Nat} : clp r i (j + 1) = if r i j && r j i then clp r i j ++ [j] else clp r i j := by
  unfold clp
  rw [List.range_succ, List.filter_append]
  cases h : (r i j && r j i) <;> simp [h]
theorem clp_len {r : Nat → Nat → Bool} {i j : Nat} : (clp r i j).length ≤ j := by
  have := List.length_filter_le (fun v => r i v && r v i) (List.range j)
  rwa [List.length_range] at this
abbrev io (s : Sl) (ss : List Sl) (ls : List (List Nat)) : It := rows2 flN 42 3 1 none s ss ls
set_option maxRecDepth 20000 in
theorem rparts_ok {n : Int} {l : Sl} {es : List (Int × Int)} (h : Rd flE 2 H l es) (hl : es.length ≤ 1000)
    (k : ∀ s H', Fr no H H' → RR flN 1 H' s (partsOf (nOf n) es) → K (.slice s.a s.n s.c) H') : CallF Try.prog 31 #[.int .i64 n, .slice l.a l.n l.c] H K Z := by
  refine V31_ok ?_
  unfold V31
  refine ⟨fun hb => ?_, fun hb => ?_⟩
  · have hb' : n > 20000 := of_decide_eq_true hb
    refine k ⟨none, 0, 0⟩ H (Fr.refl _ _) ?_
    rw [nOf_big hb']
    exact ⟨[], Rd.nil, rfl, by simp⟩
  have hb' : n ≤ 20000 := by have := of_decide_eq_false hb; omega
  rw [nOf_nat hb'] at k
  refine reach_ok h hl hb' fun y ss H1 hyn h1 => ⟨y, rfl, ?_⟩
  have hN : n.toNat ≤ 20000 := by omega
  generalize n.toNat = N at *
  have hy : RR flB 1 H1 y (mtx N (rE N es)) := (h1.get (k := 0) rfl : Rows2 flB _ _ 1 none H1 y ss _).rr FlB (by decide)
  let r := rE N es
  refine h1.make tyB FlB (zt := false) rfl rfl (by omega) fun mk H2 hmk f2 _ h2 => ?_
  rw [hyn, mp_rep (N := N) (f := fun _ : Nat => false) fun _ => rfl] at h2
  have hy2 : RR flB 1 H2 y (mtx N (rE N es)) := hy.more f2
  have h3 := h2.nil2 flN 42 3 1
  have hS : Sym H no H2 [io ⟨none, 0, 0⟩ [] [], arr flB 4 1 mk (mp N fun _ => false), bo y ss (mtx N r)] := h3
  clear h1 h2 h3 f2 hy
  refine ⟨fun out t A m => ∃ (c : Nat) (so : List Sl) (ol : List (List Nat)) (dn : Nat → Bool), t = (c : Int) ∧ c ≤ N ∧ m = N - c ∧ ol.length ≤ c ∧ (∀ k, bld r N (c + k) (fun _ => false) = ol ++ bld r N k dn) ∧
      Sym H no A [io out so ol, arr flB 4 1 mk (mp N dn), bo y ss (mtx N r)], ⟨_, 0, [], [], fun _ => false, rfl, Nat.zero_le _, rfl, Nat.le_refl _, fun k => by simp, hS⟩, ?_⟩
  clear hS hy2
  rintro out t A m ⟨c, so, ol, dn, rfl, hc, rfl, holc, hbld, hA⟩ scr
  refine ⟨fun hlt => ?_, fun hge => ?_⟩
  rotate_left
  · have hcN : c = N := by have := dge hge; omega
    subst hcN
    have hok : Rows2 flN 42 3 1 none A out so ol := hA.get (k := 0) rfl
    refine k out A hA.fr ?_
    have := hbld 0
    have e : partsOf c es = ol := by
      have h1 : bld r c 0 dn = [] := rfl
      rw [h1, List.append_nil] at this
      exact this
    rw [e]
    exact hok.rr FlN (by decide)
  have hcN : c < N := by have := dlt hlt; omega
  have rr : ∀ {B : Hp} {L1 L2 : It}, Sym H no B [L1, L2, bo y ss (mtx N r)] → RR flB 1 B y (mtx N r) := fun hB => (hB.get (k := 2) rfl : Rows2 flB _ _ 1 none _ y ss _).rr FlB (by decide)
  -- the first one that may come
  refine ⟨fun out1 i B m => ∃ a : Nat, B = A ∧ out1 = out ∧ i = (a : Int) ∧ a ≤ N ∧ m = N - a ∧ ∀ v, v < a → dn v = true ∨ fre r N dn v = false, ⟨_, 0, rfl, rfl, rfl, Nat.zero_le _, rfl, fun v hv => by omega⟩, ?_⟩
  rintro out1 i B m ⟨a, rfl, rfl, rfl, ha, rfl, hno⟩ scr1
  refine ⟨fun hlt => ?_, fun hge => ?_⟩
  rotate_left
  · have haN : a = N := by have := dge hge; omega
    subst haN
    have hnone : pck r a dn = none := pck_none hno
    refine ⟨a - (c + 1), by omega, c + 1, so, ol, dn, wi (by omega), hcN, rfl, by omega, fun k => ?_, hA⟩
    rw [show c + 1 + k = c + (k + 1) by omega, hbld, bld_none hnone, bld_none hnone]
  have haN : a < N := by have := dlt hlt; omega
  refine ⟨fun b C => C = B ∧ b = (!dn a && fre r N dn a), ?_, ?_⟩
  rotate_left
  · refine (hA.rd (k := 1) FlB (by decide) rfl).ixn FlB (mp_get haN) fun ad5 e5 => ⟨_, e5, fun h1 => ?_, fun h1 => ?_⟩
    · have h1' : dn a = false := by simpa using h1
      refine free_ok (rr hA) (hA.rd (k := 1) FlB (by decide) rfl) haN hN ⟨_, rfl, rfl, ?_⟩
      rw [h1']
      rfl
    · have h1' : dn a = true := by simpa using h1
      exact ⟨rfl, by rw [h1']; rfl⟩
  rintro b C ⟨rfl, hb⟩ scr2
  refine ⟨fun ht => ?_, fun hf => ?_⟩
  rotate_left
  · refine ⟨N - (a + 1), by omega, a + 1, rfl, rfl, wi (by omega), haN, rfl, fun v hv => ?_⟩
    by_cases hva : v = a
    · subst hva
      rw [hf] at hb
      cases h1 : dn v with
      | true => exact .inl rfl
      | false => rw [h1] at hb; exact .inr (by simpa using hb.symm)
    · exact hno v (by omega)
  rw [ht] at hb
  have hb2 : dn a = false ∧ fre r N dn a = true := by
    have := hb.symm
    rw [Bool.and_eq_true] at this
    exact ⟨by simpa using this.1, this.2⟩
  have hpick : pck r N dn = some a := pck_some haN hb2.1 hb2.2 fun j hj hd => (hno j hj).resolve_left (by rw [hd]; simp)
  -- its part
  have hp0 := (hA.nilrow flN 3 1)
  refine ⟨fun p j D m => ∃ e : Nat, j = (e : Int) ∧ e ≤ N ∧ m = N - e ∧ Sym H no D [arr flN 3 1 p (clp r a e), io out1 so ol, arr flB 4 1 mk (mp N fun v => dn v || (decide (v < e) && (r a v && r v a))), bo y ss (mtx N r)], ⟨_, 0, rfl, Nat.zero_le _, rfl, ?_⟩, ?_⟩
  · have : (fun v => dn v || (decide (v < 0) && (r a v && r v a))) = dn := by funext v; simp
    rw [this]
    exact hp0
  clear hp0
  rintro p j D m ⟨e, rfl, he, rfl, hD⟩ scr3
  have hpn : p.n = (clp r a e).length := RowN.len FlN (by decide) (hD.get (k := 0) rfl)
  have hcl := @clp_len r a e
  have hyD : RR flB 1 D y (mtx N r) := (hD.get (k := 3) rfl : Rows2 flB _ _ 1 none _ y ss _).rr FlB (by decide)
  refine ⟨fun hlt => ?_, fun hge => ?_⟩
  · have heN : e < N := by have := dlt hlt; omega
    have skip : (r a e && r e a) = false → ∃ m8, m8 < N - e ∧ ∃ e' : Nat, w64 ((e : Int) + 1) = (e' : Int) ∧ e' ≤ N ∧ m8 = N - e' ∧ Sym H no D [arr flN 3 1 p (clp r a e'), io out1 so ol, arr flB 4 1 mk (mp N fun v => dn v || (decide (v < e') && (r a v && r v a))), bo y ss (mtx N r)] := by
      intro hh
      refine ⟨N - (e + 1), by omega, e + 1, wi (by omega), heN, rfl, ?_⟩
      have e1 : (fun v => dn v || (decide (v < e + 1) && (r a v && r v a))) = fun v => dn v || (decide (v < e) && (r a v && r v a)) := by
        funext v
        by_cases hv : v = e
        · subst hv; rw [hh]; simp
        · have : decide (v < e + 1) = decide (v < e) := decide_eq_decide.2 (by omega)
          rw [this]
      rw [e1, clp_succ, hh]
      exact hD
    refine mtx_ix (K' := fun _ => _) hyD haN heN ⟨fun h1 => ?_, fun h1 => skip (by rw [show r a e = false from h1]; rfl)⟩
    refine mtx_ix (K' := fun _ => _) hyD heN haN ⟨fun h2 => ?_, fun h2 => skip (by rw [show r e a = false from h2]; simp)⟩
    have hh : (r a e && r e a) = true := by rw [show r a e = true from h1, show r e a = true from h2]; rfl
    intro b E hE
    refine hD.app1 (k := 0) (x := e) tyI FlN (by decide) hE rfl (by omega) fun ap F hap hF => ?_
    refine hF.stn (k := 2) (y := true) FlB rfl (mp_get heN) rfl fun G hG0 => ?_
    have hG : Sym H no G [arr flN 3 1 ap (clp r a e ++ [e]), io out1 so ol, arr flB 4 1 mk ((mp N fun v => dn v || (decide (v < e) && (r a v && r v a))).set e true), bo y ss (mtx N r)] := hG0
    rw [mp_set] at hG
    refine ⟨N - (e + 1), by omega, e + 1, wi (by omega), heN, rfl, ?_⟩
    have e1 : (fun v => dn v || (decide (v < e + 1) && (r a v && r v a))) = upd (fun v => dn v || (decide (v < e) && (r a v && r v a))) e true := by
      funext v
      by_cases hv : v = e
      · subst hv; rw [upd_self, hh]; simp
      · rw [upd_ne hv]
        have : decide (v < e + 1) = decide (v < e) := decide_eq_decide.2 (by omega)
        rw [this]
    rw [e1, clp_succ, hh]
    exact hG
  · have heN : e = N := by have := dge hge; omega
    subst heN
    intro b1 E hE
    have hD2 : Sym H no D [io out1 so ol, arr flN 3 1 p (clp r a e), arr flB 4 1 mk (mp e fun v => dn v || (decide (v < e) && (r a v && r v a))), bo y ss (mtx e r)] := hD.swap
    have hon : out1.n = ol.length := by
      have hok : Rows2 flN 42 3 1 none D out1 so ol := hD2.get (k := 0) rfl
      rw [← hok.len]
      exact hok.out.len FlS (by decide)
    refine hD2.push2 tyII hE (by omega) fun s' F hs' hF => ?_
    refine ⟨e - (c + 1), by omega, c + 1, so ++ [p], ol ++ [cls r e a], dnx r dn a, wi (by omega), hcN, rfl, by rw [List.length_append]; simp; omega, fun k => ?_, ?_⟩
    · rw [show c + 1 + k = c + (k + 1) by omega, hbld, bld_some hpick]
      simp
    · have e1 : (mp e fun v => dn v || (decide (v < e) && (r a v && r v a))) = mp e (dnx r dn a) := by
        unfold mp
        refine List.map_congr_left fun v hv => ?_
        have := List.mem_range.1 hv
        unfold dnx
        rw [decide_eq_true this, Bool.true_and]
      rw [e1] at hF
      exact hF
theorem rleads_ok {n : Int} {l t : Sl} {es : List (Int × Int)} {fr : List Int} (h : Rd flE 2 H l es) (hl : es.length ≤ 1000) (hf : Rd flI 1 H t fr) (hfl : fr.length ≤ 1000)
    (k : ∀ s H', Fr no H H' → Rd flN 1 H' s (leadsOf (nOf n) es fr) → K (.slice s.a s.n s.c) H') : CallF Try.prog 41 #[.int .i64 n, .slice l.a l.n l.c, .slice t.a t.n t.c] H K Z := by
  refine V41_ok ?_
  unfold V41
  refine ⟨fun hb => ?_, fun hb => ?_⟩
  · have hb' : n > 20000 := of_decide_eq_true hb
    refine k ⟨none, 0, 0⟩ H (Fr.refl _ _) ?_
    rw [nOf_big hb']
    exact Rd.nil
  have hb' : n ≤ 20000 := by have := of_decide_eq_false hb; omega
  rw [nOf_nat hb'] at k
  refine reach_ok h hl hb' fun y ss H1 hyn h1 => ⟨y, rfl, ?_⟩
  have hN : n.toNat ≤ 20000 := by omega
  have hnn : ∀ x : Int, (decide (0 ≤ x) && decide (x < n)) = inN n.toNat x := by
    intro x
    unfold inN
    by_cases hx : 0 ≤ x
    · rw [decide_eq_true hx, Bool.true_and, Bool.true_and]
      exact decide_eq_decide.2 (by omega)
    · rw [decide_eq_false hx, Bool.false_and, Bool.false_and]
  generalize n.toNat = N at *
  let r := rE N es
  have hfn := hf.len
  let is : Nat → Nat → Bool := fun c j => (fr.take c).any fun x => inN N x && r x.toNat j
  have h2 := h1.nilrow flN 3 1
  refine ⟨fun out j A m => ∃ c : Nat, j = (c : Int) ∧ c ≤ N ∧ m = N - c ∧ Sym H no A [arr flN 3 1 out ((List.range c).filter (is fr.length)), bo y ss (mtx N r)], ⟨_, 0, rfl, Nat.zero_le _, rfl, h2⟩, ?_⟩
  clear h2 h1
  rintro out j A m ⟨c, rfl, hc, rfl, hA⟩ scr
  have eo : out.n = ((List.range c).filter (is fr.length)).length := RowN.len FlN (by decide) (hA.get (k := 0) rfl)
  have hfl2 := List.length_filter_le (is fr.length) (List.range c)
  rw [List.length_range] at hfl2
  have hy : RR flB 1 A y (mtx N r) := (hA.get (k := 1) rfl : Rows2 flB _ _ 1 none _ y ss _).rr FlB (by decide)
  refine ⟨fun hlt => ?_, fun hge => ?_⟩
  rotate_left
  · have hcN : c = N := by have := dge hge; omega
    subst hcN
    refine k out A hA.fr ?_
    have e : leadsOf c es fr = (List.range c).filter (is fr.length) := by
      unfold leadsOf
      refine List.filter_congr fun v _ => ?_
      show _ = (fr.take fr.length).any _
      rw [List.take_length]
    rw [e]
    exact hA.rd (k := 0) FlN (by decide) rfl
  have hcN : c < N := by have := dlt hlt; omega
  refine ⟨fun b i B m => ∃ a : Nat, B = A ∧ i = (a : Int) ∧ a ≤ fr.length ∧ m = fr.length - a ∧ b = is a c, ⟨_, 0, rfl, rfl, Nat.zero_le _, rfl, rfl⟩, ?_⟩
  rintro b i B m ⟨a, rfl, rfl, ha, rfl, rfl⟩ scr1
  refine ⟨fun hlt => ?_, fun hge => ?_⟩
  · have haf : a < fr.length := by have := dlt hlt; omega
    have hx : fr[a]? = some fr[a] := List.getElem?_eq_getElem haf
    have htk : fr.take (a + 1) = fr.take a ++ [fr[a]] := List.take_succ_eq_append_getElem haf
    generalize fr[a] = x at hx htk
    have his : is (a + 1) c = (is a c || (inN N x && r x.toNat c)) := by
      show (fr.take (a + 1)).any _ = _
      rw [htk, List.any_append]
      simp [is]
    have next : ∀ b, b = is (a + 1) c → ∃ m5, m5 < fr.length - a ∧ ∃ a' : Nat, B = B ∧ w64 ((a : Int) + 1) = (a' : Int) ∧ a' ≤ fr.length ∧ m5 = fr.length - a' ∧ b = is a' c := fun b hb => ⟨fr.length - (a + 1), by omega, a + 1, rfl, wi (by omega), haf, rfl, hb⟩
    have hfA := hf.more hA.fr
    refine ⟨fun ht => next true (by rw [his, ht]; rfl), fun hff => ?_⟩
    refine hfA.ixn FlI hx fun ad e => ⟨_, e, member_ok ⟨_, rfl, ?_⟩⟩
    rw [hnn]
    refine ⟨fun h1 => ?_, fun h1 => next false (by rw [his, hff, h1]; rfl)⟩
    have h1' : 0 ≤ x ∧ x < (N : Int) := by simpa [inN] using h1
    refine hfA.ixn FlI hx fun ad1 e1 => ⟨_, e1, ?_⟩
    have ex : x = ((x.toNat : Nat) : Int) := by omega
    rw [ex]
    refine mtx_ix (K' := fun _ => _) hy (by omega) hcN (next _ ?_)
    rw [his, hff, h1, Bool.false_or, Bool.true_and]
  · have haf : a = fr.length := by have := dge hge; omega
    subst haf
    refine ⟨fun ht => ?_, fun hff => ?_⟩
    · intro b1 C hC
      refine hA.app1 (k := 0) (x := c) tyI FlN (by decide) hC rfl (by omega) fun ap D hap hD => ⟨N - (c + 1), by omega, c + 1, wi (by omega), hcN, rfl, ?_⟩
      rw [List.range_succ, List.filter_append]
      simp only [List.filter_cons, ht, if_true, List.filter_nil]
      exact hD
    · refine ⟨N - (c + 1), by omega, c + 1, wi (by omega), hcN, rfl, ?_⟩
      rw [List.range_succ, List.filter_append]
      simp only [List.filter_cons, hff, Bool.false_eq_true, if_false, List.filter_nil, List.append_nil]
      exact hA

/-- an edge that leads back at once -/
def selfE (N : Nat) (es : List (Int × Int)) : Bool := es.any fun e => inb N e && (e.1 == e.2)
theorem self_adj {N : Nat} {es : List (Int × Int)} : selfE N es = ((List.range N).any fun k => (adj N es k).contains k) := by
  have : selfE N es = true ↔ ((List.range N).any fun k => (adj N es k).contains k) = true := by
    unfold selfE
    rw [List.any_eq_true, List.any_eq_true]
    constructor
    · rintro ⟨e, he, h⟩
      simp only [inb, Bool.and_eq_true, decide_eq_true_eq, beq_iff_eq] at h
      refine ⟨e.1.toNat, List.mem_range.2 (by omega), ?_⟩
      rw [List.contains_iff_mem]
      unfold adj
      rw [List.mem_filterMap]
      refine ⟨e, he, ?_⟩
      rw [if_pos (by simp [inb]; omega), ← h.2]
    · rintro ⟨v, hv, h⟩
      rw [List.contains_iff_mem] at h
      unfold adj at h
      obtain ⟨e, he, h1⟩ := List.mem_filterMap.1 h
      split at h1
      · rename_i hc
        simp only [Option.some.injEq] at h1
        simp only [inb, Bool.and_eq_true, decide_eq_true_eq, beq_iff_eq] at hc
        refine ⟨e, he, ?_⟩
        simp only [inb, Bool.and_eq_true, decide_eq_true_eq, beq_iff_eq]
        omega
      · cases h1
  exact Bool.eq_iff_iff.2 this
theorem round_parts {N : Nat} {es : List (Int × Int)} (hp : PartsFacts N es) : roundOf N es = (selfE N es || (partsOf N es).any fun p => decide (p.length > 1)) := by
  unfold roundOf
  rw [self_adj]
  congr 1
  obtain ⟨P, pt, ch, hP, h1, h2, h3, h4, h5, h6⟩ := hp
  rw [h5]
  have key : ((List.range N).any fun u => (List.range N).any fun v => u != v && (rE N es u v && rE N es v u)) = true ↔ ((ch.map (mem pt N)).any fun p => decide (p.length > 1)) = true := by
    simp only [List.any_eq_true, List.mem_range, Bool.and_eq_true, bne_iff_ne, ne_eq, List.mem_map, decide_eq_true_eq]
    constructor
    · rintro ⟨u, hu, v, hv, hne, he⟩
      have he' := (hP.eqv u v hu hv).2 he
      refine ⟨_, ⟨pt u, h4 _ (hP.lt u hu), rfl⟩, ?_⟩
      have m1 : u ∈ mem pt N (pt u) := mem_iff.2 ⟨hu, rfl⟩
      have m2 : v ∈ mem pt N (pt u) := mem_iff.2 ⟨hv, he'.symm⟩
      match hm : mem pt N (pt u) with
      | [] => rw [hm] at m1; cases m1
      | [a] =>
        rw [hm, List.mem_singleton] at m1 m2
        exact absurd (by rw [m1, m2]) hne
      | a :: b :: l => simp
    · rintro ⟨_, ⟨p, hp, rfl⟩, hlen⟩
      match hm : mem pt N p with
      | [] => rw [hm] at hlen; simp at hlen
      | [a] => rw [hm] at hlen; simp at hlen
      | a :: b :: l =>
        have hs : (mem pt N p).Pairwise (· < ·) := List.Pairwise.filter _ List.pairwise_lt_range
        rw [hm, List.pairwise_cons] at hs
        have hab := hs.1 b List.mem_cons_self
        have ma : a ∈ mem pt N p := by rw [hm]; simp
        have mb : b ∈ mem pt N p := by rw [hm]; simp
        obtain ⟨a1, a2⟩ := mem_iff.1 ma
        obtain ⟨b1, b2⟩ := mem_iff.1 mb
        exact ⟨a, a1, b, b1, by omega, (hP.eqv a b a1 b1).1 (by rw [a2, b2])⟩
  exact Bool.eq_iff_iff.2 key
theorem rround_ok {n : Int} {l : Sl} {es : List (Int × Int)} (h : Rd flE 2 H l es) (hl : es.length ≤ 1000) (hp : PartsFacts (nOf n) es)
    (k : ∀ H', Fr no H H' → K (.bool (roundOf (nOf n) es)) H') : CallF Try.prog 33 #[.int .i64 n, .slice l.a l.n l.c] H K Z := by
  refine V33_ok ?_
  unfold V33
  rw [round_parts hp] at k
  have hln := h.len
  refine ⟨fun i A m => ∃ c : Nat, A = H ∧ i = (c : Int) ∧ c ≤ es.length ∧ m = es.length - c ∧ selfE (nOf n) (es.take c) = false, ⟨_, 0, rfl, rfl, Nat.zero_le _, rfl, rfl⟩, ?_⟩
  rintro i A m ⟨c, rfl, rfl, hc, rfl, hno⟩ scr
  refine ⟨fun hlt => ?_, fun hge => ?_⟩
  · have hcl : c < es.length := by have := dlt hlt; omega
    have hx : es[c]? = some es[c] := List.getElem?_eq_getElem hcl
    have htk : es.take (c + 1) = es.take c ++ [es[c]] := List.take_succ_eq_append_getElem hcl
    generalize es[c] = e at hx htk
    have next : (inb (nOf n) e && (e.1 == e.2)) = false → ∃ m2, m2 < es.length - c ∧ ∃ c' : Nat, A = A ∧ w64 ((c : Int) + 1) = (c' : Int) ∧ c' ≤ es.length ∧ m2 = es.length - c' ∧ selfE (nOf n) (es.take c') = false := by
      intro hh
      refine ⟨es.length - (c + 1), by omega, c + 1, rfl, wi (by omega), hcl, rfl, ?_⟩
      unfold selfE at hno ⊢
      rw [htk, List.any_append, hno]
      simp [hh]
    refine ⟨fun hn => ?_, fun hn => next ?_⟩
    · have hn' : n ≤ 20000 := of_decide_eq_true hn
      have hnn := nOf_nat hn'
      refine h.ix (by decide) FlE (by omega) hx fun ad _ e0 => ⟨_, e0, member_ok ⟨_, rfl, fun hy => ?_, fun hy => next ?_⟩⟩
      · have hy' : 0 ≤ e.1 ∧ e.1 < n := by simpa using hy
        refine h.ix (by decide) FlE (by omega) hx fun ad1 _ e1 => ⟨_, e1, h.ix (by decide) FlE (by omega) hx fun ad2 h2 _ => ⟨_, h2 1 _ rfl, fun heq => ?_, fun hne => next ?_⟩⟩
        · have heq' : e.1 = e.2 := by simpa using heq
          have : selfE (nOf n) es = true := by
            unfold selfE
            rw [List.any_eq_true]
            refine ⟨e, List.mem_of_getElem? hx, ?_⟩
            simp only [inb, Bool.and_eq_true, decide_eq_true_eq, beq_iff_eq]
            omega
          have hk := k A (Fr.refl _ _)
          rw [this, Bool.true_or] at hk
          exact hk
        · rw [hne, Bool.and_false]
      · simp only [Bool.and_eq_false_iff, decide_eq_false_iff_not] at hy
        have : inb (nOf n) e = false := by simp [inb]; omega
        rw [this]; rfl
    · have hn' : n > 20000 := by have := of_decide_eq_false hn; omega
      have : inb (nOf n) e = false := by
        rw [nOf_big hn']
        unfold inb
        cases h1 : decide (0 ≤ e.1)
        · rfl
        · have h1' : 0 ≤ e.1 := of_decide_eq_true h1
          have h2 : decide (e.1 < ((0 : Nat) : Int)) = false := decide_eq_false (by omega)
          rw [h2]; rfl
      rw [this]; rfl
  · have hcl : es.length ≤ c := by have := dge hge; omega
    rw [List.take_of_length_le hcl] at hno
    rw [hno, Bool.false_or] at k
    refine rparts_ok h hl fun s B hB hr => ⟨s, rfl, ?_⟩
    have hps : (partsOf (nOf n) es).length ≤ 20000 := Nat.le_trans (bld_len _ _) nOf_le
    generalize partsOf (nOf n) es = ps at *
    have hsn : s.n = ps.length := hr.len
    have hfin : ∀ b, (b = true ↔ ∃ p ∈ ps, p.length > 1) → K (.bool b) B := by
      intro b hb
      have : b = ps.any fun p => decide (p.length > 1) := by
        have h1 : (ps.any fun p => decide (p.length > 1)) = true ↔ ∃ p ∈ ps, p.length > 1 := by simp
        exact Bool.eq_iff_iff.2 (hb.trans h1.symm)
      rw [this]
      exact k B hB
    refine ⟨fun i C m => ∃ a : Nat, C = B ∧ i = (a : Int) ∧ a ≤ ps.length ∧ m = ps.length - a ∧ ∀ p ∈ ps.take a, ¬ p.length > 1, ⟨_, 0, rfl, rfl, Nat.zero_le _, rfl, by simp⟩, ?_⟩
    rintro i C m ⟨a, rfl, rfl, ha, rfl, hall⟩ scr1
    refine ⟨fun hlt => ?_, fun hge => ?_⟩
    · have hal : a < ps.length := by have := dlt hlt; omega
      have hx : ps[a]? = some ps[a] := List.getElem?_eq_getElem hal
      have htk : ps.take (a + 1) = ps.take a ++ [ps[a]] := List.take_succ_eq_append_getElem hal
      generalize ps[a] = p at hx htk
      refine hr.ixn hx fun ad si hsi e => ⟨si, e, fun h1 => ?_, fun h1 => ?_⟩
      · have h1' : si.n > 1 := by have := of_decide_eq_true h1; omega
        rw [hsi.len] at h1'
        exact hfin true ⟨fun _ => ⟨p, List.mem_of_getElem? hx, h1'⟩, fun _ => rfl⟩
      · have h1' : ¬ si.n > 1 := by have := of_decide_eq_false h1; omega
        rw [hsi.len] at h1'
        refine ⟨ps.length - (a + 1), by omega, a + 1, rfl, wi (by omega), hal, rfl, fun q hq => ?_⟩
        rw [htk] at hq
        rcases List.mem_append.1 hq with hq | hq
        · exact hall q hq
        · rw [List.mem_singleton.1 hq]; exact h1'
    · have hal : ps.length ≤ a := by have := dge hge; omega
      rw [List.take_of_length_le hal] at hall
      exact hfin false ⟨fun h => (by cases h), fun ⟨p, h1, h2⟩ => absurd h2 (hall p h1)⟩
end
end Go.Proofs.Ytoigfahdgphpdaa.C7

