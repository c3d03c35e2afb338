/- tarjan: Leads and Round. -/
import Derived.Test.YtoigfahdgphpdaaC7Q
set_option linter.unusedVariables false
set_option linter.unusedSimpArgs false
-- tInt: 3
-- tInts: 42
-- tBool: 4
-- leads: 40
-- round: 32
namespace Go.Proofs.Ytoigfahdgphpdaa.C7
open Go Go.V Go.Proofs Go.Proofs.Ytoigfahdgphpdaa.N07 Go.Tar
attribute [local irreducible] Cvt ExtF CallF hrun App MkS
/-- a place among members -/
def inN (N : Nat) (x : Int) : Bool := decide (0 ≤ x) && decide (x < (N : Int))
def leadsOf (N : Nat) (es : List (Int × Int)) (fr : List Int) : List Nat := (List.range N).filter fun j => fr.any fun x => inN N x && rE N es x.toNat j
def srcs (N : Nat) (fr : List Int) : List Nat := fr.filterMap fun x => if inN N x then some x.toNat else none
theorem srcs_snoc {N : Nat} {fr : List Int} {x : Int} : srcs N (fr ++ [x]) = if inN N x then srcs N fr ++ [x.toNat] else srcs N fr := by
  unfold srcs
  rw [List.filterMap_append, List.filterMap_cons]
  split
  · rename_i h; rw [if_neg (by split at h <;> simp_all)]; simp
  · rename_i h
    split at h
    · rename_i hc; rw [if_pos hc]; simp_all
    · cases h
theorem srcs_mem {N v : Nat} {fr : List Int} : v ∈ srcs N fr ↔ ∃ x ∈ fr, inN N x = true ∧ x.toNat = v := by
  unfold srcs
  rw [List.mem_filterMap]
  constructor
  · rintro ⟨x, h1, h2⟩
    split at h2
    · rename_i h; exact ⟨x, h1, h, by simpa using h2⟩
    · cases h2
  · rintro ⟨x, h1, h2, h3⟩
    exact ⟨x, h1, by rw [if_pos h2, h3]⟩
theorem srcs_le {N : Nat} {fr : List Int} : (srcs N fr).length ≤ fr.length := List.length_filterMap_le _ _
def rest (N : Nat) (g : Nat → List Nat) (th : Nat → Bool) : Nat := ((List.range N).map fun v => if (th v).toNat = 0 then (g v).length else 0).sum
theorem rest_upd {N v : Nat} {g : Nat → List Nat} {th : Nat → Bool} (hv : v < N) (h0 : th v = false) : rest N g (upd th v true) + (g v).length = rest N g th := by
  have := (sum_upd (f := fun v => (th v).toNat) (c := fun v => (g v).length) (v := v) (k := 1) (by simp [h0]) (by decide) (n := N)).1 hv
  unfold rest
  rw [← this]
  congr 3
  funext u
  by_cases hu : u = v
  · subst hu; simp [upd_self]
  · simp [upd_ne hu]
theorem rest_le {N D : Nat} {g : Nat → List Nat} {th : Nat → Bool} (h : ∀ v, (g v).length ≤ D) : rest N g th ≤ N * D := by
  unfold rest
  have key : ∀ m : Nat, ((List.range m).map fun v => if (th v).toNat = 0 then (g v).length else 0).sum ≤ m * D := by
    intro m
    induction m with
    | zero => simp
    | succ m ih =>
      simp only [List.range_succ, List.map_append, List.sum_append, List.map_cons, List.map_nil, List.sum_cons, List.sum_nil, Nat.succ_mul]
      have := h m
      split <;> omega
  exact key N
section
variable {H : Hp} {K : Value → Hp → Prop} {Z : List PanicEntry → Hp → Prop}
set_option maxRecDepth 10000 in
theorem leads_ok {n : Int} {l t : Sl} {es : List (Int × Int)} {fr : List Int} (h : Rd flE 2 H l es) (hl : es.length ≤ 1000) (hf : Rd flI 1 H t fr) (hfl : fr.length ≤ 1000)
    (k : ∀ s H', Fr no H H' → Rd flN 1 H' s (leadsOf (nOf n) es fr) → K (.slice s.a s.n s.c) H') : CallF Try.prog 40 #[.int .i64 n, .slice l.a l.n l.c, .slice t.a t.n t.c] H K Z := by
  refine V40_ok ?_
  unfold V40
  refine made_ok h (by omega) fun G ssG H1 hG0 hGn => ?_
  have hG1 : Sym H no H1 [ro G ssG (adjs (nOf n) es)] := hG0
  have hGn' : G.n = nOf n := hGn
  clear hG0 hGn
  refine ⟨G, rfl, ?_⟩
  have hN : nOf n ≤ 20000 := nOf_le
  generalize nOf n = N at *
  refine hG1.make tyB FlB (zt := false) rfl rfl (by omega) fun mk H2 hmk _ _ h2 => ?_
  rw [hGn', mp_rep (N := N) (f := fun _ : Nat => false) fun _ => rfl] at h2
  rw [hGn'] at hmk
  have hfn := hf.len
  have h3 := h2.nilrow flN 3 1
  -- those it begins with
  refine ⟨fun todo i A m => ∃ j : Nat, i = (j : Int) ∧ j ≤ fr.length ∧ m = fr.length - j ∧ Sym H no A [arr flN 3 1 todo (srcs N (fr.take j)), arr flB 4 1 mk (mp N fun _ => false), ro G ssG (adjs N es)], ⟨_, 0, rfl, Nat.zero_le _, rfl, h3⟩, ?_⟩
  clear h3 h2
  rintro todo i A m ⟨j, rfl, hj, rfl, hA⟩ scr
  have etd : todo.n = (srcs N (fr.take j)).length := RowN.len FlN (by decide) (hA.get (k := 0) rfl)
  have etl := @srcs_le N (fr.take j)
  rw [List.length_take] at etl
  refine ⟨fun hlt => ?_, fun hge => ?_⟩
  · have hjl : j < fr.length := by have := dlt hlt; omega
    have hx : fr[j]? = some fr[j] := List.getElem?_eq_getElem hjl
    have htk : fr.take (j + 1) = fr.take j ++ [fr[j]] := List.take_succ_eq_append_getElem hjl
    generalize fr[j] = x at hx htk
    have next : ∀ (B : Hp) (s : Sl), Sym H no B [arr flN 3 1 s (srcs N (fr.take (j + 1))), arr flB 4 1 mk (mp N fun _ => false), ro G ssG (adjs N es)] →
        ∃ m2, m2 < fr.length - j ∧ ∃ j' : Nat, w64 ((j : Int) + 1) = (j' : Int) ∧ j' ≤ fr.length ∧ m2 = fr.length - j' ∧ Sym H no B [arr flN 3 1 s (srcs N (fr.take j')), arr flB 4 1 mk (mp N fun _ => false), ro G ssG (adjs N es)] :=
      fun B s hB => ⟨fr.length - (j + 1), by omega, j + 1, wi (by omega), hjl, rfl, hB⟩
    refine (hf.more hA.fr).ixn FlI hx fun ad ea => ⟨_, ea, fun h0 => ⟨fun h1 => ?_, fun h1 => ?_⟩, fun h0 => ?_⟩
    · have h0' : 0 ≤ x := of_decide_eq_true h0
      have h1' : x < (N : Int) := by have := of_decide_eq_true h1; omega
      have hin : inN N x = true := by simp [inN, h0', h1']
      intro b B hB
      have ex : x = ((x.toNat : Nat) : Int) := by omega
      rw [ex] at hB
      refine hA.app1 (k := 0) (x := x.toNat) tyI FlN (by decide) hB rfl (by omega) fun ap C hap hC => next C ap ?_
      rw [htk, srcs_snoc, if_pos hin]
      exact hC
    · refine next A todo ?_
      have : inN N x = false := by have := of_decide_eq_false h1; simp [inN]; omega
      rw [htk, srcs_snoc, this]
      exact hA
    · refine next A todo ?_
      have : inN N x = false := by have := of_decide_eq_false h0; simp [inN]; omega
      rw [htk, srcs_snoc, this]
      exact hA
  have hge' : fr.length ≤ j := by have := dge hge; omega
  rw [List.take_of_length_le hge'] at hA etd
  have hsl := @srcs_le N fr
  -- all that they lead to
  have hrl : rest N (adj N es) (fun _ => false) ≤ 20000000 := by
    have := rest_le (N := N) (g := adj N es) (th := fun _ => false) (D := 1000) fun v => Nat.le_trans adj_le hl
    have h2 : N * 1000 ≤ 20000 * 1000 := Nat.mul_le_mul_right _ hN
    omega
  refine ⟨fun todo A m => ∃ (td : List Nat) (th : Nat → Bool), m = td.length + rest N (adj N es) th ∧ td.length + rest N (adj N es) th ≤ 30000000 ∧ (∀ v ∈ td, v < N ∧ ∃ u ∈ srcs N fr, Rch (Eg (adj N es)) u v) ∧
      (∀ v, th v = true → (v < N ∧ ∃ u ∈ srcs N fr, Rch (Eg (adj N es)) u v) ∧ ∀ u ∈ adj N es v, th u = true ∨ u ∈ td) ∧ (∀ u ∈ srcs N fr, th u = true ∨ u ∈ td) ∧
      Sym H no A [arr flN 3 1 todo td, arr flB 4 1 mk (mp N th), ro G ssG (adjs N es)],
    ⟨_, srcs N fr, fun _ => false, rfl, by omega, ?_, by simp, fun u hu => .inr hu, hA⟩, ?_⟩
  · intro v hv
    refine ⟨?_, v, hv, .refl _⟩
    obtain ⟨x, _, h1, h2⟩ := srcs_mem.1 hv
    simp only [inN, Bool.and_eq_true, decide_eq_true_eq] at h1
    omega
  clear hA etd hge etl hj
  clear todo
  rintro todo B m ⟨td, th, rfl, hbd, htd, hth, hsr, hB⟩ scr1
  have etd : todo.n = td.length := RowN.len FlN (by decide) (hB.get (k := 0) rfl)
  refine ⟨fun hpos => ?_, fun hz => ?_⟩
  · obtain ⟨td', v, rfl⟩ : ∃ td' v, td = td' ++ [v] := by
      rcases List.eq_nil_or_concat td with rfl | ⟨a, b, h⟩
      · have := of_decide_eq_true hpos; simp at etd; omega
      · exact ⟨a, b, by rw [h, List.concat_eq_append]⟩
    have el : (td' ++ [v]).length = td'.length + 1 := by simp
    have hw : w64 ((todo.n : Int) - 1) = (td'.length : Int) := by rw [etd, el, wd (by omega) (by omega)]; rfl
    rw [hw]
    have hget : (td' ++ [v])[td'.length]? = some v := by simp
    obtain ⟨hvN, hvr⟩ := htd v (by simp)
    refine (hB.rd (k := 0) FlN (by decide) rfl).ixn FlN hget fun ad1 e1 => ⟨_, e1, ?_⟩
    refine hB.trunc (k := 0) (hi := td'.length) FlN (by decide) rfl (by omega) fun hC0 => ?_
    have htk : (td' ++ [v]).take td'.length = td' := List.take_left
    rw [htk] at hC0
    have hC : Sym H no B [arr flN 3 1 ⟨todo.a, td'.length, todo.c⟩ td', arr flB 4 1 mk (mp N th), ro G ssG (adjs N es)] := hC0
    refine (hC.rd (k := 1) FlB (by decide) rfl).ixn FlB (mp_get hvN) fun ad2 e2 => ⟨_, e2, fun hno => ?_, fun hyes => ?_⟩
    · have hno' : th v = false := by simpa using hno
      have hru := rest_upd (g := adj N es) hvN hno'
      refine hC.stn (k := 1) (y := true) FlB rfl (mp_get hvN) rfl fun D hD0 => ?_
      have hD : Sym H no D [arr flN 3 1 ⟨todo.a, td'.length, todo.c⟩ td', arr flB 4 1 mk ((mp N th).set v true), ro G ssG (adjs N es)] := hD0
      rw [mp_set] at hD
      have hokG : Rows2 flN 42 3 1 none D G ssG (adjs N es) := hD.get (k := 2) rfl
      have hgl : ssG.length = N := by rw [hokG.len, adjs_len]
      have hsi : ssG[v]? = some (ssG[v]'(by omega)) := List.getElem?_eq_getElem _
      generalize ssG[v]'(by omega) = si at hsi
      have rsi := (hokG.rd FlN (by decide)).2 v si _ hsi (adjs_get hvN)
      have hael := @adj_le N v es
      refine (hokG.rd FlN (by decide)).1.ixn FlS hsi fun ad4 e4 => ⟨si, e4, ?_⟩
      refine hD.appR (k := 0) (s := ⟨todo.a, td'.length, todo.c⟩) tyI FlN (by decide) rfl rsi (by show (td'.length + _) * 8 ≤ _; omega) fun ap E hap hE => ?_
      rw [el] at hbd
      refine ⟨_, ?_, td' ++ adj N es v, upd th v true, rfl, ?_, ?_, ?_, ?_, hE⟩
      · rw [List.length_append, el]; omega
      · rw [List.length_append]; omega
      · intro u hu
        rcases List.mem_append.1 hu with hu | hu
        · exact htd u (List.mem_append.2 (.inl hu))
        · obtain ⟨w, hw1, hw2⟩ := hvr
          exact ⟨adj_lt hu, w, hw1, hw2.tail hu⟩
      · intro u hu
        by_cases huv : u = v
        · subst huv
          exact ⟨⟨hvN, hvr⟩, fun w hw => .inr (List.mem_append.2 (.inr hw))⟩
        · rw [upd_ne huv] at hu
          obtain ⟨a1, a2⟩ := hth u hu
          refine ⟨a1, fun w hw => ?_⟩
          by_cases hwv : w = v
          · left; rw [hwv, upd_self]
          · rw [upd_ne hwv]
            rcases a2 w hw with h | h
            · exact .inl h
            · rcases List.mem_append.1 h with h | h
              · exact .inr (List.mem_append.2 (.inl h))
              · exact absurd (List.mem_singleton.1 h) hwv
      · intro w hw
        by_cases hwv : w = v
        · left; rw [hwv, upd_self]
        · rw [upd_ne hwv]
          rcases hsr w hw with h | h
          · exact .inl h
          · rcases List.mem_append.1 h with h | h
            · exact .inr (List.mem_append.2 (.inl h))
            · exact absurd (List.mem_singleton.1 h) hwv
    · have hyes' : th v = true := by simpa using hyes
      rw [el] at hbd
      refine ⟨_, ?_, td', th, rfl, by omega, fun u hu => htd u (List.mem_append.2 (.inl hu)), fun u hu => ?_, fun w hw => ?_, hC⟩
      · rw [el]; omega
      · obtain ⟨a1, a2⟩ := hth u hu
        refine ⟨a1, fun w hw => ?_⟩
        rcases a2 w hw with h | h
        · exact .inl h
        · rcases List.mem_append.1 h with h | h
          · exact .inr h
          · rw [List.mem_singleton.1 h]; exact .inl hyes'
      · rcases hsr w hw with h | h
        · exact .inl h
        · rcases List.mem_append.1 h with h | h
          · exact .inr h
          · rw [List.mem_singleton.1 h]; exact .inl hyes'
  · have htd0 : td = [] := List.eq_nil_of_length_eq_zero (by have := of_decide_eq_false hz; omega)
    subst htd0
    -- those that were come to
    have hfin : ∀ v, v < N → (th v = true ↔ (fr.any fun x => inN N x && rE N es x.toNat v) = true) := by
      intro v hv
      rw [List.any_eq_true]
      constructor
      · intro ht
        obtain ⟨⟨_, u, hu, hr⟩, _⟩ := hth v ht
        obtain ⟨x, h1, h2, h3⟩ := srcs_mem.1 hu
        refine ⟨x, h1, ?_⟩
        rw [h2, Bool.true_and, h3]
        refine (rE_iff ?_).2 hr
        simp only [inN, Bool.and_eq_true, decide_eq_true_eq] at h2
        omega
      · rintro ⟨x, h1, h2⟩
        rw [Bool.and_eq_true] at h2
        have hin := h2.1
        simp only [inN, Bool.and_eq_true, decide_eq_true_eq] at hin
        have hr := (rE_iff (N := N) (es := es) (i := x.toNat) (j := v) (by omega)).1 h2.2
        have hs : th x.toNat = true := (hsr _ (srcs_mem.2 ⟨x, h1, h2.1, rfl⟩)).resolve_right (by simp)
        refine hr.closed (C := fun v => th v = true) (fun a b ha hab => ?_) hs
        exact ((hth a ha).2 b hab).resolve_right (by simp)
    have hB1 := (hB.nilrow flN 3 1)
    refine ⟨fun out i A m => ∃ j : Nat, i = (j : Int) ∧ j ≤ N ∧ m = N - j ∧ Sym H no A [arr flN 3 1 out ((List.range j).filter th), arr flB 4 1 mk (mp N th)], ⟨_, 0, rfl, Nat.zero_le _, rfl, hB1.re [0, 2] (by decide)⟩, ?_⟩
    clear hB1 hB
    rintro out i C m ⟨j, rfl, hj, rfl, hC⟩ scr2
    have eo : out.n = ((List.range j).filter th).length := RowN.len FlN (by decide) (hC.get (k := 0) rfl)
    have hfl2 := List.length_filter_le th (List.range j)
    rw [List.length_range] at hfl2
    have hmkn : mk.n = N := hmk
    refine ⟨fun hlt => ?_, fun hge => ?_⟩
    · have hjN : j < N := by have := dlt hlt; omega
      refine (hC.rd (k := 1) FlB (by decide) rfl).ixn FlB (mp_get hjN) fun ad5 e5 => ⟨_, e5, fun ht => ?_, fun ht => ?_⟩
      · intro b D hD
        have ht' : th j = true := ht
        refine hC.app1 (k := 0) (x := j) tyI FlN (by decide) hD rfl (by omega) fun ap E hap hE => ⟨N - (j + 1), by omega, j + 1, wi (by omega), hjN, rfl, ?_⟩
        rw [List.range_succ, List.filter_append]
        simp only [List.filter_cons, ht', if_true, List.filter_nil]
        exact hE
      · have ht' : th j = false := ht
        refine ⟨N - (j + 1), by omega, j + 1, wi (by omega), hjN, rfl, ?_⟩
        rw [List.range_succ, List.filter_append]
        simp only [List.filter_cons, ht', Bool.false_eq_true, if_false, List.filter_nil, List.append_nil]
        exact hC
    · have hjN : j = N := by have := dge hge; omega
      subst hjN
      refine k out C hC.fr ?_
      have e : leadsOf j es fr = (List.range j).filter th := by
        unfold leadsOf
        refine List.filter_congr fun v hv => ?_
        have := hfin v (List.mem_range.1 hv)
        cases h1 : th v <;> cases h2 : (fr.any fun x => inN j x && rE j es x.toNat v) <;> simp_all
      rw [e]
      exact hC.rd (k := 0) FlN (by decide) rfl

/-- does anything lead back to itself? -/
def roundOf (N : Nat) (es : List (Int × Int)) : Bool := ((List.range N).any fun k => (adj N es k).contains k) || ((List.range N).any fun u => (List.range N).any fun v => u != v && (rE N es u v && rE N es v u))
theorem nodup_le {P : Nat} {l : List Nat} (hn : l.Nodup) (hl : ∀ x ∈ l, x < P) : l.length ≤ P := by
  have hsub : l.length = cnt (fun v => decide (v ∈ l)) P := by
    induction l with
    | nil => exact (cnt_zero.2 fun v _ => by simp).symm
    | cons a l ih =>
      rw [List.nodup_cons] at hn
      rw [List.length_cons, ih hn.2 fun x hx => hl x (List.mem_cons_of_mem _ hx)]
      exact (cnt_up (v := a) (by simpa using hn.1) (by simp) (fun u hu => by simp [hu]) (hl a List.mem_cons_self)).symm
  rw [hsub]
  exact cnt_le P
theorem map_nodup {f : Nat → Nat} : ∀ {l : List Nat}, l.Nodup → (∀ x ∈ l, ∀ y ∈ l, f x = f y → x = y) → (l.map f).Nodup
  | [], _, _ => by simp
  | a :: l, hn, hf => by
    rw [List.nodup_cons] at hn
    rw [List.map_cons, List.nodup_cons]
    refine ⟨?_, map_nodup hn.2 fun x hx y hy => hf x (List.mem_cons_of_mem _ hx) y (List.mem_cons_of_mem _ hy)⟩
    intro hc
    obtain ⟨x, hx, he⟩ := List.mem_map.1 hc
    have := hf x (List.mem_cons_of_mem _ hx) a List.mem_cons_self he
    exact hn.1 (this ▸ hx)
theorem parts_few {r : Nat → Nat → Bool} {N P : Nat} {pt : Nat → Nat} {g : Nat → List Nat} (h : PtOk r N P pt g) : P < N ↔ ∃ u v, u < N ∧ v < N ∧ u ≠ v ∧ pt u = pt v := by
  constructor
  · intro hP
    apply Classical.byContradiction
    intro hc
    have h1 : ((List.range N).map pt).Nodup := map_nodup List.nodup_range fun x hx y hy e => by
      apply Classical.byContradiction
      intro hne
      exact hc ⟨x, y, List.mem_range.1 hx, List.mem_range.1 hy, hne, e⟩
    have h2 := nodup_le (P := P) h1 fun x hx => by
      obtain ⟨v, hv, rfl⟩ := List.mem_map.1 hx
      exact h.lt v (List.mem_range.1 hv)
    simp at h2
    omega
  · rintro ⟨u, v, hu, hv, hne, he⟩
    -- one of each part
    have hrep : ∀ p, ∃ w, p < P → w < N ∧ pt w = p ∧ (p = pt v → w = u) := by
      intro p
      by_cases hp : p < P
      · by_cases hpv : p = pt v
        · exact ⟨u, fun _ => ⟨hu, by rw [hpv]; exact he, fun _ => rfl⟩⟩
        · obtain ⟨w, h1, h2⟩ := h.full p hp
          exact ⟨w, fun _ => ⟨h1, h2, fun hc => absurd hc hpv⟩⟩
      · exact ⟨0, fun hc => absurd hc hp⟩
    let f : Nat → Nat := fun p => Classical.choose (hrep p)
    have hf : ∀ p, p < P → f p < N ∧ pt (f p) = p ∧ (p = pt v → f p = u) := fun p => Classical.choose_spec (hrep p)
    have h1 : (v :: (List.range P).map f).Nodup := by
      rw [List.nodup_cons]
      refine ⟨?_, map_nodup List.nodup_range fun x hx y hy e => ?_⟩
      · intro hc
        obtain ⟨p, hp, hpf⟩ := List.mem_map.1 hc
        obtain ⟨_, b, c⟩ := hf p (List.mem_range.1 hp)
        rw [hpf] at b c
        exact hne (c b.symm).symm
      · rw [← (hf x (List.mem_range.1 hx)).2.1, ← (hf y (List.mem_range.1 hy)).2.1, e]
    have h2 := nodup_le (P := N) h1 fun x hx => by
      rcases List.mem_cons.1 hx with rfl | hx
      · exact hv
      · obtain ⟨p, hp, rfl⟩ := List.mem_map.1 hx
        exact (hf p (List.mem_range.1 hp)).1
    simp at h2
    omega
theorem round2 {N P : Nat} {es : List (Int × Int)} {pt : Nat → Nat} {g : Nat → List Nat} (h : PtOk (rE N es) N P pt g) : P < N ↔ ((List.range N).any fun u => (List.range N).any fun v => u != v && (rE N es u v && rE N es v u)) = true := by
  rw [parts_few h]
  simp only [List.any_eq_true, List.mem_range, Bool.and_eq_true, bne_iff_ne, ne_eq]
  constructor
  · rintro ⟨u, v, hu, hv, hne, he⟩
    exact ⟨u, hu, v, hv, hne, (h.eqv u v hu hv).1 he⟩
  · rintro ⟨u, hu, v, hv, hne, he⟩
    exact ⟨u, v, hu, hv, hne, (h.eqv u v hu hv).2 he⟩
set_option maxRecDepth 10000 in
theorem round_ok {n : Int} {l : Sl} {es : List (Int × Int)} (h : Rd flE 2 H l es) (hl : es.length ≤ 1000)
    (k : ∀ H', Fr no H H' → K (.bool (roundOf (nOf n) es)) H') : CallF Try.prog 32 #[.int .i64 n, .slice l.a l.n l.c] H K Z := by
  refine V32_ok ?_
  unfold V32
  refine made_ok h (by omega) fun G ssG H1 hG0 hGn => ?_
  have hG1 : Sym H no H1 [ro G ssG (adjs (nOf n) es)] := hG0
  have hGn' : G.n = nOf n := hGn
  clear hG0 hGn
  refine ⟨G, rfl, ?_⟩
  have hN : nOf n ≤ 20000 := nOf_le
  generalize nOf n = N at *
  have hokG : Rows2 flN 42 3 1 none H1 G ssG (adjs N es) := hG1.get (k := 0) rfl
  have hgl : ssG.length = N := by rw [hokG.len, adjs_len]
  refine ⟨fun i A m => ∃ j : Nat, A = H1 ∧ i = (j : Int) ∧ j ≤ N ∧ m = N - j ∧ ∀ v, v < j → v ∉ adj N es v, ⟨_, 0, rfl, rfl, Nat.zero_le _, rfl, fun v hv => by omega⟩, ?_⟩
  rintro i A m ⟨j, rfl, rfl, hj, rfl, hno⟩ scr
  refine ⟨fun hlt => ?_, fun hge => ?_⟩
  · have hjN : j < N := by have := dlt hlt; omega
    have hsi : ssG[j]? = some (ssG[j]'(by omega)) := List.getElem?_eq_getElem _
    generalize ssG[j]'(by omega) = si at hsi
    have rsi := (hokG.rd FlN (by decide)).2 j si _ hsi (adjs_get hjN)
    have hael := @adj_le N j es
    refine (hokG.rd FlN (by decide)).1.ixn FlS hsi fun ad e => ⟨si, e, ?_⟩
    refine contains_ok rsi (by omega) ⟨_, rfl, fun hy => ?_, fun hy => ?_⟩
    · have hy' : j ∈ adj N es j := by simpa using hy
      have : roundOf N es = true := by
        unfold roundOf
        rw [Bool.or_eq_true]
        left
        rw [List.any_eq_true]
        exact ⟨j, List.mem_range.2 hjN, by simpa using hy'⟩
      have hk := k A hG1.fr
      rw [this] at hk
      exact hk
    · have hy' : j ∉ adj N es j := by simpa using hy
      refine ⟨N - (j + 1), by omega, j + 1, rfl, wi (by omega), hjN, rfl, fun v hv => ?_⟩
      by_cases hvj : v = j
      · subst hvj; exact hy'
      · exact hno v (by omega)
  · have hjN : j = N := by have := dge hge; omega
    subst hjN
    refine run_ok hokG (by omega) hl fun b q s H2 hS hI hst hvis => ?_
    have hP := ptok hI hst hvis
    refine ⟨_, rfl, ?_⟩
    refine ⟨_, by rw [add_mk]; exact hS.ld (k := 0) rfl 6, ?_⟩
    have hk := k H2 (hG1.fr.trans hS.fr)
    have e : decide ((s.parts : Int) < (G.n : Int)) = roundOf j es := by
      rw [hGn']
      unfold roundOf
      have h1 : ((List.range j).any fun k => (adj j es k).contains k) = false := by
        rw [List.any_eq_false]
        intro v hv
        have := hno v (List.mem_range.1 hv)
        simpa using this
      rw [h1, Bool.false_or]
      have h2 := round2 hP
      cases hb : ((List.range j).any fun u => (List.range j).any fun v => u != v && (rE j es u v && rE j es v u)) with
      | true => have := h2.2 hb; simp; omega
      | false =>
        have : ¬ s.parts < j := fun hc => by rw [h2.1 hc] at hb; cases hb
        simp; omega
    rw [e]
    exact hk
end
end Go.Proofs.Ytoigfahdgphpdaa.C7

