/- weftlaw07: helpers. -/
import Derived.Test.YtoigfahdgphpdaaC7T
set_option linter.unusedVariables false
set_option linter.unusedSimpArgs false
-- tInt: 3
-- tInts: 42
-- tEdge: 96
-- tEdges: 40
-- tREdge: 45
-- tREdges: 35
-- sameInts: 39
-- lSame: 30
-- lEdges: 23
-- lRound: 24
-- lWorks: 20
-- lGreat: 21
namespace Go.Proofs.Ytoigfahdgphpdaa.L7
open Go Go.V Go.Proofs Go.Proofs.Ytoigfahdgphpdaa.N07 Go.Proofs.Ytoigfahdgphpdaa.C7 Go.Tar
attribute [local irreducible] Cvt ExtF CallF hrun App MkS
theorem tyE : TyS Try.prog 40 96 2 16 (.agg #[.int .i64 0, .int .i64 0]) := ⟨by kernel_rfl, by kernel_rfl, rfl, by decide⟩
theorem tyRE : TyS Try.prog 35 45 2 16 (.agg #[.int .i64 0, .int .i64 0]) := ⟨by kernel_rfl, by kernel_rfl, rfl, by decide⟩
section
variable {H : Hp} {K : Value → Hp → Prop} {Z : List PanicEntry → Hp → Prop}
theorem great_ok {n : Int} {l : Sl} {es : List (Int × Int)} (h : Rd flE 2 H l es) (k1 : K (.bool true) H) (k2 : es.length ≤ 200 → K (.bool false) H) : CallF Try.prog 21 #[.int .i64 n, .slice l.a l.n l.c] H K Z := by
  refine V21_ok ?_
  unfold V21
  have hn := h.len
  have key : K (.bool (decide ((l.n : Int) > 200))) H := by
    by_cases hc : (l.n : Int) > 200
    · rw [decide_eq_true hc]; exact k1
    · rw [decide_eq_false hc]; exact k2 (by omega)
  exact ⟨fun _ => ⟨fun _ => k1, fun _ => key⟩, fun _ => key⟩
theorem sameInts_ok {s t : Sl} {a b : List Nat} (ha : Rd flN 1 H s a) (hb : Rd flN 1 H t b) (hl : a.length ≤ 1000000000) (k : K (.bool (decide (a = b))) H) : CallF Try.prog 39 #[.slice s.a s.n s.c, .slice t.a t.n t.c] H K Z := by
  refine V39_ok ?_
  unfold V39
  have h1 := ha.len
  have h2 := hb.len
  have no : ¬ a = b → K (.bool false) H := fun h => by rw [decide_eq_false h] at k; exact k
  have yes : a = b → K (.bool true) H := fun h => by rw [decide_eq_true h] at k; exact k
  refine ⟨fun hne => no fun e => ?_, fun he => ?_⟩
  · rw [h1, h2, e] at hne
    simp at hne
  have he' : a.length = b.length := by
    have : (s.n : Int) = (t.n : Int) := by simpa using he
    omega
  have eqall : ∀ j, b.length ≤ j → a.take j = b.take j → a = b := by
    intro j hj h
    rwa [List.take_of_length_le (by omega), List.take_of_length_le hj] at h
  refine ⟨fun i A m => ∃ j : Nat, A = H ∧ i = (j : Int) ∧ j ≤ a.length ∧ m = a.length - j ∧ a.take j = b.take j, ⟨_, 0, rfl, rfl, Nat.zero_le _, rfl, rfl⟩, ?_⟩
  rintro i A m ⟨j, rfl, rfl, hj, rfl, ht⟩ scr
  refine ⟨fun hlt => ⟨fun hlt2 => ?_, fun hge => ?_⟩, fun hge => ?_⟩
  · have hja : j < a.length := by have := dlt hlt; omega
    have hjb : j < b.length := by omega
    refine ha.ixn FlN (List.getElem?_eq_getElem hja) fun ad e => ⟨_, e, hb.ixn FlN (List.getElem?_eq_getElem hjb) fun ad1 e1 => ⟨_, e1, fun hne => no fun e => ?_, fun heq => ?_⟩⟩
    · subst e
      simp at hne
    · have heq' : a[j] = b[j] := by
        have : ((a[j] : Nat) : Int) = ((b[j] : Nat) : Int) := by simpa using heq
        omega
      refine ⟨a.length - (j + 1), by omega, j + 1, rfl, wi (by omega), hja, rfl, ?_⟩
      rw [List.take_succ_eq_append_getElem hja, List.take_succ_eq_append_getElem hjb, ht, heq']
  · have := dge hge
    have := dlt hlt
    omega
  · have := dge hge
    exact yes (eqall j (by omega) ht)
theorem same_ok {s t : Sl} {a b : List (List Nat)} (ha : RR flN 1 H s a) (hb : RR flN 1 H t b) (hl : a.length ≤ 1000000000) (hl2 : ∀ x ∈ a, x.length ≤ 1000000000) (k : K (.bool (decide (a = b))) H) : CallF Try.prog 30 #[.slice s.a s.n s.c, .slice t.a t.n t.c] H K Z := by
  refine V30_ok ?_
  unfold V30
  have h1 := ha.len
  have h2 := hb.len
  have no : ¬ a = b → K (.bool false) H := fun h => by rw [decide_eq_false h] at k; exact k
  have yes : a = b → K (.bool true) H := fun h => by rw [decide_eq_true h] at k; exact k
  refine ⟨fun hne => no fun e => ?_, fun he => ?_⟩
  · rw [h1, h2, e] at hne
    simp at hne
  have he' : a.length = b.length := by
    have : (s.n : Int) = (t.n : Int) := by simpa using he
    omega
  have eqall : ∀ j, b.length ≤ j → a.take j = b.take j → a = b := by
    intro j hj h
    rwa [List.take_of_length_le (by omega), List.take_of_length_le hj] at h
  refine ⟨fun i A m => ∃ j : Nat, A = H ∧ i = (j : Int) ∧ j ≤ a.length ∧ m = a.length - j ∧ a.take j = b.take j, ⟨_, 0, rfl, rfl, Nat.zero_le _, rfl, rfl⟩, ?_⟩
  rintro i A m ⟨j, rfl, rfl, hj, rfl, ht⟩ scr
  refine ⟨fun hlt => ⟨fun hlt2 => ?_, fun hge => ?_⟩, fun hge => ?_⟩
  · have hja : j < a.length := by have := dlt hlt; omega
    have hjb : j < b.length := by omega
    refine ha.ixn (List.getElem?_eq_getElem hja) fun ad sa hsa e => ⟨sa, e, hb.ixn (List.getElem?_eq_getElem hjb) fun ad1 sb hsb e1 => ⟨sb, e1, sameInts_ok hsa hsb (hl2 _ (List.getElem_mem _)) ⟨_, rfl, fun hne => no fun e => ?_, fun heq => ?_⟩⟩⟩
    · subst e
      simp at hne
    · have heq' : a[j] = b[j] := by simpa using heq
      refine ⟨a.length - (j + 1), by omega, j + 1, rfl, wi (by omega), hja, rfl, ?_⟩
      rw [List.take_succ_eq_append_getElem hja, List.take_succ_eq_append_getElem hjb, ht, heq']
  · have := dge hge
    have := dlt hlt
    omega
  · have := dge hge
    exact yes (eqall j (by omega) ht)
theorem edges_ok {l : Sl} {es : List (Int × Int)} (h : Rd flE 2 H l es) (hl : es.length ≤ 1000000) (k : ∀ s H', Fr no H H' → Rd flE 2 H' s es → K (.slice s.a s.n s.c) H') : CallF Try.prog 23 #[.slice l.a l.n l.c] H K Z := by
  refine V23_ok ?_
  unfold V23
  have hn := h.len
  refine ⟨fun m1 i A m => ∃ j : Nat, i = (j : Int) ∧ j ≤ es.length ∧ m = es.length - j ∧ Sym H no A [arr flE 96 2 m1 (es.take j)], ⟨_, 0, rfl, Nat.zero_le _, rfl, (Sym.start H).nilrow flE 96 2⟩, ?_⟩
  rintro m1 i A m ⟨j, rfl, hj, rfl, hA⟩ scr
  have em : m1.n = (es.take j).length := RowN.len FlE (by decide) (hA.get (k := 0) rfl)
  rw [List.length_take] at em
  refine ⟨fun hlt => ?_, fun hge => ?_⟩
  · have hjl : j < es.length := by have := dlt hlt; omega
    have hx : es[j]? = some es[j] := List.getElem?_eq_getElem hjl
    have htk : es.take (j + 1) = es.take j ++ [es[j]] := List.take_succ_eq_append_getElem hjl
    generalize es[j] = e at hx htk
    have hA' := h.more hA.fr
    refine hA'.ix (by decide) FlE (by omega) hx fun ad _ e0 => ⟨_, e0, hA'.ix (by decide) FlE (by omega) hx fun ad1 h1 _ => ⟨_, h1 1 _ rfl, fun b B hB => ?_⟩⟩
    refine hA.app1 (k := 0) (x := e) tyE FlE (by decide) hB rfl (by omega) fun ap C hap hC => ⟨es.length - (j + 1), by omega, j + 1, wi (by omega), hjl, rfl, ?_⟩
    rw [htk]
    exact hC
  · have hjl : es.length ≤ j := by have := dge hge; omega
    rw [List.take_of_length_le hjl] at hA
    exact k m1 A hA.fr (hA.rd (k := 0) FlE (by decide) rfl)
def wEs : List (Int × Int) := [(0, 1), (1, 2), (2, 1), (3, 0)]
theorem works_parts : partsOf 4 wEs = [[1, 2], [0], [3]] := by decide +kernel
theorem works_ok (k : ∀ H', Fr no H H' → K (.bool true) H') : CallF Try.prog 20 #[] H K Z := by
  refine V20_ok ?_
  unfold V20
  intro b A hA
  have h1 := (Sym.start H).lit (fl := flE) (sz := 2) (l := wEs) (n := 4) FlE (by decide) hA rfl
  refine parts_ok (n := 4) (l := ⟨some ⟨b, 0, none⟩, 4, 4⟩) (h1.rd (k := 0) FlE (by decide) rfl) (by decide) fun y B hB _ hr => ⟨y, rfl, ?_⟩
  have hr' : RR flN 1 B y [[1, 2], [0], [3]] := by
    have : nOf 4 = 4 := by decide
    rw [this, works_parts] at hr
    exact hr
  have hyn := hr'.len
  have hk := k B (h1.fr.trans hB)
  refine ⟨fun _ => ?_, fun h => ?_⟩
  · refine hr'.ixn (i := 0) rfl fun ad x hx e => ⟨x, e, fun _ => ?_, fun h => ?_⟩
    · refine hr'.ixn (i := 0) rfl fun ad1 x1 hx1 e1 => ⟨x1, e1, hx1.ixn (i := 0) FlN rfl fun ad2 e2 => ⟨_, e2, fun _ => ?_, fun h => by simp at h⟩⟩
      refine hr'.ixn (i := 2) rfl fun ad3 x3 hx3 e3 => ⟨x3, e3, hx3.ixn (i := 0) FlN rfl fun ad4 e4 => ⟨_, e4, hk⟩⟩
    · have := hx.len
      rw [this] at h
      simp at h
  · rw [hyn] at h
    simp at h
/-- all that one leads to: just those -/
theorem leads_mem {N x : Nat} {es : List (Int × Int)} {v : Nat} (hx : x < N) : v ∈ leadsOf N es [(x : Int)] ↔ v < N ∧ rE N es x v = true := by
  unfold leadsOf
  simp [inN, hx]
theorem leads_len {N : Nat} {es : List (Int × Int)} {fr : List Int} : (leadsOf N es fr).length ≤ N := by
  have := List.length_filter_le (fun j => fr.any fun x => inN N x && rE N es x.toNat j) (List.range N)
  rwa [List.length_range] at this
theorem lround_ok {n : Int} {l p : Sl} {es : List (Int × Int)} {ps : List Nat} (h : Rd flE 2 H l es) (hl : es.length ≤ 1000) (hp : Rd flN 1 H p ps) (hpl : ps.length ≤ 20000) (hps : ∀ x ∈ ps, x < nOf n) (hall : ∀ x ∈ ps, ∀ y ∈ ps, rE (nOf n) es x y = true)
    (k : ∀ H', Fr no H H' → K (.bool true) H') : CallF Try.prog 24 #[.int .i64 n, .slice l.a l.n l.c, .slice p.a p.n p.c] H K Z := by
  refine V24_ok ?_
  unfold V24
  have hn := hp.len
  refine ⟨fun i A m => ∃ j : Nat, i = (j : Int) ∧ j ≤ ps.length ∧ m = ps.length - j ∧ Fr no H A, ⟨_, 0, rfl, Nat.zero_le _, rfl, Fr.refl _ _⟩, ?_⟩
  rintro i A m ⟨j, rfl, hj, rfl, hA⟩ scr
  refine ⟨fun hlt => ?_, fun hge => k A hA⟩
  have hjl : j < ps.length := by have := dlt hlt; omega
  have hx : ps[j]? = some ps[j] := List.getElem?_eq_getElem hjl
  have hxm : ps[j] ∈ ps := List.getElem_mem _
  generalize ps[j] = x at hx hxm
  refine (hp.more hA).ixn FlN hx fun ad e => ⟨_, e, fun b B hB => ?_⟩
  have h1 := (Sym.start A).lit (fl := flI) (sz := 1) (l := [(x : Int)]) (n := 1) FlI (by decide) hB rfl
  have hAB := hA.trans hB.fr
  refine rleads_ok (t := ⟨some ⟨b, 0, none⟩, 1, 1⟩) (h.more hAB) hl (h1.rd (k := 0) FlI (by decide) rfl) (by simp) fun y C hC hy => ⟨y, rfl, ?_⟩
  have hAC := hAB.trans hC
  have hyn := hy.len
  have hlen := @leads_len (nOf n) es [(x : Int)]
  have hnle := @nOf_le n
  refine ⟨fun i D m => ∃ c : Nat, D = C ∧ i = (c : Int) ∧ c ≤ ps.length ∧ m = ps.length - c, ⟨_, 0, rfl, rfl, Nat.zero_le _, rfl⟩, ?_⟩
  rintro i D m ⟨c, rfl, rfl, hc, rfl⟩ scr1
  refine ⟨fun hlt => ?_, fun hge => ⟨ps.length - (j + 1), by omega, j + 1, wi (by omega), hjl, rfl, hAC⟩⟩
  have hcl : c < ps.length := by have := dlt hlt; omega
  have hz : ps[c]? = some ps[c] := List.getElem?_eq_getElem hcl
  have hzm : ps[c] ∈ ps := List.getElem_mem _
  generalize ps[c] = z at hz hzm
  have hin : z ∈ leadsOf (nOf n) es [(x : Int)] := (leads_mem (hps x hxm)).2 ⟨hps z hzm, hall x hxm z hzm⟩
  generalize leadsOf (nOf n) es [(x : Int)] = ld at *
  refine ⟨fun is i E m => ∃ d : Nat, E = D ∧ i = (d : Int) ∧ d ≤ ld.length ∧ m = ld.length - d ∧ is = decide (z ∈ ld.take d), ⟨_, 0, rfl, rfl, Nat.zero_le _, rfl, by simp⟩, ?_⟩
  rintro is i E m ⟨d, rfl, rfl, hd, rfl, rfl⟩ scr2
  refine ⟨fun hlt => ?_, fun hge => ?_⟩
  · have hdl : d < ld.length := by have := dlt hlt; omega
    have hw : ld[d]? = some ld[d] := List.getElem?_eq_getElem hdl
    have htk : ld.take (d + 1) = ld.take d ++ [ld[d]] := List.take_succ_eq_append_getElem hdl
    generalize ld[d] = w at hw htk
    refine ⟨fun ht => ⟨ld.length - (d + 1), by omega, d + 1, rfl, wi (by omega), hdl, rfl, ?_⟩, fun hf => hy.ixn FlN hw fun ad1 e1 => ⟨_, e1, (hp.more hAC).ixn FlN hz fun ad2 e2 => ⟨_, e2, ld.length - (d + 1), by omega, d + 1, rfl, wi (by omega), hdl, rfl, ?_⟩⟩⟩
    · have ht' : z ∈ ld.take d := of_decide_eq_true ht
      rw [htk]
      simp [ht']
    · have hf' : z ∉ ld.take d := of_decide_eq_false hf
      rw [htk]
      by_cases hwz : w = z
      · subst hwz; simp
      · have : ¬ z = w := fun e => hwz e.symm
        simp [hf', hwz, this]
        omega
  · have hdl : ld.length ≤ d := by have := dge hge; omega
    rw [List.take_of_length_le hdl, decide_eq_true hin]
    refine ⟨(fun h => by cases h), fun _ => ⟨ps.length - (c + 1), by omega, c + 1, rfl, wi (by omega), hcl, rfl⟩⟩
end
end Go.Proofs.Ytoigfahdgphpdaa.L7

