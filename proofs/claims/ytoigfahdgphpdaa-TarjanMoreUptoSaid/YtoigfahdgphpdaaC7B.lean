/- tarjan: the search. -/
import Derived.Test.YtoigfahdgphpdaaC7
set_option linter.unusedVariables false
set_option linter.unusedSimpArgs false
-- tInt: 3
-- tInts: 42
-- tIntss: 38
-- tBool: 4
-- tStep: 131
-- tSearch: 104
-- run: 64
namespace Go.Proofs.Ytoigfahdgphpdaa.C7
open Go Go.V Go.Proofs Go.Proofs.Ytoigfahdgphpdaa.N07 Go.Tar
attribute [local irreducible] Cvt ExtF CallF hrun App MkS
section
variable {H0 H : Hp} {S : Nat → Prop} {R : List It} {N : Nat} {g : Sl} {K : Value → Hp → Prop} {Z : List PanicEntry → Hp → Prop}
theorem mp_rep {α : Type} {c : α} {f : Nat → α} (hf : ∀ v, f v = c) : List.replicate N c = mp N f := by
  apply List.ext_getElem?
  intro i
  by_cases h : i < N
  · rw [mp_get h, List.getElem?_replicate, if_pos h, hf]
  · rw [List.getElem?_eq_none (by simp; omega), List.getElem?_eq_none (by simp [mp]; omega)]
theorem run_leaf {A B : Hp} {s1 s2 s3 s5 : Sl} {b : Nat} (h : Sym H no A [arr flN 3 1 s1 (List.replicate N 0), arr flN 3 1 s2 (List.replicate N 0), arr flB 4 1 s3 (List.replicate N false), arr flN 3 1 s5 (List.replicate N 0)])
    (hn : Newb A (.cells #[.slice g.a g.n g.c, .slice s1.a s1.n s1.c, .slice s2.a s2.n s2.c, .slice s3.a s3.n s3.c, .slice none 0 0, .slice s5.a s5.n s5.c, .int .i64 0, .slice none 0 0] 104) b B) :
    ∃ b' q, (some (⟨b, 0, none⟩ : Addr)) = some ⟨b', 0, none⟩ ∧ Sym H no B (SR N b' g q st0) := by
  refine ⟨b, ⟨s1, s2, s3, ⟨none, 0, 0⟩, s5, ⟨none, 0, 0⟩⟩, rfl, ?_⟩
  have h1 := ((h.newb hn).nilrow flN 3 1).nilrow flP 131 2
  rw [mp_rep (N := N) (f := st0.num) fun _ => rfl, mp_rep (N := N) (f := st0.wt) fun _ => rfl] at h1
  exact h1.re [2, 3, 4, 5, 1, 6, 0] (by decide)
set_option maxRecDepth 10000 in
theorem run_ok {ss : List Sl} {es : List (Int × Int)} {EG : TypeId} (hg : Rows2 flN EG 3 1 none H g ss (adjs N es)) (hN : N ≤ 20000) (hE : es.length ≤ 1000)
    (k : ∀ b q s H', Sym H no H' (SR N b g q s) → Inv N (adj N es) s → s.steps = [] → (∀ v, v < N → s.num v ≠ 0) → K (.pointer (some ⟨b, 0, none⟩)) H') :
    CallF Try.prog 64 #[.slice g.a g.n g.c] H K Z := by
  refine V64_ok ?_
  unfold V64
  obtain ⟨g1, g2⟩ := hg.rd FlN (by decide)
  have hgl : ss.length = N := by rw [hg.len, adjs_len]
  obtain rfl : N = g.n := by rw [g1.len, hgl]
  have hl0 : left g.n (adj g.n es) st0 ≤ 100000000 := by
    have := left0 (n := g.n) (g := adj g.n es) (D := 1000) fun v => Nat.le_trans adj_le hE
    have h2 : g.n * (2 + 1000) ≤ 20000 * (2 + 1000) := Nat.mul_le_mul_right _ hN
    omega
  have h0 := Sym.start H
  refine ⟨fun p A => ∃ b q, p = some ⟨b, 0, none⟩ ∧ Sym H no A (SR g.n b g q st0), ?_, ?_⟩
  rotate_left
  · refine ⟨?_, ?_, ?_, ?_⟩
    · refine h0.make tyI FlN (zt := 0) rfl rfl (by omega) fun s1 A1 _ _ _ h1 => ?_
      refine ⟨?_, ?_, ?_⟩
      · refine h1.make tyI FlN (zt := 0) rfl rfl (by omega) fun s2 A2 _ _ _ h2 => ?_
        refine ⟨?_, ?_⟩
        · refine h2.make tyB FlB (zt := false) rfl rfl (by omega) fun s3 A3 _ _ _ h3 => ?_
          refine h3.make tyI FlN (zt := 0) rfl rfl (by omega) fun s4 A4 _ _ _ h4 => ?_
          exact fun b B hn => run_leaf (h4.re [3, 2, 1, 0] (by decide)) hn
        · refine h2.make tyI FlN (zt := 0) rfl rfl (by omega) fun s3 A3 _ _ _ h3 => ?_
          refine h3.make tyB FlB (zt := false) rfl rfl (by omega) fun s4 A4 _ _ _ h4 => ?_
          exact fun b B hn => run_leaf (h4.re [3, 2, 0, 1] (by decide)) hn
      · refine h1.make tyB FlB (zt := false) rfl rfl (by omega) fun s2 A2 _ _ _ h2 => ?_
        refine ⟨?_, ?_⟩
        · refine h2.make tyI FlN (zt := 0) rfl rfl (by omega) fun s3 A3 _ _ _ h3 => ?_
          refine h3.make tyI FlN (zt := 0) rfl rfl (by omega) fun s4 A4 _ _ _ h4 => ?_
          exact fun b B hn => run_leaf (h4.re [3, 1, 2, 0] (by decide)) hn
        · refine h2.make tyI FlN (zt := 0) rfl rfl (by omega) fun s3 A3 _ _ _ h3 => ?_
          refine h3.make tyI FlN (zt := 0) rfl rfl (by omega) fun s4 A4 _ _ _ h4 => ?_
          exact fun b B hn => run_leaf (h4.re [3, 0, 2, 1] (by decide)) hn
      · refine h1.make tyI FlN (zt := 0) rfl rfl (by omega) fun s2 A2 _ _ _ h2 => ?_
        refine ⟨?_, ?_⟩
        · refine h2.make tyI FlN (zt := 0) rfl rfl (by omega) fun s3 A3 _ _ _ h3 => ?_
          refine h3.make tyB FlB (zt := false) rfl rfl (by omega) fun s4 A4 _ _ _ h4 => ?_
          exact fun b B hn => run_leaf (h4.re [3, 1, 0, 2] (by decide)) hn
        · refine h2.make tyB FlB (zt := false) rfl rfl (by omega) fun s3 A3 _ _ _ h3 => ?_
          refine h3.make tyI FlN (zt := 0) rfl rfl (by omega) fun s4 A4 _ _ _ h4 => ?_
          exact fun b B hn => run_leaf (h4.re [3, 0, 1, 2] (by decide)) hn
    · refine h0.make tyI FlN (zt := 0) rfl rfl (by omega) fun s1 A1 _ _ _ h1 => ?_
      refine ⟨?_, ?_, ?_⟩
      · refine h1.make tyI FlN (zt := 0) rfl rfl (by omega) fun s2 A2 _ _ _ h2 => ?_
        refine ⟨?_, ?_⟩
        · refine h2.make tyB FlB (zt := false) rfl rfl (by omega) fun s3 A3 _ _ _ h3 => ?_
          refine h3.make tyI FlN (zt := 0) rfl rfl (by omega) fun s4 A4 _ _ _ h4 => ?_
          exact fun b B hn => run_leaf (h4.re [2, 3, 1, 0] (by decide)) hn
        · refine h2.make tyI FlN (zt := 0) rfl rfl (by omega) fun s3 A3 _ _ _ h3 => ?_
          refine h3.make tyB FlB (zt := false) rfl rfl (by omega) fun s4 A4 _ _ _ h4 => ?_
          exact fun b B hn => run_leaf (h4.re [2, 3, 0, 1] (by decide)) hn
      · refine h1.make tyB FlB (zt := false) rfl rfl (by omega) fun s2 A2 _ _ _ h2 => ?_
        refine ⟨?_, ?_⟩
        · refine h2.make tyI FlN (zt := 0) rfl rfl (by omega) fun s3 A3 _ _ _ h3 => ?_
          refine h3.make tyI FlN (zt := 0) rfl rfl (by omega) fun s4 A4 _ _ _ h4 => ?_
          exact fun b B hn => run_leaf (h4.re [1, 3, 2, 0] (by decide)) hn
        · refine h2.make tyI FlN (zt := 0) rfl rfl (by omega) fun s3 A3 _ _ _ h3 => ?_
          refine h3.make tyI FlN (zt := 0) rfl rfl (by omega) fun s4 A4 _ _ _ h4 => ?_
          exact fun b B hn => run_leaf (h4.re [0, 3, 2, 1] (by decide)) hn
      · refine h1.make tyI FlN (zt := 0) rfl rfl (by omega) fun s2 A2 _ _ _ h2 => ?_
        refine ⟨?_, ?_⟩
        · refine h2.make tyI FlN (zt := 0) rfl rfl (by omega) fun s3 A3 _ _ _ h3 => ?_
          refine h3.make tyB FlB (zt := false) rfl rfl (by omega) fun s4 A4 _ _ _ h4 => ?_
          exact fun b B hn => run_leaf (h4.re [1, 3, 0, 2] (by decide)) hn
        · refine h2.make tyB FlB (zt := false) rfl rfl (by omega) fun s3 A3 _ _ _ h3 => ?_
          refine h3.make tyI FlN (zt := 0) rfl rfl (by omega) fun s4 A4 _ _ _ h4 => ?_
          exact fun b B hn => run_leaf (h4.re [0, 3, 1, 2] (by decide)) hn
    · refine h0.make tyB FlB (zt := false) rfl rfl (by omega) fun s1 A1 _ _ _ h1 => ?_
      refine ⟨?_, ?_, ?_⟩
      · refine h1.make tyI FlN (zt := 0) rfl rfl (by omega) fun s2 A2 _ _ _ h2 => ?_
        refine ⟨?_, ?_⟩
        · refine h2.make tyI FlN (zt := 0) rfl rfl (by omega) fun s3 A3 _ _ _ h3 => ?_
          refine h3.make tyI FlN (zt := 0) rfl rfl (by omega) fun s4 A4 _ _ _ h4 => ?_
          exact fun b B hn => run_leaf (h4.re [2, 1, 3, 0] (by decide)) hn
        · refine h2.make tyI FlN (zt := 0) rfl rfl (by omega) fun s3 A3 _ _ _ h3 => ?_
          refine h3.make tyI FlN (zt := 0) rfl rfl (by omega) fun s4 A4 _ _ _ h4 => ?_
          exact fun b B hn => run_leaf (h4.re [2, 0, 3, 1] (by decide)) hn
      · refine h1.make tyI FlN (zt := 0) rfl rfl (by omega) fun s2 A2 _ _ _ h2 => ?_
        refine ⟨?_, ?_⟩
        · refine h2.make tyI FlN (zt := 0) rfl rfl (by omega) fun s3 A3 _ _ _ h3 => ?_
          refine h3.make tyI FlN (zt := 0) rfl rfl (by omega) fun s4 A4 _ _ _ h4 => ?_
          exact fun b B hn => run_leaf (h4.re [1, 2, 3, 0] (by decide)) hn
        · refine h2.make tyI FlN (zt := 0) rfl rfl (by omega) fun s3 A3 _ _ _ h3 => ?_
          refine h3.make tyI FlN (zt := 0) rfl rfl (by omega) fun s4 A4 _ _ _ h4 => ?_
          exact fun b B hn => run_leaf (h4.re [0, 2, 3, 1] (by decide)) hn
      · refine h1.make tyI FlN (zt := 0) rfl rfl (by omega) fun s2 A2 _ _ _ h2 => ?_
        refine ⟨?_, ?_⟩
        · refine h2.make tyI FlN (zt := 0) rfl rfl (by omega) fun s3 A3 _ _ _ h3 => ?_
          refine h3.make tyI FlN (zt := 0) rfl rfl (by omega) fun s4 A4 _ _ _ h4 => ?_
          exact fun b B hn => run_leaf (h4.re [1, 0, 3, 2] (by decide)) hn
        · refine h2.make tyI FlN (zt := 0) rfl rfl (by omega) fun s3 A3 _ _ _ h3 => ?_
          refine h3.make tyI FlN (zt := 0) rfl rfl (by omega) fun s4 A4 _ _ _ h4 => ?_
          exact fun b B hn => run_leaf (h4.re [0, 1, 3, 2] (by decide)) hn
    · refine h0.make tyI FlN (zt := 0) rfl rfl (by omega) fun s1 A1 _ _ _ h1 => ?_
      refine ⟨?_, ?_, ?_⟩
      · refine h1.make tyI FlN (zt := 0) rfl rfl (by omega) fun s2 A2 _ _ _ h2 => ?_
        refine ⟨?_, ?_⟩
        · refine h2.make tyI FlN (zt := 0) rfl rfl (by omega) fun s3 A3 _ _ _ h3 => ?_
          refine h3.make tyB FlB (zt := false) rfl rfl (by omega) fun s4 A4 _ _ _ h4 => ?_
          exact fun b B hn => run_leaf (h4.re [2, 1, 0, 3] (by decide)) hn
        · refine h2.make tyB FlB (zt := false) rfl rfl (by omega) fun s3 A3 _ _ _ h3 => ?_
          refine h3.make tyI FlN (zt := 0) rfl rfl (by omega) fun s4 A4 _ _ _ h4 => ?_
          exact fun b B hn => run_leaf (h4.re [2, 0, 1, 3] (by decide)) hn
      · refine h1.make tyI FlN (zt := 0) rfl rfl (by omega) fun s2 A2 _ _ _ h2 => ?_
        refine ⟨?_, ?_⟩
        · refine h2.make tyI FlN (zt := 0) rfl rfl (by omega) fun s3 A3 _ _ _ h3 => ?_
          refine h3.make tyB FlB (zt := false) rfl rfl (by omega) fun s4 A4 _ _ _ h4 => ?_
          exact fun b B hn => run_leaf (h4.re [1, 2, 0, 3] (by decide)) hn
        · refine h2.make tyB FlB (zt := false) rfl rfl (by omega) fun s3 A3 _ _ _ h3 => ?_
          refine h3.make tyI FlN (zt := 0) rfl rfl (by omega) fun s4 A4 _ _ _ h4 => ?_
          exact fun b B hn => run_leaf (h4.re [0, 2, 1, 3] (by decide)) hn
      · refine h1.make tyB FlB (zt := false) rfl rfl (by omega) fun s2 A2 _ _ _ h2 => ?_
        refine ⟨?_, ?_⟩
        · refine h2.make tyI FlN (zt := 0) rfl rfl (by omega) fun s3 A3 _ _ _ h3 => ?_
          refine h3.make tyI FlN (zt := 0) rfl rfl (by omega) fun s4 A4 _ _ _ h4 => ?_
          exact fun b B hn => run_leaf (h4.re [1, 0, 2, 3] (by decide)) hn
        · refine h2.make tyI FlN (zt := 0) rfl rfl (by omega) fun s3 A3 _ _ _ h3 => ?_
          refine h3.make tyI FlN (zt := 0) rfl rfl (by omega) fun s4 A4 _ _ _ h4 => ?_
          exact fun b B hn => run_leaf (h4.re [0, 1, 2, 3] (by decide)) hn
  rintro p A ⟨b, q0, rfl, hA⟩ scr
  refine ⟨fun met t B m => ∃ (j : Nat) (q : Ss) (s : St), t = (j : Int) ∧ j ≤ g.n ∧ m = g.n - j ∧ met = (s.met : Int) ∧ Sym H no B (SR g.n b g q s) ∧ Inv g.n (adj g.n es) s ∧ s.steps = [] ∧ left g.n (adj g.n es) s ≤ 100000000 ∧ ∀ v, v < j → s.num v ≠ 0,
    ⟨_, 0, q0, st0, rfl, Nat.zero_le _, rfl, rfl, hA, inv0, rfl, hl0, by simp⟩, ?_⟩
  rintro met t B m ⟨j, q, s, rfl, hj, rfl, rfl, hB, hI, hst, hleft, hvis⟩ scr1
  refine ⟨fun hlt => ?_, fun hge => ?_⟩
  rotate_left
  · have hge' := dge hge
    exact k b q s B hB hI hst fun v hv => hvis v (by omega)
  have hjN := dlt hlt
  let J : Int → Hp → Prop := fun met C => ∃ (q : Ss) (s : St), met = (s.met : Int) ∧ Sym H no C (SR g.n b g q s) ∧ Inv g.n (adj g.n es) s ∧ left g.n (adj g.n es) s ≤ 100000000 ∧ ∀ v, v < j + 1 → s.num v ≠ 0
  refine ⟨J, ?_, ?_⟩
  rotate_left
  · refine ⟨q.a, by rw [add_mk]; exact hB.ld (k := 0) rfl 1, ?_⟩
    refine (hB.rd (k := 1) FlN (by decide) rfl).ixn FlN (mp_get hjN) fun ad ea => ?_
    refine ⟨_, ea, fun h0 => ?_, fun h0 => ?_⟩
    · have h0' : s.num j = 0 := by have : ((s.num j : Nat) : Int) = 0 := by simpa using h0
                                   omega
      have hw := hI.wale
      rw [wi (by omega)]
      have hB' : Sym H no B (SR g.n b g q s ++ []) := by rw [List.append_nil]; exact hB
      refine visit_ok hB' hjN (by omega) (by have := steps_left (n := g.n) (g := adj g.n es) s; omega) fun q' C hC => ⟨rfl, q', Tar.visit s j, rfl, ?_, Tar.visit_first hI hst hjN h0', ?_, ?_⟩
      · rw [List.append_nil] at hC
        exact hC
      · have := left_visit (g := adj g.n es) hjN h0'
        omega
      · intro v hv
        show upd s.num j (s.met + 1) v ≠ 0
        by_cases hvj : v = j
        · rw [hvj, upd_self]; omega
        · rw [upd_ne hvj]; exact hvis v (by omega)
    · have h0' : s.num j ≠ 0 := by intro hc; rw [hc] at h0; simp at h0
      exact ⟨q, s, rfl, hB, hI, hleft, fun v hv => if hvj : v = j then by rw [hvj]; exact h0' else hvis v (by omega)⟩
  rintro met1 C hC0 scr2
  refine ⟨J, ?_, hC0⟩
  clear hC0 hvis hleft hst hI hB hlt
  clear s q
  rintro met2 D ⟨q, s, rfl, hD, hI, hleft, hvis⟩ scr3
  refine ⟨fun met E m => ∃ (q : Ss) (s : St), met = (s.met : Int) ∧ m = left g.n (adj g.n es) s ∧ Sym H no E (SR g.n b g q s) ∧ Inv g.n (adj g.n es) s ∧ left g.n (adj g.n es) s ≤ 100000000 ∧ ∀ v, v < j + 1 → s.num v ≠ 0, ⟨_, q, s, rfl, rfl, hD, hI, hleft, hvis⟩, ?_⟩
  clear hvis hleft hI hD
  clear s q
  rintro met3 E m4 ⟨q, s, rfl, rfl, hE1, hI, hleft, hvis⟩ scr4
  have hstl := steps_left (n := g.n) (g := adj g.n es) s
  have e7 : q.f.n = s.steps.length := by have := RowN.len FlP (by decide) (hE1.get (k := 6) rfl); rwa [List.length_reverse] at this
  refine ⟨q.f, by rw [add_mk]; exact hE1.ld (k := 0) rfl 7, fun hpos => ?_, fun hz => ?_⟩
  rotate_left
  · have hst : s.steps = [] := List.eq_nil_of_length_eq_zero (by have := of_decide_eq_false hz; omega)
    exact ⟨g.n - (j + 1), by omega, j + 1, q, s, wi (by omega), hjN, rfl, rfl, hE1, hI, hst, hleft, hvis⟩
  obtain ⟨x, r, hst⟩ : ∃ x r, s.steps = x :: r := by
    cases hs : s.steps with
    | nil => rw [hs] at e7; have := of_decide_eq_true hpos; simp at e7; omega
    | cons x r => exact ⟨x, r, rfl⟩
  have hsl : s.steps.length = r.length + 1 := by rw [hst]; rfl
  refine ⟨q.f, by rw [add_mk]; exact hE1.ld (k := 0) rfl 7, q.f, by rw [add_mk]; exact hE1.ld (k := 0) rfl 7, ?_⟩
  have hww : w64 ((q.f.n : Int) - 1) = (r.length : Int) := by rw [e7, hsl, wd (by omega) (by omega)]; rfl
  rw [hww]
  obtain ⟨g7, hg7⟩ := (hE1.get (k := 6) rfl : RowN flP 131 2 E q.f s.steps.reverse).row.some (by omega)
  refine ⟨_, hg7, ⟨by omega, by omega⟩, ?_⟩
  rw [Int.toNat_natCast]
  refine ⟨fun met F m => ∃ (q' : Ss) (s' : St) (x' : Nat × Nat), q'.f = q.f ∧ met = (s'.met : Int) ∧ m = left g.n (adj g.n es) s' ∧ left g.n (adj g.n es) s' ≤ left g.n (adj g.n es) s ∧ s'.steps = x' :: r ∧ Sym H no F (SR g.n b g q' s') ∧ Inv g.n (adj g.n es) s' ∧ ∀ v, v < j + 1 → s'.num v ≠ 0, ⟨_, q, s, x, rfl, rfl, rfl, Nat.le_refl _, hst, hE1, hI, hvis⟩, ?_⟩
  rintro met4 F m7 ⟨q1, s1, y, hq1, rfl, rfl, hle1, hst1, hF, hI1, hvis1⟩ scr5
  have hys : y ∈ s1.steps := by rw [hst1]; exact List.mem_cons_self
  have hyw := (hI1.st2 y hys).1
  have hyN : y.1 < g.n := hI1.lt _ (by have := hI1.wa3 _ hyw; omega)
  have hw1 := hI1.wale
  have hstl1 := steps_left (n := g.n) (g := adj g.n es) s1
  have hget : s1.steps.reverse[r.length]? = some y := by rw [hst1, List.reverse_cons]; simp
  have hg71 : q1.f.a = some ⟨g7, 0, none⟩ := by rw [hq1]; exact hg7
  have rd7 := hF.rd (k := 6) FlP (by decide) rfl
  have l1 := rd7.at (k := 1) hg71 hget rfl
  have l0 := rd7.at (k := 0) hg71 hget rfl
  rw [add_zero'] at l0
  have gF := g1.more hF.fr
  have hsi : ss[y.1]? = some (ss[y.1]'(by omega)) := List.getElem?_eq_getElem _
  generalize ss[y.1]'(by omega) = si at hsi
  have gi := (g2 _ _ _ hsi (adjs_get hyN)).more hF.fr
  have hil := gi.len
  refine ⟨_, l1, _, l0, gF.ixn FlS hsi fun ad4 e4 => ⟨si, e4, fun hmore => ?_, fun hend => ?_⟩⟩
  · have hmore' : y.2 < (adj g.n es y.1).length := by have := dlt hmore; omega
    obtain ⟨u, hu⟩ : ∃ u, (adj g.n es y.1)[y.2]? = some u := ⟨_, List.getElem?_eq_getElem hmore'⟩
    have huN : u < g.n := adj_lt (List.mem_of_getElem? hu)
    refine ⟨_, l0, gF.ixn FlS hsi fun ad5 e5 => ⟨si, e5, _, l1, gi.ixn FlN hu fun ad6 e6 => ⟨_, e6, _, l1, ?_⟩⟩⟩
    have hy2 : y.2 ≤ 1000000000000 := by have := @adj_le g.n y.1 es; omega
    rw [wi hy2]
    have hsta := hF.sta (k := 6) (i := (r.length : Int)) (j := 1) (x := y) (y := (y.1, y.2 + 1)) (v := .int .i64 ((y.2 + 1 : Nat) : Int)) (K := fun G => ∃ q2 : Ss, q2.f = q.f ∧ Sym H no G (SR g.n b g q2 { s1 with steps := (y.1, y.2 + 1) :: r })) FlP rfl (by omega) (by rw [Int.toNat_natCast]; exact hget) (by decide) rfl ?_
    rotate_left
    · intro G hG
      have hset : s1.steps.reverse.set r.length (y.1, y.2 + 1) = ((y.1, y.2 + 1) :: r).reverse := by
        rw [hst1, List.reverse_cons, List.reverse_cons, List.set_append_right _ _ (by simp)]
        simp
      rw [Int.toNat_natCast, hset] at hG
      exact ⟨q1, hq1, hG⟩
    have hsta2 := hsta.at hg71
    rw [Int.toNat_natCast] at hsta2
    refine StL.mono hsta2 ?_
    rintro G ⟨q2, hq2, hG⟩
    have hg72 : q2.f.a = some ⟨g7, 0, none⟩ := by rw [hq2]; exact hg7
    have hget2 : ((y.1, y.2 + 1) :: r).reverse[r.length]? = some (y.1, y.2 + 1) := by rw [List.reverse_cons]; simp
    have l02 := (hG.rd (k := 6) FlP (by decide) rfl).at (k := 0) hg72 hget2 rfl
    rw [add_zero'] at l02
    refine ⟨q2.a, by rw [add_mk]; exact hG.ld (k := 0) rfl 1, ?_⟩
    refine (hG.rd (k := 1) FlN (by decide) rfl).ixn FlN (mp_get huN) fun ad8 e8 => ⟨_, e8, fun h0 => ?_, fun h0 => ?_⟩
    · have h0' : s1.num u = 0 := by have : ((s1.num u : Nat) : Int) = 0 := by simpa using h0
                                    omega
      rw [wi (by omega)]
      have hG' : Sym H no G (SR g.n b g q2 { s1 with steps := (y.1, y.2 + 1) :: r } ++ []) := by rw [List.append_nil]; exact hG
      have hlv := left_visit (g := adj g.n es) (s := { s1 with steps := (y.1, y.2 + 1) :: r }) huN h0'
      have hls := left_step (n := g.n) hst1 hmore'
      have hw3 : ({ s1 with steps := (y.1, y.2 + 1) :: r } : St).wa = s1.wa := rfl
      refine visit_ok (s := { s1 with steps := (y.1, y.2 + 1) :: r }) hG' huN (by show s1.wa.length ≤ _; omega) (by have := steps_left (n := g.n) (g := adj g.n es) { s1 with steps := (y.1, y.2 + 1) :: r }; omega) fun q' C hC => ⟨rfl, _, ?_, q', _, rfl, rfl, ?_, Tar.visit_ok hI1 hst1 huN h0' hu, ?_, ?_⟩
      · omega
      · rw [List.append_nil] at hC
        exact hC
      · omega
      · intro v hv
        show upd s1.num u (s1.met + 1) v ≠ 0
        by_cases hvu : v = u
        · rw [hvu, upd_self]; omega
        · rw [upd_ne hvu]; exact hvis1 v hv
    · have h0' : s1.num u ≠ 0 := by intro hc; simp [hc] at h0
      have hlk := left_look (n := g.n) (u := u) hst1 hmore'
      have hIl := Tar.look_ok hI1 hst1 h0' hu
      refine ⟨q2.c, by rw [add_mk]; exact hG.ld (k := 0) rfl 3, ?_⟩
      refine (hG.rd (k := 3) FlB (by decide) rfl).ixn FlB (mp_get huN) fun ad10 e10 => ⟨_, e10, fun hw => ?_, fun hw => ?_⟩
      · have hw' : s1.wt u = true := hw
        refine ⟨q2.b, by rw [add_mk]; exact hG.ld (k := 0) rfl 2, _, l02, q2.b, by rw [add_mk]; exact hG.ld (k := 0) rfl 2, _, l02, ?_⟩
        refine (hG.rd (k := 2) FlN (by decide) rfl).ixn FlN (mp_get hyN) fun ad13 e13 => ⟨_, e13, q2.a, by rw [add_mk]; exact hG.ld (k := 0) rfl 1, ?_⟩
        refine (hG.rd (k := 1) FlN (by decide) rfl).ixn FlN (mp_get huN) fun ad15 e15 => ⟨_, e15, ?_⟩
        rw [min_eq]
        refine hG.stn (k := 2) (y := min (s1.low y.1) (s1.num u)) FlN rfl (mp_get hyN) rfl fun I hI2 => ⟨_, ?_, q2, Tar.look s1 y r u, (y.1, y.2 + 1), hq2, rfl, rfl, ?_, rfl, ?_, hIl, hvis1⟩
        · omega
        · omega
        · have hI3 : Sym H no I ([blk b [.slice g.a g.n g.c, .slice q2.a.a q2.a.n q2.a.c, .slice q2.b.a q2.b.n q2.b.c, .slice q2.c.a q2.c.n q2.c.c, .slice q2.d.a q2.d.n q2.d.c, .slice q2.e.a q2.e.n q2.e.c, .int .i64 (s1.parts : Int), .slice q2.f.a q2.f.n q2.f.c] 104,
            arr flN 3 1 q2.a (mp g.n s1.num), arr flN 3 1 q2.b ((mp g.n s1.low).set y.1 (min (s1.low y.1) (s1.num u))), arr flB 4 1 q2.c (mp g.n s1.wt), arr flN 3 1 q2.d s1.wa.reverse, arr flN 3 1 q2.e (mp g.n s1.pt), arr flP 131 2 q2.f ((y.1, y.2 + 1) :: r).reverse]) := hI2
          rw [mp_set] at hI3
          have : (Tar.look s1 y r u).low = upd s1.low y.1 (min (s1.low y.1) (s1.num u)) := by
            show (if s1.wt u then _ else _) = _
            rw [if_pos hw']
          unfold SR
          rw [this]
          exact hI3
      · have hw' : s1.wt u = false := hw
        refine ⟨_, ?_, q2, Tar.look s1 y r u, (y.1, y.2 + 1), hq2, rfl, rfl, ?_, rfl, ?_, hIl, hvis1⟩
        · omega
        · omega
        · have : (Tar.look s1 y r u).low = s1.low := by
            show (if s1.wt u then _ else _) = _
            rw [hw', if_neg (by simp)]
          unfold SR
          rw [this]
          exact hG
  · have hend' : y.2 = (adj g.n es y.1).length := by
      have h1 := dge hend
      have h2 := (hI1.st2 y hys).2
      omega
    refine ⟨_, l0, ?_⟩
    have hF' : Sym H no F (SR g.n b g q1 s1 ++ []) := by rw [List.append_nil]; exact hF
    refine leave_ok hF' hI1 hst1 (by omega) (by omega) (by omega) ?_ ?_
    · intro hne q' G hG
      rw [List.append_nil] at hG
      have := left_pop (n := g.n) (g := adj g.n es) hst1
      exact ⟨rfl, _, by omega, q', pop s1 y r, rfl, rfl, hG, (Tar.pop_ok hI1 hst1 hend' hne).2, by omega, hvis1⟩
    · intro heq q' G pre rest hpr hG
      rw [List.append_nil] at hG
      have := left_close (n := g.n) (g := adj g.n es) (pre := pre) (rest := rest) hst1
      exact ⟨rfl, _, by omega, q', close s1 y r pre rest, rfl, rfl, hG, Tar.close_ok hI1 hst1 hend' heq hpr, by omega, hvis1⟩
end
end Go.Proofs.Ytoigfahdgphpdaa.C7

