/- Rows of rows: cells of them, rows pushed; of no program. -/
import Derived.Test.YtigbdoicgdmliaaDoorV18
set_option linter.unusedVariables false
set_option linter.unusedSimpArgs false
namespace Go.V
attribute [local irreducible] Cvt ExtF CallF hrun
section
variable {τ : Type} {fl : τ → List Value} {sz : Nat}
variable {H0 H H' : Hp} {S : Nat → Prop} {L R : List It} {P : Program} {T E E1 E2 : TypeId} {by' : Nat} {z : Value} {s t p si : Sl} {ss : List Sl} {l m li lp : List τ} {ls : List (List τ)}
/-- a cell of one of the rows is written -/
theorem Sym.set2 {i j : Nat} {x y : τ} {v : Value} {K : Hp → Prop} (h : Sym H0 S H (rows2 fl E1 E2 1 none s ss ls :: R)) (hf : Fl fl 1) (hs : ss[i]? = some si) (hl : ls[i]? = some li) (hx : li[j]? = some x) (hy : fl y = [v])
    (kk : ∀ H', Sym H0 S H' (rows2 fl E1 E2 1 none s ss (ls.set i (li.set j y)) :: R) → K H') : IxA si.a si.n (j : Int) 1 fun ad => StL ad 0 [v] H K := by
  have h1 := h.out2 hs hl
  refine h1.stn (k := 0) hf rfl hx hy fun H' h2 => kk H' ?_
  have h2' : Sym H0 S H' (arr fl E2 1 si (li.set j y) :: rows2 fl E1 E2 1 (some i) s ss ls :: R) := h2
  exact h2'.in2 hs (List.getElem?_eq_some_iff.1 hl).1
/-- a new row in the place of another one -/
theorem Sym.put2 {i : Nat} {u : Sl} {K : Hp → Prop} (h : Sym H0 S H (arr fl E2 sz p lp :: rows2 fl E1 E2 sz none s ss ls :: R)) (hs : ss[i]? = some u) (hl : ls[i]? = some li)
    (kk : ∀ H', Sym H0 S H' (rows2 fl E1 E2 sz none s (ss.set i p) (ls.set i lp) :: R) → K H') : IxA s.a s.n (i : Int) 1 fun ad => StL ad 0 [.slice p.a p.n p.c] H K := by
  have h1 := (h.swap).out2 hs hl
  have h2 : Sym H0 S H (arr fl E2 sz p lp :: rows2 fl E1 E2 sz (some i) s ss ls :: R) := by
    have h3 : Sym H0 S H (rows2 fl E1 E2 sz (some i) s ss ls :: arr fl E2 sz p lp :: R) := h1.drop
    exact h3.swap
  refine h2.st2 (k := 1) (t := p) rfl hs fun H' h3 => kk H' ?_
  have h3' : Sym H0 S H' (arr fl E2 sz p lp :: rows2 fl E1 E2 sz (some i) s (ss.set i p) ls :: R) := h3
  exact h3'.in2 (List.getElem?_set_self (List.getElem?_eq_some_iff.1 hs).1) (List.getElem?_eq_some_iff.1 hl).1
/-- a row pushed behind the others -/
theorem Sym.push2 {b ty : Nat} {K : Sl → Hp → Prop} (ht : TyS P T E1 1 by' z) (h : Sym H0 S H (rows2 fl E1 E2 sz none s ss ls :: arr fl E2 sz p lp :: R)) (hn : Newb H (.cells #[.slice p.a p.n p.c] E1) b H') (hl : (s.n + 1) * by' ≤ 140737488355328)
    (kk : ∀ s' H'', s'.n = s.n + 1 → Sym H0 S H'' (rows2 fl E1 E2 sz none s' (ss ++ [p]) (ls ++ [lp]) :: R) → K s' H'') : App P #[T, T] ty H' [.slice s.a s.n s.c, .slice (some ⟨b, 0, none⟩) 1 1] K := by
  have hok : Rows2 fl E1 E2 sz none H s ss ls := h.get (k := 0) rfl
  have hp : RowN fl E2 sz H p lp := h.get (k := 1) rfl
  have hap : apart (rows2 fl E1 E2 sz none s ss ls) (arr fl E2 sz p lp) := h.apt (i := 0) (j := 1) rfl rfl (by decide)
  have hno : ∀ j : Nat, (none : Option Nat) ≠ some j := fun j e => by cases e
  have h1 : Sym H (arr flS E1 1 s ss).fp H [arr flS E1 1 s ss] := Sym.start1 hok.out
  refine h1.app1 (k := 0) (x := p) ht FlS (by decide) hn rfl hl ?_
  intro s' H2 hn' h2
  have h2' : Sym H (arr flS E1 1 s ss).fp H2 [arr flS E1 1 s' (ss ++ [p])] := h2
  have hr : RowN flS E1 1 H2 s' (ss ++ [p]) := h2'.get (k := 0) rfl
  have hfr : Fr (own s) H H2 := h2'.fr
  have hown : ∀ i, own s' i → own s i ∨ H.size ≤ i := fun i hi => h2'.fp _ List.mem_cons_self i hi
  refine kk s' H2 hn' ?_
  have hrow : ∀ (si : Sl) (li : List τ), RowN fl E2 sz H si li → (∀ b, own si b → ¬ own s b) → RowN fl E2 sz H2 si li := fun si li hsi hd =>
    (arr fl E2 sz si li).st hsi fun b hb => hfr.keep b (hsi.row.lt hb) (hd b hb)
  have hpo : ∀ b, own p b → ¬ own s b := fun b h1 h2 => hap b (.inl h2) h1
  have hcase : ∀ (j : Nat) (sj : Sl), (ss ++ [p])[j]? = some sj → (j < ss.length ∧ ss[j]? = some sj) ∨ (j = ss.length ∧ sj = p) := by
    intro j sj hj
    by_cases hlt : j < ss.length
    · rw [List.getElem?_append_left hlt] at hj
      exact .inl ⟨hlt, hj⟩
    · rw [List.getElem?_append_right (by omega)] at hj
      have h0 : j - ss.length = 0 := by
        have := (List.getElem?_eq_some_iff.1 hj).1
        simp at this
        omega
      rw [h0] at hj
      simp only [List.getElem?_cons_zero, Option.some.injEq] at hj
      exact .inr ⟨by omega, hj.symm⟩
  have hnew : (rows2 fl E1 E2 sz none s' (ss ++ [p]) (ls ++ [lp])).ok H2 := by
    refine ⟨hr, by simp [hok.len], ?_, ?_, ?_⟩
    · intro j sj lj _ hj hlj
      rcases hcase j sj hj with ⟨w1, w2⟩ | ⟨rfl, rfl⟩
      · rw [List.getElem?_append_left (by rw [← hok.len]; exact w1)] at hlj
        exact hrow sj lj (hok.row j sj lj (hno j) w2 hlj) fun b hb hb2 => hok.ao j sj (hno j) w2 b hb hb2
      · have : lj = lp := by
          rw [hok.len, List.getElem?_append_right (Nat.le_refl _)] at hlj
          simpa using hlj.symm
        rw [this]
        exact hrow sj lp hp hpo
    · intro i j si sj _ _ hij hi hj b hb1 hb2
      rcases hcase i si hi with ⟨w1, w2⟩ | ⟨rfl, rfl⟩
      · rcases hcase j sj hj with ⟨w3, w4⟩ | ⟨rfl, rfl⟩
        · exact hok.ap i j si sj (hno i) (hno j) hij w2 w4 b hb1 hb2
        · exact hap b (.inr ⟨i, si, hno i, w2, hb1⟩) hb2
      · rcases hcase j sj hj with ⟨w3, w4⟩ | ⟨rfl, rfl⟩
        · exact hap b (.inr ⟨j, sj, hno j, w4, hb2⟩) hb1
        · exact hij rfl
    · intro j sj _ hj b hb1 hb2
      rcases hown b hb2 with hb2 | hb2
      · rcases hcase j sj hj with ⟨w1, w2⟩ | ⟨rfl, rfl⟩
        · exact hok.ao j sj (hno j) w2 b hb1 hb2
        · exact hpo b hb1 hb2
      · rcases hcase j sj hj with ⟨w1, w2⟩ | ⟨rfl, rfl⟩
        · have := (hok.row j sj _ (hno j) w2 (List.getElem?_eq_getElem (by rw [← hok.len]; exact w1))).row.lt hb1
          omega
        · have := hp.row.lt hb1
          omega
  have hS : Sym H (own s) H2 [] := ⟨hfr, by simp, List.Pairwise.nil, by simp⟩
  have hsep := h.sep
  rw [List.pairwise_cons, List.pairwise_cons] at hsep
  -- the whole
  have hS2 : Sym H (fun i => (rows2 fl E1 E2 sz none s ss ls).fp i ∨ (arr fl E2 sz p lp).fp i) H2 [rows2 fl E1 E2 sz none s' (ss ++ [p]) (ls ++ [lp])] := by
    refine ⟨hfr.mono fun i _ hi => .inl (.inl hi), by simpa using hnew, by simp, ?_⟩
    intro a ha i hi
    obtain rfl := List.mem_singleton.1 ha
    rcases hi with hi | ⟨j, sj, _, hj, hi⟩
    · rcases hown i hi with hi | hi
      · exact .inl (.inl (.inl hi))
      · exact .inr hi
    · rcases hcase j sj hj with ⟨w1, w2⟩ | ⟨rfl, rfl⟩
      · exact .inl (.inl (.inr ⟨j, sj, hno j, w2, hi⟩))
      · exact .inl (.inr hi)
  refine Sym.absorb (its := [rows2 fl E1 E2 sz none s ss ls, arr fl E2 sz p lp]) (R := R) h hS2 ?_
  rintro i (hi | hi)
  · exact ⟨_, List.mem_cons_self, hi⟩
  · exact ⟨_, List.mem_cons_of_mem _ List.mem_cons_self, hi⟩
theorem Sym.nil2 (h : Sym H0 S H L) (fl : τ → List Value) (E1 E2 : TypeId) (sz : Nat) : Sym H0 S H (rows2 fl E1 E2 sz none ⟨none, 0, 0⟩ [] [] :: L) :=
  h.new (Fr.refl _ _) ⟨⟨Row.nil _ _ _, by intro g o e; cases e⟩, rfl, by simp, by simp, by simp⟩ fun i hi => by
    rcases hi with hi | ⟨j, sj, _, hj, _⟩
    · exact (own_none rfl hi).elim
    · simp at hj
end
end Go.V

