/- slices.Delete of one element; a table, as a thing; of no program. -/
import Derived.Test.YtigbdoicgdmliaaDoorV21
set_option linter.unusedVariables false
set_option linter.unusedSimpArgs false
namespace Go.V
attribute [local irreducible] Cvt ExtF CallF hrun
/-- one cell cleared -/
theorem clear1 {P : Program} {T E : TypeId} {inf : TypeInfo} {z : Value} (hu : P.underlying T = some (.slice E)) (hi : P.info? E = some inf) (hz : inf.zero = some z) (hzc : z.cells = #[z]) {H : Hp} {ad : Addr} {c : Nat} {ty : TypeId} {cs : Array Bool} {K : Value → Hp → Prop}
    (k : StL ad 0 [z] H fun H' => K (.tuple #[]) H') : Blt P .clear #[T] ty cs H [.slice (some ad) 1 c] K := by
  unfold Blt
  show hrun P (Builtin.clear_ #[T] ty #[.slice (some ad) 1 c] >>= fun v => pure (Next.value v)) H _ _
  refine hrun_bind _ (hrun.mono _ (K := K) (Z := fun _ _ => False) ?_ (fun v H' h => by simpa only [pure, hrun] using h) fun _ _ h => h)
  unfold Builtin.clear_
  simp only [List.getElem?_toArray, List.getElem?_cons_zero]
  refine hrun_pv (pv_underlying hu) ?_
  simp only
  refine hrun_pv (pv_zero hi hz) ?_
  have e : (Builtin.zeroCells z.cells 1).toList = [z] := by
    rw [hzc]
    simp [Builtin.zeroCells, Array.range, Array.ofFn_succ]
  rw [e]
  refine hrun_bind _ (hrun_storeCells [z] 0 ?_)
  refine StL.mono k fun H' h => ?_
  simpa only [pure, hrun] using h
/-- what slices.Delete does, by its condition -/
def DelV (P : Program) (T : TypeId) (H : Hp) (s : Sl) (i j : Int) (K : Value → Hp → Prop) : Prop :=
  SlX3 s.a s.c i j (s.n : Int) 1 fun cut => (((i == j) = true → K (.slice s.a s.n s.c) H) ∧ ((i == j) = false →
    (s.n ≤ s.c ∧ SlX s.a s.c 0 i 1 fun cut1 => (s.n ≤ s.c ∧ SlX s.a s.c j (s.n : Int) 1 fun cut2 => (App P #[T, T] T H [.slice cut1.a cut1.n cut1.c, .slice cut2.a cut2.n cut2.c] fun ap H1 =>
    (ap.n ≤ ap.c ∧ SlX ap.a ap.c (ap.n : Int) (s.n : Int) 1 fun cut3 => (Blt P .clear #[T] 0 #[false] H1 [.slice cut3.a cut3.n cut3.c] fun r H2 =>
    r = .tuple #[] ∧ K (.slice ap.a ap.n ap.c) H2)))))))
section
variable {τ : Type} {fl : τ → List Value} {H0 H : Hp} {S : Nat → Prop} {L : List It} {P : Program} {T E : TypeId} {by' : Nat} {z : Value} {s : Sl} {l : List τ}
theorem Sym.del {k i : Nat} {K : Value → Hp → Prop} (ht : TyS P T E 1 by' z) (hzc : z.cells = #[z]) (hz1 : z.oneCell = true) (h : Sym H0 S H L) (hf : Fl fl 1) (hk : L[k]? = some (arr fl E 1 s l)) (hi : i < l.length) (hl : s.n * by' ≤ 140737488355328)
    (kk : ∀ s' H', s'.n + 1 = s.n → Sym H0 S H' (L.set k (arr fl E 1 s' (l.eraseIdx i))) → K (.slice s'.a s'.n s'.c) H') : DelV P T H s (i : Int) ((i + 1 : Nat) : Int) K := by
  have hok : RowN fl E 1 H s l := h.get hk
  have hn := hok.len hf (by decide)
  have hle := hok.row.le
  obtain ⟨inf, i1, i2, i3, i4⟩ := info_of ht.i
  obtain ⟨g, hg⟩ := hok.row.some (by omega)
  have hrd := h.rd hf (by decide) hk
  refine ⟨⟨by omega, by omega, by omega, by omega⟩, fun he => ?_, fun _ => ⟨hle, ⟨by omega, by omega, by omega⟩, hle, ⟨by omega, by omega, by omega⟩, ?_⟩⟩
  · exfalso
    rw [beq_iff_eq] at he
    omega
  rw [show (0 : Int).toNat = 0 from rfl, Int.toNat_natCast, Int.toNat_natCast, Int.toNat_natCast, cut_lo]
  -- the beginning, as a row of its own
  have htr : RowN fl E 1 H ⟨s.a, i, s.c⟩ (l.take i) := by
    have h0 := Sym.trunc (K := fun _ => RowN fl E 1 H ⟨s.a, i, s.c⟩ (l.take i)) (Sym.start1 (a := arr fl E 1 s l) hok) hf (by decide) (k := 0) rfl (hi := i) (by omega) fun hs => hs.get (k := 0) rfl
    have h1 := h0.2.2
    exact h1
  have hpart := hrd.part hf (lo := i + 1) (hi := s.n) (by omega) (Nat.le_refl _)
  have hpl : ((l.drop (i + 1)).take (s.n - (i + 1))) = l.drop (i + 1) := List.take_of_length_le (by rw [List.length_drop]; omega)
  rw [hpl] at hpart
  have hm : (l.drop (i + 1)).length = s.n - (i + 1) := by rw [List.length_drop]; omega
  have hsrc := hpart.src hf (by decide)
  have htr' : Row H E inf.size ⟨s.a, i, s.c⟩ (flat fl (l.take i)) := by rw [i3]; exact htr.row
  refine app_row3 ht.u (by intro k; rw [ht.u]; simp) ⟨_, ht.u⟩ i1 i2 (by rw [i3]; exact ht.zc) (by rw [i4]; exact ht.b) htr' (by rw [i3]; exact hsrc) (flat_one hf) (by
    rw [i4, hm]
    refine Nat.le_trans (Nat.mul_le_mul_right _ ?_) hl
    show i + _ ≤ _
    omega) ?_
  intro ap H1 hrow hapn hfr hown hnf hin
  rw [i3] at hrow
  have hapn' : ap.n + 1 = s.n := by rw [hapn, hm]; show i + _ + 1 = _; omega
  obtain ⟨hc, ha⟩ := hin (by rw [hm]; show i + _ ≤ s.c; omega)
  have hc' : ap.c = s.c := hc
  have ha' : ap.a = s.a := ha
  refine ⟨by omega, ⟨by omega, by omega, by omega⟩, ?_⟩
  rw [Int.toNat_natCast, Int.toNat_natCast]
  have hcut : cut ap.a ap.c ap.n s.n 1 = ⟨some ⟨g, ap.n, none⟩, 1, ap.c - ap.n⟩ := by
    unfold cut
    rw [if_neg (by omega), ha', hg]
    have e1 : s.n - ap.n = 1 := by omega
    rw [e1]
    simp only [Option.map_some, Nat.mul_one]
    rw [add_mk, Nat.zero_add]
  rw [hcut]
  refine clear1 ht.u i1 i2 hzc ?_
  have hnf1 : Nf H1 ap := hnf htr.nf
  rcases hrow.2 with ⟨h1, _⟩ | ⟨g', cs, fr, h1, h2, h3, h4, h5, h6⟩
  · rw [ha', hg] at h1; cases h1
  have hgg : g' = g := by
    rw [ha', hg] at h1
    cases h1
    rfl
  subst hgg
  have hfr0 : fr = (0, 0) := by
    obtain ⟨cs', T', hb'⟩ := hnf1 g' 0 h1
    rw [h2] at hb'
    simp only [Option.some.injEq, Obj.cells.injEq] at hb'
    exact hb'.2.2
  subst hfr0
  refine stL_cells [z] 0 h2 (by simp only [List.length_cons, List.length_nil]; omega) (by simpa using hz1) (.inl (Nat.zero_le _)) fun H2 hg2 hf2 _ => ⟨rfl, ?_⟩
  have hfr2 : Fr (own s) H H2 := by
    refine (hfr.mono fun i _ hi => ?_).trans (hf2.mono fun i _ hi => ?_)
    · exact hi
    · rw [hi]; exact ⟨0, hg⟩
  refine kk ap H2 hapn' (h.setk hk hfr2 ⟨⟨?_, .inr ⟨g', cs.set ap.n z, (0, 0), h1, by simpa [setsL] using hg2, h3, by rw [List.length_set]; exact h4, ?_, Nat.zero_le _⟩⟩, fun g2 o e => ?_⟩ fun i hi => ?_)
  · have e : flat fl (l.eraseIdx i) = flat fl (l.take i) ++ flat fl (l.drop (i + 1)) := by rw [← flat_app, List.eraseIdx_eq_take_drop_succ]
    rw [e]
    exact hrow.1
  · have e : flat fl (l.eraseIdx i) = flat fl (l.take i) ++ flat fl (l.drop (i + 1)) := by rw [← flat_app, List.eraseIdx_eq_take_drop_succ]
    rw [e, ← h5, Nat.mul_one, List.take_set_of_le (Nat.le_refl _)]
  · rw [h1] at e
    simp only [Option.some.injEq, Addr.mk.injEq] at e
    rw [← e.1]
    exact ⟨_, _, by simpa [setsL] using hg2⟩
  · obtain ⟨o, hi⟩ := hi
    rw [h1] at hi
    simp only [Option.some.injEq, Addr.mk.injEq] at hi
    exact .inl ⟨0, by rw [← hi.1]; exact hg⟩
end
/-! ### tables -/
section
variable {τ : Type} {val : τ → Value} {lt : τ → τ → Bool} {E EI : TypeId}
def tbI (val : τ → Value) (lt : τ → τ → Bool) (E EI : TypeId) (b o : Nat) (T : TypeId) (cs : List Value) (ts : List τ) (os : List Nat) : It where
  ok H := TbS val lt E EI H b o T cs ts os
  fp i := i = b ∨ tOwn cs o i
  lt h hi := by
    rcases hi with rfl | hi
    · exact h.blk.lt
    · exact h.own_lt hi
  st := by
    intro H H' h hs
    obtain ⟨s1, s2, h1, h2, r1, r2, nf, ap⟩ := h.rows
    have rk : ∀ {s : Sl} {E : TypeId} {xs : List Value}, Row H E 1 s xs → (∀ i, own s i → tOwn cs o i) → Row H' E 1 s xs := by
      intro s E xs r ho
      refine ⟨r.1, ?_⟩
      rcases r.2 with h' | ⟨g, c, fr, ha, hg, h'⟩
      · exact .inl h'
      · exact .inr ⟨g, c, fr, ha, (hs g (.inr (ho g ⟨0, ha⟩))).trans hg, h'⟩
    refine ⟨(hs b (.inl rfl)).trans h.blk, ⟨s1, s2, h1, h2, rk r1 fun i hi => (tOwn_iff h1 h2 i).2 (.inl hi), rk r2 fun i hi => (tOwn_iff h1 h2 i).2 (.inr hi), ?_, ap⟩, h.nob, h.ok⟩
    intro g o' hg
    obtain ⟨c, T', hb⟩ := nf g o' hg
    exact ⟨c, T', (hs g (.inr ((tOwn_iff h1 h2 g).2 (.inr ⟨o', hg⟩)))).trans hb⟩
variable {H0 H H' : Hp} {S : Nat → Prop} {L : List It} {k b o : Nat} {T : TypeId} {cs cs' : List Value} {ts ts' : List τ} {os os' : List Nat}
theorem Sym.tb (h : Sym H0 S H L) (hk : L[k]? = some (tbI val lt E EI b o T cs ts os)) (ht : TbTo val lt E EI H H' b o T cs cs' ts' os') : Sym H0 S H' (L.set k (tbI val lt E EI b o T cs' ts' os')) :=
  h.setk hk ht.fr ht.st fun i hi => by
    rcases hi with rfl | hi
    · exact .inl (.inl rfl)
    · rcases ht.own i hi with h' | h'
      · exact .inl (.inr h')
      · exact .inr h'
/-- another field of the block is written -/
theorem Sym.tbset {i : Nat} {v : Value} {K : Hp → Prop} (h : Sym H0 S H L) (hk : L[k]? = some (tbI val lt E EI b o T cs ts os)) (hi : i < cs.length) (h1 : i ≠ o) (h2 : i ≠ o + 1) (hv : v.oneCell = true)
    (kk : ∀ H', Sym H0 S H' (L.set k (tbI val lt E EI b o T (cs.set i v) ts os)) → K H') : StL ⟨b, i, none⟩ 0 [v] H K := by
  have hok : TbS val lt E EI H b o T cs ts os := h.get hk
  refine st_blk hok.blk hi hv fun H' hb hf _ => ?_
  obtain ⟨s1, s2, e1, e2, r1, r2, nf, ap⟩ := hok.rows
  have g1 : (cs.set i v)[o]? = some (.slice s1.a s1.n s1.c) := by rw [List.getElem?_set_ne (by omega)]; exact e1
  have g2 : (cs.set i v)[o + 1]? = some (.slice s2.a s2.n s2.c) := by rw [List.getElem?_set_ne (by omega)]; exact e2
  have hown : ∀ j, tOwn (cs.set i v) o j ↔ tOwn cs o j := fun j => (tOwn_iff g1 g2 j).trans (tOwn_iff e1 e2 j).symm
  have hno : ∀ j, tOwn cs o j → j ≠ b := fun j hj e => hok.nob (e ▸ hj)
  refine kk H' (h.setk hk (hf.mono fun j _ hj => .inl hj) ⟨hb, ⟨s1, s2, g1, g2, r1.keep hf fun j hj => hno j ((tOwn_iff e1 e2 j).2 (.inl hj)), r2.keep hf fun j hj => hno j ((tOwn_iff e1 e2 j).2 (.inr hj)), nf.keep hf fun j hj => hno j ((tOwn_iff e1 e2 j).2 (.inr hj)), ap⟩, fun hb => hok.nob ((hown b).1 hb), hok.ok⟩ fun j hj => ?_)
  rcases hj with rfl | hj
  · exact .inl (.inl rfl)
  · exact .inl (.inr ((hown j).1 hj))
end
end Go.V

