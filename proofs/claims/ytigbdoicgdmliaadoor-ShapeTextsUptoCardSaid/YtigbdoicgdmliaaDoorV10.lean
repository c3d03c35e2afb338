/- Slices of rows: copy, append of zeros, the parts of a row; of no program. -/
import Derived.Test.YtigbdoicgdmliaaDoorV9
set_option linter.unusedVariables false
set_option linter.unusedSimpArgs false
namespace Go.V

theorem setsL_eq : ∀ (vs cs : List Value) (o : Nat), o + vs.length ≤ cs.length → setsL cs o vs = cs.take o ++ vs ++ cs.drop (o + vs.length)
  | [], cs, o, h => by simp [setsL]
  | v :: vs, cs, o, h => by
    simp only [List.length_cons] at h
    rw [setsL, setsL_eq vs (cs.set o v) (o + 1) (by simp; omega)]
    rw [List.take_set, List.take_succ_eq_append_getElem (by omega), List.set_append_right _ _ (by simp; omega)]
    have e1 : o - (cs.take o).length = 0 := by simp; omega
    rw [e1, List.drop_set_of_lt (by omega)]
    simp only [List.set_cons_zero, List.length_cons, List.append_assoc, List.singleton_append, List.cons_append, List.nil_append]
    congr 3
    congr 1
    omega

theorem setsL_app {A B vs : List Value} {o : Nat} (ho : o = A.length) (h : vs.length ≤ B.length) : setsL (A ++ B) o vs = A ++ (vs ++ B.drop vs.length) := by
  subst ho
  rw [setsL_eq _ _ _ (by simp; omega), List.take_left, List.drop_append, List.append_assoc]
  congr 2
  rw [List.drop_of_length_le (by omega), List.nil_append]
  congr 1
  omega

theorem first_cells {P : Program} {H : Hp} {g o sz k n c : Nat} {cs : List Value} {T : TypeId} {fr : Nat × Nat} (hg : H[g]? = some (.cells cs.toArray T fr)) (hl : o + k * sz ≤ cs.length) {K : Array Value → Hp → Prop} {Z : Value → Hp → Prop}
    (h : K ((cs.drop o).take (k * sz)).toArray H) : hrun P (Builtin.firstCells sz k (.slice (some ⟨g, o, none⟩) n c)) H K Z := by
  simp only [Builtin.firstCells, loadCells]
  have hlen : ((cs.drop o).take (k * sz)).length = k * sz := by simp; omega
  rw [← hlen]
  refine hrun_loadCells _ 0 #[] ?_ (by simpa using h)
  refine atL_of hg _ 0 ?_
  intro j hj
  rw [hlen] at hj
  rw [List.getElem?_take, if_pos hj, List.getElem?_drop]
  congr 1

/-- copy into a row -/
theorem cpy_ok {P : Program} {T T2 E : TypeId} {inf : TypeInfo} {ty : TypeId} (hu : P.underlying T = some (.slice E)) (hi : P.info? E = some inf) {H : Hp} {g o n c m : Nat} {y : Value} {ys cs : List Value} {E' : TypeId} {fr : Nat × Nat} {K : Int → Hp → Prop}
    (hlen : pureV P (Builtin.lenOf y) = some m) (hfirst : ∀ {K : Array Value → Hp → Prop} {Z : Value → Hp → Prop}, K ys.toArray H → hrun P (Builtin.firstCells inf.size (Nat.min m n) y) H K Z)
    (hg : H[g]? = some (.cells cs.toArray E' fr)) (hl : o + ys.length ≤ cs.length) (h1 : ∀ v ∈ ys, v.oneCell = true) (hfr : fr.2 ≤ o ∨ fr.2 ≤ fr.1)
    (k : ∀ H', H'[g]? = some (.cells (setsL cs o ys).toArray E' fr) → Fr (fun j => j = g) H H' → H'.size = H.size → K ((Nat.min m n : Nat) : Int) H') :
    Cpy P #[T, T2] ty H [.slice (some ⟨g, o, none⟩) n c, y] K := by
  unfold Cpy Builtin.copy_
  simp only [List.getElem?_toArray, List.getElem?_cons_zero, List.getElem?_cons_succ]
  refine hrun_pv (pv_underlying hu) ?_
  simp only
  refine hrun_pv hlen ?_
  refine hrun_pv (pv_sizeOf hi) ?_
  refine hrun_bind _ (hfirst ?_)
  refine hrun_bind _ (hrun_storeCells _ 0 ?_)
  have := stL_cells (o := o) ys 0 hg (by simpa using hl) h1 (by simpa using hfr) (K := fun H' => ∃ r : Int, goInt (Nat.min m n) = .int .i64 r ∧ K r H') (fun H' h2 h3 h4 => ⟨_, rfl, k H' (by simpa using h2) h3 h4⟩)
  simpa [hrun, pure] using this

/-- append(s[:k], make(..)...) where it must grow -/
theorem app_make {P : Program} {T T2 E : TypeId} {k2 : IntKind} {inf : TypeInfo} {z : Value} {ty : TypeId} (hu : P.underlying T = some (.slice E)) (hu2 : P.underlying T2 = some (.int k2)) (hi : P.info? E = some inf) (hz : inf.zero = some z) (hzs : z.cells.size = inf.size) (hb : 0 < inf.bytes)
    {H : Hp} {s : Sl} {xs : List Value} {m : Nat} {K : Sl → Hp → Prop} (hx : ∀ {K : Array Value → Hp → Prop} {Z : Value → Hp → Prop}, K xs.toArray H → hrun P (Builtin.firstCells inf.size s.n (.slice s.a s.n s.c)) H K Z) (hxl : xs.length = s.n * inf.size)
    (hm : 0 < m * inf.size) (hc : s.c < s.n + m) (hl : (s.n + m) * inf.bytes ≤ 140737488355328)
    (k : ∀ g H' cap zs, Newb H (.cells (xs ++ zs).toArray E) g H' → s.n + m ≤ cap → (xs ++ zs).length = cap * inf.size → K ⟨some ⟨g, 0, none⟩, s.n + m, cap⟩ H') :
    App P #[T, T2] ty H [.slice s.a s.n s.c, .int .i64 (m : Int)] K := by
  have h63 : IntKind.i64.max = 9223372036854775807 := rfl
  have hbig : s.n + m ≤ 140737488355328 := Nat.le_trans (Nat.le_mul_of_pos_right _ hb) hl
  have hw : IntKind.i64.wrap (m : Int) = (m : Int) := by
    simp only [IntKind.wrap, IntKind.bits, IntKind.signed, Int.reducePow, Nat.reduceSub, Bool.true_and, decide_eq_true_eq, ge_iff_le]
    by_cases h : 9223372036854775808 ≤ (m : Int) % 18446744073709551616
    · rw [if_pos h]; omega
    · rw [if_neg h]; omega
  have hmb : m * inf.bytes ≤ 140737488355328 := Nat.le_trans (Nat.mul_le_mul_right _ (by omega)) hl
  have hgr := growslice_fits (need := s.n + m) (old := s.c) (bytes := inf.bytes) (by omega) hl
  unfold App Builtin.append_
  simp only [List.getElem?_toArray, List.getElem?_cons_zero, List.getElem?_cons_succ]
  refine hrun_pv (pv_underlying hu) ?_
  simp only
  refine hrun_pv (pv_sizeOf hi) ?_
  refine hrun_bind _ (hrun_pureV _ (pv_underlying hu2) ?_)
  simp only [pure, bind, Sem.bind, Bool.false_eq_true, if_false, Bool.not_false, if_true, Bool.not_true]
  refine hrun_bind _ ?_
  simp only [asInt, asIntOf, pure, bind, Sem.bind, hrun, hw]
  rw [if_neg (by omega)]
  refine hrun_bind _ (hrun_pureV _ (pv_typeInfo hi) ?_)
  have h248 : (2 : Int) ^ 48 = 281474976710656 := by decide
  have hmb' : ¬ ((m : Int) * (inf.bytes : Int) > 2 ^ 48) := by
    rw [h248]
    have : ((m * inf.bytes : Nat) : Int) = (m : Int) * (inf.bytes : Int) := by simp
    omega
  rw [if_neg hmb']
  have hmn : (m : Int).toNat = m := by omega
  simp only [hmn]
  rw [if_neg (by omega)]
  refine hrun_bind _ (hrun_pureV _ (pv_typeInfo hi) ?_)
  have hcond : ¬ (((s.n + m : Nat) : Int) > IntKind.i64.max ∧ (True ∨ inf.bytes = 0)) := by
    rintro ⟨h, _⟩
    rw [h63] at h
    omega
  rw [if_neg hcond]
  refine hrun_bind _ (hrun_pureV _ (pv_typeInfo hi) ?_)
  have hbig2 : ¬ (Builtin.nextslicecap (s.n + m) s.c * inf.bytes > 2 ^ 48) := by
    have : (2 : Nat) ^ 48 = 281474976710656 := by decide
    omega
  rw [if_neg hbig2]
  refine hrun_bind _ ?_
  simp only [choose, hrun, Question.forced, Bool.false_eq_true, if_false, Question.cut]
  intro tp
  generalize hcap : s.n + m + tp % (2 ^ 63 - (s.n + m)) = cap
  refine hrun_bind _ (hrun_pureV _ (pv_typeInfo hi) ?_)
  refine hrun_bind _ ?_
  have askr : ∀ (n : Nat) {K : Unit → Hp → Prop} {Z : Value → Hp → Prop}, K () H → hrun P (askRoom n) H K Z := by
    intro n K Z hk
    unfold askRoom
    split
    · exact hk
    · exact hk
  refine askr _ ?_
  refine hrun_bind _ (hx ?_)
  rw [if_neg (by omega)]
  refine hrun_bind _ (hrun_bind _ (hrun_pureV _ (pv_zero hi hz) ?_))
  simp only [hrun]
  refine hrun_bind _ (hrun_pureV _ (pv_zero hi hz) ?_)
  refine hrun_bind _ ?_
  simp only [newRow, newObj, bind, Sem.bind, hrun, pure]
  intro g H' hn
  have hs1 : (Builtin.zeroCells z.cells m).size = m * inf.size := by rw [zeroCells_size, hzs]
  have hs2 : (Builtin.zeroCells z.cells (cap - (s.n + m))).size = (cap - (s.n + m)) * inf.size := by rw [zeroCells_size, hzs]
  refine ⟨⟨some ⟨g, 0, none⟩, s.n + m, cap⟩, rfl, k g H' cap ((Builtin.zeroCells z.cells m).toList ++ (Builtin.zeroCells z.cells (cap - (s.n + m))).toList) ?_ (by omega) ?_⟩
  · have e : (xs ++ ((Builtin.zeroCells z.cells m).toList ++ (Builtin.zeroCells z.cells (cap - (s.n + m))).toList)).toArray = xs.toArray ++ Builtin.zeroCells z.cells m ++ Builtin.zeroCells z.cells (cap - (s.n + m)) := by
      apply Array.ext'
      simp
    rw [e]
    exact hn
  · simp only [List.length_append, Array.length_toList, hs1, hs2, hxl]
    rw [← Nat.add_mul, ← Nat.add_mul]
    congr 1
    omega
end Go.V

