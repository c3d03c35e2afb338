import Derived.Test.YtigbdoicgdmliaaZ08
section
/- record's reader: bytes as a summary. -/
set_option linter.unusedVariables false
set_option linter.unusedSimpArgs false
-- vNumber: 71
-- vFail: 72
-- vDone: 40
-- vNew: 38
-- rtext: 76
-- good: 110
-- thStr: 77
-- thObj: 78
-- thFn: 80
-- thCon: 82
-- thMark: 111
-- robject: 79
-- rfunction: 81
-- rcon: 83
-- rmark: 112
-- read: 42
-- tRdr: 123
-- tVR: 117
-- tStr: 9
-- tStrs: 47
-- tObj: 128
-- tObjs: 84
-- tFn: 132
-- tFns: 85
-- tCon: 136
-- tCons: 86
-- tMark: 174
-- tMarks: 126
-- tSum: 90
namespace Go.Proofs.Ytigbdoicgdmliaa.C26R
open Go Go.V Go.Proofs Go.Proofs.Ytigbdoicgdmliaa.N26 Go.Proofs.Ytigbdoicgdmliaa.P02 Go.Proofs.Ytigbdoicgdmliaa.P26R Go.Proofs.Ytigbdoicgdmliaa.C25
attribute [local irreducible] Cvt ExtF CallF hrun App MkS callV
theorem tyStr : TyS Try.prog 47 9 1 16 (.string ⟨#[]⟩) := ⟨by kernel_rfl, by kernel_rfl, rfl, by decide⟩
theorem tyMark : TyS Try.prog 126 174 2 24 (.agg #[.int .i64 0, .string ⟨#[]⟩]) := ⟨by kernel_rfl, by kernel_rfl, rfl, by decide⟩
theorem tyFn : TyS Try.prog 85 132 3 48 (.agg #[.string ⟨#[]⟩, .string ⟨#[]⟩, .string ⟨#[]⟩]) := ⟨by kernel_rfl, by kernel_rfl, rfl, by decide⟩
theorem tyObj : TyS Try.prog 84 128 3 56 (.agg #[.string ⟨#[]⟩, .string ⟨#[]⟩, .slice none 0 0]) := ⟨by kernel_rfl, by kernel_rfl, rfl, by decide⟩
theorem tyCon : TyS Try.prog 86 136 6 88 (.agg #[.int .i64 0, .string ⟨#[]⟩, .string ⟨#[]⟩, .int .i64 0, .string ⟨#[]⟩, .slice none 0 0]) := ⟨by kernel_rfl, by kernel_rfl, rfl, by decide⟩
def rd2 (b bR : Nat) (p : Addr) (cs : List Value) (r : Rr) (R : List It) : List It := blk b [.pointer (some ⟨bR, 0, none⟩), .pointer (some p)] 123 :: rdrI bR 0 117 cs r :: R
theorem perm5 {a b x y z : It} {R : List It} : (a :: b :: x :: y :: z :: R).Perm (x :: z :: a :: b :: y :: R) := (List.perm_middle (l₁ := [a, b])).trans ((List.perm_middle (l₁ := [a, b, y])).cons x)
theorem perm4 {a b y z : It} {R : List It} : (z :: a :: b :: y :: R).Perm (a :: b :: y :: z :: R) := (List.perm_middle (l₁ := [a, b, y])).symm
/-- rows that lie behind those of a row -/
def Rel {η χ τ : Type} (of : χ → Sl → η) (inn : χ → List τ) (hs : List η) (xs : List χ) (ps : List (Sl × List τ)) : Prop :=
  hs.length = xs.length ∧ ∀ (i : Nat) h x, hs[i]? = some h → xs[i]? = some x → ∃ s, h = of x s ∧ (s, inn x) ∈ ps
theorem Rel.snoc {η χ τ : Type} {of : χ → Sl → η} {inn : χ → List τ} {hs : List η} {xs : List χ} {ps : List (Sl × List τ)} (h : Rel of inn hs xs ps) (x : χ) (s : Sl) : Rel of inn (hs ++ [of x s]) (xs ++ [x]) ((s, inn x) :: ps) := by
  refine ⟨by simp [h.1], fun i a y ha hy => ?_⟩
  rcases Nat.lt_or_ge i hs.length with hi | hi
  · rw [List.getElem?_append_left hi] at ha
    rw [List.getElem?_append_left (by rw [← h.1]; exact hi)] at hy
    obtain ⟨s', e, hm⟩ := h.2 i a y ha hy
    exact ⟨s', e, List.mem_cons_of_mem _ hm⟩
  · rw [List.getElem?_append_right hi] at ha
    rw [List.getElem?_append_right (by rw [← h.1]; exact hi)] at hy
    have h0 : i - hs.length = 0 := by have := (List.getElem?_eq_some_iff.1 ha).1; simp at this; omega
    have h1 : i - xs.length = 0 := by rw [← h.1]; exact h0
    rw [h0] at ha
    rw [h1] at hy
    simp only [List.getElem?_cons_zero, Option.some.injEq] at ha hy
    subst ha
    subst hy
    exact ⟨s, rfl, List.mem_cons_self⟩
theorem rel_objs {H : Hp} {s : Sl} {hs : List HO} {xs : List ObjD} {ps : List (Sl × List Mk)} (h : Rel HO.of ObjD.marks hs xs ps) (h1 : Go.V.Rd flHO 3 H s hs) (h2 : (rdsI flM 2 ps).ok H) : RdO H s xs :=
  ⟨hs, h1, h.1, fun i a x ha hx => by
    obtain ⟨s', rfl, hm⟩ := h.2 i a x ha hx
    exact ⟨rfl, (h2 _ hm).1⟩⟩
theorem rel_cons {H : Hp} {s : Sl} {hs : List HC} {xs : List ConD} {ps : List (Sl × List L8)} (h : Rel HC.of ConD.args hs xs ps) (h1 : Go.V.Rd flHC 6 H s hs) (h2 : (rdsI flL 1 ps).ok H) : RdC H s xs :=
  ⟨hs, h1, h.1, fun i a x ha hx => by
    obtain ⟨s', rfl, hm⟩ := h.2 i a x ha hx
    exact ⟨rfl, (h2 _ hm).1⟩⟩
section
variable {H0 H : Hp} {R : List It} {K : Value → Hp → Prop} {Z : List PanicEntry → Hp → Prop} {b bR : Nat} {p : Addr} {cs : List Value} {r : Rr} {ts : List L8}
theorem rdS (h : Sym H0 no H (rd2 b bR p cs r R)) : C02R.RdS H bR 0 117 cs r := h.get (k := 1) rfl
theorem ldR (h : Sym H0 no H (rd2 b bR p cs r R)) : hcell H ⟨b, 0, none⟩ = some (.pointer (some ⟨bR, 0, none⟩)) := h.ld (k := 0) rfl 0
theorem ldP (h : Sym H0 no H (rd2 b bR p cs r R)) : hcell H (Addr.add ⟨b, 0, none⟩ 1) = some (.pointer (some p)) := by
  rw [add_mk, Nat.zero_add]
  exact h.ld (k := 0) rfl 1
theorem vnum (h : Sym H0 no H (rd2 b bR p cs r R)) (kk : ∀ H' cs', Sym H0 no H' (rd2 b bR p cs' (numM r).2 R) → K (.int .i64 ((numM r).1 : Int)) H') : CallF Try.prog 71 #[.pointer (some ⟨bR, 0, none⟩)] H K Z :=
  C02R.vnumber_ok (rdS h) fun H' cs' ht => kk H' cs' (h.rdr (k := 1) rfl ht)
theorem vfail {e : Int} (h : Sym H0 no H (rd2 b bR p cs r R)) (kk : ∀ H' cs', Sym H0 no H' (rd2 b bR p cs' (failM r e) R) → K (.tuple #[]) H') : CallF Try.prog 72 #[.pointer (some ⟨bR, 0, none⟩), .int .i64 e] H K Z :=
  C02R.fail_ok (rdS h) fun H' cs' ht => kk H' cs' (h.rdr (k := 1) rfl ht)
theorem good_ok (h : Sym H0 no H (rd2 b bR p cs r R)) (h6 : r.2.2 ≠ 6) (k : K (.bool (decide (r.2.2 = 0))) H) : CallF Try.prog 110 #[.pointer (some ⟨b, 0, none⟩)] H K Z := by
  refine V110_ok ?_
  unfold V110
  refine ⟨_, ldR h, C02R.done_ok (rdS h) ⟨_, _, rfl, fun h0 => ?_, fun h0 => ?_⟩⟩
  · have h0' : (rdoneM r).2 = 0 := by simpa using h0
    have : r.2.2 = 0 := by
      unfold rdoneM at h0'
      split at h0'
      · cases h0'
      · exact h0'
    rw [decide_eq_true this] at k
    exact k
  · have h0' : (rdoneM r).2 ≠ 0 := by simpa using h0
    have e : ((rdoneM r).2 == 6) = decide (r.2.2 = 0) := by
      unfold rdoneM at h0' ⊢
      split
      · rename_i hc
        rw [decide_eq_true hc.1]
        rfl
      · rename_i hc
        rw [if_neg hc] at h0'
        have h0'' : r.2.2 ≠ 0 := h0'
        rw [decide_eq_false h0'']
        show (r.2.2 == 6) = false
        rw [beq_eq_false_iff_ne]
        exact h6
    rw [e]
    exact k
theorem text_ok (hp : C25.PlS H0 p ts) (h : Sym H0 no H (rd2 b bR p cs r R)) (h6 : r.2.2 ≠ 6) (kk : ∀ H' cs', Sym H0 no H' (rd2 b bR p cs' (textR ts r).2 R) → K (.string (str (textR ts r).1)) H') : CallF Try.prog 76 #[.pointer (some ⟨b, 0, none⟩)] H K Z := by
  refine V76_ok ?_
  unfold V76
  refine ⟨_, ldR h, vnum h fun A cs1 sA => ⟨_, rfl, good_ok sA (C25.num6 h6) ⟨_, rfl, fun hb => ?_, fun hb => ?_⟩⟩⟩
  · have hb' : (numM r).2.2.2 ≠ 0 := by simpa using hb
    have e : textR ts r = ([], (numM r).2) := by unfold textR; rw [if_pos hb']
    rw [e] at kk
    exact kk A cs1 sA
  · have hb' : (numM r).2.2.2 = 0 := by simpa using hb
    refine ⟨_, ldP sA, C25.at_ok (hp.more sA.fr) (fun t _ ht => ⟨_, _, rfl, (fun h => by cases h), fun _ => ?_⟩) (fun hno => ⟨_, _, rfl, fun _ => ⟨_, ldR sA, ?_⟩, fun h => by cases h⟩)⟩
    · have e : textR ts r = (t, (numM r).2) := by
        unfold textR
        rw [if_neg (by simpa using hb')]
        rw [Int.toNat_natCast] at ht
        rw [ht]
      rw [e] at kk
      exact kk A cs1 sA
    · have e : textR ts r = ([], failM (numM r).2 2) := by
        unfold textR
        rw [if_neg (by simpa using hb'), List.getElem?_eq_none (by omega)]
      rw [e] at kk
      exact vfail sA fun B cs2 sB => ⟨rfl, kk B cs2 sB⟩
theorem okT : fnOk Try.prog 76 = true := by kernel_rfl
theorem okM : fnOk Try.prog 112 = true := by kernel_rfl
theorem okO : fnOk Try.prog 79 = true := by kernel_rfl
theorem okF : fnOk Try.prog 81 = true := by kernel_rfl
theorem okC : fnOk Try.prog 83 = true := by kernel_rfl
/-- a way to read one thing -/
def OneF {χ : Type} (H0 : Hp) (b bR : Nat) (p : Addr) (onev : Value) (one : Rr → χ × Rr) (val : χ → Value) : Prop :=
  ∀ {A : Hp} {cs : List Value} {r : Rr} {R' : List It} {K : Value → Hp → Prop} {Z : List PanicEntry → Hp → Prop}, r.2.2 ≠ 6 → Sym H0 no A (rd2 b bR p cs r R') → (∀ A' cs', Sym H0 no A' (rd2 b bR p cs' (one r).2 R') → K (val (one r).1) A') → callV Try.prog onev [] A K Z
def OneD {χ τ : Type} (H0 : Hp) (b bR : Nat) (p : Addr) (onev : Value) (one : Rr → χ × Rr) (fl : τ → List Value) (E : TypeId) (sz : Nat) (inn : χ → List τ) (val : χ → Sl → Value) : Prop :=
  ∀ {A : Hp} {cs : List Value} {r : Rr} {R' : List It} {K : Value → Hp → Prop} {Z : List PanicEntry → Hp → Prop}, r.2.2 ≠ 6 → Sym H0 no A (rd2 b bR p cs r R') → (∀ A' cs' s, Sym H0 no A' (rd2 b bR p cs' (one r).2 (arr fl E sz s (inn (one r).1) :: R')) → K (val (one r).1 s) A') → callV Try.prog onev [] A K Z
theorem pull3 {x : It} {A : Hp} (h : Sym H0 no A (x :: rd2 b bR p cs r R)) : Sym H0 no A (rd2 b bR p cs r (x :: R)) := h.perm ((List.Perm.swap _ x _).trans ((List.Perm.swap _ x R).cons _))
theorem front3 {x : It} {A : Hp} (h : Sym H0 no A (rd2 b bR p cs r (x :: R))) : Sym H0 no A (x :: rd2 b bR p cs r R) := h.perm (((List.Perm.swap x _ R).cons _).trans (List.Perm.swap x _ _))
theorem drop3 {x : It} {A : Hp} (h : Sym H0 no A (rd2 b bR p cs r (x :: R))) : Sym H0 no A (rd2 b bR p cs r R) := (front3 h).drop
theorem drop4 {x y : It} {A : Hp} (h : Sym H0 no A (rd2 b bR p cs r (y :: x :: R))) : Sym H0 no A (rd2 b bR p cs r (y :: R)) := h.sub (List.Sublist.cons_cons _ (List.Sublist.cons_cons _ (List.Sublist.cons_cons _ (List.sublist_cons_self _ _))))
theorem thStr_ok {one : Rr → L8 × Rr} {onev : Value} (k1 : K6 one) (h1 : OneF H0 b bR p onev one (fun x => .string (str x))) (h : Sym H0 no H (rd2 b bR p cs r R)) (h6 : r.2.2 ≠ 6)
    (kk : ∀ H' cs' s, Sym H0 no H' (rd2 b bR p cs' (thR one r).2 (arr flL 9 1 s (thR one r).1 :: R)) → K (.slice s.a s.n s.c) H') : CallF Try.prog 77 #[.pointer (some ⟨b, 0, none⟩), onev] H K Z := by
  refine V77_ok ?_
  unfold V77
  refine ⟨_, ldR h, vnum h fun A cs1 sA => ⟨_, rfl, ?_⟩⟩
  rw [th_alt] at kk
  have hn6 := k6_num r h6
  have hnle := num_le r
  generalize numM r = x at *
  obtain ⟨n, r1⟩ := x
  simp only at kk hn6 sA hnle ⊢
  refine ⟨fun B => ∃ cs2, Sym H0 no B (rd2 b bR p cs2 (if 6000 < n then failM r1 4 else r1) R), ?_, fun hb => ?_, fun hb => ?_⟩
  rotate_left
  · have hb' : 6000 < n := by have := of_decide_eq_true hb; omega
    rw [if_pos hb']
    exact ⟨_, ldR sA, vfail sA fun B cs2 sB => ⟨rfl, cs2, sB⟩⟩
  · have hb' : ¬ 6000 < n := by have := of_decide_eq_false hb; omega
    rw [if_neg hb']
    exact ⟨cs1, sA⟩
  rintro B ⟨cs2, sB⟩ scr
  have hr6 : (if 6000 < n then failM r1 4 else r1).2.2 ≠ 6 := by split; exact C25.fail6 hn6 (by decide); exact hn6
  have hbig : (if 6000 < n then failM r1 4 else r1).2.2 = 0 → n ≤ 6000 := by
    intro h0
    split at h0
    · exact absurd h0 (fail_ne _ (by decide))
    · omega
  generalize (if 6000 < n then failM r1 4 else r1) = r2 at *
  refine ⟨fun l i C m => ∃ (j : Nat) (cs3 : List Value) (r3 : Rr) (acc : List L8), i = (j : Int) ∧ j ≤ n ∧ m = n - j ∧ acc.length = j ∧ r3.2.2 ≠ 6 ∧ (j = 0 → r3 = r2) ∧ (0 < j → n ≤ 6000) ∧ Sym H0 no C (rd2 b bR p cs3 r3 (arr flL 9 1 l acc :: R)) ∧ thN one (n - j) r3 acc = thN one n r2 [],
    ⟨_, 0, cs2, r2, [], rfl, Nat.zero_le _, rfl, rfl, hr6, fun _ => rfl, (fun h => by omega), pull3 (sB.nilrow flL 9 1), rfl⟩, ?_⟩
  rintro l i C m ⟨j, cs3, r3, acc, rfl, hj, rfl, hacc, h36, hj0, hj1, sC, he⟩ scr1
  refine ⟨fun hlt => ?_, fun hge => ?_⟩
  · have hjn : j < n := by have := dlt hlt; omega
    have en : n - j = (n - (j + 1)) + 1 := by omega
    refine good_ok sC h36 ⟨_, rfl, fun hy => ?_, fun hy => ?_⟩
    · have h0 : r3.2.2 = 0 := of_decide_eq_true hy
      have hn' : n ≤ 6000 := by
        by_cases hz : j = 0
        · exact hbig (by rw [← hj0 hz]; exact h0)
        · exact hj1 (by omega)
      rw [en, thN_go h0] at he
      refine h1 h36 sC fun D cs4 sD => ⟨_, rfl, fun bb E hE => ?_⟩
      have hl : l.n = acc.length := (sD.rd (k := 2) FlL (by decide) rfl).len
      refine sD.app1 (k := 2) (x := (one r3).1) tyStr FlL (by decide) hE rfl (by omega) fun ap F hap sF => ⟨n - (j + 1), by omega, j + 1, cs4, (one r3).2, acc ++ [(one r3).1], wi (by omega), hjn, rfl, by simp [hacc], k1 _ h36, (fun h => by omega), fun _ => hn', sF, he⟩
    · have h0 : r3.2.2 ≠ 0 := of_decide_eq_false hy
      rw [thN_err h0] at he
      rw [← he] at kk
      exact kk C cs3 l sC
  · have hjn : n = j := by have := dge hge; omega
    rw [hjn, Nat.sub_self] at he
    have he' : (acc, r3) = thN one n r2 [] := by rw [hjn]; exact he
    rw [← he'] at kk
    exact kk C cs3 l sC
theorem thMark_ok {one : Rr → Mk × Rr} {onev : Value} (k1 : K6 one) (h1 : OneF H0 b bR p onev one (fun x => .agg #[.int .i64 x.1, .string (str x.2)])) (h : Sym H0 no H (rd2 b bR p cs r R)) (h6 : r.2.2 ≠ 6)
    (kk : ∀ H' cs' s, Sym H0 no H' (rd2 b bR p cs' (thR one r).2 (arr flM 174 2 s (thR one r).1 :: R)) → K (.slice s.a s.n s.c) H') : CallF Try.prog 111 #[.pointer (some ⟨b, 0, none⟩), onev] H K Z := by
  refine V111_ok ?_
  unfold V111
  refine ⟨_, ldR h, vnum h fun A cs1 sA => ⟨_, rfl, ?_⟩⟩
  rw [th_alt] at kk
  have hn6 := k6_num r h6
  have hnle := num_le r
  generalize numM r = x at *
  obtain ⟨n, r1⟩ := x
  simp only at kk hn6 sA hnle ⊢
  refine ⟨fun B => ∃ cs2, Sym H0 no B (rd2 b bR p cs2 (if 6000 < n then failM r1 4 else r1) R), ?_, fun hb => ?_, fun hb => ?_⟩
  rotate_left
  · have hb' : 6000 < n := by have := of_decide_eq_true hb; omega
    rw [if_pos hb']
    exact ⟨_, ldR sA, vfail sA fun B cs2 sB => ⟨rfl, cs2, sB⟩⟩
  · have hb' : ¬ 6000 < n := by have := of_decide_eq_false hb; omega
    rw [if_neg hb']
    exact ⟨cs1, sA⟩
  rintro B ⟨cs2, sB⟩ scr
  have hr6 : (if 6000 < n then failM r1 4 else r1).2.2 ≠ 6 := by split; exact C25.fail6 hn6 (by decide); exact hn6
  have hbig : (if 6000 < n then failM r1 4 else r1).2.2 = 0 → n ≤ 6000 := by
    intro h0
    split at h0
    · exact absurd h0 (fail_ne _ (by decide))
    · omega
  generalize (if 6000 < n then failM r1 4 else r1) = r2 at *
  refine ⟨fun l i C m => ∃ (j : Nat) (cs3 : List Value) (r3 : Rr) (acc : List Mk), i = (j : Int) ∧ j ≤ n ∧ m = n - j ∧ acc.length = j ∧ r3.2.2 ≠ 6 ∧ (j = 0 → r3 = r2) ∧ (0 < j → n ≤ 6000) ∧ Sym H0 no C (rd2 b bR p cs3 r3 (arr flM 174 2 l acc :: R)) ∧ thN one (n - j) r3 acc = thN one n r2 [],
    ⟨_, 0, cs2, r2, [], rfl, Nat.zero_le _, rfl, rfl, hr6, fun _ => rfl, (fun h => by omega), pull3 (sB.nilrow flM 174 2), rfl⟩, ?_⟩
  rintro l i C m ⟨j, cs3, r3, acc, rfl, hj, rfl, hacc, h36, hj0, hj1, sC, he⟩ scr1
  refine ⟨fun hlt => ?_, fun hge => ?_⟩
  · have hjn : j < n := by have := dlt hlt; omega
    have en : n - j = (n - (j + 1)) + 1 := by omega
    refine good_ok sC h36 ⟨_, rfl, fun hy => ?_, fun hy => ?_⟩
    · have h0 : r3.2.2 = 0 := of_decide_eq_true hy
      have hn' : n ≤ 6000 := by
        by_cases hz : j = 0
        · exact hbig (by rw [← hj0 hz]; exact h0)
        · exact hj1 (by omega)
      rw [en, thN_go h0] at he
      refine h1 h36 sC fun D cs4 sD => ⟨_, _, rfl, fun bb E hE => ?_⟩
      have hl : l.n = acc.length := (sD.rd (k := 2) FlM (by decide) rfl).len
      refine sD.app1 (k := 2) (x := (one r3).1) tyMark FlM (by decide) hE rfl (by omega) fun ap F hap sF => ⟨n - (j + 1), by omega, j + 1, cs4, (one r3).2, acc ++ [(one r3).1], wi (by omega), hjn, rfl, by simp [hacc], k1 _ h36, (fun h => by omega), fun _ => hn', sF, he⟩
    · have h0 : r3.2.2 ≠ 0 := of_decide_eq_false hy
      rw [thN_err h0] at he
      rw [← he] at kk
      exact kk C cs3 l sC
  · have hjn : n = j := by have := dge hge; omega
    rw [hjn, Nat.sub_self] at he
    have he' : (acc, r3) = thN one n r2 [] := by rw [hjn]; exact he
    rw [← he'] at kk
    exact kk C cs3 l sC
theorem thFn_ok {one : Rr → FnD × Rr} {onev : Value} (k1 : K6 one) (h1 : OneF H0 b bR p onev one (fun x => .agg #[.string (str x.name), .string (str x.kinds), .string (str x.ret)])) (h : Sym H0 no H (rd2 b bR p cs r R)) (h6 : r.2.2 ≠ 6)
    (kk : ∀ H' cs' s, Sym H0 no H' (rd2 b bR p cs' (thR one r).2 (arr flF 132 3 s (thR one r).1 :: R)) → K (.slice s.a s.n s.c) H') : CallF Try.prog 80 #[.pointer (some ⟨b, 0, none⟩), onev] H K Z := by
  refine V80_ok ?_
  unfold V80
  refine ⟨_, ldR h, vnum h fun A cs1 sA => ⟨_, rfl, ?_⟩⟩
  rw [th_alt] at kk
  have hn6 := k6_num r h6
  have hnle := num_le r
  generalize numM r = x at *
  obtain ⟨n, r1⟩ := x
  simp only at kk hn6 sA hnle ⊢
  refine ⟨fun B => ∃ cs2, Sym H0 no B (rd2 b bR p cs2 (if 6000 < n then failM r1 4 else r1) R), ?_, fun hb => ?_, fun hb => ?_⟩
  rotate_left
  · have hb' : 6000 < n := by have := of_decide_eq_true hb; omega
    rw [if_pos hb']
    exact ⟨_, ldR sA, vfail sA fun B cs2 sB => ⟨rfl, cs2, sB⟩⟩
  · have hb' : ¬ 6000 < n := by have := of_decide_eq_false hb; omega
    rw [if_neg hb']
    exact ⟨cs1, sA⟩
  rintro B ⟨cs2, sB⟩ scr
  have hr6 : (if 6000 < n then failM r1 4 else r1).2.2 ≠ 6 := by split; exact C25.fail6 hn6 (by decide); exact hn6
  have hbig : (if 6000 < n then failM r1 4 else r1).2.2 = 0 → n ≤ 6000 := by
    intro h0
    split at h0
    · exact absurd h0 (fail_ne _ (by decide))
    · omega
  generalize (if 6000 < n then failM r1 4 else r1) = r2 at *
  refine ⟨fun l i C m => ∃ (j : Nat) (cs3 : List Value) (r3 : Rr) (acc : List FnD), i = (j : Int) ∧ j ≤ n ∧ m = n - j ∧ acc.length = j ∧ r3.2.2 ≠ 6 ∧ (j = 0 → r3 = r2) ∧ (0 < j → n ≤ 6000) ∧ Sym H0 no C (rd2 b bR p cs3 r3 (arr flF 132 3 l acc :: R)) ∧ thN one (n - j) r3 acc = thN one n r2 [],
    ⟨_, 0, cs2, r2, [], rfl, Nat.zero_le _, rfl, rfl, hr6, fun _ => rfl, (fun h => by omega), pull3 (sB.nilrow flF 132 3), rfl⟩, ?_⟩
  rintro l i C m ⟨j, cs3, r3, acc, rfl, hj, rfl, hacc, h36, hj0, hj1, sC, he⟩ scr1
  refine ⟨fun hlt => ?_, fun hge => ?_⟩
  · have hjn : j < n := by have := dlt hlt; omega
    have en : n - j = (n - (j + 1)) + 1 := by omega
    refine good_ok sC h36 ⟨_, rfl, fun hy => ?_, fun hy => ?_⟩
    · have h0 : r3.2.2 = 0 := of_decide_eq_true hy
      have hn' : n ≤ 6000 := by
        by_cases hz : j = 0
        · exact hbig (by rw [← hj0 hz]; exact h0)
        · exact hj1 (by omega)
      rw [en, thN_go h0] at he
      refine h1 h36 sC fun D cs4 sD => ⟨_, _, _, rfl, fun bb E hE => ?_⟩
      have hl : l.n = acc.length := (sD.rd (k := 2) FlF (by decide) rfl).len
      refine sD.app1 (k := 2) (x := (one r3).1) tyFn FlF (by decide) hE rfl (by omega) fun ap F hap sF => ⟨n - (j + 1), by omega, j + 1, cs4, (one r3).2, acc ++ [(one r3).1], wi (by omega), hjn, rfl, by simp [hacc], k1 _ h36, (fun h => by omega), fun _ => hn', sF, he⟩
    · have h0 : r3.2.2 ≠ 0 := of_decide_eq_false hy
      rw [thN_err h0] at he
      rw [← he] at kk
      exact kk C cs3 l sC
  · have hjn : n = j := by have := dge hge; omega
    rw [hjn, Nat.sub_self] at he
    have he' : (acc, r3) = thN one n r2 [] := by rw [hjn]; exact he
    rw [← he'] at kk
    exact kk C cs3 l sC
theorem thObj_ok {one : Rr → ObjD × Rr} {onev : Value} (k1 : K6 one) (h1 : OneD H0 b bR p onev one flM 174 2 ObjD.marks (fun x s => .agg #[.string (str x.name), .string (str x.kinds), .slice s.a s.n s.c])) (h : Sym H0 no H (rd2 b bR p cs r R)) (h6 : r.2.2 ≠ 6)
    (kk : ∀ H' cs' s hs ps, Rel HO.of ObjD.marks hs (thR one r).1 ps → Sym H0 no H' (rd2 b bR p cs' (thR one r).2 (arr flHO 128 3 s hs :: rdsI flM 2 ps :: R)) → K (.slice s.a s.n s.c) H') : CallF Try.prog 78 #[.pointer (some ⟨b, 0, none⟩), onev] H K Z := by
  refine V78_ok ?_
  unfold V78
  refine ⟨_, ldR h, vnum h fun A cs1 sA => ⟨_, rfl, ?_⟩⟩
  rw [th_alt] at kk
  have hn6 := k6_num r h6
  have hnle := num_le r
  generalize numM r = x at *
  obtain ⟨n, r1⟩ := x
  simp only at kk hn6 sA hnle ⊢
  refine ⟨fun B => ∃ cs2, Sym H0 no B (rd2 b bR p cs2 (if 6000 < n then failM r1 4 else r1) R), ?_, fun hb => ?_, fun hb => ?_⟩
  rotate_left
  · have hb' : 6000 < n := by have := of_decide_eq_true hb; omega
    rw [if_pos hb']
    exact ⟨_, ldR sA, vfail sA fun B cs2 sB => ⟨rfl, cs2, sB⟩⟩
  · have hb' : ¬ 6000 < n := by have := of_decide_eq_false hb; omega
    rw [if_neg hb']
    exact ⟨cs1, sA⟩
  rintro B ⟨cs2, sB⟩ scr
  have hr6 : (if 6000 < n then failM r1 4 else r1).2.2 ≠ 6 := by split; exact C25.fail6 hn6 (by decide); exact hn6
  have hbig : (if 6000 < n then failM r1 4 else r1).2.2 = 0 → n ≤ 6000 := by
    intro h0
    split at h0
    · exact absurd h0 (fail_ne _ (by decide))
    · omega
  generalize (if 6000 < n then failM r1 4 else r1) = r2 at *
  refine ⟨fun l i C m => ∃ (j : Nat) (cs3 : List Value) (r3 : Rr) (acc : List ObjD) (hs : List HO) (ps : List (Sl × List Mk)), i = (j : Int) ∧ j ≤ n ∧ m = n - j ∧ acc.length = j ∧ r3.2.2 ≠ 6 ∧ (j = 0 → r3 = r2) ∧ (0 < j → n ≤ 6000) ∧ Rel HO.of ObjD.marks hs acc ps ∧ Sym H0 no C (rd2 b bR p cs3 r3 (arr flHO 128 3 l hs :: rdsI flM 2 ps :: R)) ∧ thN one (n - j) r3 acc = thN one n r2 [],
    ⟨_, 0, cs2, r2, [], [], [], rfl, Nat.zero_le _, rfl, rfl, hr6, fun _ => rfl, (fun h => by omega), ⟨rfl, by simp⟩, pull3 ((pull3 (sB.nilrds flM 2)).nilrow flHO 128 3), rfl⟩, ?_⟩
  rintro l i C m ⟨j, cs3, r3, acc, hs, ps, rfl, hj, rfl, hacc, h36, hj0, hj1, hrel, sC, he⟩ scr1
  refine ⟨fun hlt => ?_, fun hge => ?_⟩
  · have hjn : j < n := by have := dlt hlt; omega
    have en : n - j = (n - (j + 1)) + 1 := by omega
    refine good_ok sC h36 ⟨_, rfl, fun hy => ?_, fun hy => ?_⟩
    · have h0 : r3.2.2 = 0 := of_decide_eq_true hy
      have hn' : n ≤ 6000 := by
        by_cases hz : j = 0
        · exact hbig (by rw [← hj0 hz]; exact h0)
        · exact hj1 (by omega)
      rw [en, thN_go h0] at he
      refine h1 h36 sC fun D cs4 si sD => ⟨_, _, si, rfl, fun bb E hE => ?_⟩
      have hl : l.n = hs.length := (sD.rd (k := 3) FlHO (by decide) rfl).len
      have hhs := hrel.1
      refine sD.app1 (k := 3) (x := HO.of (one r3).1 si) tyObj FlHO (by decide) hE rfl (by omega) fun ap F hap sF => ?_
      replace sF : Sym H0 no F (rd2 b bR p cs4 (one r3).2 (arr flM 174 2 si (ObjD.marks (one r3).1) :: arr flHO 128 3 ap (hs ++ [HO.of (one r3).1 si]) :: rdsI flM 2 ps :: R)) := sF
      have sF2 : Sym H0 no F (arr flM 174 2 si (ObjD.marks (one r3).1) :: rdsI flM 2 ps :: rd2 b bR p cs4 (one r3).2 (arr flHO 128 3 ap (hs ++ [HO.of (one r3).1 si]) :: R)) := by
        exact sF.perm perm5
      have sF3 := sF2.inrds FlM (by decide)
      have sF4 : Sym H0 no F (rd2 b bR p cs4 (one r3).2 (arr flHO 128 3 ap (hs ++ [HO.of (one r3).1 si]) :: rdsI flM 2 ((si, ObjD.marks (one r3).1) :: ps) :: R)) := by
        exact sF3.perm perm4
      exact ⟨n - (j + 1), by omega, j + 1, cs4, (one r3).2, acc ++ [(one r3).1], _, _, wi (by omega), hjn, rfl, by simp [hacc], k1 _ h36, (fun h => by omega), fun _ => hn', hrel.snoc _ si, sF4, he⟩
    · have h0 : r3.2.2 ≠ 0 := of_decide_eq_false hy
      rw [thN_err h0] at he
      rw [← he] at kk
      exact kk C cs3 l hs ps hrel sC
  · have hjn : n = j := by have := dge hge; omega
    rw [hjn, Nat.sub_self] at he
    have he' : (acc, r3) = thN one n r2 [] := by rw [hjn]; exact he
    rw [← he'] at kk
    exact kk C cs3 l hs ps hrel sC
theorem thCon_ok {one : Rr → ConD × Rr} {onev : Value} (k1 : K6 one) (h1 : OneD H0 b bR p onev one flL 9 1 ConD.args (fun x s => .agg #[.int .i64 x.op, .string (str x.a), .string (str x.b), .int .i64 x.k, .string (str x.tag), .slice s.a s.n s.c])) (h : Sym H0 no H (rd2 b bR p cs r R)) (h6 : r.2.2 ≠ 6)
    (kk : ∀ H' cs' s hs ps, Rel HC.of ConD.args hs (thR one r).1 ps → Sym H0 no H' (rd2 b bR p cs' (thR one r).2 (arr flHC 136 6 s hs :: rdsI flL 1 ps :: R)) → K (.slice s.a s.n s.c) H') : CallF Try.prog 82 #[.pointer (some ⟨b, 0, none⟩), onev] H K Z := by
  refine V82_ok ?_
  unfold V82
  refine ⟨_, ldR h, vnum h fun A cs1 sA => ⟨_, rfl, ?_⟩⟩
  rw [th_alt] at kk
  have hn6 := k6_num r h6
  have hnle := num_le r
  generalize numM r = x at *
  obtain ⟨n, r1⟩ := x
  simp only at kk hn6 sA hnle ⊢
  refine ⟨fun B => ∃ cs2, Sym H0 no B (rd2 b bR p cs2 (if 6000 < n then failM r1 4 else r1) R), ?_, fun hb => ?_, fun hb => ?_⟩
  rotate_left
  · have hb' : 6000 < n := by have := of_decide_eq_true hb; omega
    rw [if_pos hb']
    exact ⟨_, ldR sA, vfail sA fun B cs2 sB => ⟨rfl, cs2, sB⟩⟩
  · have hb' : ¬ 6000 < n := by have := of_decide_eq_false hb; omega
    rw [if_neg hb']
    exact ⟨cs1, sA⟩
  rintro B ⟨cs2, sB⟩ scr
  have hr6 : (if 6000 < n then failM r1 4 else r1).2.2 ≠ 6 := by split; exact C25.fail6 hn6 (by decide); exact hn6
  have hbig : (if 6000 < n then failM r1 4 else r1).2.2 = 0 → n ≤ 6000 := by
    intro h0
    split at h0
    · exact absurd h0 (fail_ne _ (by decide))
    · omega
  generalize (if 6000 < n then failM r1 4 else r1) = r2 at *
  refine ⟨fun l i C m => ∃ (j : Nat) (cs3 : List Value) (r3 : Rr) (acc : List ConD) (hs : List HC) (ps : List (Sl × List L8)), i = (j : Int) ∧ j ≤ n ∧ m = n - j ∧ acc.length = j ∧ r3.2.2 ≠ 6 ∧ (j = 0 → r3 = r2) ∧ (0 < j → n ≤ 6000) ∧ Rel HC.of ConD.args hs acc ps ∧ Sym H0 no C (rd2 b bR p cs3 r3 (arr flHC 136 6 l hs :: rdsI flL 1 ps :: R)) ∧ thN one (n - j) r3 acc = thN one n r2 [],
    ⟨_, 0, cs2, r2, [], [], [], rfl, Nat.zero_le _, rfl, rfl, hr6, fun _ => rfl, (fun h => by omega), ⟨rfl, by simp⟩, pull3 ((pull3 (sB.nilrds flL 1)).nilrow flHC 136 6), rfl⟩, ?_⟩
  rintro l i C m ⟨j, cs3, r3, acc, hs, ps, rfl, hj, rfl, hacc, h36, hj0, hj1, hrel, sC, he⟩ scr1
  refine ⟨fun hlt => ?_, fun hge => ?_⟩
  · have hjn : j < n := by have := dlt hlt; omega
    have en : n - j = (n - (j + 1)) + 1 := by omega
    refine good_ok sC h36 ⟨_, rfl, fun hy => ?_, fun hy => ?_⟩
    · have h0 : r3.2.2 = 0 := of_decide_eq_true hy
      have hn' : n ≤ 6000 := by
        by_cases hz : j = 0
        · exact hbig (by rw [← hj0 hz]; exact h0)
        · exact hj1 (by omega)
      rw [en, thN_go h0] at he
      refine h1 h36 sC fun D cs4 si sD => ⟨_, _, _, _, _, si, rfl, fun bb E hE => ?_⟩
      have hl : l.n = hs.length := (sD.rd (k := 3) FlHC (by decide) rfl).len
      have hhs := hrel.1
      refine sD.app1 (k := 3) (x := HC.of (one r3).1 si) tyCon FlHC (by decide) hE rfl (by omega) fun ap F hap sF => ?_
      replace sF : Sym H0 no F (rd2 b bR p cs4 (one r3).2 (arr flL 9 1 si (ConD.args (one r3).1) :: arr flHC 136 6 ap (hs ++ [HC.of (one r3).1 si]) :: rdsI flL 1 ps :: R)) := sF
      have sF2 : Sym H0 no F (arr flL 9 1 si (ConD.args (one r3).1) :: rdsI flL 1 ps :: rd2 b bR p cs4 (one r3).2 (arr flHC 136 6 ap (hs ++ [HC.of (one r3).1 si]) :: R)) := by
        exact sF.perm perm5
      have sF3 := sF2.inrds FlL (by decide)
      have sF4 : Sym H0 no F (rd2 b bR p cs4 (one r3).2 (arr flHC 136 6 ap (hs ++ [HC.of (one r3).1 si]) :: rdsI flL 1 ((si, ConD.args (one r3).1) :: ps) :: R)) := by
        exact sF3.perm perm4
      exact ⟨n - (j + 1), by omega, j + 1, cs4, (one r3).2, acc ++ [(one r3).1], _, _, wi (by omega), hjn, rfl, by simp [hacc], k1 _ h36, (fun h => by omega), fun _ => hn', hrel.snoc _ si, sF4, he⟩
    · have h0 : r3.2.2 ≠ 0 := of_decide_eq_false hy
      rw [thN_err h0] at he
      rw [← he] at kk
      exact kk C cs3 l hs ps hrel sC
  · have hjn : n = j := by have := dge hge; omega
    rw [hjn, Nat.sub_self] at he
    have he' : (acc, r3) = thN one n r2 [] := by rw [hjn]; exact he
    rw [← he'] at kk
    exact kk C cs3 l hs ps hrel sC
theorem oneT (hp : C25.PlS H0 p ts) : OneF H0 b bR p (.func (.func 76) #[.pointer (some ⟨b, 0, none⟩)] #[]) (textR ts) (fun x => .string (str x)) := by
  intro A cs r R' K Z h6 h kk
  unfold callV
  simp only [okT, if_true]
  exact text_ok hp h h6 kk
theorem oneM (hp : C25.PlS H0 p ts) : OneF H0 b bR p (.func (.func 112) #[.pointer (some ⟨b, 0, none⟩)] #[]) (markR ts) (fun x => .agg #[.int .i64 x.1, .string (str x.2)]) := by
  intro A cs r R' K Z h6 h kk
  unfold callV
  simp only [okM, if_true]
  refine V112_ok ?_
  unfold V112
  intro bM B hB
  have sB := pull3 (h.newb (cs := [.int .i64 0, .string ⟨#[]⟩]) hB)
  refine ⟨_, ldR sB, vnum sB fun C cs1 sC => ⟨_, rfl, text_ok hp sC (C25.num6 h6) fun D cs2 sD => ⟨_, rfl, ?_⟩⟩⟩
  refine sD.stbs (k := 2) (i := 0) (vs := [.int .i64 ((numM r).1 : Int), .string (str (textR ts (numM r).2).1)]) rfl (by simp) (by intro v hv; exact FlM.one ((numM r).1, (textR ts (numM r).2).1) v hv) fun E sE => ?_
  replace sE : Sym H0 no E (rd2 b bR p cs2 (textR ts (numM r).2).2 (blk bM [.int .i64 ((numM r).1 : Int), .string (str (textR ts (numM r).2).1)] 174 :: R')) := sE
  refine ⟨_, _, ⟨sE.ld (k := 2) rfl 0, sE.ld (k := 2) rfl 1, trivial⟩, ?_⟩
  exact kk E cs2 (drop3 sE)
theorem oneF (hp : C25.PlS H0 p ts) : OneF H0 b bR p (.func (.func 81) #[.pointer (some ⟨b, 0, none⟩)] #[]) (fnR ts) (fun x => .agg #[.string (str x.name), .string (str x.kinds), .string (str x.ret)]) := by
  intro A cs r R' K Z h6 h kk
  unfold callV
  simp only [okF, if_true]
  refine V81_ok ?_
  unfold V81
  intro bM B hB
  have sB := pull3 (h.newb (cs := [.string ⟨#[]⟩, .string ⟨#[]⟩, .string ⟨#[]⟩]) hB)
  refine text_ok hp sB h6 fun C cs1 sC => ⟨_, rfl, fun bF D hD => ?_⟩
  have k1 := k6_text ts r h6
  generalize hx1 : textR ts r = x1 at sC k1
  have sD := pull3 (sC.newb (cs := [.string ⟨#[]⟩, .string ⟨#[]⟩, .string ⟨#[]⟩]) hD)
  refine sD.stbs (k := 2) (i := 0) (vs := [.string (str x1.1), .string ⟨#[]⟩, .string ⟨#[]⟩]) rfl (by simp) (by intro v hv; exact FlF.one ⟨x1.1, [], []⟩ v hv) fun E sE => ?_
  replace sE : Sym H0 no E (rd2 b bR p cs1 x1.2 (blk bF [.string (str x1.1), .string ⟨#[]⟩, .string ⟨#[]⟩] 132 :: blk bM [.string ⟨#[]⟩, .string ⟨#[]⟩, .string ⟨#[]⟩] 132 :: R')) := sE
  refine text_ok hp sE k1 fun F cs2 sF => ⟨_, rfl, ?_⟩
  have k2 := k6_text ts x1.2 k1
  generalize hx2 : textR ts x1.2 = x2 at sF k2
  refine sF.stb (k := 2) (i := 1) rfl (by simp) rfl fun G sG => ?_
  replace sG : Sym H0 no G (rd2 b bR p cs2 x2.2 (blk bF [.string (str x1.1), .string (str x2.1), .string ⟨#[]⟩] 132 :: blk bM [.string ⟨#[]⟩, .string ⟨#[]⟩, .string ⟨#[]⟩] 132 :: R')) := sG
  refine text_ok hp sG k2 fun M cs3 sM => ⟨_, rfl, ?_⟩
  generalize hx3 : textR ts x2.2 = x3 at sM
  refine sM.stb (k := 2) (i := 2) rfl (by simp) rfl fun N sN => ?_
  replace sN : Sym H0 no N (rd2 b bR p cs3 x3.2 (blk bF [.string (str x1.1), .string (str x2.1), .string (str x3.1)] 132 :: blk bM [.string ⟨#[]⟩, .string ⟨#[]⟩, .string ⟨#[]⟩] 132 :: R')) := sN
  refine ⟨_, _, _, ⟨sN.ld (k := 2) rfl 0, sN.ld (k := 2) rfl 1, sN.ld (k := 2) rfl 2, trivial⟩, ?_⟩
  refine sN.stbs (k := 3) (i := 0) (vs := [.string (str x1.1), .string (str x2.1), .string (str x3.1)]) rfl (by simp) (by intro v hv; exact FlF.one ⟨x1.1, x2.1, x3.1⟩ v hv) fun P sP => ?_
  replace sP : Sym H0 no P (rd2 b bR p cs3 x3.2 (blk bF [.string (str x1.1), .string (str x2.1), .string (str x3.1)] 132 :: blk bM [.string (str x1.1), .string (str x2.1), .string (str x3.1)] 132 :: R')) := sP
  refine ⟨_, _, _, ⟨sP.ld (k := 3) rfl 0, sP.ld (k := 3) rfl 1, sP.ld (k := 3) rfl 2, trivial⟩, ?_⟩
  have e : fnR ts r = (⟨x1.1, x2.1, x3.1⟩, x3.2) := by unfold fnR; simp only [hx1, hx2, hx3]
  rw [e] at kk
  exact kk P cs3 (drop3 (drop3 sP))
theorem oneO (hp : C25.PlS H0 p ts) : OneD H0 b bR p (.func (.func 79) #[.pointer (some ⟨b, 0, none⟩)] #[]) (objR ts) flM 174 2 ObjD.marks (fun x s => .agg #[.string (str x.name), .string (str x.kinds), .slice s.a s.n s.c]) := by
  intro A cs r R' K Z h6 h kk
  unfold callV
  simp only [okO, if_true]
  refine V79_ok ?_
  unfold V79
  intro bM B hB
  have sB := pull3 (h.newb (cs := [.string ⟨#[]⟩, .string ⟨#[]⟩, .slice none 0 0]) hB)
  refine text_ok hp sB h6 fun C cs1 sC => ⟨_, rfl, fun bF D hD => ?_⟩
  have k1 := k6_text ts r h6
  generalize hx1 : textR ts r = x1 at sC k1
  have sD := pull3 (sC.newb (cs := [.string ⟨#[]⟩, .string ⟨#[]⟩, .slice none 0 0]) hD)
  refine sD.stbs (k := 2) (i := 0) (vs := [.string (str x1.1), .string ⟨#[]⟩, .slice none 0 0]) rfl (by simp) (by intro v hv; exact FlHO.one (x1.1, [], ⟨none, 0, 0⟩) v hv) fun E sE => ?_
  replace sE : Sym H0 no E (rd2 b bR p cs1 x1.2 (blk bF [.string (str x1.1), .string ⟨#[]⟩, .slice none 0 0] 128 :: blk bM [.string ⟨#[]⟩, .string ⟨#[]⟩, .slice none 0 0] 128 :: R')) := sE
  refine text_ok hp sE k1 fun F cs2 sF => ⟨_, rfl, ?_⟩
  have k2 := k6_text ts x1.2 k1
  generalize hx2 : textR ts x1.2 = x2 at sF k2
  refine sF.stb (k := 2) (i := 1) rfl (by simp) rfl fun G sG => ?_
  replace sG : Sym H0 no G (rd2 b bR p cs2 x2.2 (blk bF [.string (str x1.1), .string (str x2.1), .slice none 0 0] 128 :: blk bM [.string ⟨#[]⟩, .string ⟨#[]⟩, .slice none 0 0] 128 :: R')) := sG
  refine thMark_ok (k6_mark ts) (oneM hp) sG k2 fun M cs3 s3 sM => ⟨_, rfl, ?_⟩
  generalize hx3 : thR (markR ts) x2.2 = x3 at sM
  refine sM.stb (k := 3) (i := 2) rfl (by simp) rfl fun N sN => ?_
  replace sN : Sym H0 no N (rd2 b bR p cs3 x3.2 (arr flM 174 2 s3 x3.1 :: blk bF [.string (str x1.1), .string (str x2.1), .slice s3.a s3.n s3.c] 128 :: blk bM [.string ⟨#[]⟩, .string ⟨#[]⟩, .slice none 0 0] 128 :: R')) := sN
  refine ⟨_, _, s3, ⟨sN.ld (k := 3) rfl 0, sN.ld (k := 3) rfl 1, sN.ld (k := 3) rfl 2, trivial⟩, ?_⟩
  refine sN.stbs (k := 4) (i := 0) (vs := [.string (str x1.1), .string (str x2.1), .slice s3.a s3.n s3.c]) rfl (by simp) (by intro v hv; exact FlHO.one (x1.1, x2.1, s3) v hv) fun P sP => ?_
  replace sP : Sym H0 no P (rd2 b bR p cs3 x3.2 (arr flM 174 2 s3 x3.1 :: blk bF [.string (str x1.1), .string (str x2.1), .slice s3.a s3.n s3.c] 128 :: blk bM [.string (str x1.1), .string (str x2.1), .slice s3.a s3.n s3.c] 128 :: R')) := sP
  refine ⟨_, _, s3, ⟨sP.ld (k := 4) rfl 0, sP.ld (k := 4) rfl 1, sP.ld (k := 4) rfl 2, trivial⟩, ?_⟩
  have e : objR ts r = (⟨x1.1, x2.1, x3.1⟩, x3.2) := by unfold objR; simp only [hx1, hx2, hx3]
  rw [e] at kk
  exact kk P cs3 s3 (drop4 (drop4 sP))
theorem oneC (hp : C25.PlS H0 p ts) : OneD H0 b bR p (.func (.func 83) #[.pointer (some ⟨b, 0, none⟩)] #[]) (conR ts) flL 9 1 ConD.args (fun x s => .agg #[.int .i64 x.op, .string (str x.a), .string (str x.b), .int .i64 x.k, .string (str x.tag), .slice s.a s.n s.c]) := by
  intro A cs r R' K Z h6 h kk
  unfold callV
  simp only [okC, if_true]
  refine V83_ok ?_
  unfold V83
  intro bM B hB
  have sB := pull3 (h.newb (cs := [.int .i64 0, .string ⟨#[]⟩, .string ⟨#[]⟩, .int .i64 0, .string ⟨#[]⟩, .slice none 0 0]) hB)
  refine ⟨_, ldR sB, vnum sB fun C cs1 sC => ⟨_, rfl, fun bF D hD => ?_⟩⟩
  have k1 := k6_num r h6
  generalize hx1 : numM r = x1 at sC k1
  have sD := pull3 (sC.newb (cs := [.int .i64 0, .string ⟨#[]⟩, .string ⟨#[]⟩, .int .i64 0, .string ⟨#[]⟩, .slice none 0 0]) hD)
  generalize hbm : blk bM [.int .i64 0, .string ⟨#[]⟩, .string ⟨#[]⟩, .int .i64 0, .string ⟨#[]⟩, .slice none 0 0] 136 = itM at sD
  refine sD.stbs (k := 2) (i := 0) (vs := [.int .i64 (x1.1 : Int), .string ⟨#[]⟩, .string ⟨#[]⟩, .int .i64 0, .string ⟨#[]⟩, .slice none 0 0]) rfl (by simp) (by intro v hv; exact FlHC.one (x1.1, [], [], 0, [], ⟨none, 0, 0⟩) v hv) fun E sE => ?_
  replace sE : Sym H0 no E (rd2 b bR p cs1 x1.2 (blk bF [.int .i64 (x1.1 : Int), .string ⟨#[]⟩, .string ⟨#[]⟩, .int .i64 0, .string ⟨#[]⟩, .slice none 0 0] 136 :: itM :: R')) := sE
  refine text_ok hp sE k1 fun F cs2 sF => ⟨_, rfl, ?_⟩
  have k2 := k6_text ts x1.2 k1
  generalize hx2 : textR ts x1.2 = x2 at sF k2
  refine sF.stb (k := 2) (i := 1) rfl (by simp) rfl fun G sG => ?_
  replace sG : Sym H0 no G (rd2 b bR p cs2 x2.2 (blk bF [.int .i64 (x1.1 : Int), .string (str x2.1), .string ⟨#[]⟩, .int .i64 0, .string ⟨#[]⟩, .slice none 0 0] 136 :: itM :: R')) := sG
  refine text_ok hp sG k2 fun M cs3 sM => ⟨_, rfl, ?_⟩
  have k3 := k6_text ts x2.2 k2
  generalize hx3 : textR ts x2.2 = x3 at sM k3
  refine sM.stb (k := 2) (i := 2) rfl (by simp) rfl fun N sN => ?_
  replace sN : Sym H0 no N (rd2 b bR p cs3 x3.2 (blk bF [.int .i64 (x1.1 : Int), .string (str x2.1), .string (str x3.1), .int .i64 0, .string ⟨#[]⟩, .slice none 0 0] 136 :: itM :: R')) := sN
  refine ⟨_, ldR sN, vnum sN fun P cs4 sP => ⟨_, rfl, ?_⟩⟩
  have k4 := k6_num x3.2 k3
  generalize hx4 : numM x3.2 = x4 at sP k4
  refine sP.stb (k := 2) (i := 3) rfl (by simp) rfl fun Q sQ => ?_
  replace sQ : Sym H0 no Q (rd2 b bR p cs4 x4.2 (blk bF [.int .i64 (x1.1 : Int), .string (str x2.1), .string (str x3.1), .int .i64 (x4.1 : Int), .string ⟨#[]⟩, .slice none 0 0] 136 :: itM :: R')) := sQ
  refine text_ok hp sQ k4 fun S cs5 sS => ⟨_, rfl, ?_⟩
  have k5 := k6_text ts x4.2 k4
  generalize hx5 : textR ts x4.2 = x5 at sS k5
  refine sS.stb (k := 2) (i := 4) rfl (by simp) rfl fun T sT => ?_
  replace sT : Sym H0 no T (rd2 b bR p cs5 x5.2 (blk bF [.int .i64 (x1.1 : Int), .string (str x2.1), .string (str x3.1), .int .i64 (x4.1 : Int), .string (str x5.1), .slice none 0 0] 136 :: itM :: R')) := sT
  refine thStr_ok (k6_text ts) (oneT hp) sT k5 fun U cs6 s6 sU => ⟨_, rfl, ?_⟩
  generalize hx6 : thR (textR ts) x5.2 = x6 at sU
  refine sU.stb (k := 3) (i := 5) rfl (by simp) rfl fun W sW => ?_
  replace sW : Sym H0 no W (rd2 b bR p cs6 x6.2 (arr flL 9 1 s6 x6.1 :: blk bF [.int .i64 (x1.1 : Int), .string (str x2.1), .string (str x3.1), .int .i64 (x4.1 : Int), .string (str x5.1), .slice s6.a s6.n s6.c] 136 :: itM :: R')) := sW
  subst hbm
  refine ⟨_, _, _, _, _, s6, ⟨sW.ld (k := 3) rfl 0, sW.ld (k := 3) rfl 1, sW.ld (k := 3) rfl 2, sW.ld (k := 3) rfl 3, sW.ld (k := 3) rfl 4, sW.ld (k := 3) rfl 5, trivial⟩, ?_⟩
  refine sW.stbs (k := 4) (i := 0) (vs := [.int .i64 (x1.1 : Int), .string (str x2.1), .string (str x3.1), .int .i64 (x4.1 : Int), .string (str x5.1), .slice s6.a s6.n s6.c]) rfl (by simp) (by intro v hv; exact FlHC.one (x1.1, x2.1, x3.1, x4.1, x5.1, s6) v hv) fun X sX => ?_
  replace sX : Sym H0 no X (rd2 b bR p cs6 x6.2 (arr flL 9 1 s6 x6.1 :: blk bF [.int .i64 (x1.1 : Int), .string (str x2.1), .string (str x3.1), .int .i64 (x4.1 : Int), .string (str x5.1), .slice s6.a s6.n s6.c] 136 :: blk bM [.int .i64 (x1.1 : Int), .string (str x2.1), .string (str x3.1), .int .i64 (x4.1 : Int), .string (str x5.1), .slice s6.a s6.n s6.c] 136 :: R')) := sX
  refine ⟨_, _, _, _, _, s6, ⟨sX.ld (k := 4) rfl 0, sX.ld (k := 4) rfl 1, sX.ld (k := 4) rfl 2, sX.ld (k := 4) rfl 3, sX.ld (k := 4) rfl 4, sX.ld (k := 4) rfl 5, trivial⟩, ?_⟩
  have e : conR ts r = (⟨x1.1, x2.1, x3.1, x4.1, x5.1, x6.1⟩, x6.2) := by unfold conR; simp only [hx1, hx2, hx3, hx4, hx5, hx6]
  rw [e] at kk
  exact kk X cs6 s6 (drop4 (drop4 sX))
end
end Go.Proofs.Ytigbdoicgdmliaa.C26R
end

section
/- record's writer: what it makes of a summary. -/
set_option linter.unusedVariables false
set_option linter.unusedSimpArgs false
-- wFail: 146
-- wNumber: 126
-- wText: 120
-- vNumber: 64
-- pNumber: 30
-- liStr: 121
-- liObj: 122
-- liMark: 124
-- liFn: 127
-- liCon: 129
-- summary: 95
-- summary1: 123
-- summary11: 125
-- summary2: 128
-- summary3: 130
-- tWriter: 152
-- tPWriter: 150
-- tStr: 9
-- tStrs: 47
-- tObj: 128
-- tFn: 132
-- tCon: 136
-- tMark: 174
-- tSum: 90
namespace Go.Proofs.Ytigbdoicgdmliaa.C26W
open Go Go.V Go.Proofs Go.Proofs.Ytigbdoicgdmliaa.N26 Go.Proofs.Ytigbdoicgdmliaa.P02 Go.Proofs.Ytigbdoicgdmliaa.P26 Go.Proofs.Ytigbdoicgdmliaa.Bld
attribute [local irreducible] Cvt ExtF CallF hrun App MkS callV
/-- the writer's block -/
structure Wst (H : Hp) (b : Nat) (cs : List Value) (p : Option Addr) (sv : Value) (w : Ws) : Prop where
  wr : C02.WrS H b 0 152 cs (w.1, 0)
  len : cs.length = 6
  c3 : cs[3]? = some (.pointer p)
  c4 : cs[4]? = some sv
  c5 : cs[5]? = some (.int .i64 w.2)
def wI (b : Nat) (cs : List Value) (p : Option Addr) (sv : Value) (w : Ws) : It where
  ok H := Wst H b cs p sv w
  fp i := i = b ∨ bOwn cs 0 i
  lt h hi := by
    rcases hi with rfl | hi
    · exact h.wr.bld.blk.lt
    · obtain ⟨s, hs, hr, _⟩ := h.wr.bld.buf
      exact hr.lt ((own_iff hs _).1 hi)
  st := by
    intro H H' h hs
    obtain ⟨s, h1, hr, hn⟩ := h.wr.bld.buf
    refine ⟨⟨⟨(hs b (.inl rfl)).trans h.wr.bld.blk, h.wr.bld.ptr, ⟨s, h1, ⟨hr.1, ?_⟩, hn⟩, h.wr.bld.lies⟩, h.wr.err⟩, h.len, h.c3, h.c4, h.c5⟩
    rcases hr.2 with h' | ⟨g, c, fr, ha, hg, h'⟩
    · exact .inl h'
    · exact .inr ⟨g, c, fr, ha, (hs g (.inr ((own_iff h1 g).2 ⟨0, ha⟩))).trans hg, h'⟩
/-- the texts that were told: where they are kept, if at all -/
def seenI (m : Option Nat) (s : Sl) (l : List L8) : It where
  ok H := match m with
    | none => True
    | some b => Blk H b [.slice s.a s.n s.c] 47 ∧ RowN flL 9 1 H s l ∧ ¬ own s b
  fp i := match m with
    | none => False
    | some b => i = b ∨ own s i
  lt := by
    intro H i h hi
    cases m with
    | none => exact hi.elim
    | some b =>
      rcases hi with rfl | hi
      · exact h.1.lt
      · exact h.2.1.row.lt hi
  st := by
    intro H H' h hs
    cases m with
    | none => trivial
    | some b => exact ⟨(hs b (.inl rfl)).trans h.1, (arr flL 9 1 s l).st h.2.1 fun i hi => hs i (.inr hi), h.2.2⟩
/-- where the writer works -/
structure Env (H0 : Hp) (p : Option Addr) (look : L8 → Option Nat) (sv : Value) (m : Option Nat) : Prop where
  num : ∀ {A : Hp} {K : Value → Hp → Prop} {Z : List PanicEntry → Hp → Prop} {t : L8}, Fr no H0 A → K (.tuple #[.int .i64 (((look t).getD 0 : Nat) : Int), .bool (look t).isSome]) A → CallF Try.prog 30 #[.pointer p, .string (str t)] A K Z
  seen : ∀ {A : Hp} {K : Value → Hp → Prop} {Z : List PanicEntry → Hp → Prop} {t : L8} {s : Sl} {l : List L8} {L : List It}, Sym H0 no A (seenI m s l :: L) → l.length ≤ 1000000000 → (∀ s' A', Sym H0 no A' (seenI m s' (l ++ [t]) :: L) → K (.tuple #[]) A') → callV Try.prog sv [.string (str t)] A K Z
  small : ∀ t i, look t = some i → i ≤ 268435456
section
variable {H0 H : Hp} {R : List It} {K : Value → Hp → Prop} {Z : List PanicEntry → Hp → Prop} {b : Nat} {cs : List Value} {p : Option Addr} {look : L8 → Option Nat} {sv : Value} {m : Option Nat} {w : Ws} {s : Sl} {l : List L8}
theorem ldw (h : Sym H0 no H (wI b cs p sv w :: R)) {i : Nat} {v : Value} (hv : cs[i]? = some v) : hcell H (Addr.add ⟨b, 0, none⟩ i) = some v := by
  have h1 : Wst H b cs p sv w := h.get (k := 0) rfl
  rw [add_mk, Nat.zero_add, h1.wr.bld.blk.ld, hv]
theorem fail_ok {e : Int} (h : Sym H0 no H (wI b cs p sv w :: R)) (kk : ∀ H' cs', Sym H0 no H' (wI b cs' p sv (failW w e) :: R) → K (.tuple #[]) H') : CallF Try.prog 146 #[.pointer (some ⟨b, 0, none⟩), .int .i64 e] H K Z := by
  refine V146_ok ?_
  unfold V146
  have hw : Wst H b cs p sv w := h.get (k := 0) rfl
  refine ⟨_, ldw h hw.c5, fun h0 => ?_, fun h0 => ?_⟩
  · have h0' : w.2 = 0 := by simpa using h0
    rw [add_mk, Nat.zero_add]
    refine st_blk hw.wr.bld.blk (i := 5) (by rw [hw.len]; decide) rfl ?_
    intro H' hb' hf hs
    obtain ⟨hb, ⟨q, hp1, hp2⟩, ⟨s, hs1, hr, hn⟩, hl⟩ := hw.wr.bld
    have hs1' : (cs.set 5 (.int .i64 e))[0 + 1]? = some (.slice s.a s.n s.c) := by rw [List.getElem?_set_ne (by omega)]; exact hs1
    refine kk H' (cs.set 5 (.int .i64 e)) (h.setk (k := 0) rfl (hf.mono fun i _ hi => .inl hi) ⟨⟨⟨hb', ⟨q, by rw [List.getElem?_set_ne (by omega)]; exact hp1, hp2⟩, ⟨s, hs1', ?_, hn⟩, by simpa using hl⟩, ?_⟩, ?_, ?_, ?_, ?_⟩ ?_)
    · unfold failW; rw [if_pos h0']; exact hr.keep hf (fun i hi e => hn (e ▸ hi))
    · rw [List.getElem?_set_ne (by omega)]; exact hw.wr.err
    · rw [List.length_set]; exact hw.len
    · rw [List.getElem?_set_ne (by omega)]; exact hw.c3
    · rw [List.getElem?_set_ne (by omega)]; exact hw.c4
    · unfold failW; rw [if_pos h0', List.getElem?_set_self (by rw [hw.len]; decide)]
    · rintro i (hi | hi)
      · exact .inl (.inl hi)
      · rw [own_iff hs1'] at hi
        exact .inl (.inr ((own_iff hs1 i).2 hi))
  · have h0' : ¬ w.2 = 0 := by simpa using h0
    have : failW w e = w := by unfold failW; rw [if_neg h0']
    have hk := kk H cs
    rw [this] at hk
    exact hk h
theorem num_ok {n : Int} (h : Sym H0 no H (wI b cs p sv w :: R)) (hl : w.1.length ≤ 1000000000000) (kk : ∀ H' cs', Sym H0 no H' (wI b cs' p sv (numW w n) :: R) → K (.tuple #[]) H') : CallF Try.prog 126 #[.pointer (some ⟨b, 0, none⟩), .int .i64 n] H K Z := by
  refine V126_ok ?_
  unfold V126
  have bad : (n < 0 ∨ 268435456 < n) → CallF Try.prog 146 #[.pointer (some ⟨b, 0, none⟩), .int .i64 2] H (fun r H1 => r = .tuple #[] ∧ K (.tuple #[]) H1) Z := by
    intro hb
    refine fail_ok h fun H' cs' h' => ⟨rfl, kk H' cs' ?_⟩
    unfold numW
    rw [if_pos hb]
    exact h'
  refine ⟨fun h1 => bad (.inl (of_decide_eq_true h1)), fun h1 => ⟨fun h2 => bad (.inr (of_decide_eq_true h2)), fun h2 => ?_⟩⟩
  have h1' := of_decide_eq_false h1
  have h2' := of_decide_eq_false h2
  have hw : Wst H b cs p sv w := h.get (k := 0) rfl
  refine C02.number hw.wr (by show w.1.length + 5 ≤ _; omega) fun H' cs' ht => ⟨rfl, kk H' cs' ?_⟩
  have e : numW w n = (w.1 ++ numB n.toNat, w.2) := by unfold numW; rw [if_neg (by omega)]
  have e2 : putN (w.1, 0) n = (w.1 ++ numB n.toNat, 0) := by unfold putN; rw [if_neg (by simp), if_neg (by omega)]
  rw [e2] at ht
  rw [e]
  refine h.setk (k := 0) rfl ht.fr ⟨ht.st, ht.len.trans hw.len, ?_, ?_, ?_⟩ ?_
  · rw [ht.rest 3 (by decide) (by decide) (by decide)]; exact hw.c3
  · rw [ht.rest 4 (by decide) (by decide) (by decide)]; exact hw.c4
  · rw [ht.rest 5 (by decide) (by decide) (by decide)]; exact hw.c5
  · rintro i (hi | hi)
    · exact .inl (.inl hi)
    · rcases ht.own i hi with h' | h'
      · exact .inl (.inr h')
      · exact .inr h'
theorem text_ok {t : L8} (he : Env H0 p look sv m) (h : Sym H0 no H (wI b cs p sv w :: seenI m s l :: R)) (hl : w.1.length ≤ 1000000000000) (hs : l.length ≤ 1000000000)
    (kk : ∀ H' cs' s', Sym H0 no H' (wI b cs' p sv (txtW look w t) :: seenI m s' (l ++ [t]) :: R) → K (.tuple #[]) H') : CallF Try.prog 120 #[.pointer (some ⟨b, 0, none⟩), .string (str t)] H K Z := by
  refine V120_ok ?_
  unfold V120
  have hw : Wst H b cs p sv w := h.get (k := 0) rfl
  refine ⟨_, ldw h hw.c4, he.seen h.swap hs fun s' A sA => ⟨rfl, ?_⟩⟩
  have sA' := sA.swap
  have hw' : Wst A b cs p sv w := sA'.get (k := 0) rfl
  refine ⟨_, ldw sA' hw'.c3, he.num sA'.fr ⟨_, _, rfl, fun hn => ?_, fun hn => ?_⟩⟩
  · have hn' : look t = none := by
      cases h1 : look t with
      | none => rfl
      | some i => rw [h1] at hn; cases hn
    have e : txtW look w t = numW (failW w 7) 0 := by unfold txtW; rw [hn']
    rw [e] at kk
    rw [hn']
    have hfl : (failW w 7).1 = w.1 := by unfold failW; split <;> rfl
    refine fail_ok sA' fun B cs1 sB => ⟨rfl, num_ok sB (by rw [hfl]; exact hl) fun C cs2 sC => ⟨rfl, kk C cs2 s' sC⟩⟩
  · obtain ⟨i, hi⟩ : ∃ i, look t = some i := by
      cases h1 : look t with
      | none => rw [h1] at hn; cases hn
      | some i => exact ⟨i, rfl⟩
    have e : txtW look w t = numW w (i : Int) := by unfold txtW; rw [hi]
    rw [e] at kk
    rw [hi]
    exact num_ok sA' hl fun C cs2 sC => ⟨rfl, kk C cs2 s' sC⟩
theorem okText : fnOk Try.prog 120 = true := by kernel_rfl
/-- one thing of a list -/
def One (H0 : Hp) (b : Nat) (p : Option Addr) (look : L8 → Option Nat) (sv : Value) (m : Option Nat) (R : List It) (one : Value) {χ : Type} (arg : Hp → χ → Value → Prop) (ev : χ → List Ev) : Prop :=
  ∀ {A : Hp} {cs : List Value} {w : Ws} {s : Sl} {l : List L8} {x : χ} {v : Value} {K : Value → Hp → Prop} {Z : List PanicEntry → Hp → Prop}, arg A x v → Sym H0 no A (wI b cs p sv w :: seenI m s l :: R) →
    w.1.length + 5 * (ev x).length ≤ 1000000000000 → l.length + (ev x).length ≤ 1000000000 →
    (∀ A' cs' s', Sym H0 no A' (wI b cs' p sv (foldW look w (ev x)) :: seenI m s' (l ++ txts (ev x)) :: R) → K (.tuple #[]) A') → callV Try.prog one [v] A K Z
theorem rot2 {a c : It} {R : List It} {A : Hp} {x : It} (h : Sym H0 no A (x :: a :: c :: R)) : Sym H0 no A (a :: c :: x :: R) := h.perm ((List.Perm.swap a x (c :: R)).trans ((List.Perm.swap c x R).cons a))
theorem flat_take {χ : Type} (f : χ → List Ev) {xs : List χ} {j : Nat} {x : χ} (hx : xs[j]? = some x) : (xs.take (j + 1)).flatMap f = (xs.take j).flatMap f ++ f x := by
  obtain ⟨h1, h2⟩ := List.getElem?_eq_some_iff.1 hx
  rw [List.take_succ_eq_append_getElem h1, h2, List.flatMap_append]
  simp
theorem flat_le {χ : Type} (f : χ → List Ev) (xs : List χ) (j : Nat) : ((xs.take j).flatMap f).length ≤ (xs.flatMap f).length := by
  have := congrArg (fun l => (l.flatMap f).length) (List.take_append_drop j xs)
  simp only [List.flatMap_append, List.length_append] at this
  omega
theorem flat_mem {χ : Type} (f : χ → List Ev) {xs : List χ} {j : Nat} {x : χ} (hx : xs[j]? = some x) : ((xs.take j).flatMap f).length + (f x).length ≤ (xs.flatMap f).length := by
  have h1 := flat_le f xs (j + 1)
  rw [flat_take f hx, List.length_append] at h1
  exact h1
theorem liStr_ok {sl : Sl} {xs : List L8} {one : Value} (hx : Rd flL 1 H0 sl xs) (h1 : One H0 b p look sv m R one (fun _ x v => v = .string (str x)) evT) (h : Sym H0 no H (wI b cs p sv w :: seenI m s l :: R))
    (hl : w.1.length + 5 * (evL evT xs).length ≤ 1000000000000) (hs : l.length + (evL evT xs).length ≤ 1000000000)
    (kk : ∀ H' cs' s', Sym H0 no H' (wI b cs' p sv (foldW look w (evL evT xs)) :: seenI m s' (l ++ txts (evL evT xs)) :: R) → K (.tuple #[]) H') : CallF Try.prog 121 #[.pointer (some ⟨b, 0, none⟩), .slice sl.a sl.n sl.c, one] H K Z := by
  refine V121_ok ?_
  unfold V121
  have hn := hx.len
  unfold evL at hl hs kk
  rw [List.length_cons] at hl hs
  refine num_ok h (by omega) fun A cs1 sA => ⟨rfl, ?_⟩
  rw [hn] at sA
  have hbig : xs.length ≤ 1000000000 := by
    have : ∀ ys : List L8, ys.length ≤ (ys.flatMap evT).length := by
      intro ys
      induction ys with
      | nil => exact Nat.le_refl _
      | cons y ys ih =>
        rw [List.flatMap_cons, List.length_append, List.length_cons]
        have : 1 ≤ (evT y).length := by simp [evT]
        omega
    have := this xs
    omega
  refine ⟨fun i B q => ∃ (j : Nat) (cs' : List Value) (s' : Sl), i = (j : Int) ∧ j ≤ xs.length ∧ q = xs.length - j ∧ Sym H0 no B (wI b cs' p sv (foldW look (numW w (xs.length : Int)) ((xs.take j).flatMap evT)) :: seenI m s' (l ++ txts ((xs.take j).flatMap evT)) :: R), ⟨_, 0, cs1, s, rfl, Nat.zero_le _, rfl, by simpa [txts] using sA⟩, ?_⟩
  rintro i B q ⟨j, cs2, s2, rfl, hj, rfl, sB⟩ scr
  have hlen1 := foldW_len look ((xs.take j).flatMap evT) (numW w (xs.length : Int))
  have hlen2 := numW_len w (xs.length : Int)
  have hlen3 := txts_len ((xs.take j).flatMap evT)
  refine ⟨fun hlt => ?_, fun hge => ?_⟩
  · have hjl : j < xs.length := by have := dlt hlt; omega
    have hxj : xs[j]? = some xs[j] := List.getElem?_eq_getElem hjl
    generalize xs[j] = x at hxj
    have hm := flat_mem evT hxj
    refine (hx.more sB.fr).ixn FlL hxj fun ad had => ⟨_, had, h1 rfl sB (by omega) (by rw [List.length_append]; omega) fun C cs3 s3 sC => ⟨rfl, xs.length - (j + 1), by omega, j + 1, cs3, s3, wi (by omega), hjl, rfl, ?_⟩⟩
    rw [flat_take evT hxj, foldW_app, txts_app, ← List.append_assoc]
    exact sC
  · have hjl : xs.length ≤ j := by have := dge hge; omega
    rw [List.take_of_length_le hjl] at sB
    exact kk B cs2 s2 sB
theorem liMark_ok {sl : Sl} {xs : List Mk} {one : Value} (hx : Rd flM 2 H0 sl xs) (h1 : One H0 b p look sv m R one (fun _ x v => v = .agg #[.int .i64 x.1, .string (str x.2)]) evM) (h : Sym H0 no H (wI b cs p sv w :: seenI m s l :: R))
    (hl : w.1.length + 5 * (evL evM xs).length ≤ 1000000000000) (hs : l.length + (evL evM xs).length ≤ 1000000000)
    (kk : ∀ H' cs' s', Sym H0 no H' (wI b cs' p sv (foldW look w (evL evM xs)) :: seenI m s' (l ++ txts (evL evM xs)) :: R) → K (.tuple #[]) H') : CallF Try.prog 124 #[.pointer (some ⟨b, 0, none⟩), .slice sl.a sl.n sl.c, one] H K Z := by
  refine V124_ok ?_
  unfold V124
  have hn := hx.len
  unfold evL at hl hs kk
  rw [List.length_cons] at hl hs
  refine num_ok h (by omega) fun A cs1 sA => ⟨rfl, ?_⟩
  rw [hn] at sA
  have hbig : xs.length ≤ 1000000000 := by
    have : ∀ ys : List Mk, ys.length ≤ (ys.flatMap evM).length := by
      intro ys
      induction ys with
      | nil => exact Nat.le_refl _
      | cons y ys ih =>
        rw [List.flatMap_cons, List.length_append, List.length_cons]
        have : 1 ≤ (evM y).length := by simp [evM]
        omega
    have := this xs
    omega
  refine ⟨fun i B q => ∃ (j : Nat) (cs' : List Value) (s' : Sl), i = (j : Int) ∧ j ≤ xs.length ∧ q = xs.length - j ∧ Sym H0 no B (wI b cs' p sv (foldW look (numW w (xs.length : Int)) ((xs.take j).flatMap evM)) :: seenI m s' (l ++ txts ((xs.take j).flatMap evM)) :: R), ⟨_, 0, cs1, s, rfl, Nat.zero_le _, rfl, by simpa [txts] using sA⟩, ?_⟩
  rintro i B q ⟨j, cs2, s2, rfl, hj, rfl, sB⟩ scr
  have hlen1 := foldW_len look ((xs.take j).flatMap evM) (numW w (xs.length : Int))
  have hlen2 := numW_len w (xs.length : Int)
  have hlen3 := txts_len ((xs.take j).flatMap evM)
  refine ⟨fun hlt => ?_, fun hge => ?_⟩
  · have hjl : j < xs.length := by have := dlt hlt; omega
    have hxj : xs[j]? = some xs[j] := List.getElem?_eq_getElem hjl
    generalize xs[j] = x at hxj
    have hm := flat_mem evM hxj
    refine (hx.more sB.fr).ix (by decide) FlM (by omega) (by simpa using hxj) fun ad hc hc0 => ?_
    refine ⟨_, _, ⟨by rw [hc0]; rfl, hc 1 _ rfl, trivial⟩, fun bX C hC => ?_⟩
    have sC := sB.newb (cs := [.int .i64 0, .string ⟨#[]⟩]) hC
    refine sC.stbs (k := 0) (i := 0) (vs := [.int .i64 x.1, .string (str x.2)]) rfl (by simp) (by intro v hv; exact FlM.one x v hv) fun D sD => ?_
    replace sD : Sym H0 no D (blk bX [.int .i64 x.1, .string (str x.2)] 174 :: _) := sD
    refine ⟨_, _, ⟨sD.ld (k := 0) rfl 0, sD.ld (k := 0) rfl 1, trivial⟩, ?_⟩
    refine h1 rfl (sD.drop) (by omega) (by rw [List.length_append]; omega) fun E cs3 s3 sE => ⟨rfl, xs.length - (j + 1), by omega, j + 1, cs3, s3, wi (by omega), hjl, rfl, ?_⟩
    rw [flat_take evM hxj, foldW_app, txts_app, ← List.append_assoc]
    exact sE
  · have hjl : xs.length ≤ j := by have := dge hge; omega
    rw [List.take_of_length_le hjl] at sB
    exact kk B cs2 s2 sB
theorem liFn_ok {sl : Sl} {xs : List FnD} {one : Value} (hx : Rd flF 3 H0 sl xs) (h1 : One H0 b p look sv m R one (fun _ x v => v = .agg #[.string (str x.name), .string (str x.kinds), .string (str x.ret)]) evF) (h : Sym H0 no H (wI b cs p sv w :: seenI m s l :: R))
    (hl : w.1.length + 5 * (evL evF xs).length ≤ 1000000000000) (hs : l.length + (evL evF xs).length ≤ 1000000000)
    (kk : ∀ H' cs' s', Sym H0 no H' (wI b cs' p sv (foldW look w (evL evF xs)) :: seenI m s' (l ++ txts (evL evF xs)) :: R) → K (.tuple #[]) H') : CallF Try.prog 127 #[.pointer (some ⟨b, 0, none⟩), .slice sl.a sl.n sl.c, one] H K Z := by
  refine V127_ok ?_
  unfold V127
  have hn := hx.len
  unfold evL at hl hs kk
  rw [List.length_cons] at hl hs
  refine num_ok h (by omega) fun A cs1 sA => ⟨rfl, ?_⟩
  rw [hn] at sA
  have hbig : xs.length ≤ 1000000000 := by
    have : ∀ ys : List FnD, ys.length ≤ (ys.flatMap evF).length := by
      intro ys
      induction ys with
      | nil => exact Nat.le_refl _
      | cons y ys ih =>
        rw [List.flatMap_cons, List.length_append, List.length_cons]
        have : 1 ≤ (evF y).length := by simp [evF]
        omega
    have := this xs
    omega
  refine ⟨fun i B q => ∃ (j : Nat) (cs' : List Value) (s' : Sl), i = (j : Int) ∧ j ≤ xs.length ∧ q = xs.length - j ∧ Sym H0 no B (wI b cs' p sv (foldW look (numW w (xs.length : Int)) ((xs.take j).flatMap evF)) :: seenI m s' (l ++ txts ((xs.take j).flatMap evF)) :: R), ⟨_, 0, cs1, s, rfl, Nat.zero_le _, rfl, by simpa [txts] using sA⟩, ?_⟩
  rintro i B q ⟨j, cs2, s2, rfl, hj, rfl, sB⟩ scr
  have hlen1 := foldW_len look ((xs.take j).flatMap evF) (numW w (xs.length : Int))
  have hlen2 := numW_len w (xs.length : Int)
  have hlen3 := txts_len ((xs.take j).flatMap evF)
  refine ⟨fun hlt => ?_, fun hge => ?_⟩
  · have hjl : j < xs.length := by have := dlt hlt; omega
    have hxj : xs[j]? = some xs[j] := List.getElem?_eq_getElem hjl
    generalize xs[j] = x at hxj
    have hm := flat_mem evF hxj
    refine (hx.more sB.fr).ix (by decide) FlF (by omega) (by simpa using hxj) fun ad hc hc0 => ?_
    refine ⟨_, _, _, ⟨by rw [hc0]; rfl, hc 1 _ rfl, hc 2 _ rfl, trivial⟩, fun bX C hC => ?_⟩
    have sC := sB.newb (cs := [.string ⟨#[]⟩, .string ⟨#[]⟩, .string ⟨#[]⟩]) hC
    refine sC.stbs (k := 0) (i := 0) (vs := [.string (str x.name), .string (str x.kinds), .string (str x.ret)]) rfl (by simp) (by intro v hv; exact FlF.one x v hv) fun D sD => ?_
    replace sD : Sym H0 no D (blk bX [.string (str x.name), .string (str x.kinds), .string (str x.ret)] 132 :: _) := sD
    refine ⟨_, _, _, ⟨sD.ld (k := 0) rfl 0, sD.ld (k := 0) rfl 1, sD.ld (k := 0) rfl 2, trivial⟩, ?_⟩
    refine h1 rfl (sD.drop) (by omega) (by rw [List.length_append]; omega) fun E cs3 s3 sE => ⟨rfl, xs.length - (j + 1), by omega, j + 1, cs3, s3, wi (by omega), hjl, rfl, ?_⟩
    rw [flat_take evF hxj, foldW_app, txts_app, ← List.append_assoc]
    exact sE
  · have hjl : xs.length ≤ j := by have := dge hge; omega
    rw [List.take_of_length_le hjl] at sB
    exact kk B cs2 s2 sB
theorem liObj_ok {sl : Sl} {xs : List ObjD} {one : Value} (hx : RdO H0 sl xs) (h1 : One H0 b p look sv m R one (fun _ x v => ∃ s : Sl, v = .agg #[.string (str x.name), .string (str x.kinds), .slice s.a s.n s.c] ∧ Rd flM 2 H0 s x.marks) evO) (h : Sym H0 no H (wI b cs p sv w :: seenI m s l :: R))
    (hl : w.1.length + 5 * (evL evO xs).length ≤ 1000000000000) (hs : l.length + (evL evO xs).length ≤ 1000000000)
    (kk : ∀ H' cs' s', Sym H0 no H' (wI b cs' p sv (foldW look w (evL evO xs)) :: seenI m s' (l ++ txts (evL evO xs)) :: R) → K (.tuple #[]) H') : CallF Try.prog 122 #[.pointer (some ⟨b, 0, none⟩), .slice sl.a sl.n sl.c, one] H K Z := by
  refine V122_ok ?_
  unfold V122
  have hn := hx.len
  unfold evL at hl hs kk
  rw [List.length_cons] at hl hs
  refine num_ok h (by omega) fun A cs1 sA => ⟨rfl, ?_⟩
  rw [hn] at sA
  have hbig : xs.length ≤ 1000000000 := by
    have : ∀ ys : List ObjD, ys.length ≤ (ys.flatMap evO).length := by
      intro ys
      induction ys with
      | nil => exact Nat.le_refl _
      | cons y ys ih =>
        rw [List.flatMap_cons, List.length_append, List.length_cons]
        have : 1 ≤ (evO y).length := by simp [evO]
        omega
    have := this xs
    omega
  refine ⟨fun i B q => ∃ (j : Nat) (cs' : List Value) (s' : Sl), i = (j : Int) ∧ j ≤ xs.length ∧ q = xs.length - j ∧ Sym H0 no B (wI b cs' p sv (foldW look (numW w (xs.length : Int)) ((xs.take j).flatMap evO)) :: seenI m s' (l ++ txts ((xs.take j).flatMap evO)) :: R), ⟨_, 0, cs1, s, rfl, Nat.zero_le _, rfl, by simpa [txts] using sA⟩, ?_⟩
  rintro i B q ⟨j, cs2, s2, rfl, hj, rfl, sB⟩ scr
  have hlen1 := foldW_len look ((xs.take j).flatMap evO) (numW w (xs.length : Int))
  have hlen2 := numW_len w (xs.length : Int)
  have hlen3 := txts_len ((xs.take j).flatMap evO)
  refine ⟨fun hlt => ?_, fun hge => ?_⟩
  · have hjl : j < xs.length := by have := dlt hlt; omega
    have hxj : xs[j]? = some xs[j] := List.getElem?_eq_getElem hjl
    generalize xs[j] = x at hxj
    have hm := flat_mem evO hxj
    obtain ⟨hh, hin, get⟩ := hx.get hxj
    have hsl := (hin.2.more sB.fr)
    have he0 := hin.1
    obtain ⟨hs0, r0, r1, r2⟩ := hx
    have hhj : hs0[j]? = some (hs0[j]'(by omega)) := List.getElem?_eq_getElem _
    obtain ⟨he1, hin1⟩ := r2 j _ x hhj hxj
    generalize hs0[j]'(by omega) = hd at hhj he1 hin1
    refine (r0.more sB.fr).ix (by decide) FlHO (by omega) (by simpa using hhj) fun ad hc hc0 => ?_
    rw [he1] at hc hc0
    refine ⟨_, _, hd.2.2, ⟨by rw [hc0]; rfl, hc 1 _ rfl, hc 2 _ rfl, trivial⟩, fun bX C hC => ?_⟩
    have sC := sB.newb (cs := [.string ⟨#[]⟩, .string ⟨#[]⟩, .slice none 0 0]) hC
    refine sC.stbs (k := 0) (i := 0) (vs := [.string (str x.name), .string (str x.kinds), .slice hd.2.2.a hd.2.2.n hd.2.2.c]) rfl (by simp) (by intro v hv; exact FlHO.one (HO.of x hd.2.2) v hv) fun D sD => ?_
    replace sD : Sym H0 no D (blk bX [.string (str x.name), .string (str x.kinds), .slice hd.2.2.a hd.2.2.n hd.2.2.c] 128 :: _) := sD
    refine ⟨_, _, hd.2.2, ⟨sD.ld (k := 0) rfl 0, sD.ld (k := 0) rfl 1, sD.ld (k := 0) rfl 2, trivial⟩, ?_⟩
    refine h1 ⟨_, rfl, hin1⟩ (sD.drop) (by omega) (by rw [List.length_append]; omega) fun E cs3 s3 sE => ⟨rfl, xs.length - (j + 1), by omega, j + 1, cs3, s3, wi (by omega), hjl, rfl, ?_⟩
    rw [flat_take evO hxj, foldW_app, txts_app, ← List.append_assoc]
    exact sE
  · have hjl : xs.length ≤ j := by have := dge hge; omega
    rw [List.take_of_length_le hjl] at sB
    exact kk B cs2 s2 sB
theorem liCon_ok {sl : Sl} {xs : List ConD} {one : Value} (hx : RdC H0 sl xs) (h1 : One H0 b p look sv m R one (fun _ x v => ∃ s : Sl, v = .agg #[.int .i64 x.op, .string (str x.a), .string (str x.b), .int .i64 x.k, .string (str x.tag), .slice s.a s.n s.c] ∧ Rd flL 1 H0 s x.args) evC) (h : Sym H0 no H (wI b cs p sv w :: seenI m s l :: R))
    (hl : w.1.length + 5 * (evL evC xs).length ≤ 1000000000000) (hs : l.length + (evL evC xs).length ≤ 1000000000)
    (kk : ∀ H' cs' s', Sym H0 no H' (wI b cs' p sv (foldW look w (evL evC xs)) :: seenI m s' (l ++ txts (evL evC xs)) :: R) → K (.tuple #[]) H') : CallF Try.prog 129 #[.pointer (some ⟨b, 0, none⟩), .slice sl.a sl.n sl.c, one] H K Z := by
  refine V129_ok ?_
  unfold V129
  have hn := hx.len
  unfold evL at hl hs kk
  rw [List.length_cons] at hl hs
  refine num_ok h (by omega) fun A cs1 sA => ⟨rfl, ?_⟩
  rw [hn] at sA
  have hbig : xs.length ≤ 1000000000 := by
    have : ∀ ys : List ConD, ys.length ≤ (ys.flatMap evC).length := by
      intro ys
      induction ys with
      | nil => exact Nat.le_refl _
      | cons y ys ih =>
        rw [List.flatMap_cons, List.length_append, List.length_cons]
        have : 1 ≤ (evC y).length := by simp [evC]
        omega
    have := this xs
    omega
  refine ⟨fun i B q => ∃ (j : Nat) (cs' : List Value) (s' : Sl), i = (j : Int) ∧ j ≤ xs.length ∧ q = xs.length - j ∧ Sym H0 no B (wI b cs' p sv (foldW look (numW w (xs.length : Int)) ((xs.take j).flatMap evC)) :: seenI m s' (l ++ txts ((xs.take j).flatMap evC)) :: R), ⟨_, 0, cs1, s, rfl, Nat.zero_le _, rfl, by simpa [txts] using sA⟩, ?_⟩
  rintro i B q ⟨j, cs2, s2, rfl, hj, rfl, sB⟩ scr
  have hlen1 := foldW_len look ((xs.take j).flatMap evC) (numW w (xs.length : Int))
  have hlen2 := numW_len w (xs.length : Int)
  have hlen3 := txts_len ((xs.take j).flatMap evC)
  refine ⟨fun hlt => ?_, fun hge => ?_⟩
  · have hjl : j < xs.length := by have := dlt hlt; omega
    have hxj : xs[j]? = some xs[j] := List.getElem?_eq_getElem hjl
    generalize xs[j] = x at hxj
    have hm := flat_mem evC hxj
    obtain ⟨hh, hin, get⟩ := hx.get hxj
    have hsl := (hin.2.more sB.fr)
    have he0 := hin.1
    obtain ⟨hs0, r0, r1, r2⟩ := hx
    have hhj : hs0[j]? = some (hs0[j]'(by omega)) := List.getElem?_eq_getElem _
    obtain ⟨he1, hin1⟩ := r2 j _ x hhj hxj
    generalize hs0[j]'(by omega) = hd at hhj he1 hin1
    refine (r0.more sB.fr).ix (by decide) FlHC (by omega) (by simpa using hhj) fun ad hc hc0 => ?_
    rw [he1] at hc hc0
    refine ⟨_, _, _, _, _, hd.2.2.2.2.2, ⟨by rw [hc0]; rfl, hc 1 _ rfl, hc 2 _ rfl, hc 3 _ rfl, hc 4 _ rfl, hc 5 _ rfl, trivial⟩, fun bX C hC => ?_⟩
    have sC := sB.newb (cs := [.int .i64 0, .string ⟨#[]⟩, .string ⟨#[]⟩, .int .i64 0, .string ⟨#[]⟩, .slice none 0 0]) hC
    refine sC.stbs (k := 0) (i := 0) (vs := [.int .i64 x.op, .string (str x.a), .string (str x.b), .int .i64 x.k, .string (str x.tag), .slice hd.2.2.2.2.2.a hd.2.2.2.2.2.n hd.2.2.2.2.2.c]) rfl (by simp) (by intro v hv; exact FlHC.one (HC.of x hd.2.2.2.2.2) v hv) fun D sD => ?_
    replace sD : Sym H0 no D (blk bX [.int .i64 x.op, .string (str x.a), .string (str x.b), .int .i64 x.k, .string (str x.tag), .slice hd.2.2.2.2.2.a hd.2.2.2.2.2.n hd.2.2.2.2.2.c] 136 :: _) := sD
    refine ⟨_, _, _, _, _, hd.2.2.2.2.2, ⟨sD.ld (k := 0) rfl 0, sD.ld (k := 0) rfl 1, sD.ld (k := 0) rfl 2, sD.ld (k := 0) rfl 3, sD.ld (k := 0) rfl 4, sD.ld (k := 0) rfl 5, trivial⟩, ?_⟩
    refine h1 ⟨_, rfl, hin1⟩ (sD.drop) (by omega) (by rw [List.length_append]; omega) fun E cs3 s3 sE => ⟨rfl, xs.length - (j + 1), by omega, j + 1, cs3, s3, wi (by omega), hjl, rfl, ?_⟩
    rw [flat_take evC hxj, foldW_app, txts_app, ← List.append_assoc]
    exact sE
  · have hjl : xs.length ≤ j := by have := dge hge; omega
    rw [List.take_of_length_le hjl] at sB
    exact kk B cs2 s2 sB
/-! ### closures -/
theorem oneT (he : Env H0 p look sv m) : One H0 b p look sv m R (.func (.func 120) #[.pointer (some ⟨b, 0, none⟩)] #[]) (fun _ x v => v = .string (str x)) evT := by
  intro A cs w s l x v K Z hv h hl hs kk
  subst hv
  unfold callV
  simp only [okText, if_true]
  exact text_ok he h (by omega) (by omega) kk
/-- the writer, as a closure holds it -/
abbrev cap (c b : Nat) : It := blk c [.pointer (some ⟨b, 0, none⟩)] 150
theorem ok11 : fnOk Try.prog 125 = true := by kernel_rfl
theorem ok1 : fnOk Try.prog 123 = true := by kernel_rfl
theorem ok2 : fnOk Try.prog 128 = true := by kernel_rfl
theorem ok3 : fnOk Try.prog 130 = true := by kernel_rfl
theorem oneM {c : Nat} (he : Env H0 p look sv m) : One H0 b p look sv m (cap c b :: R) (.func (.func 125) #[] #[.pointer (some ⟨c, 0, none⟩)]) (fun _ x v => v = .agg #[.int .i64 x.1, .string (str x.2)]) evM := by
  intro A cs w s l x v K Z hv h hl hs kk
  subst hv
  have hlen : (evM x).length = 2 := rfl
  rw [hlen] at hl hs
  unfold callV
  simp only [ok11, if_true]
  refine V125_ok ?_
  unfold V125
  intro bM B hB
  have sB := rot2 (h.newb (cs := [.int .i64 x.1, .string (str x.2)]) hB)
  refine ⟨_, sB.ld (k := 3) rfl 0, _, sB.ld (k := 2) rfl 0, num_ok sB (by omega) fun C cs1 sC => ⟨rfl, ?_⟩⟩
  have hn := numW_len w x.1
  refine ⟨_, sC.ld (k := 3) rfl 0, _, sC.ld (k := 2) rfl 1, text_ok he sC (by omega) (by omega) fun D cs2 s2 sD => ⟨rfl, kk D cs2 s2 ?_⟩⟩
  exact sD.sub (List.Sublist.cons_cons _ (List.Sublist.cons_cons _ (List.sublist_cons_self _ _)))
theorem oneF {c : Nat} (he : Env H0 p look sv m) : One H0 b p look sv m (cap c b :: R) (.func (.func 128) #[] #[.pointer (some ⟨c, 0, none⟩)]) (fun _ x v => v = .agg #[.string (str x.name), .string (str x.kinds), .string (str x.ret)]) evF := by
  intro A cs w s l x v K Z hv h hl hs kk
  subst hv
  have hlen : (evF x).length = 3 := rfl
  rw [hlen] at hl hs
  unfold callV
  simp only [ok2, if_true]
  refine V128_ok ?_
  unfold V128
  intro bM B hB
  have sB := rot2 (h.newb (cs := [.string (str x.name), .string (str x.kinds), .string (str x.ret)]) hB)
  have l1 := stepW_len look w (.t x.name)
  have l2 := stepW_len look (stepW look w (.t x.name)) (.t x.kinds)
  refine ⟨_, sB.ld (k := 3) rfl 0, _, sB.ld (k := 2) rfl 0, text_ok he sB (by omega) (by omega) fun C cs1 s1 sC => ⟨rfl, ?_⟩⟩
  refine ⟨_, sC.ld (k := 3) rfl 0, _, sC.ld (k := 2) rfl 1, text_ok he sC (by have := l1; simp only [stepW] at this; omega) (by rw [List.length_append]; simp; omega) fun D cs2 s2 sD => ⟨rfl, ?_⟩⟩
  refine ⟨_, sD.ld (k := 3) rfl 0, _, sD.ld (k := 2) rfl 2, text_ok he sD (by have := l1; have := l2; simp only [stepW] at *; omega) (by simp only [List.length_append, List.length_singleton]; omega) fun E cs3 s3 sE => ⟨rfl, kk E cs3 s3 ?_⟩⟩
  have e : l ++ txts (evF x) = l ++ [x.name] ++ [x.kinds] ++ [x.ret] := by simp [evF, txts]
  rw [e]
  exact sE.sub (List.Sublist.cons_cons _ (List.Sublist.cons_cons _ (List.sublist_cons_self _ _)))
theorem evM_len (l : List Mk) : (evL evM l).length = 1 + 2 * l.length := by
  unfold evL
  rw [List.length_cons]
  induction l with
  | nil => rfl
  | cons x l ih => rw [List.flatMap_cons, List.length_append, List.length_cons]; simp only [evM, List.length_cons, List.length_nil] at *; omega
/-- blocks that were there at first hold what they held -/
abbrev argO (H0 : Hp) : Hp → ObjD → Value → Prop := fun _ x v => ∃ s : Sl, v = .agg #[.string (str x.name), .string (str x.kinds), .slice s.a s.n s.c] ∧ Rd flM 2 H0 s x.marks
abbrev argC (H0 : Hp) : Hp → ConD → Value → Prop := fun _ x v => ∃ s : Sl, v = .agg #[.int .i64 x.op, .string (str x.a), .string (str x.b), .int .i64 x.k, .string (str x.tag), .slice s.a s.n s.c] ∧ Rd flL 1 H0 s x.args
theorem oneO {c : Nat} (he : Env H0 p look sv m) : One H0 b p look sv m (cap c b :: R) (.func (.func 123) #[] #[.pointer (some ⟨c, 0, none⟩)]) (argO H0) evO := by
  intro A cs w s l x v K Z hv h hl hs kk
  obtain ⟨sm, rfl, hm⟩ := hv
  have hlen : (evO x).length = 2 + (evL evM x.marks).length := by unfold evO; rw [List.length_append]; rfl
  rw [hlen] at hl hs
  unfold callV
  simp only [ok1, if_true]
  refine V123_ok ?_
  unfold V123
  intro bM B hB
  have sB := rot2 (h.newb (cs := [.string (str x.name), .string (str x.kinds), .slice sm.a sm.n sm.c]) hB)
  have l1 := stepW_len look w (.t x.name)
  have l2 := stepW_len look (stepW look w (.t x.name)) (.t x.kinds)
  refine ⟨_, sB.ld (k := 3) rfl 0, _, sB.ld (k := 2) rfl 0, text_ok he sB (by omega) (by omega) fun C cs1 s1 sC => ⟨rfl, ?_⟩⟩
  refine ⟨_, sC.ld (k := 3) rfl 0, _, sC.ld (k := 2) rfl 1, text_ok he sC (by have := l1; simp only [stepW] at this; omega) (by rw [List.length_append]; simp; omega) fun D cs2 s2 sD => ⟨rfl, ?_⟩⟩
  refine ⟨_, sD.ld (k := 3) rfl 0, _, sD.ld (k := 2) rfl 2, ?_⟩
  have sD' := sD.sub (R := wI b cs2 p sv _ :: seenI m s2 _ :: cap c b :: R) (List.Sublist.cons_cons _ (List.Sublist.cons_cons _ (List.sublist_cons_self _ _)))
  refine liMark_ok hm (oneM he) sD' ?_ ?_ fun E cs3 s3 sE => ⟨rfl, kk E cs3 s3 ?_⟩
  · have := l1; have := l2; simp only [stepW] at *; omega
  · simp only [List.length_append, List.length_singleton]; omega
  · have e : l ++ txts (evO x) = l ++ [x.name] ++ [x.kinds] ++ txts (evL evM x.marks) := by unfold evO; rw [txts_app]; simp [txts]
    have e2 : foldW look w (evO x) = foldW look (txtW look (txtW look w x.name) x.kinds) (evL evM x.marks) := by unfold evO; rw [foldW_app]; rfl
    rw [e, e2]
    exact sE
theorem oneC {c : Nat} (he : Env H0 p look sv m) : One H0 b p look sv m (cap c b :: R) (.func (.func 130) #[] #[.pointer (some ⟨c, 0, none⟩)]) (argC H0) evC := by
  intro A cs w s l x v K Z hv h hl hs kk
  obtain ⟨sm, rfl, hm⟩ := hv
  have hlen : (evC x).length = 5 + (evL evT x.args).length := by unfold evC; rw [List.length_append]; rfl
  rw [hlen] at hl hs
  unfold callV
  simp only [ok3, if_true]
  refine V130_ok ?_
  unfold V130
  intro bM B hB
  have sB := rot2 (h.newb (cs := [.int .i64 x.op, .string (str x.a), .string (str x.b), .int .i64 x.k, .string (str x.tag), .slice sm.a sm.n sm.c]) hB)
  have l1 := stepW_len look w (.n x.op)
  have l2 := stepW_len look (stepW look w (.n x.op)) (.t x.a)
  have l3 := stepW_len look (stepW look (stepW look w (.n x.op)) (.t x.a)) (.t x.b)
  have l4 := stepW_len look (stepW look (stepW look (stepW look w (.n x.op)) (.t x.a)) (.t x.b)) (.n x.k)
  have l5 := stepW_len look (stepW look (stepW look (stepW look (stepW look w (.n x.op)) (.t x.a)) (.t x.b)) (.n x.k)) (.t x.tag)
  simp only [stepW] at l1 l2 l3 l4 l5
  refine ⟨_, sB.ld (k := 3) rfl 0, _, sB.ld (k := 2) rfl 0, num_ok sB (by omega) fun C cs1 sC => ⟨rfl, ?_⟩⟩
  refine ⟨_, sC.ld (k := 3) rfl 0, _, sC.ld (k := 2) rfl 1, text_ok he sC (by omega) (by omega) fun D cs2 s2 sD => ⟨rfl, ?_⟩⟩
  refine ⟨_, sD.ld (k := 3) rfl 0, _, sD.ld (k := 2) rfl 2, text_ok he sD (by omega) (by simp only [List.length_append, List.length_singleton]; omega) fun E cs3 s3 sE => ⟨rfl, ?_⟩⟩
  refine ⟨_, sE.ld (k := 3) rfl 0, _, sE.ld (k := 2) rfl 3, num_ok sE (by omega) fun F cs4 sF => ⟨rfl, ?_⟩⟩
  refine ⟨_, sF.ld (k := 3) rfl 0, _, sF.ld (k := 2) rfl 4, text_ok he sF (by omega) (by simp only [List.length_append, List.length_singleton]; omega) fun G cs5 s5 sG => ⟨rfl, ?_⟩⟩
  refine ⟨_, sG.ld (k := 3) rfl 0, _, sG.ld (k := 2) rfl 5, _, sG.ld (k := 3) rfl 0, ?_⟩
  have sG' := sG.sub (R := wI b cs5 p sv _ :: seenI m s5 _ :: cap c b :: R) (List.Sublist.cons_cons _ (List.Sublist.cons_cons _ (List.sublist_cons_self _ _)))
  refine liStr_ok hm (oneT he) sG' (by omega) (by simp only [List.length_append, List.length_singleton]; omega) fun M cs6 s6 sM => ⟨rfl, kk M cs6 s6 ?_⟩
  have e : l ++ txts (evC x) = l ++ [x.a] ++ [x.b] ++ [x.tag] ++ txts (evL evT x.args) := by unfold evC; rw [txts_app]; simp [txts]
  have e2 : foldW look w (evC x) = foldW look (txtW look (numW (txtW look (txtW look (numW w x.op) x.a) x.b) x.k) x.tag) (evL evT x.args) := by unfold evC; rw [foldW_app]; rfl
  rw [e, e2]
  exact sM
/-- a summary -/
theorem summary_ok {x : SumD} {s1 s2 s3 s4 s5 s6 : Sl} (he : Env H0 p look sv m) (hx : RdSum H0 s1 s2 s3 s4 s5 s6 x) (h : Sym H0 no H (wI b cs p sv w :: seenI m s l :: R)) (hl : w.1.length + 5 * (evS x).length ≤ 1000000000000) (hs : l.length + (evS x).length ≤ 1000000000)
    (kk : ∀ H' cs' s', Sym H0 no H' (wI b cs' p sv (foldW look w (evS x)) :: seenI m s' (l ++ txts (evS x)) :: R) → K (.tuple #[]) H') :
    CallF Try.prog 95 #[.pointer (some ⟨b, 0, none⟩), .agg #[.string (str x.name), .slice s1.a s1.n s1.c, .slice s2.a s2.n s2.c, .slice s3.a s3.n s3.c, .slice s4.a s4.n s4.c, .slice s5.a s5.n s5.c, .slice s6.a s6.n s6.c]] H K Z := by
  refine V95_ok ?_
  unfold V95
  have hlen : (evS x).length = 1 + (evL evT x.gives).length + (evL evT x.wants).length + (evL evT x.keeps).length + (evL evO x.sys.objs).length + (evL evF x.sys.fns).length + (evL evC x.sys.cons).length := by
    unfold evS
    simp only [List.length_append, List.length_cons, List.length_nil]
  rw [hlen] at hl hs
  intro bW B hB bS C hC
  have sB := rot2 (h.newb (cs := [.pointer (some ⟨b, 0, none⟩)]) hB)
  have sC := rot2 (sB.newb (cs := [.string (str x.name), .slice s1.a s1.n s1.c, .slice s2.a s2.n s2.c, .slice s3.a s3.n s3.c, .slice s4.a s4.n s4.c, .slice s5.a s5.n s5.c, .slice s6.a s6.n s6.c]) hC)
  replace sC : Sym H0 no C (wI b cs p sv w :: seenI m s l :: cap bW b :: blk bS [.string (str x.name), .slice s1.a s1.n s1.c, .slice s2.a s2.n s2.c, .slice s3.a s3.n s3.c, .slice s4.a s4.n s4.c, .slice s5.a s5.n s5.c, .slice s6.a s6.n s6.c] 90 :: R) :=
    sC.perm (List.Perm.cons _ (List.Perm.cons _ (List.Perm.swap _ _ _)))
  have w0 := stepW_len look w (.t x.name)
  simp only [stepW] at w0
  refine ⟨_, sC.ld (k := 2) rfl 0, _, sC.ld (k := 3) rfl 0, text_ok he sC (by omega) (by omega) fun D c1 q1 sD => ⟨rfl, ?_⟩⟩
  generalize hw1 : txtW look w x.name = w1 at sD
  rw [hw1] at w0
  have w1l := foldW_len look (evL evT x.gives) w1
  have x1 := txts_len (evL evT x.gives)
  refine ⟨_, sD.ld (k := 2) rfl 0, _, sD.ld (k := 3) rfl 1, _, sD.ld (k := 2) rfl 0, liStr_ok hx.g (oneT he) sD (by omega) (by simp only [List.length_append, List.length_singleton]; omega) fun E c2 q2 sE => ⟨rfl, ?_⟩⟩
  generalize hw2 : foldW look w1 (evL evT x.gives) = w2 at sE w1l
  have w2l := foldW_len look (evL evT x.wants) w2
  have x2 := txts_len (evL evT x.wants)
  refine ⟨_, sE.ld (k := 2) rfl 0, _, sE.ld (k := 3) rfl 2, _, sE.ld (k := 2) rfl 0, liStr_ok hx.w (oneT he) sE (by omega) (by simp only [List.length_append, List.length_singleton]; omega) fun F c3 q3 sF => ⟨rfl, ?_⟩⟩
  generalize hw3 : foldW look w2 (evL evT x.wants) = w3 at sF w2l
  have w3l := foldW_len look (evL evT x.keeps) w3
  have x3 := txts_len (evL evT x.keeps)
  refine ⟨_, sF.ld (k := 2) rfl 0, _, sF.ld (k := 3) rfl 3, _, sF.ld (k := 2) rfl 0, liStr_ok hx.k (oneT he) sF (by omega) (by simp only [List.length_append, List.length_singleton]; omega) fun G c4 q4 sG => ⟨rfl, ?_⟩⟩
  generalize hw4 : foldW look w3 (evL evT x.keeps) = w4 at sG w3l
  have w4l := foldW_len look (evL evO x.sys.objs) w4
  have x4 := txts_len (evL evO x.sys.objs)
  refine ⟨_, sG.ld (k := 2) rfl 0, _, sG.ld (k := 3) rfl 4, liObj_ok hx.s.o (oneO he) sG (by omega) (by simp only [List.length_append, List.length_singleton]; omega) fun M c5 q5 sM => ⟨rfl, ?_⟩⟩
  generalize hw5 : foldW look w4 (evL evO x.sys.objs) = w5 at sM w4l
  have w5l := foldW_len look (evL evF x.sys.fns) w5
  have x5 := txts_len (evL evF x.sys.fns)
  refine ⟨_, sM.ld (k := 2) rfl 0, _, sM.ld (k := 3) rfl 5, liFn_ok hx.s.f (oneF he) sM (by omega) (by simp only [List.length_append, List.length_singleton]; omega) fun N c6 q6 sN => ⟨rfl, ?_⟩⟩
  generalize hw6 : foldW look w5 (evL evF x.sys.fns) = w6 at sN w5l
  refine ⟨_, sN.ld (k := 2) rfl 0, _, sN.ld (k := 3) rfl 6, liCon_ok hx.s.c (oneC he) sN (by omega) (by simp only [List.length_append, List.length_singleton]; omega) fun P c7 q7 sP => ⟨rfl, kk P c7 q7 ?_⟩⟩
  have e : foldW look w (evS x) = foldW look w6 (evL evC x.sys.cons) := by
    unfold evS
    simp only [foldW_app]
    rw [← hw6, ← hw5, ← hw4, ← hw3, ← hw2, ← hw1]
    rfl
  have e2 : l ++ txts (evS x) = l ++ [x.name] ++ txts (evL evT x.gives) ++ txts (evL evT x.wants) ++ txts (evL evT x.keeps) ++ txts (evL evO x.sys.objs) ++ txts (evL evF x.sys.fns) ++ txts (evL evC x.sys.cons) := by
    unfold evS
    simp only [txts_app, txts, List.append_assoc]
  rw [e, e2]
  exact sP.sub (List.Sublist.cons_cons _ (List.Sublist.cons_cons _ ((List.sublist_cons_self _ _).trans (List.sublist_cons_self _ _))))
end
end Go.Proofs.Ytigbdoicgdmliaa.C26W
end

section
/- weftref05, the reference: what its functions do. -/
set_option linter.unusedVariables false
set_option linter.unusedSimpArgs false
-- rNumber: 31
-- rInto: 101
-- rSorted: 61
-- same: 50
-- tE: 9
-- tTs: 47
namespace Go.Proofs.Ytigbdoicgdmliaa.Q05
open Go Go.V Go.Proofs Go.Proofs.Ytigbdoicgdmliaa.N05 Go.Proofs.Ytigbdoicgdmliaa.C05S
attribute [local irreducible] Cvt ExtF CallF hrun
section
variable {H : Hp}
theorem number_ok {l : Sl} {xs : List ByteArray} {x : ByteArray} {K : Value → Hp → Prop} {Z : List PanicEntry → Hp → Prop} (h : Els val H l xs) (hbig : xs.length ≤ 1000000000)
    (k1 : ∀ i : Nat, xs[i]? = some x → (∀ j, j < i → xs[j]? ≠ some x) → K (.int .i64 (i : Int)) H) (k2 : x ∉ xs → K (.int .i64 (-1)) H) : CallF Try.prog 31 #[.slice l.a l.n l.c, .string x] H K Z := by
  refine V31_ok ?_
  unfold V31
  have hl := h.len
  refine ⟨fun i A m => ∃ j : Nat, A = H ∧ i = (j : Int) ∧ j ≤ xs.length ∧ m = xs.length - j ∧ ∀ t, t < j → xs[t]? ≠ some x, ⟨_, 0, rfl, rfl, Nat.zero_le _, rfl, by omega⟩, ?_⟩
  rintro i A m ⟨j, rfl, rfl, hj, rfl, hno⟩ scr
  refine ⟨fun hlt => ?_, fun hge => ?_⟩
  · have hlt' : j < xs.length := by
      have : (j : Int) < (l.n : Int) := of_decide_eq_true hlt
      omega
    have hx : xs[j]? = some xs[j] := List.getElem?_eq_getElem hlt'
    obtain ⟨ad, ha, hc⟩ := h.el _ _ hx
    refine ⟨ad, ha, ⟨by omega, by omega⟩, _, by rw [Int.toNat_natCast]; exact hc, fun he => ?_, fun he => ?_⟩
    · have he' := beqS_iff.1 he
      exact k1 j (by rw [hx, he']) hno
    · have he' : ¬ xs[j] = x := by
        intro e
        rw [beqS_iff.2 e] at he
        cases he
      have e : w64 ((j : Int) + 1) = ((j + 1 : Nat) : Int) := by rw [wrap64 (by omega) (by omega)]; omega
      rw [e]
      refine ⟨xs.length - (j + 1), by omega, j + 1, rfl, rfl, hlt', rfl, ?_⟩
      intro t ht
      rcases Nat.lt_or_eq_of_le (Nat.le_of_lt_succ ht) with h' | rfl
      · exact hno t h'
      · rw [hx]
        intro e
        exact he' (Option.some.inj e)
  · have hge' : j = xs.length := by
      have : ¬ (j : Int) < (l.n : Int) := of_decide_eq_false hge
      omega
    subst hge'
    refine k2 ?_
    intro hm
    obtain ⟨t, ht⟩ := List.getElem?_of_mem hm
    exact hno t (List.getElem?_eq_some_iff.1 ht).1 ht

theorem same_ok {a b : Sl} {xs : List ByteArray} {K : Value → Hp → Prop} {Z : List PanicEntry → Hp → Prop} (ha : Els val H a xs) (hb : Els val H b xs) (hbig : xs.length ≤ 1000000000) (k : K (.bool true) H) : CallF Try.prog 50 #[.slice a.a a.n a.c, .slice b.a b.n b.c] H K Z := by
  refine V50_ok ?_
  unfold V50
  have hl := ha.len
  have hl2 := hb.len
  refine ⟨fun h => ?_, fun _ => ?_⟩
  · rw [hl, hl2] at h
    simp at h
  refine ⟨fun i A m => ∃ j : Nat, A = H ∧ i = (j : Int) ∧ j ≤ xs.length ∧ m = xs.length - j, ⟨_, 0, rfl, rfl, Nat.zero_le _, rfl⟩, ?_⟩
  rintro i A m ⟨j, rfl, rfl, hj, rfl⟩ scr
  refine ⟨fun hlt => ⟨fun hlt2 => ?_, fun _ => k⟩, fun _ => k⟩
  have hlt' : j < xs.length := by
    have : (j : Int) < (a.n : Int) := of_decide_eq_true hlt
    omega
  have hx : xs[j]? = some xs[j] := List.getElem?_eq_getElem hlt'
  obtain ⟨ad, e1, e2⟩ := ha.el _ _ hx
  obtain ⟨ad', e3, e4⟩ := hb.el _ _ hx
  have e : w64 ((j : Int) + 1) = ((j + 1 : Nat) : Int) := by rw [wrap64 (by omega) (by omega)]; omega
  rw [e]
  refine ⟨ad, e1, ⟨by omega, by omega⟩, _, by rw [Int.toNat_natCast]; exact e2, ad', e3, ⟨by omega, by omega⟩, _, by rw [Int.toNat_natCast]; exact e4, fun hn => ?_, fun _ => ⟨xs.length - (j + 1), by omega, j + 1, rfl, rfl, hlt', rfl⟩⟩
  rw [beqS_iff.2 rfl] at hn
  cases hn

/-- a list of three parts is made anew -/
def MkV (P : Program) (T E : TypeId) (H : Hp) (m : Sl) (x : ByteArray) (k : Int) (K : Value → Hp → Prop) : Prop :=
  ∀ b2 H7, Newb H (.cells #[] E) b2 H7 → (m.n ≤ m.c ∧ SlX m.a m.c 0 k 1 fun cut2 => (App P #[T, T] T H7 [.slice (some ⟨b2, 0, none⟩) 0 0, .slice cut2.a cut2.n cut2.c] fun ap3 H8 =>
    (∀ b3 H9, Newb H8 (.cells #[.string x] E) b3 H9 → App P #[T, T] T H9 [.slice ap3.a ap3.n ap3.c, .slice (some ⟨b3, 0, none⟩) 1 1] fun ap4 H10 =>
    (m.n ≤ m.c ∧ SlX m.a m.c k (m.n : Int) 1 fun cut3 => (App P #[T, T] T H10 [.slice ap4.a ap4.n ap4.c, .slice cut3.a cut3.n cut3.c] fun ap5 H11 => (K (.slice ap5.a ap5.n ap5.c) H11))))))
theorem mk_ok {m : Sl} {ys : List ByteArray} {x : ByteArray} {p : Nat} {K : Value → Hp → Prop} (hr : Row H 9 1 m (ys.map val)) (hp : p ≤ ys.length) (hbig : ys.length ≤ 2000000)
    (k : ∀ s' H', Row H' 9 1 s' ((ys.take p ++ [x] ++ ys.drop p).map val) → Fr no H H' → (∀ i, own s' i → H.size ≤ i) → K (.slice s'.a s'.n s'.c) H') : MkV Try.prog 47 9 H m x (p : Int) K := by
  unfold MkV
  intro b A hn
  have eb := hn.eq
  have zb := hn.size
  obtain ⟨inf, j1, j2, j3, j4⟩ := iE
  have hl := hr.1
  rw [List.length_map, Nat.mul_one] at hl
  have one : ∀ zs : List ByteArray, ∀ v ∈ zs.map val, v.oneCell = true := by
    intro zs v hv
    obtain ⟨z, _, rfl⟩ := List.mem_map.1 hv
    rfl
  have hle := hr.le
  refine ⟨hle, ⟨⟨by omega, by omega, by omega⟩, ?_⟩⟩
  rw [Int.toNat_natCast, show (0 : Int).toNat = 0 from rfl]
  have rA : Row A 9 inf.size ⟨some ⟨b, 0, none⟩, 0, 0⟩ [] := ⟨by simp, .inr ⟨b, [], (0, 0), rfl, hn.get, Nat.le_refl _, by simp, by simp, Nat.zero_le _⟩⟩
  have hrA := hr.keep hn.fr (fun _ _ h => h)
  have s1 := Src.part hrA (lo := 0) (hi := p) (by omega) (by omega)
  rw [Nat.sub_zero, List.drop_zero, ← List.map_take] at s1
  have hne : (u : ∀ k, Try.prog.underlying 47 ≠ some (.int k)) → True := fun _ => trivial
  have u2 : ∀ k, Try.prog.underlying 47 ≠ some (.int k) := by intro k; rw [uTs]; simp
  rw [← j3] at s1
  refine app_row (s := ⟨some ⟨b, 0, none⟩, 0, 0⟩) uTs u2 ⟨_, uTs⟩ j1 j2 (by rw [j3]; rfl) (by rw [j4]; decide) rA (by rw [j3] at s1 ⊢; exact s1) (one _) (by rw [j4]; show (0 + p) * _ ≤ _; omega) ?_
  intro sa B rB nB fB oB
  rw [List.nil_append] at rB
  have nB' : sa.n = p := by rw [nB]; exact Nat.zero_add _
  have osa : ∀ i, own sa i → H.size ≤ i := by
    intro i hi
    rcases oB i hi with ⟨o, ho⟩ | h
    · simp only [Option.some.injEq, Addr.mk.injEq] at ho
      omega
    · omega
  have fHB : Fr no H B := by
    refine hn.fr.step fB ?_
    rintro i hi ⟨o, ho⟩
    simp only [Option.some.injEq, Addr.mk.injEq] at ho
    omega
  intro b3 C hn3
  have e3 := hn3.eq
  have z3 := hn3.size
  have sBH := fHB.size
  have bC : Blk C b3 [.string x] 9 := hn3.blk
  refine app_row uTs u2 ⟨_, uTs⟩ j1 j2 (by rw [j3]; rfl) (by rw [j4]; decide) (rB.keep hn3.fr (fun _ _ h => h)) (Src.blk bC (by rw [j3]; rfl)) (one [x]) (by rw [j4, nB']; omega) ?_
  intro sb D rD nD fD oD
  have osb : ∀ i, own sb i → H.size ≤ i := by
    intro i hi
    rcases oD i hi with h | h
    · exact osa i h
    · omega
  have fHD : Fr no H D := by
    refine (fHB.trans hn3.fr).step fD ?_
    intro i hi h
    have := osa i h
    omega
  refine ⟨hle, ⟨⟨by omega, by omega, by omega⟩, ?_⟩⟩
  rw [Int.toNat_natCast, Int.toNat_natCast]
  have s3 := Src.part (hr.keep fHD (fun _ _ h => h)) (lo := p) (hi := m.n) (by omega) (Nat.le_refl _)
  rw [← List.map_drop, List.take_of_length_le (by rw [List.length_map, List.length_drop]; omega)] at s3
  refine app_row uTs u2 ⟨_, uTs⟩ j1 j2 (by rw [j3]; rfl) (by rw [j4]; decide) rD (by rw [j3]; exact s3) (one _) (by rw [j4, nD, nB']; omega) ?_
  intro sc E rE nE fE oE
  rw [j3] at rE
  refine k sc E ?_ ?_ ?_
  · rw [List.map_append, List.map_append]
    exact rE
  · refine fHD.step fE ?_
    intro i hi h
    have := osb i h
    omega
  · intro i hi
    rcases oE i hi with h | h
    · exact osb i h
    · have := fHD.size
      omega

theorem into_ok {m : Sl} {ys : List ByteArray} {x : ByteArray} {K : Value → Hp → Prop} {Z : List PanicEntry → Hp → Prop} (hr : Row H 9 1 m (ys.map val)) (hris : Rising lt ys) (hbig : ys.length ≤ 2000000)
    (k : ∀ s' H' zs, Row H' 9 1 s' (zs.map val) → Rising lt zs → (∀ z, z ∈ zs ↔ z ∈ ys ∨ z = x) → zs.length ≤ ys.length + 1 → Fr no H H' → (∀ i, own s' i → own m i ∨ H.size ≤ i) → K (.slice s'.a s'.n s'.c) H') :
    CallF Try.prog 101 #[.slice m.a m.n m.c, .string x] H K Z := by
  refine V101_ok ?_
  unfold V101
  have hE := Els.row hr
  have hl := hE.len
  refine ⟨fun i A mm => ∃ j : Nat, A = H ∧ i = (j : Int) ∧ j ≤ ys.length ∧ mm = ys.length - j ∧ ∀ (t : Nat) (y : ByteArray), t < j → ys[t]? = some y → lt y x = true, ⟨_, 0, rfl, rfl, Nat.zero_le _, rfl, by omega⟩, ?_⟩
  rintro i A mm ⟨j, rfl, rfl, hj, rfl, hlo⟩ scr
  have mkj : ∀ (hhi : ∀ (t : Nat) (y : ByteArray), j ≤ t → ys[t]? = some y → lt x y = true), MkV Try.prog 47 9 A m x (j : Int) K := by
    intro hhi
    refine mk_ok hr hj hbig ?_
    intro s' H' r f o
    refine k s' H' _ r ?_ ?_ ?_ f (fun i hi => .inr (o i hi))
    · have hris' := hris
      unfold Rising at hris' ⊢
      rw [← List.take_append_drop j ys, List.pairwise_append] at hris'
      obtain ⟨i1, i2, i3⟩ := hris'
      rw [List.append_assoc, List.pairwise_append]
      refine ⟨i1, ?_, ?_⟩
      · rw [List.singleton_append, List.pairwise_cons]
        refine ⟨?_, i2⟩
        intro y hy
        obtain ⟨t, ht⟩ := List.getElem?_of_mem hy
        rw [List.getElem?_drop] at ht
        exact hhi (j + t) y (by omega) ht
      · intro y hy z hz
        rw [List.singleton_append, List.mem_cons] at hz
        rcases hz with rfl | hz
        · obtain ⟨t, ht⟩ := List.getElem?_of_mem hy
          rw [List.getElem?_take] at ht
          split at ht
          · rename_i htj
            exact hlo t y htj ht
          · cases ht
        · exact i3 y hy z hz
    · intro z
      conv => rhs; rw [← List.take_append_drop j ys]
      simp only [List.mem_append, List.mem_singleton]
      constructor
      · rintro ((h | h) | h)
        · exact .inl (.inl h)
        · exact .inr h
        · exact .inl (.inr h)
      · rintro ((h | h) | h)
        · exact .inl (.inl h)
        · exact .inr h
        · exact .inl (.inr h)
    · simp only [List.length_append, List.length_take, List.length_drop, List.length_singleton]
      omega
  have later : ∀ {y : ByteArray}, ys[j]? = some y → lt x y = true → ∀ (t : Nat) (y' : ByteArray), j ≤ t → ys[t]? = some y' → lt x y' = true := by
    intro y hy hxy t y' ht hy'
    rcases Nat.lt_or_eq_of_le ht with h | rfl
    · obtain ⟨a1, rfl⟩ := List.getElem?_eq_some_iff.1 hy
      obtain ⟨a2, rfl⟩ := List.getElem?_eq_some_iff.1 hy'
      exact lin.tr _ _ _ hxy (List.pairwise_iff_getElem.1 hris j t a1 a2 h)
    · rw [hy] at hy'
      cases hy'
      exact hxy
  refine ⟨fun hlt => ?_, fun hge => ?_⟩
  · have hlt' : j < ys.length := by
      have : (j : Int) < (m.n : Int) := of_decide_eq_true hlt
      omega
    have hy : ys[j]? = some ys[j] := List.getElem?_eq_getElem hlt'
    obtain ⟨ad, ha, hc⟩ := hE.el _ _ hy
    refine ⟨ad, ha, ⟨by omega, by omega⟩, _, by rw [Int.toNat_natCast]; exact hc, fun h1 => ?_, fun h1 => ⟨fun _ => ?_, fun h => by rw [hlt] at h; cases h⟩⟩
    · have e : w64 ((j : Int) + 1) = ((j + 1 : Nat) : Int) := by rw [wrap64 (by omega) (by omega)]; omega
      rw [e]
      refine ⟨ys.length - (j + 1), by omega, j + 1, rfl, rfl, hlt', rfl, ?_⟩
      intro t y ht hy'
      rcases Nat.lt_or_eq_of_le (Nat.le_of_lt_succ ht) with h' | rfl
      · exact hlo t y h' hy'
      · rw [hy] at hy'
        cases hy'
        exact h1
    · refine ⟨ad, ha, ⟨by omega, by omega⟩, _, by rw [Int.toNat_natCast]; exact hc, fun h2 => ?_, fun h2 => ?_⟩
      · have e2 := beqS_iff.1 h2
        refine k m A ys hr hris ?_ (by omega) (Fr.refl _ _) (fun i hi => .inl hi)
        intro z
        constructor
        · exact .inl
        · rintro (h | rfl)
          · exact h
          · rw [← e2]; exact List.getElem_mem _
      · refine mkj (later hy ?_)
        rcases lin.tot x ys[j] with h | h | h
        · exact h
        · rw [beqS_iff.2 h.symm] at h2
          cases h2
        · have h1' : lt ys[j] x = false := h1
          rw [h1'] at h
          cases h
  · have hge' : j = ys.length := by
      have : ¬ (j : Int) < (m.n : Int) := of_decide_eq_false hge
      omega
    refine ⟨(fun h => by rw [hge] at h; cases h), fun _ => mkj ?_⟩
    intro t y ht hy
    have := (List.getElem?_eq_some_iff.1 hy).1
    omega
theorem rsorted_ok {l : Sl} {xs : List ByteArray} {K : Value → Hp → Prop} {Z : List PanicEntry → Hp → Prop} (h : Els val H l xs) (hbig : xs.length ≤ 2000000)
    (k : ∀ s' H' ys, Rising lt ys → (∀ z, z ∈ ys ↔ z ∈ xs) → Row H' 9 1 s' (ys.map val) → Fr no H H' → (∀ i, own s' i → H.size ≤ i) → K (.slice s'.a s'.n s'.c) H') :
    CallF Try.prog 61 #[.slice l.a l.n l.c] H K Z := by
  refine V61_ok ?_
  unfold V61
  have hl := h.len
  refine ⟨fun s i A m => ∃ (j : Nat) (ys : List ByteArray), i = (j : Int) ∧ j ≤ xs.length ∧ m = xs.length - j ∧ Row A 9 1 s (ys.map val) ∧ Rising lt ys ∧ (∀ z, z ∈ ys ↔ z ∈ xs.take j) ∧ ys.length ≤ j ∧ Fr no H A ∧ (∀ i, own s i → H.size ≤ i),
    ⟨_, 0, [], rfl, Nat.zero_le _, rfl, Row.nil _ _ _, List.Pairwise.nil, by simp, Nat.le_refl _, Fr.refl _ _, by rintro i ⟨o, e⟩; cases e⟩, ?_⟩
  rintro s i A m ⟨j, ys, rfl, hj, rfl, hr, hris, hmem, hyl, hf, ho⟩ scr
  refine ⟨fun hlt => ?_, fun hge => ?_⟩
  · have hlt' : j < xs.length := by
      have : (j : Int) < (l.n : Int) := of_decide_eq_true hlt
      omega
    have hx : xs[j]? = some xs[j] := List.getElem?_eq_getElem hlt'
    obtain ⟨ad, ha, hc⟩ := (h.keep hf (fun _ _ h => h)).el _ _ hx
    refine ⟨ad, ha, ⟨by omega, by omega⟩, _, by rw [Int.toNat_natCast]; exact hc, ?_⟩
    refine into_ok hr hris (by omega) ?_
    intro s' B zs r1 r2 r3 r4 r5 r6
    have e : w64 ((j : Int) + 1) = ((j + 1 : Nat) : Int) := by rw [wrap64 (by omega) (by omega)]; omega
    rw [e]
    refine ⟨s', rfl, xs.length - (j + 1), by omega, j + 1, zs, rfl, hlt', rfl, r1, r2, ?_, by omega, hf.trans r5, ?_⟩
    · intro z
      rw [r3 z, hmem z, List.take_succ_eq_append_getElem hlt', List.mem_append, List.mem_singleton]
    · intro i hi
      rcases r6 i hi with h' | h'
      · exact ho i h'
      · have := hf.size; omega
  · have hge' : j = xs.length := by
      have : ¬ (j : Int) < (l.n : Int) := of_decide_eq_false hge
      omega
    subst hge'
    rw [List.take_length] at hmem
    exact k s A ys hris hmem hr hf ho
end
end Go.Proofs.Ytigbdoicgdmliaa.Q05
end
