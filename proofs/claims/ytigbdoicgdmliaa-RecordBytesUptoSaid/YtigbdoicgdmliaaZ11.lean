import Derived.Test.YtigbdoicgdmliaaZ10
section
/- What is great: lists, systems and summaries. -/
set_option linter.unusedVariables false
set_option linter.unusedSimpArgs false
-- greatTexts: 41
-- great24: 46
-- greatKeeps: 92
-- great15: 91
-- tSys: 88
-- tSum: 90
-- tCon: 136
namespace Go.Proofs.Ytigbdoicgdmliaa.C26G
open Go Go.V Go.Proofs Go.Proofs.Ytigbdoicgdmliaa.N26
attribute [local irreducible] Cvt ExtF CallF hrun App MkS callV
section
variable {H : Hp} {K : Value → Hp → Prop} {Z : List PanicEntry → Hp → Prop}
theorem greatTexts_ok {s : Sl} {xs : List L8} (h : Rd flL 1 H s xs) (k : ∀ y, (y = false → xs.length ≤ 60) → K (.bool y) H) : CallF Try.prog 41 #[.slice s.a s.n s.c] H K Z := by
  refine V41_ok ?_
  unfold V41
  have hl := h.len
  refine ⟨fun i C m => ∃ j : Nat, C = H ∧ i = (j : Int) ∧ j ≤ xs.length ∧ j ≤ 60 ∧ m = xs.length - j, ⟨_, 0, rfl, rfl, Nat.zero_le _, by decide, rfl⟩, ?_⟩
  rintro i C m ⟨j, rfl, rfl, hj, h60, rfl⟩ scr
  refine ⟨fun hlt => ⟨fun h1 => k true (fun h => by cases h), fun h1 => ?_⟩, fun hge => ?_⟩
  · have hj' : j < xs.length := by have := dlt hlt; omega
    have h1' : j < 60 := by have := of_decide_eq_false h1; omega
    obtain ⟨x, hx, _⟩ := getN hj'
    refine atL h hx fun ad e => ⟨_, e, fun _ => k true (fun h => by cases h), fun _ => ⟨_, (by omega : xs.length - (j + 1) < _), j + 1, rfl, wi (by omega), hj', by omega, rfl⟩⟩
  · have := dge hge
    exact k false fun _ => by omega
theorem greatKeeps_ok {s : Sl} {xs : List L8} (h : Rd flL 1 H s xs) (hb : xs.length ≤ 1048576) (k : ∀ y, K (.bool y) H) : CallF Try.prog 92 #[.slice s.a s.n s.c] H K Z := by
  refine V92_ok ?_
  unfold V92
  have hl := h.len
  refine ⟨fun i C m => ∃ j : Nat, C = H ∧ i = (j : Int) ∧ j ≤ xs.length ∧ m = xs.length - j, ⟨_, 0, rfl, rfl, Nat.zero_le _, rfl⟩, ?_⟩
  rintro i C m ⟨j, rfl, rfl, hj, rfl⟩ scr
  refine ⟨fun hlt => ?_, fun hge => k _⟩
  have hj' : j < xs.length := by have := dlt hlt; omega
  obtain ⟨x, hx, _⟩ := getN hj'
  refine atL h hx fun ad e => ⟨_, e, fun _ => k _, fun _ => ⟨_, (by omega : xs.length - (j + 1) < _), j + 1, rfl, wi (by omega), hj', rfl⟩⟩
theorem len8 {x : L8} (h : x.length ≤ 1048576) : ((str x).size : Int) ≤ 1048576 := by rw [str_size]; omega
theorem great15_ok {s1 s2 s3 : Sl} {x : SysD} {most : Nat} (h : RdSys H s1 s2 s3 x) (hb : OkSys x) (k : ∀ y H', Fr no H H' → (y = false → Mild most x) → K (.bool y) H') : CallF Try.prog 91 #[.agg #[.slice s1.a s1.n s1.c, .slice s2.a s2.n s2.c, .slice s3.a s3.n s3.c], .int .i64 (most : Int)] H K Z := by
  refine V91_ok ?_
  unfold V91
  intro bS A hA
  have sA := (Sym.start H).newb (cs := [.slice s1.a s1.n s1.c, .slice s2.a s2.n s2.c, .slice s3.a s3.n s3.c]) hA
  have l1 := h.o.len
  have l2 := h.f.len
  have l3 := h.c.len
  have b1 := hb.o.1
  have b2 := hb.f.1
  have b3 := hb.c.1
  refine ⟨fun C => C = A ∧ x.objs.length ≤ most ∧ x.fns.length ≤ most ∧ x.cons.length ≤ most, ?_, _, sA.ld (k := 0) rfl 0, fun _ => k _ _ sA.fr (fun h => by cases h), fun g1 => ⟨_, sA.ld (k := 0) rfl 1, fun _ => k _ _ sA.fr (fun h => by cases h), fun g2 => ⟨_, sA.ld (k := 0) rfl 2, fun _ => k _ _ sA.fr (fun h => by cases h), fun g3 => ⟨rfl, ?_, ?_, ?_⟩⟩⟩⟩
  rotate_left
  · have := of_decide_eq_false g1; omega
  · have := of_decide_eq_false g2; omega
  · have := of_decide_eq_false g3; omega
  rintro B0 ⟨hB0, m1, m2, m3⟩ scr
  rw [← hB0] at sA
  refine ⟨fun n i C m => ∃ j : Nat, C = B0 ∧ i = (j : Int) ∧ j ≤ x.objs.length ∧ m = x.objs.length - j ∧ 0 ≤ n ∧ n ≤ 30000 ∧ ∀ o ∈ x.objs.take j, o.marks.length ≤ 3000, ⟨_, 0, rfl, rfl, Nat.zero_le _, rfl, by omega, by omega, by simp⟩, ?_⟩
  rintro n i C m ⟨j, rfl, rfl, hj, rfl, n0, n1, hall⟩ scr1
  have hC := h.more sA.fr
  refine ⟨_, sA.ld (k := 0) rfl 0, fun hlt => ?_, fun hge => ?_⟩
  · have hj' : j < x.objs.length := by have := dlt hlt; omega
    obtain ⟨o, ho, hm⟩ := getN hj'
    obtain ⟨q1, q2, q3, q4⟩ := hb.o.2 o hm
    obtain ⟨t, ht, ix⟩ := atO hC.o ho
    have lt := ht.len
    have z1 := len8 q1
    have z2 := len8 q2
    refine ⟨_, sA.ld (k := 0) rfl 0, ix fun ad e1 e2 e3 => ⟨_, e1, _, sA.ld (k := 0) rfl 0, ix fun ad2 e1' e2' e3' => ⟨_, e2', _, sA.ld (k := 0) rfl 0, ix fun ad3 f1 f2 f3 => ⟨t, f3, ?_⟩⟩⟩⟩
    rw [wid (x := n + ((str o.name).size : Int)) (by omega) (by omega), wid (x := 10 * (t.n : Int)) (by omega) (by omega), wid (x := n + ((str o.name).size : Int) + ((str o.kinds).size : Int)) (by omega) (by omega), wid (by omega) (by omega)]
    generalize hb0 : n + ((str o.name).size : Int) + ((str o.kinds).size : Int) + 10 * (t.n : Int) = base
    have hbase : 10 * (o.marks.length : Int) ≤ base ∧ base ≤ 30000 + 12 * 1048576 := by omega
    refine ⟨fun n' i' C' m' => ∃ q : Nat, C' = C ∧ i' = (q : Int) ∧ q ≤ o.marks.length ∧ q ≤ 100 ∧ m' = o.marks.length - q ∧ base ≤ n' ∧ n' ≤ base + q * 1048576, ⟨_, 0, rfl, rfl, Nat.zero_le _, by decide, rfl, by omega, by omega⟩, ?_⟩
    rintro n' i' C' m' ⟨q, rfl, rfl, hq, hq2, rfl, p1, p2⟩ scr2
    have out : ((decide (n' > 30000)) = true → K (.bool true) C') ∧ ((decide (n' > 30000)) = false → ∃ m2, m2 < x.objs.length - j ∧ ∃ j' : Nat, C' = C' ∧ w64 ((j : Int) + 1) = (j' : Int) ∧ j' ≤ x.objs.length ∧ m2 = x.objs.length - j' ∧ 0 ≤ n' ∧ n' ≤ 30000 ∧ ∀ o ∈ x.objs.take j', o.marks.length ≤ 3000) := by
      refine ⟨fun _ => k _ _ sA.fr (fun h => by cases h), fun hn => ⟨x.objs.length - (j + 1), by omega, j + 1, rfl, wi (by omega), hj', rfl, by omega, ?_, ?_⟩⟩
      · have := of_decide_eq_false hn; omega
      · have := of_decide_eq_false hn
        exact all_snoc ho hall (by omega)
    refine ⟨_, sA.ld (k := 0) rfl 0, ix fun ad4 g1 g2 g3 => ⟨t, g3, fun hlt2 => ⟨fun h100 => ?_, fun _ => out⟩, fun _ => out⟩⟩
    have hq' : q < o.marks.length := by have := dlt hlt2; omega
    have h100' : q < 100 := by have := of_decide_eq_true h100; omega
    obtain ⟨y, hy, hym⟩ := getN hq'
    have z3 := len8 (q4 y hym)
    refine ⟨_, sA.ld (k := 0) rfl 0, ix fun ad5 g1 g2 g3 => ⟨t, g3, atM ht hy fun ad6 e5 e6 => ⟨_, e6, o.marks.length - (q + 1), by omega, q + 1, rfl, wi (by omega), hq', by omega, rfl, ?_, ?_⟩⟩⟩
    · rw [wid (by omega) (by omega)]; omega
    · rw [wid (by omega) (by omega)]; omega
  have hjl : j = x.objs.length := by have := dge hge; omega
  have hallO : ∀ o ∈ x.objs, o.marks.length ≤ 3000 := by rw [hjl, List.take_length] at hall; exact hall
  refine ⟨fun n i C' m => ∃ j : Nat, C' = C ∧ i = (j : Int) ∧ j ≤ x.fns.length ∧ m = x.fns.length - j ∧ 0 ≤ n ∧ n ≤ 30000, ⟨_, 0, rfl, rfl, Nat.zero_le _, rfl, n0, n1⟩, ?_⟩
  rintro n i C' m ⟨j, rfl, rfl, hj, rfl, n0, n1⟩ scr2
  refine ⟨_, sA.ld (k := 0) rfl 1, fun hlt => ?_, fun hge => ?_⟩
  · have hj' : j < x.fns.length := by have := dlt hlt; omega
    obtain ⟨o, ho, hm⟩ := getN hj'
    obtain ⟨q1, q2, q3⟩ := hb.f.2 o hm
    have z1 := len8 q1
    have z2 := len8 q2
    have z3 := len8 q3
    refine ⟨_, sA.ld (k := 0) rfl 1, atF hC.f ho fun ad e1 _ _ => ⟨_, e1, _, sA.ld (k := 0) rfl 1, atF hC.f ho fun ad2 _ e2 _ => ⟨_, e2, _, sA.ld (k := 0) rfl 1, atF hC.f ho fun ad3 _ _ e3 => ⟨_, e3, fun _ => k _ _ sA.fr (fun h => by cases h), fun hn => ?_⟩⟩⟩⟩
    rw [wid (x := n + ((str o.name).size : Int)) (by omega) (by omega), wid (x := n + ((str o.name).size : Int) + ((str o.kinds).size : Int)) (by omega) (by omega), wid (by omega) (by omega)] at hn ⊢
    have hn' := of_decide_eq_false hn
    exact ⟨x.fns.length - (j + 1), by omega, j + 1, rfl, wi (by omega), hj', rfl, by omega, by omega⟩
  -- the constraints
  clear hj hge hjl hall
  refine ⟨fun n i C m => ∃ j : Nat, i = (j : Int) ∧ j ≤ x.cons.length ∧ m = x.cons.length - j ∧ 0 ≤ n ∧ n ≤ 60000 ∧ Sym H no C [blk bS [.slice s1.a s1.n s1.c, .slice s2.a s2.n s2.c, .slice s3.a s3.n s3.c] 88] ∧ ∀ o ∈ x.cons.take j, o.args.length ≤ 6000, ⟨_, 0, rfl, Nat.zero_le _, rfl, n0, by omega, sA, by simp⟩, ?_⟩
  rintro n i C m ⟨j, rfl, hj, rfl, n0, n1, sC, hall⟩ scr1
  have hC := h.more sC.fr
  refine ⟨_, sC.ld (k := 0) rfl 2, fun hlt => ?_, fun hge => k _ _ sC.fr fun _ => ?_⟩
  · have hj' : j < x.cons.length := by have := dlt hlt; omega
    obtain ⟨o, ho, hm⟩ := getN hj'
    obtain ⟨q1, q2, q3, q4, q5⟩ := hb.c.2 o hm
    obtain ⟨t, ht, ix⟩ := atC hC.c ho
    have lt := ht.len
    have z1 := len8 q1
    have z2 := len8 q2
    have z3 := len8 q3
    refine ⟨_, sC.ld (k := 0) rfl 2, ix fun ad e1 e2 e3 e4 e5 e6 => ⟨_, _, _, _, _, t, ⟨e1, e2, e3, e4, e5, e6, trivial⟩, fun bC D hD => ?_⟩⟩
    have sD := (Sym.start C).newb (cs := [.int .i64 0, .string ⟨#[]⟩, .string ⟨#[]⟩, .int .i64 0, .string ⟨#[]⟩, .slice none 0 0]) hD
    refine sD.stbs (k := 0) (i := 0) (vs := [.int .i64 o.op, .string (str o.a), .string (str o.b), .int .i64 o.k, .string (str o.tag), .slice t.a t.n t.c]) rfl (by simp) (by intro v hv; exact FlHC.one (o.op, o.a, o.b, o.k, o.tag, t) v hv) fun E sE => ?_
    replace sE : Sym C no E [blk bC [.int .i64 o.op, .string (str o.a), .string (str o.b), .int .i64 o.k, .string (str o.tag), .slice t.a t.n t.c] 136] := sE
    have sE2 := sC.more sE.fr
    refine ⟨_, sE.ld (k := 0) rfl 1, _, sE.ld (k := 0) rfl 2, _, sE.ld (k := 0) rfl 4, t, sE.ld (k := 0) rfl 5, ?_⟩
    rw [wid (x := n + ((str o.a).size : Int)) (by omega) (by omega), wid (x := 10 * (t.n : Int)) (by omega) (by omega), wid (x := n + ((str o.a).size : Int) + ((str o.b).size : Int)) (by omega) (by omega), wid (x := n + ((str o.a).size : Int) + ((str o.b).size : Int) + ((str o.tag).size : Int)) (by omega) (by omega), wid (by omega) (by omega)]
    generalize hb0 : n + ((str o.a).size : Int) + ((str o.b).size : Int) + ((str o.tag).size : Int) + 10 * (t.n : Int) = base
    have hbase : 10 * (o.args.length : Int) ≤ base ∧ base ≤ 60000 + 13 * 1048576 := by omega
    refine ⟨fun n' i' C' m' => ∃ q : Nat, C' = E ∧ i' = (q : Int) ∧ q ≤ o.args.length ∧ q ≤ 100 ∧ m' = o.args.length - q ∧ base ≤ n' ∧ n' ≤ base + q * 1048576, ⟨_, 0, rfl, rfl, Nat.zero_le _, by decide, rfl, by omega, by omega⟩, ?_⟩
    rintro n' i' C' m' ⟨q, rfl, rfl, hq, hq2, rfl, p1, p2⟩ scr2
    have out : ((decide (n' > 60000)) = true → K (.bool true) C') ∧ ((decide (n' > 60000)) = false → ∃ m2, m2 < x.cons.length - j ∧ ∃ j' : Nat, w64 ((j : Int) + 1) = (j' : Int) ∧ j' ≤ x.cons.length ∧ m2 = x.cons.length - j' ∧ 0 ≤ n' ∧ n' ≤ 60000 ∧ Sym H no C' [blk bS [.slice s1.a s1.n s1.c, .slice s2.a s2.n s2.c, .slice s3.a s3.n s3.c] 88] ∧ ∀ o ∈ x.cons.take j', o.args.length ≤ 6000) := by
      refine ⟨fun _ => k _ _ sE2.fr (fun h => by cases h), fun hn => ⟨x.cons.length - (j + 1), by omega, j + 1, wi (by omega), hj', rfl, by omega, ?_, sE2, ?_⟩⟩
      · have := of_decide_eq_false hn; omega
      · have := of_decide_eq_false hn
        exact all_snoc ho hall (by omega)
    refine ⟨t, sE.ld (k := 0) rfl 5, fun hlt2 => ⟨fun h100 => ?_, fun _ => out⟩, fun _ => out⟩
    have hq' : q < o.args.length := by have := dlt hlt2; omega
    have h100' : q < 100 := by have := of_decide_eq_true h100; omega
    obtain ⟨y, hy, hym⟩ := getN hq'
    have z4 := len8 (q5 y hym)
    refine ⟨t, sE.ld (k := 0) rfl 5, atL (ht.more sE.fr) hy fun ad6 e6 => ⟨_, e6, o.args.length - (q + 1), by omega, q + 1, rfl, wi (by omega), hq', by omega, rfl, ?_, ?_⟩⟩
    · rw [wid (by omega) (by omega)]; omega
    · rw [wid (by omega) (by omega)]; omega
  · have hjl : j = x.cons.length := by have := dge hge; omega
    rw [hjl, List.take_length] at hall
    exact ⟨⟨m1, hallO⟩, m2, ⟨m3, hall⟩⟩
theorem great24_ok {x : SumD} {s1 s2 s3 s4 s5 s6 : Sl} (h : RdSum H s1 s2 s3 s4 s5 s6 x) (hb : OkSum x) (k : ∀ y H', Fr no H H' → (y = false → MildS x) → K (.bool y) H') :
    CallF Try.prog 46 #[.agg #[.string (str x.name), .slice s1.a s1.n s1.c, .slice s2.a s2.n s2.c, .slice s3.a s3.n s3.c, .slice s4.a s4.n s4.c, .slice s5.a s5.n s5.c, .slice s6.a s6.n s6.c]] H K Z := by
  refine V46_ok ?_
  unfold V46
  intro bS A hA
  have sA := (Sym.start H).newb (cs := [.string (str x.name), .slice s1.a s1.n s1.c, .slice s2.a s2.n s2.c, .slice s3.a s3.n s3.c, .slice s4.a s4.n s4.c, .slice s5.a s5.n s5.c, .slice s6.a s6.n s6.c]) hA
  have hA' := h.more sA.fr
  have l3 := h.k.len
  refine ⟨_, sA.ld (k := 0) rfl 0, fun _ => k _ _ sA.fr (fun h => by cases h), fun _ => ⟨s4, s5, s6, ⟨sA.ld (k := 0) rfl 4, sA.ld (k := 0) rfl 5, sA.ld (k := 0) rfl 6, trivial⟩, great15_ok (most := 80) hA'.s hb.s fun y B fB hm => ⟨y, rfl, fun _ => k _ _ (sA.fr.trans fB) (fun h => by cases h), fun hy => ?_⟩⟩⟩
  have sB := sA.more fB
  have hB' := hA'.more fB
  refine ⟨s1, sB.ld (k := 0) rfl 1, greatTexts_ok hB'.g fun y1 hy1 => ⟨y1, rfl, fun _ => k _ _ sB.fr (fun h => by cases h), fun h1 => ⟨s2, sB.ld (k := 0) rfl 2, greatTexts_ok hB'.w fun y2 hy2 => ⟨y2, rfl, fun _ => k _ _ sB.fr (fun h => by cases h), fun h2 => ⟨s3, sB.ld (k := 0) rfl 3, fun _ => k _ _ sB.fr (fun h => by cases h), fun h3 => ⟨s3, sB.ld (k := 0) rfl 3, greatKeeps_ok hB'.k hb.k.1 fun y3 => ⟨y3, rfl, k _ _ sB.fr fun _ => ⟨hy1 h1, hy2 h2, ?_, hm hy⟩⟩⟩⟩⟩⟩⟩⟩
  have := of_decide_eq_false h3
  omega
end
end Go.Proofs.Ytigbdoicgdmliaa.C26G
end

section
/- Systems and summaries that are equal are the same: weftref15's and weftref24's. -/
set_option linter.unusedVariables false
set_option linter.unusedSimpArgs false
-- same5: 50
-- same24: 44
-- same15: 90
-- sameObj: 115
-- cmp15: 116
-- ints15: 144
-- texts15: 145
-- tInts: 22
-- tInt: 3
-- tSys: 88
-- tSum: 90
-- tCon: 136
-- tObj: 128
namespace Go.Proofs.Ytigbdoicgdmliaa.C26E
open Go Go.V Go.Proofs Go.Proofs.Ytigbdoicgdmliaa.N26
attribute [local irreducible] Cvt ExtF CallF hrun App MkS callV
theorem tyInt : TyS Try.prog 22 3 1 8 (.int .i64 0) := ⟨by kernel_rfl, by kernel_rfl, rfl, by decide⟩
theorem els_of {A : Hp} {s : Sl} {ts : List L8} (h : Rd flL 1 A s ts) : Els C05S.val A s (ts.map str) := rd_els (fun _ => rfl) h
section
variable {H : Hp} {K : Value → Hp → Prop} {Z : List PanicEntry → Hp → Prop}
theorem sameT_ok {a b : Sl} {xs : List L8} (h1 : Rd flL 1 H a xs) (h2 : Rd flL 1 H b xs) (hb : xs.length ≤ 1000000000) (k : K (.bool true) H) : CallF Try.prog 50 #[.slice a.a a.n a.c, .slice b.a b.n b.c] H K Z :=
  Q05.same_ok (els_of h1) (els_of h2) (by rw [List.length_map]; exact hb) k
theorem ints_ok {a : Int} (k : K (.int .i64 0) H) : CallF Try.prog 144 #[.int .i64 a, .int .i64 a] H K Z := by
  refine V144_ok ?_
  unfold V144
  refine ⟨fun h => absurd (of_decide_eq_true h) (by omega), fun _ => ⟨fun h => absurd (of_decide_eq_true h) (by omega), fun _ => k⟩⟩
theorem texts_ok {a : ByteArray} (k : K (.int .i64 0) H) : CallF Try.prog 145 #[.string a, .string a] H K Z := by
  refine V145_ok ?_
  unfold V145
  have e : beqS a a = true := beqS_iff.2 rfl
  refine ⟨fun h => ?_, fun h => ⟨fun h => ?_, fun _ => k⟩⟩
  · have := linS.irr a
    rw [this] at h
    cases h
  · rw [e] at h
    simp at h
theorem cmp_ok {x : ConD} {s t : Sl} (h1 : Rd flL 1 H s x.args) (h2 : Rd flL 1 H t x.args) (hb : x.args.length ≤ 1048576) (k : ∀ H', Fr no H H' → K (.int .i64 0) H') :
    CallF Try.prog 116 #[.agg #[.int .i64 x.op, .string (str x.a), .string (str x.b), .int .i64 x.k, .string (str x.tag), .slice s.a s.n s.c], .agg #[.int .i64 x.op, .string (str x.a), .string (str x.b), .int .i64 x.k, .string (str x.tag), .slice t.a t.n t.c]] H K Z := by
  refine V116_ok ?_
  unfold V116
  intro bA A hA bB B hB
  have sA := (Sym.start H).newb (cs := [.int .i64 x.op, .string (str x.a), .string (str x.b), .int .i64 x.k, .string (str x.tag), .slice s.a s.n s.c]) hA
  have sB := sA.newb (cs := [.int .i64 x.op, .string (str x.a), .string (str x.b), .int .i64 x.k, .string (str x.tag), .slice t.a t.n t.c]) hB
  have a : ∀ i, hcell B ⟨bA, i, none⟩ = _ := fun i => sB.ld (k := 1) rfl i
  have b : ∀ i, hcell B ⟨bB, i, none⟩ = _ := fun i => sB.ld (k := 0) rfl i
  refine ⟨_, a 0, _, b 0, _, a 1, _, b 1, _, a 2, _, b 2, _, a 3, _, b 3, _, a 4, _, b 4, ints_ok ⟨_, rfl, b 4, a 4, b 3, a 3, b 2, a 2, b 1, a 1, texts_ok ⟨_, rfl, b 4, a 4, b 3, a 3, b 2, a 2, texts_ok ⟨_, rfl, b 4, a 4, b 3, a 3, ints_ok ⟨_, rfl, b 4, a 4, texts_ok ⟨_, rfl, fun bL C hC => ?_⟩⟩⟩⟩⟩⟩
  have sC := sB.lit (l := [0, 0, 0, 0, 0]) FlI (by decide) hC (show 5 = _ from rfl)
  have l1 := h1.len
  have l2 := h2.len
  refine ⟨fun l D => ∃ n : Nat, n ≤ 5 + x.args.length ∧ Sym H no D [arr flI 3 1 l (List.replicate n 0), blk bB [.int .i64 x.op, .string (str x.a), .string (str x.b), .int .i64 x.k, .string (str x.tag), .slice t.a t.n t.c] 136, blk bA [.int .i64 x.op, .string (str x.a), .string (str x.b), .int .i64 x.k, .string (str x.tag), .slice s.a s.n s.c] 136], ?_, ?_⟩
  · rintro l D ⟨n, hn, sD⟩ scr
    refine ⟨s, sD.ld (k := 2) rfl 5, t, sD.ld (k := 1) rfl 5, ?_⟩
    rw [l1, l2]
    refine ints_ok ⟨_, rfl, fun b1 E hE => ?_⟩
    have hl := (sD.rd (k := 0) FlI (by decide) rfl).len
    rw [List.length_replicate] at hl
    refine sD.app1 (k := 0) (x := 0) tyInt FlI (by decide) hE rfl (by omega) fun ap F hap sF => ?_
    have sF := sF.re [0] (by decide)
    replace sF : Sym H no F [arr flI 3 1 ap (List.replicate n 0 ++ [0])] := sF
    rw [← List.replicate_succ'] at sF
    have hr := sF.rd (k := 0) FlI (by decide) rfl
    refine ⟨fun i G m => ∃ j : Nat, G = F ∧ i = (j : Int) ∧ j ≤ n + 1 ∧ m = n + 1 - j, ⟨_, 0, rfl, rfl, Nat.zero_le _, rfl⟩, ?_⟩
    rintro i G m ⟨j, rfl, rfl, hj, rfl⟩ scr1
    refine ⟨fun hlt => ?_, fun _ => k _ sF.fr⟩
    have hj' : j < n + 1 := by have := dlt hlt; omega
    have hx : (List.replicate (n + 1) (0 : Int))[j]? = some 0 := by rw [List.getElem?_replicate, if_pos hj']
    refine hr.ixn FlI hx fun ad e => ⟨0, e, (fun h => by cases h), fun _ => ⟨n + 1 - (j + 1), by omega, j + 1, rfl, wi (by omega), hj', rfl⟩⟩
  refine ⟨fun l i D m => ∃ j : Nat, i = (j : Int) ∧ j ≤ x.args.length ∧ m = x.args.length - j ∧ Sym H no D [arr flI 3 1 l (List.replicate (5 + j) 0), blk bB [.int .i64 x.op, .string (str x.a), .string (str x.b), .int .i64 x.k, .string (str x.tag), .slice t.a t.n t.c] 136, blk bA [.int .i64 x.op, .string (str x.a), .string (str x.b), .int .i64 x.k, .string (str x.tag), .slice s.a s.n s.c] 136], ⟨_, 0, rfl, Nat.zero_le _, rfl, sC⟩, ?_⟩
  rintro l i D m ⟨j, rfl, hj, rfl, sD⟩ scr
  refine ⟨s, sD.ld (k := 2) rfl 5, fun hlt => ⟨t, sD.ld (k := 1) rfl 5, fun hlt2 => ?_, fun _ => ⟨5 + j, by omega, sD⟩⟩, fun _ => ⟨5 + j, by omega, sD⟩⟩
  have hj' : j < x.args.length := by have := dlt hlt; omega
  obtain ⟨y, hy, _⟩ := getN hj'
  refine ⟨s, sD.ld (k := 2) rfl 5, atL (h1.more sD.fr) hy fun ad e => ⟨_, e, t, sD.ld (k := 1) rfl 5, atL (h2.more sD.fr) hy fun ad2 e2 => ⟨_, e2, texts_ok ⟨_, rfl, fun b2 E hE => ?_⟩⟩⟩⟩
  have hl := (sD.rd (k := 0) FlI (by decide) rfl).len
  rw [List.length_replicate] at hl
  refine sD.app1 (k := 0) (x := 0) tyInt FlI (by decide) hE rfl (by omega) fun ap F hap sF => ⟨x.args.length - (j + 1), by omega, j + 1, wi (by omega), hj', rfl, ?_⟩
  rw [show 5 + (j + 1) = (5 + j) + 1 from rfl, List.replicate_succ']
  exact sF
theorem bself (a : ByteArray) : (a == a) = true := by
  show (a.data == a.data) = true
  simp
theorem sameObj_ok {x : ObjD} {s t : Sl} (h1 : Rd flM 2 H s x.marks) (h2 : Rd flM 2 H t x.marks) (hb : x.marks.length ≤ 1048576) (k : ∀ H', Fr no H H' → K (.bool true) H') :
    CallF Try.prog 115 #[.agg #[.string (str x.name), .string (str x.kinds), .slice s.a s.n s.c], .agg #[.string (str x.name), .string (str x.kinds), .slice t.a t.n t.c]] H K Z := by
  refine V115_ok ?_
  unfold V115
  intro bA A hA bB B hB
  have sA := (Sym.start H).newb (cs := [.string (str x.name), .string (str x.kinds), .slice s.a s.n s.c]) hA
  have sB := sA.newb (cs := [.string (str x.name), .string (str x.kinds), .slice t.a t.n t.c]) hB
  have l1 := h1.len
  have l2 := h2.len
  have e1 : beqS (str x.name) (str x.name) = true := beqS_iff.2 rfl
  have e2 : beqS (str x.kinds) (str x.kinds) = true := beqS_iff.2 rfl
  refine ⟨fun C => C = B, ?_, _, sB.ld (k := 1) rfl 0, _, sB.ld (k := 0) rfl 0, fun h => (by rw [e1] at h; cases h), fun _ => ⟨_, sB.ld (k := 1) rfl 1, _, sB.ld (k := 0) rfl 1, fun h => (by rw [e2] at h; cases h), fun _ => ⟨s, sB.ld (k := 1) rfl 2, t, sB.ld (k := 0) rfl 2, fun h => (by rw [l1, l2] at h; simp at h), fun _ => rfl⟩⟩⟩
  rintro _ rfl scr
  rename_i B
  refine ⟨fun i C m => ∃ j : Nat, C = B ∧ i = (j : Int) ∧ j ≤ x.marks.length ∧ m = x.marks.length - j, ⟨_, 0, rfl, rfl, Nat.zero_le _, rfl⟩, ?_⟩
  rintro i C m ⟨j, rfl, rfl, hj, rfl⟩ scr1
  refine ⟨s, sB.ld (k := 1) rfl 2, fun hlt => ⟨t, sB.ld (k := 0) rfl 2, fun hlt2 => ?_, fun _ => k _ sB.fr⟩, fun _ => k _ sB.fr⟩
  have hj' : j < x.marks.length := by have := dlt hlt; omega
  obtain ⟨y, hy, _⟩ := getN hj'
  refine ⟨s, sB.ld (k := 1) rfl 2, atM (h1.more sB.fr) hy fun ad e1 e2 => ⟨_, _, ⟨e1, e2, trivial⟩, t, sB.ld (k := 0) rfl 2, atM (h2.more sB.fr) hy fun ad2 e3 e4 => ⟨_, _, ⟨e3, e4, trivial⟩, fun h => ?_, fun _ => ⟨x.marks.length - (j + 1), by omega, j + 1, rfl, wi (by omega), hj', rfl⟩⟩⟩⟩
  rw [bself] at h
  simp at h
theorem same15_ok {x : SysD} {s1 s2 s3 t1 t2 t3 : Sl} (h1 : RdSys H s1 s2 s3 x) (h2 : RdSys H t1 t2 t3 x) (hb : LenSys x) (k : ∀ H', Fr no H H' → K (.bool true) H') :
    CallF Try.prog 90 #[.agg #[.slice s1.a s1.n s1.c, .slice s2.a s2.n s2.c, .slice s3.a s3.n s3.c], .agg #[.slice t1.a t1.n t1.c, .slice t2.a t2.n t2.c, .slice t3.a t3.n t3.c]] H K Z := by
  refine V90_ok ?_
  unfold V90
  intro bA A hA bB B hB
  have sA := (Sym.start H).newb (cs := [.slice s1.a s1.n s1.c, .slice s2.a s2.n s2.c, .slice s3.a s3.n s3.c]) hA
  have sB := sA.newb (cs := [.slice t1.a t1.n t1.c, .slice t2.a t2.n t2.c, .slice t3.a t3.n t3.c]) hB
  have ne : ∀ n : Nat, ((n : Int) != (n : Int)) = true → False := fun n h => by simp at h
  have a1 := h1.o.len
  have a2 := h1.f.len
  have a3 := h1.c.len
  have b1 := h2.o.len
  have b2 := h2.f.len
  have b3 := h2.c.len
  have m1 := hb.o.1
  have m2 := hb.f
  have m3 := hb.c.1
  refine ⟨fun C => C = B, ?_, s1, sB.ld (k := 1) rfl 0, t1, sB.ld (k := 0) rfl 0, fun h => (by rw [a1, b1] at h; exact (ne _ h).elim), fun _ => ⟨s2, sB.ld (k := 1) rfl 1, t2, sB.ld (k := 0) rfl 1, fun h => (by rw [a2, b2] at h; exact (ne _ h).elim), fun _ => ⟨s3, sB.ld (k := 1) rfl 2, t3, sB.ld (k := 0) rfl 2, fun h => (by rw [a3, b3] at h; exact (ne _ h).elim), fun _ => rfl⟩⟩⟩
  rintro C hC scr
  rw [← hC] at sB
  clear hC
  refine ⟨fun i C m => ∃ j : Nat, i = (j : Int) ∧ j ≤ x.objs.length ∧ m = x.objs.length - j ∧ Sym H no C [blk bB [.slice t1.a t1.n t1.c, .slice t2.a t2.n t2.c, .slice t3.a t3.n t3.c] 88, blk bA [.slice s1.a s1.n s1.c, .slice s2.a s2.n s2.c, .slice s3.a s3.n s3.c] 88], ⟨_, 0, rfl, Nat.zero_le _, rfl, sB⟩, ?_⟩
  rintro i C m ⟨j, rfl, hj, rfl, sC⟩ scr1
  refine ⟨s1, sC.ld (k := 1) rfl 0, fun hlt => ?_, fun _ => ?_⟩
  · have hj' : j < x.objs.length := by have := dlt hlt; omega
    obtain ⟨y, hy, hm⟩ := getN hj'
    obtain ⟨u, hu, iu⟩ := atO (h1.o.more sC.fr) hy
    obtain ⟨v, hv, iv⟩ := atO (h2.o.more sC.fr) hy
    refine ⟨s1, sC.ld (k := 1) rfl 0, iu fun ad e1 e2 e3 => ⟨_, _, u, ⟨e1, e2, e3, trivial⟩, t1, sC.ld (k := 0) rfl 0, iv fun ad2 f1 f2 f3 => ⟨_, _, v, ⟨f1, f2, f3, trivial⟩, sameObj_ok hu hv (hb.o.2 y hm) fun D fD => ⟨_, rfl, (fun h => by cases h), fun _ => ⟨x.objs.length - (j + 1), by omega, j + 1, wi (by omega), hj', rfl, sC.more fD⟩⟩⟩⟩⟩
  clear hj
  refine ⟨fun i C m => ∃ j : Nat, i = (j : Int) ∧ j ≤ x.fns.length ∧ m = x.fns.length - j ∧ Sym H no C [blk bB [.slice t1.a t1.n t1.c, .slice t2.a t2.n t2.c, .slice t3.a t3.n t3.c] 88, blk bA [.slice s1.a s1.n s1.c, .slice s2.a s2.n s2.c, .slice s3.a s3.n s3.c] 88], ⟨_, 0, rfl, Nat.zero_le _, rfl, sC⟩, ?_⟩
  rintro i C m ⟨j, rfl, hj, rfl, sC⟩ scr1
  refine ⟨s2, sC.ld (k := 1) rfl 1, fun hlt => ?_, fun _ => ?_⟩
  · have hj' : j < x.fns.length := by have := dlt hlt; omega
    obtain ⟨y, hy, hm⟩ := getN hj'
    refine ⟨s2, sC.ld (k := 1) rfl 1, atF (h1.f.more sC.fr) hy fun ad e1 e2 e3 => ⟨_, _, _, ⟨e1, e2, e3, trivial⟩, t2, sC.ld (k := 0) rfl 1, atF (h2.f.more sC.fr) hy fun ad2 f1 f2 f3 => ⟨_, _, _, ⟨f1, f2, f3, trivial⟩, fun h => (by rw [bself, bself, bself] at h; cases h), fun _ => ⟨x.fns.length - (j + 1), by omega, j + 1, wi (by omega), hj', rfl, sC⟩⟩⟩⟩
  clear hj
  refine ⟨fun i C m => ∃ j : Nat, i = (j : Int) ∧ j ≤ x.cons.length ∧ m = x.cons.length - j ∧ Sym H no C [blk bB [.slice t1.a t1.n t1.c, .slice t2.a t2.n t2.c, .slice t3.a t3.n t3.c] 88, blk bA [.slice s1.a s1.n s1.c, .slice s2.a s2.n s2.c, .slice s3.a s3.n s3.c] 88], ⟨_, 0, rfl, Nat.zero_le _, rfl, sC⟩, ?_⟩
  rintro i C m ⟨j, rfl, hj, rfl, sC⟩ scr1
  refine ⟨s3, sC.ld (k := 1) rfl 2, fun hlt => ?_, fun _ => k _ sC.fr⟩
  have hj' : j < x.cons.length := by have := dlt hlt; omega
  obtain ⟨y, hy, hm⟩ := getN hj'
  obtain ⟨u, hu, iu⟩ := atC (h1.c.more sC.fr) hy
  obtain ⟨v, hv, iv⟩ := atC (h2.c.more sC.fr) hy
  refine ⟨s3, sC.ld (k := 1) rfl 2, iu fun ad e1 e2 e3 e4 e5 e6 => ⟨_, _, _, _, _, u, ⟨e1, e2, e3, e4, e5, e6, trivial⟩, t3, sC.ld (k := 0) rfl 2, iv fun ad2 f1 f2 f3 f4 f5 f6 => ⟨_, _, _, _, _, v, ⟨f1, f2, f3, f4, f5, f6, trivial⟩, cmp_ok hu hv (hb.c.2 y hm) fun D fD => ⟨_, rfl, (fun h => by cases h), fun _ => ⟨x.cons.length - (j + 1), by omega, j + 1, wi (by omega), hj', rfl, sC.more fD⟩⟩⟩⟩⟩
theorem same24_ok {x : SumD} {s1 s2 s3 s4 s5 s6 t1 t2 t3 t4 t5 t6 : Sl} (h1 : RdSum H s1 s2 s3 s4 s5 s6 x) (h2 : RdSum H t1 t2 t3 t4 t5 t6 x) (hb : LenSum x) (k : ∀ H', Fr no H H' → K (.bool true) H') :
    CallF Try.prog 44 #[.agg #[.string (str x.name), .slice s1.a s1.n s1.c, .slice s2.a s2.n s2.c, .slice s3.a s3.n s3.c, .slice s4.a s4.n s4.c, .slice s5.a s5.n s5.c, .slice s6.a s6.n s6.c], .agg #[.string (str x.name), .slice t1.a t1.n t1.c, .slice t2.a t2.n t2.c, .slice t3.a t3.n t3.c, .slice t4.a t4.n t4.c, .slice t5.a t5.n t5.c, .slice t6.a t6.n t6.c]] H K Z := by
  refine V44_ok ?_
  unfold V44
  intro bA A hA bB B hB
  have sA := (Sym.start H).newb (cs := [.string (str x.name), .slice s1.a s1.n s1.c, .slice s2.a s2.n s2.c, .slice s3.a s3.n s3.c, .slice s4.a s4.n s4.c, .slice s5.a s5.n s5.c, .slice s6.a s6.n s6.c]) hA
  have sB := sA.newb (cs := [.string (str x.name), .slice t1.a t1.n t1.c, .slice t2.a t2.n t2.c, .slice t3.a t3.n t3.c, .slice t4.a t4.n t4.c, .slice t5.a t5.n t5.c, .slice t6.a t6.n t6.c]) hB
  have a : ∀ i, hcell B ⟨bA, i, none⟩ = _ := fun i => sB.ld (k := 1) rfl i
  have b : ∀ i, hcell B ⟨bB, i, none⟩ = _ := fun i => sB.ld (k := 0) rfl i
  have e1 : beqS (str x.name) (str x.name) = true := beqS_iff.2 rfl
  have r1 := h1.more sB.fr
  have r2 := h2.more sB.fr
  have m1 := hb.g
  have m2 := hb.w
  have m3 := hb.k
  refine ⟨_, a 0, _, b 0, fun _ => ⟨s1, a 1, t1, b 1, sameT_ok r1.g r2.g (by omega) ⟨_, rfl, fun _ => ⟨s2, a 2, t2, b 2, sameT_ok r1.w r2.w (by omega) ⟨_, rfl, fun _ => ⟨s3, a 3, t3, b 3, sameT_ok r1.k r2.k (by omega) ⟨_, rfl, fun _ => ⟨s4, s5, s6, ⟨a 4, a 5, a 6, trivial⟩, t4, t5, t6, ⟨b 4, b 5, b 6, trivial⟩, same15_ok r1.s r2.s hb.s fun C fC => ⟨_, rfl, k C (sB.fr.trans fC)⟩⟩, fun h => (by cases h)⟩⟩, fun h => (by cases h)⟩⟩, fun h => (by cases h)⟩⟩, fun h => (by rw [e1] at h; cases h)⟩
end
end Go.Proofs.Ytigbdoicgdmliaa.C26E
end

section
/- What is written is read again, and what is read is written again: plain words. -/
set_option linter.unusedVariables false
set_option linter.unusedSimpArgs false
namespace Go.Proofs.Ytigbdoicgdmliaa.P26B
open Go Go.V Go.Proofs Go.Proofs.Ytigbdoicgdmliaa.P02 Go.Proofs.Ytigbdoicgdmliaa.C25 Go.Proofs.Ytigbdoicgdmliaa.P26 Go.Proofs.Ytigbdoicgdmliaa.P26R
def encE (ts : List L8) : Ev → L8
  | .n x => numB x.toNat
  | .t x => numB ((poolIx ts x).getD 0)
def goodE (ts : List L8) : Ev → Prop
  | .n x => 0 ≤ x ∧ x ≤ 268435456
  | .t x => ∃ i, poolIx ts x = some i ∧ i ≤ 268435456
def encs (ts : List L8) (l : List Ev) : L8 := l.flatMap (encE ts)
def Good (ts : List L8) (l : List Ev) : Prop := ∀ e ∈ l, goodE ts e
theorem encs_app {ts : List L8} (a b : List Ev) : encs ts (a ++ b) = encs ts a ++ encs ts b := List.flatMap_append
theorem good_app {ts : List L8} {a b : List Ev} : Good ts (a ++ b) ↔ Good ts a ∧ Good ts b := by
  unfold Good
  constructor
  · intro h
    exact ⟨fun e he => h e (List.mem_append_left _ he), fun e he => h e (List.mem_append_right _ he)⟩
  · rintro ⟨h1, h2⟩ e he
    rcases List.mem_append.1 he with h | h
    · exact h1 e h
    · exact h2 e h
theorem num_zero_w {w : Ws} {n : Int} (h : (numW w n).2 = 0) : w.2 = 0 ∧ 0 ≤ n ∧ n ≤ 268435456 ∧ (numW w n).1 = w.1 ++ numB n.toNat := by
  unfold numW at h ⊢
  split at h
  · unfold failW at h
    split at h
    · cases h
    · exact absurd h (by assumption)
  · rename_i hn
    rw [if_neg hn]
    exact ⟨h, by omega, by omega, rfl⟩
theorem step_zero {ts : List L8} {w : Ws} {e : Ev} (h : (stepW (poolIx ts) w e).2 = 0) : w.2 = 0 ∧ goodE ts e ∧ (stepW (poolIx ts) w e).1 = w.1 ++ encE ts e := by
  cases e with
  | n x =>
    obtain ⟨h1, h2, h3, h4⟩ := num_zero_w h
    exact ⟨h1, ⟨h2, h3⟩, h4⟩
  | t x =>
    change (txtW (poolIx ts) w x).2 = 0 at h
    show _ ∧ _ ∧ (txtW (poolIx ts) w x).1 = _
    unfold txtW at h ⊢
    cases hp : poolIx ts x with
    | none =>
      rw [hp] at h
      obtain ⟨h1, _⟩ := num_zero_w h
      unfold failW at h1
      split at h1
      · cases h1
      · exact absurd h1 (by assumption)
    | some i =>
      rw [hp] at h
      obtain ⟨h1, h2, h3, h4⟩ := num_zero_w h
      refine ⟨h1, ⟨i, hp, by omega⟩, ?_⟩
      show (numW w (i : Int)).1 = w.1 ++ encE ts (.t x)
      have e : encE ts (.t x) = numB ((poolIx ts x).getD 0) := rfl
      rw [h4, e, hp]
      rfl
theorem fold_zero {ts : List L8} : ∀ (l : List Ev) {w : Ws}, (foldW (poolIx ts) w l).2 = 0 → w.2 = 0 ∧ Good ts l ∧ (foldW (poolIx ts) w l).1 = w.1 ++ encs ts l
  | [], w, h => ⟨h, by simp [Good], by simp [foldW, encs]⟩
  | e :: l, w, h => by
    obtain ⟨h1, h2, h3⟩ := fold_zero l (w := stepW (poolIx ts) w e) h
    obtain ⟨g1, g2, g3⟩ := step_zero h1
    refine ⟨g1, ?_, ?_⟩
    · intro x hx
      rcases List.mem_cons.1 hx with rfl | hx
      · exact g2
      · exact h2 x hx
    · show (foldW (poolIx ts) (stepW (poolIx ts) w e) l).1 = _
      rw [h3, g3]
      simp [encs, List.flatMap_cons]
theorem step_good {ts : List L8} {b : L8} {e : Ev} (h : goodE ts e) : stepW (poolIx ts) (b, 0) e = (b ++ encE ts e, 0) := by
  cases e with
  | n x =>
    show numW (b, 0) x = _
    unfold numW
    rw [if_neg (by have := h.1; have := h.2; omega)]
    rfl
  | t x =>
    obtain ⟨i, hp, hi⟩ := h
    have e : encE ts (.t x) = numB ((poolIx ts x).getD 0) := rfl
    show txtW (poolIx ts) (b, 0) x = _
    rw [e]
    unfold txtW
    rw [hp]
    simp only [Option.getD_some]
    unfold numW
    rw [if_neg (by omega)]
    rfl
theorem fold_good {ts : List L8} : ∀ (l : List Ev) (b : L8), Good ts l → foldW (poolIx ts) (b, 0) l = (b ++ encs ts l, 0)
  | [], b, _ => by simp [foldW, encs]
  | e :: l, b, h => by
    show foldW (poolIx ts) (stepW (poolIx ts) (b, 0) e) l = _
    rw [step_good (h e List.mem_cons_self), fold_good l _ fun x hx => h x (List.mem_cons_of_mem _ hx)]
    simp [encs, List.flatMap_cons]
/-! ### forward -/
def Fw {α : Type} (ts : List L8) (f : Rr → α × Rr) (l : List Ev) (a : α) : Prop :=
  ∀ (s : ByteArray) (p : Nat) (rest : L8), Good ts l → s.data.toList.drop p = encs ts l ++ rest → f (s, p, 0) = (a, (s, p + (encs ts l).length, 0))
theorem drop_more {s : L8} {p : Nat} {a b : L8} (h : s.drop p = a ++ b) : s.drop (p + a.length) = b := by
  rw [← List.drop_drop, h, List.drop_left]
/-- one after the other -/
theorem Fw.seq {α β γ : Type} {ts : List L8} {f : Rr → α × Rr} {g : Rr → β × Rr} {l m : List Ev} {a : α} {b : β} (hf : Fw ts f l a) (hg : Fw ts g m b) (c : α → β → γ) :
    Fw ts (fun r => (c (f r).1 (g (f r).2).1, (g (f r).2).2)) (l ++ m) (c a b) := by
  intro s p rest h hd
  rw [encs_app, List.append_assoc] at hd
  obtain ⟨h1, h2⟩ := good_app.1 h
  have e1 := hf s p _ h1 hd
  have e2 := hg s _ rest h2 (drop_more hd)
  simp only [e1, e2, encs_app, List.length_append, Nat.add_assoc]
theorem fw_num {ts : List L8} (x : Int) : Fw ts numM [.n x] x.toNat := by
  intro s p rest h hd
  have h1 := h _ List.mem_cons_self
  simp only [encs, List.flatMap_cons, List.flatMap_nil, List.append_nil, encE] at hd ⊢
  exact num_again hd (by have := h1.2; omega)
theorem fw_text {ts : List L8} (x : L8) : Fw ts (textR ts) [.t x] x := by
  intro s p rest h hd
  obtain ⟨i, hp, hi⟩ := h _ List.mem_cons_self
  simp only [encs, List.flatMap_cons, List.flatMap_nil, List.append_nil, encE, hp, Option.getD_some] at hd ⊢
  have e := num_again hd hi
  unfold textR
  rw [e]
  simp only [ne_eq, not_true_eq_false, if_false]
  rw [pool_get hp]
theorem fw_thN {α : Type} {ts : List L8} {one : Rr → α × Rr} {ev : α → List Ev} : ∀ (xs : List α) (acc : List α), (∀ x ∈ xs, Fw ts one (ev x) x) → ∀ (s : ByteArray) (p : Nat) (rest : L8), Good ts (xs.flatMap ev) → s.data.toList.drop p = encs ts (xs.flatMap ev) ++ rest →
    thN one xs.length (s, p, 0) acc = (acc ++ xs, (s, p + (encs ts (xs.flatMap ev)).length, 0))
  | [], acc, _, s, p, rest, _, _ => by simp [thN, encs]
  | x :: xs, acc, h1, s, p, rest, h, hd => by
    rw [List.flatMap_cons] at h hd ⊢
    rw [encs_app, List.append_assoc] at hd
    obtain ⟨g1, g2⟩ := good_app.1 h
    have e1 := h1 x List.mem_cons_self s p _ g1 hd
    rw [List.length_cons, thN_go rfl, e1, fw_thN xs _ (fun y hy => h1 y (List.mem_cons_of_mem _ hy)) s _ rest g2 (drop_more hd), encs_app]
    simp [Nat.add_assoc]
theorem fw_th {α : Type} {ts : List L8} {one : Rr → α × Rr} {ev : α → List Ev} {xs : List α} (h1 : ∀ x ∈ xs, Fw ts one (ev x) x) (hl : xs.length ≤ 6000) : Fw ts (thR one) (evL ev xs) xs := by
  intro s p rest h hd
  have hsplit : evL ev xs = [.n (xs.length : Int)] ++ xs.flatMap ev := rfl
  rw [hsplit] at h hd ⊢
  rw [encs_app, List.append_assoc] at hd
  obtain ⟨g1, g2⟩ := good_app.1 h
  have e1 := fw_num (ts := ts) (xs.length : Int) s p _ g1 hd
  rw [Int.toNat_natCast] at e1
  unfold thR manyR
  rw [e1]
  simp only
  rw [if_neg (by omega), fw_thN xs [] h1 s _ rest g2 (drop_more hd), encs_app]
  simp [Nat.add_assoc]
theorem fw_mark {ts : List L8} {m : Mk} (h0 : 0 ≤ m.1) : Fw ts (markR ts) (evM m) m := by
  have := (fw_num (ts := ts) m.1).seq (fw_text m.2) (fun a b => (((a : Int), b) : Mk))
  have e : ((m.1.toNat : Int), m.2) = m := by rw [Int.toNat_of_nonneg h0]
  rw [e] at this
  exact this
theorem fw_mark' {ts : List L8} {m : Mk} : Fw ts (markR ts) (evM m) m := by
  intro s p rest h hd
  have h0 : goodE ts (.n m.1) := h _ List.mem_cons_self
  exact fw_mark h0.1 s p rest h hd
theorem fw_obj {ts : List L8} {o : ObjD} (hl : o.marks.length ≤ 6000) : Fw ts (objR ts) (evO o) o :=
  ((fw_text o.name).seq (fw_text o.kinds) Prod.mk).seq (fw_th (ev := evM) (xs := o.marks) (fun _ _ => fw_mark') hl) (fun a b => (⟨a.1, a.2, b⟩ : ObjD))
theorem fw_fn {ts : List L8} {f : FnD} : Fw ts (fnR ts) (evF f) f :=
  ((fw_text f.name).seq (fw_text f.kinds) Prod.mk).seq (fw_text f.ret) (fun a b => (⟨a.1, a.2, b⟩ : FnD))
theorem fw_con {ts : List L8} {c : ConD} (hl : c.args.length ≤ 6000) : Fw ts (conR ts) (evC c) c := by
  have key : Fw ts (conR ts) (evC c) ⟨(c.op.toNat : Int), c.a, c.b, (c.k.toNat : Int), c.tag, c.args⟩ :=
    (((((fw_num c.op).seq (fw_text c.a) Prod.mk).seq (fw_text c.b) Prod.mk).seq (fw_num c.k) Prod.mk).seq (fw_text c.tag) Prod.mk).seq (fw_th (ev := evT) (xs := c.args) (fun x _ => fw_text x) hl) (fun a b => (⟨(a.1.1.1.1 : Int), a.1.1.1.2, a.1.1.2, (a.1.2 : Int), a.2, b⟩ : ConD))
  intro s p rest h hd
  have h0 : goodE ts (.n c.op) := h _ List.mem_cons_self
  have h1 : goodE ts (.n c.k) := h _ (by simp [evC])
  have := key s p rest h hd
  rw [Int.toNat_of_nonneg h0.1, Int.toNat_of_nonneg h1.1] at this
  exact this
section
attribute [local irreducible] thR textR objR fnR conR numM
theorem fw_sum {ts : List L8} {x : SumD} (h : MildS x) : Fw ts (sumR ts) (evS x) x := by
  have hg := h.g
  have hw := h.w
  have hk := h.k
  have ho := h.s.o
  have hf := h.s.f
  have hc := h.s.c
  exact ((((((fw_text x.name).seq (fw_th (ev := evT) (xs := x.gives) (fun x _ => fw_text x) (by omega)) Prod.mk).seq (fw_th (ev := evT) (xs := x.wants) (fun x _ => fw_text x) (by omega)) Prod.mk).seq (fw_th (ev := evT) (xs := x.keeps) (fun x _ => fw_text x) (by omega)) Prod.mk).seq
    (fw_th (ev := evO) (xs := x.sys.objs) (fun o hm => fw_obj (by have := ho.2 o hm; omega)) (by omega)) Prod.mk).seq (fw_th (ev := evF) (xs := x.sys.fns) (fun _ _ => fw_fn) (by omega)) Prod.mk).seq (fw_th (ev := evC) (xs := x.sys.cons) (fun c hm => fw_con (hc.2 c hm)) (by omega))
    (fun a b => (⟨a.1.1.1.1.1, a.1.1.1.1.2, a.1.1.1.2, a.1.1.2, ⟨a.1.2, a.2, b⟩⟩ : SumD))
attribute [local irreducible] sumR
/-- what was written without fault is read again -/
theorem read_again {ts : List L8} {x : SumD} (h : MildS x) (hw : (foldW (poolIx ts) ([], 0) (evS x)).2 = 0) : readS ts (str (foldW (poolIx ts) ([], 0) (evS x)).1) = (x, 0) := by
  obtain ⟨_, hg, he⟩ := fold_zero (evS x) hw
  rw [he, List.nil_append]
  have e := fw_sum h (str (encs ts (evS x))) 0 [] hg (by rw [str_data, List.append_nil]; rfl)
  unfold readS
  simp only [e, Nat.zero_add]
  have hd : rdoneM (str (encs ts (evS x)), (encs ts (evS x)).length, 0) = ((encs ts (evS x)).length, 0) := by
    unfold rdoneM
    rw [if_neg (fun h => by have := h.2; simp only [str_size] at this; omega)]
  rw [hd]
  simp
end
/-! ### backward -/
/-- what is wrong stays wrong -/
def Stk {α : Type} (f : Rr → α × Rr) : Prop := ∀ r : Rr, r.2.2 ≠ 0 → (f r).2.2.2 ≠ 0
theorem stk_num : Stk numM := by
  intro r h
  have e : numM r = (0, r) := by
    unfold numM takeM
    rw [if_pos h]
  rw [e]
  exact h
theorem stk_fail {r : Rr} {e : Int} (he : e ≠ 0) : (failM r e).2.2 ≠ 0 := fail_ne r he
theorem stk_text (ts : List L8) : Stk (textR ts) := by
  intro r h
  have := stk_num r h
  unfold textR
  rw [if_pos this]
  exact this
theorem stk_thN {α : Type} {one : Rr → α × Rr} {n : Nat} {r : Rr} {acc : List α} (h : r.2.2 ≠ 0) : (thN one n r acc).2.2.2 ≠ 0 := by
  rw [thN_err h]
  exact h
theorem stk_th {α : Type} {one : Rr → α × Rr} : Stk (thR one) := by
  intro r h
  rw [th_alt]
  refine stk_thN ?_
  split
  · exact fail_ne _ (by decide)
  · exact stk_num r h
theorem Stk.seq {α β γ : Type} {f : Rr → α × Rr} {g : Rr → β × Rr} (hf : Stk f) (hg : Stk g) (c : α → β → γ) : Stk (fun r => (c (f r).1 (g (f r).2).1, (g (f r).2).2)) := fun r h => hg _ (hf r h)
/-- what was read -/
def Bw {α : Type} (ts : List L8) (f : Rr → α × Rr) (ev : α → List Ev) : Prop :=
  ∀ (s : ByteArray) (p : Nat), p ≤ s.size → (f (s, p, 0)).2.2.2 = 0 → ∃ p', (f (s, p, 0)).2 = (s, p', 0) ∧ p' ≤ s.size ∧ Good ts (ev (f (s, p, 0)).1) ∧ s.data.toList.take p' = s.data.toList.take p ++ encs ts (ev (f (s, p, 0)).1)
theorem Bw.seq {α β γ : Type} {ts : List L8} {f : Rr → α × Rr} {g : Rr → β × Rr} {ev : α → List Ev} {ev2 : β → List Ev} {ev3 : γ → List Ev} (hf : Bw ts f ev) (hg : Bw ts g ev2) (sg : Stk g) (c : α → β → γ) (hc : ∀ a b, ev3 (c a b) = ev a ++ ev2 b) :
    Bw ts (fun r => (c (f r).1 (g (f r).2).1, (g (f r).2).2)) ev3 := by
  intro s p hp h
  simp only at h ⊢
  have h1 : (f (s, p, 0)).2.2.2 = 0 := by
    rcases Classical.em ((f (s, p, 0)).2.2.2 = 0) with e | e
    · exact e
    · exact absurd h (sg _ e)
  obtain ⟨p1, e1, l1, g1, t1⟩ := hf s p hp h1
  rw [e1] at h ⊢
  obtain ⟨p2, e2, l2, g2, t2⟩ := hg s p1 l1 h
  refine ⟨p2, e2, l2, ?_, ?_⟩
  · rw [hc]
    exact good_app.2 ⟨g1, g2⟩
  · rw [hc, encs_app, t2, t1, List.append_assoc]
theorem bw_num {ts : List L8} : Bw ts numM (fun n => [.n (n : Int)]) := by
  intro s p hp h
  obtain ⟨n, a, e, hn, ha, ht⟩ := num_fwd hp h
  rw [e]
  refine ⟨a, rfl, ha, ?_, ?_⟩
  · intro x hx
    rw [List.mem_singleton.1 hx]
    exact ⟨by simp only; omega, by simp only; omega⟩
  · rw [ht]
    simp [encs, encE]
theorem bw_text {ts : List L8} (hr : Rising ltL ts) : Bw ts (textR ts) (fun t => [.t t]) := by
  intro s p hp h
  have h1 : (numM (s, p, 0)).2.2.2 = 0 := by
    rcases Classical.em ((numM (s, p, 0)).2.2.2 = 0) with e | e
    · exact e
    · unfold textR at h
      rw [if_pos e] at h
      exact absurd h e
  obtain ⟨n, a, e, hn, ha, ht⟩ := num_fwd hp h1
  unfold textR at h ⊢
  rw [e] at h ⊢
  simp only [ne_eq, not_true_eq_false, if_false] at h ⊢
  cases hx : ts[n]? with
  | none =>
    rw [hx] at h
    exact absurd h (fail_ne _ (by decide))
  | some t =>
    have hpi := pool_some hr hx
    refine ⟨a, rfl, ha, ?_, ?_⟩
    · intro y hy
      rw [List.mem_singleton.1 hy]
      exact ⟨n, hpi, hn⟩
    · rw [ht]
      simp [encs, encE, hpi]
theorem bw_thN {α : Type} {ts : List L8} {one : Rr → α × Rr} {ev : α → List Ev} (h1 : Bw ts one ev) : ∀ (n : Nat) (acc : List α) (s : ByteArray) (p : Nat), p ≤ s.size → (thN one n (s, p, 0) acc).2.2.2 = 0 →
    ∃ q p', thN one n (s, p, 0) acc = (acc ++ q, (s, p', 0)) ∧ q.length = n ∧ p' ≤ s.size ∧ Good ts (q.flatMap ev) ∧ s.data.toList.take p' = s.data.toList.take p ++ encs ts (q.flatMap ev)
  | 0, acc, s, p, hp, h => ⟨[], p, by simp [thN], rfl, hp, by simp [Good], by simp [encs]⟩
  | n + 1, acc, s, p, hp, h => by
    rw [thN_go rfl] at h ⊢
    have h2 : (one (s, p, 0)).2.2.2 = 0 := by
      rcases Classical.em ((one (s, p, 0)).2.2.2 = 0) with e | e
      · exact e
      · exact absurd h (stk_thN e)
    obtain ⟨p1, e1, l1, g1, t1⟩ := h1 s p hp h2
    rw [e1] at h ⊢
    obtain ⟨q, p', e, hq, hl, hg, ht⟩ := bw_thN h1 n _ s p1 l1 h
    refine ⟨(one (s, p, 0)).1 :: q, p', by rw [e]; simp, by simp [hq], hl, ?_, ?_⟩
    · rw [List.flatMap_cons]
      exact good_app.2 ⟨g1, hg⟩
    · rw [List.flatMap_cons, encs_app, ht, t1, List.append_assoc]
theorem bw_th {α : Type} {ts : List L8} {one : Rr → α × Rr} {ev : α → List Ev} (h1 : Bw ts one ev) : Bw ts (thR one) (evL ev) := by
  intro s p hp h
  have h2 : (numM (s, p, 0)).2.2.2 = 0 ∧ ¬ 6000 < (numM (s, p, 0)).1 := by
    rw [th_alt] at h
    constructor
    · rcases Classical.em ((numM (s, p, 0)).2.2.2 = 0) with e | e
      · exact e
      · refine absurd h (stk_thN ?_)
        split
        · exact fail_ne _ (by decide)
        · exact e
    · intro hb
      rw [if_pos hb] at h
      exact absurd h (stk_thN (fail_ne _ (by decide)))
  obtain ⟨p1, e1, l1, g1, t1⟩ := bw_num (ts := ts) s p hp h2.1
  have em : manyR (s, p, 0) = ((numM (s, p, 0)).1, (s, p1, 0)) := by
    unfold manyR
    rw [if_neg h2.2, ← e1]
  unfold thR at h ⊢
  rw [em] at h ⊢
  simp only at h ⊢
  obtain ⟨q, p', e, hq, hl, hg, ht⟩ := bw_thN h1 _ [] s p1 l1 h
  rw [e]
  simp only [List.nil_append]
  have hsplit : evL ev q = [.n ((numM (s, p, 0)).1 : Int)] ++ q.flatMap ev := by rw [← hq]; rfl
  refine ⟨p', rfl, hl, ?_, ?_⟩
  · rw [hsplit]
    exact good_app.2 ⟨g1, hg⟩
  · rw [hsplit, encs_app, ht, t1, List.append_assoc]
section
variable {ts : List L8} (hr : Rising ltL ts)
include hr
theorem bw_mark : Bw ts (markR ts) evM := bw_num.seq (bw_text hr) (stk_text ts) (fun a b => (((a : Int), b) : Mk)) fun _ _ => rfl
theorem bw_obj : Bw ts (objR ts) evO :=
  ((bw_text hr).seq (ev3 := fun a => [.t a.1, .t a.2]) (bw_text hr) (stk_text ts) Prod.mk fun _ _ => rfl).seq (bw_th (bw_mark hr)) stk_th (fun a b => (⟨a.1, a.2, b⟩ : ObjD)) fun _ _ => rfl
theorem bw_fn : Bw ts (fnR ts) evF :=
  ((bw_text hr).seq (ev3 := fun a => [.t a.1, .t a.2]) (bw_text hr) (stk_text ts) Prod.mk fun _ _ => rfl).seq (bw_text hr) (stk_text ts) (fun a b => (⟨a.1, a.2, b⟩ : FnD)) fun _ _ => rfl
theorem bw_con : Bw ts (conR ts) evC :=
  (((((bw_num.seq (ev3 := fun a => [.n (a.1 : Int), .t a.2]) (bw_text hr) (stk_text ts) Prod.mk fun _ _ => rfl).seq (ev3 := fun a => [.n (a.1.1 : Int), .t a.1.2, .t a.2]) (bw_text hr) (stk_text ts) Prod.mk fun _ _ => rfl).seq (ev3 := fun a => [.n (a.1.1.1 : Int), .t a.1.1.2, .t a.1.2, .n (a.2 : Int)]) bw_num stk_num Prod.mk fun _ _ => rfl).seq
    (ev3 := fun a => [.n (a.1.1.1.1 : Int), .t a.1.1.1.2, .t a.1.1.2, .n (a.1.2 : Int), .t a.2]) (bw_text hr) (stk_text ts) Prod.mk fun _ _ => rfl)).seq (bw_th (ev := evT) (bw_text hr)) stk_th (fun a b => (⟨(a.1.1.1.1 : Int), a.1.1.1.2, a.1.1.2, (a.1.2 : Int), a.2, b⟩ : ConD)) fun _ _ => rfl
section
attribute [local irreducible] thR textR objR fnR conR numM
theorem bw_sum : Bw ts (sumR ts) evS :=
  ((((((bw_text hr).seq (ev3 := fun a => [.t a.1] ++ evL evT a.2) (bw_th (ev := evT) (bw_text hr)) stk_th Prod.mk fun _ _ => rfl).seq (ev3 := fun a => [.t a.1.1] ++ evL evT a.1.2 ++ evL evT a.2) (bw_th (ev := evT) (bw_text hr)) stk_th Prod.mk fun _ _ => rfl).seq (ev3 := fun a => [.t a.1.1.1] ++ evL evT a.1.1.2 ++ evL evT a.1.2 ++ evL evT a.2) (bw_th (ev := evT) (bw_text hr)) stk_th Prod.mk fun _ _ => rfl).seq
    (ev3 := fun a => [.t a.1.1.1.1] ++ evL evT a.1.1.1.2 ++ evL evT a.1.1.2 ++ evL evT a.1.2 ++ evL evO a.2) (bw_th (bw_obj hr)) stk_th Prod.mk fun _ _ => rfl).seq
    (ev3 := fun a => [.t a.1.1.1.1.1] ++ evL evT a.1.1.1.1.2 ++ evL evT a.1.1.1.2 ++ evL evT a.1.1.2 ++ evL evO a.1.2 ++ evL evF a.2) (bw_th (bw_fn hr)) stk_th Prod.mk fun _ _ => rfl).seq
    (bw_th (bw_con hr)) stk_th (fun a b => (⟨a.1.1.1.1.1, a.1.1.1.1.2, a.1.1.1.2, a.1.1.2, ⟨a.1.2, a.2, b⟩⟩ : SumD)) fun _ _ => rfl
attribute [local irreducible] sumR
/-- what was read without fault is written again -/
theorem write_again {s : ByteArray} (h : (readS ts s).2 = 0) : foldW (poolIx ts) ([], 0) (evS (readS ts s).1) = (s.data.toList, 0) := by
  unfold readS at h ⊢
  simp only at h ⊢
  split at h
  · rename_i hne
    exact absurd h hne
  · rename_i hz
    rw [if_neg hz]
    simp only
    have hz' : (rdoneM (sumR ts (s, 0, 0)).2).2 = 0 := Classical.not_not.1 hz
    have h0 : (sumR ts (s, 0, 0)).2.2.2 = 0 := by
      unfold rdoneM at hz'
      split at hz'
      · cases hz'
      · exact hz'
    obtain ⟨p, e, hp, hg, ht⟩ := bw_sum hr s 0 (Nat.zero_le _) h0
    rw [e] at hz'
    have hpe : p = s.size := by
      unfold rdoneM at hz'
      split at hz'
      · cases hz'
      · rename_i hc
        simp only [true_and] at hc
        omega
    rw [fold_good _ _ hg, List.nil_append]
    rw [List.take_zero, List.nil_append] at ht
    rw [← ht, hpe]
    have : s.data.toList.length = s.size := by simp
    rw [← this, List.take_length]
end
end
end Go.Proofs.Ytigbdoicgdmliaa.P26B
end

section
/- weftlaw25: helpers. -/
set_option linter.unusedVariables false
set_option linter.unusedSimpArgs false
-- tWr: 71
-- tStr: 9
-- tStrs: 47
-- write: 32
-- wDone: 33
-- rOf: 29
-- great: 27
-- same: 34
-- works: 37
namespace Go.Proofs.Ytigbdoicgdmliaa.L25
open Go Go.V Go.Proofs Go.Proofs.Ytigbdoicgdmliaa.N25 Go.Proofs.Ytigbdoicgdmliaa.P02 Go.Proofs.Ytigbdoicgdmliaa.C25
attribute [local irreducible] Cvt ExtF CallF hrun App MkS
def sumL (xs : List (List UInt8)) : Nat := (xs.map List.length).sum
theorem sum_mem {xs : List (List UInt8)} {x : List UInt8} (h : x ∈ xs) : x.length ≤ sumL xs := by
  induction xs with
  | nil => cases h
  | cons y xs ih =>
    unfold sumL at ih ⊢
    rw [List.map_cons, List.sum_cons]
    rcases List.mem_cons.1 h with rfl | h
    · omega
    · have := ih h; omega
theorem body_len {M : Nat} (hM : M ≤ 200000) : ∀ (ts : List (List UInt8)) (last : List UInt8), (∀ x ∈ ts, x.length ≤ M) → (bodyL last ts).length ≤ ts.length * (M + 10)
  | [], _, _ => by simp [bodyL]
  | x :: r, last, h => by
    have h1 := h x List.mem_cons_self
    have h2 := body_len hM r x fun y hy => h y (List.mem_cons_of_mem _ hy)
    obtain ⟨s1, s2, _⟩ := shL_le last x
    have n1 := numB_len5 (n := shL last x) (by omega)
    have n2 := numB_len5 (n := x.length - shL last x) (by omega)
    rw [bodyL]
    simp only [List.length_append, List.length_drop, List.length_cons]
    rw [Nat.add_mul]
    omega
theorem okp_of {ts : List (List UInt8)} {M : Nat} (hM : M ≤ 200000) (hn : ts.length ≤ 6000) (h : ∀ x ∈ ts, x.length ≤ M) : Okp ts := by
  refine ⟨by omega, fun t ht => Nat.le_trans (h t ht) hM, ?_⟩
  have h1 := body_len hM ts [] h
  have h2 := numB_len5 (n := ts.length) (by omega)
  have h3 : ts.length * (M + 10) ≤ 6000 * (200000 + 10) := Nat.mul_le_mul hn (by omega)
  unfold bytesL
  rw [List.length_append]
  omega
section
variable {H : Hp} {K : Value → Hp → Prop} {Z : List PanicEntry → Hp → Prop}
theorem great_ok {l : Sl} {xs : List (List UInt8)} (h : Rd flL 1 H l xs) (hb : ∀ x ∈ xs, x.length ≤ 1048576) (k1 : K (.bool true) H) (k2 : xs.length ≤ 100 → sumL xs ≤ 20000 → K (.bool false) H) : CallF Try.prog 27 #[.slice l.a l.n l.c] H K Z := by
  refine V27_ok ?_
  unfold V27
  have hn := h.len
  refine ⟨fun n i A m => ∃ j : Nat, A = H ∧ i = (j : Int) ∧ n = ((sumL (xs.take j) : Nat) : Int) ∧ sumL (xs.take j) ≤ 20000 ∧ j ≤ 100 ∧ j ≤ xs.length ∧ m = xs.length - j, ⟨_, 0, rfl, rfl, rfl, Nat.zero_le _, Nat.zero_le _, Nat.zero_le _, rfl⟩, ?_⟩
  rintro n i A m ⟨j, rfl, rfl, rfl, hs, hj, hjl, rfl⟩ scr
  refine ⟨fun hlt => ?_, fun hge => ?_⟩
  · have hlt' : j < xs.length := by have := dlt hlt; omega
    have hx : xs[j]? = some xs[j] := List.getElem?_eq_getElem hlt'
    have hsz := hb _ (List.getElem_mem hlt')
    have htk : sumL (xs.take (j + 1)) = sumL (xs.take j) + xs[j].length := by
      rw [List.take_succ_eq_append_getElem hlt']
      unfold sumL
      rw [List.map_append, List.sum_append]
      simp
    generalize xs[j] = x at hx hsz htk
    have e : w64 (((sumL (xs.take j) : Nat) : Int) + ((str x).size : Int)) = ((sumL (xs.take (j + 1)) : Nat) : Int) := by
      rw [str_size, htk, wid (by omega) (by omega)]
      omega
    refine h.ixn FlL hx fun ad had => ⟨_, had, fun _ => k1, fun hlo => ?_⟩
    rw [e]
    refine ⟨fun _ => k1, fun hle => ⟨xs.length - (j + 1), by omega, j + 1, rfl, wi (by omega), rfl, ?_, ?_, hlt', rfl⟩⟩
    · have := of_decide_eq_false hle
      omega
    · have := of_decide_eq_false hlo
      omega
  · have : j = xs.length := by have := dge hge; omega
    subst this
    rw [List.take_length] at hs
    exact k2 hj hs
theorem idx_eq {ts : List (List UInt8)} (hr : Rising ltL ts) {i j : Nat} {t : List UInt8} (hi : ts[i]? = some t) (hj : ts[j]? = some t) : i = j := by
  obtain ⟨h1, e1⟩ := List.getElem?_eq_some_iff.1 hi
  obtain ⟨h2, e2⟩ := List.getElem?_eq_some_iff.1 hj
  rcases Nat.lt_trichotomy i j with h | h | h
  · have := List.pairwise_iff_getElem.1 hr i j h1 h2 h
    rw [e1, e2, linL.irr] at this
    cases this
  · exact h
  · have := List.pairwise_iff_getElem.1 hr j i h2 h1 h
    rw [e1, e2, linL.irr] at this
    cases this
theorem same_ok {p : Addr} {l : Sl} {ts : List (List UInt8)} (hp : PlS H p ts) (hl : Rd flL 1 H l ts) (hr : Rising ltL ts) (hbig : ts.length ≤ 1000000000) (k : K (.bool true) H) : CallF Try.prog 34 #[.pointer (some p), .slice l.a l.n l.c] H K Z := by
  refine V34_ok ?_
  unfold V34
  have hn := hl.len
  refine len_ok hp ⟨_, rfl, fun hne => ?_, fun _ => ?_⟩
  · rw [hn] at hne
    simp at hne
  refine ⟨fun i A m => ∃ j : Nat, A = H ∧ i = (j : Int) ∧ j ≤ ts.length ∧ m = ts.length - j, ⟨_, 0, rfl, rfl, Nat.zero_le _, rfl⟩, ?_⟩
  rintro i A m ⟨j, rfl, rfl, hj, rfl⟩ scr
  refine ⟨fun hlt => ?_, fun hge => ?_⟩
  · have hlt' : j < ts.length := by have := dlt hlt; omega
    have hx : ts[j]? = some ts[j] := List.getElem?_eq_getElem hlt'
    generalize ts[j] = x at hx
    refine at_ok hp (fun t h0 ht => ?_) (fun h => by omega)
    rw [Int.toNat_natCast, hx] at ht
    cases ht
    refine ⟨_, _, rfl, hl.ixn FlL hx fun ad had => ⟨_, had, ?_⟩⟩
    refine number_ok hp hr hbig (fun i hi => ?_) (fun hno => absurd (List.mem_of_getElem? hx) hno)
    obtain rfl := idx_eq hr hi hx
    refine ⟨_, _, rfl, hl.ixn FlL hx fun ad1 had1 => ⟨_, had1, fun h => ?_, fun _ => ⟨(fun h => by cases h), fun _ => ⟨fun h => ?_, fun _ => ⟨(fun h => by cases h), fun _ => ⟨ts.length - (i + 1), by omega, i + 1, rfl, wi (by omega), hlt', rfl⟩⟩⟩⟩⟩⟩
    · rw [beqS_iff.2 rfl] at h
      cases h
    · simp at h
  · refine at_ok hp (fun t h0 ht => ?_) (fun _ => ⟨_, _, rfl, ?_⟩)
    · have := (List.getElem?_eq_some_iff.1 ht).1
      omega
    · refine at_ok hp (fun t h0 ht => by omega) (fun _ => ⟨_, _, rfl, fun _ => k, (fun h => by cases h)⟩)
/-- texts in order, by the reference -/
theorem rof_ok {l : Sl} {xs : List (List UInt8)} (h : Rd flL 1 H l xs) (hbig : xs.length ≤ 2000000)
    (k : ∀ s ts H', Rising ltL ts → (∀ z, z ∈ ts ↔ z ∈ xs) → Rd flL 1 H' s ts → Fr no H H' → K (.slice s.a s.n s.c) H') : CallF Try.prog 29 #[.slice l.a l.n l.c] H K Z := by
  refine V29_ok ?_
  unfold V29
  refine Q05.rsorted_ok (rd_els (val := C05S.val) (fun _ => rfl) h) (by rw [List.length_map]; exact hbig) ?_
  intro s A ys hris hmem hrow hf hown
  refine ⟨s, rfl, ?_⟩
  refine k s (ys.map (·.data.toList)) A (rising_map hris) (fun z => ?_) (row_rdI hrow).1 hf
  rw [List.mem_map]
  constructor
  · rintro ⟨y, hy, rfl⟩
    have := (hmem y).1 hy
    obtain ⟨x, hx, e⟩ := List.mem_map.1 this
    rw [← e, str_data]
    exact hx
  · intro hz
    exact ⟨str z, (hmem _).2 (List.mem_map.2 ⟨z, hz, rfl⟩), str_data z⟩
/-! ### a new writer -/
def wcs : List Value := [.pointer none, .slice none 0 0, .int .i64 0]
theorem wcs_no (i : Nat) : ¬ Bld.bOwn wcs 0 i := by
  rintro ⟨o, n, c, h⟩
  simp [wcs] at h
theorem wr_new {A : Hp} {b : Nat} (hb : Blk A b wcs 71) : C02.WrS A b 0 71 wcs ([], 0) :=
  ⟨⟨hb, ⟨none, rfl, .inl rfl⟩, ⟨⟨none, 0, 0⟩, rfl, Row.nil _ _ _, by rintro ⟨o, h⟩; cases h⟩, by kernel_rfl⟩, rfl⟩
theorem wr_fr {A B : Hp} {b : Nat} {cs : List Value} {st : St} (h : C02.WrTo A B b 0 71 wcs cs st) : Fr (fun i => i = b) A B := h.fr.mono fun i _ hi => hi.resolve_right (wcs_no i)
theorem write_new {b bP : Nat} {s : Sl} {ts : List (List UInt8)} (hts : Okp ts) (hb : Blk H b wcs 71) (hp : (plI bP s ts).ok H) (hne : ¬ (plI bP s ts).fp b)
    (k : ∀ H' cs', C02.WrTo H H' b 0 71 wcs cs' (bytesL ts, 0) → K (.tuple #[]) H') : CallF Try.prog 32 #[.pointer (some ⟨bP, 0, none⟩), .pointer (some ⟨b, 0, none⟩)] H K Z := by
  refine write_ok (xs := []) hts (wr_new hb) (Nat.zero_le _) (s := s) (hp.1.ld 0) (fun A hA => hp.2.1.keep hA fun i hi => ?_) (fun H' cs' hw => k H' cs' hw)
  rintro (rfl | h)
  · exact hne (.inr hi)
  · exact wcs_no i h
theorem done_new {A : Hp} {b : Nat} {cs : List Value} {ts : List (List UInt8)} (hts : Okp ts) (hw : C02.WrTo A H b 0 71 wcs cs (bytesL ts, 0)) (k : ∀ H', Fr (fun i => i = b) A H' → K (.tuple #[.string (str (bytesL ts)), .int .i64 0]) H') :
    CallF Try.prog 33 #[.pointer (some ⟨b, 0, none⟩)] H K Z := by
  have hl := hts.light
  refine C02.done hw.st (by show (bytesL ts).length < _; omega) fun H' h => ?_
  exact k H' (wr_fr (hw.trans h))
theorem mem3 {ts : List (List UInt8)} (h : ∀ z, z ∈ ts ↔ z ∈ [[98], [97, 98], [(97 : UInt8)]]) (hr : Rising ltL ts) : ts = [[97], [97, 98], [98]] := by
  refine rising_eq linL hr ?_ ?_
  · unfold Rising
    decide
  · intro x
    rw [h x]
    simp only [List.mem_cons, List.not_mem_nil, or_false]
    constructor
    · rintro (h | h | h) <;> simp [h]
    · rintro (h | h | h) <;> simp [h]
theorem works_ok (k : ∀ H', Fr no H H' → K (.bool true) H') : CallF Try.prog 37 #[] H K Z := by
  refine V37_ok ?_
  unfold V37
  intro b A hA b1 B hB
  have hr : RowN flL 9 1 B ⟨some ⟨b1, 0, none⟩, 3, 3⟩ [[98], [97, 98], [97]] := rowN_lit FlL (by decide) hB.blk rfl
  refine of_ok (hr.rd FlL (by decide)) (by decide) fun bP s ts C hris hmem hlen fC hpl hfp => ⟨_, rfl, ?_⟩
  obtain rfl := mem3 hmem hris
  have hts : Okp [[97], [97, 98], [(98 : UInt8)]] := okp_of (M := 2) (by decide) (by decide) (by simp)
  have hbk : Blk C b wcs 71 := fC.blk (hB.fr.blk hA.blk fun h => h) fun h => h
  have hne : ¬ (plI bP s [[97], [97, 98], [98]]).fp b := by
    intro h
    have h1 := hfp b h
    have h2 := hA.eq
    have h3 := hA.size
    have h4 := hB.size
    omega
  refine write_new hts hbk hpl hne fun D cs' hD => ⟨rfl, ?_⟩
  refine done_new hts hD fun E fE => ⟨_, _, rfl, fun _ => ?_, (fun h => by cases h)⟩
  have e : beqS (str (bytesL [[97], [97, 98], [98]])) ⟨#[3, 0, 1, 97, 1, 1, 98, 0, 1, 98]⟩ = true := by
    show beqS _ (str [3, 0, 1, 97, 1, 1, 98, 0, 1, 98]) = true
    rw [beq_str, decide_eq_true_eq]
    simp [bytesL, bodyL, shL, numB_lt]
  rw [e]
  refine k E ?_
  refine ((hA.fr.trans hB.fr).trans fC).step fE ?_
  intro i hi e
  have := hA.eq
  omega
end
end Go.Proofs.Ytigbdoicgdmliaa.L25
end

section
/- weftlaw26: the laws RecordReads, RecordBytes and RecordBack. -/
set_option linter.unusedVariables false
set_option linter.unusedSimpArgs false
-- lawReads: 8
-- lawBytes: 9
-- lawBack: 10
-- works: 45
-- tStr: 9
-- tStrs: 47
-- tSum: 90
namespace Go.Proofs.Ytigbdoicgdmliaa.L26
open Go Go.V Go.Proofs Go.Proofs.Ytigbdoicgdmliaa.N26 Go.Proofs.Ytigbdoicgdmliaa.P02 Go.Proofs.Ytigbdoicgdmliaa.P26 Go.Proofs.Ytigbdoicgdmliaa.P26R Go.Proofs.Ytigbdoicgdmliaa.P26B Go.Proofs.Ytigbdoicgdmliaa.C25 Go.Proofs.Ytigbdoicgdmliaa.C26S Go.Proofs.Ytigbdoicgdmliaa.C26Y
attribute [local irreducible] Cvt ExtF CallF hrun App MkS callV
/-! ### lengths -/
theorem thN_len {α : Type} {one : Rr → α × Rr} : ∀ (n : Nat) (r : Rr) (acc : List α), (thN one n r acc).1.length ≤ acc.length + n ∧ ∀ y ∈ (thN one n r acc).1, y ∈ acc ∨ ∃ r', y = (one r').1
  | 0, r, acc => ⟨by simp [thN], fun y hy => .inl hy⟩
  | n + 1, r, acc => by
    unfold thN
    split
    · exact ⟨by simp, fun y hy => .inl hy⟩
    · obtain ⟨h1, h2⟩ := thN_len (one := one) n (one r).2 (acc ++ [(one r).1])
      refine ⟨by simp only [List.length_append, List.length_singleton] at h1; omega, fun y hy => ?_⟩
      rcases h2 y hy with h | h
      · rcases List.mem_append.1 h with h | h
        · exact .inl h
        · exact .inr ⟨r, List.mem_singleton.1 h⟩
      · exact .inr h
theorem th_len {α : Type} {one : Rr → α × Rr} (r : Rr) : (thR one r).1.length ≤ 6000 ∧ ∀ y ∈ (thR one r).1, ∃ r', y = (one r').1 := by
  obtain ⟨h1, h2⟩ := thN_len (one := one) (manyR r).1 (manyR r).2 []
  have := many_le r
  refine ⟨by unfold thR; simp only [List.length_nil] at h1; omega, fun y hy => ?_⟩
  rcases h2 y hy with h | h
  · cases h
  · exact h
theorem len_noSum : LenSum noSum := ⟨by simp [noSum], by simp [noSum], by simp [noSum], ⟨by simp [noSum], by simp [noSum], by simp [noSum]⟩⟩
section
attribute [local irreducible] thR textR fnR numM
theorem len_objR (ts : List L8) (r : Rr) : (objR ts r).1.marks.length ≤ 1048576 := by
  have e : ∃ r', (objR ts r).1.marks = (thR (markR ts) r').1 := ⟨_, rfl⟩
  obtain ⟨r', e⟩ := e
  rw [e]
  exact Nat.le_trans (th_len _).1 (by decide)
theorem len_conR (ts : List L8) (r : Rr) : (conR ts r).1.args.length ≤ 1048576 := by
  have e : ∃ r', (conR ts r).1.args = (thR (textR ts) r').1 := ⟨_, rfl⟩
  obtain ⟨r', e⟩ := e
  rw [e]
  exact Nat.le_trans (th_len _).1 (by decide)
attribute [local irreducible] objR conR
theorem len_sumR (ts : List L8) (r : Rr) : LenSum (sumR ts r).1 := by
  have e : ∃ r1 r2 r3 r4 r5 r6, (sumR ts r).1 = ⟨(textR ts r).1, (thR (textR ts) r1).1, (thR (textR ts) r2).1, (thR (textR ts) r3).1, ⟨(thR (objR ts) r4).1, (thR (fnR ts) r5).1, (thR (conR ts) r6).1⟩⟩ := ⟨_, _, _, _, _, _, rfl⟩
  obtain ⟨r1, r2, r3, r4, r5, r6, e⟩ := e
  rw [e]
  have l' := fun {α : Type} (one : Rr → α × Rr) (r : Rr) => Nat.le_trans (th_len (one := one) r).1 (by decide : 6000 ≤ 1048576)
  refine ⟨l' _ _, l' _ _, l' _ _, ⟨⟨l' _ _, fun o ho => ?_⟩, l' _ _, ⟨l' _ _, fun c hc => ?_⟩⟩⟩
  · obtain ⟨r', rfl⟩ := (th_len r4).2 o ho
    exact len_objR ts r'
  · obtain ⟨r', rfl⟩ := (th_len r6).2 c hc
    exact len_conR ts r'
end
section
attribute [local irreducible] sumR
theorem len_read (ts : List L8) (s : ByteArray) : LenSum (readS ts s).1 := by
  unfold readS
  simp only
  split
  · exact len_noSum
  · exact len_sumR ts _
end
theorem ev_len {χ : Type} {f : χ → List Ev} {m : Nat} : ∀ xs : List χ, (∀ x ∈ xs, (f x).length ≤ m) → (xs.flatMap f).length ≤ xs.length * m
  | [], _ => by simp
  | x :: xs, h => by
    have h1 := h x List.mem_cons_self
    have h2 := ev_len xs fun y hy => h y (List.mem_cons_of_mem _ hy)
    rw [List.flatMap_cons, List.length_append, List.length_cons, Nat.succ_mul]
    omega
theorem evL_len {χ : Type} {f : χ → List Ev} {m n : Nat} {xs : List χ} (h : ∀ x ∈ xs, (f x).length ≤ m) (hn : xs.length ≤ n) : (evL f xs).length ≤ 1 + n * m := by
  have h1 := ev_len xs h
  have h2 : xs.length * m ≤ n * m := Nat.mul_le_mul_right _ hn
  unfold evL
  rw [List.length_cons]
  omega
theorem mild_ev {x : SumD} (h : MildS x) : (evS x).length ≤ 1500000 := by
  have ho : (evL evO x.sys.objs).length ≤ 1 + 80 * 6003 := evL_len (fun o hm => by
    have h1 := evL_len (f := evM) (m := 2) (n := 3000) (xs := o.marks) (fun _ _ => Nat.le_refl _) (h.s.o.2 o hm)
    unfold evO
    simp only [List.length_append, List.length_cons, List.length_nil]
    omega) h.s.o.1
  have hc : (evL evC x.sys.cons).length ≤ 1 + 80 * 6006 := evL_len (fun c hm => by
    have h1 := evL_len (f := evT) (m := 1) (n := 6000) (xs := c.args) (fun _ _ => Nat.le_refl _) (h.s.c.2 c hm)
    unfold evC
    simp only [List.length_append, List.length_cons, List.length_nil]
    omega) h.s.c.1
  have hf : (evL evF x.sys.fns).length ≤ 1 + 80 * 3 := evL_len (fun _ _ => Nat.le_refl _) h.s.f
  have hg : (evL evT x.gives).length ≤ 1 + 60 * 1 := evL_len (fun _ _ => Nat.le_refl _) h.g
  have hw : (evL evT x.wants).length ≤ 1 + 60 * 1 := evL_len (fun _ _ => Nat.le_refl _) h.w
  have hk : (evL evT x.keeps).length ≤ 1 + 200 * 1 := evL_len (fun _ _ => Nat.le_refl _) h.k
  unfold evS
  simp only [List.length_append, List.length_cons, List.length_nil]
  omega
section
variable {H : Hp} {K : Value → Hp → Prop} {Z : List PanicEntry → Hp → Prop}
theorem plI_more {A B : Hp} {b : Nat} {s : Sl} {ts : List L8} (h : (plI b s ts).ok A) (hf : Fr no A B) : (plI b s ts).ok B := It.keep h hf fun _ _ h => h
theorem pl_addr {b : Nat} {s : Sl} {ts : List L8} {A B : Hp} (h : (plI b s ts).ok A) (hf : Fr no A B) : PlS B ⟨b, 0, none⟩ ts := plI_s (plI_more h hf)
/-- the smallest summary -/
def one : SumD := ⟨[97], [], [], [], ⟨[], [], []⟩⟩
theorem one_mild : MildS one := ⟨by decide, by decide, by decide, ⟨⟨by decide, by simp [one]⟩, by decide, ⟨by decide, by simp [one]⟩⟩⟩
theorem works_ok (k : ∀ H', Fr no H H' → K (.bool true) H') : CallF Try.prog 45 #[] H K Z := by
  refine V45_ok ?_
  unfold V45
  intro b A hA
  have s0 := (Sym.start H).lit (l := [[97]]) FlL (by decide) hA (show 1 = _ from rfl)
  have r0 := s0.rd (k := 0) FlL (by decide) rfl
  refine of_ok r0 (by decide) fun bP s ts B hris hmem hlen fB hpl hfp => ⟨_, rfl, ?_⟩
  have hts : ts = [[97]] := rising_same hris (by unfold Rising; simp) hmem
  subst hts
  have fHB := s0.fr.trans fB
  have hx : RdSum B n0 n0 n0 n0 n0 n0 one := ⟨Rd.nil, Rd.nil, Rd.nil, ⟨RdX.nil, Rd.nil, RdX.nil⟩⟩
  have ew : foldW (poolIx [[97]]) ([], 0) (evS one) = ([0, 0, 0, 0, 0, 0, 0], 0) := by
    have e0 : numB 0 = [0] := by unfold numB; rfl
    simp [foldW, evS, evL, one, stepW, txtW, numW, poolIx, e0]
  refine bytes_ok (x := one) (plI_s hpl) hris (by decide) hx (by have := mild_ev one_mild; omega) fun C fC => ?_
  rw [ew]
  refine ⟨_, _, rfl, read_ok (pl_addr hpl fC) (by simp [str_size]) fun D t1 t2 t3 t4 t5 t6 fD rD => ?_⟩
  have er := read_again (ts := [[97]]) one_mild (by rw [ew])
  rw [ew] at er
  simp only [if_true] at er rD ⊢
  rw [er] at rD ⊢
  refine ⟨_, t1, t2, t3, t4, t5, t6, _, rfl, fun bX E hE => ?_⟩
  have fHD := (fHB.trans fC).trans fD
  have sE := (Sym.start D).newb (cs := sumC [] n0 n0 n0 n0 n0 n0) hE
  refine sE.stbs (k := 0) (i := 0) (vs := sumC one.name t1 t2 t3 t4 t5 t6) rfl (by simp) (sumC1 _ _ _ _ _ _ _) fun F sF => ?_
  replace sF : Sym D no F [blk bX (sumC one.name t1 t2 t3 t4 t5 t6) 90] := sF
  refine ⟨fun _ => ⟨fun _ => ⟨fun _ => ⟨_, sF.ld (k := 0) rfl 0, ?_⟩, fun h => ?_⟩, fun h => (by cases h)⟩, fun h => (by cases h)⟩
  · have : beqS (str one.name) ⟨#[97]⟩ = true := beqS_iff.2 rfl
    rw [this]
    exact k F (fHD.trans sF.fr)
  · have : beqS (str [0, 0, 0, 0, 0, 0, 0]) ⟨#[0, 0, 0, 0, 0, 0, 0]⟩ = true := beqS_iff.2 rfl
    rw [this] at h
    cases h
theorem reads_ok {l : Sl} {xs : List L8} {b : ByteArray} (h : Rd flL 1 H l xs) (hb : b.size ≤ 1048576) (k : ∀ H', Fr no H H' → K (.bool true) H') : CallF Try.prog 8 #[.slice l.a l.n l.c, .string b] H K Z := by
  refine V8_ok ?_
  unfold V8
  refine ⟨fun C => C = H ∧ xs.length ≤ 60, ?_, C26G.greatTexts_ok h fun y hy => ⟨y, rfl, fun _ => k _ (Fr.refl _ _), fun h0 => ⟨fun _ => k _ (Fr.refl _ _), fun _ => ⟨rfl, hy h0⟩⟩⟩⟩
  rintro _ ⟨rfl, h60⟩ scr
  refine L25.rof_ok h (by omega) fun s ts A hris hmem rA fA => ⟨s, rfl, ?_⟩
  have hl := rising_len hris hmem
  refine of_ok rA (by omega) fun bP sp ts2 B hris2 hmem2 hlen2 fB hpl hfp => ⟨_, rfl, ?_⟩
  have hts : ts2 = ts := rising_same hris2 hris hmem2
  subst hts
  refine read_ok (plI_s hpl) (by omega) fun C t1 t2 t3 t4 t5 t6 fC rC => ⟨_, t1, t2, t3, t4, t5, t6, _, rfl, fun bX D hD => ?_⟩
  have hlen := len_read ts2 b
  have sD := (Sym.start C).newb (cs := sumC [] n0 n0 n0 n0 n0 n0) hD
  refine sD.stbs (k := 0) (i := 0) (vs := sumC (readS ts2 b).1.name t1 t2 t3 t4 t5 t6) rfl (by simp) (sumC1 _ _ _ _ _ _ _) fun E sE => ?_
  replace sE : Sym C no E [blk bX (sumC (readS ts2 b).1.name t1 t2 t3 t4 t5 t6) 90] := sE
  refine C26U.xread_ok (rA.more ((fB.trans fC).trans sE.fr)) (by omega) fun F u1 u2 u3 u4 u5 u6 fF rF => ⟨_, u1, u2, u3, u4, u5, u6, _, rfl, fun bY G hG => ?_⟩
  generalize readS ts2 b = x at *
  have sG := (Sym.start F).newb (cs := sumC [] n0 n0 n0 n0 n0 n0) hG
  refine sG.stbs (k := 0) (i := 0) (vs := sumC x.1.name u1 u2 u3 u4 u5 u6) rfl (by simp) (sumC1 _ _ _ _ _ _ _) fun I sI => ?_
  replace sI : Sym F no I [blk bY (sumC x.1.name u1 u2 u3 u4 u5 u6) 90] := sI
  have sX := sE.more (fF.trans sI.fr)
  refine ⟨_, t1, t2, t3, t4, t5, t6, ld_sumC sX (k := 0) rfl, _, u1, u2, u3, u4, u5, u6, ld_sumC sI (k := 0) rfl, C26E.same24_ok (rC.more sX.fr) (rF.more sI.fr) hlen fun M fM => ⟨_, rfl, fun _ => ⟨fun _ => ?_, fun h => ?_⟩, fun h => by cases h⟩⟩
  · exact works_ok fun N fN => ⟨_, rfl, k N (((((fA.trans fB).trans fC).trans sX.fr).trans fM).trans fN)⟩
  · simp at h
/-- a row, and another behind it -/
theorem joined2_ok {b : Nat} {s t : Sl} {xs ys : List L8} {A B : Hp} {Q : Sl → Hp → Prop} (s0 : Sym A no B [arr flL 9 1 ⟨some ⟨b, 0, none⟩, 0, 0⟩ []]) (hx : Rd flL 1 B s xs) (hy : Rd flL 1 A t ys) (hl : xs.length + ys.length ≤ 2000000)
    (k : ∀ ap H', Rd flL 1 H' ap (xs ++ ys) → Fr no A H' → Q ap H') : App Try.prog #[47, 47] 47 B [.slice (some ⟨b, 0, none⟩) 0 0, .slice s.a s.n s.c] fun ap H5 => App Try.prog #[47, 47] 47 H5 [.slice ap.a ap.n ap.c, .slice t.a t.n t.c] Q := by
  refine s0.appR (k := 0) C26Y.tyStr FlL (by decide) rfl hx (by show (0 + xs.length) * 16 ≤ _; omega) fun ap C hap s1 => ?_
  replace s1 : Sym A no C [arr flL 9 1 ap xs] := s1
  have hap' : ap.n = xs.length := by rw [hap]; exact Nat.zero_add _
  refine s1.appR (k := 0) C26Y.tyStr FlL (by decide) rfl (hy.more s1.fr) (by omega) fun ap1 D hap1 s2 => ?_
  exact k ap1 D (s2.rd (k := 0) FlL (by decide) rfl) s2.fr
theorem joined_ok {b : Nat} {s t : Sl} {xs ys : List L8} {A B : Hp} {Q : Sl → Hp → Prop} (hn : Newb A (.cells #[] 9) b B) (hx : Rd flL 1 A s xs) (hy : Rd flL 1 A t ys) (hl : xs.length + ys.length ≤ 2000000)
    (k : ∀ ap H', Rd flL 1 H' ap (xs ++ ys) → Fr no A H' → Q ap H') : App Try.prog #[47, 47] 47 B [.slice (some ⟨b, 0, none⟩) 0 0, .slice s.a s.n s.c] fun ap H5 => App Try.prog #[47, 47] 47 H5 [.slice ap.a ap.n ap.c, .slice t.a t.n t.c] Q :=
  joined2_ok ((Sym.start A).lit (l := ([] : List L8)) FlL (by decide) hn rfl) (hx.more hn.fr) hy hl k
theorem bytes_law {l : Sl} {xs : List L8} {x : SumD} {s1 s2 s3 s4 s5 s6 : Sl} (hx : RdSum H s1 s2 s3 s4 s5 s6 x) (hb : OkSum x) (h : Rd flL 1 H l xs) (k : ∀ H', Fr no H H' → K (.bool true) H') :
    CallF Try.prog 9 #[sumA x.name s1 s2 s3 s4 s5 s6, .slice l.a l.n l.c] H K Z := by
  refine V9_ok ?_
  unfold V9
  intro bS A hA
  have sA := (Sym.start H).newb (cs := sumC x.name s1 s2 s3 s4 s5 s6) hA
  refine ⟨fun C => Fr no A C ∧ MildS x ∧ xs.length ≤ 60, ?_, _, s1, s2, s3, s4, s5, s6, ld_sumC sA (k := 0) rfl, C26G.great24_ok (hx.more sA.fr) hb fun y B fB hy => ⟨y, rfl, fun _ => k _ (sA.fr.trans fB), fun h0 => C26G.greatTexts_ok (h.more (sA.fr.trans fB)) fun y2 hy2 => ⟨y2, rfl, fun _ => k _ (sA.fr.trans fB), fun h1 => ⟨fB, hy h0, hy2 h1⟩⟩⟩⟩
  rintro B ⟨fB, hm, h60⟩ scr
  have hev := mild_ev hm
  have sB := sA.more fB
  refine ⟨_, s1, s2, s3, s4, s5, s6, ld_sumC sB (k := 0) rfl, xTexts_ok (hx.more sB.fr) (by omega) fun y ys C hris hmem hlen rC fC => ⟨y, rfl, fun b D hD => ?_⟩⟩
  have hlen : ys.length ≤ 1500000 := Nat.le_trans (rising_len hris hmem) (Nat.le_trans (txts_len _) hev)
  refine joined_ok hD rC (h.more (sB.fr.trans fC)) (by omega) fun ap E rE fE => ?_
  have sE := sB.more (fC.trans fE)
  refine L25.rof_ok rE (by rw [List.length_append]; omega) fun y1 ts1 F hr1 hm1 rF fF => ⟨y1, rfl, ?_⟩
  have sF := sE.more fF
  have hl1 : ts1.length ≤ 1900000 := by have := rising_len hr1 hm1; rw [List.length_append] at this; omega
  refine L25.rof_ok (h.more sF.fr) (by omega) fun y2 ts2 G hr2 hm2 rG fG => ⟨y2, rfl, ?_⟩
  have sG := sF.more fG
  have hl2 : ts2.length ≤ 60 := by have := rising_len hr2 hm2; omega
  refine ⟨_, s1, s2, s3, s4, s5, s6, ld_sumC sG (k := 0) rfl, of_ok (rF.more fG) (by omega) fun p3 sp3 us3 I hr3 hm3 hl3 fI hp3 hfp3 => ⟨_, rfl, ?_⟩⟩
  obtain rfl : us3 = ts1 := rising_same hr3 hr1 hm3
  have sI := sG.more fI
  refine ⟨ld_sumC sI (k := 0) rfl, bytes_ok (plI_s hp3) hr1 (by omega) (hx.more sI.fr) (by omega) fun L fL => ⟨_, _, rfl, ?_⟩⟩
  have sL := sI.more fL
  refine ⟨_, s1, s2, s3, s4, s5, s6, ld_sumC sL (k := 0) rfl, xBytes_ok ⟨rF.more ((fG.trans fI).trans fL), by omega, hr1⟩ (hx.more sL.fr) (by omega) fun M fM => ⟨_, _, rfl, ?_⟩⟩
  have sM := sL.more fM
  refine ⟨_, s1, s2, s3, s4, s5, s6, ld_sumC sM (k := 0) rfl, of_ok (rG.more (((fI.trans fL).trans fM))) (by omega) fun p4 sp4 us4 N hr4 hm4 hl4 fN hp4 hfp4 => ⟨_, rfl, ?_⟩⟩
  obtain rfl : us4 = ts2 := rising_same hr4 hr2 hm4
  have sN := sM.more fN
  refine ⟨ld_sumC sN (k := 0) rfl, bytes_ok (plI_s hp4) hr2 (by omega) (hx.more sN.fr) (by omega) fun O fO => ⟨_, _, rfl, ?_⟩⟩
  have sO := sN.more fO
  refine ⟨_, s1, s2, s3, s4, s5, s6, ld_sumC sO (k := 0) rfl, xBytes_ok ⟨rG.more ((((fI.trans fL).trans fM).trans fN).trans fO), by omega, hr2⟩ (hx.more sO.fr) (by omega) fun P fP => ⟨_, _, rfl, ?_⟩⟩
  have sP := sO.more fP
  refine ⟨_, s1, s2, s3, s4, s5, s6, ld_sumC sP (k := 0) rfl, texts_ok (hx.more sP.fr) (by omega) fun y5 ys5 Q hr5 hm5 hl5 rQ fQ => ⟨y5, rfl, ?_⟩⟩
  obtain rfl : ys5 = ys := rising_same hr5 hris fun z => (hm5 z).trans (hmem z).symm
  have sQ := sP.more fQ
  refine C26E.sameT_ok rQ (rC.more ((((((((((fE.trans fF).trans fG).trans fI).trans fL).trans fM).trans fN).trans fO).trans fP).trans fQ))) (by omega) ⟨_, rfl, fun _ => ⟨fun _ => ⟨fun _ => ⟨fun _ => ⟨fun _ => ?_, fun h => ?_⟩, fun h => ?_⟩, fun h => ?_⟩, fun h => ?_⟩, fun h => by cases h⟩
  · exact works_ok fun W fW => ⟨_, rfl, k W (sQ.fr.trans fW)⟩
  · simp at h
  · rw [beqS_iff.2 rfl] at h; cases h
  · simp at h
  · rw [beqS_iff.2 rfl] at h; cases h
theorem numB_pos (n : Nat) : 1 ≤ (numB n).length := by
  unfold numB
  split <;> simp
theorem encs_len (ts : List L8) : ∀ l : List Ev, l.length ≤ (encs ts l).length
  | [] => by simp
  | e :: l => by
    have h1 := encs_len ts l
    have h2 : 1 ≤ (encE ts e).length := by cases e <;> exact numB_pos _
    have e : encs ts (e :: l) = encE ts e ++ encs ts l := by simp [encs]
    rw [e, List.length_append, List.length_cons]
    omega
theorem back_law {l : Sl} {xs : List L8} {x : SumD} {s1 s2 s3 s4 s5 s6 : Sl} {b : ByteArray} (hx : RdSum H s1 s2 s3 s4 s5 s6 x) (hb : OkSum x) (h : Rd flL 1 H l xs) (hbs : b.size ≤ 1048576) (k : ∀ H', Fr no H H' → K (.bool true) H') :
    CallF Try.prog 10 #[sumA x.name s1 s2 s3 s4 s5 s6, .slice l.a l.n l.c, .string b] H K Z := by
  refine V10_ok ?_
  unfold V10
  intro bS A hA
  have sA := (Sym.start H).newb (cs := sumC x.name s1 s2 s3 s4 s5 s6) hA
  refine works_ok fun B fB => ⟨_, rfl, (fun h => by cases h), fun _ => ?_⟩
  have sB := sA.more fB
  refine ⟨fun C => Fr no B C ∧ MildS x ∧ xs.length ≤ 60 ∧ b.size ≤ 3000, ?_, _, s1, s2, s3, s4, s5, s6, ld_sumC sB (k := 0) rfl, C26G.great24_ok (hx.more sB.fr) hb fun y C fC hy => ⟨y, rfl, fun _ => k _ (sB.fr.trans fC), fun h0 => C26G.greatTexts_ok (h.more (sB.fr.trans fC)) fun y2 hy2 => ⟨y2, rfl, fun _ => k _ (sB.fr.trans fC), fun h1 => ⟨fun _ => k _ (sB.fr.trans fC), fun h2 => ⟨fC, hy h0, hy2 h1, ?_⟩⟩⟩⟩⟩
  rotate_left
  · have := of_decide_eq_false h2
    omega
  rintro C ⟨fC, hm, h60, hb3⟩ scr b1 D hD
  have hev := mild_ev hm
  have sC := sB.more fC
  have sD := sC.more hD.fr
  have s0 : Sym C no D [arr flL 9 1 ⟨some ⟨b1, 0, none⟩, 0, 0⟩ []] := (Sym.start C).lit (l := ([] : List L8)) FlL (by decide) hD rfl
  refine ⟨_, s1, s2, s3, s4, s5, s6, ld_sumC sD (k := 0) rfl, texts_ok (hx.more sD.fr) (by omega) fun y ys E hris hmem hlen rE fE => ⟨y, rfl, ?_⟩⟩
  have hlen : ys.length ≤ 1500000 := Nat.le_trans (rising_len hris hmem) (Nat.le_trans (txts_len _) hev)
  refine joined2_ok (s0.more fE) rE (h.more sC.fr) (by omega) fun ap F rF fF => ?_
  have sF := sC.more fF
  refine of_ok rF (by rw [List.length_append]; omega) fun p2 sp2 ts G hr hm2 hl2 fG hp2 hfp2 => ⟨_, rfl, ?_⟩
  have hl : ts.length ≤ 1900000 := by rw [List.length_append] at hl2; omega
  have sG := sF.more fG
  refine ⟨_, s1, s2, s3, s4, s5, s6, ld_sumC sG (k := 0) rfl, bytes_ok (plI_s hp2) hr (by omega) (hx.more sG.fr) (by omega) fun I fI => ⟨_, _, rfl, ?_⟩⟩
  have sI := sG.more fI
  have hwl := foldW_len (poolIx ts) (evS x) ([], 0)
  simp only [List.length_nil] at hwl
  have hra := read_again (ts := ts) hm
  generalize foldW (poolIx ts) ([], 0) (evS x) = w at *
  refine ⟨fun J => Fr no H J, ?_, fun hz => ?_, fun _ => sI.fr⟩
  rotate_left
  · have hz' : w.2 = 0 := by simpa using hz
    have er := hra hz'
    rw [if_pos hz']
    refine read_ok (pl_addr hp2 fI) (by rw [str_size]; omega) fun J t1 t2 t3 t4 t5 t6 fJ rJ => ?_
    rw [er] at rJ ⊢
    refine ⟨_, t1, t2, t3, t4, t5, t6, _, rfl, fun bX L hL => ?_⟩
    have sL := (Sym.start J).newb (cs := sumC [] n0 n0 n0 n0 n0 n0) hL
    refine sL.stbs (k := 0) (i := 0) (vs := sumC x.name t1 t2 t3 t4 t5 t6) rfl (by simp) (sumC1 _ _ _ _ _ _ _) fun M sM => ?_
    replace sM : Sym J no M [blk bX (sumC x.name t1 t2 t3 t4 t5 t6) 90] := sM
    have sN := sI.more (fJ.trans sM.fr)
    refine ⟨(fun h => by cases h), fun _ => ⟨_, t1, t2, t3, t4, t5, t6, ld_sumC sM (k := 0) rfl, _, s1, s2, s3, s4, s5, s6, ld_sumC sN (k := 0) rfl, C26E.same24_ok (rJ.more sM.fr) (hx.more sN.fr) hb.len fun O fO => ⟨_, rfl, (fun h => by cases h), fun _ => sN.fr.trans fO⟩⟩⟩
  intro J fJ scr1
  refine of_ok (h.more fJ) (by omega) fun p3 sp3 us L hr3 hm3 hl3 fL hp3 hfp3 => ⟨_, rfl, read_ok (plI_s hp3) (by omega) fun M t1 t2 t3 t4 t5 t6 fM rM => ⟨_, t1, t2, t3, t4, t5, t6, _, rfl, fun bX N hN => ?_⟩⟩
  have hwa := write_again (ts := us) hr3 (s := b)
  have herr : (readS us b).2 ≠ 0 → (readS us b).1 = noSum := by
    intro he
    unfold readS at he ⊢
    simp only at he ⊢
    split
    · rfl
    · rename_i hh
      rw [if_neg hh] at he
      exact absurd rfl he
  generalize readS us b = rs at *
  have sN := (Sym.start M).newb (cs := sumC [] n0 n0 n0 n0 n0 n0) hN
  refine sN.stbs (k := 0) (i := 0) (vs := sumC rs.1.name t1 t2 t3 t4 t5 t6) rfl (by simp) (sumC1 _ _ _ _ _ _ _) fun O sO => ?_
  replace sO : Sym M no O [blk bX (sumC rs.1.name t1 t2 t3 t4 t5 t6) 90] := sO
  have fO := ((fJ.trans fL).trans fM).trans sO.fr
  refine ⟨fun hne => ?_, fun hz => ?_⟩
  · have hne' : rs.2 ≠ 0 := by simpa using hne
    have hn := herr hne'
    rw [hn] at rM sO
    exact ⟨_, t1, t2, t3, t4, t5, t6, ld_sumC sO (k := 0) rfl, C26E.same24_ok (x := noSum) (rM.more sO.fr) rd_nil len_noSum fun P fP => ⟨_, rfl, k P (fO.trans fP)⟩⟩
  · have hz' : rs.2 = 0 := by simpa using hz
    have hw := hwa hz'
    have hev2 : (evS rs.1).length ≤ 3000 := by
      obtain ⟨_, _, he⟩ := fold_zero (evS rs.1) (w := ([], 0)) (ts := us) (by rw [hw])
      rw [hw, List.nil_append] at he
      have h1 := encs_len us (evS rs.1)
      rw [← he] at h1
      have : b.data.toList.length = b.size := by simp
      simp only at h1
      omega
    refine ⟨_, t1, t2, t3, t4, t5, t6, ld_sumC sO (k := 0) rfl, bytes_ok (pl_addr hp3 (fM.trans sO.fr)) hr3 (by omega) (rM.more sO.fr) (by omega) fun P fP => ?_⟩
    rw [hw]
    refine ⟨_, _, rfl, fun _ => ?_, fun h => by cases h⟩
    have : beqS (str b.data.toList) b = true := beqS_iff.2 (str_of b).symm
    simp only [if_true]
    rw [this]
    exact k P (fO.trans fP)
end
end Go.Proofs.Ytigbdoicgdmliaa.L26
end
