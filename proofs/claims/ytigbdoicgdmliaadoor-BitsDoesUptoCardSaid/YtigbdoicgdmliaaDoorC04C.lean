/- bits: two sets side by side. -/
import Derived.Test.YtigbdoicgdmliaaDoorC04B
set_option linter.unusedVariables false
set_option linter.unusedSimpArgs false
-- tSet: 26
-- tBk: 70
-- tBks: 24
-- tInt: 3
-- tPSet: 23
-- tFn: 72
-- merged: 67
-- merged1: 76
-- made: 37
-- join: 9
-- less: 21
-- both: 22
-- join1: 38
-- less1: 43
-- both1: 44
namespace Go.Proofs.YtigbdoicgdmliaaDoor.C04
open Go Go.V Go.Proofs Go.Proofs.YtigbdoicgdmliaaDoor.N04 Go.Proofs.YtigbdoicgdmliaaDoor.P04
attribute [local irreducible] Cvt ExtF CallF hrun App MkS callV
def fst : List Bk → List Bk → Bool
  | _ :: _, [] => true
  | x :: _, y :: _ => decide (x.1 < y.1)
  | [], _ => false
def snd : List Bk → List Bk → Bool
  | [], _ => true
  | x :: _, y :: _ => decide (y.1 < x.1)
  | _ :: _, [] => false
theorem pairs_fst : ∀ {xs ys : List Bk}, fst xs ys = true → ∃ x l, xs = x :: l ∧ pairs xs ys = (x.1, x.2, 0) :: pairs l ys
  | x :: l, [], _ => ⟨x, l, rfl, by rw [pairs]⟩
  | x :: l, y :: m, h => ⟨x, l, rfl, by rw [pairs, if_pos (of_decide_eq_true h)]⟩
  | [], _, h => by cases h
theorem pairs_snd : ∀ {xs ys : List Bk}, xs.length + ys.length ≠ 0 → fst xs ys = false → snd xs ys = true → ∃ y m, ys = y :: m ∧ pairs xs ys = (y.1, 0, y.2) :: pairs xs m
  | [], [], h, _, _ => absurd rfl h
  | [], y :: m, _, _, _ => ⟨y, m, rfl, by rw [pairs]⟩
  | x :: l, y :: m, _, h1, h2 => ⟨y, m, rfl, by rw [pairs, if_neg (of_decide_eq_false h1), if_pos (of_decide_eq_true h2)]⟩
  | x :: l, [], _, h, _ => by cases h
theorem pairs_both : ∀ {xs ys : List Bk}, fst xs ys = false → snd xs ys = false → ∃ x l y m, xs = x :: l ∧ ys = y :: m ∧ x.1 = y.1 ∧ pairs xs ys = (x.1, x.2, y.2) :: pairs l m
  | [], _, _, h => by cases h
  | x :: l, y :: m, h1, h2 => ⟨x, l, y, m, rfl, rfl, by have := of_decide_eq_false h1; have := of_decide_eq_false h2; omega, by rw [pairs, if_neg (of_decide_eq_false h1), if_neg (of_decide_eq_false h2)]⟩
  | x :: l, [], h, _ => by cases h
section
variable {H0 H : Hp} {S : Nat → Prop} {L R : List It} {K : Value → Hp → Prop} {Z : List PanicEntry → Hp → Prop} {b : Nat} {s : Sl} {bl : List Bk}
theorem tailK {x : Bk} {l : List Bk} {Kx : Sl → Prop} (h : Rd flK 2 H s (x :: l)) (k : ∀ c, Rd flK 2 H c l → Kx c) : s.n ≤ s.c ∧ SlX s.a s.c 1 (s.n : Int) 2 Kx := by
  have hn := h.len
  rw [List.length_cons] at hn
  have := h.part FlK (lo := 1) (hi := s.n) (by omega) (Nat.le_refl _)
  refine ⟨h.le, ⟨by omega, by omega, by have := h.le; omega⟩, k _ ?_⟩
  have e : ((x :: l).drop 1).take (s.n - 1) = l := by
    rw [List.drop_succ_cons, List.drop_zero]
    exact List.take_of_length_le (by omega)
  rw [e] at this
  exact this
def bkV (k v : Nat) : Value := .agg #[.int .i64 (k : Int), .int .u64 (v : Int)]
theorem two2 {b c : Int} : ∀ v ∈ [Value.int .i64 b, Value.int .u64 c], v.oneCell = true := by
  intro v hv
  simp only [List.mem_cons, List.not_mem_nil, or_false] at hv
  rcases hv with rfl | rfl <;> rfl
theorem merged1_ok {sa sb : Sl} {xs ys : List Bk} {bA bB : Nat} {Q : List Pr → Hp → Prop} {yield : Value}
    (hA : hcell H ⟨bA, 0, none⟩ = some (.slice sa.a sa.n sa.c)) (hB : hcell H ⟨bB, 0, none⟩ = some (.slice sb.a sb.n sb.c)) (ra : Rd flK 2 H0 sa xs) (rb : Rd flK 2 H0 sb ys)
    (la : xs.length ≤ 1000000) (lb : ys.length ≤ 1000000) (h0 : Q (pairs xs ys) H) (qf : ∀ l A, Q l A → Fr no H0 A) (more : ∀ l A A', Q l A → Fr no A A' → Q l A')
    (step : ∀ k x y l A (K' : Value → Hp → Prop), Q ((k, x, y) :: l) A → (∀ B, Q l B → K' (.bool true) B) → callV Tryd.prog yield [bkV k x, bkV k y] A K' Z)
    (k : ∀ A, Q [] A → K (.tuple #[]) A) : CallF Tryd.prog 76 #[yield, .pointer (some ⟨bA, 0, none⟩), .pointer (some ⟨bB, 0, none⟩)] H K Z := by
  refine V76_ok ?_
  unfold V76
  refine ⟨sa, hA, sb, hB, fun a b A m => ∃ al bl, Rd flK 2 H0 a al ∧ Rd flK 2 H0 b bl ∧ al.length ≤ 1000000 ∧ bl.length ≤ 1000000 ∧ Q (pairs al bl) A ∧ m = al.length + bl.length, ⟨_, xs, ys, ra, rb, la, lb, h0, rfl⟩, ?_⟩
  rintro a b A m ⟨al, bl, ra, rb, la, lb, q, rfl⟩ scr
  have na := ra.len
  have nb := rb.len
  have ew : w64 ((a.n : Int) + (b.n : Int)) = ((al.length + bl.length : Nat) : Int) := by rw [wid (by omega) (by omega)]; omega
  rw [ew]
  refine ⟨fun hpos => ?_, fun hz => ?_⟩
  rotate_left
  · have h1 : ¬ 0 < al.length + bl.length := by have := of_decide_eq_false hz; omega
    have e1 : al = [] := List.length_eq_zero_iff.1 (by omega)
    have e2 : bl = [] := List.length_eq_zero_iff.1 (by omega)
    subst e1 e2
    rw [pairs] at q
    exact k A q
  have hpos' : al.length + bl.length ≠ 0 := by have := of_decide_eq_true hpos; omega
  intro bX B hB bY C hC
  have sC : Sym A no C [blk bY [.int .i64 0, .int .u64 0] 70, blk bX [.int .i64 0, .int .u64 0] 70] := ((Sym.start A).newb (cs := [.int .i64 0, .int .u64 0]) hB).newb (cs := [.int .i64 0, .int .u64 0]) hC
  have fC : Fr no H0 C := (qf _ _ q).trans sC.fr
  have lf : ∀ {X : Hp} {ad : Addr} {v : Value}, Fr no H0 X → hcell H0 ad = some v → hcell X ad = some v := fun f e => f.cell e fun h => h
  have fX : ∀ {D : Hp} {k1 x1 k2 y1 : Int}, Sym A no D [blk bY [.int .i64 k2, .int .u64 y1] 70, blk bX [.int .i64 k1, .int .u64 x1] 70] → Fr no H0 D := fun sD => (qf _ _ q).trans sD.fr
  -- the two things are written, and the call is made
  have putX : ∀ {k1 x1 : Int} {Kx : Hp → Prop}, (∀ D, Sym A no D [blk bY [.int .i64 0, .int .u64 0] 70, blk bX [.int .i64 k1, .int .u64 x1] 70] → Kx D) → StL ⟨bX, 0, none⟩ 0 [.int .i64 k1, .int .u64 x1] C Kx := fun kk =>
    sC.stbs (k := 1) (i := 0) rfl (by simp) two2 fun D sD => kk D sD
  have putY : ∀ {D : Hp} {k1 x1 k2 y1 : Int} {Kx : Hp → Prop}, Sym A no D [blk bY [.int .i64 0, .int .u64 0] 70, blk bX [.int .i64 k1, .int .u64 x1] 70] →
      (∀ E, Sym A no E [blk bY [.int .i64 k2, .int .u64 y1] 70, blk bX [.int .i64 k1, .int .u64 x1] 70] → Kx E) → StL ⟨bY, 0, none⟩ 0 [.int .i64 k2, .int .u64 y1] D Kx := fun sD kk =>
    sD.stbs (k := 0) (i := 0) rfl (by simp) two2 fun E sE => kk E sE
  have call : ∀ {k x y : Nat} {p : List Pr} {D : Hp} {Kc : Value → Hp → Prop}, Q ((k, x, y) :: p) A → Sym A no D [blk bY [.int .i64 (k : Int), .int .u64 (y : Int)] 70, blk bX [.int .i64 (k : Int), .int .u64 (x : Int)] 70] → (∀ F, Q p F → Kc (.bool true) F) →
      (∃ x_a1 : Int, ∃ x_b1 : Int, (hcell D ⟨bX, 0, none⟩ = some (.int .i64 x_a1) ∧ hcell D ⟨bX, 1, none⟩ = some (.int .u64 x_b1) ∧ True) ∧ ∃ x_a2 : Int, ∃ x_b2 : Int, (hcell D ⟨bY, 0, none⟩ = some (.int .i64 x_a2) ∧ hcell D ⟨bY, 1, none⟩ = some (.int .u64 x_b2) ∧ True) ∧
        callV Tryd.prog yield [.agg #[.int .i64 x_a1, .int .u64 x_b1], .agg #[.int .i64 x_a2, .int .u64 x_b2]] D Kc Z) := fun q' sD kk =>
    ⟨_, _, ⟨sD.ld (k := 1) rfl 0, sD.ld (k := 1) rfl 1, trivial⟩, _, _, ⟨sD.ld (k := 0) rfl 0, sD.ld (k := 0) rfl 1, trivial⟩, step _ _ _ _ _ _ (more _ _ _ q' sD.fr) kk⟩
  refine ⟨fun t D => D = C ∧ t = fst al bl, ?_, fun hb0 => ⟨rfl, ?_⟩, fun hb0 => ⟨fun ha0 => ?_, fun ha0 => ⟨rfl, ?_⟩⟩⟩
  · rintro t D ⟨hD, rfl⟩ scr1
    subst D
    refine ⟨fun ht => ?_, fun hf => ?_⟩
    · obtain ⟨x, l, rfl, ep⟩ := pairs_fst ht
      rw [ep] at q
      have hx : (x :: l)[0]? = some x := rfl
      refine ixK ra hx fun ad e1 e2 => ⟨_, _, ⟨lf fC e1, lf fC e2, trivial⟩, ixK ra hx fun ad1 e3 e4 => ⟨_, lf fC e3, ⟨⟨lf fC e1, lf fC e2, trivial⟩, putX fun D sD => putY (k2 := (x.1 : Int)) (y1 := ((0 : Nat) : Int)) sD fun E sE => tailK ra fun c rc => call q sE fun F qF => ?_⟩,
        putX fun D sD => ⟨lf (fX sD) e3, putY (k2 := (x.1 : Int)) (y1 := ((0 : Nat) : Int)) sD fun E sE => tailK ra fun c rc => call q sE fun F qF => ?_⟩⟩⟩
      all_goals
        refine ⟨true, rfl, (fun h => by cases h), fun _ => ⟨l.length + bl.length, by simp only [List.length_cons]; omega, l, bl, rc, rb, ?_, lb, qF, rfl⟩⟩
        simp only [List.length_cons] at la; omega
    · refine ⟨fun t D => D = C ∧ t = snd al bl, ?_, fun ha0 => ⟨rfl, ?_⟩, fun ha0 => ?_⟩
      · rintro t D ⟨hD, rfl⟩ scr2
        subst D
        refine ⟨fun ht => ?_, fun hf2 => ?_⟩
        · obtain ⟨y, m, rfl, ep⟩ := pairs_snd hpos' hf ht
          rw [ep] at q
          have hy : (y :: m)[0]? = some y := rfl
          refine ixK rb hy fun ad2 e1 e2 => ⟨_, lf fC e1, ixK rb hy fun ad3 e3 e4 => ⟨_, _, ⟨lf fC e3, lf fC e4, trivial⟩, ⟨lf fC e3, lf fC e4, trivial⟩, putX (x1 := ((0 : Nat) : Int)) fun D sD => ⟨⟨lf (fX sD) e3, lf (fX sD) e4, trivial⟩, putY sD fun E sE => tailK rb fun c rc => call q sE fun F qF => ?_⟩⟩⟩
          refine ⟨true, rfl, (fun h => by cases h), fun _ => ⟨al.length + m.length, by simp only [List.length_cons]; omega, al, m, ra, rc, la, ?_, qF, rfl⟩⟩
          simp only [List.length_cons] at lb; omega
        · obtain ⟨x, l, y, m, rfl, rfl, exy, ep⟩ := pairs_both hf hf2
          rw [ep] at q
          have hx : (x :: l)[0]? = some x := rfl
          have hy : (y :: m)[0]? = some y := rfl
          refine ixK ra hx fun ad4 e1 e2 => ⟨_, _, ⟨lf fC e1, lf fC e2, trivial⟩, ixK rb hy fun ad5 e3 e4 => ⟨_, _, ⟨lf fC e3, lf fC e4, trivial⟩, putX fun D sD => ⟨⟨lf (fX sD) e3, lf (fX sD) e4, trivial⟩, putY sD fun E sE => tailK ra fun c rc => tailK rb fun c' rc' => ?_⟩⟩⟩
          rw [← exy] at sE
          refine call q sE fun F qF => ?_
          refine ⟨true, rfl, (fun h => by cases h), fun _ => ⟨l.length + m.length, by simp only [List.length_cons]; omega, l, m, rc, rc', ?_, ?_, qF, rfl⟩⟩
          · simp only [List.length_cons] at la; omega
          · simp only [List.length_cons] at lb; omega
      · have : al = [] := List.length_eq_zero_iff.1 (by have : (a.n : Int) = 0 := (by simpa using ha0); omega)
        subst this
        rfl
      · have hal : al.length ≠ 0 := by have : ¬ (a.n : Int) = 0 := (by simpa using ha0); omega
        cases al with
        | nil => simp at hal
        | cons x l =>
          cases bl with
          | nil => cases hf
          | cons y m =>
            have hx : (x :: l)[0]? = some x := rfl
            have hy : (y :: m)[0]? = some y := rfl
            refine ixK rb hy fun ad6 e1 e2 => ⟨_, lf fC e1, ixK ra hx fun ad7 e3 e4 => ⟨_, lf fC e3, rfl, ?_⟩⟩
            unfold snd
            rw [Bool.eq_iff_iff, decide_eq_true_eq, decide_eq_true_eq]
            omega
  · have : bl = [] := List.length_eq_zero_iff.1 (by have : (b.n : Int) = 0 := (by simpa using hb0); omega)
    subst this
    cases al with
    | nil => simp at hpos'
    | cons x l => rfl
  · have hbl : bl.length ≠ 0 := by have : ¬ (b.n : Int) = 0 := (by simpa using hb0); omega
    have hal : 0 < al.length := by have := of_decide_eq_true ha0; omega
    cases al with
    | nil => simp at hal
    | cons x l =>
      cases bl with
      | nil => simp at hbl
      | cons y m =>
        have hx : (x :: l)[0]? = some x := rfl
        have hy : (y :: m)[0]? = some y := rfl
        refine ixK ra hx fun ad8 e1 e2 => ⟨_, lf fC e1, ixK rb hy fun ad9 e3 e4 => ⟨_, lf fC e3, rfl, ?_⟩⟩
        unfold fst
        rw [Bool.eq_iff_iff, decide_eq_true_eq, decide_eq_true_eq]
        omega
  · have : al = [] := List.length_eq_zero_iff.1 (by have := of_decide_eq_false ha0; omega)
    subst this
    rfl
theorem okM1 : fnOk Tryd.prog 76 = true := by kernel_rfl
theorem Sym.sto {H' : Hp} {k b : Nat} {o o' : Obj} (h : Sym H0 S H L) (hk : L[k]? = some (obj b o)) (e : H' = H.setIfInBounds b o') : Sym H0 S H' (L.set k (obj b o')) := by
  obtain ⟨f, g, _⟩ := setB (h.get hk) e
  exact h.setk hk f g fun i hi => .inl hi
/-- a function of two blocks' bits -/
def OpV (f : Value) (op : Nat → Nat → Nat) : Prop := Value.cells f = #[f] ∧ f.oneCell = true ∧ ∀ (x y : Nat) (A : Hp) (K' : Value → Hp → Prop) (Z' : List PanicEntry → Hp → Prop), x < 2 ^ 64 → y < 2 ^ 64 → K' (.int .u64 (op x y : Int)) A → callV Tryd.prog f [.int .u64 (x : Int), .int .u64 (y : Int)] A K' Z'
theorem made_ok {f : Value} {op : Nat → Nat → Nat} {p q : Addr} {xs ys : List Bk} (hf : OpV f op) (hp : HasS H p xs) (hq : HasS H q ys) (wx : Wf xs) (wy : Wf ys) (lx : xs.length ≤ 1000000) (ly : ys.length ≤ 1000000)
    (k : ∀ b s H', Sym H no H' (setL b s (P04.made op xs ys)) → K (.pointer (some ⟨b, 0, none⟩)) H') : CallF Tryd.prog 37 #[.pointer (some p), .pointer (some q), f] H K Z := by
  refine V37_ok ?_
  unfold V37
  obtain ⟨f1, f2, f3⟩ := hf
  rw [f1]
  intro bOf H1 n1 b H2 n2 bOut H3 n3
  have s3 := (((Sym.start H).newb (cs := [f]) n1).newb (cs := [.slice none 0 0]) n2).newb (cs := [.pointer none]) n3
  refine s3.stb (k := 0) (i := 0) rfl (by simp) rfl fun H4 s4 => ?_
  obtain ⟨sx, px, rx⟩ := hp
  obtain ⟨sy, py, ry⟩ := hq
  refine list_ok (s4.frno.cell px fun h => h) ⟨sx, rfl, list_ok (s4.frno.cell py fun h => h) ⟨sy, rfl, ?_⟩⟩
  refine V67_ok ?_
  unfold V67
  intro bA H5 n5 bB H6 n6
  refine ⟨_, rfl, ?_⟩
  intro D H8 n8 l H9 n9
  have s6 := (s4.newb (cs := [.slice sx.a sx.n sx.c]) n5).newb (cs := [.slice sy.a sy.n sy.c]) n6
  have s9 := ((s6.nilrow flK 70 2).newo n8).newo n9
  obtain ⟨ps, asg, body, hlr⟩ := lrec_eq (f := Tryd.f37) (n := 3) (by kernel_rfl)
  rw [hlr] at s9
  obtain ⟨tmps, s9, hy⟩ : ∃ tmps : List Value, Sym H no H9 [obj l (.loop ⟨.ready, none, 37, tmps.toArray, ps, asg, body, D⟩), obj D (.deferred (some [])), arr flK 70 2 ⟨none, 0, 0⟩ [], blk bB [.slice sy.a sy.n sy.c] 24, blk bA [.slice sx.a sx.n sx.c] 24, blk bOut [.pointer (some ⟨b, 0, none⟩)] 23, blk b [.slice none 0 0] 26, blk bOf [f] 72] ∧
      ∀ (X : Hp) (k x y : Nat) (K' : Value → Hp → Prop), R37_3 X bOf bOut l (k : Int) (x : Int) (k : Int) (y : Int) K' → yldC Tryd.prog aJ37 aL37 Tryd.f37 37 3 l tmps [bkV k x, bkV k y] X K' := ⟨_, s9, fun X k x y K' h => R37_3_ok h⟩
  unfold callG
  simp only [okM1, if_true]
  have hpl := pairs_len xs ys
  have hpb := pairs_lt xs ys (fun x hx => (wx.ok x hx).2.1) (fun x hx => (wy.ok x hx).2.1)
  refine merged1_ok (H0 := H) (Q := fun r X => ∃ (so : Sl) (done : List Pr), pairs xs ys = done ++ r ∧
      Sym H no X [obj l (.loop ⟨.ready, none, 37, tmps.toArray, ps, asg, body, D⟩), obj D (.deferred (some [])), arr flK 70 2 so (keep op done), blk bB [.slice sy.a sy.n sy.c] 24, blk bA [.slice sx.a sx.n sx.c] 24, blk bOut [.pointer (some ⟨b, 0, none⟩)] 23, blk b [.slice so.a so.n so.c] 26, blk bOf [f] 72])
    (s9.ld (k := 4) rfl 0) (s9.ld (k := 3) rfl 0) rx ry lx ly ⟨⟨none, 0, 0⟩, [], rfl, s9⟩ ?_ ?_ ?_ ?_
  · rintro r A ⟨so, done, _, sA⟩
    exact sA.frno
  · rintro r A A' ⟨so, done, e, sA⟩ hfr
    exact ⟨so, done, e, sA.more hfr⟩
  · rintro k x y r A K' ⟨so, done, ep, sA⟩ kk
    have hin : (k, x, y) ∈ pairs xs ys := by rw [ep]; exact List.mem_append.2 (.inr List.mem_cons_self)
    obtain ⟨bx, b_y⟩ := hpb _ hin
    have hdl : done.length + 1 ≤ (pairs xs ys).length := by rw [ep, List.length_append, List.length_cons]; omega
    unfold callV
    simp only [List.nil_append]
    refine yldC_sound (sA.get (k := 0) rfl) rfl rfl (by rw [hlr]) (by rw [hlr]) (by rw [hlr]) (hy _ _ _ _ _ ?_)
    unfold R37_3
    intro bX A1 m1
    have t1 := sA.newb (cs := [.int .i64 0, .int .u64 0]) m1
    refine t1.stbs (k := 0) (i := 0) (vs := [.int .i64 (k : Int), .int .u64 (x : Int)]) rfl (by simp) two2 fun A2 t2 => ?_
    intro bY A3 m3
    have t3 := t2.newb (cs := [.int .i64 0, .int .u64 0]) m3
    refine t3.stbs (k := 0) (i := 0) (vs := [.int .i64 (k : Int), .int .u64 (y : Int)]) rfl (by simp) two2 fun A4 t4 => ?_
    refine ⟨_, t4.get (k := 2) rfl, rfl, ?_⟩
    intro A5 e5
    have t5 := Sym.sto t4 (k := 2) rfl e5
    refine ⟨_, t5.ld (k := 9) rfl 0, _, t5.ld (k := 1) rfl 1, _, t5.ld (k := 0) rfl 1, f3 _ _ _ _ _ bx b_y ⟨_, rfl, fun hne => ?_, fun heq => ?_⟩⟩
    · have hne' : op x y ≠ 0 := by
        have : ¬ ((op x y : Nat) : Int) = 0 := by simpa using hne
        omega
      have ek : keep1 op (k, x, y) = [(k, op x y)] := by unfold keep1; rw [if_pos hne']
      refine ⟨_, t5.ld (k := 7) rfl 0, _, t5.ld (k := 7) rfl 0, so, t5.ld (k := 8) rfl 0, _, t5.ld (k := 1) rfl 0, t5.ld (k := 8) rfl 0, t5.ld (k := 7) rfl 0, t5.ld (k := 7) rfl 0, ?_⟩
      intro b1 A6 n6'
      have t6 := t5.more n6'.fr
      refine ⟨t6.ld (k := 8) rfl 0, t6.ld (k := 7) rfl 0, t6.ld (k := 7) rfl 0, ?_⟩
      have hso : so.n = (keep op done).length := RowN.len FlK (by decide) (show RowN flK 70 2 A so (keep op done) from sA.get (k := 2) rfl)
      have hkl := keep_len op done
      refine t5.app1 (k := 4) (x := (k, op x y)) tyK FlK (by decide) n6' rfl (by omega) fun ap A7 hap t7 => ?_
      refine ⟨t7.ld (k := 7) rfl 0, ?_⟩
      refine t7.stb (k := 8) (i := 0) rfl (by simp) rfl fun A8 t8 => ?_
      refine ⟨_, t8.get (k := 2) rfl, ?_⟩
      intro A9 e9
      have t9 := Sym.sto t8 (k := 2) rfl e9
      refine kk A9 ⟨ap, done ++ [(k, x, y)], by rw [ep, List.append_assoc]; rfl, ?_⟩
      rw [keep_snoc, ek]
      exact t9.drop.drop
    · have heq' : op x y = 0 := by
        have : ((op x y : Nat) : Int) = 0 := by simpa using heq
        omega
      have ek : keep1 op (k, x, y) = [] := by unfold keep1; rw [if_neg (fun h => h heq')]
      refine ⟨_, t5.get (k := 2) rfl, ?_⟩
      intro A9 e9
      have t9 := Sym.sto t5 (k := 2) rfl e9
      refine kk A9 ⟨so, done ++ [(k, x, y)], by rw [ep, List.append_assoc]; rfl, ?_⟩
      rw [keep_snoc, ek, List.append_nil]
      exact t9.drop.drop
  · rintro A ⟨so, done, ep, sA⟩
    rw [List.append_nil] at ep
    refine ⟨_, sA.get (k := 0) rfl, rfl, ?_⟩
    intro A1 e1
    have t1 := Sym.sto sA (k := 0) rfl e1
    refine ⟨_, t1.ld (k := 5) rfl 0, t1.get (k := 1) rfl, ?_⟩
    intro A2 e2
    have t2 := Sym.sto t1 (k := 1) rfl e2
    refine k b so A2 ?_
    have := t2.re [6, 2] (by decide)
    rw [← ep] at this
    exact this
end
end Go.Proofs.YtigbdoicgdmliaaDoor.C04

