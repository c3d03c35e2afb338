import Derived.Test.YtjpkbenogloihaaGreatDoorZ13
set_option linter.unusedVariables false
set_option linter.unusedSimpArgs false
section
namespace Go.Proofs.YtjpkbenogloihaaGreatDoor.C15
open Go Go.V Go.Proofs Go.Proofs.YtjpkbenogloihaaGreatDoor.N15 Go.Proofs.YtjpkbenogloihaaGreatDoor.P14 Go.Proofs.YtjpkbenogloihaaGreatDoor.C14 Go.Proofs.YtjpkbenogloihaaGreatDoor.P15
attribute [local irreducible] Cvt ExtF CallF hrun App MkS callV
theorem lf {A B : Hp} (f : Fr no A B) {ad : Addr} {v : Value} (e : hcell A ad = some v) : hcell B ad = some v := f.cell e fun h => h
theorem conN_eq (c : ConD) : conN c = ([c.a] ++ (if c.op = 1 then [] else [c.b])) ++ c.args.filter fun a => decide (a ≠ []) := by
 unfold conN
 rw [List.append_assoc]
theorem cons_le {x : SysD} (h : Right x) (j : Nat) : ((x.cons.take j).flatMap conN).length ≤ 54000 := by
 have := flat_le (f := conN) (n := 9) (l := x.cons.take j) fun c hc => by have := conN_len c; have := h.c.2 c (List.mem_of_mem_take hc); omega
 have := h.c.1
 have := List.length_take_le j x.cons
 rw [List.length_take] at *
 omega
theorem objs_le {x : SysD} (h : Right x) (j : Nat) : ((x.objs.take j).flatMap objN).length ≤ 38400 := by
 have := flat_le (f := objN) (n := 64) (l := x.objs.take j) fun c hc => by have := objN_len c; have := h.o.2 c (List.mem_of_mem_take hc); omega
 have := h.o.1
 have := List.length_take_le j x.objs
 rw [List.length_take] at *
 omega
theorem objP_len (o : ObjD) : (objP o).length = o.kinds.length := by unfold objP; rw [List.length_map, List.length_range]
theorem objsP_le {x : SysD} (h : Right x) (j : Nat) : ((x.objs.take j).flatMap objP).length ≤ 38400 := by
 have := flat_le (f := objP) (n := 64) (l := x.objs.take j) fun c hc => by have := objP_len c; have := h.o.2 c (List.mem_of_mem_take hc); omega
 have := h.o.1
 have := List.length_take_le j x.objs
 rw [List.length_take] at *
 omega
theorem consP_le {x : SysD} (h : Right x) (j : Nat) : ((x.cons.take j).flatMap conP).length ≤ 6000 := by
 have := flat_le (f := conP) (n := 1) (l := x.cons.take j) fun c hc => by unfold conP; split <;> simp
 have := h.c.1
 have := List.length_take_le j x.cons
 rw [List.length_take] at *
 omega
def cellsN (o : ObjD) (q : Nat) : List L8 := (List.range q).flatMap fun (i : Nat) => if o.kinds[i]? = some 112 then [cellL o.name (i : Int)] else []
def cellsP (o : ObjD) (q : Nat) : List L8 := (List.range q).map fun (i : Nat) => cellL o.name (i : Int)
theorem cellsN_len (o : ObjD) (q : Nat) : (cellsN o q).length ≤ q := by
 have := flat_le (l := List.range q) (n := 1) (f := fun (i : Nat) => if o.kinds[i]? = some 112 then [cellL o.name (i : Int)] else []) (fun x _ => by split <;> simp)
 rw [List.length_range] at this
 unfold cellsN
 omega
theorem cellsP_len (o : ObjD) (q : Nat) : (cellsP o q).length = q := by unfold cellsP; rw [List.length_map, List.length_range]
theorem cellsP_next (o : ObjD) (q : Nat) : cellsP o (q + 1) = cellsP o q ++ [cellL o.name (q : Int)] := by
 unfold cellsP
 rw [List.range_succ, List.map_append]
 rfl
theorem cellsN_next (o : ObjD) (q : Nat) : cellsN o (q + 1) = cellsN o q ++ (if o.kinds[q]? = some 112 then [cellL o.name (q : Int)] else []) := range_snoc
section
variable {H : Hp} {K : Value → Hp → Prop} {Z : List PanicEntry → Hp → Prop} {l : L8}
abbrev sL (s1 s2 s3 : Sl) : List Value := [.slice s1.a s1.n s1.c, .slice s2.a s2.n s2.c, .slice s3.a s3.n s3.c]
abbrev sAg (s1 s2 s3 : Sl) : Value := .agg #[.slice s1.a s1.n s1.c, .slice s2.a s2.n s2.c, .slice s3.a s3.n s3.c]
theorem nodes_ok {s1 s2 s3 : Sl} {x : SysD} (h : RdSys H s1 s2 s3 x) (hx : OkSys x) (ht : Pw H) (k : ∀ s' ys H', Fr no H H' → IsN x ys → Rd flL 1 H' s' ys → K (.slice s'.a s'.n s'.c) H') : CallF Tryz.prog 10 #[sAg s1 s2 s3] H K Z := by
 refine V10_ok ?_
 unfold V10
 intro bS A hA
 have sA := (Sym.start H).newb (cs := sL s1 s2 s3) hA
 refine ⟨s1, s2, s3, ⟨sA.ld (k := 0) rfl 0, sA.ld (k := 0) rfl 1, sA.ld (k := 0) rfl 2, trivial⟩, check_ok (h.more sA.fr) hx (TabH.more ht sA.fr) fun B fB => ⟨_, rfl, fun hne => ?_, fun heq => ⟨s3, (sA.more fB).ld (k := 0) rfl 2, ?_⟩⟩⟩
 ·exact k ⟨none, 0, 0⟩ [] B (sA.fr.trans fB) (.inl ⟨bne_iff_ne.1 hne, rfl⟩) Rd.nil
 have h0 := bne_eq_false_iff_eq.1 heq
 have hr := check_right h0
 have sB := sA.more fB
 have n3 := RdX.len h.c
 have n1 := RdX.len h.o
 have z3 := hr.c.1
 have z1 := hr.o.1
 refine ⟨fun l i C m => ∃ j : Nat, i = (j : Int) ∧ j ≤ x.cons.length ∧ m = x.cons.length - j ∧ AS H C l ((x.cons.take j).flatMap conN) [blk bS (sL s1 s2 s3) 26], ⟨_, 0, rfl, Nat.zero_le _, rfl, sB.nilrow _ _ _⟩, ?_⟩
 rintro l i C m ⟨j, rfl, hj, rfl, sC⟩ scr
 refine ⟨fun hlt => ?_, fun hge => ?_⟩
 ·have hj' : j < x.cons.length := by have := dlt hlt; omega
  obtain ⟨y, hy, hym⟩ := getN hj'
  obtain ⟨t, hta, ix⟩ := atC h.c hy
  have hargs := hr.c.2 y hym
  have hlen := cons_le hr j
  have hsn := flat_snoc (f := conN) hy
  generalize (x.cons.take j).flatMap conN = done at sC hlen hsn
  have fC := sC.fr
  refine ix fun ad e1 e2 e3 e4 e5 e6 => ⟨_, _, _, _, _, t, ⟨lf fC e1, lf fC e2, lf fC e3, lf fC e4, lf fC e5, lf fC e6, trivial⟩, fun bC D hD => ?_⟩
  have sD := Sym.newb sC (cs := [.int .i64 0, .string ⟨#[]⟩, .string ⟨#[]⟩, .int .i64 0, .string ⟨#[]⟩, .slice none 0 0]) hD
  refine sD.stbs (k := 0) (i := 0) (vs := cL y t) rfl (by simp) (FlHC.2 (HC.of y t)) fun E sE => ?_
  replace sE : AS H E l done [blk bC (cL y t) 45, blk bS (sL s1 s2 s3) 26] := Sym.swap sE
  refine ⟨_, Sym.ld sE (k := 1) rfl 1, fun b F hF => AS.put (x := y.a) sE hF (by omega) fun l1 G sG => ?_⟩
  refine ⟨fun l' I => AS H I l' (done ++ ([y.a] ++ if y.op = 1 then [] else [y.b])) [blk bC (cL y t) 45, blk bS (sL s1 s2 s3) 26], ?_, _, Sym.ld sG (k := 1) rfl 0, fun h1 => ⟨_, Sym.ld sG (k := 1) rfl 2, fun b2 I hI => AS.put (x := y.b) sG hI (by rw [List.length_append]; simp only [List.length_singleton]; omega) fun l2 J sJ => ?_⟩, fun h1 => ?_⟩
  ·rintro l' I sI scr1
   have hl2 : (done ++ ([y.a] ++ if y.op = 1 then [] else [y.b])).length ≤ 54002 := by
    rw [List.length_append, List.length_append]
    have : (if y.op = 1 then ([] : List L8) else [y.b]).length ≤ 1 := by split <;> simp
    simp only [List.length_singleton]
    omega
   rw [conN_eq, ← List.append_assoc] at hsn
   generalize (done ++ ([y.a] ++ if y.op = 1 then [] else [y.b])) = d2 at sI hl2 hsn
   have nt := hta.len
   refine ⟨t, Sym.ld sI (k := 1) rfl 5, fun l2 i J m => ∃ q : Nat, i = (q : Int) ∧ q ≤ y.args.length ∧ m = y.args.length - q ∧ AS H J l2 (d2 ++ (y.args.take q).filter fun a => decide (a ≠ [])) [blk bC (cL y t) 45, blk bS (sL s1 s2 s3) 26], ⟨_, 0, rfl, Nat.zero_le _, rfl, by rw [List.take_zero, List.filter_nil, List.append_nil]; exact sI⟩, ?_⟩
   rintro l2 i J m ⟨q, rfl, hq, rfl, sJ⟩ scr2
   refine ⟨fun hlt2 => ?_, fun hge2 => ?_⟩
   ·have hq' : q < y.args.length := by have := dlt hlt2; omega
    obtain ⟨z, hz, _⟩ := getN hq'
    have hlf : ((y.args.take q).filter fun a => decide (a ≠ [])).length ≤ q := by
     have := List.length_filter_le (fun a => decide (a ≠ [])) (y.args.take q)
     rw [List.length_take] at this
     omega
    have hsn2 := filt_snoc (p := fun a => decide (a ≠ [])) hz
    refine atL (hta.more sJ.fr) hz fun ad2 g1 => ⟨_, g1, ?_⟩
    rw [str_nil, beq_str]
    refine ⟨fun hne => fun b2 L hL => AS.put (x := z) sJ hL (by rw [List.length_append]; omega) fun l3 M sM => ⟨y.args.length - (q + 1), by omega, q + 1, wi (by omega), hq', rfl, ?_⟩, fun he => ⟨y.args.length - (q + 1), by omega, q + 1, wi (by omega), hq', rfl, ?_⟩⟩
    ·rw [hsn2, if_pos (decide_eq_true (notd.1.1 hne)), ← List.append_assoc]
     exact sM
    ·rw [hsn2, if_neg (fun h => (of_decide_eq_true (p := z ≠ []) h) (notd.2.1 he)), List.append_nil]
     exact sJ
   ·have : q = y.args.length := by have := dge hge2; omega
    rw [this, List.take_length, ← hsn] at sJ
    exact ⟨x.cons.length - (j + 1), by omega, j + 1, wi (by omega), hj', rfl, AS.drop' sJ⟩
  ·rw [if_neg (bne_iff_ne.1 h1), ← List.append_assoc]
   exact sJ
  ·rw [if_pos (bne_eq_false_iff_eq.1 h1), List.append_nil]
   exact sG
 have hjc : j = x.cons.length := by have := dge hge; omega
 rw [hjc, List.take_length] at sC
 have hcl := cons_le hr x.cons.length
 rw [List.take_length] at hcl
 refine ⟨s1, Sym.ld sC (k := 1) rfl 0, fun l i D m => ∃ j : Nat, i = (j : Int) ∧ j ≤ x.objs.length ∧ m = x.objs.length - j ∧ AS H D l (x.cons.flatMap conN ++ (x.objs.take j).flatMap objN) [blk bS (sL s1 s2 s3) 26], ⟨_, 0, rfl, Nat.zero_le _, rfl, by rw [List.take_zero, List.flatMap_nil, List.append_nil]; exact sC⟩, ?_⟩
 clear hj hge hjc sC
 rintro l i C m ⟨j, rfl, hj, rfl, sC⟩ scr
 have hlen := objs_le hr j
 refine ⟨fun hlt => ?_, fun hge => ?_⟩
 ·have hj' : j < x.objs.length := by have := dlt hlt; omega
  obtain ⟨y, hy, hym⟩ := getN hj'
  obtain ⟨t, hta, ix⟩ := atO h.o hy
  have hkinds := hr.o.2 y hym
  have hsn := flat_snoc (f := objN) hy
  have fC := sC.fr
  have hl2 : (x.cons.flatMap conN ++ (x.objs.take j).flatMap objN).length ≤ 100000 := by rw [List.length_append]; omega
  refine ix fun ad e1 e2 e3 => ⟨_, _, t, ⟨lf fC e1, lf fC e2, lf fC e3, trivial⟩, fun bO D hD => ?_⟩
  have sD := Sym.newb sC (cs := [.string ⟨#[]⟩, .string ⟨#[]⟩, .slice none 0 0]) hD
  refine sD.stbs (k := 0) (i := 0) (vs := oL y t) rfl (by simp) (FlHO.2 (HO.of y t)) fun E sE => ?_
  replace sE : AS H E l (x.cons.flatMap conN ++ (x.objs.take j).flatMap objN) [blk bO (oL y t) 43, blk bS (sL s1 s2 s3) 26] := Sym.swap sE
  generalize hdone : x.cons.flatMap conN ++ (x.objs.take j).flatMap objN = done at sE hl2
  refine ⟨_, Sym.ld sE (k := 1) rfl 1, fun l2 i F m => ∃ q : Nat, i = (q : Int) ∧ q ≤ y.kinds.length ∧ m = y.kinds.length - q ∧ AS H F l2 (done ++ cellsN y q) [blk bO (oL y t) 43, blk bS (sL s1 s2 s3) 26], ⟨_, 0, rfl, Nat.zero_le _, rfl, by rw [show cellsN y 0 = [] from rfl, List.append_nil]; exact sE⟩, ?_⟩
  rw [str_size]
  rintro l2 i F m ⟨q, rfl, hq, rfl, sF⟩ scr2
  refine ⟨fun hlt2 => ⟨_, Sym.ld sF (k := 1) rfl 1, ?_⟩, fun hge2 => ?_⟩
  ·have hq' : q < y.kinds.length := dlt hlt2
   have hz : y.kinds[q]? = some y.kinds[q] := List.getElem?_eq_getElem hq'
   generalize y.kinds[q] = z at hz
   have hnx := cellsN_next y q
   refine IxS.mk hz ⟨fun hp => ⟨_, Sym.ld sF (k := 1) rfl 0, cell_ok (hx.o.2 y hym).1 (TabH.more ht sF.fr) fun G fG => ⟨_, rfl, fun b2 L hL => AS.put (x := cellL y.name (q : Int)) (Sym.more sF fG) hL (by have := cellsN_len y q; rw [List.length_append]; omega) fun l3 M sM => ⟨y.kinds.length - (q + 1), by omega, q + 1, wi (by omega), hq', rfl, ?_⟩⟩⟩, fun hp => ⟨y.kinds.length - (q + 1), by omega, q + 1, wi (by omega), hq', rfl, ?_⟩⟩
   ·have hb : z = 112 := (u8_is (n := 112) (by decide)).1 hp
    rw [hz, hb, if_pos rfl] at hnx
    rw [hnx, ← List.append_assoc]
    exact sM
   ·have hb : z ≠ 112 := fun e => by subst e; cases hp
    rw [hz, if_neg (fun h => hb (Option.some_inj.1 h)), List.append_nil] at hnx
    rw [hnx]
    exact sF
  ·have hqe : q = y.kinds.length := by have := dge hge2; omega
   refine ⟨x.objs.length - (j + 1), by omega, j + 1, wi (by omega), hj', rfl, ?_⟩
   rw [hsn, ← List.append_assoc, hdone]
   rw [hqe] at sF
   exact AS.drop' sF
 ·have hje : j = x.objs.length := by have := dge hge; omega
  rw [hje, List.take_length] at sC hlen
  refine sortedL_ok (AS.rd' sC) (by rw [List.length_append]; omega) fun s' ys D fD hris hmem hrd => ⟨_, rfl, k s' ys D (sC.fr.trans fD) (.inr ⟨h0, hris, hmem⟩) hrd⟩
theorem places_ok {s1 s2 s3 : Sl} {x : SysD} (h : RdSys H s1 s2 s3 x) (hx : OkSys x) (ht : Pw H) (k : ∀ s' ys H', Fr no H H' → IsP x ys → Rd flL 1 H' s' ys → K (.slice s'.a s'.n s'.c) H') : CallF Tryz.prog 11 #[sAg s1 s2 s3] H K Z := by
 refine V11_ok ?_
 unfold V11
 intro bS A hA
 have sA := (Sym.start H).newb (cs := sL s1 s2 s3) hA
 refine ⟨s1, s2, s3, ⟨sA.ld (k := 0) rfl 0, sA.ld (k := 0) rfl 1, sA.ld (k := 0) rfl 2, trivial⟩, check_ok (h.more sA.fr) hx (TabH.more ht sA.fr) fun B fB => ⟨_, rfl, fun hne => ?_, fun heq => ⟨s1, (sA.more fB).ld (k := 0) rfl 0, ?_⟩⟩⟩
 ·exact k ⟨none, 0, 0⟩ [] B (sA.fr.trans fB) (.inl ⟨bne_iff_ne.1 hne, rfl⟩) Rd.nil
 have h0 := bne_eq_false_iff_eq.1 heq
 have hr := check_right h0
 have sB := sA.more fB
 have n3 := RdX.len h.c
 have n2 := h.f.len
 have n1 := RdX.len h.o
 have z3 := hr.c.1
 have z2 := hr.f
 have z1 := hr.o.1
 refine ⟨fun l i D m => ∃ j : Nat, i = (j : Int) ∧ j ≤ x.objs.length ∧ m = x.objs.length - j ∧ AS H D l ((x.objs.take j).flatMap objP) [blk bS (sL s1 s2 s3) 26], ⟨_, 0, rfl, Nat.zero_le _, rfl, sB.nilrow _ _ _⟩, ?_⟩
 rintro l i C m ⟨j, rfl, hj, rfl, sC⟩ scr
 have hlen := objsP_le hr j
 refine ⟨fun hlt => ?_, fun hge => ?_⟩
 ·have hj' : j < x.objs.length := by have := dlt hlt; omega
  obtain ⟨y, hy, hym⟩ := getN hj'
  obtain ⟨t, hta, ix⟩ := atO h.o hy
  have hkinds := hr.o.2 y hym
  have hsn := flat_snoc (f := objP) hy
  have fC := sC.fr
  refine ix fun ad e1 e2 e3 => ⟨_, _, t, ⟨lf fC e1, lf fC e2, lf fC e3, trivial⟩, fun bO D hD => ?_⟩
  have sD := Sym.newb sC (cs := [.string ⟨#[]⟩, .string ⟨#[]⟩, .slice none 0 0]) hD
  refine sD.stbs (k := 0) (i := 0) (vs := oL y t) rfl (by simp) (FlHO.2 (HO.of y t)) fun E sE => ?_
  replace sE : AS H E l ((x.objs.take j).flatMap objP) [blk bO (oL y t) 43, blk bS (sL s1 s2 s3) 26] := Sym.swap sE
  generalize (x.objs.take j).flatMap objP = done at sE hlen hsn
  refine ⟨_, Sym.ld sE (k := 1) rfl 1, fun l2 i F m => ∃ q : Nat, i = (q : Int) ∧ q ≤ y.kinds.length ∧ m = y.kinds.length - q ∧ AS H F l2 (done ++ cellsP y q) [blk bO (oL y t) 43, blk bS (sL s1 s2 s3) 26], ⟨_, 0, rfl, Nat.zero_le _, rfl, by rw [show cellsP y 0 = [] from rfl, List.append_nil]; exact sE⟩, ?_⟩
  rw [str_size]
  rintro l2 i F m ⟨q, rfl, hq, rfl, sF⟩ scr2
  refine ⟨fun hlt2 => ⟨_, Sym.ld sF (k := 1) rfl 0, cell_ok (hx.o.2 y hym).1 (TabH.more ht sF.fr) fun G fG => ⟨_, rfl, fun b2 L hL => AS.put (x := cellL y.name (q : Int)) (Sym.more sF fG) hL (by have := cellsP_len y q; rw [List.length_append]; omega) fun l3 M sM => ⟨y.kinds.length - (q + 1), by have := dlt hlt2; omega, q + 1, wi (by omega), dlt hlt2, rfl, ?_⟩⟩⟩, fun hge2 => ?_⟩
  ·rw [cellsP_next, ← List.append_assoc]
   exact sM
  ·have hqe : q = y.kinds.length := by have := dge hge2; omega
   refine ⟨x.objs.length - (j + 1), by omega, j + 1, wi (by omega), hj', rfl, ?_⟩
   rw [hsn]
   rw [hqe] at sF
   exact AS.drop' sF
 have hje : j = x.objs.length := by have := dge hge; omega
 rw [hje, List.take_length] at sC hlen
 generalize hP : x.objs.flatMap objP = P1 at sC hlen
 refine ⟨s2, Sym.ld sC (k := 1) rfl 1, fun l i D m => ∃ j : Nat, i = (j : Int) ∧ j ≤ x.fns.length ∧ m = x.fns.length - j ∧ AS H D l (P1 ++ (x.fns.take j).map (·.name)) [blk bS (sL s1 s2 s3) 26], ⟨_, 0, rfl, Nat.zero_le _, rfl, by rw [List.take_zero, List.map_nil, List.append_nil]; exact sC⟩, ?_⟩
 clear hj hge hje sC
 rintro l i C m ⟨j, rfl, hj, rfl, sC⟩ scr
 have hlf : ((x.fns.take j).map (·.name)).length = j := by rw [List.length_map, List.length_take]; omega
 refine ⟨fun hlt => ?_, fun hge => ?_⟩
 ·have hj' : j < x.fns.length := by have := dlt hlt; omega
  obtain ⟨y, hy, hym⟩ := getN hj'
  have fC := sC.fr
  refine atF h.f hy fun ad e1 e2 e3 => ⟨_, _, _, ⟨lf fC e1, lf fC e2, lf fC e3, trivial⟩, fun bF D hD => ?_⟩
  have sD := Sym.newb sC (cs := [.string ⟨#[]⟩, .string ⟨#[]⟩, .string ⟨#[]⟩]) hD
  refine sD.stbs (k := 0) (i := 0) (vs := fL y) rfl (by simp) (FlF.2 y) fun E sE => ?_
  replace sE : AS H E l (P1 ++ (x.fns.take j).map (·.name)) [blk bF (fL y) 49, blk bS (sL s1 s2 s3) 26] := Sym.swap sE
  refine ⟨_, Sym.ld sE (k := 1) rfl 0, fun b2 L hL => AS.put (x := y.name) sE hL (by rw [List.length_append]; omega) fun l3 M sM => ⟨x.fns.length - (j + 1), by omega, j + 1, wi (by omega), hj', rfl, ?_⟩⟩
  rw [List.take_add_one, hy, List.map_append, ← List.append_assoc]
  exact AS.drop' sM
 have hje : j = x.fns.length := by have := dge hge; omega
 rw [hje, List.take_length] at sC hlf
 generalize hF : x.fns.map (·.name) = P2 at sC hlf
 refine ⟨s3, Sym.ld sC (k := 1) rfl 2, fun l i D m => ∃ j : Nat, i = (j : Int) ∧ j ≤ x.cons.length ∧ m = x.cons.length - j ∧ AS H D l (P1 ++ (P2 ++ (x.cons.take j).flatMap conP)) [blk bS (sL s1 s2 s3) 26], ⟨_, 0, rfl, Nat.zero_le _, rfl, by rw [List.take_zero, List.flatMap_nil, List.append_nil]; exact sC⟩, ?_⟩
 clear hj hge hje sC
 rintro l i C m ⟨j, rfl, hj, rfl, sC⟩ scr
 have hlc := consP_le hr j
 refine ⟨fun hlt => ?_, fun hge => ?_⟩
 ·have hj' : j < x.cons.length := by have := dlt hlt; omega
  obtain ⟨y, hy, hym⟩ := getN hj'
  obtain ⟨t, hta, ix⟩ := atC h.c hy
  have hsn := flat_snoc (f := conP) hy
  generalize (x.cons.take j).flatMap conP = done at sC hlc hsn
  have fC := sC.fr
  refine ix fun ad e1 e2 e3 e4 e5 e6 => ⟨_, _, _, _, _, t, ⟨lf fC e1, lf fC e2, lf fC e3, lf fC e4, lf fC e5, lf fC e6, trivial⟩, fun bC D hD => ?_⟩
  have sD := Sym.newb sC (cs := [.int .i64 0, .string ⟨#[]⟩, .string ⟨#[]⟩, .int .i64 0, .string ⟨#[]⟩, .slice none 0 0]) hD
  refine sD.stbs (k := 0) (i := 0) (vs := cL y t) rfl (by simp) (FlHC.2 (HC.of y t)) fun E sE => ?_
  replace sE : AS H E l (P1 ++ (P2 ++ done)) [blk bC (cL y t) 45, blk bS (sL s1 s2 s3) 26] := Sym.swap sE
  refine ⟨_, Sym.ld sE (k := 1) rfl 0, fun h1 => ⟨_, Sym.ld sE (k := 1) rfl 2, fun b2 L hL => AS.put (x := y.b) sE hL (by rw [List.length_append, List.length_append]; omega) fun l3 M sM => ⟨x.cons.length - (j + 1), by omega, j + 1, wi (by omega), hj', rfl, ?_⟩⟩, fun h1 => ⟨x.cons.length - (j + 1), by omega, j + 1, wi (by omega), hj', rfl, ?_⟩⟩
  ·rw [hsn, show conP y = [y.b] from if_pos (eqI.1 h1), ← List.append_assoc, ← List.append_assoc]
   rw [← List.append_assoc] at sM
   exact AS.drop' sM
  ·rw [hsn, show conP y = [] from if_neg (neI.1 h1), List.append_nil]
   exact AS.drop' sE
 ·have hje : j = x.cons.length := by have := dge hge; omega
  rw [hje, List.take_length] at sC hlc
  refine sortedL_ok (AS.rd' sC) (by rw [List.length_append, List.length_append]; omega) fun s' ys D fD hris hmem hrd => ⟨_, rfl, k s' ys D (sC.fr.trans fD) (.inr ⟨h0, hris, fun z => ?_⟩) hrd⟩
  rw [hmem]
  unfold placesL
  rw [hP, hF]
end
end Go.Proofs.YtjpkbenogloihaaGreatDoor.C15
end
section
namespace Go.Proofs.YtjpkbenogloihaaGreatDoor.C15
open Go Go.V Go.Proofs Go.Proofs.YtjpkbenogloihaaGreatDoor.N15 Go.Proofs.YtjpkbenogloihaaGreatDoor.P14 Go.Proofs.YtjpkbenogloihaaGreatDoor.C14 Go.Proofs.YtjpkbenogloihaaGreatDoor.P15
attribute [local irreducible] Cvt ExtF CallF hrun App MkS callV
section
variable {H : Hp} {K : Value → Hp → Prop} {Z : List PanicEntry → Hp → Prop}
theorem len8 {x : L8} (h : x.length ≤ 1048576) : ((str x).size : Int) ≤ 1048576 := by rw [str_size]; omega
theorem great15_ok {s1 s2 s3 : Sl} {x : SysD} {most : Nat} (h : RdSys H s1 s2 s3 x) (hb : OkSys x) (k : ∀ y H', Fr no H H' → (y = false → Mild most x) → K (.bool y) H') : CallF Tryz.prog 7 #[.agg #[.slice s1.a s1.n s1.c, .slice s2.a s2.n s2.c, .slice s3.a s3.n s3.c], .int .i64 (most : Int)] H K Z := by
 refine V7_ok ?_
 unfold V7
 intro bS A hA
 have sA := (Sym.start H).newb (cs := [.slice s1.a s1.n s1.c, .slice s2.a s2.n s2.c, .slice s3.a s3.n s3.c]) hA
 have l1 := h.o.len
 have l2 := h.f.len
 have l3 := h.c.len
 have b1 := hb.o.1
 have b2 := hb.f.1
 have b3 := hb.c.1
 refine ⟨fun C => C = A ∧ x.objs.length ≤ most ∧ x.fns.length ≤ most ∧ x.cons.length ≤ most, ?_, _, sA.ld (k := 0) rfl 0, fun _ => k _ _ sA.fr (fun h => by cases h), fun g1 => ⟨_, sA.ld (k := 0) rfl 1, fun _ => k _ _ sA.fr (fun h => by cases h), fun g2 => ⟨_, sA.ld (k := 0) rfl 2, fun _ => k _ _ sA.fr (fun h => by cases h), fun g3 => ⟨rfl, ?_, ?_, ?_⟩⟩⟩⟩
 rotate_left
 ·have := of_decide_eq_false g1; omega
 ·have := of_decide_eq_false g2; omega
 ·have := of_decide_eq_false g3; omega
 rintro B0 ⟨hB0, m1, m2, m3⟩ scr
 rw [← hB0] at sA
 refine ⟨fun n i C m => ∃ j : Nat, C = B0 ∧ i = (j : Int) ∧ j ≤ x.objs.length ∧ m = x.objs.length - j ∧ 0 ≤ n ∧ n ≤ 30000 ∧ ∀ o ∈ x.objs.take j, o.marks.length ≤ 3000, ⟨_, 0, rfl, rfl, Nat.zero_le _, rfl, by omega, by omega, by simp⟩, ?_⟩
 rintro n i C m ⟨j, rfl, rfl, hj, rfl, n0, n1, hall⟩ scr1
 have hC := h.more sA.fr
 refine ⟨_, sA.ld (k := 0) rfl 0, fun hlt => ?_, fun hge => ?_⟩
 ·have hj' : j < x.objs.length := by have := dlt hlt; omega
  obtain ⟨o, ho, hm⟩ := getN hj'
  obtain ⟨q1, q2, q3, q4⟩ := hb.o.2 o hm
  obtain ⟨t, ht, ix⟩ := atO hC.o ho
  have lt := ht.len
  have z1 := len8 q1
  have z2 := len8 q2
  refine ⟨_, sA.ld (k := 0) rfl 0, ix fun ad e1 e2 e3 => ⟨_, e1, _, sA.ld (k := 0) rfl 0, ix fun ad2 e1' e2' e3' => ⟨_, e2', _, sA.ld (k := 0) rfl 0, ix fun ad3 f1 f2 f3 => ⟨t, f3, ?_⟩⟩⟩⟩
  rw [wid (x := n + ((str o.name).size : Int)) (by omega) (by omega), wid (x := 10 * (t.n : Int)) (by omega) (by omega), wid (x := n + ((str o.name).size : Int) + ((str o.kinds).size : Int)) (by omega) (by omega), wid (by omega) (by omega)]
  generalize hb0 : n + ((str o.name).size : Int) + ((str o.kinds).size : Int) + 10 * (t.n : Int) = base
  have hbase : 10 * (o.marks.length : Int) ≤ base ∧ base ≤ 30000 + 12 * 1048576 := by omega
  refine ⟨fun n' i' C' m' => ∃ q : Nat, C' = C ∧ i' = (q : Int) ∧ q ≤ o.marks.length ∧ q ≤ 100 ∧ m' = o.marks.length - q ∧ base ≤ n' ∧ n' ≤ base + q * 1048576, ⟨_, 0, rfl, rfl, Nat.zero_le _, by decide, rfl, by omega, by omega⟩, ?_⟩
  rintro n' i' C' m' ⟨q, rfl, rfl, hq, hq2, rfl, p1, p2⟩ scr2
  have out : ((decide (n' > 30000)) = true → K (.bool true) C') ∧ ((decide (n' > 30000)) = false → ∃ m2, m2 < x.objs.length - j ∧ ∃ j' : Nat, C' = C' ∧ w64 ((j : Int) + 1) = (j' : Int) ∧ j' ≤ x.objs.length ∧ m2 = x.objs.length - j' ∧ 0 ≤ n' ∧ n' ≤ 30000 ∧ ∀ o ∈ x.objs.take j', o.marks.length ≤ 3000) := by
   refine ⟨fun _ => k _ _ sA.fr (fun h => by cases h), fun hn => ⟨x.objs.length - (j + 1), by omega, j + 1, rfl, wi (by omega), hj', rfl, by omega, ?_, ?_⟩⟩
   ·have := of_decide_eq_false hn; omega
   ·have := of_decide_eq_false hn
    exact all_snoc ho hall (by omega)
  refine ⟨_, sA.ld (k := 0) rfl 0, ix fun ad4 g1 g2 g3 => ⟨t, g3, fun hlt2 => ⟨fun h100 => ?_, fun _ => out⟩, fun _ => out⟩⟩
  have hq' : q < o.marks.length := by have := dlt hlt2; omega
  have h100' : q < 100 := by have := of_decide_eq_true h100; omega
  obtain ⟨y, hy, hym⟩ := getN hq'
  have z3 := len8 (q4 y hym)
  refine ⟨_, sA.ld (k := 0) rfl 0, ix fun ad5 g1 g2 g3 => ⟨t, g3, atM ht hy fun ad6 e5 e6 => ⟨_, e6, o.marks.length - (q + 1), by omega, q + 1, rfl, wi (by omega), hq', by omega, rfl, ?_, ?_⟩⟩⟩
  ·rw [wid (by omega) (by omega)]; omega
  ·rw [wid (by omega) (by omega)]; omega
 have hjl : j = x.objs.length := by have := dge hge; omega
 have hallO : ∀ o ∈ x.objs, o.marks.length ≤ 3000 := by rw [hjl, List.take_length] at hall; exact hall
 refine ⟨fun n i C' m => ∃ j : Nat, C' = C ∧ i = (j : Int) ∧ j ≤ x.fns.length ∧ m = x.fns.length - j ∧ 0 ≤ n ∧ n ≤ 30000, ⟨_, 0, rfl, rfl, Nat.zero_le _, rfl, n0, n1⟩, ?_⟩
 rintro n i C' m ⟨j, rfl, rfl, hj, rfl, n0, n1⟩ scr2
 refine ⟨_, sA.ld (k := 0) rfl 1, fun hlt => ?_, fun hge => ?_⟩
 ·have hj' : j < x.fns.length := by have := dlt hlt; omega
  obtain ⟨o, ho, hm⟩ := getN hj'
  obtain ⟨q1, q2, q3⟩ := hb.f.2 o hm
  have z1 := len8 q1
  have z2 := len8 q2
  have z3 := len8 q3
  refine ⟨_, sA.ld (k := 0) rfl 1, atF hC.f ho fun ad e1 _ _ => ⟨_, e1, _, sA.ld (k := 0) rfl 1, atF hC.f ho fun ad2 _ e2 _ => ⟨_, e2, _, sA.ld (k := 0) rfl 1, atF hC.f ho fun ad3 _ _ e3 => ⟨_, e3, fun _ => k _ _ sA.fr (fun h => by cases h), fun hn => ?_⟩⟩⟩⟩
  rw [wid (x := n + ((str o.name).size : Int)) (by omega) (by omega), wid (x := n + ((str o.name).size : Int) + ((str o.kinds).size : Int)) (by omega) (by omega), wid (by omega) (by omega)] at hn ⊢
  have hn' := of_decide_eq_false hn
  exact ⟨x.fns.length - (j + 1), by omega, j + 1, rfl, wi (by omega), hj', rfl, by omega, by omega⟩
 -- the constraints
 clear hj hge hjl hall
 refine ⟨fun n i C m => ∃ j : Nat, i = (j : Int) ∧ j ≤ x.cons.length ∧ m = x.cons.length - j ∧ 0 ≤ n ∧ n ≤ 60000 ∧ Sym H no C [blk bS [.slice s1.a s1.n s1.c, .slice s2.a s2.n s2.c, .slice s3.a s3.n s3.c] 26] ∧ ∀ o ∈ x.cons.take j, o.args.length ≤ 6000, ⟨_, 0, rfl, Nat.zero_le _, rfl, n0, by omega, sA, by simp⟩, ?_⟩
 rintro n i C m ⟨j, rfl, hj, rfl, n0, n1, sC, hall⟩ scr1
 have hC := h.more sC.fr
 refine ⟨_, sC.ld (k := 0) rfl 2, fun hlt => ?_, fun hge => k _ _ sC.fr fun _ => ?_⟩
 ·have hj' : j < x.cons.length := by have := dlt hlt; omega
  obtain ⟨o, ho, hm⟩ := getN hj'
  obtain ⟨q1, q2, q3, q4, q5⟩ := hb.c.2 o hm
  obtain ⟨t, ht, ix⟩ := atC hC.c ho
  have lt := ht.len
  have z1 := len8 q1
  have z2 := len8 q2
  have z3 := len8 q3
  refine ⟨_, sC.ld (k := 0) rfl 2, ix fun ad e1 e2 e3 e4 e5 e6 => ⟨_, _, _, _, _, t, ⟨e1, e2, e3, e4, e5, e6, trivial⟩, fun bC D hD => ?_⟩⟩
  have sD := (Sym.start C).newb (cs := [.int .i64 0, .string ⟨#[]⟩, .string ⟨#[]⟩, .int .i64 0, .string ⟨#[]⟩, .slice none 0 0]) hD
  refine sD.stbs (k := 0) (i := 0) (vs := [.int .i64 o.op, .string (str o.a), .string (str o.b), .int .i64 o.k, .string (str o.tag), .slice t.a t.n t.c]) rfl (by simp) (by intro v hv; exact FlHC.one (o.op, o.a, o.b, o.k, o.tag, t) v hv) fun E sE => ?_
  replace sE : Sym C no E [blk bC [.int .i64 o.op, .string (str o.a), .string (str o.b), .int .i64 o.k, .string (str o.tag), .slice t.a t.n t.c] 45] := sE
  have sE2 := sC.more sE.fr
  refine ⟨_, sE.ld (k := 0) rfl 1, _, sE.ld (k := 0) rfl 2, _, sE.ld (k := 0) rfl 4, t, sE.ld (k := 0) rfl 5, ?_⟩
  rw [wid (x := n + ((str o.a).size : Int)) (by omega) (by omega), wid (x := 10 * (t.n : Int)) (by omega) (by omega), wid (x := n + ((str o.a).size : Int) + ((str o.b).size : Int)) (by omega) (by omega), wid (x := n + ((str o.a).size : Int) + ((str o.b).size : Int) + ((str o.tag).size : Int)) (by omega) (by omega), wid (by omega) (by omega)]
  generalize hb0 : n + ((str o.a).size : Int) + ((str o.b).size : Int) + ((str o.tag).size : Int) + 10 * (t.n : Int) = base
  have hbase : 10 * (o.args.length : Int) ≤ base ∧ base ≤ 60000 + 13 * 1048576 := by omega
  refine ⟨fun n' i' C' m' => ∃ q : Nat, C' = E ∧ i' = (q : Int) ∧ q ≤ o.args.length ∧ q ≤ 100 ∧ m' = o.args.length - q ∧ base ≤ n' ∧ n' ≤ base + q * 1048576, ⟨_, 0, rfl, rfl, Nat.zero_le _, by decide, rfl, by omega, by omega⟩, ?_⟩
  rintro n' i' C' m' ⟨q, rfl, rfl, hq, hq2, rfl, p1, p2⟩ scr2
  have out : ((decide (n' > 60000)) = true → K (.bool true) C') ∧ ((decide (n' > 60000)) = false → ∃ m2, m2 < x.cons.length - j ∧ ∃ j' : Nat, w64 ((j : Int) + 1) = (j' : Int) ∧ j' ≤ x.cons.length ∧ m2 = x.cons.length - j' ∧ 0 ≤ n' ∧ n' ≤ 60000 ∧ Sym H no C' [blk bS [.slice s1.a s1.n s1.c, .slice s2.a s2.n s2.c, .slice s3.a s3.n s3.c] 26] ∧ ∀ o ∈ x.cons.take j', o.args.length ≤ 6000) := by
   refine ⟨fun _ => k _ _ sE2.fr (fun h => by cases h), fun hn => ⟨x.cons.length - (j + 1), by omega, j + 1, wi (by omega), hj', rfl, by omega, ?_, sE2, ?_⟩⟩
   ·have := of_decide_eq_false hn; omega
   ·have := of_decide_eq_false hn
    exact all_snoc ho hall (by omega)
  refine ⟨t, sE.ld (k := 0) rfl 5, fun hlt2 => ⟨fun h100 => ?_, fun _ => out⟩, fun _ => out⟩
  have hq' : q < o.args.length := by have := dlt hlt2; omega
  have h100' : q < 100 := by have := of_decide_eq_true h100; omega
  obtain ⟨y, hy, hym⟩ := getN hq'
  have z4 := len8 (q5 y hym)
  refine ⟨t, sE.ld (k := 0) rfl 5, atL (ht.more sE.fr) hy fun ad6 e6 => ⟨_, e6, o.args.length - (q + 1), by omega, q + 1, rfl, wi (by omega), hq', by omega, rfl, ?_, ?_⟩⟩
  ·rw [wid (by omega) (by omega)]; omega
  ·rw [wid (by omega) (by omega)]; omega
 ·have hjl : j = x.cons.length := by have := dge hge; omega
  rw [hjl, List.take_length] at hall
  exact ⟨⟨m1, hallO⟩, m2, ⟨m3, hall⟩⟩
def wO : ObjD := ⟨[103], [105, 112], []⟩
def wC : ConD := ⟨1, [102, 46, 112], [103, 43, 48], 0, [], []⟩
def wS : SysD := ⟨[wO], [], [wC]⟩
theorem w_check : checkE wS = 0 := by kernel_rfl
theorem w_nodes : nodesL wS = [[102, 46, 112], [103, 43, 49]] := by kernel_rfl
theorem w_places : placesL wS = [[103, 43, 48], [103, 43, 49], [103, 43, 48]] := by kernel_rfl
theorem w_isN : IsN wS [[102, 46, 112], [103, 43, 49]] := .inr ⟨w_check, by unfold Rising; decide, fun z => by rw [w_nodes]⟩
theorem w_isP : IsP wS [[103, 43, 48], [103, 43, 49]] := .inr ⟨w_check, by unfold Rising; decide, fun z => by rw [w_places]; simp only [List.mem_cons, List.not_mem_nil, or_false]; grind⟩
theorem w_ok : OkSys wS := by
 refine ⟨⟨by decide, ?_⟩, ⟨by decide, ?_⟩, ⟨by decide, ?_⟩⟩
 ·intro o ho
  rw [List.mem_singleton.1 ho]
  exact ⟨by decide, by decide, by decide, by intro m hm; cases hm⟩
 ·intro f hf; cases hf
 ·intro c hc
  rw [List.mem_singleton.1 hc]
  exact ⟨by decide, by decide, by decide, by decide, by intro m hm; cases hm⟩
theorem rdX_lit {η χ : Type} {fl : η → List Value} {sz : Nat} {In : Hp → η → χ → Prop} {A : Hp} {s : Sl} {hs : List η} {xs : List χ} (h : Rd fl sz A s hs) (hl : hs.length = xs.length) (hin : ∀ (i : Nat) h x, hs[i]? = some h → xs[i]? = some x → In A h x) : RdX fl sz In A s xs := ⟨hs, h, hl, hin⟩
theorem works_ok (ht : Pw H) (k : ∀ H', Fr no H H' → K (.bool true) H') : CallF Tryz.prog 6 #[] H K Z := by
 refine V6_ok ?_
 unfold V6
 intro b A hA b1 B hB bS C hC
 have sA := (Sym.start H).lit (l := [HO.of wO ⟨none, 0, 0⟩]) FlHO (by decide) hA (show 1 = _ from rfl)
 have sB := sA.lit (l := [HC.of wC ⟨none, 0, 0⟩]) FlHC (by decide) hB (show 1 = _ from rfl)
 have sC := sB.newb (cs := [.slice none 0 0, .slice none 0 0, .slice none 0 0]) hC
 refine sC.stbs (k := 0) (i := 0) (vs := sL ⟨some ⟨b, 0, none⟩, 1, 1⟩ ⟨none, 0, 0⟩ ⟨some ⟨b1, 0, none⟩, 1, 1⟩) rfl (by simp) (by intro v hv; simp only [List.mem_cons, List.not_mem_nil, or_false] at hv; rcases hv with rfl | rfl | rfl <;> rfl) fun D sD => ?_
 have hrd : RdSys D ⟨some ⟨b, 0, none⟩, 1, 1⟩ ⟨none, 0, 0⟩ ⟨some ⟨b1, 0, none⟩, 1, 1⟩ wS := by
  refine ⟨rdX_lit (sD.rd (k := 2) FlHO (by decide) rfl) rfl ?_, Rd.nil, rdX_lit (sD.rd (k := 1) FlHC (by decide) rfl) rfl ?_⟩
  ·intro i h x hh hx
   match i, hh, hx with
   | 0, hh, hx => rw [← Option.some_inj.1 hh, ← Option.some_inj.1 hx]; exact ⟨rfl, Rd.nil⟩
   | i + 1, hh, hx => cases hx
  ·intro i h x hh hx
   match i, hh, hx with
   | 0, hh, hx => rw [← Option.some_inj.1 hh, ← Option.some_inj.1 hx]; exact ⟨rfl, Rd.nil⟩
   | i + 1, hh, hx => cases hx
 replace sD : Sym H no D [blk bS (sL ⟨some ⟨b, 0, none⟩, 1, 1⟩ ⟨none, 0, 0⟩ ⟨some ⟨b1, 0, none⟩, 1, 1⟩) 26, _, _] := sD
 have g : ∀ {E : Hp}, Fr no D E → ∀ i, hcell E ⟨bS, i, none⟩ = (sL ⟨some ⟨b, 0, none⟩, 1, 1⟩ ⟨none, 0, 0⟩ ⟨some ⟨b1, 0, none⟩, 1, 1⟩)[i]? := fun fE i => (sD.more fE).ld (k := 0) rfl i
 have hp : ∀ {E}, Fr no D E → Pw E := fun fE => TabH.more ht (sD.fr.trans fE)
 refine ⟨_, _, _, ⟨g (Fr.refl _ _) 0, g (Fr.refl _ _) 1, g (Fr.refl _ _) 2, trivial⟩, check_ok hrd w_ok (hp (Fr.refl _ _)) fun E fE => ⟨_, rfl, fun _ => ⟨_, _, _, ⟨g fE 0, g fE 1, g fE 2, trivial⟩, nodes_ok (hrd.more fE) w_ok (hp fE) fun s ys F fF hN hy => ⟨s, rfl, fun b2 G hG => ?_⟩⟩, fun h => ?_⟩⟩
 ·have fEF := fE.trans fF
  have eN := hN.uniq w_isN
  have sG := (Sym.start F).lit (l := [[102, 46, 112], [103, 43, 49]]) FlL (by decide) hG (show 2 = _ from rfl)
  have fG := fEF.trans sG.fr
  rw [eN] at hy
  refine sameT_ok (b := ⟨some ⟨b2, 0, none⟩, 2, 2⟩) (hy.more sG.fr) (sG.rd (k := 0) FlL (by decide) rfl) (by decide) ⟨_, rfl, fun _ => ⟨_, _, _, ⟨g fG 0, g fG 1, g fG 2, trivial⟩, places_ok (hrd.more fG) w_ok (hp fG) fun s' zs I fI hP hz => ⟨s', rfl, fun b3 J hJ => ?_⟩⟩, (fun h => by cases h)⟩
  have eP := hP.uniq w_isP
  have sJ := (Sym.start I).lit (l := [[103, 43, 48], [103, 43, 49]]) FlL (by decide) hJ (show 2 = _ from rfl)
  rw [eP] at hz
  exact sameT_ok (b := ⟨some ⟨b3, 0, none⟩, 2, 2⟩) (hz.more sJ.fr) (sJ.rd (k := 0) FlL (by decide) rfl) (by decide) ⟨_, rfl, k J (sD.fr.trans (fG.trans (fI.trans sJ.fr)))⟩
 ·rw [w_check] at h
  cases h
end
end Go.Proofs.YtjpkbenogloihaaGreatDoor.C15
end
section
namespace Go.Proofs.YtjpkbenogloihaaGreatDoor.P15
open Go Go.V
theorem linN : CmpLin cmpN := by
 refine ⟨fun {x y} => ?_, fun {x y} => ?_, fun {x y z} h1 h2 => ?_⟩
 ·unfold cmpN; split
  ·simp; omega
  ·split <;> simp <;> omega
 ·unfold cmpN; split <;> split <;> (try split) <;> omega
 ·unfold cmpN at *
  by_cases a : x < y
  ·by_cases b : y < z
   ·rw [if_pos (by omega)]; omega
   ·rw [if_neg b] at h2; split at h2 <;> omega
  ·rw [if_neg a] at h1; split at h1 <;> omega
theorem cmpL_neg {a b : L8} : cmpL a b < 0 ↔ ltL a b = true := by
 unfold cmpL
 cases ltL a b
 ·simp only [Bool.false_eq_true, if_false, iff_false]
  split <;> omega
 ·simp
theorem cmpL_pos {a b : L8} : cmpL a b > 0 ↔ ltL b a = true := by
 unfold cmpL
 cases h : ltL a b
 ·simp only [Bool.false_eq_true, if_false]
  cases ltL b a <;> simp
 ·simp only [if_true]
  constructor
  ·intro h; omega
  ·intro h2
   have := linL.tr _ _ _ h h2
   rw [linL.irr] at this
   cases this
theorem cmpL_0 {a b : L8} : cmpL a b = 0 ↔ a = b := by
 constructor
 ·intro h
  rcases linL.tot a b with h1 | h1 | h1
  ·have := cmpL_neg.2 h1; omega
  ·exact h1
  ·have := cmpL_pos.2 h1; omega
 ·rintro rfl; exact cmpL_self a
theorem linCL : CmpLin cmpL := ⟨cmpL_0, cmpL_neg.trans cmpL_pos.symm, fun h1 h2 => cmpL_neg.2 (linL.tr _ _ _ (cmpL_neg.1 h1) (cmpL_neg.1 h2))⟩
theorem orI_neg {a b : Int} : orI a b < 0 ↔ a < 0 ∨ (a = 0 ∧ b < 0) := by unfold orI; split <;> omega
theorem orI_pos {a b : Int} : orI a b > 0 ↔ a > 0 ∨ (a = 0 ∧ b > 0) := by unfold orI; split <;> omega
theorem orI_zero {a b : Int} : orI a b = 0 ↔ a = 0 ∧ b = 0 := by unfold orI; split <;> omega
theorem lin_lex {α β : Type} {c : α → α → Int} {d : β → β → Int} (hc : CmpLin c) (hd : CmpLin d) : CmpLin fun (p q : α × β) => orI (c p.1 q.1) (d p.2 q.2) := by
 refine ⟨fun {x y} => ?_, fun {x y} => ?_, fun {x y z} h1 h2 => ?_⟩
 ·rw [orI_zero, hc.eq, hd.eq]
  exact ⟨fun h => Prod.ext h.1 h.2, fun h => by rw [h]; exact ⟨rfl, rfl⟩⟩
 ·rw [orI_neg, orI_pos, hc.neg, hd.neg, hc.eq, hc.eq]
  exact ⟨fun h => h.imp id fun h => ⟨h.1.symm, h.2⟩, fun h => h.imp id fun h => ⟨h.1.symm, h.2⟩⟩
 ·rw [orI_neg] at *
  rcases h1 with h1 | ⟨h1, h1'⟩ <;> rcases h2 with h2 | ⟨h2, h2'⟩
  ·exact .inl (hc.tr h1 h2)
  ·exact .inl (hc.eq.1 h2 ▸ h1)
  ·exact .inl ((hc.eq.1 h1).symm ▸ h2)
  ·exact .inr ⟨hc.eq.2 ((hc.eq.1 h1).trans (hc.eq.1 h2)), hd.tr h1' h2'⟩
theorem lin_by {α β : Type} {c : α → α → Int} (hc : CmpLin c) {f : β → α} (hf : ∀ x y, f x = f y → x = y) : CmpLin fun x y => c (f x) (f y) :=
 ⟨fun {x y} => hc.eq.trans ⟨hf x y, fun h => by rw [h]⟩, hc.neg, hc.tr⟩
theorem cmpA_cons {a b : L8} {x y : List L8} : cmpA (a :: x) (b :: y) = orI (cmpL a b) (cmpA x y) := rfl
theorem cmpA_0 : ∀ {x y : List L8}, cmpA x y = 0 ↔ x = y
 | [], [] => by simp [cmpA]
 | [], _ :: _ => by simp [cmpA]
 | _ :: _, [] => by simp [cmpA]
 | a :: x, b :: y => by rw [cmpA_cons, orI_zero, cmpL_0, cmpA_0, List.cons.injEq]
theorem cmpA_neg : ∀ {x y : List L8}, cmpA x y < 0 ↔ cmpA y x > 0
 | [], [] => by simp [cmpA]
 | [], _ :: _ => by simp [cmpA]
 | _ :: _, [] => by simp [cmpA]
 | a :: x, b :: y => by
  rw [cmpA_cons, cmpA_cons, orI_neg, orI_pos, linCL.neg, cmpA_neg, cmpL_0, cmpL_0]
  exact ⟨fun h => h.imp id fun h => ⟨h.1.symm, h.2⟩, fun h => h.imp id fun h => ⟨h.1.symm, h.2⟩⟩
theorem cmpA_tr : ∀ {x y z : List L8}, cmpA x y < 0 → cmpA y z < 0 → cmpA x z < 0
 | [], [], _, h, _ => by simp [cmpA] at h
 | _, _ :: _, [], _, h => by simp [cmpA] at h
 | _ :: _, [], _, h, _ => by simp [cmpA] at h
 | [], _ :: _, _ :: _, _, _ => by simp [cmpA]
 | a :: x, b :: y, d :: z, h1, h2 => by
  rw [cmpA_cons, orI_neg] at *
  rcases h1 with h1 | ⟨h1, h1'⟩ <;> rcases h2 with h2 | ⟨h2, h2'⟩
  ·exact .inl (linCL.tr h1 h2)
  ·exact .inl (cmpL_0.1 h2 ▸ h1)
  ·exact .inl ((cmpL_0.1 h1).symm ▸ h2)
  ·exact .inr ⟨cmpL_0.2 ((cmpL_0.1 h1).trans (cmpL_0.1 h2)), cmpA_tr h1' h2'⟩
theorem linA : CmpLin cmpA := ⟨cmpA_0, cmpA_neg, cmpA_tr⟩
theorem linC : CmpLin cmpC :=
 lin_by (lin_lex linN (lin_lex linCL (lin_lex linCL (lin_lex linN (lin_lex linCL linA))))) (f := fun (c : ConD) => (c.op, c.a, c.b, c.k, c.tag, c.args)) (by
  intro x y h
  cases x; cases y
  simp only [Prod.mk.injEq] at h
  obtain ⟨rfl, rfl, rfl, rfl, rfl, rfl⟩ := h
  rfl)
end Go.Proofs.YtjpkbenogloihaaGreatDoor.P15
namespace Go.Proofs.YtjpkbenogloihaaGreatDoor.P15
open Go Go.V
section
variable {χ κ : Type} [DecidableEq χ] {c : κ → κ → Int} {ky : χ → κ} {l l' a b acc p : List χ} {o : χ}
def Bef (c : κ → κ → Int) (ky : χ → κ) (l : List χ) (x y : χ) : Prop := c (ky x) (ky y) < 0 ∨ (ky x = ky y ∧ l.idxOf x < l.idxOf y)
structure IsCan (c : κ → κ → Int) (ky : χ → κ) (l out : List χ) : Prop where
 srt : out.Pairwise (Bef c ky l)
 mem : ∀ z, z ∈ out ↔ z ∈ l
theorem Bef.irr (hc : CmpLin c) (x : χ) : ¬ Bef c ky l x x := by
 rintro (h | ⟨_, h⟩)
 ·rw [hc.eq.2 rfl] at h; omega
 ·omega
theorem Bef.tr (hc : CmpLin c) {x y z : χ} (h1 : Bef c ky l x y) (h2 : Bef c ky l y z) : Bef c ky l x z := by
 rcases h1 with h1 | ⟨h1, t1⟩ <;> rcases h2 with h2 | ⟨h2, t2⟩
 ·exact .inl (hc.tr h1 h2)
 ·exact .inl (h2 ▸ h1)
 ·exact .inl (h1 ▸ h2)
 ·exact .inr ⟨h1.trans h2, Nat.lt_trans t1 t2⟩
theorem IsCan.uniq (hc : CmpLin c) (h1 : IsCan c ky l a) (h2 : IsCan c ky l b) : a = b := pw_same (Bef.irr hc) (Bef.tr hc) h1.srt h2.srt fun z => (h1.mem z).trans (h2.mem z).symm
theorem IsCan.nodup (hc : CmpLin c) (h : IsCan c ky l a) : a.Nodup := h.srt.imp fun hxy e => by subst e; exact Bef.irr hc _ hxy
theorem IsCan.len (hc : CmpLin c) (h : IsCan c ky l a) : a.length ≤ l.length := subset_len (h.nodup hc) fun z hz => (h.mem z).1 hz
theorem IsCan.le (hc : CmpLin c) (h : IsCan c ky l a) : a.Pairwise fun x y => c (ky x) (ky y) ≤ 0 := h.srt.imp fun hxy => by
 rcases hxy with hxy | ⟨e, _⟩
 ·omega
 ·rw [e, hc.eq.2 rfl]; decide
theorem IsCan.nil : IsCan c ky ([] : List χ) [] := ⟨List.Pairwise.nil, fun _ => Iff.rfl⟩
theorem idx_at {l : List χ} (hn : l.Nodup) {i : Nat} {x : χ} (h : l[i]? = some x) : l.idxOf x = i := by
 obtain ⟨hi, rfl⟩ := List.getElem?_eq_some_iff.1 h
 exact hn.idxOf_getElem i hi
theorem IsCan.again (hc : CmpLin c) (h : IsCan c ky l a) : IsCan c ky a a := by
 refine ⟨List.pairwise_iff_getElem.2 fun i j hi hj hij => ?_, fun _ => Iff.rfl⟩
 rcases List.pairwise_iff_getElem.1 h.srt i j hi hj hij with h1 | ⟨h1, _⟩
 ·exact .inl h1
 ·exact .inr ⟨h1, by rw [idx_at (h.nodup hc) (List.getElem?_eq_getElem hi), idx_at (h.nodup hc) (List.getElem?_eq_getElem hj)]; exact hij⟩
def OneK (ky : χ → κ) (l : List χ) : Prop := ∀ x ∈ l, ∀ y ∈ l, ky x = ky y → x = y
theorem IsCan.rising (hc : CmpLin c) (hk : OneK ky l) (h : IsCan c ky l a) : a.Pairwise fun x y => c (ky x) (ky y) < 0 := by
 refine List.Pairwise.imp_of_mem (fun {x y} hx hy hxy => ?_) h.srt
 rcases hxy with hxy | ⟨e, t⟩
 ·exact hxy
 ·have := hk x ((h.mem x).1 hx) y ((h.mem y).1 hy) e
  subst this
  omega
theorem IsCan.of_rising (h1 : a.Pairwise fun x y => c (ky x) (ky y) < 0) (hm : ∀ z, z ∈ a ↔ z ∈ l) : IsCan c ky l a := ⟨h1.imp fun h => .inl h, hm⟩
theorem IsCan.swap (hc : CmpLin c) (hk : OneK ky l) (hm : ∀ z, z ∈ l ↔ z ∈ l') (h1 : IsCan c ky l a) (h2 : IsCan c ky l' b) : a = b := by
 have h3 : IsCan c ky l' a := IsCan.of_rising (h1.rising hc hk) fun z => (h1.mem z).trans (hm z)
 exact h3.uniq hc h2
def intoK (c : κ → κ → Int) (ky : χ → κ) : List χ → χ → List χ
 | [], o => [o]
 | x :: r, o => if c (ky x) (ky o) ≤ 0 then (if x = o then x :: r else x :: intoK c ky r o) else o :: x :: r
theorem into_mem : ∀ {l : List χ} {z : χ}, z ∈ intoK c ky l o ↔ z ∈ l ∨ z = o
 | [], z => by simp [intoK]
 | x :: r, z => by
  rw [intoK]
  split
  ·split
   ·rename_i h; subst h
    rw [List.mem_cons]
    exact ⟨.inl, fun h => h.elim id fun h => .inl h⟩
   ·rw [List.mem_cons, List.mem_cons, into_mem, or_assoc]
  ·rw [List.mem_cons, or_comm]
theorem into_in (hc : CmpLin c) : ∀ {l : List χ}, o ∈ l → l.Pairwise (fun x y => c (ky x) (ky y) ≤ 0) → intoK c ky l o = l
 | x :: r, hm, hp => by
  rw [List.pairwise_cons] at hp
  rw [intoK]
  rcases List.mem_cons.1 hm with rfl | hm
  ·rw [if_pos (by rw [hc.eq.2 rfl]; decide), if_pos rfl]
  ·rw [if_pos (hp.1 o hm)]
   split
   ·rfl
   ·rw [into_in hc hm hp.2]
theorem into_srt {R : χ → χ → Prop} (hR : ∀ {x y}, R x y → c (ky x) (ky y) ≤ 0) (hc : CmpLin c) (h1 : ∀ x, c (ky x) (ky o) < 0 → R x o) (h0 : ∀ x ∈ p, ky x = ky o → R x o) (h2 : ∀ x, c (ky o) (ky x) < 0 → R o x) :
  ∀ {l : List χ}, (∀ x ∈ l, x ∈ p) → o ∉ l → l.Pairwise R → (intoK c ky l o).Pairwise R
 | [], _, _, _ => by simp [intoK]
 | x :: r, hp, hn, hs => by
  have hs' := List.pairwise_cons.1 hs
  rw [intoK]
  split
  ·rename_i hle
   rw [if_neg (fun e => hn (by rw [e]; exact List.mem_cons_self)), List.pairwise_cons]
   refine ⟨fun y hy => ?_, into_srt hR hc h1 h0 h2 (fun y hy => hp y (List.mem_cons_of_mem _ hy)) (fun h => hn (List.mem_cons_of_mem _ h)) hs'.2⟩
   rcases into_mem.1 hy with hy | rfl
   ·exact hs'.1 y hy
   ·by_cases e : c (ky x) (ky y) = 0
    ·exact h0 x (hp x List.mem_cons_self) (hc.eq.1 e)
    ·exact h1 x (by omega)
  ·rename_i hgt
   have hox : c (ky o) (ky x) < 0 := hc.neg.2 (by omega)
   rw [List.pairwise_cons]
   refine ⟨fun y hy => ?_, hs⟩
   rcases List.mem_cons.1 hy with rfl | hy
   ·exact h2 _ hox
   ·refine h2 y ?_
    have := hR (hs'.1 y hy)
    by_cases e : c (ky x) (ky y) = 0
    ·rw [← hc.eq.1 e]; exact hox
    ·exact hc.tr hox (by omega)
theorem idx_app {x : χ} {r : List χ} (h : x ∈ p) : (p ++ r).idxOf x = p.idxOf x := by rw [List.idxOf_append, if_pos h]
theorem IsCan.step (hc : CmpLin c) (h : IsCan c ky p acc) : IsCan c ky (p ++ [o]) (intoK c ky acc o) := by
 have up : ∀ {x y}, x ∈ p → y ∈ p → Bef c ky p x y → Bef c ky (p ++ [o]) x y := fun hx hy hxy => hxy.imp id fun ⟨e, t⟩ => ⟨e, by rw [idx_app hx, idx_app hy]; exact t⟩
 have hup : acc.Pairwise (Bef c ky (p ++ [o])) := List.Pairwise.imp_of_mem (fun hx hy hxy => up ((h.mem _).1 hx) ((h.mem _).1 hy) hxy) h.srt
 refine ⟨?_, fun z => by rw [into_mem, h.mem, List.mem_append, List.mem_singleton]⟩
 by_cases ho : o ∈ acc
 ·rw [into_in hc ho (h.le hc)]
  exact hup
 ·have hop : o ∉ p := fun hp => ho ((h.mem o).2 hp)
  refine into_srt (p := p) (fun {x y} hxy => ?_) hc (fun x h => .inl h) (fun x hx e => .inr ⟨e, ?_⟩) (fun x h => .inl h) (fun x hx => (h.mem x).1 hx) ho hup
  ·rcases hxy with hxy | ⟨e, _⟩
   ·omega
   ·rw [e, hc.eq.2 rfl]; decide
  ·rw [idx_app hx, List.idxOf_append, if_neg hop, List.idxOf_cons_self]
   have := List.idxOf_lt_length_of_mem hx
   omega
structure Dd (c : κ → κ → Int) (ky : χ → κ) (l pre out : List χ) (first : Nat) : Prop where
 srt : out.Pairwise (Bef c ky l)
 mem : ∀ z, z ∈ out ↔ z ∈ pre
 le : first ≤ out.length
 last : ∀ x, out.getLast? = some x → (∀ y ∈ out.drop first, ky y = ky x) ∧ ∀ y ∈ out.take first, c (ky y) (ky x) < 0
theorem Dd.start (l : List χ) : Dd c ky l [] [] 0 := ⟨List.Pairwise.nil, fun _ => Iff.rfl, Nat.le_refl _, by simp⟩
def firstD (c : κ → κ → Int) (ky : χ → κ) (out : List χ) (first : Nat) (x : χ) : Nat := match out.getLast? with
 | some z => if c (ky z) (ky x) ≠ 0 then out.length else first
 | none => first
omit [DecidableEq χ] in
theorem mem_cut {x : χ} {n : Nat} {l : List χ} : x ∈ l ↔ x ∈ l.take n ∨ x ∈ l.drop n := by
 conv => lhs; rw [← List.take_append_drop n l]
 exact List.mem_append
theorem Dd.step {pre out : List χ} {first : Nat} {x : χ} (hc : CmpLin c) (h : Dd c ky l pre out first) (hge : ∀ y ∈ pre, c (ky y) (ky x) ≤ 0) (hnew : x ∉ pre → ∀ y ∈ pre, ky y = ky x → l.idxOf y < l.idxOf x) :
  Dd c ky l (pre ++ [x]) (if x ∈ out.drop (firstD c ky out first x) then out else out ++ [x]) (firstD c ky out first x) := by
 have hmem : ∀ {o2 : List χ}, (∀ z, z ∈ o2 ↔ z ∈ out ∨ z = x) → ∀ z, z ∈ o2 ↔ z ∈ pre ++ [x] := fun h2 z => by rw [h2, h.mem, List.mem_append, List.mem_singleton]
 have happ : ∀ z, z ∈ out ++ [x] ↔ z ∈ out ∨ z = x := fun z => by rw [List.mem_append, List.mem_singleton]
 have hsrt : (∀ y ∈ out, Bef c ky l y x) → (out ++ [x]).Pairwise (Bef c ky l) := fun h2 => by
  rw [List.pairwise_append]
  exact ⟨h.srt, List.pairwise_singleton _ _, fun y hy z hz => by rw [List.mem_singleton.1 hz]; exact h2 y hy⟩
 unfold firstD
 cases hl : out.getLast? with
 | none =>
  have ho : out = [] := by simpa using hl
  subst ho
  have hf : first = 0 := by have := h.le; simpa using this
  subst hf
  simp only [List.drop_nil, List.not_mem_nil, if_false]
  refine ⟨hsrt (by simp), hmem happ, Nat.zero_le _, fun z hz => ?_⟩
  have : z = x := by simpa using hz.symm
  subst this
  simp
 | some z =>
  obtain ⟨h1, h2⟩ := h.last z hl
  have hzo : z ∈ out := List.mem_of_getLast? hl
  have hzp : c (ky z) (ky x) ≤ 0 := hge z ((h.mem z).1 hzo)
  by_cases h0 : c (ky z) (ky x) = 0
  ·have ek := hc.eq.1 h0
   simp only [h0, ne_eq, not_true_eq_false, if_false]
   by_cases hx : x ∈ out.drop first
   ·rw [if_pos hx]
    have hxo : x ∈ out := mem_cut.2 (.inr hx)
    refine ⟨h.srt, hmem fun w => ⟨.inl, fun hw => hw.elim id fun e => e ▸ hxo⟩, h.le, h.last⟩
   ·rw [if_neg hx]
    have hxo : x ∉ out := fun hm => (mem_cut.1 hm).elim (fun ht => by have := h2 x ht; rw [ek, hc.eq.2 rfl] at this; omega) hx
    have hxp : x ∉ pre := fun hp => hxo ((h.mem x).2 hp)
    refine ⟨hsrt fun y hy => ?_, hmem happ, by rw [List.length_append]; have := h.le; omega, fun w hw => ?_⟩
    ·rcases mem_cut.1 hy with ht | ht
     ·exact .inl (ek ▸ h2 y ht)
     ·exact .inr ⟨(h1 y ht).trans ek, hnew hxp y ((h.mem y).1 hy) ((h1 y ht).trans ek)⟩
    ·have : w = x := by simpa using hw.symm
     subst this
     have hle := h.le
     refine ⟨fun y hy => ?_, fun y hy => ?_⟩
     ·rw [List.drop_append_of_le_length hle, List.mem_append, List.mem_singleton] at hy
      rcases hy with hy | rfl
      ·exact (h1 y hy).trans ek
      ·rfl
     ·rw [List.take_append_of_le_length hle] at hy
      exact ek ▸ h2 y hy
  ·have hlt : c (ky z) (ky x) < 0 := by omega
   simp only [ne_eq, h0, not_false_eq_true, if_true, List.drop_length, List.not_mem_nil, if_false]
   have hall : ∀ y ∈ out, c (ky y) (ky x) < 0 := fun y hy => by
    rcases mem_cut.1 hy with ht | ht
    ·exact hc.tr (h2 y ht) hlt
    ·rw [h1 y ht]; exact hlt
   refine ⟨hsrt fun y hy => .inl (hall y hy), hmem happ, by rw [List.length_append]; omega, fun w hw => ?_⟩
   have : w = x := by simpa using hw.symm
   subst this
   refine ⟨fun y hy => ?_, fun y hy => ?_⟩
   ·rw [List.drop_append_of_le_length (Nat.le_refl _), List.drop_length] at hy
    have : y = w := by simpa using hy
    rw [this]
   ·rw [List.take_append_of_le_length (Nat.le_refl _), List.take_length] at hy
    exact hall y hy
theorem Dd.done {pre out : List χ} {first : Nat} (h : Dd c ky l pre out first) (hm : ∀ z, z ∈ pre ↔ z ∈ l) : IsCan c ky l out := ⟨h.srt, fun z => (h.mem z).trans (hm z)⟩
theorem stable_next {T : List (χ × Nat)} {j : Nat} {x : χ} {t : Nat} (hc : CmpLin c) (hp : T.Perm l.zipIdx) (hs : Srt c (fun q => ky q.1) (·.2) T) (hx : T[j]? = some (x, t)) :
  (∀ y ∈ (T.take j).map (·.1), c (ky y) (ky x) ≤ 0) ∧ (x ∉ (T.take j).map (·.1) → ∀ y ∈ (T.take j).map (·.1), ky y = ky x → l.idxOf y < l.idxOf x) := by
 have at' : ∀ {q : χ × Nat}, q ∈ T.take j → Ahead c (fun q => ky q.1) (·.2) q (x, t) := fun hq => by
  obtain ⟨s, h1, h2⟩ := mem_take.1 hq
  exact pw_at hs h2 hx h1
 refine ⟨fun y hy => ?_, fun hn y hy e => ?_⟩
 ·obtain ⟨q, hq, rfl⟩ := List.mem_map.1 hy
  rcases at' hq with h | ⟨h, _⟩
  ·exact Int.le_of_lt h
  ·have h : ky q.1 = ky x := h
   rw [h, hc.eq.2 rfl]; decide
 ·have hxt : (x, t) ∈ l.zipIdx := hp.subset (List.mem_of_getElem? hx)
  have hlx : l[t]? = some x := List.mk_mem_zipIdx_iff_getElem?.1 hxt
  have htl := (List.getElem?_eq_some_iff.1 hlx).1
  have hxl : x ∈ l := List.mem_of_getElem? hlx
  -- the first meeting of x is its place here
  have hi : l.idxOf x = t := by
   have h1 : l.idxOf x < l.length := List.idxOf_lt_length_of_mem hxl
   have h2 : l[l.idxOf x]? = some x := by rw [List.getElem?_eq_getElem h1, List.getElem_idxOf h1]
   have hle : l.idxOf x ≤ t := by
    rcases Nat.lt_or_ge t (l.idxOf x) with h | h
    ·exfalso
     have := List.not_of_lt_findIdx (p := fun y => y == x) (xs := l) (i := t) h
     obtain ⟨_, e⟩ := List.getElem?_eq_some_iff.1 hlx
     rw [e] at this
     simp at this
    ·exact h
   rcases Nat.lt_or_eq_of_le hle with h | h
   ·exfalso
    have hm : (x, l.idxOf x) ∈ T := hp.symm.subset (List.mk_mem_zipIdx_iff_getElem?.2 h2)
    obtain ⟨s, hs'⟩ := List.mem_iff_getElem?.1 hm
    rcases Nat.lt_trichotomy s j with h3 | h3 | h3
    ·exact hn (List.mem_map.2 ⟨_, mem_take.2 ⟨s, h3, hs'⟩, rfl⟩)
    ·subst h3
     rw [hx] at hs'
     have := congrArg Prod.snd (Option.some_inj.1 hs')
     simp only at this
     omega
    ·rcases pw_at hs hx hs' h3 with h4 | ⟨_, h4⟩
     ·have h4 : c (ky x) (ky x) < 0 := h4
      rw [hc.eq.2 rfl] at h4; omega
     ·have h4 : t < l.idxOf x := h4
      omega
   ·exact h
  obtain ⟨q, hq, rfl⟩ := List.mem_map.1 hy
  rcases at' hq with h | ⟨_, h⟩
  ·have h : c (ky q.1) (ky x) < 0 := h
   rw [e, hc.eq.2 rfl] at h; omega
  ·have h : q.2 < t := h
   have hq' : l[q.2]? = some q.1 := List.mk_mem_zipIdx_iff_getElem?.1 (hp.subset (List.mem_of_mem_take hq))
   have : l.idxOf q.1 ≤ q.2 := by
    rcases Nat.lt_or_ge q.2 (l.idxOf q.1) with h5 | h5
    ·exfalso
     have := List.not_of_lt_findIdx (p := fun y => y == q.1) (xs := l) (i := q.2) h5
     obtain ⟨_, e⟩ := List.getElem?_eq_some_iff.1 hq'
     rw [e] at this
     simp at this
    ·exact h5
   omega
end
def nilS : SysD := ⟨[], [], []⟩
def catS (l : List SysD) : SysD := ⟨l.flatMap (·.objs), l.flatMap (·.fns), l.flatMap (·.cons)⟩
structure IsCanS (s t : SysD) : Prop where
 o : IsCan cmpL ObjD.name s.objs t.objs
 f : IsCan cmpL FnD.name s.fns t.fns
 c : IsCan cmpC (fun x => x) s.cons t.cons
theorem IsCanS.uniq {s a b : SysD} (h1 : IsCanS s a) (h2 : IsCanS s b) : a = b := by
 have e1 := h1.o.uniq linCL h2.o
 have e2 := h1.f.uniq linCL h2.f
 have e3 := h1.c.uniq linC h2.c
 cases a; cases b
 simp only at e1 e2 e3
 rw [e1, e2, e3]
theorem IsCanS.again {s a : SysD} (h : IsCanS s a) : IsCanS a a := ⟨h.o.again linCL, h.f.again linCL, h.c.again linC⟩
def once (t : SysD) : Prop := t.objs.Pairwise (fun x y => cmpO x y < 0) ∧ t.fns.Pairwise (fun x y => cmpF x y < 0)
structure OkPart (s : SysD) : Prop where
 o : ∀ o ∈ s.objs, objE o = 0
 f : ∀ f ∈ s.fns, fnE f = 0
 c : ∀ c ∈ s.cons, conE c = 0
def bigS (s : SysD) : Prop := s.objs.length > 600 ∨ s.fns.length > 600 ∨ s.cons.length > 6000
instance (s : SysD) : Decidable (bigS s) := by unfold bigS; infer_instance
theorem eachE_cons {α : Type} {ask : α → Int} {cmp : α → α → Int} {p : Option α} {x : α} {l : List α} : eachE ask cmp p (x :: l) = if ask x ≠ 0 then ask x else if (match p with | some q => decide (cmp q x ≥ 0) | none => false) then 13 else eachE ask cmp (some x) l := rfl
theorem each_rise {α : Type} {ask : α → Int} {cmp : α → α → Int} (tr : ∀ x y z, cmp x y < 0 → cmp y z < 0 → cmp x z < 0) : ∀ {l : List α} {p : Option α}, eachE ask cmp p l = 0 ↔ (∀ x ∈ l, ask x = 0) ∧ (p.toList ++ l).Pairwise (fun x y => cmp x y < 0)
 | [], none => by simp [eachE]
 | [], some q => by simp [eachE]
 | x :: l, none => by
  rw [eachE_cons]
  by_cases h : ask x = 0
  ·rw [if_neg (fun h' => h' h), if_neg (show ¬ (false = true) by decide), each_rise tr]
   simp [h]
  ·rw [if_pos h]
   simp [h]
 | x :: l, some q => by
  rw [eachE_cons]
  by_cases h : ask x = 0
  ·rw [if_neg (fun h' => h' h)]
   by_cases h2 : cmp q x ≥ 0
   ·rw [if_pos (decide_eq_true h2)]
    simp only [Option.toList_some, List.cons_append, List.nil_append, List.pairwise_cons]
    constructor
    ·intro e; cases e
    ·rintro ⟨_, e, _⟩
     have := e x List.mem_cons_self
     omega
   ·rw [if_neg (fun h3 => h2 (of_decide_eq_true h3)), each_rise tr]
    simp only [Option.toList_some, List.cons_append, List.nil_append, List.pairwise_cons, List.forall_mem_cons]
    exact ⟨fun ⟨a, b, d⟩ => ⟨⟨h, a⟩, ⟨by omega, fun y hy => tr _ _ _ (by omega) (b y hy)⟩, b, d⟩, fun ⟨⟨_, a⟩, _, b, d⟩ => ⟨a, b, d⟩⟩
  ·rw [if_pos h]
   simp [h]
theorem each_13 {α : Type} {ask : α → Int} {cmp : α → α → Int} : ∀ {l : List α} {p : Option α}, (∀ x ∈ l, ask x = 0) → eachE ask cmp p l = 0 ∨ eachE ask cmp p l = 13
 | [], _, _ => .inl rfl
 | x :: l, p, h => by
  have hr : ∀ {q : Option α}, eachE ask cmp q l = 0 ∨ eachE ask cmp q l = 13 := each_13 fun y hy => h y (List.mem_cons_of_mem _ hy)
  rw [eachE_cons, if_neg (fun h' => h' (h x List.mem_cons_self))]
  generalize (match p with | some q => decide (cmp q x ≥ 0) | none => false) = b
  cases b
  ·exact hr
  ·exact .inr rfl
theorem trO (x y z : ObjD) : cmpO x y < 0 → cmpO y z < 0 → cmpO x z < 0 := linCL.tr
theorem trF (x y z : FnD) : cmpF x y < 0 → cmpF y z < 0 → cmpF x z < 0 := linCL.tr
theorem trC (x y z : ConD) : cmpC x y < 0 → cmpC y z < 0 → cmpC x z < 0 := linC.tr
theorem checkE_0 {s : SysD} : checkE s = 0 ↔ ¬ bigS s ∧ OkPart s ∧ once s ∧ s.cons.Pairwise (fun x y => cmpC x y < 0) := by
 unfold checkE
 by_cases h0 : s.objs.length > 600 ∨ s.fns.length > 600 ∨ s.cons.length > 6000
 ·rw [if_pos h0]
  exact ⟨fun h => (by cases h), fun h => absurd h0 h.1⟩
 ·rw [if_neg h0]
  by_cases h1 : eachE objE cmpO none s.objs = 0
  ·rw [if_neg (fun h => h h1)]
   by_cases h2 : eachE fnE cmpF none s.fns = 0
   ·rw [if_neg (fun h => h h2)]
    have r1 := (each_rise trO).1 h1
    have r2 := (each_rise trF).1 h2
    rw [each_rise trC]
    exact ⟨fun h => ⟨h0, ⟨r1.1, r2.1, h.1⟩, ⟨r1.2, r2.2⟩, h.2⟩, fun h => ⟨h.2.1.c, h.2.2.2⟩⟩
   ·rw [if_pos h2]
    exact ⟨fun h => absurd h h2, fun h => absurd ((each_rise trF (p := none)).2 ⟨h.2.1.f, h.2.2.1.2⟩) h2⟩
  ·rw [if_pos h1]
   exact ⟨fun h => absurd h h1, fun h => absurd ((each_rise trO (p := none)).2 ⟨h.2.1.o, h.2.2.1.1⟩) h1⟩
theorem checkE_4 {s : SysD} (hp : OkPart s) : checkE s = 4 ↔ bigS s := by
 unfold checkE bigS
 by_cases h0 : s.objs.length > 600 ∨ s.fns.length > 600 ∨ s.cons.length > 6000
 ·rw [if_pos h0]
  exact ⟨fun _ => h0, fun _ => rfl⟩
 ·rw [if_neg h0]
  refine ⟨fun h => ?_, fun h => absurd h h0⟩
  exfalso
  split at h
  ·rcases each_13 (cmp := cmpO) (p := none) hp.o with e | e <;> rw [e] at h <;> cases h
  ·split at h
   ·rcases each_13 (cmp := cmpF) (p := none) hp.f with e | e <;> rw [e] at h <;> cases h
   ·rcases each_13 (cmp := cmpC) (p := none) hp.c with e | e <;> rw [e] at h <;> cases h
theorem oneK_c (l : List ConD) : OneK (fun x : ConD => x) l := fun _ _ _ _ e => e
theorem can_part {s t : SysD} (h : IsCanS s t) (hp : OkPart s) : OkPart t := ⟨fun o ho => hp.o o ((h.o.mem o).1 ho), fun o ho => hp.f o ((h.f.mem o).1 ho), fun o ho => hp.c o ((h.c.mem o).1 ho)⟩
theorem can_check {s t : SysD} (h : IsCanS s t) (hp : OkPart s) : checkE t = 0 ↔ once t ∧ ¬ bigS t := by
 rw [checkE_0]
 exact ⟨fun h' => ⟨h'.2.2.1, h'.1⟩, fun h' => ⟨h'.2, can_part h hp, h'.1, h.c.rising linC (oneK_c _)⟩⟩
theorem once_oneK {χ : Type} {ky : χ → L8} {l : List χ} (h : l.Pairwise fun x y => cmpL (ky x) (ky y) < 0) : OneK ky l := by
 intro x hx y hy e
 obtain ⟨i, hi⟩ := List.mem_iff_getElem?.1 hx
 obtain ⟨j, hj⟩ := List.mem_iff_getElem?.1 hy
 rcases Nat.lt_trichotomy i j with h1 | h1 | h1
 ·have := pw_at h hi hj h1
  rw [e, linCL.eq.2 rfl] at this; omega
 ·subst h1
  rw [hi] at hj
  exact Option.some_inj.1 hj
 ·have := pw_at h hj hi h1
  rw [e, linCL.eq.2 rfl] at this; omega
def firstE : List Int → Int
 | [] => 0
 | x :: l => if x ≠ 0 then x else firstE l
theorem firstE_0 {l : List Int} : firstE l = 0 ↔ ∀ x ∈ l, x = 0 := by
 induction l with
 | nil => simp [firstE]
 | cons x l ih =>
  rw [firstE]
  by_cases h : x = 0
  ·rw [if_neg (fun h' => h' h), ih]; simp [h]
  ·rw [if_pos h]; simp [h]
def UniR (l : List SysD) (r : SysD) (e : Int) : Prop :=
 (firstE (l.map checkE) ≠ 0 ∧ e = firstE (l.map checkE) ∧ r = nilS) ∨
 (firstE (l.map checkE) = 0 ∧ ∃ t, IsCanS (catS l) t ∧ ((¬ once t ∧ e = 8 ∧ r = nilS) ∨ (once t ∧ bigS t ∧ e = 4 ∧ r = nilS) ∨ (once t ∧ ¬ bigS t ∧ e = 0 ∧ r = t)))
theorem UniR.uniq {l : List SysD} {r r' : SysD} {e e' : Int} (h1 : UniR l r e) (h2 : UniR l r' e') : r = r' ∧ e = e' := by
 rcases h1 with ⟨a, b, d⟩ | ⟨a, t, ht, h⟩ <;> rcases h2 with ⟨a', b', d'⟩ | ⟨a', t', ht', h'⟩
 ·exact ⟨d.trans d'.symm, b.trans b'.symm⟩
 ·exact absurd a' a
 ·exact absurd a a'
 ·have := ht.uniq ht'
  subst this
  rcases h with ⟨o, h1, h2⟩ | ⟨o, o2, h1, h2⟩ | ⟨o, o2, h1, h2⟩ <;> rcases h' with ⟨p, h3, h4⟩ | ⟨p, p2, h3, h4⟩ | ⟨p, p2, h3, h4⟩ <;> first | exact ⟨h2.trans h4.symm, h1.trans h3.symm⟩ | exact absurd p o | exact absurd o p | exact absurd o2 p2 | exact absurd p2 o2
theorem UniR.zero {l : List SysD} {r : SysD} (h : UniR l r 0) : (∀ s ∈ l, checkE s = 0) ∧ IsCanS (catS l) r ∧ once r ∧ ¬ bigS r := by
 rcases h with ⟨a, b, d⟩ | ⟨a, t, ht, h⟩
 ·exact absurd b.symm a
 ·rcases h with ⟨o, h1, h2⟩ | ⟨o, o2, h1, h2⟩ | ⟨o, o2, h1, h2⟩
  ·cases h1
  ·cases h1
  ·subst h2
   exact ⟨fun s hs => firstE_0.1 a _ (List.mem_map_of_mem hs), ht, o, o2⟩
theorem cat_part {l : List SysD} (h : ∀ s ∈ l, checkE s = 0) : OkPart (catS l) := by
 refine ⟨fun o ho => ?_, fun o ho => ?_, fun o ho => ?_⟩
 ·obtain ⟨s, hs, ho⟩ := List.mem_flatMap.1 ho
  exact (checkE_0.1 (h s hs)).2.1.o o ho
 ·obtain ⟨s, hs, ho⟩ := List.mem_flatMap.1 ho
  exact (checkE_0.1 (h s hs)).2.1.f o ho
 ·obtain ⟨s, hs, ho⟩ := List.mem_flatMap.1 ho
  exact (checkE_0.1 (h s hs)).2.1.c o ho
theorem UniR.check {l : List SysD} {r : SysD} (h : UniR l r 0) : checkE r = 0 := by
 obtain ⟨h1, h2, h3, h4⟩ := h.zero
 exact (can_check h2 (cat_part h1)).2 ⟨h3, h4⟩
structure SubS (a b : SysD) : Prop where
 o : ∀ z ∈ a.objs, z ∈ b.objs
 f : ∀ z ∈ a.fns, z ∈ b.fns
 c : ∀ z ∈ a.cons, z ∈ b.cons
theorem IsCanS.sub {s t : SysD} (h : IsCanS s t) : SubS t s ∧ SubS s t := ⟨⟨fun z => (h.o.mem z).1, fun z => (h.f.mem z).1, fun z => (h.c.mem z).1⟩, ⟨fun z => (h.o.mem z).2, fun z => (h.f.mem z).2, fun z => (h.c.mem z).2⟩⟩
theorem SubS.trans {a b d : SysD} (h1 : SubS a b) (h2 : SubS b d) : SubS a d := ⟨fun z hz => h2.o z (h1.o z hz), fun z hz => h2.f z (h1.f z hz), fun z hz => h2.c z (h1.c z hz)⟩
theorem oneK_sub {χ : Type} {ky : χ → L8} {a b : List χ} (h : ∀ z ∈ a, z ∈ b) (hb : OneK ky b) : OneK ky a := fun x hx y hy e => hb x (h x hx) y (h y hy) e
theorem UniR.less {l l' : List SysD} {u v : SysD} {f : Int} (h : UniR l u 0) (hv : UniR l' v f) (hc : ∀ s ∈ l', checkE s = 0) (hs : SubS (catS l') u) : f = 0 := by
 obtain ⟨h1, h2, h3, h4⟩ := h.zero
 rcases hv with ⟨a, b, d⟩ | ⟨a, t, ht, hv⟩
 ·exact absurd (firstE_0.2 fun x hx => by obtain ⟨s, hs', rfl⟩ := List.mem_map.1 hx; exact hc s hs') a
 have st := ht.sub.1.trans hs
 have k1 : OneK ObjD.name (catS l').objs := oneK_sub hs.o (once_oneK h3.1)
 have k2 : OneK FnD.name (catS l').fns := oneK_sub hs.f (once_oneK h3.2)
 have ho : once t := ⟨IsCan.rising (c := cmpL) linCL k1 ht.o, IsCan.rising (c := cmpL) linCL k2 ht.f⟩
 have hb : ¬ bigS t := by
  have e1 := subset_len (ht.o.nodup linCL) st.o
  have e2 := subset_len (ht.f.nodup linCL) st.f
  have e3 := subset_len (ht.c.nodup linC) st.c
  unfold bigS at *
  omega
 rcases hv with ⟨o, h1, h2⟩ | ⟨o, o2, h1, h2⟩ | ⟨o, o2, h1, h2⟩
 ·exact absurd ho o
 ·exact absurd o2 hb
 ·exact h1
theorem UniR.alike {l l' : List SysD} {u v : SysD} (h : UniR l u 0) (hv : UniR l' v 0) (h1 : SubS (catS l) (catS l')) (h2 : SubS (catS l') (catS l)) : u = v := by
 obtain ⟨a1, a2, a3, a4⟩ := h.zero
 obtain ⟨b1, b2, b3, b4⟩ := hv.zero
 have e1 := a2.o.swap linCL (oneK_sub a2.sub.2.o (once_oneK a3.1)) (fun z => ⟨h1.o z, h2.o z⟩) b2.o
 have e2 := a2.f.swap linCL (oneK_sub a2.sub.2.f (once_oneK a3.2)) (fun z => ⟨h1.f z, h2.f z⟩) b2.f
 have e3 := a2.c.swap linC (oneK_c _) (fun z => ⟨h1.c z, h2.c z⟩) b2.c
 cases u; cases v
 simp only at e1 e2 e3
 rw [e1, e2, e3]
theorem cat_sub {l : List SysD} {d : SysD} (h : ∀ s ∈ l, SubS s d) : SubS (catS l) d :=
 ⟨fun z hz => by obtain ⟨s, hs, hz⟩ := List.mem_flatMap.1 hz; exact (h s hs).o z hz, fun z hz => by obtain ⟨s, hs, hz⟩ := List.mem_flatMap.1 hz; exact (h s hs).f z hz, fun z hz => by obtain ⟨s, hs, hz⟩ := List.mem_flatMap.1 hz; exact (h s hs).c z hz⟩
theorem in_cat {l : List SysD} {s : SysD} (h : s ∈ l) : SubS s (catS l) := ⟨fun z hz => List.mem_flatMap.2 ⟨s, h, hz⟩, fun z hz => List.mem_flatMap.2 ⟨s, h, hz⟩, fun z hz => List.mem_flatMap.2 ⟨s, h, hz⟩⟩
theorem UniR.order {a b c u v : SysD} {e f : Int} (h1 : UniR [a, b, c] u e) (h2 : UniR [c, a, b, a] v f) : (e = 0 ↔ f = 0) ∧ (e = 0 → u = v) := by
 have hm : ∀ s, s ∈ [a, b, c] ↔ s ∈ [c, a, b, a] := by intro s; simp only [List.mem_cons, List.not_mem_nil, or_false]; grind
 have s1 : SubS (catS [a, b, c]) (catS [c, a, b, a]) := cat_sub fun s hs => in_cat ((hm s).1 hs)
 have s2 : SubS (catS [c, a, b, a]) (catS [a, b, c]) := cat_sub fun s hs => in_cat ((hm s).2 hs)
 have k1 : e = 0 → f = 0 := fun he => by
  subst he
  exact h1.less h2 (fun s hs => h1.zero.1 s ((hm s).2 hs)) (s2.trans h1.zero.2.1.sub.2)
 have k2 : f = 0 → e = 0 := fun hf => by
  subst hf
  exact h2.less h1 (fun s hs => h2.zero.1 s ((hm s).1 hs)) (s1.trans h2.zero.2.1.sub.2)
 refine ⟨⟨k1, k2⟩, fun he => ?_⟩
 have hf := k1 he
 subst he
 subst hf
 exact h1.alike h2 s1 s2
theorem UniR.steps {a b c u w : SysD} {g : Int} (h1 : UniR [a, b, c] u 0) (h2 : UniR [a, b] w g) : g = 0 ∧ ∀ {z : SysD} {h : Int}, UniR [w, c] z h → h = 0 ∧ z = u := by
 have hc := h1.zero.1
 have su := h1.zero.2.1.sub
 have hg : g = 0 := h1.less h2 (fun s hs => hc s (by simp only [List.mem_cons, List.not_mem_nil, or_false] at hs ⊢; grind)) ((cat_sub fun s hs => in_cat (by simp only [List.mem_cons, List.not_mem_nil, or_false] at hs ⊢; grind)).trans su.2)
 subst hg
 refine ⟨rfl, fun {z h} h3 => ?_⟩
 have hw := h2.check
 have sw := h2.zero.2.1.sub
 have swu : SubS (catS [w, c]) (catS [a, b, c]) := cat_sub fun s hs => by
  simp only [List.mem_cons, List.not_mem_nil, or_false] at hs
  rcases hs with rfl | rfl
  ·exact sw.1.trans (cat_sub fun s hs => in_cat (by simp only [List.mem_cons, List.not_mem_nil, or_false] at hs ⊢; grind))
  ·exact in_cat (by simp)
 have suw : SubS (catS [a, b, c]) (catS [w, c]) := cat_sub fun s hs => by
  simp only [List.mem_cons, List.not_mem_nil, or_false] at hs
  have hww : SubS w (catS [w, c]) := in_cat (by simp)
  rcases hs with rfl | rfl | rfl
  ·exact ((in_cat (by simp)).trans sw.2).trans hww
  ·exact ((in_cat (by simp)).trans sw.2).trans hww
  ·exact in_cat (by simp)
 have hh : h = 0 := h1.less h3 (fun s hs => by
  simp only [List.mem_cons, List.not_mem_nil, or_false] at hs
  rcases hs with rfl | rfl
  ·exact hw
  ·exact hc _ (by simp)) (swu.trans su.2)
 subst hh
 exact ⟨rfl, h3.alike h1 swu suw⟩
end Go.Proofs.YtjpkbenogloihaaGreatDoor.P15
end
section
namespace Go.V
attribute [local irreducible] Cvt ExtF CallF hrun
section
variable {σ τ : Type} {fl : τ → List Value} {f : σ → τ} {sz : Nat} {H : Hp} {s : Sl} {L : List σ}
theorem Rd.map (h : Rd fl sz H s (L.map f)) : Rd (fun x => fl (f x)) sz H s L :=
 ⟨by rw [h.len, List.length_map], h.le, fun i x k v hx hv => h.el i (f x) k v (by rw [List.getElem?_map, hx]; rfl) hv⟩
theorem Rd.unmap (h : Rd (fun x => fl (f x)) sz H s L) : Rd fl sz H s (L.map f) := by
 refine ⟨by rw [h.len, List.length_map], h.le, fun i x k v hx hv => ?_⟩
 rw [List.getElem?_map] at hx
 cases hL : L[i]? with
 | none => rw [hL] at hx; cases hx
 | some y =>
  rw [hL] at hx
  have : f y = x := by simpa using hx
  subst this
  exact h.el i y k v hL hv
end
def tagged {η χ : Type} (hs : List η) (xs : List χ) : List ((η × χ) × Nat) := (hs.zip xs).zipIdx
section
variable {η χ : Type} {hs : List η} {xs : List χ}
theorem tagged_len (h : hs.length = xs.length) : (tagged hs xs).length = xs.length := by
 unfold tagged
 rw [List.length_zipIdx, List.length_zip, h, Nat.min_self]
theorem tagged_at (h : hs.length = xs.length) {x : (η × χ) × Nat} : x ∈ tagged hs xs ↔ hs[x.2]? = some x.1.1 ∧ xs[x.2]? = some x.1.2 := by
 unfold tagged
 obtain ⟨⟨a, b⟩, n⟩ := x
 rw [List.mk_mem_zipIdx_iff_getElem?, List.getElem?_zip_eq_some]
theorem tagged_get {i : Nat} (h : hs.length = xs.length) : (tagged hs xs)[i]? = (hs.zip xs)[i]?.map fun x => (x, i) := by
 unfold tagged
 rw [List.getElem?_zipIdx, Nat.zero_add]
theorem tagged_fst (h : hs.length = xs.length) : (tagged hs xs).map (fun x => x.1.1) = hs := by
 unfold tagged
 have e : (fun x : (η × χ) × Nat => x.1.1) = Prod.fst ∘ Prod.fst := rfl
 rw [e, ← List.map_map, List.zipIdx_map_fst, List.map_fst_zip (by omega)]
theorem tagged_snd (h : hs.length = xs.length) : (tagged hs xs).map (fun x => x.1.2) = xs := by
 unfold tagged
 have e : (fun x : (η × χ) × Nat => x.1.2) = Prod.snd ∘ Prod.fst := rfl
 rw [e, ← List.map_map, List.zipIdx_map_fst, List.map_snd_zip (by omega)]
theorem tagged_idx (h : hs.length = xs.length) : (tagged hs xs).map (fun x => (x.1.2, x.2)) = xs.zipIdx := by
 apply List.ext_getElem?
 intro i
 rw [List.getElem?_map, tagged_get h, List.getElem?_zipIdx, Nat.zero_add]
 cases hx : xs[i]? with
 | none =>
  have : (hs.zip xs)[i]? = none := by
   rw [List.getElem?_eq_none_iff] at hx ⊢
   rw [List.length_zip]; omega
  rw [this]; rfl
 | some x =>
  have hi := (List.getElem?_eq_some_iff.1 hx).1
  have hh : hs[i]? = some (hs[i]'(by omega)) := List.getElem?_eq_getElem _
  have : (hs.zip xs)[i]? = some (hs[i]'(by omega), x) := List.getElem?_zip_eq_some.2 ⟨hh, hx⟩
  rw [this]; rfl
theorem tagged_rise (h : hs.length = xs.length) : (tagged hs xs).Pairwise fun x y => x.2 < y.2 := by
 rw [List.pairwise_iff_getElem]
 intro i j hi hj hij
 have e1 := List.getElem?_eq_getElem hi
 have e2 := List.getElem?_eq_getElem hj
 rw [tagged_get h] at e1 e2
 obtain ⟨a, _, h1⟩ := Option.map_eq_some_iff.1 e1
 obtain ⟨b, _, h2⟩ := Option.map_eq_some_iff.1 e2
 rw [← h1, ← h2]
 exact hij
end
end Go.V
end
section
namespace Go.Proofs.YtjpkbenogloihaaGreatDoor.C16O
open Go Go.V Go.Proofs Go.Proofs.YtjpkbenogloihaaGreatDoor.N16 Go.Proofs.YtjpkbenogloihaaGreatDoor.P15
attribute [local irreducible] Cvt ExtF CallF hrun App MkS callV
abbrev InE (H : Hp) (h : HO) (x : ObjD) : Prop := InO H h x
abbrev QE (H : Hp) (xs : List ObjD) (x : El) : Prop := InE H x.1.1 x.1.2 ∧ x.1.2 ∈ xs
abbrev dat (x : El) : ObjD := x.1.2
theorem tyE : TyS Tryz.prog 22 43 3 56 (.agg #[.string ⟨#[]⟩, .string ⟨#[]⟩, .slice none 0 0]) := ⟨by kernel_rfl, by kernel_rfl, rfl, by decide⟩
def SameV (same : Value) (Q : El → Prop) (H0 : Hp) : Prop :=
 ∀ {x y : El} {A : Hp} {K' : Value → Hp → Prop} {Z' : List PanicEntry → Hp → Prop}, Q x → Q y → Fr no H0 A → (∀ B, Fr no A B → K' (.bool (decide (dat x = dat y))) B) → callV Tryz.prog same [vA x, vA y] A K' Z'
theorem okO1 : fnOk Tryz.prog 63 = true := by kernel_rfl
section
variable {H0 : Hp} {R : List It} {s : Sl} {K : Value → Hp → Prop} {Z : List PanicEntry → Hp → Prop} {A : Hp} {cmp same : Value}
theorem clone_ok {l : Sl} {L : List El} (h : Sym H0 no A R) (hr : Rd fle 3 A l L) (hl : L.length ≤ 2000000) (k : ∀ s' B, AR H0 B s' L R → K (.slice s'.a s'.n s'.c) B) : CallF Tryz.prog 60 #[.slice l.a l.n l.c] A K Z := by
 refine V60_ok ?_
 unfold V60
 refine ⟨fun h0 => ?_, fun h0 b B hB => ?_⟩
 ·have hL : L = [] := by
   cases L with
   | nil => rfl
   | cons x r =>
    obtain ⟨v, hv⟩ : ∃ v, (fle x)[0]? = some v := ⟨_, List.getElem?_eq_getElem (by rw [FlE.len]; decide)⟩
    obtain ⟨ad, ha, _⟩ := hr.el 0 x 0 v rfl hv
    rw [ha] at h0
    cases h0
  subst hL
  exact k ⟨none, 0, 0⟩ A (h.nilrow _ _ _)
 ·have sB := h.lit (fl := fle) (E := 43) (sz := 3) (l := []) FlE (by decide) hB (show 0 = _ from rfl)
  have hrB := hr.more hB.fr
  refine sB.appR (k := 0) tyE FlE (by decide) rfl hrB (by show (0 + L.length) * _ ≤ _; omega) fun s' C _ sC => ?_
  exact k s' C sC
theorem index_ok {L : List El} {l : Sl} {f : Value} {p : El → Bool} (hr : Rd fle 3 A l L) (hl : L.length ≤ 2000000)
  (hf : ∀ {x : El} {B : Hp} {K' : Value → Hp → Prop}, x ∈ L → Fr no A B → (∀ C, Fr no B C → K' (.bool (p x)) C) → callV Tryz.prog f [vA x] B K' Z) (k : ∀ y B, Fr no A B → decide (y ≥ 0) = L.any p → K (.int .i64 y) B) : CallF Tryz.prog 96 #[.slice l.a l.n l.c, f] A K Z := by
 refine V96_ok ?_
 unfold V96
 have hn := hr.len
 refine ⟨fun i C m => ∃ j : Nat, Fr no A C ∧ i = (j : Int) ∧ j ≤ L.length ∧ m = L.length - j ∧ (L.take j).any p = false, ⟨_, 0, Fr.refl _ _, rfl, Nat.zero_le _, rfl, rfl⟩, ?_⟩
 rintro i C m ⟨j, fC, rfl, hj, rfl, hno⟩ scr
 refine ⟨fun hlt => ?_, fun hge => ?_⟩
 ·have hj' : j < L.length := by have := dlt hlt; omega
  obtain ⟨x, hx, hxm⟩ := getN hj'
  refine atE (hr.more fC) hx fun ad => hf hxm fC fun D fD => ⟨_, rfl, fun hp => k _ D (fC.trans fD) ?_, fun hp => ⟨L.length - (j + 1), by omega, j + 1, fC.trans fD, wi (by omega), hj', rfl, ?_⟩⟩
  ·rw [decide_eq_true (by omega)]
   exact (List.any_eq_true.2 ⟨x, hxm, hp⟩).symm
  ·rw [List.take_add_one, hx, List.any_append, hno]
   simp [hp]
 ·rw [List.take_of_length_le (by have := dge hge; omega)] at hno
  exact k _ C fC (by rw [hno]; rfl)
theorem contains_ok {L : List El} {l : Sl} {f : Value} {p : El → Bool} (hr : Rd fle 3 A l L) (hl : L.length ≤ 2000000)
  (hf : ∀ {x : El} {B : Hp} {K' : Value → Hp → Prop}, x ∈ L → Fr no A B → (∀ C, Fr no B C → K' (.bool (p x)) C) → callV Tryz.prog f [vA x] B K' Z) (k : ∀ B, Fr no A B → K (.bool (L.any p)) B) : CallF Tryz.prog 62 #[.slice l.a l.n l.c, f] A K Z := by
 refine V62_ok ?_
 unfold V62
 refine index_ok hr hl hf fun y B fB e => ⟨_, rfl, ?_⟩
 rw [e]
 exact k B fB
theorem clo_ok {Q : El → Prop} {bS bX : Nat} {T : TypeId} {x y : El} {K : Value → Hp → Prop} (hw : SameV same Q H0) (hA : Fr no H0 A) (h1 : hcell A ⟨bS, 0, none⟩ = some same) (h2 : ∀ i, hcell A ⟨bX, i, none⟩ = (fle x)[i]?) (qx : Q x) (qy : Q y) (k : ∀ B, Fr no A B → K (.bool (decide (dat x = dat y))) B) :
  callV Tryz.prog (.func (.func 63) #[] #[.pointer (some ⟨bS, 0, none⟩), .pointer (some ⟨bX, 0, none⟩)]) [vA y] A K Z := by
 unfold callV
 simp only [okO1, if_true]
 show CallF Tryz.prog 63 #[vA y, .pointer (some ⟨bS, 0, none⟩), .pointer (some ⟨bX, 0, none⟩)] A K Z
 refine V63_ok ?_
 unfold V63
 intro bY B hB
 have sB := (Sym.start A).newb (cs := fle y) hB
 have e1 := C15.lf sB.fr h1
 have e2 : ∀ i, hcell A ⟨bX, i, none⟩ = (fle x)[i]? → ∀ v, (fle x)[i]? = some v → hcell B ⟨bX, i, none⟩ = some v := fun i h v hv => C15.lf sB.fr (h.trans hv)
 refine ⟨same, e1, str x.1.1.1, str x.1.1.2.1, x.1.1.2.2, ⟨e2 0 (h2 0) _ rfl, e2 1 (h2 1) _ rfl, e2 2 (h2 2) _ rfl, trivial⟩, str y.1.1.1, str y.1.1.2.1, y.1.1.2.2, ⟨sB.ld (k := 0) rfl 0, sB.ld (k := 0) rfl 1, sB.ld (k := 0) rfl 2, trivial⟩, hw qx qy (hA.trans sB.fr) fun C fC => ⟨_, rfl, k C (sB.fr.trans fC)⟩⟩
theorem tailS {l : Sl} {L : List El} {lo : Int} {n : Nat} {Kx : Sl → Prop} (h : Rd fle 3 A l L) (e : lo = ((n : Nat) : Int)) (hn : n ≤ L.length) (k : ∀ c, Rd fle 3 A c (L.drop n) → Kx c) : l.n ≤ l.c ∧ SlX l.a l.c lo (l.n : Int) 3 Kx := by
 have hl := h.len
 have := h.part FlE (lo := n) (hi := l.n) (by omega) (Nat.le_refl _)
 subst e
 refine ⟨h.le, ⟨by omega, by omega, by have := h.le; omega⟩, k _ ?_⟩
 have e2 : (L.drop n).take (l.n - n) = L.drop n := List.take_of_length_le (by rw [List.length_drop]; omega)
 rw [e2] at this
 exact this
theorem ord_ok {κ : Type} {c : κ → κ → Int} {kx : ObjD → κ} (hc : CmpLin c) {H A0 : Hp} {l : Sl} {xs : List ObjD} (f0 : Fr no H A0) (h : RdX flHO 3 InE H l xs) (hl : xs.length ≤ 2000000) (hv : CmpV cmp c (fun x => kx (dat x)) (QE H xs) A0) (hw : SameV same (QE H xs) A0) (hsc : Value.cells same = #[same])
  (k : ∀ out L A', AR A0 A' out L [] → IsCan c kx xs (L.map dat) → (∀ x ∈ L, QE H xs x) → K (.slice out.a out.n out.c) A') : CallF Tryz.prog 26 #[.slice l.a l.n l.c, cmp, same] A0 K Z := by
 refine V26_ok ?_
 unfold V26
 intro bS A hA
 rw [hsc] at hA
 obtain ⟨T, hA⟩ : ∃ T : TypeId, Newb A0 (.cells #[same] T) bS A := ⟨_, hA⟩
 have sA := (Sym.start A0).newb (cs := [same]) hA
 obtain ⟨hs, hr, hlen, hin⟩ := h
 have rd0 : Rd fle 3 H l (tagged hs xs) := Rd.map (f := fun x : El => x.1.1) (by rw [tagged_fst hlen]; exact hr)
 have q0 : ∀ x ∈ tagged hs xs, QE H xs x := fun x hx => by
  obtain ⟨e1, e2⟩ := (tagged_at hlen).1 hx
  exact ⟨hin _ _ _ e1 e2, List.mem_of_getElem? e2⟩
 have l0 := tagged_len hlen
 refine clone_ok sA ((rd0.more f0).more sA.fr) (by omega) fun y B sB => ⟨y, rfl, sort_ok hc hv sB (tagged_rise hlen) q0 (by omega) fun C M hp hsr sC => ⟨rfl, ?_⟩⟩
 have qM : ∀ x ∈ M, QE H xs x := fun x hx => q0 x (hp.subset hx)
 have lM : M.length = xs.length := by rw [hp.length_eq, l0]
 have hpT : (M.map fun x => (dat x, x.2)).Perm xs.zipIdx := by
  rw [← tagged_idx hlen]
  exact hp.map _
 have hsT : Srt c (fun (q : ObjD × Nat) => kx q.1) (·.2) (M.map fun x => (dat x, x.2)) := List.pairwise_map.2 hsr
 have yn := (AR.rd sC).len
 refine ⟨fun out first t D m => ∃ (j f : Nat) (L : List El), first = (f : Int) ∧ t = (j : Int) ∧ j ≤ M.length ∧ m = M.length - j ∧ L.length ≤ j ∧ (∀ x ∈ L, QE H xs x) ∧ Dd c kx xs ((M.take j).map dat) (L.map dat) f ∧ AR A0 D out L [arr fle 43 3 y M, blk bS [same] T], ⟨_, 0, 0, [], rfl, rfl, Nat.zero_le _, rfl, Nat.le_refl _, by simp, Dd.start xs, sC.nilrow _ _ _⟩, ?_⟩
 rintro out first t D m ⟨j, f, L, rfl, rfl, hj, rfl, hLj, qL, hD, sD⟩ scr
 have on := (AR.rd sD).len
 refine ⟨fun hlt => ?_, fun hge => ?_⟩
 ·have hj' : j < M.length := by have := dlt hlt; omega
  obtain ⟨x, hx, hxm⟩ := getN hj'
  have hn := stable_next hc hpT hsT (j := j) (x := dat x) (t := x.2) (by rw [List.getElem?_map, hx]; rfl)
  rw [← List.map_take, List.map_map] at hn
  have hstep := Dd.step hc hD (x := dat x) hn.1 hn.2
  have etk : (M.take (j + 1)).map dat = (M.take j).map dat ++ [dat x] := by rw [List.take_add_one, hx, List.map_append]; rfl
  rw [← etk] at hstep
  have hfle := hD.le
  rw [List.length_map] at hfle
  refine atE (Sym.rd (k := 1) sD FlE (by decide) rfl) hx fun ad => fun bX E hE => ?_
  have sE := Sym.newb sD (cs := [.string ⟨#[]⟩, .string ⟨#[]⟩, .slice none 0 0]) hE
  refine sE.stbs (k := 0) (i := 0) (vs := fle x) rfl (by rw [FlE.len]; simp) (FlE.2 x) fun F sF => ?_
  replace sF : Sym A0 no F [blk bX (fle x) 43, arr fle 43 3 out L, arr fle 43 3 y M, blk bS [same] T] := sF
  have fin : ∀ {G : Hp} {f2 : Nat} {K' : Value → Hp → Prop}, Sym A0 no G [blk bX (fle x) 43, arr fle 43 3 out L, arr fle 43 3 y M, blk bS [same] T] → f2 = firstD c kx (L.map dat) f (dat x) → f2 ≤ L.length →
    ∀ cut, Rd fle 3 G cut (L.drop f2) → (∀ I b, Fr no G I → b = decide (dat x ∈ (L.map dat).drop f2) → K' (.bool b) I) → CallF Tryz.prog 62 #[.slice cut.a cut.n cut.c, .func (.func 63) #[] #[.pointer (some ⟨bS, 0, none⟩), .pointer (some ⟨bX, 0, none⟩)]] G K' Z := fun {G f2 K'} sG ef hf2 cut hcut kk => by
   refine contains_ok (p := fun z => decide (dat x = dat z)) hcut (by rw [List.length_drop]; omega) (fun {z B K'} hz fB kk => clo_ok (x := x) (y := z) (T := 0) hw (sG.fr.trans fB) ((sG.more fB).ld (k := 3) rfl 0) (fun i => (sG.more fB).ld (k := 0) rfl i) (qM x hxm) (qL z (List.mem_of_mem_drop hz)) kk) fun B fB => kk B _ fB ?_
   rw [Bool.eq_iff_iff, List.any_eq_true, decide_eq_true_eq, ← List.map_drop, List.mem_map]
   constructor
   ·rintro ⟨z, hz, e⟩
    exact ⟨z, hz, (of_decide_eq_true e).symm⟩
   ·rintro ⟨z, hz, e⟩
    exact ⟨z, hz, decide_eq_true e.symm⟩
  refine ⟨fun h1 => ?_, fun h1 => ?_⟩
  ·have hL0 : 0 < L.length := by have := of_decide_eq_true h1; omega
   obtain ⟨z, hz, hzm⟩ := getN (show L.length - 1 < L.length by omega)
   have hlast : (L.map dat).getLast? = some (dat z) := by rw [List.getLast?_eq_getElem?, List.length_map, List.getElem?_map, hz]; rfl
   rw [wn (x := ((out.n : Nat) : Int) - 1) (n := L.length - 1) (by omega) (by omega)]
   refine atE (Sym.rd (k := 1) sF FlE (by decide) rfl) hz fun ad1 => ⟨str x.1.1.1, str x.1.1.2.1, x.1.1.2.2, ⟨sF.ld (k := 0) rfl 0, sF.ld (k := 0) rfl 1, sF.ld (k := 0) rfl 2, trivial⟩, hv (qL z hzm) (qM x hxm) sF.fr fun G fG => ⟨_, rfl, fun hne => ?_, fun heq => ?_⟩⟩
   ·have ef : L.length = firstD c kx (L.map dat) f (dat x) := by
     unfold firstD
     rw [hlast, List.length_map]
     exact (if_pos (bne_iff_ne.1 hne)).symm
    have sG := sF.more fG
    refine tailS (Sym.rd (k := 1) sG FlE (by decide) rfl) (by rw [on]) (n := L.length) (by omega) fun cut hcut => fin sG ef (by omega) cut hcut fun I b fI eb => ⟨_, rfl, fun hb => ?_, fun hb => ?_⟩
    ·have sI := sG.more fI
     have hnot : ¬ dat x ∈ (L.map dat).drop (L.length) := of_decide_eq_false (by rw [← eb]; simpa using hb)
     rw [← ef, if_neg hnot] at hstep
     refine ⟨str x.1.1.1, str x.1.1.2.1, x.1.1.2.2, ⟨sI.ld (k := 0) rfl 0, sI.ld (k := 0) rfl 1, sI.ld (k := 0) rfl 2, trivial⟩, fun b2 N hN => Sym.app1 (k := 1) (x := x) tyE sI FlE (by decide) hN rfl (by omega) fun ap O _ sO => ⟨M.length - (j + 1), by omega, j + 1, L.length, L ++ [x], (by rw [on]), wi (by omega), hj', rfl, by rw [List.length_append, List.length_singleton]; omega, ?_, by rw [List.map_append]; exact hstep, Sym.drop sO⟩⟩
     intro z hz
     rcases List.mem_append.1 hz with hz | hz
     ·exact qL z hz
     ·rw [List.mem_singleton.1 hz]; exact qM x hxm
    ·have hin2 : dat x ∈ (L.map dat).drop (L.length) := of_decide_eq_true (by rw [← eb]; simpa using hb)
     rw [← ef, if_pos hin2] at hstep
     exact ⟨M.length - (j + 1), by omega, j + 1, L.length, L, (by rw [on]), wi (by omega), hj', rfl, by omega, qL, hstep, Sym.drop (sG.more fI)⟩
   ·have ef : f = firstD c kx (L.map dat) f (dat x) := by
     unfold firstD
     rw [hlast]
     exact (if_neg (fun h => h (bne_eq_false_iff_eq.1 heq))).symm
    have sG := sF.more fG
    refine tailS (Sym.rd (k := 1) sG FlE (by decide) rfl) rfl (n := f) (by omega) fun cut hcut => fin sG ef (by omega) cut hcut fun I b fI eb => ⟨_, rfl, fun hb => ?_, fun hb => ?_⟩
    ·have sI := sG.more fI
     have hnot : ¬ dat x ∈ (L.map dat).drop (f) := of_decide_eq_false (by rw [← eb]; simpa using hb)
     rw [← ef, if_neg hnot] at hstep
     refine ⟨str x.1.1.1, str x.1.1.2.1, x.1.1.2.2, ⟨sI.ld (k := 0) rfl 0, sI.ld (k := 0) rfl 1, sI.ld (k := 0) rfl 2, trivial⟩, fun b2 N hN => Sym.app1 (k := 1) (x := x) tyE sI FlE (by decide) hN rfl (by omega) fun ap O _ sO => ⟨M.length - (j + 1), by omega, j + 1, f, L ++ [x], rfl, wi (by omega), hj', rfl, by rw [List.length_append, List.length_singleton]; omega, ?_, by rw [List.map_append]; exact hstep, Sym.drop sO⟩⟩
     intro z hz
     rcases List.mem_append.1 hz with hz | hz
     ·exact qL z hz
     ·rw [List.mem_singleton.1 hz]; exact qM x hxm
    ·have hin2 : dat x ∈ (L.map dat).drop (f) := of_decide_eq_true (by rw [← eb]; simpa using hb)
     rw [← ef, if_pos hin2] at hstep
     exact ⟨M.length - (j + 1), by omega, j + 1, f, L, rfl, wi (by omega), hj', rfl, by omega, qL, hstep, Sym.drop (sG.more fI)⟩
  ·have hL0 : L = [] := List.eq_nil_of_length_eq_zero (by have := of_decide_eq_false h1; omega)
   have ef : f = firstD c kx (L.map dat) f (dat x) := by rw [hL0]; rfl
   have fG : Fr no F F := Fr.refl _ _
   have sG := sF.more fG
   refine tailS (Sym.rd (k := 1) sG FlE (by decide) rfl) rfl (n := f) (by omega) fun cut hcut => fin sG ef (by omega) cut hcut fun I b fI eb => ⟨_, rfl, fun hb => ?_, fun hb => ?_⟩
   ·have sI := sG.more fI
    have hnot : ¬ dat x ∈ (L.map dat).drop (f) := of_decide_eq_false (by rw [← eb]; simpa using hb)
    rw [← ef, if_neg hnot] at hstep
    refine ⟨str x.1.1.1, str x.1.1.2.1, x.1.1.2.2, ⟨sI.ld (k := 0) rfl 0, sI.ld (k := 0) rfl 1, sI.ld (k := 0) rfl 2, trivial⟩, fun b2 N hN => Sym.app1 (k := 1) (x := x) tyE sI FlE (by decide) hN rfl (by omega) fun ap O _ sO => ⟨M.length - (j + 1), by omega, j + 1, f, L ++ [x], rfl, wi (by omega), hj', rfl, by rw [List.length_append, List.length_singleton]; omega, ?_, by rw [List.map_append]; exact hstep, Sym.drop sO⟩⟩
    intro z hz
    rcases List.mem_append.1 hz with hz | hz
    ·exact qL z hz
    ·rw [List.mem_singleton.1 hz]; exact qM x hxm
   ·have hin2 : dat x ∈ (L.map dat).drop (f) := of_decide_eq_true (by rw [← eb]; simpa using hb)
    rw [← ef, if_pos hin2] at hstep
    exact ⟨M.length - (j + 1), by omega, j + 1, f, L, rfl, wi (by omega), hj', rfl, by omega, qL, hstep, Sym.drop (sG.more fI)⟩
 ·have hje : j = M.length := by have := dge hge; omega
  rw [hje, List.take_length] at hD
  refine k out L D (Sym.sub sD (by simp)) (hD.done fun z => ?_) qL
  have := hp.map dat
  rw [show (tagged hs xs).map dat = xs from tagged_snd hlen] at this
  exact this.mem_iff
end
end Go.Proofs.YtjpkbenogloihaaGreatDoor.C16O
end
