import Derived.Test.YtlljjdbenocgnaaGreatDoorZ10
import Derived.Test.YtlljjdbenocgnaaGreatDoorRows
import Derived.Deep.DeepHandedRow
import Derived.Deep.DeepWitnessRef
import Derived.Lay
import Derived.Stop.LaidErr
import Derived.Lib.LaidTab
import Derived.Lib.ItoaNum
import Derived.Lib.Space
import Derived.Lib.TrailingZeros
section
/- system: the nodes and the places of a system. -/
set_option linter.unusedVariables false
set_option linter.unusedSimpArgs false
-- nodes: 9
-- places: 11
-- tSys: 26
-- tCon: 36
-- tObj: 43
-- tFn: 47
namespace Go.Proofs.YtlljjdbenocgnaaGreatDoor.C15
open Go Go.V Go.Proofs Go.Proofs.YtlljjdbenocgnaaGreatDoor.N15 Go.Proofs.YtlljjdbenocgnaaGreatDoor.P14 Go.Proofs.YtlljjdbenocgnaaGreatDoor.C14 Go.Proofs.YtlljjdbenocgnaaGreatDoor.P15
attribute [local irreducible] Cvt ExtF CallF hrun App MkS callV
theorem lf {A B : Hp} (f : Fr no A B) {ad : Addr} {v : Value} (e : hcell A ad = some v) : hcell B ad = some v := f.cell e fun h => h
theorem conN_eq (c : ConD) : conN c = ([c.a] ++ (if c.op = 1 then [] else [c.b])) ++ c.args.filter fun a => decide (a ≠ []) := by
  unfold conN
  rw [List.append_assoc]
theorem cons_le {x : SysD} (h : Right x) (j : Nat) : ((x.cons.take j).flatMap conN).length ≤ 54000 := by
  have := flat_le (f := conN) (n := 9) (l := x.cons.take j) fun c hc => by have := conN_len c; have := h.c.2 c (List.mem_of_mem_take hc); omega
  have := h.c.1
  have := List.length_take_le j x.cons
  rw [List.length_take] at *
  omega
theorem objs_le {x : SysD} (h : Right x) (j : Nat) : ((x.objs.take j).flatMap objN).length ≤ 38400 := by
  have := flat_le (f := objN) (n := 64) (l := x.objs.take j) fun c hc => by have := objN_len c; have := h.o.2 c (List.mem_of_mem_take hc); omega
  have := h.o.1
  have := List.length_take_le j x.objs
  rw [List.length_take] at *
  omega
theorem objP_len (o : ObjD) : (objP o).length = o.kinds.length := by unfold objP; rw [List.length_map, List.length_range]
theorem objsP_le {x : SysD} (h : Right x) (j : Nat) : ((x.objs.take j).flatMap objP).length ≤ 38400 := by
  have := flat_le (f := objP) (n := 64) (l := x.objs.take j) fun c hc => by have := objP_len c; have := h.o.2 c (List.mem_of_mem_take hc); omega
  have := h.o.1
  have := List.length_take_le j x.objs
  rw [List.length_take] at *
  omega
theorem consP_le {x : SysD} (h : Right x) (j : Nat) : ((x.cons.take j).flatMap conP).length ≤ 6000 := by
  have := flat_le (f := conP) (n := 1) (l := x.cons.take j) fun c hc => by unfold conP; split <;> simp
  have := h.c.1
  have := List.length_take_le j x.cons
  rw [List.length_take] at *
  omega
/-- an object's cells up to a place -/
def cellsN (o : ObjD) (q : Nat) : List L8 := (List.range q).flatMap fun (i : Nat) => if o.kinds[i]? = some 112 then [cellL o.name (i : Int)] else []
def cellsP (o : ObjD) (q : Nat) : List L8 := (List.range q).map fun (i : Nat) => cellL o.name (i : Int)
theorem cellsN_len (o : ObjD) (q : Nat) : (cellsN o q).length ≤ q := by
  have := flat_le (l := List.range q) (n := 1) (f := fun (i : Nat) => if o.kinds[i]? = some 112 then [cellL o.name (i : Int)] else []) (fun x _ => by split <;> simp)
  rw [List.length_range] at this
  unfold cellsN
  omega
theorem cellsP_len (o : ObjD) (q : Nat) : (cellsP o q).length = q := by unfold cellsP; rw [List.length_map, List.length_range]
theorem cellsP_next (o : ObjD) (q : Nat) : cellsP o (q + 1) = cellsP o q ++ [cellL o.name (q : Int)] := by
  unfold cellsP
  rw [List.range_succ, List.map_append]
  rfl
theorem cellsN_next (o : ObjD) (q : Nat) : cellsN o (q + 1) = cellsN o q ++ (if o.kinds[q]? = some 112 then [cellL o.name (q : Int)] else []) := range_snoc
section
variable {H : Hp} {K : Value → Hp → Prop} {Z : List PanicEntry → Hp → Prop} {l : L8}
abbrev sL (s1 s2 s3 : Sl) : List Value := [.slice s1.a s1.n s1.c, .slice s2.a s2.n s2.c, .slice s3.a s3.n s3.c]
abbrev sAg (s1 s2 s3 : Sl) : Value := .agg #[.slice s1.a s1.n s1.c, .slice s2.a s2.n s2.c, .slice s3.a s3.n s3.c]
theorem nodes_ok {s1 s2 s3 : Sl} {x : SysD} (h : RdSys H s1 s2 s3 x) (hx : OkSys x) (ht : Pw H) (k : ∀ s' ys H', Fr no H H' → IsN x ys → Rd flL 1 H' s' ys → K (.slice s'.a s'.n s'.c) H') : CallF Tryz.prog 9 #[sAg s1 s2 s3] H K Z := by
  refine V9_ok ?_
  unfold V9
  intro bS A hA
  have sA := (Sym.start H).newb (cs := sL s1 s2 s3) hA
  refine ⟨s1, s2, s3, ⟨sA.ld (k := 0) rfl 0, sA.ld (k := 0) rfl 1, sA.ld (k := 0) rfl 2, trivial⟩, check_ok (h.more sA.fr) hx (TabH.more ht sA.fr) fun B fB => ⟨_, rfl, fun hne => ?_, fun heq => ⟨s3, (sA.more fB).ld (k := 0) rfl 2, ?_⟩⟩⟩
  · exact k ⟨none, 0, 0⟩ [] B (sA.fr.trans fB) (.inl ⟨bne_iff_ne.1 hne, rfl⟩) Rd.nil
  have h0 := bne_eq_false_iff_eq.1 heq
  have hr := check_right h0
  have sB := sA.more fB
  have n3 := RdX.len h.c
  have n1 := RdX.len h.o
  have z3 := hr.c.1
  have z1 := hr.o.1
  refine ⟨fun l i C m => ∃ j : Nat, i = (j : Int) ∧ j ≤ x.cons.length ∧ m = x.cons.length - j ∧ AS H C l ((x.cons.take j).flatMap conN) [blk bS (sL s1 s2 s3) 26], ⟨_, 0, rfl, Nat.zero_le _, rfl, sB.nilrow _ _ _⟩, ?_⟩
  rintro l i C m ⟨j, rfl, hj, rfl, sC⟩ scr
  refine ⟨fun hlt => ?_, fun hge => ?_⟩
  · have hj' : j < x.cons.length := by have := dlt hlt; omega
    obtain ⟨y, hy, hym⟩ := getN hj'
    obtain ⟨t, hta, ix⟩ := atC h.c hy
    have hargs := hr.c.2 y hym
    have hlen := cons_le hr j
    have hsn := flat_snoc (f := conN) hy
    generalize (x.cons.take j).flatMap conN = done at sC hlen hsn
    have fC := sC.fr
    refine ix fun ad e1 e2 e3 e4 e5 e6 => ⟨_, _, _, _, _, t, ⟨lf fC e1, lf fC e2, lf fC e3, lf fC e4, lf fC e5, lf fC e6, trivial⟩, fun bC D hD => ?_⟩
    have sD := Sym.newb sC (cs := [.int .i64 0, .string ⟨#[]⟩, .string ⟨#[]⟩, .int .i64 0, .string ⟨#[]⟩, .slice none 0 0]) hD
    refine sD.stbs (k := 0) (i := 0) (vs := cL y t) rfl (by simp) (FlHC.2 (HC.of y t)) fun E sE => ?_
    replace sE : AS H E l done [blk bC (cL y t) 36, blk bS (sL s1 s2 s3) 26] := Sym.swap sE
    refine ⟨_, Sym.ld sE (k := 1) rfl 1, fun b F hF => AS.put (x := y.a) sE hF (by omega) fun l1 G sG => ?_⟩
    refine ⟨fun l' I => AS H I l' (done ++ ([y.a] ++ if y.op = 1 then [] else [y.b])) [blk bC (cL y t) 36, blk bS (sL s1 s2 s3) 26], ?_, _, Sym.ld sG (k := 1) rfl 0, fun h1 => ⟨_, Sym.ld sG (k := 1) rfl 2, fun b2 I hI => AS.put (x := y.b) sG hI (by rw [List.length_append]; simp only [List.length_singleton]; omega) fun l2 J sJ => ?_⟩, fun h1 => ?_⟩
    · rintro l' I sI scr1
      have hl2 : (done ++ ([y.a] ++ if y.op = 1 then [] else [y.b])).length ≤ 54002 := by
        rw [List.length_append, List.length_append]
        have : (if y.op = 1 then ([] : List L8) else [y.b]).length ≤ 1 := by split <;> simp
        simp only [List.length_singleton]
        omega
      rw [conN_eq, ← List.append_assoc] at hsn
      generalize (done ++ ([y.a] ++ if y.op = 1 then [] else [y.b])) = d2 at sI hl2 hsn
      have nt := hta.len
      refine ⟨t, Sym.ld sI (k := 1) rfl 5, fun l2 i J m => ∃ q : Nat, i = (q : Int) ∧ q ≤ y.args.length ∧ m = y.args.length - q ∧ AS H J l2 (d2 ++ (y.args.take q).filter fun a => decide (a ≠ [])) [blk bC (cL y t) 36, blk bS (sL s1 s2 s3) 26], ⟨_, 0, rfl, Nat.zero_le _, rfl, by rw [List.take_zero, List.filter_nil, List.append_nil]; exact sI⟩, ?_⟩
      rintro l2 i J m ⟨q, rfl, hq, rfl, sJ⟩ scr2
      refine ⟨fun hlt2 => ?_, fun hge2 => ?_⟩
      · have hq' : q < y.args.length := by have := dlt hlt2; omega
        obtain ⟨z, hz, _⟩ := getN hq'
        have hlf : ((y.args.take q).filter fun a => decide (a ≠ [])).length ≤ q := by
          have := List.length_filter_le (fun a => decide (a ≠ [])) (y.args.take q)
          rw [List.length_take] at this
          omega
        have hsn2 := filt_snoc (p := fun a => decide (a ≠ [])) hz
        refine atL (hta.more sJ.fr) hz fun ad2 g1 => ⟨_, g1, ?_⟩
        rw [str_nil, beq_str]
        refine ⟨fun hne => fun b2 L hL => AS.put (x := z) sJ hL (by rw [List.length_append]; omega) fun l3 M sM => ⟨y.args.length - (q + 1), by omega, q + 1, wi (by omega), hq', rfl, ?_⟩, fun he => ⟨y.args.length - (q + 1), by omega, q + 1, wi (by omega), hq', rfl, ?_⟩⟩
        · rw [hsn2, if_pos (decide_eq_true (notd.1.1 hne)), ← List.append_assoc]
          exact sM
        · rw [hsn2, if_neg (fun h => (of_decide_eq_true (p := z ≠ []) h) (notd.2.1 he)), List.append_nil]
          exact sJ
      · have : q = y.args.length := by have := dge hge2; omega
        rw [this, List.take_length, ← hsn] at sJ
        exact ⟨x.cons.length - (j + 1), by omega, j + 1, wi (by omega), hj', rfl, AS.drop' sJ⟩
    · rw [if_neg (bne_iff_ne.1 h1), ← List.append_assoc]
      exact sJ
    · rw [if_pos (bne_eq_false_iff_eq.1 h1), List.append_nil]
      exact sG
  have hjc : j = x.cons.length := by have := dge hge; omega
  rw [hjc, List.take_length] at sC
  have hcl := cons_le hr x.cons.length
  rw [List.take_length] at hcl
  refine ⟨s1, Sym.ld sC (k := 1) rfl 0, fun l i D m => ∃ j : Nat, i = (j : Int) ∧ j ≤ x.objs.length ∧ m = x.objs.length - j ∧ AS H D l (x.cons.flatMap conN ++ (x.objs.take j).flatMap objN) [blk bS (sL s1 s2 s3) 26], ⟨_, 0, rfl, Nat.zero_le _, rfl, by rw [List.take_zero, List.flatMap_nil, List.append_nil]; exact sC⟩, ?_⟩
  clear hj hge hjc sC
  rintro l i C m ⟨j, rfl, hj, rfl, sC⟩ scr
  have hlen := objs_le hr j
  refine ⟨fun hlt => ?_, fun hge => ?_⟩
  · have hj' : j < x.objs.length := by have := dlt hlt; omega
    obtain ⟨y, hy, hym⟩ := getN hj'
    obtain ⟨t, hta, ix⟩ := atO h.o hy
    have hkinds := hr.o.2 y hym
    have hsn := flat_snoc (f := objN) hy
    have fC := sC.fr
    have hl2 : (x.cons.flatMap conN ++ (x.objs.take j).flatMap objN).length ≤ 100000 := by rw [List.length_append]; omega
    refine ix fun ad e1 e2 e3 => ⟨_, _, t, ⟨lf fC e1, lf fC e2, lf fC e3, trivial⟩, fun bO D hD => ?_⟩
    have sD := Sym.newb sC (cs := [.string ⟨#[]⟩, .string ⟨#[]⟩, .slice none 0 0]) hD
    refine sD.stbs (k := 0) (i := 0) (vs := oL y t) rfl (by simp) (FlHO.2 (HO.of y t)) fun E sE => ?_
    replace sE : AS H E l (x.cons.flatMap conN ++ (x.objs.take j).flatMap objN) [blk bO (oL y t) 43, blk bS (sL s1 s2 s3) 26] := Sym.swap sE
    generalize hdone : x.cons.flatMap conN ++ (x.objs.take j).flatMap objN = done at sE hl2
    refine ⟨_, Sym.ld sE (k := 1) rfl 1, fun l2 i F m => ∃ q : Nat, i = (q : Int) ∧ q ≤ y.kinds.length ∧ m = y.kinds.length - q ∧ AS H F l2 (done ++ cellsN y q) [blk bO (oL y t) 43, blk bS (sL s1 s2 s3) 26], ⟨_, 0, rfl, Nat.zero_le _, rfl, by rw [show cellsN y 0 = [] from rfl, List.append_nil]; exact sE⟩, ?_⟩
    rw [str_size]
    rintro l2 i F m ⟨q, rfl, hq, rfl, sF⟩ scr2
    refine ⟨fun hlt2 => ⟨_, Sym.ld sF (k := 1) rfl 1, ?_⟩, fun hge2 => ?_⟩
    · have hq' : q < y.kinds.length := dlt hlt2
      have hz : y.kinds[q]? = some y.kinds[q] := List.getElem?_eq_getElem hq'
      generalize y.kinds[q] = z at hz
      have hnx := cellsN_next y q
      refine IxS.mk hz ⟨fun hp => ⟨_, Sym.ld sF (k := 1) rfl 0, cell_ok (hx.o.2 y hym).1 (TabH.more ht sF.fr) fun G fG => ⟨_, rfl, fun b2 L hL => AS.put (x := cellL y.name (q : Int)) (Sym.more sF fG) hL (by have := cellsN_len y q; rw [List.length_append]; omega) fun l3 M sM => ⟨y.kinds.length - (q + 1), by omega, q + 1, wi (by omega), hq', rfl, ?_⟩⟩⟩, fun hp => ⟨y.kinds.length - (q + 1), by omega, q + 1, wi (by omega), hq', rfl, ?_⟩⟩
      · have hb : z = 112 := (u8_is (n := 112) (by decide)).1 hp
        rw [hz, hb, if_pos rfl] at hnx
        rw [hnx, ← List.append_assoc]
        exact sM
      · have hb : z ≠ 112 := fun e => by subst e; cases hp
        rw [hz, if_neg (fun h => hb (Option.some_inj.1 h)), List.append_nil] at hnx
        rw [hnx]
        exact sF
    · have hqe : q = y.kinds.length := by have := dge hge2; omega
      refine ⟨x.objs.length - (j + 1), by omega, j + 1, wi (by omega), hj', rfl, ?_⟩
      rw [hsn, ← List.append_assoc, hdone]
      rw [hqe] at sF
      exact AS.drop' sF
  · have hje : j = x.objs.length := by have := dge hge; omega
    rw [hje, List.take_length] at sC hlen
    refine sortedL_ok (AS.rd' sC) (by rw [List.length_append]; omega) fun s' ys D fD hris hmem hrd => ⟨_, rfl, k s' ys D (sC.fr.trans fD) (.inr ⟨h0, hris, hmem⟩) hrd⟩
theorem places_ok {s1 s2 s3 : Sl} {x : SysD} (h : RdSys H s1 s2 s3 x) (hx : OkSys x) (ht : Pw H) (k : ∀ s' ys H', Fr no H H' → IsP x ys → Rd flL 1 H' s' ys → K (.slice s'.a s'.n s'.c) H') : CallF Tryz.prog 11 #[sAg s1 s2 s3] H K Z := by
  refine V11_ok ?_
  unfold V11
  intro bS A hA
  have sA := (Sym.start H).newb (cs := sL s1 s2 s3) hA
  refine ⟨s1, s2, s3, ⟨sA.ld (k := 0) rfl 0, sA.ld (k := 0) rfl 1, sA.ld (k := 0) rfl 2, trivial⟩, check_ok (h.more sA.fr) hx (TabH.more ht sA.fr) fun B fB => ⟨_, rfl, fun hne => ?_, fun heq => ⟨s1, (sA.more fB).ld (k := 0) rfl 0, ?_⟩⟩⟩
  · exact k ⟨none, 0, 0⟩ [] B (sA.fr.trans fB) (.inl ⟨bne_iff_ne.1 hne, rfl⟩) Rd.nil
  have h0 := bne_eq_false_iff_eq.1 heq
  have hr := check_right h0
  have sB := sA.more fB
  have n3 := RdX.len h.c
  have n2 := h.f.len
  have n1 := RdX.len h.o
  have z3 := hr.c.1
  have z2 := hr.f
  have z1 := hr.o.1
  refine ⟨fun l i D m => ∃ j : Nat, i = (j : Int) ∧ j ≤ x.objs.length ∧ m = x.objs.length - j ∧ AS H D l ((x.objs.take j).flatMap objP) [blk bS (sL s1 s2 s3) 26], ⟨_, 0, rfl, Nat.zero_le _, rfl, sB.nilrow _ _ _⟩, ?_⟩
  rintro l i C m ⟨j, rfl, hj, rfl, sC⟩ scr
  have hlen := objsP_le hr j
  refine ⟨fun hlt => ?_, fun hge => ?_⟩
  · have hj' : j < x.objs.length := by have := dlt hlt; omega
    obtain ⟨y, hy, hym⟩ := getN hj'
    obtain ⟨t, hta, ix⟩ := atO h.o hy
    have hkinds := hr.o.2 y hym
    have hsn := flat_snoc (f := objP) hy
    have fC := sC.fr
    refine ix fun ad e1 e2 e3 => ⟨_, _, t, ⟨lf fC e1, lf fC e2, lf fC e3, trivial⟩, fun bO D hD => ?_⟩
    have sD := Sym.newb sC (cs := [.string ⟨#[]⟩, .string ⟨#[]⟩, .slice none 0 0]) hD
    refine sD.stbs (k := 0) (i := 0) (vs := oL y t) rfl (by simp) (FlHO.2 (HO.of y t)) fun E sE => ?_
    replace sE : AS H E l ((x.objs.take j).flatMap objP) [blk bO (oL y t) 43, blk bS (sL s1 s2 s3) 26] := Sym.swap sE
    generalize (x.objs.take j).flatMap objP = done at sE hlen hsn
    refine ⟨_, Sym.ld sE (k := 1) rfl 1, fun l2 i F m => ∃ q : Nat, i = (q : Int) ∧ q ≤ y.kinds.length ∧ m = y.kinds.length - q ∧ AS H F l2 (done ++ cellsP y q) [blk bO (oL y t) 43, blk bS (sL s1 s2 s3) 26], ⟨_, 0, rfl, Nat.zero_le _, rfl, by rw [show cellsP y 0 = [] from rfl, List.append_nil]; exact sE⟩, ?_⟩
    rw [str_size]
    rintro l2 i F m ⟨q, rfl, hq, rfl, sF⟩ scr2
    refine ⟨fun hlt2 => ⟨_, Sym.ld sF (k := 1) rfl 0, cell_ok (hx.o.2 y hym).1 (TabH.more ht sF.fr) fun G fG => ⟨_, rfl, fun b2 L hL => AS.put (x := cellL y.name (q : Int)) (Sym.more sF fG) hL (by have := cellsP_len y q; rw [List.length_append]; omega) fun l3 M sM => ⟨y.kinds.length - (q + 1), by have := dlt hlt2; omega, q + 1, wi (by omega), dlt hlt2, rfl, ?_⟩⟩⟩, fun hge2 => ?_⟩
    · rw [cellsP_next, ← List.append_assoc]
      exact sM
    · have hqe : q = y.kinds.length := by have := dge hge2; omega
      refine ⟨x.objs.length - (j + 1), by omega, j + 1, wi (by omega), hj', rfl, ?_⟩
      rw [hsn]
      rw [hqe] at sF
      exact AS.drop' sF
  have hje : j = x.objs.length := by have := dge hge; omega
  rw [hje, List.take_length] at sC hlen
  generalize hP : x.objs.flatMap objP = P1 at sC hlen
  refine ⟨s2, Sym.ld sC (k := 1) rfl 1, fun l i D m => ∃ j : Nat, i = (j : Int) ∧ j ≤ x.fns.length ∧ m = x.fns.length - j ∧ AS H D l (P1 ++ (x.fns.take j).map (·.name)) [blk bS (sL s1 s2 s3) 26], ⟨_, 0, rfl, Nat.zero_le _, rfl, by rw [List.take_zero, List.map_nil, List.append_nil]; exact sC⟩, ?_⟩
  clear hj hge hje sC
  rintro l i C m ⟨j, rfl, hj, rfl, sC⟩ scr
  have hlf : ((x.fns.take j).map (·.name)).length = j := by rw [List.length_map, List.length_take]; omega
  refine ⟨fun hlt => ?_, fun hge => ?_⟩
  · have hj' : j < x.fns.length := by have := dlt hlt; omega
    obtain ⟨y, hy, hym⟩ := getN hj'
    have fC := sC.fr
    refine atF h.f hy fun ad e1 e2 e3 => ⟨_, _, _, ⟨lf fC e1, lf fC e2, lf fC e3, trivial⟩, fun bF D hD => ?_⟩
    have sD := Sym.newb sC (cs := [.string ⟨#[]⟩, .string ⟨#[]⟩, .string ⟨#[]⟩]) hD
    refine sD.stbs (k := 0) (i := 0) (vs := fL y) rfl (by simp) (FlF.2 y) fun E sE => ?_
    replace sE : AS H E l (P1 ++ (x.fns.take j).map (·.name)) [blk bF (fL y) 47, blk bS (sL s1 s2 s3) 26] := Sym.swap sE
    refine ⟨_, Sym.ld sE (k := 1) rfl 0, fun b2 L hL => AS.put (x := y.name) sE hL (by rw [List.length_append]; omega) fun l3 M sM => ⟨x.fns.length - (j + 1), by omega, j + 1, wi (by omega), hj', rfl, ?_⟩⟩
    rw [List.take_add_one, hy, List.map_append, ← List.append_assoc]
    exact AS.drop' sM
  have hje : j = x.fns.length := by have := dge hge; omega
  rw [hje, List.take_length] at sC hlf
  generalize hF : x.fns.map (·.name) = P2 at sC hlf
  refine ⟨s3, Sym.ld sC (k := 1) rfl 2, fun l i D m => ∃ j : Nat, i = (j : Int) ∧ j ≤ x.cons.length ∧ m = x.cons.length - j ∧ AS H D l (P1 ++ (P2 ++ (x.cons.take j).flatMap conP)) [blk bS (sL s1 s2 s3) 26], ⟨_, 0, rfl, Nat.zero_le _, rfl, by rw [List.take_zero, List.flatMap_nil, List.append_nil]; exact sC⟩, ?_⟩
  clear hj hge hje sC
  rintro l i C m ⟨j, rfl, hj, rfl, sC⟩ scr
  have hlc := consP_le hr j
  refine ⟨fun hlt => ?_, fun hge => ?_⟩
  · have hj' : j < x.cons.length := by have := dlt hlt; omega
    obtain ⟨y, hy, hym⟩ := getN hj'
    obtain ⟨t, hta, ix⟩ := atC h.c hy
    have hsn := flat_snoc (f := conP) hy
    generalize (x.cons.take j).flatMap conP = done at sC hlc hsn
    have fC := sC.fr
    refine ix fun ad e1 e2 e3 e4 e5 e6 => ⟨_, _, _, _, _, t, ⟨lf fC e1, lf fC e2, lf fC e3, lf fC e4, lf fC e5, lf fC e6, trivial⟩, fun bC D hD => ?_⟩
    have sD := Sym.newb sC (cs := [.int .i64 0, .string ⟨#[]⟩, .string ⟨#[]⟩, .int .i64 0, .string ⟨#[]⟩, .slice none 0 0]) hD
    refine sD.stbs (k := 0) (i := 0) (vs := cL y t) rfl (by simp) (FlHC.2 (HC.of y t)) fun E sE => ?_
    replace sE : AS H E l (P1 ++ (P2 ++ done)) [blk bC (cL y t) 36, blk bS (sL s1 s2 s3) 26] := Sym.swap sE
    refine ⟨_, Sym.ld sE (k := 1) rfl 0, fun h1 => ⟨_, Sym.ld sE (k := 1) rfl 2, fun b2 L hL => AS.put (x := y.b) sE hL (by rw [List.length_append, List.length_append]; omega) fun l3 M sM => ⟨x.cons.length - (j + 1), by omega, j + 1, wi (by omega), hj', rfl, ?_⟩⟩, fun h1 => ⟨x.cons.length - (j + 1), by omega, j + 1, wi (by omega), hj', rfl, ?_⟩⟩
    · rw [hsn, show conP y = [y.b] from if_pos (eqI.1 h1), ← List.append_assoc, ← List.append_assoc]
      rw [← List.append_assoc] at sM
      exact AS.drop' sM
    · rw [hsn, show conP y = [] from if_neg (neI.1 h1), List.append_nil]
      exact AS.drop' sE
  · have hje : j = x.cons.length := by have := dge hge; omega
    rw [hje, List.take_length] at sC hlc
    refine sortedL_ok (AS.rd' sC) (by rw [List.length_append, List.length_append]; omega) fun s' ys D fD hris hmem hrd => ⟨_, rfl, k s' ys D (sC.fr.trans fD) (.inr ⟨h0, hris, fun z => ?_⟩) hrd⟩
    rw [hmem]
    unfold placesL
    rw [hP, hF]
end
end Go.Proofs.YtlljjdbenocgnaaGreatDoor.C15
end

section
/- weftref15: the nodes and the places of a system. -/
set_option linter.unusedVariables false
set_option linter.unusedSimpArgs false
-- rnodes: 10
-- rplaces: 12
-- rcells: 35
-- tSys: 26
-- tCon: 36
-- tObj: 43
-- tFn: 47
namespace Go.Proofs.YtlljjdbenocgnaaGreatDoor.C15
open Go Go.V Go.Proofs Go.Proofs.YtlljjdbenocgnaaGreatDoor.N15 Go.Proofs.YtlljjdbenocgnaaGreatDoor.P14 Go.Proofs.YtlljjdbenocgnaaGreatDoor.C14 Go.Proofs.YtlljjdbenocgnaaGreatDoor.P15
attribute [local irreducible] Cvt ExtF CallF hrun App MkS callV
section
variable {H : Hp} {K : Value → Hp → Prop} {Z : List PanicEntry → Hp → Prop} {l : L8}
theorem rcells_ok {y : ObjD} {t : Sl} {kind : Int} {f : Nat → List L8} (f0 : f 0 = []) (f1 : ∀ q z, y.kinds[q]? = some z → f (q + 1) = f q ++ (if kind = 0 ∨ (z.toNat : Int) = kind then [cellL y.name (q : Int)] else [])) (f2 : ∀ q, (f q).length ≤ q)
    (h1 : y.name.length ≤ 1048576) (h2 : y.kinds.length ≤ 64) (k : ∀ s' H', Fr no H H' → Rd flL 1 H' s' (f y.kinds.length) → K (.slice s'.a s'.n s'.c) H') : CallF Tryz.prog 35 #[oA y t, .int .u8 kind] H K Z := by
  refine V35_ok ?_
  unfold V35
  intro bO A hA
  have sA := (Sym.start H).newb (cs := oL y t) hA
  refine ⟨fun l i C m => ∃ q : Nat, i = (q : Int) ∧ q ≤ y.kinds.length ∧ m = y.kinds.length - q ∧ AS H C l (f q) [blk bO (oL y t) 43], ⟨_, 0, rfl, Nat.zero_le _, rfl, by rw [f0]; exact sA.nilrow _ _ _⟩, ?_⟩
  rintro l i C m ⟨q, rfl, hq, rfl, sC⟩ scr
  have hl := f2 q
  refine ⟨_, Sym.ld sC (k := 1) rfl 1, ?_⟩
  rw [str_size]
  refine ⟨fun hlt => ?_, fun hge => ?_⟩
  · have hq' : q < y.kinds.length := dlt hlt
    have hz : y.kinds[q]? = some y.kinds[q] := List.getElem?_eq_getElem hq'
    generalize y.kinds[q] = z at hz
    have hn := f1 q z hz
    have put : ∀ {G : Hp} {b2 : Nat} {L : Hp} {ty : TypeId}, (kind = 0 ∨ (z.toNat : Int) = kind) → Fr no C G → Newb G (.cells #[.string (str (cellL y.name (q : Int)))] 9) b2 L → App Tryz.prog #[31, 31] ty L [.slice l.a l.n l.c, .slice (some ⟨b2, 0, none⟩) 1 1] fun ap M => ∃ m2, m2 < y.kinds.length - q ∧ ∃ q' : Nat, w64 ((q : Int) + 1) = (q' : Int) ∧ q' ≤ y.kinds.length ∧ m2 = y.kinds.length - q' ∧ AS H M ap (f q') [blk bO (oL y t) 43] := fun hk fG hL =>
      AS.put (x := cellL y.name (q : Int)) (Sym.more sC fG) hL (by omega) fun l3 M sM => ⟨y.kinds.length - (q + 1), by omega, q + 1, wi (by omega), hq', rfl, by rw [hn, if_pos hk]; exact sM⟩
    refine ⟨fun hk => ⟨_, Sym.ld sC (k := 1) rfl 0, rcell_ok h1 fun G fG => ⟨_, rfl, fun b2 L hL => put (.inl (eqI.1 hk)) fG hL⟩⟩, fun hk => ⟨_, Sym.ld sC (k := 1) rfl 1, IxS.mk hz ⟨fun hp => ⟨_, Sym.ld sC (k := 1) rfl 0, rcell_ok h1 fun G fG => ⟨_, rfl, fun b2 L hL => put (.inr (eqI.1 hp)) fG hL⟩⟩, fun hp => ⟨y.kinds.length - (q + 1), by omega, q + 1, wi (by omega), hq', rfl, ?_⟩⟩⟩⟩
    rw [hn, if_neg (fun h => h.elim (neI.1 hk) (neI.1 hp)), List.append_nil]
    exact sC
  · have : q = y.kinds.length := by have := dge hge; omega
    rw [this] at sC
    exact k l C sC.fr (AS.rd' sC)
theorem rcellsN_ok {y : ObjD} {t : Sl} (h1 : y.name.length ≤ 1048576) (h2 : y.kinds.length ≤ 64) (k : ∀ s' H', Fr no H H' → Rd flL 1 H' s' (objN y) → K (.slice s'.a s'.n s'.c) H') : CallF Tryz.prog 35 #[oA y t, .int .u8 112] H K Z := by
  refine rcells_ok (f := cellsN y) rfl (fun q z hz => ?_) (cellsN_len y) h1 h2 k
  rw [cellsN_next, hz]
  congr 1
  have : (some z = some (112 : UInt8)) = ((112 : Int) = 0 ∨ (z.toNat : Int) = 112) := by
    refine propext ⟨fun h => .inr ?_, fun h => ?_⟩
    · rw [Option.some_inj.1 h]; rfl
    · have h := h.resolve_left (by decide)
      rw [(u8_is (n := 112) (by decide)).1 (eqI.2 h)]
      rfl
  by_cases hc : some z = some (112 : UInt8)
  · rw [if_pos hc, if_pos (this ▸ hc)]
  · rw [if_neg hc, if_neg (fun h => hc (this ▸ h))]
theorem rcellsP_ok {y : ObjD} {t : Sl} (h1 : y.name.length ≤ 1048576) (h2 : y.kinds.length ≤ 64) (k : ∀ s' H', Fr no H H' → Rd flL 1 H' s' (objP y) → K (.slice s'.a s'.n s'.c) H') : CallF Tryz.prog 35 #[oA y t, .int .u8 0] H K Z := by
  refine rcells_ok (f := cellsP y) rfl (fun q z hz => ?_) (fun q => Nat.le_of_eq (cellsP_len y q)) h1 h2 k
  rw [cellsP_next, if_pos (.inl rfl)]
theorem rnodes_ok {s1 s2 s3 : Sl} {x : SysD} (h : RdSys H s1 s2 s3 x) (hx : OkSys x) (k : ∀ s' ys H', Fr no H H' → IsN x ys → Rd flL 1 H' s' ys → K (.slice s'.a s'.n s'.c) H') : CallF Tryz.prog 10 #[sAg s1 s2 s3] H K Z := by
  refine V10_ok ?_
  unfold V10
  intro bS A hA
  have sA := (Sym.start H).newb (cs := sL s1 s2 s3) hA
  refine ⟨s1, s2, s3, ⟨sA.ld (k := 0) rfl 0, sA.ld (k := 0) rfl 1, sA.ld (k := 0) rfl 2, trivial⟩, rcheck_ok (h.more sA.fr) hx fun B fB => ⟨_, rfl, fun hne => ?_, fun heq => ?_⟩⟩
  · exact k ⟨none, 0, 0⟩ [] B (sA.fr.trans fB) (.inl ⟨bne_iff_ne.1 hne, rfl⟩) Rd.nil
  have h0 := bne_eq_false_iff_eq.1 heq
  have hr := check_right h0
  have sB := sA.more fB
  have n3 := RdX.len h.c
  have n1 := RdX.len h.o
  have z3 := hr.c.1
  have z1 := hr.o.1
  refine ⟨fun l i C m => ∃ j : Nat, i = (j : Int) ∧ j ≤ x.cons.length ∧ m = x.cons.length - j ∧ SS H C l ((x.cons.take j).flatMap conN) [blk bS (sL s1 s2 s3) 26], ⟨_, 0, rfl, Nat.zero_le _, rfl, SS.start sB⟩, ?_⟩
  rintro l i C m ⟨j, rfl, hj, rfl, sC⟩ scr
  refine ⟨s3, sC.ld (k := 0) rfl 2, fun hlt => ⟨s3, sC.ld (k := 0) rfl 2, ?_⟩, fun hge => ?_⟩
  · have hj' : j < x.cons.length := by have := dlt hlt; omega
    obtain ⟨y, hy, hym⟩ := getN hj'
    obtain ⟨t, hta, ix⟩ := atC h.c hy
    have hargs := hr.c.2 y hym
    have hlen := cons_le hr j
    have hsn := flat_snoc (f := conN) hy
    generalize (x.cons.take j).flatMap conN = done at sC hlen hsn
    have fC := sC.fr
    refine ix fun ad e1 e2 e3 e4 e5 e6 => ⟨_, _, _, _, _, t, ⟨lf fC e1, lf fC e2, lf fC e3, lf fC e4, lf fC e5, lf fC e6, trivial⟩, fun bC D hD => ?_⟩
    have sD := sC.newb (cs := [.int .i64 0, .string ⟨#[]⟩, .string ⟨#[]⟩, .int .i64 0, .string ⟨#[]⟩, .slice none 0 0]) hD
    refine sD.stbs (i := 0) (vs := cL y t) (by simp) (FlHC.2 (HC.of y t)) fun E sE => ?_
    replace sE : SS H E l done [blk bC (cL y t) 36, blk bS (sL s1 s2 s3) 26] := sE
    refine ⟨_, sE.ld (k := 0) rfl 1, sE.into (t := y.a) (by omega) fun l1 G _ sG => ⟨_, rfl, ?_⟩⟩
    refine ⟨fun l' I => SS H I l' (done ++ ([y.a] ++ if y.op = 1 then [] else [y.b])) [blk bC (cL y t) 36, blk bS (sL s1 s2 s3) 26], ?_, _, sG.ld (k := 0) rfl 0, fun h1 => ⟨_, sG.ld (k := 0) rfl 2, sG.into (t := y.b) (by rw [List.length_append]; simp only [List.length_singleton]; omega) fun l2 J _ sJ => ⟨_, rfl, ?_⟩⟩, fun h1 => ?_⟩
    · rintro l' I sI scr1
      have hl2 : (done ++ ([y.a] ++ if y.op = 1 then [] else [y.b])).length ≤ 54002 := by
        rw [List.length_append, List.length_append]
        have : (if y.op = 1 then ([] : List L8) else [y.b]).length ≤ 1 := by split <;> simp
        simp only [List.length_singleton]
        omega
      rw [conN_eq, ← List.append_assoc] at hsn
      generalize (done ++ ([y.a] ++ if y.op = 1 then [] else [y.b])) = d2 at sI hl2 hsn
      have nt := hta.len
      refine ⟨fun l2 i J m => ∃ q : Nat, i = (q : Int) ∧ q ≤ y.args.length ∧ m = y.args.length - q ∧ SS H J l2 (d2 ++ (y.args.take q).filter fun a => decide (a ≠ [])) [blk bC (cL y t) 36, blk bS (sL s1 s2 s3) 26], ⟨_, 0, rfl, Nat.zero_le _, rfl, by rw [List.take_zero, List.filter_nil, List.append_nil]; exact sI⟩, ?_⟩
      rintro l2 i J m ⟨q, rfl, hq, rfl, sJ⟩ scr2
      refine ⟨t, sJ.ld (k := 0) rfl 5, fun hlt2 => ⟨t, sJ.ld (k := 0) rfl 5, ?_⟩, fun hge2 => ?_⟩
      · have hq' : q < y.args.length := by have := dlt hlt2; omega
        obtain ⟨z, hz, _⟩ := getN hq'
        have hlf : ((y.args.take q).filter fun a => decide (a ≠ [])).length ≤ q := by
          have := List.length_filter_le (fun a => decide (a ≠ [])) (y.args.take q)
          rw [List.length_take] at this
          omega
        have hsn2 := filt_snoc (p := fun a => decide (a ≠ [])) hz
        refine atL (hta.more sJ.fr) hz fun ad2 g1 => ⟨_, g1, ?_⟩
        rw [str_nil, beq_str]
        refine ⟨fun hne => ⟨t, sJ.ld (k := 0) rfl 5, atL (hta.more sJ.fr) hz fun ad3 g2 => ⟨_, g2, sJ.into (t := z) (by rw [List.length_append]; omega) fun l3 M _ sM => ⟨_, rfl, y.args.length - (q + 1), by omega, q + 1, wi (by omega), hq', rfl, ?_⟩⟩⟩, fun he => ⟨y.args.length - (q + 1), by omega, q + 1, wi (by omega), hq', rfl, ?_⟩⟩
        · rw [hsn2, if_pos (decide_eq_true (notd.1.1 hne)), ← List.append_assoc]
          exact sM
        · rw [hsn2, if_neg (fun h => (of_decide_eq_true (p := z ≠ []) h) (notd.2.1 he)), List.append_nil]
          exact sJ
      · have : q = y.args.length := by have := dge hge2; omega
        rw [this, List.take_length, ← hsn] at sJ
        exact ⟨x.cons.length - (j + 1), by omega, j + 1, wi (by omega), hj', rfl, sJ.drop⟩
    · rw [if_neg (bne_iff_ne.1 h1), ← List.append_assoc]
      exact sJ
    · rw [if_pos (bne_eq_false_iff_eq.1 h1), List.append_nil]
      exact sG
  have hjc : j = x.cons.length := by have := dge hge; omega
  rw [hjc, List.take_length] at sC
  have hcl := cons_le hr x.cons.length
  rw [List.take_length] at hcl
  refine ⟨fun l i D m => ∃ j : Nat, i = (j : Int) ∧ j ≤ x.objs.length ∧ m = x.objs.length - j ∧ SS H D l (x.cons.flatMap conN ++ (x.objs.take j).flatMap objN) [blk bS (sL s1 s2 s3) 26], ⟨_, 0, rfl, Nat.zero_le _, rfl, by rw [List.take_zero, List.flatMap_nil, List.append_nil]; exact sC⟩, ?_⟩
  clear hj hge hjc sC
  rintro l i C m ⟨j, rfl, hj, rfl, sC⟩ scr
  have hlen := objs_le hr j
  refine ⟨s1, sC.ld (k := 0) rfl 0, fun hlt => ⟨s1, sC.ld (k := 0) rfl 0, ?_⟩, fun hge => ?_⟩
  · have hj' : j < x.objs.length := by have := dlt hlt; omega
    obtain ⟨y, hy, hym⟩ := getN hj'
    obtain ⟨t, hta, ix⟩ := atO h.o hy
    have hkinds := hr.o.2 y hym
    have hsn := flat_snoc (f := objN) hy
    have fC := sC.fr
    have hl2 : (x.cons.flatMap conN ++ (x.objs.take j).flatMap objN).length ≤ 100000 := by rw [List.length_append]; omega
    refine ix fun ad e1 e2 e3 => ⟨_, _, t, ⟨lf fC e1, lf fC e2, lf fC e3, trivial⟩, rcellsN_ok (hx.o.2 y hym).1 hkinds fun u E fE hu => ⟨_, rfl, ?_⟩⟩
    have sE := sC.more fE
    have hon := objN_len y
    generalize hdone : x.cons.flatMap conN ++ (x.objs.take j).flatMap objN = done at sE hl2
    have fEH := sE.fr
    have nu := hu.len
    generalize hcs : objN y = cs at hu hon nu hsn
    refine ⟨fun l2 i F m => ∃ q : Nat, i = (q : Int) ∧ q ≤ cs.length ∧ m = cs.length - q ∧ Fr no E F ∧ SS H F l2 (done ++ cs.take q) [blk bS (sL s1 s2 s3) 26], ⟨_, 0, rfl, Nat.zero_le _, rfl, Fr.refl _ _, by rw [List.take_zero, List.append_nil]; exact sE⟩, ?_⟩
    rintro l2 i F m ⟨q, rfl, hq, rfl, fF, sF⟩ scr2
    refine ⟨fun hlt2 => ?_, fun hge2 => ?_⟩
    · have hq' : q < cs.length := by have := dlt hlt2; omega
      obtain ⟨z, hz, _⟩ := getN hq'
      refine atL (hu.more fF) hz fun ad2 g1 => ⟨_, g1, ?_⟩
      refine sF.into (t := z) (by rw [List.length_append, List.length_take]; omega) fun l3 M fM sM => ⟨_, rfl, cs.length - (q + 1), by omega, q + 1, wi (by omega), hq', rfl, fF.trans fM, ?_⟩
      rw [List.take_add_one, hz, ← List.append_assoc]
      exact sM
    · have hqe : q = cs.length := by have := dge hge2; omega
      refine ⟨x.objs.length - (j + 1), by omega, j + 1, wi (by omega), hj', rfl, ?_⟩
      rw [hsn, ← List.append_assoc, hdone]
      rw [hqe, List.take_length] at sF
      exact sF
  · have hje : j = x.objs.length := by have := dge hge; omega
    rw [hje, List.take_length] at sC hlen
    obtain ⟨ys, hrd, hris, hmem⟩ := sC.out
    exact k l ys C sC.fr (.inr ⟨h0, hris, hmem⟩) hrd
theorem rplaces_ok {s1 s2 s3 : Sl} {x : SysD} (h : RdSys H s1 s2 s3 x) (hx : OkSys x) (k : ∀ s' ys H', Fr no H H' → IsP x ys → Rd flL 1 H' s' ys → K (.slice s'.a s'.n s'.c) H') : CallF Tryz.prog 12 #[sAg s1 s2 s3] H K Z := by
  refine V12_ok ?_
  unfold V12
  intro bS A hA
  have sA := (Sym.start H).newb (cs := sL s1 s2 s3) hA
  refine ⟨s1, s2, s3, ⟨sA.ld (k := 0) rfl 0, sA.ld (k := 0) rfl 1, sA.ld (k := 0) rfl 2, trivial⟩, rcheck_ok (h.more sA.fr) hx fun B fB => ⟨_, rfl, fun hne => ?_, fun heq => ?_⟩⟩
  · exact k ⟨none, 0, 0⟩ [] B (sA.fr.trans fB) (.inl ⟨bne_iff_ne.1 hne, rfl⟩) Rd.nil
  have h0 := bne_eq_false_iff_eq.1 heq
  have hr := check_right h0
  have sB := sA.more fB
  have n3 := RdX.len h.c
  have n2 := h.f.len
  have n1 := RdX.len h.o
  have z3 := hr.c.1
  have z2 := hr.f
  have z1 := hr.o.1
  refine ⟨fun l i D m => ∃ j : Nat, i = (j : Int) ∧ j ≤ x.objs.length ∧ m = x.objs.length - j ∧ SS H D l ((x.objs.take j).flatMap objP) [blk bS (sL s1 s2 s3) 26], ⟨_, 0, rfl, Nat.zero_le _, rfl, SS.start sB⟩, ?_⟩
  rintro l i C m ⟨j, rfl, hj, rfl, sC⟩ scr
  have hlen := objsP_le hr j
  refine ⟨s1, sC.ld (k := 0) rfl 0, fun hlt => ⟨s1, sC.ld (k := 0) rfl 0, ?_⟩, fun hge => ?_⟩
  · have hj' : j < x.objs.length := by have := dlt hlt; omega
    obtain ⟨y, hy, hym⟩ := getN hj'
    obtain ⟨t, hta, ix⟩ := atO h.o hy
    have hkinds := hr.o.2 y hym
    have hsn := flat_snoc (f := objP) hy
    have fC := sC.fr
    refine ix fun ad e1 e2 e3 => ⟨_, _, t, ⟨lf fC e1, lf fC e2, lf fC e3, trivial⟩, rcellsP_ok (hx.o.2 y hym).1 hkinds fun u E fE hu => ⟨_, rfl, ?_⟩⟩
    have sE := sC.more fE
    have hon := objP_len y
    generalize (x.objs.take j).flatMap objP = done at sE hlen hsn
    have nu := hu.len
    generalize hcs : objP y = cs at hu hon nu hsn
    refine ⟨fun l2 i F m => ∃ q : Nat, i = (q : Int) ∧ q ≤ cs.length ∧ m = cs.length - q ∧ Fr no E F ∧ SS H F l2 (done ++ cs.take q) [blk bS (sL s1 s2 s3) 26], ⟨_, 0, rfl, Nat.zero_le _, rfl, Fr.refl _ _, by rw [List.take_zero, List.append_nil]; exact sE⟩, ?_⟩
    rintro l2 i F m ⟨q, rfl, hq, rfl, fF, sF⟩ scr2
    refine ⟨fun hlt2 => ?_, fun hge2 => ?_⟩
    · have hq' : q < cs.length := by have := dlt hlt2; omega
      obtain ⟨z, hz, _⟩ := getN hq'
      refine atL (hu.more fF) hz fun ad2 g1 => ⟨_, g1, ?_⟩
      refine sF.into (t := z) (by rw [List.length_append, List.length_take]; omega) fun l3 M fM sM => ⟨_, rfl, cs.length - (q + 1), by omega, q + 1, wi (by omega), hq', rfl, fF.trans fM, ?_⟩
      rw [List.take_add_one, hz, ← List.append_assoc]
      exact sM
    · have hqe : q = cs.length := by have := dge hge2; omega
      refine ⟨x.objs.length - (j + 1), by omega, j + 1, wi (by omega), hj', rfl, ?_⟩
      rw [hsn]
      rw [hqe, List.take_length] at sF
      exact sF
  have hje : j = x.objs.length := by have := dge hge; omega
  rw [hje, List.take_length] at sC hlen
  generalize hP : x.objs.flatMap objP = P1 at sC hlen
  refine ⟨fun l i D m => ∃ j : Nat, i = (j : Int) ∧ j ≤ x.fns.length ∧ m = x.fns.length - j ∧ SS H D l (P1 ++ (x.fns.take j).map (·.name)) [blk bS (sL s1 s2 s3) 26], ⟨_, 0, rfl, Nat.zero_le _, rfl, by rw [List.take_zero, List.map_nil, List.append_nil]; exact sC⟩, ?_⟩
  clear hj hge hje sC
  rintro l i C m ⟨j, rfl, hj, rfl, sC⟩ scr
  have hlf : ((x.fns.take j).map (·.name)).length = j := by rw [List.length_map, List.length_take]; omega
  refine ⟨s2, sC.ld (k := 0) rfl 1, fun hlt => ⟨s2, sC.ld (k := 0) rfl 1, ?_⟩, fun hge => ?_⟩
  · have hj' : j < x.fns.length := by have := dlt hlt; omega
    obtain ⟨y, hy, hym⟩ := getN hj'
    have fC := sC.fr
    refine atF h.f hy fun ad e1 e2 e3 => ⟨_, lf fC e1, sC.into (t := y.name) (by rw [List.length_append]; omega) fun l3 M fM sM => ⟨_, rfl, x.fns.length - (j + 1), by omega, j + 1, wi (by omega), hj', rfl, ?_⟩⟩
    rw [List.take_add_one, hy, List.map_append, ← List.append_assoc]
    exact sM
  have hje : j = x.fns.length := by have := dge hge; omega
  rw [hje, List.take_length] at sC hlf
  generalize hF : x.fns.map (·.name) = P2 at sC hlf
  refine ⟨fun l i D m => ∃ j : Nat, i = (j : Int) ∧ j ≤ x.cons.length ∧ m = x.cons.length - j ∧ SS H D l (P1 ++ (P2 ++ (x.cons.take j).flatMap conP)) [blk bS (sL s1 s2 s3) 26], ⟨_, 0, rfl, Nat.zero_le _, rfl, by rw [List.take_zero, List.flatMap_nil, List.append_nil]; exact sC⟩, ?_⟩
  clear hj hge hje sC
  rintro l i C m ⟨j, rfl, hj, rfl, sC⟩ scr
  have hlc := consP_le hr j
  refine ⟨s3, sC.ld (k := 0) rfl 2, fun hlt => ⟨s3, sC.ld (k := 0) rfl 2, ?_⟩, fun hge => ?_⟩
  · have hj' : j < x.cons.length := by have := dlt hlt; omega
    obtain ⟨y, hy, hym⟩ := getN hj'
    obtain ⟨t, hta, ix⟩ := atC h.c hy
    have hsn := flat_snoc (f := conP) hy
    generalize (x.cons.take j).flatMap conP = done at sC hlc hsn
    have fC := sC.fr
    refine ix fun ad e1 e2 e3 e4 e5 e6 => ⟨_, lf fC e1, fun h1 => ⟨s3, sC.ld (k := 0) rfl 2, ix fun ad2 g1 g2 g3 g4 g5 g6 => ⟨_, lf fC g3, sC.into (t := y.b) (by rw [List.length_append, List.length_append]; omega) fun l3 M fM sM => ⟨_, rfl, x.cons.length - (j + 1), by omega, j + 1, wi (by omega), hj', rfl, ?_⟩⟩⟩, fun h1 => ⟨x.cons.length - (j + 1), by omega, j + 1, wi (by omega), hj', rfl, ?_⟩⟩
    · rw [hsn, show conP y = [y.b] from if_pos (eqI.1 h1), ← List.append_assoc, ← List.append_assoc]
      rw [← List.append_assoc] at sM
      exact sM
    · rw [hsn, show conP y = [] from if_neg (neI.1 h1), List.append_nil]
      exact sC
  · have hje : j = x.cons.length := by have := dge hge; omega
    rw [hje, List.take_length] at sC hlc
    obtain ⟨ys, hrd, hris, hmem⟩ := sC.out
    refine k l ys C sC.fr (.inr ⟨h0, hris, fun z => ?_⟩) hrd
    rw [hmem]
    unfold placesL
    rw [hP, hF]
end
end Go.Proofs.YtlljjdbenocgnaaGreatDoor.C15
end

section
/- weftlaw15: what is great; the example; the law of names. -/
set_option linter.unusedVariables false
set_option linter.unusedSimpArgs false
-- great15: 5
-- sign: 18
-- works: 13
-- lawNames: 4
-- tSys: 26
-- tCon: 36
-- tObj: 43
-- tStr: 9
namespace Go.Proofs.YtlljjdbenocgnaaGreatDoor.C15
open Go Go.V Go.Proofs Go.Proofs.YtlljjdbenocgnaaGreatDoor.N15 Go.Proofs.YtlljjdbenocgnaaGreatDoor.P14 Go.Proofs.YtlljjdbenocgnaaGreatDoor.C14 Go.Proofs.YtlljjdbenocgnaaGreatDoor.P15
attribute [local irreducible] Cvt ExtF CallF hrun App MkS callV
section
variable {H : Hp} {K : Value → Hp → Prop} {Z : List PanicEntry → Hp → Prop}
theorem len8 {x : L8} (h : x.length ≤ 1048576) : ((str x).size : Int) ≤ 1048576 := by rw [str_size]; omega
theorem great15_ok {s1 s2 s3 : Sl} {x : SysD} {most : Nat} (h : RdSys H s1 s2 s3 x) (hb : OkSys x) (k : ∀ y H', Fr no H H' → (y = false → Mild most x) → K (.bool y) H') : CallF Tryz.prog 5 #[.agg #[.slice s1.a s1.n s1.c, .slice s2.a s2.n s2.c, .slice s3.a s3.n s3.c], .int .i64 (most : Int)] H K Z := by
  refine V5_ok ?_
  unfold V5
  intro bS A hA
  have sA := (Sym.start H).newb (cs := [.slice s1.a s1.n s1.c, .slice s2.a s2.n s2.c, .slice s3.a s3.n s3.c]) hA
  have l1 := h.o.len
  have l2 := h.f.len
  have l3 := h.c.len
  have b1 := hb.o.1
  have b2 := hb.f.1
  have b3 := hb.c.1
  refine ⟨fun C => C = A ∧ x.objs.length ≤ most ∧ x.fns.length ≤ most ∧ x.cons.length ≤ most, ?_, _, sA.ld (k := 0) rfl 0, fun _ => k _ _ sA.fr (fun h => by cases h), fun g1 => ⟨_, sA.ld (k := 0) rfl 1, fun _ => k _ _ sA.fr (fun h => by cases h), fun g2 => ⟨_, sA.ld (k := 0) rfl 2, fun _ => k _ _ sA.fr (fun h => by cases h), fun g3 => ⟨rfl, ?_, ?_, ?_⟩⟩⟩⟩
  rotate_left
  · have := of_decide_eq_false g1; omega
  · have := of_decide_eq_false g2; omega
  · have := of_decide_eq_false g3; omega
  rintro B0 ⟨hB0, m1, m2, m3⟩ scr
  rw [← hB0] at sA
  refine ⟨fun n i C m => ∃ j : Nat, C = B0 ∧ i = (j : Int) ∧ j ≤ x.objs.length ∧ m = x.objs.length - j ∧ 0 ≤ n ∧ n ≤ 30000 ∧ ∀ o ∈ x.objs.take j, o.marks.length ≤ 3000, ⟨_, 0, rfl, rfl, Nat.zero_le _, rfl, by omega, by omega, by simp⟩, ?_⟩
  rintro n i C m ⟨j, rfl, rfl, hj, rfl, n0, n1, hall⟩ scr1
  have hC := h.more sA.fr
  refine ⟨_, sA.ld (k := 0) rfl 0, fun hlt => ?_, fun hge => ?_⟩
  · have hj' : j < x.objs.length := by have := dlt hlt; omega
    obtain ⟨o, ho, hm⟩ := getN hj'
    obtain ⟨q1, q2, q3, q4⟩ := hb.o.2 o hm
    obtain ⟨t, ht, ix⟩ := atO hC.o ho
    have lt := ht.len
    have z1 := len8 q1
    have z2 := len8 q2
    refine ⟨_, sA.ld (k := 0) rfl 0, ix fun ad e1 e2 e3 => ⟨_, e1, _, sA.ld (k := 0) rfl 0, ix fun ad2 e1' e2' e3' => ⟨_, e2', _, sA.ld (k := 0) rfl 0, ix fun ad3 f1 f2 f3 => ⟨t, f3, ?_⟩⟩⟩⟩
    rw [wid (x := n + ((str o.name).size : Int)) (by omega) (by omega), wid (x := 10 * (t.n : Int)) (by omega) (by omega), wid (x := n + ((str o.name).size : Int) + ((str o.kinds).size : Int)) (by omega) (by omega), wid (by omega) (by omega)]
    generalize hb0 : n + ((str o.name).size : Int) + ((str o.kinds).size : Int) + 10 * (t.n : Int) = base
    have hbase : 10 * (o.marks.length : Int) ≤ base ∧ base ≤ 30000 + 12 * 1048576 := by omega
    refine ⟨fun n' i' C' m' => ∃ q : Nat, C' = C ∧ i' = (q : Int) ∧ q ≤ o.marks.length ∧ q ≤ 100 ∧ m' = o.marks.length - q ∧ base ≤ n' ∧ n' ≤ base + q * 1048576, ⟨_, 0, rfl, rfl, Nat.zero_le _, by decide, rfl, by omega, by omega⟩, ?_⟩
    rintro n' i' C' m' ⟨q, rfl, rfl, hq, hq2, rfl, p1, p2⟩ scr2
    have out : ((decide (n' > 30000)) = true → K (.bool true) C') ∧ ((decide (n' > 30000)) = false → ∃ m2, m2 < x.objs.length - j ∧ ∃ j' : Nat, C' = C' ∧ w64 ((j : Int) + 1) = (j' : Int) ∧ j' ≤ x.objs.length ∧ m2 = x.objs.length - j' ∧ 0 ≤ n' ∧ n' ≤ 30000 ∧ ∀ o ∈ x.objs.take j', o.marks.length ≤ 3000) := by
      refine ⟨fun _ => k _ _ sA.fr (fun h => by cases h), fun hn => ⟨x.objs.length - (j + 1), by omega, j + 1, rfl, wi (by omega), hj', rfl, by omega, ?_, ?_⟩⟩
      · have := of_decide_eq_false hn; omega
      · have := of_decide_eq_false hn
        exact all_snoc ho hall (by omega)
    refine ⟨_, sA.ld (k := 0) rfl 0, ix fun ad4 g1 g2 g3 => ⟨t, g3, fun hlt2 => ⟨fun h100 => ?_, fun _ => out⟩, fun _ => out⟩⟩
    have hq' : q < o.marks.length := by have := dlt hlt2; omega
    have h100' : q < 100 := by have := of_decide_eq_true h100; omega
    obtain ⟨y, hy, hym⟩ := getN hq'
    have z3 := len8 (q4 y hym)
    refine ⟨_, sA.ld (k := 0) rfl 0, ix fun ad5 g1 g2 g3 => ⟨t, g3, atM ht hy fun ad6 e5 e6 => ⟨_, e6, o.marks.length - (q + 1), by omega, q + 1, rfl, wi (by omega), hq', by omega, rfl, ?_, ?_⟩⟩⟩
    · rw [wid (by omega) (by omega)]; omega
    · rw [wid (by omega) (by omega)]; omega
  have hjl : j = x.objs.length := by have := dge hge; omega
  have hallO : ∀ o ∈ x.objs, o.marks.length ≤ 3000 := by rw [hjl, List.take_length] at hall; exact hall
  refine ⟨fun n i C' m => ∃ j : Nat, C' = C ∧ i = (j : Int) ∧ j ≤ x.fns.length ∧ m = x.fns.length - j ∧ 0 ≤ n ∧ n ≤ 30000, ⟨_, 0, rfl, rfl, Nat.zero_le _, rfl, n0, n1⟩, ?_⟩
  rintro n i C' m ⟨j, rfl, rfl, hj, rfl, n0, n1⟩ scr2
  refine ⟨_, sA.ld (k := 0) rfl 1, fun hlt => ?_, fun hge => ?_⟩
  · have hj' : j < x.fns.length := by have := dlt hlt; omega
    obtain ⟨o, ho, hm⟩ := getN hj'
    obtain ⟨q1, q2, q3⟩ := hb.f.2 o hm
    have z1 := len8 q1
    have z2 := len8 q2
    have z3 := len8 q3
    refine ⟨_, sA.ld (k := 0) rfl 1, atF hC.f ho fun ad e1 _ _ => ⟨_, e1, _, sA.ld (k := 0) rfl 1, atF hC.f ho fun ad2 _ e2 _ => ⟨_, e2, _, sA.ld (k := 0) rfl 1, atF hC.f ho fun ad3 _ _ e3 => ⟨_, e3, fun _ => k _ _ sA.fr (fun h => by cases h), fun hn => ?_⟩⟩⟩⟩
    rw [wid (x := n + ((str o.name).size : Int)) (by omega) (by omega), wid (x := n + ((str o.name).size : Int) + ((str o.kinds).size : Int)) (by omega) (by omega), wid (by omega) (by omega)] at hn ⊢
    have hn' := of_decide_eq_false hn
    exact ⟨x.fns.length - (j + 1), by omega, j + 1, rfl, wi (by omega), hj', rfl, by omega, by omega⟩
  -- the constraints
  clear hj hge hjl hall
  refine ⟨fun n i C m => ∃ j : Nat, i = (j : Int) ∧ j ≤ x.cons.length ∧ m = x.cons.length - j ∧ 0 ≤ n ∧ n ≤ 60000 ∧ Sym H no C [blk bS [.slice s1.a s1.n s1.c, .slice s2.a s2.n s2.c, .slice s3.a s3.n s3.c] 26] ∧ ∀ o ∈ x.cons.take j, o.args.length ≤ 6000, ⟨_, 0, rfl, Nat.zero_le _, rfl, n0, by omega, sA, by simp⟩, ?_⟩
  rintro n i C m ⟨j, rfl, hj, rfl, n0, n1, sC, hall⟩ scr1
  have hC := h.more sC.fr
  refine ⟨_, sC.ld (k := 0) rfl 2, fun hlt => ?_, fun hge => k _ _ sC.fr fun _ => ?_⟩
  · have hj' : j < x.cons.length := by have := dlt hlt; omega
    obtain ⟨o, ho, hm⟩ := getN hj'
    obtain ⟨q1, q2, q3, q4, q5⟩ := hb.c.2 o hm
    obtain ⟨t, ht, ix⟩ := atC hC.c ho
    have lt := ht.len
    have z1 := len8 q1
    have z2 := len8 q2
    have z3 := len8 q3
    refine ⟨_, sC.ld (k := 0) rfl 2, ix fun ad e1 e2 e3 e4 e5 e6 => ⟨_, _, _, _, _, t, ⟨e1, e2, e3, e4, e5, e6, trivial⟩, fun bC D hD => ?_⟩⟩
    have sD := (Sym.start C).newb (cs := [.int .i64 0, .string ⟨#[]⟩, .string ⟨#[]⟩, .int .i64 0, .string ⟨#[]⟩, .slice none 0 0]) hD
    refine sD.stbs (k := 0) (i := 0) (vs := [.int .i64 o.op, .string (str o.a), .string (str o.b), .int .i64 o.k, .string (str o.tag), .slice t.a t.n t.c]) rfl (by simp) (by intro v hv; exact FlHC.one (o.op, o.a, o.b, o.k, o.tag, t) v hv) fun E sE => ?_
    replace sE : Sym C no E [blk bC [.int .i64 o.op, .string (str o.a), .string (str o.b), .int .i64 o.k, .string (str o.tag), .slice t.a t.n t.c] 36] := sE
    have sE2 := sC.more sE.fr
    refine ⟨_, sE.ld (k := 0) rfl 1, _, sE.ld (k := 0) rfl 2, _, sE.ld (k := 0) rfl 4, t, sE.ld (k := 0) rfl 5, ?_⟩
    rw [wid (x := n + ((str o.a).size : Int)) (by omega) (by omega), wid (x := 10 * (t.n : Int)) (by omega) (by omega), wid (x := n + ((str o.a).size : Int) + ((str o.b).size : Int)) (by omega) (by omega), wid (x := n + ((str o.a).size : Int) + ((str o.b).size : Int) + ((str o.tag).size : Int)) (by omega) (by omega), wid (by omega) (by omega)]
    generalize hb0 : n + ((str o.a).size : Int) + ((str o.b).size : Int) + ((str o.tag).size : Int) + 10 * (t.n : Int) = base
    have hbase : 10 * (o.args.length : Int) ≤ base ∧ base ≤ 60000 + 13 * 1048576 := by omega
    refine ⟨fun n' i' C' m' => ∃ q : Nat, C' = E ∧ i' = (q : Int) ∧ q ≤ o.args.length ∧ q ≤ 100 ∧ m' = o.args.length - q ∧ base ≤ n' ∧ n' ≤ base + q * 1048576, ⟨_, 0, rfl, rfl, Nat.zero_le _, by decide, rfl, by omega, by omega⟩, ?_⟩
    rintro n' i' C' m' ⟨q, rfl, rfl, hq, hq2, rfl, p1, p2⟩ scr2
    have out : ((decide (n' > 60000)) = true → K (.bool true) C') ∧ ((decide (n' > 60000)) = false → ∃ m2, m2 < x.cons.length - j ∧ ∃ j' : Nat, w64 ((j : Int) + 1) = (j' : Int) ∧ j' ≤ x.cons.length ∧ m2 = x.cons.length - j' ∧ 0 ≤ n' ∧ n' ≤ 60000 ∧ Sym H no C' [blk bS [.slice s1.a s1.n s1.c, .slice s2.a s2.n s2.c, .slice s3.a s3.n s3.c] 26] ∧ ∀ o ∈ x.cons.take j', o.args.length ≤ 6000) := by
      refine ⟨fun _ => k _ _ sE2.fr (fun h => by cases h), fun hn => ⟨x.cons.length - (j + 1), by omega, j + 1, wi (by omega), hj', rfl, by omega, ?_, sE2, ?_⟩⟩
      · have := of_decide_eq_false hn; omega
      · have := of_decide_eq_false hn
        exact all_snoc ho hall (by omega)
    refine ⟨t, sE.ld (k := 0) rfl 5, fun hlt2 => ⟨fun h100 => ?_, fun _ => out⟩, fun _ => out⟩
    have hq' : q < o.args.length := by have := dlt hlt2; omega
    have h100' : q < 100 := by have := of_decide_eq_true h100; omega
    obtain ⟨y, hy, hym⟩ := getN hq'
    have z4 := len8 (q5 y hym)
    refine ⟨t, sE.ld (k := 0) rfl 5, atL (ht.more sE.fr) hy fun ad6 e6 => ⟨_, e6, o.args.length - (q + 1), by omega, q + 1, rfl, wi (by omega), hq', by omega, rfl, ?_, ?_⟩⟩
    · rw [wid (by omega) (by omega)]; omega
    · rw [wid (by omega) (by omega)]; omega
  · have hjl : j = x.cons.length := by have := dge hge; omega
    rw [hjl, List.take_length] at hall
    exact ⟨⟨m1, hallO⟩, m2, ⟨m3, hall⟩⟩
theorem cmpN_in (a b : Int) : cmpN a b = -1 ∨ cmpN a b = 0 ∨ cmpN a b = 1 := by
  unfold cmpN
  split
  · exact .inl rfl
  · split
    · exact .inr (.inr rfl)
    · exact .inr (.inl rfl)
theorem cmpL_in (a b : L8) : cmpL a b = -1 ∨ cmpL a b = 0 ∨ cmpL a b = 1 := by
  unfold cmpL
  split
  · exact .inl rfl
  · split
    · exact .inr (.inr rfl)
    · exact .inr (.inl rfl)
theorem cmpA_in : ∀ a b : List L8, cmpA a b = -1 ∨ cmpA a b = 0 ∨ cmpA a b = 1
  | [], [] => .inr (.inl rfl)
  | [], _ :: _ => .inl rfl
  | _ :: _, [] => .inr (.inr rfl)
  | a :: x, b :: y => by
    rw [cmpA]
    split
    · exact cmpL_in a b
    · exact cmpA_in x y
theorem orI_in {a b : Int} (ha : a = -1 ∨ a = 0 ∨ a = 1) (hb : b = -1 ∨ b = 0 ∨ b = 1) : orI a b = -1 ∨ orI a b = 0 ∨ orI a b = 1 := by
  unfold orI
  split
  · exact ha
  · exact hb
theorem cmpC_in (a b : ConD) : cmpC a b = -1 ∨ cmpC a b = 0 ∨ cmpC a b = 1 :=
  orI_in (cmpN_in _ _) (orI_in (cmpL_in _ _) (orI_in (cmpL_in _ _) (orI_in (cmpN_in _ _) (orI_in (cmpL_in _ _) (cmpA_in _ _)))))
theorem sign_ok {n : Int} (hn : n = -1 ∨ n = 0 ∨ n = 1) (k : K (.int .i64 n) H) : CallF Tryz.prog 18 #[.int .i64 n] H K Z := by
  refine V18_ok ?_
  unfold V18
  have e : (if (-1) < (if n < 1 then n else 1) then (if n < 1 then n else 1) else (-1)) = n := by
    rcases hn with rfl | rfl | rfl <;> rfl
  rw [e]
  exact k
/-! ### the example -/
def wO : ObjD := ⟨[103], [105, 112], []⟩
def wC : ConD := ⟨1, [102, 46, 112], [103, 43, 48], 0, [], []⟩
def wS : SysD := ⟨[wO], [], [wC]⟩
theorem w_check : checkE wS = 0 := by kernel_rfl
theorem w_nodes : nodesL wS = [[102, 46, 112], [103, 43, 49]] := by kernel_rfl
theorem w_places : placesL wS = [[103, 43, 48], [103, 43, 49], [103, 43, 48]] := by kernel_rfl
theorem w_isN : IsN wS [[102, 46, 112], [103, 43, 49]] := .inr ⟨w_check, by unfold Rising; decide, fun z => by rw [w_nodes]⟩
theorem w_isP : IsP wS [[103, 43, 48], [103, 43, 49]] := .inr ⟨w_check, by unfold Rising; decide, fun z => by rw [w_places]; simp only [List.mem_cons, List.not_mem_nil, or_false]; grind⟩
theorem w_ok : OkSys wS := by
  refine ⟨⟨by decide, ?_⟩, ⟨by decide, ?_⟩, ⟨by decide, ?_⟩⟩
  · intro o ho
    rw [List.mem_singleton.1 ho]
    exact ⟨by decide, by decide, by decide, by intro m hm; cases hm⟩
  · intro f hf; cases hf
  · intro c hc
    rw [List.mem_singleton.1 hc]
    exact ⟨by decide, by decide, by decide, by decide, by intro m hm; cases hm⟩
theorem rdX_lit {η χ : Type} {fl : η → List Value} {sz : Nat} {In : Hp → η → χ → Prop} {A : Hp} {s : Sl} {hs : List η} {xs : List χ} (h : Rd fl sz A s hs) (hl : hs.length = xs.length) (hin : ∀ (i : Nat) h x, hs[i]? = some h → xs[i]? = some x → In A h x) : RdX fl sz In A s xs := ⟨hs, h, hl, hin⟩
theorem works_ok (ht : Pw H) (k : ∀ H', Fr no H H' → K (.bool true) H') : CallF Tryz.prog 13 #[] H K Z := by
  refine V13_ok ?_
  unfold V13
  intro b A hA b1 B hB bS C hC
  have sA := (Sym.start H).lit (l := [HO.of wO ⟨none, 0, 0⟩]) FlHO (by decide) hA (show 1 = _ from rfl)
  have sB := sA.lit (l := [HC.of wC ⟨none, 0, 0⟩]) FlHC (by decide) hB (show 1 = _ from rfl)
  have sC := sB.newb (cs := [.slice none 0 0, .slice none 0 0, .slice none 0 0]) hC
  refine sC.stbs (k := 0) (i := 0) (vs := sL ⟨some ⟨b, 0, none⟩, 1, 1⟩ ⟨none, 0, 0⟩ ⟨some ⟨b1, 0, none⟩, 1, 1⟩) rfl (by simp) (by intro v hv; simp only [List.mem_cons, List.not_mem_nil, or_false] at hv; rcases hv with rfl | rfl | rfl <;> rfl) fun D sD => ?_
  have hrd : RdSys D ⟨some ⟨b, 0, none⟩, 1, 1⟩ ⟨none, 0, 0⟩ ⟨some ⟨b1, 0, none⟩, 1, 1⟩ wS := by
    refine ⟨rdX_lit (sD.rd (k := 2) FlHO (by decide) rfl) rfl ?_, Rd.nil, rdX_lit (sD.rd (k := 1) FlHC (by decide) rfl) rfl ?_⟩
    · intro i h x hh hx
      match i, hh, hx with
      | 0, hh, hx => rw [← Option.some_inj.1 hh, ← Option.some_inj.1 hx]; exact ⟨rfl, Rd.nil⟩
      | i + 1, hh, hx => cases hx
    · intro i h x hh hx
      match i, hh, hx with
      | 0, hh, hx => rw [← Option.some_inj.1 hh, ← Option.some_inj.1 hx]; exact ⟨rfl, Rd.nil⟩
      | i + 1, hh, hx => cases hx
  replace sD : Sym H no D [blk bS (sL ⟨some ⟨b, 0, none⟩, 1, 1⟩ ⟨none, 0, 0⟩ ⟨some ⟨b1, 0, none⟩, 1, 1⟩) 26, _, _] := sD
  have g : ∀ {E : Hp}, Fr no D E → ∀ i, hcell E ⟨bS, i, none⟩ = (sL ⟨some ⟨b, 0, none⟩, 1, 1⟩ ⟨none, 0, 0⟩ ⟨some ⟨b1, 0, none⟩, 1, 1⟩)[i]? := fun fE i => (sD.more fE).ld (k := 0) rfl i
  have hp : ∀ {E}, Fr no D E → Pw E := fun fE => TabH.more ht (sD.fr.trans fE)
  refine ⟨_, _, _, ⟨g (Fr.refl _ _) 0, g (Fr.refl _ _) 1, g (Fr.refl _ _) 2, trivial⟩, check_ok hrd w_ok (hp (Fr.refl _ _)) fun E fE => ⟨_, rfl, fun _ => ⟨_, _, _, ⟨g fE 0, g fE 1, g fE 2, trivial⟩, nodes_ok (hrd.more fE) w_ok (hp fE) fun s ys F fF hN hy => ⟨s, rfl, fun b2 G hG => ?_⟩⟩, fun h => ?_⟩⟩
  · have fEF := fE.trans fF
    have eN := hN.uniq w_isN
    have sG := (Sym.start F).lit (l := [[102, 46, 112], [103, 43, 49]]) FlL (by decide) hG (show 2 = _ from rfl)
    have fG := fEF.trans sG.fr
    rw [eN] at hy
    refine sameT_ok (b := ⟨some ⟨b2, 0, none⟩, 2, 2⟩) (hy.more sG.fr) (sG.rd (k := 0) FlL (by decide) rfl) (by decide) ⟨_, rfl, fun _ => ⟨_, _, _, ⟨g fG 0, g fG 1, g fG 2, trivial⟩, places_ok (hrd.more fG) w_ok (hp fG) fun s' zs I fI hP hz => ⟨s', rfl, fun b3 J hJ => ?_⟩⟩, (fun h => by cases h)⟩
    have eP := hP.uniq w_isP
    have sJ := (Sym.start I).lit (l := [[103, 43, 48], [103, 43, 49]]) FlL (by decide) hJ (show 2 = _ from rfl)
    rw [eP] at hz
    exact sameT_ok (b := ⟨some ⟨b3, 0, none⟩, 2, 2⟩) (hz.more sJ.fr) (sJ.rd (k := 0) FlL (by decide) rfl) (by decide) ⟨_, rfl, k J (sD.fr.trans (fG.trans (fI.trans sJ.fr)))⟩
  · rw [w_check] at h
    cases h
/-! ### the law of names -/
theorem bself (a : Bool) : (a == a) = true := by cases a <;> rfl
theorem names_law {s : L8} {x y : ConD} {tx ty : Sl} (hs : s.length ≤ 1048576) (h1 : Rd flL 1 H tx x.args) (h2 : Rd flL 1 H ty y.args) (hx : okC x) (hy : okC y) (ht : Pw H) (k : ∀ H', Fr no H H' → K (.bool true) H') :
    CallF Tryz.prog 4 #[.string (str s), cA x tx, cA y ty] H K Z := by
  refine V4_ok ?_
  unfold V4
  intro bA A hA bB B hB
  have sB := ((Sym.start H).newb (cs := cL x tx) hA).newb (cs := cL y ty) hB
  have a : ∀ {E : Hp}, Fr no B E → ∀ i, hcell E ⟨bA, i, none⟩ = (cL x tx)[i]? := fun fE i => (sB.more fE).ld (k := 1) rfl i
  have b : ∀ {E : Hp}, Fr no B E → ∀ i, hcell E ⟨bB, i, none⟩ = (cL y ty)[i]? := fun fE i => (sB.more fE).ld (k := 0) rfl i
  have hp : ∀ {E}, Fr no B E → Pw E := fun fE => TabH.more ht (sB.fr.trans fE)
  have r : Fr no B B := Fr.refl _ _
  refine ⟨fun E => Fr no B E, ?_, fun _ => k _ sB.fr, fun _ => ⟨_, _, _, _, _, tx, ⟨a r 0, a r 1, a r 2, a r 3, a r 4, a r 5, trivial⟩, _, _, _, _, _, ty, ⟨b r 0, b r 1, b r 2, b r 3, b r 4, b r 5, trivial⟩, fun bl C hC => ?_⟩⟩
  · rintro E fE scr
    refine node_ok hs (hp fE) fun F fF => ⟨_, rfl, rnode_ok hs fun G fG => ⟨_, rfl, fun _ => ?_, fun h => (by rw [bself] at h; cases h)⟩⟩
    have f1 := fE.trans (fF.trans fG)
    refine place_ok hs (hp f1) fun I fI => ⟨_, rfl, rplace_ok hs fun J fJ => ⟨_, rfl, fun _ => ?_, fun h => (by rw [bself] at h; cases h)⟩⟩
    have f2 := f1.trans (fI.trans fJ)
    have f2H := sB.fr.trans f2
    refine ⟨_, _, _, _, _, tx, ⟨a f2 0, a f2 1, a f2 2, a f2 3, a f2 4, a f2 5, trivial⟩, _, _, _, _, _, ty, ⟨b f2 0, b f2 1, b f2 2, b f2 3, b f2 4, b f2 5, trivial⟩, _, _, _, _, _, tx, ⟨a f2 0, a f2 1, a f2 2, a f2 3, a f2 4, a f2 5, trivial⟩, _, _, _, _, _, ty, ⟨b f2 0, b f2 1, b f2 2, b f2 3, b f2 4, b f2 5, trivial⟩, ?_⟩
    refine cmpC_ok (h1.more f2H) (h2.more f2H) hx.2.2.2.1 fun L fL => ⟨_, rfl, ⟨b (f2.trans fL) 0, b (f2.trans fL) 1, b (f2.trans fL) 2, b (f2.trans fL) 3, b (f2.trans fL) 4, b (f2.trans fL) 5, trivial⟩, ⟨a (f2.trans fL) 0, a (f2.trans fL) 1, a (f2.trans fL) 2, a (f2.trans fL) 3, a (f2.trans fL) 4, a (f2.trans fL) 5, trivial⟩, sign_ok (cmpC_in x y) ⟨_, rfl, ⟨b (f2.trans fL) 0, b (f2.trans fL) 1, b (f2.trans fL) 2, b (f2.trans fL) 3, b (f2.trans fL) 4, b (f2.trans fL) 5, trivial⟩, ⟨a (f2.trans fL) 0, a (f2.trans fL) 1, a (f2.trans fL) 2, a (f2.trans fL) 3, a (f2.trans fL) 4, a (f2.trans fL) 5, trivial⟩, ?_⟩⟩
    have f3 := f2.trans fL
    have f3H := sB.fr.trans f3
    refine cmp15_ok (h1.more f3H) (h2.more f3H) hx.2.2.2.1 fun M fM => ⟨_, rfl, fun _ => ?_, fun h => (by rw [beq_self_eq_true] at h; cases h)⟩
    have f4 := f3.trans fM
    have f4H := sB.fr.trans f4
    refine ⟨_, _, _, _, _, tx, ⟨a f4 0, a f4 1, a f4 2, a f4 3, a f4 4, a f4 5, trivial⟩, _, _, _, _, _, tx, ⟨a f4 0, a f4 1, a f4 2, a f4 3, a f4 4, a f4 5, trivial⟩, cmpC_ok (h1.more f4H) (h1.more f4H) hx.2.2.2.1 fun N fN => ⟨_, rfl, fun _ => ?_, fun h => ?_⟩⟩
    · exact works_ok (hp (f4.trans fN)) fun O fO => ⟨_, rfl, k O (sB.fr.trans (f4.trans (fN.trans fO)))⟩
    · rw [cmpC_self] at h
      cases h
  · have sC := (Sym.start B).lit (l := [HC.of x tx, HC.of y ty]) FlHC (by decide) hC (show 2 = _ from rfl)
    have fC := sC.fr
    have fCH := sB.fr.trans fC
    have hrd : RdSys C ⟨none, 0, 0⟩ ⟨none, 0, 0⟩ ⟨some ⟨bl, 0, none⟩, 2, 2⟩ ⟨[], [], [x, y]⟩ := by
      refine ⟨RdX.nil, Rd.nil, rdX_lit (sC.rd (k := 0) FlHC (by decide) rfl) rfl ?_⟩
      intro i h z hh hz
      match i, hh, hz with
      | 0, hh, hz => rw [← Option.some_inj.1 hh, ← Option.some_inj.1 hz]; exact ⟨rfl, h1.more fCH⟩
      | 1, hh, hz => rw [← Option.some_inj.1 hh, ← Option.some_inj.1 hz]; exact ⟨rfl, h2.more fCH⟩
      | i + 2, hh, hz => cases hz
    have hok : OkSys ⟨[], [], [x, y]⟩ := by
      refine ⟨⟨by simp, by simp⟩, ⟨by simp, by simp⟩, ⟨by simp, ?_⟩⟩
      intro c hc
      simp only [List.mem_cons, List.not_mem_nil, or_false] at hc
      rcases hc with rfl | rfl
      · exact hx
      · exact hy
    exact great15_ok (s1 := ⟨none, 0, 0⟩) (s2 := ⟨none, 0, 0⟩) (s3 := ⟨some ⟨bl, 0, none⟩, 2, 2⟩) (most := 2) hrd hok fun z D fD _ => ⟨_, rfl, fun _ => k _ (sB.fr.trans (fC.trans fD)), fun _ => fC.trans fD⟩
end
end Go.Proofs.YtlljjdbenocgnaaGreatDoor.C15
end

section
/- weftlaw15: the law of checks; both laws over opened arguments. -/
set_option linter.unusedVariables false
set_option linter.unusedSimpArgs false
-- lawChecks: 3
-- lawNames: 4
-- tSys: 26
namespace Go.Proofs.YtlljjdbenocgnaaGreatDoor.C15
open Go Go.V Go.Proofs Go.Proofs.YtlljjdbenocgnaaGreatDoor.N15 Go.Proofs.YtlljjdbenocgnaaGreatDoor.P14 Go.Proofs.YtlljjdbenocgnaaGreatDoor.C14 Go.Proofs.YtlljjdbenocgnaaGreatDoor.P15
attribute [local irreducible] Cvt ExtF CallF hrun App MkS callV
theorem IsN.len {x : SysD} {ys : List L8} (h : IsN x ys) : ys.length ≤ 1000000000 := by
  rcases h with ⟨_, rfl⟩ | ⟨h0, hr, hm⟩
  · decide
  · have hR := check_right h0
    have := rising_len hr hm
    have a := cons_le hR x.cons.length
    have b := objs_le hR x.objs.length
    rw [List.take_length] at a b
    unfold nodesL at this
    rw [List.length_append] at this
    omega
theorem IsP.len {x : SysD} {ys : List L8} (h : IsP x ys) : ys.length ≤ 1000000000 := by
  rcases h with ⟨_, rfl⟩ | ⟨h0, hr, hm⟩
  · decide
  · have hR := check_right h0
    have := rising_len hr hm
    have a := consP_le hR x.cons.length
    have b := objsP_le hR x.objs.length
    have c := hR.f
    rw [List.take_length] at a b
    unfold placesL at this
    rw [List.length_append, List.length_append, List.length_map] at this
    omega
section
variable {H : Hp} {K : Value → Hp → Prop} {Z : List PanicEntry → Hp → Prop}
theorem checks_law {s1 s2 s3 : Sl} {x : SysD} (h : RdSys H s1 s2 s3 x) (hx : OkSys x) (ht : Pw H) (k : ∀ H', Fr no H H' → K (.bool true) H') : CallF Tryz.prog 3 #[sAg s1 s2 s3] H K Z := by
  refine V3_ok ?_
  unfold V3
  intro bS A hA
  have sA := (Sym.start H).newb (cs := sL s1 s2 s3) hA
  have g : ∀ {E : Hp}, Fr no A E → ∀ i, hcell E ⟨bS, i, none⟩ = (sL s1 s2 s3)[i]? := fun fE i => (sA.more fE).ld (k := 0) rfl i
  have hp : ∀ {E}, Fr no A E → Pw E := fun fE => TabH.more ht (sA.fr.trans fE)
  have hh : ∀ {E}, Fr no A E → RdSys E s1 s2 s3 x := fun fE => h.more (sA.fr.trans fE)
  have r : Fr no A A := Fr.refl _ _
  refine ⟨s1, s2, s3, ⟨g r 0, g r 1, g r 2, trivial⟩, great15_ok (most := 200) (hh r) hx fun y B fB _ => ⟨_, rfl, fun _ => ?_, fun _ => ?_⟩⟩
  · have t := k B (sA.fr.trans fB)
    exact ⟨⟨⟨t, t⟩, ⟨t, t⟩⟩, ⟨⟨t, t⟩, ⟨t, t⟩⟩⟩
  · exact ⟨_, _, _, ⟨g fB 0, g fB 1, g fB 2, trivial⟩, ⟨check_ok (hh fB) hx (hp fB) fun C fC => ⟨_, rfl, _, _, _, ⟨g (fB.trans fC) 0, g (fB.trans fC) 1, g (fB.trans fC) 2, trivial⟩, rcheck_ok (hh (fB.trans fC)) hx fun D fD => ⟨_, rfl, fun _ => ⟨_, _, _, ⟨g ((fB.trans fC).trans fD) 0, g ((fB.trans fC).trans fD) 1, g ((fB.trans fC).trans fD) 2, trivial⟩, ⟨nodes_ok (hh ((fB.trans fC).trans fD)) hx (hp ((fB.trans fC).trans fD)) fun u1 ys1 F1 fF1 hP1 hy1 => ⟨u1, rfl, _, _, _, ⟨g (((fB.trans fC).trans fD).trans fF1) 0, g (((fB.trans fC).trans fD).trans fF1) 1, g (((fB.trans fC).trans fD).trans fF1) 2, trivial⟩, rnodes_ok (hh (((fB.trans fC).trans fD).trans fF1)) hx fun v1 zs1 G1 fG1 hQ1 hz1 => ⟨v1, rfl, sameT_ok (hy1.more fG1) (by rw [hP1.uniq hQ1]; exact hz1) hP1.len ⟨_, rfl, fun _ => ⟨_, _, _, ⟨g ((((fB.trans fC).trans fD).trans fF1).trans fG1) 0, g ((((fB.trans fC).trans fD).trans fF1).trans fG1) 1, g ((((fB.trans fC).trans fD).trans fF1).trans fG1) 2, trivial⟩, ⟨places_ok (hh ((((fB.trans fC).trans fD).trans fF1).trans fG1)) hx (hp ((((fB.trans fC).trans fD).trans fF1).trans fG1)) fun u2 ys2 F2 fF2 hP2 hy2 => ⟨u2, rfl, _, _, _, ⟨g (((((fB.trans fC).trans fD).trans fF1).trans fG1).trans fF2) 0, g (((((fB.trans fC).trans fD).trans fF1).trans fG1).trans fF2) 1, g (((((fB.trans fC).trans fD).trans fF1).trans fG1).trans fF2) 2, trivial⟩, rplaces_ok (hh (((((fB.trans fC).trans fD).trans fF1).trans fG1).trans fF2)) hx fun v2 zs2 G2 fG2 hQ2 hz2 => ⟨v2, rfl, sameT_ok (hy2.more fG2) (by rw [hP2.uniq hQ2]; exact hz2) hP2.len ⟨_, rfl, fun _ => works_ok (hp (((((((fB.trans fC).trans fD).trans fF1).trans fG1).trans fF2).trans fG2))) fun E fE => ⟨_, rfl, k E (sA.fr.trans (Fr.trans (((((((fB.trans fC).trans fD).trans fF1).trans fG1).trans fF2).trans fG2)) fE))⟩, (fun h => by cases h)⟩⟩⟩, ⟨_, _, _, ⟨g ((((fB.trans fC).trans fD).trans fF1).trans fG1) 0, g ((((fB.trans fC).trans fD).trans fF1).trans fG1) 1, g ((((fB.trans fC).trans fD).trans fF1).trans fG1) 2, trivial⟩, places_ok (hh ((((fB.trans fC).trans fD).trans fF1).trans fG1)) hx (hp ((((fB.trans fC).trans fD).trans fF1).trans fG1)) fun u2 ys2 F2 fF2 hP2 hy2 => ⟨u2, rfl, rplaces_ok (hh (((((fB.trans fC).trans fD).trans fF1).trans fG1).trans fF2)) hx fun v2 zs2 G2 fG2 hQ2 hz2 => ⟨v2, rfl, sameT_ok (hy2.more fG2) (by rw [hP2.uniq hQ2]; exact hz2) hP2.len ⟨_, rfl, fun _ => works_ok (hp (((((((fB.trans fC).trans fD).trans fF1).trans fG1).trans fF2).trans fG2))) fun E fE => ⟨_, rfl, k E (sA.fr.trans (Fr.trans (((((((fB.trans fC).trans fD).trans fF1).trans fG1).trans fF2).trans fG2)) fE))⟩, (fun h => by cases h)⟩⟩⟩⟩⟩⟩, (fun h => by cases h)⟩⟩⟩, ⟨_, _, _, ⟨g ((fB.trans fC).trans fD) 0, g ((fB.trans fC).trans fD) 1, g ((fB.trans fC).trans fD) 2, trivial⟩, nodes_ok (hh ((fB.trans fC).trans fD)) hx (hp ((fB.trans fC).trans fD)) fun u1 ys1 F1 fF1 hP1 hy1 => ⟨u1, rfl, rnodes_ok (hh (((fB.trans fC).trans fD).trans fF1)) hx fun v1 zs1 G1 fG1 hQ1 hz1 => ⟨v1, rfl, sameT_ok (hy1.more fG1) (by rw [hP1.uniq hQ1]; exact hz1) hP1.len ⟨_, rfl, fun _ => ⟨_, _, _, ⟨g ((((fB.trans fC).trans fD).trans fF1).trans fG1) 0, g ((((fB.trans fC).trans fD).trans fF1).trans fG1) 1, g ((((fB.trans fC).trans fD).trans fF1).trans fG1) 2, trivial⟩, ⟨places_ok (hh ((((fB.trans fC).trans fD).trans fF1).trans fG1)) hx (hp ((((fB.trans fC).trans fD).trans fF1).trans fG1)) fun u2 ys2 F2 fF2 hP2 hy2 => ⟨u2, rfl, _, _, _, ⟨g (((((fB.trans fC).trans fD).trans fF1).trans fG1).trans fF2) 0, g (((((fB.trans fC).trans fD).trans fF1).trans fG1).trans fF2) 1, g (((((fB.trans fC).trans fD).trans fF1).trans fG1).trans fF2) 2, trivial⟩, rplaces_ok (hh (((((fB.trans fC).trans fD).trans fF1).trans fG1).trans fF2)) hx fun v2 zs2 G2 fG2 hQ2 hz2 => ⟨v2, rfl, sameT_ok (hy2.more fG2) (by rw [hP2.uniq hQ2]; exact hz2) hP2.len ⟨_, rfl, fun _ => works_ok (hp (((((((fB.trans fC).trans fD).trans fF1).trans fG1).trans fF2).trans fG2))) fun E fE => ⟨_, rfl, k E (sA.fr.trans (Fr.trans (((((((fB.trans fC).trans fD).trans fF1).trans fG1).trans fF2).trans fG2)) fE))⟩, (fun h => by cases h)⟩⟩⟩, ⟨_, _, _, ⟨g ((((fB.trans fC).trans fD).trans fF1).trans fG1) 0, g ((((fB.trans fC).trans fD).trans fF1).trans fG1) 1, g ((((fB.trans fC).trans fD).trans fF1).trans fG1) 2, trivial⟩, places_ok (hh ((((fB.trans fC).trans fD).trans fF1).trans fG1)) hx (hp ((((fB.trans fC).trans fD).trans fF1).trans fG1)) fun u2 ys2 F2 fF2 hP2 hy2 => ⟨u2, rfl, rplaces_ok (hh (((((fB.trans fC).trans fD).trans fF1).trans fG1).trans fF2)) hx fun v2 zs2 G2 fG2 hQ2 hz2 => ⟨v2, rfl, sameT_ok (hy2.more fG2) (by rw [hP2.uniq hQ2]; exact hz2) hP2.len ⟨_, rfl, fun _ => works_ok (hp (((((((fB.trans fC).trans fD).trans fF1).trans fG1).trans fF2).trans fG2))) fun E fE => ⟨_, rfl, k E (sA.fr.trans (Fr.trans (((((((fB.trans fC).trans fD).trans fF1).trans fG1).trans fF2).trans fG2)) fE))⟩, (fun h => by cases h)⟩⟩⟩⟩⟩⟩, (fun h => by cases h)⟩⟩⟩⟩⟩⟩, (fun h => by rw [beq_self_eq_true] at h; cases h)⟩⟩, ⟨_, _, _, ⟨g fB 0, g fB 1, g fB 2, trivial⟩, check_ok (hh fB) hx (hp fB) fun C fC => ⟨_, rfl, rcheck_ok (hh (fB.trans fC)) hx fun D fD => ⟨_, rfl, fun _ => ⟨_, _, _, ⟨g ((fB.trans fC).trans fD) 0, g ((fB.trans fC).trans fD) 1, g ((fB.trans fC).trans fD) 2, trivial⟩, ⟨nodes_ok (hh ((fB.trans fC).trans fD)) hx (hp ((fB.trans fC).trans fD)) fun u1 ys1 F1 fF1 hP1 hy1 => ⟨u1, rfl, _, _, _, ⟨g (((fB.trans fC).trans fD).trans fF1) 0, g (((fB.trans fC).trans fD).trans fF1) 1, g (((fB.trans fC).trans fD).trans fF1) 2, trivial⟩, rnodes_ok (hh (((fB.trans fC).trans fD).trans fF1)) hx fun v1 zs1 G1 fG1 hQ1 hz1 => ⟨v1, rfl, sameT_ok (hy1.more fG1) (by rw [hP1.uniq hQ1]; exact hz1) hP1.len ⟨_, rfl, fun _ => ⟨_, _, _, ⟨g ((((fB.trans fC).trans fD).trans fF1).trans fG1) 0, g ((((fB.trans fC).trans fD).trans fF1).trans fG1) 1, g ((((fB.trans fC).trans fD).trans fF1).trans fG1) 2, trivial⟩, ⟨places_ok (hh ((((fB.trans fC).trans fD).trans fF1).trans fG1)) hx (hp ((((fB.trans fC).trans fD).trans fF1).trans fG1)) fun u2 ys2 F2 fF2 hP2 hy2 => ⟨u2, rfl, _, _, _, ⟨g (((((fB.trans fC).trans fD).trans fF1).trans fG1).trans fF2) 0, g (((((fB.trans fC).trans fD).trans fF1).trans fG1).trans fF2) 1, g (((((fB.trans fC).trans fD).trans fF1).trans fG1).trans fF2) 2, trivial⟩, rplaces_ok (hh (((((fB.trans fC).trans fD).trans fF1).trans fG1).trans fF2)) hx fun v2 zs2 G2 fG2 hQ2 hz2 => ⟨v2, rfl, sameT_ok (hy2.more fG2) (by rw [hP2.uniq hQ2]; exact hz2) hP2.len ⟨_, rfl, fun _ => works_ok (hp (((((((fB.trans fC).trans fD).trans fF1).trans fG1).trans fF2).trans fG2))) fun E fE => ⟨_, rfl, k E (sA.fr.trans (Fr.trans (((((((fB.trans fC).trans fD).trans fF1).trans fG1).trans fF2).trans fG2)) fE))⟩, (fun h => by cases h)⟩⟩⟩, ⟨_, _, _, ⟨g ((((fB.trans fC).trans fD).trans fF1).trans fG1) 0, g ((((fB.trans fC).trans fD).trans fF1).trans fG1) 1, g ((((fB.trans fC).trans fD).trans fF1).trans fG1) 2, trivial⟩, places_ok (hh ((((fB.trans fC).trans fD).trans fF1).trans fG1)) hx (hp ((((fB.trans fC).trans fD).trans fF1).trans fG1)) fun u2 ys2 F2 fF2 hP2 hy2 => ⟨u2, rfl, rplaces_ok (hh (((((fB.trans fC).trans fD).trans fF1).trans fG1).trans fF2)) hx fun v2 zs2 G2 fG2 hQ2 hz2 => ⟨v2, rfl, sameT_ok (hy2.more fG2) (by rw [hP2.uniq hQ2]; exact hz2) hP2.len ⟨_, rfl, fun _ => works_ok (hp (((((((fB.trans fC).trans fD).trans fF1).trans fG1).trans fF2).trans fG2))) fun E fE => ⟨_, rfl, k E (sA.fr.trans (Fr.trans (((((((fB.trans fC).trans fD).trans fF1).trans fG1).trans fF2).trans fG2)) fE))⟩, (fun h => by cases h)⟩⟩⟩⟩⟩⟩, (fun h => by cases h)⟩⟩⟩, ⟨_, _, _, ⟨g ((fB.trans fC).trans fD) 0, g ((fB.trans fC).trans fD) 1, g ((fB.trans fC).trans fD) 2, trivial⟩, nodes_ok (hh ((fB.trans fC).trans fD)) hx (hp ((fB.trans fC).trans fD)) fun u1 ys1 F1 fF1 hP1 hy1 => ⟨u1, rfl, rnodes_ok (hh (((fB.trans fC).trans fD).trans fF1)) hx fun v1 zs1 G1 fG1 hQ1 hz1 => ⟨v1, rfl, sameT_ok (hy1.more fG1) (by rw [hP1.uniq hQ1]; exact hz1) hP1.len ⟨_, rfl, fun _ => ⟨_, _, _, ⟨g ((((fB.trans fC).trans fD).trans fF1).trans fG1) 0, g ((((fB.trans fC).trans fD).trans fF1).trans fG1) 1, g ((((fB.trans fC).trans fD).trans fF1).trans fG1) 2, trivial⟩, ⟨places_ok (hh ((((fB.trans fC).trans fD).trans fF1).trans fG1)) hx (hp ((((fB.trans fC).trans fD).trans fF1).trans fG1)) fun u2 ys2 F2 fF2 hP2 hy2 => ⟨u2, rfl, _, _, _, ⟨g (((((fB.trans fC).trans fD).trans fF1).trans fG1).trans fF2) 0, g (((((fB.trans fC).trans fD).trans fF1).trans fG1).trans fF2) 1, g (((((fB.trans fC).trans fD).trans fF1).trans fG1).trans fF2) 2, trivial⟩, rplaces_ok (hh (((((fB.trans fC).trans fD).trans fF1).trans fG1).trans fF2)) hx fun v2 zs2 G2 fG2 hQ2 hz2 => ⟨v2, rfl, sameT_ok (hy2.more fG2) (by rw [hP2.uniq hQ2]; exact hz2) hP2.len ⟨_, rfl, fun _ => works_ok (hp (((((((fB.trans fC).trans fD).trans fF1).trans fG1).trans fF2).trans fG2))) fun E fE => ⟨_, rfl, k E (sA.fr.trans (Fr.trans (((((((fB.trans fC).trans fD).trans fF1).trans fG1).trans fF2).trans fG2)) fE))⟩, (fun h => by cases h)⟩⟩⟩, ⟨_, _, _, ⟨g ((((fB.trans fC).trans fD).trans fF1).trans fG1) 0, g ((((fB.trans fC).trans fD).trans fF1).trans fG1) 1, g ((((fB.trans fC).trans fD).trans fF1).trans fG1) 2, trivial⟩, places_ok (hh ((((fB.trans fC).trans fD).trans fF1).trans fG1)) hx (hp ((((fB.trans fC).trans fD).trans fF1).trans fG1)) fun u2 ys2 F2 fF2 hP2 hy2 => ⟨u2, rfl, rplaces_ok (hh (((((fB.trans fC).trans fD).trans fF1).trans fG1).trans fF2)) hx fun v2 zs2 G2 fG2 hQ2 hz2 => ⟨v2, rfl, sameT_ok (hy2.more fG2) (by rw [hP2.uniq hQ2]; exact hz2) hP2.len ⟨_, rfl, fun _ => works_ok (hp (((((((fB.trans fC).trans fD).trans fF1).trans fG1).trans fF2).trans fG2))) fun E fE => ⟨_, rfl, k E (sA.fr.trans (Fr.trans (((((((fB.trans fC).trans fD).trans fF1).trans fG1).trans fF2).trans fG2)) fE))⟩, (fun h => by cases h)⟩⟩⟩⟩⟩⟩, (fun h => by cases h)⟩⟩⟩⟩⟩⟩, (fun h => by rw [beq_self_eq_true] at h; cases h)⟩⟩⟩⟩⟩
abbrev Pr (H : Hp) : Prop := Pw H
abbrev Sys (H : Hp) (a : SysD × Sl × Sl × Sl) : Prop := RdSys H a.2.1 a.2.2.1 a.2.2.2 a.1 ∧ OkSys a.1
abbrev Con (H : Hp) (a : ConD × Sl) : Prop := Rd flL 1 H a.2 a.1.args ∧ okC a.1
theorem checks2 {a : SysD × Sl × Sl × Sl} (ht : Pw H) (ha : Sys H a) (k : ∀ H', Fr no H H' → K (.bool true) H') : CallF Tryz.prog 3 #[sAg a.2.1 a.2.2.1 a.2.2.2] H K Z := checks_law ha.1 ha.2 ht k
theorem names2 {s : ByteArray} {a b : ConD × Sl} (ht : Pw H) (hs : s.size ≤ 1048576) (ha : Con H a) (hb : Con H b) (k : ∀ H', Fr no H H' → K (.bool true) H') : CallF Tryz.prog 4 #[.string s, cA a.1 a.2, cA b.1 b.2] H K Z := by
  rw [str_of s]
  exact names_law (by have := str_size s.data.toList; rw [← str_of] at this; omega) ha.1 hb.1 ha.2 hb.2 ht k
end
end Go.Proofs.YtlljjdbenocgnaaGreatDoor.C15
end

section
/- Rows that list package variables: the witness, and what a row's list gives. -/
set_option linter.unusedVariables false
set_option linter.unusedSimpArgs false
-- tPow: 168
-- tU64: 131
-- tU8: 5
-- tDb: 177
namespace Go.Proofs.YtlljjdbenocgnaaGreatDoor.Lyd
open Go Go.V Go.Proofs Go.ChangeShapes Go.WideShapes Go.ChangeAt Go.RowKit
theorem wit {H : Type} {enc : TypeId × Value → H} {C : Checked} {os : Os} {f : FuncId} {fn : Func} {s : OpenSpec} {conds : List PathCond} {apart : Bool} {laid : List (String × DataW Unit)} (args : Array Value)
    (hv : ((World.laidAll C.prog os laid).forCall (fun _ _ => 0) ⟨#[], args, []⟩).variablesZipB C.prog = true)
    (hr : (((World.laidAll C.prog os laid).forCall (fun _ _ => 0) ⟨#[], args, []⟩).heap.toList.drop C.prog.globals.size).take ((begin C.prog (fun _ _ => 0) default).world.heap.size - C.prog.globals.size) =
      (begin C.prog (fun _ _ => 0) default).world.heap.toList.drop C.prog.globals.size)
    (hok : Input.okWideB C.prog ((World.laidAll C.prog os laid).forCall (fun _ _ => 0) ⟨#[], args, []⟩) f ⟨#[], args, []⟩ = true)
    (hrow : s.preRow enc C.prog fn conds apart laid ((World.laidAll C.prog os laid).forCall (fun _ _ => 0) ⟨#[], args, []⟩).memory args) :
    ∃ (w : World) (tape : Tape) (i : Input), w.os = os ∧ (w.forCall tape i).Shaped C.prog ∧ i.vars = [] ∧ Input.okWide C.prog (w.forCall tape i) .any w.heap.size f i ∧
      s.preRow enc C.prog fn conds apart laid (w.forCall tape i).memory i.args ∧ ({} : Assume).holds C.prog (lone (Frame.enter C.prog f i.args .normal) [] (w.forCall tape i)) :=
  ⟨World.laidAll C.prog os laid, fun _ _ => 0, ⟨#[], args, []⟩, World.laidAll_os _ _ _, World.shaped_of_ZipB hv hr, (Input.okWide_of_okWideB (base := 0) hok).1, (Input.okWide_of_okWideB hok).2, hrow, by
    simp only [Assume.holds]
    simp⟩
/-- a listed table -/
theorem tab_at {P : Program} {W : World} {name : String} {k : IntKind} {zs : List Int} {g : Nat} {t e : TypeId} {n : Nat}
    (hg : P.globalNamed name = some g) (hty : (P.globals[g]?).map (·.type) = some t) (ht : P.underlying t = some (.array n e)) (he : P.underlying e = some (.int k)) (hce : P.cellsOf e = 1) (hct : P.cellsOf t = n) :
    ∀ (i : Nat) (l : List (String × DataW Unit)), l[i]? = some (name, Lib.tabData k zs) → laidMet P l W → Lib.TabIs P W name k zs
  | _, [], hm, _ => by simp at hm
  | 0, x :: l, hm, h => by
    simp only [List.getElem?_cons_zero, Option.some.injEq] at hm
    subst hm
    exact Lib.tabIs_of_head hg hty ht he hce hct h
  | i + 1, x :: l, hm, h => tab_at hg hty ht he hce hct i l (by simpa using hm) h.tail
theorem pow10 {W : World} {l : List (String × DataW Unit)} (i : Nat) (hm : l[i]? = some ("internal/strconv.uint64pow10", Rows.laid_internal_strconv_uint64pow10)) (h : laidMet Tryz.prog l W) : TabH Tryz.prog W.heap "internal/strconv.uint64pow10" .u64 Lib.pow10Tab := by
  have e : (Rows.laid_internal_strconv_uint64pow10 : DataW Unit) = Lib.tabData .u64 Lib.pow10Tab := by kernel_rfl
  rw [e] at hm
  exact TabH.of (tab_at (g := (Tryz.prog.globalNamed "internal/strconv.uint64pow10").getD 0) (t := 168) (e := 131) (n := 20) (by kernel_rfl) (by kernel_rfl) (by kernel_rfl) (by kernel_rfl) (by kernel_rfl) (by kernel_rfl) i l hm h)
theorem deBr {W : World} {l : List (String × DataW Unit)} (i : Nat) (hm : l[i]? = some ("math/bits.deBruijn64tab", Rows.laid_math_bits_deBruijn64tab)) (h : laidMet Tryz.prog l W) : TabH Tryz.prog W.heap "math/bits.deBruijn64tab" .u8 (Lib.deBruijn64tab.map fun (n : Nat) => (n : Int)) := by
  have e : (Rows.laid_math_bits_deBruijn64tab : DataW Unit) = Lib.tabData .u8 (Lib.deBruijn64tab.map fun (n : Nat) => (n : Int)) := by kernel_rfl
  rw [e] at hm
  exact TabH.of (tab_at (g := (Tryz.prog.globalNamed "math/bits.deBruijn64tab").getD 0) (t := 177) (e := 5) (n := 64) (by kernel_rfl) (by kernel_rfl) (by kernel_rfl) (by kernel_rfl) (by kernel_rfl) (by kernel_rfl) i l hm h)
end Go.Proofs.YtlljjdbenocgnaaGreatDoor.Lyd
end
