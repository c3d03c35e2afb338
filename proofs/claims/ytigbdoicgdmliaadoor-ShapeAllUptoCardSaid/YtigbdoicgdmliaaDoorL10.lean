/- weftlaw10's laws over heaps. -/
import Derived.Test.YtigbdoicgdmliaaDoorC10E
set_option linter.unusedVariables false
set_option linter.unusedSimpArgs false
-- tTy: 51
-- tSt: 81
-- tFd: 83
-- tInt: 3
-- tInts: 27
-- structs: 53
-- works: 30
-- lawTexts: 5
-- lawAll: 6
namespace Go.Proofs.YtigbdoicgdmliaaDoor.L10
open Go Go.V Go.Proofs Go.Proofs.YtigbdoicgdmliaaDoor.N10 Go.Proofs.YtigbdoicgdmliaaDoor.P10 Go.Proofs.YtigbdoicgdmliaaDoor.C10
attribute [local irreducible] Cvt ExtF CallF hrun App MkS callV
/-- the structs of the example -/
def exS : List StD := [⟨[83], [([97], .mk 2 [] 0 []), ([98], .mk 4 [] 3 [.mk 1 [] 0 []]), ([99], .mk 2 [] 0 [])]⟩]
def exT : TyD := .mk 3 [83] 0 []
theorem okLeaf {k : Int} : OkT (.mk k [] 0 []) := .mk (by unfold I64; omega) (by decide) (by decide) (by simp)
theorem okX : OkL exS := by
  refine ⟨by decide, fun s hs => ?_⟩
  rw [List.mem_singleton.1 hs]
  refine ⟨by decide, by decide, fun x hx => ?_⟩
  simp only [List.mem_cons, List.not_mem_nil, or_false] at hx
  rcases hx with rfl | rfl | rfl
  · exact ⟨by decide, okLeaf⟩
  · refine ⟨by decide, .mk (by unfold I64; omega) (by decide) (by decide) fun t ht => ?_⟩
    rw [List.mem_singleton.1 ht]
    exact okLeaf
  · exact ⟨by decide, okLeaf⟩
theorem okXT : OkT exT := .mk (by unfold I64; omega) (by decide) (by decide) (by simp)
section
variable {H : Hp} {K : Value → Hp → Prop} {Z : List PanicEntry → Hp → Prop} {s : Sl} {l : List StD}
theorem inLeaf {A : Hp} {k : Int} : InT A (k, [], 0, ⟨none, 0, 0⟩) (.mk k [] 0 []) := .mk (hs := []) Rd.nil rfl (by simp)
theorem structs_ok (k : ∀ s H', Fr no H H' → RdS H' s exS → K (.slice s.a s.n s.c) H') : CallF Tryd.prog 53 #[] H K Z := by
  refine V53_ok ?_
  unfold V53
  intro b A hA b1 B hB b2 C hC
  have s1 := (Sym.start H).lit (fl := flHT) (l := [(1, [], 0, ⟨none, 0, 0⟩)]) FlHT (by decide) hA (show 1 = 1 from rfl)
  have s2 := s1.lit (fl := flHF) (l := [([97], 2, [], 0, ⟨none, 0, 0⟩), ([98], 4, [], 3, ⟨some ⟨b, 0, none⟩, 1, 1⟩), ([99], 2, [], 0, ⟨none, 0, 0⟩)]) FlHF (by decide) hB (show 3 = 3 from rfl)
  have s3 := s2.lit (fl := flHS) (l := [([83], ⟨some ⟨b1, 0, none⟩, 3, 3⟩)]) FlHS (by decide) hC (show 1 = 1 from rfl)
  refine k ⟨some ⟨b2, 0, none⟩, 1, 1⟩ C s3.frno ⟨_, s3.rd (k := 0) FlHS (by decide) rfl, rfl, fun i h x hh hx => ?_⟩
  have hi : i = 0 := by have := (List.getElem?_eq_some_iff.1 hx).1; simp [exS] at this; exact this
  subst hi
  simp only [List.getElem?_cons_zero, Option.some.injEq] at hh
  have hx' : x = ⟨[83], [([97], .mk 2 [] 0 []), ([98], .mk 4 [] 3 [.mk 1 [] 0 []]), ([99], .mk 2 [] 0 [])]⟩ := by
    unfold exS at hx
    simpa using hx.symm
  subst hx' hh
  refine ⟨rfl, _, s3.rd (k := 1) FlHF (by decide) rfl, rfl, fun i h x hh hx => ?_⟩
  match i, hh, hx with
  | 0, hh, hx =>
    simp only [List.getElem?_cons_zero, Option.some.injEq] at hh hx
    subst hh hx
    exact ⟨rfl, inLeaf⟩
  | 1, hh, hx =>
    simp only [List.getElem?_cons_succ, List.getElem?_cons_zero, Option.some.injEq] at hh hx
    subst hh hx
    refine ⟨rfl, .mk (s3.rd (k := 2) FlHT (by decide) rfl) rfl fun i h x hh hx => ?_⟩
    have hi : i = 0 := by have := (List.getElem?_eq_some_iff.1 hx).1; simp at this; exact this
    subst hi
    simp only [List.getElem?_cons_zero, Option.some.injEq] at hh hx
    subst hh hx
    exact inLeaf
  | 2, hh, hx =>
    simp only [List.getElem?_cons_succ, List.getElem?_cons_zero, Option.some.injEq] at hh hx
    subst hh hx
    exact ⟨rfl, inLeaf⟩
  | i + 3, hh, hx => simp at hh
theorem x1 : checkS exS exT = 0 := by decide +kernel
theorem x2 : kindsOf exS 4 exT = [112, 105, 112] := by decide +kernel
theorem x3 : (mks exS 4 exT).length = 2 := by decide +kernel
theorem x4 : (room exS 4 exT).2 = 5 := by decide +kernel
theorem x5 : (dwn exS 4 exT 3).1 = 1 := by decide +kernel
theorem x6 : begS exS exT 1 [91, 93, 105, 110, 116] = true := by decide +kernel
theorem works_ok (hp : TabH Tryd.prog H "internal/strconv.uint64pow10" .u64 Lib.pow10Tab) (k : ∀ H', Fr no H H' → K (.bool true) H') : CallF Tryd.prog 30 #[] H K Z := by
  refine V30_ok ?_
  unfold V30
  intro bS A hA
  have sA := (Sym.start H).newb (cs := [.int .i64 0, .string ⟨#[]⟩, .int .i64 0, .slice none 0 0]) hA
  have ht : ∀ {B : Hp}, InT B (3, [83], 0, ⟨none, 0, 0⟩) exT := .mk (hs := []) Rd.nil rfl (by simp)
  refine sA.stbs (k := 0) (i := 0) (vs := flHT (3, [83], 0, ⟨none, 0, 0⟩)) rfl (by simp [flHT]) (FlHT.one _) fun B sB => ?_
  have ld4 : ∀ {C : Hp}, Fr no B C → (hcell C ⟨bS, 0, none⟩ = some (.int .i64 3) ∧ hcell C ⟨bS, 1, none⟩ = some (.string (str [83])) ∧ hcell C ⟨bS, 2, none⟩ = some (.int .i64 0) ∧ hcell C ⟨bS, 3, none⟩ = some (.slice none 0 0) ∧ True) := fun f =>
    ⟨(sB.more f).ld (k := 0) rfl 0, (sB.more f).ld (k := 0) rfl 1, (sB.more f).ld (k := 0) rfl 2, (sB.more f).ld (k := 0) rfl 3, trivial⟩
  have hpX : ∀ {C : Hp}, Fr no B C → TabH Tryd.prog C "internal/strconv.uint64pow10" .u64 Lib.pow10Tab := fun f => hp.more (sB.frno.trans f)
  refine ⟨_, str [83], _, ⟨none, 0, 0⟩, ld4 (Fr.refl _ _), structs_ok fun s1 C fC h1 => ⟨s1, rfl, ld4 fC, ?_⟩⟩
  refine cells_ok okX h1 ht okXT (hpX fC) (fun D fD e => absurd x1 e) fun sm D fD _ hm => ⟨_, sm, _, rfl, ?_⟩
  have gD := fC.trans fD
  refine ⟨_, str [83], _, ⟨none, 0, 0⟩, ld4 gD, structs_ok fun s2 E fE h2 => ⟨s2, rfl, ld4 (gD.trans fE), ?_⟩⟩
  refine size_ok okX h2 ht fun F fF => ⟨_, _, rfl, ?_⟩
  have gF := (gD.trans fE).trans fF
  refine ⟨_, str [83], _, ⟨none, 0, 0⟩, ld4 gF, structs_ok fun s3 G fG h3 => ⟨s3, rfl, ld4 (gF.trans fG), ?_⟩⟩
  refine cell_ok okX h3 ht okXT (hpX (gF.trans fG)) (fun D fD e => absurd x1 e) (fun D fD e e' => absurd ⟨by decide, by rw [x4]; decide⟩ e') fun I fI _ _ _ => ⟨_, _, rfl, fun _ => ?_, (fun h => by cases h)⟩
  have gI := (gF.trans fG).trans fI
  have em : (sm.n : Int) = 2 := by
    have := hm.len
    rw [List.length_map, x3] at this
    omega
  rw [x1, x2, x4, em]
  refine ⟨fun _ => ⟨fun _ => ⟨fun _ => ⟨fun _ => ?_, fun h => ?_⟩, (fun h => by cases h)⟩, (fun h => by cases h)⟩, fun h => ?_⟩
  · refine ⟨_, str [83], _, ⟨none, 0, 0⟩, ld4 gI, structs_ok fun s4 J fJ h4 => ⟨s4, rfl, ld4 (gI.trans fJ), ?_⟩⟩
    refine begins_ok (tg := [91, 93, 105, 110, 116]) okX h4 ht okXT (hpX (gI.trans fJ)) fun M fM => ⟨_, rfl, ?_⟩
    rw [x6]
    exact k M (((sB.frno.trans gI).trans fJ).trans fM)
  · exfalso
    have : ((dwn exS 4 exT 3).1 : Int) ≠ 1 := by simpa using h
    rw [x5] at this
    exact this rfl
  · exfalso
    have : beqS (str [112, 105, 112]) (str [112, 105, 112]) = false := h
    rw [beq_str] at this
    simp at this
/-- texts of any type -/
theorem lawTexts_ok {h : HT} {t : TyD} (ht : InT H h t) (ho : OkT t) (hp : TabH Tryd.prog H "internal/strconv.uint64pow10" .u64 Lib.pow10Tab) (k : ∀ H', Fr no H H' → K (.bool true) H') : CallF Tryd.prog 5 #[tyV h] H K Z := by
  refine V5_ok ?_
  unfold V5
  intro bT A hA
  have sA := symTy (Sym.start H) hA
  have ld4 : ∀ {C : Hp}, Fr no A C → (hcell C ⟨bT, 0, none⟩ = some (.int .i64 h.1) ∧ hcell C ⟨bT, 1, none⟩ = some (.string (str h.2.1)) ∧ hcell C ⟨bT, 2, none⟩ = some (.int .i64 h.2.2.1) ∧ hcell C ⟨bT, 3, none⟩ = some (.slice h.2.2.2.a h.2.2.2.n h.2.2.2.c) ∧ True) := fun f =>
    ⟨(sA.more f).ld (k := 0) rfl 0, (sA.more f).ld (k := 0) rfl 1, (sA.more f).ld (k := 0) rfl 2, (sA.more f).ld (k := 0) rfl 3, trivial⟩
  refine ⟨_, str h.2.1, _, h.2.2.2, ld4 (Fr.refl _ _), ?_⟩
  refine great_ok (s := ⟨none, 0, 0⟩) (l := []) RdX.nil ⟨by decide, by simp⟩ (ht.more sA.frno) ho fun y B fB => ⟨y, rfl, fun _ => ?_, fun _ => ?_⟩
  · have := k B (sA.frno.trans fB)
    exact ⟨⟨this, this⟩, this, this⟩
  have lx : ∀ {C : Hp}, Fr no B C → InT C h t := fun f => ht.more ((sA.frno.trans fB).trans f)
  have lp : ∀ {C : Hp}, Fr no B C → TabH Tryd.prog C "internal/strconv.uint64pow10" .u64 Lib.pow10Tab := fun f => hp.more ((sA.frno.trans fB).trans f)
  have fin : ∀ {C : Hp}, Fr no B C → CallF Tryd.prog 30 #[] C (fun r5 H7 => ∃ y5 : Bool, r5 = .bool y5 ∧ K (.bool y5) H7) Z := fun f =>
    works_ok (lp f) fun D fD => ⟨_, rfl, k D (((sA.frno.trans fB).trans f).trans fD)⟩
  have bt : ∀ {a : L8} {P : Prop}, (beqS (str a) (str a)) = false → P := fun h => by rw [beq_str] at h; simp at h
  refine ⟨_, str h.2.1, _, h.2.2.2, ld4 fB, ?_, ?_⟩
  · refine text_ok (lx (Fr.refl _ _)) ho (lp (Fr.refl _ _)) fun C fC => ⟨_, rfl, _, str h.2.1, _, h.2.2.2, ld4 (fB.trans fC), ?_⟩
    refine qText_ok (lx fC) ho fun D fD => ⟨_, rfl, fun _ => ?_, fun hc => bt hc⟩
    have gD := fC.trans fD
    refine ⟨_, str h.2.1, _, h.2.2.2, ld4 (fB.trans gD), ?_, ?_⟩
    · refine tag_ok (lx gD) ho (lp gD) fun E fE => ⟨_, rfl, _, str h.2.1, _, h.2.2.2, ld4 (fB.trans (gD.trans fE)), ?_⟩
      exact qTag_ok (lx (gD.trans fE)) ho fun F fF => ⟨_, rfl, fun _ => fin ((gD.trans fE).trans fF), fun hc => bt hc⟩
    · refine ⟨_, str h.2.1, _, h.2.2.2, ld4 (fB.trans gD), tag_ok (lx gD) ho (lp gD) fun E fE => ⟨_, rfl, ?_⟩⟩
      exact qTag_ok (lx (gD.trans fE)) ho fun F fF => ⟨_, rfl, fun _ => fin ((gD.trans fE).trans fF), fun hc => bt hc⟩
  · refine ⟨_, str h.2.1, _, h.2.2.2, ld4 fB, text_ok (lx (Fr.refl _ _)) ho (lp (Fr.refl _ _)) fun C fC => ⟨_, rfl, ?_⟩⟩
    refine qText_ok (lx fC) ho fun D fD => ⟨_, rfl, fun _ => ?_, fun hc => bt hc⟩
    have gD := fC.trans fD
    refine ⟨_, str h.2.1, _, h.2.2.2, ld4 (fB.trans gD), ?_, ?_⟩
    · refine tag_ok (lx gD) ho (lp gD) fun E fE => ⟨_, rfl, _, str h.2.1, _, h.2.2.2, ld4 (fB.trans (gD.trans fE)), ?_⟩
      exact qTag_ok (lx (gD.trans fE)) ho fun F fF => ⟨_, rfl, fun _ => fin ((gD.trans fE).trans fF), fun hc => bt hc⟩
    · refine ⟨_, str h.2.1, _, h.2.2.2, ld4 (fB.trans gD), tag_ok (lx gD) ho (lp gD) fun E fE => ⟨_, rfl, ?_⟩⟩
      exact qTag_ok (lx (gD.trans fE)) ho fun F fF => ⟨_, rfl, fun _ => fin ((gD.trans fE).trans fF), fun hc => bt hc⟩
theorem tyN : TyS Tryd.prog 27 3 1 8 (.int .i64 0) := ⟨by kernel_rfl, by kernel_rfl, rfl, by decide⟩
theorem scan_pre : ∀ {s : List Nat} {a : Nat} {fs gs : List Nat}, scan s a fs = some gs → ∃ r, gs = fs ++ r
  | [], a, fs, gs, h => ⟨[], by simp only [scan, Option.some.injEq] at h; rw [← h, List.append_nil]⟩
  | c :: s, a, fs, gs, h => by
    unfold scan at h
    split at h
    · cases h
    · split at h
      · obtain ⟨r, e⟩ := scan_pre h
        exact ⟨a :: r, by rw [e, List.append_assoc]; rfl⟩
      · exact scan_pre h
theorem set_next {fs : List Nat} {k a : Nat} : (fs ++ List.replicate (k + 1) 0).set fs.length a = (fs ++ [a]) ++ List.replicate k 0 := by
  rw [List.set_append_right _ _ (Nat.le_refl _), Nat.sub_self, List.replicate_succ, List.set_cons_zero, List.append_assoc]
  rfl
theorem lawAll_ok {h : HT} {t : TyD} (hs : RdS H s l) (hol : OkL l) (ht : InT H h t) (ho : OkT t) (hp : TabH Tryd.prog H "internal/strconv.uint64pow10" .u64 Lib.pow10Tab) (k : ∀ H', Fr no H H' → K (.bool true) H') :
    CallF Tryd.prog 6 #[.slice s.a s.n s.c, tyV h] H K Z := by
  refine V6_ok ?_
  unfold V6
  intro bT A hA
  have sA := symTy (Sym.start H) hA
  have ld4 : ∀ {C : Hp} {L : List It}, Sym H no C L → blk bT (flHT h) 51 ∈ L → (hcell C ⟨bT, 0, none⟩ = some (.int .i64 h.1) ∧ hcell C ⟨bT, 1, none⟩ = some (.string (str h.2.1)) ∧ hcell C ⟨bT, 2, none⟩ = some (.int .i64 h.2.2.1) ∧ hcell C ⟨bT, 3, none⟩ = some (.slice h.2.2.2.a h.2.2.2.n h.2.2.2.c) ∧ True) := fun hS hm =>
    ⟨Blk.ld (hS.ok _ hm) 0, Blk.ld (hS.ok _ hm) 1, Blk.ld (hS.ok _ hm) 2, Blk.ld (hS.ok _ hm) 3, trivial⟩
  refine works_ok (hp.more sA.frno) fun B fB => ⟨_, rfl, (fun h => by cases h), fun _ => ?_⟩
  have sB := sA.more fB
  refine ⟨_, str h.2.1, _, h.2.2.2, ld4 sB List.mem_cons_self, ?_⟩
  refine great_ok (RdS.more hs sB.frno) hol (ht.more sB.frno) ho fun y C fC => ⟨y, rfl, fun _ => k C (sB.frno.trans fC), fun _ => ?_⟩
  have sC := sB.more fC
  refine ⟨_, str h.2.1, _, h.2.2.2, ld4 sC List.mem_cons_self, ?_⟩
  refine cells_ok hol (RdS.more hs sC.frno) (ht.more sC.frno) ho (hp.more sC.frno) (fun D fD e => ⟨_, ⟨none, 0, 0⟩, _, rfl, ?_⟩) fun sm D fD e hm => ⟨_, sm, _, rfl, ?_⟩
  · have sD := sC.more fD
    refine ⟨_, str h.2.1, _, h.2.2.2, ld4 sD List.mem_cons_self, ?_⟩
    refine size_ok hol (RdS.more hs sD.frno) (ht.more sD.frno) fun E fE => ⟨_, _, rfl, fun _ => False, fun _ h => h.elim, fun hc => ?_, fun _ => ⟨fun _ => ⟨fun _ => ⟨fun _ => ?_, fun hc => ?_⟩, fun hc => ?_⟩, fun hc => ?_⟩⟩
    · simp at hc
    · rw [if_pos e]
      exact k E (sD.frno.trans fE)
    · exfalso
      have : beqS (str []) (str []) = false := hc
      rw [beq_str] at this
      simp at this
    · simp at hc
    · exact absurd (by simpa using hc) e
  have sD := sC.more fD
  obtain ⟨hg, h64, h1024⟩ := check_good e
  have hkl := kinds_len hg
  refine ⟨_, str h.2.1, _, h.2.2.2, ld4 sD List.mem_cons_self, ?_⟩
  refine size_ok hol (RdS.more hs sD.frno) (ht.more sD.frno) fun E fE => ⟨_, _, rfl, fun F => F = E, ?_, fun hc => ?_, fun _ => ⟨fun hc => ?_, fun _ => rfl⟩⟩
  rotate_left
  · rw [e] at hc; simp at hc
  · simp at hc
  rintro F hF scr
  subst F
  have sE := sD.more fE
  rw [e, if_neg (fun h => h rfl), str_size, hkl]
  have hmE := hm.more fE
  generalize hN : (room l 4 t).2 = N at *
  generalize hC : (room l 4 t).1 = C0 at *
  refine (Sym.start E).make (zt := 0) tyN FlN rfl rfl (by omega) fun mk F hmk fF hown sF => ?_
  have up : ∀ {G : Hp}, Fr no E G → Fr no H G := fun f => sE.frno.trans f
  have hfl : (firsts l 4 t).length = C0 := by rw [firsts_len hg, hC]
  have hclen : (cellsOf l 4 t).length = N := by rw [cells_len hg, hN]
  refine ⟨fun next G => next = (C0 : Int) ∧ Sym E no G [arr flN 3 1 mk (firsts l 4 t)], ?_, ?_⟩
  · -- the marks
    rintro next G ⟨rfl, sG⟩ scr1
    have hmG := hmE.more sG.frno
    have hmn := hmG.len
    have hml := marks_le hg
    have h9 : (9 : Nat) ^ 4 = 6561 := by decide
    rw [List.length_map] at hmn
    refine ⟨fun i I m => ∃ j : Nat, i = (j : Int) ∧ j ≤ (mks l 4 t).length ∧ m = (mks l 4 t).length - j ∧ Fr no G I, ⟨_, 0, rfl, Nat.zero_le _, rfl, Fr.refl _ _⟩, ?_⟩
    rintro i I m ⟨j, rfl, hj, rfl, fI⟩ scr2
    have sI := sG.more fI
    have hmI := hmG.more fI
    refine ⟨fun hlt => ?_, fun _ => ?_⟩
    · have hj' : j < (mks l 4 t).length := by have := dlt hlt; omega
      have hx : (mks l 4 t)[j]? = some (mks l 4 t)[j] := List.getElem?_eq_getElem hj'
      generalize (mks l 4 t)[j] = mk1 at hx
      have hx' : ((mks l 4 t).map mkL)[j]? = some (mkL mk1) := by rw [List.getElem?_map, hx]; rfl
      obtain ⟨p, hp1, hp2⟩ := mark_begins hg mk1 (List.mem_of_getElem? hx)
      have hplt := firsts_lt hg p (List.mem_of_getElem? hp1)
      have hclt : mk1.1 < C0 := by rw [← hfl]; exact (List.getElem?_eq_some_iff.1 hp1).1
      have ixm : ∀ {Kx : Addr → Prop}, (∀ ad, hcell I ad = some (.int .i64 (mk1.1 : Int)) → hcell I (ad.add 1) = some (.string (str mk1.2)) → Kx ad) → IxA sm.a sm.n (j : Int) 2 Kx := fun kk =>
        Rd.ix (x := mkL mk1) (by decide) FlM hmI (by omega) (by simpa using hx') fun ad h1 h2 => kk ad h2 (h1 1 _ rfl)
      have hbeg : begS l t (p : Int) mk1.2 = true := by
        unfold begS
        rw [if_neg (fun h => h e), if_pos ⟨by omega, by omega⟩, Int.toNat_natCast]
        exact decide_eq_true hp2
      refine ixm fun ad e1 e2 => ⟨_, e1, fun hc => by have := of_decide_eq_true hc; omega, fun _ => ixm fun ad e1 e2 => ⟨_, e1, fun hc => by have := of_decide_eq_true hc; omega, fun _ => ?_⟩⟩
      refine ⟨_, str h.2.1, _, h.2.2.2, ld4 (sE.more sI.frno) List.mem_cons_self, ixm fun ad e1 e2 => ⟨_, e1, ?_⟩⟩
      refine (sI.rd (k := 0) FlN (by decide) rfl).ixn FlN hp1 fun ad3 e3 => ⟨_, e3, ixm fun ad4 e4 e5 => ⟨_, e5, ?_⟩⟩
      refine begins_ok hol (RdS.more hs (up sI.frno)) (ht.more (up sI.frno)) ho (hp.more (up sI.frno)) fun J fJ => ⟨_, rfl, fun hc => ?_, fun _ => ⟨(mks l 4 t).length - (j + 1), by omega, j + 1, wi (by omega), hj', rfl, fI.trans fJ⟩⟩
      rw [hbeg] at hc
      cases hc
    · rw [beq_self_eq_true]
      exact k I (up sI.frno)
  -- the places
  refine ⟨fun next u G m => ∃ (a : Nat) (fs : List Nat), next = (fs.length : Int) ∧ u = (a : Int) ∧ a ≤ N ∧ m = N - a ∧ scan ((cellsOf l 4 t).drop a) a fs = some (firsts l 4 t) ∧ Sym E no G [arr flN 3 1 mk (fs ++ List.replicate (C0 - fs.length) 0)],
    ⟨_, 0, [], rfl, rfl, Nat.zero_le _, rfl, scan_all hg, sF⟩, ?_⟩
  rintro next u G m ⟨a, fs, rfl, rfl, ha, rfl, hsc, sG⟩ scr1
  have sorted : N ≤ a → (fs.length : Int) = (C0 : Int) ∧ Sym E no G [arr flN 3 1 mk (firsts l 4 t)] := by
    intro hNa
    rw [List.drop_of_length_le (by omega)] at hsc
    simp only [scan, Option.some.injEq] at hsc
    rw [hsc, hfl, Nat.sub_self] at sG
    simp only [List.replicate_zero, List.append_nil] at sG
    exact ⟨by rw [hsc, hfl], sG⟩
  refine ⟨fun I => I = G ∧ a < N, ?_, fun hlt => ⟨fun _ => ⟨rfl, by have := dlt hlt; omega⟩, fun hc => by have := of_decide_eq_false hc; omega⟩, fun hge => sorted (dge hge)⟩
  rintro I ⟨hI, haN⟩ scr2
  subst I
  have hcell : (cellsOf l 4 t)[a]? = some (dwn l 4 t a).1 := down_cell (dec := Lib.itoa) hg a (by omega)
  have hclt : (dwn l 4 t a).1 < C0 := by rw [← hC]; exact cells_lt hg _ (List.mem_of_getElem? hcell)
  have hdrop : (cellsOf l 4 t).drop a = (dwn l 4 t a).1 :: (cellsOf l 4 t).drop (a + 1) := by
    obtain ⟨h1, h2⟩ := List.getElem?_eq_some_iff.1 hcell
    rw [List.drop_eq_getElem_cons h1, h2]
  rw [hdrop] at hsc
  obtain ⟨r, hr⟩ := scan_pre hsc
  have hfle : fs.length ≤ C0 := by rw [← hfl, hr, List.length_append]; omega
  unfold scan at hsc
  refine ⟨_, str h.2.1, _, h.2.2.2, ld4 (sE.more sG.frno) List.mem_cons_self, ?_⟩
  refine cell_ok hol (RdS.more hs (up sG.frno)) (ht.more (up sG.frno)) ho (hp.more (up sG.frno)) (fun J fJ e' => absurd e e') (fun J fJ e' e'' => absurd ⟨by omega, by omega⟩ e'') fun J fJ _ _ _ => ⟨_, _, rfl, (fun h => by cases h), fun _ => ⟨fun hc => by have := of_decide_eq_true hc; omega, fun _ => ⟨fun hc => ?_, fun _ => ⟨fun hc => ?_, fun _ => ⟨fun heq => ?_, fun hne => ?_⟩⟩⟩⟩⟩
  all_goals rw [Int.toNat_natCast] at *
  · exfalso
    have hc' := of_decide_eq_true hc
    split at hsc
    · cases hsc
    · omega
  · have := of_decide_eq_true hc; omega
  · have hc' : (dwn l 4 t a).1 = fs.length := by have := beqI.1 heq; omega
    rw [if_neg (by omega), if_pos hc'] at hsc
    have sJ := sG.more fJ
    obtain ⟨q, hq⟩ : ∃ q, C0 - fs.length = q + 1 := ⟨C0 - fs.length - 1, by omega⟩
    rw [hq] at sJ
    rw [hc']
    refine sJ.stn (k := 0) (x := 0) (y := a) FlN rfl (by rw [List.getElem?_append_right (Nat.le_refl _), Nat.sub_self]; rfl) rfl fun M sM => ?_
    refine ⟨N - (a + 1), by omega, a + 1, fs ++ [a], ?_, wi (by omega), haN, rfl, hsc, ?_⟩
    · rw [wi (by omega), List.length_append]; rfl
    · have sM' : Sym E no M [arr flN 3 1 mk ((fs ++ List.replicate (q + 1) 0).set fs.length a)] := sM
      rw [set_next] at sM'
      have : C0 - (fs ++ [a]).length = q := by rw [List.length_append]; simp only [List.length_cons, List.length_nil]; omega
      rw [this]
      exact sM'
  · have hc' : ¬ (dwn l 4 t a).1 = fs.length := by have := bneI.1 hne; omega
    rw [if_neg (by rename_i q1 q2; have := of_decide_eq_false q1; omega), if_neg hc'] at hsc
    exact ⟨N - (a + 1), by omega, a + 1, fs, rfl, wi (by omega), haN, rfl, hsc, sG.more fJ⟩
end
end Go.Proofs.YtigbdoicgdmliaaDoor.L10

