import Derived.Test.YtjpkbenogloihaaGreatDoorZ16
import Derived.Test.YtjpkbenogloihaaGreatDoorProg
set_option linter.unusedVariables false
set_option linter.unusedSimpArgs false
section
namespace Go.Proofs.YtjpkbenogloihaaGreatDoor.C18
open Go Go.V Go.Proofs Go.Proofs.YtjpkbenogloihaaGreatDoor.N16 Go.Proofs.YtjpkbenogloihaaGreatDoor.P14 Go.Proofs.YtjpkbenogloihaaGreatDoor.C14 Go.Proofs.YtjpkbenogloihaaGreatDoor.P15 Go.Proofs.YtjpkbenogloihaaGreatDoor.C15
attribute [local irreducible] Cvt ExtF CallF hrun App MkS callV
def Hx {η χ : Type} (In : η → χ → Prop) (hs : List η) (xs : List χ) : Prop := hs.length = xs.length ∧ ∀ (i : Nat) h x, hs[i]? = some h → xs[i]? = some x → In h x
theorem Hx.nil {η χ : Type} {In : η → χ → Prop} : Hx In [] [] := ⟨rfl, by simp⟩
theorem Hx.app {η χ : Type} {In : η → χ → Prop} {hs hs' : List η} {xs xs' : List χ} (h : Hx In hs xs) (h' : Hx In hs' xs') : Hx In (hs ++ hs') (xs ++ xs') := by
 refine ⟨by rw [List.length_append, List.length_append, h.1, h'.1], fun i a x ha hx => ?_⟩
 rw [List.getElem?_append] at ha hx
 rw [h.1] at ha
 split at ha
 ·rename_i hlt
  rw [if_pos hlt] at hx
  exact h.2 i a x ha hx
 ·rename_i hge
  rw [if_neg hge] at hx
  exact h'.2 _ a x ha hx
abbrev S3 := Sl × Sl × Sl
def flY (s : S3) : List Value := sL s.1 s.2.1 s.2.2
theorem FlY : Fl flY 3 := ⟨fun _ => rfl, fun x v hv => one3 _ _ _ v hv⟩
def InY (H : Hp) (s : S3) (x : SysD) : Prop := RdSys H s.1 s.2.1 s.2.2 x
theorem atY {H : Hp} {l : Sl} {xs : List SysD} {x : SysD} {i : Nat} (h : RdX flY 3 InY H l xs) (hx : xs[i]? = some x) : ∃ s1 s2 s3 : Sl, RdSys H s1 s2 s3 x ∧ ∀ {K : Addr → Prop}, (∀ ad, hcell H ad = some (.slice s1.a s1.n s1.c) → hcell H (ad.add 1) = some (.slice s2.a s2.n s2.c) → hcell H (ad.add 2) = some (.slice s3.a s3.n s3.c) → K ad) → IxA l.a l.n (i : Int) 3 K := by
 obtain ⟨s, r, g⟩ := RdX.get h hx
 exact ⟨s.1, s.2.1, s.2.2, r, fun {K} k => g (hs := FlY) (hz := by decide) fun ad h2 h3 => k ad h3 (h2 1 _ rfl) (h2 2 _ rfl)⟩
theorem len_flat {α β : Type} {f : α → List β} : ∀ {l : List α} {x : α}, x ∈ l → (f x).length ≤ (l.flatMap f).length
 | y :: l, x, h => by
  rw [List.flatMap_cons, List.length_append]
  rcases List.mem_cons.1 h with rfl | h
  ·omega
  ·have := len_flat (f := f) h
   omega
theorem take_flat {α β : Type} {f : α → List β} (l : List α) (j : Nat) : ((l.take j).flatMap f).length ≤ (l.flatMap f).length := by
 conv => rhs; rw [← List.take_append_drop j l]
 rw [List.flatMap_append, List.length_append]
 omega
theorem ok_part {xs : List SysD} (h : OkSys (catS xs)) {x : SysD} (hx : x ∈ xs) : OkSys x := by
 have a := len_flat (f := SysD.objs) hx
 have b := len_flat (f := SysD.fns) hx
 have c := len_flat (f := SysD.cons) hx
 exact ⟨⟨Nat.le_trans a h.o.1, fun o hm => h.o.2 o (List.mem_flatMap.2 ⟨x, hx, hm⟩)⟩, ⟨Nat.le_trans b h.f.1, fun o hm => h.f.2 o (List.mem_flatMap.2 ⟨x, hx, hm⟩)⟩, ⟨Nat.le_trans c h.c.1, fun o hm => h.c.2 o (List.mem_flatMap.2 ⟨x, hx, hm⟩)⟩⟩
theorem ok_can {s t : SysD} (h : OkSys s) (hc : IsCanS s t) : OkSys t := by
 have a := hc.o.len linCL
 have b := hc.f.len linCL
 have c := hc.c.len linC
 have ho := h.o.1
 have hf := h.f.1
 have hc' := h.c.1
 exact ⟨⟨by omega, fun o hm => h.o.2 o ((hc.o.mem o).1 hm)⟩, ⟨by omega, fun o hm => h.f.2 o ((hc.f.mem o).1 hm)⟩, ⟨by omega, fun o hm => h.c.2 o ((hc.c.mem o).1 hm)⟩⟩
theorem nil_ok : OkSys nilS := ⟨⟨by decide, by simp [nilS]⟩, ⟨by decide, by simp [nilS]⟩, ⟨by decide, by simp [nilS]⟩⟩
theorem uni_ok {xs : List SysD} {r : SysD} {e : Int} (h : OkSys (catS xs)) (hu : UniR xs r e) : OkSys r := by
 rcases hu with ⟨_, _, rfl⟩ | ⟨_, t, ht, h1 | h1 | h1⟩
 ·exact nil_ok
 ·rw [h1.2.2]; exact nil_ok
 ·rw [h1.2.2.2]; exact nil_ok
 ·rw [h1.2.2.2]; exact ok_can h ht
theorem first_at : ∀ {xs : List SysD} {j : Nat} {x : SysD}, (∀ s ∈ xs.take j, checkE s = 0) → xs[j]? = some x → checkE x ≠ 0 → firstE (xs.map checkE) = checkE x
 | [], j, x, _, hx, _ => by simp at hx
 | y :: xs, 0, x, _, hx, hne => by
  have : y = x := by simpa using hx
  subst this
  rw [List.map_cons, firstE, if_pos hne]
 | y :: xs, j + 1, x, h, hx, hne => by
  have h0 : checkE y = 0 := h y (by simp)
  rw [List.map_cons, firstE, if_neg (fun h' => h' h0)]
  exact first_at (j := j) (fun s hs => h s (by rw [List.take_succ_cons]; exact List.mem_cons_of_mem _ hs)) (by simpa using hx) hne
abbrev n0 : Sl := ⟨none, 0, 0⟩
theorem rd_nil {H : Hp} : RdSys H n0 n0 n0 nilS := ⟨RdX.nil, Rd.nil, RdX.nil⟩
theorem cat_snoc {xs : List SysD} {j : Nat} {x : SysD} (hx : xs[j]? = some x) : (catS (xs.take (j + 1))).objs = (catS (xs.take j)).objs ++ x.objs ∧ (catS (xs.take (j + 1))).fns = (catS (xs.take j)).fns ++ x.fns ∧ (catS (xs.take (j + 1))).cons = (catS (xs.take j)).cons ++ x.cons :=
 ⟨flat_snoc (f := SysD.objs) hx, flat_snoc (f := SysD.fns) hx, flat_snoc (f := SysD.cons) hx⟩
abbrev UL (bAll b : Nat) (l1 l2 l3 : Sl) (ho : List HO) (fs : List FnD) (hc : List HC) : List It := [arr flHO 43 3 l1 ho, arr flF 49 3 l2 fs, arr flHC 45 6 l3 hc, blk bAll (sL l1 l2 l3) 26, blk b zS 26]
abbrev UT (bAll b : Nat) (l1 l2 l3 : Sl) (ho : List HO) (fs : List FnD) (hc : List HC) (y y1 y2 : Sl) (z : List Value) : List It := [arr flHO 43 3 l1 ho, arr flF 49 3 l2 fs, arr flHC 45 6 l3 hc, blk bAll (sL y y1 y2) 26, blk b z 26]
section
variable {H : Hp} {K : Value → Hp → Prop} {Z : List PanicEntry → Hp → Prop}
theorem union_ok {l : Sl} {xs : List SysD} (h : RdX flY 3 InY H l xs) (hx : OkSys (catS xs)) (hn : xs.length ≤ 1000) (ht : Pw H)
  (k : ∀ t1 t2 t3 r e E, Fr no H E → UniR xs r e → RdSys E t1 t2 t3 r → K (.tuple #[sAg t1 t2 t3, .int .i64 e]) E) : CallF Tryz.prog 8 #[.slice l.a l.n l.c] H K Z := by
 refine V8_ok ?_
 unfold V8
 intro b A hA bAll B hB
 have sA := (Sym.start H).newb (cs := zS) hA
 have sB := sA.newb (cs := zS) hB
 have ln := RdX.len h
 have bo := hx.o.1
 have bf := hx.f.1
 have bc := hx.c.1
 refine ⟨fun i C m => ∃ (j : Nat) (l1 l2 l3 : Sl) (ho : List HO) (hc : List HC), i = (j : Int) ∧ j ≤ xs.length ∧ m = xs.length - j ∧ (∀ s ∈ xs.take j, checkE s = 0) ∧ Hx (InO H) ho (catS (xs.take j)).objs ∧ Hx (InC H) hc (catS (xs.take j)).cons ∧
  Sym H no C (UL bAll b l1 l2 l3 ho (catS (xs.take j)).fns hc), ⟨_, 0, n0, n0, n0, [], [], rfl, Nat.zero_le _, rfl, by simp, Hx.nil, Hx.nil, ((sB.nilrow flHC 45 6).nilrow flF 49 3).nilrow flHO 43 3⟩, ?_⟩
 rintro i C m ⟨j, l1, l2, l3, ho, hc, rfl, hj, rfl, hall, qo, qc, sC⟩ scr
 have fC := sC.fr
 refine ⟨fun hlt => ?_, fun hge => ?_⟩
 ·have hj' : j < xs.length := by have := dlt hlt; omega
  obtain ⟨x, hxj, hxm⟩ := getN hj'
  obtain ⟨s1, s2, s3, hs, ix⟩ := atY h hxj
  have okx := ok_part hx hxm
  obtain ⟨e1, e2, e3⟩ := cat_snoc hxj
  refine ix fun ad g0 g1 g2 => ⟨s1, s2, s3, ⟨lf fC g0, lf fC g1, lf fC g2, trivial⟩, fun bS D hD => ?_⟩
  have sD := sC.newb (cs := zS) hD
  refine sD.stbs (k := 0) (i := 0) (vs := sL s1 s2 s3) rfl (by simp) (one3 _ _ _) fun E sE => ?_
  replace sE : Sym H no E (blk bS (sL s1 s2 s3) 26 :: UL bAll b l1 l2 l3 ho (catS (xs.take j)).fns hc) := sE
  refine ⟨s1, s2, s3, ⟨sE.ld (k := 0) rfl 0, sE.ld (k := 0) rfl 1, sE.ld (k := 0) rfl 2, trivial⟩, check_ok (hs.more sE.fr) okx (TabH.more ht sE.fr) fun F fF => ⟨_, rfl, fun hne => ?_, fun heq => ?_⟩⟩
  ·have sF := sE.more fF
   have hne := bne_iff_ne.1 hne
   refine sF.stbs (k := 5) (i := 0) (vs := sL n0 n0 n0) rfl (by simp) (one3 _ _ _) fun G sG => ?_
   replace sG : Sym H no G (blk bS (sL s1 s2 s3) 26 :: UL bAll b l1 l2 l3 ho (catS (xs.take j)).fns hc) := sG
   have hfe := first_at hall hxj hne
   exact ⟨n0, n0, n0, ⟨sG.ld (k := 5) rfl 0, sG.ld (k := 5) rfl 1, sG.ld (k := 5) rfl 2, trivial⟩, k n0 n0 n0 nilS _ G sG.fr (.inl ⟨by rw [hfe]; exact hne, hfe.symm, rfl⟩) rd_nil⟩
  ·have h0 := bne_eq_false_iff_eq.1 heq
   have sF := sE.more fF
   have n1 := (Sym.rd (k := 1) sF FlHO (by decide) rfl).len
   have n2 := (Sym.rd (k := 2) sF FlF (by decide) rfl).len
   have n3 := (Sym.rd (k := 3) sF FlHC (by decide) rfl).len
   have b1 : (catS (xs.take j)).objs.length ≤ (catS xs).objs.length := take_flat _ _
   have b2 : (catS (xs.take j)).fns.length ≤ (catS xs).fns.length := take_flat _ _
   have b3 : (catS (xs.take j)).cons.length ≤ (catS xs).cons.length := take_flat _ _
   have c1 := okx.o.1
   have c2 := okx.f.1
   have c3 := okx.c.1
   obtain ⟨ro, r1, r2, r3⟩ := hs.o
   obtain ⟨rc, u1, u2, u3⟩ := hs.c
   have q1 := qo.1
   have q3 := qc.1
   refine ⟨l1, sF.ld (k := 4) rfl 0, s1, sF.ld (k := 0) rfl 0, Sym.appR (k := 1) C16O.tyE sF FlHO (by decide) rfl (r1.more sF.fr) (by rw [n1, r2]; omega) fun p1 G nG sG => ?_⟩
   replace sG : Sym H no G [blk bS (sL s1 s2 s3) 26, arr flHO 43 3 p1 (ho ++ ro), arr flF 49 3 l2 (catS (xs.take j)).fns, arr flHC 45 6 l3 hc, blk bAll (sL l1 l2 l3) 26, blk b zS 26] := sG
   refine sG.stbs (k := 4) (i := 0) (vs := [.slice p1.a p1.n p1.c]) rfl (by simp) (fun v hv => by rw [List.mem_singleton.1 hv]; rfl) fun I sI => ?_
   replace sI : Sym H no I [blk bS (sL s1 s2 s3) 26, arr flHO 43 3 p1 (ho ++ ro), arr flF 49 3 l2 (catS (xs.take j)).fns, arr flHC 45 6 l3 hc, blk bAll (sL p1 l2 l3) 26, blk b zS 26] := sI
   refine ⟨l2, sI.ld (k := 4) rfl 1, s2, sI.ld (k := 0) rfl 1, Sym.appR (k := 2) C16F.tyE sI FlF (by decide) rfl (hs.f.more sI.fr) (by rw [n2]; omega) fun p2 L nL sL' => ?_⟩
   replace sL' : Sym H no L [blk bS (sL s1 s2 s3) 26, arr flHO 43 3 p1 (ho ++ ro), arr flF 49 3 p2 ((catS (xs.take j)).fns ++ x.fns), arr flHC 45 6 l3 hc, blk bAll (sL p1 l2 l3) 26, blk b zS 26] := sL'
   refine sL'.stbs (k := 4) (i := 1) (vs := [.slice p2.a p2.n p2.c]) rfl (by simp) (fun v hv => by rw [List.mem_singleton.1 hv]; rfl) fun M sM => ?_
   replace sM : Sym H no M [blk bS (sL s1 s2 s3) 26, arr flHO 43 3 p1 (ho ++ ro), arr flF 49 3 p2 ((catS (xs.take j)).fns ++ x.fns), arr flHC 45 6 l3 hc, blk bAll (sL p1 p2 l3) 26, blk b zS 26] := sM
   refine ⟨l3, sM.ld (k := 4) rfl 2, s3, sM.ld (k := 0) rfl 2, Sym.appR (k := 3) C16C.tyE sM FlHC (by decide) rfl (u1.more sM.fr) (by rw [n3, u2]; omega) fun p3 N nN sN => ?_⟩
   replace sN : Sym H no N [blk bS (sL s1 s2 s3) 26, arr flHO 43 3 p1 (ho ++ ro), arr flF 49 3 p2 ((catS (xs.take j)).fns ++ x.fns), arr flHC 45 6 p3 (hc ++ rc), blk bAll (sL p1 p2 l3) 26, blk b zS 26] := sN
   refine sN.stbs (k := 4) (i := 2) (vs := [.slice p3.a p3.n p3.c]) rfl (by simp) (fun v hv => by rw [List.mem_singleton.1 hv]; rfl) fun O sO => ?_
   replace sO : Sym H no O [blk bS (sL s1 s2 s3) 26, arr flHO 43 3 p1 (ho ++ ro), arr flF 49 3 p2 ((catS (xs.take j)).fns ++ x.fns), arr flHC 45 6 p3 (hc ++ rc), blk bAll (sL p1 p2 p3) 26, blk b zS 26] := sO
   refine ⟨xs.length - (j + 1), by omega, j + 1, p1, p2, p3, ho ++ ro, hc ++ rc, wi (by omega), hj', rfl, all_snoc hxj hall h0, ?_, ?_, ?_⟩
   ·rw [e1]
    exact qo.app ⟨r2, r3⟩
   ·rw [e3]
    exact qc.app ⟨u2, u3⟩
   ·rw [e2]
    exact sO.drop
 ·have hje : j = xs.length := by have := dge hge; omega
  rw [hje, List.take_length] at hall qo qc sC
  have hrd : RdSys C l1 l2 l3 (catS xs) := ⟨⟨ho, Sym.rd (k := 0) sC FlHO (by decide) rfl, qo.1, fun i a x ha hx => (qo.2 i a x ha hx).more fC⟩, Sym.rd (k := 1) sC FlF (by decide) rfl, ⟨hc, Sym.rd (k := 2) sC FlHC (by decide) rfl, qc.1, fun i a x ha hx => (qc.2 i a x ha hx).more fC⟩⟩
  refine ⟨l1, l2, l3, ⟨sC.ld (k := 3) rfl 0, sC.ld (k := 3) rfl 1, sC.ld (k := 3) rfl 2, trivial⟩, canon_ok hrd hx.len fun c t E sE hg hcan => ⟨c.y, c.y1, c.y2, rfl, ?_⟩⟩
  have sJ : Sym H no E (c.its ++ UT bAll b l1 l2 l3 ho (catS xs).fns hc l1 l2 l3 zS) := sC.join sE
  refine sJ.stbs (k := 8) (i := 0) (vs := sL c.y c.y1 c.y2) rfl (by simp) (one3 _ _ _) fun F sF => ?_
  replace sF : Sym H no F (c.its ++ UT bAll b l1 l2 l3 ho (catS xs).fns hc c.y c.y1 c.y2 zS) := sF
  have okt := ok_can hx hcan
  have hz : firstE (xs.map checkE) = 0 := firstE_0.2 fun y hy => by obtain ⟨s, hs, rfl⟩ := List.mem_map.1 hy; exact hall s hs
  have hpt : OkPart (catS xs) := cat_part hall
  have hck := can_check hcan hpt
  have hck4 := checkE_4 (can_part hcan hpt)
  have rdt : ∀ {G : Hp} {R : List It}, Sym H no G (c.its ++ R) → RdSys G c.y c.y1 c.y2 t := fun s => CanS.rd (fun a ha => s.ok a (List.mem_append_left _ ha)) hg
  have bad : ∀ {G : Hp} {e : Int}, Sym H no G (c.its ++ UT bAll b l1 l2 l3 ho (catS xs).fns hc c.y c.y1 c.y2 zS) → UniR xs nilS e → StL ⟨b, 0, none⟩ 0 [.slice none 0 0, .slice none 0 0, .slice none 0 0] G fun H19 => (∃ res_a res_b res_c : Sl, (hcell H19 ⟨b, 0, none⟩ = some (.slice res_a.a res_a.n res_a.c) ∧ hcell H19 ⟨b, 1, none⟩ = some (.slice res_b.a res_b.n res_b.c) ∧ hcell H19 ⟨b, 2, none⟩ = some (.slice res_c.a res_c.n res_c.c) ∧ True) ∧ K (.tuple #[.agg #[.slice res_a.a res_a.n res_a.c, .slice res_b.a res_b.n res_b.c, .slice res_c.a res_c.n res_c.c], .int .i64 e]) H19) := by
   intro G e sG hu
   refine sG.stbs (k := 9) (i := 0) (vs := sL n0 n0 n0) rfl (by simp) (one3 _ _ _) fun I sI => ?_
   replace sI : Sym H no I (c.its ++ UT bAll b l1 l2 l3 ho (catS xs).fns hc c.y c.y1 c.y2 zS) := sI
   exact ⟨n0, n0, n0, ⟨sI.ld (k := 9) rfl 0, sI.ld (k := 9) rfl 1, sI.ld (k := 9) rfl 2, trivial⟩, k n0 n0 n0 nilS _ I sI.fr hu rd_nil⟩
  refine ⟨c.y, c.y1, c.y2, ⟨sF.ld (k := 8) rfl 0, sF.ld (k := 8) rfl 1, sF.ld (k := 8) rfl 2, trivial⟩, check_ok (rdt sF) okt (TabH.more ht sF.fr) fun G fG => ⟨_, rfl, fun h0 => ?_, fun h0 => ⟨fun h4 => ?_, fun h4 => ?_⟩⟩⟩
  ·have sG := sF.more fG
   have h0 := hck.1 (eqI.1 h0)
   refine ⟨c.y, c.y1, c.y2, ⟨sG.ld (k := 8) rfl 0, sG.ld (k := 8) rfl 1, sG.ld (k := 8) rfl 2, trivial⟩, sG.stbs (k := 9) (i := 0) (vs := sL c.y c.y1 c.y2) rfl (by simp) (one3 _ _ _) fun I sI => ?_⟩
   replace sI : Sym H no I (c.its ++ UT bAll b l1 l2 l3 ho (catS xs).fns hc c.y c.y1 c.y2 (sL c.y c.y1 c.y2)) := sI
   exact ⟨c.y, c.y1, c.y2, ⟨sI.ld (k := 9) rfl 0, sI.ld (k := 9) rfl 1, sI.ld (k := 9) rfl 2, trivial⟩, k _ _ _ t _ I sI.fr (.inr ⟨hz, t, hcan, .inr (.inr ⟨h0.1, h0.2, rfl, rfl⟩)⟩) (rdt sI)⟩
  ·have sG := sF.more fG
   have hbig := hck4.1 (eqI.1 h4)
   refine ⟨c.y, c.y1, c.y2, ⟨sG.ld (k := 8) rfl 0, sG.ld (k := 8) rfl 1, sG.ld (k := 8) rfl 2, trivial⟩, twice_ok (rdt sG) okt.len fun bo I fI hb => ⟨_, rfl, fun hT => ?_, fun hT => ?_⟩⟩
   ·exact bad (sG.more fI) (.inr ⟨hz, t, hcan, .inl ⟨hb.1 hT, rfl, rfl⟩⟩)
   ·have ho : once t := Classical.byContradiction fun hno => by rw [hb.2 hno] at hT; cases hT
    exact bad (sG.more fI) (.inr ⟨hz, t, hcan, .inr (.inl ⟨ho, hbig, rfl, rfl⟩)⟩)
  ·have hno : ¬ once t := fun ho => (neI.1 h0) (hck.2 ⟨ho, fun hb => (neI.1 h4) (hck4.2 hb)⟩)
   exact bad (sF.more fG) (.inr ⟨hz, t, hcan, .inl ⟨hno, rfl, rfl⟩⟩)
end
end Go.Proofs.YtjpkbenogloihaaGreatDoor.C18
end
section
set_option maxRecDepth 100000
namespace Go.Proofs.YtjpkbenogloihaaGreatDoor.N16L
open Go Go.V Go.Proofs
def V4 (H : Hp) (a_a a_b a_c b_a b_b b_c c_a c_b c_c : Sl) (K : Value → Hp → Prop) (Z : List PanicEntry → Hp → Prop) : Prop :=
 ∀ bA H1, Newb H (.cells #[.slice a_a.a a_a.n a_a.c, .slice a_b.a a_b.n a_b.c, .slice a_c.a a_c.n a_c.c] 26) bA H1 →
  ∀ bB H2, Newb H1 (.cells #[.slice b_a.a b_a.n b_a.c, .slice b_b.a b_b.n b_b.c, .slice b_c.a b_c.n b_c.c] 26) bB H2 →
  ∀ bC H3, Newb H2 (.cells #[.slice c_a.a c_a.n c_a.c, .slice c_b.a c_b.n c_b.c, .slice c_c.a c_c.n c_c.c] 26) bC H3 →
  ∃ J : Hp → Prop, (∀ H4, J  H4 → ∀ scr : Nat → Value, ∃ x_a x_b x_c : Sl, (hcell H4 ⟨bA, 0, none⟩ = some (.slice x_a.a x_a.n x_a.c) ∧
  hcell H4 ⟨bA, 1, none⟩ = some (.slice x_b.a x_b.n x_b.c) ∧ hcell H4 ⟨bA, 2, none⟩ = some (.slice x_c.a x_c.n x_c.c) ∧
  True) ∧ ∃ x_a1 x_b1 x_c1 : Sl, (hcell H4 ⟨bB, 0, none⟩ = some (.slice x_a1.a x_a1.n x_a1.c) ∧
  hcell H4 ⟨bB, 1, none⟩ = some (.slice x_b1.a x_b1.n x_b1.c) ∧ hcell H4 ⟨bB, 2, none⟩ = some (.slice x_c1.a x_c1.n x_c1.c) ∧
  True) ∧ ∃ x_a2 x_b2 x_c2 : Sl, (hcell H4 ⟨bC, 0, none⟩ = some (.slice x_a2.a x_a2.n x_a2.c) ∧
  hcell H4 ⟨bC, 1, none⟩ = some (.slice x_b2.a x_b2.n x_b2.c) ∧ hcell H4 ⟨bC, 2, none⟩ = some (.slice x_c2.a x_c2.n x_c2.c) ∧
  True) ∧ ∀ b H5, Newb H4 (.cells #[.slice x_a.a x_a.n x_a.c, .slice x_b.a x_b.n x_b.c, .slice x_c.a x_c.n x_c.c, .slice x_a1.a x_a1.n x_a1.c, .slice x_b1.a x_b1.n x_b1.c, .slice x_c1.a x_c1.n x_c1.c, .slice x_a2.a x_a2.n x_a2.c, .slice x_b2.a x_b2.n x_b2.c, .slice x_c2.a x_c2.n x_c2.c] 26) b H5 →
  CallF Tryz.prog 8 #[.slice (some ⟨b, 0, none⟩) 3 3] H5 (fun r H6 => ∃ (y_0_a y_0_b y_0_c : Sl) (y_1 : Int), r = .tuple #[.agg #[.slice y_0_a.a y_0_a.n y_0_a.c, .slice y_0_b.a y_0_b.n y_0_b.c, .slice y_0_c.a y_0_c.n y_0_c.c], .int .i64 y_1] ∧
  ∀ bX H7, Newb H6 (.cells #[.slice none 0 0, .slice none 0 0, .slice none 0 0] 26) bX H7 → StL ⟨bX, 0, none⟩ 0 [.slice y_0_a.a y_0_a.n y_0_a.c, .slice y_0_b.a y_0_b.n y_0_b.c, .slice y_0_c.a y_0_c.n y_0_c.c] H7 fun H8 =>
  (∃ x_a3 x_b3 x_c3 : Sl, (hcell H8 ⟨bA, 0, none⟩ = some (.slice x_a3.a x_a3.n x_a3.c) ∧
  hcell H8 ⟨bA, 1, none⟩ = some (.slice x_b3.a x_b3.n x_b3.c) ∧ hcell H8 ⟨bA, 2, none⟩ = some (.slice x_c3.a x_c3.n x_c3.c) ∧
  True) ∧ ∃ x_a4 x_b4 x_c4 : Sl, (hcell H8 ⟨bB, 0, none⟩ = some (.slice x_a4.a x_a4.n x_a4.c) ∧
  hcell H8 ⟨bB, 1, none⟩ = some (.slice x_b4.a x_b4.n x_b4.c) ∧ hcell H8 ⟨bB, 2, none⟩ = some (.slice x_c4.a x_c4.n x_c4.c) ∧
  True) ∧ ∃ x_a5 x_b5 x_c5 : Sl, (hcell H8 ⟨bC, 0, none⟩ = some (.slice x_a5.a x_a5.n x_a5.c) ∧
  hcell H8 ⟨bC, 1, none⟩ = some (.slice x_b5.a x_b5.n x_b5.c) ∧ hcell H8 ⟨bC, 2, none⟩ = some (.slice x_c5.a x_c5.n x_c5.c) ∧
  True) ∧ ∀ b1 H9, Newb H8 (.cells #[.slice x_a3.a x_a3.n x_a3.c, .slice x_b3.a x_b3.n x_b3.c, .slice x_c3.a x_c3.n x_c3.c, .slice x_a4.a x_a4.n x_a4.c, .slice x_b4.a x_b4.n x_b4.c, .slice x_c4.a x_c4.n x_c4.c, .slice x_a5.a x_a5.n x_a5.c, .slice x_b5.a x_b5.n x_b5.c, .slice x_c5.a x_c5.n x_c5.c] 26) b1 H9 →
  CallF Tryz.prog 13 #[.slice (some ⟨b1, 0, none⟩) 3 3] H9 (fun r1 H10 => ∃ (y_0_a1 y_0_b1 y_0_c1 : Sl) (y_11 : Int), r1 = .tuple #[.agg #[.slice y_0_a1.a y_0_a1.n y_0_a1.c, .slice y_0_b1.a y_0_b1.n y_0_b1.c, .slice y_0_c1.a y_0_c1.n y_0_c1.c], .int .i64 y_11] ∧
  ∀ bY H11, Newb H10 (.cells #[.slice none 0 0, .slice none 0 0, .slice none 0 0] 26) bY H11 → StL ⟨bY, 0, none⟩ 0 [.slice y_0_a1.a y_0_a1.n y_0_a1.c, .slice y_0_b1.a y_0_b1.n y_0_b1.c, .slice y_0_c1.a y_0_c1.n y_0_c1.c] H11 fun H12 =>
  (∃ x_a6 x_b6 x_c6 : Sl, (hcell H12 ⟨bA, 0, none⟩ = some (.slice x_a6.a x_a6.n x_a6.c) ∧
  hcell H12 ⟨bA, 1, none⟩ = some (.slice x_b6.a x_b6.n x_b6.c) ∧ hcell H12 ⟨bA, 2, none⟩ = some (.slice x_c6.a x_c6.n x_c6.c) ∧
  True) ∧ ∃ x_a7 x_b7 x_c7 : Sl, (hcell H12 ⟨bA, 0, none⟩ = some (.slice x_a7.a x_a7.n x_a7.c) ∧
  hcell H12 ⟨bA, 1, none⟩ = some (.slice x_b7.a x_b7.n x_b7.c) ∧ hcell H12 ⟨bA, 2, none⟩ = some (.slice x_c7.a x_c7.n x_c7.c) ∧
  True) ∧ CallF Tryz.prog 15 #[.agg #[.slice x_a6.a x_a6.n x_a6.c, .slice x_b6.a x_b6.n x_b6.c, .slice x_c6.a x_c6.n x_c6.c]] H12 (fun r2 H13 =>
  ∃ y_a y_b y_c : Sl, r2 = .agg #[.slice y_a.a y_a.n y_a.c, .slice y_b.a y_b.n y_b.c, .slice y_c.a y_c.n y_c.c] ∧
  ((hcell H13 ⟨bA, 0, none⟩ = some (.slice x_a7.a x_a7.n x_a7.c) ∧ hcell H13 ⟨bA, 1, none⟩ = some (.slice x_b7.a x_b7.n x_b7.c) ∧
  hcell H13 ⟨bA, 2, none⟩ = some (.slice x_c7.a x_c7.n x_c7.c) ∧ True) ∧ CallF Tryz.prog 16 #[.agg #[.slice x_a7.a x_a7.n x_a7.c, .slice x_b7.a x_b7.n x_b7.c, .slice x_c7.a x_c7.n x_c7.c]] H13 (fun r3 H14 =>
  ∃ y_a1 y_b1 y_c1 : Sl, r3 = .agg #[.slice y_a1.a y_a1.n y_a1.c, .slice y_b1.a y_b1.n y_b1.c, .slice y_c1.a y_c1.n y_c1.c] ∧
  CallF Tryz.prog 14 #[.agg #[.slice y_a.a y_a.n y_a.c, .slice y_b.a y_b.n y_b.c, .slice y_c.a y_c.n y_c.c], .agg #[.slice y_a1.a y_a1.n y_a1.c, .slice y_b1.a y_b1.n y_b1.c, .slice y_c1.a y_c1.n y_c1.c]] H14 (fun r4 H15 =>
  ∃ y : Bool, r4 = .bool y ∧ ((y = true → ∃ x_a8 x_b8 x_c8 : Sl, (hcell H15 ⟨bX, 0, none⟩ = some (.slice x_a8.a x_a8.n x_a8.c) ∧
  hcell H15 ⟨bX, 1, none⟩ = some (.slice x_b8.a x_b8.n x_b8.c) ∧ hcell H15 ⟨bX, 2, none⟩ = some (.slice x_c8.a x_c8.n x_c8.c) ∧
  True) ∧ ∃ x_a9 x_b9 x_c9 : Sl, (hcell H15 ⟨bY, 0, none⟩ = some (.slice x_a9.a x_a9.n x_a9.c) ∧
  hcell H15 ⟨bY, 1, none⟩ = some (.slice x_b9.a x_b9.n x_b9.c) ∧ hcell H15 ⟨bY, 2, none⟩ = some (.slice x_c9.a x_c9.n x_c9.c) ∧
  True) ∧ CallF Tryz.prog 14 #[.agg #[.slice x_a8.a x_a8.n x_a8.c, .slice x_b8.a x_b8.n x_b8.c, .slice x_c8.a x_c8.n x_c8.c], .agg #[.slice x_a9.a x_a9.n x_a9.c, .slice x_b9.a x_b9.n x_b9.c, .slice x_c9.a x_c9.n x_c9.c]] H15 (fun r5 H16 =>
  ∃ y1 : Bool, r5 = .bool y1 ∧ ((y1 = true → (((y_1 == y_11) = true → ∃ x_a10 x_b10 x_c10 : Sl, (hcell H16 ⟨bA, 0, none⟩ = some (.slice x_a10.a x_a10.n x_a10.c) ∧
  hcell H16 ⟨bA, 1, none⟩ = some (.slice x_b10.a x_b10.n x_b10.c) ∧ hcell H16 ⟨bA, 2, none⟩ = some (.slice x_c10.a x_c10.n x_c10.c) ∧
  True) ∧ ∃ x_a11 x_b11 x_c11 : Sl, (hcell H16 ⟨bB, 0, none⟩ = some (.slice x_a11.a x_a11.n x_a11.c) ∧
  hcell H16 ⟨bB, 1, none⟩ = some (.slice x_b11.a x_b11.n x_b11.c) ∧ hcell H16 ⟨bB, 2, none⟩ = some (.slice x_c11.a x_c11.n x_c11.c) ∧
  True) ∧ ∃ x_a12 x_b12 x_c12 : Sl, (hcell H16 ⟨bA, 0, none⟩ = some (.slice x_a12.a x_a12.n x_a12.c) ∧
  hcell H16 ⟨bA, 1, none⟩ = some (.slice x_b12.a x_b12.n x_b12.c) ∧ hcell H16 ⟨bA, 2, none⟩ = some (.slice x_c12.a x_c12.n x_c12.c) ∧
  True) ∧ ∃ x_a13 x_b13 x_c13 : Sl, (hcell H16 ⟨bB, 0, none⟩ = some (.slice x_a13.a x_a13.n x_a13.c) ∧
  hcell H16 ⟨bB, 1, none⟩ = some (.slice x_b13.a x_b13.n x_b13.c) ∧ hcell H16 ⟨bB, 2, none⟩ = some (.slice x_c13.a x_c13.n x_c13.c) ∧
  True) ∧ CallF Tryz.prog 17 #[.agg #[.slice x_a10.a x_a10.n x_a10.c, .slice x_b10.a x_b10.n x_b10.c, .slice x_c10.a x_c10.n x_c10.c], .agg #[.slice x_a11.a x_a11.n x_a11.c, .slice x_b11.a x_b11.n x_b11.c, .slice x_c11.a x_c11.n x_c11.c]] H16 (fun r6 H17 =>
  ∃ y2 : Bool, r6 = .bool y2 ∧ ((hcell H17 ⟨bB, 0, none⟩ = some (.slice x_a13.a x_a13.n x_a13.c) ∧
  hcell H17 ⟨bB, 1, none⟩ = some (.slice x_b13.a x_b13.n x_b13.c) ∧ hcell H17 ⟨bB, 2, none⟩ = some (.slice x_c13.a x_c13.n x_c13.c) ∧
  True) ∧ ((hcell H17 ⟨bA, 0, none⟩ = some (.slice x_a12.a x_a12.n x_a12.c) ∧ hcell H17 ⟨bA, 1, none⟩ = some (.slice x_b12.a x_b12.n x_b12.c) ∧
  hcell H17 ⟨bA, 2, none⟩ = some (.slice x_c12.a x_c12.n x_c12.c) ∧ True) ∧ CallF Tryz.prog 14 #[.agg #[.slice x_a12.a x_a12.n x_a12.c, .slice x_b12.a x_b12.n x_b12.c, .slice x_c12.a x_c12.n x_c12.c], .agg #[.slice x_a13.a x_a13.n x_a13.c, .slice x_b13.a x_b13.n x_b13.c, .slice x_c13.a x_c13.n x_c13.c]] H17 (fun r7 H18 =>
  ∃ y3 : Bool, r7 = .bool y3 ∧ (((y2 == y3) = true → ∃ x_a14 x_b14 x_c14 : Sl, (hcell H18 ⟨bC, 0, none⟩ = some (.slice x_a14.a x_a14.n x_a14.c) ∧
  hcell H18 ⟨bC, 1, none⟩ = some (.slice x_b14.a x_b14.n x_b14.c) ∧ hcell H18 ⟨bC, 2, none⟩ = some (.slice x_c14.a x_c14.n x_c14.c) ∧
  True) ∧ ∃ x_a15 x_b15 x_c15 : Sl, (hcell H18 ⟨bC, 0, none⟩ = some (.slice x_a15.a x_a15.n x_a15.c) ∧
  hcell H18 ⟨bC, 1, none⟩ = some (.slice x_b15.a x_b15.n x_b15.c) ∧ hcell H18 ⟨bC, 2, none⟩ = some (.slice x_c15.a x_c15.n x_c15.c) ∧
  True) ∧ ∃ x_a16 x_b16 x_c16 : Sl, (hcell H18 ⟨bC, 0, none⟩ = some (.slice x_a16.a x_a16.n x_a16.c) ∧
  hcell H18 ⟨bC, 1, none⟩ = some (.slice x_b16.a x_b16.n x_b16.c) ∧ hcell H18 ⟨bC, 2, none⟩ = some (.slice x_c16.a x_c16.n x_c16.c) ∧
  True) ∧ ∃ x_a17 x_b17 x_c17 : Sl, (hcell H18 ⟨bC, 0, none⟩ = some (.slice x_a17.a x_a17.n x_a17.c) ∧
  hcell H18 ⟨bC, 1, none⟩ = some (.slice x_b17.a x_b17.n x_b17.c) ∧ hcell H18 ⟨bC, 2, none⟩ = some (.slice x_c17.a x_c17.n x_c17.c) ∧
  True) ∧ CallF Tryz.prog 17 #[.agg #[.slice x_a14.a x_a14.n x_a14.c, .slice x_b14.a x_b14.n x_b14.c, .slice x_c14.a x_c14.n x_c14.c], .agg #[.slice x_a15.a x_a15.n x_a15.c, .slice x_b15.a x_b15.n x_b15.c, .slice x_c15.a x_c15.n x_c15.c]] H18 (fun r8 H19 =>
  ∃ y4 : Bool, r8 = .bool y4 ∧ ((hcell H19 ⟨bC, 0, none⟩ = some (.slice x_a17.a x_a17.n x_a17.c) ∧
  hcell H19 ⟨bC, 1, none⟩ = some (.slice x_b17.a x_b17.n x_b17.c) ∧ hcell H19 ⟨bC, 2, none⟩ = some (.slice x_c17.a x_c17.n x_c17.c) ∧
  True) ∧ ((hcell H19 ⟨bC, 0, none⟩ = some (.slice x_a16.a x_a16.n x_a16.c) ∧ hcell H19 ⟨bC, 1, none⟩ = some (.slice x_b16.a x_b16.n x_b16.c) ∧
  hcell H19 ⟨bC, 2, none⟩ = some (.slice x_c16.a x_c16.n x_c16.c) ∧ True) ∧ CallF Tryz.prog 14 #[.agg #[.slice x_a16.a x_a16.n x_a16.c, .slice x_b16.a x_b16.n x_b16.c, .slice x_c16.a x_c16.n x_c16.c], .agg #[.slice x_a17.a x_a17.n x_a17.c, .slice x_b17.a x_b17.n x_b17.c, .slice x_c17.a x_c17.n x_c17.c]] H19 (fun r9 H20 =>
  ∃ y5 : Bool, r9 = .bool y5 ∧ (((y4 == y5) = true → CallF Tryz.prog 6 #[] H20 (fun r10 H21 => ∃ y6 : Bool, r10 = .bool y6 ∧
  K (.bool y6) H21) Z) ∧ ((y4 == y5) = false → K (.bool false) H20))) Z))) Z) ∧ ((y2 == y3) = false →
  K (.bool false) H18))) Z))) Z) ∧ ((y_1 == y_11) = false → K (.bool false) H16))) ∧ (y1 = false →
  K (.bool false) H16))) Z) ∧ (y = false → K (.bool false) H15))) Z) Z)) Z)) Z)) Z) ∧ ∃ x_a18 x_b18 x_c18 : Sl, (hcell H3 ⟨bA, 0, none⟩ = some (.slice x_a18.a x_a18.n x_a18.c) ∧
  hcell H3 ⟨bA, 1, none⟩ = some (.slice x_b18.a x_b18.n x_b18.c) ∧ hcell H3 ⟨bA, 2, none⟩ = some (.slice x_c18.a x_c18.n x_c18.c) ∧
  True) ∧ CallF Tryz.prog 7 #[.agg #[.slice x_a18.a x_a18.n x_a18.c, .slice x_b18.a x_b18.n x_b18.c, .slice x_c18.a x_c18.n x_c18.c], .int .i64 60] H3 (fun r11 H22 =>
  ∃ y7 : Bool, r11 = .bool y7 ∧ ((y7 = true → K (.bool true) H22) ∧ (y7 = false → ∃ x_a19 x_b19 x_c19 : Sl, (hcell H22 ⟨bB, 0, none⟩ = some (.slice x_a19.a x_a19.n x_a19.c) ∧
  hcell H22 ⟨bB, 1, none⟩ = some (.slice x_b19.a x_b19.n x_b19.c) ∧ hcell H22 ⟨bB, 2, none⟩ = some (.slice x_c19.a x_c19.n x_c19.c) ∧
  True) ∧ CallF Tryz.prog 7 #[.agg #[.slice x_a19.a x_a19.n x_a19.c, .slice x_b19.a x_b19.n x_b19.c, .slice x_c19.a x_c19.n x_c19.c], .int .i64 60] H22 (fun r12 H23 =>
  ∃ y8 : Bool, r12 = .bool y8 ∧ ((y8 = true → K (.bool true) H23) ∧ (y8 = false → ∃ x_a20 x_b20 x_c20 : Sl, (hcell H23 ⟨bC, 0, none⟩ = some (.slice x_a20.a x_a20.n x_a20.c) ∧
  hcell H23 ⟨bC, 1, none⟩ = some (.slice x_b20.a x_b20.n x_b20.c) ∧ hcell H23 ⟨bC, 2, none⟩ = some (.slice x_c20.a x_c20.n x_c20.c) ∧
  True) ∧ CallF Tryz.prog 7 #[.agg #[.slice x_a20.a x_a20.n x_a20.c, .slice x_b20.a x_b20.n x_b20.c, .slice x_c20.a x_c20.n x_c20.c], .int .i64 60] H23 (fun r13 H24 =>
  ∃ y9 : Bool, r13 = .bool y9 ∧ ((y9 = true → K (.bool true) H24) ∧ (y9 = false → (J  H24)))) Z))) Z))) Z
def aJ4 : Ann := (fun k => if k = 3 then some [] else if k = 2000005 then some [] else none)
theorem V4_ok {H a_a a_b a_c b_a b_b b_c c_a c_b c_c K Z} (h : V4 H a_a a_b a_c b_a b_b b_c c_a c_b c_c K Z) : CallF Tryz.prog 4 #[.agg #[.slice a_a.a a_a.n a_a.c, .slice a_b.a a_b.n a_b.c, .slice a_c.a a_c.n a_c.c], .agg #[.slice b_a.a b_a.n b_a.c, .slice b_b.a b_b.n b_b.c, .slice b_c.a b_c.n b_c.c], .agg #[.slice c_a.a c_a.n c_a.c, .slice c_b.a c_b.n c_b.c, .slice c_c.a c_c.n c_c.c]] H K Z :=
 fnC_sound (aJ := aJ4) (aL := fun _ => none) (Eq.mp (by kernel_rfl) h)
end Go.Proofs.YtjpkbenogloihaaGreatDoor.N16L
end
section
namespace Go.Proofs.YtjpkbenogloihaaGreatDoor.C18
open Go Go.V Go.Proofs Go.Proofs.YtjpkbenogloihaaGreatDoor.N16 Go.Proofs.YtjpkbenogloihaaGreatDoor.P14 Go.Proofs.YtjpkbenogloihaaGreatDoor.C14 Go.Proofs.YtjpkbenogloihaaGreatDoor.P15 Go.Proofs.YtjpkbenogloihaaGreatDoor.C15
attribute [local irreducible] Cvt ExtF CallF hrun App MkS callV
theorem Hx.cons {η χ : Type} {In : η → χ → Prop} {h : η} {x : χ} {hs : List η} {xs : List χ} (h1 : In h x) (h2 : Hx In hs xs) : Hx In (h :: hs) (x :: xs) :=
 Hx.app (hs := [h]) (xs := [x]) ⟨rfl, fun i a b ha hb => by
  match i, ha, hb with
  | 0, ha, hb => rw [← Option.some_inj.1 ha, ← Option.some_inj.1 hb]; exact h1
  | i + 1, ha, hb => cases ha⟩ h2
theorem rdY {E : Hp} {l : Sl} {ss : List S3} {xs : List SysD} (h : Rd flY 3 E l ss) (hx : Hx (InY E) ss xs) : RdX flY 3 InY E l xs := ⟨ss, h, hx.1, hx.2⟩
structure Few (n : Nat) (x : SysD) : Prop where
 o : x.objs.length ≤ n
 f : x.fns.length ≤ n
 c : x.cons.length ≤ n
theorem mild_few {n : Nat} {x : SysD} (h : Mild n x) : Few n x := ⟨h.o.1, h.f, h.c.1⟩
theorem Few.mono {n m : Nat} {x : SysD} (h : Few n x) (hm : n ≤ m) : Few m x := ⟨Nat.le_trans h.o hm, Nat.le_trans h.f hm, Nat.le_trans h.c hm⟩
theorem few_cat {n : Nat} {l : List SysD} (h : ∀ x ∈ l, Few n x) : Few (l.length * n) (catS l) :=
 ⟨flat_le (f := SysD.objs) fun x hx => (h x hx).o, flat_le (f := SysD.fns) fun x hx => (h x hx).f, flat_le (f := SysD.cons) fun x hx => (h x hx).c⟩
theorem ok_cat {n : Nat} {l : List SysD} (h : ∀ x ∈ l, OkSys x ∧ Few n x) (hn : l.length * n ≤ 1048576) : OkSys (catS l) := by
 have hf := few_cat (n := n) fun x hx => (h x hx).2
 refine ⟨⟨Nat.le_trans hf.o hn, fun o hm => ?_⟩, ⟨Nat.le_trans hf.f hn, fun o hm => ?_⟩, ⟨Nat.le_trans hf.c hn, fun o hm => ?_⟩⟩
 ·obtain ⟨x, hx, hm⟩ := List.mem_flatMap.1 hm
  exact (h x hx).1.o.2 o hm
 ·obtain ⟨x, hx, hm⟩ := List.mem_flatMap.1 hm
  exact (h x hx).1.f.2 o hm
 ·obtain ⟨x, hx, hm⟩ := List.mem_flatMap.1 hm
  exact (h x hx).1.c.2 o hm
section
variable {H : Hp} {K : Value → Hp → Prop} {Z : List PanicEntry → Hp → Prop}
end
end Go.Proofs.YtjpkbenogloihaaGreatDoor.C18
end
section
namespace Go.Proofs.YtjpkbenogloihaaGreatDoor.C18
open Go Go.V Go.Proofs Go.Proofs.YtjpkbenogloihaaGreatDoor.N16 Go.Proofs.YtjpkbenogloihaaGreatDoor.P14 Go.Proofs.YtjpkbenogloihaaGreatDoor.C14 Go.Proofs.YtjpkbenogloihaaGreatDoor.P15 Go.Proofs.YtjpkbenogloihaaGreatDoor.C15
attribute [local irreducible] Cvt ExtF CallF hrun App MkS callV
theorem IsN.len {x : SysD} {ys : List L8} (h : IsN x ys) : ys.length ≤ 100000 := by
 rcases h with ⟨_, rfl⟩ | ⟨h0, hr, hm⟩
 ·decide
 ·have hR := check_right h0
  have := rising_len hr hm
  have a := cons_le hR x.cons.length
  have b := objs_le hR x.objs.length
  rw [List.take_length] at a b
  unfold nodesL at this
  rw [List.length_append] at this
  omega
theorem IsP.len {x : SysD} {ys : List L8} (h : IsP x ys) : ys.length ≤ 100000 := by
 rcases h with ⟨_, rfl⟩ | ⟨h0, hr, hm⟩
 ·decide
 ·have hR := check_right h0
  have := rising_len hr hm
  have a := consP_le hR x.cons.length
  have b := objsP_le hR x.objs.length
  have c := hR.f
  rw [List.take_length] at a b
  unfold placesL at this
  rw [List.length_append, List.length_append, List.length_map] at this
  omega
section
variable {H : Hp} {K : Value → Hp → Prop} {Z : List PanicEntry → Hp → Prop}
end
end Go.Proofs.YtjpkbenogloihaaGreatDoor.C18
end
section
namespace Go.Proofs.YtjpkbenogloihaaGreatDoor.L15U
open Go Go.V Go.Proofs Go.Proofs.YtjpkbenogloihaaGreatDoor.P14 Go.Proofs.YtjpkbenogloihaaGreatDoor.C14 Go.Proofs.YtjpkbenogloihaaGreatDoor.P15 Go.Proofs.YtjpkbenogloihaaGreatDoor.C15 Go.Proofs.YtjpkbenogloihaaGreatDoor.C18
attribute [local irreducible] Cvt ExtF CallF hrun App MkS callV
section
variable {H : Hp} {K : Value → Hp → Prop} {Z : List PanicEntry → Hp → Prop}
abbrev Sys (H : Hp) (a : SysD × Sl × Sl × Sl) : Prop := RdSys H a.2.1 a.2.2.1 a.2.2.2 a.1 ∧ OkSys a.1
end
end Go.Proofs.YtjpkbenogloihaaGreatDoor.L15U
end
section
set_option maxRecDepth 100000
namespace Go.Proofs.YtjpkbenogloihaaGreatDoor.N16R
open Go Go.V Go.Proofs
def V37 (H : Hp) (l : Sl) (o_a o_b : ByteArray) (o_c : Sl) (K : Value → Hp → Prop) (Z : List PanicEntry → Hp → Prop) : Prop :=
 ∀ bO H1, Newb H (.cells #[.string o_a, .string o_b, .slice o_c.a o_c.n o_c.c] 43) bO H1 → ∃ J : Int →
  Hp → Prop, (∀ (k : Int), ∀ H2, J k H2 → ∀ scr : Nat → Value, ∀ b H3, Newb H2 (.cells #[] 47) b H3 →
  ∃ x : Sl, hcell H3 ⟨bO, 2, none⟩ = some (.slice x.a x.n x.c) ∧ App Tryz.prog #[41, 41] 41 H3 [.slice (some ⟨b, 0, none⟩) 0 0, .slice x.a x.n x.c] fun ap H4 =>
  (StL ⟨bO, 2, none⟩ 0 [.slice ap.a ap.n ap.c] H4 fun H5 => (∀ b1 H6, Newb H5 (.cells #[] 43) b1 H6 →
  (l.n ≤ l.c ∧ SlX l.a l.c 0 k 3 fun cut => (App Tryz.prog #[22, 22] 22 H6 [.slice (some ⟨b1, 0, none⟩) 0 0, .slice cut.a cut.n cut.c] fun ap1 H7 =>
  (∃ (x_a x_b : ByteArray) (x_c : Sl), (hcell H7 ⟨bO, 0, none⟩ = some (.string x_a) ∧
  hcell H7 ⟨bO, 1, none⟩ = some (.string x_b) ∧ hcell H7 ⟨bO, 2, none⟩ = some (.slice x_c.a x_c.n x_c.c) ∧
  True) ∧ ∀ b2 H8, Newb H7 (.cells #[.string x_a, .string x_b, .slice x_c.a x_c.n x_c.c] 43) b2 H8 →
  App Tryz.prog #[22, 22] 22 H8 [.slice ap1.a ap1.n ap1.c, .slice (some ⟨b2, 0, none⟩) 1 1] fun ap2 H9 =>
  (l.n ≤ l.c ∧ SlX l.a l.c k (l.n : Int) 3 fun cut1 => (App Tryz.prog #[22, 22] 22 H9 [.slice ap2.a ap2.n ap2.c, .slice cut1.a cut1.n cut1.c] fun ap3 H10 =>
  (K (.slice ap3.a ap3.n ap3.c) H10))))))))) ∧ ∃ I : Int → Hp → Nat → Prop, (∃ m, I 0 H1 m) ∧ ∀ (k1 : Int), ∀ H11 m1, I k1 H11 m1 →
  ∀ scr1 : Nat → Value, (((decide (k1 < (l.n : Int))) = true → IxA l.a l.n k1 3 fun ad => (∃ x1 : ByteArray, hcell H11 ad = some (.string x1) ∧
  ∃ x2 : ByteArray, hcell H11 ⟨bO, 0, none⟩ = some (.string x2) ∧ ((((ltS x1 x2) || (beqS x1 x2)) = true →
  IxA l.a l.n k1 3 fun ad1 => (∃ (x_a1 x_b1 : ByteArray) (x_c1 : Sl), (hcell H11 ad1 = some (.string x_a1) ∧
  hcell H11 (Addr.add ad1 1) = some (.string x_b1) ∧ hcell H11 (Addr.add ad1 2) = some (.slice x_c1.a x_c1.n x_c1.c) ∧
  True) ∧ ∃ (x_a2 x_b2 : ByteArray) (x_c2 : Sl), (hcell H11 ⟨bO, 0, none⟩ = some (.string x_a2) ∧
  hcell H11 ⟨bO, 1, none⟩ = some (.string x_b2) ∧ hcell H11 ⟨bO, 2, none⟩ = some (.slice x_c2.a x_c2.n x_c2.c) ∧
  True) ∧ CallF Tryz.prog 24 #[.agg #[.string x_a1, .string x_b1, .slice x_c1.a x_c1.n x_c1.c], .agg #[.string x_a2, .string x_b2, .slice x_c2.a x_c2.n x_c2.c]] H11 (fun r H12 =>
  ∃ y : Bool, r = .bool y ∧ ((y = true → K (.slice l.a l.n l.c) H12) ∧ (y = false → (∃ m2, m2 < m1 ∧
  I (w64 (k1 + 1)) H12 m2)))) Z)) ∧ (((ltS x1 x2) || (beqS x1 x2)) = false → (J k1 H11))))) ∧ ((decide (k1 < (l.n : Int))) = false →
  (J k1 H11)))
def aJ37 : Ann := (fun k => if k = 6 then some [(5, (.sc (.int .i64)))] else none)
def aL37 : Ann := (fun k => if k = 2 then some [(5, (.sc (.int .i64)))] else none)
theorem V37_ok {H l o_a o_b o_c K Z} (h : V37 H l o_a o_b o_c K Z) : CallF Tryz.prog 37 #[.slice l.a l.n l.c, .agg #[.string o_a, .string o_b, .slice o_c.a o_c.n o_c.c]] H K Z :=
 fnC_sound (aJ := aJ37) (aL := aL37) (Eq.mp (by kernel_rfl) h)
def V39 (H : Hp) (l : Sl) (c_a : Int) (c_b c_c : ByteArray) (c_d : Int) (c_e : ByteArray) (c_f : Sl) (K : Value → Hp → Prop) (Z : List PanicEntry → Hp → Prop) : Prop :=
 ∀ bC H1, Newb H (.cells #[.int .i64 c_a, .string c_b, .string c_c, .int .i64 c_d, .string c_e, .slice c_f.a c_f.n c_f.c] 45) bC H1 →
  ∃ J : Int → Hp → Prop, (∀ (k : Int), ∀ H2, J k H2 → ∀ scr : Nat → Value, ∃ J1 : Hp → Prop, (∀ H3, J1  H3 →
  ∀ scr1 : Nat → Value, ∀ b H4, Newb H3 (.cells #[] 45) b H4 → (l.n ≤ l.c ∧ SlX l.a l.c 0 k 6 fun cut =>
  (App Tryz.prog #[24, 24] 24 H4 [.slice (some ⟨b, 0, none⟩) 0 0, .slice cut.a cut.n cut.c] fun ap H5 =>
  (∀ b1 H6, Newb H5 (.cells #[] 9) b1 H6 → ∃ x : Sl, hcell H6 ⟨bC, 5, none⟩ = some (.slice x.a x.n x.c) ∧
  App Tryz.prog #[33, 33] 33 H6 [.slice (some ⟨b1, 0, none⟩) 0 0, .slice x.a x.n x.c] fun ap1 H7 =>
  (StL ⟨bC, 5, none⟩ 0 [.slice ap1.a ap1.n ap1.c] H7 fun H8 => (∃ (x_a : Int) (x_b x_c : ByteArray) (x_d : Int) (x_e : ByteArray) (x_f : Sl), (hcell H8 ⟨bC, 0, none⟩ = some (.int .i64 x_a) ∧
  hcell H8 ⟨bC, 1, none⟩ = some (.string x_b) ∧ hcell H8 ⟨bC, 2, none⟩ = some (.string x_c) ∧ hcell H8 ⟨bC, 3, none⟩ = some (.int .i64 x_d) ∧
  hcell H8 ⟨bC, 4, none⟩ = some (.string x_e) ∧ hcell H8 ⟨bC, 5, none⟩ = some (.slice x_f.a x_f.n x_f.c) ∧
  True) ∧ ∀ b2 H9, Newb H8 (.cells #[.int .i64 x_a, .string x_b, .string x_c, .int .i64 x_d, .string x_e, .slice x_f.a x_f.n x_f.c] 45) b2 H9 →
  App Tryz.prog #[24, 24] 24 H9 [.slice ap.a ap.n ap.c, .slice (some ⟨b2, 0, none⟩) 1 1] fun ap2 H10 =>
  (l.n ≤ l.c ∧ SlX l.a l.c k (l.n : Int) 6 fun cut1 => (App Tryz.prog #[24, 24] 24 H10 [.slice ap2.a ap2.n ap2.c, .slice cut1.a cut1.n cut1.c] fun ap3 H11 =>
  (K (.slice ap3.a ap3.n ap3.c) H11))))))))) ∧ (((decide (k < (l.n : Int))) = true → IxA l.a l.n k 6 fun ad =>
  (∃ (x_a1 : Int) (x_b1 x_c1 : ByteArray) (x_d1 : Int) (x_e1 : ByteArray) (x_f1 : Sl), (hcell H2 ad = some (.int .i64 x_a1) ∧
  hcell H2 (Addr.add ad 1) = some (.string x_b1) ∧ hcell H2 (Addr.add ad 2) = some (.string x_c1) ∧
  hcell H2 (Addr.add ad 3) = some (.int .i64 x_d1) ∧ hcell H2 (Addr.add ad 4) = some (.string x_e1) ∧
  hcell H2 (Addr.add ad 5) = some (.slice x_f1.a x_f1.n x_f1.c) ∧ True) ∧ ∃ (x_a2 : Int) (x_b2 x_c2 : ByteArray) (x_d2 : Int) (x_e2 : ByteArray) (x_f2 : Sl), (hcell H2 ⟨bC, 0, none⟩ = some (.int .i64 x_a2) ∧
  hcell H2 ⟨bC, 1, none⟩ = some (.string x_b2) ∧ hcell H2 ⟨bC, 2, none⟩ = some (.string x_c2) ∧ hcell H2 ⟨bC, 3, none⟩ = some (.int .i64 x_d2) ∧
  hcell H2 ⟨bC, 4, none⟩ = some (.string x_e2) ∧ hcell H2 ⟨bC, 5, none⟩ = some (.slice x_f2.a x_f2.n x_f2.c) ∧
  True) ∧ CallF Tryz.prog 25 #[.agg #[.int .i64 x_a1, .string x_b1, .string x_c1, .int .i64 x_d1, .string x_e1, .slice x_f1.a x_f1.n x_f1.c], .agg #[.int .i64 x_a2, .string x_b2, .string x_c2, .int .i64 x_d2, .string x_e2, .slice x_f2.a x_f2.n x_f2.c]] H2 (fun r H12 =>
  ∃ y : Int, r = .int .i64 y ∧ (((y == 0) = true → K (.slice l.a l.n l.c) H12) ∧ ((y == 0) = false →
  (J1  H12)))) Z)) ∧ ((decide (k < (l.n : Int))) = false → (J1  H2)))) ∧ ∃ I : Int → Hp → Nat → Prop, (∃ m, I 0 H1 m) ∧
  ∀ (k1 : Int), ∀ H13 m1, I k1 H13 m1 → ∀ scr2 : Nat → Value, (((decide (k1 < (l.n : Int))) = true →
  IxA l.a l.n k1 6 fun ad1 => (∃ (x_a3 : Int) (x_b3 x_c3 : ByteArray) (x_d3 : Int) (x_e3 : ByteArray) (x_f3 : Sl), (hcell H13 ad1 = some (.int .i64 x_a3) ∧
  hcell H13 (Addr.add ad1 1) = some (.string x_b3) ∧ hcell H13 (Addr.add ad1 2) = some (.string x_c3) ∧
  hcell H13 (Addr.add ad1 3) = some (.int .i64 x_d3) ∧ hcell H13 (Addr.add ad1 4) = some (.string x_e3) ∧
  hcell H13 (Addr.add ad1 5) = some (.slice x_f3.a x_f3.n x_f3.c) ∧ True) ∧ ∃ (x_a4 : Int) (x_b4 x_c4 : ByteArray) (x_d4 : Int) (x_e4 : ByteArray) (x_f4 : Sl), (hcell H13 ⟨bC, 0, none⟩ = some (.int .i64 x_a4) ∧
  hcell H13 ⟨bC, 1, none⟩ = some (.string x_b4) ∧ hcell H13 ⟨bC, 2, none⟩ = some (.string x_c4) ∧ hcell H13 ⟨bC, 3, none⟩ = some (.int .i64 x_d4) ∧
  hcell H13 ⟨bC, 4, none⟩ = some (.string x_e4) ∧ hcell H13 ⟨bC, 5, none⟩ = some (.slice x_f4.a x_f4.n x_f4.c) ∧
  True) ∧ CallF Tryz.prog 25 #[.agg #[.int .i64 x_a3, .string x_b3, .string x_c3, .int .i64 x_d3, .string x_e3, .slice x_f3.a x_f3.n x_f3.c], .agg #[.int .i64 x_a4, .string x_b4, .string x_c4, .int .i64 x_d4, .string x_e4, .slice x_f4.a x_f4.n x_f4.c]] H13 (fun r1 H14 =>
  ∃ y1 : Int, r1 = .int .i64 y1 ∧ (((decide (y1 < 0)) = true → (∃ m2, m2 < m1 ∧ I (w64 (k1 + 1)) H14 m2)) ∧
  ((decide (y1 < 0)) = false → (J k1 H14)))) Z)) ∧ ((decide (k1 < (l.n : Int))) = false → (J k1 H13)))
def aJ39 : Ann := (fun k => if k = 4 then some [(5, (.sc (.int .i64)))] else if k = 6 then some [] else none)
def aL39 : Ann := (fun k => if k = 2 then some [(5, (.sc (.int .i64)))] else none)
theorem V39_ok {H l c_a c_b c_c c_d c_e c_f K Z} (h : V39 H l c_a c_b c_c c_d c_e c_f K Z) : CallF Tryz.prog 39 #[.slice l.a l.n l.c, .agg #[.int .i64 c_a, .string c_b, .string c_c, .int .i64 c_d, .string c_e, .slice c_f.a c_f.n c_f.c]] H K Z :=
 fnC_sound (aJ := aJ39) (aL := aL39) (Eq.mp (by kernel_rfl) h)
end Go.Proofs.YtjpkbenogloihaaGreatDoor.N16R
end
