import Derived.Test.YtjpkbenogloihaaGreatDoorZ16
import Derived.Test.YtjpkbenogloihaaGreatDoorProg
import Derived.Test.YtjpkbenogloihaaGreatDoorRows
import Derived.Deep.DeepHandedRow
import Derived.Deep.DeepWitnessRef
import Derived.Lay
import Derived.Stop.LaidErr
import Derived.Lib.LaidTab
import Derived.Lib.ItoaNum
import Derived.Lib.Space
import Derived.Lib.TrailingZeros
set_option linter.unusedVariables false
set_option linter.unusedSimpArgs false
section
namespace Go.Proofs.YtjpkbenogloihaaGreatDoor.C18
open Go Go.V Go.Proofs Go.Proofs.YtjpkbenogloihaaGreatDoor.N16 Go.Proofs.YtjpkbenogloihaaGreatDoor.P14 Go.Proofs.YtjpkbenogloihaaGreatDoor.C14 Go.Proofs.YtjpkbenogloihaaGreatDoor.P15 Go.Proofs.YtjpkbenogloihaaGreatDoor.C15
attribute [local irreducible] Cvt ExtF CallF hrun App MkS callV
def Hx {η χ : Type} (In : η → χ → Prop) (hs : List η) (xs : List χ) : Prop := hs.length = xs.length ∧ ∀ (i : Nat) h x, hs[i]? = some h → xs[i]? = some x → In h x
theorem Hx.nil {η χ : Type} {In : η → χ → Prop} : Hx In [] [] := ⟨rfl, by simp⟩
theorem Hx.app {η χ : Type} {In : η → χ → Prop} {hs hs' : List η} {xs xs' : List χ} (h : Hx In hs xs) (h' : Hx In hs' xs') : Hx In (hs ++ hs') (xs ++ xs') := by
 refine ⟨by rw [List.length_append, List.length_append, h.1, h'.1], fun i a x ha hx => ?_⟩
 rw [List.getElem?_append] at ha hx
 rw [h.1] at ha
 split at ha
 ·rename_i hlt
  rw [if_pos hlt] at hx
  exact h.2 i a x ha hx
 ·rename_i hge
  rw [if_neg hge] at hx
  exact h'.2 _ a x ha hx
abbrev S3 := Sl × Sl × Sl
def flY (s : S3) : List Value := sL s.1 s.2.1 s.2.2
theorem FlY : Fl flY 3 := ⟨fun _ => rfl, fun x v hv => one3 _ _ _ v hv⟩
def InY (H : Hp) (s : S3) (x : SysD) : Prop := RdSys H s.1 s.2.1 s.2.2 x
theorem atY {H : Hp} {l : Sl} {xs : List SysD} {x : SysD} {i : Nat} (h : RdX flY 3 InY H l xs) (hx : xs[i]? = some x) : ∃ s1 s2 s3 : Sl, RdSys H s1 s2 s3 x ∧ ∀ {K : Addr → Prop}, (∀ ad, hcell H ad = some (.slice s1.a s1.n s1.c) → hcell H (ad.add 1) = some (.slice s2.a s2.n s2.c) → hcell H (ad.add 2) = some (.slice s3.a s3.n s3.c) → K ad) → IxA l.a l.n (i : Int) 3 K := by
 obtain ⟨s, r, g⟩ := RdX.get h hx
 exact ⟨s.1, s.2.1, s.2.2, r, fun {K} k => g (hs := FlY) (hz := by decide) fun ad h2 h3 => k ad h3 (h2 1 _ rfl) (h2 2 _ rfl)⟩
theorem len_flat {α β : Type} {f : α → List β} : ∀ {l : List α} {x : α}, x ∈ l → (f x).length ≤ (l.flatMap f).length
 | y :: l, x, h => by
  rw [List.flatMap_cons, List.length_append]
  rcases List.mem_cons.1 h with rfl | h
  ·omega
  ·have := len_flat (f := f) h
   omega
theorem take_flat {α β : Type} {f : α → List β} (l : List α) (j : Nat) : ((l.take j).flatMap f).length ≤ (l.flatMap f).length := by
 conv => rhs; rw [← List.take_append_drop j l]
 rw [List.flatMap_append, List.length_append]
 omega
theorem ok_part {xs : List SysD} (h : OkSys (catS xs)) {x : SysD} (hx : x ∈ xs) : OkSys x := by
 have a := len_flat (f := SysD.objs) hx
 have b := len_flat (f := SysD.fns) hx
 have c := len_flat (f := SysD.cons) hx
 exact ⟨⟨Nat.le_trans a h.o.1, fun o hm => h.o.2 o (List.mem_flatMap.2 ⟨x, hx, hm⟩)⟩, ⟨Nat.le_trans b h.f.1, fun o hm => h.f.2 o (List.mem_flatMap.2 ⟨x, hx, hm⟩)⟩, ⟨Nat.le_trans c h.c.1, fun o hm => h.c.2 o (List.mem_flatMap.2 ⟨x, hx, hm⟩)⟩⟩
theorem ok_can {s t : SysD} (h : OkSys s) (hc : IsCanS s t) : OkSys t := by
 have a := hc.o.len linCL
 have b := hc.f.len linCL
 have c := hc.c.len linC
 have ho := h.o.1
 have hf := h.f.1
 have hc' := h.c.1
 exact ⟨⟨by omega, fun o hm => h.o.2 o ((hc.o.mem o).1 hm)⟩, ⟨by omega, fun o hm => h.f.2 o ((hc.f.mem o).1 hm)⟩, ⟨by omega, fun o hm => h.c.2 o ((hc.c.mem o).1 hm)⟩⟩
theorem nil_ok : OkSys nilS := ⟨⟨by decide, by simp [nilS]⟩, ⟨by decide, by simp [nilS]⟩, ⟨by decide, by simp [nilS]⟩⟩
theorem uni_ok {xs : List SysD} {r : SysD} {e : Int} (h : OkSys (catS xs)) (hu : UniR xs r e) : OkSys r := by
 rcases hu with ⟨_, _, rfl⟩ | ⟨_, t, ht, h1 | h1 | h1⟩
 ·exact nil_ok
 ·rw [h1.2.2]; exact nil_ok
 ·rw [h1.2.2.2]; exact nil_ok
 ·rw [h1.2.2.2]; exact ok_can h ht
theorem first_at : ∀ {xs : List SysD} {j : Nat} {x : SysD}, (∀ s ∈ xs.take j, checkE s = 0) → xs[j]? = some x → checkE x ≠ 0 → firstE (xs.map checkE) = checkE x
 | [], j, x, _, hx, _ => by simp at hx
 | y :: xs, 0, x, _, hx, hne => by
  have : y = x := by simpa using hx
  subst this
  rw [List.map_cons, firstE, if_pos hne]
 | y :: xs, j + 1, x, h, hx, hne => by
  have h0 : checkE y = 0 := h y (by simp)
  rw [List.map_cons, firstE, if_neg (fun h' => h' h0)]
  exact first_at (j := j) (fun s hs => h s (by rw [List.take_succ_cons]; exact List.mem_cons_of_mem _ hs)) (by simpa using hx) hne
abbrev n0 : Sl := ⟨none, 0, 0⟩
theorem rd_nil {H : Hp} : RdSys H n0 n0 n0 nilS := ⟨RdX.nil, Rd.nil, RdX.nil⟩
theorem cat_snoc {xs : List SysD} {j : Nat} {x : SysD} (hx : xs[j]? = some x) : (catS (xs.take (j + 1))).objs = (catS (xs.take j)).objs ++ x.objs ∧ (catS (xs.take (j + 1))).fns = (catS (xs.take j)).fns ++ x.fns ∧ (catS (xs.take (j + 1))).cons = (catS (xs.take j)).cons ++ x.cons :=
 ⟨flat_snoc (f := SysD.objs) hx, flat_snoc (f := SysD.fns) hx, flat_snoc (f := SysD.cons) hx⟩
abbrev UL (bAll b : Nat) (l1 l2 l3 : Sl) (ho : List HO) (fs : List FnD) (hc : List HC) : List It := [arr flHO 43 3 l1 ho, arr flF 49 3 l2 fs, arr flHC 45 6 l3 hc, blk bAll (sL l1 l2 l3) 26, blk b zS 26]
abbrev UT (bAll b : Nat) (l1 l2 l3 : Sl) (ho : List HO) (fs : List FnD) (hc : List HC) (y y1 y2 : Sl) (z : List Value) : List It := [arr flHO 43 3 l1 ho, arr flF 49 3 l2 fs, arr flHC 45 6 l3 hc, blk bAll (sL y y1 y2) 26, blk b z 26]
section
variable {H : Hp} {K : Value → Hp → Prop} {Z : List PanicEntry → Hp → Prop}
theorem union_ok {l : Sl} {xs : List SysD} (h : RdX flY 3 InY H l xs) (hx : OkSys (catS xs)) (hn : xs.length ≤ 1000) (ht : Pw H)
  (k : ∀ t1 t2 t3 r e E, Fr no H E → UniR xs r e → RdSys E t1 t2 t3 r → K (.tuple #[sAg t1 t2 t3, .int .i64 e]) E) : CallF Tryz.prog 8 #[.slice l.a l.n l.c] H K Z := by
 refine V8_ok ?_
 unfold V8
 intro b A hA bAll B hB
 have sA := (Sym.start H).newb (cs := zS) hA
 have sB := sA.newb (cs := zS) hB
 have ln := RdX.len h
 have bo := hx.o.1
 have bf := hx.f.1
 have bc := hx.c.1
 refine ⟨fun i C m => ∃ (j : Nat) (l1 l2 l3 : Sl) (ho : List HO) (hc : List HC), i = (j : Int) ∧ j ≤ xs.length ∧ m = xs.length - j ∧ (∀ s ∈ xs.take j, checkE s = 0) ∧ Hx (InO H) ho (catS (xs.take j)).objs ∧ Hx (InC H) hc (catS (xs.take j)).cons ∧
  Sym H no C (UL bAll b l1 l2 l3 ho (catS (xs.take j)).fns hc), ⟨_, 0, n0, n0, n0, [], [], rfl, Nat.zero_le _, rfl, by simp, Hx.nil, Hx.nil, ((sB.nilrow flHC 45 6).nilrow flF 49 3).nilrow flHO 43 3⟩, ?_⟩
 rintro i C m ⟨j, l1, l2, l3, ho, hc, rfl, hj, rfl, hall, qo, qc, sC⟩ scr
 have fC := sC.fr
 refine ⟨fun hlt => ?_, fun hge => ?_⟩
 ·have hj' : j < xs.length := by have := dlt hlt; omega
  obtain ⟨x, hxj, hxm⟩ := getN hj'
  obtain ⟨s1, s2, s3, hs, ix⟩ := atY h hxj
  have okx := ok_part hx hxm
  obtain ⟨e1, e2, e3⟩ := cat_snoc hxj
  refine ix fun ad g0 g1 g2 => ⟨s1, s2, s3, ⟨lf fC g0, lf fC g1, lf fC g2, trivial⟩, fun bS D hD => ?_⟩
  have sD := sC.newb (cs := zS) hD
  refine sD.stbs (k := 0) (i := 0) (vs := sL s1 s2 s3) rfl (by simp) (one3 _ _ _) fun E sE => ?_
  replace sE : Sym H no E (blk bS (sL s1 s2 s3) 26 :: UL bAll b l1 l2 l3 ho (catS (xs.take j)).fns hc) := sE
  refine ⟨s1, s2, s3, ⟨sE.ld (k := 0) rfl 0, sE.ld (k := 0) rfl 1, sE.ld (k := 0) rfl 2, trivial⟩, check_ok (hs.more sE.fr) okx (TabH.more ht sE.fr) fun F fF => ⟨_, rfl, fun hne => ?_, fun heq => ?_⟩⟩
  ·have sF := sE.more fF
   have hne := bne_iff_ne.1 hne
   refine sF.stbs (k := 5) (i := 0) (vs := sL n0 n0 n0) rfl (by simp) (one3 _ _ _) fun G sG => ?_
   replace sG : Sym H no G (blk bS (sL s1 s2 s3) 26 :: UL bAll b l1 l2 l3 ho (catS (xs.take j)).fns hc) := sG
   have hfe := first_at hall hxj hne
   exact ⟨n0, n0, n0, ⟨sG.ld (k := 5) rfl 0, sG.ld (k := 5) rfl 1, sG.ld (k := 5) rfl 2, trivial⟩, k n0 n0 n0 nilS _ G sG.fr (.inl ⟨by rw [hfe]; exact hne, hfe.symm, rfl⟩) rd_nil⟩
  ·have h0 := bne_eq_false_iff_eq.1 heq
   have sF := sE.more fF
   have n1 := (Sym.rd (k := 1) sF FlHO (by decide) rfl).len
   have n2 := (Sym.rd (k := 2) sF FlF (by decide) rfl).len
   have n3 := (Sym.rd (k := 3) sF FlHC (by decide) rfl).len
   have b1 : (catS (xs.take j)).objs.length ≤ (catS xs).objs.length := take_flat _ _
   have b2 : (catS (xs.take j)).fns.length ≤ (catS xs).fns.length := take_flat _ _
   have b3 : (catS (xs.take j)).cons.length ≤ (catS xs).cons.length := take_flat _ _
   have c1 := okx.o.1
   have c2 := okx.f.1
   have c3 := okx.c.1
   obtain ⟨ro, r1, r2, r3⟩ := hs.o
   obtain ⟨rc, u1, u2, u3⟩ := hs.c
   have q1 := qo.1
   have q3 := qc.1
   refine ⟨l1, sF.ld (k := 4) rfl 0, s1, sF.ld (k := 0) rfl 0, Sym.appR (k := 1) C16O.tyE sF FlHO (by decide) rfl (r1.more sF.fr) (by rw [n1, r2]; omega) fun p1 G nG sG => ?_⟩
   replace sG : Sym H no G [blk bS (sL s1 s2 s3) 26, arr flHO 43 3 p1 (ho ++ ro), arr flF 49 3 l2 (catS (xs.take j)).fns, arr flHC 45 6 l3 hc, blk bAll (sL l1 l2 l3) 26, blk b zS 26] := sG
   refine sG.stbs (k := 4) (i := 0) (vs := [.slice p1.a p1.n p1.c]) rfl (by simp) (fun v hv => by rw [List.mem_singleton.1 hv]; rfl) fun I sI => ?_
   replace sI : Sym H no I [blk bS (sL s1 s2 s3) 26, arr flHO 43 3 p1 (ho ++ ro), arr flF 49 3 l2 (catS (xs.take j)).fns, arr flHC 45 6 l3 hc, blk bAll (sL p1 l2 l3) 26, blk b zS 26] := sI
   refine ⟨l2, sI.ld (k := 4) rfl 1, s2, sI.ld (k := 0) rfl 1, Sym.appR (k := 2) C16F.tyE sI FlF (by decide) rfl (hs.f.more sI.fr) (by rw [n2]; omega) fun p2 L nL sL' => ?_⟩
   replace sL' : Sym H no L [blk bS (sL s1 s2 s3) 26, arr flHO 43 3 p1 (ho ++ ro), arr flF 49 3 p2 ((catS (xs.take j)).fns ++ x.fns), arr flHC 45 6 l3 hc, blk bAll (sL p1 l2 l3) 26, blk b zS 26] := sL'
   refine sL'.stbs (k := 4) (i := 1) (vs := [.slice p2.a p2.n p2.c]) rfl (by simp) (fun v hv => by rw [List.mem_singleton.1 hv]; rfl) fun M sM => ?_
   replace sM : Sym H no M [blk bS (sL s1 s2 s3) 26, arr flHO 43 3 p1 (ho ++ ro), arr flF 49 3 p2 ((catS (xs.take j)).fns ++ x.fns), arr flHC 45 6 l3 hc, blk bAll (sL p1 p2 l3) 26, blk b zS 26] := sM
   refine ⟨l3, sM.ld (k := 4) rfl 2, s3, sM.ld (k := 0) rfl 2, Sym.appR (k := 3) C16C.tyE sM FlHC (by decide) rfl (u1.more sM.fr) (by rw [n3, u2]; omega) fun p3 N nN sN => ?_⟩
   replace sN : Sym H no N [blk bS (sL s1 s2 s3) 26, arr flHO 43 3 p1 (ho ++ ro), arr flF 49 3 p2 ((catS (xs.take j)).fns ++ x.fns), arr flHC 45 6 p3 (hc ++ rc), blk bAll (sL p1 p2 l3) 26, blk b zS 26] := sN
   refine sN.stbs (k := 4) (i := 2) (vs := [.slice p3.a p3.n p3.c]) rfl (by simp) (fun v hv => by rw [List.mem_singleton.1 hv]; rfl) fun O sO => ?_
   replace sO : Sym H no O [blk bS (sL s1 s2 s3) 26, arr flHO 43 3 p1 (ho ++ ro), arr flF 49 3 p2 ((catS (xs.take j)).fns ++ x.fns), arr flHC 45 6 p3 (hc ++ rc), blk bAll (sL p1 p2 p3) 26, blk b zS 26] := sO
   refine ⟨xs.length - (j + 1), by omega, j + 1, p1, p2, p3, ho ++ ro, hc ++ rc, wi (by omega), hj', rfl, all_snoc hxj hall h0, ?_, ?_, ?_⟩
   ·rw [e1]
    exact qo.app ⟨r2, r3⟩
   ·rw [e3]
    exact qc.app ⟨u2, u3⟩
   ·rw [e2]
    exact sO.drop
 ·have hje : j = xs.length := by have := dge hge; omega
  rw [hje, List.take_length] at hall qo qc sC
  have hrd : RdSys C l1 l2 l3 (catS xs) := ⟨⟨ho, Sym.rd (k := 0) sC FlHO (by decide) rfl, qo.1, fun i a x ha hx => (qo.2 i a x ha hx).more fC⟩, Sym.rd (k := 1) sC FlF (by decide) rfl, ⟨hc, Sym.rd (k := 2) sC FlHC (by decide) rfl, qc.1, fun i a x ha hx => (qc.2 i a x ha hx).more fC⟩⟩
  refine ⟨l1, l2, l3, ⟨sC.ld (k := 3) rfl 0, sC.ld (k := 3) rfl 1, sC.ld (k := 3) rfl 2, trivial⟩, canon_ok hrd hx.len fun c t E sE hg hcan => ⟨c.y, c.y1, c.y2, rfl, ?_⟩⟩
  have sJ : Sym H no E (c.its ++ UT bAll b l1 l2 l3 ho (catS xs).fns hc l1 l2 l3 zS) := sC.join sE
  refine sJ.stbs (k := 8) (i := 0) (vs := sL c.y c.y1 c.y2) rfl (by simp) (one3 _ _ _) fun F sF => ?_
  replace sF : Sym H no F (c.its ++ UT bAll b l1 l2 l3 ho (catS xs).fns hc c.y c.y1 c.y2 zS) := sF
  have okt := ok_can hx hcan
  have hz : firstE (xs.map checkE) = 0 := firstE_0.2 fun y hy => by obtain ⟨s, hs, rfl⟩ := List.mem_map.1 hy; exact hall s hs
  have hpt : OkPart (catS xs) := cat_part hall
  have hck := can_check hcan hpt
  have hck4 := checkE_4 (can_part hcan hpt)
  have rdt : ∀ {G : Hp} {R : List It}, Sym H no G (c.its ++ R) → RdSys G c.y c.y1 c.y2 t := fun s => CanS.rd (fun a ha => s.ok a (List.mem_append_left _ ha)) hg
  have bad : ∀ {G : Hp} {e : Int}, Sym H no G (c.its ++ UT bAll b l1 l2 l3 ho (catS xs).fns hc c.y c.y1 c.y2 zS) → UniR xs nilS e → StL ⟨b, 0, none⟩ 0 [.slice none 0 0, .slice none 0 0, .slice none 0 0] G fun H19 => (∃ res_a res_b res_c : Sl, (hcell H19 ⟨b, 0, none⟩ = some (.slice res_a.a res_a.n res_a.c) ∧ hcell H19 ⟨b, 1, none⟩ = some (.slice res_b.a res_b.n res_b.c) ∧ hcell H19 ⟨b, 2, none⟩ = some (.slice res_c.a res_c.n res_c.c) ∧ True) ∧ K (.tuple #[.agg #[.slice res_a.a res_a.n res_a.c, .slice res_b.a res_b.n res_b.c, .slice res_c.a res_c.n res_c.c], .int .i64 e]) H19) := by
   intro G e sG hu
   refine sG.stbs (k := 9) (i := 0) (vs := sL n0 n0 n0) rfl (by simp) (one3 _ _ _) fun I sI => ?_
   replace sI : Sym H no I (c.its ++ UT bAll b l1 l2 l3 ho (catS xs).fns hc c.y c.y1 c.y2 zS) := sI
   exact ⟨n0, n0, n0, ⟨sI.ld (k := 9) rfl 0, sI.ld (k := 9) rfl 1, sI.ld (k := 9) rfl 2, trivial⟩, k n0 n0 n0 nilS _ I sI.fr hu rd_nil⟩
  refine ⟨c.y, c.y1, c.y2, ⟨sF.ld (k := 8) rfl 0, sF.ld (k := 8) rfl 1, sF.ld (k := 8) rfl 2, trivial⟩, check_ok (rdt sF) okt (TabH.more ht sF.fr) fun G fG => ⟨_, rfl, fun h0 => ?_, fun h0 => ⟨fun h4 => ?_, fun h4 => ?_⟩⟩⟩
  ·have sG := sF.more fG
   have h0 := hck.1 (eqI.1 h0)
   refine ⟨c.y, c.y1, c.y2, ⟨sG.ld (k := 8) rfl 0, sG.ld (k := 8) rfl 1, sG.ld (k := 8) rfl 2, trivial⟩, sG.stbs (k := 9) (i := 0) (vs := sL c.y c.y1 c.y2) rfl (by simp) (one3 _ _ _) fun I sI => ?_⟩
   replace sI : Sym H no I (c.its ++ UT bAll b l1 l2 l3 ho (catS xs).fns hc c.y c.y1 c.y2 (sL c.y c.y1 c.y2)) := sI
   exact ⟨c.y, c.y1, c.y2, ⟨sI.ld (k := 9) rfl 0, sI.ld (k := 9) rfl 1, sI.ld (k := 9) rfl 2, trivial⟩, k _ _ _ t _ I sI.fr (.inr ⟨hz, t, hcan, .inr (.inr ⟨h0.1, h0.2, rfl, rfl⟩)⟩) (rdt sI)⟩
  ·have sG := sF.more fG
   have hbig := hck4.1 (eqI.1 h4)
   refine ⟨c.y, c.y1, c.y2, ⟨sG.ld (k := 8) rfl 0, sG.ld (k := 8) rfl 1, sG.ld (k := 8) rfl 2, trivial⟩, twice_ok (rdt sG) okt.len fun bo I fI hb => ⟨_, rfl, fun hT => ?_, fun hT => ?_⟩⟩
   ·exact bad (sG.more fI) (.inr ⟨hz, t, hcan, .inl ⟨hb.1 hT, rfl, rfl⟩⟩)
   ·have ho : once t := Classical.byContradiction fun hno => by rw [hb.2 hno] at hT; cases hT
    exact bad (sG.more fI) (.inr ⟨hz, t, hcan, .inr (.inl ⟨ho, hbig, rfl, rfl⟩)⟩)
  ·have hno : ¬ once t := fun ho => (neI.1 h0) (hck.2 ⟨ho, fun hb => (neI.1 h4) (hck4.2 hb)⟩)
   exact bad (sF.more fG) (.inr ⟨hz, t, hcan, .inl ⟨hno, rfl, rfl⟩⟩)
end
end Go.Proofs.YtjpkbenogloihaaGreatDoor.C18
end
section
set_option maxRecDepth 100000
namespace Go.Proofs.YtjpkbenogloihaaGreatDoor.N16L
open Go Go.V Go.Proofs
def V5 (H : Hp) (a_a a_b a_c b_a b_b b_c c_a c_b c_c : Sl) (K : Value → Hp → Prop) (Z : List PanicEntry → Hp → Prop) : Prop :=
 ∀ bA H1, Newb H (.cells #[.slice a_a.a a_a.n a_a.c, .slice a_b.a a_b.n a_b.c, .slice a_c.a a_c.n a_c.c] 26) bA H1 →
  ∀ bB H2, Newb H1 (.cells #[.slice b_a.a b_a.n b_a.c, .slice b_b.a b_b.n b_b.c, .slice b_c.a b_c.n b_c.c] 26) bB H2 →
  ∀ bC H3, Newb H2 (.cells #[.slice c_a.a c_a.n c_a.c, .slice c_b.a c_b.n c_b.c, .slice c_c.a c_c.n c_c.c] 26) bC H3 →
  CallF Tryz.prog 6 #[] H3 (fun r H4 => ∃ y : Bool, r = .bool y ∧ (((!y) = true → K (.bool false) H4) ∧
  ((!y) = false → ∃ J : Hp → Prop, (∀ H5, J  H5 → ∀ scr : Nat → Value, ∃ x_a x_b x_c : Sl, (hcell H5 ⟨bA, 0, none⟩ = some (.slice x_a.a x_a.n x_a.c) ∧
  hcell H5 ⟨bA, 1, none⟩ = some (.slice x_b.a x_b.n x_b.c) ∧ hcell H5 ⟨bA, 2, none⟩ = some (.slice x_c.a x_c.n x_c.c) ∧
  True) ∧ CallF Tryz.prog 15 #[.agg #[.slice x_a.a x_a.n x_a.c, .slice x_b.a x_b.n x_b.c, .slice x_c.a x_c.n x_c.c]] H5 (fun r1 H6 =>
  ∃ y_a y_b y_c : Sl, r1 = .agg #[.slice y_a.a y_a.n y_a.c, .slice y_b.a y_b.n y_b.c, .slice y_c.a y_c.n y_c.c] ∧
  ∀ bX H7, Newb H6 (.cells #[.slice none 0 0, .slice none 0 0, .slice none 0 0] 26) bX H7 → StL ⟨bX, 0, none⟩ 0 [.slice y_a.a y_a.n y_a.c, .slice y_b.a y_b.n y_b.c, .slice y_c.a y_c.n y_c.c] H7 fun H8 =>
  (∃ x_a1 x_b1 x_c1 : Sl, (hcell H8 ⟨bX, 0, none⟩ = some (.slice x_a1.a x_a1.n x_a1.c) ∧
  hcell H8 ⟨bX, 1, none⟩ = some (.slice x_b1.a x_b1.n x_b1.c) ∧ hcell H8 ⟨bX, 2, none⟩ = some (.slice x_c1.a x_c1.n x_c1.c) ∧
  True) ∧ ∃ x_a2 x_b2 x_c2 : Sl, (hcell H8 ⟨bX, 0, none⟩ = some (.slice x_a2.a x_a2.n x_a2.c) ∧
  hcell H8 ⟨bX, 1, none⟩ = some (.slice x_b2.a x_b2.n x_b2.c) ∧ hcell H8 ⟨bX, 2, none⟩ = some (.slice x_c2.a x_c2.n x_c2.c) ∧
  True) ∧ CallF Tryz.prog 15 #[.agg #[.slice x_a1.a x_a1.n x_a1.c, .slice x_b1.a x_b1.n x_b1.c, .slice x_c1.a x_c1.n x_c1.c]] H8 (fun r2 H9 =>
  ∃ y_a1 y_b1 y_c1 : Sl, r2 = .agg #[.slice y_a1.a y_a1.n y_a1.c, .slice y_b1.a y_b1.n y_b1.c, .slice y_c1.a y_c1.n y_c1.c] ∧
  ((hcell H9 ⟨bX, 0, none⟩ = some (.slice x_a2.a x_a2.n x_a2.c) ∧ hcell H9 ⟨bX, 1, none⟩ = some (.slice x_b2.a x_b2.n x_b2.c) ∧
  hcell H9 ⟨bX, 2, none⟩ = some (.slice x_c2.a x_c2.n x_c2.c) ∧ True) ∧ CallF Tryz.prog 17 #[.agg #[.slice y_a1.a y_a1.n y_a1.c, .slice y_b1.a y_b1.n y_b1.c, .slice y_c1.a y_c1.n y_c1.c], .agg #[.slice x_a2.a x_a2.n x_a2.c, .slice x_b2.a x_b2.n x_b2.c, .slice x_c2.a x_c2.n x_c2.c]] H9 (fun r3 H10 =>
  ∃ y1 : Bool, r3 = .bool y1 ∧ (((!y1) = true → K (.bool false) H10) ∧ ((!y1) = false → ∃ x_a3 x_b3 x_c3 : Sl, (hcell H10 ⟨bA, 0, none⟩ = some (.slice x_a3.a x_a3.n x_a3.c) ∧
  hcell H10 ⟨bA, 1, none⟩ = some (.slice x_b3.a x_b3.n x_b3.c) ∧ hcell H10 ⟨bA, 2, none⟩ = some (.slice x_c3.a x_c3.n x_c3.c) ∧
  True) ∧ ∃ x_a4 x_b4 x_c4 : Sl, (hcell H10 ⟨bB, 0, none⟩ = some (.slice x_a4.a x_a4.n x_a4.c) ∧
  hcell H10 ⟨bB, 1, none⟩ = some (.slice x_b4.a x_b4.n x_b4.c) ∧ hcell H10 ⟨bB, 2, none⟩ = some (.slice x_c4.a x_c4.n x_c4.c) ∧
  True) ∧ ∃ x_a5 x_b5 x_c5 : Sl, (hcell H10 ⟨bC, 0, none⟩ = some (.slice x_a5.a x_a5.n x_a5.c) ∧
  hcell H10 ⟨bC, 1, none⟩ = some (.slice x_b5.a x_b5.n x_b5.c) ∧ hcell H10 ⟨bC, 2, none⟩ = some (.slice x_c5.a x_c5.n x_c5.c) ∧
  True) ∧ ∀ b H11, Newb H10 (.cells #[.slice x_a3.a x_a3.n x_a3.c, .slice x_b3.a x_b3.n x_b3.c, .slice x_c3.a x_c3.n x_c3.c, .slice x_a4.a x_a4.n x_a4.c, .slice x_b4.a x_b4.n x_b4.c, .slice x_c4.a x_c4.n x_c4.c, .slice x_a5.a x_a5.n x_a5.c, .slice x_b5.a x_b5.n x_b5.c, .slice x_c5.a x_c5.n x_c5.c] 26) b H11 →
  CallF Tryz.prog 8 #[.slice (some ⟨b, 0, none⟩) 3 3] H11 (fun r4 H12 => ∃ (y_0_a y_0_b y_0_c : Sl) (y_1 : Int), r4 = .tuple #[.agg #[.slice y_0_a.a y_0_a.n y_0_a.c, .slice y_0_b.a y_0_b.n y_0_b.c, .slice y_0_c.a y_0_c.n y_0_c.c], .int .i64 y_1] ∧
  ∀ bU H13, Newb H12 (.cells #[.slice none 0 0, .slice none 0 0, .slice none 0 0] 26) bU H13 → StL ⟨bU, 0, none⟩ 0 [.slice y_0_a.a y_0_a.n y_0_a.c, .slice y_0_b.a y_0_b.n y_0_b.c, .slice y_0_c.a y_0_c.n y_0_c.c] H13 fun H14 =>
  (∃ x_a6 x_b6 x_c6 : Sl, (hcell H14 ⟨bC, 0, none⟩ = some (.slice x_a6.a x_a6.n x_a6.c) ∧
  hcell H14 ⟨bC, 1, none⟩ = some (.slice x_b6.a x_b6.n x_b6.c) ∧ hcell H14 ⟨bC, 2, none⟩ = some (.slice x_c6.a x_c6.n x_c6.c) ∧
  True) ∧ ∃ x_a7 x_b7 x_c7 : Sl, (hcell H14 ⟨bA, 0, none⟩ = some (.slice x_a7.a x_a7.n x_a7.c) ∧
  hcell H14 ⟨bA, 1, none⟩ = some (.slice x_b7.a x_b7.n x_b7.c) ∧ hcell H14 ⟨bA, 2, none⟩ = some (.slice x_c7.a x_c7.n x_c7.c) ∧
  True) ∧ ∃ x_a8 x_b8 x_c8 : Sl, (hcell H14 ⟨bB, 0, none⟩ = some (.slice x_a8.a x_a8.n x_a8.c) ∧
  hcell H14 ⟨bB, 1, none⟩ = some (.slice x_b8.a x_b8.n x_b8.c) ∧ hcell H14 ⟨bB, 2, none⟩ = some (.slice x_c8.a x_c8.n x_c8.c) ∧
  True) ∧ ∃ x_a9 x_b9 x_c9 : Sl, (hcell H14 ⟨bA, 0, none⟩ = some (.slice x_a9.a x_a9.n x_a9.c) ∧
  hcell H14 ⟨bA, 1, none⟩ = some (.slice x_b9.a x_b9.n x_b9.c) ∧ hcell H14 ⟨bA, 2, none⟩ = some (.slice x_c9.a x_c9.n x_c9.c) ∧
  True) ∧ ∀ b1 H15, Newb H14 (.cells #[.slice x_a6.a x_a6.n x_a6.c, .slice x_b6.a x_b6.n x_b6.c, .slice x_c6.a x_c6.n x_c6.c, .slice x_a7.a x_a7.n x_a7.c, .slice x_b7.a x_b7.n x_b7.c, .slice x_c7.a x_c7.n x_c7.c, .slice x_a8.a x_a8.n x_a8.c, .slice x_b8.a x_b8.n x_b8.c, .slice x_c8.a x_c8.n x_c8.c, .slice x_a9.a x_a9.n x_a9.c, .slice x_b9.a x_b9.n x_b9.c, .slice x_c9.a x_c9.n x_c9.c] 26) b1 H15 →
  CallF Tryz.prog 8 #[.slice (some ⟨b1, 0, none⟩) 4 4] H15 (fun r5 H16 => ∃ (y_0_a1 y_0_b1 y_0_c1 : Sl) (y_11 : Int), r5 = .tuple #[.agg #[.slice y_0_a1.a y_0_a1.n y_0_a1.c, .slice y_0_b1.a y_0_b1.n y_0_b1.c, .slice y_0_c1.a y_0_c1.n y_0_c1.c], .int .i64 y_11] ∧
  ∀ bV H17, Newb H16 (.cells #[.slice none 0 0, .slice none 0 0, .slice none 0 0] 26) bV H17 → StL ⟨bV, 0, none⟩ 0 [.slice y_0_a1.a y_0_a1.n y_0_a1.c, .slice y_0_b1.a y_0_b1.n y_0_b1.c, .slice y_0_c1.a y_0_c1.n y_0_c1.c] H17 fun H18 =>
  (∃ J1 : Hp → Prop, (∀ H19, J1  H19 → ∀ scr1 : Nat → Value, (((y_1 != 0) = true → K (.bool true) H19) ∧
  ((y_1 != 0) = false → ∃ x_a10 x_b10 x_c10 : Sl, (hcell H19 ⟨bA, 0, none⟩ = some (.slice x_a10.a x_a10.n x_a10.c) ∧
  hcell H19 ⟨bA, 1, none⟩ = some (.slice x_b10.a x_b10.n x_b10.c) ∧ hcell H19 ⟨bA, 2, none⟩ = some (.slice x_c10.a x_c10.n x_c10.c) ∧
  True) ∧ ∃ x_a11 x_b11 x_c11 : Sl, (hcell H19 ⟨bB, 0, none⟩ = some (.slice x_a11.a x_a11.n x_a11.c) ∧
  hcell H19 ⟨bB, 1, none⟩ = some (.slice x_b11.a x_b11.n x_b11.c) ∧ hcell H19 ⟨bB, 2, none⟩ = some (.slice x_c11.a x_c11.n x_c11.c) ∧
  True) ∧ ∀ b2 H20, Newb H19 (.cells #[.slice x_a10.a x_a10.n x_a10.c, .slice x_b10.a x_b10.n x_b10.c, .slice x_c10.a x_c10.n x_c10.c, .slice x_a11.a x_a11.n x_a11.c, .slice x_b11.a x_b11.n x_b11.c, .slice x_c11.a x_c11.n x_c11.c] 26) b2 H20 →
  CallF Tryz.prog 8 #[.slice (some ⟨b2, 0, none⟩) 2 2] H20 (fun r6 H21 => ∃ (y_0_a2 y_0_b2 y_0_c2 : Sl) (y_12 : Int), r6 = .tuple #[.agg #[.slice y_0_a2.a y_0_a2.n y_0_a2.c, .slice y_0_b2.a y_0_b2.n y_0_b2.c, .slice y_0_c2.a y_0_c2.n y_0_c2.c], .int .i64 y_12] ∧
  ∀ bW H22, Newb H21 (.cells #[.slice none 0 0, .slice none 0 0, .slice none 0 0] 26) bW H22 → StL ⟨bW, 0, none⟩ 0 [.slice y_0_a2.a y_0_a2.n y_0_a2.c, .slice y_0_b2.a y_0_b2.n y_0_b2.c, .slice y_0_c2.a y_0_c2.n y_0_c2.c] H22 fun H23 =>
  (((y_12 != 0) = true → K (.bool false) H23) ∧ ((y_12 != 0) = false → ∃ x_a12 x_b12 x_c12 : Sl, (hcell H23 ⟨bW, 0, none⟩ = some (.slice x_a12.a x_a12.n x_a12.c) ∧
  hcell H23 ⟨bW, 1, none⟩ = some (.slice x_b12.a x_b12.n x_b12.c) ∧ hcell H23 ⟨bW, 2, none⟩ = some (.slice x_c12.a x_c12.n x_c12.c) ∧
  True) ∧ ∃ x_a13 x_b13 x_c13 : Sl, (hcell H23 ⟨bC, 0, none⟩ = some (.slice x_a13.a x_a13.n x_a13.c) ∧
  hcell H23 ⟨bC, 1, none⟩ = some (.slice x_b13.a x_b13.n x_b13.c) ∧ hcell H23 ⟨bC, 2, none⟩ = some (.slice x_c13.a x_c13.n x_c13.c) ∧
  True) ∧ ∀ b3 H24, Newb H23 (.cells #[.slice x_a12.a x_a12.n x_a12.c, .slice x_b12.a x_b12.n x_b12.c, .slice x_c12.a x_c12.n x_c12.c, .slice x_a13.a x_a13.n x_a13.c, .slice x_b13.a x_b13.n x_b13.c, .slice x_c13.a x_c13.n x_c13.c] 26) b3 H24 →
  CallF Tryz.prog 8 #[.slice (some ⟨b3, 0, none⟩) 2 2] H24 (fun r7 H25 => ∃ (y_0_a3 y_0_b3 y_0_c3 : Sl) (y_13 : Int), r7 = .tuple #[.agg #[.slice y_0_a3.a y_0_a3.n y_0_a3.c, .slice y_0_b3.a y_0_b3.n y_0_b3.c, .slice y_0_c3.a y_0_c3.n y_0_c3.c], .int .i64 y_13] ∧
  ∀ bZ H26, Newb H25 (.cells #[.slice none 0 0, .slice none 0 0, .slice none 0 0] 26) bZ H26 → StL ⟨bZ, 0, none⟩ 0 [.slice y_0_a3.a y_0_a3.n y_0_a3.c, .slice y_0_b3.a y_0_b3.n y_0_b3.c, .slice y_0_c3.a y_0_c3.n y_0_c3.c] H26 fun H27 =>
  (((y_13 == 0) = true → ∃ x_a14 x_b14 x_c14 : Sl, (hcell H27 ⟨bZ, 0, none⟩ = some (.slice x_a14.a x_a14.n x_a14.c) ∧
  hcell H27 ⟨bZ, 1, none⟩ = some (.slice x_b14.a x_b14.n x_b14.c) ∧ hcell H27 ⟨bZ, 2, none⟩ = some (.slice x_c14.a x_c14.n x_c14.c) ∧
  True) ∧ ∃ x_a15 x_b15 x_c15 : Sl, (hcell H27 ⟨bU, 0, none⟩ = some (.slice x_a15.a x_a15.n x_a15.c) ∧
  hcell H27 ⟨bU, 1, none⟩ = some (.slice x_b15.a x_b15.n x_b15.c) ∧ hcell H27 ⟨bU, 2, none⟩ = some (.slice x_c15.a x_c15.n x_c15.c) ∧
  True) ∧ CallF Tryz.prog 17 #[.agg #[.slice x_a14.a x_a14.n x_a14.c, .slice x_b14.a x_b14.n x_b14.c, .slice x_c14.a x_c14.n x_c14.c], .agg #[.slice x_a15.a x_a15.n x_a15.c, .slice x_b15.a x_b15.n x_b15.c, .slice x_c15.a x_c15.n x_c15.c]] H27 (fun r8 H28 =>
  ∃ y2 : Bool, r8 = .bool y2 ∧ ((y2 = true → ∃ x_a16 x_b16 x_c16 : Sl, (hcell H28 ⟨bU, 0, none⟩ = some (.slice x_a16.a x_a16.n x_a16.c) ∧
  hcell H28 ⟨bU, 1, none⟩ = some (.slice x_b16.a x_b16.n x_b16.c) ∧ hcell H28 ⟨bU, 2, none⟩ = some (.slice x_c16.a x_c16.n x_c16.c) ∧
  True) ∧ CallF Tryz.prog 18 #[.agg #[.slice x_a16.a x_a16.n x_a16.c, .slice x_b16.a x_b16.n x_b16.c, .slice x_c16.a x_c16.n x_c16.c]] H28 (fun r9 H29 =>
  ∃ y3 : Int, r9 = .int .i64 y3 ∧ K (.bool (y3 == 0)) H29) Z) ∧ (y2 = false → K (.bool false) H28))) Z) ∧
  ((y_13 == 0) = false → K (.bool false) H27))) Z))) Z))) ∧ (((!((y_1 == 0) == (y_11 == 0))) = true →
  K (.bool false) H18) ∧ ((!((y_1 == 0) == (y_11 == 0))) = false → (((y_1 == 0) = true → ∃ x_a17 x_b17 x_c17 : Sl, (hcell H18 ⟨bU, 0, none⟩ = some (.slice x_a17.a x_a17.n x_a17.c) ∧
  hcell H18 ⟨bU, 1, none⟩ = some (.slice x_b17.a x_b17.n x_b17.c) ∧ hcell H18 ⟨bU, 2, none⟩ = some (.slice x_c17.a x_c17.n x_c17.c) ∧
  True) ∧ ∃ x_a18 x_b18 x_c18 : Sl, (hcell H18 ⟨bV, 0, none⟩ = some (.slice x_a18.a x_a18.n x_a18.c) ∧
  hcell H18 ⟨bV, 1, none⟩ = some (.slice x_b18.a x_b18.n x_b18.c) ∧ hcell H18 ⟨bV, 2, none⟩ = some (.slice x_c18.a x_c18.n x_c18.c) ∧
  True) ∧ CallF Tryz.prog 17 #[.agg #[.slice x_a17.a x_a17.n x_a17.c, .slice x_b17.a x_b17.n x_b17.c, .slice x_c17.a x_c17.n x_c17.c], .agg #[.slice x_a18.a x_a18.n x_a18.c, .slice x_b18.a x_b18.n x_b18.c, .slice x_c18.a x_c18.n x_c18.c]] H18 (fun r10 H30 =>
  ∃ y4 : Bool, r10 = .bool y4 ∧ (((!y4) = true → K (.bool false) H30) ∧ ((!y4) = false → (J1  H30)))) Z) ∧
  ((y_1 == 0) = false → (J1  H18))))))) Z)) Z))) Z)) Z)) Z) ∧ ∃ x_a19 x_b19 x_c19 : Sl, (hcell H4 ⟨bA, 0, none⟩ = some (.slice x_a19.a x_a19.n x_a19.c) ∧
  hcell H4 ⟨bA, 1, none⟩ = some (.slice x_b19.a x_b19.n x_b19.c) ∧ hcell H4 ⟨bA, 2, none⟩ = some (.slice x_c19.a x_c19.n x_c19.c) ∧
  True) ∧ CallF Tryz.prog 7 #[.agg #[.slice x_a19.a x_a19.n x_a19.c, .slice x_b19.a x_b19.n x_b19.c, .slice x_c19.a x_c19.n x_c19.c], .int .i64 60] H4 (fun r11 H31 =>
  ∃ y5 : Bool, r11 = .bool y5 ∧ ((y5 = true → K (.bool true) H31) ∧ (y5 = false → ∃ x_a20 x_b20 x_c20 : Sl, (hcell H31 ⟨bB, 0, none⟩ = some (.slice x_a20.a x_a20.n x_a20.c) ∧
  hcell H31 ⟨bB, 1, none⟩ = some (.slice x_b20.a x_b20.n x_b20.c) ∧ hcell H31 ⟨bB, 2, none⟩ = some (.slice x_c20.a x_c20.n x_c20.c) ∧
  True) ∧ CallF Tryz.prog 7 #[.agg #[.slice x_a20.a x_a20.n x_a20.c, .slice x_b20.a x_b20.n x_b20.c, .slice x_c20.a x_c20.n x_c20.c], .int .i64 60] H31 (fun r12 H32 =>
  ∃ y6 : Bool, r12 = .bool y6 ∧ ((y6 = true → K (.bool true) H32) ∧ (y6 = false → ∃ x_a21 x_b21 x_c21 : Sl, (hcell H32 ⟨bC, 0, none⟩ = some (.slice x_a21.a x_a21.n x_a21.c) ∧
  hcell H32 ⟨bC, 1, none⟩ = some (.slice x_b21.a x_b21.n x_b21.c) ∧ hcell H32 ⟨bC, 2, none⟩ = some (.slice x_c21.a x_c21.n x_c21.c) ∧
  True) ∧ CallF Tryz.prog 7 #[.agg #[.slice x_a21.a x_a21.n x_a21.c, .slice x_b21.a x_b21.n x_b21.c, .slice x_c21.a x_c21.n x_c21.c], .int .i64 60] H32 (fun r13 H33 =>
  ∃ y7 : Bool, r13 = .bool y7 ∧ ((y7 = true → K (.bool true) H33) ∧ (y7 = false → (J  H33)))) Z))) Z))) Z))) Z
def aJ5 : Ann := (fun k => if k = 5 then some [] else if k = 12 then some [] else if k = 2000006 then some [] else none)
theorem V5_ok {H a_a a_b a_c b_a b_b b_c c_a c_b c_c K Z} (h : V5 H a_a a_b a_c b_a b_b b_c c_a c_b c_c K Z) : CallF Tryz.prog 5 #[.agg #[.slice a_a.a a_a.n a_a.c, .slice a_b.a a_b.n a_b.c, .slice a_c.a a_c.n a_c.c], .agg #[.slice b_a.a b_a.n b_a.c, .slice b_b.a b_b.n b_b.c, .slice b_c.a b_c.n b_c.c], .agg #[.slice c_a.a c_a.n c_a.c, .slice c_b.a c_b.n c_b.c, .slice c_c.a c_c.n c_c.c]] H K Z :=
 fnC_sound (aJ := aJ5) (aL := fun _ => none) (Eq.mp (by kernel_rfl) h)
end Go.Proofs.YtjpkbenogloihaaGreatDoor.N16L
end
section
namespace Go.Proofs.YtjpkbenogloihaaGreatDoor.C18
open Go Go.V Go.Proofs Go.Proofs.YtjpkbenogloihaaGreatDoor.N16 Go.Proofs.YtjpkbenogloihaaGreatDoor.P14 Go.Proofs.YtjpkbenogloihaaGreatDoor.C14 Go.Proofs.YtjpkbenogloihaaGreatDoor.P15 Go.Proofs.YtjpkbenogloihaaGreatDoor.C15
attribute [local irreducible] Cvt ExtF CallF hrun App MkS callV
theorem Hx.cons {η χ : Type} {In : η → χ → Prop} {h : η} {x : χ} {hs : List η} {xs : List χ} (h1 : In h x) (h2 : Hx In hs xs) : Hx In (h :: hs) (x :: xs) :=
 Hx.app (hs := [h]) (xs := [x]) ⟨rfl, fun i a b ha hb => by
  match i, ha, hb with
  | 0, ha, hb => rw [← Option.some_inj.1 ha, ← Option.some_inj.1 hb]; exact h1
  | i + 1, ha, hb => cases ha⟩ h2
theorem rdY {E : Hp} {l : Sl} {ss : List S3} {xs : List SysD} (h : Rd flY 3 E l ss) (hx : Hx (InY E) ss xs) : RdX flY 3 InY E l xs := ⟨ss, h, hx.1, hx.2⟩
structure Few (n : Nat) (x : SysD) : Prop where
 o : x.objs.length ≤ n
 f : x.fns.length ≤ n
 c : x.cons.length ≤ n
theorem mild_few {n : Nat} {x : SysD} (h : Mild n x) : Few n x := ⟨h.o.1, h.f, h.c.1⟩
theorem Few.mono {n m : Nat} {x : SysD} (h : Few n x) (hm : n ≤ m) : Few m x := ⟨Nat.le_trans h.o hm, Nat.le_trans h.f hm, Nat.le_trans h.c hm⟩
theorem few_cat {n : Nat} {l : List SysD} (h : ∀ x ∈ l, Few n x) : Few (l.length * n) (catS l) :=
 ⟨flat_le (f := SysD.objs) fun x hx => (h x hx).o, flat_le (f := SysD.fns) fun x hx => (h x hx).f, flat_le (f := SysD.cons) fun x hx => (h x hx).c⟩
theorem ok_cat {n : Nat} {l : List SysD} (h : ∀ x ∈ l, OkSys x ∧ Few n x) (hn : l.length * n ≤ 1048576) : OkSys (catS l) := by
 have hf := few_cat (n := n) fun x hx => (h x hx).2
 refine ⟨⟨Nat.le_trans hf.o hn, fun o hm => ?_⟩, ⟨Nat.le_trans hf.f hn, fun o hm => ?_⟩, ⟨Nat.le_trans hf.c hn, fun o hm => ?_⟩⟩
 ·obtain ⟨x, hx, hm⟩ := List.mem_flatMap.1 hm
  exact (h x hx).1.o.2 o hm
 ·obtain ⟨x, hx, hm⟩ := List.mem_flatMap.1 hm
  exact (h x hx).1.f.2 o hm
 ·obtain ⟨x, hx, hm⟩ := List.mem_flatMap.1 hm
  exact (h x hx).1.c.2 o hm
theorem uni_few {n : Nat} {xs : List SysD} {r : SysD} {e : Int} (h : Few n (catS xs)) (hu : UniR xs r e) : Few n r := by
 have nl : Few n nilS := ⟨Nat.zero_le _, Nat.zero_le _, Nat.zero_le _⟩
 rcases hu with ⟨_, _, rfl⟩ | ⟨_, t, ht, h1 | h1 | h1⟩
 ·exact nl
 ·rw [h1.2.2]; exact nl
 ·rw [h1.2.2.2]; exact nl
 ·rw [h1.2.2.2]
  exact ⟨Nat.le_trans (ht.o.len linCL) h.o, Nat.le_trans (ht.f.len linCL) h.f, Nat.le_trans (ht.c.len linC) h.c⟩
section
variable {H : Hp} {K : Value → Hp → Prop} {Z : List PanicEntry → Hp → Prop}
theorem again_law {s1 s2 s3 t1 t2 t3 u1 u2 u3 : Sl} {a b c : SysD} (ha : RdSys H s1 s2 s3 a) (oa : OkSys a) (hb : RdSys H t1 t2 t3 b) (ob : OkSys b) (hc : RdSys H u1 u2 u3 c) (oc : OkSys c) (ht : Pw H) (k : ∀ H', Fr no H H' → K (.bool true) H') : CallF Tryz.prog 5 #[sAg s1 s2 s3, sAg t1 t2 t3, sAg u1 u2 u3] H K Z := by
 refine N16L.V5_ok ?_
 unfold N16L.V5
 intro bA A1 hA bB A2 hB bC A hC
 have sA := (((Sym.start H).newb (cs := sL s1 s2 s3) hA).newb (cs := sL t1 t2 t3) hB).newb (cs := sL u1 u2 u3) hC
 have ga : ∀ {E : Hp}, Fr no A E → ∀ i, hcell E ⟨bA, i, none⟩ = (sL s1 s2 s3)[i]? := fun fE i => (sA.more fE).ld (k := 2) rfl i
 have gb : ∀ {E : Hp}, Fr no A E → ∀ i, hcell E ⟨bB, i, none⟩ = (sL t1 t2 t3)[i]? := fun fE i => (sA.more fE).ld (k := 1) rfl i
 have gc : ∀ {E : Hp}, Fr no A E → ∀ i, hcell E ⟨bC, i, none⟩ = (sL u1 u2 u3)[i]? := fun fE i => (sA.more fE).ld (k := 0) rfl i
 have hp : ∀ {E}, Fr no A E → Pw E := fun fE => TabH.more ht (sA.fr.trans fE)
 have ka : ∀ {E}, Fr no A E → RdSys E s1 s2 s3 a := fun fE => ha.more (sA.fr.trans fE)
 have kb : ∀ {E}, Fr no A E → RdSys E t1 t2 t3 b := fun fE => hb.more (sA.fr.trans fE)
 have kc : ∀ {E}, Fr no A E → RdSys E u1 u2 u3 c := fun fE => hc.more (sA.fr.trans fE)
 have kk : ∀ {E}, Fr no A E → K (.bool true) E := fun fE => k _ (sA.fr.trans fE)
 have r : Fr no A A := Fr.refl _ _
 refine works_ok (hp r) fun B fB => ⟨_, rfl, (fun h => by cases h), fun _ => ⟨fun E => Fr no A E ∧ Mild 60 a ∧ Mild 60 b ∧ Mild 60 c, ?_, s1, s2, s3, ⟨ga fB 0, ga fB 1, ga fB 2, trivial⟩, great15_ok (most := 60) (ka fB) oa fun y1 C fC m1 => ⟨_, rfl, fun _ => kk (fB.trans fC), fun e1 => ⟨t1, t2, t3, ⟨gb (fB.trans fC) 0, gb (fB.trans fC) 1, gb (fB.trans fC) 2, trivial⟩, great15_ok (most := 60) (kb (fB.trans fC)) ob fun y2 D fD m2 => ⟨_, rfl, fun _ => kk ((fB.trans fC).trans fD), fun e2 => ⟨u1, u2, u3, ⟨gc ((fB.trans fC).trans fD) 0, gc ((fB.trans fC).trans fD) 1, gc ((fB.trans fC).trans fD) 2, trivial⟩, great15_ok (most := 60) (kc ((fB.trans fC).trans fD)) oc fun y3 E fE m3 => ⟨_, rfl, fun _ => kk (((fB.trans fC).trans fD).trans fE), fun e3 => ⟨((fB.trans fC).trans fD).trans fE, m1 e1, m2 e2, m3 e3⟩⟩⟩⟩⟩⟩⟩⟩
 rintro E ⟨fE, ma, mb, mc⟩ scr
 have fa := mild_few ma
 have fb := mild_few mb
 have fc := mild_few mc
 have ok3 : OkSys (catS [a, b, c]) := ok_cat (n := 60) (fun x hx => by
  simp only [List.mem_cons, List.not_mem_nil, or_false] at hx
  rcases hx with rfl | rfl | rfl
  ·exact ⟨oa, fa⟩
  ·exact ⟨ob, fb⟩
  ·exact ⟨oc, fc⟩) (by simp)
 have ok4 : OkSys (catS [c, a, b, a]) := ok_cat (n := 60) (fun x hx => by
  simp only [List.mem_cons, List.not_mem_nil, or_false] at hx
  rcases hx with rfl | rfl | rfl | rfl
  ·exact ⟨oc, fc⟩
  ·exact ⟨oa, fa⟩
  ·exact ⟨ob, fb⟩
  ·exact ⟨oa, fa⟩) (by simp)
 have few2 : Few 120 (catS [a, b]) := few_cat (n := 60) (l := [a, b]) fun x hx => by
  simp only [List.mem_cons, List.not_mem_nil, or_false] at hx
  rcases hx with rfl | rfl
  ·exact fa
  ·exact fb
 have ok2 : OkSys (catS [a, b]) := ok_cat (n := 60) (fun x hx => by
  simp only [List.mem_cons, List.not_mem_nil, or_false] at hx
  rcases hx with rfl | rfl
  ·exact ⟨oa, fa⟩
  ·exact ⟨ob, fb⟩) (by simp)
 refine ⟨s1, s2, s3, ⟨ga fE 0, ga fE 1, ga fE 2, trivial⟩, canon_ok (ka fE) oa.len fun cx tx F sF gx hcx => ⟨cx.y, cx.y1, cx.y2, rfl, fun bX G hG => ?_⟩⟩
 have sG := sF.newb (cs := zS) hG
 refine sG.stbs (k := 0) (i := 0) (vs := sL cx.y cx.y1 cx.y2) rfl (by simp) (one3 _ _ _) fun I sI => ?_
 replace sI : Sym E no I (blk bX (sL cx.y cx.y1 cx.y2) 26 :: cx.its) := sI
 have rx : ∀ {J : Hp}, Fr no I J → RdSys J cx.y cx.y1 cx.y2 tx := fun f => CanS.rd (fun a ha => (sI.more f).ok a (List.mem_cons_of_mem _ ha)) gx
 have gX : ∀ {J : Hp}, Fr no I J → ∀ i, hcell J ⟨bX, i, none⟩ = (sL cx.y cx.y1 cx.y2)[i]? := fun f i => (sI.more f).ld (k := 0) rfl i
 have rI : Fr no I I := Fr.refl _ _
 have okx := ok_can oa hcx
 refine ⟨cx.y, cx.y1, cx.y2, ⟨gX rI 0, gX rI 1, gX rI 2, trivial⟩, cx.y, cx.y1, cx.y2, ⟨gX rI 0, gX rI 1, gX rI 2, trivial⟩, canon_ok (rx rI) okx.len fun cz tz J sJ gz hcz => ⟨cz.y, cz.y1, cz.y2, rfl, ⟨gX sJ.fr 0, gX sJ.fr 1, gX sJ.fr 2, trivial⟩, same_ok (CanS.rd sJ.ok gz) (rx sJ.fr) (ok_can okx hcz).len fun L fL => ⟨_, rfl, fun h => ?_, fun _ => ?_⟩⟩⟩
 ·exact absurd (hcz.uniq hcx.again) (notd.1.1 h)
 have f1 : Fr no A L := fE.trans (sI.fr.trans (sJ.fr.trans fL))
 refine ⟨s1, s2, s3, ⟨ga f1 0, ga f1 1, ga f1 2, trivial⟩, t1, t2, t3, ⟨gb f1 0, gb f1 1, gb f1 2, trivial⟩, u1, u2, u3, ⟨gc f1 0, gc f1 1, gc f1 2, trivial⟩, fun b1 M hM => ?_⟩
 have sM := (Sym.start L).lit (fl := flY) (l := [(s1, s2, s3), (t1, t2, t3), (u1, u2, u3)]) FlY (by decide) hM (show 3 = _ from rfl)
 have f2 := f1.trans sM.fr
 refine union_ok (rdY (sM.rd (k := 0) FlY (by decide) rfl) (Hx.cons (ka f2) (Hx.cons (kb f2) (Hx.cons (kc f2) Hx.nil)))) ok3 (by simp) (hp f2) fun v1 v2 v3 ru eu N fN hU hR => ⟨v1, v2, v3, eu, rfl, fun bU O hO => ?_⟩
 have sO := (Sym.start N).newb (cs := zS) hO
 refine sO.stbs (k := 0) (i := 0) (vs := sL v1 v2 v3) rfl (by simp) (one3 _ _ _) fun P sP => ?_
 replace sP : Sym N no P [blk bU (sL v1 v2 v3) 26] := sP
 have f3 : Fr no A P := f2.trans (fN.trans sP.fr)
 have rP : Fr no P P := Fr.refl _ _
 have ru' : ∀ {J : Hp}, Fr no P J → RdSys J v1 v2 v3 ru := fun f => hR.more (sP.fr.trans f)
 have gU : ∀ {J : Hp}, Fr no P J → ∀ i, hcell J ⟨bU, i, none⟩ = (sL v1 v2 v3)[i]? := fun f i => (sP.more f).ld (k := 0) rfl i
 refine ⟨u1, u2, u3, ⟨gc f3 0, gc f3 1, gc f3 2, trivial⟩, s1, s2, s3, ⟨ga f3 0, ga f3 1, ga f3 2, trivial⟩, t1, t2, t3, ⟨gb f3 0, gb f3 1, gb f3 2, trivial⟩, s1, s2, s3, ⟨ga f3 0, ga f3 1, ga f3 2, trivial⟩, fun b2 Q hQ => ?_⟩
 have sQ := (Sym.start P).lit (fl := flY) (l := [(u1, u2, u3), (s1, s2, s3), (t1, t2, t3), (s1, s2, s3)]) FlY (by decide) hQ (show 4 = _ from rfl)
 have f4 := f3.trans sQ.fr
 refine union_ok (rdY (sQ.rd (k := 0) FlY (by decide) rfl) (Hx.cons (kc f4) (Hx.cons (ka f4) (Hx.cons (kb f4) (Hx.cons (ka f4) Hx.nil))))) ok4 (by simp) (hp f4) fun w1 w2 w3 rv ev R fR hV hRv => ⟨w1, w2, w3, ev, rfl, fun bV S hS => ?_⟩
 have sS := (Sym.start R).newb (cs := zS) hS
 refine sS.stbs (k := 0) (i := 0) (vs := sL w1 w2 w3) rfl (by simp) (one3 _ _ _) fun T sT => ?_
 replace sT : Sym R no T [blk bV (sL w1 w2 w3) 26] := sT
 have gPT : Fr no P T := sQ.fr.trans (fR.trans sT.fr)
 have f5 : Fr no A T := f3.trans gPT
 have hor := hU.order hV
 refine ⟨fun E => Fr no P E, ?_, fun h => ?_, fun h => ⟨fun h0 => ⟨v1, v2, v3, ⟨gU gPT 0, gU gPT 1, gU gPT 2, trivial⟩, w1, w2, w3, ⟨sT.ld (k := 0) rfl 0, sT.ld (k := 0) rfl 1, sT.ld (k := 0) rfl 2, trivial⟩, same_ok (ru' gPT) (hRv.more sT.fr) (uni_ok ok3 hU).len fun U fU => ⟨_, rfl, fun h1 => ?_, fun _ => gPT.trans fU⟩⟩, fun _ => gPT⟩⟩
 ·intro E2 fE2 scr1
  have f6 := f3.trans fE2
  refine ⟨fun _ => kk f6, fun h0 => ?_⟩
  have h0 : eu = 0 := bne_eq_false_iff_eq.1 h0
  subst h0
  refine ⟨s1, s2, s3, ⟨ga f6 0, ga f6 1, ga f6 2, trivial⟩, t1, t2, t3, ⟨gb f6 0, gb f6 1, gb f6 2, trivial⟩, fun b3 A3 hA3 => ?_⟩
  have s3' := (Sym.start E2).lit (fl := flY) (l := [(s1, s2, s3), (t1, t2, t3)]) FlY (by decide) hA3 (show 2 = _ from rfl)
  have f7 := f6.trans s3'.fr
  refine union_ok (rdY (s3'.rd (k := 0) FlY (by decide) rfl) (Hx.cons (ka f7) (Hx.cons (kb f7) Hx.nil))) ok2 (by simp) (hp f7) fun x1 x2 x3 rw ew A4 fA4 hW hRw => ⟨x1, x2, x3, ew, rfl, fun bW A5 hA5 => ?_⟩
  have s5 := (Sym.start A4).newb (cs := zS) hA5
  refine s5.stbs (k := 0) (i := 0) (vs := sL x1 x2 x3) rfl (by simp) (one3 _ _ _) fun A6 s6 => ?_
  replace s6 : Sym A4 no A6 [blk bW (sL x1 x2 x3) 26] := s6
  have g6 : Fr no P A6 := fE2.trans (s3'.fr.trans (fA4.trans s6.fr))
  have f8 := f3.trans g6
  obtain ⟨hg, hst⟩ := hU.steps hW
  refine ⟨fun h => absurd hg (bne_iff_ne.1 h), fun _ => ⟨x1, x2, x3, ⟨s6.ld (k := 0) rfl 0, s6.ld (k := 0) rfl 1, s6.ld (k := 0) rfl 2, trivial⟩, u1, u2, u3, ⟨gc f8 0, gc f8 1, gc f8 2, trivial⟩, fun b4 A7 hA7 => ?_⟩⟩
  have s7 := (Sym.start A6).lit (fl := flY) (l := [(x1, x2, x3), (u1, u2, u3)]) FlY (by decide) hA7 (show 2 = _ from rfl)
  have f9 := f8.trans s7.fr
  have okw := uni_ok ok2 hW
  have feww := uni_few few2 hW
  have ok22 : OkSys (catS [rw, c]) := ok_cat (n := 120) (fun x hx => by
   simp only [List.mem_cons, List.not_mem_nil, or_false] at hx
   rcases hx with rfl | rfl
   ·exact ⟨okw, feww⟩
   ·exact ⟨oc, fc.mono (by decide)⟩) (by simp)
  refine union_ok (rdY (s7.rd (k := 0) FlY (by decide) rfl) (Hx.cons (hRw.more (s6.fr.trans s7.fr)) (Hx.cons (kc f9) Hx.nil))) ok22 (by simp) (hp f9) fun z1 z2 z3 rz ez A8 fA8 hZ hRz => ⟨z1, z2, z3, ez, rfl, fun bZ A9 hA9 => ?_⟩
  have s9 := (Sym.start A8).newb (cs := zS) hA9
  refine s9.stbs (k := 0) (i := 0) (vs := sL z1 z2 z3) rfl (by simp) (one3 _ _ _) fun A10 s10 => ?_
  replace s10 : Sym A8 no A10 [blk bZ (sL z1 z2 z3) 26] := s10
  have g10 : Fr no P A10 := g6.trans (s7.fr.trans (fA8.trans s10.fr))
  obtain ⟨hez, hrz⟩ := hst hZ
  refine ⟨fun _ => ⟨z1, z2, z3, ⟨s10.ld (k := 0) rfl 0, s10.ld (k := 0) rfl 1, s10.ld (k := 0) rfl 2, trivial⟩, v1, v2, v3, ⟨gU g10 0, gU g10 1, gU g10 2, trivial⟩, same_ok (hRz.more s10.fr) (ru' g10) (uni_ok ok22 hZ).len fun B1 fB1 => ⟨_, rfl, fun _ => ⟨v1, v2, v3, ⟨gU (g10.trans fB1) 0, gU (g10.trans fB1) 1, gU (g10.trans fB1) 2, trivial⟩, check_ok (ru' (g10.trans fB1)) (uni_ok ok3 hU) (hp (f3.trans (g10.trans fB1))) fun B2 fB2 => ⟨_, rfl, ?_⟩⟩, fun h => ?_⟩⟩, fun h => absurd hez (neI.1 h)⟩
  ·rw [hU.check]
   exact kk (f3.trans ((g10.trans fB1).trans fB2))
  ·rw [decide_eq_true hrz] at h
   cases h
 ·exfalso
  have e : (eu == 0) = (ev == 0) := by
   rw [Bool.eq_iff_iff, beq_iff_eq, beq_iff_eq]
   exact hor.1
  rw [e, beq_self_eq_true] at h
  cases h
 ·exact absurd (hor.2 (eqI.1 h0)) (notd.1.1 h1)
end
end Go.Proofs.YtjpkbenogloihaaGreatDoor.C18
end
section
namespace Go.Proofs.YtjpkbenogloihaaGreatDoor.C18
open Go Go.V Go.Proofs Go.Proofs.YtjpkbenogloihaaGreatDoor.N16 Go.Proofs.YtjpkbenogloihaaGreatDoor.P14 Go.Proofs.YtjpkbenogloihaaGreatDoor.C14 Go.Proofs.YtjpkbenogloihaaGreatDoor.P15 Go.Proofs.YtjpkbenogloihaaGreatDoor.C15
attribute [local irreducible] Cvt ExtF CallF hrun App MkS callV
theorem IsN.len {x : SysD} {ys : List L8} (h : IsN x ys) : ys.length ≤ 100000 := by
 rcases h with ⟨_, rfl⟩ | ⟨h0, hr, hm⟩
 ·decide
 ·have hR := check_right h0
  have := rising_len hr hm
  have a := cons_le hR x.cons.length
  have b := objs_le hR x.objs.length
  rw [List.take_length] at a b
  unfold nodesL at this
  rw [List.length_append] at this
  omega
theorem IsP.len {x : SysD} {ys : List L8} (h : IsP x ys) : ys.length ≤ 100000 := by
 rcases h with ⟨_, rfl⟩ | ⟨h0, hr, hm⟩
 ·decide
 ·have hR := check_right h0
  have := rising_len hr hm
  have a := consP_le hR x.cons.length
  have b := objsP_le hR x.objs.length
  have c := hR.f
  rw [List.take_length] at a b
  unfold placesL at this
  rw [List.length_append, List.length_append, List.length_map] at this
  omega
section
variable {H : Hp} {K : Value → Hp → Prop} {Z : List PanicEntry → Hp → Prop}
end
end Go.Proofs.YtjpkbenogloihaaGreatDoor.C18
end
section
namespace Go.Proofs.YtjpkbenogloihaaGreatDoor.L15U
open Go Go.V Go.Proofs Go.Proofs.YtjpkbenogloihaaGreatDoor.P14 Go.Proofs.YtjpkbenogloihaaGreatDoor.C14 Go.Proofs.YtjpkbenogloihaaGreatDoor.P15 Go.Proofs.YtjpkbenogloihaaGreatDoor.C15 Go.Proofs.YtjpkbenogloihaaGreatDoor.C18
attribute [local irreducible] Cvt ExtF CallF hrun App MkS callV
section
variable {H : Hp} {K : Value → Hp → Prop} {Z : List PanicEntry → Hp → Prop}
abbrev Sys (H : Hp) (a : SysD × Sl × Sl × Sl) : Prop := RdSys H a.2.1 a.2.2.1 a.2.2.2 a.1 ∧ OkSys a.1
theorem again2 {a b c : SysD × Sl × Sl × Sl} (ht : Pw H) (ha : Sys H a) (hb : Sys H b) (hc : Sys H c) (k : ∀ H', Fr no H H' → K (.bool true) H') : CallF Tryz.prog 5 #[sAg a.2.1 a.2.2.1 a.2.2.2, sAg b.2.1 b.2.2.1 b.2.2.2, sAg c.2.1 c.2.2.1 c.2.2.2] H K Z := again_law ha.1 ha.2 hb.1 hb.2 hc.1 hc.2 ht k
end
end Go.Proofs.YtjpkbenogloihaaGreatDoor.L15U
end
section
namespace Go.Proofs.YtjpkbenogloihaaGreatDoor.Lyd
open Go Go.V Go.Proofs Go.ChangeShapes Go.WideShapes Go.ChangeAt Go.RowKit
theorem wit {H : Type} {enc : TypeId × Value → H} {C : Checked} {os : Os} {f : FuncId} {fn : Func} {s : OpenSpec} {conds : List PathCond} {apart : Bool} {laid : List (String × DataW Unit)} (args : Array Value)
  (hv : ((World.laidAll C.prog os laid).forCall (fun _ _ => 0) ⟨#[], args, []⟩).variablesZipB C.prog = true)
  (hr : (((World.laidAll C.prog os laid).forCall (fun _ _ => 0) ⟨#[], args, []⟩).heap.toList.drop C.prog.globals.size).take ((begin C.prog (fun _ _ => 0) default).world.heap.size - C.prog.globals.size) =
   (begin C.prog (fun _ _ => 0) default).world.heap.toList.drop C.prog.globals.size)
  (hok : Input.okWideB C.prog ((World.laidAll C.prog os laid).forCall (fun _ _ => 0) ⟨#[], args, []⟩) f ⟨#[], args, []⟩ = true)
  (hrow : s.preRow enc C.prog fn conds apart laid ((World.laidAll C.prog os laid).forCall (fun _ _ => 0) ⟨#[], args, []⟩).memory args) :
  ∃ (w : World) (tape : Tape) (i : Input), w.os = os ∧ (w.forCall tape i).Shaped C.prog ∧ i.vars = [] ∧ Input.okWide C.prog (w.forCall tape i) .any w.heap.size f i ∧
   s.preRow enc C.prog fn conds apart laid (w.forCall tape i).memory i.args ∧ ({} : Assume).holds C.prog (lone (Frame.enter C.prog f i.args .normal) [] (w.forCall tape i)) :=
 ⟨World.laidAll C.prog os laid, fun _ _ => 0, ⟨#[], args, []⟩, World.laidAll_os _ _ _, World.shaped_of_ZipB hv hr, (Input.okWide_of_okWideB (base := 0) hok).1, (Input.okWide_of_okWideB hok).2, hrow, by
  simp only [Assume.holds]
  simp⟩
theorem tab_at {P : Program} {W : World} {name : String} {k : IntKind} {zs : List Int} {g : Nat} {t e : TypeId} {n : Nat}
  (hg : P.globalNamed name = some g) (hty : (P.globals[g]?).map (·.type) = some t) (ht : P.underlying t = some (.array n e)) (he : P.underlying e = some (.int k)) (hce : P.cellsOf e = 1) (hct : P.cellsOf t = n) :
  ∀ (i : Nat) (l : List (String × DataW Unit)), l[i]? = some (name, Lib.tabData k zs) → laidMet P l W → Lib.TabIs P W name k zs
 | _, [], hm, _ => by simp at hm
 | 0, x :: l, hm, h => by
  simp only [List.getElem?_cons_zero, Option.some.injEq] at hm
  subst hm
  exact Lib.tabIs_of_head hg hty ht he hce hct h
 | i + 1, x :: l, hm, h => tab_at hg hty ht he hce hct i l (by simpa using hm) h.tail
theorem pow10 {W : World} {l : List (String × DataW Unit)} (i : Nat) (hm : l[i]? = some ("internal/strconv.uint64pow10", Rows.laid_internal_strconv_uint64pow10)) (h : laidMet Tryz.prog l W) : TabH Tryz.prog W.heap "internal/strconv.uint64pow10" .u64 Lib.pow10Tab := by
 have e : (Rows.laid_internal_strconv_uint64pow10 : DataW Unit) = Lib.tabData .u64 Lib.pow10Tab := by kernel_rfl
 rw [e] at hm
 exact TabH.of (tab_at (g := (Tryz.prog.globalNamed "internal/strconv.uint64pow10").getD 0) (t := 209) (e := 178) (n := 20) (by kernel_rfl) (by kernel_rfl) (by kernel_rfl) (by kernel_rfl) (by kernel_rfl) (by kernel_rfl) i l hm h)
end Go.Proofs.YtjpkbenogloihaaGreatDoor.Lyd
end
