import Derived.Test.YtjpkbenogloihaaGreatDoorZ16
import Derived.Test.YtjpkbenogloihaaGreatDoorProg
import Derived.Test.YtjpkbenogloihaaGreatDoorRows
import Derived.Deep.DeepHandedRow
import Derived.Deep.DeepWitnessRef
import Derived.Lay
import Derived.Stop.LaidErr
import Derived.Lib.LaidTab
import Derived.Lib.ItoaNum
import Derived.Lib.Space
import Derived.Lib.TrailingZeros
set_option linter.unusedVariables false
set_option linter.unusedSimpArgs false
section
namespace Go.Proofs.YtjpkbenogloihaaGreatDoor.C18
open Go Go.V Go.Proofs Go.Proofs.YtjpkbenogloihaaGreatDoor.N16 Go.Proofs.YtjpkbenogloihaaGreatDoor.P14 Go.Proofs.YtjpkbenogloihaaGreatDoor.C14 Go.Proofs.YtjpkbenogloihaaGreatDoor.P15 Go.Proofs.YtjpkbenogloihaaGreatDoor.C15
attribute [local irreducible] Cvt ExtF CallF hrun App MkS callV
def Hx {η χ : Type} (In : η → χ → Prop) (hs : List η) (xs : List χ) : Prop := hs.length = xs.length ∧ ∀ (i : Nat) h x, hs[i]? = some h → xs[i]? = some x → In h x
theorem Hx.nil {η χ : Type} {In : η → χ → Prop} : Hx In [] [] := ⟨rfl, by simp⟩
theorem Hx.app {η χ : Type} {In : η → χ → Prop} {hs hs' : List η} {xs xs' : List χ} (h : Hx In hs xs) (h' : Hx In hs' xs') : Hx In (hs ++ hs') (xs ++ xs') := by
 refine ⟨by rw [List.length_append, List.length_append, h.1, h'.1], fun i a x ha hx => ?_⟩
 rw [List.getElem?_append] at ha hx
 rw [h.1] at ha
 split at ha
 ·rename_i hlt
  rw [if_pos hlt] at hx
  exact h.2 i a x ha hx
 ·rename_i hge
  rw [if_neg hge] at hx
  exact h'.2 _ a x ha hx
abbrev S3 := Sl × Sl × Sl
def flY (s : S3) : List Value := sL s.1 s.2.1 s.2.2
theorem FlY : Fl flY 3 := ⟨fun _ => rfl, fun x v hv => one3 _ _ _ v hv⟩
def InY (H : Hp) (s : S3) (x : SysD) : Prop := RdSys H s.1 s.2.1 s.2.2 x
theorem atY {H : Hp} {l : Sl} {xs : List SysD} {x : SysD} {i : Nat} (h : RdX flY 3 InY H l xs) (hx : xs[i]? = some x) : ∃ s1 s2 s3 : Sl, RdSys H s1 s2 s3 x ∧ ∀ {K : Addr → Prop}, (∀ ad, hcell H ad = some (.slice s1.a s1.n s1.c) → hcell H (ad.add 1) = some (.slice s2.a s2.n s2.c) → hcell H (ad.add 2) = some (.slice s3.a s3.n s3.c) → K ad) → IxA l.a l.n (i : Int) 3 K := by
 obtain ⟨s, r, g⟩ := RdX.get h hx
 exact ⟨s.1, s.2.1, s.2.2, r, fun {K} k => g (hs := FlY) (hz := by decide) fun ad h2 h3 => k ad h3 (h2 1 _ rfl) (h2 2 _ rfl)⟩
theorem len_flat {α β : Type} {f : α → List β} : ∀ {l : List α} {x : α}, x ∈ l → (f x).length ≤ (l.flatMap f).length
 | y :: l, x, h => by
  rw [List.flatMap_cons, List.length_append]
  rcases List.mem_cons.1 h with rfl | h
  ·omega
  ·have := len_flat (f := f) h
   omega
theorem take_flat {α β : Type} {f : α → List β} (l : List α) (j : Nat) : ((l.take j).flatMap f).length ≤ (l.flatMap f).length := by
 conv => rhs; rw [← List.take_append_drop j l]
 rw [List.flatMap_append, List.length_append]
 omega
theorem ok_part {xs : List SysD} (h : OkSys (catS xs)) {x : SysD} (hx : x ∈ xs) : OkSys x := by
 have a := len_flat (f := SysD.objs) hx
 have b := len_flat (f := SysD.fns) hx
 have c := len_flat (f := SysD.cons) hx
 exact ⟨⟨Nat.le_trans a h.o.1, fun o hm => h.o.2 o (List.mem_flatMap.2 ⟨x, hx, hm⟩)⟩, ⟨Nat.le_trans b h.f.1, fun o hm => h.f.2 o (List.mem_flatMap.2 ⟨x, hx, hm⟩)⟩, ⟨Nat.le_trans c h.c.1, fun o hm => h.c.2 o (List.mem_flatMap.2 ⟨x, hx, hm⟩)⟩⟩
theorem ok_can {s t : SysD} (h : OkSys s) (hc : IsCanS s t) : OkSys t := by
 have a := hc.o.len linCL
 have b := hc.f.len linCL
 have c := hc.c.len linC
 have ho := h.o.1
 have hf := h.f.1
 have hc' := h.c.1
 exact ⟨⟨by omega, fun o hm => h.o.2 o ((hc.o.mem o).1 hm)⟩, ⟨by omega, fun o hm => h.f.2 o ((hc.f.mem o).1 hm)⟩, ⟨by omega, fun o hm => h.c.2 o ((hc.c.mem o).1 hm)⟩⟩
theorem nil_ok : OkSys nilS := ⟨⟨by decide, by simp [nilS]⟩, ⟨by decide, by simp [nilS]⟩, ⟨by decide, by simp [nilS]⟩⟩
theorem uni_ok {xs : List SysD} {r : SysD} {e : Int} (h : OkSys (catS xs)) (hu : UniR xs r e) : OkSys r := by
 rcases hu with ⟨_, _, rfl⟩ | ⟨_, t, ht, h1 | h1 | h1⟩
 ·exact nil_ok
 ·rw [h1.2.2]; exact nil_ok
 ·rw [h1.2.2.2]; exact nil_ok
 ·rw [h1.2.2.2]; exact ok_can h ht
theorem first_at : ∀ {xs : List SysD} {j : Nat} {x : SysD}, (∀ s ∈ xs.take j, checkE s = 0) → xs[j]? = some x → checkE x ≠ 0 → firstE (xs.map checkE) = checkE x
 | [], j, x, _, hx, _ => by simp at hx
 | y :: xs, 0, x, _, hx, hne => by
  have : y = x := by simpa using hx
  subst this
  rw [List.map_cons, firstE, if_pos hne]
 | y :: xs, j + 1, x, h, hx, hne => by
  have h0 : checkE y = 0 := h y (by simp)
  rw [List.map_cons, firstE, if_neg (fun h' => h' h0)]
  exact first_at (j := j) (fun s hs => h s (by rw [List.take_succ_cons]; exact List.mem_cons_of_mem _ hs)) (by simpa using hx) hne
abbrev n0 : Sl := ⟨none, 0, 0⟩
theorem rd_nil {H : Hp} : RdSys H n0 n0 n0 nilS := ⟨RdX.nil, Rd.nil, RdX.nil⟩
theorem cat_snoc {xs : List SysD} {j : Nat} {x : SysD} (hx : xs[j]? = some x) : (catS (xs.take (j + 1))).objs = (catS (xs.take j)).objs ++ x.objs ∧ (catS (xs.take (j + 1))).fns = (catS (xs.take j)).fns ++ x.fns ∧ (catS (xs.take (j + 1))).cons = (catS (xs.take j)).cons ++ x.cons :=
 ⟨flat_snoc (f := SysD.objs) hx, flat_snoc (f := SysD.fns) hx, flat_snoc (f := SysD.cons) hx⟩
abbrev UL (bAll b : Nat) (l1 l2 l3 : Sl) (ho : List HO) (fs : List FnD) (hc : List HC) : List It := [arr flHO 43 3 l1 ho, arr flF 49 3 l2 fs, arr flHC 45 6 l3 hc, blk bAll (sL l1 l2 l3) 26, blk b zS 26]
abbrev UT (bAll b : Nat) (l1 l2 l3 : Sl) (ho : List HO) (fs : List FnD) (hc : List HC) (y y1 y2 : Sl) (z : List Value) : List It := [arr flHO 43 3 l1 ho, arr flF 49 3 l2 fs, arr flHC 45 6 l3 hc, blk bAll (sL y y1 y2) 26, blk b z 26]
section
variable {H : Hp} {K : Value → Hp → Prop} {Z : List PanicEntry → Hp → Prop}
theorem union_ok {l : Sl} {xs : List SysD} (h : RdX flY 3 InY H l xs) (hx : OkSys (catS xs)) (hn : xs.length ≤ 1000) (ht : Pw H)
  (k : ∀ t1 t2 t3 r e E, Fr no H E → UniR xs r e → RdSys E t1 t2 t3 r → K (.tuple #[sAg t1 t2 t3, .int .i64 e]) E) : CallF Tryz.prog 8 #[.slice l.a l.n l.c] H K Z := by
 refine V8_ok ?_
 unfold V8
 intro b A hA bAll B hB
 have sA := (Sym.start H).newb (cs := zS) hA
 have sB := sA.newb (cs := zS) hB
 have ln := RdX.len h
 have bo := hx.o.1
 have bf := hx.f.1
 have bc := hx.c.1
 refine ⟨fun i C m => ∃ (j : Nat) (l1 l2 l3 : Sl) (ho : List HO) (hc : List HC), i = (j : Int) ∧ j ≤ xs.length ∧ m = xs.length - j ∧ (∀ s ∈ xs.take j, checkE s = 0) ∧ Hx (InO H) ho (catS (xs.take j)).objs ∧ Hx (InC H) hc (catS (xs.take j)).cons ∧
  Sym H no C (UL bAll b l1 l2 l3 ho (catS (xs.take j)).fns hc), ⟨_, 0, n0, n0, n0, [], [], rfl, Nat.zero_le _, rfl, by simp, Hx.nil, Hx.nil, ((sB.nilrow flHC 45 6).nilrow flF 49 3).nilrow flHO 43 3⟩, ?_⟩
 rintro i C m ⟨j, l1, l2, l3, ho, hc, rfl, hj, rfl, hall, qo, qc, sC⟩ scr
 have fC := sC.fr
 refine ⟨fun hlt => ?_, fun hge => ?_⟩
 ·have hj' : j < xs.length := by have := dlt hlt; omega
  obtain ⟨x, hxj, hxm⟩ := getN hj'
  obtain ⟨s1, s2, s3, hs, ix⟩ := atY h hxj
  have okx := ok_part hx hxm
  obtain ⟨e1, e2, e3⟩ := cat_snoc hxj
  refine ix fun ad g0 g1 g2 => ⟨s1, s2, s3, ⟨lf fC g0, lf fC g1, lf fC g2, trivial⟩, fun bS D hD => ?_⟩
  have sD := sC.newb (cs := zS) hD
  refine sD.stbs (k := 0) (i := 0) (vs := sL s1 s2 s3) rfl (by simp) (one3 _ _ _) fun E sE => ?_
  replace sE : Sym H no E (blk bS (sL s1 s2 s3) 26 :: UL bAll b l1 l2 l3 ho (catS (xs.take j)).fns hc) := sE
  refine ⟨s1, s2, s3, ⟨sE.ld (k := 0) rfl 0, sE.ld (k := 0) rfl 1, sE.ld (k := 0) rfl 2, trivial⟩, check_ok (hs.more sE.fr) okx (TabH.more ht sE.fr) fun F fF => ⟨_, rfl, fun hne => ?_, fun heq => ?_⟩⟩
  ·have sF := sE.more fF
   have hne := bne_iff_ne.1 hne
   refine sF.stbs (k := 5) (i := 0) (vs := sL n0 n0 n0) rfl (by simp) (one3 _ _ _) fun G sG => ?_
   replace sG : Sym H no G (blk bS (sL s1 s2 s3) 26 :: UL bAll b l1 l2 l3 ho (catS (xs.take j)).fns hc) := sG
   have hfe := first_at hall hxj hne
   exact ⟨n0, n0, n0, ⟨sG.ld (k := 5) rfl 0, sG.ld (k := 5) rfl 1, sG.ld (k := 5) rfl 2, trivial⟩, k n0 n0 n0 nilS _ G sG.fr (.inl ⟨by rw [hfe]; exact hne, hfe.symm, rfl⟩) rd_nil⟩
  ·have h0 := bne_eq_false_iff_eq.1 heq
   have sF := sE.more fF
   have n1 := (Sym.rd (k := 1) sF FlHO (by decide) rfl).len
   have n2 := (Sym.rd (k := 2) sF FlF (by decide) rfl).len
   have n3 := (Sym.rd (k := 3) sF FlHC (by decide) rfl).len
   have b1 : (catS (xs.take j)).objs.length ≤ (catS xs).objs.length := take_flat _ _
   have b2 : (catS (xs.take j)).fns.length ≤ (catS xs).fns.length := take_flat _ _
   have b3 : (catS (xs.take j)).cons.length ≤ (catS xs).cons.length := take_flat _ _
   have c1 := okx.o.1
   have c2 := okx.f.1
   have c3 := okx.c.1
   obtain ⟨ro, r1, r2, r3⟩ := hs.o
   obtain ⟨rc, u1, u2, u3⟩ := hs.c
   have q1 := qo.1
   have q3 := qc.1
   refine ⟨l1, sF.ld (k := 4) rfl 0, s1, sF.ld (k := 0) rfl 0, Sym.appR (k := 1) C16O.tyE sF FlHO (by decide) rfl (r1.more sF.fr) (by rw [n1, r2]; omega) fun p1 G nG sG => ?_⟩
   replace sG : Sym H no G [blk bS (sL s1 s2 s3) 26, arr flHO 43 3 p1 (ho ++ ro), arr flF 49 3 l2 (catS (xs.take j)).fns, arr flHC 45 6 l3 hc, blk bAll (sL l1 l2 l3) 26, blk b zS 26] := sG
   refine sG.stbs (k := 4) (i := 0) (vs := [.slice p1.a p1.n p1.c]) rfl (by simp) (fun v hv => by rw [List.mem_singleton.1 hv]; rfl) fun I sI => ?_
   replace sI : Sym H no I [blk bS (sL s1 s2 s3) 26, arr flHO 43 3 p1 (ho ++ ro), arr flF 49 3 l2 (catS (xs.take j)).fns, arr flHC 45 6 l3 hc, blk bAll (sL p1 l2 l3) 26, blk b zS 26] := sI
   refine ⟨l2, sI.ld (k := 4) rfl 1, s2, sI.ld (k := 0) rfl 1, Sym.appR (k := 2) C16F.tyE sI FlF (by decide) rfl (hs.f.more sI.fr) (by rw [n2]; omega) fun p2 L nL sL' => ?_⟩
   replace sL' : Sym H no L [blk bS (sL s1 s2 s3) 26, arr flHO 43 3 p1 (ho ++ ro), arr flF 49 3 p2 ((catS (xs.take j)).fns ++ x.fns), arr flHC 45 6 l3 hc, blk bAll (sL p1 l2 l3) 26, blk b zS 26] := sL'
   refine sL'.stbs (k := 4) (i := 1) (vs := [.slice p2.a p2.n p2.c]) rfl (by simp) (fun v hv => by rw [List.mem_singleton.1 hv]; rfl) fun M sM => ?_
   replace sM : Sym H no M [blk bS (sL s1 s2 s3) 26, arr flHO 43 3 p1 (ho ++ ro), arr flF 49 3 p2 ((catS (xs.take j)).fns ++ x.fns), arr flHC 45 6 l3 hc, blk bAll (sL p1 p2 l3) 26, blk b zS 26] := sM
   refine ⟨l3, sM.ld (k := 4) rfl 2, s3, sM.ld (k := 0) rfl 2, Sym.appR (k := 3) C16C.tyE sM FlHC (by decide) rfl (u1.more sM.fr) (by rw [n3, u2]; omega) fun p3 N nN sN => ?_⟩
   replace sN : Sym H no N [blk bS (sL s1 s2 s3) 26, arr flHO 43 3 p1 (ho ++ ro), arr flF 49 3 p2 ((catS (xs.take j)).fns ++ x.fns), arr flHC 45 6 p3 (hc ++ rc), blk bAll (sL p1 p2 l3) 26, blk b zS 26] := sN
   refine sN.stbs (k := 4) (i := 2) (vs := [.slice p3.a p3.n p3.c]) rfl (by simp) (fun v hv => by rw [List.mem_singleton.1 hv]; rfl) fun O sO => ?_
   replace sO : Sym H no O [blk bS (sL s1 s2 s3) 26, arr flHO 43 3 p1 (ho ++ ro), arr flF 49 3 p2 ((catS (xs.take j)).fns ++ x.fns), arr flHC 45 6 p3 (hc ++ rc), blk bAll (sL p1 p2 p3) 26, blk b zS 26] := sO
   refine ⟨xs.length - (j + 1), by omega, j + 1, p1, p2, p3, ho ++ ro, hc ++ rc, wi (by omega), hj', rfl, all_snoc hxj hall h0, ?_, ?_, ?_⟩
   ·rw [e1]
    exact qo.app ⟨r2, r3⟩
   ·rw [e3]
    exact qc.app ⟨u2, u3⟩
   ·rw [e2]
    exact sO.drop
 ·have hje : j = xs.length := by have := dge hge; omega
  rw [hje, List.take_length] at hall qo qc sC
  have hrd : RdSys C l1 l2 l3 (catS xs) := ⟨⟨ho, Sym.rd (k := 0) sC FlHO (by decide) rfl, qo.1, fun i a x ha hx => (qo.2 i a x ha hx).more fC⟩, Sym.rd (k := 1) sC FlF (by decide) rfl, ⟨hc, Sym.rd (k := 2) sC FlHC (by decide) rfl, qc.1, fun i a x ha hx => (qc.2 i a x ha hx).more fC⟩⟩
  refine ⟨l1, l2, l3, ⟨sC.ld (k := 3) rfl 0, sC.ld (k := 3) rfl 1, sC.ld (k := 3) rfl 2, trivial⟩, canon_ok hrd hx.len fun c t E sE hg hcan => ⟨c.y, c.y1, c.y2, rfl, ?_⟩⟩
  have sJ : Sym H no E (c.its ++ UT bAll b l1 l2 l3 ho (catS xs).fns hc l1 l2 l3 zS) := sC.join sE
  refine sJ.stbs (k := 8) (i := 0) (vs := sL c.y c.y1 c.y2) rfl (by simp) (one3 _ _ _) fun F sF => ?_
  replace sF : Sym H no F (c.its ++ UT bAll b l1 l2 l3 ho (catS xs).fns hc c.y c.y1 c.y2 zS) := sF
  have okt := ok_can hx hcan
  have hz : firstE (xs.map checkE) = 0 := firstE_0.2 fun y hy => by obtain ⟨s, hs, rfl⟩ := List.mem_map.1 hy; exact hall s hs
  have hpt : OkPart (catS xs) := cat_part hall
  have hck := can_check hcan hpt
  have hck4 := checkE_4 (can_part hcan hpt)
  have rdt : ∀ {G : Hp} {R : List It}, Sym H no G (c.its ++ R) → RdSys G c.y c.y1 c.y2 t := fun s => CanS.rd (fun a ha => s.ok a (List.mem_append_left _ ha)) hg
  have bad : ∀ {G : Hp} {e : Int}, Sym H no G (c.its ++ UT bAll b l1 l2 l3 ho (catS xs).fns hc c.y c.y1 c.y2 zS) → UniR xs nilS e → StL ⟨b, 0, none⟩ 0 [.slice none 0 0, .slice none 0 0, .slice none 0 0] G fun H19 => (∃ res_a res_b res_c : Sl, (hcell H19 ⟨b, 0, none⟩ = some (.slice res_a.a res_a.n res_a.c) ∧ hcell H19 ⟨b, 1, none⟩ = some (.slice res_b.a res_b.n res_b.c) ∧ hcell H19 ⟨b, 2, none⟩ = some (.slice res_c.a res_c.n res_c.c) ∧ True) ∧ K (.tuple #[.agg #[.slice res_a.a res_a.n res_a.c, .slice res_b.a res_b.n res_b.c, .slice res_c.a res_c.n res_c.c], .int .i64 e]) H19) := by
   intro G e sG hu
   refine sG.stbs (k := 9) (i := 0) (vs := sL n0 n0 n0) rfl (by simp) (one3 _ _ _) fun I sI => ?_
   replace sI : Sym H no I (c.its ++ UT bAll b l1 l2 l3 ho (catS xs).fns hc c.y c.y1 c.y2 zS) := sI
   exact ⟨n0, n0, n0, ⟨sI.ld (k := 9) rfl 0, sI.ld (k := 9) rfl 1, sI.ld (k := 9) rfl 2, trivial⟩, k n0 n0 n0 nilS _ I sI.fr hu rd_nil⟩
  refine ⟨c.y, c.y1, c.y2, ⟨sF.ld (k := 8) rfl 0, sF.ld (k := 8) rfl 1, sF.ld (k := 8) rfl 2, trivial⟩, check_ok (rdt sF) okt (TabH.more ht sF.fr) fun G fG => ⟨_, rfl, fun h0 => ?_, fun h0 => ⟨fun h4 => ?_, fun h4 => ?_⟩⟩⟩
  ·have sG := sF.more fG
   have h0 := hck.1 (eqI.1 h0)
   refine ⟨c.y, c.y1, c.y2, ⟨sG.ld (k := 8) rfl 0, sG.ld (k := 8) rfl 1, sG.ld (k := 8) rfl 2, trivial⟩, sG.stbs (k := 9) (i := 0) (vs := sL c.y c.y1 c.y2) rfl (by simp) (one3 _ _ _) fun I sI => ?_⟩
   replace sI : Sym H no I (c.its ++ UT bAll b l1 l2 l3 ho (catS xs).fns hc c.y c.y1 c.y2 (sL c.y c.y1 c.y2)) := sI
   exact ⟨c.y, c.y1, c.y2, ⟨sI.ld (k := 9) rfl 0, sI.ld (k := 9) rfl 1, sI.ld (k := 9) rfl 2, trivial⟩, k _ _ _ t _ I sI.fr (.inr ⟨hz, t, hcan, .inr (.inr ⟨h0.1, h0.2, rfl, rfl⟩)⟩) (rdt sI)⟩
  ·have sG := sF.more fG
   have hbig := hck4.1 (eqI.1 h4)
   refine ⟨c.y, c.y1, c.y2, ⟨sG.ld (k := 8) rfl 0, sG.ld (k := 8) rfl 1, sG.ld (k := 8) rfl 2, trivial⟩, twice_ok (rdt sG) okt.len fun bo I fI hb => ⟨_, rfl, fun hT => ?_, fun hT => ?_⟩⟩
   ·exact bad (sG.more fI) (.inr ⟨hz, t, hcan, .inl ⟨hb.1 hT, rfl, rfl⟩⟩)
   ·have ho : once t := Classical.byContradiction fun hno => by rw [hb.2 hno] at hT; cases hT
    exact bad (sG.more fI) (.inr ⟨hz, t, hcan, .inr (.inl ⟨ho, hbig, rfl, rfl⟩)⟩)
  ·have hno : ¬ once t := fun ho => (neI.1 h0) (hck.2 ⟨ho, fun hb => (neI.1 h4) (hck4.2 hb)⟩)
   exact bad (sF.more fG) (.inr ⟨hz, t, hcan, .inl ⟨hno, rfl, rfl⟩⟩)
end
end Go.Proofs.YtjpkbenogloihaaGreatDoor.C18
end
section
set_option maxRecDepth 100000
namespace Go.Proofs.YtjpkbenogloihaaGreatDoor.N16L
open Go Go.V Go.Proofs
def V3 (H : Hp) (a_a a_b a_c b_a b_b b_c : Sl) (K : Value → Hp → Prop) (Z : List PanicEntry → Hp → Prop) : Prop :=
 ∀ bA H1, Newb H (.cells #[.slice a_a.a a_a.n a_a.c, .slice a_b.a a_b.n a_b.c, .slice a_c.a a_c.n a_c.c] 26) bA H1 →
  ∀ bB H2, Newb H1 (.cells #[.slice b_a.a b_a.n b_a.c, .slice b_b.a b_b.n b_b.c, .slice b_c.a b_c.n b_c.c] 26) bB H2 →
  CallF Tryz.prog 6 #[] H2 (fun r H3 => ∃ y : Bool, r = .bool y ∧ (((!y) = true → K (.bool false) H3) ∧
  ((!y) = false → ∃ J : Hp → Prop, (∀ H4, J  H4 → ∀ scr : Nat → Value, ∃ x_a x_b x_c : Sl, (hcell H4 ⟨bA, 0, none⟩ = some (.slice x_a.a x_a.n x_a.c) ∧
  hcell H4 ⟨bA, 1, none⟩ = some (.slice x_b.a x_b.n x_b.c) ∧ hcell H4 ⟨bA, 2, none⟩ = some (.slice x_c.a x_c.n x_c.c) ∧
  True) ∧ ∃ x_a1 x_b1 x_c1 : Sl, (hcell H4 ⟨bB, 0, none⟩ = some (.slice x_a1.a x_a1.n x_a1.c) ∧
  hcell H4 ⟨bB, 1, none⟩ = some (.slice x_b1.a x_b1.n x_b1.c) ∧ hcell H4 ⟨bB, 2, none⟩ = some (.slice x_c1.a x_c1.n x_c1.c) ∧
  True) ∧ ∀ b H5, Newb H4 (.cells #[.slice x_a.a x_a.n x_a.c, .slice x_b.a x_b.n x_b.c, .slice x_c.a x_c.n x_c.c, .slice x_a1.a x_a1.n x_a1.c, .slice x_b1.a x_b1.n x_b1.c, .slice x_c1.a x_c1.n x_c1.c] 26) b H5 →
  CallF Tryz.prog 8 #[.slice (some ⟨b, 0, none⟩) 2 2] H5 (fun r1 H6 => ∃ (y_0_a y_0_b y_0_c : Sl) (y_1 : Int), r1 = .tuple #[.agg #[.slice y_0_a.a y_0_a.n y_0_a.c, .slice y_0_b.a y_0_b.n y_0_b.c, .slice y_0_c.a y_0_c.n y_0_c.c], .int .i64 y_1] ∧
  ∀ bU H7, Newb H6 (.cells #[.slice none 0 0, .slice none 0 0, .slice none 0 0] 26) bU H7 → StL ⟨bU, 0, none⟩ 0 [.slice y_0_a.a y_0_a.n y_0_a.c, .slice y_0_b.a y_0_b.n y_0_b.c, .slice y_0_c.a y_0_c.n y_0_c.c] H7 fun H8 =>
  (((y_1 != 0) = true → ∃ x : Sl, hcell H8 ⟨bU, 0, none⟩ = some (.slice x.a x.n x.c) ∧ ∃ x1 : Sl, hcell H8 ⟨bU, 1, none⟩ = some (.slice x1.a x1.n x1.c) ∧
  ∃ x2 : Sl, hcell H8 ⟨bU, 2, none⟩ = some (.slice x2.a x2.n x2.c) ∧ K (.bool ((w64 ((w64 ((x.n : Int) + (x1.n : Int))) + (x2.n : Int))) == 0)) H8) ∧
  ((y_1 != 0) = false → ∃ x_a2 x_b2 x_c2 : Sl, (hcell H8 ⟨bA, 0, none⟩ = some (.slice x_a2.a x_a2.n x_a2.c) ∧
  hcell H8 ⟨bA, 1, none⟩ = some (.slice x_b2.a x_b2.n x_b2.c) ∧ hcell H8 ⟨bA, 2, none⟩ = some (.slice x_c2.a x_c2.n x_c2.c) ∧
  True) ∧ ∃ x_a3 x_b3 x_c3 : Sl, (hcell H8 ⟨bB, 0, none⟩ = some (.slice x_a3.a x_a3.n x_a3.c) ∧
  hcell H8 ⟨bB, 1, none⟩ = some (.slice x_b3.a x_b3.n x_b3.c) ∧ hcell H8 ⟨bB, 2, none⟩ = some (.slice x_c3.a x_c3.n x_c3.c) ∧
  True) ∧ ((∀ b1 H9, Newb H8 (.cells #[] 9) b1 H9 → ((hcell H9 ⟨bB, 0, none⟩ = some (.slice x_a3.a x_a3.n x_a3.c) ∧
  hcell H9 ⟨bB, 1, none⟩ = some (.slice x_b3.a x_b3.n x_b3.c) ∧ hcell H9 ⟨bB, 2, none⟩ = some (.slice x_c3.a x_c3.n x_c3.c) ∧
  True) ∧ ((hcell H9 ⟨bA, 0, none⟩ = some (.slice x_a2.a x_a2.n x_a2.c) ∧ hcell H9 ⟨bA, 1, none⟩ = some (.slice x_b2.a x_b2.n x_b2.c) ∧
  hcell H9 ⟨bA, 2, none⟩ = some (.slice x_c2.a x_c2.n x_c2.c) ∧ True) ∧ CallF Tryz.prog 10 #[.agg #[.slice x_a2.a x_a2.n x_a2.c, .slice x_b2.a x_b2.n x_b2.c, .slice x_c2.a x_c2.n x_c2.c]] H9 (fun r2 H10 =>
  ∃ y1 : Sl, r2 = .slice y1.a y1.n y1.c ∧ ((hcell H10 ⟨bB, 0, none⟩ = some (.slice x_a3.a x_a3.n x_a3.c) ∧
  hcell H10 ⟨bB, 1, none⟩ = some (.slice x_b3.a x_b3.n x_b3.c) ∧ hcell H10 ⟨bB, 2, none⟩ = some (.slice x_c3.a x_c3.n x_c3.c) ∧
  True) ∧ App Tryz.prog #[33, 33] 33 H10 [.slice (some ⟨b1, 0, none⟩) 0 0, .slice y1.a y1.n y1.c] fun ap H11 =>
  ((hcell H11 ⟨bB, 0, none⟩ = some (.slice x_a3.a x_a3.n x_a3.c) ∧ hcell H11 ⟨bB, 1, none⟩ = some (.slice x_b3.a x_b3.n x_b3.c) ∧
  hcell H11 ⟨bB, 2, none⟩ = some (.slice x_c3.a x_c3.n x_c3.c) ∧ True) ∧ CallF Tryz.prog 10 #[.agg #[.slice x_a3.a x_a3.n x_a3.c, .slice x_b3.a x_b3.n x_b3.c, .slice x_c3.a x_c3.n x_c3.c]] H11 (fun r3 H12 =>
  ∃ y2 : Sl, r3 = .slice y2.a y2.n y2.c ∧ App Tryz.prog #[33, 33] 33 H12 [.slice ap.a ap.n ap.c, .slice y2.a y2.n y2.c] fun ap1 H13 =>
  (CallF Tryz.prog 9 #[.slice ap1.a ap1.n ap1.c] H13 (fun r4 H14 => ∃ y3 : Sl, r4 = .slice y3.a y3.n y3.c ∧
  ∃ x_a4 x_b4 x_c4 : Sl, (hcell H14 ⟨bA, 0, none⟩ = some (.slice x_a4.a x_a4.n x_a4.c) ∧
  hcell H14 ⟨bA, 1, none⟩ = some (.slice x_b4.a x_b4.n x_b4.c) ∧ hcell H14 ⟨bA, 2, none⟩ = some (.slice x_c4.a x_c4.n x_c4.c) ∧
  True) ∧ ∃ x_a5 x_b5 x_c5 : Sl, (hcell H14 ⟨bB, 0, none⟩ = some (.slice x_a5.a x_a5.n x_a5.c) ∧
  hcell H14 ⟨bB, 1, none⟩ = some (.slice x_b5.a x_b5.n x_b5.c) ∧ hcell H14 ⟨bB, 2, none⟩ = some (.slice x_c5.a x_c5.n x_c5.c) ∧
  True) ∧ ((∀ b2 H15, Newb H14 (.cells #[] 9) b2 H15 → ((hcell H15 ⟨bB, 0, none⟩ = some (.slice x_a5.a x_a5.n x_a5.c) ∧
  hcell H15 ⟨bB, 1, none⟩ = some (.slice x_b5.a x_b5.n x_b5.c) ∧ hcell H15 ⟨bB, 2, none⟩ = some (.slice x_c5.a x_c5.n x_c5.c) ∧
  True) ∧ ((hcell H15 ⟨bA, 0, none⟩ = some (.slice x_a4.a x_a4.n x_a4.c) ∧ hcell H15 ⟨bA, 1, none⟩ = some (.slice x_b4.a x_b4.n x_b4.c) ∧
  hcell H15 ⟨bA, 2, none⟩ = some (.slice x_c4.a x_c4.n x_c4.c) ∧ True) ∧ CallF Tryz.prog 11 #[.agg #[.slice x_a4.a x_a4.n x_a4.c, .slice x_b4.a x_b4.n x_b4.c, .slice x_c4.a x_c4.n x_c4.c]] H15 (fun r5 H16 =>
  ∃ y4 : Sl, r5 = .slice y4.a y4.n y4.c ∧ ((hcell H16 ⟨bB, 0, none⟩ = some (.slice x_a5.a x_a5.n x_a5.c) ∧
  hcell H16 ⟨bB, 1, none⟩ = some (.slice x_b5.a x_b5.n x_b5.c) ∧ hcell H16 ⟨bB, 2, none⟩ = some (.slice x_c5.a x_c5.n x_c5.c) ∧
  True) ∧ App Tryz.prog #[33, 33] 33 H16 [.slice (some ⟨b2, 0, none⟩) 0 0, .slice y4.a y4.n y4.c] fun ap2 H17 =>
  ((hcell H17 ⟨bB, 0, none⟩ = some (.slice x_a5.a x_a5.n x_a5.c) ∧ hcell H17 ⟨bB, 1, none⟩ = some (.slice x_b5.a x_b5.n x_b5.c) ∧
  hcell H17 ⟨bB, 2, none⟩ = some (.slice x_c5.a x_c5.n x_c5.c) ∧ True) ∧ CallF Tryz.prog 11 #[.agg #[.slice x_a5.a x_a5.n x_a5.c, .slice x_b5.a x_b5.n x_b5.c, .slice x_c5.a x_c5.n x_c5.c]] H17 (fun r6 H18 =>
  ∃ y5 : Sl, r6 = .slice y5.a y5.n y5.c ∧ App Tryz.prog #[33, 33] 33 H18 [.slice ap2.a ap2.n ap2.c, .slice y5.a y5.n y5.c] fun ap3 H19 =>
  (CallF Tryz.prog 9 #[.slice ap3.a ap3.n ap3.c] H19 (fun r7 H20 => ∃ y6 : Sl, r7 = .slice y6.a y6.n y6.c ∧
  ∃ x_a6 x_b6 x_c6 : Sl, (hcell H20 ⟨bU, 0, none⟩ = some (.slice x_a6.a x_a6.n x_a6.c) ∧
  hcell H20 ⟨bU, 1, none⟩ = some (.slice x_b6.a x_b6.n x_b6.c) ∧ hcell H20 ⟨bU, 2, none⟩ = some (.slice x_c6.a x_c6.n x_c6.c) ∧
  True) ∧ CallF Tryz.prog 10 #[.agg #[.slice x_a6.a x_a6.n x_a6.c, .slice x_b6.a x_b6.n x_b6.c, .slice x_c6.a x_c6.n x_c6.c]] H20 (fun r8 H21 =>
  ∃ y7 : Sl, r8 = .slice y7.a y7.n y7.c ∧ CallF Tryz.prog 12 #[.slice y7.a y7.n y7.c, .slice y3.a y3.n y3.c] H21 (fun r9 H22 =>
  ∃ y8 : Bool, r9 = .bool y8 ∧ ((y8 = true → ∃ x_a7 x_b7 x_c7 : Sl, (hcell H22 ⟨bU, 0, none⟩ = some (.slice x_a7.a x_a7.n x_a7.c) ∧
  hcell H22 ⟨bU, 1, none⟩ = some (.slice x_b7.a x_b7.n x_b7.c) ∧ hcell H22 ⟨bU, 2, none⟩ = some (.slice x_c7.a x_c7.n x_c7.c) ∧
  True) ∧ CallF Tryz.prog 11 #[.agg #[.slice x_a7.a x_a7.n x_a7.c, .slice x_b7.a x_b7.n x_b7.c, .slice x_c7.a x_c7.n x_c7.c]] H22 (fun r10 H23 =>
  ∃ y9 : Sl, r10 = .slice y9.a y9.n y9.c ∧ CallF Tryz.prog 12 #[.slice y9.a y9.n y9.c, .slice y6.a y6.n y6.c] H23 (fun r11 H24 =>
  ∃ y10 : Bool, r11 = .bool y10 ∧ K (.bool y10) H24) Z) Z) ∧ (y8 = false → K (.bool false) H22))) Z) Z) Z)) Z))) Z))) ∧
  (CallF Tryz.prog 11 #[.agg #[.slice x_a4.a x_a4.n x_a4.c, .slice x_b4.a x_b4.n x_b4.c, .slice x_c4.a x_c4.n x_c4.c]] H14 (fun r12 H25 =>
  ∃ y11 : Sl, r12 = .slice y11.a y11.n y11.c ∧ ((hcell H25 ⟨bB, 0, none⟩ = some (.slice x_a5.a x_a5.n x_a5.c) ∧
  hcell H25 ⟨bB, 1, none⟩ = some (.slice x_b5.a x_b5.n x_b5.c) ∧ hcell H25 ⟨bB, 2, none⟩ = some (.slice x_c5.a x_c5.n x_c5.c) ∧
  True) ∧ ∀ b3 H26, Newb H25 (.cells #[] 9) b3 H26 → ((hcell H26 ⟨bB, 0, none⟩ = some (.slice x_a5.a x_a5.n x_a5.c) ∧
  hcell H26 ⟨bB, 1, none⟩ = some (.slice x_b5.a x_b5.n x_b5.c) ∧ hcell H26 ⟨bB, 2, none⟩ = some (.slice x_c5.a x_c5.n x_c5.c) ∧
  True) ∧ App Tryz.prog #[33, 33] 33 H26 [.slice (some ⟨b3, 0, none⟩) 0 0, .slice y11.a y11.n y11.c] fun ap4 H27 =>
  ((hcell H27 ⟨bB, 0, none⟩ = some (.slice x_a5.a x_a5.n x_a5.c) ∧ hcell H27 ⟨bB, 1, none⟩ = some (.slice x_b5.a x_b5.n x_b5.c) ∧
  hcell H27 ⟨bB, 2, none⟩ = some (.slice x_c5.a x_c5.n x_c5.c) ∧ True) ∧ CallF Tryz.prog 11 #[.agg #[.slice x_a5.a x_a5.n x_a5.c, .slice x_b5.a x_b5.n x_b5.c, .slice x_c5.a x_c5.n x_c5.c]] H27 (fun r13 H28 =>
  ∃ y12 : Sl, r13 = .slice y12.a y12.n y12.c ∧ App Tryz.prog #[33, 33] 33 H28 [.slice ap4.a ap4.n ap4.c, .slice y12.a y12.n y12.c] fun ap5 H29 =>
  (CallF Tryz.prog 9 #[.slice ap5.a ap5.n ap5.c] H29 (fun r14 H30 => ∃ y13 : Sl, r14 = .slice y13.a y13.n y13.c ∧
  ∃ x_a8 x_b8 x_c8 : Sl, (hcell H30 ⟨bU, 0, none⟩ = some (.slice x_a8.a x_a8.n x_a8.c) ∧
  hcell H30 ⟨bU, 1, none⟩ = some (.slice x_b8.a x_b8.n x_b8.c) ∧ hcell H30 ⟨bU, 2, none⟩ = some (.slice x_c8.a x_c8.n x_c8.c) ∧
  True) ∧ CallF Tryz.prog 10 #[.agg #[.slice x_a8.a x_a8.n x_a8.c, .slice x_b8.a x_b8.n x_b8.c, .slice x_c8.a x_c8.n x_c8.c]] H30 (fun r15 H31 =>
  ∃ y14 : Sl, r15 = .slice y14.a y14.n y14.c ∧ CallF Tryz.prog 12 #[.slice y14.a y14.n y14.c, .slice y3.a y3.n y3.c] H31 (fun r16 H32 =>
  ∃ y15 : Bool, r16 = .bool y15 ∧ ((y15 = true → ∃ x_a9 x_b9 x_c9 : Sl, (hcell H32 ⟨bU, 0, none⟩ = some (.slice x_a9.a x_a9.n x_a9.c) ∧
  hcell H32 ⟨bU, 1, none⟩ = some (.slice x_b9.a x_b9.n x_b9.c) ∧ hcell H32 ⟨bU, 2, none⟩ = some (.slice x_c9.a x_c9.n x_c9.c) ∧
  True) ∧ CallF Tryz.prog 11 #[.agg #[.slice x_a9.a x_a9.n x_a9.c, .slice x_b9.a x_b9.n x_b9.c, .slice x_c9.a x_c9.n x_c9.c]] H32 (fun r17 H33 =>
  ∃ y16 : Sl, r17 = .slice y16.a y16.n y16.c ∧ CallF Tryz.prog 12 #[.slice y16.a y16.n y16.c, .slice y13.a y13.n y13.c] H33 (fun r18 H34 =>
  ∃ y17 : Bool, r18 = .bool y17 ∧ K (.bool y17) H34) Z) Z) ∧ (y15 = false → K (.bool false) H32))) Z) Z) Z)) Z)))) Z))) Z)) Z))) Z))) ∧
  (CallF Tryz.prog 10 #[.agg #[.slice x_a2.a x_a2.n x_a2.c, .slice x_b2.a x_b2.n x_b2.c, .slice x_c2.a x_c2.n x_c2.c]] H8 (fun r19 H35 =>
  ∃ y18 : Sl, r19 = .slice y18.a y18.n y18.c ∧ ((hcell H35 ⟨bB, 0, none⟩ = some (.slice x_a3.a x_a3.n x_a3.c) ∧
  hcell H35 ⟨bB, 1, none⟩ = some (.slice x_b3.a x_b3.n x_b3.c) ∧ hcell H35 ⟨bB, 2, none⟩ = some (.slice x_c3.a x_c3.n x_c3.c) ∧
  True) ∧ ∀ b4 H36, Newb H35 (.cells #[] 9) b4 H36 → ((hcell H36 ⟨bB, 0, none⟩ = some (.slice x_a3.a x_a3.n x_a3.c) ∧
  hcell H36 ⟨bB, 1, none⟩ = some (.slice x_b3.a x_b3.n x_b3.c) ∧ hcell H36 ⟨bB, 2, none⟩ = some (.slice x_c3.a x_c3.n x_c3.c) ∧
  True) ∧ App Tryz.prog #[33, 33] 33 H36 [.slice (some ⟨b4, 0, none⟩) 0 0, .slice y18.a y18.n y18.c] fun ap6 H37 =>
  ((hcell H37 ⟨bB, 0, none⟩ = some (.slice x_a3.a x_a3.n x_a3.c) ∧ hcell H37 ⟨bB, 1, none⟩ = some (.slice x_b3.a x_b3.n x_b3.c) ∧
  hcell H37 ⟨bB, 2, none⟩ = some (.slice x_c3.a x_c3.n x_c3.c) ∧ True) ∧ CallF Tryz.prog 10 #[.agg #[.slice x_a3.a x_a3.n x_a3.c, .slice x_b3.a x_b3.n x_b3.c, .slice x_c3.a x_c3.n x_c3.c]] H37 (fun r20 H38 =>
  ∃ y19 : Sl, r20 = .slice y19.a y19.n y19.c ∧ App Tryz.prog #[33, 33] 33 H38 [.slice ap6.a ap6.n ap6.c, .slice y19.a y19.n y19.c] fun ap7 H39 =>
  (CallF Tryz.prog 9 #[.slice ap7.a ap7.n ap7.c] H39 (fun r21 H40 => ∃ y20 : Sl, r21 = .slice y20.a y20.n y20.c ∧
  ∃ x_a10 x_b10 x_c10 : Sl, (hcell H40 ⟨bA, 0, none⟩ = some (.slice x_a10.a x_a10.n x_a10.c) ∧
  hcell H40 ⟨bA, 1, none⟩ = some (.slice x_b10.a x_b10.n x_b10.c) ∧ hcell H40 ⟨bA, 2, none⟩ = some (.slice x_c10.a x_c10.n x_c10.c) ∧
  True) ∧ ∃ x_a11 x_b11 x_c11 : Sl, (hcell H40 ⟨bB, 0, none⟩ = some (.slice x_a11.a x_a11.n x_a11.c) ∧
  hcell H40 ⟨bB, 1, none⟩ = some (.slice x_b11.a x_b11.n x_b11.c) ∧ hcell H40 ⟨bB, 2, none⟩ = some (.slice x_c11.a x_c11.n x_c11.c) ∧
  True) ∧ ((∀ b5 H41, Newb H40 (.cells #[] 9) b5 H41 → ((hcell H41 ⟨bB, 0, none⟩ = some (.slice x_a11.a x_a11.n x_a11.c) ∧
  hcell H41 ⟨bB, 1, none⟩ = some (.slice x_b11.a x_b11.n x_b11.c) ∧ hcell H41 ⟨bB, 2, none⟩ = some (.slice x_c11.a x_c11.n x_c11.c) ∧
  True) ∧ ((hcell H41 ⟨bA, 0, none⟩ = some (.slice x_a10.a x_a10.n x_a10.c) ∧ hcell H41 ⟨bA, 1, none⟩ = some (.slice x_b10.a x_b10.n x_b10.c) ∧
  hcell H41 ⟨bA, 2, none⟩ = some (.slice x_c10.a x_c10.n x_c10.c) ∧ True) ∧ CallF Tryz.prog 11 #[.agg #[.slice x_a10.a x_a10.n x_a10.c, .slice x_b10.a x_b10.n x_b10.c, .slice x_c10.a x_c10.n x_c10.c]] H41 (fun r22 H42 =>
  ∃ y21 : Sl, r22 = .slice y21.a y21.n y21.c ∧ ((hcell H42 ⟨bB, 0, none⟩ = some (.slice x_a11.a x_a11.n x_a11.c) ∧
  hcell H42 ⟨bB, 1, none⟩ = some (.slice x_b11.a x_b11.n x_b11.c) ∧ hcell H42 ⟨bB, 2, none⟩ = some (.slice x_c11.a x_c11.n x_c11.c) ∧
  True) ∧ App Tryz.prog #[33, 33] 33 H42 [.slice (some ⟨b5, 0, none⟩) 0 0, .slice y21.a y21.n y21.c] fun ap8 H43 =>
  ((hcell H43 ⟨bB, 0, none⟩ = some (.slice x_a11.a x_a11.n x_a11.c) ∧ hcell H43 ⟨bB, 1, none⟩ = some (.slice x_b11.a x_b11.n x_b11.c) ∧
  hcell H43 ⟨bB, 2, none⟩ = some (.slice x_c11.a x_c11.n x_c11.c) ∧ True) ∧ CallF Tryz.prog 11 #[.agg #[.slice x_a11.a x_a11.n x_a11.c, .slice x_b11.a x_b11.n x_b11.c, .slice x_c11.a x_c11.n x_c11.c]] H43 (fun r23 H44 =>
  ∃ y22 : Sl, r23 = .slice y22.a y22.n y22.c ∧ App Tryz.prog #[33, 33] 33 H44 [.slice ap8.a ap8.n ap8.c, .slice y22.a y22.n y22.c] fun ap9 H45 =>
  (CallF Tryz.prog 9 #[.slice ap9.a ap9.n ap9.c] H45 (fun r24 H46 => ∃ y23 : Sl, r24 = .slice y23.a y23.n y23.c ∧
  ∃ x_a12 x_b12 x_c12 : Sl, (hcell H46 ⟨bU, 0, none⟩ = some (.slice x_a12.a x_a12.n x_a12.c) ∧
  hcell H46 ⟨bU, 1, none⟩ = some (.slice x_b12.a x_b12.n x_b12.c) ∧ hcell H46 ⟨bU, 2, none⟩ = some (.slice x_c12.a x_c12.n x_c12.c) ∧
  True) ∧ CallF Tryz.prog 10 #[.agg #[.slice x_a12.a x_a12.n x_a12.c, .slice x_b12.a x_b12.n x_b12.c, .slice x_c12.a x_c12.n x_c12.c]] H46 (fun r25 H47 =>
  ∃ y24 : Sl, r25 = .slice y24.a y24.n y24.c ∧ CallF Tryz.prog 12 #[.slice y24.a y24.n y24.c, .slice y20.a y20.n y20.c] H47 (fun r26 H48 =>
  ∃ y25 : Bool, r26 = .bool y25 ∧ ((y25 = true → ∃ x_a13 x_b13 x_c13 : Sl, (hcell H48 ⟨bU, 0, none⟩ = some (.slice x_a13.a x_a13.n x_a13.c) ∧
  hcell H48 ⟨bU, 1, none⟩ = some (.slice x_b13.a x_b13.n x_b13.c) ∧ hcell H48 ⟨bU, 2, none⟩ = some (.slice x_c13.a x_c13.n x_c13.c) ∧
  True) ∧ CallF Tryz.prog 11 #[.agg #[.slice x_a13.a x_a13.n x_a13.c, .slice x_b13.a x_b13.n x_b13.c, .slice x_c13.a x_c13.n x_c13.c]] H48 (fun r27 H49 =>
  ∃ y26 : Sl, r27 = .slice y26.a y26.n y26.c ∧ CallF Tryz.prog 12 #[.slice y26.a y26.n y26.c, .slice y23.a y23.n y23.c] H49 (fun r28 H50 =>
  ∃ y27 : Bool, r28 = .bool y27 ∧ K (.bool y27) H50) Z) Z) ∧ (y25 = false → K (.bool false) H48))) Z) Z) Z)) Z))) Z))) ∧
  (CallF Tryz.prog 11 #[.agg #[.slice x_a10.a x_a10.n x_a10.c, .slice x_b10.a x_b10.n x_b10.c, .slice x_c10.a x_c10.n x_c10.c]] H40 (fun r29 H51 =>
  ∃ y28 : Sl, r29 = .slice y28.a y28.n y28.c ∧ ((hcell H51 ⟨bB, 0, none⟩ = some (.slice x_a11.a x_a11.n x_a11.c) ∧
  hcell H51 ⟨bB, 1, none⟩ = some (.slice x_b11.a x_b11.n x_b11.c) ∧ hcell H51 ⟨bB, 2, none⟩ = some (.slice x_c11.a x_c11.n x_c11.c) ∧
  True) ∧ ∀ b6 H52, Newb H51 (.cells #[] 9) b6 H52 → ((hcell H52 ⟨bB, 0, none⟩ = some (.slice x_a11.a x_a11.n x_a11.c) ∧
  hcell H52 ⟨bB, 1, none⟩ = some (.slice x_b11.a x_b11.n x_b11.c) ∧ hcell H52 ⟨bB, 2, none⟩ = some (.slice x_c11.a x_c11.n x_c11.c) ∧
  True) ∧ App Tryz.prog #[33, 33] 33 H52 [.slice (some ⟨b6, 0, none⟩) 0 0, .slice y28.a y28.n y28.c] fun ap10 H53 =>
  ((hcell H53 ⟨bB, 0, none⟩ = some (.slice x_a11.a x_a11.n x_a11.c) ∧ hcell H53 ⟨bB, 1, none⟩ = some (.slice x_b11.a x_b11.n x_b11.c) ∧
  hcell H53 ⟨bB, 2, none⟩ = some (.slice x_c11.a x_c11.n x_c11.c) ∧ True) ∧ CallF Tryz.prog 11 #[.agg #[.slice x_a11.a x_a11.n x_a11.c, .slice x_b11.a x_b11.n x_b11.c, .slice x_c11.a x_c11.n x_c11.c]] H53 (fun r30 H54 =>
  ∃ y29 : Sl, r30 = .slice y29.a y29.n y29.c ∧ App Tryz.prog #[33, 33] 33 H54 [.slice ap10.a ap10.n ap10.c, .slice y29.a y29.n y29.c] fun ap11 H55 =>
  (CallF Tryz.prog 9 #[.slice ap11.a ap11.n ap11.c] H55 (fun r31 H56 => ∃ y30 : Sl, r31 = .slice y30.a y30.n y30.c ∧
  ∃ x_a14 x_b14 x_c14 : Sl, (hcell H56 ⟨bU, 0, none⟩ = some (.slice x_a14.a x_a14.n x_a14.c) ∧
  hcell H56 ⟨bU, 1, none⟩ = some (.slice x_b14.a x_b14.n x_b14.c) ∧ hcell H56 ⟨bU, 2, none⟩ = some (.slice x_c14.a x_c14.n x_c14.c) ∧
  True) ∧ CallF Tryz.prog 10 #[.agg #[.slice x_a14.a x_a14.n x_a14.c, .slice x_b14.a x_b14.n x_b14.c, .slice x_c14.a x_c14.n x_c14.c]] H56 (fun r32 H57 =>
  ∃ y31 : Sl, r32 = .slice y31.a y31.n y31.c ∧ CallF Tryz.prog 12 #[.slice y31.a y31.n y31.c, .slice y20.a y20.n y20.c] H57 (fun r33 H58 =>
  ∃ y32 : Bool, r33 = .bool y32 ∧ ((y32 = true → ∃ x_a15 x_b15 x_c15 : Sl, (hcell H58 ⟨bU, 0, none⟩ = some (.slice x_a15.a x_a15.n x_a15.c) ∧
  hcell H58 ⟨bU, 1, none⟩ = some (.slice x_b15.a x_b15.n x_b15.c) ∧ hcell H58 ⟨bU, 2, none⟩ = some (.slice x_c15.a x_c15.n x_c15.c) ∧
  True) ∧ CallF Tryz.prog 11 #[.agg #[.slice x_a15.a x_a15.n x_a15.c, .slice x_b15.a x_b15.n x_b15.c, .slice x_c15.a x_c15.n x_c15.c]] H58 (fun r34 H59 =>
  ∃ y33 : Sl, r34 = .slice y33.a y33.n y33.c ∧ CallF Tryz.prog 12 #[.slice y33.a y33.n y33.c, .slice y30.a y30.n y30.c] H59 (fun r35 H60 =>
  ∃ y34 : Bool, r35 = .bool y34 ∧ K (.bool y34) H60) Z) Z) ∧ (y32 = false → K (.bool false) H58))) Z) Z) Z)) Z)))) Z))) Z)) Z)))) Z))))) Z) ∧
  ∃ x_a16 x_b16 x_c16 : Sl, (hcell H3 ⟨bA, 0, none⟩ = some (.slice x_a16.a x_a16.n x_a16.c) ∧
  hcell H3 ⟨bA, 1, none⟩ = some (.slice x_b16.a x_b16.n x_b16.c) ∧ hcell H3 ⟨bA, 2, none⟩ = some (.slice x_c16.a x_c16.n x_c16.c) ∧
  True) ∧ CallF Tryz.prog 7 #[.agg #[.slice x_a16.a x_a16.n x_a16.c, .slice x_b16.a x_b16.n x_b16.c, .slice x_c16.a x_c16.n x_c16.c], .int .i64 60] H3 (fun r36 H61 =>
  ∃ y35 : Bool, r36 = .bool y35 ∧ ((y35 = true → K (.bool true) H61) ∧ (y35 = false → ∃ x_a17 x_b17 x_c17 : Sl, (hcell H61 ⟨bB, 0, none⟩ = some (.slice x_a17.a x_a17.n x_a17.c) ∧
  hcell H61 ⟨bB, 1, none⟩ = some (.slice x_b17.a x_b17.n x_b17.c) ∧ hcell H61 ⟨bB, 2, none⟩ = some (.slice x_c17.a x_c17.n x_c17.c) ∧
  True) ∧ CallF Tryz.prog 7 #[.agg #[.slice x_a17.a x_a17.n x_a17.c, .slice x_b17.a x_b17.n x_b17.c, .slice x_c17.a x_c17.n x_c17.c], .int .i64 60] H61 (fun r37 H62 =>
  ∃ y36 : Bool, r37 = .bool y36 ∧ ((y36 = true → K (.bool true) H62) ∧ (y36 = false → (J  H62)))) Z))) Z))) Z
def aJ3 : Ann := (fun k => if k = 5 then some [] else if k = 2000008 then some [] else if k = 2000009 then some [] else none)
theorem V3_ok {H a_a a_b a_c b_a b_b b_c K Z} (h : V3 H a_a a_b a_c b_a b_b b_c K Z) : CallF Tryz.prog 3 #[.agg #[.slice a_a.a a_a.n a_a.c, .slice a_b.a a_b.n a_b.c, .slice a_c.a a_c.n a_c.c], .agg #[.slice b_a.a b_a.n b_a.c, .slice b_b.a b_b.n b_b.c, .slice b_c.a b_c.n b_c.c]] H K Z :=
 fnC_sound (aJ := aJ3) (aL := fun _ => none) (Eq.mp (by kernel_rfl) h)
end Go.Proofs.YtjpkbenogloihaaGreatDoor.N16L
end
section
namespace Go.Proofs.YtjpkbenogloihaaGreatDoor.C18
open Go Go.V Go.Proofs Go.Proofs.YtjpkbenogloihaaGreatDoor.N16 Go.Proofs.YtjpkbenogloihaaGreatDoor.P14 Go.Proofs.YtjpkbenogloihaaGreatDoor.C14 Go.Proofs.YtjpkbenogloihaaGreatDoor.P15 Go.Proofs.YtjpkbenogloihaaGreatDoor.C15
attribute [local irreducible] Cvt ExtF CallF hrun App MkS callV
theorem Hx.cons {η χ : Type} {In : η → χ → Prop} {h : η} {x : χ} {hs : List η} {xs : List χ} (h1 : In h x) (h2 : Hx In hs xs) : Hx In (h :: hs) (x :: xs) :=
 Hx.app (hs := [h]) (xs := [x]) ⟨rfl, fun i a b ha hb => by
  match i, ha, hb with
  | 0, ha, hb => rw [← Option.some_inj.1 ha, ← Option.some_inj.1 hb]; exact h1
  | i + 1, ha, hb => cases ha⟩ h2
theorem rdY {E : Hp} {l : Sl} {ss : List S3} {xs : List SysD} (h : Rd flY 3 E l ss) (hx : Hx (InY E) ss xs) : RdX flY 3 InY E l xs := ⟨ss, h, hx.1, hx.2⟩
structure Few (n : Nat) (x : SysD) : Prop where
 o : x.objs.length ≤ n
 f : x.fns.length ≤ n
 c : x.cons.length ≤ n
theorem mild_few {n : Nat} {x : SysD} (h : Mild n x) : Few n x := ⟨h.o.1, h.f, h.c.1⟩
theorem Few.mono {n m : Nat} {x : SysD} (h : Few n x) (hm : n ≤ m) : Few m x := ⟨Nat.le_trans h.o hm, Nat.le_trans h.f hm, Nat.le_trans h.c hm⟩
theorem few_cat {n : Nat} {l : List SysD} (h : ∀ x ∈ l, Few n x) : Few (l.length * n) (catS l) :=
 ⟨flat_le (f := SysD.objs) fun x hx => (h x hx).o, flat_le (f := SysD.fns) fun x hx => (h x hx).f, flat_le (f := SysD.cons) fun x hx => (h x hx).c⟩
theorem ok_cat {n : Nat} {l : List SysD} (h : ∀ x ∈ l, OkSys x ∧ Few n x) (hn : l.length * n ≤ 1048576) : OkSys (catS l) := by
 have hf := few_cat (n := n) fun x hx => (h x hx).2
 refine ⟨⟨Nat.le_trans hf.o hn, fun o hm => ?_⟩, ⟨Nat.le_trans hf.f hn, fun o hm => ?_⟩, ⟨Nat.le_trans hf.c hn, fun o hm => ?_⟩⟩
 ·obtain ⟨x, hx, hm⟩ := List.mem_flatMap.1 hm
  exact (h x hx).1.o.2 o hm
 ·obtain ⟨x, hx, hm⟩ := List.mem_flatMap.1 hm
  exact (h x hx).1.f.2 o hm
 ·obtain ⟨x, hx, hm⟩ := List.mem_flatMap.1 hm
  exact (h x hx).1.c.2 o hm
section
variable {H : Hp} {K : Value → Hp → Prop} {Z : List PanicEntry → Hp → Prop}
end
end Go.Proofs.YtjpkbenogloihaaGreatDoor.C18
end
section
namespace Go.Proofs.YtjpkbenogloihaaGreatDoor.C18
open Go Go.V Go.Proofs Go.Proofs.YtjpkbenogloihaaGreatDoor.N16 Go.Proofs.YtjpkbenogloihaaGreatDoor.P14 Go.Proofs.YtjpkbenogloihaaGreatDoor.C14 Go.Proofs.YtjpkbenogloihaaGreatDoor.P15 Go.Proofs.YtjpkbenogloihaaGreatDoor.C15
attribute [local irreducible] Cvt ExtF CallF hrun App MkS callV
theorem IsN.len {x : SysD} {ys : List L8} (h : IsN x ys) : ys.length ≤ 100000 := by
 rcases h with ⟨_, rfl⟩ | ⟨h0, hr, hm⟩
 ·decide
 ·have hR := check_right h0
  have := rising_len hr hm
  have a := cons_le hR x.cons.length
  have b := objs_le hR x.objs.length
  rw [List.take_length] at a b
  unfold nodesL at this
  rw [List.length_append] at this
  omega
theorem IsP.len {x : SysD} {ys : List L8} (h : IsP x ys) : ys.length ≤ 100000 := by
 rcases h with ⟨_, rfl⟩ | ⟨h0, hr, hm⟩
 ·decide
 ·have hR := check_right h0
  have := rising_len hr hm
  have a := consP_le hR x.cons.length
  have b := objsP_le hR x.objs.length
  have c := hR.f
  rw [List.take_length] at a b
  unfold placesL at this
  rw [List.length_append, List.length_append, List.length_map] at this
  omega
section
variable {H : Hp} {K : Value → Hp → Prop} {Z : List PanicEntry → Hp → Prop}
theorem rsortedL_ok {l : Sl} {xs : List L8} (h : Rd flL 1 H l xs) (hbig : xs.length ≤ 2000000)
  (k : ∀ s' ys H', Fr no H H' → Rising ltL ys → (∀ z, z ∈ ys ↔ z ∈ xs) → Rd flL 1 H' s' ys → K (.slice s'.a s'.n s'.c) H') : CallF Tryz.prog 9 #[.slice l.a l.n l.c] H K Z := by
 refine Q05.rsorted_ok (els_of h) (by rw [List.length_map]; exact hbig) fun s A ys hris hmem hrow hf hown => ?_
 refine k s (ys.map (·.data.toList)) A hf (rising_map hris) (fun z => ?_) (row_rd hrow)
 rw [List.mem_map]
 constructor
 ·rintro ⟨y, hy, rfl⟩
  obtain ⟨x, hx, e⟩ := List.mem_map.1 ((hmem y).1 hy)
  rw [← e, str_data]
  exact hx
 ·intro hz
  exact ⟨str z, (hmem _).2 (List.mem_map.2 ⟨z, hz, rfl⟩), str_data z⟩
abbrev At3 (E : Hp) (b : Nat) (s1 s2 s3 : Sl) : Prop := hcell E ⟨b, 0, none⟩ = some (.slice s1.a s1.n s1.c) ∧ hcell E ⟨b, 1, none⟩ = some (.slice s2.a s2.n s2.c) ∧ hcell E ⟨b, 2, none⟩ = some (.slice s3.a s3.n s3.c) ∧ True
theorem two_ok {fn bA bB : Nat} {a1 a2 a3 b1 b2 b3 : Sl} {Pa Pb : List L8 → Prop} {C : Sl → Hp → Prop} {A E : Hp}
  (pA : ∀ {E : Hp}, Fr no A E → At3 E bA a1 a2 a3) (pB : ∀ {E : Hp}, Fr no A E → At3 E bB b1 b2 b3)
  (cA : ∀ {E : Hp} {K' : Value → Hp → Prop}, Fr no A E → (∀ s' ys H', Fr no E H' → Pa ys → Rd flL 1 H' s' ys → K' (.slice s'.a s'.n s'.c) H') → CallF Tryz.prog fn #[sAg a1 a2 a3] E K' Z)
  (cB : ∀ {E : Hp} {K' : Value → Hp → Prop}, Fr no A E → (∀ s' ys H', Fr no E H' → Pb ys → Rd flL 1 H' s' ys → K' (.slice s'.a s'.n s'.c) H') → CallF Tryz.prog fn #[sAg b1 b2 b3] E K' Z)
  (la : ∀ ys, Pa ys → ys.length ≤ 100000) (lb : ∀ ys, Pb ys → ys.length ≤ 100000) (fE : Fr no A E)
  (hC : ∀ s' ya yb zs F, Fr no A F → Pa ya → Pb yb → Rising ltL zs → (∀ z, z ∈ zs ↔ z ∈ ya ∨ z ∈ yb) → Rd flL 1 F s' zs → C s' F) :
  (∀ b H9, Newb E (.cells #[] 9) b H9 → (At3 H9 bB b1 b2 b3 ∧ (At3 H9 bA a1 a2 a3 ∧ CallF Tryz.prog fn #[sAg a1 a2 a3] H9 (fun r2 H10 => ∃ y1 : Sl, r2 = .slice y1.a y1.n y1.c ∧ (At3 H10 bB b1 b2 b3 ∧ App Tryz.prog #[33, 33] 33 H10 [.slice (some ⟨b, 0, none⟩) 0 0, .slice y1.a y1.n y1.c] fun ap H11 =>
   (At3 H11 bB b1 b2 b3 ∧ CallF Tryz.prog fn #[sAg b1 b2 b3] H11 (fun r3 H12 => ∃ y2 : Sl, r3 = .slice y2.a y2.n y2.c ∧ App Tryz.prog #[33, 33] 33 H12 [.slice ap.a ap.n ap.c, .slice y2.a y2.n y2.c] fun ap1 H13 =>
   (CallF Tryz.prog 9 #[.slice ap1.a ap1.n ap1.c] H13 (fun r4 H14 => ∃ y3 : Sl, r4 = .slice y3.a y3.n y3.c ∧ C y3 H14) Z)) Z))) Z))) ∧
  (CallF Tryz.prog fn #[sAg a1 a2 a3] E (fun r19 H35 => ∃ y18 : Sl, r19 = .slice y18.a y18.n y18.c ∧ (At3 H35 bB b1 b2 b3 ∧ ∀ b4 H36, Newb H35 (.cells #[] 9) b4 H36 → (At3 H36 bB b1 b2 b3 ∧ App Tryz.prog #[33, 33] 33 H36 [.slice (some ⟨b4, 0, none⟩) 0 0, .slice y18.a y18.n y18.c] fun ap6 H37 =>
   (At3 H37 bB b1 b2 b3 ∧ CallF Tryz.prog fn #[sAg b1 b2 b3] H37 (fun r20 H38 => ∃ y19 : Sl, r20 = .slice y19.a y19.n y19.c ∧ App Tryz.prog #[33, 33] 33 H38 [.slice ap6.a ap6.n ap6.c, .slice y19.a y19.n y19.c] fun ap7 H39 =>
   (CallF Tryz.prog 9 #[.slice ap7.a ap7.n ap7.c] H39 (fun r21 H40 => ∃ y20 : Sl, r21 = .slice y20.a y20.n y20.c ∧ C y20 H40) Z)) Z)))) Z) := by
 have tail : ∀ {F G : Hp} {y1 ap : Sl} {ya : List L8}, Fr no A F → Pa ya → Sym F no G [arr flL 9 1 ap ya] → (At3 G bB b1 b2 b3 ∧ CallF Tryz.prog fn #[sAg b1 b2 b3] G (fun r3 H12 => ∃ y2 : Sl, r3 = .slice y2.a y2.n y2.c ∧ App Tryz.prog #[33, 33] 33 H12 [.slice ap.a ap.n ap.c, .slice y2.a y2.n y2.c] fun ap1 H13 =>
   (CallF Tryz.prog 9 #[.slice ap1.a ap1.n ap1.c] H13 (fun r4 H14 => ∃ y3 : Sl, r4 = .slice y3.a y3.n y3.c ∧ C y3 H14) Z)) Z) := by
  intro F G y1 ap ya fF pa sG
  have fG := fF.trans sG.fr
  refine ⟨pB fG, cB fG fun y2 yb I fI pb r2 => ⟨y2, rfl, ?_⟩⟩
  have sI := sG.more fI
  have n1 := (sI.rd (k := 0) FlL (by decide) rfl).len
  have l1 := la _ pa
  have l2 := lb _ pb
  refine Sym.appR (k := 0) tyTs sI FlL (by decide) rfl r2 (by omega) fun ap1 J nJ sJ => ?_
  replace sJ : Sym F no J [arr flL 9 1 ap1 (ya ++ yb)] := sJ
  refine rsortedL_ok (sJ.rd (k := 0) FlL (by decide) rfl) (by rw [List.length_append]; omega) fun s' zs L fL hris hmem hrd => ⟨s', rfl, hC s' ya yb zs L (fF.trans (sJ.fr.trans fL)) pa pb hris (fun z => by rw [hmem, List.mem_append]) hrd⟩
 refine ⟨fun b F hF => ?_, ?_⟩
 ·have sF := (Sym.start E).lit (fl := flL) (E := 9) (sz := 1) (l := []) FlL (by decide) hF (show 0 = _ from rfl)
  have fF := fE.trans sF.fr
  refine ⟨pB fF, pA fF, cA fF fun y1 ya G fG pa r1 => ⟨y1, rfl, pB (fF.trans fG), ?_⟩⟩
  have sG := sF.more fG
  have l1 := la _ pa
  refine Sym.appR (k := 0) tyTs sG FlL (by decide) rfl r1 (by show (0 + _) * _ ≤ _; omega) fun ap I nI sI => ?_
  replace sI : Sym E no I [arr flL 9 1 ap ya] := sI
  exact tail (y1 := y1) fE pa sI
 ·refine cA fE fun y1 ya G fG pa r1 => ⟨y1, rfl, pB (fE.trans fG), fun b F hF => ?_⟩
  have sF := (Sym.start G).lit (fl := flL) (E := 9) (sz := 1) (l := []) FlL (by decide) hF (show 0 = _ from rfl)
  have fF := (fE.trans fG).trans sF.fr
  have l1 := la _ pa
  refine ⟨pB fF, Sym.appR (k := 0) tyTs sF FlL (by decide) rfl (r1.more sF.fr) (by show (0 + _) * _ ≤ _; omega) fun ap I nI sI => ?_⟩
  replace sI : Sym G no I [arr flL 9 1 ap ya] := sI
  exact tail (y1 := y1) (fE.trans fG) pa sI
theorem grow_law {s1 s2 s3 t1 t2 t3 : Sl} {a b : SysD} (ha : RdSys H s1 s2 s3 a) (oa : OkSys a) (hb : RdSys H t1 t2 t3 b) (ob : OkSys b) (ht : Pw H) (k : ∀ H', Fr no H H' → K (.bool true) H') : CallF Tryz.prog 3 #[sAg s1 s2 s3, sAg t1 t2 t3] H K Z := by
 refine N16L.V3_ok ?_
 unfold N16L.V3
 intro bA A1 hA bB A hB
 have sA := ((Sym.start H).newb (cs := sL s1 s2 s3) hA).newb (cs := sL t1 t2 t3) hB
 have ga : ∀ {E : Hp}, Fr no A E → At3 E bA s1 s2 s3 := fun fE => ⟨(sA.more fE).ld (k := 1) rfl 0, (sA.more fE).ld (k := 1) rfl 1, (sA.more fE).ld (k := 1) rfl 2, trivial⟩
 have gb : ∀ {E : Hp}, Fr no A E → At3 E bB t1 t2 t3 := fun fE => ⟨(sA.more fE).ld (k := 0) rfl 0, (sA.more fE).ld (k := 0) rfl 1, (sA.more fE).ld (k := 0) rfl 2, trivial⟩
 have hp : ∀ {E}, Fr no A E → Pw E := fun fE => TabH.more ht (sA.fr.trans fE)
 have ka : ∀ {E}, Fr no A E → RdSys E s1 s2 s3 a := fun fE => ha.more (sA.fr.trans fE)
 have kb : ∀ {E}, Fr no A E → RdSys E t1 t2 t3 b := fun fE => hb.more (sA.fr.trans fE)
 have kk : ∀ {E}, Fr no A E → K (.bool true) E := fun fE => k _ (sA.fr.trans fE)
 have r : Fr no A A := Fr.refl _ _
 refine works_ok (hp r) fun B fB => ⟨_, rfl, (fun h => by cases h), fun _ => ⟨fun E => Fr no A E ∧ Mild 60 a ∧ Mild 60 b, ?_, s1, s2, s3, ga fB, great15_ok (most := 60) (ka fB) oa fun y1 C fC m1 => ⟨_, rfl, fun _ => kk (fB.trans fC), fun e1 => ⟨t1, t2, t3, gb (fB.trans fC), great15_ok (most := 60) (kb (fB.trans fC)) ob fun y2 D fD m2 => ⟨_, rfl, fun _ => kk ((fB.trans fC).trans fD), fun e2 => ⟨(fB.trans fC).trans fD, m1 e1, m2 e2⟩⟩⟩⟩⟩⟩
 rintro E ⟨fE, ma, mb⟩ scr
 have fa := mild_few ma
 have fb := mild_few mb
 have ok2 : OkSys (catS [a, b]) := ok_cat (n := 60) (fun x hx => by
  simp only [List.mem_cons, List.not_mem_nil, or_false] at hx
  rcases hx with rfl | rfl
  ·exact ⟨oa, fa⟩
  ·exact ⟨ob, fb⟩) (by simp)
 refine ⟨s1, s2, s3, ga fE, t1, t2, t3, gb fE, fun b1 M hM => ?_⟩
 have sM := (Sym.start E).lit (fl := flY) (l := [(s1, s2, s3), (t1, t2, t3)]) FlY (by decide) hM (show 2 = _ from rfl)
 have f2 := fE.trans sM.fr
 refine union_ok (rdY (sM.rd (k := 0) FlY (by decide) rfl) (Hx.cons (ka f2) (Hx.cons (kb f2) Hx.nil))) ok2 (by simp) (hp f2) fun v1 v2 v3 ru eu N fN hU hR => ⟨v1, v2, v3, eu, rfl, fun bU O hO => ?_⟩
 have sO := (Sym.start N).newb (cs := zS) hO
 refine sO.stbs (k := 0) (i := 0) (vs := sL v1 v2 v3) rfl (by simp) (one3 _ _ _) fun P sP => ?_
 replace sP : Sym N no P [blk bU (sL v1 v2 v3) 26] := sP
 have f3 : Fr no A P := f2.trans (fN.trans sP.fr)
 have rP : Fr no P P := Fr.refl _ _
 have ru' : ∀ {J : Hp}, Fr no P J → RdSys J v1 v2 v3 ru := fun f => hR.more (sP.fr.trans f)
 have gU : ∀ {J : Hp}, Fr no P J → At3 J bU v1 v2 v3 := fun f => ⟨(sP.more f).ld (k := 0) rfl 0, (sP.more f).ld (k := 0) rfl 1, (sP.more f).ld (k := 0) rfl 2, trivial⟩
 refine ⟨fun hne => ?_, fun heq => ?_⟩
 ·have hz := hU.nz (bne_iff_ne.1 hne)
  subst hz
  have z1 : v1.n = 0 := RdX.len hR.o
  have z2 : v2.n = 0 := hR.f.len
  have z3 : v3.n = 0 := RdX.len hR.c
  refine ⟨v1, (gU rP).1, v2, (gU rP).2.1, v3, (gU rP).2.2.1, ?_⟩
  rw [z1, z2, z3]
  exact kk f3
 ·have h0 : eu = 0 := bne_eq_false_iff_eq.1 heq
  subst h0
  have hca : checkE a = 0 := hU.zero.1 a (by simp)
  have hcb : checkE b = 0 := hU.zero.1 b (by simp)
  have oku := uni_ok ok2 hU
  refine ⟨s1, s2, s3, ga f3, t1, t2, t3, gb f3, two_ok (A := P) (Pa := IsN a) (Pb := IsN b) (fun f => ga (f3.trans f)) (fun f => gb (f3.trans f)) (fun f kk' => nodes_ok (ka (f3.trans f)) oa (hp (f3.trans f)) kk') (fun f kk' => nodes_ok (kb (f3.trans f)) ob (hp (f3.trans f)) kk') (fun _ h => IsN.len h) (fun _ h => IsN.len h) rP fun y3 ya yb zs Q fQ pa pb hris hmem hrd => ?_⟩
  have hN : IsN ru zs := .inr ⟨hU.check, hris, fun z => by
   rw [hmem, nodes_cat hU]
   rcases pa with ⟨h, _⟩ | ⟨_, _, pa⟩
   ·exact absurd hca h
   rcases pb with ⟨h, _⟩ | ⟨_, _, pb⟩
   ·exact absurd hcb h
   rw [pa, pb]⟩
  have f4 := f3.trans fQ
  refine ⟨s1, s2, s3, ga f4, t1, t2, t3, gb f4, two_ok (A := Q) (Pa := IsP a) (Pb := IsP b) (fun f => ga (f4.trans f)) (fun f => gb (f4.trans f)) (fun f kk' => places_ok (ka (f4.trans f)) oa (hp (f4.trans f)) kk') (fun f kk' => places_ok (kb (f4.trans f)) ob (hp (f4.trans f)) kk') (fun _ h => IsP.len h) (fun _ h => IsP.len h) (Fr.refl _ _) fun y6 pa' pb' zs6 R fR qa qb hris6 hmem6 hrd6 => ?_⟩
  have hP : IsP ru zs6 := .inr ⟨hU.check, hris6, fun z => by
   rw [hmem6, places_cat hU]
   rcases qa with ⟨h, _⟩ | ⟨_, _, qa⟩
   ·exact absurd hca h
   rcases qb with ⟨h, _⟩ | ⟨_, _, qb⟩
   ·exact absurd hcb h
   rw [qa, qb]⟩
  have f5 := f4.trans fR
  have g5 := fQ.trans fR
  refine ⟨v1, v2, v3, gU g5, nodes_ok (ru' g5) oku (hp f5) fun y7 ys7 S fS p7 r7 => ⟨y7, rfl, sameT_ok r7 (by rw [p7.uniq hN]; exact hrd.more (fR.trans fS)) (by have := IsN.len p7; omega) ⟨_, rfl, fun _ => ⟨v1, v2, v3, gU (g5.trans fS), places_ok (ru' (g5.trans fS)) oku (hp (f5.trans fS)) fun y9 ys9 T fT p9 r9 => ⟨y9, rfl, sameT_ok r9 (by rw [p9.uniq hP]; exact hrd6.more (fS.trans fT)) (by have := IsP.len p9; omega) ⟨_, rfl, kk (f5.trans (fS.trans fT))⟩⟩⟩, (fun h => by cases h)⟩⟩⟩
end
end Go.Proofs.YtjpkbenogloihaaGreatDoor.C18
end
section
namespace Go.Proofs.YtjpkbenogloihaaGreatDoor.L15U
open Go Go.V Go.Proofs Go.Proofs.YtjpkbenogloihaaGreatDoor.P14 Go.Proofs.YtjpkbenogloihaaGreatDoor.C14 Go.Proofs.YtjpkbenogloihaaGreatDoor.P15 Go.Proofs.YtjpkbenogloihaaGreatDoor.C15 Go.Proofs.YtjpkbenogloihaaGreatDoor.C18
attribute [local irreducible] Cvt ExtF CallF hrun App MkS callV
section
variable {H : Hp} {K : Value → Hp → Prop} {Z : List PanicEntry → Hp → Prop}
abbrev Sys (H : Hp) (a : SysD × Sl × Sl × Sl) : Prop := RdSys H a.2.1 a.2.2.1 a.2.2.2 a.1 ∧ OkSys a.1
theorem grow2 {a b : SysD × Sl × Sl × Sl} (ht : Pw H) (ha : Sys H a) (hb : Sys H b) (k : ∀ H', Fr no H H' → K (.bool true) H') : CallF Tryz.prog 3 #[sAg a.2.1 a.2.2.1 a.2.2.2, sAg b.2.1 b.2.2.1 b.2.2.2] H K Z := grow_law ha.1 ha.2 hb.1 hb.2 ht k
end
end Go.Proofs.YtjpkbenogloihaaGreatDoor.L15U
end
section
namespace Go.Proofs.YtjpkbenogloihaaGreatDoor.Lyd
open Go Go.V Go.Proofs Go.ChangeShapes Go.WideShapes Go.ChangeAt Go.RowKit
theorem wit {H : Type} {enc : TypeId × Value → H} {C : Checked} {os : Os} {f : FuncId} {fn : Func} {s : OpenSpec} {conds : List PathCond} {apart : Bool} {laid : List (String × DataW Unit)} (args : Array Value)
  (hv : ((World.laidAll C.prog os laid).forCall (fun _ _ => 0) ⟨#[], args, []⟩).variablesZipB C.prog = true)
  (hr : (((World.laidAll C.prog os laid).forCall (fun _ _ => 0) ⟨#[], args, []⟩).heap.toList.drop C.prog.globals.size).take ((begin C.prog (fun _ _ => 0) default).world.heap.size - C.prog.globals.size) =
   (begin C.prog (fun _ _ => 0) default).world.heap.toList.drop C.prog.globals.size)
  (hok : Input.okWideB C.prog ((World.laidAll C.prog os laid).forCall (fun _ _ => 0) ⟨#[], args, []⟩) f ⟨#[], args, []⟩ = true)
  (hrow : s.preRow enc C.prog fn conds apart laid ((World.laidAll C.prog os laid).forCall (fun _ _ => 0) ⟨#[], args, []⟩).memory args) :
  ∃ (w : World) (tape : Tape) (i : Input), w.os = os ∧ (w.forCall tape i).Shaped C.prog ∧ i.vars = [] ∧ Input.okWide C.prog (w.forCall tape i) .any w.heap.size f i ∧
   s.preRow enc C.prog fn conds apart laid (w.forCall tape i).memory i.args ∧ ({} : Assume).holds C.prog (lone (Frame.enter C.prog f i.args .normal) [] (w.forCall tape i)) :=
 ⟨World.laidAll C.prog os laid, fun _ _ => 0, ⟨#[], args, []⟩, World.laidAll_os _ _ _, World.shaped_of_ZipB hv hr, (Input.okWide_of_okWideB (base := 0) hok).1, (Input.okWide_of_okWideB hok).2, hrow, by
  simp only [Assume.holds]
  simp⟩
theorem tab_at {P : Program} {W : World} {name : String} {k : IntKind} {zs : List Int} {g : Nat} {t e : TypeId} {n : Nat}
  (hg : P.globalNamed name = some g) (hty : (P.globals[g]?).map (·.type) = some t) (ht : P.underlying t = some (.array n e)) (he : P.underlying e = some (.int k)) (hce : P.cellsOf e = 1) (hct : P.cellsOf t = n) :
  ∀ (i : Nat) (l : List (String × DataW Unit)), l[i]? = some (name, Lib.tabData k zs) → laidMet P l W → Lib.TabIs P W name k zs
 | _, [], hm, _ => by simp at hm
 | 0, x :: l, hm, h => by
  simp only [List.getElem?_cons_zero, Option.some.injEq] at hm
  subst hm
  exact Lib.tabIs_of_head hg hty ht he hce hct h
 | i + 1, x :: l, hm, h => tab_at hg hty ht he hce hct i l (by simpa using hm) h.tail
theorem pow10 {W : World} {l : List (String × DataW Unit)} (i : Nat) (hm : l[i]? = some ("internal/strconv.uint64pow10", Rows.laid_internal_strconv_uint64pow10)) (h : laidMet Tryz.prog l W) : TabH Tryz.prog W.heap "internal/strconv.uint64pow10" .u64 Lib.pow10Tab := by
 have e : (Rows.laid_internal_strconv_uint64pow10 : DataW Unit) = Lib.tabData .u64 Lib.pow10Tab := by kernel_rfl
 rw [e] at hm
 exact TabH.of (tab_at (g := (Tryz.prog.globalNamed "internal/strconv.uint64pow10").getD 0) (t := 209) (e := 178) (n := 20) (by kernel_rfl) (by kernel_rfl) (by kernel_rfl) (by kernel_rfl) (by kernel_rfl) (by kernel_rfl) i l hm h)
end Go.Proofs.YtjpkbenogloihaaGreatDoor.Lyd
end
