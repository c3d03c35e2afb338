import Derived.Test.YtjpkbenogloihaaGreatDoorZ17
import Derived.Test.YtjpkbenogloihaaGreatDoorRows
import Derived.Deep.DeepHandedRow
import Derived.Deep.DeepWitnessRef
import Derived.Lay
import Derived.Stop.LaidErr
import Derived.Lib.LaidTab
import Derived.Lib.ItoaNum
import Derived.Lib.Space
import Derived.Lib.TrailingZeros
set_option linter.unusedVariables false
set_option linter.unusedSimpArgs false
section
namespace Go.Proofs.YtjpkbenogloihaaGreatDoor.C18
open Go Go.V Go.Proofs Go.Proofs.YtjpkbenogloihaaGreatDoor.N16 Go.Proofs.YtjpkbenogloihaaGreatDoor.P14 Go.Proofs.YtjpkbenogloihaaGreatDoor.C14 Go.Proofs.YtjpkbenogloihaaGreatDoor.P15 Go.Proofs.YtjpkbenogloihaaGreatDoor.C15
attribute [local irreducible] Cvt ExtF CallF hrun App MkS callV
theorem Hx.mono {η χ : Type} {In In' : η → χ → Prop} {hs : List η} {xs : List χ} (hi : ∀ h x, In h x → In' h x) (h : Hx In hs xs) : Hx In' hs xs := ⟨h.1, fun i a x ha hx => hi a x (h.2 i a x ha hx)⟩
theorem Hx.take {η χ : Type} {In : η → χ → Prop} {hs : List η} {xs : List χ} (h : Hx In hs xs) (j : Nat) : Hx In (hs.take j) (xs.take j) := by
 refine ⟨by rw [List.length_take, List.length_take, h.1], fun i a x ha hx => ?_⟩
 rw [List.getElem?_take] at ha hx
 split at ha
 ·rename_i hlt
  rw [if_pos hlt] at hx
  exact h.2 i a x ha hx
 ·cases ha
theorem Hx.drop {η χ : Type} {In : η → χ → Prop} {hs : List η} {xs : List χ} (h : Hx In hs xs) (j : Nat) : Hx In (hs.drop j) (xs.drop j) := by
 refine ⟨by rw [List.length_drop, List.length_drop, h.1], fun i a x ha hx => ?_⟩
 rw [List.getElem?_drop] at ha hx
 exact h.2 _ a x ha hx
abbrev RelO (ps : List (Sl × List Mk)) (L : List HO) (xs : List ObjD) : Prop := Hx (fun h x => (h.2.2, x.marks) ∈ ps ∧ h = HO.of x h.2.2) L xs
abbrev RelC (rs : List (Sl × List L8)) (M : List HC) (xs : List ConD) : Prop := Hx (fun h x => (h.2.2.2.2.2, x.args) ∈ rs ∧ h = HC.of x h.2.2.2.2.2) M xs
theorem relO_rd {A : Hp} {l : Sl} {L : List HO} {xs : List ObjD} {ps : List (Sl × List Mk)} (h : Rd flHO 3 A l L) (hL : RelO ps L xs) (hp : (rdsI flM 2 ps).ok A) : RdO A l xs :=
 ⟨L, h, hL.1, fun i a x ha hx => ⟨(hL.2 i a x ha hx).2, (hp _ (hL.2 i a x ha hx).1).1⟩⟩
theorem relC_rd {A : Hp} {l : Sl} {M : List HC} {xs : List ConD} {rs : List (Sl × List L8)} (h : Rd flHC 6 A l M) (hM : RelC rs M xs) (hp : (rdsI flL 1 rs).ok A) : RdC A l xs :=
 ⟨M, h, hM.1, fun i a x ha hx => ⟨(hM.2 i a x ha hx).2, (hp _ (hM.2 i a x ha hx).1).1⟩⟩
theorem tailK {τ : Type} {fl : τ → List Value} {sz : Nat} {H : Hp} {s : Sl} {l : List τ} {j : Nat} {Kx : Sl → Prop} (hf : Fl fl sz) (h : Rd fl sz H s l) (hj : j ≤ l.length) (k : ∀ c, Rd fl sz H c (l.drop j) → Kx c) : s.n ≤ s.c ∧ SlX s.a s.c (j : Int) (s.n : Int) sz Kx := by
 have hl := h.len
 have hle := h.le
 refine ⟨hle, ⟨by omega, by omega, by omega⟩, k _ ?_⟩
 have hp := h.part hf (lo := j) (hi := s.n) (by omega) (Nat.le_refl _)
 rw [List.take_of_length_le (by rw [List.length_drop]; omega)] at hp
 simpa using hp
section
variable {χ κ : Type} [DecidableEq χ] {c : κ → κ → Int} {ky : χ → κ} {acc : List χ} {o y : χ} {j : Nat}
omit [DecidableEq χ] in
theorem drop_at (hy : acc[j]? = some y) : acc.drop j = y :: acc.drop (j + 1) := by
 obtain ⟨hj, rfl⟩ := List.getElem?_eq_some_iff.1 hy
 exact List.drop_eq_getElem_cons hj
theorem into_go (hy : acc[j]? = some y) (h1 : c (ky y) (ky o) ≤ 0) (h2 : y ≠ o) (he : intoK c ky acc o = acc.take j ++ intoK c ky (acc.drop j) o) : intoK c ky acc o = acc.take (j + 1) ++ intoK c ky (acc.drop (j + 1)) o := by
 rw [drop_at hy, intoK, if_pos h1, if_neg h2] at he
 rw [he, List.take_add_one, hy, List.append_assoc]
 rfl
theorem into_eq (hc : CmpLin c) (hy : acc[j]? = some y) (h2 : y = o) (he : intoK c ky acc o = acc.take j ++ intoK c ky (acc.drop j) o) : intoK c ky acc o = acc := by
 rw [drop_at hy, intoK, if_pos (by rw [h2, hc.eq.2 rfl]; decide), if_pos h2, ← drop_at hy, List.take_append_drop] at he
 exact he
theorem into_gt (hy : acc[j]? = some y) (h1 : ¬ c (ky y) (ky o) ≤ 0) (he : intoK c ky acc o = acc.take j ++ intoK c ky (acc.drop j) o) : intoK c ky acc o = acc.take j ++ o :: acc.drop j := by
 rw [drop_at hy, intoK, if_neg h1, ← drop_at hy] at he
 exact he
theorem into_end (hj : acc.length ≤ j) (he : intoK c ky acc o = acc.take j ++ intoK c ky (acc.drop j) o) : intoK c ky acc o = acc.take j ++ o :: acc.drop j := by
 rw [List.drop_of_length_le hj] at he ⊢
 exact he
end
theorem leS (a b : L8) : (ltS (str a) (str b) || beqS (str a) (str b)) = decide (cmpL a b ≤ 0) := by
 rw [lt_strL, beq_str, Bool.eq_iff_iff, Bool.or_eq_true, decide_eq_true_eq, decide_eq_true_eq, ← cmpL_neg, ← cmpL_0]
 omega
section
variable {H : Hp} {K : Value → Hp → Prop} {Z : List PanicEntry → Hp → Prop}
theorem rsameObj_ok {x y : ObjD} {s t : Sl} (h1 : Rd flM 2 H s x.marks) (h2 : Rd flM 2 H t y.marks) (hb : x.marks.length ≤ 2000000) (k : ∀ H', Fr no H H' → K (.bool (decide (x = y))) H') : CallF Tryz.prog 24 #[oA x s, oA y t] H K Z := by
 refine V24_ok ?_
 unfold V24
 intro bA A hA bB B hB
 have sB := ((Sym.start H).newb (cs := oL x s) hA).newb (cs := oL y t) hB
 have l1 := h1.len
 have l2 := h2.len
 have no' : ∀ {E : Hp}, Fr no H E → x ≠ y → K (.bool false) E := fun f h => by
  have kk := k _ f
  rw [decide_eq_false h] at kk
  exact kk
 refine ⟨fun E => Sym H no E [blk bB (oL y t) 43, blk bA (oL x s) 43] ∧ x.name = y.name ∧ x.kinds = y.kinds ∧ s.n = t.n, ?_, _, sB.ld (k := 1) rfl 0, _, sB.ld (k := 0) rfl 0, ?_⟩
 ·rintro E ⟨sE, e1, e2, e3⟩ scr
  refine ⟨fun i A' m => ∃ j : Nat, A' = E ∧ i = (j : Int) ∧ j ≤ x.marks.length ∧ m = x.marks.length - j ∧ x.marks.take j = y.marks.take j, ⟨_, 0, rfl, rfl, Nat.zero_le _, rfl, rfl⟩, ?_⟩
  rintro i A' m ⟨j, hA', rfl, hj, rfl, he⟩ scr1
  rw [hA']
  refine ⟨s, sE.ld (k := 1) rfl 2, fun hlt => ?_, fun hge => ?_⟩
  ·have hj' : j < x.marks.length := by have := dlt hlt; omega
   obtain ⟨p, hx, _⟩ := getN hj'
   obtain ⟨q, hy, _⟩ := getN (show j < y.marks.length by omega)
   refine ⟨t, sE.ld (k := 0) rfl 2, fun hlt2 => ⟨s, sE.ld (k := 1) rfl 2, atM (h1.more sE.fr) hx fun ad a1 a2 => ⟨_, _, ⟨a1, a2, trivial⟩, t, sE.ld (k := 0) rfl 2, atM (h2.more sE.fr) hy fun ad2 b1 b2 => ⟨_, _, ⟨b1, b2, trivial⟩, ?_⟩⟩⟩, fun hge2 => by have := dge hge2; omega⟩
   rw [mkEq]
   exact ⟨fun hn => no' sE.fr fun e => ne_at hx hy (notd.1.1 hn) (by rw [e]), fun hn => ⟨x.marks.length - (j + 1), by omega, j + 1, rfl, wi (by omega), hj', rfl, take_eq he hx hy (notd.2.1 hn)⟩⟩
  ·rw [List.take_of_length_le (by have := dge hge; omega), List.take_of_length_le (by have := dge hge; omega)] at he
   have kk := k _ sE.fr
   have hxy : x = y := by
    cases x; cases y
    simp only at e1 e2 he
    rw [e1, e2, he]
   rw [decide_eq_true hxy] at kk
   exact kk
 ·rw [beq_str]
  refine ⟨fun hn => no' sB.fr fun e => notd.1.1 hn (by rw [e]), fun hn => ⟨_, sB.ld (k := 1) rfl 1, _, sB.ld (k := 0) rfl 1, ?_⟩⟩
  rw [beq_str]
  refine ⟨fun hn2 => no' sB.fr fun e => notd.1.1 hn2 (by rw [e]), fun hn2 => ⟨s, sB.ld (k := 1) rfl 2, t, sB.ld (k := 0) rfl 2, fun hne => no' sB.fr fun e => bne_iff_ne.1 hne (by rw [l1, l2, e]), fun heq => ⟨sB, notd.2.1 hn, notd.2.1 hn2, ?_⟩⟩⟩
  have : ((s.n : Nat) : Int) = ((t.n : Nat) : Int) := bne_eq_false_iff_eq.1 heq
  omega
theorem objInto_ok {A : Hp} {l s : Sl} {L : List HO} {acc : List ObjD} {x : ObjD} {ps : List (Sl × List Mk)} (hl : Rd flHO 3 A l L) (hp : (rdsI flM 2 ps).ok A) (hL : RelO ps L acc) (hr : Rd flM 2 A s x.marks) (hb : acc.length ≤ 1100000) (hm : ∀ o ∈ acc, o.marks.length ≤ 2000000) (hx : x.marks.length ≤ 2000000)
  (k1 : ∀ B, Fr no A B → intoK cmpL ObjD.name acc x = acc → K (.slice l.a l.n l.c) B)
  (k2 : ∀ ap l' L' B, Sym A no B [arr flM 47 2 ap x.marks, arr flHO 43 3 l' L'] → RelO ((ap, x.marks) :: ps) L' (intoK cmpL ObjD.name acc x) → K (.slice l'.a l'.n l'.c) B) : CallF Tryz.prog 37 #[.slice l.a l.n l.c, oA x s] A K Z := by
 refine N16R.V37_ok ?_
 unfold N16R.V37
 intro bO B hB
 have sB := (Sym.start A).newb (cs := oL x s) hB
 have hacc : RdO A l acc := relO_rd hl hL hp
 have ln := hl.len
 have lL := hL.1
 refine ⟨fun k E => ∃ j : Nat, k = (j : Int) ∧ j ≤ acc.length ∧ Sym A no E [blk bO (oL x s) 43] ∧ intoK cmpL ObjD.name acc x = acc.take j ++ x :: acc.drop j, ?_, fun k E m => ∃ j : Nat, k = (j : Int) ∧ j ≤ acc.length ∧ m = acc.length - j ∧ Sym A no E [blk bO (oL x s) 43] ∧ intoK cmpL ObjD.name acc x = acc.take j ++ intoK cmpL ObjD.name (acc.drop j) x, ⟨_, 0, rfl, Nat.zero_le _, rfl, sB, rfl⟩, ?_⟩
 ·rintro k E ⟨j, rfl, hj, sE, he⟩ scr b F hF
  have sF := sE.lit (fl := flM) (E := 47) (sz := 2) (l := []) FlM (by decide) hF (show 0 = _ from rfl)
  refine ⟨s, sF.ld (k := 1) rfl 2, Sym.appR (k := 0) tyM sF FlM (by decide) rfl (hr.more sF.fr) (by show (0 + _) * _ ≤ _; omega) fun ap G nG sG => ?_⟩
  replace sG : Sym A no G [arr flM 47 2 ap x.marks, blk bO (oL x s) 43] := sG
  refine sG.stbs (k := 1) (i := 2) (vs := [.slice ap.a ap.n ap.c]) rfl (by simp) (fun v hv => by rw [List.mem_singleton.1 hv]; rfl) fun I sI => ?_
  replace sI : Sym A no I [arr flM 47 2 ap x.marks, blk bO (oL x ap) 43] := sI
  intro b1 J hJ
  have sJ := sI.lit (fl := flHO) (E := 43) (sz := 3) (l := []) FlHO (by decide) hJ (show 0 = _ from rfl)
  have t1 := List.length_take_le j L
  refine headK FlHO (hl.more sJ.fr) (by omega) fun c1 h1 => ?_
  refine Sym.appR (k := 0) C16O.tyE sJ FlHO (by decide) rfl h1 (by show (0 + _) * _ ≤ _; omega) fun ap1 M nM sM => ?_
  replace sM : Sym A no M [arr flHO 43 3 ap1 (L.take j), arr flM 47 2 ap x.marks, blk bO (oL x ap) 43] := sM
  have m1 := (sM.rd (k := 0) FlHO (by decide) rfl).len
  refine ⟨_, _, ap, ⟨sM.ld (k := 2) rfl 0, sM.ld (k := 2) rfl 1, sM.ld (k := 2) rfl 2, trivial⟩, fun b2 N hN => ?_⟩
  refine Sym.app1 (k := 0) (x := HO.of x ap) C16O.tyE sM FlHO (by decide) hN rfl (by omega) fun ap2 O nO sO => ?_
  replace sO : Sym A no O [arr flHO 43 3 ap2 (L.take j ++ [HO.of x ap]), arr flM 47 2 ap x.marks, blk bO (oL x ap) 43] := sO
  have t2 : (L.drop j).length ≤ L.length := by rw [List.length_drop]; omega
  refine tailK FlHO (hl.more sO.fr) (by omega) fun c2 h2 => ?_
  refine Sym.appR (k := 0) C16O.tyE sO FlHO (by decide) rfl h2 (by omega) fun ap3 P nP sP => ?_
  replace sP : Sym A no P [arr flHO 43 3 ap3 (L.take j ++ [HO.of x ap] ++ L.drop j), arr flM 47 2 ap x.marks, blk bO (oL x ap) 43] := sP
  refine k2 ap ap3 _ P (sP.re [1, 0] (by decide)) ?_
  rw [he, List.append_assoc]
  have up : ∀ (h : HO) (x' : ObjD), ((h.2.2, x'.marks) ∈ ps ∧ h = HO.of x' h.2.2) → ((h.2.2, x'.marks) ∈ (ap, x.marks) :: ps ∧ h = HO.of x' h.2.2) := fun h x' q => ⟨List.mem_cons_of_mem _ q.1, q.2⟩
  exact ((hL.take j).mono up).app (Hx.cons ⟨List.mem_cons_self, rfl⟩ ((hL.drop j).mono up))
 ·rintro k E m ⟨j, rfl, hj, rfl, sE, he⟩ scr
  refine ⟨fun hlt => ?_, fun hge => ⟨j, rfl, hj, sE, into_end (by have := dge hge; omega) he⟩⟩
  have hj' : j < acc.length := by have := dlt hlt; omega
  obtain ⟨y, hy, hym⟩ := getN hj'
  obtain ⟨t, hta, ix⟩ := atO (hacc.more sE.fr) hy
  refine ix fun ad e0 e1 e2 => ⟨_, e0, _, sE.ld (k := 0) rfl 0, ?_⟩
  rw [leS]
  refine ⟨fun hle => ix fun ad2 g0 g1 g2 => ⟨_, _, t, ⟨g0, g1, g2, trivial⟩, _, _, s, ⟨sE.ld (k := 0) rfl 0, sE.ld (k := 0) rfl 1, sE.ld (k := 0) rfl 2, trivial⟩, rsameObj_ok hta (hr.more sE.fr) (hm _ hym) fun F fF => ⟨_, rfl, fun hs => k1 F (sE.fr.trans fF) (into_eq linCL hy (of_decide_eq_true hs) he), fun hs => ⟨acc.length - (j + 1), by omega, j + 1, wi (by omega), hj', rfl, sE.more fF, into_go hy (of_decide_eq_true hle) (of_decide_eq_false hs) he⟩⟩⟩, fun hgt => ⟨j, rfl, hj, sE, into_gt hy (of_decide_eq_false hgt) he⟩⟩
theorem fnInto_ok {A : Hp} {l : Sl} {acc : List FnD} {x : FnD} (hl : Rd flF 3 A l acc) (hb : acc.length ≤ 1100000)
  (k1 : ∀ B, Fr no A B → intoK cmpL FnD.name acc x = acc → K (.slice l.a l.n l.c) B)
  (k2 : ∀ l' B, Sym A no B [arr flF 49 3 l' (intoK cmpL FnD.name acc x)] → K (.slice l'.a l'.n l'.c) B) : CallF Tryz.prog 38 #[.slice l.a l.n l.c, fA x] A K Z := by
 refine V38_ok ?_
 unfold V38
 intro bF B hB
 have sB := (Sym.start A).newb (cs := fL x) hB
 have ln := hl.len
 have ins : ∀ {E : Hp} {j : Nat}, j ≤ acc.length → Sym A no E [blk bF (fL x) 49] → intoK cmpL FnD.name acc x = acc.take j ++ x :: acc.drop j → ∀ b H3, Newb E (.cells #[] 49) b H3 → (l.n ≤ l.c ∧ SlX l.a l.c 0 (j : Int) 3 fun cut =>
  (App Tryz.prog #[23, 23] 23 H3 [.slice (some ⟨b, 0, none⟩) 0 0, .slice cut.a cut.n cut.c] fun ap H4 =>
  (∃ x_a2 x_b2 x_c2 : ByteArray, (hcell H4 ⟨bF, 0, none⟩ = some (.string x_a2) ∧
  hcell H4 ⟨bF, 1, none⟩ = some (.string x_b2) ∧ hcell H4 ⟨bF, 2, none⟩ = some (.string x_c2) ∧ True) ∧
  ∀ b1 H5, Newb H4 (.cells #[.string x_a2, .string x_b2, .string x_c2] 49) b1 H5 → App Tryz.prog #[23, 23] 23 H5 [.slice ap.a ap.n ap.c, .slice (some ⟨b1, 0, none⟩) 1 1] fun ap1 H6 =>
  (l.n ≤ l.c ∧ SlX l.a l.c (j : Int) (l.n : Int) 3 fun cut1 => (App Tryz.prog #[23, 23] 23 H6 [.slice ap1.a ap1.n ap1.c, .slice cut1.a cut1.n cut1.c] fun ap2 H7 =>
  (K (.slice ap2.a ap2.n ap2.c) H7)))))) := by
  intro E j hj sE he b1 J hJ
  have sJ := sE.lit (fl := flF) (E := 49) (sz := 3) (l := []) FlF (by decide) hJ (show 0 = _ from rfl)
  have t1 := List.length_take_le j acc
  refine headK FlF (hl.more sJ.fr) (by omega) fun c1 h1 => ?_
  refine Sym.appR (k := 0) C16F.tyE sJ FlF (by decide) rfl h1 (by show (0 + _) * _ ≤ _; omega) fun ap1 M nM sM => ?_
  replace sM : Sym A no M [arr flF 49 3 ap1 (acc.take j), blk bF (fL x) 49] := sM
  have m1 := (sM.rd (k := 0) FlF (by decide) rfl).len
  refine ⟨_, _, _, ⟨sM.ld (k := 1) rfl 0, sM.ld (k := 1) rfl 1, sM.ld (k := 1) rfl 2, trivial⟩, fun b2 N hN => ?_⟩
  refine Sym.app1 (k := 0) (x := x) C16F.tyE sM FlF (by decide) hN rfl (by omega) fun ap2 O nO sO => ?_
  replace sO : Sym A no O [arr flF 49 3 ap2 (acc.take j ++ [x]), blk bF (fL x) 49] := sO
  have t2 : (acc.drop j).length ≤ acc.length := by rw [List.length_drop]; omega
  refine tailK FlF (hl.more sO.fr) (by omega) fun c2 h2 => ?_
  refine Sym.appR (k := 0) C16F.tyE sO FlF (by decide) rfl h2 (by omega) fun ap3 P nP sP => ?_
  replace sP : Sym A no P [arr flF 49 3 ap3 (acc.take j ++ [x] ++ acc.drop j), blk bF (fL x) 49] := sP
  refine k2 ap3 P ?_
  rw [List.append_assoc] at sP
  rw [he]
  exact sP.re [0] (by decide)
 refine ⟨fun k E m => ∃ j : Nat, k = (j : Int) ∧ j ≤ acc.length ∧ m = acc.length - j ∧ Sym A no E [blk bF (fL x) 49] ∧ intoK cmpL FnD.name acc x = acc.take j ++ intoK cmpL FnD.name (acc.drop j) x, ⟨_, 0, rfl, Nat.zero_le _, rfl, sB, rfl⟩, ?_⟩
 rintro k E m ⟨j, rfl, hj, rfl, sE, he⟩ scr
 refine ⟨fun hlt => ?_, fun hge => ins hj sE (into_end (by have := dge hge; omega) he)⟩
 have hj' : j < acc.length := by have := dlt hlt; omega
 obtain ⟨y, hy, hym⟩ := getN hj'
 refine atF (hl.more sE.fr) hy fun ad e0 e1 e2 => ⟨_, e0, _, sE.ld (k := 0) rfl 0, ?_⟩
 rw [leS]
 refine ⟨fun hle => atF (hl.more sE.fr) hy fun ad2 g0 g1 g2 => ⟨_, _, _, ⟨g0, g1, g2, trivial⟩, _, _, _, ⟨sE.ld (k := 0) rfl 0, sE.ld (k := 0) rfl 1, sE.ld (k := 0) rfl 2, trivial⟩, ?_⟩, fun hgt => ins hj sE (into_gt hy (of_decide_eq_false hgt) he)⟩
 rw [fnEq]
 exact ⟨fun hs => k1 E sE.fr (into_eq linCL hy (of_decide_eq_true hs) he), fun hs => ⟨acc.length - (j + 1), by omega, j + 1, wi (by omega), hj', rfl, sE, into_go hy (of_decide_eq_true hle) (of_decide_eq_false hs) he⟩⟩
theorem conInto_ok {A : Hp} {l s : Sl} {M : List HC} {acc : List ConD} {x : ConD} {rs : List (Sl × List L8)} (hl : Rd flHC 6 A l M) (hp : (rdsI flL 1 rs).ok A) (hM : RelC rs M acc) (hr : Rd flL 1 A s x.args) (hb : acc.length ≤ 1100000) (hm : ∀ o ∈ acc, o.args.length ≤ 1048576) (hx : x.args.length ≤ 1048576)
  (k1 : ∀ B, Fr no A B → intoK cmpC (fun z => z) acc x = acc → K (.slice l.a l.n l.c) B)
  (k2 : ∀ ap l' M' B, Sym A no B [arr flL 9 1 ap x.args, arr flHC 45 6 l' M'] → RelC ((ap, x.args) :: rs) M' (intoK cmpC (fun z => z) acc x) → K (.slice l'.a l'.n l'.c) B) : CallF Tryz.prog 39 #[.slice l.a l.n l.c, cA x s] A K Z := by
 refine N16R.V39_ok ?_
 unfold N16R.V39
 intro bC B hB
 have sB := (Sym.start A).newb (cs := cL x s) hB
 have hacc : RdC A l acc := relC_rd hl hM hp
 have ln := hl.len
 have lM := hM.1
 refine ⟨fun k E => ∃ j : Nat, k = (j : Int) ∧ j ≤ acc.length ∧ Sym A no E [blk bC (cL x s) 45] ∧ intoK cmpC (fun z => z) acc x = acc.take j ++ intoK cmpC (fun z => z) (acc.drop j) x ∧ ∀ y, acc[j]? = some y → ¬ cmpC y x < 0, ?_, fun k E m => ∃ j : Nat, k = (j : Int) ∧ j ≤ acc.length ∧ m = acc.length - j ∧ Sym A no E [blk bC (cL x s) 45] ∧ intoK cmpC (fun z => z) acc x = acc.take j ++ intoK cmpC (fun z => z) (acc.drop j) x, ⟨_, 0, rfl, Nat.zero_le _, rfl, sB, rfl⟩, ?_⟩
 ·rintro k E ⟨j, rfl, hj, sE, he, hge0⟩ scr
  refine ⟨fun F => Sym A no F [blk bC (cL x s) 45] ∧ intoK cmpC (fun z => z) acc x = acc.take j ++ x :: acc.drop j, ?_, fun hlt => ?_, fun hge => ⟨sE, into_end (by have := dge hge; omega) he⟩⟩
  ·rintro G ⟨sG, he2⟩ scr1 b1 J hJ
   have sJ := sG.lit (fl := flHC) (E := 45) (sz := 6) (l := []) FlHC (by decide) hJ (show 0 = _ from rfl)
   have t1 := List.length_take_le j M
   refine headK FlHC (hl.more sJ.fr) (by omega) fun c1 h1 => ?_
   refine Sym.appR (k := 0) C16C.tyE sJ FlHC (by decide) rfl h1 (by show (0 + _) * _ ≤ _; omega) fun ap1 N nN sN => ?_
   replace sN : Sym A no N [arr flHC 45 6 ap1 (M.take j), blk bC (cL x s) 45] := sN
   intro b2 O hO
   have sO := sN.lit (fl := flL) (E := 9) (sz := 1) (l := []) FlL (by decide) hO (show 0 = _ from rfl)
   refine ⟨s, sO.ld (k := 2) rfl 5, Sym.appR (k := 0) tyTs sO FlL (by decide) rfl (hr.more sO.fr) (by show (0 + _) * _ ≤ _; omega) fun ap P nP sP => ?_⟩
   replace sP : Sym A no P [arr flL 9 1 ap x.args, arr flHC 45 6 ap1 (M.take j), blk bC (cL x s) 45] := sP
   refine sP.stbs (k := 2) (i := 5) (vs := [.slice ap.a ap.n ap.c]) rfl (by simp) (fun v hv => by rw [List.mem_singleton.1 hv]; rfl) fun Q sQ => ?_
   replace sQ : Sym A no Q [arr flL 9 1 ap x.args, arr flHC 45 6 ap1 (M.take j), blk bC (cL x ap) 45] := sQ
   have m1 := (sQ.rd (k := 1) FlHC (by decide) rfl).len
   refine ⟨_, _, _, _, _, ap, ⟨sQ.ld (k := 2) rfl 0, sQ.ld (k := 2) rfl 1, sQ.ld (k := 2) rfl 2, sQ.ld (k := 2) rfl 3, sQ.ld (k := 2) rfl 4, sQ.ld (k := 2) rfl 5, trivial⟩, fun b3 R hR => ?_⟩
   refine Sym.app1 (k := 1) (x := HC.of x ap) C16C.tyE sQ FlHC (by decide) hR rfl (by omega) fun ap2 S nS sS => ?_
   replace sS : Sym A no S [arr flL 9 1 ap x.args, arr flHC 45 6 ap2 (M.take j ++ [HC.of x ap]), blk bC (cL x ap) 45] := sS
   have t2 : (M.drop j).length ≤ M.length := by rw [List.length_drop]; omega
   refine tailK FlHC (hl.more sS.fr) (by omega) fun c2 h2 => ?_
   refine Sym.appR (k := 1) C16C.tyE sS FlHC (by decide) rfl h2 (by omega) fun ap3 T nT sT => ?_
   replace sT : Sym A no T [arr flL 9 1 ap x.args, arr flHC 45 6 ap3 (M.take j ++ [HC.of x ap] ++ M.drop j), blk bC (cL x ap) 45] := sT
   refine k2 ap ap3 _ T (sT.re [0, 1] (by decide)) ?_
   rw [he2, List.append_assoc]
   have up : ∀ (h : HC) (x' : ConD), ((h.2.2.2.2.2, x'.args) ∈ rs ∧ h = HC.of x' h.2.2.2.2.2) → ((h.2.2.2.2.2, x'.args) ∈ (ap, x.args) :: rs ∧ h = HC.of x' h.2.2.2.2.2) := fun h x' q => ⟨List.mem_cons_of_mem _ q.1, q.2⟩
   exact ((hM.take j).mono up).app (Hx.cons ⟨List.mem_cons_self, rfl⟩ ((hM.drop j).mono up))
  ·have hj' : j < acc.length := by have := dlt hlt; omega
   obtain ⟨y, hy, hym⟩ := getN hj'
   obtain ⟨t, hta, ix⟩ := atC (hacc.more sE.fr) hy
   refine ix fun ad e0 e1 e2 e3 e4 e5 => ⟨_, _, _, _, _, t, ⟨e0, e1, e2, e3, e4, e5, trivial⟩, _, _, _, _, _, s, ⟨sE.ld (k := 0) rfl 0, sE.ld (k := 0) rfl 1, sE.ld (k := 0) rfl 2, sE.ld (k := 0) rfl 3, sE.ld (k := 0) rfl 4, sE.ld (k := 0) rfl 5, trivial⟩, cmp15_ok hta (hr.more sE.fr) (hm _ hym) fun F fF => ⟨_, rfl, fun h0 => k1 F (sE.fr.trans fF) (into_eq linC hy (linC.eq.1 (eqI.1 h0)) he), fun h0 => ⟨sE.more fF, into_gt hy ?_ he⟩⟩⟩
   have h1 := hge0 y hy
   have h2 := neI.1 h0
   omega
 ·rintro k E m ⟨j, rfl, hj, rfl, sE, he⟩ scr
  refine ⟨fun hlt => ?_, fun hge => ⟨j, rfl, hj, sE, he, fun y hy => by have := (List.getElem?_eq_some_iff.1 hy).1; have := dge hge; omega⟩⟩
  have hj' : j < acc.length := by have := dlt hlt; omega
  obtain ⟨y, hy, hym⟩ := getN hj'
  obtain ⟨t, hta, ix⟩ := atC (hacc.more sE.fr) hy
  refine ix fun ad e0 e1 e2 e3 e4 e5 => ⟨_, _, _, _, _, t, ⟨e0, e1, e2, e3, e4, e5, trivial⟩, _, _, _, _, _, s, ⟨sE.ld (k := 0) rfl 0, sE.ld (k := 0) rfl 1, sE.ld (k := 0) rfl 2, sE.ld (k := 0) rfl 3, sE.ld (k := 0) rfl 4, sE.ld (k := 0) rfl 5, trivial⟩, cmp15_ok hta (hr.more sE.fr) (hm _ hym) fun F fF => ⟨_, rfl, fun h0 => ⟨acc.length - (j + 1), by omega, j + 1, wi (by omega), hj', rfl, sE.more fF, into_go hy (by have := of_decide_eq_true h0; show cmpC y x ≤ 0; omega) (fun e => by have := of_decide_eq_true h0; rw [linC.eq.2 e] at this; omega) he⟩, fun h0 => ⟨j, rfl, hj, sE.more fF, he, fun z hz => ?_⟩⟩⟩
  rw [hy] at hz
  rw [← Option.some_inj.1 hz]
  exact of_decide_eq_false h0
end
end Go.Proofs.YtjpkbenogloihaaGreatDoor.C18
end
section
namespace Go.Proofs.YtjpkbenogloihaaGreatDoor.C18
open Go Go.V Go.Proofs Go.Proofs.YtjpkbenogloihaaGreatDoor.N16 Go.Proofs.YtjpkbenogloihaaGreatDoor.P14 Go.Proofs.YtjpkbenogloihaaGreatDoor.C14 Go.Proofs.YtjpkbenogloihaaGreatDoor.P15 Go.Proofs.YtjpkbenogloihaaGreatDoor.C15
attribute [local irreducible] Cvt ExtF CallF hrun App MkS callV
structure RefS where
 l1 : Sl
 l2 : Sl
 l3 : Sl
 ps : List (Sl × List Mk)
 L : List HO
 fs : List FnD
 rs : List (Sl × List L8)
 M : List HC
def RefS.its (c : RefS) : List It := [rdsI flM 2 c.ps, arr flHO 43 3 c.l1 c.L, arr flF 49 3 c.l2 c.fs, rdsI flL 1 c.rs, arr flHC 45 6 c.l3 c.M]
structure RefS.good (c : RefS) (t : SysD) : Prop where
 qo : RelO c.ps c.L t.objs
 qf : c.fs = t.fns
 qc : RelC c.rs c.M t.cons
theorem RefS.rd {c : RefS} {t : SysD} {E : Hp} (h : ∀ a ∈ c.its, a.ok E) (g : c.good t) : RdSys E c.l1 c.l2 c.l3 t := by
 have h1 : (rdsI flM 2 c.ps).ok E := h _ (by simp [RefS.its])
 have h2 : RowN flHO 43 3 E c.l1 c.L := h (arr flHO 43 3 c.l1 c.L) (by simp [RefS.its])
 have h3 : RowN flF 49 3 E c.l2 c.fs := h (arr flF 49 3 c.l2 c.fs) (by simp [RefS.its])
 have h4 : (rdsI flL 1 c.rs).ok E := h _ (by simp [RefS.its])
 have h5 : RowN flHC 45 6 E c.l3 c.M := h (arr flHC 45 6 c.l3 c.M) (by simp [RefS.its])
 exact ⟨relO_rd (h2.rd FlHO (by decide)) g.qo h1, g.qf ▸ h3.rd FlF (by decide), relC_rd (h5.rd FlHC (by decide)) g.qc h4⟩
abbrev RL (bOut b bS : Nat) (s1 s2 s3 : Sl) (c : RefS) (z : List Value) : List It := [rdsI flM 2 c.ps, arr flHO 43 3 c.l1 c.L, arr flF 49 3 c.l2 c.fs, rdsI flL 1 c.rs, arr flHC 45 6 c.l3 c.M, blk bOut (sL c.l1 c.l2 c.l3) 26, blk b z 26, blk bS (sL s1 s2 s3) 26]
theorem one1 (a : Sl) : ∀ v ∈ [Value.slice a.a a.n a.c], v.oneCell = true := fun v hv => by rw [List.mem_singleton.1 hv]; rfl
section
variable {H : Hp} {K : Value → Hp → Prop} {Z : List PanicEntry → Hp → Prop}
theorem rcanon_ok {s1 s2 s3 : Sl} {x : SysD} (h : RdSys H s1 s2 s3 x) (hb : LenSys x) (k : ∀ (c : RefS) t E, Sym H no E c.its → c.good t → IsCanS x t → K (sAg c.l1 c.l2 c.l3) E) : CallF Tryz.prog 16 #[sAg s1 s2 s3] H K Z := by
 refine V16_ok ?_
 unfold V16
 intro bS A hA b B hB bOut C hC
 have sC := (((Sym.start H).newb (cs := sL s1 s2 s3) hA).newb (cs := zS) hB).newb (cs := zS) hC
 have l1 := h.o.len
 have l2 := h.f.len
 have l3 := h.c.len
 have bo := hb.o.1
 have bf := hb.f
 have bc := hb.c.1
 have s0 : Sym H no C (RL bOut b bS s1 s2 s3 ⟨n0, n0, n0, [], [], [], [], []⟩ zS) := ((((sC.nilrow flHC 45 6).nilrds flL 1).nilrow flF 49 3).nilrow flHO 43 3).nilrds flM 2
 refine ⟨fun i E m => ∃ (j : Nat) (c : RefS) (acc : List ObjD), i = (j : Int) ∧ j ≤ x.objs.length ∧ m = x.objs.length - j ∧ RelO c.ps c.L acc ∧ IsCan cmpL ObjD.name (x.objs.take j) acc ∧ c.fs = [] ∧ c.M = [] ∧ Sym H no E (RL bOut b bS s1 s2 s3 c zS),
  ⟨_, 0, ⟨n0, n0, n0, [], [], [], [], []⟩, [], rfl, Nat.zero_le _, rfl, Hx.nil, IsCan.nil, rfl, rfl, s0⟩, ?_⟩
 rintro i E m ⟨j, c, acc, rfl, hj, rfl, qo, isO, cf0, cm0, sE⟩ scr
 refine ⟨s1, sE.ld (k := 7) rfl 0, fun hlt => ?_, fun hge => ?_⟩
 ·have hj' : j < x.objs.length := by have := dlt hlt; omega
  obtain ⟨o, ho, hom⟩ := getN hj'
  obtain ⟨u, hu, ix⟩ := atO (h.o.more sE.fr) ho
  have la := isO.len linCL
  rw [List.length_take] at la
  have st := isO.step linCL (o := o)
  have et : x.objs.take (j + 1) = x.objs.take j ++ [o] := by rw [List.take_add_one, ho]; rfl
  rw [← et] at st
  refine ⟨c.l1, sE.ld (k := 5) rfl 0, s1, sE.ld (k := 7) rfl 0, ix fun ad e0 e1 e2 => ⟨_, _, u, ⟨e0, e1, e2, trivial⟩, objInto_ok (sE.rd (k := 1) FlHO (by decide) rfl) (sE.get (k := 0) rfl) qo hu (by omega) (fun z hz => by have := hb.o.2 z (List.mem_of_mem_take ((isO.mem z).1 hz)); omega) (by have := hb.o.2 o hom; omega) (fun F fF he => ⟨c.l1, rfl, ?_⟩) (fun ap l' L' F sF hR => ⟨l', rfl, ?_⟩)⟩⟩
  ·have sF := sE.more fF
   refine sF.stbs (k := 5) (i := 0) (vs := [.slice c.l1.a c.l1.n c.l1.c]) rfl (by simp) (one1 _) fun G sG => ?_
   replace sG : Sym H no G (RL bOut b bS s1 s2 s3 c zS) := sG
   rw [he] at st
   exact ⟨x.objs.length - (j + 1), by omega, j + 1, c, acc, wi (by omega), hj', rfl, qo, st, cf0, cm0, sG⟩
  ·have sJ := (sE.join sF).re [0, 2, 1, 4, 5, 6, 7, 8, 9] (by decide)
   replace sJ : Sym H no F (arr flM 47 2 ap o.marks :: rdsI flM 2 c.ps :: [arr flHO 43 3 l' L', arr flF 49 3 c.l2 c.fs, rdsI flL 1 c.rs, arr flHC 45 6 c.l3 c.M, blk bOut (sL c.l1 c.l2 c.l3) 26, blk b zS 26, blk bS (sL s1 s2 s3) 26]) := sJ
   have sK := sJ.inrds FlM (by decide)
   refine sK.stbs (k := 5) (i := 0) (vs := [.slice l'.a l'.n l'.c]) rfl (by simp) (one1 _) fun G sG => ?_
   replace sG : Sym H no G (RL bOut b bS s1 s2 s3 ⟨l', c.l2, c.l3, (ap, o.marks) :: c.ps, L', c.fs, c.rs, c.M⟩ zS) := sG
   exact ⟨x.objs.length - (j + 1), by omega, j + 1, ⟨l', c.l2, c.l3, (ap, o.marks) :: c.ps, L', c.fs, c.rs, c.M⟩, intoK cmpL ObjD.name acc o, wi (by omega), hj', rfl, hR, st, cf0, cm0, sG⟩
 have hje : j = x.objs.length := by have := dge hge; omega
 rw [hje, List.take_length] at isO
 clear hge
 refine ⟨fun i E m => ∃ (j : Nat) (c : RefS), i = (j : Int) ∧ j ≤ x.fns.length ∧ m = x.fns.length - j ∧ RelO c.ps c.L acc ∧ IsCan cmpL FnD.name (x.fns.take j) c.fs ∧ c.M = [] ∧ Sym H no E (RL bOut b bS s1 s2 s3 c zS),
  ⟨_, 0, c, rfl, Nat.zero_le _, rfl, qo, by rw [cf0]; exact IsCan.nil, cm0, sE⟩, ?_⟩
 clear sE qo cf0 cm0 c
 rintro i E m ⟨j, c, rfl, hj, rfl, qo, isF, cm0, sE⟩ scr
 refine ⟨s2, sE.ld (k := 7) rfl 1, fun hlt => ?_, fun hge => ?_⟩
 ·have hj' : j < x.fns.length := by have := dlt hlt; omega
  obtain ⟨o, ho, hom⟩ := getN hj'
  have la := isF.len linCL
  rw [List.length_take] at la
  have st := isF.step linCL (o := o)
  have et : x.fns.take (j + 1) = x.fns.take j ++ [o] := by rw [List.take_add_one, ho]; rfl
  rw [← et] at st
  refine ⟨c.l2, sE.ld (k := 5) rfl 1, s2, sE.ld (k := 7) rfl 1, atF (h.f.more sE.fr) ho fun ad e0 e1 e2 => ⟨_, _, _, ⟨e0, e1, e2, trivial⟩, fnInto_ok (x := o) (sE.rd (k := 2) FlF (by decide) rfl) (by omega) (fun F fF he => ⟨c.l2, rfl, ?_⟩) (fun l' F sF => ⟨l', rfl, ?_⟩)⟩⟩
  ·have sF := sE.more fF
   refine sF.stbs (k := 5) (i := 1) (vs := [.slice c.l2.a c.l2.n c.l2.c]) rfl (by simp) (one1 _) fun G sG => ?_
   replace sG : Sym H no G (RL bOut b bS s1 s2 s3 c zS) := sG
   rw [he] at st
   exact ⟨x.fns.length - (j + 1), by omega, j + 1, c, wi (by omega), hj', rfl, qo, st, cm0, sG⟩
  ·have sJ := (sE.join sF).re [1, 2, 0, 4, 5, 6, 7, 8] (by decide)
   refine sJ.stbs (k := 5) (i := 1) (vs := [.slice l'.a l'.n l'.c]) rfl (by simp) (one1 _) fun G sG => ?_
   replace sG : Sym H no G (RL bOut b bS s1 s2 s3 ⟨c.l1, l', c.l3, c.ps, c.L, intoK cmpL FnD.name c.fs o, c.rs, c.M⟩ zS) := sG
   exact ⟨x.fns.length - (j + 1), by omega, j + 1, ⟨c.l1, l', c.l3, c.ps, c.L, intoK cmpL FnD.name c.fs o, c.rs, c.M⟩, wi (by omega), hj', rfl, qo, st, cm0, sG⟩
 have hje2 : j = x.fns.length := by have := dge hge; omega
 rw [hje2, List.take_length] at isF
 clear hge
 refine ⟨fun i E m => ∃ (j : Nat) (c : RefS) (acc3 : List ConD), i = (j : Int) ∧ j ≤ x.cons.length ∧ m = x.cons.length - j ∧ RelO c.ps c.L acc ∧ IsCan cmpL FnD.name x.fns c.fs ∧ RelC c.rs c.M acc3 ∧ IsCan cmpC (fun z => z) (x.cons.take j) acc3 ∧ Sym H no E (RL bOut b bS s1 s2 s3 c zS),
  ⟨_, 0, c, [], rfl, Nat.zero_le _, rfl, qo, isF, by rw [cm0]; exact Hx.nil, IsCan.nil, sE⟩, ?_⟩
 clear sE qo isF cm0 c
 rintro i E m ⟨j, c, acc3, rfl, hj, rfl, qo, isF, qc, isC, sE⟩ scr
 refine ⟨s3, sE.ld (k := 7) rfl 2, fun hlt => ?_, fun hge => ?_⟩
 ·have hj' : j < x.cons.length := by have := dlt hlt; omega
  obtain ⟨o, ho, hom⟩ := getN hj'
  obtain ⟨u, hu, ix⟩ := atC (h.c.more sE.fr) ho
  have la := isC.len linC
  rw [List.length_take] at la
  have st := isC.step linC (o := o)
  have et : x.cons.take (j + 1) = x.cons.take j ++ [o] := by rw [List.take_add_one, ho]; rfl
  rw [← et] at st
  refine ⟨c.l3, sE.ld (k := 5) rfl 2, s3, sE.ld (k := 7) rfl 2, ix fun ad e0 e1 e2 e3 e4 e5 => ⟨_, _, _, _, _, u, ⟨e0, e1, e2, e3, e4, e5, trivial⟩, conInto_ok (sE.rd (k := 4) FlHC (by decide) rfl) (sE.get (k := 3) rfl) qc hu (by omega) (fun z hz => hb.c.2 z (List.mem_of_mem_take ((isC.mem z).1 hz))) (hb.c.2 o hom) (fun F fF he => ⟨c.l3, rfl, ?_⟩) (fun ap l' M' F sF hR => ⟨l', rfl, ?_⟩)⟩⟩
  ·have sF := sE.more fF
   refine sF.stbs (k := 5) (i := 2) (vs := [.slice c.l3.a c.l3.n c.l3.c]) rfl (by simp) (one1 _) fun G sG => ?_
   replace sG : Sym H no G (RL bOut b bS s1 s2 s3 c zS) := sG
   rw [he] at st
   exact ⟨x.cons.length - (j + 1), by omega, j + 1, c, acc3, wi (by omega), hj', rfl, qo, isF, qc, st, sG⟩
  ·have sJ := (sE.join sF).re [0, 5, 2, 3, 4, 1, 7, 8, 9] (by decide)
   replace sJ : Sym H no F (arr flL 9 1 ap o.args :: rdsI flL 1 c.rs :: [rdsI flM 2 c.ps, arr flHO 43 3 c.l1 c.L, arr flF 49 3 c.l2 c.fs, arr flHC 45 6 l' M', blk bOut (sL c.l1 c.l2 c.l3) 26, blk b zS 26, blk bS (sL s1 s2 s3) 26]) := sJ
   have sK := (sJ.inrds FlL (by decide)).re [1, 2, 3, 0, 4, 5, 6, 7] (by decide)
   refine sK.stbs (k := 5) (i := 2) (vs := [.slice l'.a l'.n l'.c]) rfl (by simp) (one1 _) fun G sG => ?_
   replace sG : Sym H no G (RL bOut b bS s1 s2 s3 ⟨c.l1, c.l2, l', c.ps, c.L, c.fs, (ap, o.args) :: c.rs, M'⟩ zS) := sG
   exact ⟨x.cons.length - (j + 1), by omega, j + 1, ⟨c.l1, c.l2, l', c.ps, c.L, c.fs, (ap, o.args) :: c.rs, M'⟩, intoK cmpC (fun z => z) acc3 o, wi (by omega), hj', rfl, qo, isF, hR, st, sG⟩
 ·have hje3 : j = x.cons.length := by have := dge hge; omega
  rw [hje3, List.take_length] at isC
  refine ⟨c.l1, c.l2, c.l3, ⟨sE.ld (k := 5) rfl 0, sE.ld (k := 5) rfl 1, sE.ld (k := 5) rfl 2, trivial⟩, sE.stbs (k := 6) (i := 0) (vs := sL c.l1 c.l2 c.l3) rfl (by simp) (one3 _ _ _) fun F sF => ?_⟩
  replace sF : Sym H no F (RL bOut b bS s1 s2 s3 c (sL c.l1 c.l2 c.l3)) := sF
  exact ⟨c.l1, c.l2, c.l3, ⟨sF.ld (k := 6) rfl 0, sF.ld (k := 6) rfl 1, sF.ld (k := 6) rfl 2, trivial⟩, k c ⟨acc, c.fs, acc3⟩ F (sF.re [0, 1, 2, 3, 4] (by decide)) ⟨qo, rfl, qc⟩ ⟨isO, isF, isC⟩⟩
theorem rsame_ok {s1 s2 s3 t1 t2 t3 : Sl} {x y : SysD} (h1 : RdSys H s1 s2 s3 x) (h2 : RdSys H t1 t2 t3 y) (hb : LenSys x) (k : ∀ H', Fr no H H' → K (.bool (decide (x = y))) H') : CallF Tryz.prog 14 #[sAg s1 s2 s3, sAg t1 t2 t3] H K Z := by
 refine V14_ok ?_
 unfold V14
 intro bA A hA bB B hB
 have sB := ((Sym.start H).newb (cs := sL s1 s2 s3) hA).newb (cs := sL t1 t2 t3) hB
 have fB := sB.fr
 have ga : ∀ {E : Hp}, Fr no B E → ∀ i, hcell E ⟨bA, i, none⟩ = (sL s1 s2 s3)[i]? := fun fE i => (sB.more fE).ld (k := 1) rfl i
 have gb : ∀ {E : Hp}, Fr no B E → ∀ i, hcell E ⟨bB, i, none⟩ = (sL t1 t2 t3)[i]? := fun fE i => (sB.more fE).ld (k := 0) rfl i
 have no' : ∀ {E : Hp}, Fr no B E → x ≠ y → K (.bool false) E := fun f h => by
  have kk := k _ (fB.trans f)
  rw [decide_eq_false h] at kk
  exact kk
 have bo := hb.o.1
 have bf := hb.f
 have bc := hb.c.1
 have l1 := h1.o.len
 have l2 := h1.f.len
 have l3 := h1.c.len
 have m1 := h2.o.len
 have m2 := h2.f.len
 have m3 := h2.c.len
 have r := Fr.refl no B
 have ne : ∀ {a b : Nat}, (((a : Nat) : Int) != ((b : Nat) : Int)) = true → a ≠ b := fun h e => bne_iff_ne.1 h (by rw [e])
 have eq : ∀ {a b : Nat}, (((a : Nat) : Int) != ((b : Nat) : Int)) = false → a = b := fun {a b} h => by
  have : ((a : Nat) : Int) = ((b : Nat) : Int) := bne_eq_false_iff_eq.1 h
  omega
 refine ⟨fun E => Fr no B E ∧ x.objs.length = y.objs.length ∧ x.fns.length = y.fns.length ∧ x.cons.length = y.cons.length, ?_, s1, ga r 0, t1, gb r 0, fun hn => no' r fun e => ne hn (by rw [l1, m1, e]), fun he1 => ⟨s2, ga r 1, t2, gb r 1, fun hn => no' r fun e => ne hn (by rw [l2, m2, e]), fun he2 => ⟨s3, ga r 2, t3, gb r 2, fun hn => no' r fun e => ne hn (by rw [l3, m3, e]), fun he3 => ⟨r, by have := eq he1; omega, by have := eq he2; omega, by have := eq he3; omega⟩⟩⟩⟩
 rintro E ⟨fE, n1, n2, n3⟩ scr
 refine ⟨fun i F m => ∃ j : Nat, Fr no B F ∧ i = (j : Int) ∧ j ≤ x.objs.length ∧ m = x.objs.length - j ∧ x.objs.take j = y.objs.take j, ⟨_, 0, fE, rfl, Nat.zero_le _, rfl, rfl⟩, ?_⟩
 rintro i F m ⟨j, fF, rfl, hj, rfl, he⟩ scr1
 refine ⟨s1, ga fF 0, fun hlt => ?_, fun hge => ?_⟩
 ·have hj' : j < x.objs.length := by have := dlt hlt; omega
  obtain ⟨p, hp, hpm⟩ := getN hj'
  obtain ⟨q, hq, _⟩ := getN (show j < y.objs.length by omega)
  obtain ⟨u, hu, ix⟩ := atO (h1.o.more (fB.trans fF)) hp
  obtain ⟨v, hv, iy⟩ := atO (h2.o.more (fB.trans fF)) hq
  exact ⟨s1, ga fF 0, ix fun ad e0 e1 e2 => ⟨_, _, u, ⟨e0, e1, e2, trivial⟩, t1, gb fF 0, iy fun ad2 g0 g1 g2 => ⟨_, _, v, ⟨g0, g1, g2, trivial⟩, rsameObj_ok hu hv (by have := hb.o.2 p hpm; omega) fun G fG => ⟨_, rfl, fun hn => no' (fF.trans fG) fun e => ne_at hp hq (notd.1.1 hn) (by rw [e]), fun hn => ⟨x.objs.length - (j + 1), by omega, j + 1, fF.trans fG, wi (by omega), hj', rfl, take_eq he hp hq (notd.2.1 hn)⟩⟩⟩⟩⟩
 rw [List.take_of_length_le (by have := dge hge; omega), List.take_of_length_le (by have := dge hge; omega)] at he
 clear hge
 refine ⟨fun i F m => ∃ j : Nat, Fr no B F ∧ i = (j : Int) ∧ j ≤ x.fns.length ∧ m = x.fns.length - j ∧ x.fns.take j = y.fns.take j, ⟨_, 0, fF, rfl, Nat.zero_le _, rfl, rfl⟩, ?_⟩
 clear fF
 rintro i F m ⟨j, fF, rfl, hj, rfl, he2⟩ scr2
 refine ⟨s2, ga fF 1, fun hlt => ?_, fun hge => ?_⟩
 ·have hj' : j < x.fns.length := by have := dlt hlt; omega
  obtain ⟨p, hp, hpm⟩ := getN hj'
  obtain ⟨q, hq, _⟩ := getN (show j < y.fns.length by omega)
  refine ⟨s2, ga fF 1, atF (h1.f.more (fB.trans fF)) hp fun ad e0 e1 e2 => ⟨_, _, _, ⟨e0, e1, e2, trivial⟩, t2, gb fF 1, atF (h2.f.more (fB.trans fF)) hq fun ad2 g0 g1 g2 => ⟨_, _, _, ⟨g0, g1, g2, trivial⟩, ?_⟩⟩⟩
  rw [fnEq]
  exact ⟨fun hn => no' fF fun e => ne_at hp hq (notd.1.1 hn) (by rw [e]), fun hn => ⟨x.fns.length - (j + 1), by omega, j + 1, fF, wi (by omega), hj', rfl, take_eq he2 hp hq (notd.2.1 hn)⟩⟩
 rw [List.take_of_length_le (by have := dge hge; omega), List.take_of_length_le (by have := dge hge; omega)] at he2
 clear hge
 refine ⟨fun i F m => ∃ j : Nat, Fr no B F ∧ i = (j : Int) ∧ j ≤ x.cons.length ∧ m = x.cons.length - j ∧ x.cons.take j = y.cons.take j, ⟨_, 0, fF, rfl, Nat.zero_le _, rfl, rfl⟩, ?_⟩
 clear fF
 rintro i F m ⟨j, fF, rfl, hj, rfl, he3⟩ scr3
 refine ⟨s3, ga fF 2, fun hlt => ?_, fun hge => ?_⟩
 ·have hj' : j < x.cons.length := by have := dlt hlt; omega
  obtain ⟨p, hp, hpm⟩ := getN hj'
  obtain ⟨q, hq, _⟩ := getN (show j < y.cons.length by omega)
  obtain ⟨u, hu, ix⟩ := atC (h1.c.more (fB.trans fF)) hp
  obtain ⟨v, hv, iy⟩ := atC (h2.c.more (fB.trans fF)) hq
  exact ⟨s3, ga fF 2, ix fun ad e0 e1 e2 e3 e4 e5 => ⟨_, _, _, _, _, u, ⟨e0, e1, e2, e3, e4, e5, trivial⟩, t3, gb fF 2, iy fun ad2 g0 g1 g2 g3 g4 g5 => ⟨_, _, _, _, _, v, ⟨g0, g1, g2, g3, g4, g5, trivial⟩, cmp15_ok hu hv (hb.c.2 p hpm) fun G fG => ⟨_, rfl, fun hn => no' (fF.trans fG) fun e => ne_at hp hq (fun e2 => bne_iff_ne.1 hn (linC.eq.2 e2)) (by rw [e]), fun hn => ⟨x.cons.length - (j + 1), by omega, j + 1, fF.trans fG, wi (by omega), hj', rfl, take_eq he3 hp hq (linC.eq.1 (bne_eq_false_iff_eq.1 hn))⟩⟩⟩⟩⟩
 ·rw [List.take_of_length_le (by have := dge hge; omega), List.take_of_length_le (by have := dge hge; omega)] at he3
  have kk := k _ (fB.trans fF)
  have hxy : x = y := by
   cases x; cases y
   simp only at he he2 he3
   rw [he, he2, he3]
  rw [decide_eq_true hxy] at kk
  exact kk
theorem adj_rise {χ κ : Type} {c : κ → κ → Int} {ky : χ → κ} (hc : CmpLin c) : ∀ {a : List χ}, a.Pairwise (fun x y => c (ky x) (ky y) ≤ 0) → (∀ (i : Nat) y z, a[i]? = some y → a[i + 1]? = some z → ky y ≠ ky z) → a.Pairwise fun x y => c (ky x) (ky y) < 0
 | [], _, _ => List.Pairwise.nil
 | [x], _, _ => List.pairwise_singleton _ _
 | x :: z :: r, hp, hne => by
  have hp' := List.pairwise_cons.1 hp
  have ih := adj_rise hc (a := z :: r) hp'.2 fun i y w hy hw => hne (i + 1) y w (by simpa using hy) (by simpa using hw)
  have hxz : c (ky x) (ky z) < 0 := by
   have h1 := hp'.1 z List.mem_cons_self
   have h2 := hne 0 x z rfl rfl
   have h3 : c (ky x) (ky z) ≠ 0 := fun e => h2 (hc.eq.1 e)
   omega
  refine List.pairwise_cons.2 ⟨fun y hy => ?_, ih⟩
  rcases List.mem_cons.1 hy with rfl | hy
  ·exact hxz
  ·exact hc.tr hxz ((List.pairwise_cons.1 ih).1 y hy)
theorem runion_ok {l : Sl} {xs : List SysD} (h : RdX flY 3 InY H l xs) (hx : OkSys (catS xs)) (hn : xs.length ≤ 1000)
  (k : ∀ t1 t2 t3 r e E, Fr no H E → UniR xs r e → RdSys E t1 t2 t3 r → K (.tuple #[sAg t1 t2 t3, .int .i64 e]) E) : CallF Tryz.prog 13 #[.slice l.a l.n l.c] H K Z := by
 refine V13_ok ?_
 unfold V13
 intro b A hA bAll B hB
 have sA := (Sym.start H).newb (cs := zS) hA
 have sB := sA.newb (cs := zS) hB
 have ln := RdX.len h
 have bo := hx.o.1
 have bf := hx.f.1
 have bc := hx.c.1
 refine ⟨fun i C m => ∃ (j : Nat) (l1 l2 l3 : Sl) (ho : List HO) (hc : List HC), i = (j : Int) ∧ j ≤ xs.length ∧ m = xs.length - j ∧ (∀ s ∈ xs.take j, checkE s = 0) ∧ Hx (InO H) ho (catS (xs.take j)).objs ∧ Hx (InC H) hc (catS (xs.take j)).cons ∧
  Sym H no C (UL bAll b l1 l2 l3 ho (catS (xs.take j)).fns hc), ⟨_, 0, n0, n0, n0, [], [], rfl, Nat.zero_le _, rfl, by simp, Hx.nil, Hx.nil, ((sB.nilrow flHC 45 6).nilrow flF 49 3).nilrow flHO 43 3⟩, ?_⟩
 rintro i C m ⟨j, l1, l2, l3, ho, hc, rfl, hj, rfl, hall, qo, qc, sC⟩ scr
 have fC := sC.fr
 refine ⟨fun hlt => ?_, fun hge => ?_⟩
 ·have hj' : j < xs.length := by have := dlt hlt; omega
  obtain ⟨x, hxj, hxm⟩ := getN hj'
  obtain ⟨s1, s2, s3, hs, ix⟩ := atY h hxj
  have okx := ok_part hx hxm
  obtain ⟨e1, e2, e3⟩ := cat_snoc hxj
  refine ix fun ad g0 g1 g2 => ⟨s1, s2, s3, ⟨lf fC g0, lf fC g1, lf fC g2, trivial⟩, rcheck_ok (hs.more fC) okx fun F fF => ⟨_, rfl, fun hne => ?_, fun heq => ?_⟩⟩
  ·have sF := sC.more fF
   have hne := bne_iff_ne.1 hne
   refine sF.stbs (k := 4) (i := 0) (vs := sL n0 n0 n0) rfl (by simp) (one3 _ _ _) fun G sG => ?_
   replace sG : Sym H no G (UL bAll b l1 l2 l3 ho (catS (xs.take j)).fns hc) := sG
   have hfe := first_at hall hxj hne
   exact ⟨n0, n0, n0, ⟨sG.ld (k := 4) rfl 0, sG.ld (k := 4) rfl 1, sG.ld (k := 4) rfl 2, trivial⟩, k n0 n0 n0 nilS _ G sG.fr (.inl ⟨by rw [hfe]; exact hne, hfe.symm, rfl⟩) rd_nil⟩
  ·have h0 := bne_eq_false_iff_eq.1 heq
   have sF := sC.more fF
   have n1 := (Sym.rd (k := 0) sF FlHO (by decide) rfl).len
   have n2 := (Sym.rd (k := 1) sF FlF (by decide) rfl).len
   have n3 := (Sym.rd (k := 2) sF FlHC (by decide) rfl).len
   have b1 : (catS (xs.take j)).objs.length ≤ (catS xs).objs.length := take_flat _ _
   have b2 : (catS (xs.take j)).fns.length ≤ (catS xs).fns.length := take_flat _ _
   have b3 : (catS (xs.take j)).cons.length ≤ (catS xs).cons.length := take_flat _ _
   have c1 := okx.o.1
   have c2 := okx.f.1
   have c3 := okx.c.1
   obtain ⟨ro, r1, r2, r3⟩ := hs.o
   obtain ⟨rc, u1, u2, u3⟩ := hs.c
   have q1 := qo.1
   have q3 := qc.1
   refine ⟨l1, sF.ld (k := 3) rfl 0, ix fun ad1 a0 a1 a2 => ⟨s1, lf sF.fr a0, Sym.appR (k := 0) C16O.tyE sF FlHO (by decide) rfl (r1.more sF.fr) (by rw [n1, r2]; omega) fun p1 G nG sG => ?_⟩⟩
   replace sG : Sym H no G [arr flHO 43 3 p1 (ho ++ ro), arr flF 49 3 l2 (catS (xs.take j)).fns, arr flHC 45 6 l3 hc, blk bAll (sL l1 l2 l3) 26, blk b zS 26] := sG
   refine sG.stbs (k := 3) (i := 0) (vs := [.slice p1.a p1.n p1.c]) rfl (by simp) (one1 _) fun I sI => ?_
   replace sI : Sym H no I [arr flHO 43 3 p1 (ho ++ ro), arr flF 49 3 l2 (catS (xs.take j)).fns, arr flHC 45 6 l3 hc, blk bAll (sL p1 l2 l3) 26, blk b zS 26] := sI
   refine ⟨l2, sI.ld (k := 3) rfl 1, ix fun ad2 a0 a1 a2 => ⟨s2, lf sI.fr a1, Sym.appR (k := 1) C16F.tyE sI FlF (by decide) rfl (hs.f.more sI.fr) (by rw [n2]; omega) fun p2 L nL sL' => ?_⟩⟩
   replace sL' : Sym H no L [arr flHO 43 3 p1 (ho ++ ro), arr flF 49 3 p2 ((catS (xs.take j)).fns ++ x.fns), arr flHC 45 6 l3 hc, blk bAll (sL p1 l2 l3) 26, blk b zS 26] := sL'
   refine sL'.stbs (k := 3) (i := 1) (vs := [.slice p2.a p2.n p2.c]) rfl (by simp) (one1 _) fun M sM => ?_
   replace sM : Sym H no M [arr flHO 43 3 p1 (ho ++ ro), arr flF 49 3 p2 ((catS (xs.take j)).fns ++ x.fns), arr flHC 45 6 l3 hc, blk bAll (sL p1 p2 l3) 26, blk b zS 26] := sM
   refine ⟨l3, sM.ld (k := 3) rfl 2, ix fun ad3 a0 a1 a2 => ⟨s3, lf sM.fr a2, Sym.appR (k := 2) C16C.tyE sM FlHC (by decide) rfl (u1.more sM.fr) (by rw [n3, u2]; omega) fun p3 N nN sN => ?_⟩⟩
   replace sN : Sym H no N [arr flHO 43 3 p1 (ho ++ ro), arr flF 49 3 p2 ((catS (xs.take j)).fns ++ x.fns), arr flHC 45 6 p3 (hc ++ rc), blk bAll (sL p1 p2 l3) 26, blk b zS 26] := sN
   refine sN.stbs (k := 3) (i := 2) (vs := [.slice p3.a p3.n p3.c]) rfl (by simp) (one1 _) fun O sO => ?_
   replace sO : Sym H no O [arr flHO 43 3 p1 (ho ++ ro), arr flF 49 3 p2 ((catS (xs.take j)).fns ++ x.fns), arr flHC 45 6 p3 (hc ++ rc), blk bAll (sL p1 p2 p3) 26, blk b zS 26] := sO
   refine ⟨xs.length - (j + 1), by omega, j + 1, p1, p2, p3, ho ++ ro, hc ++ rc, wi (by omega), hj', rfl, all_snoc hxj hall h0, ?_, ?_, ?_⟩
   ·rw [e1]
    exact qo.app ⟨r2, r3⟩
   ·rw [e3]
    exact qc.app ⟨u2, u3⟩
   ·rw [e2]
    exact sO
 ·have hje : j = xs.length := by have := dge hge; omega
  rw [hje, List.take_length] at hall qo qc sC
  have hrd : RdSys C l1 l2 l3 (catS xs) := ⟨⟨ho, Sym.rd (k := 0) sC FlHO (by decide) rfl, qo.1, fun i a x ha hx => (qo.2 i a x ha hx).more fC⟩, Sym.rd (k := 1) sC FlF (by decide) rfl, ⟨hc, Sym.rd (k := 2) sC FlHC (by decide) rfl, qc.1, fun i a x ha hx => (qc.2 i a x ha hx).more fC⟩⟩
  refine ⟨l1, l2, l3, ⟨sC.ld (k := 3) rfl 0, sC.ld (k := 3) rfl 1, sC.ld (k := 3) rfl 2, trivial⟩, rcanon_ok hrd hx.len fun c t E sE hg hcan => ⟨c.l1, c.l2, c.l3, rfl, ?_⟩⟩
  have sJ : Sym H no E (c.its ++ UT bAll b l1 l2 l3 ho (catS xs).fns hc l1 l2 l3 zS) := sC.join sE
  refine sJ.stbs (k := 8) (i := 0) (vs := sL c.l1 c.l2 c.l3) rfl (by simp) (one3 _ _ _) fun F sF => ?_
  replace sF : Sym H no F (c.its ++ UT bAll b l1 l2 l3 ho (catS xs).fns hc c.l1 c.l2 c.l3 zS) := sF
  have okt := ok_can hx hcan
  have hz : firstE (xs.map checkE) = 0 := firstE_0.2 fun y hy => by obtain ⟨s, hs, rfl⟩ := List.mem_map.1 hy; exact hall s hs
  have hpt : OkPart (catS xs) := cat_part hall
  have hck := can_check hcan hpt
  have rdt : ∀ {G : Hp} {R : List It}, Sym H no G (c.its ++ R) → RdSys G c.l1 c.l2 c.l3 t := fun s => RefS.rd (fun a ha => s.ok a (List.mem_append_left _ ha)) hg
  have bad : ∀ {G : Hp} {e : Int}, Sym H no G (c.its ++ UT bAll b l1 l2 l3 ho (catS xs).fns hc c.l1 c.l2 c.l3 zS) → UniR xs nilS e → StL ⟨b, 0, none⟩ 0 [.slice none 0 0, .slice none 0 0, .slice none 0 0] G fun H19 => (∃ res_a res_b res_c : Sl, (hcell H19 ⟨b, 0, none⟩ = some (.slice res_a.a res_a.n res_a.c) ∧ hcell H19 ⟨b, 1, none⟩ = some (.slice res_b.a res_b.n res_b.c) ∧ hcell H19 ⟨b, 2, none⟩ = some (.slice res_c.a res_c.n res_c.c) ∧ True) ∧ K (.tuple #[.agg #[.slice res_a.a res_a.n res_a.c, .slice res_b.a res_b.n res_b.c, .slice res_c.a res_c.n res_c.c], .int .i64 e]) H19) := by
   intro G e sG hu
   refine sG.stbs (k := 9) (i := 0) (vs := sL n0 n0 n0) rfl (by simp) (one3 _ _ _) fun I sI => ?_
   replace sI : Sym H no I (c.its ++ UT bAll b l1 l2 l3 ho (catS xs).fns hc c.l1 c.l2 c.l3 zS) := sI
   exact ⟨n0, n0, n0, ⟨sI.ld (k := 9) rfl 0, sI.ld (k := 9) rfl 1, sI.ld (k := 9) rfl 2, trivial⟩, k n0 n0 n0 nilS _ I sI.fr hu rd_nil⟩
  have hrdF := rdt sF
  have ln1 := hrdF.o.len
  have ln2 := hrdF.f.len
  have bt1 := okt.o.1
  have bt2 := okt.f.1
  refine ⟨fun i1 G m => ∃ j : Nat, G = F ∧ i1 = (j : Int) ∧ 1 ≤ j ∧ m = t.objs.length - j ∧ ∀ (i : Nat) y z, i + 1 < j → t.objs[i]? = some y → t.objs[i + 1]? = some z → y.name ≠ z.name, ⟨_, 1, rfl, rfl, Nat.le_refl _, rfl, by intro i y z hi; omega⟩, ?_⟩
  rintro i1 G m ⟨j1, hG, rfl, hj1, rfl, hne1⟩ scr1
  rw [hG]
  refine ⟨c.l1, sF.ld (k := 8) rfl 0, fun hlt => ?_, fun hge1 => ?_⟩
  ·have hj' : j1 < t.objs.length := by have := dlt hlt; omega
   obtain ⟨p, hp, _⟩ := getN hj'
   obtain ⟨q, hq, _⟩ := getN (show j1 - 1 < t.objs.length by omega)
   obtain ⟨u, hu, ix⟩ := atO hrdF.o hp
   obtain ⟨v, hv, iy⟩ := atO hrdF.o hq
   refine ⟨c.l1, sF.ld (k := 8) rfl 0, ix fun ad a0 a1 a2 => ⟨_, a0, c.l1, sF.ld (k := 8) rfl 0, ?_⟩⟩
   rw [wd (by omega) hj1]
   refine iy fun ad2 g0 g1 g2 => ⟨_, g0, ?_⟩
   rw [beq_str]
   refine ⟨fun heq => ?_, fun hne => ⟨t.objs.length - (j1 + 1), by omega, j1 + 1, rfl, wi (by omega), by omega, rfl, fun i y z hi hy hz => ?_⟩⟩
   ·refine bad sF (.inr ⟨hz, t, hcan, .inl ⟨fun hon => ?_, rfl, rfl⟩⟩)
    have := pw_at hon.1 hq hp (by omega)
    rw [show cmpO q p = cmpL q.name p.name from rfl, of_decide_eq_true heq, linCL.eq.2 rfl] at this
    omega
   ·by_cases hij : i + 1 < j1
    ·exact hne1 i y z hij hy hz
    ·have hi1 : i + 1 = j1 := by omega
     rw [hi1, hp] at hz
     rw [show i = j1 - 1 by omega, hq] at hy
     rw [← Option.some_inj.1 hy, ← Option.some_inj.1 hz]
     exact fun e => of_decide_eq_false hne e.symm
  have ro : t.objs.Pairwise fun x y => cmpO x y < 0 := adj_rise linCL (hcan.o.le linCL) fun i y z hy hz => hne1 i y z (by have := (List.getElem?_eq_some_iff.1 hz).1; have := dge hge1; omega) hy hz
  refine ⟨fun i1 G m => ∃ j : Nat, G = F ∧ i1 = (j : Int) ∧ 1 ≤ j ∧ m = t.fns.length - j ∧ ∀ (i : Nat) y z, i + 1 < j → t.fns[i]? = some y → t.fns[i + 1]? = some z → y.name ≠ z.name, ⟨_, 1, rfl, rfl, Nat.le_refl _, rfl, by intro i y z hi; omega⟩, ?_⟩
  rintro i2 G2 m ⟨j2, hG2, rfl, hj2, rfl, hne2⟩ scr2
  rw [hG2]
  refine ⟨c.l2, sF.ld (k := 8) rfl 1, fun hlt => ?_, fun hge2 => ?_⟩
  ·have hj' : j2 < t.fns.length := by have := dlt hlt; omega
   obtain ⟨p, hp, _⟩ := getN hj'
   obtain ⟨q, hq, _⟩ := getN (show j2 - 1 < t.fns.length by omega)
   refine ⟨c.l2, sF.ld (k := 8) rfl 1, atF hrdF.f hp fun ad a0 a1 a2 => ⟨_, a0, c.l2, sF.ld (k := 8) rfl 1, ?_⟩⟩
   rw [wd (by omega) hj2]
   refine atF hrdF.f hq fun ad2 g0 g1 g2 => ⟨_, g0, ?_⟩
   rw [beq_str]
   refine ⟨fun heq => ?_, fun hne => ⟨t.fns.length - (j2 + 1), by omega, j2 + 1, rfl, wi (by omega), by omega, rfl, fun i y z hi hy hz => ?_⟩⟩
   ·refine bad sF (.inr ⟨hz, t, hcan, .inl ⟨fun hon => ?_, rfl, rfl⟩⟩)
    have := pw_at hon.2 hq hp (by omega)
    rw [show cmpF q p = cmpL q.name p.name from rfl, of_decide_eq_true heq, linCL.eq.2 rfl] at this
    omega
   ·by_cases hij : i + 1 < j2
    ·exact hne2 i y z hij hy hz
    ·have hi1 : i + 1 = j2 := by omega
     rw [hi1, hp] at hz
     rw [show i = j2 - 1 by omega, hq] at hy
     rw [← Option.some_inj.1 hy, ← Option.some_inj.1 hz]
     exact fun e => of_decide_eq_false hne e.symm
  have rf : t.fns.Pairwise fun x y => cmpF x y < 0 := adj_rise linCL (hcan.f.le linCL) fun i y z hy hz => hne2 i y z (by have := (List.getElem?_eq_some_iff.1 hz).1; have := dge hge2; omega) hy hz
  have hon : once t := ⟨ro, rf⟩
  refine ⟨c.l1, c.l2, c.l3, ⟨sF.ld (k := 8) rfl 0, sF.ld (k := 8) rfl 1, sF.ld (k := 8) rfl 2, trivial⟩, rcheck_ok hrdF okt fun I fI => ⟨_, rfl, fun hne => ?_, fun heq => ?_⟩⟩
  ·have hbig : bigS t := Classical.byContradiction fun hb => bne_iff_ne.1 hne (hck.2 ⟨hon, hb⟩)
   exact bad (sF.more fI) (.inr ⟨hz, t, hcan, .inr (.inl ⟨hon, hbig, rfl, rfl⟩)⟩)
  ·have sI := sF.more fI
   have h0 := hck.1 (bne_eq_false_iff_eq.1 heq)
   refine ⟨c.l1, c.l2, c.l3, ⟨sI.ld (k := 8) rfl 0, sI.ld (k := 8) rfl 1, sI.ld (k := 8) rfl 2, trivial⟩, sI.stbs (k := 9) (i := 0) (vs := sL c.l1 c.l2 c.l3) rfl (by simp) (one3 _ _ _) fun J sJ2 => ?_⟩
   replace sJ2 : Sym H no J (c.its ++ UT bAll b l1 l2 l3 ho (catS xs).fns hc c.l1 c.l2 c.l3 (sL c.l1 c.l2 c.l3)) := sJ2
   exact ⟨c.l1, c.l2, c.l3, ⟨sJ2.ld (k := 9) rfl 0, sJ2.ld (k := 9) rfl 1, sJ2.ld (k := 9) rfl 2, trivial⟩, k _ _ _ t _ J sJ2.fr (.inr ⟨hz, t, hcan, .inr (.inr ⟨h0.1, h0.2, rfl, rfl⟩)⟩) (rdt sJ2)⟩
end
end Go.Proofs.YtjpkbenogloihaaGreatDoor.C18
end
section
namespace Go.Proofs.YtjpkbenogloihaaGreatDoor.C18
open Go Go.V Go.Proofs Go.Proofs.YtjpkbenogloihaaGreatDoor.N16 Go.Proofs.YtjpkbenogloihaaGreatDoor.P14 Go.Proofs.YtjpkbenogloihaaGreatDoor.C14 Go.Proofs.YtjpkbenogloihaaGreatDoor.P15 Go.Proofs.YtjpkbenogloihaaGreatDoor.C15
attribute [local irreducible] Cvt ExtF CallF hrun App MkS callV
abbrev At3' (E : Hp) (b : Nat) (s1 s2 s3 : Sl) : Prop := hcell E ⟨b, 0, none⟩ = some (.slice s1.a s1.n s1.c) ∧ hcell E ⟨b, 1, none⟩ = some (.slice s2.a s2.n s2.c) ∧ hcell E ⟨b, 2, none⟩ = some (.slice s3.a s3.n s3.c) ∧ True
section
variable {H : Hp} {K : Value → Hp → Prop} {Z : List PanicEntry → Hp → Prop}
theorem unions_law {s1 s2 s3 t1 t2 t3 u1 u2 u3 : Sl} {a b c : SysD} (ha : RdSys H s1 s2 s3 a) (oa : OkSys a) (hb : RdSys H t1 t2 t3 b) (ob : OkSys b) (hc : RdSys H u1 u2 u3 c) (oc : OkSys c) (ht : Pw H) (k : ∀ H', Fr no H H' → K (.bool true) H') : CallF Tryz.prog 4 #[sAg s1 s2 s3, sAg t1 t2 t3, sAg u1 u2 u3] H K Z := by
 refine N16L.V4_ok ?_
 unfold N16L.V4
 intro bA A1 hA bB A2 hB bC A hC
 have sA := (((Sym.start H).newb (cs := sL s1 s2 s3) hA).newb (cs := sL t1 t2 t3) hB).newb (cs := sL u1 u2 u3) hC
 have ga : ∀ {E : Hp}, Fr no A E → At3' E bA s1 s2 s3 := fun fE => ⟨(sA.more fE).ld (k := 2) rfl 0, (sA.more fE).ld (k := 2) rfl 1, (sA.more fE).ld (k := 2) rfl 2, trivial⟩
 have gb : ∀ {E : Hp}, Fr no A E → At3' E bB t1 t2 t3 := fun fE => ⟨(sA.more fE).ld (k := 1) rfl 0, (sA.more fE).ld (k := 1) rfl 1, (sA.more fE).ld (k := 1) rfl 2, trivial⟩
 have gc : ∀ {E : Hp}, Fr no A E → At3' E bC u1 u2 u3 := fun fE => ⟨(sA.more fE).ld (k := 0) rfl 0, (sA.more fE).ld (k := 0) rfl 1, (sA.more fE).ld (k := 0) rfl 2, trivial⟩
 have hp : ∀ {E}, Fr no A E → Pw E := fun fE => TabH.more ht (sA.fr.trans fE)
 have ka : ∀ {E}, Fr no A E → RdSys E s1 s2 s3 a := fun fE => ha.more (sA.fr.trans fE)
 have kb : ∀ {E}, Fr no A E → RdSys E t1 t2 t3 b := fun fE => hb.more (sA.fr.trans fE)
 have kc : ∀ {E}, Fr no A E → RdSys E u1 u2 u3 c := fun fE => hc.more (sA.fr.trans fE)
 have kk : ∀ {E}, Fr no A E → K (.bool true) E := fun fE => k _ (sA.fr.trans fE)
 have r : Fr no A A := Fr.refl _ _
 refine ⟨fun E => Fr no A E ∧ Mild 60 a ∧ Mild 60 b ∧ Mild 60 c, ?_, s1, s2, s3, ga r, great15_ok (most := 60) (ka r) oa fun y1 C fC m1 => ⟨_, rfl, fun _ => kk fC, fun e1 => ⟨t1, t2, t3, gb fC, great15_ok (most := 60) (kb fC) ob fun y2 D fD m2 => ⟨_, rfl, fun _ => kk (fC.trans fD), fun e2 => ⟨u1, u2, u3, gc (fC.trans fD), great15_ok (most := 60) (kc (fC.trans fD)) oc fun y3 E fE m3 => ⟨_, rfl, fun _ => kk ((fC.trans fD).trans fE), fun e3 => ⟨(fC.trans fD).trans fE, m1 e1, m2 e2, m3 e3⟩⟩⟩⟩⟩⟩⟩
 rintro E ⟨fE, ma, mb, mc⟩ scr
 have fa := mild_few ma
 have fb := mild_few mb
 have fc := mild_few mc
 have ok3 : OkSys (catS [a, b, c]) := ok_cat (n := 60) (fun x hx => by
  simp only [List.mem_cons, List.not_mem_nil, or_false] at hx
  rcases hx with rfl | rfl | rfl
  ·exact ⟨oa, fa⟩
  ·exact ⟨ob, fb⟩
  ·exact ⟨oc, fc⟩) (by simp)
 refine ⟨s1, s2, s3, ga fE, t1, t2, t3, gb fE, u1, u2, u3, gc fE, fun b1 M hM => ?_⟩
 have sM := (Sym.start E).lit (fl := flY) (l := [(s1, s2, s3), (t1, t2, t3), (u1, u2, u3)]) FlY (by decide) hM (show 3 = _ from rfl)
 have f2 := fE.trans sM.fr
 refine union_ok (rdY (sM.rd (k := 0) FlY (by decide) rfl) (Hx.cons (ka f2) (Hx.cons (kb f2) (Hx.cons (kc f2) Hx.nil)))) ok3 (by simp) (hp f2) fun v1 v2 v3 ru eu N fN hU hR => ⟨v1, v2, v3, eu, rfl, fun bX O hO => ?_⟩
 have sO := (Sym.start N).newb (cs := zS) hO
 refine sO.stbs (k := 0) (i := 0) (vs := sL v1 v2 v3) rfl (by simp) (one3 _ _ _) fun P sP => ?_
 replace sP : Sym N no P [blk bX (sL v1 v2 v3) 26] := sP
 have f3 : Fr no A P := f2.trans (fN.trans sP.fr)
 have ru' : ∀ {J : Hp}, Fr no P J → RdSys J v1 v2 v3 ru := fun f => hR.more (sP.fr.trans f)
 have gX : ∀ {J : Hp}, Fr no P J → At3' J bX v1 v2 v3 := fun f => ⟨(sP.more f).ld (k := 0) rfl 0, (sP.more f).ld (k := 0) rfl 1, (sP.more f).ld (k := 0) rfl 2, trivial⟩
 refine ⟨s1, s2, s3, ga f3, t1, t2, t3, gb f3, u1, u2, u3, gc f3, fun b2 Q hQ => ?_⟩
 have sQ := (Sym.start P).lit (fl := flY) (l := [(s1, s2, s3), (t1, t2, t3), (u1, u2, u3)]) FlY (by decide) hQ (show 3 = _ from rfl)
 have f4 := f3.trans sQ.fr
 refine runion_ok (rdY (sQ.rd (k := 0) FlY (by decide) rfl) (Hx.cons (ka f4) (Hx.cons (kb f4) (Hx.cons (kc f4) Hx.nil)))) ok3 (by simp) fun w1 w2 w3 rv ev R fR hV hRv => ⟨w1, w2, w3, ev, rfl, fun bY S hS => ?_⟩
 have sS := (Sym.start R).newb (cs := zS) hS
 refine sS.stbs (k := 0) (i := 0) (vs := sL w1 w2 w3) rfl (by simp) (one3 _ _ _) fun T sT => ?_
 replace sT : Sym R no T [blk bY (sL w1 w2 w3) 26] := sT
 have gPT : Fr no P T := sQ.fr.trans (fR.trans sT.fr)
 have f5 : Fr no A T := f3.trans gPT
 have rv' : ∀ {J : Hp}, Fr no T J → RdSys J w1 w2 w3 rv := fun f => hRv.more (sT.fr.trans f)
 have gY : ∀ {J : Hp}, Fr no T J → At3' J bY w1 w2 w3 := fun f => ⟨(sT.more f).ld (k := 0) rfl 0, (sT.more f).ld (k := 0) rfl 1, (sT.more f).ld (k := 0) rfl 2, trivial⟩
 obtain ⟨hr, he⟩ := hU.uniq hV
 refine ⟨s1, s2, s3, ga f5, s1, s2, s3, ga f5, canon_ok (ka f5) oa.len fun cx tx F sF gx hcx => ⟨cx.y, cx.y1, cx.y2, rfl, ga (f5.trans sF.fr), rcanon_ok (ka (f5.trans sF.fr)) oa.len fun cr tr G sG gr hcr => ⟨cr.l1, cr.l2, cr.l3, rfl, rsame_ok (CanS.rd (sF.more sG.fr).ok gx) (RefS.rd sG.ok gr) (ok_can oa hcx).len fun I fI => ⟨_, rfl, fun _ => ?_, fun h => absurd (hcx.uniq hcr) (of_decide_eq_false h)⟩⟩⟩⟩
 have fTI : Fr no T I := sF.fr.trans (sG.fr.trans fI)
 refine ⟨v1, v2, v3, gX (gPT.trans fTI), w1, w2, w3, gY fTI, rsame_ok (ru' (gPT.trans fTI)) (rv' fTI) (uni_ok ok3 hU).len fun J fJ => ⟨_, rfl, fun _ => ⟨fun _ => ?_, fun h => absurd he (neI.1 h)⟩, fun h => absurd hr (of_decide_eq_false h)⟩⟩
 have f6 : Fr no A J := f5.trans (fTI.trans fJ)
 refine ⟨s1, s2, s3, ga f6, t1, t2, t3, gb f6, s1, s2, s3, ga f6, t1, t2, t3, gb f6, same_ok (ka f6) (kb f6) oa.len fun L fL => ⟨_, rfl, gb (f6.trans fL), ga (f6.trans fL), rsame_ok (ka (f6.trans fL)) (kb (f6.trans fL)) oa.len fun L2 fL2 => ⟨_, rfl, fun _ => ?_, fun h => (by rw [beq_self_eq_true] at h; cases h)⟩⟩⟩
 have f7 : Fr no A L2 := f6.trans (fL.trans fL2)
 exact ⟨u1, u2, u3, gc f7, u1, u2, u3, gc f7, u1, u2, u3, gc f7, u1, u2, u3, gc f7, same_ok (kc f7) (kc f7) oc.len fun L3 fL3 => ⟨_, rfl, gc (f7.trans fL3), gc (f7.trans fL3), rsame_ok (kc (f7.trans fL3)) (kc (f7.trans fL3)) oc.len fun L4 fL4 => ⟨_, rfl, fun _ => works_ok (hp (f7.trans (fL3.trans fL4))) fun L5 fL5 => ⟨_, rfl, kk (f7.trans ((fL3.trans fL4).trans fL5))⟩, fun h => (by rw [beq_self_eq_true] at h; cases h)⟩⟩⟩
end
end Go.Proofs.YtjpkbenogloihaaGreatDoor.C18
end
section
namespace Go.Proofs.YtjpkbenogloihaaGreatDoor.L15U
open Go Go.V Go.Proofs Go.Proofs.YtjpkbenogloihaaGreatDoor.P14 Go.Proofs.YtjpkbenogloihaaGreatDoor.C14 Go.Proofs.YtjpkbenogloihaaGreatDoor.P15 Go.Proofs.YtjpkbenogloihaaGreatDoor.C15 Go.Proofs.YtjpkbenogloihaaGreatDoor.C18
attribute [local irreducible] Cvt ExtF CallF hrun App MkS callV
theorem unions2 {H : Hp} {K : Value → Hp → Prop} {Z : List PanicEntry → Hp → Prop} {a b c : SysD × Sl × Sl × Sl} (ht : Pw H) (ha : Sys H a) (hb : Sys H b) (hc : Sys H c) (k : ∀ H', Fr no H H' → K (.bool true) H') : CallF Tryz.prog 4 #[sAg a.2.1 a.2.2.1 a.2.2.2, sAg b.2.1 b.2.2.1 b.2.2.2, sAg c.2.1 c.2.2.1 c.2.2.2] H K Z := unions_law ha.1 ha.2 hb.1 hb.2 hc.1 hc.2 ht k
end Go.Proofs.YtjpkbenogloihaaGreatDoor.L15U
end
section
namespace Go.Proofs.YtjpkbenogloihaaGreatDoor.Lyd
open Go Go.V Go.Proofs Go.ChangeShapes Go.WideShapes Go.ChangeAt Go.RowKit
theorem wit {H : Type} {enc : TypeId × Value → H} {C : Checked} {os : Os} {f : FuncId} {fn : Func} {s : OpenSpec} {conds : List PathCond} {apart : Bool} {laid : List (String × DataW Unit)} (args : Array Value)
  (hv : ((World.laidAll C.prog os laid).forCall (fun _ _ => 0) ⟨#[], args, []⟩).variablesZipB C.prog = true)
  (hr : (((World.laidAll C.prog os laid).forCall (fun _ _ => 0) ⟨#[], args, []⟩).heap.toList.drop C.prog.globals.size).take ((begin C.prog (fun _ _ => 0) default).world.heap.size - C.prog.globals.size) =
   (begin C.prog (fun _ _ => 0) default).world.heap.toList.drop C.prog.globals.size)
  (hok : Input.okWideB C.prog ((World.laidAll C.prog os laid).forCall (fun _ _ => 0) ⟨#[], args, []⟩) f ⟨#[], args, []⟩ = true)
  (hrow : s.preRow enc C.prog fn conds apart laid ((World.laidAll C.prog os laid).forCall (fun _ _ => 0) ⟨#[], args, []⟩).memory args) :
  ∃ (w : World) (tape : Tape) (i : Input), w.os = os ∧ (w.forCall tape i).Shaped C.prog ∧ i.vars = [] ∧ Input.okWide C.prog (w.forCall tape i) .any w.heap.size f i ∧
   s.preRow enc C.prog fn conds apart laid (w.forCall tape i).memory i.args ∧ ({} : Assume).holds C.prog (lone (Frame.enter C.prog f i.args .normal) [] (w.forCall tape i)) :=
 ⟨World.laidAll C.prog os laid, fun _ _ => 0, ⟨#[], args, []⟩, World.laidAll_os _ _ _, World.shaped_of_ZipB hv hr, (Input.okWide_of_okWideB (base := 0) hok).1, (Input.okWide_of_okWideB hok).2, hrow, by
  simp only [Assume.holds]
  simp⟩
theorem tab_at {P : Program} {W : World} {name : String} {k : IntKind} {zs : List Int} {g : Nat} {t e : TypeId} {n : Nat}
  (hg : P.globalNamed name = some g) (hty : (P.globals[g]?).map (·.type) = some t) (ht : P.underlying t = some (.array n e)) (he : P.underlying e = some (.int k)) (hce : P.cellsOf e = 1) (hct : P.cellsOf t = n) :
  ∀ (i : Nat) (l : List (String × DataW Unit)), l[i]? = some (name, Lib.tabData k zs) → laidMet P l W → Lib.TabIs P W name k zs
 | _, [], hm, _ => by simp at hm
 | 0, x :: l, hm, h => by
  simp only [List.getElem?_cons_zero, Option.some.injEq] at hm
  subst hm
  exact Lib.tabIs_of_head hg hty ht he hce hct h
 | i + 1, x :: l, hm, h => tab_at hg hty ht he hce hct i l (by simpa using hm) h.tail
theorem pow10 {W : World} {l : List (String × DataW Unit)} (i : Nat) (hm : l[i]? = some ("internal/strconv.uint64pow10", Rows.laid_internal_strconv_uint64pow10)) (h : laidMet Tryz.prog l W) : TabH Tryz.prog W.heap "internal/strconv.uint64pow10" .u64 Lib.pow10Tab := by
 have e : (Rows.laid_internal_strconv_uint64pow10 : DataW Unit) = Lib.tabData .u64 Lib.pow10Tab := by kernel_rfl
 rw [e] at hm
 exact TabH.of (tab_at (g := (Tryz.prog.globalNamed "internal/strconv.uint64pow10").getD 0) (t := 209) (e := 178) (n := 20) (by kernel_rfl) (by kernel_rfl) (by kernel_rfl) (by kernel_rfl) (by kernel_rfl) (by kernel_rfl) i l hm h)
end Go.Proofs.YtjpkbenogloihaaGreatDoor.Lyd
end
