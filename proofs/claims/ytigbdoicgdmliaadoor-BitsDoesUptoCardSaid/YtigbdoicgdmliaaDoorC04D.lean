/- bits: joined, less, both; told one by one. -/
import Derived.Test.YtigbdoicgdmliaaDoorC04C
set_option linter.unusedVariables false
set_option linter.unusedSimpArgs false
-- tSet: 26
-- tPSet: 23
-- tBk: 70
-- tBks: 24
-- tInt: 3
-- tRef: 28
-- join: 9
-- less: 21
-- both: 22
-- join1: 38
-- less1: 43
-- both1: 44
-- clone: 46
-- beach: 47
-- each: 23
-- each1: 45
-- list: 18
-- list1: 42
namespace Go.Proofs.YtigbdoicgdmliaaDoor.C04
open Go Go.V Go.Proofs Go.Proofs.YtigbdoicgdmliaaDoor.N04 Go.Proofs.YtigbdoicgdmliaaDoor.P04
attribute [local irreducible] Cvt ExtF CallF hrun App MkS callV
theorem okJ1 : fnOk Tryd.prog 38 = true := by kernel_rfl
theorem okL1 : fnOk Tryd.prog 43 = true := by kernel_rfl
theorem okB1 : fnOk Tryd.prog 44 = true := by kernel_rfl
theorem opJ : OpV (.func (.func 38) #[] #[]) (· ||| ·) := ⟨rfl, rfl, fun x y A K' Z' hx hy k => by
  unfold callV
  simp only [okJ1, if_true]
  refine V38_ok ?_
  unfold V38
  rw [bOr hx hy]
  exact k⟩
theorem opL : OpV (.func (.func 43) #[] #[]) andNot := ⟨rfl, rfl, fun x y A K' Z' hx hy k => by
  unfold callV
  simp only [okL1, if_true]
  refine V43_ok ?_
  unfold V43
  rw [bNot hx hy]
  exact k⟩
theorem opB : OpV (.func (.func 44) #[] #[]) (· &&& ·) := ⟨rfl, rfl, fun x y A K' Z' hx hy k => by
  unfold callV
  simp only [okB1, if_true]
  refine V44_ok ?_
  unfold V44
  rw [bAnd hx hy]
  exact k⟩
section
variable {H0 H : Hp} {S : Nat → Prop} {L R : List It} {K : Value → Hp → Prop} {Z : List PanicEntry → Hp → Prop} {b : Nat} {s : Sl} {bl bm : List Bk} {p q : Addr}
theorem less_ok (hp : HasS H p bl) (hq : HasS H q bm) (wx : Wf bl) (wy : Wf bm) (lx : (tells bl).length ≤ 400000) (ly : (tells bm).length ≤ 400000)
    (k : ∀ b s H', Sym H no H' (setL b s (lessB bl bm)) → K (.pointer (some ⟨b, 0, none⟩)) H') : CallF Tryd.prog 21 #[.pointer (some p), .pointer (some q)] H K Z := by
  have h1 := len_tells wx
  have h2 := len_tells wy
  refine V21_ok ?_
  unfold V21
  exact made_ok opL hp hq wx wy (by omega) (by omega) fun b s H' h => ⟨_, rfl, k b s H' h⟩
theorem both_ok (hp : HasS H p bl) (hq : HasS H q bm) (wx : Wf bl) (wy : Wf bm) (lx : (tells bl).length ≤ 400000) (ly : (tells bm).length ≤ 400000)
    (k : ∀ b s H', Sym H no H' (setL b s (bothB bl bm)) → K (.pointer (some ⟨b, 0, none⟩)) H') : CallF Tryd.prog 22 #[.pointer (some p), .pointer (some q)] H K Z := by
  have h1 := len_tells wx
  have h2 := len_tells wy
  refine V22_ok ?_
  unfold V22
  exact made_ok opB hp hq wx wy (by omega) (by omega) fun b s H' h => ⟨_, rfl, k b s H' h⟩
theorem orB_len (ha : Wf bl) (hb : Wf bm) : (tells (orB bl bm)).length ≤ (tells bl).length + (tells bm).length := by
  have hp : (tells (orB bl bm)).Nodup := (tells_up (orB_wf ha hb)).imp fun h => Nat.ne_of_lt h
  rw [← List.length_append]
  refine nodup_len hp fun x hx => List.mem_append.2 ?_
  rw [mem_tells ha, mem_tells hb]
  exact (orB_mem ha hb x).1 ((mem_tells (orB_wf ha hb)).1 hx)
theorem join_ok (h : Sym H0 S H (setL b s bl ++ R)) (hq : HasS H q bm) (wx : Wf bl) (wy : Wf bm) (lx : (tells bl).length ≤ 400000) (ly : (tells bm).length ≤ 400000)
    (k : ∀ s' H', Sym H0 S H' (setL b s' (orB bl bm) ++ R) → K (.int .i64 (((tells (orB bl bm)).length - (tells bl).length : Nat) : Int)) H') :
    CallF Tryd.prog 9 #[.pointer (some ⟨b, 0, none⟩), .pointer (some q)] H K Z := by
  have h1 := len_tells wx
  have h2 := len_tells wy
  have h3 := orB_len wx wy
  have h4 := orB_more wx wy
  refine V9_ok ?_
  unfold V9
  refine ⟨(fun h => by cases h), fun _ => ?_⟩
  refine len_ok wx (by omega) (hasS h) fun A fA => ⟨_, rfl, ?_⟩
  have sA := h.more fA
  refine made_ok opJ (hasS sA) (hq.more fA) wx wy (by omega) (by omega) fun b' s' B sB => ⟨_, rfl, ?_⟩
  have t := sA.join sB
  refine ⟨s', t.ld (k := 0) rfl 0, ?_⟩
  refine t.stb (k := 2) (i := 0) rfl (by simp) rfl fun C sC => ?_
  have sC2 : Sym H0 S C ([blk b [.slice s'.a s'.n s'.c] 26, arr flK 70 2 s' (orB bl bm)] ++ R) :=
    (sC.drop.swap).sub (((List.Sublist.refl R).cons _).cons_cons _ |>.cons_cons _)
  refine len_ok (orB_wf wx wy) (by omega) (hasS sC2) fun D fD => ⟨_, rfl, ?_⟩
  have e : w64 (((tells (orB bl bm)).length : Int) - ((tells bl).length : Int)) = (((tells (orB bl bm)).length - (tells bl).length : Nat) : Int) := by
    rw [wid (by omega) (by omega)]
    omega
  rw [e]
  exact k s' D (sC2.more fD)
theorem cloneK {t : Sl} (h : Sym H0 S H L) (hr : Rd flK 2 H t bl) (hl : bl.length ≤ 1000000) (kk : ∀ s' H', Sym H0 S H' (arr flK 70 2 s' bl :: L) → K (.slice s'.a s'.n s'.c) H') :
    CallF Tryd.prog 46 #[.slice t.a t.n t.c] H K Z := by
  refine V46_ok ?_
  unfold V46
  refine ⟨fun hn => ?_, fun hs => ?_⟩
  · have hn' : t.a = none := by simpa using hn
    have hx : bl = [] := by
      cases bl with
      | nil => rfl
      | cons x l =>
        obtain ⟨ad, ha, _⟩ := hr.el 0 x 0 _ rfl rfl
        rw [hn'] at ha
        cases ha
    subst hx
    exact kk ⟨none, 0, 0⟩ H (h.nilrow flK 70 2)
  · intro b A hA
    have s0 : Sym H0 S A (arr flK 70 2 ⟨some ⟨b, 0, none⟩, 0, 0⟩ [] :: L) := h.lit (l := ([] : List Bk)) FlK (by decide) hA rfl
    refine s0.appR (k := 0) tyK FlK (by decide) rfl (hr.more hA.fr) (by show (0 + bl.length) * 16 ≤ _; omega) fun ap B hap s1 => ?_
    exact kk ap B s1
theorem Sym.mid {a : It} {X : List It} (h : Sym H0 S H (a :: (X ++ R))) : Sym H0 S H (X ++ a :: R) := h.perm List.perm_middle.symm
theorem Sym.unmid {a : It} {X : List It} (h : Sym H0 S H (X ++ a :: R)) : Sym H0 S H (X ++ R) := (h.perm List.perm_middle).drop
/-- what a yield does, number by number: 'P l X': its things are X, and l is still to come -/
def YV (H0 : Hp) (yield : Value) (Z : List PanicEntry → Hp → Prop) (P : List Nat → List It → Prop) (Fin : List It → Prop) : Prop :=
  ∀ (n : Nat) (l : List Nat) (X R : List It) (A : Hp) (K' : Value → Hp → Prop), P (n :: l) X → Sym H0 no A (X ++ R) → (∀ X' B, P l X' → Sym H0 no B (X' ++ R) → K' (.bool true) B) →
    (∀ X' B, Fin X' → Sym H0 no B (X' ++ R) → K' (.bool false) B) → callV Tryd.prog yield [.int .i64 (n : Int)] A K' Z
theorem beach_ok {yield : Value} {P : List Nat → List It → Prop} {Fin : List It → Prop} {x : Bk} {rest : List Nat} {X : List It} (hy : YV H0 yield Z P Fin) (ht : TabH Tryd.prog H0 "math/bits.deBruijn64tab" .u8 tabDb)
    (h1 : x.1 ≤ 4194304) (h2 : x.2 < 2 ^ 64) (hP : P (tell x ++ rest) X) (h : Sym H0 no H (X ++ R))
    (k1 : ∀ X' A, P rest X' → Sym H0 no A (X' ++ R) → K (.bool true) A) (k2 : ∀ X' A, Fin X' → Sym H0 no A (X' ++ R) → K (.bool false) A) :
    CallF Tryd.prog 47 #[bkV x.1 x.2, yield] H K Z := by
  refine V47_ok ?_
  unfold V47
  intro bB A hA
  have sA := Sym.mid (h.newb (cs := [.int .i64 (x.1 : Int), .int .u64 (x.2 : Int)]) hA)
  have ld : ∀ {B : Hp} {X : List It} (i : Nat), Sym H0 no B (X ++ blk bB [.int .i64 (x.1 : Int), .int .u64 (x.2 : Int)] 70 :: R) → hcell B ⟨bB, i, none⟩ = [Value.int .i64 (x.1 : Int), .int .u64 (x.2 : Int)][i]? := fun i s =>
    Blk.ld (s.ok (blk bB [.int .i64 (x.1 : Int), .int .u64 (x.2 : Int)] 70) (List.mem_append.2 (.inr List.mem_cons_self))) i
  refine ⟨_, ld 1 sA, fun left B m => ∃ (y : Nat) (X : List It), left = (y : Int) ∧ y < 2 ^ 64 ∧ m = y ∧ P (bitsL 64 (x.1 * 64) y ++ rest) X ∧ Sym H0 no B (X ++ blk bB [.int .i64 (x.1 : Int), .int .u64 (x.2 : Int)] 70 :: R), ⟨_, x.2, X, rfl, h2, rfl, hP, sA⟩, ?_⟩
  rintro left B m ⟨y, X, rfl, hy2, hm, hP, sB⟩ scr
  subst m
  refine ⟨fun hne => ?_, fun heq => ?_⟩
  · have hy0 : y ≠ 0 := by
      have : ¬ (y : Int) = 0 := by simpa using hne
      omega
    rw [bitsL_step hy0 hy2, List.cons_append] at hP
    refine ⟨_, ld 0 sB, tz_ok hy2 (ht.more sB.frno) ⟨_, rfl, ld 0 sB, ?_⟩⟩
    have hc : Lib.ctz 64 y ≤ 64 := by
      unfold Lib.ctz
      rw [if_neg hy0]
      obtain ⟨_, _, h⟩ := Lib.ctzFrom_spec 64 y (by omega) hy2
      omega
    have e : w64 (w64 ((x.1 : Int) * 64) + ((Lib.ctz 64 y : Nat) : Int)) = ((x.1 * 64 + Lib.ctz 64 y : Nat) : Int) := by
      rw [wid (x := (x.1 : Int) * 64) (by omega) (by omega), wid (by omega) (by omega)]
      omega
    rw [e]
    have e2 : bitAnd .u64 (y : Int) (IntKind.wrap .u64 ((y : Int) - 1)) = ((y &&& (y - 1) : Nat) : Int) := by
      have : ((y : Int) - 1) = ((y - 1 : Nat) : Int) := by omega
      rw [this, wrapN (by omega), bAnd hy2 (by omega)]
    refine hy _ _ X _ B _ hP sB (fun X' C hP' sC => ⟨true, rfl, (fun h => by cases h), fun _ => ?_⟩) (fun X' C hF sC => ⟨false, rfl, fun _ => k2 X' C hF (Sym.unmid sC), (fun h => by cases h)⟩)
    rw [e2]
    exact ⟨y &&& (y - 1), and_less hy0, _, X', rfl, Nat.lt_of_le_of_lt Nat.and_le_left hy2, rfl, hP', sC⟩
  · have hy0 : y = 0 := by
      have : (y : Int) = 0 := by simpa using heq
      omega
    subst hy0
    rw [bitsL_zero, List.nil_append] at hP
    exact k1 X B hP (Sym.unmid sB)
theorem each1_ok {yield : Value} {P : List Nat → List It → Prop} {Fin : List It → Prop} {X : List It} {cap : Addr} (hy : YV H0 yield Z P Fin) (ht : TabH Tryd.prog H0 "math/bits.deBruijn64tab" .u8 tabDb)
    (w : Wf bl) (hl : (tells bl).length ≤ 1000000) (hp : HasS H p bl) (hP : P (tells bl) X) (h : Sym H0 no H (X ++ R)) (hc : hcell H cap = some (.pointer (some p)))
    (k1 : ∀ X' A, P [] X' → Sym H0 no A (X' ++ R) → K (.tuple #[]) A) (k2 : ∀ X' A, Fin X' → Sym H0 no A (X' ++ R) → K (.tuple #[]) A) :
    CallF Tryd.prog 45 #[yield, .pointer (some cap)] H K Z := by
  refine V45_ok ?_
  unfold V45
  have hbl := len_tells w
  obtain ⟨s, g1, g2⟩ := hp
  refine ⟨_, hc, list_ok g1 ⟨s, rfl, cloneK h g2 (by omega) fun y A sA => ⟨y, rfl, ?_⟩⟩⟩
  refine ⟨fun t B m => ∃ (j : Nat) (X : List It), t = (j : Int) ∧ j ≤ bl.length ∧ m = bl.length - j ∧ P (tells (bl.drop j)) X ∧ Sym H0 no B (X ++ arr flK 70 2 y bl :: R), ⟨_, 0, X, rfl, Nat.zero_le _, rfl, hP, Sym.mid sA⟩, ?_⟩
  rintro t B m ⟨j, X, rfl, hj, rfl, hP, sB⟩ scr
  have hr : Rd flK 2 B y bl := RowN.rd FlK (by decide) (show RowN flK 70 2 B y bl from sB.ok (arr flK 70 2 y bl) (List.mem_append.2 (.inr List.mem_cons_self)))
  have hn := hr.len
  refine ⟨fun hlt => ?_, fun hge => ?_⟩
  · have hj' : j < bl.length := by have := dlt hlt; omega
    have hx : bl[j]? = some bl[j] := List.getElem?_eq_getElem hj'
    have hd : bl.drop j = bl[j] :: bl.drop (j + 1) := List.drop_eq_getElem_cons hj'
    generalize bl[j] = x at hx hd
    have hxo := w.ok x (List.mem_of_getElem? hx)
    have et : tells (bl.drop j) = tell x ++ tells (bl.drop (j + 1)) := by rw [hd]; unfold tells; rw [List.flatMap_cons]
    rw [et] at hP
    refine ixK hr hx fun ad e1 e2 => ⟨_, _, ⟨e1, e2, trivial⟩, ?_⟩
    intro bB C hC
    have sC := sB.newb (cs := [.int .i64 0, .int .u64 0]) hC
    refine sC.stbs (k := 0) (i := 0) (vs := [.int .i64 (x.1 : Int), .int .u64 (x.2 : Int)]) rfl (by simp) two2 fun D sD => ?_
    refine ⟨_, _, ⟨sD.ld (k := 0) rfl 0, sD.ld (k := 0) rfl 1, trivial⟩, ?_⟩
    have sD' : Sym H0 no D (X ++ arr flK 70 2 y bl :: R) := sD.drop
    refine beach_ok hy ht hxo.2.2 hxo.2.1 hP sD' (fun X' E hP' sE => ⟨true, rfl, (fun h => by cases h), fun _ => ⟨_, (by omega : bl.length - (j + 1) < _), j + 1, X', wi (by omega), hj', rfl, hP', sE⟩⟩)
      (fun X' E hF sE => ⟨false, rfl, fun _ => k2 X' E hF (Sym.unmid sE), (fun h => by cases h)⟩)
  · have hj' : bl.length ≤ j := by have := dge hge; omega
    have : bl.drop j = [] := List.drop_of_length_le hj'
    rw [this] at hP
    exact k1 X B hP (Sym.unmid sB)
theorem okE1 : fnOk Tryd.prog 45 = true := by kernel_rfl
theorem each_ok (k : ∀ bS H', Newb H (.cells #[.pointer (some p)] 23) bS H' → K (.func (.func 45) #[] #[.pointer (some ⟨bS, 0, none⟩)]) H') : CallF Tryd.prog 23 #[.pointer (some p)] H K Z := by
  refine V23_ok ?_
  unfold V23
  exact k
theorem okLi1 : fnOk Tryd.prog 42 = true := by kernel_rfl
theorem tyI : TyS Tryd.prog 28 3 1 8 (.int .i64 0) := ⟨by kernel_rfl, by kernel_rfl, rfl, by decide⟩
theorem llist_ok (w : Wf bl) (hl : (tells bl).length < 5000) (hp : HasS H p bl) (ht : TabH Tryd.prog H "math/bits.deBruijn64tab" .u8 tabDb)
    (k : ∀ s' H', Fr no H H' → Rd flN 1 H' s' (tells bl) → K (.slice s'.a s'.n s'.c) H') : CallF Tryd.prog 18 #[.pointer (some p)] H K Z := by
  refine V18_ok ?_
  unfold V18
  intro bL A hA
  have sA : Sym H no A [blk bL [.slice none 0 0] 28, arr flN 3 1 ⟨none, 0, 0⟩ []] := (((Sym.start H).newb (cs := [.slice none 0 0]) hA).nilrow flN 3 1).swap
  refine each_ok fun bS B hB => ⟨_, rfl, ?_⟩
  have sB := sA.newb (cs := [.pointer (some p)]) hB
  unfold callV
  simp only [okE1, if_true]
  refine each1_ok (H0 := H) (R := [blk bS [.pointer (some p)] 23]) (X := [blk bL [.slice none 0 0] 28, arr flN 3 1 ⟨none, 0, 0⟩ []])
    (P := fun l X => ∃ (so : Sl) (done : List Nat), done ++ l = tells bl ∧ X = [blk bL [.slice so.a so.n so.c] 28, arr flN 3 1 so done]) (Fin := fun _ => False) ?_ ht w (by omega) (hp.more sB.frno) ⟨⟨none, 0, 0⟩, [], rfl, rfl⟩ (Sym.mid (X := [_, _]) sB) (sB.ld (k := 0) rfl 0) ?_ (fun _ _ h => h.elim)
  · rintro n l X R A' K' ⟨so, done, ed, rfl⟩ s1 kk _
    unfold callV
    simp only [okLi1, if_true]
    refine V42_ok ?_
    unfold V42
    refine ⟨so, s1.ld (k := 0) rfl 0, ?_⟩
    intro b C hC
    have hso : so.n = done.length := RowN.len FlN (by decide) (show RowN flN 3 1 A' so done from s1.get (k := 1) rfl)
    have hdl : done.length + 1 ≤ (tells bl).length := by rw [← ed, List.length_append, List.length_cons]; omega
    refine s1.app1 (k := 1) (x := n) tyI FlN (by decide) hC rfl (by omega) fun ap D hap s2 => ?_
    refine s2.stb (k := 0) (i := 0) rfl (by simp) rfl fun E s3 => ?_
    refine ⟨ap, s3.ld (k := 0) rfl 0, ?_⟩
    have e : decide ((ap.n : Int) < 5000) = true := decide_eq_true (by omega)
    rw [e]
    exact kk _ E ⟨ap, done ++ [n], by rw [List.append_assoc]; exact ed, rfl⟩ s3
  · rintro X A' ⟨so, done, ed, rfl⟩ s1
    rw [List.append_nil] at ed
    refine ⟨rfl, so, s1.ld (k := 0) rfl 0, ?_⟩
    have hr := s1.rd (k := 1) FlN (by decide) rfl
    rw [ed] at hr
    exact k so A' s1.frno hr
end
end Go.Proofs.YtigbdoicgdmliaaDoor.C04

