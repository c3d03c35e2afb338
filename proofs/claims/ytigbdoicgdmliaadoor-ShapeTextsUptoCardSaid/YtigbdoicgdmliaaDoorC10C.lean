/- shape: the cells of a type, laid one by one. -/
import Derived.Test.YtigbdoicgdmliaaDoorC10B
set_option linter.unusedVariables false
set_option linter.unusedSimpArgs false
-- tTy: 51
-- tMk: 64
-- tMks: 56
-- tSts: 55
-- tFn: 97
-- bLen: 57
-- cells: 31
-- cells1: 55
-- size: 32
namespace Go.Proofs.YtigbdoicgdmliaaDoor.C10
open Go Go.V Go.Proofs Go.Proofs.YtigbdoicgdmliaaDoor.N10 Go.Proofs.YtigbdoicgdmliaaDoor.P10 Go.Proofs.YtigbdoicgdmliaaDoor.C10D Go.Proofs.YtigbdoicgdmliaaDoor.BldI
attribute [local irreducible] Cvt ExtF CallF hrun App MkS callV
theorem tyM : TyS Tryd.prog 56 64 2 24 (.agg #[.int .i64 0, .string ⟨#[]⟩]) := ⟨by kernel_rfl, by kernel_rfl, rfl, by decide⟩
abbrev mks (l : List StD) (f : Nat) (t : TyD) : List (Nat × L8) := marksOf Lib.itoa l f t
def mkOff (o : Nat) (m : Nat × L8) : Mk := (((m.1 + o : Nat) : Int), m.2)
theorem offM_snoc {α : Type} {g : α → List (Nat × L8)} {w : α → Nat} {x : α} : ∀ {xs : List α} {o : Nat}, offM g w (xs ++ [x]) o = offM g w xs o ++ (g x).map fun y => (y.1 + (o + (xs.map w).sum), y.2)
  | [], o => by simp [offM]
  | y :: xs, o => by
    rw [List.cons_append, offM, offM_snoc, offM, List.map_cons, List.sum_cons, List.append_assoc]
    congr 2
    refine List.map_congr_left fun z _ => ?_
    congr 1
    omega
theorem marks_rec {l : List StD} {f : Nat} {nm : L8} {n : Int} {kids : List TyD} {x : StD} (h : ofS l nm = some x) : mks l (f + 1) (.mk 3 nm n kids) = (0, nm) :: offM (fun x : Fld => mks l f x.2) (fun x => (kindsOf l f x.2).length) x.fields 0 := by
  conv => lhs; unfold mks marksOf
  rw [if_neg (by decide), if_pos rfl, fieldsS_some h]
theorem marks_row {l : List StD} {f : Nat} {nm : L8} {n : Int} {t : TyD} : mks l (f + 1) (.mk 4 nm n [t]) = (0, tag t) :: mks l f t := by
  conv => lhs; unfold mks marksOf
  rw [if_neg (by decide), if_neg (by decide)]
theorem marks_leaf {l : List StD} {f : Nat} {k : Int} {nm : L8} {n : Int} {kids : List TyD} (h : k = 1 ∨ k = 2) : mks l (f + 1) (.mk k nm n kids) = [] := by
  unfold mks marksOf
  rw [if_pos h]
theorem kinds_rec {l : List StD} {f : Nat} {nm : L8} {n : Int} {kids : List TyD} {x : StD} (h : ofS l nm = some x) : kindsOf l (f + 1) (.mk 3 nm n kids) = x.fields.flatMap fun x => kindsOf l f x.2 := by
  conv => lhs; unfold kindsOf
  rw [if_neg (by decide), if_neg (by decide), if_pos rfl, fieldsS_some h]
theorem kinds_row {l : List StD} {f : Nat} {nm : L8} {n : Int} {t : TyD} : kindsOf l (f + 1) (.mk 4 nm n [t]) = kindsOf l f t := by
  conv => lhs; unfold kindsOf
  rw [if_neg (by decide), if_neg (by decide), if_neg (by decide)]
theorem offM_sum {α : Type} {g : α → List (Nat × L8)} {w : α → Nat} : ∀ {xs : List α} {o : Nat}, (offM g w xs o).length = (xs.map fun x => (g x).length).sum
  | [], o => rfl
  | x :: xs, o => by rw [offM, List.length_append, List.length_map, offM_sum, List.map_cons, List.sum_cons]
theorem offM_len {α : Type} {g : α → List (Nat × L8)} {w : α → Nat} {B : Nat} : ∀ {xs : List α} {o : Nat}, (∀ x ∈ xs, (g x).length ≤ B) → (offM g w xs o).length ≤ xs.length * B
  | [], o, _ => by simp [offM]
  | x :: xs, o, h => by
    have h1 := h x List.mem_cons_self
    have h2 := offM_len (w := w) (xs := xs) (o := o + w x) fun y hy => h y (List.mem_cons_of_mem _ hy)
    rw [offM, List.length_append, List.length_map, List.length_cons, Nat.succ_mul]
    omega
theorem marks_le {l : List StD} {f : Nat} {t : TyD} (h : Gd l f t) : (mks l f t).length ≤ 9 ^ f := by
  induction h with
  | leaf h => rw [marks_leaf h]; exact Nat.zero_le _
  | row h1 h2 h ih =>
    rename_i f nm n t
    rw [marks_row, List.length_cons, Nat.pow_succ]
    have : 1 ≤ 9 ^ f := Nat.one_le_pow _ _ (by decide)
    omega
  | rcd hs h0 h8 h ih =>
    rename_i f nm n kids s
    rw [marks_rec hs, List.length_cons, Nat.pow_succ]
    have : 1 ≤ 9 ^ f := Nat.one_le_pow _ _ (by decide)
    have h3 := offM_len (w := fun x : Fld => (kindsOf l f x.2).length) (o := 0) fun x hx => ih x hx
    have h4 : s.fields.length * 9 ^ f ≤ 8 * 9 ^ f := Nat.mul_le_mul_right _ h8
    omega
theorem kinds_le {l : List StD} {f : Nat} {t : TyD} (h : Gd l f t) : (kindsOf l f t).length ≤ 16 ^ f := by
  rw [kinds_len h]
  exact (room_le h).1
section
variable {H0 H : Hp} {S : Nat → Prop} {R : List It} {K : Value → Hp → Prop} {Z : List PanicEntry → Hp → Prop} {s : Sl} {l : List StD}
theorem len_ok {L : List It} {k b : Nat} {cs : List Value} {xs : L8} (h : Sym H0 S H L) (hk : L[k]? = some (bldI b cs xs)) (kk : K (.int .i64 (xs.length : Int)) H) : CallF Tryd.prog 57 #[.pointer (some ⟨b, 0, none⟩)] H K Z := by
  refine V57_ok ?_
  unfold V57
  have hb : Bld.BldS H b 0 _ cs xs := h.get hk
  obtain ⟨s, h1, hr, _⟩ := hb.buf
  have hl := hr.1
  rw [bv_length, Nat.mul_one] at hl
  refine ⟨s, ?_, ?_⟩
  · rw [add_mk, Nat.zero_add, hb.blk.ld]
    exact h1
  · rw [← hl]
    exact kk
theorem Sym.mid {a : It} {X : List It} (h : Sym H0 S H (a :: (X ++ R))) : Sym H0 S H (X ++ a :: R) := h.perm List.perm_middle.symm
theorem Sym.unmid {a : It} {X : List It} (h : Sym H0 S H (X ++ a :: R)) : Sym H0 S H (X ++ R) := (h.perm List.perm_middle).drop
/-- the things that cells are laid in -/
abbrev LL (bK bM bL bY : Nat) (s : Sl) (cs : List Value) (sm : Sl) (ks : L8) (ms : List Mk) : List It :=
  [bldI bK cs ks, blk bM [.slice sm.a sm.n sm.c] 56, arr flM 64 2 sm ms, blk bL [.slice s.a s.n s.c] 55, blk bY [.func (.func 55) #[] #[.pointer (some ⟨bK, 0, none⟩), .pointer (some ⟨bM, 0, none⟩), .pointer (some ⟨bL, 0, none⟩), .pointer (some ⟨bY, 0, none⟩)]] 97]
theorem okC1 : fnOk Tryd.prog 55 = true := by kernel_rfl
theorem lay_ok {bK bM bL bY : Nat} (hl : l.length ≤ 1048576) (hs : RdS H0 s l) (hp : TabH Tryd.prog H0 "internal/strconv.uint64pow10" .u64 Lib.pow10Tab) (hol : OkL l) :
    ∀ (f : Nat) (h : HT) (t : TyD) (R : List It) (cs : List Value) (sm : Sl) (ks : L8) (ms : List Mk) (H : Hp) (K : Value → Hp → Prop), f ≤ 4 → Gd l f t → InT H0 h t → OkT t → Sym H0 no H (LL bK bM bL bY s cs sm ks ms ++ R) →
      ks.length + (kindsOf l f t).length ≤ 1000000 → ms.length + (mks l f t).length ≤ 1000000 →
      (∀ cs' sm' H', Sym H0 no H' (LL bK bM bL bY s cs' sm' (ks ++ kindsOf l f t) (ms ++ (mks l f t).map (mkOff ks.length)) ++ R) → K (.tuple #[]) H') →
      CallF Tryd.prog 55 #[tyV h, .pointer (some ⟨bK, 0, none⟩), .pointer (some ⟨bM, 0, none⟩), .pointer (some ⟨bL, 0, none⟩), .pointer (some ⟨bY, 0, none⟩)] H K Z := by
  intro f
  induction f with
  | zero => intro h t R cs sm ks ms H K _ hg; cases hg
  | succ f ih =>
    intro h t R cs sm ks ms H K hf hg ht ho hS hkl hml k
    refine V55_ok ?_
    unfold V55
    intro bT A hA
    have sA := Sym.mid (X := LL bK bM bL bY s cs sm ks ms) (symTy hS hA)
    refine ⟨_, sA.ld (k := 5) rfl 0, ?_⟩
    cases hg with
    | leaf hk =>
      rename_i kd nm n kids
      have e1 : h.1 = kd := by cases ht; rfl
      rw [marks_leaf hk, List.map_nil, List.append_nil] at k
      rw [e1]
      rcases hk with rfl | rfl
      · refine ⟨fun _ => ?_, (fun hc => by cases hc)⟩
        have ek : kindsOf l (f + 1) (.mk 1 nm n kids) = [105] := by unfold kindsOf; rw [if_pos rfl]
        rw [ek] at k hkl
        exact wbyte (c := 105) sA (k := 0) rfl (by simp only [List.length_cons, List.length_nil] at hkl; omega) fun B cs' sB => ⟨_, rfl, k cs' sm B (Sym.unmid (X := LL bK bM bL bY s cs' sm (ks ++ [105]) ms) sB)⟩
      · refine ⟨(fun hc => by cases hc), fun _ => ⟨fun _ => ?_, (fun hc => by cases hc)⟩⟩
        have ek : kindsOf l (f + 1) (.mk 2 nm n kids) = [112] := by unfold kindsOf; rw [if_neg (by decide), if_pos rfl]
        rw [ek] at k hkl
        exact wbyte (c := 112) sA (k := 0) rfl (by simp only [List.length_cons, List.length_nil] at hkl; omega) fun B cs' sB => ⟨_, rfl, k cs' sm B (Sym.unmid (X := LL bK bM bL bY s cs' sm (ks ++ [112]) ms) sB)⟩
    | row h1 h2 hg =>
      rename_i nm n t
      have e1 : h.1 = 4 ∧ h.2.2.1 = n := by cases ht; exact ⟨rfl, rfl⟩
      have hot : OkT t := by
        cases ho with
        | mk a b c d => exact d t List.mem_cons_self
      rw [kinds_row] at k hkl
      rw [marks_row] at k hml
      rw [List.length_cons] at hml
      rw [e1.1]
      refine ⟨(fun hc => by cases hc), fun _ => ⟨(fun hc => by cases hc), fun _ => ⟨(fun hc => by cases hc), fun _ => ⟨sm, sA.ld (k := 1) rfl 0, h.2.2.2, sA.ld (k := 5) rfl 3, ?_⟩⟩⟩⟩
      have hx : [t][0]? = some t := rfl
      have hfA := sA.frno
      refine ht.kid hx fun ad g hgi h1' h2' => ⟨_, str g.2.1, _, g.2.2.2, ⟨lf hfA h2', lf hfA (h1' 1 _ rfl), lf hfA (h1' 2 _ rfl), lf hfA (h1' 3 _ rfl), trivial⟩, ?_⟩
      refine len_ok sA (k := 0) rfl ⟨_, rfl, ⟨lf hfA h2', lf hfA (h1' 1 _ rfl), lf hfA (h1' 2 _ rfl), lf hfA (h1' 3 _ rfl), trivial⟩, sA.ld (k := 5) rfl 3, sA.ld (k := 1) rfl 0, ?_⟩
      refine tag_ok (hgi.more hfA) hot (hp.more hfA) fun B fB => ⟨_, rfl, ?_⟩
      have sB := sA.more fB
      refine ⟨sB.ld (k := 1) rfl 0, sB.ld (k := 1) rfl 0, ?_⟩
      intro b1 C hC
      refine ⟨(sB.more hC.fr).ld (k := 1) rfl 0, ?_⟩
      have hsm : sm.n = ms.length := RowN.len FlM (by decide) (show RowN flM 64 2 B sm ms from sB.get (k := 2) rfl)
      refine sB.app1 (k := 2) (x := ((ks.length : Int), tag t)) tyM FlM (by decide) hC rfl (by omega) fun ap D hap sD => ?_
      refine sD.stb (k := 1) (i := 0) rfl (by simp) rfl fun E sE => ?_
      refine ⟨_, sE.ld (k := 4) rfl 0, h.2.2.2, sE.ld (k := 5) rfl 3, ?_⟩
      have hfE := sE.frno
      refine ht.kid hx fun ad2 g2 hgi2 h12 h22 => ⟨_, str g2.2.1, _, g2.2.2.2, ⟨lf hfE h22, lf hfE (h12 1 _ rfl), lf hfE (h12 2 _ rfl), lf hfE (h12 3 _ rfl), trivial⟩, ?_⟩
      unfold callV
      simp only [okC1, if_true]
      have sE' : Sym H0 no E (LL bK bM bL bY s cs ap ks (ms ++ [((ks.length : Int), tag t)]) ++ (blk bT (flHT h) 51 :: R)) := sE
      refine ih g2 t (blk bT (flHT h) 51 :: R) cs ap ks (ms ++ [((ks.length : Int), tag t)]) E _ (by omega) hg hgi2 hot sE' hkl (by rw [List.length_append]; simp only [List.length_cons, List.length_nil]; omega) fun cs' sm' F sF => ⟨rfl, ?_⟩
      have sF2 := Sym.unmid (X := LL bK bM bL bY s cs' sm' _ _) sF
      rw [List.append_assoc] at sF2
      refine k cs' sm' F ?_
      rw [List.map_cons]
      have em : mkOff ks.length (0, tag t) = ((ks.length : Int), tag t) := by unfold mkOff; simp
      rw [em]
      exact sF2
    | rcd hs' h0 h8 hg =>
      rename_i nm n kids x
      have e1 : h.1 = 3 ∧ h.2.1 = nm := by cases ht; exact ⟨rfl, rfl⟩
      have hox : OkSt x := hol.2 x (List.mem_of_find?_eq_some hs')
      rw [kinds_rec hs'] at k hkl
      rw [marks_rec hs'] at k hml
      rw [List.length_cons] at hml
      rw [e1.1]
      refine ⟨(fun hc => by cases hc), fun _ => ⟨(fun hc => by cases hc), fun _ => ⟨fun _ => ⟨sm, sA.ld (k := 1) rfl 0, _, sA.ld (k := 5) rfl 1, ?_⟩, (fun hc => by cases hc)⟩⟩⟩
      rw [e1.2]
      refine len_ok sA (k := 0) rfl ⟨_, rfl, ?_, sA.ld (k := 1) rfl 0, sA.ld (k := 1) rfl 0, ?_⟩
      · rw [← e1.2]; exact sA.ld (k := 5) rfl 1
      intro b1 C hC
      refine ⟨(sA.more hC.fr).ld (k := 1) rfl 0, ?_⟩
      have hsm : sm.n = ms.length := RowN.len FlM (by decide) (show RowN flM 64 2 A sm ms from sA.get (k := 2) rfl)
      refine sA.app1 (k := 2) (x := ((ks.length : Int), nm)) tyM FlM (by decide) hC rfl (by omega) fun ap D hap sD => ?_
      refine sD.stb (k := 1) (i := 0) rfl (by simp) rfl fun E sE => ?_
      refine ⟨s, sE.ld (k := 3) rfl 0, _, sE.ld (k := 5) rfl 1, ?_⟩
      rw [e1.2]
      refine fieldsS_okB hl sE.frno hs fun y F fF hy => ⟨y, rfl, ?_⟩
      rw [fieldsS_some hs'] at hy
      have hyn := hy.len
      have sF := sE.more fF
      refine ⟨fun u G m => ∃ (j : Nat) (cs' : List Value) (sm' : Sl), u = (j : Int) ∧ j ≤ x.fields.length ∧ m = x.fields.length - j ∧
        Sym H0 no G (LL bK bM bL bY s cs' sm' (ks ++ (x.fields.take j).flatMap fun x => kindsOf l f x.2) (ms ++ ((ks.length : Int), nm) :: (offM (fun x : Fld => mks l f x.2) (fun x => (kindsOf l f x.2).length) (x.fields.take j) 0).map (mkOff ks.length)) ++ (blk bT (flHT h) 51 :: R)),
        ⟨_, 0, cs, ap, rfl, Nat.zero_le _, rfl, ?_⟩, ?_⟩
      · have e : ks ++ (x.fields.take 0).flatMap (fun x => kindsOf l f x.2) = ks := by simp
        rw [e]
        exact sF
      rintro u G m ⟨j, cs', sm', rfl, hj, rfl, sG⟩ scr
      refine ⟨fun hlt => ?_, fun hge => ?_⟩
      · have hj' : j < x.fields.length := by have := dlt hlt; omega
        have hx : x.fields[j]? = some x.fields[j] := List.getElem?_eq_getElem hj'
        have htk : x.fields.take (j + 1) = x.fields.take j ++ [x.fields[j]] := List.take_succ_eq_append_getElem hj'
        have hdr : x.fields = x.fields.take j ++ x.fields[j] :: x.fields.drop (j + 1) := by rw [← List.drop_eq_getElem_cons hj', List.take_append_drop]
        generalize x.fields[j] = z at hx htk hdr
        have hz := hg z (List.mem_of_getElem? hx)
        have hoz := hox.f z (List.mem_of_getElem? hx)
        have fG := sG.frno
        refine RdX.at FlHF (by decide) hy hx fun ad q hq h1 h2 => ⟨str q.1, _, str q.2.2.1, _, q.2.2.2.2, ⟨lf fG h2, lf fG (h1 1 _ rfl), lf fG (h1 2 _ rfl), lf fG (h1 3 _ rfl), lf fG (h1 4 _ rfl), trivial⟩, ?_⟩
        intro bF I hI
        have sI := sG.newb (cs := [.string ⟨#[]⟩, .int .i64 0, .string ⟨#[]⟩, .int .i64 0, .slice none 0 0]) hI
        refine sI.stbs (k := 0) (i := 0) (vs := flHF q) rfl (by simp [flHF, flHT]) (FlHF.one q) fun J sJ => ?_
        refine ⟨_, sJ.ld (k := 5) rfl 0, _, str q.2.2.1, _, q.2.2.2.2, ⟨sJ.ld (k := 0) rfl 1, sJ.ld (k := 0) rfl 2, sJ.ld (k := 0) rfl 3, sJ.ld (k := 0) rfl 4, trivial⟩, ?_⟩
        unfold callV
        simp only [okC1, if_true]
        have hkz : ((x.fields.take j).flatMap fun x => kindsOf l f x.2).length + (kindsOf l f z.2).length ≤ (x.fields.flatMap fun x => kindsOf l f x.2).length := by
          conv => rhs; rw [hdr]
          rw [List.flatMap_append, List.flatMap_cons, List.length_append, List.length_append]
          omega
        have hmz : (offM (fun x : Fld => mks l f x.2) (fun x => (kindsOf l f x.2).length) (x.fields.take j) 0).length + (mks l f z.2).length ≤ (offM (fun x : Fld => mks l f x.2) (fun x => (kindsOf l f x.2).length) x.fields 0).length := by
          rw [offM_sum, offM_sum]
          conv => rhs; rw [hdr]
          rw [List.map_append, List.map_cons, List.sum_append, List.sum_cons]
          omega
        have sJ' := Sym.mid (X := LL bK bM bL bY s cs' sm' (ks ++ (x.fields.take j).flatMap fun x => kindsOf l f x.2) (ms ++ ((ks.length : Int), nm) :: (offM (fun x : Fld => mks l f x.2) (fun x => (kindsOf l f x.2).length) (x.fields.take j) 0).map (mkOff ks.length))) sJ
        refine ih q.2 z.2 _ cs' sm' _ _ J _ (by omega) hz hq.2 hoz.2 sJ' (by rw [List.length_append]; omega) (by rw [List.length_append, List.length_cons, List.length_map]; omega) fun cs2 sm2 M sM => ⟨rfl, x.fields.length - (j + 1), by omega, j + 1, cs2, sm2, wi (by omega), hj', rfl, ?_⟩
        have sM2 := Sym.unmid (X := LL bK bM bL bY s cs2 sm2 _ _) sM
        rw [List.append_assoc, List.append_assoc, List.cons_append] at sM2
        rw [htk, List.flatMap_append, List.flatMap_singleton, offM_snoc, List.map_append, List.map_map]
        have em : (mks l f z.2).map (mkOff (ks ++ (x.fields.take j).flatMap fun x => kindsOf l f x.2).length) = (mks l f z.2).map (mkOff ks.length ∘ fun y => (y.1 + (0 + ((x.fields.take j).map fun x => (kindsOf l f x.2).length).sum), y.2)) := by
          refine List.map_congr_left fun y _ => ?_
          unfold mkOff
          simp only [Function.comp]
          rw [List.length_append, List.length_flatMap]
          congr 2
          omega
        rw [em] at sM2
        exact sM2
      · have hj' : x.fields.length ≤ j := by have := dge hge; omega
        rw [List.take_of_length_le hj'] at sG
        refine k cs' sm' G ?_
        rw [List.map_cons]
        have em : mkOff ks.length (0, nm) = ((ks.length : Int), nm) := by unfold mkOff; simp
        rw [em]
        exact Sym.unmid (X := LL bK bM bL bY s cs' sm' _ _) sG
theorem newB {k0 bK bM bL : Nat} : True := trivial
def mkL (m : Nat × L8) : Mk := ((m.1 : Int), m.2)
/-- a type's cells and marks, as they are told -/
theorem cells_ok {h : HT} {t : TyD} (hol : OkL l) (hs : RdS H s l) (ht : InT H h t) (ho : OkT t) (hp : TabH Tryd.prog H "internal/strconv.uint64pow10" .u64 Lib.pow10Tab)
    (kn : ∀ H', Fr no H H' → checkS l t ≠ 0 → K (.tuple #[.string ⟨#[]⟩, .slice none 0 0, .int .i64 (checkS l t)]) H')
    (ks : ∀ sm H', Fr no H H' → checkS l t = 0 → Rd flM 2 H' sm ((mks l 4 t).map mkL) → K (.tuple #[.string (str (kindsOf l 4 t)), .slice sm.a sm.n sm.c, .int .i64 0]) H') :
    CallF Tryd.prog 31 #[.slice s.a s.n s.c, tyV h] H K Z := by
  refine V31_ok ?_
  unfold V31
  intro bL A hA bT B hB
  have sB := symTy ((Sym.start H).newb (cs := [.slice s.a s.n s.c]) hA) hB
  refine ⟨s, sB.ld (k := 1) rfl 0, _, str h.2.1, _, h.2.2.2, ⟨sB.ld (k := 0) rfl 0, sB.ld (k := 0) rfl 1, sB.ld (k := 0) rfl 2, sB.ld (k := 0) rfl 3, trivial⟩, ?_⟩
  refine check_ok hol.1 (RdS.more hs sB.frno) (ht.more sB.frno) fun C fC => ⟨_, rfl, fun hne => ?_, fun heq => ?_⟩
  · have : checkS l t ≠ 0 := by simpa using hne
    exact kn C (sB.frno.trans fC) this
  have hz : checkS l t = 0 := by simpa using heq
  obtain ⟨hg, h64, _⟩ := check_good hz
  have hml := marks_le hg
  have hkl := kinds_len hg
  have sC := sB.more fC
  intro bK D hD bM E hE bY F hF
  have sF := (((new_bld sC hD).newb (cs := [.slice none 0 0]) hE).nilrow flM 64 2).newb (cs := [.nilFunc]) hF
  refine sF.stb (k := 0) (i := 0) rfl (by simp) rfl fun G sG => ?_
  refine ⟨_, sG.ld (k := 0) rfl 0, _, str h.2.1, _, h.2.2.2, ⟨sG.ld (k := 4) rfl 0, sG.ld (k := 4) rfl 1, sG.ld (k := 4) rfl 2, sG.ld (k := 4) rfl 3, trivial⟩, ?_⟩
  unfold callV
  simp only [okC1, if_true]
  have h9 : (9 : Nat) ^ 4 = 6561 := by decide
  have sG' : Sym H no G (LL bK bM bL bY s [.pointer none, .slice none 0 0] ⟨none, 0, 0⟩ [] [] ++ [blk bT (flHT h) 51]) := sG.re [3, 2, 1, 5, 0, 4] (by decide)
  refine lay_ok hol.1 hs hp hol 4 h t _ _ _ [] [] G _ (by decide) hg ht ho sG' (by simp only [List.length_nil]; omega) (by simp only [List.length_nil]; omega) fun cs' sm' I sI => ⟨rfl, sm', sI.ld (k := 1) rfl 0, ?_⟩
  rw [List.nil_append, List.nil_append] at sI
  refine bstr sI (k := 0) rfl (by omega) fun J sJ => ⟨_, rfl, sJ.ld (k := 1) rfl 0, ?_⟩
  have hr := sJ.rd (k := 2) FlM (by decide) rfl
  have em : (mks l 4 t).map (mkOff ([] : L8).length) = (mks l 4 t).map mkL := List.map_congr_left fun y _ => rfl
  rw [em] at hr
  exact ks sm' J sJ.frno hz hr
theorem size_ok {h : HT} {t : TyD} (hol : OkL l) (hs : RdS H s l) (ht : InT H h t)
    (k : ∀ H', Fr no H H' → K (.tuple #[.int .i64 (if checkS l t ≠ 0 then 0 else ((room l 4 t).2 : Int)), .int .i64 (checkS l t)]) H') : CallF Tryd.prog 32 #[.slice s.a s.n s.c, tyV h] H K Z := by
  refine V32_ok ?_
  unfold V32
  intro bT A hA
  have sA := symTy (Sym.start H) hA
  refine ⟨_, str h.2.1, _, h.2.2.2, ⟨sA.ld (k := 0) rfl 0, sA.ld (k := 0) rfl 1, sA.ld (k := 0) rfl 2, sA.ld (k := 0) rfl 3, trivial⟩, ?_⟩
  refine check_ok hol.1 (RdS.more hs sA.frno) (ht.more sA.frno) fun C fC => ⟨_, rfl, fun hne => ?_, fun heq => ?_⟩
  · have : checkS l t ≠ 0 := by simpa using hne
    rw [if_pos this] at k
    exact k C (sA.frno.trans fC)
  · have hz : checkS l t = 0 := by simpa using heq
    obtain ⟨hg, h64, _⟩ := check_good hz
    have sC := sA.more fC
    refine ⟨_, str h.2.1, _, h.2.2.2, ⟨sC.ld (k := 0) rfl 0, sC.ld (k := 0) rfl 1, sC.ld (k := 0) rfl 2, sC.ld (k := 0) rfl 3, trivial⟩, ?_⟩
    rw [hz, if_neg (fun h => h rfl)] at k
    exact room_ok hol.1 4 h t C _ (by decide) hg (RdS.more hs sC.frno) (ht.more sC.frno) fun D fD => ⟨_, _, rfl, k D (sC.frno.trans fD)⟩
end
end Go.Proofs.YtigbdoicgdmliaaDoor.C10

