/- shape: going down to a place. -/
import Derived.Test.YtigbdoicgdmliaaDoorC10C
set_option linter.unusedVariables false
set_option linter.unusedSimpArgs false
-- tTy: 51
-- tStr: 9
-- tSt1: 108
-- tSts1: 103
-- sTag: 28
-- down: 60
-- cell: 33
-- begins: 34
-- begins1: 62
-- ixB: 74
-- conB: 61
namespace Go.Proofs.YtigbdoicgdmliaaDoor.C10
open Go Go.V Go.Proofs Go.Proofs.YtigbdoicgdmliaaDoor.N10 Go.Proofs.YtigbdoicgdmliaaDoor.P10 Go.Proofs.YtigbdoicgdmliaaDoor.C10D Go.Proofs.YtigbdoicgdmliaaDoor.BldI
attribute [local irreducible] Cvt ExtF CallF hrun App MkS callV
def flB3 (x : St) : List Value := [.string (str x.1), .int .i64 x.2.1, .int .i64 x.2.2]
theorem FlB3 : Fl flB3 3 := ⟨fun _ => rfl, fun x v hv => by
  unfold flB3 at hv
  simp only [List.mem_cons, List.not_mem_nil, or_false] at hv
  rcases hv with rfl | rfl | rfl <;> rfl⟩
theorem tyB3 : TyS Tryd.prog 103 108 3 32 (.agg #[.string ⟨#[]⟩, .int .i64 0, .int .i64 0]) := ⟨by kernel_rfl, by kernel_rfl, rfl, by decide⟩
abbrev dwn (l : List StD) (f : Nat) (t : TyD) (a : Nat) : Nat × List St := down Lib.itoa l f t a
theorem dwn_leaf {l : List StD} {f : Nat} {k : Int} {nm : L8} {n : Int} {kids : List TyD} {a : Nat} (h : k = 1 ∨ k = 2) : dwn l (f + 1) (.mk k nm n kids) a = (0, []) := by
  unfold dwn P10.down
  rw [if_neg (by omega), if_neg (by omega)]
theorem dwn_row {l : List StD} {f : Nat} {nm : L8} {n : Int} {t : TyD} {a : Nat} : dwn l (f + 1) (.mk 4 nm n [t]) a = ((dwn l f t (a % (room l f t).2)).1, (if a % (room l f t).2 = 0 then [(tag t, ((a / (room l f t).2 : Nat) : Int), n)] else []) ++ (dwn l f t (a % (room l f t).2)).2) := by
  conv => lhs; unfold dwn P10.down
  rw [if_pos rfl]
theorem dwn_rec {l : List StD} {f : Nat} {nm : L8} {n : Int} {kids : List TyD} {a : Nat} {s : StD} {x : Fld} {a' c' : Nat} (h : ofS l nm = some s) (e : pick (fun x : Fld => (room l f x.2).2) (fun x => (room l f x.2).1) s.fields a 0 = some (x, a', c')) :
    dwn l (f + 1) (.mk 3 nm n kids) a = ((dwn l f x.2 a').1 + c', (if a = 0 then [(nm, 0, 0)] else []) ++ (dwn l f x.2 a').2) := by
  conv => lhs; unfold dwn P10.down
  rw [if_neg (by decide), if_pos rfl, fieldsS_some h]
  simp only
  rw [e]
theorem tmodN (a p : Nat) : Int.tmod (a : Int) (p : Int) = ((a % p : Nat) : Int) := by
  rw [Int.tmod_eq_emod_of_nonneg (by omega)]
  exact (Int.natCast_emod a p).symm
theorem tdivN (a p : Nat) (h : a ≤ 1000000) : w64 (Int.tdiv (a : Int) (p : Int)) = ((a / p : Nat) : Int) := by
  rw [Int.tdiv_eq_ediv_of_nonneg (by omega)]
  have e : ((a : Int) / (p : Int)) = ((a / p : Nat) : Int) := (Int.natCast_ediv a p).symm
  rw [e]
  have h1 := Nat.div_le_self a p
  generalize a / p = y at *
  exact wid (by omega) (by omega)
theorem if_len {α : Type} {p : Prop} [Decidable p] {x : α} : (if p then [x] else []).length ≤ 1 := by split <;> simp
theorem dwn_len {l : List StD} {f : Nat} {t : TyD} (h : Gd l f t) : ∀ a, a < (room l f t).2 → (dwn l f t a).2.length ≤ f := by
  induction h with
  | leaf h => intro a _; rw [dwn_leaf h]; exact Nat.zero_le _
  | row h1 h2 h ih =>
    rename_i f nm n t
    intro a _
    rw [dwn_row, List.length_append]
    have h3 := ih _ (Nat.mod_lt a (room_pos h).2)
    have h4 := if_len (p := a % (room l f t).2 = 0) (x := ((tag t, ((a / (room l f t).2 : Nat) : Int), n) : St))
    omega
  | rcd hs h0 h8 h ih =>
    rename_i f nm n kids s
    intro a ha
    unfold room at ha
    rw [if_pos rfl, fieldsS_some hs] at ha
    simp only at ha
    obtain ⟨x, a', c', hx, e, hlt⟩ := pick_some (pl := fun x : Fld => (room l f x.2).2) (cl := fun x => (room l f x.2).1) (c := 0) ha
    rw [dwn_rec hs e, List.length_append]
    have h3 := ih x hx a' hlt
    have h4 := if_len (p := a = 0) (x := ((nm, 0, 0) : St))
    omega
/-- on the way down: within so many levels, at a place of a type -/
def DI (H : Hp) (l : List StD) (t : TyD) (a0 bT f : Nat) (u c : Int) (b : Sl) (E : Hp) : Prop :=
  ∃ (h' : HT) (t' : TyD) (a q : Nat) (bs : List St), u = (a : Int) ∧ c = (q : Int) ∧ q ≤ 600000 * (4 - f) ∧ bs.length ≤ 4 - f ∧ Gd l f t' ∧ InT H h' t' ∧ OkT t' ∧ a < (room l f t').2 ∧
    Sym H no E [blk bT (flHT h') 51, arr flB3 108 3 b bs] ∧ dwn l 4 t a0 = (q + (dwn l f t' a).1, bs ++ (dwn l f t' a).2)
section
variable {H : Hp} {K : Value → Hp → Prop} {Z : List PanicEntry → Hp → Prop} {s : Sl} {l : List StD}
theorem down_ok {h : HT} {t : TyD} {at' : Int} (hol : OkL l) (hs : RdS H s l) (ht : InT H h t) (ho : OkT t) (hp : TabH Tryd.prog H "internal/strconv.uint64pow10" .u64 Lib.pow10Tab)
    (k1 : ∀ H', Fr no H H' → checkS l t ≠ 0 → K (.tuple #[.int .i64 0, .slice none 0 0, .int .i64 (checkS l t)]) H')
    (k2 : ∀ H', Fr no H H' → checkS l t = 0 → ¬ (0 ≤ at' ∧ at' < (room l 4 t).2) → K (.tuple #[.int .i64 0, .slice none 0 0, .int .i64 2]) H')
    (k3 : ∀ sb H', Fr no H H' → checkS l t = 0 → 0 ≤ at' → at' < (room l 4 t).2 → Rd flB3 3 H' sb (dwn l 4 t at'.toNat).2 → K (.tuple #[.int .i64 ((dwn l 4 t at'.toNat).1 : Int), .slice sb.a sb.n sb.c, .int .i64 0]) H') :
    CallF Tryd.prog 60 #[.slice s.a s.n s.c, tyV h, .int .i64 at'] H K Z := by
  refine V60_ok ?_
  unfold V60
  intro bT A hA
  have sA := symTy (Sym.start H) hA
  refine ⟨_, str h.2.1, _, h.2.2.2, ⟨sA.ld (k := 0) rfl 0, sA.ld (k := 0) rfl 1, sA.ld (k := 0) rfl 2, sA.ld (k := 0) rfl 3, trivial⟩, ?_⟩
  refine check_ok hol.1 (RdS.more hs sA.frno) (ht.more sA.frno) fun C fC => ⟨_, rfl, fun hne => ?_, fun heq => ?_⟩
  · have : checkS l t ≠ 0 := by simpa using hne
    exact k1 C (sA.frno.trans fC) this
  have hz : checkS l t = 0 := by simpa using heq
  obtain ⟨hg, h64, h1024⟩ := check_good hz
  have sC := sA.more fC
  refine ⟨fun D => Sym H no D [blk bT (flHT h) 51] ∧ 0 ≤ at' ∧ at' < (room l 4 t).2, ?_, _, str h.2.1, _, h.2.2.2, ⟨sC.ld (k := 0) rfl 0, sC.ld (k := 0) rfl 1, sC.ld (k := 0) rfl 2, sC.ld (k := 0) rfl 3, trivial⟩, ?_⟩
  rotate_left
  · refine room_ok hol.1 4 h t C _ (by decide) hg (RdS.more hs sC.frno) (ht.more sC.frno) fun D fD => ⟨_, _, rfl, fun h1 => ?_, fun h1 => ⟨fun h2 => ?_, fun h2 => ⟨sC.more fD, ?_, ?_⟩⟩⟩
    · have := of_decide_eq_true h1
      exact k2 D (sC.frno.trans fD) hz (by omega)
    · have := of_decide_eq_true h2
      exact k2 D (sC.frno.trans fD) hz (by omega)
    · have := of_decide_eq_false h1; omega
    · have := of_decide_eq_false h2; omega
  rintro D ⟨sD, h0, h1⟩ scr
  obtain ⟨a0, rfl⟩ : ∃ a : Nat, at' = (a : Int) := ⟨at'.toNat, by omega⟩
  rw [Int.toNat_natCast] at k3
  have ha0 : a0 < (room l 4 t).2 := by omega
  refine ⟨fun u c b E m => m ≤ 4 ∧ DI H l t a0 bT m u c b E, ⟨4, Nat.le_refl _, h, t, a0, 0, [], rfl, rfl, by decide, by decide, hg, ht, ho, ha0, (sD.nilrow flB3 108 3).swap, by rw [Nat.zero_add]; rfl⟩, ?_⟩
  rintro u c b E f ⟨hf4, h', t', a, q, bs, rfl, rfl, hq, hbs, hg', ht', ho', ha, sE, ed⟩ scr1
  have fE := sE.frno
  have p16 : ∀ g ≤ 4, (16 : Nat) ^ g ≤ 65536 := fun g hg => Nat.pow_le_pow_right (by decide) hg
  have hrl := room_le hg'
  have hp16 := p16 f hf4
  have hsb : b.n = bs.length := RowN.len FlB3 (by decide) (show RowN flB3 108 3 E b bs from sE.get (k := 1) rfl)
  cases hg' with
  | leaf hk =>
    rename_i f kd nm n kids
    have e1 : h'.1 = kd := by cases ht'; rfl
    rw [dwn_leaf hk] at ed
    refine ⟨fun _ => False, fun _ h => h.elim, _, sE.ld (k := 0) rfl 0, ?_⟩
    rw [e1]
    refine ⟨fun hc => ?_, fun _ => ⟨_, sE.ld (k := 0) rfl 0, ?_⟩⟩
    · have : kd = 3 := beqI.1 hc
      omega
    rw [e1]
    refine ⟨fun hc => ?_, fun _ => ?_⟩
    · have : kd = 4 := beqI.1 hc
      omega
    have hr := sE.rd (k := 1) FlB3 (by decide) rfl
    have := k3 b E fE hz h0 h1 (by rw [ed, List.append_nil]; exact hr)
    rw [ed] at this
    exact this
  | row g1 g2 hg2 =>
    rename_i f nm n t2
    have e1 : h'.1 = 4 ∧ h'.2.2.1 = n := by cases ht'; exact ⟨rfl, rfl⟩
    have hot : OkT t2 := by
      cases ho' with
      | mk a b c d => exact d t2 List.mem_cons_self
    refine ⟨fun F => F = E, ?_, _, sE.ld (k := 0) rfl 0, ?_⟩
    rotate_left
    · rw [e1.1]
      refine ⟨(fun hc => by cases hc), fun _ => ⟨_, sE.ld (k := 0) rfl 0, ?_⟩⟩
      rw [e1.1]
      exact ⟨fun _ => rfl, (fun hc => by cases hc)⟩
    rintro F hF scr2
    subst F
    refine ⟨_, sE.ld (k := 0) rfl 0, ?_⟩
    rw [e1.1]
    refine ⟨fun _ => ⟨h'.2.2.2, sE.ld (k := 0) rfl 3, ?_⟩, (fun hc => by cases hc)⟩
    have hx : [t2][0]? = some t2 := rfl
    have hpos := (room_pos hg2).2
    have hmod := Nat.mod_lt a hpos
    have hr2 := room_le hg2
    have hp2 := p16 f (by omega)
    rw [dwn_row] at ed
    -- the kid is put in its place
    have kidL : ∀ {F : Hp} {b' : Sl} {bs' : List St}, Sym H no F [blk bT (flHT h') 51, arr flB3 108 3 b' bs'] → bs'.length ≤ 4 - f → dwn l 4 t a0 = (q + (dwn l f t2 (a % (room l f t2).2)).1, bs' ++ (dwn l f t2 (a % (room l f t2).2)).2) →
        (∃ x4 : Sl, hcell F ⟨bT, 3, none⟩ = some (.slice x4.a x4.n x4.c) ∧ IxA x4.a x4.n 0 4 fun ad2 => 
        (∃ x_a3 : Int, ∃ x_b3 : ByteArray, ∃ x_c3 : Int, ∃ x_d3 : Sl, (hcell F ad2 = some (.int .i64 x_a3) ∧ hcell F (Addr.add ad2 1) = some (.string x_b3) ∧ hcell F (Addr.add ad2 2) = some (.int .i64 x_c3) ∧ 
        hcell F (Addr.add ad2 3) = some (.slice x_d3.a x_d3.n x_d3.c) ∧ True) ∧ (((room l f t2).2 : Int) ≠ 0 ∧ StL ⟨bT, 0, none⟩ 0 [.int .i64 x_a3, .string x_b3, .int .i64 x_c3, .slice x_d3.a x_d3.n x_d3.c] F fun H10 => 
        (∃ m2, m2 < f + 1 ∧ m2 ≤ 4 ∧ DI H l t a0 bT m2 (Int.tmod (a : Int) ((room l f t2).2 : Int)) (q : Int) b' H10)))) := by
      intro F b' bs' sF hb' e'
      refine ⟨h'.2.2.2, sF.ld (k := 0) rfl 3, ?_⟩
      refine ht'.kid hx fun ad g hgi h1' h2' => ⟨_, str g.2.1, _, g.2.2.2, ⟨lf sF.frno h2', lf sF.frno (h1' 1 _ rfl), lf sF.frno (h1' 2 _ rfl), lf sF.frno (h1' 3 _ rfl), trivial⟩, by omega, ?_⟩
      refine sF.stbs (k := 0) (i := 0) (vs := flHT g) rfl (by simp [flHT]) (FlHT.one g) fun G sG => ?_
      exact ⟨f, by omega, by omega, g, t2, a % (room l f t2).2, q, bs', tmodN _ _, rfl, by omega, hb', hg2, hgi, hot, hmod, sG, e'⟩
    refine ht'.kid hx fun ad g hgi h1' h2' => ⟨_, str g.2.1, _, g.2.2.2, ⟨lf fE h2', lf fE (h1' 1 _ rfl), lf fE (h1' 2 _ rfl), lf fE (h1' 3 _ rfl), trivial⟩, ?_⟩
    refine room_ok hol.1 f g t2 E _ (by omega) hg2 (RdS.more hs fE) (hgi.more fE) fun F fF => ⟨_, _, rfl, by omega, ?_⟩
    have sF := sE.more fF
    rw [tmodN]
    refine ⟨fun h0' => ?_, fun h0' => ?_⟩
    · have hz0 : a % (room l f t2).2 = 0 := by have := beqI.1 h0'; omega
      rw [if_pos hz0] at ed
      refine ⟨h'.2.2.2, sF.ld (k := 0) rfl 3, ?_⟩
      refine ht'.kid hx fun ad1 g1 hgi1 h11 h12 => ⟨_, str g1.2.1, _, g1.2.2.2, ⟨lf sF.frno h12, lf sF.frno (h11 1 _ rfl), lf sF.frno (h11 2 _ rfl), lf sF.frno (h11 3 _ rfl), trivial⟩, by omega, _, sF.ld (k := 0) rfl 2, ?_⟩
      refine tag_ok (hgi1.more sF.frno) hot (hp.more sF.frno) fun G fG => ⟨_, rfl, (sF.more fG).ld (k := 0) rfl 2, ?_⟩
      have sG := sF.more fG
      intro b1 I hI
      rw [tdivN a _ (by omega)] at hI
      refine sG.app1 (k := 1) (x := (tag t2, ((a / (room l f t2).2 : Nat) : Int), h'.2.2.1)) tyB3 FlB3 (by decide) hI rfl (by omega) fun ap J hap sJ => ?_
      rw [← tmodN]
      refine kidL sJ (by rw [List.length_append]; simp only [List.length_cons, List.length_nil]; omega) ?_
      rw [ed, e1.2, List.append_assoc]
    · have hz0 : ¬ a % (room l f t2).2 = 0 := by have := bneI.1 h0'; omega
      rw [if_neg hz0, List.nil_append] at ed
      rw [← tmodN]
      exact kidL sF (by omega) ed
  | rcd hs' g0 g8 hg2 =>
    rename_i f nm n kids x
    have e1 : h'.1 = 3 ∧ h'.2.1 = nm := by cases ht'; exact ⟨rfl, rfl⟩
    have hox : OkSt x := hol.2 x (List.mem_of_find?_eq_some hs')
    have hp2 := p16 f (by omega)
    have ha' : a < (x.fields.map fun x : Fld => (room l f x.2).2).sum := by
      have h2 := ha
      unfold room at h2
      rw [if_pos rfl, fieldsS_some hs'] at h2
      exact h2
    obtain ⟨y, ay, cy, hy, epk, hay⟩ := pick_some (pl := fun x : Fld => (room l f x.2).2) (cl := fun x => (room l f x.2).1) (c := 0) ha'
    rw [dwn_rec hs' epk] at ed
    refine ⟨fun F => F = E, ?_, _, sE.ld (k := 0) rfl 0, ?_⟩
    rotate_left
    · rw [e1.1]
      exact ⟨fun _ => rfl, (fun hc => by cases hc)⟩
    rintro F hF scr2
    subst F
    refine ⟨_, sE.ld (k := 0) rfl 0, ?_⟩
    rw [e1.1]
    refine ⟨(fun hc => by cases hc), fun _ => ⟨fun b2 F => Sym H no F [blk bT (flHT h') 51, arr flB3 108 3 b2 (bs ++ if a = 0 then [(nm, 0, 0)] else [])], ?_, fun h0' => ?_, fun h0' => ?_⟩⟩
    · rintro b2 F sF scr3
      refine ⟨_, sF.ld (k := 0) rfl 1, ?_⟩
      rw [e1.2]
      refine fieldsS_okB hol.1 sF.frno hs fun z G fG hz2 => ⟨z, rfl, ?_⟩
      rw [fieldsS_some hs'] at hz2
      have hzn := hz2.len
      refine ⟨fun u c v I m => ∃ (j a2 c2 : Nat), u = (a2 : Int) ∧ c = ((q + c2 : Nat) : Int) ∧ v = (j : Int) ∧ j ≤ x.fields.length ∧ m = x.fields.length - j ∧ c2 ≤ j * 65536 ∧ a2 ≤ a ∧ pick (fun x : Fld => (room l f x.2).2) (fun x => (room l f x.2).1) (x.fields.drop j) a2 c2 = some (y, ay, cy) ∧ Sym H no I [blk bT (flHT h') 51, arr flB3 108 3 b2 (bs ++ if a = 0 then [(nm, 0, 0)] else [])],
        ⟨_, 0, a, 0, rfl, rfl, rfl, Nat.zero_le _, rfl, Nat.zero_le _, Nat.le_refl _, epk, sF.more fG⟩, ?_⟩
      rintro u c v I m ⟨j, a2, c2, rfl, rfl, rfl, hj, rfl, hc2, ha2, ep2, sI⟩ scr4
      refine ⟨fun hlt => ?_, fun hge => ?_⟩
      · have hj' : j < x.fields.length := by have := dlt hlt; omega
        have hx : x.fields[j]? = some x.fields[j] := List.getElem?_eq_getElem hj'
        have hd : x.fields.drop j = x.fields[j] :: x.fields.drop (j + 1) := List.drop_eq_getElem_cons hj'
        generalize x.fields[j] = w at hx hd
        rw [hd] at ep2
        unfold pick at ep2
        have hw := hg2 w (List.mem_of_getElem? hx)
        have how := hox.f w (List.mem_of_getElem? hx)
        have hrw := room_le hw
        have fI := sI.frno
        refine RdX.at FlHF (by decide) hz2 hx fun ad r hr h1' h2' => ⟨str r.1, _, str r.2.2.1, _, r.2.2.2.2, ⟨lf fI h2', lf fI (h1' 1 _ rfl), lf fI (h1' 2 _ rfl), lf fI (h1' 3 _ rfl), lf fI (h1' 4 _ rfl), trivial⟩, ?_⟩
        intro bF J hJ
        have sJ := sI.newb (cs := [.string ⟨#[]⟩, .int .i64 0, .string ⟨#[]⟩, .int .i64 0, .slice none 0 0]) hJ
        refine sJ.stbs (k := 0) (i := 0) (vs := flHF r) rfl (by simp [flHF, flHT]) (FlHF.one r) fun M sM => ?_
        refine ⟨_, str r.2.2.1, _, r.2.2.2.2, ⟨sM.ld (k := 0) rfl 1, sM.ld (k := 0) rfl 2, sM.ld (k := 0) rfl 3, sM.ld (k := 0) rfl 4, trivial⟩, ?_⟩
        refine room_ok hol.1 f r.2 w.2 M _ (by omega) hw (RdS.more hs sM.frno) (hr.2.more sM.frno) fun N fN => ⟨_, _, rfl, fun hin => ?_, fun hout => ?_⟩
        · have sN := sM.more fN
          have hin' : a2 < (room l f w.2).2 := dlt hin
          rw [if_pos hin'] at ep2
          simp only [Option.some.injEq, Prod.mk.injEq] at ep2
          obtain ⟨rfl, rfl, rfl⟩ := ep2
          refine ⟨_, str r.2.2.1, _, r.2.2.2.2, ⟨sN.ld (k := 0) rfl 1, sN.ld (k := 0) rfl 2, sN.ld (k := 0) rfl 3, sN.ld (k := 0) rfl 4, trivial⟩, ?_⟩
          refine sN.stbs (k := 1) (i := 0) (vs := flHT r.2) rfl (by simp [flHT]) (FlHT.one r.2) fun O sO => ?_
          refine ⟨f, by omega, by omega, r.2, w.2, a2, q + c2, _, rfl, rfl, ?_, ?_, hw, hr.2, how.2, hin', sO.drop, ?_⟩
          · have : j * 65536 ≤ 8 * 65536 := Nat.mul_le_mul_right _ (by omega)
            omega
          · rw [List.length_append]
            have : (if a = 0 then [(nm, 0, 0)] else ([] : List St)).length ≤ 1 := by split <;> simp
            omega
          · rw [ed, ← List.append_assoc]
            congr 1
            omega
        · have hout' : (room l f w.2).2 ≤ a2 := dge hout
          rw [if_neg (by omega)] at ep2
          have hjj : j * 65536 ≤ 8 * 65536 := Nat.mul_le_mul_right _ (by omega)
          refine ⟨x.fields.length - (j + 1), by omega, j + 1, a2 - (room l f w.2).2, c2 + (room l f w.2).1, ?_, ?_, wi (by omega), hj', rfl, ?_, by omega, ep2, (sM.more fN).drop⟩
          · rw [wid (by omega) (by omega)]
            omega
          · rw [wid (by omega) (by omega)]
            omega
          · rw [Nat.succ_mul]
            omega
      · have hj' : x.fields.length ≤ j := by have := dge hge; omega
        rw [List.drop_of_length_le hj'] at ep2
        cases ep2
    · have h00 : a = 0 := by have := beqI.1 h0'; omega
      refine ⟨_, sE.ld (k := 0) rfl 1, ?_⟩
      intro b1 G hG
      refine sE.app1 (k := 1) (x := (h'.2.1, 0, 0)) tyB3 FlB3 (by decide) hG rfl (by omega) fun ap J hap sJ => ?_
      rw [if_pos h00]
      rw [e1.2] at sJ
      exact sJ
    · have h00 : ¬ a = 0 := by have := bneI.1 h0'; omega
      rw [if_neg h00, List.append_nil]
      exact sE
/-- a place's cell -/
theorem cell_ok {h : HT} {t : TyD} {at' : Int} (hol : OkL l) (hs : RdS H s l) (ht : InT H h t) (ho : OkT t) (hp : TabH Tryd.prog H "internal/strconv.uint64pow10" .u64 Lib.pow10Tab)
    (k1 : ∀ H', Fr no H H' → checkS l t ≠ 0 → K (.tuple #[.int .i64 0, .int .i64 (checkS l t)]) H')
    (k2 : ∀ H', Fr no H H' → checkS l t = 0 → ¬ (0 ≤ at' ∧ at' < (room l 4 t).2) → K (.tuple #[.int .i64 0, .int .i64 2]) H')
    (k3 : ∀ H', Fr no H H' → checkS l t = 0 → 0 ≤ at' → at' < (room l 4 t).2 → K (.tuple #[.int .i64 ((dwn l 4 t at'.toNat).1 : Int), .int .i64 0]) H') :
    CallF Tryd.prog 33 #[.slice s.a s.n s.c, tyV h, .int .i64 at'] H K Z := by
  refine V33_ok ?_
  unfold V33
  intro bT A hA
  have sA := symTy (Sym.start H) hA
  refine ⟨_, str h.2.1, _, h.2.2.2, ⟨sA.ld (k := 0) rfl 0, sA.ld (k := 0) rfl 1, sA.ld (k := 0) rfl 2, sA.ld (k := 0) rfl 3, trivial⟩, ?_⟩
  refine down_ok hol (RdS.more hs sA.frno) (ht.more sA.frno) ho (hp.more sA.frno) (fun B fB e => ⟨_, ⟨none, 0, 0⟩, _, rfl, k1 B (sA.frno.trans fB) e⟩) (fun B fB e e' => ⟨_, ⟨none, 0, 0⟩, _, rfl, k2 B (sA.frno.trans fB) e e'⟩) (fun sb B fB e h0 h1 hr => ⟨_, sb, _, rfl, k3 B (sA.frno.trans fB) e h0 h1⟩)
theorem okB1 : fnOk Tryd.prog 62 = true := by kernel_rfl
/-- does something of this tag begin there -/
def begS (l : List StD) (t : TyD) (at' : Int) (tg : L8) : Bool :=
  if checkS l t ≠ 0 then false else if 0 ≤ at' ∧ at' < (room l 4 t).2 then decide (tg ∈ (dwn l 4 t at'.toNat).2.map (·.1)) else false
theorem con_ok {sb : Sl} {bs : List St} {tg : L8} {bG : Nat} (hr : Rd flB3 3 H sb bs) (hl : bs.length ≤ 1000000) (hb : hcell H ⟨bG, 0, none⟩ = some (.string (str tg))) (k : ∀ H', Fr no H H' → K (.bool (decide (tg ∈ bs.map (·.1)))) H') :
    CallF Tryd.prog 61 #[.slice sb.a sb.n sb.c, .func (.func 62) #[] #[.pointer (some ⟨bG, 0, none⟩)]] H K Z := by
  refine V61_ok ?_
  unfold V61
  refine V74_ok ?_
  unfold V74
  have hn := hr.len
  refine ⟨fun u A m => ∃ j : Nat, Fr no H A ∧ u = (j : Int) ∧ j ≤ bs.length ∧ m = bs.length - j ∧ tg ∉ (bs.take j).map (·.1), ⟨_, 0, Fr.refl _ _, rfl, Nat.zero_le _, rfl, by simp⟩, ?_⟩
  rintro u A m ⟨j, fA, rfl, hj, rfl, hno⟩ scr
  refine ⟨fun hlt => ?_, fun hge => ⟨_, rfl, ?_⟩⟩
  · have hj' : j < bs.length := by have := dlt hlt; omega
    have hx : bs[j]? = some bs[j] := List.getElem?_eq_getElem hj'
    have htk : bs.take (j + 1) = bs.take j ++ [bs[j]] := List.take_succ_eq_append_getElem hj'
    generalize bs[j] = x at hx htk
    refine Rd.ix (x := x) (by decide) FlB3 hr (by omega) (by simpa using hx) fun ad h1 h2 => ⟨_, _, _, ⟨lf fA h2, lf fA (h1 1 _ rfl), lf fA (h1 2 _ rfl), trivial⟩, ?_⟩
    unfold callV
    simp only [okB1, if_true]
    refine V62_ok ?_
    unfold V62
    intro bS B hB
    have sB := (Sym.start A).newb (cs := flB3 x) hB
    refine ⟨_, sB.ld (k := 0) rfl 0, _, lf (fA.trans sB.frno) hb, _, rfl, ?_⟩
    rw [beq_str]
    refine ⟨fun he => ⟨_, rfl, ?_⟩, fun he => ⟨bs.length - (j + 1), by omega, j + 1, fA.trans sB.frno, wi (by omega), hj', rfl, ?_⟩⟩
    · have e1 : decide ((j : Int) ≥ 0) = true := decide_eq_true (by omega)
      have e2 : decide (tg ∈ bs.map (·.1)) = true := decide_eq_true (List.mem_map.2 ⟨x, List.mem_of_getElem? hx, of_decide_eq_true he⟩)
      have := k B (fA.trans sB.frno)
      rw [e2] at this
      rw [e1]
      exact this
    · rw [htk, List.map_append, List.mem_append, List.map_singleton, List.mem_singleton]
      rintro (h | h)
      · exact hno h
      · exact of_decide_eq_false he h.symm
  · have hj' : bs.length ≤ j := by have := dge hge; omega
    rw [List.take_of_length_le hj'] at hno
    have e2 : decide (tg ∈ bs.map (·.1)) = false := decide_eq_false hno
    have := k A fA
    rw [e2] at this
    exact this
theorem begins_ok {h : HT} {t : TyD} {at' : Int} {tg : L8} (hol : OkL l) (hs : RdS H s l) (ht : InT H h t) (ho : OkT t) (hp : TabH Tryd.prog H "internal/strconv.uint64pow10" .u64 Lib.pow10Tab)
    (k : ∀ H', Fr no H H' → K (.bool (begS l t at' tg)) H') : CallF Tryd.prog 34 #[.slice s.a s.n s.c, tyV h, .int .i64 at', .string (str tg)] H K Z := by
  refine V34_ok ?_
  unfold V34
  intro bT A hA bG B hB
  have sB := (symTy (Sym.start H) hA).newb (cs := [.string (str tg)]) hB
  refine ⟨_, str h.2.1, _, h.2.2.2, ⟨sB.ld (k := 1) rfl 0, sB.ld (k := 1) rfl 1, sB.ld (k := 1) rfl 2, sB.ld (k := 1) rfl 3, trivial⟩, ?_⟩
  have hl4 : ∀ {C : Hp} {sb : Sl} {bs : List St}, Rd flB3 3 C sb bs → True := fun _ => trivial
  refine down_ok hol (RdS.more hs sB.frno) (ht.more sB.frno) ho (hp.more sB.frno) (fun C fC e => ⟨_, ⟨none, 0, 0⟩, _, rfl, ?_⟩) (fun C fC e e' => ⟨_, ⟨none, 0, 0⟩, _, rfl, ?_⟩) (fun sb C fC e h0 h1 hr => ⟨_, sb, _, rfl, ?_⟩)
  · refine con_ok (bs := []) Rd.nil (by decide) ((sB.more fC).ld (k := 0) rfl 0) fun D fD => ⟨_, rfl, ?_⟩
    have := k D ((sB.frno.trans fC).trans fD)
    unfold begS at this
    rw [if_pos e] at this
    exact this
  · refine con_ok (bs := []) Rd.nil (by decide) ((sB.more fC).ld (k := 0) rfl 0) fun D fD => ⟨_, rfl, ?_⟩
    have := k D ((sB.frno.trans fC).trans fD)
    unfold begS at this
    rw [if_neg (fun h => h e), if_neg e'] at this
    exact this
  · have hlen : (dwn l 4 t at'.toNat).2.length ≤ 1000000 := by have := dwn_len (check_good e).1 at'.toNat (by omega); omega
    refine con_ok hr hlen ((sB.more fC).ld (k := 0) rfl 0) fun D fD => ⟨_, rfl, ?_⟩
    have := k D ((sB.frno.trans fC).trans fD)
    unfold begS at this
    rw [if_neg (fun h => h e), if_pos ⟨h0, h1⟩] at this
    exact this
end
end Go.Proofs.YtigbdoicgdmliaaDoor.C10

