/- shape: structs by their names; what is wrong with a type; its cells and places. -/
import Derived.Test.YtigbdoicgdmliaaDoorC10D
import Derived.Test.YtigbdoicgdmliaaDoorV26
set_option linter.unusedVariables false
set_option linter.unusedSimpArgs false
-- tTy: 51
-- tSt: 81
-- tFd: 83
-- tStr: 9
-- check: 54
-- fields: 58
-- room: 59
-- look: 72
-- of: 73
-- of1: 81
-- ixS: 80
namespace Go.Proofs.YtigbdoicgdmliaaDoor.C10
open Go Go.V Go.Proofs Go.Proofs.YtigbdoicgdmliaaDoor.N10 Go.Proofs.YtigbdoicgdmliaaDoor.P10
attribute [local irreducible] Cvt ExtF CallF hrun App MkS callV
theorem okO1 : fnOk Tryd.prog 81 = true := by kernel_rfl
theorem find_take {l : List StD} {nm : L8} : ∀ {j : Nat}, (∀ s ∈ l.take j, s.name ≠ nm) → ∀ s, l[j]? = some s → s.name = nm → ofS l nm = some s := by
  unfold ofS
  induction l with
  | nil => intro j _ s h; simp at h
  | cons x l ih =>
    intro j hno s hs e
    cases j with
    | zero =>
      simp only [List.getElem?_cons_zero, Option.some.injEq] at hs
      subst hs
      rw [List.find?_cons, decide_eq_true e]
    | succ j =>
      rw [List.take_succ_cons] at hno
      rw [List.find?_cons, decide_eq_false (hno x List.mem_cons_self)]
      exact ih (fun y hy => hno y (List.mem_cons_of_mem _ hy)) s (by simpa using hs) e
theorem find_none {l : List StD} {nm : L8} (h : ∀ s ∈ l, s.name ≠ nm) : ofS l nm = none := by
  unfold ofS
  rw [List.find?_eq_none]
  intro s hs
  simpa using h s hs
section
variable {H : Hp} {K : Value → Hp → Prop} {Z : List PanicEntry → Hp → Prop} {s : Sl} {l : List StD} {nm : L8}
theorem ofS_okB {H0 : Hp} (hl : l.length ≤ 1048576) (f0 : Fr no H0 H) (h : RdS H0 s l)
    (kn : ∀ H', Fr no H H' → ofS l nm = none → K (.tuple #[.agg #[.string ⟨#[]⟩, .slice none 0 0], .bool false]) H')
    (ks : ∀ (g : HS) x H', Fr no H H' → ofS l nm = some x → InS H0 g x → K (.tuple #[.agg #[.string (str g.1), .slice g.2.a g.2.n g.2.c], .bool true]) H') :
    CallF Tryd.prog 73 #[.slice s.a s.n s.c, .string (str nm)] H K Z := by
  refine V73_ok ?_
  unfold V73
  have hn := h.len
  intro bN A hA b B hB
  have sB := ((Sym.start H).newb (cs := [.string (str nm)]) hA).newb (cs := [.string ⟨#[]⟩, .slice none 0 0]) hB
  refine V80_ok ?_
  unfold V80
  refine ⟨fun t C m => ∃ j : Nat, t = (j : Int) ∧ j ≤ l.length ∧ m = l.length - j ∧ Sym H no C [blk b [.string ⟨#[]⟩, .slice none 0 0] 81, blk bN [.string (str nm)] 9] ∧ ∀ x ∈ l.take j, x.name ≠ nm, ⟨_, 0, rfl, Nat.zero_le _, rfl, sB, by simp⟩, ?_⟩
  rintro t C m ⟨j, rfl, hj, rfl, sC, hno⟩ scr
  refine ⟨fun hlt => ?_, fun hge => ⟨_, rfl, fun _ => ?_, fun hc => by cases hc⟩⟩
  · have hj' : j < l.length := by have := dlt hlt; omega
    have hx : l[j]? = some l[j] := List.getElem?_eq_getElem hj'
    have htk : l.take (j + 1) = l.take j ++ [l[j]] := List.take_succ_eq_append_getElem hj'
    generalize l[j] = x at hx htk
    refine RdX.at FlHS (by decide) h hx fun ad g hg h1 h2 => ⟨_, g.2, ⟨lf (f0.trans sC.frno) h2, lf (f0.trans sC.frno) (h1 1 _ rfl), trivial⟩, ?_⟩
    unfold callV
    simp only [okO1, if_true]
    refine V81_ok ?_
    unfold V81
    intro bS D hD
    have sD := sC.newb (cs := [.string (str g.1), .slice g.2.a g.2.n g.2.c]) hD
    refine ⟨_, sD.ld (k := 0) rfl 0, _, sD.ld (k := 2) rfl 0, _, rfl, ?_⟩
    rw [beq_str]
    refine ⟨fun he => ⟨_, rfl, fun hc => ?_, fun _ => ?_⟩, fun he => ⟨l.length - (j + 1), by omega, j + 1, wi (by omega), hj', rfl, sD.drop, fun y hy => ?_⟩⟩
    · have := of_decide_eq_true hc; omega
    · have hgx : x.name = nm := by rw [← hg.1]; exact of_decide_eq_true he
      have e := find_take hno x hx hgx
      refine RdX.at FlHS (by decide) h hx fun ad' g' hg' h1' h2' => ⟨_, g'.2, ⟨lf (f0.trans sD.frno) h2', lf (f0.trans sD.frno) (h1' 1 _ rfl), trivial⟩, ?_⟩
      refine sD.stbs (k := 1) (i := 0) (vs := [.string (str g'.1), .slice g'.2.a g'.2.n g'.2.c]) rfl (by simp) (one2 rfl rfl) fun E sE => ?_
      exact ⟨_, g'.2, ⟨sE.ld (k := 1) rfl 0, sE.ld (k := 1) rfl 1, trivial⟩, ks g' x E sE.frno e hg'⟩
    · rw [htk] at hy
      rcases List.mem_append.1 hy with hy | hy
      · exact hno y hy
      · rw [List.mem_singleton.1 hy, ← hg.1]
        exact of_decide_eq_false he
  · have hj' : l.length ≤ j := by have := dge hge; omega
    rw [List.take_of_length_le hj'] at hno
    refine sC.stbs (k := 0) (i := 0) (vs := [.string ⟨#[]⟩, .slice none 0 0]) rfl (by simp) (one2 rfl rfl) fun D sD => ?_
    exact ⟨_, ⟨none, 0, 0⟩, ⟨sD.ld (k := 0) rfl 0, sD.ld (k := 0) rfl 1, trivial⟩, kn D sD.frno (find_none hno)⟩
theorem ofS_ok (hl : l.length ≤ 1048576) (h : RdS H s l)
    (kn : ∀ H', Fr no H H' → ofS l nm = none → K (.tuple #[.agg #[.string ⟨#[]⟩, .slice none 0 0], .bool false]) H')
    (ks : ∀ (g : HS) x H', Fr no H H' → ofS l nm = some x → InS H' g x → K (.tuple #[.agg #[.string (str g.1), .slice g.2.a g.2.n g.2.c], .bool true]) H') :
    CallF Tryd.prog 73 #[.slice s.a s.n s.c, .string (str nm)] H K Z :=
  ofS_okB hl (Fr.refl _ _) h kn fun g x H' hf e hg => ks g x H' hf e (hg.more hf)
theorem fieldsS_okB {H0 : Hp} (hl : l.length ≤ 1048576) (f0 : Fr no H0 H) (h : RdS H0 s l) (k : ∀ y H', Fr no H H' → RdF H0 y (fieldsS l nm) → K (.slice y.a y.n y.c) H') : CallF Tryd.prog 58 #[.slice s.a s.n s.c, .string (str nm)] H K Z := by
  refine V58_ok ?_
  unfold V58
  refine ofS_okB hl f0 h (fun A fA e => ⟨_, ⟨none, 0, 0⟩, _, rfl, ?_⟩) fun g x A fA e hg => ⟨_, g.2, _, rfl, ?_⟩
  · intro bS B hB
    have sB := (Sym.start A).newb (cs := [.string ⟨#[]⟩, .slice none 0 0]) hB
    refine sB.stbs (k := 0) (i := 0) (vs := [.string ⟨#[]⟩, .slice none 0 0]) rfl (by simp) (one2 rfl rfl) fun C sC => ?_
    refine ⟨⟨none, 0, 0⟩, sC.ld (k := 0) rfl 1, k ⟨none, 0, 0⟩ C (fA.trans sC.frno) ?_⟩
    unfold fieldsS
    rw [e]
    exact RdX.nil
  · intro bS B hB
    have sB := (Sym.start A).newb (cs := [.string ⟨#[]⟩, .slice none 0 0]) hB
    refine sB.stbs (k := 0) (i := 0) (vs := [.string (str g.1), .slice g.2.a g.2.n g.2.c]) rfl (by simp) (one2 rfl rfl) fun C sC => ?_
    refine ⟨g.2, sC.ld (k := 0) rfl 1, k g.2 C (fA.trans sC.frno) ?_⟩
    rw [fieldsS_some e]
    exact hg.2
theorem fieldsS_ok (hl : l.length ≤ 1048576) (h : RdS H s l) (k : ∀ y H', Fr no H H' → RdF H' y (fieldsS l nm) → K (.slice y.a y.n y.c) H') : CallF Tryd.prog 58 #[.slice s.a s.n s.c, .string (str nm)] H K Z :=
  fieldsS_okB hl (Fr.refl _ _) h fun y H' hf hy => k y H' hf (RdF.more hy hf)
/-- a type in a block of its own -/
theorem symTy {H0 : Hp} {S : Nat → Prop} {L : List It} {h : HT} {bT : Nat} {A : Hp} (hs : Sym H0 S H L) (hA : Newb H (.cells #[.int .i64 h.1, .string (str h.2.1), .int .i64 h.2.2.1, .slice h.2.2.2.a h.2.2.2.n h.2.2.2.c] 51) bT A) : Sym H0 S A (blk bT (flHT h) 51 :: L) := hs.newb (cs := flHT h) hA
theorem look_ok (hl : l.length ≤ 1048576) : ∀ (f : Nat) (h : HT) (t : TyD) (H : Hp) (K : Value → Hp → Prop), f ≤ 4 → RdS H s l → InT H h t → (∀ H', Fr no H H' → K (.int .i64 (P10.look l f t)) H') → CallF Tryd.prog 72 #[.slice s.a s.n s.c, tyV h, .int .i64 (5 - (f : Int))] H K Z := by
  intro f
  induction f with
  | zero =>
    intro h t H K _ hs ht k
    refine V72_ok ?_
    unfold V72
    intro bT A hA
    exact ⟨fun _ => k A (symTy (Sym.start H) hA).frno, fun hc => by have := of_decide_eq_false hc; omega⟩
  | succ f ih =>
    intro h t H K hf hs ht k
    refine V72_ok ?_
    unfold V72
    intro bT A hA
    have sA := symTy (Sym.start H) hA
    obtain ⟨kd, nm, n, kids⟩ := t
    have hlen := ht.len
    have hkd : h.1 = kd ∧ h.2.1 = nm ∧ h.2.2.1 = n := by cases ht; exact ⟨rfl, rfl, rfl⟩
    obtain ⟨e1, e2, e3⟩ := hkd
    have ed : w64 ((5 - ((f + 1 : Nat) : Int)) + 1) = 5 - (f : Int) := by rw [wid (by omega) (by omega)]; omega
    refine ⟨fun hc => by have := of_decide_eq_true hc; omega, fun _ => ⟨fun B => B = A ∧ kd = 3, ?_, _, sA.ld (k := 0) rfl 0, fun t B => B = A ∧ t = (kd == 1 || kd == 2), ?_, fun hk => ⟨rfl, ?_⟩, fun hk => ⟨rfl, ?_⟩⟩⟩
    · -- a struct
      rintro B ⟨hB, rfl⟩ scr
      subst B
      refine ⟨_, sA.ld (k := 0) rfl 1, ?_⟩
      rw [e2]
      refine ofS_ok hl (RdS.more hs sA.frno) (fun B fB e => ⟨_, ⟨none, 0, 0⟩, _, rfl, ?_⟩) fun g x B fB e hg => ⟨_, g.2, _, rfl, ?_⟩
      · intro bS C hC
        have sC := (Sym.start B).newb (cs := [.string ⟨#[]⟩, .slice none 0 0]) hC
        refine sC.stbs (k := 0) (i := 0) (vs := [.string ⟨#[]⟩, .slice none 0 0]) rfl (by simp) (one2 rfl rfl) fun D sD => ?_
        rw [look_recN e] at k
        exact ⟨fun _ => False, fun _ h => h.elim, fun _ => k D ((sA.frno.trans fB).trans sD.frno), (fun h => by cases h)⟩
      · intro bS C hC
        have sC := (Sym.start B).newb (cs := [.string ⟨#[]⟩, .slice none 0 0]) hC
        refine sC.stbs (k := 0) (i := 0) (vs := [.string (str g.1), .slice g.2.a g.2.n g.2.c]) rfl (by simp) (one2 rfl rfl) fun D sD => ?_
        rw [look_rec e] at k
        have fD := (sA.frno.trans fB).trans sD.frno
        have hgl := hg.2.len
        refine ⟨fun E => E = D ∧ ¬ (x.fields.length = 0 ∨ x.fields.length > 8), ?_, (fun h => by cases h), fun _ => ⟨g.2, sD.ld (k := 0) rfl 1, fun h0 => ?_, fun h0 => ⟨g.2, sD.ld (k := 0) rfl 1, fun h8 => ?_, fun h8 => ⟨rfl, ?_⟩⟩⟩⟩
        · rintro E ⟨hE, hok⟩ scr1
          subst E
          rw [if_neg hok] at k
          refine ⟨g.2, sD.ld (k := 0) rfl 1, fun t E m => ∃ j : Nat, t = (j : Int) ∧ j ≤ x.fields.length ∧ m = x.fields.length - j ∧ Fr no B E ∧ firstErr (x.fields.map fun x => P10.look l f x.2) = firstErr ((x.fields.drop j).map fun x => P10.look l f x.2), ⟨_, 0, rfl, Nat.zero_le _, rfl, sD.frno, rfl⟩, ?_⟩
          rintro t E m ⟨j, rfl, hj, rfl, fE, he⟩ scr2
          refine ⟨fun hlt => ?_, fun hge => ?_⟩
          · have hj' : j < x.fields.length := by have := dlt hlt; omega
            have hx : x.fields[j]? = some x.fields[j] := List.getElem?_eq_getElem hj'
            have hd : x.fields.drop j = x.fields[j] :: x.fields.drop (j + 1) := List.drop_eq_getElem_cons hj'
            generalize x.fields[j] = y at hx hd
            rw [hd, List.map_cons] at he
            refine RdX.at FlHF (by decide) hg.2 hx fun ad q hq h1 h2 => ⟨_, _, _, _, q.2.2.2.2, ⟨lf fE h2, lf fE (h1 1 _ rfl), lf fE (h1 2 _ rfl), lf fE (h1 3 _ rfl), lf fE (h1 4 _ rfl), trivial⟩, ?_⟩
            intro bF F hF
            have sF := (Sym.start E).newb (cs := [.string ⟨#[]⟩, .int .i64 0, .string ⟨#[]⟩, .int .i64 0, .slice none 0 0]) hF
            refine sF.stbs (k := 0) (i := 0) (vs := flHF q) rfl (by simp [flHF, flHT]) (FlHF.one q) fun G sG => ?_
            have fG := fE.trans sG.frno
            refine ⟨_, _, _, q.2.2.2.2, ⟨sG.ld (k := 0) rfl 1, sG.ld (k := 0) rfl 2, sG.ld (k := 0) rfl 3, sG.ld (k := 0) rfl 4, trivial⟩, ?_⟩
            rw [ed]
            refine ih q.2 y.2 G _ (by omega) (RdS.more hs ((sA.frno.trans fB).trans fG)) (hq.2.more fG) fun I fI => ⟨_, rfl, fun hne => ?_, fun heq => ⟨x.fields.length - (j + 1), by omega, j + 1, wi (by omega), hj', rfl, fG.trans fI, ?_⟩⟩
            · have hne' : P10.look l f y.2 ≠ 0 := by simpa using hne
              have e' : firstErr (P10.look l f y.2 :: (x.fields.drop (j + 1)).map fun x => P10.look l f x.2) = P10.look l f y.2 := by
                rw [firstErr, if_pos hne']
              rw [he, e'] at k
              exact k I (((sA.frno.trans fB).trans fG).trans fI)
            · have heq' : P10.look l f y.2 = 0 := by simpa using heq
              rw [he, firstErr, if_neg (fun h => h heq')]
          · have hj' : x.fields.length ≤ j := by have := dge hge; omega
            rw [List.drop_of_length_le hj'] at he
            rw [he] at k
            exact k E ((sA.frno.trans fB).trans fE)
        · have : x.fields.length = 0 := by have : (g.2.n : Int) = 0 := by simpa using h0
                                           omega
          rw [if_pos (.inl this)] at k
          exact k D fD
        · have : x.fields.length > 8 := by have := of_decide_eq_true h8; omega
          rw [if_pos (.inr this)] at k
          exact k D fD
        · have g1 : ¬ (g.2.n : Int) = 0 := by simpa using h0
          have g2 := of_decide_eq_false h8
          omega
    · rintro t B ⟨hB, rfl⟩ scr
      subst B
      refine ⟨fun ht' => ?_, fun hf' => ⟨fun h4 => ?_, fun h4 => ⟨fun h3 => ⟨rfl, ?_⟩, fun h3 => ?_⟩⟩⟩
      · have hk : kd = 1 ∨ kd = 2 := by simpa using ht'
        have lk : P10.look l (f + 1) (.mk kd nm n kids) = 0 := by unfold P10.look; rw [if_pos hk]
        rw [lk] at k
        exact k A sA.frno
      · have hk4 : kd = 4 := by rw [← e1]; simpa using h4
        subst hk4
        refine ⟨h.2.2.2, sA.ld (k := 0) rfl 3, fun h1 => ?_, fun h1 => ?_⟩
        · have hne : kids.length ≠ 1 := by
            intro e
            rw [hlen, e] at h1
            simp at h1
          rw [look_arrN hne] at k
          exact k A sA.frno
        · have hone : kids.length = 1 := by
            have : (h.2.2.2.n : Int) = 1 := by simpa using h1
            omega
          obtain ⟨a, rfl⟩ := List.length_eq_one_iff.1 hone
          rw [look_arr] at k
          refine ⟨_, sA.ld (k := 0) rfl 2, fun hlt => ?_, fun hge => ⟨_, sA.ld (k := 0) rfl 2, fun hgt => ?_, fun hle => ?_⟩⟩
          · have := of_decide_eq_true hlt
            rw [if_pos (.inl (by omega))] at k
            exact k A sA.frno
          · have := of_decide_eq_true hgt
            rw [if_pos (.inr (by omega))] at k
            exact k A sA.frno
          · have g1 := of_decide_eq_false hge
            have g2 := of_decide_eq_false hle
            rw [if_neg (by omega)] at k
            refine ⟨h.2.2.2, sA.ld (k := 0) rfl 3, ?_⟩
            have hx : [a][0]? = some a := rfl
            refine ht.kid hx fun ad g hg h1 h2 => ⟨_, _, _, g.2.2.2, ⟨lf sA.frno h2, lf sA.frno (h1 1 _ rfl), lf sA.frno (h1 2 _ rfl), lf sA.frno (h1 3 _ rfl), trivial⟩, ?_⟩
            rw [ed]
            exact ih g a A _ (by omega) (RdS.more hs sA.frno) (hg.more sA.frno) fun I fI => ⟨_, rfl, k I (sA.frno.trans fI)⟩
      · rw [← e1]; simpa using h3
      · have n12 : ¬ (kd = 1 ∨ kd = 2) := by simpa using hf'
        have n4 : ¬ kd = 4 := by rw [← e1]; simpa using h4
        have n3 : ¬ kd = 3 := by rw [← e1]; simpa using h3
        have lk : P10.look l (f + 1) (.mk kd nm n kids) = 5 := by
          unfold P10.look
          rw [if_neg n12, if_neg n4, if_neg n3]
        rw [lk] at k
        exact k A sA.frno
    · rw [e1] at hk ⊢
      rw [hk]
      rfl
    · rw [e1] at hk ⊢
      rw [hk]
      rfl
theorem sum_le {α : Type} {g : α → Nat} {B : Nat} : ∀ {xs : List α}, (∀ x ∈ xs, g x ≤ B) → (xs.map g).sum ≤ xs.length * B
  | [], _ => by simp
  | x :: xs, h => by
    have h1 := h x List.mem_cons_self
    have h2 := sum_le (xs := xs) fun y hy => h y (List.mem_cons_of_mem _ hy)
    rw [List.map_cons, List.sum_cons, List.length_cons, Nat.succ_mul]
    omega
theorem room_le {l : List StD} {f : Nat} {t : TyD} (h : Gd l f t) : (room l f t).1 ≤ 16 ^ f ∧ (room l f t).2 ≤ 16 ^ f := by
  induction h with
  | leaf h =>
    rename_i f k nm n kids
    unfold room
    rw [if_neg (by omega), if_neg (by omega)]
    exact ⟨Nat.one_le_pow _ _ (by decide), Nat.one_le_pow _ _ (by decide)⟩
  | row h1 h2 h ih =>
    rename_i f nm n t
    unfold room
    rw [if_neg (by decide), if_pos rfl]
    have h3 : (room l f t).2 * n.toNat ≤ 16 ^ f * 16 := Nat.mul_le_mul ih.2 (by omega)
    rw [Nat.pow_succ]
    exact ⟨Nat.le_trans ih.1 (Nat.le_mul_of_pos_right _ (by decide)), h3⟩
  | rcd hs h0 h8 h ih =>
    rename_i f nm n kids s
    unfold room
    rw [if_pos rfl, fieldsS_some hs, Nat.pow_succ, Nat.mul_comm]
    have a := sum_le fun x hx => (ih x hx).1
    have b := sum_le fun x hx => (ih x hx).2
    have c : s.fields.length * 16 ^ f ≤ 16 * 16 ^ f := Nat.mul_le_mul_right _ (by omega)
    exact ⟨Nat.le_trans a c, Nat.le_trans b c⟩
theorem room_ok (hl : l.length ≤ 1048576) : ∀ (f : Nat) (h : HT) (t : TyD) (H : Hp) (K : Value → Hp → Prop), f ≤ 4 → Gd l f t → RdS H s l → InT H h t →
    (∀ H', Fr no H H' → K (.tuple #[.int .i64 ((room l f t).1 : Int), .int .i64 ((room l f t).2 : Int)]) H') → CallF Tryd.prog 59 #[.slice s.a s.n s.c, tyV h] H K Z := by
  intro f
  induction f with
  | zero => intro h t H K _ hg; cases hg
  | succ f ih =>
    intro h t H K hf hg hs ht k
    refine V59_ok ?_
    unfold V59
    intro bT A hA
    have sA := symTy (Sym.start H) hA
    have p16 : ∀ g ≤ 4, (16 : Nat) ^ g ≤ 65536 := fun g hg => Nat.pow_le_pow_right (by decide) hg
    refine ⟨_, sA.ld (k := 0) rfl 0, ?_⟩
    cases hg with
    | leaf hk =>
      rename_i kd nm n kids
      have e1 : h.1 = kd := by cases ht; rfl
      have er : room l (f + 1) (.mk kd nm n kids) = (1, 1) := by
        unfold room
        rw [if_neg (by omega), if_neg (by omega)]
      rw [er] at k
      rw [e1]
      refine ⟨fun hc => ?_, fun _ => ⟨fun hc => ?_, fun _ => k A sA.frno⟩⟩
      · have : kd = 3 := by simpa using hc
        omega
      · have : kd = 4 := by simpa using hc
        omega
    | row h1 h2 hg =>
      rename_i nm n t
      have e1 : h.1 = 4 ∧ h.2.2.1 = n := by cases ht; exact ⟨rfl, rfl⟩
      have er : room l (f + 1) (.mk 4 nm n [t]) = ((room l f t).1, (room l f t).2 * n.toNat) := by
        conv => lhs; unfold room
        rw [if_neg (by decide), if_pos rfl]
      have hr := room_le hg
      have hp := p16 f (by omega)
      rw [er] at k
      rw [e1.1]
      refine ⟨(fun hc => by cases hc), fun _ => ⟨fun _ => ⟨h.2.2.2, sA.ld (k := 0) rfl 3, ?_⟩, (fun hc => by cases hc)⟩⟩
      have hx : [t][0]? = some t := rfl
      refine ht.kid hx fun ad g hgi h1' h2' => ⟨_, _, _, g.2.2.2, ⟨lf sA.frno h2', lf sA.frno (h1' 1 _ rfl), lf sA.frno (h1' 2 _ rfl), lf sA.frno (h1' 3 _ rfl), trivial⟩, ?_⟩
      refine ih g t A _ (by omega) hg (RdS.more hs sA.frno) (hgi.more sA.frno) fun I fI => ⟨_, _, rfl, h.2.2.1, (sA.more fI).ld (k := 0) rfl 2, ?_⟩
      have ew : w64 (((room l f t).2 : Int) * h.2.2.1) = (((room l f t).2 * n.toNat : Nat) : Int) := by
        rw [e1.2]
        obtain ⟨m, rfl⟩ : ∃ m : Nat, n = (m : Int) := ⟨n.toNat, by omega⟩
        rw [Int.toNat_natCast]
        have : (room l f t).2 * m ≤ 65536 * 16 := Nat.mul_le_mul (by omega) (by omega)
        rw [← Int.natCast_mul]
        exact wid (by omega) (by omega)
      rw [ew]
      exact k I (sA.frno.trans fI)
    | rcd hs' h0 h8 hg =>
      rename_i nm n kids x
      have e1 : h.1 = 3 ∧ h.2.1 = nm := by cases ht; exact ⟨rfl, rfl⟩
      have er : room l (f + 1) (.mk 3 nm n kids) = ((x.fields.map fun x => (room l f x.2).1).sum, (x.fields.map fun x => (room l f x.2).2).sum) := by
        conv => lhs; unfold room
        rw [if_pos rfl, fieldsS_some hs']
      rw [er] at k
      rw [e1.1]
      have hp := p16 f (by omega)
      refine ⟨fun _ => ⟨_, sA.ld (k := 0) rfl 1, ?_⟩, (fun hc => by cases hc)⟩
      rw [e1.2]
      refine fieldsS_ok hl (RdS.more hs sA.frno) fun y B fB hy => ⟨y, rfl, ?_⟩
      rw [fieldsS_some hs'] at hy
      have hyn := hy.len
      refine ⟨fun c p t C m => ∃ j : Nat, t = (j : Int) ∧ j ≤ x.fields.length ∧ m = x.fields.length - j ∧ Fr no B C ∧ c = ((((x.fields.take j).map fun x => (room l f x.2).1).sum : Nat) : Int) ∧ p = ((((x.fields.take j).map fun x => (room l f x.2).2).sum : Nat) : Int), ⟨_, 0, rfl, Nat.zero_le _, rfl, Fr.refl _ _, rfl, rfl⟩, ?_⟩
      rintro c p t C m ⟨j, rfl, hj, rfl, fC, rfl, rfl⟩ scr
      refine ⟨fun hlt => ?_, fun hge => ?_⟩
      · have hj' : j < x.fields.length := by have := dlt hlt; omega
        have hx : x.fields[j]? = some x.fields[j] := List.getElem?_eq_getElem hj'
        have htk : x.fields.take (j + 1) = x.fields.take j ++ [x.fields[j]] := List.take_succ_eq_append_getElem hj'
        generalize x.fields[j] = z at hx htk
        have hz := hg z (List.mem_of_getElem? hx)
        have hrz := room_le hz
        have s1 := sum_le (xs := x.fields.take j) (g := fun x => (room l f x.2).1) (B := 65536) fun y hy => Nat.le_trans (room_le (hg y (List.mem_of_mem_take hy))).1 hp
        have s2 := sum_le (xs := x.fields.take j) (g := fun x => (room l f x.2).2) (B := 65536) fun y hy => Nat.le_trans (room_le (hg y (List.mem_of_mem_take hy))).2 hp
        rw [List.length_take] at s1 s2
        have m8 : min j x.fields.length * 65536 ≤ 8 * 65536 := Nat.mul_le_mul_right _ (by omega)
        refine RdX.at FlHF (by decide) hy hx fun ad q hq h1 h2 => ⟨_, _, _, _, q.2.2.2.2, ⟨lf fC h2, lf fC (h1 1 _ rfl), lf fC (h1 2 _ rfl), lf fC (h1 3 _ rfl), lf fC (h1 4 _ rfl), trivial⟩, ?_⟩
        intro bF F hF
        have sF := (Sym.start C).newb (cs := [.string ⟨#[]⟩, .int .i64 0, .string ⟨#[]⟩, .int .i64 0, .slice none 0 0]) hF
        refine sF.stbs (k := 0) (i := 0) (vs := flHF q) rfl (by simp [flHF, flHT]) (FlHF.one q) fun G sG => ?_
        have fG := fC.trans sG.frno
        refine ⟨_, _, _, q.2.2.2.2, ⟨sG.ld (k := 0) rfl 1, sG.ld (k := 0) rfl 2, sG.ld (k := 0) rfl 3, sG.ld (k := 0) rfl 4, trivial⟩, ?_⟩
        refine ih q.2 z.2 G _ (by omega) hz (RdS.more hs ((sA.frno.trans fB).trans fG)) (hq.2.more fG) fun I fI => ⟨_, _, rfl, x.fields.length - (j + 1), by omega, j + 1, wi (by omega), hj', rfl, fG.trans fI, ?_, ?_⟩
        · rw [htk, List.map_append, List.sum_append, List.map_singleton, List.sum_singleton, ← Int.natCast_add]
          exact wid (by omega) (by omega)
        · rw [htk, List.map_append, List.sum_append, List.map_singleton, List.sum_singleton, ← Int.natCast_add]
          exact wid (by omega) (by omega)
      · have hj' : x.fields.length ≤ j := by have := dge hge; omega
        rw [List.take_of_length_le hj']
        exact k C ((sA.frno.trans fB).trans fC)
theorem check_ok {h : HT} {t : TyD} (hl : l.length ≤ 1048576) (hs : RdS H s l) (ht : InT H h t) (k : ∀ H', Fr no H H' → K (.int .i64 (checkS l t)) H') : CallF Tryd.prog 54 #[.slice s.a s.n s.c, tyV h] H K Z := by
  refine V54_ok ?_
  unfold V54
  intro bT A hA
  have sA := symTy (Sym.start H) hA
  refine ⟨_, _, _, h.2.2.2, ⟨sA.ld (k := 0) rfl 0, sA.ld (k := 0) rfl 1, sA.ld (k := 0) rfl 2, sA.ld (k := 0) rfl 3, trivial⟩, ?_⟩
  have e1 : (1 : Int) = 5 - ((4 : Nat) : Int) := rfl
  rw [e1]
  refine look_ok hl 4 h t A _ (by decide) (RdS.more hs sA.frno) (ht.more sA.frno) fun B fB => ⟨_, rfl, fun hne => ?_, fun heq => ?_⟩
  · have hne' : P10.look l 4 t ≠ 0 := by simpa using hne
    have : checkS l t = P10.look l 4 t := by unfold checkS; rw [if_pos hne']
    rw [this] at k
    exact k B (sA.frno.trans fB)
  · have heq' : P10.look l 4 t = 0 := by simpa using heq
    have hg := look_good heq'
    have sB := sA.more fB
    have hck : checkS l t = if (room l 4 t).1 > 64 ∨ (room l 4 t).2 > 1024 then 4 else 0 := by unfold checkS; rw [if_neg (fun h => h heq')]
    rw [hck] at k
    refine ⟨_, _, _, h.2.2.2, ⟨sB.ld (k := 0) rfl 0, sB.ld (k := 0) rfl 1, sB.ld (k := 0) rfl 2, sB.ld (k := 0) rfl 3, trivial⟩, ?_⟩
    refine room_ok hl 4 h t B _ (by decide) hg (RdS.more hs sB.frno) (ht.more sB.frno) fun C fC => ⟨_, _, rfl, fun h1 => ?_, fun h1 => ⟨fun h2 => ?_, fun h2 => ?_⟩⟩
    · have := of_decide_eq_true h1
      rw [if_pos (.inl (by omega))] at k
      exact k C (sB.frno.trans fC)
    · have := of_decide_eq_true h2
      rw [if_pos (.inr (by omega))] at k
      exact k C (sB.frno.trans fC)
    · have g1 := of_decide_eq_false h1
      have g2 := of_decide_eq_false h2
      rw [if_neg (by omega)] at k
      exact k C (sB.frno.trans fC)
end
end Go.Proofs.YtigbdoicgdmliaaDoor.C10

