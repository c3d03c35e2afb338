/- weftref14: parts, Read, Base, Of, Cell, Object. -/
import Derived.Test.YthaejcmllibeoaaDoorC14D
set_option linter.unusedVariables false
set_option linter.unusedSimpArgs false
-- tNode: 37
-- rParts: 64
-- rRead: 40
-- rBase: 44
-- rOf: 37
-- rCell: 39
-- rObject: 42
namespace Go.Proofs.YthaejcmllibeoaaDoor.C14
open Go Go.V Go.Proofs Go.Proofs.YthaejcmllibeoaaDoor.N14 Go.Proofs.YthaejcmllibeoaaDoor.C01 Go.Proofs.YthaejcmllibeoaaDoor.P14 Go.Proofs.YthaejcmllibeoaaDoor.BldI
attribute [local irreducible] Cvt ExtF CallF hrun App MkS
/-- the cell's number at the end -/
def cellOf : List UInt8 → Int
  | 43 :: r => (readL r).1
  | _ => -1
theorem cellOf_ne {m : UInt8} {r : List UInt8} (h : m ≠ 43) : cellOf (m :: r) = -1 := by
  unfold cellOf
  split
  · rename_i h'
    exact absurd (List.cons.inj h').1 h
  · rfl
theorem cellOf_eq (r : List UInt8) : cellOf (43 :: r) = (readL r).1 := rfl
theorem parts2_plus {r : List UInt8} : parts2 (43 :: r) = ([], [], (readL r).1) := by
  unfold parts2
  simp
theorem parts2_nil : parts2 [] = ([], [], -1) := rfl
theorem parts2_mark {m : UInt8} {r : List UInt8} (h : m ≠ 43) : parts2 (m :: r) = ([m], splA r, cellOf (if m = 40 ∧ splB r = [41] then [] else splB r)) := by
  unfold parts2
  simp only
  rw [if_pos h]
  rfl
theorem partsL_tilde {l r : List UInt8} (h : splB l = 126 :: r) : partsL l = (splA l, (readL (splA r)).1, parts2 (splB r)) := by
  unfold partsL
  rw [h]
  rfl
theorem partsL_no {l : List UInt8} (h : ∀ r, splB l ≠ 126 :: r) : partsL l = (splA l, 0, parts2 (splB l)) := by
  unfold partsL
  split
  · rename_i r hr
    exact absurd hr (h r)
  · rfl
theorem u8_is {m : UInt8} {n : Nat} (hn : n < 256) : ((((m.toNat : Int)) == (n : Int)) = true) ↔ m = UInt8.ofNat n := by
  rw [beq_iff_eq]
  constructor
  · intro h
    apply UInt8.toNat_inj.1
    rw [UInt8.toNat_ofNat']
    omega
  · rintro rfl
    rw [UInt8.toNat_ofNat']
    omega
theorem u8_43 {m : UInt8} : (((m.toNat : Int)) == 43) = true ↔ m = 43 := u8_is (n := 43) (by decide)
theorem u8_126 {m : UInt8} : (((m.toNat : Int)) == 126) = true ↔ m = 126 := u8_is (n := 126) (by decide)
section
variable {H : Hp} {K : Value → Hp → Prop} {Z : List PanicEntry → Hp → Prop}
set_option maxRecDepth 10000 in
theorem parts_ok {l : List UInt8} (hl : l.length ≤ 1000000000) (k : K (.tuple #[.string (str (partsL l).1), .int .i64 (partsL l).2.1, .string (str (partsL l).2.2.1), .string (str (partsL l).2.2.2.1), .int .i64 (partsL l).2.2.2.2]) H) : CallF Tryd.prog 64 #[.string (str l)] H K Z := by
  refine V64_ok ?_
  unfold V64
  have hB := splB_le l
  refine rsplit_ok hl ⟨_, _, rfl, fun rest copied A => ∃ lr : List UInt8, A = H ∧ rest = str lr ∧ lr.length ≤ l.length ∧ partsL l = (splA l, copied, parts2 lr), ?_, fun t A => A = H ∧ (t = true ↔ ∃ r, splB l = 126 :: r), ?_, fun hne => ?_, fun he => ⟨rfl, ?_⟩⟩
  · rintro _ copied H ⟨lr, rfl, rfl, hlr, hp⟩ scr
    have hBr := splB_le lr
    refine ⟨fun rest mark tail A => ∃ l1 lm lt : List UInt8, A = H ∧ rest = str l1 ∧ mark = str lm ∧ tail = str lt ∧ l1.length ≤ l.length ∧ parts2 lr = (lm, lt, cellOf l1), ?_, fun t A => A = H ∧ (t = true ↔ ∃ m r, lr = m :: r ∧ m ≠ 43), ?_, fun hne => ?_, fun he => ⟨rfl, ?_⟩⟩
    · rintro _ _ _ H ⟨l1, lm, lt, rfl, rfl, rfl, rfl, hl1, hp2⟩ scr1
      have fin : K (.tuple #[.string (str (splA l)), .int .i64 copied, .string (str lm), .string (str lt), .int .i64 (cellOf l1)]) H := by
        rw [hp, hp2] at k
        exact k
      rw [str_nil, beq_str]
      refine ⟨fun hne => ?_, fun he => ?_⟩
      · have hne' : l1 ≠ [] := by simpa using hne
        obtain ⟨m, r, rfl⟩ : ∃ m r, l1 = m :: r := by
          cases l1 with
          | nil => exact absurd rfl hne'
          | cons m r => exact ⟨m, r, rfl⟩
        refine IxS.mk (i := 0) rfl ⟨fun h => ?_, fun h => ?_⟩
        · have hm : m = 43 := u8_43.1 h
          subst hm
          refine SlS.from (lo := 1) (by simp) ?_
          have e : (str (((43 : UInt8) :: r).drop 1)) = str r := rfl
          rw [e]
          refine rread_ok (by simp only [List.length_cons] at hl1; omega) ⟨_, _, rfl, ?_⟩
          exact fin
        · have hm : m ≠ 43 := fun e => by rw [u8_43.2 e] at h; cases h
          rw [cellOf_ne hm] at fin
          exact fin
      · have he' : l1 = [] := by simpa using he
        subst he'
        exact fin
    · rintro t H ⟨rfl, ht⟩ scr1
      refine ⟨fun h => ?_, fun h => ⟨lr, [], [], rfl, rfl, rfl, rfl, hlr, ?_⟩⟩
      · obtain ⟨m, r, rfl, hm⟩ := ht.1 h
        have hBr2 := splB_le r
        simp only [List.length_cons] at hlr
        refine SlS.to (hi := 1) (by simp) (SlS.from (lo := 1) (by simp) ?_)
        have e : (str ((m :: r).drop 1)) = str r := rfl
        have e2 : (str ((m :: r).take 1)) = str [m] := rfl
        rw [e, e2]
        refine rsplit_ok (by omega) ⟨_, _, rfl, ?_⟩
        rw [show (⟨#[40]⟩ : ByteArray) = str [40] from rfl, show (⟨#[41]⟩ : ByteArray) = str [41] from rfl, beq_str, beq_str]
        have hp2 := parts2_mark (r := r) hm
        refine ⟨fun h40 => ⟨fun h41 => ⟨[], [m], splA r, rfl, rfl, rfl, rfl, Nat.zero_le _, ?_⟩, fun h41 => ⟨splB r, [m], splA r, rfl, rfl, rfl, rfl, by omega, ?_⟩⟩, fun h40 => ⟨splB r, [m], splA r, rfl, rfl, rfl, rfl, by omega, ?_⟩⟩
        · have g1 : m = 40 := by simpa using h40
          have g2 : splB r = [41] := by simpa using h41
          rw [hp2, if_pos ⟨g1, g2⟩]
        · have g2 : splB r ≠ [41] := by simpa using h41
          rw [hp2, if_neg (fun g => g2 g.2)]
        · have g1 : m ≠ 40 := by simpa using h40
          rw [hp2, if_neg (fun g => g1 g.1)]
      · cases lr with
        | nil => exact parts2_nil
        | cons m r =>
          have hm : m = 43 := by
            apply Classical.byContradiction
            intro hm
            rw [ht.2 ⟨m, r, rfl, hm⟩] at h
            cases h
          subst hm
          exact parts2_plus
    · rw [str_nil, beq_str] at hne
      have hne' : lr ≠ [] := by simpa using hne
      obtain ⟨m, r, rfl⟩ : ∃ m r, lr = m :: r := by
        cases lr with
        | nil => exact absurd rfl hne'
        | cons m r => exact ⟨m, r, rfl⟩
      refine IxS.mk (i := 0) rfl ⟨rfl, ?_⟩
      have := u8_43 (m := m)
      constructor
      · intro h
        refine ⟨m, r, rfl, fun e => ?_⟩
        have := this.2 e
        simp only [bne] at h
        rw [this] at h
        cases h
      · rintro ⟨m', r', e, hm⟩
        cases e
        cases hb : (((m.toNat : Int)) == 43) with
        | true => exact absurd (this.1 hb) hm
        | false => simp only [bne, hb]; rfl
    · rw [str_nil, beq_str] at he
      have he' : lr = [] := by simpa using he
      subst he'
      constructor
      · intro h; cases h
      · rintro ⟨m, r, e, _⟩; cases e
  · rintro t H ⟨rfl, ht⟩ scr
    refine ⟨fun h => ?_, fun h => ⟨splB l, rfl, rfl, hB, partsL_no fun r hr => ?_⟩⟩
    · obtain ⟨r, hr⟩ := ht.1 h
      rw [hr] at hB ⊢
      simp only [List.length_cons] at hB
      have hBr := splB_le r
      have hAr := splA_le r
      refine SlS.from (lo := 1) (by simp) ?_
      have e : (str (((126 : UInt8) :: r).drop 1)) = str r := rfl
      rw [e]
      exact rsplit_ok (by omega) ⟨_, _, rfl, rread_ok (by omega) ⟨_, _, rfl, splB r, rfl, rfl, by omega, partsL_tilde hr⟩⟩
    · rw [ht.2 ⟨r, hr⟩] at h
      cases h
  · rw [str_nil, beq_str] at hne
    have hne' : splB l ≠ [] := by simpa using hne
    obtain ⟨m, r, hmr⟩ : ∃ m r, splB l = m :: r := by
      cases hc : splB l with
      | nil => exact absurd hc hne'
      | cons m r => exact ⟨m, r, rfl⟩
    rw [hmr]
    refine IxS.mk (i := 0) rfl ⟨rfl, ?_⟩
    have := u8_126 (m := m)
    constructor
    · intro h
      have hm : m = 126 := this.1 h
      exact ⟨r, by rw [hm]⟩
    · rintro ⟨r', e⟩
      cases e
      rfl
  · rw [str_nil, beq_str] at he
    have he' : splB l = [] := by simpa using he
    constructor
    · intro h; cases h
    · rintro ⟨r, e⟩
      rw [he'] at e
      cases e
theorem FlNd : Fl ndV 6 := ⟨fun _ => rfl, ndV_one⟩
theorem parts_sm {l : List UInt8} : (partsL l).1.length ≤ l.length ∧ (partsL l).2.2.2.1.length ≤ l.length := by
  have hA := splA_le l
  have hB := splB_le l
  have key : ∀ lr : List UInt8, lr.length ≤ l.length → (parts2 lr).2.1.length ≤ l.length := by
    intro lr hlr
    cases lr with
    | nil => exact Nat.zero_le _
    | cons m r =>
      simp only [List.length_cons] at hlr
      by_cases hm : m = 43
      · subst hm
        rw [parts2_plus]
        exact Nat.zero_le _
      · rw [parts2_mark hm]
        have := splA_le r
        show (splA r).length ≤ _
        omega
  by_cases h : ∃ r, splB l = 126 :: r
  · obtain ⟨r, hr⟩ := h
    rw [partsL_tilde hr]
    rw [hr] at hB
    simp only [List.length_cons] at hB
    have := splB_le r
    exact ⟨hA, key _ (by omega)⟩
  · rw [partsL_no (fun r hr => h ⟨r, hr⟩)]
    exact ⟨hA, key _ hB⟩
theorem cands_sm {l : List UInt8} {a : Nd} (hl : l.length ≤ 1048576) (h : a ∈ cands l) : Sm a := by
  obtain ⟨h1, h2⟩ := parts_sm (l := l)
  unfold cands at h
  simp only [List.mem_cons, List.not_mem_nil, or_false] at h
  unfold Sm
  rcases h with rfl | rfl | rfl | rfl | rfl | rfl | rfl <;> simp only [List.length_nil] <;> omega
theorem find_at {τ : Type} {p : τ → Bool} : ∀ {l : List τ} {j : Nat} {y : τ}, (∀ i x, i < j → l[i]? = some x → p x = false) → l[j]? = some y → p y = true → l.find? p = some y
  | [], _, _, _, h, _ => by simp at h
  | a :: l, 0, y, _, h, hp => by
    simp only [List.getElem?_cons_zero, Option.some.injEq] at h
    subst h
    rw [List.find?_cons, hp]
  | a :: l, j + 1, y, hf, h, hp => by
    rw [List.find?_cons, hf 0 a (by omega) rfl]
    exact find_at (l := l) (j := j) (fun i x hi hx => hf (i + 1) x (by omega) (by rw [List.getElem?_cons_succ]; exact hx)) (by rw [List.getElem?_cons_succ] at h; exact h) hp
/-- a node read at an address -/
theorem ldA {H : Hp} {s : Sl} {l : List Nd} {i : Nat} {a : Nd} {P : Int → ByteArray → Int → ByteArray → Int → Int → Prop} (h : Rd ndV 6 H s l) (hx : l[i]? = some a) (k : P a.kind (str a.fn) a.copy (str a.name) a.n a.cell) :
    IxA s.a s.n (i : Int) 6 fun ad => ∃ x_a : Int, ∃ x_b : ByteArray, ∃ x_c : Int, ∃ x_d : ByteArray, ∃ x_e : Int, ∃ x_f : Int, (hcell H ad = some (.int .i64 x_a) ∧ hcell H (Addr.add ad 1) = some (.string x_b) ∧ hcell H (Addr.add ad 2) = some (.int .i64 x_c) ∧ hcell H (Addr.add ad 3) = some (.string x_d) ∧
      hcell H (Addr.add ad 4) = some (.int .i64 x_e) ∧ hcell H (Addr.add ad 5) = some (.int .i64 x_f) ∧ True) ∧ P x_a x_b x_c x_d x_e x_f :=
  h.ix (by decide) FlNd (by omega) (by rw [Int.toNat_natCast]; exact hx) fun ad h1 h2 => ⟨_, _, _, _, _, _, ⟨h2, h1 1 _ rfl, h1 2 _ rfl, h1 3 _ rfl, h1 4 _ rfl, h1 5 _ rfl, trivial⟩, k⟩
set_option maxRecDepth 10000 in
theorem rreadX_ok {l : List UInt8} (hl : l.length ≤ 1048576) (k : ∀ H', Fr no H H' → K (.tuple #[ndA (rres (readN l)).1, .int .i64 (rres (readN l)).2]) H') : CallF Tryd.prog 40 #[.string (str l)] H K Z := by
  refine V40_ok ?_
  unfold V40
  rw [← rreadN_eq] at k
  intro b A hA
  have s0 := (Sym.start H).newb (cs := ndV zN) hA
  have hsz := parts_sm (l := l)
  refine parts_ok (by omega) ⟨_, _, _, _, _, rfl, rread_ok (by omega) ⟨_, _, rfl, ?_⟩⟩
  intro b1 B hB
  have s1 : Sym H no B [arr ndV 37 6 ⟨some ⟨b1, 0, none⟩, 7, 7⟩ (cands l), blk b (ndV zN) 37] := s0.lit (l := cands l) FlNd (by decide) hB rfl
  refine ⟨fun t C m => ∃ j : Nat, t = (j : Int) ∧ j ≤ 7 ∧ m = 7 - j ∧ Sym H no C [arr ndV 37 6 ⟨some ⟨b1, 0, none⟩, 7, 7⟩ (cands l), blk b (ndV zN) 37] ∧
      ∀ i x, i < j → (cands l)[i]? = some x → decide (RightP x ∧ textL x = l ∧ ((partsL l).2.2.1 ≠ [] ∨ x.kind = 5)) = false, ⟨_, 0, rfl, by omega, rfl, s1, fun i x hi => absurd hi (Nat.not_lt_zero _)⟩, ?_⟩
  rintro t C m ⟨j, rfl, hj, rfl, s2, hall⟩ scr
  have hlen : (cands l).length = 7 := rfl
  refine ⟨fun hlt => ?_, fun hge => ?_⟩
  · have hjl : j < 7 := by have := of_decide_eq_true hlt; omega
    have hx : (cands l)[j]? = some ((cands l)[j]'(by omega)) := List.getElem?_eq_getElem _
    generalize (cands l)[j]'(by omega) = a at hx
    have hsm := cands_sm hl (List.mem_of_getElem? hx)
    have hr := s2.rd (k := 0) FlNd (by decide) rfl
    -- the next one
    have next : ∀ {D : Hp}, Sym H no D [arr ndV 37 6 ⟨some ⟨b1, 0, none⟩, 7, 7⟩ (cands l), blk b (ndV zN) 37] → ¬ (RightP a ∧ textL a = l ∧ ((partsL l).2.2.1 ≠ [] ∨ a.kind = 5)) → ∃ m2, m2 < 7 - j ∧ ∃ j' : Nat, w64 ((j : Int) + 1) = (j' : Int) ∧ j' ≤ 7 ∧ m2 = 7 - j' ∧ Sym H no D [arr ndV 37 6 ⟨some ⟨b1, 0, none⟩, 7, 7⟩ (cands l), blk b (ndV zN) 37] ∧
        ∀ i x, i < j' → (cands l)[i]? = some x → decide (RightP x ∧ textL x = l ∧ ((partsL l).2.2.1 ≠ [] ∨ x.kind = 5)) = false := by
      intro D s hno
      refine ⟨7 - (j + 1), by omega, j + 1, wi (by omega), hjl, rfl, s, fun i x hi hx' => ?_⟩
      by_cases hij : i = j
      · subst hij
        rw [hx] at hx'
        cases hx'
        exact decide_eq_false hno
      · exact hall i x (by omega) hx'
    -- it is this one
    have found : ∀ {D : Hp}, Sym H no D [arr ndV 37 6 ⟨some ⟨b1, 0, none⟩, 7, 7⟩ (cands l), blk b (ndV zN) 37] → (RightP a ∧ textL a = l ∧ ((partsL l).2.2.1 ≠ [] ∨ a.kind = 5)) → StR b a (.int .i64 0) D K := by
      intro D s hyes
      refine st_ret s (k := 1) rfl fun H' s' => ?_
      have := k H' s'.frno
      unfold rreadN at this
      rw [find_at hall hx (decide_eq_true hyes)] at this
      exact this
    refine ldA hr hx (rntext_ok hsm fun D fD => ?_)
    have s3 := s2.more fD
    have hr3 := s3.rd (k := 0) FlNd (by decide) rfl
    by_cases hrp : RightP a
    · rw [if_pos hrp]
      refine ⟨_, _, rfl, fun _ => ⟨fun heq => ⟨fun hmk => ?_, fun hmk => ?_⟩, fun hne => next s3 ?_⟩, (fun h => by cases h)⟩
      · rw [beq_str] at heq
        have heq' : textL a = l := by simpa using heq
        rw [str_nil, beq_str] at hmk
        have hmk' : (partsL l).2.2.1 ≠ [] := by simpa using hmk
        exact ldA hr3 hx (found s3 ⟨hrp, heq', .inl hmk'⟩)
      · rw [beq_str] at heq
        have heq' : textL a = l := by simpa using heq
        rw [str_nil, beq_str] at hmk
        have hmk' : (partsL l).2.2.1 = [] := by simpa using hmk
        refine hr3.ix (by decide) FlNd (by omega) (by rw [Int.toNat_natCast]; exact hx) fun ad h1 h2 => ⟨_, h2, fun h5 => ?_, fun h5 => next s3 ?_⟩
        · exact ldA hr3 hx (found s3 ⟨hrp, heq', .inr (by simpa using h5)⟩)
        · rintro ⟨_, _, h | h⟩
          · exact h hmk'
          · rw [h] at h5
            cases h5
      · rw [beq_str] at hne
        have hne' : textL a ≠ l := by simpa using hne
        exact fun h => hne' h.2.1
    · rw [if_neg hrp]
      exact ⟨_, _, rfl, (fun h => by cases h), fun _ => next s3 fun h => hrp h.1⟩
  · have hjl : j = 7 := by have := of_decide_eq_false hge; omega
    subst hjl
    have hno : rreadN l = none := by
      unfold rreadN
      rw [List.find?_eq_none]
      intro x hx
      obtain ⟨i, hi⟩ := List.getElem?_of_mem hx
      have := hall i x (by have := (List.getElem?_eq_some_iff.1 hi).1; omega) hi
      rw [this]
      simp
    refine st_ret (a := zN) s2 (k := 1) rfl fun H' s' => ?_
    have := k H' s'.frno
    rw [hno] at this
    exact this
theorem rof_ok {kind n : Int} {fn name : List UInt8} (h1 : fn.length ≤ 1048576) (h2 : name.length ≤ 1048576) (k : ∀ H', Fr no H H' → K (.string (str (ofL ⟨kind, fn, 0, name, n, -1⟩))) H') :
    CallF Tryd.prog 37 #[.int .i64 kind, .string (str fn), .string (str name), .int .i64 n] H K Z := by
  refine V37_ok ?_
  unfold V37
  refine rntext_ok (a := ⟨kind, fn, 0, name, n, -1⟩) ⟨h1, h2⟩ fun H' f => ?_
  have hk := k H' f
  unfold ofL at hk
  split
  · rename_i h
    rw [if_pos h] at hk
    exact ⟨_, _, rfl, hk⟩
  · rename_i h
    rw [if_neg h] at hk
    exact ⟨_, _, rfl, hk⟩
theorem rbase_ok {l : List UInt8} (hl : l.length ≤ 1048576) (k : ∀ H', Fr no H H' → K (.string (str (baseL l))) H') : CallF Tryd.prog 44 #[.string (str l)] H K Z := by
  refine V44_ok ?_
  unfold V44
  refine rreadX_ok hl fun A fA => ⟨_, _, _, _, _, _, _, rfl, ?_⟩
  intro bN B hB
  have s0 := ((Sym.start H).more fA).newb (cs := ndV zN) hB
  refine s0.stbs (k := 0) (i := 0) (vs := ndV (rres (readN l)).1) rfl (by simp [ndV]) (ndV_one _) fun C s1 => ?_
  replace s1 : Sym H no C [blk bN (ndV (rres (readN l)).1) 37] := s1
  unfold baseL at k
  cases hr : readN l with
  | none =>
    rw [hr] at s1 k
    exact ⟨fun _ => k C s1.frno, (fun h => by cases h)⟩
  | some a =>
    rw [hr] at s1 k
    have hrp := (readN_iff.1 hr).1
    have hsm := read_sm hl hr
    refine ⟨(fun h => by cases h), fun _ => ?_⟩
    refine s1.stb (k := 0) (i := 2) rfl (by simp [ndV]) rfl fun D s2 => ?_
    replace s2 : Sym H no D [blk bN (ndV { a with copy := 0 }) 37] := s2
    refine ld6 (s2.get (k := 0) rfl) (rntext_ok (a := { a with copy := 0 }) hsm fun E fE => ?_)
    rw [if_pos (right_copy hrp)]
    exact ⟨_, _, rfl, k E (s2.more fE).frno⟩
theorem rcell_ok {l : List UInt8} {c : Int} (hl : l.length ≤ 1048576) (k : ∀ H', Fr no H H' → K (.string (str (cellL l c))) H') : CallF Tryd.prog 39 #[.string (str l), .int .i64 c] H K Z := by
  refine V39_ok ?_
  unfold V39
  refine rreadX_ok hl fun A fA => ⟨_, _, _, _, _, _, _, rfl, ?_⟩
  intro bN B hB
  have s0 := ((Sym.start H).more fA).newb (cs := ndV zN) hB
  refine s0.stbs (k := 0) (i := 0) (vs := ndV (rres (readN l)).1) rfl (by simp [ndV]) (ndV_one _) fun C s1 => ?_
  replace s1 : Sym H no C [blk bN (ndV (rres (readN l)).1) 37] := s1
  unfold cellL at k
  cases hr : readN l with
  | none =>
    rw [hr] at s1 k
    exact ⟨fun _ => k C s1.frno, (fun h => by cases h)⟩
  | some a =>
    rw [hr] at s1 k
    have hsm := read_sm hl hr
    simp only at k
    have nd : Blk C bN (ndV a) 37 := s1.get (k := 0) rfl
    refine ⟨(fun h => by cases h), fun _ => ⟨_, nd.ld 0, fun h5 => ?_, fun h5 => ⟨_, nd.ld 5, fun hc => ?_, fun hc => ⟨fun hk => ?_, fun hk => ?_⟩⟩⟩⟩
    · have := k C s1.frno
      rw [if_pos (.inl (of_decide_eq_true h5))] at this
      exact this
    · have := k C s1.frno
      rw [if_pos (.inr (.inl (by simpa using hc)))] at this
      exact this
    · have := k C s1.frno
      rw [if_pos (.inr (.inr (of_decide_eq_true hk)))] at this
      exact this
    · refine s1.stb (k := 0) (i := 5) rfl (by simp [ndV]) rfl fun D s2 => ?_
      replace s2 : Sym H no D [blk bN (ndV { a with cell := c }) 37] := s2
      refine ld6 (s2.get (k := 0) rfl) (rntext_ok (a := { a with cell := c }) hsm fun E fE => ?_)
      have := k E (s2.more fE).frno
      have hcc : a.cell = -1 := by simpa using hc
      rw [if_neg (by have := of_decide_eq_false h5; have := of_decide_eq_false hk; omega)] at this
      unfold ofL at this
      split
      · rename_i h
        rw [if_pos h] at this
        exact ⟨_, _, rfl, this⟩
      · rename_i h
        rw [if_neg h] at this
        exact ⟨_, _, rfl, this⟩
theorem robject_ok {l : List UInt8} (hl : l.length ≤ 1048576) (k : ∀ H', Fr no H H' → K (.tuple #[.string (str (objL l).1), .int .i64 (objL l).2.1, .bool (objL l).2.2]) H') : CallF Tryd.prog 42 #[.string (str l)] H K Z := by
  refine V42_ok ?_
  unfold V42
  refine rreadX_ok hl fun A fA => ⟨_, _, _, _, _, _, _, rfl, ?_⟩
  intro bN B hB
  have s0 := ((Sym.start H).more fA).newb (cs := ndV zN) hB
  refine s0.stbs (k := 0) (i := 0) (vs := ndV (rres (readN l)).1) rfl (by simp [ndV]) (ndV_one _) fun C s1 => ?_
  replace s1 : Sym H no C [blk bN (ndV (rres (readN l)).1) 37] := s1
  unfold objL at k
  cases hr : readN l with
  | none =>
    rw [hr] at s1 k
    exact ⟨fun _ => k C s1.frno, (fun h => by cases h)⟩
  | some a =>
    rw [hr] at s1 k
    have hrp := (readN_iff.1 hr).1
    have hsm := read_sm hl hr
    simp only at k
    have nd : Blk C bN (ndV a) 37 := s1.get (k := 0) rfl
    have hneg : a.cell < 0 ↔ a.cell = -1 := by
      have := hrp.2.2
      unfold Cnt at this
      omega
    refine ⟨(fun h => by cases h), fun _ => ⟨_, nd.ld 5, fun hc => ?_, fun hc => ⟨_, nd.ld 5, ?_⟩⟩⟩
    · have := k C s1.frno
      rw [if_pos (hneg.1 (of_decide_eq_true hc))] at this
      exact this
    · refine s1.stb (k := 0) (i := 5) rfl (by simp [ndV]) rfl fun D s2 => ?_
      replace s2 : Sym H no D [blk bN (ndV { a with cell := -1 }) 37] := s2
      refine ld6 (s2.get (k := 0) rfl) (rntext_ok (a := { a with cell := -1 }) hsm fun E fE => ?_)
      rw [if_pos (right_cell hrp)]
      refine ⟨_, _, rfl, ?_⟩
      have := k E (s2.more fE).frno
      rw [if_neg (fun h => of_decide_eq_false hc (hneg.2 h))] at this
      exact this
end
end Go.Proofs.YthaejcmllibeoaaDoor.C14

