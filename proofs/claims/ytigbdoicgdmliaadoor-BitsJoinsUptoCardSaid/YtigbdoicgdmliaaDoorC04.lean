/- bits: what a set is read for. -/
import Derived.Test.YtigbdoicgdmliaaDoorN04
import Derived.Test.YtigbdoicgdmliaaDoorP04D
import Derived.Test.YtigbdoicgdmliaaDoorS04
set_option linter.unusedVariables false
set_option linter.unusedSimpArgs false
-- tSet: 26
-- tBk: 70
-- tBks: 24
-- tInt: 3
-- tBool: 4
-- ones: 40
-- tz: 68
-- blist: 39
-- len: 13
-- blocks: 14
-- same: 16
-- equal: 41
-- bs: 63
-- find: 35
-- find1: 64
-- has: 11
namespace Go.Proofs.YtigbdoicgdmliaaDoor.C04
open Go Go.V Go.Proofs Go.Proofs.YtigbdoicgdmliaaDoor.N04 Go.Proofs.YtigbdoicgdmliaaDoor.P04
attribute [local irreducible] Cvt ExtF CallF hrun App MkS callV
def flK (x : Bk) : List Value := [.int .i64 (x.1 : Int), .int .u64 (x.2 : Int)]
theorem FlK : Fl flK 2 := ⟨fun _ => rfl, fun x v hv => by
  unfold flK at hv
  simp only [List.mem_cons, List.not_mem_nil, or_false] at hv
  rcases hv with rfl | rfl <;> rfl⟩
theorem tyK : TyS Tryd.prog 24 70 2 16 (.agg #[.int .i64 0, .int .u64 0]) := ⟨by kernel_rfl, by kernel_rfl, rfl, by decide⟩
/-- a set in memory -/
def HasS (H : Hp) (p : Addr) (bl : List Bk) : Prop := ∃ s : Sl, hcell H p = some (.slice s.a s.n s.c) ∧ Rd flK 2 H s bl
section
variable {H : Hp} {K : Value → Hp → Prop} {Z : List PanicEntry → Hp → Prop} {p q : Addr} {bl bm : List Bk}
theorem HasS.more {H' : Hp} (h : HasS H p bl) (hf : Fr no H H') : HasS H' p bl := by
  obtain ⟨s, h1, h2⟩ := h
  exact ⟨s, hf.cell h1 fun h => h, h2.more hf⟩
theorem ones_ok {x : Nat} (hx : x < 2 ^ 64) (k : K (.int .i64 (pc 64 x : Int)) H) : CallF Tryd.prog 40 #[.int .u64 (x : Int)] H K Z := by
  refine V40_ok ?_
  unfold V40
  have hm1 : (6148914691236517205 : Int) = ((m4 32 : Nat) : Int) := by decide
  have hm2 : (3689348814741910323 : Int) = ((m16 16 : Nat) : Int) := by decide
  have hm3 : (1085102592571150095 : Int) = ((m256 8 : Nat) : Int) := by decide
  have k1 : m4 32 < 2 ^ 64 := by decide
  have k2 : m16 16 < 2 ^ 64 := by decide
  have k3 : m256 8 < 2 ^ 64 := by decide
  rw [hm1, hm2, hm3]
  have hd : ∀ {y n : Nat}, y < 2 ^ 64 → y / 2 ^ n < 2 ^ 64 := fun h => Nat.lt_of_le_of_lt (Nat.div_le_self _ _) h
  obtain ⟨q1, q2, q3, q4⟩ := ones_eq x
  have b1 := f1_lt hx
  have e1 : IntKind.wrap .u64 ((bitAnd .u64 (Int.fdiv (x : Int) (2 ^ 1)) ((m4 32 : Nat) : Int)) + (bitAnd .u64 (x : Int) ((m4 32 : Nat) : Int))) = ((f1 32 x : Nat) : Int) := by
    rw [fdivN, bAnd (hd hx) k1, bAnd hx k1, ← Int.natCast_add]
    exact wrapN b1
  rw [e1]
  generalize f1 32 x = y1 at *
  have b2 := f2_lt y1
  have b2' : f2 16 y1 < 2 ^ 64 := by omega
  have e2 : IntKind.wrap .u64 ((bitAnd .u64 (Int.fdiv (y1 : Int) (2 ^ 2)) ((m16 16 : Nat) : Int)) + (bitAnd .u64 (y1 : Int) ((m16 16 : Nat) : Int))) = ((f2 16 y1 : Nat) : Int) := by
    rw [fdivN, bAnd (hd b1) k2, bAnd b1 k2, ← Int.natCast_add]
    exact wrapN b2'
  rw [e2]
  generalize f2 16 y1 = y2 at *
  have b3 := f3_lt y2
  have b3' : f3 8 y2 < 2 ^ 64 := by omega
  have e3 : bitAnd .u64 (IntKind.wrap .u64 ((Int.fdiv (y2 : Int) (2 ^ 4)) + (y2 : Int))) ((m256 8 : Nat) : Int) = ((f3 8 y2 : Nat) : Int) := by
    have : y2 / 2 ^ 4 + y2 < 2 ^ 64 := by omega
    rw [fdivN, ← Int.natCast_add, wrapN this, bAnd this k3]
    rfl
  rw [e3]
  generalize f3 8 y2 = y3 at *
  have e4 : IntKind.wrap .u64 ((y3 : Int) + (Int.fdiv (y3 : Int) (2 ^ 8))) = ((a1 y3 : Nat) : Int) := by
    rw [fdivN, ← Int.natCast_add]
    exact wrapN q2
  rw [e4]
  have e5 : IntKind.wrap .u64 (((a1 y3 : Nat) : Int) + (Int.fdiv ((a1 y3 : Nat) : Int) (2 ^ 16))) = ((a2 y3 : Nat) : Int) := by
    rw [fdivN, ← Int.natCast_add]
    exact wrapN q3
  rw [e5]
  have e6 : IntKind.wrap .u64 (((a2 y3 : Nat) : Int) + (Int.fdiv ((a2 y3 : Nat) : Int) (2 ^ 32))) = ((a3 y3 : Nat) : Int) := by
    rw [fdivN, ← Int.natCast_add]
    exact wrapN (Nat.lt_trans q4 (by decide))
  rw [e6, wrap64 (x := ((a3 y3 : Nat) : Int)) (by omega) (by omega), bAnd127 q4, q1]
  exact k
def tabDb : List Int := Lib.deBruijn64tab.map fun (n : Nat) => (n : Int)
theorem tz_ok {x : Nat} (hx : x < 2 ^ 64) (ht : TabH Tryd.prog H "math/bits.deBruijn64tab" .u8 tabDb) (k : K (.int .i64 (Lib.ctz 64 x : Int)) H) : CallF Tryd.prog 68 #[.int .u64 (x : Int)] H K Z := by
  have hg : (Tryd.prog.globalNamed "math/bits.deBruijn64tab") = some (S04.lays_tz_ren.g 1) := by kernel_rfl
  refine callF_same (fun w hw => Any7.bits_TrailingZeros64 S04.lays_tz x hx w fun _ => ?_) k
  intro j hj
  have h := ht w hw
  unfold Lib.TabIs World.var? at h
  rw [hg] at h
  simp only [Option.bind_some] at h
  cases hb : w.heap[S04.lays_tz_ren.g 1]? with
  | none => rw [hb] at h; cases h
  | some o =>
    rw [hb] at h
    cases o with
    | cells cs T fr =>
      simp only [Option.some.injEq] at h
      subst h
      show w.cell? ⟨S04.lays_tz_ren.g 1, j, none⟩ = _
      unfold World.cell?
      rw [hb]
      have hj' : j < tabDb.length := by unfold tabDb; rw [List.length_map]; exact hj
      have : (tabDb.map fun z => Value.int .u8 z)[j]? = some (.int .u8 ((Lib.deBruijn64tab.getD j 0 : Nat) : Int)) := by
        unfold tabDb
        rw [List.getElem?_map, List.getElem?_map, List.getElem?_eq_getElem hj, List.getD_eq_getElem?_getD, List.getElem?_eq_getElem hj]
        rfl
      simpa using this
    | _ => cases h
theorem list_ok {s : Sl} (h : hcell H p = some (.slice s.a s.n s.c)) (k : K (.slice s.a s.n s.c) H) : CallF Tryd.prog 39 #[.pointer (some p)] H K Z := by
  refine V39_ok ?_
  unfold V39
  exact ⟨(fun h => by cases h), fun _ => ⟨s, h, k⟩⟩
theorem ixK {s : Sl} {i : Nat} {x : Bk} {Kx : Addr → Prop} (h : Rd flK 2 H s bl) (hx : bl[i]? = some x) (k : ∀ ad, hcell H ad = some (.int .i64 (x.1 : Int)) → hcell H (ad.add 1) = some (.int .u64 (x.2 : Int)) → Kx ad) : IxA s.a s.n (i : Int) 2 Kx :=
  Rd.ix (by decide) FlK h (by omega) (by simpa using hx) fun ad h1 h2 => k ad h2 (h1 1 _ rfl)
theorem blocks_ok (w : Wf bl) (h : HasS H p bl) (k : K (.int .i64 (bl.length : Int)) H) : CallF Tryd.prog 14 #[.pointer (some p)] H K Z := by
  refine V14_ok ?_
  unfold V14
  obtain ⟨s, h1, h2⟩ := h
  have hl := h2.len
  refine list_ok h1 ⟨s, rfl, ?_⟩
  rw [hl]
  exact k
theorem len_ok (w : Wf bl) (hl : (tells bl).length ≤ 1000000) (h : HasS H p bl) (k : ∀ H', Fr no H H' → K (.int .i64 ((tells bl).length : Int)) H') : CallF Tryd.prog 13 #[.pointer (some p)] H K Z := by
  refine V13_ok ?_
  unfold V13
  obtain ⟨s, h1, h2⟩ := h
  have hn := h2.len
  have hbl := len_tells w
  refine list_ok h1 ⟨s, rfl, fun n t A m => ∃ j : Nat, Fr no H A ∧ n = ((tells (bl.take j)).length : Int) ∧ t = (j : Int) ∧ j ≤ bl.length ∧ m = bl.length - j, ⟨_, 0, Fr.refl _ _, rfl, rfl, Nat.zero_le _, rfl⟩, ?_⟩
  rintro n t A m ⟨j, fA, rfl, rfl, hj, rfl⟩ scr
  refine ⟨fun hlt => ?_, fun hge => ?_⟩
  · have hj' : j < bl.length := by have := dlt hlt; omega
    have hx : bl[j]? = some bl[j] := List.getElem?_eq_getElem hj'
    generalize bl[j] = x at hx
    have hxo := w.ok x (List.mem_of_getElem? hx)
    refine ixK (h2.more fA) hx fun ad e1 e2 => ⟨_, _, ⟨e1, e2, trivial⟩, ?_⟩
    intro bB B hB
    have sB := (Sym.start A).newb (cs := [.int .i64 0, .int .u64 0]) hB
    refine sB.stbs (k := 0) (i := 0) (vs := [.int .i64 (x.1 : Int), .int .u64 (x.2 : Int)]) rfl (by simp) (by intro v hv; simp only [List.mem_cons, List.not_mem_nil, or_false] at hv; rcases hv with rfl | rfl <;> rfl) fun C sC => ?_
    refine ⟨_, sC.ld (k := 0) rfl 1, ones_ok hxo.2.1 ⟨_, rfl, bl.length - (j + 1), by omega, j + 1, fA.trans sC.fr, ?_, wi (by omega), hj', rfl⟩⟩
    have ht := tells_snoc hx
    have hl2 := tells_take bl (j + 1)
    rw [ht, List.length_append]
    rw [ht, List.length_append] at hl2
    unfold tell at hl2 ⊢
    rw [bitsL_len] at hl2 ⊢
    rw [wid (by omega) (by omega)]
    omega
  · have : j = bl.length := by have := dge hge; omega
    subst this
    rw [List.take_length]
    exact k A fA
theorem equal_ok {s t : Sl} (h : Rd flK 2 H s bl) (h' : Rd flK 2 H t bm) (hl : bl.length ≤ 1000000) (k : K (.bool (decide (bl = bm))) H) : CallF Tryd.prog 41 #[.slice s.a s.n s.c, .slice t.a t.n t.c] H K Z := by
  refine V41_ok ?_
  unfold V41
  have h1 := h.len
  have h2 := h'.len
  refine ⟨fun hne => ?_, fun heq => ?_⟩
  · have : bl ≠ bm := by
      intro e
      subst e
      have : s.n = t.n := by omega
      rw [this] at hne
      simp at hne
    rw [decide_eq_false this] at k
    exact k
  · have hst : s.n = t.n := by
      have : (s.n : Int) = (t.n : Int) := by simpa using heq
      omega
    refine ⟨fun u A m => ∃ j : Nat, A = H ∧ u = (j : Int) ∧ j ≤ bl.length ∧ m = bl.length - j ∧ bl.take j = bm.take j, ⟨_, 0, rfl, rfl, Nat.zero_le _, rfl, rfl⟩, ?_⟩
    rintro u A m ⟨j, rfl, rfl, hj, rfl, he⟩ scr
    refine ⟨fun hlt => ?_, fun hge => ?_⟩
    · have hj' : j < bl.length := by have := dlt hlt; omega
      have hj2 : j < bm.length := by omega
      have hx : bl[j]? = some bl[j] := List.getElem?_eq_getElem hj'
      have hy : bm[j]? = some bm[j] := List.getElem?_eq_getElem hj2
      have t1 : bl.take (j + 1) = bl.take j ++ [bl[j]] := List.take_succ_eq_append_getElem hj'
      have t2 : bm.take (j + 1) = bm.take j ++ [bm[j]] := List.take_succ_eq_append_getElem hj2
      generalize bl[j] = x at hx t1
      generalize bm[j] = y at hy t2
      refine ixK h hx fun ad e1 e2 => ⟨_, _, ⟨e1, e2, trivial⟩, ixK h' hy fun ad' e3 e4 => ⟨_, _, ⟨e3, e4, trivial⟩, fun hne => ?_, fun heq => ?_⟩⟩
      · have : bl ≠ bm := by
          rintro rfl
          rw [hx] at hy
          cases hy
          simp at hne
        rw [decide_eq_false this] at k
        exact k
      · have hxy : x = y := by
          simp only [Bool.and_true, Bool.not_eq_false', Bool.and_eq_true, beq_iff_eq] at heq
          exact Prod.ext (by omega) (by omega)
        refine ⟨bl.length - (j + 1), by omega, j + 1, rfl, wi (by omega), hj', rfl, ?_⟩
        rw [t1, t2, he, hxy]
    · have hj' : j = bl.length := by have := dge hge; omega
      subst hj'
      rw [List.take_length, List.take_of_length_le (by omega)] at he
      rw [decide_eq_true he] at k
      exact k
theorem same_ok (w : Wf bl) (hl : (tells bl).length ≤ 1000000) (h : HasS H p bl) (h' : HasS H q bm) (k : K (.bool (decide (bl = bm))) H) : CallF Tryd.prog 16 #[.pointer (some p), .pointer (some q)] H K Z := by
  refine V16_ok ?_
  unfold V16
  obtain ⟨s, h1, h2⟩ := h
  obtain ⟨t, h3, h4⟩ := h'
  have hbl := len_tells w
  exact list_ok h1 ⟨s, rfl, list_ok h3 ⟨t, rfl, equal_ok h2 h4 (by omega) ⟨_, rfl, k⟩⟩⟩
theorem okF1 : fnOk Tryd.prog 64 = true := by kernel_rfl
theorem cmp_ok {x : Bk} {at' : Nat} (hx : x.1 ≤ 4194304) (ha : at' ≤ 288230376151711744) (k : ∀ H', Fr no H H' → K (.int .i64 ((x.1 : Int) - (at' : Int))) H') : callV Tryd.prog (.func (.func 64) #[] #[]) [.agg #[.int .i64 (x.1 : Int), .int .u64 (x.2 : Int)], .int .i64 (at' : Int)] H K Z := by
  unfold callV
  simp only [okF1, if_true]
  refine V64_ok ?_
  unfold V64
  intro bB A hA
  have sA := (Sym.start H).newb (cs := [.int .i64 (x.1 : Int), .int .u64 (x.2 : Int)]) hA
  refine ⟨_, sA.ld (k := 0) rfl 0, ?_⟩
  rw [wrap64 (by omega) (by omega)]
  exact k A sA.fr
theorem up_at {a b : Nat} {x y : Bk} (w : Wf bl) (h : a < b) (hx : bl[a]? = some x) (hy : bl[b]? = some y) : x.1 < y.1 := by
  obtain ⟨h1, rfl⟩ := List.getElem?_eq_some_iff.1 hx
  obtain ⟨h2, rfl⟩ := List.getElem?_eq_some_iff.1 hy
  exact List.pairwise_iff_getElem.1 w.up a b h1 h2 h
theorem find_ok {at' : Nat} (w : Wf bl) (hl : (tells bl).length ≤ 1000000) (ha : at' ≤ 288230376151711744) (h : HasS H p bl)
    (k : ∀ (i : Nat) (y : Bool) H', Fr no H H' → i ≤ bl.length → (∀ b ∈ bl.take i, b.1 < at') → (y = true → ∃ b, bl[i]? = some b ∧ b.1 = at') → (y = false → ∀ b, bl[i]? = some b → at' < b.1) → K (.tuple #[.int .i64 (i : Int), .bool y]) H') :
    CallF Tryd.prog 35 #[.pointer (some p), .int .i64 (at' : Int)] H K Z := by
  refine V35_ok ?_
  unfold V35
  obtain ⟨s, h1, h2⟩ := h
  have hn := h2.len
  have hbl := len_tells w
  refine ⟨s, h1, ?_⟩
  refine V63_ok ?_
  unfold V63
  refine ⟨fun i j A m => ∃ a b : Nat, Fr no H A ∧ i = (a : Int) ∧ j = (b : Int) ∧ a ≤ b ∧ b ≤ bl.length ∧ m = b - a ∧ (∀ (t : Nat) x, t < a → bl[t]? = some x → x.1 < at') ∧ (∀ (t : Nat) x, b ≤ t → bl[t]? = some x → at' ≤ x.1),
    ⟨_, 0, bl.length, Fr.refl _ _, rfl, by rw [hn], Nat.zero_le _, Nat.le_refl _, rfl, by omega, fun t x ht hx => ?_⟩, ?_⟩
  · have := (List.getElem?_eq_some_iff.1 hx).1
    omega
  rintro i j A m ⟨a, b, fA, rfl, rfl, hab, hb, rfl, hlo, hhi⟩ scr
  refine ⟨fun hlt => ?_, fun hge => ?_⟩
  · have hlt' := dlt hlt
    rw [mid_eq (by omega)]
    have m1 : a ≤ (a + b) / 2 := by omega
    have m2 : (a + b) / 2 < b := by omega
    generalize (a + b) / 2 = c at *
    have hx : bl[c]? = some (bl[c]'(by omega)) := List.getElem?_eq_getElem _
    generalize bl[c]'(by omega) = x at hx
    have hxo := w.ok x (List.mem_of_getElem? hx)
    refine ixK (h2.more fA) hx fun ad e1 e2 => ⟨_, _, ⟨e1, e2, trivial⟩, cmp_ok hxo.2.2 ha fun B fB => ⟨_, rfl, fun hneg => ?_, fun hneg => ?_⟩⟩
    · have hneg' := of_decide_eq_true hneg
      rw [wi (by omega)]
      refine ⟨b - (c + 1), by omega, c + 1, b, fA.trans fB, rfl, rfl, by omega, hb, rfl, fun t y ht hy => ?_, hhi⟩
      rcases Nat.lt_or_ge t c with h | h
      · have := up_at w h hy hx
        omega
      · have : t = c := by omega
        subst this
        rw [hx] at hy
        cases hy
        omega
    · have hneg' := of_decide_eq_false hneg
      refine ⟨c - a, by omega, a, c, fA.trans fB, rfl, rfl, m1, by omega, rfl, hlo, fun t y ht hy => ?_⟩
      rcases Nat.lt_or_ge c t with h | h
      · have := up_at w h hx hy
        omega
      · have : t = c := by omega
        subst this
        rw [hx] at hy
        cases hy
        omega
  · have hab' : a = b := by have := dge hge; omega
    subst hab'
    have ht : ∀ b ∈ bl.take a, b.1 < at' := fun x hx => by
      obtain ⟨t, ht, rfl⟩ := List.getElem_of_mem hx
      rw [List.length_take] at ht
      refine hlo t _ (by omega) ?_
      rw [List.getElem_take]
      exact List.getElem?_eq_getElem _
    refine ⟨fun hin => ?_, fun hin => ?_⟩
    · have hin' : a < bl.length := by have := dlt hin; omega
      have hx : bl[a]? = some (bl[a]'(by omega)) := List.getElem?_eq_getElem _
      generalize bl[a]'(by omega) = x at hx
      have hxo := w.ok x (List.mem_of_getElem? hx)
      have hge := hhi a x (Nat.le_refl _) hx
      refine ixK (h2.more fA) hx fun ad e1 e2 => ⟨_, _, ⟨e1, e2, trivial⟩, cmp_ok hxo.2.2 ha fun B fB => ⟨_, rfl, _, _, rfl, ?_⟩⟩
      refine k a _ B (fA.trans fB) (by omega) ht (fun hy => ⟨x, hx, ?_⟩) fun hy y hy' => ?_
      · have : (x.1 : Int) - at' = 0 := by simpa using hy
        omega
      · rw [hx] at hy'
        cases hy'
        have : ¬ ((x.1 : Int) - at' = 0) := by simpa using hy
        omega
    · have hin' : bl.length ≤ a := by have := dge hin; omega
      refine ⟨_, _, rfl, k a false A fA (by omega) ht (fun h => by cases h) fun _ y hy => ?_⟩
      have := (List.getElem?_eq_some_iff.1 hy).1
      omega
theorem td64 (n : Nat) (h : n ≤ 9223372036854775807) : w64 (Int.tdiv (n : Int) 64) = ((n / 64 : Nat) : Int) := by
  rw [Int.tdiv_eq_ediv_of_nonneg (by omega), wrap64 (by omega) (by omega)]
  omega
theorem tm64 (n : Nat) : Int.tmod (n : Int) 64 = ((n % 64 : Nat) : Int) := by
  rw [Int.tmod_eq_emod_of_nonneg (by omega)]
  omega
theorem mn64 (n : Nat) : min (Int.toNat ((n % 64 : Nat) : Int)) (IntKind.bits .u64) = n % 64 := by
  have : IntKind.bits .u64 = 64 := rfl
  rw [this, Int.toNat_natCast]
  omega
theorem mem_at (w : Wf bl) {i : Nat} {b : Bk} {n : Nat} (hb : bl[i]? = some b) (e : b.1 = n / 64) : Mem bl n ↔ b.2.testBit (n % 64) = true := by
  unfold Mem
  rw [← e, P04.get_at w hb]
theorem mem_gap (w : Wf bl) {i n : Nat} (h1 : ∀ b ∈ bl.take i, b.1 < n / 64) (h2 : ∀ b, bl[i]? = some b → n / 64 < b.1) : ¬ Mem bl n := by
  unfold Mem
  rw [get_gap w h1 h2, Nat.zero_testBit]
  decide
theorem has_ok {n : Int} (w : Wf bl) (hl : (tells bl).length ≤ 1000000) (hn : n ≤ 9223372036854775807) (h : HasS H p bl) (k : ∀ H', Fr no H H' → K (.bool (decide (0 ≤ n ∧ Mem bl n.toNat))) H') : CallF Tryd.prog 11 #[.pointer (some p), .int .i64 n] H K Z := by
  refine V11_ok ?_
  unfold V11
  refine ⟨fun A => A = H ∧ 0 ≤ n, ?_, (fun h => by cases h), fun _ => ⟨fun hneg => ?_, fun hpos => ⟨rfl, by have := of_decide_eq_false hpos; omega⟩⟩⟩
  rotate_left
  · have := of_decide_eq_true hneg
    have e : decide (0 ≤ n ∧ Mem bl n.toNat) = false := decide_eq_false fun h => by omega
    have := k H (Fr.refl _ _)
    rw [e] at this
    exact this
  rintro A ⟨rfl, h0⟩ scr
  obtain ⟨N, rfl⟩ : ∃ N : Nat, n = (N : Int) := ⟨n.toNat, by omega⟩
  have hN : N ≤ 9223372036854775807 := by omega
  rw [td64 N hN]
  rw [Int.toNat_natCast] at k
  refine find_ok w hl (by omega) h fun i y B fB hi hlo hyt hyf => ⟨_, y, rfl, fun hy => ?_, fun hy => ?_⟩
  · obtain ⟨b, hb, e⟩ := hyt hy
    obtain ⟨s, h1, h2⟩ := h.more fB
    refine ⟨s, h1, ixK h2 hb fun ad e1 e2 => ⟨_, e2, by rw [tm64]; omega, ?_⟩⟩
    rw [tm64, mn64, fdivN]
    have hbo := w.ok b (List.mem_of_getElem? hb)
    have hd : b.2 / 2 ^ (N % 64) < 2 ^ 64 := Nat.lt_of_le_of_lt (Nat.div_le_self _ _) hbo.2.1
    have h1' : (1 : Int) = ((1 : Nat) : Int) := rfl
    rw [h1', bAnd hd (by decide), Nat.and_one_is_mod]
    have e : decide (0 ≤ (N : Int) ∧ Mem bl N) = ((((b.2 / 2 ^ (N % 64)) % 2 : Nat) : Int) == ((1 : Nat) : Int)) := by
      rw [Bool.eq_iff_iff, decide_eq_true_eq, beq_iff_eq, mem_at w hb e, ← shr_there]
      constructor
      · rintro ⟨_, h⟩; omega
      · intro h; exact ⟨by omega, by omega⟩
    rw [← e]
    exact k B fB
  · have e : decide (0 ≤ (N : Int) ∧ Mem bl N) = false := decide_eq_false fun h => mem_gap w hlo (hyf hy) h.2
    have := k B fB
    rw [e] at this
    exact this
end
end Go.Proofs.YtigbdoicgdmliaaDoor.C04

