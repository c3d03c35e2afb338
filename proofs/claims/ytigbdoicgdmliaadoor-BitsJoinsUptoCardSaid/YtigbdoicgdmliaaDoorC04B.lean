/- bits: numbers are added. -/
import Derived.Test.YtigbdoicgdmliaaDoorC04
set_option linter.unusedVariables false
set_option linter.unusedSimpArgs false
-- tSet: 26
-- tBk: 70
-- tBks: 24
-- tInt: 3
-- tBool: 4
-- add: 7
-- of: 20
-- insert: 36
-- overlaps: 65
-- rot: 66
namespace Go.Proofs.YtigbdoicgdmliaaDoor.C04
open Go Go.V Go.Proofs Go.Proofs.YtigbdoicgdmliaaDoor.N04 Go.Proofs.YtigbdoicgdmliaaDoor.P04
attribute [local irreducible] Cvt ExtF CallF hrun App MkS callV
section
variable {H0 H : Hp} {S : Nat → Prop} {L R : List It} {K : Value → Hp → Prop} {Z : List PanicEntry → Hp → Prop} {b : Nat} {s : Sl} {bl : List Bk}
/-- a set's own blocks -/
def setL (b : Nat) (s : Sl) (bl : List Bk) : List It := [blk b [.slice s.a s.n s.c] 26, arr flK 70 2 s bl]
theorem hasS (h : Sym H0 S H (setL b s bl ++ R)) : HasS H ⟨b, 0, none⟩ bl := ⟨s, h.ld (k := 0) rfl 0, h.rd (k := 1) FlK (by decide) rfl⟩
theorem insert_ok {i b1 : Nat} {x : Bk} (h : Sym H0 S H (setL b s bl ++ R)) (hi : i ≤ bl.length) (hl : bl.length ≤ 1000000) {H' : Hp} (hn : Newb H (.cells (flK x).toArray 70) b1 H')
    (k : ∀ s' H'', Sym H0 S H'' ([blk b [.slice s.a s.n s.c] 26, arr flK 70 2 s' (bl.take i ++ x :: bl.drop i)] ++ R) → K (.slice s'.a s'.n s'.c) H'') :
    CallF Tryd.prog 36 #[.slice s.a s.n s.c, .int .i64 (i : Int), .slice (some ⟨b1, 0, none⟩) 1 1] H' K Z := by
  refine V36_ok (v := ⟨some ⟨b1, 0, none⟩, 1, 1⟩) ?_
  have h' := h.more hn.fr
  have hok : RowN flK 70 2 H' s bl := h'.get (k := 1) rfl
  have hn' := hok.len FlK (by decide)
  obtain ⟨inf, i1, i2, i3, i4⟩ := info_of tyK.i
  have hok0 : RowN flK 70 2 H s bl := h.get (k := 1) rfl
  have hc : InsV Tryd.prog 24 3 65 66 2 H' s (i : Int) ⟨some ⟨b1, 0, none⟩, 1, 1⟩ K Z := by
    refine ins_ok (f := Tryd.f65) (inf := inf) (ps := #[24, 24]) (rs := #[4]) (z := .agg #[.int .i64 0, .int .u64 0]) (k2 := .i64) (by kernel_rfl) (by kernel_rfl) (by kernel_rfl) (by kernel_rfl) (by kernel_rfl) rfl tyK.u (by kernel_rfl) i1 i2 (by rw [i3]; rfl) (by rw [i4]; decide) i3 (by decide) hok.row hok.nf (flat_one FlK) hn.blk rfl (FlK.one x) ?_ (by omega) (by rw [i4]; omega) ?_
    · intro ho
      have := hok0.row.lt ho
      have := hn.eq
      omega
    · intro s' A hr hnf hsn hfr hown
      have e : flat flK (bl.take i ++ x :: bl.drop i) = (flat flK bl).take (i * 2) ++ flK x ++ (flat flK bl).drop (i * 2) := by
        rw [flat_take FlK, flat_drop FlK, List.append_assoc, flat_app]
        rfl
      refine k s' A (h'.setk (k := 1) (b := arr flK 70 2 s' (bl.take i ++ x :: bl.drop i)) rfl hfr ⟨by rw [e]; exact hr, hnf⟩ hown)
  unfold InsV at hc
  unfold V36
  exact hc
theorem bit1 (n : Nat) : IntKind.wrap .u64 (1 * 2 ^ (n % 64)) = ((bitOf n : Nat) : Int) := by
  have e : (1 * 2 ^ (n % 64) : Int) = ((bitOf n : Nat) : Int) := by
    unfold bitOf
    rw [Int.one_mul]
    exact (Int.natCast_pow 2 (n % 64)).symm
  rw [e]
  exact wrapN (bitOf_lt n)
theorem add_ok {n : Int} (h : Sym H0 S H (setL b s bl ++ R)) (w : Wf bl) (hl : (tells bl).length ≤ 900000)
    (k : ∀ s' H', Sym H0 S H' (setL b s' (addB bl n) ++ R) → K (.bool (isNew bl n)) H') : CallF Tryd.prog 7 #[.pointer (some ⟨b, 0, none⟩), .int .i64 n] H K Z := by
  refine V7_ok ?_
  unfold V7
  have hbl := len_tells w
  have no' : (n < 0 ∨ n > 268435456) → K (.bool false) H := fun hn => by
    have e1 : addB bl n = bl := by unfold addB; rw [if_pos hn]
    have e2 : isNew bl n = false := by unfold isNew; rw [if_pos hn]
    have := k s H (by rw [e1]; exact h)
    rw [e2] at this
    exact this
  refine ⟨fun A => A = H ∧ 0 ≤ n ∧ n ≤ 268435456, ?_, (fun h => by cases h), fun _ => ⟨fun hneg => no' (.inl (of_decide_eq_true hneg)), fun h1 => ⟨fun hbig => no' (.inr (of_decide_eq_true hbig)), fun h2 => ⟨rfl, ?_, ?_⟩⟩⟩⟩
  rotate_left
  · have := of_decide_eq_false h1; omega
  · have := of_decide_eq_false h2; omega
  rintro A ⟨rfl, h0, h1⟩ scr
  obtain ⟨N, rfl⟩ : ∃ N : Nat, n = (N : Int) := ⟨n.toNat, by omega⟩
  have hN : N ≤ 268435456 := by omega
  have ha : addB bl (N : Int) = putB bl N := by unfold addB; rw [if_neg (by omega), Int.toNat_natCast]
  have hw : isNew bl (N : Int) = decide (¬ Mem bl N) := by unfold isNew; rw [if_neg (by omega), Int.toNat_natCast]
  rw [ha, hw] at k
  rw [td64 N (by omega), tm64, mn64, bit1]
  refine ⟨by omega, find_ok w (by omega) (by omega) (hasS h) fun i y B fB hi hlo hyt hyf => ⟨_, y, rfl, fun hy => ?_, fun hy => ?_⟩⟩
  · have hy' : y = false := by simpa using hy
    have sB := h.more fB
    refine ⟨s, sB.ld (k := 0) rfl 0, ?_⟩
    intro b1 C hC
    refine insert_ok (x := (N / 64, bitOf N)) sB hi (by omega) hC fun s' D sD => ⟨s', rfl, ?_⟩
    refine sD.stb (k := 0) (i := 0) rfl (by simp) rfl fun E sE => ?_
    have e : decide (¬ Mem bl N) = true := decide_eq_true (mem_gap w hlo (hyf hy'))
    rw [e] at k
    refine k s' E ?_
    rw [putB_ins hi hlo (hyf hy')]
    exact sE
  · have hy' : y = true := by simpa using hy
    obtain ⟨x, hx, ex⟩ := hyt hy'
    have sB := h.more fB
    have hr := sB.rd (k := 1) FlK (by decide) rfl
    have hxo := w.ok x (List.mem_of_getElem? hx)
    have hld := sB.ld (k := 0) rfl 0
    refine ⟨s, hld, ixK hr hx fun ad e1 e2 => ⟨_, e2, s, hld, ixK hr hx fun ad2 e3 e4 => ⟨_, e4, ?_⟩⟩⟩
    rw [bOr hxo.2.1 (bitOf_lt N), bAnd hxo.2.1 (bitOf_lt N)]
    refine sB.sta (k := 1) (i := (i : Int)) (j := 1) (x := x) (y := (x.1, x.2 ||| bitOf N)) FlK rfl (by omega) (by simpa using hx) (by decide) rfl fun C sC => ?_
    have e : decide (¬ Mem bl N) = ((((x.2 &&& bitOf N : Nat) : Int)) == 0) := by
      rw [Bool.eq_iff_iff, decide_eq_true_eq, beq_iff_eq, mem_at w hx ex]
      have := bit_there x.2 N
      constructor
      · intro h
        have := this.2 (by simpa using h)
        omega
      · intro h
        have := this.1 (by omega)
        simp [this]
    rw [← e]
    refine k s C ?_
    rw [putB_set hlo hx ex]
    rw [Int.toNat_natCast] at sC
    exact sC
theorem addB_len (w : Wf bl) (n : Int) : (tells (addB bl n)).length ≤ (tells bl).length + 1 := by
  rw [tells_add w]
  split
  · rw [insL_len]; exact Nat.le_refl _
  · omega
/-- numbers put one by one -/
def ofL (l : List Int) : List Bk := l.foldl addB []
theorem ofL_snoc (l : List Int) (n : Int) : ofL (l ++ [n]) = addB (ofL l) n := by unfold ofL; rw [List.foldl_append]; rfl
theorem ofL_wf (l : List Int) : Wf (ofL l) := by
  unfold ofL
  have : ∀ (l : List Int) (a : List Bk), Wf a → Wf (l.foldl addB a) := by
    intro l
    induction l with
    | nil => intro a h; exact h
    | cons x l ih => intro a h; exact ih _ (addB_wf h x)
  exact this l [] wf_nil
theorem ofL_sm (l : List Int) : Sm (ofL l) := by
  unfold ofL
  have : ∀ (l : List Int) (a : List Bk), Wf a → Sm a → Sm (l.foldl addB a) := by
    intro l
    induction l with
    | nil => intro a _ h; exact h
    | cons x l ih => intro a hw h; exact ih _ (addB_wf hw x) (h.add hw x)
  exact this l [] wf_nil Sm.nil
theorem ofL_len : ∀ l : List Int, (tells (ofL l)).length ≤ l.length := by
  intro l
  have : ∀ (l : List Int) (a : List Bk), Wf a → (tells (l.foldl addB a)).length ≤ (tells a).length + l.length := by
    intro l
    induction l with
    | nil => intro a _; exact Nat.le_refl _
    | cons x l ih =>
      intro a h
      have := ih _ (addB_wf h x)
      have := addB_len h x
      rw [List.foldl_cons, List.length_cons]
      omega
  have := this l [] wf_nil
  simpa [tells, ofL] using this
theorem of_ok {t : Sl} {l : List Int} (hr : Rd flI 1 H t l) (hl : l.length ≤ 900000)
    (k : ∀ b s H', Sym H no H' (setL b s (ofL l)) → K (.pointer (some ⟨b, 0, none⟩)) H') : CallF Tryd.prog 20 #[.slice t.a t.n t.c] H K Z := by
  refine V20_ok ?_
  unfold V20
  intro b A hA
  have hn := hr.len
  have sA := (Sym.start H).newb (cs := [.slice none 0 0]) hA
  have sA2 : Sym H no A (setL b ⟨none, 0, 0⟩ [] ++ []) := (sA.nilrow flK 70 2).swap
  refine ⟨fun u B m => ∃ (j : Nat) (s : Sl), u = (j : Int) ∧ j ≤ l.length ∧ m = l.length - j ∧ Sym H no B (setL b s (ofL (l.take j)) ++ []), ⟨_, 0, _, rfl, Nat.zero_le _, rfl, sA2⟩, ?_⟩
  rintro u B m ⟨j, s, rfl, hj, rfl, sB⟩ scr
  refine ⟨fun hlt => ?_, fun hge => ?_⟩
  · have hj' : j < l.length := by have := dlt hlt; omega
    have hx : l[j]? = some l[j] := List.getElem?_eq_getElem hj'
    have ht : l.take (j + 1) = l.take j ++ [l[j]] := List.take_succ_eq_append_getElem hj'
    generalize l[j] = x at hx ht
    have hlen := ofL_len (l.take j)
    rw [List.length_take] at hlen
    refine (hr.more sB.frno).ixn FlI hx fun ad e => ⟨_, e, add_ok sB (ofL_wf _) (by omega) fun s' C sC => ⟨_, rfl, l.length - (j + 1), by omega, j + 1, s', wi (by omega), hj', rfl, ?_⟩⟩
    rw [ht, ofL_snoc]
    exact sC
  · have hj' : j = l.length := by have := dge hge; omega
    subst hj'
    rw [List.take_length] at sB
    exact k b s B sB
end
end Go.Proofs.YtigbdoicgdmliaaDoor.C04

