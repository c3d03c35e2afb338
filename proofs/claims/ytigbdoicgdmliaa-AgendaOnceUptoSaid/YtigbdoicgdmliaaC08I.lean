/- agenda over whole numbers: what its methods do. (Made from C08X.master by mk05.py.) -/
import Derived.Test.YtigbdoicgdmliaaN08
import Derived.Test.YtigbdoicgdmliaaP08
import Derived.Test.YtigbdoicgdmliaaC05I
set_option linter.unusedVariables false
set_option linter.unusedSimpArgs false
-- tAg: 35
-- tE: 3
-- tInt: 3
-- tInts: 22
-- tBool: 4
-- tBools: 33
-- put: 15
-- take: 17
-- has: 19
-- len: 21
-- del: 54
namespace Go.Proofs.Ytigbdoicgdmliaa.C08I
open Go Go.V Go.Proofs Go.Proofs.Ytigbdoicgdmliaa.N08
attribute [local irreducible] Cvt ExtF CallF hrun App MkS
theorem tyI : TyS Try.prog 22 3 1 8 (.int .i64 0) := ⟨by kernel_rfl, by kernel_rfl, rfl, by decide⟩
theorem tyB : TyS Try.prog 33 4 1 1 (.bool false) := ⟨by kernel_rfl, by kernel_rfl, rfl, by decide⟩
abbrev tb (b : Nat) (cs : List Value) (ts : List Int) (os : List Nat) : It := tbI C05I.val C05I.lt 3 3 b 0 35 cs ts os
/-- an agenda at block b: m waits; at most c things ever came -/
def AgS (H0 : Hp) (S : Nat → Prop) (H : Hp) (R : List It) (b : Nat) (m : List Int) (c : Nat) : Prop :=
  ∃ (cs : List Value) (ts : List Int) (os : List Nat) (w : Sl) (ws : List Bool) (q : Sl) (qs : List Nat), Sym H0 S H (tb b cs ts os :: arr flB 4 1 w ws :: arr flN 3 1 q qs :: R) ∧ cs.length = 4 ∧ cs[2]? = some (.slice w.a w.n w.c) ∧ cs[3]? = some (.slice q.a q.n q.c) ∧
    AgOk ts ws qs ∧ m = riseL ts qs ∧ ts.length ≤ c
section
variable {H0 H H' : Hp} {S : Nat → Prop} {R : List It} {b c : Nat} {m : List Int} {x : Int} {K : Value → Hp → Prop} {Z : List PanicEntry → Hp → Prop}
theorem ldf {cs : List Value} {ts : List Int} {os : List Nat} {L : List It} (h : Sym H0 S H (tb b cs ts os :: L)) (i : Nat) : hcell H (Addr.add ⟨b, 0, none⟩ i) = cs[i]? := by
  rw [add_mk, Nat.zero_add]
  exact (h.get (k := 0) rfl : TbS _ _ _ _ H b 0 _ cs ts os).blk.ld i
theorem AgS.new (h : Sym H0 S H R) (hn : Newb H (.cells #[.slice none 0 0, .slice none 0 0, .slice none 0 0, .slice none 0 0] 35) b H') : AgS H0 S H' R b [] 0 := by
  have hno : ∀ i, ¬ tOwn [.slice none 0 0, .slice none 0 0, .slice none 0 0, .slice none 0 0] 0 i := by
    rintro i ⟨o, n, c, h | h⟩ <;> simp at h
  have s0 := h.new (b := tb b [.slice none 0 0, .slice none 0 0, .slice none 0 0, .slice none 0 0] [] []) hn.fr ⟨hn.blk, ⟨⟨none, 0, 0⟩, ⟨none, 0, 0⟩, rfl, rfl, Row.nil _ _ _, Row.nil _ _ _, (by intro g o e; cases e), (by rintro i ⟨o, e⟩; cases e)⟩, hno b, Tbl.nil⟩ (by
    rintro i (rfl | hi)
    · have := hn.eq; omega
    · exact absurd hi (hno i))
  have s1 := ((s0.nilrow flN 3 1).nilrow flB 4 1).perm (R := tb b [.slice none 0 0, .slice none 0 0, .slice none 0 0, .slice none 0 0] [] [] :: arr flB 4 1 ⟨none, 0, 0⟩ [] :: arr flN 3 1 ⟨none, 0, 0⟩ [] :: R) (((List.Perm.swap _ _ _).cons _).trans (List.Perm.swap _ _ _))
  exact ⟨_, [], [], ⟨none, 0, 0⟩, [], ⟨none, 0, 0⟩, [], s1, rfl, rfl, rfl, AgOk.nil, rfl, Nat.le_refl _⟩
theorem AgS.more (h : AgS H0 S H R b m c) (hf : Fr no H H') : AgS H0 S H' R b m c := by
  obtain ⟨cs, ts, os, w, ws, q, qs, s, h1, h2, h3, h4, h5, h6⟩ := h
  exact ⟨cs, ts, os, w, ws, q, qs, s.more hf, h1, h2, h3, h4, h5, h6⟩
theorem AgS.le {c' : Nat} (h : AgS H0 S H R b m c) (hc : c ≤ c') : AgS H0 S H R b m c' := by
  obtain ⟨cs, ts, os, w, ws, q, qs, s, h1, h2, h3, h4, h5, h6⟩ := h
  exact ⟨cs, ts, os, w, ws, q, qs, s, h1, h2, h3, h4, h5, Nat.le_trans h6 hc⟩
theorem AgS.count (h : AgS H0 S H R b m c) : m.length ≤ c := by
  obtain ⟨cs, ts, os, w, ws, q, qs, s, h1, h2, h3, h4, h5, h6⟩ := h
  subst h5
  rw [rise_len' h4.lt]
  refine Nat.le_trans ?_ h6
  have := List.Nodup.length_le_of_subset (l₁ := qs) (l₂ := List.range ts.length) h4.nd fun q hq => List.mem_range.2 (h4.lt q hq)
  simpa using this
theorem len_ok (h : AgS H0 S H R b m c) (k : K (.int .i64 (m.length : Int)) H) : CallF Try.prog 21 #[.pointer (some ⟨b, 0, none⟩)] H K Z := by
  refine V21_ok ?_
  unfold V21
  obtain ⟨cs, ts, os, w, ws, q, qs, s, h1, h2, h3, h4, rfl, h6⟩ := h
  refine ⟨q, by rw [ldf s]; exact h3, ?_⟩
  rw [rise_len' h4.lt] at k
  rw [(s.rd (k := 2) FlN (by decide) rfl).len]
  exact k
theorem has_ok (h : AgS H0 S H R b m c) (hc : c ≤ 1000000) (k : ∀ H', AgS H0 S H' R b m c → K (.bool (decide (x ∈ m))) H') : CallF Try.prog 19 #[.pointer (some ⟨b, 0, none⟩), .int .i64 x] H K Z := by
  refine V19_ok ?_
  unfold V19
  obtain ⟨cs, ts, os, w, ws, q, qs, s, h1, h2, h3, h4, h5, h6⟩ := h
  have htb : TbS C05I.val C05I.lt 3 3 H b 0 35 cs ts os := s.get (k := 0) rfl
  have hu := fun a b x ha hb => htb.ok.uniq (a := a) (b := b) (x := x) C05I.lin ha hb
  refine C05I.find_ok htb (by omega) (fun n A hn fA => ?_) (fun A hno fA => ?_)
  · have sA := s.more fA
    have hnl := (List.getElem?_eq_some_iff.1 hn).1
    have hw : ws[n]? = some (ws[n]'(by rw [h4.len]; exact hnl)) := List.getElem?_eq_getElem _
    generalize ws[n]'(by rw [h4.len]; exact hnl) = bw at hw
    refine ⟨_, _, rfl, fun _ => ⟨w, by rw [ldf sA]; exact h2, ?_⟩, (fun h => by cases h)⟩
    refine (sA.rd (k := 1) FlB (by decide) rfl).ixn FlB hw fun ad had => ⟨_, had, ?_⟩
    have e : bw = decide (x ∈ m) := by
      rw [Bool.eq_iff_iff, decide_eq_true_eq, h5, rise_mem' hu hn]
      exact h4.w n bw hw
    rw [e]
    exact k A ⟨cs, ts, os, w, ws, q, qs, sA, h1, h2, h3, h4, h5, h6⟩
  · refine ⟨_, _, rfl, (fun h => by cases h), fun _ => ?_⟩
    have e : decide (x ∈ m) = false := by
      apply decide_eq_false
      rw [h5]
      exact fun h => hno (rise_in h)
    have := k A ⟨cs, ts, os, w, ws, q, qs, s.more fA, h1, h2, h3, h4, h5, h6⟩
    rw [e] at this
    exact this
theorem put_ok (h : AgS H0 S H R b m c) (hc : c ≤ 1000000) (k : ∀ H', AgS H0 S H' R b (if x ∈ m then m else m ++ [x]) (c + 1) → K (.bool (decide (x ∉ m))) H') : CallF Try.prog 15 #[.pointer (some ⟨b, 0, none⟩), .int .i64 x] H K Z := by
  refine V15_ok ?_
  unfold V15
  obtain ⟨cs, ts, os, w, ws, q, qs, s, h1, h2, h3, h4, h5, h6⟩ := h
  have htb : TbS C05I.val C05I.lt 3 3 H b 0 35 cs ts os := s.get (k := 0) rfl
  -- behind the table
  have tail : ∀ (n : Nat) (A : Hp), (∃ (cs : List Value) (ts : List Int) (os : List Nat) (w : Sl) (ws : List Bool), Sym H0 S A (tb b cs ts os :: arr flB 4 1 w ws :: arr flN 3 1 q qs :: R) ∧ cs.length = 4 ∧ cs[2]? = some (.slice w.a w.n w.c) ∧ cs[3]? = some (.slice q.a q.n q.c) ∧
      AgOk ts ws qs ∧ m = riseL ts qs ∧ ts.length ≤ c + 1 ∧ ts[n]? = some x) →
      ∃ x1 : Sl, hcell A (Addr.add ⟨b, 0, none⟩ 2) = some (.slice x1.a x1.n x1.c) ∧ 
    IxA x1.a x1.n (n : Int) 1 fun ad => (∃ x2 : Bool, hcell A ad = some (.bool x2) ∧ ((x2 = true → K (.bool false) A) ∧ 
    (x2 = false → ∃ x3 : Sl, hcell A (Addr.add ⟨b, 0, none⟩ 2) = some (.slice x3.a x3.n x3.c) ∧ IxA x3.a x3.n (n : Int) 1 fun ad1 => 
    (StL ad1 0 [.bool true] A fun H3 => (∃ x4 : Sl, hcell H3 (Addr.add ⟨b, 0, none⟩ 3) = some (.slice x4.a x4.n x4.c) ∧ 
    ∀ b1 H4, Newb H3 (.cells #[.int .i64 (n : Int)] 3) b1 H4 → App Try.prog #[22, 22] 22 H4 [.slice x4.a x4.n x4.c, .slice (some ⟨b1, 0, none⟩) 1 1] fun ap H5 => 
    (StL (Addr.add ⟨b, 0, none⟩ 3) 0 [.slice ap.a ap.n ap.c] H5 fun H6 => (K (.bool true) H6))))))) := by
    rintro n A ⟨cs, ts, os, w, ws, s, h1, h2, h3, h4, h5, h6, hx⟩
    have htb : TbS C05I.val C05I.lt 3 3 A b 0 35 cs ts os := s.get (k := 0) rfl
    have hu := fun a b x ha hb => htb.ok.uniq (a := a) (b := b) (x := x) C05I.lin ha hb
    have hnl := (List.getElem?_eq_some_iff.1 hx).1
    have hw : ws[n]? = some (ws[n]'(by rw [h4.len]; exact hnl)) := List.getElem?_eq_getElem _
    generalize ws[n]'(by rw [h4.len]; exact hnl) = bw at hw
    have hin : bw = true ↔ x ∈ m := by
      rw [h5, rise_mem' hu hx]
      exact h4.w n bw hw
    refine ⟨w, by rw [ldf s]; exact h2, (s.rd (k := 1) FlB (by decide) rfl).ixn FlB hw fun ad had => ⟨_, had, fun ht => ?_, fun hf => ?_⟩⟩
    · have hm := hin.1 ht
      have := k A ⟨cs, ts, os, w, ws, q, qs, s, h1, h2, h3, h4, by rw [if_pos hm]; exact h5, h6⟩
      rw [decide_eq_false (fun h => h hm)] at this
      exact this
    · subst hf
      have hm : x ∉ m := fun hm => by have := hin.2 hm; cases this
      refine ⟨w, by rw [ldf s]; exact h2, ?_⟩
      refine s.stn (k := 1) (i := n) (y := true) FlB rfl hw rfl fun B s1 => ?_
      replace s1 : Sym H0 S B (tb b cs ts os :: arr flB 4 1 w (ws.set n true) :: arr flN 3 1 q qs :: R) := s1
      refine ⟨q, by rw [ldf s1]; exact h3, fun b1 C hC => ?_⟩
      have hql : q.n = qs.length := (s1.rd (k := 2) FlN (by decide) rfl).len
      have hqc : qs.length ≤ c + 1 := by
        refine Nat.le_trans ?_ h6
        have := List.Nodup.length_le_of_subset (l₁ := qs) (l₂ := List.range ts.length) h4.nd fun q hq => List.mem_range.2 (h4.lt q hq)
        simpa using this
      refine s1.app1 (k := 2) (x := n) tyI FlN (by decide) hC rfl (by omega) fun ap D hap s2 => ?_
      rw [add_mk, Nat.zero_add]
      refine s2.tbset (k := 0) (i := 3) rfl (by omega) (by decide) (by decide) rfl fun E s3 => ?_
      have := k E ⟨cs.set 3 (.slice ap.a ap.n ap.c), ts, os, w, ws.set n true, ap, qs ++ [n], s3, by rw [List.length_set]; exact h1, by rw [List.getElem?_set_ne (by decide)]; exact h2, List.getElem?_set_self (by omega), h4.push hw, by rw [if_neg hm, rise_snoc hx, h5], h6⟩
      rw [decide_eq_true hm] at this
      exact this
  refine C05I.put_ok htb (by omega) (fun n A hn hT => ?_) (fun A cs' os' hno hT => ?_)
  · have s1 := s.tb (k := 0) rfl hT
    replace s1 : Sym H0 S A (tb b cs ts os :: arr flB 4 1 w ws :: arr flN 3 1 q qs :: R) := s1
    refine ⟨_, _, rfl, fun B => ∃ (cs : List Value) (ts : List Int) (os : List Nat) (w : Sl) (ws : List Bool), Sym H0 S B (tb b cs ts os :: arr flB 4 1 w ws :: arr flN 3 1 q qs :: R) ∧ cs.length = 4 ∧ cs[2]? = some (.slice w.a w.n w.c) ∧ cs[3]? = some (.slice q.a q.n q.c) ∧
      AgOk ts ws qs ∧ m = riseL ts qs ∧ ts.length ≤ c + 1 ∧ ts[n]? = some x, fun B hB scr => tail n B hB, (fun h => by cases h), fun _ => ⟨cs, ts, os, w, ws, s1, h1, h2, h3, h4, h5, by omega, hn⟩⟩
  · have s1 := s.tb (k := 0) rfl hT
    replace s1 : Sym H0 S A (tb b cs' (ts ++ [x]) os' :: arr flB 4 1 w ws :: arr flN 3 1 q qs :: R) := s1
    have g1 : cs'.length = 4 := hT.len.trans h1
    have g2 : cs'[2]? = some (.slice w.a w.n w.c) := (hT.rest 2 (by decide) (by decide)).trans h2
    have g3 : cs'[3]? = some (.slice q.a q.n q.c) := (hT.rest 3 (by decide) (by decide)).trans h3
    refine ⟨_, _, rfl, fun B => ∃ (cs : List Value) (ts' : List Int) (os : List Nat) (w : Sl) (ws : List Bool), Sym H0 S B (tb b cs ts' os :: arr flB 4 1 w ws :: arr flN 3 1 q qs :: R) ∧ cs.length = 4 ∧ cs[2]? = some (.slice w.a w.n w.c) ∧ cs[3]? = some (.slice q.a q.n q.c) ∧
      AgOk ts' ws qs ∧ m = riseL ts' qs ∧ ts'.length ≤ c + 1 ∧ ts'[ts.length]? = some x, fun B hB scr => tail ts.length B hB, fun _ => ?_, (fun h => by cases h)⟩
    refine ⟨w, by rw [ldf s1]; exact g2, fun b1 B hB => ?_⟩
    have hwl : w.n = ws.length := (s1.rd (k := 1) FlB (by decide) rfl).len
    have hwl2 := h4.len
    refine s1.app1 (k := 1) (x := false) tyB FlB (by decide) hB rfl (by omega) fun ap C hap s2 => ?_
    rw [add_mk, Nat.zero_add]
    refine s2.tbset (k := 0) (i := 2) rfl (by omega) (by decide) (by decide) rfl fun D s3 => ?_
    exact ⟨cs'.set 2 (.slice ap.a ap.n ap.c), ts ++ [x], os', ap, ws ++ [false], s3, by rw [List.length_set]; exact g1, List.getElem?_set_self (by omega), by rw [List.getElem?_set_ne (by decide)]; exact g3, h4.grow x, by rw [rise_grow h4.lt]; exact h5, by rw [List.length_append]; simp only [List.length_cons, List.length_nil]; omega, by simp⟩
theorem del_ok {L : List It} {k i : Nat} {s : Sl} {qs : List Nat} {K : Value → Hp → Prop} (h : Sym H0 S H L) (hk : L[k]? = some (arr flN 3 1 s qs)) (hi : i < qs.length) (hl : s.n ≤ 10000000)
    (kk : ∀ s' H', s'.n + 1 = s.n → Sym H0 S H' (L.set k (arr flN 3 1 s' (qs.eraseIdx i))) → K (.slice s'.a s'.n s'.c) H') : CallF Try.prog 54 #[.slice s.a s.n s.c, .int .i64 (i : Int), .int .i64 ((i + 1 : Nat) : Int)] H K Z := by
  have hd : DelV Try.prog 22 H s (i : Int) ((i + 1 : Nat) : Int) K := h.del tyI rfl rfl FlN hk hi (by omega) kk
  refine V54_ok ?_
  unfold DelV at hd
  unfold V54
  exact hd
theorem take_ok {n : Int} (h : AgS H0 S H R b m c) (hc : c ≤ 1000000) (k0 : m = [] → K (.tuple #[.int .i64 0, .bool false]) H) (k1 : ∀ x H', m[pickN n m.length]? = some x → AgS H0 S H' R b (m.eraseIdx (pickN n m.length)) c → K (.tuple #[.int .i64 x, .bool true]) H') :
    CallF Try.prog 17 #[.pointer (some ⟨b, 0, none⟩), .int .i64 n] H K Z := by
  have hcount := h.count
  refine V17_ok ?_
  unfold V17
  obtain ⟨cs, ts, os, w, ws, q, qs, s, h1, h2, h3, h4, h5, h6⟩ := h
  have hml : m.length = qs.length := by rw [h5, rise_len' h4.lt]
  have hql : q.n = qs.length := (s.rd (k := 2) FlN (by decide) rfl).len
  refine ⟨q, by rw [ldf s]; exact h3, fun h0 => k0 ?_, fun h0 => ?_⟩
  · have : q.n = 0 := by simpa using h0
    exact List.eq_nil_of_length_eq_zero (by omega)
  have hpos : 0 < qs.length := by
    have : q.n ≠ 0 := by simpa using h0
    omega
  have hw64 : IntKind.wrap .u64 (q.n : Int) = (q.n : Int) := wrapu64 (by omega) (by omega)
  have hpk : pickN n m.length < qs.length := by rw [hml]; exact pick_lt hpos
  have epk : w64 (Int.tmod (IntKind.wrap .u64 n) (q.n : Int)) = ((pickN n m.length : Nat) : Int) := by
    have e1 : IntKind.wrap .u64 n = n % 18446744073709551616 := by
      simp only [IntKind.wrap, IntKind.bits, IntKind.signed, Int.reducePow, Nat.reduceSub, Bool.false_and, Bool.false_eq_true, if_false]
    rw [e1, Int.tmod_eq_emod_of_nonneg (Int.emod_nonneg _ (by decide))]
    have h1 := Int.emod_lt_of_pos (n % 18446744073709551616) (show (0 : Int) < q.n by omega)
    have h2 := Int.emod_nonneg (n % 18446744073709551616) (show (q.n : Int) ≠ 0 by omega)
    rw [wid (by omega) (by omega)]
    unfold pickN
    rw [hml, ← hql]
    omega
  have e1 : w64 (((pickN n m.length : Nat) : Int) + 1) = ((pickN n m.length + 1 : Nat) : Int) := wi (by omega)
  have hqx : qs[pickN n m.length]? = some qs[pickN n m.length] := List.getElem?_eq_getElem hpk
  generalize qs[pickN n m.length] = num at hqx
  have hnum := h4.lt num (List.mem_of_getElem? hqx)
  have htx : ts[num]? = some ts[num] := List.getElem?_eq_getElem hnum
  generalize ts[num] = x at htx
  have hwx : ws[num]? = some (ws[num]'(by rw [h4.len]; exact hnum)) := List.getElem?_eq_getElem _
  refine ⟨q, by rw [ldf s]; exact h3, by rw [hw64]; omega, q, by rw [ldf s]; exact h3, ?_⟩
  rw [hw64, epk, e1]
  refine (s.rd (k := 2) FlN (by decide) rfl).ixn FlN hqx fun ad had => ⟨_, had, q, by rw [ldf s]; exact h3, ?_⟩
  refine del_ok s (k := 2) rfl hpk (by omega) fun q' A hq' s1 => ⟨q', rfl, ?_⟩
  replace s1 : Sym H0 S A (tb b cs ts os :: arr flB 4 1 w ws :: arr flN 3 1 q' (qs.eraseIdx (pickN n m.length)) :: R) := s1
  rw [add_mk, Nat.zero_add]
  refine s1.tbset (k := 0) (i := 3) rfl (by omega) (by decide) (by decide) rfl fun B s2 => ?_
  replace s2 : Sym H0 S B (tb b (cs.set 3 (.slice q'.a q'.n q'.c)) ts os :: arr flB 4 1 w ws :: arr flN 3 1 q' (qs.eraseIdx (pickN n m.length)) :: R) := s2
  refine ⟨w, by rw [ldf s2, List.getElem?_set_ne (by decide)]; exact h2, ?_⟩
  refine s2.stn (k := 1) (i := num) (y := false) FlB rfl hwx rfl fun C s3 => ?_
  replace s3 : Sym H0 S C (tb b (cs.set 3 (.slice q'.a q'.n q'.c)) ts os :: arr flB 4 1 w (ws.set num false) :: arr flN 3 1 q' (qs.eraseIdx (pickN n m.length)) :: R) := s3
  have htb : TbS C05I.val C05I.lt 3 3 C b 0 35 (cs.set 3 (.slice q'.a q'.n q'.c)) ts os := s3.get (k := 0) rfl
  refine C05I.at_ok htb (fun y hy0 hy => ⟨_, _, rfl, ?_⟩) (fun h => by omega)
  rw [Int.toNat_natCast, htx] at hy
  cases hy
  refine k1 x C ?_ ⟨_, ts, os, w, ws.set num false, q', qs.eraseIdx (pickN n m.length), s3, by rw [List.length_set]; exact h1, by rw [List.getElem?_set_ne (by decide)]; exact h2, List.getElem?_set_self (by omega), h4.take hqx, by rw [rise_erase h4.lt, h5], h6⟩
  have := rise_get h4.lt hqx htx
  rw [← h5] at this
  exact this
end
end Go.Proofs.Ytigbdoicgdmliaa.C08I

