/- weftref09's tokens of a text; tokens as a text, both ways; two lists held against each other. -/
import Derived.Test.YthaejcmllibeoaaDoorC09B
import Derived.Test.YthaejcmllibeoaaDoorBldI
set_option linter.unusedVariables false
set_option linter.unusedSimpArgs false
-- join: 49
-- rAll: 46
-- rJoin: 50
-- same: 47
-- tBytes: 90
-- tStr: 9
-- tU8: 5
-- tTok: 64
-- rTok: 63
-- rToks: 58
-- tBld: 94
-- rMark: 66
-- rLetter: 67
-- rDigit: 68
-- rWord: 69
namespace Go.Proofs.YthaejcmllibeoaaDoor.C09C
open Go Go.V Go.Proofs Go.Proofs.YthaejcmllibeoaaDoor.N09 Go.Proofs.YthaejcmllibeoaaDoor.C01 Go.Proofs.YthaejcmllibeoaaDoor.P09 Go.Proofs.YthaejcmllibeoaaDoor.C09 Go.Proofs.YthaejcmllibeoaaDoor.BldI
attribute [local irreducible] Cvt ExtF CallF hrun App MkS
section
variable {H0 H : Hp} {L R : List It} {K : Value → Hp → Prop} {Z : List PanicEntry → Hp → Prop}
theorem drop_at {t : List UInt8} {j : Nat} {c : UInt8} (h : t[j]? = some c) : t.drop j = c :: t.drop (j + 1) := by
  obtain ⟨h1, h2⟩ := List.getElem?_eq_some_iff.1 h
  rw [List.drop_eq_getElem_cons h1, h2]
theorem drop_of {t a b : List UInt8} {j : Nat} (h : t.drop j = a ++ b) : b = t.drop (j + a.length) := by
  rw [← List.drop_drop, h, List.drop_left]
set_option maxRecDepth 4000 in
theorem rall_ok {t : List UInt8} (h : Sym H0 no H L) (hl : t.length ≤ 1000000000)
    (kk : ∀ s' H', Sym H0 no H' (arr flK 63 3 s' (tokens t).1 :: L) → K (.tuple #[.slice s'.a s'.n s'.c, .int .i64 (tokens t).2.1, .int .i64 (tokens t).2.2]) H') : CallF Tryd.prog 46 #[.string (str t)] H K Z := by
  refine V46_ok ?_
  unfold V46
  rw [str_size]
  refine ⟨fun hbig => ?_, fun hsm => ?_⟩
  · have hb : t.length > 20000 := by have := of_decide_eq_true hbig; omega
    unfold tokens at kk
    rw [if_pos hb] at kk
    exact kk ⟨none, 0, 0⟩ H (h.nilrow flK 63 3)
  have hb : ¬ t.length > 20000 := by have := of_decide_eq_false hsm; omega
  unfold tokens at kk
  rw [if_neg hb] at kk
  refine ⟨fun s line i A m => ∃ (f j : Nat) (toks : List Tk), i = (j : Int) ∧ j ≤ t.length ∧ Sym H0 no A (arr flK 63 3 s toks :: L) ∧ t.length - j < f ∧ m = t.length - j ∧ 1 ≤ line ∧ line ≤ 1 + j ∧ toks.length ≤ j ∧ allT f (t.drop j) line toks = allT (t.length + 1) t 1 [],
    ⟨_, t.length + 1, 0, [], rfl, Nat.zero_le _, h.nilrow flK 63 3, by omega, rfl, by omega, by omega, by simp, by rw [List.drop_zero]⟩, ?_⟩
  rintro s line i A m ⟨f, j, toks, rfl, hj, sA, hf, rfl, hl1, hl2, hl3, he⟩ scr
  have hsn : s.n = toks.length := (sA.rd (k := 0) FlK (by decide) rfl).len
  refine ⟨fun hlt => ?_, fun hge => ?_⟩
  rotate_left
  · have hjl : j = t.length := by have := dge hge; omega
    subst hjl
    rw [List.drop_length, all_nil] at he
    rw [← he] at kk
    exact kk s A sA
  have hjl := dlt hlt
  obtain ⟨f, rfl⟩ : ∃ g, f = g + 1 := ⟨f - 1, by omega⟩
  have hx : t[j]? = some t[j] := List.getElem?_eq_getElem hjl
  generalize t[j] = c at hx
  have hd := drop_at hx
  rw [hd] at he
  have wj : w64 ((j : Int) + 1) = ((j + 1 : Nat) : Int) := wi (by omega)
  -- go on behind a step
  have goon : ∀ {s' : Sl} {B : Hp} {toks' : List Tk} {j' : Nat} {line' : Int}, j < j' → j' ≤ t.length → Sym H0 no B (arr flK 63 3 s' toks' :: L) → 1 ≤ line' → line' ≤ 1 + j' → toks'.length ≤ j' → allT f (t.drop j') line' toks' = allT (t.length + 1) t 1 [] →
      ∃ m2, m2 < t.length - j ∧ ∃ (f j'' : Nat) (toks : List Tk), (j' : Int) = (j'' : Int) ∧ j'' ≤ t.length ∧ Sym H0 no B (arr flK 63 3 s' toks :: L) ∧ t.length - j'' < f ∧ m2 = t.length - j'' ∧ 1 ≤ line' ∧ line' ≤ 1 + j'' ∧ toks.length ≤ j'' ∧ allT f (t.drop j'') line' toks = allT (t.length + 1) t 1 [] := by
    intro s' B toks' j' line' h1 h2 sB h3 h4 h5 h6
    exact ⟨t.length - j', by omega, f, j', toks', rfl, h2, sB, by omega, rfl, h3, h4, h5, h6⟩
  have u8 : ∀ x : Nat, x < 256 → (((c.toNat : Int) == (x : Int)) = decide (c = UInt8.ofNat x)) := by
    intro x hx
    rw [Bool.eq_iff_iff, beq_iff_eq, decide_eq_true_iff]
    constructor
    · intro h
      apply UInt8.toNat_inj.1
      rw [UInt8.toNat_ofNat']
      omega
    · rintro rfl
      rw [UInt8.toNat_ofNat']
      omega
  have e35 : ((c.toNat : Int) == 35) = decide (c = 35) := u8 35 (by decide)
  have e10 : ((c.toNat : Int) == 10) = decide (c = 10) := u8 10 (by decide)
  have e32 : ((c.toNat : Int) == 32) = decide (c = 32) := u8 32 (by decide)
  have e9 : ((c.toNat : Int) == 9) = decide (c = 9) := u8 9 (by decide)
  have e13 : ((c.toNat : Int) == 13) = decide (c = 13) := u8 13 (by decide)
  have hne : (c :: t.drop (j + 1)) ≠ [] := by simp
  refine IxS.mk hx ?_
  rw [e35, e10, e32, e9, e13]
  have hst := step_cons c (t.drop (j + 1))
  refine ⟨fun h10 => ?_, fun h10 => ?_⟩
  · have h10' : c = 10 := of_decide_eq_true h10
    rw [if_pos h10'] at hst
    rw [all_step hne (by rw [hst]), hst] at he
    simp only [more, if_true, List.append_nil] at he
    rw [wj, wid (by omega) (by omega)]
    exact goon (by omega) (by omega) sA (by omega) (by omega) (by omega) he
  have h10' : ¬ c = 10 := of_decide_eq_false h10
  rw [if_neg h10'] at hst
  refine ⟨fun t31 B => t31 = decide (c = 32 ∨ c = 9 ∨ c = 13) ∧ B = A, ?_, fun h32 => ⟨?_, rfl⟩, fun h32 => ⟨fun h9 => ⟨?_, rfl⟩, fun h9 => ⟨?_, rfl⟩⟩⟩
  rotate_left
  · rw [decide_eq_true (.inl (of_decide_eq_true h32))]
  · rw [decide_eq_true (.inr (.inl (of_decide_eq_true h9)))]
  · have n1 := of_decide_eq_false h32
    have n2 := of_decide_eq_false h9
    by_cases h13 : c = 13
    · rw [decide_eq_true h13, decide_eq_true (.inr (.inr h13))]
    · rw [decide_eq_false h13, decide_eq_false (by rintro (h | h | h) <;> contradiction)]
  rintro _ A ⟨rfl, rfl⟩ scr1
  refine ⟨fun hbl => ?_, fun hbl => ?_⟩
  · have hbl' := of_decide_eq_true hbl
    rw [if_pos hbl'] at hst
    rw [all_step hne (by rw [hst]), hst] at he
    simp only [more, if_true, List.append_nil, Int.ofNat_zero, Int.add_zero] at he
    rw [wj]
    exact goon (by omega) (by omega) sA (by omega) (by omega) (by omega) (by simpa using he)
  have hbl' := of_decide_eq_false hbl
  rw [if_neg hbl'] at hst
  refine ⟨fun h35 => ?_, fun h35 => ?_⟩
  · have h35' : c = 35 := of_decide_eq_true h35
    rw [if_pos h35'] at hst
    rw [all_step hne (by rw [hst]), hst] at he
    simp only [more, if_true, List.append_nil] at he
    rw [← hd] at he
    have he : allT f (List.dropWhile (fun x => !(x == 10)) (t.drop j)) line toks = allT (t.length + 1) t 1 [] := by simpa using he
    refine ⟨fun i1 B m => ∃ q : Nat, B = A ∧ i1 = (q : Int) ∧ j ≤ q ∧ q ≤ t.length ∧ m = t.length - q ∧ (t.drop j).dropWhile (fun x => !(x == (10 : UInt8))) = (t.drop q).dropWhile (fun x => !(x == (10 : UInt8))), ⟨_, j, rfl, rfl, Nat.le_refl _, hj, rfl, rfl⟩, ?_⟩
    rintro i1 B m ⟨q, rfl, rfl, hq1, hq2, rfl, hq3⟩ scr2
    refine ⟨fun hlt2 => ?_, fun hge2 => ?_⟩
    · have hql := dlt hlt2
      have hy : t[q]? = some t[q] := List.getElem?_eq_getElem hql
      generalize t[q] = y at hy
      have hdq := drop_at hy
      refine IxS.mk hy ⟨fun hn => ?_, fun hn => ?_⟩
      · have hy10 : (y == 10) = false := by
          rw [beq_eq_false_iff_ne]
          rintro rfl
          simp at hn
        refine ⟨t.length - (q + 1), by omega, q + 1, rfl, wi (by omega), by omega, by omega, rfl, ?_⟩
        rw [hq3, hdq, List.dropWhile_cons, hy10]
        rfl
      · have hy10 : y = 10 := by
          have : (y.toNat : Int) = 10 := by simpa using hn
          apply UInt8.toNat_inj.1
          have e : (10 : UInt8).toNat = 10 := rfl
          rw [e]
          omega
        have hjq : j < q := by
          rcases Nat.eq_or_lt_of_le hq1 with rfl | h
          · rw [hx] at hy
            cases hy
            exact absurd hy10 h10'
          · exact h
        have : (t.drop q).dropWhile (fun x => !(x == (10 : UInt8))) = t.drop q := by
          rw [hdq, List.dropWhile_cons, hy10]
          rfl
        rw [hq3, this] at he
        exact goon hjq hq2 sA (by omega) (by omega) (by omega) he
    · have hql : q = t.length := by have := dge hge2; omega
      subst hql
      rw [hq3, List.drop_length] at he
      refine goon (by omega) (Nat.le_refl _) sA (by omega) (by omega) (by omega) ?_
      rw [List.drop_length]
      exact he
  have h35' : ¬ c = 35 := of_decide_eq_false h35
  rw [if_neg h35'] at hst
  refine rmark_ok ⟨_, rfl, fun hm => ?_, fun hm => ?_⟩
  · have hm' : c ∈ marksL := of_decide_eq_true hm
    rw [if_pos hm'] at hst
    rw [all_step hne (by rw [hst]), hst] at he
    simp only [more] at he
    rw [if_neg (by decide)] at he
    intro b B hB
    refine one_ok hB rfl ⟨_, rfl, fun b1 C hC => ?_⟩
    refine (sA.more hB.fr).app1 (k := 0) (x := (4, [c], line)) tyRTok FlK (by decide) hC rfl (by omega) fun ap D hap sD => ?_
    rw [wj]
    refine goon (by omega) (by omega) sD (by omega) (by omega) ?_ (by simpa using he)
    rw [List.length_append, List.length_singleton]
    omega
  have hm' : ¬ c ∈ marksL := of_decide_eq_false hm
  rw [if_neg hm'] at hst
  refine ⟨fun t72 B => t72 = (isL c || isD c) ∧ Fr no A B, ?_, ?_⟩
  rotate_left
  · refine C09.rletter_ok fun B fB => ⟨_, rfl, fun hL => ⟨by rw [hL]; rfl, fB⟩, fun hL => C09.rdigit_ok ⟨_, rfl, ?_, fB⟩⟩
    rw [hL]
    rfl
  rintro _ B ⟨rfl, fB⟩ scr3
  have sB := sA.more fB
  refine ⟨fun hLD => ?_, fun hLD => ?_⟩
  rotate_left
  · rw [if_neg (by rw [hLD]; decide)] at hst
    rw [all_err hne (by rw [hst]; exact (show (16 : Int) ≠ 0 by decide)), hst] at he
    rw [← he] at kk
    exact kk ⟨none, 0, 0⟩ B (sB.drop.nilrow flK 63 3)
  rw [if_pos hLD] at hst
  rw [← hd] at hst he
  have hsp := spl_app (t.drop j)
  have hneA : splA (t.drop j) ≠ [] := by rw [hd]; exact splA_ne hLD
  have hlA : 0 < (splA (t.drop j)).length := List.length_pos_iff.2 hneA
  have hlen := congrArg List.length hsp
  rw [List.length_append, List.length_drop] at hlen
  have hB := drop_of hsp.symm
  generalize hw : splA (t.drop j) = w at *
  have we : w64 ((j : Int) + ((str w).size : Int)) = ((j + w.length : Nat) : Int) := by rw [str_size, wid (by omega) (by omega)]; omega
  have wbeh : ∀ (bh : Bool), bh = wordy (splB (t.drop j)) → ∀ {C : Hp}, Fr no B C → CallF Tryd.prog 69 #[.string (str w), .bool bh] C (fun r4 H12 => ∃ y_01 : Int, ∃ y_11 : Int, r4 = .tuple #[.int .i64 y_01, .int .i64 y_11] ∧ 
    (((y_11 != 0) = true → K (.tuple #[.slice none 0 0, .int .i64 line, .int .i64 y_11]) H12) ∧ ((y_11 != 0) = false → 
    ∀ b2 H13, Newb H12 (.cells #[.int .i64 y_01, .string (str w), .int .i64 line] 63) b2 H13 → App Tryd.prog #[58, 58] 58 H13 [.slice s.a s.n s.c, .slice (some ⟨b2, 0, none⟩) 1 1] fun ap1 H14 => 
    (∃ m2, m2 < t.length - j ∧ ∃ (f j'' : Nat) (toks : List Tk), ((j + w.length : Nat) : Int) = (j'' : Int) ∧ j'' ≤ t.length ∧ Sym H0 no H14 (arr flK 63 3 ap1 toks :: L) ∧ t.length - j'' < f ∧ m2 = t.length - j'' ∧ 1 ≤ line ∧ line ≤ 1 + j'' ∧ toks.length ≤ j'' ∧ allT f (t.drop j'') line toks = allT (t.length + 1) t 1 [])))) Z := by
    rintro bh hbh C fC
    subst hbh
    have sC := sB.more fC
    refine rword_ok (by omega) hneA fun D fD => ⟨_, _, rfl, fun hE => ?_, fun hE => ?_⟩
    · have hE' : (wordT w (wordy (splB (t.drop j)))).2 ≠ 0 := by simpa using hE
      rw [all_err (by rw [hd]; exact hne) (by rw [hst]; exact hE'), hst] at he
      rw [← he] at kk
      exact kk ⟨none, 0, 0⟩ D ((sC.more fD).drop.nilrow flK 63 3)
    · have hE' : (wordT w (wordy (splB (t.drop j)))).2 = 0 := by simpa using hE
      rw [if_pos hE']
      have hk0 : (wordT w (wordy (splB (t.drop j)))).1 ≠ 0 := by
        intro h7
        revert hE' h7
        unfold wordT
        split
        · split
          · intro h; cases h
          · intro _ h; cases h
        · split
          · intro _ h; cases h
          · split
            · intro _ h; cases h
            · intro h; cases h
      rw [all_step (by rw [hd]; exact hne) (by rw [hst]; exact hE'), hst] at he
      simp only [more] at he
      rw [if_neg hk0] at he
      intro b2 E hE2
      refine (sC.more fD).app1 (k := 0) (x := ((wordT w (wordy (splB (t.drop j)))).1, w, line)) tyRTok FlK (by decide) hE2 rfl (by omega) fun ap G hap sG => ?_
      refine goon (by omega) (by omega) sG (by omega) (by omega) ?_ ?_
      · rw [List.length_append, List.length_singleton]
        omega
      · rw [← hB]
        simpa using he
  rw [← str_size t]
  refine SlS.from hj ?_
  refine rsplit_ok (by rw [List.length_drop]; omega) ⟨_, _, rfl, ?_⟩
  rw [hw, we, str_size]
  refine ⟨fun hlt3 => ?_, fun hge3 => ?_⟩
  · have h3 := dlt hlt3
    have hx3 : t[j + w.length]? = some t[j + w.length] := List.getElem?_eq_getElem h3
    generalize t[j + w.length] = y at hx3
    have hbw : isL y = wordy (splB (t.drop j)) := by rw [hB, drop_at hx3]; rfl
    exact IxS.mk hx3 (C09.rletter_ok fun C fC => ⟨_, rfl, wbeh _ hbw fC⟩)
  · have h3 := dge hge3
    have hbw : false = wordy (splB (t.drop j)) := by rw [hB, List.drop_of_length_le h3]; rfl
    exact wbeh _ hbw (Fr.refl _ _)
theorem rj_size : ((⟨#[32]⟩ : ByteArray)).size = 1 := rfl
/-- how long tokens' texts are together -/
def sizeK (l : List Tk) : Nat := (l.map fun x => x.2.1.length + 1).sum
theorem sizeK_snoc (l : List Tk) (x : Tk) : sizeK (l ++ [x]) = sizeK l + (x.2.1.length + 1) := by simp [sizeK]
theorem join_len : ∀ l : List Tk, (joinL (l.map (·.2.1))).length ≤ sizeK l
  | [] => by simp [joinL, sizeK]
  | [x] => by simp [joinL, sizeK]
  | x :: y :: l => by
    have := join_len (y :: l)
    show (x.2.1 ++ 32 :: joinL ((y :: l).map (·.2.1))).length ≤ _
    have e : sizeK (x :: y :: l) = (x.2.1.length + 1) + sizeK (y :: l) := by simp [sizeK]
    have e2 : joinL ((y :: l).map (·.2.1)) = joinL (y.2.1 :: l.map (·.2.1)) := rfl
    rw [e, List.length_append, List.length_cons, e2]
    rw [e2] at this
    omega
theorem size_take (l : List Tk) (j : Nat) : sizeK (l.take j) ≤ sizeK l := by
  have := congrArg sizeK (List.take_append_drop j l)
  unfold sizeK at this ⊢
  rw [List.map_append, List.sum_append] at this
  omega
theorem join_step {l : List Tk} {j : Nat} {x : Tk} (hx : l[j]? = some x) : joinL ((l.take (j + 1)).map (·.2.1)) = if j = 0 then x.2.1 else joinL ((l.take j).map (·.2.1)) ++ 32 :: x.2.1 := by
  obtain ⟨h1, h2⟩ := List.getElem?_eq_some_iff.1 hx
  rw [List.take_succ_eq_append_getElem h1, h2, List.map_append, List.map_singleton, joinL_snoc]
  by_cases hj : j = 0
  · subst hj
    simp
  · rw [if_neg hj, if_neg]
    rw [List.map_eq_nil_iff, List.take_eq_nil_iff]
    rintro (h | h)
    · exact hj h
    · rw [h] at h1; simp at h1
theorem str_app1 (a b : List UInt8) : str a ++ (⟨#[32]⟩ : ByteArray) ++ str b = str (a ++ 32 :: b) := by
  have : (⟨#[32]⟩ : ByteArray) = str [32] := rfl
  rw [this, str_app, str_app]
  simp
theorem rjoin_ok {s : Sl} {l : List Tk} (h : Rd flK 3 H s l) (hl : sizeK l ≤ 1000000000) (hn : l.length ≤ 1000000) (k : K (.string (str (joinL (l.map (·.2.1))))) H) : CallF Tryd.prog 50 #[.slice s.a s.n s.c] H K Z := by
  refine V50_ok ?_
  unfold V50
  have hsn := h.len
  refine ⟨fun a i A m => ∃ j : Nat, A = H ∧ i = (j : Int) ∧ j ≤ l.length ∧ m = l.length - j ∧ a = str (joinL ((l.take j).map (·.2.1))), ⟨_, 0, rfl, rfl, Nat.zero_le _, rfl, rfl⟩, ?_⟩
  rintro a i A m ⟨j, rfl, rfl, hj, rfl, rfl⟩ scr
  have hjs := join_len (l.take j)
  have hts := size_take l j
  refine ⟨fun hlt => ?_, fun hge => ?_⟩
  · have hjl : j < l.length := by have := dlt hlt; omega
    have hx : l[j]? = some l[j] := List.getElem?_eq_getElem hjl
    generalize l[j] = x at hx
    have hst := join_step hx
    have hxs : x.2.1.length ≤ sizeK l := by
      have := size_take l (j + 1)
      obtain ⟨h1, h2⟩ := List.getElem?_eq_some_iff.1 hx
      rw [List.take_succ_eq_append_getElem h1, h2, sizeK_snoc] at this
      omega
    have ix : ∀ {Q : Addr → Prop}, (∀ ad, hcell A (Addr.add ad 1) = some (.string (str x.2.1)) → Q ad) → IxA s.a s.n (j : Int) 3 Q := fun k => h.ix (by decide) FlK (by omega) (by simpa using hx) fun ad hc _ => k ad (hc 1 _ rfl)
    refine ⟨fun hp => ?_, fun hz => ?_⟩
    · have hp' : j ≠ 0 := by have := of_decide_eq_true hp; omega
      rw [str_size, rj_size]
      refine ⟨by omega, ix fun ad had => ⟨_, had, ?_⟩⟩
      have e1 : (str (joinL ((l.take j).map (·.2.1))) ++ (⟨#[32]⟩ : ByteArray)).size = (joinL ((l.take j).map (·.2.1))).length + 1 := by rw [ByteArray.size_append, str_size]; rfl
      rw [e1, str_size]
      refine ⟨by omega, l.length - (j + 1), by omega, j + 1, rfl, wi (by omega), hjl, rfl, ?_⟩
      rw [hst, if_neg hp', str_app1]
    · have hz' : j = 0 := by have := of_decide_eq_false hz; omega
      refine ix fun ad had => ⟨_, had, ?_⟩
      rw [str_size, str_size]
      refine ⟨by omega, l.length - (j + 1), by omega, j + 1, rfl, wi (by omega), hjl, rfl, ?_⟩
      rw [hst, if_pos hz', hz']
      rw [str_app]
      rfl
  · have hjl : l.length ≤ j := by have := dge hge; omega
    rw [List.take_of_length_le hjl]
    exact k
theorem join_ok {s : Sl} {l : List Tk} (h : Rd flK 3 H s l) (hl : sizeK l ≤ 1000000000) (hn : l.length ≤ 1000000) (k : ∀ H', Fr no H H' → K (.string (str (joinL (l.map (·.2.1))))) H') : CallF Tryd.prog 49 #[.slice s.a s.n s.c] H K Z := by
  refine V49_ok ?_
  unfold V49
  have hsn := h.len
  intro bB A hA
  have sA : Sym H no A [bldI bB [.pointer none, .slice none 0 0] []] := new_bld (Sym.start H) hA
  refine ⟨fun i B m => ∃ (j : Nat) (cs : List Value), i = (j : Int) ∧ j ≤ l.length ∧ m = l.length - j ∧ Sym H no B [bldI bB cs (joinL ((l.take j).map (·.2.1)))], ⟨_, 0, _, rfl, Nat.zero_le _, rfl, sA⟩, ?_⟩
  rintro i B m ⟨j, cs, rfl, hj, rfl, sB⟩ scr
  have hB := h.more sB.fr
  have hjs := join_len (l.take j)
  have hts := size_take l j
  refine ⟨fun hlt => ?_, fun hge => ?_⟩
  · have hjl : j < l.length := by have := dlt hlt; omega
    have hx : l[j]? = some l[j] := List.getElem?_eq_getElem hjl
    generalize l[j] = x at hx
    have hst := join_step hx
    have hxs : x.2.1.length ≤ sizeK l := by
      have := size_take l (j + 1)
      obtain ⟨h1, h2⟩ := List.getElem?_eq_some_iff.1 hx
      rw [List.take_succ_eq_append_getElem h1, h2, sizeK_snoc] at this
      omega
    refine hB.ix (by decide) FlK (by omega) (by simpa using hx) fun ad hc hc0 => ?_
    refine ⟨x.1, str x.2.1, x.2.2, ⟨by rw [hc0]; rfl, hc 1 _ rfl, hc 2 _ rfl, trivial⟩, fun bT C hC => ?_⟩
    have sC := sB.newb (cs := [.int .i64 0, .string ⟨#[]⟩, .int .i64 0]) hC
    refine sC.stbs (k := 0) (i := 0) (vs := [.int .i64 x.1, .string (str x.2.1), .int .i64 x.2.2]) rfl (by simp) (by intro v hv; exact FlK.one x v hv) fun D sD => ?_
    replace sD : Sym H no D (blk bT [.int .i64 x.1, .string (str x.2.1), .int .i64 x.2.2] 64 :: [bldI bB cs (joinL ((l.take j).map (·.2.1)))]) := sD
    have hT : ∀ {E : Hp} {cs' : List Value} {ys : List UInt8}, Sym H no E (blk bT [.int .i64 x.1, .string (str x.2.1), .int .i64 x.2.2] 64 :: [bldI bB cs' ys]) → hcell E ⟨bT, 1, none⟩ = some (.string (str x.2.1)) := fun sE => sE.ld (k := 0) rfl 1
    refine ⟨fun hp => ?_, fun hz => ?_⟩
    · have hp' : j ≠ 0 := by have := of_decide_eq_true hp; omega
      refine wbyte (c := 32) (k := 1) sD rfl (by omega) fun E cs' sE => ⟨_, rfl, ?_⟩
      replace sE : Sym H no E (blk bT [.int .i64 x.1, .string (str x.2.1), .int .i64 x.2.2] 64 :: [bldI bB cs' (joinL ((l.take j).map (·.2.1)) ++ [32])]) := sE
      refine ⟨_, hT sE, wstr (k := 1) sE rfl (by rw [List.length_append]; simp only [List.length_singleton]; omega) fun G cs'' sG => ⟨_, _, rfl, l.length - (j + 1), by omega, j + 1, cs'', wi (by omega), hjl, rfl, ?_⟩⟩
      rw [hst, if_neg hp']
      have := sG.drop
      rw [List.append_assoc] at this
      exact this
    · have hz' : j = 0 := by have := of_decide_eq_false hz; omega
      refine ⟨_, hT sD, wstr (k := 1) sD rfl (by omega) fun G cs'' sG => ⟨_, _, rfl, l.length - (j + 1), by omega, j + 1, cs'', wi (by omega), hjl, rfl, ?_⟩⟩
      rw [hst, if_pos hz']
      have := sG.drop
      subst hz'
      exact this
  · have hjl : l.length ≤ j := by have := dge hge; omega
    rw [List.take_of_length_le hjl] at sB hjs
    exact bstr (k := 0) sB rfl (by omega) fun C sC => ⟨_, rfl, k C sC.fr⟩
theorem same_ok {s t : Sl} {l : List Tk} (h : Rd flK 3 H s l) (h2 : Rd flK 3 H t l) (hn : l.length ≤ 1000000) (k : K (.bool true) H) : CallF Tryd.prog 47 #[.slice s.a s.n s.c, .slice t.a t.n t.c] H K Z := by
  refine V47_ok ?_
  unfold V47
  have hs := h.len
  have ht := h2.len
  refine ⟨fun hne => ?_, fun _ => ?_⟩
  · rw [hs, ht] at hne
    simp at hne
  refine ⟨fun i A m => ∃ j : Nat, A = H ∧ i = (j : Int) ∧ j ≤ l.length ∧ m = l.length - j, ⟨_, 0, rfl, rfl, Nat.zero_le _, rfl⟩, ?_⟩
  rintro i A m ⟨j, rfl, rfl, hj, rfl⟩ scr
  refine ⟨fun B => B = A ∧ j < l.length, ?_, fun hlt => ⟨fun _ => ⟨rfl, by have := dlt hlt; omega⟩, fun _ => k⟩, fun _ => k⟩
  rintro A ⟨rfl, hjl⟩ scr1
  have hx : l[j]? = some l[j] := List.getElem?_eq_getElem hjl
  generalize l[j] = x at hx
  have ix : ∀ {u : Sl} {Q : Addr → Prop}, Rd flK 3 A u l → (∀ ad, (hcell A ad = some (.int .i64 x.1) ∧ hcell A (Addr.add ad 1) = some (.string (str x.2.1)) ∧ hcell A (Addr.add ad 2) = some (.int .i64 x.2.2)) → Q ad) → IxA u.a u.n (j : Int) 3 Q :=
    fun hu k => hu.ix (by decide) FlK (by omega) (by simpa using hx) fun ad hc hc0 => k ad ⟨hc0, hc 1 _ rfl, hc 2 _ rfl⟩
  refine ix h fun ad c1 => ⟨_, c1.1, ix h2 fun ad1 c2 => ⟨_, c2.1, (fun hne => by rw [bne_self_eq_false] at hne; cases hne), fun _ => ?_⟩⟩
  refine ix h fun ad c1 => ⟨_, c1.2.1, ix h2 fun ad1 c2 => ⟨_, c2.2.1, fun hne => ?_, fun _ => ?_⟩⟩
  · rw [beqS_iff.2 rfl] at hne; cases hne
  refine ix h fun ad c1 => ⟨_, c1.2.2, ix h2 fun ad1 c2 => ⟨_, c2.2.2, (fun hne => by rw [bne_self_eq_false] at hne; cases hne), fun _ => ?_⟩⟩
  exact ⟨l.length - (j + 1), by omega, j + 1, rfl, wi (by omega), hjl, rfl⟩
end
end Go.Proofs.YthaejcmllibeoaaDoor.C09C

