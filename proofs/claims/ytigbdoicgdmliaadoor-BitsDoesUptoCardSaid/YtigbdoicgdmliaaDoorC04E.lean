/- weftref04: rising lists. -/
import Derived.Test.YtigbdoicgdmliaaDoorC04D
set_option linter.unusedVariables false
set_option linter.unusedSimpArgs false
-- tInt: 3
-- tRef: 28
-- rAdd: 8
-- rJoin: 10
-- rHas: 12
-- rBlocks: 15
-- rSame: 17
namespace Go.Proofs.YtigbdoicgdmliaaDoor.C04
open Go Go.V Go.Proofs Go.Proofs.YtigbdoicgdmliaaDoor.N04 Go.Proofs.YtigbdoicgdmliaaDoor.P04
attribute [local irreducible] Cvt ExtF CallF hrun App MkS callV
def memZ (l : List Nat) (n : Int) : Bool := decide (0 ≤ n ∧ n.toNat ∈ l)
def newL (l : List Nat) (n : Int) : Bool := decide (0 ≤ n ∧ n ≤ 268435456 ∧ n.toNat ∉ l)
def addL (l : List Nat) (n : Int) : List Nat := if newL l n then insL l n.toNat else l
theorem newL_eq {bl : List Bk} (w : Wf bl) (n : Int) : newL (tells bl) n = isNew bl n := by
  unfold newL isNew
  by_cases h : n < 0 ∨ n > 268435456
  · rw [if_pos h]
    exact decide_eq_false fun k => by omega
  · rw [if_neg h, Bool.eq_iff_iff, decide_eq_true_eq, decide_eq_true_eq, mem_tells w]
    constructor
    · exact fun k => k.2.2
    · exact fun k => ⟨by omega, by omega, k⟩
theorem addL_eq {bl : List Bk} (w : Wf bl) (n : Int) : addL (tells bl) n = tells (addB bl n) := by
  unfold addL
  rw [newL_eq w, tells_add w]
theorem memZ_eq {bl : List Bk} (w : Wf bl) (n : Int) : memZ (tells bl) n = decide (0 ≤ n ∧ Mem bl n.toNat) := by
  unfold memZ
  rw [Bool.eq_iff_iff, decide_eq_true_eq, decide_eq_true_eq, mem_tells w]
theorem addL_len (l : List Nat) (n : Int) : (addL l n).length = l.length + (if newL l n then 1 else 0) := by
  unfold addL
  split
  · rw [insL_len]
  · rfl
def joinL (l t : List Nat) : List Nat := t.foldl (fun u (x : Nat) => addL u (x : Int)) l
theorem joinL_snoc (l t : List Nat) (x : Nat) : joinL l (t ++ [x]) = addL (joinL l t) (x : Int) := by unfold joinL; rw [List.foldl_append]; rfl
theorem joinL_len (l t : List Nat) : l.length ≤ (joinL l t).length ∧ (joinL l t).length ≤ l.length + t.length := by
  induction t generalizing l with
  | nil => exact ⟨Nat.le_refl _, Nat.le_refl _⟩
  | cons x t ih =>
    have h1 := ih (addL l (x : Int))
    have h2 := addL_len l (x : Int)
    have h3 : (if newL l (x : Int) then 1 else 0) ≤ 1 := by split <;> omega
    show _ ≤ (joinL (addL l x) t).length ∧ (joinL (addL l x) t).length ≤ _
    rw [List.length_cons]
    omega
theorem joinL_eq {a b : List Bk} (ha : Wf a) (hb : Wf b) (sb : Sm b) : joinL (tells a) (tells b) = tells (orB a b) := by
  rw [← join_fold ha hb sb]
  have hs : ∀ x ∈ tells b, x ≤ 268435456 := fun x hx => sb x ((mem_tells hb).1 hx)
  generalize tells b = t at hs
  clear hb sb
  induction t generalizing a with
  | nil => rfl
  | cons x t ih =>
    have hx := hs x List.mem_cons_self
    have e : addB a (x : Int) = putB a x := by unfold addB; rw [if_neg (by omega), Int.toNat_natCast]
    show joinL (addL (tells a) x) t = tells (t.foldl putB (putB a x))
    rw [addL_eq ha, e]
    exact ih (putB_wf ha hx) fun y hy => hs y (List.mem_cons_of_mem _ hy)
section
variable {H : Hp} {K : Value → Hp → Prop} {Z : List PanicEntry → Hp → Prop} {s t : Sl} {l m : List Nat} {n : Int}
theorem rhas_ok (h : Rd flN 1 H s l) (hl : l.length ≤ 1000000) (k : K (.bool (memZ l n)) H) : CallF Tryd.prog 12 #[.slice s.a s.n s.c, .int .i64 n] H K Z := by
  refine V12_ok ?_
  unfold V12
  have hn := h.len
  refine ⟨fun u A m => ∃ j : Nat, A = H ∧ u = (j : Int) ∧ j ≤ l.length ∧ m = l.length - j ∧ ∀ x ∈ l.take j, (x : Int) ≠ n, ⟨_, 0, rfl, rfl, Nat.zero_le _, rfl, by simp⟩, ?_⟩
  rintro u A m ⟨j, rfl, rfl, hj, rfl, hno⟩ scr
  refine ⟨fun hlt => ?_, fun hge => ?_⟩
  · have hj' : j < l.length := by have := dlt hlt; omega
    have hx : l[j]? = some l[j] := List.getElem?_eq_getElem hj'
    have htk : l.take (j + 1) = l.take j ++ [l[j]] := List.take_succ_eq_append_getElem hj'
    generalize l[j] = y at hx htk
    refine h.ixn FlN hx fun ad e => ⟨_, e, fun heq => ?_, fun hne => ⟨l.length - (j + 1), by omega, j + 1, rfl, wi (by omega), hj', rfl, fun x hx' => ?_⟩⟩
    · have hy : (y : Int) = n := by simpa using heq
      have : memZ l n = true := decide_eq_true ⟨by omega, by rw [← hy]; exact List.mem_of_getElem? hx⟩
      rw [this] at k
      exact k
    · rw [htk] at hx'
      rcases List.mem_append.1 hx' with h' | h'
      · exact hno x h'
      · rw [List.mem_singleton.1 h']
        simpa using hne
  · have hj' : l.length ≤ j := by have := dge hge; omega
    rw [List.take_of_length_le hj'] at hno
    have : memZ l n = false := decide_eq_false fun hm => hno _ hm.2 (by omega)
    rw [this] at k
    exact k
/-- a new row, or the old one -/
def Out (H : Hp) (s : Sl) (l : List Nat) (H' : Hp) (s' : Sl) (l' : List Nat) : Prop := Sym H no H' [arr flN 3 1 s' l'] ∨ (Fr no H H' ∧ s' = s ∧ l' = l)
theorem Out.fr {H' : Hp} {s' : Sl} {l' : List Nat} (h : Out H s l H' s' l') : Fr no H H' := by
  rcases h with h | h
  · exact h.frno
  · exact h.1
theorem Out.rd {H' : Hp} {s' : Sl} {l' : List Nat} (h : Out H s l H' s' l') (hr : Rd flN 1 H s l) : Rd flN 1 H' s' l' := by
  rcases h with h | ⟨h1, rfl, rfl⟩
  · exact h.rd (k := 0) FlN (by decide) rfl
  · exact hr.more h1
theorem Out.put {H0 H' : Hp} {S : Nat → Prop} {R : List It} {s' : Sl} {l' : List Nat} (h : Out H s l H' s' l') (hs : Sym H0 S H (arr flN 3 1 s l :: R)) : Sym H0 S H' (arr flN 3 1 s' l' :: R) := by
  rcases h with h | ⟨h1, rfl, rfl⟩
  · have := hs.join h
    exact (this.swap).drop
  · exact hs.more h1
theorem Out.trans {H' H'' : Hp} {s' s'' : Sl} {l' l'' : List Nat} (h : Out H s l H' s' l') (k : Out H' s' l' H'' s'' l'') : Out H s l H'' s'' l'' := by
  rcases h with h | ⟨h1, rfl, rfl⟩
  · exact .inl (k.put h)
  · rcases k with k | ⟨k1, rfl, rfl⟩
    · refine .inl ⟨h1.trans k.fr, k.ok, k.sep, fun a ha i hi => ?_⟩
      rcases k.fp a ha i hi with h | h
      · exact h.elim
      · exact .inr (Nat.le_trans h1.size h)
    · exact .inr ⟨h1.trans k1, rfl, rfl⟩
theorem radd_ok (h : Rd flN 1 H s l) (hl : l.length ≤ 1000000) (k : ∀ s' H', Out H s l H' s' (addL l n) → K (.tuple #[.slice s'.a s'.n s'.c, .bool (newL l n)]) H') :
    CallF Tryd.prog 8 #[.slice s.a s.n s.c, .int .i64 n] H K Z := by
  refine V8_ok ?_
  unfold V8
  have hn := h.len
  have no' : newL l n = false → K (.tuple #[.slice s.a s.n s.c, .bool false]) H := fun e => by
    have := k s H (.inr ⟨Fr.refl _ _, rfl, by unfold addL; rw [e]; rfl⟩)
    rw [e] at this
    exact this
  refine ⟨fun A => A = H ∧ newL l n = true, ?_, fun h1 => no' (decide_eq_false fun hc => by have := of_decide_eq_true h1; omega), fun h1 => ⟨fun h2 => no' (decide_eq_false fun hc => by have := of_decide_eq_true h2; omega), fun h2 => ?_⟩⟩
  rotate_left
  · refine rhas_ok h hl ⟨_, rfl, fun hm => no' (decide_eq_false fun hc => hc.2.2 (of_decide_eq_true hm).2), fun hm => ⟨rfl, decide_eq_true ?_⟩⟩
    have g1 := of_decide_eq_false h1
    have g2 := of_decide_eq_false h2
    have g3 := of_decide_eq_false hm
    exact ⟨by omega, by omega, fun hc => g3 ⟨by omega, hc⟩⟩
  rintro A ⟨rfl, hnew⟩ scr
  have hd := of_decide_eq_true hnew
  obtain ⟨N, rfl⟩ : ∃ N : Nat, n = (N : Int) := ⟨n.toNat, by omega⟩
  have ea : addL l (N : Int) = insL l N := by unfold addL; rw [if_pos hnew, Int.toNat_natCast]
  rw [ea, hnew] at k
  -- what is built
  have fin : ∀ j : Nat, j ≤ l.length → (∀ x ∈ l.take j, x < N) → (∀ x, l[j]? = some x → ¬ x < N) → ∀ b A1, Newb A (.cells #[] 3) b A1 → (s.n ≤ s.c ∧ SlX s.a s.c 0 (j : Int) 1 fun cut => 
      (App Tryd.prog #[28, 28] 28 A1 [.slice (some ⟨b, 0, none⟩) 0 0, .slice cut.a cut.n cut.c] fun ap A2 => 
      (∀ b1 A3, Newb A2 (.cells #[.int .i64 (N : Int)] 3) b1 A3 → App Tryd.prog #[28, 28] 28 A3 [.slice ap.a ap.n ap.c, .slice (some ⟨b1, 0, none⟩) 1 1] fun ap1 A4 => 
      (s.n ≤ s.c ∧ SlX s.a s.c (j : Int) (s.n : Int) 1 fun cut1 => (App Tryd.prog #[28, 28] 28 A4 [.slice ap1.a ap1.n ap1.c, .slice cut1.a cut1.n cut1.c] fun ap2 A5 => 
      (K (.tuple #[.slice ap2.a ap2.n ap2.c, .bool true]) A5)))))) := by
    intro j hj h1 h2 b A1 n1
    have hle := h.le
    have s1 : Sym A no A1 [arr flN 3 1 ⟨some ⟨b, 0, none⟩, 0, 0⟩ []] := (Sym.start A).lit (l := ([] : List Nat)) FlN (by decide) n1 rfl
    refine ⟨hle, ⟨by omega, by omega, by omega⟩, ?_⟩
    have p1 := (h.more s1.frno).part FlN (lo := 0) (hi := j) (Nat.zero_le _) (by omega)
    rw [List.drop_zero, Nat.sub_zero] at p1
    refine s1.appR (k := 0) tyI FlN (by decide) rfl p1 (by show (0 + (l.take j).length) * 8 ≤ _; rw [List.length_take]; omega) fun ap A2 hap s2 => ?_
    have hap' : ap.n = j := by
      have : ap.n = 0 + (l.take j).length := hap
      rw [List.length_take] at this
      omega
    intro b1 A3 n3
    refine s2.app1 (k := 0) (x := N) tyI FlN (by decide) n3 rfl (by omega) fun ap1 A4 hap1 s4 => ?_
    refine ⟨hle, ⟨by omega, by omega, by omega⟩, ?_⟩
    have p2 := (h.more s4.frno).part FlN (lo := j) (hi := s.n) (by omega) (Nat.le_refl _)
    have e2 : (l.drop j).take (s.n - j) = l.drop j := List.take_of_length_le (by rw [List.length_drop]; omega)
    rw [e2] at p2
    rw [Int.toNat_natCast, Int.toNat_natCast]
    refine s4.appR (k := 0) tyI FlN (by decide) rfl p2 (by rw [List.length_drop]; omega) fun ap2 A5 hap2 s5 => ?_
    refine k ap2 A5 (.inl ?_)
    rw [insL_at hj h1 h2]
    have hr : Sym A no A5 [arr flN 3 1 ap2 ([] ++ l.take j ++ [N] ++ l.drop j)] := s5
    have e3 : ([] ++ l.take j ++ [N] ++ l.drop j) = l.take j ++ N :: l.drop j := by simp
    rw [e3] at hr
    exact hr
  refine ⟨fun u B m => ∃ j : Nat, B = A ∧ u = (j : Int) ∧ j ≤ l.length ∧ m = l.length - j ∧ ∀ x ∈ l.take j, x < N, ⟨_, 0, rfl, rfl, Nat.zero_le _, rfl, by simp⟩, ?_⟩
  rintro u B m ⟨j, rfl, rfl, hj, rfl, hlo⟩ scr
  refine ⟨fun hlt => ?_, fun hge => fin j hj hlo fun x hx => ?_⟩
  · have hj' : j < l.length := by have := dlt hlt; omega
    have hx : l[j]? = some l[j] := List.getElem?_eq_getElem hj'
    have htk : l.take (j + 1) = l.take j ++ [l[j]] := List.take_succ_eq_append_getElem hj'
    generalize l[j] = y at hx htk
    refine h.ixn FlN hx fun ad e => ⟨_, e, fun hlt => ⟨l.length - (j + 1), by omega, j + 1, rfl, wi (by omega), hj', rfl, fun x hx' => ?_⟩, fun hge => fin j hj hlo fun x hx' => ?_⟩
    · rw [htk] at hx'
      rcases List.mem_append.1 hx' with h' | h'
      · exact hlo x h'
      · rw [List.mem_singleton.1 h']
        exact dlt hlt
    · rw [hx] at hx'
      cases hx'
      have := dge hge
      omega
  · have := (List.getElem?_eq_some_iff.1 hx).1
    have := dge hge
    omega
theorem rjoin_ok (h : Rd flN 1 H s l) (h' : Rd flN 1 H t m) (hl : l.length ≤ 400000) (hm : m.length ≤ 400000) (k : ∀ s' H', Out H s l H' s' (joinL l m) → K (.tuple #[.slice s'.a s'.n s'.c, .int .i64 (((joinL l m).length - l.length : Nat) : Int)]) H') :
    CallF Tryd.prog 10 #[.slice s.a s.n s.c, .slice t.a t.n t.c] H K Z := by
  refine V10_ok ?_
  unfold V10
  have hn := h'.len
  refine ⟨fun s1 n i A mm => ∃ j : Nat, i = (j : Int) ∧ j ≤ m.length ∧ mm = m.length - j ∧ Out H s l A s1 (joinL l (m.take j)) ∧ n = (((joinL l (m.take j)).length - l.length : Nat) : Int), ⟨_, 0, rfl, Nat.zero_le _, rfl, .inr ⟨Fr.refl _ _, rfl, rfl⟩, by simp [joinL]⟩, ?_⟩
  rintro s1 n i A mm ⟨j, rfl, hj, rfl, ho, rfl⟩ scr
  have fA := ho.fr
  have hr := ho.rd h
  refine ⟨fun hlt => ?_, fun hge => ?_⟩
  · have hj' : j < m.length := by have := dlt hlt; omega
    have hx : m[j]? = some m[j] := List.getElem?_eq_getElem hj'
    have htk : m.take (j + 1) = m.take j ++ [m[j]] := List.take_succ_eq_append_getElem hj'
    generalize m[j] = y at hx htk
    have hjl := joinL_len l (m.take j)
    rw [List.length_take] at hjl
    have ej : joinL l (m.take (j + 1)) = addL (joinL l (m.take j)) (y : Int) := by rw [htk, joinL_snoc]
    have el := addL_len (joinL l (m.take j)) (y : Int)
    refine (h'.more fA).ixn FlN hx fun ad e => ⟨_, e, radd_ok hr (by omega) fun s' B oB => ⟨s', _, rfl, fun hy => ⟨m.length - (j + 1), by omega, j + 1, wi (by omega), hj', rfl, by rw [ej]; exact ho.trans oB, ?_⟩, fun hy => ⟨m.length - (j + 1), by omega, j + 1, wi (by omega), hj', rfl, by rw [ej]; exact ho.trans oB, ?_⟩⟩⟩
    · rw [if_pos hy] at el
      rw [ej, el, wi (by omega)]
      omega
    · rw [if_neg (by rw [hy]; decide)] at el
      rw [ej, el]
      rfl
  · have hj' : m.length ≤ j := by have := dge hge; omega
    rw [List.take_of_length_le hj'] at ho
    rw [List.take_of_length_le hj']
    exact k s1 A ho
theorem runs_le : ∀ (l : List Nat) (p : Option Nat), runs p l ≤ l.length
  | [], _ => Nat.le_refl _
  | x :: l, p => by
    have := runs_le l (some (x / 64))
    unfold runs
    rw [List.length_cons]
    split <;> omega
theorem rblocks_ok (h : Rd flN 1 H s l) (hl : l.length ≤ 1000000) (hx : ∀ x ∈ l, x ≤ 9223372036854775807) (k : K (.int .i64 (runs none l : Int)) H) : CallF Tryd.prog 15 #[.slice s.a s.n s.c] H K Z := by
  refine V15_ok ?_
  unfold V15
  have hn := h.len
  refine ⟨fun n i A m => ∃ j : Nat, A = H ∧ i = (j : Int) ∧ j ≤ l.length ∧ m = l.length - j ∧ n = ((runs none (l.take j) : Nat) : Int), ⟨_, 0, rfl, rfl, Nat.zero_le _, rfl, rfl⟩, ?_⟩
  rintro n i A m ⟨j, rfl, rfl, hj, rfl, rfl⟩ scr
  have hrl := runs_le (l.take j) none
  rw [List.length_take] at hrl
  refine ⟨fun hlt => ?_, fun hge => ?_⟩
  · have hj' : j < l.length := by have := dlt hlt; omega
    have hxj : l[j]? = some l[j] := List.getElem?_eq_getElem hj'
    have htk : l.take (j + 1) = l.take j ++ [l[j]] := List.take_succ_eq_append_getElem hj'
    generalize l[j] = y at hxj htk
    have er := runs_snoc (l.take j) none y
    rw [← htk] at er
    refine ⟨fun h0 => ?_, fun h0 => ?_⟩
    · have hj0 : j = 0 := by have : (j : Int) = 0 := by simpa using h0
                             omega
      subst hj0
      refine ⟨l.length - 1, by omega, 1, rfl, rfl, by omega, rfl, ?_⟩
      rw [er, List.take_zero]
      simp [runs]
      decide
    · have hj0 : j ≠ 0 := by have : ¬ (j : Int) = 0 := by simpa using h0
                             omega
      have hp : l[j - 1]? = some (l[j - 1]'(by omega)) := List.getElem?_eq_getElem _
      have hgl : (l.take j).getLast? = l[j - 1]? := by
        rw [List.getLast?_eq_getElem?, List.length_take, Nat.min_eq_left (by omega), List.getElem?_take, if_pos (by omega)]
      generalize l[j - 1]'(by omega) = z at hp
      rw [hgl, hp] at er
      have hz := hx z (List.mem_of_getElem? hp)
      have hy := hx y (List.mem_of_getElem? hxj)
      have ew : w64 ((j : Int) - 1) = ((j - 1 : Nat) : Int) := wd (by omega) (by omega)
      refine h.ixn FlN hxj fun ad e => ⟨_, e, ?_⟩
      rw [ew]
      refine h.ixn FlN hp fun ad' e' => ⟨_, e', ?_⟩
      rw [td64 y hy, td64 z hz]
      refine ⟨fun hne => ⟨l.length - (j + 1), by omega, j + 1, rfl, wi (by omega), hj', rfl, ?_⟩, fun heq => ⟨l.length - (j + 1), by omega, j + 1, rfl, wi (by omega), hj', rfl, ?_⟩⟩
      · have hne' : ¬ (some (z / 64) = some (y / 64)) := by
          intro hc
          have := Option.some.inj hc
          rw [this] at hne
          simp at hne
        rw [er, if_neg hne', wi (by omega)]
      · have heq' : z / 64 = y / 64 := by
          have : ((y / 64 : Nat) : Int) = ((z / 64 : Nat) : Int) := by simpa using heq
          omega
        rw [er, if_pos (by show some (z / 64) = some (y / 64); rw [heq']), Nat.add_zero]
  · have hj' : l.length ≤ j := by have := dge hge; omega
    rw [List.take_of_length_le hj']
    exact k
theorem rsame_ok (h : Rd flN 1 H s l) (h' : Rd flN 1 H t m) (hl : l.length ≤ 1000000) (k : K (.bool (decide (l = m))) H) : CallF Tryd.prog 17 #[.slice s.a s.n s.c, .slice t.a t.n t.c] H K Z := by
  refine V17_ok ?_
  unfold V17
  have hn := h.len
  have hm := h'.len
  refine ⟨fun hne => ?_, fun heq => ?_⟩
  · have : l ≠ m := by
      rintro rfl
      have : s.n = t.n := by omega
      rw [this] at hne
      simp at hne
    rw [decide_eq_false this] at k
    exact k
  · have hst : s.n = t.n := by
      have : (s.n : Int) = (t.n : Int) := by simpa using heq
      omega
    refine ⟨fun i A mm => ∃ j : Nat, A = H ∧ i = (j : Int) ∧ j ≤ l.length ∧ mm = l.length - j ∧ l.take j = m.take j, ⟨_, 0, rfl, rfl, Nat.zero_le _, rfl, rfl⟩, ?_⟩
    rintro i A mm ⟨j, rfl, rfl, hj, rfl, he⟩ scr
    have fin : l.length ≤ j → K (.bool true) A := fun hj' => by
      rw [List.take_of_length_le hj', List.take_of_length_le (by omega)] at he
      rw [decide_eq_true he] at k
      exact k
    refine ⟨fun hlt => ⟨fun hlt2 => ?_, fun hge => fin (by have := dge hge; omega)⟩, fun hge => fin (by have := dge hge; omega)⟩
    have hj' : j < l.length := by have := dlt hlt; omega
    have hj2 : j < m.length := by omega
    have hx : l[j]? = some l[j] := List.getElem?_eq_getElem hj'
    have hy : m[j]? = some m[j] := List.getElem?_eq_getElem hj2
    have t1 : l.take (j + 1) = l.take j ++ [l[j]] := List.take_succ_eq_append_getElem hj'
    have t2 : m.take (j + 1) = m.take j ++ [m[j]] := List.take_succ_eq_append_getElem hj2
    generalize l[j] = x at hx t1
    generalize m[j] = y at hy t2
    refine h.ixn FlN hx fun ad e => ⟨_, e, h'.ixn FlN hy fun ad' e' => ⟨_, e', fun hne => ?_, fun heq => ⟨l.length - (j + 1), by omega, j + 1, rfl, wi (by omega), hj', rfl, ?_⟩⟩⟩
    · have : l ≠ m := by
        rintro rfl
        rw [hx] at hy
        cases hy
        simp at hne
      rw [decide_eq_false this] at k
      exact k
    · have hxy : x = y := by
        have : (x : Int) = (y : Int) := by simpa using heq
        omega
      rw [t1, t2, he, hxy]
end
end Go.Proofs.YtigbdoicgdmliaaDoor.C04

