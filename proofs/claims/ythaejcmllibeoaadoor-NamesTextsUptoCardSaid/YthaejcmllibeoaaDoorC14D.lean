/- names: Read, Base, Of, Cell, Object. -/
import Derived.Test.YthaejcmllibeoaaDoorC14C
set_option linter.unusedVariables false
set_option linter.unusedSimpArgs false
-- tNode: 41
-- readX: 35
-- base: 43
-- of: 36
-- cell: 38
-- object: 41
namespace Go.Proofs.YthaejcmllibeoaaDoor.C14
open Go Go.V Go.Proofs Go.Proofs.YthaejcmllibeoaaDoor.N14 Go.Proofs.YthaejcmllibeoaaDoor.C01 Go.Proofs.YthaejcmllibeoaaDoor.P14 Go.Proofs.YthaejcmllibeoaaDoor.BldI
attribute [local irreducible] Cvt ExtF CallF hrun App MkS
/-- what a reader hands back -/
def rres : Option Nd → Nd × Int
  | some a => (a, 0)
  | none => (zN, 11)
def ofL (a : Nd) : List UInt8 := if RightP a then textL a else []
def baseL (l : List UInt8) : List UInt8 := match readN l with | some a => textL { a with copy := 0 } | none => []
def cellL (l : List UInt8) (k : Int) : List UInt8 := match readN l with | some a => if a.kind < 5 ∨ a.cell ≠ -1 ∨ k < 0 then [] else ofL { a with cell := k } | none => []
def objL (l : List UInt8) : List UInt8 × Int × Bool := match readN l with | some a => if a.cell = -1 then ([], 0, false) else (textL { a with cell := -1 }, a.cell, true) | none => ([], 0, false)
theorem splB_le (l : List UInt8) : (splB l).length ≤ l.length := by
  have := congrArg List.length (spl_app l)
  rw [List.length_append] at this
  omega
theorem parse3_sm {c copy : Int} {fn r : List UInt8} {a : Nd} (h : parse3 c fn copy r = some a) : a.fn = fn ∧ a.name.length ≤ r.length := by
  cases r with
  | nil => cases h
  | cons m t =>
    rw [parse3] at h
    split at h
    · cases h; exact ⟨rfl, by simp⟩
    · split at h
      · split at h
        · cases h; exact ⟨rfl, Nat.zero_le _⟩
        · cases h
      · split at h
        · split at h
          · cases h; exact ⟨rfl, Nat.zero_le _⟩
          · cases h
        · cases h
theorem parse2_sm {c : Int} {s : List UInt8} {a : Nd} (h : parse2 c s = some a) : a.fn.length ≤ s.length ∧ a.name.length ≤ s.length := by
  have hA := splA_le s
  have hB := splB_le s
  unfold parse2 at h
  cases hs : splB s with
  | nil =>
    rw [hs] at h
    cases h
    exact ⟨Nat.zero_le _, hA⟩
  | cons m r =>
    rw [hs] at h hB
    simp only at h
    simp only [List.length_cons] at hB
    split at h
    · split at h
      · obtain ⟨h1, h2⟩ := parse3_sm h
        have := splB_le r
        rw [h1]
        exact ⟨hA, by omega⟩
      · cases h
    · obtain ⟨h1, h2⟩ := parse3_sm h
      rw [h1]
      exact ⟨hA, by simp only [List.length_cons] at h2; omega⟩
theorem parse_sm {l : List UInt8} {a : Nd} (hl : l.length ≤ 1048576) (h : parseO l = some a) : Sm a := by
  unfold parseO at h
  have hw : (l.takeWhile (· != 43)).length ≤ l.length := (List.takeWhile_prefix _).length_le
  split at h
  · split at h
    · obtain ⟨h1, h2⟩ := parse2_sm h
      exact ⟨by omega, by omega⟩
    · cases h
  · obtain ⟨h1, h2⟩ := parse2_sm h
    exact ⟨by omega, by omega⟩
theorem read_sm {l : List UInt8} {a : Nd} (hl : l.length ≤ 1048576) (h : readN l = some a) : Sm a := by
  obtain ⟨h1, rfl⟩ := readN_iff.1 h
  exact parse_sm hl (parse_text h1)
theorem right_copy {a : Nd} (h : RightP a) : RightP { a with copy := 0 } := by
  unfold RightP at *
  unfold Cnt at *
  grind
theorem right_cell {a : Nd} (h : RightP a) : RightP { a with cell := -1 } := by
  unfold RightP at *
  grind
section
variable {H : Hp} {K : Value → Hp → Prop} {Z : List PanicEntry → Hp → Prop}
set_option maxRecDepth 10000 in
theorem readX_ok {l : List UInt8} (hl : l.length ≤ 1048576) (ht : Pw H) (k : ∀ H', Fr no H H' → K (.tuple #[ndA (rres (readN l)).1, .int .i64 (rres (readN l)).2]) H') : CallF Tryd.prog 35 #[.string (str l)] H K Z := by
  refine V35_ok ?_
  unfold V35
  intro b A hA
  have s0 := (Sym.start H).newb (cs := ndV zN) hA
  have none_ : ∀ {B : Hp} {x : Nd} {bN : Nat}, readN l = none → Sym H no B [blk bN (ndV x) 41, blk b (ndV zN) 41] → StR b zN (.int .i64 11) B K := by
    intro B x bN hn s
    refine st_ret s (k := 1) rfl fun H' s' => ?_
    have := k H' s'.frno
    rw [hn] at this
    exact this
  refine nread_ok (by omega) (fun a B hp fB => ⟨_, _, _, _, _, _, _, rfl, ?_⟩) (fun a B hp fB => ⟨_, _, _, _, _, _, _, rfl, ?_⟩)
  · intro bN C hC
    have s1 := (s0.more fB).newb (cs := ndV zN) hC
    refine s1.stbs (k := 0) (i := 0) (vs := ndV a) rfl (by simp [ndV]) (ndV_one _) fun D s2 => ⟨(fun h => by cases h), fun _ => ?_⟩
    replace s2 : Sym H no D [blk bN (ndV a) 41, blk b (ndV zN) 41] := s2
    refine ld6 (s2.get (k := 0) rfl) (right_ok (parse_sm hl hp) fun E fE => ⟨_, rfl, fun h => ?_, fun h => ?_⟩)
    · have h' : ¬ RightP a := by simpa using h
      refine none_ ?_ (s2.more fE)
      unfold readN
      rw [hp]
      simp only
      rw [if_neg (fun hh => h' hh.1)]
    · have h' : RightP a := by simpa using h
      have s3 := s2.more fE
      refine ld6 (s3.get (k := 0) rfl) (write_ok h' (parse_sm hl hp) (ht.more s3.frno) fun F fF => ⟨_, rfl, fun hne => ?_, fun heq => ?_⟩)
      · rw [beq_str] at hne
        have hne' : textL a ≠ l := by simpa using hne
        refine none_ ?_ (s3.more fF)
        unfold readN
        rw [hp]
        simp only
        rw [if_neg (fun hh => hne' hh.2)]
      · rw [beq_str] at heq
        have heq' : textL a = l := by simpa using heq
        refine ret_ok (s3.more fF) (j := 0) (k := 1) rfl rfl fun H' s' => ?_
        have := k H' s'.frno
        rw [readN_iff.2 ⟨h', heq'⟩] at this
        exact this
  · intro bN C hC
    have s1 := (s0.more fB).newb (cs := ndV zN) hC
    refine s1.stbs (k := 0) (i := 0) (vs := ndV a) rfl (by simp [ndV]) (ndV_one _) fun D s2 => ⟨fun _ => ?_, (fun h => by cases h)⟩
    replace s2 : Sym H no D [blk bN (ndV a) 41, blk b (ndV zN) 41] := s2
    refine none_ ?_ s2
    unfold readN
    rw [hp]
theorem of_ok {kind n : Int} {fn name : List UInt8} (h1 : fn.length ≤ 1048576) (h2 : name.length ≤ 1048576) (ht : Pw H) (k : ∀ H', Fr no H H' → K (.string (str (ofL ⟨kind, fn, 0, name, n, -1⟩))) H') :
    CallF Tryd.prog 36 #[.int .i64 kind, .string (str fn), .string (str name), .int .i64 n] H K Z := by
  refine V36_ok ?_
  unfold V36
  refine ntext_ok (a := ⟨kind, fn, 0, name, n, -1⟩) ⟨h1, h2⟩ ht fun H' f => ?_
  have hk := k H' f
  unfold ofL at hk
  split
  · rename_i h
    rw [if_pos h] at hk
    exact ⟨_, _, rfl, hk⟩
  · rename_i h
    rw [if_neg h] at hk
    exact ⟨_, _, rfl, hk⟩
theorem base_ok {l : List UInt8} (hl : l.length ≤ 1048576) (ht : Pw H) (k : ∀ H', Fr no H H' → K (.string (str (baseL l))) H') : CallF Tryd.prog 43 #[.string (str l)] H K Z := by
  refine V43_ok ?_
  unfold V43
  refine readX_ok hl ht fun A fA => ⟨_, _, _, _, _, _, _, rfl, ?_⟩
  intro bN B hB
  have s0 := ((Sym.start H).more fA).newb (cs := ndV zN) hB
  refine s0.stbs (k := 0) (i := 0) (vs := ndV (rres (readN l)).1) rfl (by simp [ndV]) (ndV_one _) fun C s1 => ?_
  replace s1 : Sym H no C [blk bN (ndV (rres (readN l)).1) 41] := s1
  unfold baseL at k
  cases hr : readN l with
  | none =>
    rw [hr] at s1 k
    exact ⟨fun _ => k C s1.frno, (fun h => by cases h)⟩
  | some a =>
    rw [hr] at s1 k
    have hrp := (readN_iff.1 hr).1
    have hsm := read_sm hl hr
    refine ⟨(fun h => by cases h), fun _ => ?_⟩
    refine s1.stb (k := 0) (i := 2) rfl (by simp [ndV]) rfl fun D s2 => ?_
    replace s2 : Sym H no D [blk bN (ndV { a with copy := 0 }) 41] := s2
    refine ld6 (s2.get (k := 0) rfl) (write_ok (a := { a with copy := 0 }) (right_copy hrp) hsm (ht.more s2.frno) fun E fE => ⟨_, rfl, k E (s2.more fE).frno⟩)
theorem cell_ok {l : List UInt8} {c : Int} (hl : l.length ≤ 1048576) (ht : Pw H) (k : ∀ H', Fr no H H' → K (.string (str (cellL l c))) H') : CallF Tryd.prog 38 #[.string (str l), .int .i64 c] H K Z := by
  refine V38_ok ?_
  unfold V38
  refine readX_ok hl ht fun A fA => ⟨_, _, _, _, _, _, _, rfl, ?_⟩
  intro bN B hB
  have s0 := ((Sym.start H).more fA).newb (cs := ndV zN) hB
  refine s0.stbs (k := 0) (i := 0) (vs := ndV (rres (readN l)).1) rfl (by simp [ndV]) (ndV_one _) fun C s1 => ?_
  replace s1 : Sym H no C [blk bN (ndV (rres (readN l)).1) 41] := s1
  unfold cellL at k
  cases hr : readN l with
  | none =>
    rw [hr] at s1 k
    exact ⟨fun _ => k C s1.frno, (fun h => by cases h)⟩
  | some a =>
    rw [hr] at s1 k
    have hrp := (readN_iff.1 hr).1
    have hsm := read_sm hl hr
    simp only at k
    have nd : Blk C bN (ndV a) 41 := s1.get (k := 0) rfl
    refine ⟨(fun h => by cases h), fun _ => ⟨_, nd.ld 0, fun h5 => ?_, fun h5 => ⟨_, nd.ld 5, fun hc => ?_, fun hc => ⟨fun hk => ?_, fun hk => ?_⟩⟩⟩⟩
    · have := k C s1.frno
      rw [if_pos (.inl (of_decide_eq_true h5))] at this
      exact this
    · have := k C s1.frno
      rw [if_pos (.inr (.inl (by simpa using hc)))] at this
      exact this
    · have := k C s1.frno
      rw [if_pos (.inr (.inr (of_decide_eq_true hk)))] at this
      exact this
    · refine s1.stb (k := 0) (i := 5) rfl (by simp [ndV]) rfl fun D s2 => ?_
      replace s2 : Sym H no D [blk bN (ndV { a with cell := c }) 41] := s2
      refine ld6 (s2.get (k := 0) rfl) (ntext_ok (a := { a with cell := c }) hsm (ht.more s2.frno) fun E fE => ?_)
      have := k E (s2.more fE).frno
      have hcc : a.cell = -1 := by simpa using hc
      rw [if_neg (by have := of_decide_eq_false h5; have := of_decide_eq_false hk; omega)] at this
      unfold ofL at this
      split
      · rename_i h
        rw [if_pos h] at this
        exact ⟨_, _, rfl, this⟩
      · rename_i h
        rw [if_neg h] at this
        exact ⟨_, _, rfl, this⟩
theorem object_ok {l : List UInt8} (hl : l.length ≤ 1048576) (ht : Pw H) (k : ∀ H', Fr no H H' → K (.tuple #[.string (str (objL l).1), .int .i64 (objL l).2.1, .bool (objL l).2.2]) H') : CallF Tryd.prog 41 #[.string (str l)] H K Z := by
  refine V41_ok ?_
  unfold V41
  refine readX_ok hl ht fun A fA => ⟨_, _, _, _, _, _, _, rfl, ?_⟩
  intro bN B hB
  have s0 := ((Sym.start H).more fA).newb (cs := ndV zN) hB
  refine s0.stbs (k := 0) (i := 0) (vs := ndV (rres (readN l)).1) rfl (by simp [ndV]) (ndV_one _) fun C s1 => ?_
  replace s1 : Sym H no C [blk bN (ndV (rres (readN l)).1) 41] := s1
  unfold objL at k
  cases hr : readN l with
  | none =>
    rw [hr] at s1 k
    exact ⟨fun _ => k C s1.frno, (fun h => by cases h)⟩
  | some a =>
    rw [hr] at s1 k
    have hrp := (readN_iff.1 hr).1
    have hsm := read_sm hl hr
    simp only at k
    have nd : Blk C bN (ndV a) 41 := s1.get (k := 0) rfl
    refine ⟨(fun h => by cases h), fun _ => ⟨_, nd.ld 5, fun hc => ?_, fun hc => ⟨_, nd.ld 5, ?_⟩⟩⟩
    · have := k C s1.frno
      rw [if_pos (by simpa using hc)] at this
      exact this
    · refine s1.stb (k := 0) (i := 5) rfl (by simp [ndV]) rfl fun D s2 => ?_
      replace s2 : Sym H no D [blk bN (ndV { a with cell := -1 }) 41] := s2
      refine ld6 (s2.get (k := 0) rfl) (write_ok (a := { a with cell := -1 }) (right_cell hrp) hsm (ht.more s2.frno) fun E fE => ⟨_, rfl, ?_⟩)
      have := k E (s2.more fE).frno
      rw [if_neg (by simpa using hc)] at this
      exact this
end
end Go.Proofs.YthaejcmllibeoaaDoor.C14

