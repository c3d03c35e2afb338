/- Names and their parts: plain words. -/
import Derived.Test.YthaejcmllibeoaaDoorL01
set_option linter.unusedVariables false
set_option linter.unusedSimpArgs false
namespace Go.Proofs.YthaejcmllibeoaaDoor.P14
open Go Go.V Go.Proofs Go.Proofs.YthaejcmllibeoaaDoor.C01 Go.Proofs.YthaejcmllibeoaaDoor.L01
structure Nd where
  kind : Int
  fn : List UInt8
  copy : Int
  name : List UInt8
  n : Int
  cell : Int
  deriving DecidableEq
def Cnt (x : Int) : Prop := 0 ≤ x ∧ x ≤ 268435456
instance (x : Int) : Decidable (Cnt x) := by unfold Cnt; infer_instance
/-- may a node be? -/
def RightP (a : Nd) : Prop :=
  (a.kind = 5 ∧ a.fn = [] ∧ a.copy = 0 ∨ a.kind ≠ 5 ∧ nameL a.fn = true ∧ Cnt a.copy) ∧
  ((a.kind = 1 ∨ a.kind = 5 ∨ a.kind = 6) ∧ nameL a.name = true ∧ a.n = 0 ∨ (a.kind = 2 ∨ a.kind = 3 ∨ a.kind = 7) ∧ a.name = [] ∧ Cnt a.n ∧ (a.kind = 2 ∨ 1 ≤ a.n) ∨ a.kind = 4 ∧ a.name = [] ∧ a.n = 0) ∧
  (a.cell = -1 ∨ (a.kind = 5 ∨ a.kind = 6 ∨ a.kind = 7) ∧ Cnt a.cell)
instance (a : Nd) : Decidable (RightP a) := by unfold RightP; infer_instance
def dec (x : Int) : List UInt8 := Lib.decDigits x.toNat
def copyP (c : Int) : List UInt8 := if c > 0 then 126 :: dec c else []
def cellP (c : Int) : List UInt8 := if c = -1 then [] else 43 :: dec c
/-- each kind's mark -/
def markB (k : Int) : UInt8 := if k = 1 then 46 else if k = 2 then 36 else if k = 3 then 64 else if k = 4 then 40 else if k = 6 then 37 else 35
def tailP (a : Nd) : List UInt8 := if a.kind = 1 ∨ a.kind = 6 then a.name else if a.kind = 4 then [41] else dec a.n
def bodyP (a : Nd) : List UInt8 := if a.kind = 5 then a.name else a.fn ++ (copyP a.copy ++ (markB a.kind :: tailP a))
def textL (a : Nd) : List UInt8 := bodyP a ++ cellP a.cell
/-- the kind of a mark -/
def kindB (b : UInt8) : Int := if b = 46 then 1 else if b = 36 then 2 else if b = 64 then 3 else if b = 40 then 4 else if b = 37 then 6 else if b = 35 then 7 else if b = 32 then 0 else -1
def parse3 (c : Int) (fn : List UInt8) (copy : Int) : List UInt8 → Option Nd
  | [] => none
  | m :: t =>
    if kindB m = 1 ∨ kindB m = 6 then some ⟨kindB m, fn, copy, t, 0, c⟩
    else if kindB m = 4 then if t = [41] then some ⟨4, fn, copy, [], 0, c⟩ else none
    else if kindB m = 2 ∨ kindB m = 3 ∨ kindB m = 7 then if (readL t).2 = 0 then some ⟨kindB m, fn, copy, [], (readL t).1, c⟩ else none
    else none
def parse2 (c : Int) (s : List UInt8) : Option Nd :=
  match splB s with
  | [] => some ⟨5, [], 0, splA s, 0, c⟩
  | m :: r => if m = 126 then if (readL (splA r)).2 = 0 then parse3 c (splA s) (readL (splA r)).1 (splB r) else none else parse3 c (splA s) 0 (m :: r)
def parseO (s : List UInt8) : Option Nd :=
  if 43 ∈ s then if (readL ((s.dropWhile (· != 43)).tail)).2 = 0 then parse2 (readL ((s.dropWhile (· != 43)).tail)).1 (s.takeWhile (· != 43)) else none
  else parse2 (-1) s
/-- a byte that cannot be of a name or a number -/
def out (b : UInt8) : Prop := isL b = false ∧ isD b = false
theorem name_all {w : List UInt8} (h : nameL w = true) : wordy w = true ∧ (∀ b ∈ w, isL b = true ∨ isD b = true) ∧ w ≠ [] := by
  unfold nameL at h
  simp only [Bool.and_eq_true, List.all_eq_true, Bool.or_eq_true] at h
  refine ⟨h.1, h.2.2, ?_⟩
  rintro rfl
  exact absurd h.1 (by decide)
theorem spl_at {w r : List UInt8} {q : Bool} (hw : wordy (w ++ r) = q) (h1 : ∀ b ∈ w, inW q b = true) (h2 : r = [] ∨ ∃ c t, r = c :: t ∧ inW q c = false) : splA (w ++ r) = w ∧ splB (w ++ r) = r := by
  have h := takeWhile_at (p := inW q) (l := w ++ r) (j := w.length) (fun i b hi hb => by
    rw [List.getElem?_append_left hi] at hb
    exact h1 b (List.mem_of_getElem? hb)) (by
    rcases h2 with rfl | ⟨c, t, rfl, hc⟩
    · left; simp
    · right; exact ⟨c, by rw [List.getElem?_append_right (Nat.le_refl _), Nat.sub_self]; rfl, hc⟩)
  unfold splA splB
  rw [hw, h.1, h.2]
  simp
theorem spl_name {w r : List UInt8} (hw : nameL w = true) (h2 : r = [] ∨ ∃ c t, r = c :: t ∧ out c) : splA (w ++ r) = w ∧ splB (w ++ r) = r := by
  obtain ⟨h1, h3, h4⟩ := name_all hw
  refine spl_at (q := true) ?_ (fun b hb => ?_) ?_
  · cases w with
    | nil => exact absurd rfl h4
    | cons a w => exact h1
  · unfold inW
    rcases h3 b hb with h | h <;> simp [h]
  · rcases h2 with h | ⟨c, t, h, hc⟩
    · exact .inl h
    · exact .inr ⟨c, t, h, by unfold inW; rw [hc.1, hc.2]; rfl⟩
theorem spl_dec {u : Nat} {r : List UInt8} (h2 : r = [] ∨ ∃ c t, r = c :: t ∧ out c) : splA (Lib.decDigits u ++ r) = Lib.decDigits u ∧ splB (Lib.decDigits u ++ r) = r := by
  have ha := dec_all u
  have hne := dec_ne u
  refine spl_at (q := false) ?_ (fun b hb => ?_) ?_
  · cases hd : Lib.decDigits u with
    | nil => exact absurd hd hne
    | cons a w =>
      show isL a = false
      rw [hd, List.all_cons, Bool.and_eq_true] at ha
      exact not_both ha.1
  · unfold inW
    rw [List.all_eq_true.1 ha b hb]
    rfl
  · rcases h2 with h | ⟨c, t, h, hc⟩
    · exact .inl h
    · exact .inr ⟨c, t, h, by unfold inW; rw [hc.2]; rfl⟩
theorem mark_mem (k : Int) : markB k ∈ ([46, 36, 64, 40, 37, 35] : List UInt8) := by
  unfold markB
  repeat' split
  all_goals decide
theorem out_mark (k : Int) : out (markB k) := by
  have h := mark_mem k
  generalize markB k = b at h
  simp only [List.mem_cons, List.not_mem_nil, or_false] at h
  unfold out
  rcases h with rfl | rfl | rfl | rfl | rfl | rfl <;> decide
theorem kind_mark {k : Int} (h : k = 1 ∨ k = 2 ∨ k = 3 ∨ k = 4 ∨ k = 6 ∨ k = 7) : kindB (markB k) = k := by
  rcases h with rfl | rfl | rfl | rfl | rfl | rfl <;> decide
theorem mark_ne {k : Int} : markB k ≠ 126 ∧ markB k ≠ 43 := by
  have h := mark_mem k
  generalize markB k = b at h
  simp only [List.mem_cons, List.not_mem_nil, or_false] at h
  rcases h with rfl | rfl | rfl | rfl | rfl | rfl <;> decide
theorem name_no {w : List UInt8} {c : UInt8} (hw : nameL w = true) (hc : out c) : c ∉ w := by
  intro h
  rcases (name_all hw).2.1 c h with h' | h'
  · rw [hc.1] at h'; cases h'
  · rw [hc.2] at h'; cases h'
theorem dec_no {x : Int} {c : UInt8} (hc : out c) : c ∉ dec x := by
  intro h
  have := List.all_eq_true.1 (dec_all x.toNat) c h
  rw [hc.2] at this
  cases this
theorem out43 : out 43 := by unfold out; decide
theorem out126 : out 126 := by unfold out; decide
theorem right_kind {a : Nd} (h : RightP a) : a.kind = 5 ∨ (a.kind = 1 ∨ a.kind = 2 ∨ a.kind = 3 ∨ a.kind = 4 ∨ a.kind = 6 ∨ a.kind = 7) := by
  obtain ⟨_, h, _⟩ := h
  rcases h with ⟨h, _⟩ | ⟨h, _⟩ | ⟨h, _⟩ <;> omega
theorem body_no {a : Nd} (h : RightP a) : (43 : UInt8) ∉ bodyP a := by
  obtain ⟨h1, h2, h3⟩ := h
  unfold bodyP
  by_cases h5 : a.kind = 5
  · rw [if_pos h5]
    rcases h2 with ⟨_, h, _⟩ | ⟨h, _⟩ | ⟨h, _⟩
    · exact name_no h out43
    · omega
    · omega
  · rw [if_neg h5]
    rcases h1 with ⟨h, _⟩ | ⟨_, hf, hc⟩
    · exact absurd h h5
    simp only [List.mem_append, List.mem_cons]
    rintro (h | h | h | h)
    · exact name_no hf out43 h
    · unfold copyP at h
      split at h
      · rcases List.mem_cons.1 h with h | h
        · revert h; decide
        · exact dec_no out43 h
      · cases h
    · exact mark_ne.2 h.symm
    · unfold tailP at h
      split at h
      · rcases h2 with ⟨_, h', _⟩ | ⟨h', _⟩ | ⟨h', _⟩
        · exact name_no h' out43 h
        · omega
        · omega
      · split at h
        · revert h; decide
        · exact dec_no out43 h
theorem read_dec' {x : Int} (h : Cnt x) : readL (dec x) = (x, 0) := by
  obtain ⟨h1, h2⟩ := h
  have := read_dec (u := x.toNat) (by omega)
  rw [show ((x.toNat : Nat) : Int) = x by omega] at this
  exact this
theorem parse3_text {a : Nd} (h : RightP a) (h5 : a.kind ≠ 5) : parse3 a.cell a.fn a.copy (markB a.kind :: tailP a) = some a := by
  have hk := (right_kind h).resolve_left h5
  obtain ⟨h1, h2, h3⟩ := h
  obtain ⟨kind, fn, copy, name, n, cell⟩ := a
  simp only at *
  rw [parse3, kind_mark hk]
  unfold tailP
  simp only
  rcases h2 with ⟨hk2, hn, hz⟩ | ⟨hk2, hn, hz, hz2⟩ | ⟨hk2, hn, hz⟩
  · have hk3 : kind = 1 ∨ kind = 6 := by omega
    rw [if_pos hk3, if_pos hk3, hz]
  · have c1 : ¬ (kind = 1 ∨ kind = 6) := by omega
    have c2 : ¬ kind = 4 := by omega
    rw [if_neg c1, if_neg c1, if_neg c2, if_neg c2, if_pos hk2, read_dec' hz, if_pos rfl, hn]
  · have c1 : ¬ (kind = 1 ∨ kind = 6) := by omega
    rw [if_neg c1, if_neg c1, if_pos hk2, if_pos hk2, if_pos rfl, hk2, hn, hz]
theorem parse2_text {a : Nd} (h : RightP a) : parse2 a.cell (bodyP a) = some a := by
  unfold parse2 bodyP
  by_cases h5 : a.kind = 5
  · rw [if_pos h5]
    obtain ⟨h1, h2, h3⟩ := h
    obtain ⟨kind, fn, copy, name, n, cell⟩ := a
    simp only at *
    rcases h1 with ⟨_, hf, hc⟩ | ⟨h, _⟩
    · rcases h2 with ⟨_, hn, hz⟩ | ⟨h, _⟩ | ⟨h, _⟩
      · obtain ⟨e1, e2⟩ := spl_name (r := []) hn (.inl rfl)
        rw [List.append_nil] at e1 e2
        rw [e2, e1, hf, hc, hz, h5]
      · omega
      · omega
    · exact absurd h5 h
  · rw [if_neg h5]
    have hp := parse3_text h h5
    obtain ⟨h1, h2, h3⟩ := h
    rcases h1 with ⟨h, _⟩ | ⟨_, hf, hc⟩
    · exact absurd h h5
    unfold copyP
    by_cases hc0 : a.copy > 0
    · rw [if_pos hc0]
      obtain ⟨e1, e2⟩ := spl_name (r := (126 :: dec a.copy) ++ (markB a.kind :: tailP a)) hf (.inr ⟨_, _, rfl, out126⟩)
      rw [e1, e2]
      simp only [List.cons_append, if_true]
      obtain ⟨e3, e4⟩ := spl_dec (u := a.copy.toNat) (r := markB a.kind :: tailP a) (.inr ⟨_, _, rfl, out_mark _⟩)
      show (if (readL (splA (Lib.decDigits a.copy.toNat ++ markB a.kind :: tailP a))).2 = 0 then parse3 a.cell a.fn (readL (splA (Lib.decDigits a.copy.toNat ++ markB a.kind :: tailP a))).1 (splB (Lib.decDigits a.copy.toNat ++ markB a.kind :: tailP a)) else none) = some a
      rw [e3, e4, show Lib.decDigits a.copy.toNat = dec a.copy from rfl, read_dec' hc, if_pos rfl]
      exact hp
    · rw [if_neg hc0, List.nil_append]
      obtain ⟨e1, e2⟩ := spl_name (r := markB a.kind :: tailP a) hf (.inr ⟨_, _, rfl, out_mark _⟩)
      rw [e1, e2]
      simp only
      rw [if_neg mark_ne.1]
      have : a.copy = 0 := by have := hc.1; omega
      rw [this] at hp
      exact hp
theorem until_at {b r : List UInt8} {c : UInt8} (h : c ∉ b) : (b ++ c :: r).takeWhile (· != c) = b ∧ (b ++ c :: r).dropWhile (· != c) = c :: r := by
  have := takeWhile_at (p := (· != c)) (l := b ++ c :: r) (j := b.length) (fun i x hi hx => by
    rw [List.getElem?_append_left hi] at hx
    have hm := List.mem_of_getElem? hx
    simp only [bne_iff_ne, ne_eq]
    rintro rfl
    exact h hm) (.inr ⟨c, by rw [List.getElem?_append_right (Nat.le_refl _), Nat.sub_self]; rfl, by simp⟩)
  rw [this.1, this.2]
  simp
/-- what is written is read -/
theorem parse_text {a : Nd} (h : RightP a) : parseO (textL a) = some a := by
  have h1 := body_no h
  have h2 := parse2_text h
  unfold parseO textL cellP
  by_cases hc : a.cell = -1
  · rw [if_pos hc, List.append_nil, if_neg h1]
    rw [hc] at h2
    exact h2
  · rw [if_neg hc, if_pos (by simp)]
    obtain ⟨e1, e2⟩ := until_at (r := dec a.cell) h1
    rw [e1, e2]
    have hcc : Cnt a.cell := by
      rcases h.2.2 with h' | ⟨_, h'⟩
      · exact absurd h' hc
      · exact h'
    show (if (readL (dec a.cell)).2 = 0 then parse2 (readL (dec a.cell)).1 (bodyP a) else none) = some a
    rw [read_dec' hcc, if_pos rfl]
    exact h2
theorem text_inj {a b : Nd} (ha : RightP a) (hb : RightP b) (h : textL a = textL b) : a = b := by
  have h1 := parse_text ha
  rw [h, parse_text hb] at h1
  cases h1
  rfl
/-- the node of a text -/
def readN (s : List UInt8) : Option Nd := match parseO s with
  | some a => if RightP a ∧ textL a = s then some a else none
  | none => none
theorem readN_iff {s : List UInt8} {a : Nd} : readN s = some a ↔ RightP a ∧ textL a = s := by
  unfold readN
  constructor
  · intro h
    split at h
    · split at h
      · cases h; assumption
      · cases h
    · cases h
  · rintro ⟨h1, rfl⟩
    rw [parse_text h1]
    simp [h1]
/-! ### the reference's way -/
def isPlus : List UInt8 → Bool
  | 43 :: _ => true
  | _ => false
/-- a text's parts: a name, a copy's number, a mark, what is behind it, a cell's number -/
def parts2 (rest : List UInt8) : List UInt8 × List UInt8 × Int :=
  let m := match rest with | [] => ([], [], []) | c :: r => if c ≠ 43 then ([c], splA r, if c = 40 ∧ splB r = [41] then [] else splB r) else ([], [], rest)
  (m.1, m.2.1, match m.2.2 with | 43 :: r => (readL r).1 | _ => -1)
def partsL (s : List UInt8) : List UInt8 × Int × List UInt8 × List UInt8 × Int :=
  match splB s with
  | 126 :: r => (splA s, (readL (splA r)).1, parts2 (splB r))
  | r => (splA s, 0, parts2 r)
def cands (s : List UInt8) : List Nd :=
  let p := partsL s
  let n := (readL p.2.2.2.1).1
  [⟨1, p.1, p.2.1, p.2.2.2.1, 0, -1⟩, ⟨2, p.1, p.2.1, [], n, -1⟩, ⟨3, p.1, p.2.1, [], n, -1⟩, ⟨4, p.1, p.2.1, [], 0, -1⟩, ⟨5, [], 0, p.1, 0, p.2.2.2.2⟩, ⟨6, p.1, p.2.1, p.2.2.2.1, 0, p.2.2.2.2⟩, ⟨7, p.1, p.2.1, [], n, p.2.2.2.2⟩]
theorem cell_out (c : Int) : cellP c = [] ∨ ∃ x t, cellP c = x :: t ∧ out x := by
  unfold cellP
  split
  · exact .inl rfl
  · exact .inr ⟨_, _, rfl, out43⟩
theorem cell_num {c : Int} (h : c = -1 ∨ Cnt c) : (match cellP c with | 43 :: r => (readL r).1 | _ => -1) = c := by
  unfold cellP
  by_cases hc : c = -1
  · rw [if_pos hc, hc]
  · rw [if_neg hc]
    simp only
    rw [read_dec' (h.resolve_left hc)]
/-- the parts of a text that was written -/
theorem parts2_text {a : Nd} (h : RightP a) (h5 : a.kind ≠ 5) : parts2 (markB a.kind :: (tailP a ++ cellP a.cell)) = ([markB a.kind], if a.kind = 4 then [] else tailP a, a.cell) := by
  have hk := (right_kind h).resolve_left h5
  obtain ⟨h1, h2, h3⟩ := h
  have hcell : a.cell = -1 ∨ Cnt a.cell := by rcases h3 with h | ⟨_, h⟩; exact .inl h; exact .inr h
  unfold parts2
  simp only
  rw [if_pos mark_ne.2]
  simp only
  by_cases h4 : a.kind = 4
  · have hc1 : a.cell = -1 := by
      rcases h3 with h | ⟨h, _⟩
      · exact h
      · omega
    rw [if_pos h4, hc1, h4]
    unfold tailP cellP
    rw [if_neg (by omega), if_pos h4, if_pos rfl]
    decide
  · rw [if_neg h4]
    have hne40 : markB a.kind ≠ 40 := by
      unfold markB
      rcases hk with h | h | h | h | h | h <;> rw [h] <;> first | decide | omega
    have e : splA (tailP a ++ cellP a.cell) = tailP a ∧ splB (tailP a ++ cellP a.cell) = cellP a.cell := by
      unfold tailP
      split
      · rcases h2 with ⟨_, h, _⟩ | ⟨h, _⟩ | ⟨h, _⟩
        · exact spl_name h (cell_out _)
        · omega
        · omega
      · exact spl_dec (cell_out _)
    rw [e.1, e.2, if_neg (fun h => hne40 h.1)]
    rw [cell_num hcell]
theorem cand_text {a : Nd} (h : RightP a) : a ∈ cands (textL a) ∧ ((partsL (textL a)).2.2.1 ≠ [] ∨ a.kind = 5) := by
  have hcell : a.cell = -1 ∨ Cnt a.cell := by rcases h.2.2 with h | ⟨_, h⟩; exact .inl h; exact .inr h
  by_cases h5 : a.kind = 5
  · refine ⟨?_, .inr h5⟩
    obtain ⟨h1, h2, h3⟩ := h
    have hn : nameL a.name = true ∧ a.n = 0 := by
      rcases h2 with ⟨_, h⟩ | ⟨h, _⟩ | ⟨h, _⟩
      · exact h
      · omega
      · omega
    have hf : a.fn = [] ∧ a.copy = 0 := by
      rcases h1 with ⟨_, h⟩ | ⟨h, _⟩
      · exact h
      · exact absurd h5 h
    have hp : partsL (textL a) = (a.name, 0, [], [], a.cell) := by
      unfold partsL textL bodyP
      rw [if_pos h5]
      obtain ⟨e1, e2⟩ := spl_name hn.1 (cell_out a.cell)
      rw [e1, e2]
      have e3 : parts2 (cellP a.cell) = ([], [], a.cell) := by
        have := cell_num hcell
        unfold parts2
        unfold cellP at this ⊢
        by_cases hc : a.cell = -1
        · rw [if_pos hc] at this ⊢
          rw [hc]
        · rw [if_neg hc] at this ⊢
          simp only at this
          simp [this]
      unfold cellP at e3 ⊢
      by_cases hc : a.cell = -1
      · rw [if_pos hc] at e3 ⊢
        show (a.name, (0 : Int), parts2 []) = _
        rw [e3]
      · rw [if_neg hc] at e3 ⊢
        show (a.name, (0 : Int), parts2 (43 :: dec a.cell)) = _
        rw [e3]
    unfold cands
    rw [hp]
    obtain ⟨kind, fn, copy, name, n, cell⟩ := a
    simp only at *
    simp [h5, hf.1, hf.2, hn.2]
  · have hk := (right_kind h).resolve_left h5
    have hp2 := parts2_text h h5
    obtain ⟨h1, h2, h3⟩ := h
    rcases h1 with ⟨h, _⟩ | ⟨_, hf, hc⟩
    · exact absurd h h5
    have hp : partsL (textL a) = (a.fn, a.copy, [markB a.kind], (if a.kind = 4 then [] else tailP a), a.cell) := by
      unfold partsL textL bodyP
      rw [if_neg h5]
      unfold copyP
      by_cases hc0 : a.copy > 0
      · rw [if_pos hc0]
        obtain ⟨e1, e2⟩ := spl_name (r := (126 :: (dec a.copy ++ (markB a.kind :: (tailP a ++ cellP a.cell))))) hf (.inr ⟨_, _, rfl, out126⟩)
        have e0 : a.fn ++ (126 :: dec a.copy ++ markB a.kind :: tailP a) ++ cellP a.cell = a.fn ++ (126 :: (dec a.copy ++ (markB a.kind :: (tailP a ++ cellP a.cell)))) := by simp
        rw [e0, e1, e2]
        simp only
        obtain ⟨e3, e4⟩ := spl_dec (u := a.copy.toNat) (r := markB a.kind :: (tailP a ++ cellP a.cell)) (.inr ⟨_, _, rfl, out_mark _⟩)
        unfold dec
        rw [e3, e4, hp2]
        have := read_dec' hc
        unfold dec at this
        rw [this]
      · rw [if_neg hc0, List.nil_append]
        obtain ⟨e1, e2⟩ := spl_name (r := markB a.kind :: (tailP a ++ cellP a.cell)) hf (.inr ⟨_, _, rfl, out_mark _⟩)
        have e0 : a.fn ++ (markB a.kind :: tailP a) ++ cellP a.cell = a.fn ++ (markB a.kind :: (tailP a ++ cellP a.cell)) := by simp
        rw [e0, e1, e2]
        have hz : a.copy = 0 := by have := hc.1; omega
        rw [hz]
        split
        · rename_i r hr
          have := (List.cons.inj hr).1
          exact absurd this mark_ne.1
        · rw [hp2]
    rw [hp]
    refine ⟨?_, .inl (by simp)⟩
    unfold cands
    rw [hp]
    obtain ⟨kind, fn, copy, name, n, cell⟩ := a
    simp only at *
    rcases h2 with ⟨hk2, hn, hz⟩ | ⟨hk2, hn, hz, hz2⟩ | ⟨hk2, hn, hz⟩
    · have hk3 : kind = 1 ∨ kind = 6 := by omega
      rcases hk3 with rfl | rfl
      · rcases h3 with h3 | ⟨h3, _⟩
        · simp [tailP, hz, h3]
        · omega
      · simp [tailP, hz]
    · have ht : (if kind = 4 then [] else tailP ⟨kind, fn, copy, name, n, cell⟩) = dec n := by
        rw [if_neg (by omega)]
        unfold tailP
        simp only
        rw [if_neg (by omega), if_neg (by omega)]
      rw [ht, read_dec' hz]
      rcases hk2 with rfl | rfl | rfl
      · rcases h3 with h3 | ⟨h3, _⟩
        · simp [hn, h3]
        · omega
      · rcases h3 with h3 | ⟨h3, _⟩
        · simp [hn, h3]
        · omega
      · simp [hn]
    · subst hk2
      rcases h3 with h3 | ⟨h3, _⟩
      · simp [hn, hz, h3]
      · omega
/-- how the reference reads: the first that is it -/
def rreadN (s : List UInt8) : Option Nd := (cands s).find? fun a => decide (RightP a ∧ textL a = s ∧ ((partsL s).2.2.1 ≠ [] ∨ a.kind = 5))
theorem rreadN_eq (s : List UInt8) : rreadN s = readN s := by
  unfold rreadN
  cases hr : readN s with
  | some a =>
    obtain ⟨h1, rfl⟩ := readN_iff.1 hr
    obtain ⟨h2, h3⟩ := cand_text h1
    cases hf : (cands (textL a)).find? fun b => decide (RightP b ∧ textL b = textL a ∧ ((partsL (textL a)).2.2.1 ≠ [] ∨ b.kind = 5)) with
    | none =>
      rw [List.find?_eq_none] at hf
      have := hf a h2
      simp [h1] at this
      rcases h3 with h3 | h3
      · exact absurd this.1 h3
      · exact absurd h3 this.2
    | some b =>
      have := List.find?_some hf
      simp only [decide_eq_true_eq] at this
      rw [text_inj this.1 h1 this.2.1]
  | none =>
    rw [List.find?_eq_none]
    intro b hb
    simp only [decide_eq_true_eq]
    rintro ⟨h1, h2, _⟩
    rw [readN_iff.2 ⟨h1, h2⟩] at hr
    cases hr
end Go.Proofs.YthaejcmllibeoaaDoor.P14

