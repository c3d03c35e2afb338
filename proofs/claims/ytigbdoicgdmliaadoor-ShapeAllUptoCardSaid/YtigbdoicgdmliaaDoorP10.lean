/- Types, their cells and places: plain words. -/
import Derived.Test.YtigbdoicgdmliaaDoorV24
set_option linter.unusedVariables false
set_option linter.unusedSimpArgs false
namespace Go.Proofs.YtigbdoicgdmliaaDoor.P10
open Go Go.V
inductive TyD where
  | mk (kind : Int) (name : L8) (n : Int) (kids : List TyD)
instance : Inhabited TyD := ⟨.mk 0 [] 0 []⟩
structure StD where
  name : L8
  fields : List (L8 × TyD)
instance : Inhabited StD := ⟨⟨[], []⟩⟩
abbrev Fld := L8 × TyD
def ofS (l : List StD) (nm : L8) : Option StD := l.find? fun s => decide (s.name = nm)
def fieldsS (l : List StD) (nm : L8) : List Fld := match ofS l nm with
  | some s => s.fields
  | none => []
def firstErr : List Int → Int
  | [] => 0
  | e :: l => if e ≠ 0 then e else firstErr l
/-- what is wrong with a type within so many levels -/
def look (l : List StD) : Nat → TyD → Int
  | 0, _ => 10
  | f + 1, .mk k nm n kids =>
    if k = 1 ∨ k = 2 then 0
    else if k = 4 then match kids with
      | [t] => if n < 1 ∨ n > 16 then 3 else look l f t
      | _ => 3
    else if k = 3 then match ofS l nm with
      | none => 7
      | some s => if s.fields.length = 0 ∨ s.fields.length > 8 then 3 else firstErr (s.fields.map fun x => look l f x.2)
    else 5
def room (l : List StD) : Nat → TyD → Nat × Nat
  | 0, _ => (1, 1)
  | f + 1, .mk k nm n kids =>
    if k = 3 then (((fieldsS l nm).map fun x => (room l f x.2).1).sum, ((fieldsS l nm).map fun x => (room l f x.2).2).sum)
    else if k = 4 then match kids with
      | t :: _ => ((room l f t).1, (room l f t).2 * n.toNat)
      | [] => (1, 1)
    else (1, 1)
def checkS (l : List StD) (t : TyD) : Int := if look l 4 t ≠ 0 then look l 4 t else if (room l 4 t).1 > 64 ∨ (room l 4 t).2 > 1024 then 4 else 0
/-- a right type -/
inductive Gd (l : List StD) : Nat → TyD → Prop
  | leaf {f : Nat} {k : Int} {nm : L8} {n : Int} {kids : List TyD} (h : k = 1 ∨ k = 2) : Gd l (f + 1) (.mk k nm n kids)
  | row {f : Nat} {nm : L8} {n : Int} {t : TyD} (h1 : 1 ≤ n) (h2 : n ≤ 16) (h : Gd l f t) : Gd l (f + 1) (.mk 4 nm n [t])
  | rcd {f : Nat} {nm : L8} {n : Int} {kids : List TyD} {s : StD} (hs : ofS l nm = some s) (h0 : s.fields.length ≠ 0) (h8 : s.fields.length ≤ 8) (h : ∀ x ∈ s.fields, Gd l f x.2) : Gd l (f + 1) (.mk 3 nm n kids)
theorem firstErr_zero : ∀ {l : List Int}, firstErr l = 0 → ∀ e ∈ l, e = 0
  | [], _, e, h => by cases h
  | x :: l, h, e, he => by
    unfold firstErr at h
    split at h
    · rename_i hx; exact absurd h hx
    · rename_i hx
      rcases List.mem_cons.1 he with rfl | he
      · exact Classical.not_not.1 hx
      · exact firstErr_zero h e he
theorem look_good {l : List StD} : ∀ {f : Nat} {t : TyD}, look l f t = 0 → Gd l f t
  | 0, t, h => by cases h
  | f + 1, .mk k nm n kids, h => by
    unfold look at h
    split at h
    · rename_i hk; exact .leaf hk
    · split at h
      · rename_i hk
        subst hk
        match kids, h with
        | [t], h =>
          simp only at h
          split at h
          · cases h
          · exact .row (by omega) (by omega) (look_good h)
        | [], h => cases h
        | a :: b :: r, h => cases h
      · split at h
        · rename_i hk
          subst hk
          cases hs : ofS l nm with
          | none => rw [hs] at h; cases h
          | some s =>
            rw [hs] at h
            simp only at h
            split at h
            · cases h
            · refine .rcd hs (by omega) (by omega) fun x hx => look_good (firstErr_zero h _ (List.mem_map.2 ⟨x, hx, rfl⟩))
        · cases h
theorem look_rec {l : List StD} {f : Nat} {nm : L8} {n : Int} {kids : List TyD} {s : StD} (h : ofS l nm = some s) : look l (f + 1) (.mk 3 nm n kids) = if s.fields.length = 0 ∨ s.fields.length > 8 then 3 else firstErr (s.fields.map fun x => look l f x.2) := by
  conv => lhs; unfold look
  rw [if_neg (by decide), if_neg (by decide), if_pos rfl, h]
theorem look_recN {l : List StD} {f : Nat} {nm : L8} {n : Int} {kids : List TyD} (h : ofS l nm = none) : look l (f + 1) (.mk 3 nm n kids) = 7 := by
  conv => lhs; unfold look
  rw [if_neg (by decide), if_neg (by decide), if_pos rfl, h]
theorem look_arr {l : List StD} {f : Nat} {nm : L8} {n : Int} {t : TyD} : look l (f + 1) (.mk 4 nm n [t]) = if n < 1 ∨ n > 16 then 3 else look l f t := by
  conv => lhs; unfold look
  rw [if_neg (by decide), if_pos rfl]
theorem look_arrN {l : List StD} {f : Nat} {nm : L8} {n : Int} {kids : List TyD} (h : kids.length ≠ 1) : look l (f + 1) (.mk 4 nm n kids) = 3 := by
  conv => lhs; unfold look
  rw [if_neg (by decide), if_pos rfl]
  match kids, h with
  | [], _ => rfl
  | [a], h => simp at h
  | a :: b :: r, _ => rfl
theorem check_good {l : List StD} {t : TyD} (h : checkS l t = 0) : Gd l 4 t ∧ (room l 4 t).1 ≤ 64 ∧ (room l 4 t).2 ≤ 1024 := by
  unfold checkS at h
  split at h
  · rename_i h1; exact absurd h h1
  · rename_i h1
    split at h
    · cases h
    · exact ⟨look_good (Classical.not_not.1 h1), by omega, by omega⟩
/-- rows laid one behind the other, each with its own beginning -/
def offs {α : Type} (g : α → List Nat) (w : α → Nat) : List α → Nat → List Nat
  | [], _ => []
  | x :: xs, o => (g x).map (· + o) ++ offs g w xs (o + w x)
def offM {α : Type} (g : α → List (Nat × L8)) (w : α → Nat) : List α → Nat → List (Nat × L8)
  | [], _ => []
  | x :: xs, o => (g x).map (fun y => (y.1 + o, y.2)) ++ offM g w xs (o + w x)
/-- the cells of its places -/
def cellsOf (l : List StD) : Nat → TyD → List Nat
  | 0, _ => [0]
  | f + 1, .mk k nm n kids =>
    if k = 3 then offs (fun x : Fld => cellsOf l f x.2) (fun x => (room l f x.2).1) (fieldsS l nm) 0
    else if k = 4 then match kids with
      | t :: _ => (List.replicate n.toNat (cellsOf l f t)).flatten
      | [] => [0]
    else [0]
/-- the first place of each cell -/
def firsts (l : List StD) : Nat → TyD → List Nat
  | 0, _ => [0]
  | f + 1, .mk k nm n kids =>
    if k = 3 then offs (fun x : Fld => firsts l f x.2) (fun x => (room l f x.2).2) (fieldsS l nm) 0
    else if k = 4 then match kids with
      | t :: _ => firsts l f t
      | [] => [0]
    else [0]
/-- one place after the other is met -/
def scan : List Nat → Nat → List Nat → Option (List Nat)
  | [], _, fs => some fs
  | c :: s, a, fs => if c > fs.length then none else if c = fs.length then scan s (a + 1) (fs ++ [a]) else scan s (a + 1) fs
theorem scan_app : ∀ (s t : List Nat) (a : Nat) (fs : List Nat), scan (s ++ t) a fs = (scan s a fs).bind fun gs => scan t (a + s.length) gs
  | [], t, a, fs => rfl
  | c :: s, t, a, fs => by
    simp only [List.cons_append, scan, List.length_cons]
    have e : a + (s.length + 1) = a + 1 + s.length := by omega
    rw [e]
    split
    · rfl
    · split
      · exact scan_app s t _ _
      · exact scan_app s t _ _
theorem scan_old : ∀ {s : List Nat} {a : Nat} {fs : List Nat}, (∀ c ∈ s, c < fs.length) → scan s a fs = some fs
  | [], a, fs, _ => rfl
  | c :: s, a, fs, h => by
    have hc := h c List.mem_cons_self
    unfold scan
    rw [if_neg (by omega), if_neg (by omega)]
    exact scan_old fun x hx => h x (List.mem_cons_of_mem _ hx)
theorem mem_offs {α : Type} {g : α → List Nat} {w : α → Nat} {B : Nat} : ∀ {xs : List α} {o : Nat}, (∀ x ∈ xs, ∀ c ∈ g x, c < w x) → ∀ c ∈ offs g w xs o, c < o + (xs.map w).sum
  | [], o, _, c, h => by cases h
  | x :: xs, o, hg, c, h => by
    rw [List.map_cons, List.sum_cons]
    rcases List.mem_append.1 h with h | h
    · obtain ⟨y, hy, rfl⟩ := List.mem_map.1 h
      have := hg x List.mem_cons_self y hy
      omega
    · have := mem_offs (B := B) (fun z hz => hg z (List.mem_cons_of_mem _ hz)) c h
      omega
theorem fieldsS_some {l : List StD} {nm : L8} {s : StD} (h : ofS l nm = some s) : fieldsS l nm = s.fields := by unfold fieldsS; rw [h]
theorem cells_lt {l : List StD} {f : Nat} {t : TyD} (h : Gd l f t) : ∀ c ∈ cellsOf l f t, c < (room l f t).1 := by
  induction h with
  | leaf h =>
    rename_i f k nm n kids
    intro c hc
    unfold cellsOf at hc
    rw [if_neg (by omega), if_neg (by omega)] at hc
    unfold room
    rw [if_neg (by omega), if_neg (by omega)]
    have := List.mem_singleton.1 hc
    simp only
    omega
  | row h1 h2 h ih =>
    rename_i f nm n t
    intro c hc
    unfold cellsOf at hc
    rw [if_neg (by decide), if_pos rfl] at hc
    unfold room
    rw [if_neg (by decide), if_pos rfl]
    obtain ⟨s, hs, hc⟩ := List.mem_flatten.1 hc
    rw [(List.mem_replicate.1 hs).2] at hc
    exact ih c hc
  | rcd hs h0 h8 h ih =>
    rename_i f nm n kids s
    intro c hc
    unfold cellsOf at hc
    rw [if_pos rfl, fieldsS_some hs] at hc
    unfold room
    rw [if_pos rfl, fieldsS_some hs]
    have := mem_offs (B := 0) (fun x hx => ih x hx) c hc
    simpa using this
theorem len_offs {α : Type} {g : α → List Nat} {w v : α → Nat} : ∀ {xs : List α} {o : Nat}, (∀ x ∈ xs, (g x).length = v x) → (offs g w xs o).length = (xs.map v).sum
  | [], o, _ => rfl
  | x :: xs, o, hg => by
    unfold offs
    rw [List.length_append, List.length_map, hg x List.mem_cons_self, len_offs (v := v) fun z hz => hg z (List.mem_cons_of_mem _ hz), List.map_cons, List.sum_cons]
theorem cells_len {l : List StD} {f : Nat} {t : TyD} (h : Gd l f t) : (cellsOf l f t).length = (room l f t).2 := by
  induction h with
  | leaf h =>
    rename_i f k nm n kids
    unfold cellsOf room
    rw [if_neg (by omega), if_neg (by omega), if_neg (by omega), if_neg (by omega)]
    rfl
  | row h1 h2 h ih =>
    rename_i f nm n t
    unfold cellsOf room
    rw [if_neg (by decide), if_pos rfl, if_neg (by decide), if_pos rfl]
    simp only
    rw [List.length_flatten, List.map_replicate, ih, List.sum_replicate_nat, Nat.mul_comm]
  | rcd hs h0 h8 h ih =>
    rename_i f nm n kids s
    unfold cellsOf room
    rw [if_pos rfl, if_pos rfl, fieldsS_some hs]
    exact len_offs fun x hx => ih x hx
theorem firsts_len {l : List StD} {f : Nat} {t : TyD} (h : Gd l f t) : (firsts l f t).length = (room l f t).1 := by
  induction h with
  | leaf h =>
    rename_i f k nm n kids
    unfold firsts room
    rw [if_neg (by omega), if_neg (by omega), if_neg (by omega), if_neg (by omega)]
    rfl
  | row h1 h2 h ih =>
    rename_i f nm n t
    unfold firsts room
    rw [if_neg (by decide), if_pos rfl, if_neg (by decide), if_pos rfl]
    exact ih
  | rcd hs h0 h8 h ih =>
    rename_i f nm n kids s
    unfold firsts room
    rw [if_pos rfl, if_pos rfl, fieldsS_some hs]
    exact len_offs fun x hx => ih x hx
theorem room_pos {l : List StD} {f : Nat} {t : TyD} (h : Gd l f t) : 0 < (room l f t).1 ∧ 0 < (room l f t).2 := by
  induction h with
  | leaf h =>
    rename_i f k nm n kids
    unfold room
    rw [if_neg (by omega), if_neg (by omega)]
    exact ⟨by decide, by decide⟩
  | row h1 h2 h ih =>
    rename_i f nm n t
    unfold room
    rw [if_neg (by decide), if_pos rfl]
    exact ⟨ih.1, Nat.mul_pos ih.2 (by omega)⟩
  | rcd hs h0 h8 h ih =>
    rename_i f nm n kids s
    unfold room
    rw [if_pos rfl, fieldsS_some hs]
    cases hf : s.fields with
    | nil => rw [hf] at h0; simp at h0
    | cons x xs =>
      have := ih x (by rw [hf]; exact List.mem_cons_self)
      simp only [List.map_cons, List.sum_cons]
      omega
theorem map_zero (s : List Nat) : s.map (· + 0) = s := by simp
theorem scan_rec {α : Type} {g q : α → List Nat} {w v : α → Nat} : ∀ {xs : List α}, (∀ x ∈ xs, (g x).length = v x) → (∀ x ∈ xs, (q x).length = w x) → (∀ x ∈ xs, ∀ a fs, scan ((g x).map (· + fs.length)) a fs = some (fs ++ (q x).map (· + a))) →
    ∀ (a o p base : Nat) (fs : List Nat), fs.length = base + o → scan ((offs g w xs o).map (· + base)) (a + p) fs = some (fs ++ (offs q v xs p).map (· + a))
  | [], _, _, _, a, o, p, base, fs, _ => by simp [offs, scan]
  | x :: xs, hg, hq, hs, a, o, p, base, fs, hl => by
    unfold offs
    rw [List.map_append, List.map_append, scan_app, List.map_map]
    have e : (g x).map ((· + base) ∘ (· + o)) = (g x).map (· + fs.length) := by
      refine List.map_congr_left fun y _ => ?_
      show y + o + base = y + fs.length
      omega
    rw [e, hs x List.mem_cons_self]
    simp only [Option.bind_some]
    rw [List.length_map, hg x List.mem_cons_self]
    have ih := scan_rec (xs := xs) (fun z hz => hg z (List.mem_cons_of_mem _ hz)) (fun z hz => hq z (List.mem_cons_of_mem _ hz)) (fun z hz => hs z (List.mem_cons_of_mem _ hz)) a (o + w x) (p + v x) base (fs ++ (q x).map (· + (a + p))) (by rw [List.length_append, List.length_map, hq x List.mem_cons_self]; omega)
    rw [Nat.add_assoc, ih, List.append_assoc, List.map_map]
    congr 3
    refine List.map_congr_left fun y _ => ?_
    show y + (a + p) = y + p + a
    omega
theorem scan_rep {s fs : List Nat} (h : ∀ c ∈ s, c < fs.length) : ∀ (n a : Nat), scan ((List.replicate n s).flatten) a fs = some fs := by
  intro n a
  refine scan_old fun c hc => ?_
  obtain ⟨t, ht, hc⟩ := List.mem_flatten.1 hc
  rw [(List.mem_replicate.1 ht).2] at hc
  exact h c hc
theorem scan_ok {l : List StD} {f : Nat} {t : TyD} (h : Gd l f t) : ∀ (a : Nat) (fs : List Nat), scan ((cellsOf l f t).map (· + fs.length)) a fs = some (fs ++ (firsts l f t).map (· + a)) := by
  induction h with
  | leaf h =>
    rename_i f k nm n kids
    intro a fs
    unfold cellsOf firsts
    rw [if_neg (by omega), if_neg (by omega), if_neg (by omega), if_neg (by omega)]
    simp [scan]
  | row h1 h2 h ih =>
    rename_i f nm n t
    intro a fs
    have hc : cellsOf l (f + 1) (.mk 4 nm n [t]) = (List.replicate n.toNat (cellsOf l f t)).flatten := by
      rw [cellsOf, if_neg (by decide), if_pos rfl]
    have hf : firsts l (f + 1) (.mk 4 nm n [t]) = firsts l f t := by
      rw [firsts, if_neg (by decide), if_pos rfl]
    rw [hc, hf]
    obtain ⟨m, hm⟩ : ∃ m, n.toNat = m + 1 := ⟨n.toNat - 1, by omega⟩
    rw [hm, List.replicate_succ, List.flatten_cons, List.map_append, scan_app, ih a fs]
    simp only [Option.bind_some]
    have hr : ((List.replicate m (cellsOf l f t)).flatten).map (· + fs.length) = (List.replicate m ((cellsOf l f t).map (· + fs.length))).flatten := by
      rw [List.map_flatten, List.map_replicate]
    rw [hr]
    refine scan_rep (fun c hc => ?_) _ _
    obtain ⟨y, hy, rfl⟩ := List.mem_map.1 hc
    have := cells_lt h y hy
    rw [List.length_append, List.length_map, firsts_len h]
    omega
  | rcd hs h0 h8 h ih =>
    rename_i f nm n kids s
    intro a fs
    have hc : cellsOf l (f + 1) (.mk 3 nm n kids) = offs (fun x : Fld => cellsOf l f x.2) (fun x => (room l f x.2).1) s.fields 0 := by
      conv => lhs; unfold cellsOf
      rw [if_pos rfl, fieldsS_some hs]
    have hf : firsts l (f + 1) (.mk 3 nm n kids) = offs (fun x : Fld => firsts l f x.2) (fun x => (room l f x.2).2) s.fields 0 := by
      conv => lhs; unfold firsts
      rw [if_pos rfl, fieldsS_some hs]
    rw [hc, hf]
    exact scan_rec (g := fun x : Fld => cellsOf l f x.2) (q := fun x : Fld => firsts l f x.2) (w := fun x => (room l f x.2).1) (v := fun x => (room l f x.2).2) (xs := s.fields) (fun x hx => cells_len (h x hx)) (fun x hx => firsts_len (h x hx)) (fun x hx => ih x hx) a 0 0 fs.length fs rfl
theorem scan_all {l : List StD} {f : Nat} {t : TyD} (h : Gd l f t) : scan (cellsOf l f t) 0 [] = some (firsts l f t) := by
  have := scan_ok h 0 []
  simpa using this
end Go.Proofs.YtigbdoicgdmliaaDoor.P10

