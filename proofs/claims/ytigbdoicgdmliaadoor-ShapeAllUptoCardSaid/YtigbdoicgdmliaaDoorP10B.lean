/- Types: their texts, marks, and what begins at a place; plain words. -/
import Derived.Test.YtigbdoicgdmliaaDoorP10
set_option linter.unusedVariables false
set_option linter.unusedSimpArgs false
namespace Go.Proofs.YtigbdoicgdmliaaDoor.P10
open Go Go.V
section
variable (dec : Int → L8)
/-- a type in writing, within so many levels -/
def textS : Nat → TyD → L8
  | 0, _ => [63]
  | f + 1, .mk k nm n kids =>
    if k = 1 then [105, 110, 116]
    else if k = 2 then [112, 116, 114]
    else if k = 3 then [115, 116, 114, 117, 99, 116, 32] ++ nm
    else if k = 4 then match kids with
      | [t] => ([91] ++ dec n ++ [93]) ++ textS f t
      | _ => [63]
    else [63]
def tagS (t : TyD) : L8 := [91, 93] ++ textS dec 4 t
/-- the kinds of its cells -/
def kindsOf (l : List StD) : Nat → TyD → L8
  | 0, _ => []
  | f + 1, .mk k nm n kids =>
    if k = 1 then [105]
    else if k = 2 then [112]
    else if k = 3 then (fieldsS l nm).flatMap fun x => kindsOf l f x.2
    else match kids with
      | t :: _ => kindsOf l f t
      | [] => []
def marksOf (l : List StD) : Nat → TyD → List (Nat × L8)
  | 0, _ => []
  | f + 1, .mk k nm n kids =>
    if k = 1 ∨ k = 2 then []
    else if k = 3 then (0, nm) :: offM (fun x : Fld => marksOf l f x.2) (fun x => (kindsOf l f x.2).length) (fieldsS l nm) 0
    else match kids with
      | t :: _ => (0, tagS dec t) :: marksOf l f t
      | [] => []
/-- the field that has a place: the place within it, and the cells ahead -/
def pick {α : Type} (pl cl : α → Nat) : List α → Nat → Nat → Option (α × Nat × Nat)
  | [], _, _ => none
  | x :: xs, a, c => if a < pl x then some (x, a, c) else pick pl cl xs (a - pl x) (c + cl x)
abbrev St := L8 × Int × Int
def down (l : List StD) : Nat → TyD → Nat → Nat × List St
  | 0, _, _ => (0, [])
  | f + 1, .mk k nm n kids, a =>
    if k = 4 then match kids with
      | t :: _ =>
        let p := (room l f t).2
        let d := down l f t (a % p)
        (d.1, (if a % p = 0 then [(tagS dec t, ((a / p : Nat) : Int), n)] else []) ++ d.2)
      | [] => (0, [])
    else if k = 3 then
      let b : List St := if a = 0 then [(nm, 0, 0)] else []
      match pick (fun x : Fld => (room l f x.2).2) (fun x => (room l f x.2).1) (fieldsS l nm) a 0 with
      | some (x, a', c) => ((down l f x.2 a').1 + c, b ++ (down l f x.2 a').2)
      | none => (0, b)
    else (0, [])
variable {dec}
theorem kinds_len {l : List StD} {f : Nat} {t : TyD} (h : Gd l f t) : (kindsOf l f t).length = (room l f t).1 := by
  induction h with
  | leaf h =>
    rename_i f k nm n kids
    unfold kindsOf room
    rw [if_neg (by omega : ¬ k = 3), if_neg (by omega : ¬ k = 4)]
    rcases h with rfl | rfl
    · rfl
    · rfl
  | row h1 h2 h ih =>
    rename_i f nm n t
    unfold kindsOf room
    rw [if_neg (by decide), if_neg (by decide), if_neg (by decide), if_neg (by decide), if_pos rfl]
    exact ih
  | rcd hs h0 h8 h ih =>
    rename_i f nm n kids s
    unfold kindsOf room
    rw [if_neg (by decide), if_neg (by decide), if_pos rfl, if_pos rfl, fieldsS_some hs]
    simp only
    rw [List.length_flatMap]
    congr 1
    exact List.map_congr_left fun x hx => ih x hx
theorem pick_some {α : Type} {pl cl : α → Nat} : ∀ {xs : List α} {a c : Nat}, a < (xs.map pl).sum → ∃ x a' c', x ∈ xs ∧ pick pl cl xs a c = some (x, a', c') ∧ a' < pl x
  | [], a, c, h => by simp at h
  | x :: xs, a, c, h => by
    unfold pick
    split
    · rename_i hlt
      exact ⟨x, a, c, List.mem_cons_self, rfl, hlt⟩
    · rename_i hge
      rw [List.map_cons, List.sum_cons] at h
      obtain ⟨y, a', c', hy, e, hl⟩ := pick_some (pl := pl) (xs := xs) (a := a - pl x) (c := c + cl x) (by omega)
      exact ⟨y, a', c', List.mem_cons_of_mem _ hy, e, hl⟩
theorem pick_offs {α : Type} {pl cl : α → Nat} {g : α → List Nat} {v : α → Nat → Nat} : ∀ {xs : List α} {a c : Nat}, (∀ x ∈ xs, (g x).length = pl x) → (∀ x ∈ xs, ∀ a, a < pl x → (g x)[a]? = some (v x a)) →
    ∀ x a' c', pick pl cl xs a c = some (x, a', c') → (offs g cl xs c)[a]? = some (v x a' + c')
  | [], a, c, _, _, x, a', c', h => by simp [pick] at h
  | y :: xs, a, c, hl, hv, x, a', c', h => by
    unfold pick at h
    unfold offs
    have hy := hl y List.mem_cons_self
    split at h
    · rename_i hlt
      simp only [Option.some.injEq, Prod.mk.injEq] at h
      obtain ⟨rfl, rfl, rfl⟩ := h
      rw [List.getElem?_append_left (by rw [List.length_map, hy]; exact hlt), List.getElem?_map, hv y List.mem_cons_self a hlt]
      rfl
    · rename_i hge
      rw [List.getElem?_append_right (by rw [List.length_map, hy]; omega), List.length_map, hy]
      exact pick_offs (fun z hz => hl z (List.mem_cons_of_mem _ hz)) (fun z hz => hv z (List.mem_cons_of_mem _ hz)) x a' c' h
theorem rep_at {s : List Nat} : ∀ {n a : Nat}, a < s.length * n → (List.replicate n s).flatten[a]? = s[a % s.length]?
  | 0, a, h => by simp at h
  | n + 1, a, h => by
    rw [List.replicate_succ, List.flatten_cons]
    by_cases hlt : a < s.length
    · rw [List.getElem?_append_left hlt, Nat.mod_eq_of_lt hlt]
    · rw [List.getElem?_append_right (by omega), rep_at (by rw [Nat.mul_succ] at h; omega), Nat.mod_eq_sub_mod (a := a) (by omega)]
/-- a place's cell -/
theorem down_cell {l : List StD} {f : Nat} {t : TyD} (h : Gd l f t) : ∀ a, a < (room l f t).2 → (cellsOf l f t)[a]? = some (down dec l f t a).1 := by
  induction h with
  | leaf h =>
    rename_i f k nm n kids
    intro a ha
    unfold room at ha
    rw [if_neg (by omega), if_neg (by omega)] at ha
    unfold cellsOf down
    rw [if_neg (by omega), if_neg (by omega), if_neg (by omega), if_neg (by omega)]
    have : a = 0 := by simp only at ha; omega
    subst this
    rfl
  | row h1 h2 h ih =>
    rename_i f nm n t
    intro a ha
    have hl := cells_len h
    unfold room at ha
    rw [if_neg (by decide), if_pos rfl] at ha
    simp only at ha
    unfold cellsOf down
    rw [if_neg (by decide), if_pos rfl, if_pos rfl]
    simp only
    rw [rep_at (by rw [hl]; exact ha), hl]
    exact ih _ (Nat.mod_lt _ (room_pos h).2)
  | rcd hs h0 h8 h ih =>
    rename_i f nm n kids s
    intro a ha
    unfold room at ha
    rw [if_pos rfl, fieldsS_some hs] at ha
    simp only at ha
    obtain ⟨x, a', c', hx, e, hlt⟩ := pick_some (pl := fun x : Fld => (room l f x.2).2) (cl := fun x => (room l f x.2).1) (c := 0) ha
    have hc : cellsOf l (f + 1) (.mk 3 nm n kids) = offs (fun x : Fld => cellsOf l f x.2) (fun x => (room l f x.2).1) s.fields 0 := by
      conv => lhs; unfold cellsOf
      rw [if_pos rfl, fieldsS_some hs]
    have hd : (down dec l (f + 1) (.mk 3 nm n kids) a).1 = (down dec l f x.2 a').1 + c' := by
      conv => lhs; unfold down
      rw [if_neg (by decide), if_pos rfl, fieldsS_some hs]
      simp only
      rw [e]
    rw [hc, hd]
    exact pick_offs (pl := fun x : Fld => (room l f x.2).2) (v := fun x a => (down dec l f x.2 a).1) (fun x hx => cells_len (h x hx)) (fun x hx => ih x hx) x a' c' e
theorem firsts_lt {l : List StD} {f : Nat} {t : TyD} (h : Gd l f t) : ∀ p ∈ firsts l f t, p < (room l f t).2 := by
  induction h with
  | leaf h =>
    rename_i f k nm n kids
    intro c hc
    unfold firsts at hc
    rw [if_neg (by omega), if_neg (by omega)] at hc
    unfold room
    rw [if_neg (by omega), if_neg (by omega)]
    have := List.mem_singleton.1 hc
    simp only
    omega
  | row h1 h2 h ih =>
    rename_i f nm n t
    intro c hc
    unfold firsts at hc
    rw [if_neg (by decide), if_pos rfl] at hc
    unfold room
    rw [if_neg (by decide), if_pos rfl]
    have h3 := ih c hc
    have h4 : (room l f t).2 * 1 ≤ (room l f t).2 * n.toNat := Nat.mul_le_mul_left _ (by omega)
    show c < (room l f t).2 * n.toNat
    omega
  | rcd hs h0 h8 h ih =>
    rename_i f nm n kids s
    intro c hc
    unfold firsts at hc
    rw [if_pos rfl, fieldsS_some hs] at hc
    unfold room
    rw [if_pos rfl, fieldsS_some hs]
    have := mem_offs (B := 0) (fun x hx => ih x hx) c hc
    simpa using this
theorem firsts_zero {l : List StD} {f : Nat} {t : TyD} (h : Gd l f t) : (firsts l f t)[0]? = some 0 := by
  induction h with
  | leaf h =>
    rename_i f k nm n kids
    unfold firsts
    rw [if_neg (by omega), if_neg (by omega)]
    rfl
  | row h1 h2 h ih =>
    rename_i f nm n t
    unfold firsts
    rw [if_neg (by decide), if_pos rfl]
    exact ih
  | rcd hs h0 h8 h ih =>
    rename_i f nm n kids s
    unfold firsts
    rw [if_pos rfl, fieldsS_some hs]
    cases hf : s.fields with
    | nil => rw [hf] at h0; simp at h0
    | cons x xs =>
      have hx : x ∈ s.fields := by rw [hf]; exact List.mem_cons_self
      unfold offs
      rw [List.getElem?_append_left (by rw [List.length_map, firsts_len (h x hx)]; exact (room_pos (h x hx)).1), List.getElem?_map, ih x hx]
      rfl
/-- a mark of a field, and the place where its cell begins -/
theorem mark_offs {α : Type} {g : α → List (Nat × L8)} {q : α → List Nat} {cl pl kl : α → Nat} {D : α → Nat → List L8} : ∀ {xs : List α} {o p a0 : Nat}, (∀ x ∈ xs, (q x).length = cl x) → (∀ x ∈ xs, kl x = cl x) →
    (∀ x ∈ xs, ∀ b ∈ q x, b < pl x) → (∀ x ∈ xs, ∀ m ∈ g x, ∃ b, (q x)[m.1]? = some b ∧ m.2 ∈ D x b) →
    ∀ m ∈ offM g kl xs o, o ≤ m.1 ∧ ∃ b x b' c', (offs q pl xs p)[m.1 - o]? = some b ∧ p ≤ b ∧ pick pl cl xs (b - p) a0 = some (x, b', c') ∧ m.2 ∈ D x b'
  | [], o, p, a0, _, _, _, _, m, h => by cases h
  | x :: xs, o, p, a0, hl, hk, hb, hg, m, h => by
    unfold offM at h
    rcases List.mem_append.1 h with h | h
    · obtain ⟨y, hy, rfl⟩ := List.mem_map.1 h
      obtain ⟨b, e, hd⟩ := hg x List.mem_cons_self y hy
      have hlt : y.1 < (q x).length := (List.getElem?_eq_some_iff.1 e).1
      have hbl := hb x List.mem_cons_self b (List.mem_of_getElem? e)
      refine ⟨by simp only; omega, b + p, x, b, a0, ?_, by omega, ?_, hd⟩
      · unfold offs
        have : y.1 + o - o = y.1 := by omega
        simp only
        rw [this, List.getElem?_append_left (by rw [List.length_map]; exact hlt), List.getElem?_map, e]
        rfl
      · unfold pick
        have : b + p - p = b := by omega
        rw [this, if_pos hbl]
    · obtain ⟨h1, b, z, b', c', e, hp, hpk, hd⟩ := mark_offs (o := o + kl x) (p := p + pl x) (a0 := a0 + cl x) (fun z hz => hl z (List.mem_cons_of_mem _ hz)) (fun z hz => hk z (List.mem_cons_of_mem _ hz)) (fun z hz => hb z (List.mem_cons_of_mem _ hz)) (fun z hz => hg z (List.mem_cons_of_mem _ hz)) m h
      have hkx := hk x List.mem_cons_self
      have hlx := hl x List.mem_cons_self
      refine ⟨by omega, b, z, b', c', ?_, by omega, ?_, hd⟩
      · unfold offs
        rw [List.getElem?_append_right (by rw [List.length_map]; omega), List.length_map]
        have : m.1 - o - (q x).length = m.1 - (o + kl x) := by omega
        rw [this]
        exact e
      · unfold pick
        rw [if_neg (by omega)]
        have : b - p - pl x = b - (p + pl x) := by omega
        rw [this]
        exact hpk
/-- a mark stands where something of it begins -/
theorem mark_begins {l : List StD} {f : Nat} {t : TyD} (h : Gd l f t) : ∀ m ∈ marksOf dec l f t, ∃ p, (firsts l f t)[m.1]? = some p ∧ m.2 ∈ (down dec l f t p).2.map (·.1) := by
  induction h with
  | leaf h =>
    rename_i f k nm n kids
    intro m hm
    unfold marksOf at hm
    rw [if_pos h] at hm
    cases hm
  | row h1 h2 h ih =>
    rename_i f nm n t
    intro m hm
    unfold marksOf at hm
    rw [if_neg (by decide), if_neg (by decide)] at hm
    have hf : firsts l (f + 1) (.mk 4 nm n [t]) = firsts l f t := by
      rw [firsts, if_neg (by decide), if_pos rfl]
    have hd : ∀ p, (down dec l (f + 1) (.mk 4 nm n [t]) p).2 = (if p % (room l f t).2 = 0 then [(tagS dec t, ((p / (room l f t).2 : Nat) : Int), n)] else []) ++ (down dec l f t (p % (room l f t).2)).2 := fun p => by
      conv => lhs; unfold down
      rw [if_pos rfl]
    rw [hf]
    rcases List.mem_cons.1 hm with rfl | hm
    · refine ⟨0, firsts_zero h, ?_⟩
      rw [hd, Nat.zero_mod, if_pos rfl]
      simp
    · obtain ⟨p, e, hp⟩ := ih m hm
      refine ⟨p, e, ?_⟩
      have hlt := firsts_lt h p (List.mem_of_getElem? e)
      rw [hd, Nat.mod_eq_of_lt hlt, List.map_append]
      exact List.mem_append.2 (.inr hp)
  | rcd hs h0 h8 h ih =>
    rename_i f nm n kids s
    intro m hm
    unfold marksOf at hm
    rw [if_neg (by decide), if_pos rfl, fieldsS_some hs] at hm
    have hf : firsts l (f + 1) (.mk 3 nm n kids) = offs (fun x : Fld => firsts l f x.2) (fun x => (room l f x.2).2) s.fields 0 := by
      conv => lhs; unfold firsts
      rw [if_pos rfl, fieldsS_some hs]
    rcases List.mem_cons.1 hm with rfl | hm
    · refine ⟨0, firsts_zero (.rcd hs h0 h8 h), ?_⟩
      have hpos := (room_pos (.rcd hs h0 h8 h : Gd l (f + 1) (.mk 3 nm n kids))).2
      unfold room at hpos
      rw [if_pos rfl, fieldsS_some hs] at hpos
      simp only at hpos
      obtain ⟨x, a', c', hx, e, hlt⟩ := pick_some (pl := fun x : Fld => (room l f x.2).2) (cl := fun x => (room l f x.2).1) (c := 0) hpos
      unfold down
      rw [if_neg (by decide), if_pos rfl, fieldsS_some hs]
      simp only
      rw [e]
      simp
    · obtain ⟨_, b, x, b', c', e, _, hpk, hd⟩ := mark_offs (p := 0) (a0 := 0) (q := fun x : Fld => firsts l f x.2) (cl := fun x => (room l f x.2).1) (pl := fun x => (room l f x.2).2) (D := fun x b => (down dec l f x.2 b).2.map (·.1)) (fun x hx => firsts_len (h x hx)) (fun x hx => kinds_len (h x hx)) (fun x hx => firsts_lt (h x hx)) (fun x hx => ih x hx) m hm
      rw [Nat.sub_zero] at e hpk
      refine ⟨b, by rw [hf]; exact e, ?_⟩
      unfold down
      rw [if_neg (by decide), if_pos rfl, fieldsS_some hs]
      simp only
      rw [hpk]
      simp only
      rw [List.map_append]
      exact List.mem_append.2 (.inr hd)
end
end Go.Proofs.YtigbdoicgdmliaaDoor.P10

