/- From a law's call over heaps to the given row: what is read is opened, what was there is kept. -/
import Derived.Test.YtigbdoicgdmliaaDoorRows
import Derived.Test.YtigbdoicgdmliaaDoorV9
import Derived.WalkKit
import Derived.ProofKit
import Derived.OpenShut
import Derived.JoinedCond
import Derived.Carry
import Derived.Deep.Slices
import Derived.Deep.Fields
set_option linter.unusedVariables false
set_option linter.unusedSimpArgs false
namespace Go.Proofs.YtigbdoicgdmliaaDoor.Opn
open Go Go.V Go.Proofs Go.ChangeShapes Go.WideShapes Go.ChangeAt Go.RowKit

theorem cell_eq {w : World} (a : Addr) : w.cell? a = hcell w.heap a := by
  unfold World.cell? hcell
  rfl

theorem trodAll_keep {H : Type} {enc : TypeId × Value → H} {P : Program} (hl : laidOutB P = true) {W W' : World} (hb : Below W.heap.size W W') {sp : Nat → Bool} :
    ∀ {ts : List TypeId} {vs : List Value} {ds : List (DataW H)} {p : List MemPlace}, (∀ t ∈ ts, P.readableRec t = true ∧ t < P.types.size) → DataW.TrodAll enc P W 0 (fun _ => true) true ts vs ds p →
      (∀ x ∈ p, x.block < W.heap.size) → (∀ x ∈ p, sp x.block = true) → DataW.TrodAll enc P W' 0 sp true ts vs ds p
  | [], _, _, _, _, h, _, _ => by
    obtain ⟨rfl, rfl, rfl⟩ := trodAll_nil h
    exact rfl
  | t :: ts, _, _, _, ht, h, hlt, hsp => by
    obtain ⟨v, vs1, d, ds1, a, b, rfl, rfl, rfl, h1, h2⟩ := trodAll_cons h
    obtain ⟨r1, r2⟩ := ht t List.mem_cons_self
    refine ⟨a, b, WideElems.Trod_stays hl r1 r2 h1 (fun x hx => hb.same (hlt x (List.mem_append.2 (.inl hx)))) (fun x hx => hsp x (List.mem_append.2 (.inl hx))), ?_, rfl⟩
    exact trodAll_keep hl hb (fun t h => ht t (List.mem_cons_of_mem _ h)) h2 (fun x hx => hlt x (List.mem_append.2 (.inr hx))) (fun x hx => hsp x (List.mem_append.2 (.inr hx)))

/-- true, and all that was there is there -/
theorem post_true {H : Type} {enc : TypeId × Value → H} {P : Program} {f : Func} {s : ChangeSpec} {apart fresh handsOn again : Bool} {W W' : World} {args : Array Value} {ds gs : List (DataW H)} {before : List MemPlace} {tb : TypeId}
    (hW : DataW.Whole enc P f.params.toList s.vars apart W args.toList ds gs before) (hb : Below W.heap.size W W') (hl : laidOutB P = true) (hr : ∀ t ∈ f.params.toList, P.readableRec t = true ∧ t < P.types.size)
    (hv : s.vars = []) (h1 : (s.fn H (ds ++ gs)).results = [.lit (.bool true)]) (h2 : (s.fn H (ds ++ gs)).args = ds) (h3 : (s.fn H (ds ++ gs)).vars = [])
    (hf : f.resultTypes = #[tb]) (htb : P.underlying tb = some .bool) : s.post enc P f apart fresh handsOn again W args (.bool true) W' := by
  have hlt := fun p (hp : p ∈ before) => hW.lt p hp
  have hW' := hW
  obtain ⟨p, q, hA, hV, rfl, hz, hn⟩ := hW
  rw [hv] at hV
  obtain ⟨rfl, rfl⟩ := trodVars_none hV
  simp only [List.append_nil] at *
  have hres : ∀ (b : Nat) (sp : Nat → Bool) (hd : Bool), DataW.TrodAll enc P W' b sp hd f.resultTypes.toList ((Value.bool true).resultList f.resultTypes.size) (s.fn H ds).results [] := by
    intro b sp hd
    rw [h1, hf]
    exact trodAll_cons_mk (p := []) (p' := []) (shut_bool htb _) trodAll_mk0
  have hargs : ∀ sp : Nat → Bool, (∀ x ∈ p, sp x.block = true) → DataW.TrodAll enc P W' 0 sp true f.params.toList args.toList (s.fn H ds).args p := by
    intro sp hsp
    rw [h2]
    exact trodAll_keep hl hb hr hA hlt hsp
  have hvars : ∀ sp : Nat → Bool, DataW.TrodVars enc P W' sp s.vars (s.fn H ds).vars [] := by
    intro sp
    rw [hv, h3]
    exact rfl
  have hds : ds ++ [] = ds := List.append_nil ds
  rw [← hds] at hres hargs hvars
  have hlt' : ∀ x ∈ p, (fun b => decide (b < W.heap.size)) x.block = true := fun x hx => by simpa using hlt x hx
  refine ⟨ds, [], p, [], p, [], by simpa using hW', hres _ _ _, hargs _ hlt', hvars _, World.keptBut_mono (fun x hx => ⟨hx, .inr (.inl hx)⟩) (hb.frame _), fun _ => ?_⟩
  refine ⟨ok_one hf rfl (okWide_bool_mk htb _), _, _, ([] ++ p) ++ [], ⟨[] ++ p, [], trodAll_append (hargs _ (fun _ _ => rfl)) (hres _ _ _), hvars _, rfl, ?_, ?_⟩, ?_⟩
  · intro b off hp
    have hp' : MemPlace.cell b off ∈ p := by simpa using hp
    rw [hb.frozen (hlt _ hp')]
    exact hz b off hp'
  · intro ha
    simpa using hn ha
  · intro x hx _
    simpa using hx

theorem lk_below {W W' : World} (h : Lk W W') (hf : Fr no W.heap W'.heap) : Below W.heap.size W W' := ⟨h.1, h.2.1, h.2.2, hf.size, fun k hk => hf.keep k hk fun h => h⟩

theorem calls_of {P : Program} {f : FuncId} {args : Array Value} {W : World} (h : CallF P f args W.heap (fun v H' => v = .bool true ∧ Fr no W.heap H') (fun _ _ => False)) :
    Calls P f args W fun e W' => e = .returned (.bool true) ∧ Below W.heap.size W W' := by
  refine (h W rfl).mono ?_
  rintro e W' ⟨hl, he⟩
  cases e with
  | returned v => exact ⟨by rw [he.1], lk_below hl he.2⟩
  | panicked ch => exact he.elim
  | outgrown => exact he.elim

/-! ### what is read -/
theorem one_le {H : Type} (d : DataW H) : 1 ≤ Rows.uptoBulk d := by
  cases d with
  | lit l => cases l <;> simp [Rows.uptoBulk]
  | nil => simp [Rows.uptoBulk]
  | ptr d => simp [Rows.uptoBulk]
  | slice elems spare => simp [Rows.uptoBulk]
  | agg parts => simp [Rows.uptoBulk]
  | iface t d => simp [Rows.uptoBulk]
  | map entries => simp [Rows.uptoBulk]
  | held h => simp [Rows.uptoBulk]
theorem part_le {H : Type} {d : DataW H} {l : List (DataW H)} (h : d ∈ l) : Rows.uptoBulk d ≤ Rows.uptoBulkAll l := by
  induction l with
  | nil => cases h
  | cons x r ih =>
    simp only [Rows.uptoBulkAll]
    cases List.mem_cons.1 h with
    | inl e => subst e; omega
    | inr e => have := ih e; omega
theorem length_le {H : Type} (l : List (DataW H)) : l.length ≤ Rows.uptoBulkAll l := by
  induction l with
  | nil => simp [Rows.uptoBulkAll]
  | cons x r ih => have := one_le x; simp only [Rows.uptoBulkAll, List.length_cons]; omega
theorem bound {H : Type} {l : List (DataW H)} (hk : Rows.uptoSmall H l = true) : Rows.uptoBulkAll l ≤ 1048576 := of_decide_eq_true hk

section
variable {H : Type} {enc : TypeId × Value → H} {P : Program} {w : World}
/-- a slice: its elements' cells and what they read as -/
theorem rd_slice {t e : TypeId} {fuel : Nat} {cs : List Value} {x : DataW H × List MemPlace} (ht : P.underlying t = some (.slice e)) (h : DataW.trod enc P w 0 (fun _ => true) true fuel t cs = some x) :
    ∃ (s : Sl) (n : Nat) (D : Nat → DataW H × List MemPlace), cs = [.slice s.a s.n s.c] ∧ s.n ≤ s.c ∧ s.n + 1 ≤ Rows.uptoBulk x.1 ∧
      ∀ i, i < s.n → Rows.uptoBulk (D i).1 + s.n ≤ Rows.uptoBulk x.1 ∧ ∃ ad cs', s.a = some ad ∧ cs'.length = P.cellsOf e ∧ (∀ j, j < P.cellsOf e → hcell w.heap ((ad.add (i * P.cellsOf e)).add j) = cs'[j]?) ∧ DataW.trod enc P w 0 (fun _ => true) true n e cs' = some (D i) := by
  rcases Go.Deep.open_slice ht h with ⟨rfl, rfl⟩ | ⟨a, len, cap, m, n, D, Pl, rfl, hb, hl, hm, hmm, rfl, hi⟩
  · exact ⟨⟨none, 0, 0⟩, 0, fun _ => (.nil, []), rfl, Nat.le_refl _, by simp [Rows.uptoBulk], fun i hi => absurd hi (Nat.not_lt_zero _)⟩
  · have hlen := length_le ((List.range len).map D)
    rw [List.length_map, List.length_range] at hlen
    refine ⟨⟨some a, len, cap⟩, n, fun i => (D i, Pl i), rfl, hl, ?_, ?_⟩
    · simp only [Rows.uptoBulk]; omega
    intro i him
    have him' : i < m := by rw [hmm]; simp; exact Nat.lt_of_lt_of_le him hl
    obtain ⟨cs', h1, h2⟩ := hi i him'
    obtain ⟨_, k1, k2⟩ := World.cells?_some h1
    refine ⟨?_, a, cs', rfl, k1, fun j hj => by rw [← cell_eq]; exact k2 j hj, h2⟩
    have key : ∀ (l : List (DataW H)) (d : DataW H), d ∈ l → Rows.uptoBulk d + l.length ≤ Rows.uptoBulkAll l + 1 := by
      intro l
      induction l with
      | nil => intro d hd; cases hd
      | cons y r ih =>
        intro d hd
        simp only [Rows.uptoBulkAll, List.length_cons]
        have hr := length_le r
        have hy := one_le y
        cases List.mem_cons.1 hd with
        | inl e => subst e; omega
        | inr e => have := ih d e; omega
    have := key ((List.range len).map D) (D i) (List.mem_map.2 ⟨i, List.mem_range.2 him, rfl⟩)
    rw [List.length_map, List.length_range] at this
    simp only [Rows.uptoBulk]
    omega
/-- a struct's field of one cell -/
theorem rd_field {t : TypeId} {fs : Array Field} {fuel : Nat} {cs : List Value} {x : DataW H × List MemPlace} (ht : P.underlying t = some (.struct fs)) (h : DataW.trod enc P w 0 (fun _ => true) true fuel t cs = some x) :
    ∃ n, ∀ (i : Nat) (f : Field), fs[i]? = some f → ∃ y, DataW.trod enc P w 0 (fun _ => true) true n f.type ((cs.drop f.offset).take (P.cellsOf f.type)) = some y ∧ Rows.uptoBulk y.1 ≤ Rows.uptoBulk x.1 := by
  obtain ⟨xs, n, rfl, rfl, h1, h2, h3⟩ := DataW.trod_struct ht h
  refine ⟨n, fun i f hf => ?_⟩
  have hi : i < xs.length := by rw [h2]; exact (Array.getElem?_eq_some_iff.1 hf).1
  refine ⟨xs[i], by rw [h3 i f hf]; exact List.getElem?_eq_getElem hi, ?_⟩
  have := part_le (d := xs[i].1) (l := xs.map (·.1)) (List.mem_map.2 ⟨_, List.getElem_mem hi, rfl⟩)
  simp only [Rows.uptoBulk]
  omega
theorem one_cell {cs : List Value} {o n : Nat} {v : Value} (h : (cs.drop o).take n = [v]) : cs[o]? = some v := by
  have : ((cs.drop o).take n)[0]? = some v := by rw [h]; rfl
  rw [List.getElem?_take] at this
  split at this
  · simpa using this
  · cases this
end
end Go.Proofs.YtigbdoicgdmliaaDoor.Opn

