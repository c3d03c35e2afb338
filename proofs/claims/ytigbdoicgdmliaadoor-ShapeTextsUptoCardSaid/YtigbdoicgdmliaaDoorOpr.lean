/- Arguments opened into rows of typed elements. -/
import Derived.Test.YtigbdoicgdmliaaDoorOpn
import Derived.Test.YtigbdoicgdmliaaDoorV19
set_option linter.unusedVariables false
set_option linter.unusedSimpArgs false
namespace Go.Proofs.YtigbdoicgdmliaaDoor.Opr
open Go Go.V Go.Proofs Go.ChangeShapes Go.WideShapes Go.ChangeAt Go.RowKit Go.Proofs.YtigbdoicgdmliaaDoor.Opn
/-- a struct's fields: their types and places -/
def fieldsOk (P : Program) (t : TypeId) (l : List (TypeId × Nat)) : Bool := match P.underlying t with
  | some (.struct fs) => (fs.map fun f => (f.type, f.offset)).toList == l
  | _ => false
section
variable {H : Type} {enc : TypeId × Value → H} {P : Program} {w : World}
/-- what is read, of this type, as a thing -/
def Rdb (enc : TypeId × Value → H) (P : Program) (w : World) {τ : Type} (t : TypeId) (fl : τ → List Value) (Q : τ → Prop) : Prop :=
  ∀ (fuel : Nat) (cs : List Value) (x : DataW H × List MemPlace), DataW.trod enc P w 0 (fun _ => true) true fuel t cs = some x → Rows.uptoBulk x.1 ≤ 1048576 → ∃ v : τ, Q v ∧ ∀ (k : Nat) (c : Value), (fl v)[k]? = some c → cs[k]? = some c
theorem rdb_int {t : TypeId} (hu : P.underlying t = some (.int .i64)) : Rdb enc P w t flI (fun v => -9223372036854775808 ≤ v ∧ v ≤ 9223372036854775807) := by
  intro fuel cs x h _
  obtain ⟨y, rfl, he, hw⟩ := DataW.trod_int hu h
  exact ⟨y, by simpa [Lit.wf, IntKind.min, IntKind.max, IntKind.signed, IntKind.bits] using hw, fun k c h => h⟩
theorem rdb_bool {t : TypeId} (hu : P.underlying t = some .bool) : Rdb enc P w t flB (fun _ => True) := by
  intro fuel cs x h _
  obtain ⟨y, rfl, _⟩ := DataW.trod_bool hu h
  exact ⟨y, trivial, fun k c h => h⟩
theorem rdb_str {t : TypeId} (hu : P.underlying t = some .string) : Rdb enc P w t flT (fun v => v.size ≤ 1048576) := by
  intro fuel cs x h hb
  obtain ⟨y, rfl, he, _⟩ := DataW.trod_string hu h
  refine ⟨y, ?_, fun k c h => h⟩
  rw [he] at hb
  simp only [Rows.uptoBulk] at hb
  have : y.data.toList.length = y.size := by simp
  omega
/-- a field, read -/
theorem rdb_field {τ : Type} {t ft : TypeId} {l : List (TypeId × Nat)} {i o : Nat} {fl : τ → List Value} {Q : τ → Prop} (hf : fieldsOk P t l = true) (hi : l[i]? = some (ft, o)) (hr : Rdb enc P w ft fl Q) {fuel : Nat} {cs : List Value} {x : DataW H × List MemPlace}
    (h : DataW.trod enc P w 0 (fun _ => true) true fuel t cs = some x) (hb : Rows.uptoBulk x.1 ≤ 1048576) : ∃ v : τ, Q v ∧ ∀ (k : Nat) (c : Value), (fl v)[k]? = some c → cs[o + k]? = some c := by
  unfold fieldsOk at hf
  cases e : P.underlying t with
  | none => rw [e] at hf; cases hf
  | some d =>
    rw [e] at hf
    cases d <;> first | (cases hf; done) | skip
    rename_i fs
    simp only [beq_iff_eq] at hf
    obtain ⟨m, hm⟩ := rd_field e h
    rw [← hf] at hi
    rw [Array.getElem?_toList, Array.getElem?_map] at hi
    cases hfi : fs[i]? with
    | none => rw [hfi] at hi; cases hi
    | some f =>
      rw [hfi] at hi
      simp only [Option.map_some, Option.some.injEq, Prod.mk.injEq] at hi
      obtain ⟨y, h1, h2⟩ := hm i f hfi
      rw [hi.1, hi.2] at h1
      obtain ⟨v, q, hv⟩ := hr m _ _ h1 (Nat.le_trans h2 hb)
      refine ⟨v, q, fun k c hk => ?_⟩
      have := hv k c hk
      rw [List.getElem?_take] at this
      split at this
      · rw [List.getElem?_drop] at this
        exact this
      · cases this
/-- a row, opened -/
theorem open_row {τ : Type} [Inhabited τ] {t e : TypeId} {fl : τ → List Value} {sz : Nat} {Q : τ → Prop} (hu : P.underlying t = some (.slice e)) (hc : P.cellsOf e = sz) (hf : Fl fl sz) (hr : Rdb enc P w e fl Q) {fuel : Nat} {cs : List Value} {x : DataW H × List MemPlace}
    (h : DataW.trod enc P w 0 (fun _ => true) true fuel t cs = some x) (hk : Rows.uptoBulk x.1 ≤ 1048576) : ∃ (s : Sl) (xs : List τ), cs = [.slice s.a s.n s.c] ∧ Rd fl sz w.heap s xs ∧ xs.length ≤ 1048576 ∧ ∀ y ∈ xs, Q y := by
  obtain ⟨s, n, D, hcs, hsc, hb, hi⟩ := rd_slice hu h
  have el : ∀ i, i < s.n → ∃ v : τ, Q v ∧ ∀ (k : Nat) (c : Value), (fl v)[k]? = some c → ∃ ad, s.a = some ad ∧ hcell w.heap (ad.add (i * sz + k)) = some c := by
    intro i him
    obtain ⟨hbd, ad, c, ha, hcl, hcell, ht⟩ := hi i him
    obtain ⟨v, q, hv⟩ := hr n c (D i) ht (by omega)
    refine ⟨v, q, fun k c' hk' => ⟨ad, ha, ?_⟩⟩
    have h1 := (List.getElem?_eq_some_iff.1 hk').1
    rw [hf.len] at h1
    have h2 := hcell k (by omega)
    rw [add_add, hc] at h2
    rw [h2]
    exact hv k c' hk'
  refine ⟨s, (List.range s.n).map fun i => if h : i < s.n then (el i h).choose else default, hcs, ⟨by simp, hsc, ?_⟩, by simp; omega, ?_⟩
  · intro i p k v hp hv
    rw [List.getElem?_map] at hp
    by_cases him : i < s.n
    · rw [List.getElem?_range him] at hp
      simp only [Option.map_some, Option.some.injEq, dif_pos him] at hp
      rw [← hp] at hv
      exact (el i him).choose_spec.2 k v hv
    · rw [List.getElem?_eq_none (by simp; omega)] at hp
      cases hp
  · intro y hy
    obtain ⟨i, hi', rfl⟩ := List.mem_map.1 hy
    have him := List.mem_range.1 hi'
    rw [dif_pos him]
    exact (el i him).choose_spec.1
end
end Go.Proofs.YtigbdoicgdmliaaDoor.Opr

