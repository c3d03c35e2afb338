/- Arguments of api.Type and of structs, opened. -/
import Derived.Test.YtigbdoicgdmliaaDoorOpr
import Derived.Test.YtigbdoicgdmliaaDoorV26
set_option linter.unusedVariables false
set_option linter.unusedSimpArgs false
-- tStr: 9
-- tInt: 3
-- tTy: 51
-- tTys: 49
-- tFd: 83
-- tFds: 79
-- tSt: 81
-- tSts: 55
namespace Go.Proofs.YtigbdoicgdmliaaDoor.OpT
open Go Go.V Go.Proofs Go.ChangeShapes Go.WideShapes Go.ChangeAt Go.RowKit Go.Proofs.YtigbdoicgdmliaaDoor.Opn Go.Proofs.YtigbdoicgdmliaaDoor.Opr Go.Proofs.YtigbdoicgdmliaaDoor.P10
theorem uStr : Tryd.prog.underlying 9 = some .string := by kernel_rfl
theorem uInt : Tryd.prog.underlying 3 = some (.int .i64) := by kernel_rfl
theorem uTys : Tryd.prog.underlying 49 = some (.slice 51) := by kernel_rfl
theorem uFds : Tryd.prog.underlying 79 = some (.slice 83) := by kernel_rfl
theorem uSts : Tryd.prog.underlying 55 = some (.slice 81) := by kernel_rfl
theorem cTy : Tryd.prog.cellsOf 51 = 4 := by kernel_rfl
theorem cFd : Tryd.prog.cellsOf 83 = 5 := by kernel_rfl
theorem cSt : Tryd.prog.cellsOf 81 = 2 := by kernel_rfl
theorem fTy : fieldsOk Tryd.prog 51 [(3, 0), (9, 1), (3, 2), (49, 3)] = true := by kernel_rfl
theorem fFd : fieldsOk Tryd.prog 83 [(9, 0), (51, 1)] = true := by kernel_rfl
theorem fSt : fieldsOk Tryd.prog 81 [(9, 0), (79, 1)] = true := by kernel_rfl
theorem struct_of {P : Program} {t : TypeId} {l : List (TypeId × Nat)} (h : fieldsOk P t l = true) : ∃ fs : Array Field, P.underlying t = some (.struct fs) := by
  unfold fieldsOk at h
  cases e : P.underlying t with
  | none => rw [e] at h; cases h
  | some d =>
    rw [e] at h
    cases d <;> first | (cases h; done) | exact ⟨_, rfl⟩
theorem uTy : ∃ fs : Array Field, Tryd.prog.underlying 51 = some (.struct fs) := struct_of fTy
instance : Inhabited HT := ⟨(0, [], 0, ⟨none, 0, 0⟩)⟩
instance : Inhabited HF := ⟨([], default)⟩
instance : Inhabited HS := ⟨([], ⟨none, 0, 0⟩)⟩
theorem sz {s : ByteArray} (h : s.size ≤ 1048576) : s.data.toList.length ≤ 1048576 := by
  have : s.data.toList.length = s.size := by simp
  omega
def flS1 (s : Sl) : List Value := [.slice s.a s.n s.c]
section
variable {H : Type} {enc : TypeId × Value → H} {P : Program} {w : World}
/-- what is read, of so much -/
def RdbN (B : Nat) (enc : TypeId × Value → H) (P : Program) (w : World) {τ : Type} (t : TypeId) (fl : τ → List Value) (Q : τ → Prop) : Prop :=
  ∀ (fuel : Nat) (cs : List Value) (x : DataW H × List MemPlace), DataW.trod enc P w 0 (fun _ => true) true fuel t cs = some x → Rows.uptoBulk x.1 ≤ B → ∃ v : τ, Q v ∧ ∀ (k : Nat) (c : Value), (fl v)[k]? = some c → cs[k]? = some c
theorem fieldN {B : Nat} {τ : Type} {t ft : TypeId} {l : List (TypeId × Nat)} {i o : Nat} {fl : τ → List Value} {Q : τ → Prop} (hf : fieldsOk P t l = true) (hi : l[i]? = some (ft, o)) (hr : RdbN B enc P w ft fl Q) {fuel : Nat} {cs : List Value} {x : DataW H × List MemPlace}
    (h : DataW.trod enc P w 0 (fun _ => true) true fuel t cs = some x) (hb : Rows.uptoBulk x.1 ≤ B) : ∃ v : τ, Q v ∧ ∀ (k : Nat) (c : Value), (fl v)[k]? = some c → cs[o + k]? = some c := by
  unfold fieldsOk at hf
  cases e : P.underlying t with
  | none => rw [e] at hf; cases hf
  | some d =>
    rw [e] at hf
    cases d <;> first | (cases hf; done) | skip
    rename_i fs
    simp only [beq_iff_eq] at hf
    obtain ⟨m, hm⟩ := rd_field e h
    rw [← hf] at hi
    rw [Array.getElem?_toList, Array.getElem?_map] at hi
    cases hfi : fs[i]? with
    | none => rw [hfi] at hi; cases hi
    | some f =>
      rw [hfi] at hi
      simp only [Option.map_some, Option.some.injEq, Prod.mk.injEq] at hi
      obtain ⟨y, h1, h2⟩ := hm i f hfi
      rw [hi.1, hi.2] at h1
      obtain ⟨v, q, hv⟩ := hr m _ _ h1 (Nat.le_trans h2 hb)
      refine ⟨v, q, fun k c hk => ?_⟩
      have := hv k c hk
      rw [List.getElem?_take] at this
      split at this
      · rw [List.getElem?_drop] at this
        exact this
      · cases this
theorem open_rowN {B : Nat} {τ : Type} [Inhabited τ] {t e : TypeId} {fl : τ → List Value} {sz : Nat} {Q : τ → Prop} (hu : P.underlying t = some (.slice e)) (hc : P.cellsOf e = sz) (hf : Fl fl sz) (hr : RdbN B enc P w e fl Q) {fuel : Nat} {cs : List Value} {x : DataW H × List MemPlace}
    (h : DataW.trod enc P w 0 (fun _ => true) true fuel t cs = some x) (hk : Rows.uptoBulk x.1 ≤ B + 1) : ∃ (s : Sl) (xs : List τ), cs = [.slice s.a s.n s.c] ∧ Rd fl sz w.heap s xs ∧ xs.length ≤ B ∧ ∀ y ∈ xs, Q y := by
  obtain ⟨s, n, D, hcs, hsc, hb, hi⟩ := rd_slice hu h
  have el : ∀ i, i < s.n → ∃ v : τ, Q v ∧ ∀ (k : Nat) (c : Value), (fl v)[k]? = some c → ∃ ad, s.a = some ad ∧ hcell w.heap (ad.add (i * sz + k)) = some c := by
    intro i him
    obtain ⟨hbd, ad, c, ha, hcl, hcell, ht⟩ := hi i him
    obtain ⟨v, q, hv⟩ := hr n c (D i) ht (by omega)
    refine ⟨v, q, fun k c' hk' => ⟨ad, ha, ?_⟩⟩
    have h1 := (List.getElem?_eq_some_iff.1 hk').1
    rw [hf.len] at h1
    have h2 := hcell k (by omega)
    rw [add_add, hc] at h2
    rw [h2]
    exact hv k c' hk'
  refine ⟨s, (List.range s.n).map fun i => if h : i < s.n then (el i h).choose else default, hcs, ⟨by simp, hsc, ?_⟩, by simp; omega, ?_⟩
  · intro i p k v hp hv
    rw [List.getElem?_map] at hp
    by_cases him : i < s.n
    · rw [List.getElem?_range him] at hp
      simp only [Option.map_some, Option.some.injEq, dif_pos him] at hp
      rw [← hp] at hv
      exact (el i him).choose_spec.2 k v hv
    · rw [List.getElem?_eq_none (by simp; omega)] at hp
      cases hp
  · intro y hy
    obtain ⟨i, hi', rfl⟩ := List.mem_map.1 hy
    have him := List.mem_range.1 hi'
    rw [dif_pos him]
    exact (el i him).choose_spec.1
theorem all_in {η χ : Type} {In : η → χ → Prop} {ok : χ → Prop} : ∀ hs : List η, (∀ h ∈ hs, ∃ x, In h x ∧ ok x) → ∃ xs : List χ, hs.length = xs.length ∧ (∀ (i : Nat) h x, hs[i]? = some h → xs[i]? = some x → In h x) ∧ ∀ x ∈ xs, ok x
  | [], _ => ⟨[], rfl, by simp, by simp⟩
  | h :: hs, hh => by
    obtain ⟨x, h1, h2⟩ := hh h List.mem_cons_self
    obtain ⟨xs, g1, g2, g3⟩ := all_in hs fun y hy => hh y (List.mem_cons_of_mem _ hy)
    refine ⟨x :: xs, by simp [g1], fun i a y ha hy => ?_, fun y hy => ?_⟩
    · cases i with
      | zero =>
        simp only [List.getElem?_cons_zero, Option.some.injEq] at ha hy
        subst ha
        subst hy
        exact h1
      | succ i =>
        simp only [List.getElem?_cons_succ] at ha hy
        exact g2 i a y ha hy
    · rcases List.mem_cons.1 hy with rfl | hy
      · exact h2
      · exact g3 y hy
end
section
variable {H : Type} {enc : TypeId × Value → H} {w : World}
theorem l8N {B : Nat} (hB : B ≤ 1048576) : RdbN B enc Tryd.prog w 9 flL (fun v => v.length ≤ 1048576) := by
  intro fuel cs x h hb
  obtain ⟨v, hv, hc⟩ := rdb_str uStr fuel cs x h (by omega)
  refine ⟨v.data.toList, sz hv, fun k c hk => hc k c ?_⟩
  unfold flL at hk
  rw [← str_of] at hk
  exact hk
theorem intN {B : Nat} (hB : B ≤ 1048576) : RdbN B enc Tryd.prog w 3 flI (fun v => I64 v) := by
  intro fuel cs x h hb
  exact rdb_int uInt fuel cs x h (by omega)
theorem tyN : ∀ {B : Nat}, B ≤ 1048576 → RdbN B enc Tryd.prog w 51 flHT (fun h => ∃ t, InT w.heap h t ∧ OkT t) := by
  intro B
  induction B using Nat.strongRecOn with
  | ind B ih =>
    intro hB fuel cs x h hb
    obtain ⟨a, _, ha⟩ := fieldN (i := 0) fTy rfl (intN hB) h hb
    obtain ⟨b, hb1, hb'⟩ := fieldN (i := 1) fTy rfl (l8N hB) h hb
    obtain ⟨n, hn1, hn⟩ := fieldN (i := 2) fTy rfl (intN hB) h hb
    have hrow : RdbN B enc Tryd.prog w 49 flS1 (fun s => ∃ xs : List HT, Rd flHT 4 w.heap s xs ∧ xs.length ≤ 1048576 ∧ ∀ h ∈ xs, ∃ t, InT w.heap h t ∧ OkT t) := by
      intro fuel cs x h hb
      cases B with
      | zero =>
        obtain ⟨s, n, D, hcs, hsc, hbb, hi⟩ := rd_slice uTys h
        omega
      | succ B =>
        obtain ⟨s, xs, rfl, h1, h2, h3⟩ := open_rowN uTys cTy FlHT (ih B (by omega) (by omega)) h hb
        exact ⟨s, ⟨xs, h1, by omega, h3⟩, fun k c hk => hk⟩
    obtain ⟨s, ⟨hs, h1, h2, h3⟩, hc⟩ := fieldN (i := 3) fTy rfl hrow h hb
    obtain ⟨ts, g1, g2, g3⟩ := all_in hs h3
    refine ⟨(a, b, n, s), ⟨.mk a b n ts, .mk h1 g1 g2, .mk hn1 hb1 (by omega) g3⟩, fun k c hk => ?_⟩
    match k, hk with
    | 0, hk => exact ha 0 c hk
    | 1, hk => exact hb' 0 c hk
    | 2, hk => exact hn 0 c hk
    | 3, hk => exact hc 0 c hk
    | k + 4, hk => simp [flHT] at hk
theorem fdN : RdbN 1048576 enc Tryd.prog w 83 flHF (fun h => ∃ x : Fld, InF w.heap h x ∧ x.1.length ≤ 1048576 ∧ OkT x.2) := by
  intro fuel cs x h hb
  obtain ⟨a, ha1, ha⟩ := fieldN (i := 0) fFd rfl (l8N (Nat.le_refl _)) h hb
  obtain ⟨g, ⟨t, ht, ho⟩, hg⟩ := fieldN (i := 1) fFd rfl (tyN (Nat.le_refl _)) h hb
  refine ⟨(a, g), ⟨(a, t), ⟨rfl, ht⟩, ha1, ho⟩, fun k c hk => ?_⟩
  match k, hk with
  | 0, hk => exact ha 0 c hk
  | k + 1, hk =>
    have := hg k c hk
    rw [Nat.add_comm]
    exact this
theorem fdsN : RdbN 1048576 enc Tryd.prog w 79 flS1 (fun s => ∃ xs : List Fld, RdF w.heap s xs ∧ xs.length ≤ 1048576 ∧ ∀ x ∈ xs, x.1.length ≤ 1048576 ∧ OkT x.2) := by
  intro fuel cs x h hb
  obtain ⟨s, hs, rfl, h1, h2, h3⟩ := open_rowN uFds cFd FlHF fdN h (by omega)
  obtain ⟨xs, g1, g2, g3⟩ := all_in hs h3
  exact ⟨s, ⟨xs, ⟨hs, h1, g1, g2⟩, by omega, g3⟩, fun k c hk => hk⟩
theorem stN : RdbN 1048576 enc Tryd.prog w 81 flHS (fun h => ∃ x : StD, InS w.heap h x ∧ OkSt x) := by
  intro fuel cs x h hb
  obtain ⟨a, ha1, ha⟩ := fieldN (i := 0) fSt rfl (l8N (Nat.le_refl _)) h hb
  obtain ⟨s, ⟨xs, h1, h2, h3⟩, hs⟩ := fieldN (i := 1) fSt rfl fdsN h hb
  refine ⟨(a, s), ⟨⟨a, xs⟩, ⟨rfl, h1⟩, ⟨ha1, h2, h3⟩⟩, fun k c hk => ?_⟩
  match k, hk with
  | 0, hk => exact ha 0 c hk
  | 1, hk => exact hs 0 c hk
  | k + 2, hk => simp [flHS] at hk
theorem open_sts {fuel : Nat} {cs : List Value} {x : DataW H × List MemPlace} (h : DataW.trod enc Tryd.prog w 0 (fun _ => true) true fuel 55 cs = some x) (hk : Rows.uptoBulk x.1 ≤ 1048576) :
    ∃ (s : Sl) (xs : List StD), cs = [.slice s.a s.n s.c] ∧ RdS w.heap s xs ∧ OkL xs := by
  obtain ⟨s, hs, rfl, h1, h2, h3⟩ := open_rowN uSts cSt FlHS stN h (by omega)
  obtain ⟨xs, g1, g2, g3⟩ := all_in hs h3
  exact ⟨s, xs, rfl, ⟨hs, h1, g1, g2⟩, by omega, g3⟩
theorem agg_list (cs : Array Value) : (Value.agg cs).cells.toList = cs.toList := by simp [Value.cells]
theorem agg_eq {cs : Array Value} {l : List Value} (hz : cs.size = l.length) (h : ∀ (i : Nat) v, l[i]? = some v → cs.toList[i]? = some v) : cs = l.toArray := by
  apply Array.ext'
  apply List.ext_getElem?
  intro i
  show cs.toList[i]? = l[i]?
  by_cases hi : i < l.length
  · rw [List.getElem?_eq_getElem hi]
    exact h i _ (List.getElem?_eq_getElem hi)
  · have : cs.toList.length = cs.size := by simp
    rw [List.getElem?_eq_none (by omega), List.getElem?_eq_none (by omega)]
theorem open_ty {fuel : Nat} {cs : Array Value} {x : DataW H × List MemPlace} (hz : cs.size = Tryd.prog.cellsOf 51) (h : DataW.trod enc Tryd.prog w 0 (fun _ => true) true fuel 51 (Value.agg cs).cells.toList = some x) (hb : Rows.uptoBulk x.1 ≤ 1048576) :
    ∃ a : HT, (∃ t, InT w.heap a t ∧ OkT t) ∧ cs = #[.int .i64 a.1, .string (str a.2.1), .int .i64 a.2.2.1, .slice a.2.2.2.a a.2.2.2.n a.2.2.2.c] := by
  obtain ⟨g, hg, hs⟩ := tyN (Nat.le_refl _) fuel _ x h hb
  refine ⟨g, hg, agg_eq (l := flHT g) (by rw [hz, cTy]; rfl) fun i v hv => ?_⟩
  rw [← agg_list]
  exact hs i v hv
end
end Go.Proofs.YtigbdoicgdmliaaDoor.OpT

