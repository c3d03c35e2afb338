/- Arguments of weftlaw14's laws, opened. -/
import Derived.Test.YthaejcmllibeoaaDoorOpr
import Derived.Test.YthaejcmllibeoaaDoorL14
set_option linter.unusedVariables false
set_option linter.unusedSimpArgs false
-- tRNode: 37
-- tStr: 9
-- tInt: 3
namespace Go.Proofs.YthaejcmllibeoaaDoor.O14
open Go Go.V Go.Proofs Go.ChangeShapes Go.WideShapes Go.ChangeAt Go.RowKit Go.Proofs.YthaejcmllibeoaaDoor.Opn Go.Proofs.YthaejcmllibeoaaDoor.Opr Go.Proofs.YthaejcmllibeoaaDoor.P14 Go.Proofs.YthaejcmllibeoaaDoor.C14
theorem struct_of {P : Program} {t : TypeId} {l : List (TypeId × Nat)} (h : fieldsOk P t l = true) : ∃ fs : Array Field, P.underlying t = some (.struct fs) := by
  unfold fieldsOk at h
  cases e : P.underlying t with
  | none => rw [e] at h; cases h
  | some d =>
    rw [e] at h
    cases d <;> first | (cases h; done) | exact ⟨_, rfl⟩
theorem cNode : Tryd.prog.cellsOf 37 = 6 := by kernel_rfl
theorem uStr : Tryd.prog.underlying 9 = some .string := by kernel_rfl
theorem uInt : Tryd.prog.underlying 3 = some (.int .i64) := by kernel_rfl
theorem fNode : fieldsOk Tryd.prog 37 [(3, 0), (9, 1), (3, 2), (9, 3), (3, 4), (3, 5)] = true := by kernel_rfl
theorem uNode : ∃ fs : Array Field, Tryd.prog.underlying 37 = some (.struct fs) := struct_of fNode
theorem sz {s : ByteArray} (h : s.size ≤ 1048576) : s.data.toList.length ≤ 1048576 := by
  have : s.data.toList.length = s.size := by simp
  omega
section
variable {H : Type} {enc : TypeId × Value → H} {w : World}
theorem open_node {fuel : Nat} {cs : Array Value} {x : DataW H × List MemPlace} (hz : cs.size = Tryd.prog.cellsOf 37) (h : DataW.trod enc Tryd.prog w 0 (fun _ => true) true fuel 37 (Value.agg cs).cells.toList = some x) (hb : Rows.uptoBulk x.1 ≤ 1048576) :
    ∃ a : Nd, Sm a ∧ cs = #[.int .i64 a.kind, .string (str a.fn), .int .i64 a.copy, .string (str a.name), .int .i64 a.n, .int .i64 a.cell] := by
  obtain ⟨k, _, hk⟩ := rdb_field (i := 0) fNode rfl (rdb_int uInt) h hb
  obtain ⟨f, hf1, hf⟩ := rdb_field (i := 1) fNode rfl (rdb_str uStr) h hb
  obtain ⟨c, _, hc⟩ := rdb_field (i := 2) fNode rfl (rdb_int uInt) h hb
  obtain ⟨n, hn1, hn⟩ := rdb_field (i := 3) fNode rfl (rdb_str uStr) h hb
  obtain ⟨m, _, hm⟩ := rdb_field (i := 4) fNode rfl (rdb_int uInt) h hb
  obtain ⟨e, _, he⟩ := rdb_field (i := 5) fNode rfl (rdb_int uInt) h hb
  refine ⟨⟨k, f.data.toList, c, n.data.toList, m, e⟩, ⟨sz hf1, sz hn1⟩, ?_⟩
  rw [cNode] at hz
  have ecs : (Value.agg cs).cells.toList = cs.toList := by simp [Value.cells]
  rw [ecs] at hk hf hc hn hm he
  apply Array.ext'
  apply List.ext_getElem?
  intro i
  simp only [← str_of]
  match i with
  | 0 => exact (hk 0 _ rfl).trans rfl
  | 1 => exact (hf 0 _ rfl).trans rfl
  | 2 => exact (hc 0 _ rfl).trans rfl
  | 3 => exact (hn 0 _ rfl).trans rfl
  | 4 => exact (hm 0 _ rfl).trans rfl
  | 5 => exact (he 0 _ rfl).trans rfl
  | i + 6 => rw [List.getElem?_eq_none (by simp; omega), List.getElem?_eq_none (by simp)]
end
section
variable {H : Hp} {K : Value → Hp → Prop} {Z : List PanicEntry → Hp → Prop}
open Go.Proofs.YthaejcmllibeoaaDoor.L14
-- lawReads: 11
-- lawMade: 10
-- lawOne: 9
-- lawBase: 12
theorem reads_okS {s : ByteArray} (h : s.size ≤ 1048576) (ht : Pw H) (k : ∀ H', Fr no H H' → K (.bool true) H') : CallF Tryd.prog 11 #[.string s] H K Z := by
  rw [str_of s]
  exact lawReads_ok (sz h) ht k
theorem made_okS {kind n : Int} {s : ByteArray} (h : s.size ≤ 1048576) (ht : Pw H) (k : ∀ H', Fr no H H' → K (.bool true) H') : CallF Tryd.prog 10 #[.int .i64 kind, .string s, .int .i64 n] H K Z := by
  rw [str_of s]
  exact lawMade_ok (sz h) ht k
theorem base_okS {s : ByteArray} (h : s.size ≤ 1048576) (ht : Pw H) (k : ∀ H', Fr no H H' → K (.bool true) H') : CallF Tryd.prog 12 #[.string s] H K Z := by
  rw [str_of s]
  exact lawBase_ok (sz h) ht k
theorem one_okS {a c : Nd} {s : ByteArray} (ha : Sm a) (hc : Sm c) (h : s.size ≤ 1048576) (ht : Pw H) (k : ∀ H', Fr no H H' → K (.bool true) H') : CallF Tryd.prog 9 #[ndA a, ndA c, .string s] H K Z := by
  rw [str_of s]
  exact lawOne_ok ha hc (sz h) ht k
end
end Go.Proofs.YthaejcmllibeoaaDoor.O14

