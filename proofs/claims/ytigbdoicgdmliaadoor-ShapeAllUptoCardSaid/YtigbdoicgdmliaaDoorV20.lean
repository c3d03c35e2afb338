/- Texts as lists of bytes, and what the library's contracts say over heaps; of no program. -/
import Derived.Test.YtigbdoicgdmliaaDoorV19
import Derived.Lib.LaidTab
set_option linter.unusedVariables false
set_option linter.unusedSimpArgs false
namespace Go.V
attribute [local irreducible] Cvt ExtF CallF hrun
/-- the text of these bytes -/
def str (l : List UInt8) : ByteArray := ⟨l.toArray⟩
theorem str_of (s : ByteArray) : s = str s.data.toList := ByteArray.ext (by simp [str])
@[simp] theorem str_data (l : List UInt8) : (str l).data.toList = l := by simp [str]
theorem str_size (l : List UInt8) : (str l).size = l.length := by
  show l.toArray.size = _
  simp
theorem str_inj {a b : List UInt8} (h : str a = str b) : a = b := by
  have := congrArg (fun s : ByteArray => s.data.toList) h
  simpa using this
theorem str_app (a b : List UInt8) : str a ++ str b = str (a ++ b) := by
  apply ByteArray.ext
  show (str a ++ str b).data = _
  rw [ByteArray.data_append]
  simp [str]
theorem beq_str (a b : List UInt8) : beqS (str a) (str b) = decide (a = b) := by
  by_cases h : a = b
  · subst h
    rw [decide_eq_true rfl]
    exact beqS_iff.2 rfl
  · rw [decide_eq_false h]
    cases hb : beqS (str a) (str b) with
    | false => rfl
    | true => exact absurd (str_inj (beqS_iff.1 hb)) h
theorem lt_str (a b : List UInt8) : ltS (str a) (str b) = Op.bytesLess a b := by
  unfold ltS
  rw [ByteArray.toList_eq, ByteArray.toList_eq, str_data, str_data]
theorem str_nil : (⟨#[]⟩ : ByteArray) = str [] := rfl
theorem bt_str {l : List UInt8} {i : Nat} {b : UInt8} (h : l[i]? = some b) : bt (str l) (i : Int) = (b.toNat : Int) := by
  unfold bt
  rw [str_data, Int.toNat_natCast, List.getD_eq_getElem?_getD, h]
  rfl
theorem IxS.mk {l : List UInt8} {i : Nat} {b : UInt8} {K : Int → Prop} (h : l[i]? = some b) (k : K (b.toNat : Int)) : IxS (str l) (i : Int) K := by
  have hi := (List.getElem?_eq_some_iff.1 h).1
  refine ⟨⟨by omega, by rw [str_size]; omega⟩, ?_⟩
  rw [bt_str h]
  exact k
theorem ext_str {l : List UInt8} {a b : Nat} : (str l).extract a b = str ((l.drop a).take (b - a)) := by
  apply ByteArray.ext
  rw [ByteArray.data_extract]
  apply Array.ext'
  rw [Array.toList_extract]
  simp [str, List.extract_eq_take_drop]
theorem SlS.mk {l : List UInt8} {lo hi : Nat} {K : ByteArray → Prop} (h1 : lo ≤ hi) (h2 : hi ≤ l.length) (k : K (str ((l.drop lo).take (hi - lo)))) : SlS (str l) (lo : Int) (hi : Int) K := by
  refine ⟨⟨by omega, by omega, by rw [str_size]; omega⟩, ?_⟩
  rw [Int.toNat_natCast, Int.toNat_natCast, ext_str]
  exact k
theorem SlS.to {l : List UInt8} {hi : Nat} {K : ByteArray → Prop} (h2 : hi ≤ l.length) (k : K (str (l.take hi))) : SlS (str l) 0 (hi : Int) K := by
  have := @SlS.mk l 0 hi K (by omega) h2 (by simpa using k)
  exact this
theorem SlS.from {l : List UInt8} {lo : Nat} {K : ByteArray → Prop} (h2 : lo ≤ l.length) (k : K (str (l.drop lo))) : SlS (str l) (lo : Int) ((str l).size : Int) K := by
  rw [str_size]
  refine SlS.mk h2 (Nat.le_refl _) ?_
  have : (l.drop lo).take (l.length - lo) = l.drop lo := List.take_of_length_le (by simp)
  rw [this]
  exact k
/-- a table among the package's variables -/
def TabH (P : Program) (H : Hp) (name : String) (k : IntKind) (zs : List Int) : Prop := ∀ w : World, w.heap = H → Lib.TabIs P w name k zs
theorem TabH.of {P : Program} {w : World} {name : String} {k : IntKind} {zs : List Int} (h : Lib.TabIs P w name k zs) : TabH P w.heap name k zs := by
  intro w' hw
  unfold Lib.TabIs World.var? at h ⊢
  rw [hw]
  exact h
theorem TabH.more {P : Program} {H H' : Hp} {name : String} {k : IntKind} {zs : List Int} (h : TabH P H name k zs) (hf : Fr no H H') : TabH P H' name k zs := by
  intro w hw
  have h0 : ∃ w0 : World, w0.heap = H := ⟨{ w with heap := H }, rfl⟩
  obtain ⟨w0, hw0⟩ := h0
  have h1 := h w0 hw0
  unfold Lib.TabIs World.var? at h1 ⊢
  cases hg : P.globalNamed name with
  | none => rw [hg] at h1; cases h1
  | some g =>
    rw [hg] at h1
    simp only [Option.bind_some] at h1 ⊢
    rw [hw0] at h1
    rw [hw]
    cases hb : H[g]? with
    | none => rw [hb] at h1; cases h1
    | some o =>
      rw [hb] at h1
      rw [hf.at hb fun h => h]
      exact h1
/-- a contract of the library's that only lays new blocks -/
theorem callF_below {P : Program} {f : FuncId} {args : Array Value} {H : Hp} {v : Value} {K : Value → Hp → Prop} {Z : List PanicEntry → Hp → Prop} (h : ∀ w : World, w.heap = H → Calls P f args w fun e w' => e = .returned v ∧ Go.RowKit.Below w.heap.size w w')
    (k : ∀ H', Fr no H H' → K v H') : CallF P f args H K Z := by
  unfold CallF
  intro w hw
  refine (h w hw).mono ?_
  rintro e w' ⟨rfl, hb⟩
  refine ⟨⟨hb.os, hb.tape, hb.output⟩, ?_⟩
  refine k _ ⟨by rw [← hw]; exact hb.size, fun i hi _ => ?_⟩
  rw [← hw] at hi ⊢
  exact hb.block i hi
theorem callF_same {P : Program} {f : FuncId} {args : Array Value} {H : Hp} {v : Value} {K : Value → Hp → Prop} {Z : List PanicEntry → Hp → Prop} (h : ∀ w : World, w.heap = H → Calls P f args w fun e w' => e = .returned v ∧ w' = w)
    (k : K v H) : CallF P f args H K Z := by
  unfold CallF
  intro w hw
  refine (h w hw).mono ?_
  rintro e w' ⟨rfl, rfl⟩
  exact ⟨Lk.refl _, by rw [hw]; exact k⟩
end Go.V

