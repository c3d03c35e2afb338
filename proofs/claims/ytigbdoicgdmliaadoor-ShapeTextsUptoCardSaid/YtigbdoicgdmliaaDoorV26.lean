/- Types and structs as they lie in memory. -/
import Derived.Test.YtigbdoicgdmliaaDoorV24
import Derived.Test.YtigbdoicgdmliaaDoorP10B
set_option linter.unusedVariables false
set_option linter.unusedSimpArgs false
namespace Go.Proofs.YtigbdoicgdmliaaDoor.P10
open Go Go.V
attribute [local irreducible] Cvt ExtF CallF hrun
/-- a type's own cells -/
abbrev HT := Int × L8 × Int × Sl
def flHT (h : HT) : List Value := [.int .i64 h.1, .string (str h.2.1), .int .i64 h.2.2.1, .slice h.2.2.2.a h.2.2.2.n h.2.2.2.c]
theorem FlHT : Fl flHT 4 := ⟨fun _ => rfl, fun x v hv => by
  unfold flHT at hv
  simp only [List.mem_cons, List.not_mem_nil, or_false] at hv
  rcases hv with rfl | rfl | rfl | rfl <;> rfl⟩
def tyV (h : HT) : Value := .agg #[.int .i64 h.1, .string (str h.2.1), .int .i64 h.2.2.1, .slice h.2.2.2.a h.2.2.2.n h.2.2.2.c]
inductive InT (H : Hp) : HT → TyD → Prop
  | mk {k : Int} {nm : L8} {n : Int} {s : Sl} {hs : List HT} {kids : List TyD} (r : Rd flHT 4 H s hs) (l : hs.length = kids.length) (e : ∀ (i : Nat) h t, hs[i]? = some h → kids[i]? = some t → InT H h t) : InT H (k, nm, n, s) (.mk k nm n kids)
theorem InT.more {H H' : Hp} {h : HT} {t : TyD} (i : InT H h t) (hf : Fr no H H') : InT H' h t := by
  induction i with
  | mk r l e ih => exact .mk (r.more hf) l fun i h t a b => ih i h t a b
/-- a field's cells -/
abbrev HF := L8 × HT
def flHF (h : HF) : List Value := .string (str h.1) :: flHT h.2
theorem FlHF : Fl flHF 5 := ⟨fun _ => rfl, fun x v hv => by
  rcases List.mem_cons.1 hv with rfl | hv
  · rfl
  · exact FlHT.one _ v hv⟩
def InF (H : Hp) (h : HF) (x : Fld) : Prop := h.1 = x.1 ∧ InT H h.2 x.2
theorem InF.more {H H' : Hp} {h : HF} {x : Fld} (k : InF H h x) (hf : Fr no H H') : InF H' h x := ⟨k.1, k.2.more hf⟩
abbrev RdF := RdX flHF 5 InF
theorem RdF.more {H H' : Hp} {s : Sl} {xs : List Fld} (k : RdF H s xs) (hf : Fr no H H') : RdF H' s xs := RdX.more (fun h hf => h.more hf) k hf
abbrev HS := L8 × Sl
def flHS (h : HS) : List Value := [.string (str h.1), .slice h.2.a h.2.n h.2.c]
theorem FlHS : Fl flHS 2 := ⟨fun _ => rfl, fun x v hv => by
  unfold flHS at hv
  simp only [List.mem_cons, List.not_mem_nil, or_false] at hv
  rcases hv with rfl | rfl <;> rfl⟩
def InS (H : Hp) (h : HS) (x : StD) : Prop := h.1 = x.name ∧ RdF H h.2 x.fields
theorem InS.more {H H' : Hp} {h : HS} {x : StD} (k : InS H h x) (hf : Fr no H H') : InS H' h x := ⟨k.1, RdF.more k.2 hf⟩
abbrev RdS := RdX flHS 2 InS
theorem RdS.more {H H' : Hp} {s : Sl} {xs : List StD} (k : RdS H s xs) (hf : Fr no H H') : RdS H' s xs := RdX.more (fun h hf => h.more hf) k hf
theorem lf {H X : Hp} {ad : Addr} {v : Value} (f : Fr no H X) (e : hcell H ad = some v) : hcell X ad = some v := f.cell e fun h => h
theorem one2 {x y : Value} (h1 : x.oneCell = true) (h2 : y.oneCell = true) : ∀ v ∈ [x, y], v.oneCell = true := by
  intro v hv
  simp only [List.mem_cons, List.not_mem_nil, or_false] at hv
  rcases hv with rfl | rfl
  · exact h1
  · exact h2
/-- whatever a word can say -/
def I64 (n : Int) : Prop := -9223372036854775808 ≤ n ∧ n ≤ 9223372036854775807
inductive OkT : TyD → Prop
  | mk {k : Int} {nm : L8} {n : Int} {kids : List TyD} (hn : I64 n) (hm : nm.length ≤ 1048576) (hk : kids.length ≤ 1048576) (e : ∀ t ∈ kids, OkT t) : OkT (.mk k nm n kids)
structure OkSt (s : StD) : Prop where
  nm : s.name.length ≤ 1048576
  len : s.fields.length ≤ 1048576
  f : ∀ x ∈ s.fields, x.1.length ≤ 1048576 ∧ OkT x.2
def OkL (l : List StD) : Prop := l.length ≤ 1048576 ∧ ∀ s ∈ l, OkSt s
section
variable {H : Hp} {s : Sl} {K : Addr → Prop}
theorem InT.kid {h : HT} {k : Int} {nm : L8} {n : Int} {kids : List TyD} {i : Nat} {t : TyD} (hi : InT H h (.mk k nm n kids)) (ht : kids[i]? = some t)
    (kk : ∀ ad g, InT H g t → (∀ j v, (flHT g)[j]? = some v → hcell H (ad.add j) = some v) → hcell H ad = (flHT g)[0]? → K ad) : IxA h.2.2.2.a h.2.2.2.n (i : Int) 4 K := by
  cases hi with
  | mk r l e =>
    rename_i s hs
    have hlt := (List.getElem?_eq_some_iff.1 ht).1
    have hh : hs[i]? = some (hs[i]'(by omega)) := List.getElem?_eq_getElem _
    exact Rd.ix (by decide) FlHT r (by omega) (by simp [hh]) fun ad h1 h2 => kk ad _ (e i _ _ hh ht) h1 h2
theorem InT.len {h : HT} {k : Int} {nm : L8} {n : Int} {kids : List TyD} (hi : InT H h (.mk k nm n kids)) : h.2.2.2.n = kids.length := by
  cases hi with
  | mk r l e => rw [← l]; exact r.len
theorem RdX.at {η χ : Type} {fl : η → List Value} {sz : Nat} {In : Hp → η → χ → Prop} {xs : List χ} (hF : Fl fl sz) (hz : 0 < sz) (k : RdX fl sz In H s xs) {i : Nat} {x : χ} (hx : xs[i]? = some x)
    (kk : ∀ ad h, In H h x → (∀ j v, (fl h)[j]? = some v → hcell H (ad.add j) = some v) → hcell H ad = (fl h)[0]? → K ad) : IxA s.a s.n (i : Int) sz K := by
  obtain ⟨h, hi, hk⟩ := k.get hx
  exact hk (hs := hF) (hz := hz) fun ad h1 h2 => kk ad h hi h1 h2
end
end Go.Proofs.YtigbdoicgdmliaaDoor.P10

