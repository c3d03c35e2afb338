/- Objects, functions, constraints, systems and summaries, as they lie in rows of rows; of no program. -/
import Derived.Test.YtigbdoicgdmliaaDoorV23
set_option linter.unusedVariables false
set_option linter.unusedSimpArgs false
namespace Go.V
attribute [local irreducible] Cvt ExtF CallF hrun
abbrev L8 := List UInt8
abbrev Mk := Int × L8
structure ObjD where
  name : L8
  kinds : L8
  marks : List Mk
  deriving DecidableEq
structure FnD where
  name : L8
  kinds : L8
  ret : L8
  deriving DecidableEq
structure ConD where
  op : Int
  a : L8
  b : L8
  k : Int
  tag : L8
  args : List L8
  deriving DecidableEq
structure SysD where
  objs : List ObjD
  fns : List FnD
  cons : List ConD
  deriving DecidableEq
structure SumD where
  name : L8
  gives : List L8
  wants : List L8
  keeps : List L8
  sys : SysD
  deriving DecidableEq
instance : Inhabited ObjD := ⟨⟨[], [], []⟩⟩
instance : Inhabited FnD := ⟨⟨[], [], []⟩⟩
instance : Inhabited ConD := ⟨⟨0, [], [], 0, [], []⟩⟩
def flM (x : Mk) : List Value := [.int .i64 x.1, .string (str x.2)]
theorem FlM : Fl flM 2 := ⟨fun _ => rfl, fun x v hv => by
  unfold flM at hv
  simp only [List.mem_cons, List.not_mem_nil, or_false] at hv
  rcases hv with rfl | rfl <;> rfl⟩
def flF (x : FnD) : List Value := [.string (str x.name), .string (str x.kinds), .string (str x.ret)]
theorem FlF : Fl flF 3 := ⟨fun _ => rfl, fun x v hv => by
  unfold flF at hv
  simp only [List.mem_cons, List.not_mem_nil, or_false] at hv
  rcases hv with rfl | rfl | rfl <;> rfl⟩
/-- an object's own cells -/
abbrev HO := L8 × L8 × Sl
def flHO (h : HO) : List Value := [.string (str h.1), .string (str h.2.1), .slice h.2.2.a h.2.2.n h.2.2.c]
theorem FlHO : Fl flHO 3 := ⟨fun _ => rfl, fun x v hv => by
  unfold flHO at hv
  simp only [List.mem_cons, List.not_mem_nil, or_false] at hv
  rcases hv with rfl | rfl | rfl <;> rfl⟩
/-- a constraint's own cells -/
abbrev HC := Int × L8 × L8 × Int × L8 × Sl
def flHC (h : HC) : List Value := [.int .i64 h.1, .string (str h.2.1), .string (str h.2.2.1), .int .i64 h.2.2.2.1, .string (str h.2.2.2.2.1), .slice h.2.2.2.2.2.a h.2.2.2.2.2.n h.2.2.2.2.2.c]
theorem FlHC : Fl flHC 6 := ⟨fun _ => rfl, fun x v hv => by
  unfold flHC at hv
  simp only [List.mem_cons, List.not_mem_nil, or_false] at hv
  rcases hv with rfl | rfl | rfl | rfl | rfl | rfl <;> rfl⟩
def HO.of (x : ObjD) (s : Sl) : HO := (x.name, x.kinds, s)
def HC.of (x : ConD) (s : Sl) : HC := (x.op, x.a, x.b, x.k, x.tag, s)
/-- what lies behind an object's cells -/
def InO (H : Hp) (h : HO) (x : ObjD) : Prop := h = HO.of x h.2.2 ∧ Rd flM 2 H h.2.2 x.marks
def InC (H : Hp) (h : HC) (x : ConD) : Prop := h = HC.of x h.2.2.2.2.2 ∧ Rd flL 1 H h.2.2.2.2.2 x.args
/-- rows whose elements have rows of their own -/
def RdX {η χ : Type} (fl : η → List Value) (sz : Nat) (In : Hp → η → χ → Prop) (H : Hp) (s : Sl) (xs : List χ) : Prop :=
  ∃ hs : List η, Rd fl sz H s hs ∧ hs.length = xs.length ∧ ∀ (i : Nat) h x, hs[i]? = some h → xs[i]? = some x → In H h x
abbrev RdO := RdX flHO 3 InO
abbrev RdC := RdX flHC 6 InC
theorem InO.more {H H' : Hp} {h : HO} {x : ObjD} (k : InO H h x) (hf : Fr no H H') : InO H' h x := ⟨k.1, k.2.more hf⟩
theorem InC.more {H H' : Hp} {h : HC} {x : ConD} (k : InC H h x) (hf : Fr no H H') : InC H' h x := ⟨k.1, k.2.more hf⟩
section
variable {η χ : Type} {fl : η → List Value} {sz : Nat} {In : Hp → η → χ → Prop} {H H' : Hp} {s : Sl} {xs : List χ}
theorem RdX.more (hin : ∀ {h x}, In H h x → Fr no H H' → In H' h x) (k : RdX fl sz In H s xs) (hf : Fr no H H') : RdX fl sz In H' s xs := by
  obtain ⟨hs, h1, h2, h3⟩ := k
  exact ⟨hs, h1.more hf, h2, fun i h x a b => hin (h3 i h x a b) hf⟩
theorem RdX.len (k : RdX fl sz In H s xs) : s.n = xs.length := by
  obtain ⟨hs, h1, h2, h3⟩ := k
  rw [h1.len, h2]
theorem RdX.nil : RdX fl sz In H ⟨none, 0, 0⟩ ([] : List χ) := ⟨[], Rd.nil, rfl, by simp⟩
/-- one of them: its cells, and what is behind them -/
theorem RdX.get (k : RdX fl sz In H s xs) {i : Nat} {x : χ} (hx : xs[i]? = some x) : ∃ h, In H h x ∧ ∀ {hs : Fl fl sz} {hz : 0 < sz} {K : Addr → Prop}, (∀ ad, (∀ k v, (fl h)[k]? = some v → hcell H (ad.add k) = some v) → hcell H ad = (fl h)[0]? → K ad) → IxA s.a s.n (i : Int) sz K := by
  obtain ⟨hs, h1, h2, h3⟩ := k
  have hi := (List.getElem?_eq_some_iff.1 hx).1
  have hh : hs[i]? = some (hs[i]'(by omega)) := List.getElem?_eq_getElem _
  refine ⟨_, h3 i _ x hh hx, fun {hF hz K} kk => h1.ix hz hF (by omega) (by simp [hh]) kk⟩
theorem RdX.part (hf : Fl fl sz) (k : RdX fl sz In H s xs) {lo hi : Nat} (h1 : lo ≤ hi) (h2 : hi ≤ s.n) : RdX fl sz In H (cut s.a s.c lo hi sz) ((xs.drop lo).take (hi - lo)) := by
  obtain ⟨hs, a1, a2, a3⟩ := k
  refine ⟨_, a1.part hf h1 h2, by simp [a2], fun i h x hh hx => ?_⟩
  rw [List.getElem?_take] at hh hx
  split at hh
  · rename_i hlt
    rw [if_pos hlt] at hx
    rw [List.getElem?_drop] at hh hx
    exact a3 _ _ _ hh hx
  · cases hh
theorem RdX.le (k : RdX fl sz In H s xs) : s.n ≤ s.c := by
  obtain ⟨hs, h1, _⟩ := k
  exact h1.le
end
theorem RdO.more {H H' : Hp} {s : Sl} {xs : List ObjD} (k : RdO H s xs) (hf : Fr no H H') : RdO H' s xs := RdX.more (fun h hf => h.more hf) k hf
theorem RdC.more {H H' : Hp} {s : Sl} {xs : List ConD} (k : RdC H s xs) (hf : Fr no H H') : RdC H' s xs := RdX.more (fun h hf => h.more hf) k hf
/-- a system's three slices -/
structure RdSys (H : Hp) (s1 s2 s3 : Sl) (x : SysD) : Prop where
  o : RdO H s1 x.objs
  f : Rd flF 3 H s2 x.fns
  c : RdC H s3 x.cons
theorem RdSys.more {H H' : Hp} {s1 s2 s3 : Sl} {x : SysD} (k : RdSys H s1 s2 s3 x) (hf : Fr no H H') : RdSys H' s1 s2 s3 x := ⟨k.o.more hf, k.f.more hf, k.c.more hf⟩
/-- a summary's slices -/
structure RdSum (H : Hp) (s1 s2 s3 s4 s5 s6 : Sl) (x : SumD) : Prop where
  g : Rd flL 1 H s1 x.gives
  w : Rd flL 1 H s2 x.wants
  k : Rd flL 1 H s3 x.keeps
  s : RdSys H s4 s5 s6 x.sys
theorem RdSum.more {H H' : Hp} {s1 s2 s3 s4 s5 s6 : Sl} {x : SumD} (k : RdSum H s1 s2 s3 s4 s5 s6 x) (hf : Fr no H H') : RdSum H' s1 s2 s3 s4 s5 s6 x := ⟨k.g.more hf, k.w.more hf, k.k.more hf, k.s.more hf⟩
/-! ### many rows that are only read -/
section
variable {τ : Type} {fl : τ → List Value} {sz : Nat}
def rdsI (fl : τ → List Value) (sz : Nat) (ps : List (Sl × List τ)) : It where
  ok H := ∀ p ∈ ps, (rdI fl sz p.1 p.2).ok H
  fp i := ∃ p ∈ ps, rown p.1 i
  lt := by
    rintro H i h ⟨p, hp, hi⟩
    exact (rdI fl sz p.1 p.2).lt (h p hp) hi
  st := by
    intro H H' h hs p hp
    exact (rdI fl sz p.1 p.2).st (h p hp) fun i hi => hs i ⟨p, hp, hi⟩
variable {H0 H H' : Hp} {S : Nat → Prop} {L R : List It} {E : TypeId} {s : Sl} {l : List τ} {ps : List (Sl × List τ)}
theorem Sym.nilrds (h : Sym H0 S H L) (fl : τ → List Value) (sz : Nat) : Sym H0 S H (rdsI fl sz [] :: L) :=
  h.new (Fr.refl _ _) (fun p hp => by cases hp) fun i hi => by obtain ⟨p, hp, _⟩ := hi; cases hp
theorem RowN.rdi (hf : Fl fl sz) (hsz : 0 < sz) (h : RowN fl E sz H s l) : (rdI fl sz s l).ok H := by
  refine ⟨h.rd hf hsz, ?_⟩
  rintro i ⟨ad, ha, rfl⟩
  rcases h.row.2 with h' | ⟨g, cs, fr, ha', hg, _⟩
  · rw [h'.1] at ha; cases ha
  · rw [ha'] at ha
    cases ha
    exact (Array.getElem?_eq_some_iff.1 hg).1
theorem rown_own {i : Nat} (h : RowN fl E sz H s l) (hi : rown s i) : own s i := by
  obtain ⟨ad, ha, rfl⟩ := hi
  rcases h.row.2 with h' | ⟨g, cs, fr, ha', hg, _⟩
  · rw [h'.1] at ha; cases ha
  · rw [ha'] at ha
    cases ha
    exact ⟨0, ha'⟩
/-- a row of one's own goes among those that are only read -/
theorem Sym.inrds (hf : Fl fl sz) (hsz : 0 < sz) (h : Sym H0 S H (arr fl E sz s l :: rdsI fl sz ps :: R)) : Sym H0 S H (rdsI fl sz ((s, l) :: ps) :: R) := by
  have h0 : RowN fl E sz H s l := h.get (k := 0) rfl
  have h1 : (rdsI fl sz ps).ok H := h.get (k := 1) rfl
  have hs := h.sep
  rw [List.pairwise_cons, List.pairwise_cons] at hs
  have hfp : ∀ i, (rdsI fl sz ((s, l) :: ps)).fp i → own s i ∨ (rdsI fl sz ps).fp i := by
    rintro i ⟨p, hp, hi⟩
    rcases List.mem_cons.1 hp with rfl | hp
    · exact .inl (rown_own h0 hi)
    · exact .inr ⟨p, hp, hi⟩
  refine ⟨h.fr, ?_, ?_, ?_⟩
  · intro a ha
    rcases List.mem_cons.1 ha with rfl | ha
    · intro p hp
      rcases List.mem_cons.1 hp with rfl | hp
      · exact h0.rdi hf hsz
      · exact h1 p hp
    · exact h.ok a (List.mem_cons_of_mem _ (List.mem_cons_of_mem _ ha))
  · rw [List.pairwise_cons]
    refine ⟨?_, hs.2.2⟩
    intro a ha i hi hi2
    rcases hfp i hi with hi | hi
    · exact hs.1 a (List.mem_cons_of_mem _ ha) i hi hi2
    · exact hs.2.1 a ha i hi hi2
  · intro a ha i hi
    rcases List.mem_cons.1 ha with rfl | ha
    · rcases hfp i hi with hi | hi
      · exact h.fp _ List.mem_cons_self i hi
      · exact h.fp _ (List.mem_cons_of_mem _ List.mem_cons_self) i hi
    · exact h.fp a (List.mem_cons_of_mem _ (List.mem_cons_of_mem _ ha)) i hi
end
/-- one result of a text being in a rising list -/
theorem rising_same {a b : List L8} (ha : Rising ltL a) (hb : Rising ltL b) (h : ∀ z, z ∈ a ↔ z ∈ b) : a = b := by
  induction a generalizing b with
  | nil =>
    cases b with
    | nil => rfl
    | cons y b => exact absurd ((h y).2 List.mem_cons_self) (by simp)
  | cons x a ih =>
    cases b with
    | nil => exact absurd ((h x).1 List.mem_cons_self) (by simp)
    | cons y b =>
      unfold Rising at ha hb
      rw [List.pairwise_cons] at ha hb
      have hxy : x = y := by
        rcases List.mem_cons.1 ((h x).1 List.mem_cons_self) with e | hx
        · exact e
        · rcases List.mem_cons.1 ((h y).2 List.mem_cons_self) with e | hy
          · exact e.symm
          · have h1 := hb.1 x hx
            have h2 := ha.1 y hy
            have h3 := linL.tr _ _ _ h1 h2
            rw [linL.irr] at h3
            cases h3
      subst hxy
      congr 1
      refine ih ha.2 hb.2 fun z => ?_
      constructor
      · intro hz
        rcases List.mem_cons.1 ((h z).1 (List.mem_cons_of_mem _ hz)) with e | hz'
        · subst e
          have := ha.1 z hz
          rw [linL.irr] at this
          cases this
        · exact hz'
      · intro hz
        rcases List.mem_cons.1 ((h z).2 (List.mem_cons_of_mem _ hz)) with e | hz'
        · subst e
          have := hb.1 z hz
          rw [linL.irr] at this
          cases this
        · exact hz'
end Go.V

