/- Rising lists, and slices.Clone; of no program. -/
import Derived.Test.YtigbdoicgdmliaaDoorV14
set_option linter.unusedVariables false
set_option linter.unusedSimpArgs false
namespace Go.V
attribute [local irreducible] Cvt ExtF CallF hrun
section
variable {τ : Type} {lt : τ → τ → Bool}
/-- the things as they rise -/
def riseL (ts : List τ) (os : List Nat) : List τ := os.filterMap fun k => ts[k]?
theorem Tbl.rise_len {ts : List τ} {os : List Nat} (h : Tbl lt ts os) : ∀ {j : Nat}, j ≤ os.length → (riseL ts (os.take j)).length = j := by
  have key : ∀ l : List Nat, (∀ k ∈ l, k < ts.length) → (riseL ts l).length = l.length := by
    intro l
    induction l with
    | nil => intro _; rfl
    | cons k l ih =>
      intro hl
      have hk : ts[k]? = some (ts[k]'(hl k List.mem_cons_self)) := List.getElem?_eq_getElem _
      unfold riseL
      rw [List.filterMap_cons, hk]
      simp only [List.length_cons]
      exact congrArg (· + 1) (ih fun k hk => hl k (List.mem_cons_of_mem _ hk))
  intro j hj
  rw [key, List.length_take, Nat.min_eq_left hj]
  intro k hk
  exact List.mem_range.1 (h.perm.mem_iff.1 (List.mem_of_mem_take hk))
theorem rise_succ {ts : List τ} {os : List Nat} {j k : Nat} {x : τ} (h1 : os[j]? = some k) (h2 : ts[k]? = some x) : riseL ts (os.take (j + 1)) = riseL ts (os.take j) ++ [x] := by
  obtain ⟨hj, rfl⟩ := List.getElem?_eq_some_iff.1 h1
  unfold riseL
  rw [List.take_succ_eq_append_getElem hj, List.filterMap_append]
  simp [h2]
theorem Tbl.rise_mem {ts : List τ} {os : List Nat} (h : Tbl lt ts os) (x : τ) : x ∈ riseL ts os ↔ x ∈ ts := by
  unfold riseL
  rw [List.mem_filterMap]
  constructor
  · rintro ⟨k, _, hk⟩
    exact List.mem_of_getElem? hk
  · intro hx
    obtain ⟨k, hk⟩ := List.getElem?_of_mem hx
    obtain ⟨j, hj⟩ := h.at (List.getElem?_eq_some_iff.1 hk).1
    exact ⟨k, List.mem_of_getElem? hj, hk⟩
/-- rising, each once -/
def Rising (lt : τ → τ → Bool) (l : List τ) : Prop := l.Pairwise fun x y => lt x y = true
theorem Tbl.rising {ts : List τ} {os : List Nat} (h : Tbl lt ts os) : Rising lt (riseL ts os) := by
  have hinc := h.inc
  unfold Rising riseL
  clear h
  induction os with
  | nil => exact List.Pairwise.nil
  | cons k os ih =>
    rw [List.pairwise_cons] at hinc
    rw [List.filterMap_cons]
    cases hk : ts[k]? with
    | none => exact ih hinc.2
    | some x =>
      simp only
      rw [List.pairwise_cons]
      refine ⟨?_, ih hinc.2⟩
      intro y hy
      rw [List.mem_filterMap] at hy
      obtain ⟨k', hk', hy'⟩ := hy
      obtain ⟨u, v, hu, hv, huv⟩ := hinc.1 k' hk'
      rw [hk] at hu
      rw [hy'] at hv
      cases hu
      cases hv
      exact huv
/-- two rising lists of the same things are the same -/
theorem rising_eq (hl : Lin lt) : ∀ {l m : List τ}, Rising lt l → Rising lt m → (∀ x, x ∈ l ↔ x ∈ m) → l = m
  | [], [], _, _, _ => rfl
  | [], y :: m, _, _, h => by have := (h y).2 List.mem_cons_self; cases this
  | x :: l, [], _, _, h => by have := (h x).1 List.mem_cons_self; cases this
  | x :: l, y :: m, h1, h2, h => by
    unfold Rising at h1 h2
    rw [List.pairwise_cons] at h1 h2
    have hxy : x = y := by
      have a := (h x).1 List.mem_cons_self
      have b := (h y).2 List.mem_cons_self
      rw [List.mem_cons] at a b
      rcases a with a | a
      · exact a
      · rcases b with b | b
        · exact b.symm
        · have c1 := h2.1 x a
          have c2 := h1.1 y b
          have := hl.tr _ _ _ c1 c2
          rw [hl.irr] at this
          cases this
    subst hxy
    congr 1
    refine rising_eq hl h1.2 h2.2 fun z => ?_
    have hz := h z
    rw [List.mem_cons, List.mem_cons] at hz
    constructor
    · intro hz1
      rcases hz.1 (.inr hz1) with rfl | h'
      · have := h1.1 z hz1
        rw [hl.irr] at this
        cases this
      · exact h'
    · intro hz1
      rcases hz.2 (.inr hz1) with rfl | h'
      · have := h2.1 z hz1
        rw [hl.irr] at this
        cases this
      · exact h'
end
/-- a part of a row, to be appended -/
theorem Src.part {H : Hp} {E : TypeId} {s : Sl} {xs : List Value} (h : Row H E 1 s xs) {lo hi : Nat} (h1 : lo ≤ hi) (h2 : hi ≤ s.n) : Src H 1 (.slice (cut s.a s.c lo hi 1).a (cut s.a s.c lo hi 1).n (cut s.a s.c lo hi 1).c) (hi - lo) ((xs.drop lo).take (hi - lo)) := by
  have hl := h.1
  rw [Nat.mul_one] at hl
  have hlen : ((xs.drop lo).take (hi - lo)).length = hi - lo := by rw [List.length_take, List.length_drop]; omega
  refine ⟨by rw [hlen, Nat.mul_one], ?_⟩
  unfold cut
  simp only
  rcases h.2 with ⟨ha, hn, hc⟩ | ⟨g, cs, fr, ha, hg, r1, r2, r3, r4⟩
  · rw [ha]
    simp only [Option.map_none, ite_self]
    exact ⟨trivial, by omega⟩
  · rw [ha]
    have key : ∀ o, (o = lo ∨ hi - lo = 0) → AtL H ⟨g, o, none⟩ 0 ((xs.drop lo).take (hi - lo)) := by
      intro o ho
      refine atL_of hg _ 0 ?_
      intro j hj
      rw [hlen] at hj
      rcases ho with rfl | ho
      · rw [List.getElem?_take, if_pos hj, List.getElem?_drop, ← r3, List.getElem?_take, Nat.mul_one, if_pos (by omega)]
        rfl
      · omega
    by_cases hcl : s.c = lo
    · rw [if_pos hcl]
      exact ⟨rfl, key 0 (.inr (by omega))⟩
    · rw [if_neg hcl]
      simp only [Option.map_some, add_mk, Nat.zero_add, Nat.mul_one]
      exact ⟨trivial, key lo (.inl rfl)⟩
/-- slices.Clone, as it is printed -/
def CloneV (P : Program) (T E : TypeId) (H : Hp) (s : Sl) (K : Value → Hp → Prop) (Z : List PanicEntry → Hp → Prop) : Prop :=
  (((Option.isNone s.a) = true → K (.slice none 0 0) H) ∧ ((Option.isNone s.a) = false → ∀ b H1, Newb H (.cells #[] E) b H1 → 
    App P #[T, T] T H1 [.slice (some ⟨b, 0, none⟩) 0 0, .slice s.a s.n s.c] fun ap H2 => (K (.slice ap.a ap.n ap.c) H2)))
theorem clone_ok {P : Program} {T E : TypeId} {inf : TypeInfo} {z : Value} (hu : P.underlying T = some (.slice E)) (hi : P.info? E = some inf) (hz : inf.zero = some z) (hzs : z.cells.size = inf.size) (hb : 0 < inf.bytes)
    {H : Hp} {s : Sl} {xs : List Value} {K : Value → Hp → Prop} {Z : List PanicEntry → Hp → Prop} (hr : Row H E inf.size s xs) (h1 : ∀ v ∈ xs, v.oneCell = true) (hl : s.n * inf.bytes ≤ 140737488355328)
    (k : ∀ s' H', Row H' E inf.size s' xs → s'.n = s.n → Fr no H H' → (∀ i, own s' i → H.size ≤ i) → Nf H' s' → K (.slice s'.a s'.n s'.c) H') : CloneV P T E H s K Z := by
  unfold CloneV
  refine ⟨fun hn => ?_, fun hs => ?_⟩
  · have hn' : s.a = none := by simpa using hn
    rcases hr.2 with ⟨_, h2, h3⟩ | ⟨g, cs, fr, ha, _⟩
    · have hx : xs = [] := List.eq_nil_of_length_eq_zero (by rw [hr.1, h2]; simp)
      subst hx
      exact k ⟨none, 0, 0⟩ H (Row.nil _ _ _) h2.symm (Fr.refl _ _) (by rintro i ⟨o, h⟩; cases h) (by intro g o e; cases e)
    · rw [hn'] at ha; cases ha
  · intro b A hn
    have rA : Row A E inf.size ⟨some ⟨b, 0, none⟩, 0, 0⟩ [] := by
      refine ⟨by simp, .inr ⟨b, [], (0, 0), rfl, hn.get, Nat.le_refl _, by simp, by simp, Nat.zero_le _⟩⟩
    have nA : Nf A ⟨some ⟨b, 0, none⟩, 0, 0⟩ := by
      intro g o e
      simp only [Option.some.injEq, Addr.mk.injEq] at e
      exact ⟨_, _, by rw [← e.1]; exact hn.get⟩
    refine app_row2 (s := ⟨some ⟨b, 0, none⟩, 0, 0⟩) hu (by intro k; rw [hu]; simp) ⟨_, hu⟩ hi hz hzs hb rA (Src.row (hr.keep hn.fr fun _ _ h => h)) h1 (by show (0 + s.n) * inf.bytes ≤ _; rw [Nat.zero_add]; exact hl) ?_
    intro s' B rB nB fB oB nfB
    refine k s' B (by simpa using rB) (by rw [nB]; exact Nat.zero_add _) ?_ ?_ (nfB nA)
    · refine hn.fr.step fB ?_
      rintro i hi ⟨o, ho⟩
      simp only [Option.some.injEq, Addr.mk.injEq] at ho
      have := hn.eq
      omega
    · intro i hi
      have := hn.eq
      have := hn.size
      rcases oB i hi with ⟨o, ho⟩ | h
      · simp only [Option.some.injEq, Addr.mk.injEq] at ho
        omega
      · omega
end Go.V

