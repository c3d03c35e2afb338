import Derived.Test.YtlljjdbenocgnaaGreatDoorZ03
import Derived.Lib.LaidTab
section
/- Rising lists, and slices.Clone; of no program. -/
set_option linter.unusedVariables false
set_option linter.unusedSimpArgs false
namespace Go.V
attribute [local irreducible] Cvt ExtF CallF hrun
section
variable {τ : Type} {lt : τ → τ → Bool}
/-- the things as they rise -/
def riseL (ts : List τ) (os : List Nat) : List τ := os.filterMap fun k => ts[k]?
theorem Tbl.rise_len {ts : List τ} {os : List Nat} (h : Tbl lt ts os) : ∀ {j : Nat}, j ≤ os.length → (riseL ts (os.take j)).length = j := by
  have key : ∀ l : List Nat, (∀ k ∈ l, k < ts.length) → (riseL ts l).length = l.length := by
    intro l
    induction l with
    | nil => intro _; rfl
    | cons k l ih =>
      intro hl
      have hk : ts[k]? = some (ts[k]'(hl k List.mem_cons_self)) := List.getElem?_eq_getElem _
      unfold riseL
      rw [List.filterMap_cons, hk]
      simp only [List.length_cons]
      exact congrArg (· + 1) (ih fun k hk => hl k (List.mem_cons_of_mem _ hk))
  intro j hj
  rw [key, List.length_take, Nat.min_eq_left hj]
  intro k hk
  exact List.mem_range.1 (h.perm.mem_iff.1 (List.mem_of_mem_take hk))
theorem rise_succ {ts : List τ} {os : List Nat} {j k : Nat} {x : τ} (h1 : os[j]? = some k) (h2 : ts[k]? = some x) : riseL ts (os.take (j + 1)) = riseL ts (os.take j) ++ [x] := by
  obtain ⟨hj, rfl⟩ := List.getElem?_eq_some_iff.1 h1
  unfold riseL
  rw [List.take_succ_eq_append_getElem hj, List.filterMap_append]
  simp [h2]
theorem Tbl.rise_mem {ts : List τ} {os : List Nat} (h : Tbl lt ts os) (x : τ) : x ∈ riseL ts os ↔ x ∈ ts := by
  unfold riseL
  rw [List.mem_filterMap]
  constructor
  · rintro ⟨k, _, hk⟩
    exact List.mem_of_getElem? hk
  · intro hx
    obtain ⟨k, hk⟩ := List.getElem?_of_mem hx
    obtain ⟨j, hj⟩ := h.at (List.getElem?_eq_some_iff.1 hk).1
    exact ⟨k, List.mem_of_getElem? hj, hk⟩
/-- rising, each once -/
def Rising (lt : τ → τ → Bool) (l : List τ) : Prop := l.Pairwise fun x y => lt x y = true
theorem Tbl.rising {ts : List τ} {os : List Nat} (h : Tbl lt ts os) : Rising lt (riseL ts os) := by
  have hinc := h.inc
  unfold Rising riseL
  clear h
  induction os with
  | nil => exact List.Pairwise.nil
  | cons k os ih =>
    rw [List.pairwise_cons] at hinc
    rw [List.filterMap_cons]
    cases hk : ts[k]? with
    | none => exact ih hinc.2
    | some x =>
      simp only
      rw [List.pairwise_cons]
      refine ⟨?_, ih hinc.2⟩
      intro y hy
      rw [List.mem_filterMap] at hy
      obtain ⟨k', hk', hy'⟩ := hy
      obtain ⟨u, v, hu, hv, huv⟩ := hinc.1 k' hk'
      rw [hk] at hu
      rw [hy'] at hv
      cases hu
      cases hv
      exact huv
/-- two rising lists of the same things are the same -/
theorem rising_eq (hl : Lin lt) : ∀ {l m : List τ}, Rising lt l → Rising lt m → (∀ x, x ∈ l ↔ x ∈ m) → l = m
  | [], [], _, _, _ => rfl
  | [], y :: m, _, _, h => by have := (h y).2 List.mem_cons_self; cases this
  | x :: l, [], _, _, h => by have := (h x).1 List.mem_cons_self; cases this
  | x :: l, y :: m, h1, h2, h => by
    unfold Rising at h1 h2
    rw [List.pairwise_cons] at h1 h2
    have hxy : x = y := by
      have a := (h x).1 List.mem_cons_self
      have b := (h y).2 List.mem_cons_self
      rw [List.mem_cons] at a b
      rcases a with a | a
      · exact a
      · rcases b with b | b
        · exact b.symm
        · have c1 := h2.1 x a
          have c2 := h1.1 y b
          have := hl.tr _ _ _ c1 c2
          rw [hl.irr] at this
          cases this
    subst hxy
    congr 1
    refine rising_eq hl h1.2 h2.2 fun z => ?_
    have hz := h z
    rw [List.mem_cons, List.mem_cons] at hz
    constructor
    · intro hz1
      rcases hz.1 (.inr hz1) with rfl | h'
      · have := h1.1 z hz1
        rw [hl.irr] at this
        cases this
      · exact h'
    · intro hz1
      rcases hz.2 (.inr hz1) with rfl | h'
      · have := h2.1 z hz1
        rw [hl.irr] at this
        cases this
      · exact h'
end
/-- a part of a row, to be appended -/
theorem Src.part {H : Hp} {E : TypeId} {s : Sl} {xs : List Value} (h : Row H E 1 s xs) {lo hi : Nat} (h1 : lo ≤ hi) (h2 : hi ≤ s.n) : Src H 1 (.slice (cut s.a s.c lo hi 1).a (cut s.a s.c lo hi 1).n (cut s.a s.c lo hi 1).c) (hi - lo) ((xs.drop lo).take (hi - lo)) := by
  have hl := h.1
  rw [Nat.mul_one] at hl
  have hlen : ((xs.drop lo).take (hi - lo)).length = hi - lo := by rw [List.length_take, List.length_drop]; omega
  refine ⟨by rw [hlen, Nat.mul_one], ?_⟩
  unfold cut
  simp only
  rcases h.2 with ⟨ha, hn, hc⟩ | ⟨g, cs, fr, ha, hg, r1, r2, r3, r4⟩
  · rw [ha]
    simp only [Option.map_none, ite_self]
    exact ⟨trivial, by omega⟩
  · rw [ha]
    have key : ∀ o, (o = lo ∨ hi - lo = 0) → AtL H ⟨g, o, none⟩ 0 ((xs.drop lo).take (hi - lo)) := by
      intro o ho
      refine atL_of hg _ 0 ?_
      intro j hj
      rw [hlen] at hj
      rcases ho with rfl | ho
      · rw [List.getElem?_take, if_pos hj, List.getElem?_drop, ← r3, List.getElem?_take, Nat.mul_one, if_pos (by omega)]
        rfl
      · omega
    by_cases hcl : s.c = lo
    · rw [if_pos hcl]
      exact ⟨rfl, key 0 (.inr (by omega))⟩
    · rw [if_neg hcl]
      simp only [Option.map_some, add_mk, Nat.zero_add, Nat.mul_one]
      exact ⟨trivial, key lo (.inl rfl)⟩
/-- slices.Clone, as it is printed -/
def CloneV (P : Program) (T E : TypeId) (H : Hp) (s : Sl) (K : Value → Hp → Prop) (Z : List PanicEntry → Hp → Prop) : Prop :=
  (((Option.isNone s.a) = true → K (.slice none 0 0) H) ∧ ((Option.isNone s.a) = false → ∀ b H1, Newb H (.cells #[] E) b H1 → 
    App P #[T, T] T H1 [.slice (some ⟨b, 0, none⟩) 0 0, .slice s.a s.n s.c] fun ap H2 => (K (.slice ap.a ap.n ap.c) H2)))
theorem clone_ok {P : Program} {T E : TypeId} {inf : TypeInfo} {z : Value} (hu : P.underlying T = some (.slice E)) (hi : P.info? E = some inf) (hz : inf.zero = some z) (hzs : z.cells.size = inf.size) (hb : 0 < inf.bytes)
    {H : Hp} {s : Sl} {xs : List Value} {K : Value → Hp → Prop} {Z : List PanicEntry → Hp → Prop} (hr : Row H E inf.size s xs) (h1 : ∀ v ∈ xs, v.oneCell = true) (hl : s.n * inf.bytes ≤ 140737488355328)
    (k : ∀ s' H', Row H' E inf.size s' xs → s'.n = s.n → Fr no H H' → (∀ i, own s' i → H.size ≤ i) → Nf H' s' → K (.slice s'.a s'.n s'.c) H') : CloneV P T E H s K Z := by
  unfold CloneV
  refine ⟨fun hn => ?_, fun hs => ?_⟩
  · have hn' : s.a = none := by simpa using hn
    rcases hr.2 with ⟨_, h2, h3⟩ | ⟨g, cs, fr, ha, _⟩
    · have hx : xs = [] := List.eq_nil_of_length_eq_zero (by rw [hr.1, h2]; simp)
      subst hx
      exact k ⟨none, 0, 0⟩ H (Row.nil _ _ _) h2.symm (Fr.refl _ _) (by rintro i ⟨o, h⟩; cases h) (by intro g o e; cases e)
    · rw [hn'] at ha; cases ha
  · intro b A hn
    have rA : Row A E inf.size ⟨some ⟨b, 0, none⟩, 0, 0⟩ [] := by
      refine ⟨by simp, .inr ⟨b, [], (0, 0), rfl, hn.get, Nat.le_refl _, by simp, by simp, Nat.zero_le _⟩⟩
    have nA : Nf A ⟨some ⟨b, 0, none⟩, 0, 0⟩ := by
      intro g o e
      simp only [Option.some.injEq, Addr.mk.injEq] at e
      exact ⟨_, _, by rw [← e.1]; exact hn.get⟩
    refine app_row2 (s := ⟨some ⟨b, 0, none⟩, 0, 0⟩) hu (by intro k; rw [hu]; simp) ⟨_, hu⟩ hi hz hzs hb rA (Src.row (hr.keep hn.fr fun _ _ h => h)) h1 (by show (0 + s.n) * inf.bytes ≤ _; rw [Nat.zero_add]; exact hl) ?_
    intro s' B rB nB fB oB nfB
    refine k s' B (by simpa using rB) (by rw [nB]; exact Nat.zero_add _) ?_ ?_ (nfB nA)
    · refine hn.fr.step fB ?_
      rintro i hi ⟨o, ho⟩
      simp only [Option.some.injEq, Addr.mk.injEq] at ho
      have := hn.eq
      omega
    · intro i hi
      have := hn.eq
      have := hn.size
      rcases oB i hi with ⟨o, ho⟩ | h
      · simp only [Option.some.injEq, Addr.mk.injEq] at ho
        omega
      · omega
end Go.V
end

section
/- Things apart, each on blocks of its own, over a base: symbolic heaps; of no program. -/
set_option linter.unusedVariables false
set_option linter.unusedSimpArgs false
namespace Go.V
attribute [local irreducible] Cvt ExtF CallF hrun
theorem erase_perm {α : Type} : ∀ {l : List α} {k : Nat} {a : α}, l[k]? = some a → (a :: l.eraseIdx k).Perm l
  | [], k, a, h => by simp at h
  | x :: l, 0, a, h => by
    simp only [List.getElem?_cons_zero, Option.some.injEq] at h
    subst h
    exact List.Perm.refl _
  | x :: l, k + 1, a, h => by
    rw [List.getElem?_cons_succ] at h
    rw [List.eraseIdx_cons_succ]
    exact (List.Perm.swap _ _ _).trans ((erase_perm h).cons x)
/-- something that lies on blocks of its own -/
structure It where
  ok : Hp → Prop
  fp : Nat → Prop
  lt : ∀ {H : Hp} {i : Nat}, ok H → fp i → i < H.size
  st : ∀ {H H' : Hp}, ok H → (∀ i, fp i → H'[i]? = H[i]?) → ok H'
def apart (a b : It) : Prop := ∀ i, a.fp i → b.fp i → False
theorem apart.symm {a b : It} (h : apart a b) : apart b a := fun i x y => h i y x
/-- from H0 on, where nothing beside S has turned: these things, apart -/
structure Sym (H0 : Hp) (S : Nat → Prop) (H : Hp) (l : List It) : Prop where
  fr : Fr S H0 H
  ok : ∀ a ∈ l, a.ok H
  sep : l.Pairwise apart
  fp : ∀ a ∈ l, ∀ i, a.fp i → S i ∨ H0.size ≤ i
theorem It.keep {a : It} {S : Nat → Prop} {H H' : Hp} (h : a.ok H) (hf : Fr S H H') (hs : ∀ i, a.fp i → ¬ S i) : a.ok H' := a.st h fun i hi => hf.keep i (a.lt h hi) (hs i hi)
section
variable {H0 H H' : Hp} {S T : Nat → Prop} {l R N its : List It} {a b : It}
theorem Sym.start (H : Hp) : Sym H no H [] := ⟨Fr.refl _ _, by simp, List.Pairwise.nil, by simp⟩
theorem Sym.start1 (h : a.ok H) : Sym H a.fp H [a] := ⟨Fr.refl _ _, by simpa using h, by simp, by intro x hx i hi; rw [List.mem_singleton.1 hx] at hi; exact .inl hi⟩
theorem Sym.get (h : Sym H0 S H l) {k : Nat} (hk : l[k]? = some a) : a.ok H := h.ok a (List.mem_of_getElem? hk)
theorem Sym.apt (h : Sym H0 S H l) {i j : Nat} (hi : l[i]? = some a) (hj : l[j]? = some b) (hij : i ≠ j) : apart a b := by
  obtain ⟨h1, rfl⟩ := List.getElem?_eq_some_iff.1 hi
  obtain ⟨h2, rfl⟩ := List.getElem?_eq_some_iff.1 hj
  have hs := List.pairwise_iff_getElem.1 h.sep
  rcases Nat.lt_or_gt_of_ne hij with h3 | h3
  · exact hs i j h1 h2 h3
  · exact (hs j i h2 h1 h3).symm
theorem Sym.perm (h : Sym H0 S H l) (hp : l.Perm R) : Sym H0 S H R :=
  ⟨h.fr, fun a ha => h.ok a (hp.mem_iff.2 ha), h.sep.perm hp apart.symm, fun a ha => h.fp a (hp.mem_iff.2 ha)⟩
theorem Sym.sub (h : Sym H0 S H l) (hp : R.Sublist l) : Sym H0 S H R :=
  ⟨h.fr, fun a ha => h.ok a (hp.mem ha), h.sep.sublist hp, fun a ha => h.fp a (hp.mem ha)⟩
/-- one of them to the front -/
theorem Sym.pick (h : Sym H0 S H l) {k : Nat} (hk : l[k]? = some a) : Sym H0 S H (a :: l.eraseIdx k) := by
  exact h.perm (erase_perm hk).symm
theorem Sym.swap (h : Sym H0 S H (a :: b :: l)) : Sym H0 S H (b :: a :: l) := h.perm (List.Perm.swap _ _ _)
theorem Sym.drop (h : Sym H0 S H (a :: l)) : Sym H0 S H l := h.sub (List.sublist_cons_self _ _)
/-- only new blocks -/
theorem Sym.more (h : Sym H0 S H l) (hf : Fr no H H') : Sym H0 S H' l :=
  ⟨h.fr.step hf fun _ _ h => h.elim, fun a ha => It.keep (h.ok a ha) hf fun _ _ h => h, h.sep, h.fp⟩
/-- what a piece does on things of its own -/
theorem Sym.absorb (h : Sym H0 S H (its ++ R)) (k : Sym H T H' N) (ht : ∀ i, T i → ∃ a ∈ its, a.fp i) : Sym H0 S H' (N ++ R) := by
  have hsep := h.sep
  rw [List.pairwise_append] at hsep
  obtain ⟨s1, s2, s3⟩ := hsep
  refine ⟨h.fr.step k.fr ?_, ?_, ?_, ?_⟩
  · intro i hi hti
    obtain ⟨a, ha, hf⟩ := ht i hti
    rcases h.fp a (List.mem_append.2 (.inl ha)) i hf with h1 | h1
    · exact h1
    · omega
  · intro b hb
    rcases List.mem_append.1 hb with hb | hb
    · exact k.ok b hb
    · refine It.keep (h.ok b (List.mem_append.2 (.inr hb))) k.fr ?_
      intro i hi hti
      obtain ⟨a, ha, hf⟩ := ht i hti
      exact s3 a ha b hb i hf hi
  · rw [List.pairwise_append]
    refine ⟨k.sep, s2, ?_⟩
    intro x hx y hy i h1 h2
    rcases k.fp x hx i h1 with h3 | h3
    · obtain ⟨a, ha, hf⟩ := ht i h3
      exact s3 a ha y hy i hf h2
    · have := y.lt (h.ok y (List.mem_append.2 (.inr hy))) h2
      omega
  · intro b hb i hi
    rcases List.mem_append.1 hb with hb | hb
    · rcases k.fp b hb i hi with h1 | h1
      · obtain ⟨a, ha, hf⟩ := ht i h1
        exact h.fp a (List.mem_append.2 (.inl ha)) i hf
      · exact .inr (Nat.le_trans h.fr.size h1)
    · exact h.fp b (List.mem_append.2 (.inr hb)) i hi
theorem Sym.join (h : Sym H0 S H R) (k : Sym H no H' N) : Sym H0 S H' (N ++ R) := Sym.absorb (its := []) (R := R) h k fun _ h => h.elim
theorem Sym.join1 (h : Sym H0 S H (a :: R)) (k : Sym H a.fp H' N) : Sym H0 S H' (N ++ R) := Sym.absorb (its := [a]) (R := R) h k fun i hi => ⟨a, List.mem_singleton.2 rfl, hi⟩
/-- one of them turned -/
theorem Sym.upd (h : Sym H0 S H (a :: R)) (hf : Fr a.fp H H') (hb : b.ok H') (hp : ∀ i, b.fp i → a.fp i ∨ H.size ≤ i) : Sym H0 S H' (b :: R) :=
  Sym.join1 (N := [b]) h ⟨hf, by simpa using hb, by simp, by simpa using hp⟩
theorem Sym.setk (h : Sym H0 S H l) {k : Nat} (hk : l[k]? = some a) (hf : Fr a.fp H H') (hb : b.ok H') (hp : ∀ i, b.fp i → a.fp i ∨ H.size ≤ i) : Sym H0 S H' (l.set k b) := by
  have h1 := (h.pick hk).upd hf hb hp
  refine h1.perm ?_
  have h2 := (List.getElem?_eq_some_iff.1 hk).1
  have e : (l.set k b).eraseIdx k = l.eraseIdx k := List.eraseIdx_set_eq ..
  have h3 : (l.set k b)[k]? = some b := List.getElem?_set_self h2
  have h4 := erase_perm h3
  rw [e] at h4
  exact h4
/-- a new thing -/
theorem Sym.new (h : Sym H0 S H l) (hf : Fr no H H') (hb : b.ok H') (hp : ∀ i, b.fp i → H.size ≤ i) : Sym H0 S H' (b :: l) :=
  Sym.join (N := [b]) h ⟨hf, by simpa using hb, by simp, by intro x hx i hi; rw [List.mem_singleton.1 hx] at hi; exact .inr (hp i hi)⟩
/-- one thing as another one, on no more blocks -/
theorem Sym.as (h : Sym H0 S H l) {k : Nat} (hk : l[k]? = some a) (hb : a.ok H → b.ok H) (hp : ∀ i, b.fp i → a.fp i) : Sym H0 S H (l.set k b) :=
  h.setk hk (Fr.refl _ _) (hb (h.get hk)) fun i hi => .inl (hp i hi)
/-- the base kept, where S has nothing of it -/
theorem Sym.frno (h : Sym H0 no H l) : Fr no H0 H := h.fr
/-- a part taken out of the base -/
theorem Sym.fp0 (h : Sym H0 no H l) {k : Nat} (hk : l[k]? = some a) {i : Nat} (hi : a.fp i) : H0.size ≤ i := (h.fp a (List.mem_of_getElem? hk) i hi).resolve_left fun h => h
end

/-! ### blocks -/
def blk (b : Nat) (cs : List Value) (T : TypeId) : It where
  ok H := Blk H b cs T
  fp i := i = b
  lt h hi := by subst hi; exact h.lt
  st h hs := (hs b rfl).trans h
/-- any block -/
def obj (b : Nat) (o : Obj) : It where
  ok H := H[b]? = some o
  fp i := i = b
  lt h hi := by subst hi; exact lt_of_some h
  st h hs := (hs b rfl).trans h
section
variable {H0 H H' : Hp} {S : Nat → Prop} {l : List It}
theorem Sym.newb {b : Nat} {cs : List Value} {T : TypeId} (h : Sym H0 S H l) (hn : Newb H (.cells cs.toArray T) b H') : Sym H0 S H' (blk b cs T :: l) :=
  h.new hn.fr hn.blk fun i hi => by have := hn.eq; have : i = b := hi; omega
theorem Sym.newo {b : Nat} {o : Obj} (h : Sym H0 S H l) (hn : Newb H o b H') : Sym H0 S H' (obj b o :: l) :=
  h.new hn.fr hn.get fun i hi => by have := hn.eq; have : i = b := hi; omega
theorem Sym.ld {b k : Nat} {cs : List Value} {T : TypeId} (h : Sym H0 S H l) (hk : l[k]? = some (blk b cs T)) (i : Nat) : hcell H ⟨b, i, none⟩ = cs[i]? :=
  Blk.ld (h.get hk) i
theorem Sym.stb {b i k : Nat} {v : Value} {cs : List Value} {T : TypeId} {K : Hp → Prop} (h : Sym H0 S H l) (hk : l[k]? = some (blk b cs T)) (hi : i < cs.length) (hv : v.oneCell = true)
    (kk : ∀ H', Sym H0 S H' (l.set k (blk b (cs.set i v) T)) → K H') : StL ⟨b, i, none⟩ 0 [v] H K :=
  st_blk (h.get hk) hi hv fun H' h1 h2 _ => kk H' (h.setk hk h2 h1 fun i hi => .inl hi)
/-- several cells of a block -/
theorem Sym.stbs {b i k : Nat} {vs : List Value} {cs : List Value} {T : TypeId} {K : Hp → Prop} (h : Sym H0 S H l) (hk : l[k]? = some (blk b cs T)) (hi : i + vs.length ≤ cs.length) (hv : ∀ v ∈ vs, v.oneCell = true)
    (kk : ∀ H', Sym H0 S H' (l.set k (blk b (setsL cs i vs) T)) → K H') : StL ⟨b, i, none⟩ 0 vs H K := by
  refine stL_cells (o := i) vs 0 (h.get hk) (by omega) hv (.inr (Nat.le_refl _)) fun H' h1 h2 _ => kk H' (h.setk hk h2 h1 fun i hi => .inl hi)
end

/-! ### rows of typed elements -/
section
variable {τ : Type}
/-- elements flat -/
def flat (fl : τ → List Value) (l : List τ) : List Value := l.flatMap fl
/-- an element's cells -/
structure Fl (fl : τ → List Value) (sz : Nat) : Prop where
  len : ∀ x, (fl x).length = sz
  one : ∀ x, ∀ v ∈ fl x, v.oneCell = true
variable {fl : τ → List Value} {sz : Nat}
theorem flat_len (hf : Fl fl sz) : ∀ l : List τ, (flat fl l).length = l.length * sz
  | [] => by simp [flat]
  | x :: l => by
    have := flat_len hf l
    unfold flat at this ⊢
    rw [List.flatMap_cons, List.length_append, this, hf.len, List.length_cons, Nat.succ_mul]
    omega
theorem flat_one (hf : Fl fl sz) {l : List τ} : ∀ v ∈ flat fl l, v.oneCell = true := by
  intro v hv
  obtain ⟨x, _, hx⟩ := List.mem_flatMap.1 hv
  exact hf.one x v hx
theorem flat_app (l m : List τ) : flat fl (l ++ m) = flat fl l ++ flat fl m := by simp [flat]
theorem flat_sing (x : τ) : flat fl [x] = fl x := by simp [flat]
theorem flat_nil : flat fl ([] : List τ) = [] := rfl
theorem flat_get (hf : Fl fl sz) : ∀ {l : List τ} {i : Nat} {x : τ} {k : Nat}, l[i]? = some x → k < sz → (flat fl l)[i * sz + k]? = (fl x)[k]?
  | [], i, x, k, h, _ => by simp at h
  | y :: l, 0, x, k, h, hk => by
    simp only [List.getElem?_cons_zero, Option.some.injEq] at h
    subst h
    unfold flat
    rw [List.flatMap_cons, Nat.zero_mul, Nat.zero_add, List.getElem?_append_left (by rw [hf.len]; exact hk)]
  | y :: l, i + 1, x, k, h, hk => by
    rw [List.getElem?_cons_succ] at h
    have := flat_get hf h hk
    unfold flat at this ⊢
    rw [List.flatMap_cons, List.getElem?_append_right (by rw [hf.len, Nat.succ_mul]; omega), hf.len]
    rw [← this]
    congr 1
    rw [Nat.succ_mul]
    omega
theorem flat_set (hf : Fl fl sz) : ∀ {l : List τ} {i : Nat} {x y : τ} {k : Nat} {v : Value}, l[i]? = some x → k < sz → fl y = (fl x).set k v → (flat fl l).set (i * sz + k) v = flat fl (l.set i y)
  | [], i, x, y, k, v, h, _, _ => by simp at h
  | z :: l, 0, x, y, k, v, h, hk, e => by
    simp only [List.getElem?_cons_zero, Option.some.injEq] at h
    subst h
    unfold flat
    rw [List.flatMap_cons, Nat.zero_mul, Nat.zero_add, List.set_append_left _ _ (by rw [hf.len]; exact hk), List.set_cons_zero, List.flatMap_cons, e]
  | z :: l, i + 1, x, y, k, v, h, hk, e => by
    rw [List.getElem?_cons_succ] at h
    have := flat_set hf h hk e
    unfold flat at this ⊢
    rw [List.flatMap_cons, List.set_append_right _ _ (by rw [hf.len, Nat.succ_mul]; omega), hf.len, List.set_cons_succ, List.flatMap_cons, ← this]
    congr 2
    rw [Nat.succ_mul]
    omega
theorem flat_take (hf : Fl fl sz) : ∀ (l : List τ) (k : Nat), (flat fl l).take (k * sz) = flat fl (l.take k)
  | [], k => by simp [flat]
  | x :: l, 0 => by simp [flat]
  | x :: l, k + 1 => by
    have := flat_take hf l k
    unfold flat at this ⊢
    rw [List.take_succ_cons, List.flatMap_cons, List.flatMap_cons, ← this, Nat.succ_mul, Nat.add_comm, ← hf.len x, List.take_append, List.take_of_length_le (by omega)]
    congr 2
    omega
theorem flat_drop (hf : Fl fl sz) : ∀ (l : List τ) (k : Nat), (flat fl l).drop (k * sz) = flat fl (l.drop k)
  | [], k => by simp [flat]
  | x :: l, 0 => by simp [flat]
  | x :: l, k + 1 => by
    have := flat_drop hf l k
    unfold flat at this ⊢
    rw [List.drop_succ_cons, List.flatMap_cons, ← this, Nat.succ_mul, Nat.add_comm, ← hf.len x, List.drop_append, List.drop_of_length_le (by omega), List.nil_append]
    congr 1
    omega
/-- a row that is read -/
structure Rd (fl : τ → List Value) (sz : Nat) (H : Hp) (s : Sl) (l : List τ) : Prop where
  len : s.n = l.length
  le : s.n ≤ s.c
  el : ∀ (i : Nat) (x : τ) (k : Nat) (v : Value), l[i]? = some x → (fl x)[k]? = some v → ∃ ad, s.a = some ad ∧ hcell H (ad.add (i * sz + k)) = some v
theorem add_add (ad : Addr) (i k : Nat) : (ad.add i).add k = ad.add (i + k) := by
  unfold Addr.add
  by_cases hk : k = 0
  · simp [hk]
  · by_cases hi : i = 0
    · simp [hi, hk]
    · have : i + k ≠ 0 := by omega
      simp [hi, hk, this]
      omega
/-- the block that is read -/
def rown (s : Sl) (i : Nat) : Prop := ∃ ad, s.a = some ad ∧ ad.block = i
theorem Rd.keep {S : Nat → Prop} {H H' : Hp} {s : Sl} {l : List τ} (h : Rd fl sz H s l) (hf : Fr S H H') (hs : ∀ i, rown s i → ¬ S i) : Rd fl sz H' s l := by
  refine ⟨h.len, h.le, fun i x k v h1 h2 => ?_⟩
  obtain ⟨ad, ha, hc⟩ := h.el i x k v h1 h2
  refine ⟨ad, ha, hf.cell hc ?_⟩
  rw [add_block]
  exact hs _ ⟨ad, ha, rfl⟩
theorem Rd.more {H H' : Hp} {s : Sl} {l : List τ} (h : Rd fl sz H s l) (hf : Fr no H H') : Rd fl sz H' s l := h.keep hf fun _ _ h => h
theorem Rd.nil {H : Hp} : Rd fl sz H ⟨none, 0, 0⟩ [] := ⟨rfl, Nat.le_refl _, by simp⟩
/-- an element's address, and what lies there -/
theorem Rd.ix {H : Hp} {s : Sl} {l : List τ} {i : Int} {x : τ} {K : Addr → Prop} (hsz : 0 < sz) (hf : Fl fl sz) (h : Rd fl sz H s l) (h0 : 0 ≤ i) (hx : l[i.toNat]? = some x)
    (k : ∀ ad, (∀ k v, (fl x)[k]? = some v → hcell H (ad.add k) = some v) → hcell H ad = (fl x)[0]? → K ad) : IxA s.a s.n i sz K := by
  have hi := (List.getElem?_eq_some_iff.1 hx).1
  have hl := h.len
  have h00 : (fl x)[0]? = some ((fl x)[0]'(by rw [hf.len]; exact hsz)) := List.getElem?_eq_getElem _
  obtain ⟨ad, ha, hc⟩ := h.el _ _ _ _ hx h00
  refine ⟨ad, ha, ⟨h0, by omega⟩, k _ ?_ ?_⟩
  · intro k v hv
    obtain ⟨ad', ha', hc'⟩ := h.el _ _ _ _ hx hv
    rw [ha] at ha'
    cases ha'
    rw [add_add]
    exact hc'
  · rw [h00]
    exact hc
theorem Rd.part {H : Hp} {s : Sl} {l : List τ} (hf : Fl fl sz) (h : Rd fl sz H s l) {lo hi : Nat} (h1 : lo ≤ hi) (h2 : hi ≤ s.n) : Rd fl sz H (cut s.a s.c lo hi sz) ((l.drop lo).take (hi - lo)) := by
  have hl := h.len
  have hle := h.le
  refine ⟨?_, ?_, ?_⟩
  · show hi - lo = _
    rw [List.length_take, List.length_drop]
    omega
  · show hi - lo ≤ s.c - lo
    omega
  · intro i x k v hx hv
    rw [List.getElem?_take] at hx
    split at hx
    · rename_i hlt
      rw [List.getElem?_drop] at hx
      obtain ⟨ad, ha, hc⟩ := h.el _ _ _ _ hx hv
      have hlo : s.c ≠ lo := by omega
      refine ⟨ad.add (lo * sz), ?_, ?_⟩
      · unfold cut
        rw [if_neg hlo, ha]
        rfl
      · rw [add_add]
        have : lo * sz + (i * sz + k) = (lo + i) * sz + k := by rw [Nat.add_mul]; omega
        rw [this]
        exact hc
    · cases hx
/-- a row of one's own, nothing of it frozen -/
structure RowN (fl : τ → List Value) (E : TypeId) (sz : Nat) (H : Hp) (s : Sl) (l : List τ) : Prop where
  row : Row H E sz s (flat fl l)
  nf : Nf H s
theorem own_iff {s : Sl} {g o i : Nat} (h : s.a = some ⟨g, o, none⟩) : own s i ↔ i = g := by
  unfold own
  rw [h]
  constructor
  · rintro ⟨o', e⟩
    simp only [Option.some.injEq, Addr.mk.injEq] at e
    exact e.1.symm
  · rintro rfl
    exact ⟨o, rfl⟩
theorem own_none {s : Sl} {i : Nat} (h : s.a = none) : ¬ own s i := by
  rintro ⟨o, e⟩
  rw [h] at e
  cases e
theorem RowN.len (hf : Fl fl sz) (hsz : 0 < sz) {E : TypeId} {H : Hp} {s : Sl} {l : List τ} (h : RowN fl E sz H s l) : s.n = l.length := by
  have := h.row.1
  rw [flat_len hf] at this
  exact (Nat.eq_of_mul_eq_mul_right hsz this).symm
theorem RowN.rd (hf : Fl fl sz) (hsz : 0 < sz) {E : TypeId} {H : Hp} {s : Sl} {l : List τ} (h : RowN fl E sz H s l) : Rd fl sz H s l := by
  have hn := h.len hf hsz
  refine ⟨hn, h.row.le, fun i x k v hx hv => ?_⟩
  have hi := (List.getElem?_eq_some_iff.1 hx).1
  obtain ⟨g, hg⟩ := h.row.some (by omega)
  have hk : k < sz := by have := (List.getElem?_eq_some_iff.1 hv).1; rw [hf.len] at this; exact this
  refine ⟨_, hg, ?_⟩
  have hlen := flat_len hf l
  have hb : i * sz + k < l.length * sz := by
    have : (i + 1) * sz ≤ l.length * sz := Nat.mul_le_mul_right _ hi
    rw [Nat.succ_mul] at this
    omega
  rw [h.row.ld hg _ (by omega), flat_get hf hx hk]
  exact hv
/-- the row as a thing -/
def arr (fl : τ → List Value) (E : TypeId) (sz : Nat) (s : Sl) (l : List τ) : It where
  ok H := RowN fl E sz H s l
  fp i := own s i
  lt h hi := h.row.lt hi
  st := by
    intro H H' h hs
    refine ⟨⟨h.row.1, ?_⟩, ?_⟩
    · rcases h.row.2 with h' | ⟨g, cs, fr, ha, hg, h'⟩
      · exact .inl h'
      · exact .inr ⟨g, cs, fr, ha, (hs g ⟨0, ha⟩).trans hg, h'⟩
    · intro g o hg
      obtain ⟨cs, T, hb⟩ := h.nf g o hg
      exact ⟨cs, T, (hs g ⟨o, hg⟩).trans hb⟩
section
variable {H0 H H' : Hp} {S : Nat → Prop} {L : List It} {E : TypeId} {s : Sl} {l : List τ}
theorem Sym.rd {k : Nat} (h : Sym H0 S H L) (hf : Fl fl sz) (hsz : 0 < sz) (hk : L[k]? = some (arr fl E sz s l)) : Rd fl sz H s l := RowN.rd hf hsz (h.get hk)
theorem Sym.nilrow (h : Sym H0 S H L) (fl : τ → List Value) (E : TypeId) (sz : Nat) : Sym H0 S H (arr fl E sz ⟨none, 0, 0⟩ [] :: L) :=
  h.new (Fr.refl _ _) ⟨Row.nil _ _ _, by intro g o e; cases e⟩ fun i hi => (own_none rfl hi).elim
/-- one cell of an element is written -/
theorem Sym.sta {k : Nat} {i : Int} {j : Nat} {x y : τ} {v : Value} {K : Hp → Prop} (h : Sym H0 S H L) (hf : Fl fl sz) (hk : L[k]? = some (arr fl E sz s l)) (h0 : 0 ≤ i) (hx : l[i.toNat]? = some x) (hj : j < sz) (hy : fl y = (fl x).set j v)
    (kk : ∀ H', Sym H0 S H' (L.set k (arr fl E sz s (l.set i.toNat y))) → K H') : IxA s.a s.n i sz fun ad => StL (ad.add j) 0 [v] H K := by
  have hok : RowN fl E sz H s l := h.get hk
  have hi := (List.getElem?_eq_some_iff.1 hx).1
  have hn := hok.len hf (by omega)
  obtain ⟨g, hg⟩ := hok.row.some (by omega)
  rcases hok.row.2 with ⟨ha, _⟩ | ⟨g', cs, fr, ha, hb, h1, h2, h3, h4⟩
  · rw [hg] at ha; cases ha
  rw [hg] at ha
  cases ha
  refine ⟨_, hg, ⟨h0, by omega⟩, ?_⟩
  show StL (((⟨g, 0, none⟩ : Addr).add (i.toNat * sz)).add j) 0 [v] H K
  rw [add_mk, add_mk, Nat.zero_add]
  have hlen := flat_len hf l
  have hb1 : i.toNat * sz + j < l.length * sz := by
    have : (i.toNat + 1) * sz ≤ l.length * sz := Nat.mul_le_mul_right _ hi
    rw [Nat.succ_mul] at this
    omega
  have hc1 : l.length * sz ≤ cs.length := by rw [h2, ← hn]; exact Nat.mul_le_mul_right _ h1
  have hfr : fr = (0, 0) := by
    obtain ⟨cs', T', hb'⟩ := hok.nf g 0 hg
    rw [hb] at hb'
    simp only [Option.some.injEq, Obj.cells.injEq] at hb'
    exact hb'.2.2
  subst hfr
  have hv1 : v.oneCell = true := by
    refine hf.one y v ?_
    rw [hy]
    have := hf.len x
    exact List.mem_iff_getElem?.2 ⟨j, by rw [List.getElem?_set_self (by omega)]⟩
  refine stL_cells (o := i.toNat * sz + j) [v] 0 hb (by simp; omega) (by simpa using hv1) (.inr (Nat.le_refl _)) fun H' g1 g2 g3 => kk H' (h.setk hk (g2.mono fun q _ e => ⟨0, by rw [e]; exact hg⟩) ⟨⟨?_, .inr ⟨g, _, (0, 0), hg, g1, h1, ?_, ?_, Nat.zero_le _⟩⟩, ?_⟩ fun q hq => .inl hq)
  · rw [flat_len hf, List.length_set, hn]
  · rw [setsL_length]
    exact h2
  · rw [← flat_set hf hx hj hy, ← h3]
    simp only [setsL, Nat.add_zero]
    rw [List.take_set]
  · intro g' o' e
    rw [hg] at e
    simp only [Option.some.injEq, Addr.mk.injEq] at e
    exact ⟨_, _, by rw [← e.1]; exact g1⟩
/-- what is appended -/
theorem Rd.src (hf : Fl fl sz) (hsz : 0 < sz) {m : List τ} {t : Sl} (h : Rd fl sz H t m) : Src H sz (.slice t.a t.n t.c) m.length (flat fl m) := by
  refine ⟨flat_len hf m, ?_⟩
  have hl := h.len
  cases hm : t.a with
  | none =>
    refine ⟨hl, ?_⟩
    apply Classical.byContradiction
    intro hne
    have hx : m[0]? = some (m[0]'(by omega)) := List.getElem?_eq_getElem _
    have hv : (fl (m[0]'(by omega)))[0]? = some ((fl (m[0]'(by omega)))[0]'(by rw [hf.len]; exact hsz)) := List.getElem?_eq_getElem _
    obtain ⟨ad, ha, _⟩ := h.el _ _ _ _ hx hv
    rw [hm] at ha
    cases ha
  | some ad =>
    refine ⟨hl, ?_⟩
    have key : ∀ (n i : Nat), n = (flat fl m).length - i → AtL H ad i ((flat fl m).drop i) := by
      intro n
      induction n with
      | zero =>
        intro i hi
        rw [List.drop_of_length_le (by omega)]
        trivial
      | succ n ih =>
        intro i hi
        have hil : i < (flat fl m).length := by omega
        rw [List.drop_eq_getElem_cons hil]
        refine ⟨?_, ih (i + 1) (by omega)⟩
        have hd : i = i / sz * sz + i % sz := by rw [Nat.mul_comm]; exact (Nat.div_add_mod i sz).symm
        have hr := Nat.mod_lt i hsz
        have hq : i / sz < m.length := by
          rw [flat_len hf] at hil
          exact Nat.div_lt_of_lt_mul (by rw [Nat.mul_comm]; exact hil)
        have hx : m[i / sz]? = some (m[i / sz]'hq) := List.getElem?_eq_getElem _
        have hg := flat_get hf hx hr
        rw [← hd, List.getElem?_eq_getElem hil] at hg
        obtain ⟨ad', ha', hc⟩ := h.el _ _ _ _ hx hg.symm
        rw [hm] at ha'
        cases ha'
        rw [← hd] at hc
        exact hc
    have := key _ 0 rfl
    rwa [List.drop_zero] at this
/-- more elements behind the row's -/
theorem Sym.app {P : Program} {T T2 : TypeId} {inf : TypeInfo} {z : Value} {ty : TypeId} {k : Nat} {y : Value} {m : List τ} {K : Sl → Hp → Prop} (h : Sym H0 S H L) (hf : Fl fl sz) (hsz0 : 0 < sz) (hk : L[k]? = some (arr fl E sz s l))
    (hu : P.underlying T = some (.slice E)) (hu2 : ∀ k, P.underlying T2 ≠ some (.int k)) (hu2' : ∃ d, P.underlying T2 = some d) (hi : P.info? E = some inf) (hz : inf.zero = some z) (hzs : z.cells.size = inf.size) (hb : 0 < inf.bytes) (hs : inf.size = sz)
    (hy : Src H sz y m.length (flat fl m)) (hl : (s.n + m.length) * inf.bytes ≤ 140737488355328)
    (kk : ∀ s' H', s'.n = s.n + m.length → Sym H0 S H' (L.set k (arr fl E sz s' (l ++ m))) → K s' H') : App P #[T, T2] ty H [.slice s.a s.n s.c, y] K := by
  have hok : RowN fl E sz H s l := h.get hk
  subst hs
  refine app_row2 hu hu2 hu2' hi hz hzs hb hok.row hy (flat_one hf) hl ?_
  intro s' H' h1 h2 h3 h4 h5
  refine kk s' H' h2 (h.setk hk h3 ⟨?_, h5 hok.nf⟩ h4)
  rw [flat_app]
  exact h1
end
end
end Go.V
end

section
/- Rows made, cut, and rows of rows; of no program. -/
set_option linter.unusedVariables false
set_option linter.unusedSimpArgs false
namespace Go.V
theorem wmul {n b : Nat} (h : n * b ≤ 140737488355328) (hb : 0 < b) : n ≤ 140737488355328 := Nat.le_trans (Nat.le_mul_of_pos_right _ hb) h
theorem mks_cells {P : Program} {T E : TypeId} {inf : TypeInfo} {zv : Value} (hu : P.underlying T = some (.slice E)) (hi : P.info? E = some inf) (hz : inf.zero = some zv) (hzc : zv.cells = #[zv]) (hs : inf.size = 1) (hb : 0 < inf.bytes)
    {H : Hp} {n : Nat} {K : Sl → Hp → Prop} (hl : n * inf.bytes ≤ 140737488355328)
    (k : ∀ b H', Newb H (.cells (List.replicate n zv).toArray E) b H' → K ⟨some ⟨b, 0, none⟩, n, n⟩ H') : MkS P T H (.int .i64 (n : Int)) (.int .i64 (n : Int)) K := by
  have hn := wmul hl hb
  have hw : IntKind.i64.wrap (n : Int) = (n : Int) := by
    have := @wrap64 (n : Int) (by omega) (by omega)
    exact this
  unfold MkS Instr.makeSlice
  refine hrun_pv (pv_underlying hu) ?_
  simp only [asInt, asIntOf, pure, bind, Sem.bind]
  refine hrun_bind _ (hrun_pureV _ (pv_typeInfo hi) ?_)
  simp only [hw]
  have h248 : (2 : Int) ^ 48 = 281474976710656 := by decide
  have hml : ¬ ((inf.bytes : Int) * (n : Int) > 2 ^ 48) := by
    rw [h248]
    have : ((n * inf.bytes : Nat) : Int) = (inf.bytes : Int) * (n : Int) := by rw [Nat.mul_comm]; simp
    omega
  rw [if_neg (by
    simp only [Bool.or_eq_true, decide_eq_true_eq]
    omega)]
  have hask : ∀ (n : Nat) {K : Unit → Hp → Prop} {Z : Value → Hp → Prop}, K () H → hrun P (askRoom n) H K Z := by
    intro n K Z hk
    unfold askRoom
    split
    · exact hk
    · exact hk
  refine hrun_bind _ (hask _ ?_)
  refine hrun_bind _ (hrun_pureV _ (pv_sizeOf hi) ?_)
  have hnn : (n : Int).toNat = n := by omega
  rw [hnn, hs, Nat.mul_one]
  have hfin : ∀ (zs : Array Value), (n = 0 ∨ zs = #[zv]) → hrun P (newRow E ((Array.range n).map (fun i => zs[i % zs.size]!)) >>= fun a => Sem.pure (Value.slice (some a) n n)) H (fun r H' => ∃ s : Sl, r = .slice s.a s.n s.c ∧ K s H') (fun _ _ => False) := by
    intro zs hzs
    simp only [newRow, newObj, bind, Sem.bind, hrun, pure]
    intro b H' hnb
    refine ⟨⟨some ⟨b, 0, none⟩, n, n⟩, rfl, k b H' ?_⟩
    have e : ((Array.range n).map fun i => zs[i % zs.size]!) = (List.replicate n zv).toArray := by
      apply Array.ext
      · simp
      · intro i h1 h2
        simp at h1
        rcases hzs with h0 | rfl
        · omega
        · simp [Nat.mod_one]
    rw [← e]
    exact hnb
  by_cases h0 : n = 0
  · rw [if_pos h0]
    exact hfin _ (.inl h0)
  · rw [if_neg h0]
    have hz' : pureV P (zeroValue E) = some zv := pv_zero hi hz
    refine hrun_bind _ (hrun_pureV (zeroValue E) hz' ?_)
    exact hfin _ (.inr hzc)
theorem flat_rep {τ : Type} {fl : τ → List Value} {z : τ} {zv : Value} (h : fl z = [zv]) : ∀ n : Nat, flat fl (List.replicate n z) = List.replicate n zv
  | 0 => rfl
  | n + 1 => by
    have := flat_rep h n
    unfold flat at this ⊢
    rw [List.replicate_succ, List.flatMap_cons, this, h, List.replicate_succ]
    rfl
section
variable {τ : Type} {fl : τ → List Value} {sz : Nat}
variable {H0 H H' : Hp} {S : Nat → Prop} {L R : List It} {E : TypeId} {s : Sl} {l : List τ}
theorem rowN_lit {b n : Nat} (hf : Fl fl sz) (hsz : 0 < sz) (hb : Blk H b (flat fl l) E) (hn : n = l.length) : RowN fl E sz H ⟨some ⟨b, 0, none⟩, n, n⟩ l := by
  subst hn
  refine ⟨⟨flat_len hf l, .inr ⟨b, _, (0, 0), rfl, hb, Nat.le_refl _, flat_len hf l, ?_, Nat.zero_le _⟩⟩, ?_⟩
  · show (flat fl l).take (l.length * sz) = _
    rw [← flat_len hf l, List.take_length]
  · intro g o e
    simp only [Option.some.injEq, Addr.mk.injEq] at e
    exact ⟨_, _, by rw [← e.1]; exact hb⟩
/-- a row as it is written down -/
theorem Sym.lit {b n : Nat} (h : Sym H0 S H L) (hf : Fl fl sz) (hsz : 0 < sz) (hn : Newb H (.cells (flat fl l).toArray E) b H') (hl : n = l.length) : Sym H0 S H' (arr fl E sz ⟨some ⟨b, 0, none⟩, n, n⟩ l :: L) :=
  h.new hn.fr (rowN_lit hf hsz hn.blk hl) fun i hi => by
    have := (own_iff rfl).1 hi
    have := hn.eq
    omega
theorem Sym.mks {P : Program} {T : TypeId} {inf : TypeInfo} {z : τ} {zv : Value} {n : Nat} {K : Sl → Hp → Prop} (h : Sym H0 S H L) (hf : Fl fl 1) (hfz : fl z = [zv]) (hu : P.underlying T = some (.slice E)) (hi : P.info? E = some inf) (hz : inf.zero = some zv) (hzc : zv.cells = #[zv]) (hs : inf.size = 1) (hb : 0 < inf.bytes)
    (hl : n * inf.bytes ≤ 140737488355328) (kk : ∀ s' H', s'.n = n → Fr no H H' → (∀ i, own s' i → H.size ≤ i) → Sym H0 S H' (arr fl E 1 s' (List.replicate n z) :: L) → K s' H') : MkS P T H (.int .i64 (n : Int)) (.int .i64 (n : Int)) K := by
  refine mks_cells hu hi hz hzc hs hb hl ?_
  intro b H' hn
  rw [← flat_rep hfz] at hn
  refine kk _ H' rfl hn.fr ?_ (h.lit hf (by decide) hn (by simp))
  intro i hi
  have := (own_iff rfl).1 hi
  have := hn.eq
  omega
/-- its beginning -/
theorem Sym.trunc {k hi : Nat} {K : Sl → Prop} (h : Sym H0 S H L) (hf : Fl fl sz) (hsz : 0 < sz) (hk : L[k]? = some (arr fl E sz s l)) (h1 : hi ≤ l.length)
    (kk : Sym H0 S H (L.set k (arr fl E sz ⟨s.a, hi, s.c⟩ (l.take hi))) → K ⟨s.a, hi, s.c⟩) : s.n ≤ s.c ∧ SlX s.a s.c 0 (hi : Int) sz K := by
  have hok : RowN fl E sz H s l := h.get hk
  have hn := hok.len hf hsz
  have hle := hok.row.le
  refine ⟨hle, ⟨by omega, by omega, by omega⟩, ?_⟩
  rw [show (0 : Int).toNat = 0 from rfl, Int.toNat_natCast, cut_lo]
  refine kk (h.as hk (fun hok => ⟨⟨?_, ?_⟩, ?_⟩) fun i hi => hi)
  · rw [flat_len hf, List.length_take, Nat.min_eq_left h1]
  · rcases hok.row.2 with ⟨h2, h3, h4⟩ | ⟨g, cs, fr, h2, h3, h4, h5, h6, h7⟩
    · exact .inl ⟨h2, by show hi = 0; omega, h4⟩
    · have hfr : fr = (0, 0) := by
        obtain ⟨cs', T', hb'⟩ := hok.nf g 0 h2
        rw [h3] at hb'
        simp only [Option.some.injEq, Obj.cells.injEq] at hb'
        exact hb'.2.2
      refine .inr ⟨g, cs, fr, h2, h3, by show hi ≤ s.c; omega, h5, ?_, by rw [hfr]; exact Nat.zero_le _⟩
      show cs.take (hi * sz) = _
      rw [← flat_take hf, ← h6, List.take_take, Nat.min_eq_left (Nat.mul_le_mul_right _ (by omega))]
  · exact hok.nf
end

/-- these of them, in this order -/
theorem Sym.re {H0 H : Hp} {S : Nat → Prop} {l : List It} (h : Sym H0 S H l) (idx : List Nat) (hn : idx.Nodup) : Sym H0 S H (idx.filterMap (l[·]?)) := by
  refine ⟨h.fr, fun a ha => ?_, ?_, fun a ha => ?_⟩
  · obtain ⟨i, _, hi⟩ := List.mem_filterMap.1 ha
    exact h.ok a (List.mem_of_getElem? hi)
  · induction idx with
    | nil => simp
    | cons i idx ih =>
      rw [List.nodup_cons] at hn
      rw [List.filterMap_cons]
      cases hi : l[i]? with
      | none => exact ih hn.2
      | some a =>
        simp only
        rw [List.pairwise_cons]
        refine ⟨?_, ih hn.2⟩
        intro b hb
        obtain ⟨j, hj, hjb⟩ := List.mem_filterMap.1 hb
        exact h.apt hi hjb (fun e => hn.1 (e ▸ hj))
  · obtain ⟨i, _, hi⟩ := List.mem_filterMap.1 ha
    exact h.fp a (List.mem_of_getElem? hi)
/-! ### rows of rows -/
def flS (s : Sl) : List Value := [.slice s.a s.n s.c]
theorem FlS : Fl flS 1 := ⟨fun _ => rfl, fun x v hv => by rw [List.mem_singleton.1 hv]; rfl⟩
def flI (x : Int) : List Value := [.int .i64 x]
theorem FlI : Fl flI 1 := ⟨fun _ => rfl, fun x v hv => by rw [List.mem_singleton.1 hv]; rfl⟩
def flN (x : Nat) : List Value := [.int .i64 (x : Int)]
theorem FlN : Fl flN 1 := ⟨fun _ => rfl, fun x v hv => by rw [List.mem_singleton.1 hv]; rfl⟩
def flB (x : Bool) : List Value := [.bool x]
theorem FlB : Fl flB 1 := ⟨fun _ => rfl, fun x v hv => by rw [List.mem_singleton.1 hv]; rfl⟩
def flT (x : ByteArray) : List Value := [.string x]
theorem FlT : Fl flT 1 := ⟨fun _ => rfl, fun x v hv => by rw [List.mem_singleton.1 hv]; rfl⟩
section
variable {τ : Type} {fl : τ → List Value} {sz : Nat} {E1 E2 : TypeId}
/-- a row of rows apart; 'but': of this one nothing is said -/
structure Rows2 (fl : τ → List Value) (E1 E2 : TypeId) (sz : Nat) (but : Option Nat) (H : Hp) (s : Sl) (ss : List Sl) (ls : List (List τ)) : Prop where
  out : RowN flS E1 1 H s ss
  len : ss.length = ls.length
  row : ∀ i si li, but ≠ some i → ss[i]? = some si → ls[i]? = some li → RowN fl E2 sz H si li
  ap : ∀ i j si sj, but ≠ some i → but ≠ some j → i ≠ j → ss[i]? = some si → ss[j]? = some sj → ∀ b, own si b → own sj b → False
  ao : ∀ i si, but ≠ some i → ss[i]? = some si → ∀ b, own si b → own s b → False
def rows2 (fl : τ → List Value) (E1 E2 : TypeId) (sz : Nat) (but : Option Nat) (s : Sl) (ss : List Sl) (ls : List (List τ)) : It where
  ok H := Rows2 fl E1 E2 sz but H s ss ls
  fp b := own s b ∨ ∃ (i : Nat) (si : Sl), but ≠ some i ∧ ss[i]? = some si ∧ own si b
  lt {H b} h hb := by
    rcases hb with hb | ⟨i, si, hi, hs, hb⟩
    · exact h.out.row.lt hb
    · have h1 := (List.getElem?_eq_some_iff.1 hs).1
      have h2 := h.len
      exact (h.row i si _ hi hs (List.getElem?_eq_getElem (by omega))).row.lt hb
  st {H H'} h hs := by
    refine ⟨(arr flS E1 1 s ss).st h.out fun i hi => hs i (.inl hi), h.len, fun i si li hi h1 h2 => ?_, h.ap, h.ao⟩
    exact (arr fl E2 sz si li).st (h.row i si li hi h1 h2) fun b hb => hs b (.inr ⟨i, si, hi, h1, hb⟩)
section
variable {H0 H H' : Hp} {S : Nat → Prop} {L R : List It} {s : Sl} {ss : List Sl} {ls : List (List τ)}
theorem Rows2.rd (h : Rows2 fl E1 E2 sz none H s ss ls) (hf : Fl fl sz) (hsz : 0 < sz) : Rd flS 1 H s ss ∧ ∀ (i : Nat) (si : Sl) (li : List τ), ss[i]? = some si → ls[i]? = some li → Rd fl sz H si li :=
  ⟨h.out.rd FlS (by decide), fun i si li h1 h2 => (h.row i si li (fun e => by cases e) h1 h2).rd hf hsz⟩
/-- one of the rows taken out -/
theorem Sym.out2 {i : Nat} {si : Sl} {li : List τ} (h : Sym H0 S H (rows2 fl E1 E2 sz none s ss ls :: R)) (hs : ss[i]? = some si) (hl : ls[i]? = some li) :
    Sym H0 S H (arr fl E2 sz si li :: rows2 fl E1 E2 sz (some i) s ss ls :: R) := by
  have hok : Rows2 fl E1 E2 sz none H s ss ls := h.get (k := 0) rfl
  have hp : ∀ j : Nat, (none : Option Nat) ≠ some j := fun j e => by cases e
  have hne : ∀ {j : Nat}, (some i : Option Nat) ≠ some j → i ≠ j := fun h e => h (by rw [e])
  have h1 := h.sep
  rw [List.pairwise_cons] at h1
  refine ⟨h.fr, ?_, ?_, ?_⟩
  · intro a ha
    rcases List.mem_cons.1 ha with rfl | ha
    · exact hok.row i si li (hp i) hs hl
    · rcases List.mem_cons.1 ha with rfl | ha
      · exact ⟨hok.out, hok.len, fun j sj lj hj => hok.row j sj lj (hp j), fun j k sj sk _ _ => hok.ap j k sj sk (hp j) (hp k), fun j sj _ => hok.ao j sj (hp j)⟩
      · exact h.ok a (List.mem_cons_of_mem _ ha)
  · rw [List.pairwise_cons, List.pairwise_cons]
    refine ⟨?_, ?_, h1.2⟩
    · intro a ha b hb1 hb2
      rcases List.mem_cons.1 ha with rfl | ha
      · rcases hb2 with hb2 | ⟨j, sj, hj, hsj, hb2⟩
        · exact hok.ao i si (hp i) hs b hb1 hb2
        · exact hok.ap i j si sj (hp i) (hp j) (hne hj) hs hsj b hb1 hb2
      · exact h1.1 a ha b (.inr ⟨i, si, hp i, hs, hb1⟩) hb2
    · intro a ha b hb1 hb2
      refine h1.1 a ha b ?_ hb2
      rcases hb1 with hb1 | ⟨j, sj, hj, hsj, hb1⟩
      · exact .inl hb1
      · exact .inr ⟨j, sj, hp j, hsj, hb1⟩
  · intro a ha b hb
    rcases List.mem_cons.1 ha with rfl | ha
    · exact h.fp _ List.mem_cons_self b (.inr ⟨i, si, hp i, hs, hb⟩)
    · rcases List.mem_cons.1 ha with rfl | ha
      · refine h.fp _ List.mem_cons_self b ?_
        rcases hb with hb | ⟨j, sj, hj, hsj, hb⟩
        · exact .inl hb
        · exact .inr ⟨j, sj, hp j, hsj, hb⟩
      · exact h.fp a (List.mem_cons_of_mem _ ha) b hb
/-- a row put in its place -/
theorem Sym.in2 {i : Nat} {si : Sl} {li : List τ} (h : Sym H0 S H (arr fl E2 sz si li :: rows2 fl E1 E2 sz (some i) s ss ls :: R)) (hs : ss[i]? = some si) (hl : i < ls.length) :
    Sym H0 S H (rows2 fl E1 E2 sz none s ss (ls.set i li) :: R) := by
  have ho : Rows2 fl E1 E2 sz (some i) H s ss ls := h.get (k := 1) rfl
  have hr : RowN fl E2 sz H si li := h.get (k := 0) rfl
  have h1 := h.sep
  rw [List.pairwise_cons, List.pairwise_cons] at h1
  have h01 := h1.1 _ List.mem_cons_self
  have hd : ∀ (j : Nat) (sj : Sl), ss[j]? = some sj → (j = i ∧ sj = si) ∨ (some i : Option Nat) ≠ some j := by
    intro j sj hj
    by_cases e : j = i
    · subst e
      rw [hs] at hj
      cases hj
      exact .inl ⟨rfl, rfl⟩
    · exact .inr fun e' => e (by simpa using e'.symm)
  have hfp : ∀ b, (rows2 fl E1 E2 sz none s ss (ls.set i li)).fp b → own si b ∨ (rows2 fl E1 E2 sz (some i) s ss ls).fp b := by
    rintro b (hb | ⟨j, sj, hj, hsj, hb⟩)
    · exact .inr (.inl hb)
    · rcases hd j sj hsj with ⟨rfl, rfl⟩ | hne
      · exact .inl hb
      · exact .inr (.inr ⟨j, sj, hne, hsj, hb⟩)
  refine ⟨h.fr, ?_, ?_, ?_⟩
  · intro a ha
    rcases List.mem_cons.1 ha with rfl | ha
    · refine ⟨ho.out, by rw [ho.len, List.length_set], ?_, ?_, ?_⟩
      · intro j sj lj _ hj hlj
        rcases hd j sj hj with ⟨rfl, rfl⟩ | hne
        · rw [List.getElem?_set_self hl] at hlj
          cases hlj
          exact hr
        · rw [List.getElem?_set_ne (by intro e; exact hne (by rw [e]))] at hlj
          exact ho.row j sj lj hne hj hlj
      · intro j k sj sk _ _ hjk hj hk b h2 h3
        rcases hd j sj hj with ⟨rfl, rfl⟩ | hne
        · rcases hd k sk hk with ⟨rfl, rfl⟩ | hne'
          · exact hjk rfl
          · exact h01 b h2 (.inr ⟨k, sk, hne', hk, h3⟩)
        · rcases hd k sk hk with ⟨rfl, rfl⟩ | hne'
          · exact h01 b h3 (.inr ⟨j, sj, hne, hj, h2⟩)
          · exact ho.ap j k sj sk hne hne' hjk hj hk b h2 h3
      · intro j sj _ hj b h2 h3
        rcases hd j sj hj with ⟨rfl, rfl⟩ | hne
        · exact h01 b h2 (.inl h3)
        · exact ho.ao j sj hne hj b h2 h3
    · exact h.ok a (List.mem_cons_of_mem _ (List.mem_cons_of_mem _ ha))
  · rw [List.pairwise_cons]
    refine ⟨?_, h1.2.2⟩
    intro a ha b hb1 hb2
    rcases hfp b hb1 with h2 | h2
    · exact h1.1 a (List.mem_cons_of_mem _ ha) b h2 hb2
    · exact h1.2.1 a ha b h2 hb2
  · intro a ha b hb
    rcases List.mem_cons.1 ha with rfl | ha
    · rcases hfp b hb with h2 | h2
      · exact h.fp _ List.mem_cons_self b h2
      · exact h.fp _ (List.mem_cons_of_mem _ List.mem_cons_self) b h2
    · exact h.fp a (List.mem_cons_of_mem _ (List.mem_cons_of_mem _ ha)) b hb
/-- a row's slice is written in its place -/
theorem Sym.st2 {k i : Nat} {t u : Sl} {K : Hp → Prop} (h : Sym H0 S H L) (hk : L[k]? = some (rows2 fl E1 E2 sz (some i) s ss ls)) (hs : ss[i]? = some u)
    (kk : ∀ H', Sym H0 S H' (L.set k (rows2 fl E1 E2 sz (some i) s (ss.set i t) ls)) → K H') : IxA s.a s.n (i : Int) 1 fun ad => StL ad 0 [.slice t.a t.n t.c] H K := by
  have hok : Rows2 fl E1 E2 sz (some i) H s ss ls := h.get hk
  have h1 : Sym H (arr flS E1 1 s ss).fp H [arr flS E1 1 s ss] := Sym.start1 hok.out
  have h2 := h1.sta (k := 0) (i := (i : Int)) (j := 0) (y := t) (v := .slice t.a t.n t.c) (K := K) FlS rfl (by omega) (by simpa using hs) (by decide) rfl ?_
  · obtain ⟨ad, e1, e2, e3⟩ := h2
    refine ⟨ad, e1, e2, ?_⟩
    have e3' : StL ((ad.add ((i : Int).toNat * 1)).add 0) 0 [.slice t.a t.n t.c] H K := e3
    rw [add_zero'] at e3'
    exact e3'
  intro H' hS
  rw [Int.toNat_natCast] at hS
  have hS1 : Sym H (arr flS E1 1 s ss).fp H' [arr flS E1 1 s (ss.set i t)] := hS
  have hr : RowN flS E1 1 H' s (ss.set i t) := hS1.get (k := 0) rfl
  have hii : ∀ j : Nat, (some i : Option Nat) ≠ some j → (ss.set i t)[j]? = ss[j]? := fun j hj => List.getElem?_set_ne (by intro e; exact hj (by rw [e]))
  refine kk H' (h.setk hk ?_ ?_ ?_)
  · exact hS1.fr.mono fun b _ hb => .inl hb
  · refine ⟨hr, by rw [List.length_set]; exact hok.len, ?_, ?_, ?_⟩
    · intro j sj lj hj h3 h4
      rw [hii j hj] at h3
      refine (arr fl E2 sz sj lj).st (hok.row j sj lj hj h3 h4) ?_
      intro b hb
      have hb' : own sj b := hb
      exact hS1.fr.keep b ((hok.row j sj lj hj h3 h4).row.lt hb') fun hb2 => hok.ao j sj hj h3 b hb' hb2
    · intro j k sj sk hj hk' hjk h3 h4
      rw [hii j hj] at h3
      rw [hii k hk'] at h4
      exact hok.ap j k sj sk hj hk' hjk h3 h4
    · intro j sj hj h3
      rw [hii j hj] at h3
      exact hok.ao j sj hj h3
  · rintro b (hb | ⟨j, sj, hj, h3, hb⟩)
    · exact .inl (.inl hb)
    · rw [hii j hj] at h3
      exact .inl (.inr ⟨j, sj, hj, h3, hb⟩)
end
end
end Go.V
end

section
/- Rows by their types: short forms; of no program. -/
set_option linter.unusedVariables false
set_option linter.unusedSimpArgs false
namespace Go.V
attribute [local irreducible] Cvt ExtF CallF hrun
/-- a slice's type, and its elements' -/
structure TyS (P : Program) (T E : TypeId) (sz bytes : Nat) (z : Value) : Prop where
  u : P.underlying T = some (.slice E)
  i : (P.info? E).map (fun i => (i.zero, i.size, i.bytes)) = some (some z, sz, bytes)
  zc : z.cells.size = sz
  b : 0 < bytes
theorem StL.mono {a : Addr} : ∀ {vs : List Value} {i : Nat} {H : Hp} {K K' : Hp → Prop}, StL a i vs H K → (∀ H', K H' → K' H') → StL a i vs H K'
  | [], _, _, _, _, h, k => k _ h
  | v :: vs, _, _, _, _, h, k => ⟨h.1, h.2.1, h.2.2.1, StL.mono h.2.2.2 k⟩
theorem App.mono {P : Program} {ts : Array TypeId} {ty : TypeId} {H : Hp} {vs : List Value} {K K' : Sl → Hp → Prop} (h : App P ts ty H vs K) (hk : ∀ s H', K s H' → K' s H') : App P ts ty H vs K' := by
  unfold App at h ⊢
  refine hrun.mono _ h ?_ fun _ _ h => h
  rintro r A ⟨s, h1, h2⟩
  exact ⟨s, h1, hk _ _ h2⟩
section
variable {τ : Type} {fl : τ → List Value} {sz : Nat}
variable {H0 H H' : Hp} {S : Nat → Prop} {L R : List It} {P : Program} {T E : TypeId} {by' : Nat} {z : Value} {s t : Sl} {l m : List τ}
/-- elements of another row appended -/
theorem Sym.appR {ty : TypeId} {k : Nat} {K : Sl → Hp → Prop} (ht : TyS P T E sz by' z) (h : Sym H0 S H L) (hf : Fl fl sz) (hsz : 0 < sz) (hk : L[k]? = some (arr fl E sz s l)) (hy : Rd fl sz H t m) (hl : (s.n + m.length) * by' ≤ 140737488355328)
    (kk : ∀ s' H', s'.n = s.n + m.length → Sym H0 S H' (L.set k (arr fl E sz s' (l ++ m))) → K s' H') : App P #[T, T] ty H [.slice s.a s.n s.c, .slice t.a t.n t.c] K := by
  obtain ⟨inf, i1, i2, i3, i4⟩ := info_of ht.i
  exact h.app hf hsz hk ht.u (by intro k; rw [ht.u]; simp) ⟨_, ht.u⟩ i1 i2 (by rw [i3]; exact ht.zc) (by rw [i4]; exact ht.b) i3 (hy.src hf hsz) (by rw [i4]; exact hl) kk
/-- one element appended -/
theorem Sym.app1 {ty : TypeId} {k b : Nat} {x : τ} {K : Sl → Hp → Prop} (ht : TyS P T E sz by' z) (h : Sym H0 S H L) (hf : Fl fl sz) (hsz : 0 < sz) (hn : Newb H (.cells (fl x).toArray E) b H') (hk : L[k]? = some (arr fl E sz s l)) (hl : (s.n + 1) * by' ≤ 140737488355328)
    (kk : ∀ s' H', s'.n = s.n + 1 → Sym H0 S H' (L.set k (arr fl E sz s' (l ++ [x]))) → K s' H') : App P #[T, T] ty H' [.slice s.a s.n s.c, .slice (some ⟨b, 0, none⟩) 1 1] K := by
  have hx : flat fl [x] = fl x := flat_sing x
  rw [← hx] at hn
  have h2 := h.lit hf hsz hn (show 1 = [x].length from rfl)
  have hr := h2.rd (k := 0) hf hsz rfl
  refine Sym.appR (t := ⟨some ⟨b, 0, none⟩, 1, 1⟩) (k := k) ht (h2.drop) hf hsz hk hr (by simpa using hl) ?_
  exact kk
theorem Sym.make {n : Nat} {zt : τ} {zv : Value} {K : Sl → Hp → Prop} (ht : TyS P T E 1 by' zv) (h : Sym H0 S H L) (hf : Fl fl 1) (hfz : fl zt = [zv]) (hzc : zv.cells = #[zv])
    (hl : n * by' ≤ 140737488355328) (kk : ∀ s' H', s'.n = n → Fr no H H' → (∀ i, own s' i → H.size ≤ i) → Sym H0 S H' (arr fl E 1 s' (List.replicate n zt) :: L) → K s' H') : MkS P T H (.int .i64 (n : Int)) (.int .i64 (n : Int)) K := by
  obtain ⟨inf, i1, i2, i3, i4⟩ := info_of ht.i
  exact h.mks hf hfz ht.u i1 i2 hzc i3 (by rw [i4]; exact ht.b) (by rw [i4]; exact hl) kk
/-- one cell of a row is written -/
theorem Sym.st1 {k : Nat} {i : Int} {x y : τ} {v : Value} {K : Hp → Prop} (h : Sym H0 S H L) (hf : Fl fl 1) (hk : L[k]? = some (arr fl E 1 s l)) (h0 : 0 ≤ i) (hx : l[i.toNat]? = some x) (hy : fl y = [v])
    (kk : ∀ H', Sym H0 S H' (L.set k (arr fl E 1 s (l.set i.toNat y))) → K H') : IxA s.a s.n i 1 fun ad => StL ad 0 [v] H K := by
  have hl := hf.len x
  have h2 := h.sta (i := i) (j := 0) (y := y) (v := v) (K := K) hf hk h0 hx (by decide) (by
    rw [hy]
    match hm : fl x with
    | [] => rw [hm] at hl; cases hl
    | [a] => rfl
    | a :: b :: r => rw [hm] at hl; simp at hl) kk
  obtain ⟨ad, e1, e2, e3⟩ := h2
  refine ⟨ad, e1, e2, ?_⟩
  have e3' : StL ((ad.add (i.toNat * 1)).add 0) 0 [v] H K := e3
  rw [add_zero'] at e3'
  exact e3'
theorem Rd.ix1 {i : Int} {x : τ} {K : Addr → Prop} (h : Rd fl 1 H s l) (hf : Fl fl 1) (h0 : 0 ≤ i) (hx : l[i.toNat]? = some x) (k : ∀ ad, hcell H ad = (fl x)[0]? → K ad) : IxA s.a s.n i 1 K :=
  Rd.ix (by decide) hf h h0 hx fun ad _ e => k ad e
theorem Rd.ixn {i : Nat} {x : τ} {K : Addr → Prop} (h : Rd fl 1 H s l) (hf : Fl fl 1) (hx : l[i]? = some x) (k : ∀ ad, hcell H ad = (fl x)[0]? → K ad) : IxA s.a s.n (i : Int) 1 K :=
  Rd.ix (by decide) hf h (by omega) (by simpa using hx) fun ad _ e => k ad e
/-- at a row's own address -/
theorem Rd.at {i k : Nat} {x : τ} {v : Value} {base : Addr} (h : Rd fl sz H s l) (ha : s.a = some base) (hx : l[i]? = some x) (hv : (fl x)[k]? = some v) : hcell H ((base.add (i * sz)).add k) = some v := by
  obtain ⟨ad, e1, e2⟩ := h.el _ _ _ _ hx hv
  rw [ha] at e1
  cases e1
  rw [add_add]
  exact e2
theorem IxA.at {a : Option Addr} {n : Nat} {i : Int} {K : Addr → Prop} {base : Addr} (h : IxA a n i sz K) (ha : a = some base) : K (base.add (i.toNat * sz)) := by
  obtain ⟨ad, e1, _, e3⟩ := h
  rw [ha] at e1
  cases e1
  exact e3
theorem Sym.stn {k : Nat} {i : Nat} {x y : τ} {v : Value} {K : Hp → Prop} (h : Sym H0 S H L) (hf : Fl fl 1) (hk : L[k]? = some (arr fl E 1 s l)) (hx : l[i]? = some x) (hy : fl y = [v])
    (kk : ∀ H', Sym H0 S H' (L.set k (arr fl E 1 s (l.set i y))) → K H') : IxA s.a s.n (i : Int) 1 fun ad => StL ad 0 [v] H K :=
  h.st1 hf hk (by omega) (by simpa using hx) hy (by simpa using kk)
end
/-- rows that hold nothing yet -/
theorem Sym.none2 {τ : Type} {fl : τ → List Value} {sz n : Nat} {H0 H : Hp} {S : Nat → Prop} {R : List It} {E1 E2 : TypeId} {s : Sl} (h : Sym H0 S H (arr flS E1 1 s (List.replicate n ⟨none, 0, 0⟩) :: R)) :
    Sym H0 S H (rows2 fl E1 E2 sz none s (List.replicate n ⟨none, 0, 0⟩) (List.replicate n []) :: R) := by
  have hs : ∀ {i : Nat} {si : Sl}, (List.replicate n (⟨none, 0, 0⟩ : Sl))[i]? = some si → si = ⟨none, 0, 0⟩ := by
    intro i si hs
    rw [List.getElem?_replicate] at hs
    split at hs
    · cases hs; rfl
    · cases hs
  refine h.as (k := 0) rfl (fun hok => ⟨hok, by simp, ?_, ?_, ?_⟩) ?_
  · intro i si li _ h1 h2
    have hl : li = [] := by
      rw [List.getElem?_replicate] at h2
      split at h2
      · cases h2; rfl
      · cases h2
    rw [hs h1, hl]
    exact ⟨Row.nil _ _ _, by intro g o e; cases e⟩
  · intro i j si sj _ _ _ h1 _ b hb
    rw [hs h1] at hb
    exact (own_none rfl hb).elim
  · intro i si _ h1 b hb
    rw [hs h1] at hb
    exact (own_none rfl hb).elim
  · rintro i (hi | ⟨j, sj, _, h1, hb⟩)
    · exact hi
    · rw [hs h1] at hb
      exact (own_none rfl hb).elim
/-- rows of rows that are read -/
def RR {τ : Type} (fl : τ → List Value) (sz : Nat) (H : Hp) (s : Sl) (ls : List (List τ)) : Prop :=
  ∃ ss : List Sl, Rd flS 1 H s ss ∧ ss.length = ls.length ∧ ∀ (i : Nat) (si : Sl) (li : List τ), ss[i]? = some si → ls[i]? = some li → Rd fl sz H si li
theorem RR.more {τ : Type} {fl : τ → List Value} {sz : Nat} {H H' : Hp} {s : Sl} {ls : List (List τ)} (h : RR fl sz H s ls) (hf : Fr no H H') : RR fl sz H' s ls := by
  obtain ⟨ss, h1, h2, h3⟩ := h
  exact ⟨ss, h1.more hf, h2, fun i si li a b => (h3 i si li a b).more hf⟩
theorem RR.len {τ : Type} {fl : τ → List Value} {sz : Nat} {H : Hp} {s : Sl} {ls : List (List τ)} (h : RR fl sz H s ls) : s.n = ls.length := by
  obtain ⟨ss, h1, h2, h3⟩ := h
  rw [h1.len, h2]
theorem RR.ixn {τ : Type} {fl : τ → List Value} {sz : Nat} {H : Hp} {s : Sl} {ls : List (List τ)} {i : Nat} {li : List τ} {K : Addr → Prop} (h : RR fl sz H s ls) (hl : ls[i]? = some li) (k : ∀ ad si, Rd fl sz H si li → hcell H ad = some (.slice si.a si.n si.c) → K ad) : IxA s.a s.n (i : Int) 1 K := by
  obtain ⟨ss, h1, h2, h3⟩ := h
  have hi := (List.getElem?_eq_some_iff.1 hl).1
  have hs : ss[i]? = some (ss[i]'(by omega)) := List.getElem?_eq_getElem _
  exact h1.ixn FlS hs fun ad e => k ad _ (h3 i _ _ hs hl) e
theorem Rows2.rr {τ : Type} {fl : τ → List Value} {sz : Nat} {H : Hp} {E1 E2 : TypeId} {s : Sl} {ss : List Sl} {ls : List (List τ)} (h : Rows2 fl E1 E2 sz none H s ss ls) (hf : Fl fl sz) (hsz : 0 < sz) : RR fl sz H s ls :=
  ⟨ss, (h.rd hf hsz).1, h.len, (h.rd hf hsz).2⟩
theorem wi {n : Nat} (h : n ≤ 1000000000000) : w64 ((n : Int) + 1) = ((n + 1 : Nat) : Int) := by rw [wrap64 (by omega) (by omega)]; omega
theorem wd {n : Nat} (h : n ≤ 1000000000000) (h0 : 0 < n) : w64 ((n : Int) - 1) = ((n - 1 : Nat) : Int) := by rw [wrap64 (by omega) (by omega)]; omega
theorem wid {x : Int} (h1 : -1000000000000 ≤ x) (h2 : x ≤ 1000000000000) : w64 x = x := wrap64 (by omega) (by omega)
theorem dlt {a b : Nat} (h : decide ((a : Int) < (b : Int)) = true) : a < b := by have := of_decide_eq_true h; omega
theorem dge {a b : Nat} (h : decide ((a : Int) < (b : Int)) = false) : b ≤ a := by have := of_decide_eq_false h; omega
end Go.V
end

section
/- Rows of rows: cells of them, rows pushed; of no program. -/
set_option linter.unusedVariables false
set_option linter.unusedSimpArgs false
namespace Go.V
attribute [local irreducible] Cvt ExtF CallF hrun
section
variable {τ : Type} {fl : τ → List Value} {sz : Nat}
variable {H0 H H' : Hp} {S : Nat → Prop} {L R : List It} {P : Program} {T E E1 E2 : TypeId} {by' : Nat} {z : Value} {s t p si : Sl} {ss : List Sl} {l m li lp : List τ} {ls : List (List τ)}
/-- a cell of one of the rows is written -/
theorem Sym.set2 {i j : Nat} {x y : τ} {v : Value} {K : Hp → Prop} (h : Sym H0 S H (rows2 fl E1 E2 1 none s ss ls :: R)) (hf : Fl fl 1) (hs : ss[i]? = some si) (hl : ls[i]? = some li) (hx : li[j]? = some x) (hy : fl y = [v])
    (kk : ∀ H', Sym H0 S H' (rows2 fl E1 E2 1 none s ss (ls.set i (li.set j y)) :: R) → K H') : IxA si.a si.n (j : Int) 1 fun ad => StL ad 0 [v] H K := by
  have h1 := h.out2 hs hl
  refine h1.stn (k := 0) hf rfl hx hy fun H' h2 => kk H' ?_
  have h2' : Sym H0 S H' (arr fl E2 1 si (li.set j y) :: rows2 fl E1 E2 1 (some i) s ss ls :: R) := h2
  exact h2'.in2 hs (List.getElem?_eq_some_iff.1 hl).1
/-- a new row in the place of another one -/
theorem Sym.put2 {i : Nat} {u : Sl} {K : Hp → Prop} (h : Sym H0 S H (arr fl E2 sz p lp :: rows2 fl E1 E2 sz none s ss ls :: R)) (hs : ss[i]? = some u) (hl : ls[i]? = some li)
    (kk : ∀ H', Sym H0 S H' (rows2 fl E1 E2 sz none s (ss.set i p) (ls.set i lp) :: R) → K H') : IxA s.a s.n (i : Int) 1 fun ad => StL ad 0 [.slice p.a p.n p.c] H K := by
  have h1 := (h.swap).out2 hs hl
  have h2 : Sym H0 S H (arr fl E2 sz p lp :: rows2 fl E1 E2 sz (some i) s ss ls :: R) := by
    have h3 : Sym H0 S H (rows2 fl E1 E2 sz (some i) s ss ls :: arr fl E2 sz p lp :: R) := h1.drop
    exact h3.swap
  refine h2.st2 (k := 1) (t := p) rfl hs fun H' h3 => kk H' ?_
  have h3' : Sym H0 S H' (arr fl E2 sz p lp :: rows2 fl E1 E2 sz (some i) s (ss.set i p) ls :: R) := h3
  exact h3'.in2 (List.getElem?_set_self (List.getElem?_eq_some_iff.1 hs).1) (List.getElem?_eq_some_iff.1 hl).1
/-- a row pushed behind the others -/
theorem Sym.push2 {b ty : Nat} {K : Sl → Hp → Prop} (ht : TyS P T E1 1 by' z) (h : Sym H0 S H (rows2 fl E1 E2 sz none s ss ls :: arr fl E2 sz p lp :: R)) (hn : Newb H (.cells #[.slice p.a p.n p.c] E1) b H') (hl : (s.n + 1) * by' ≤ 140737488355328)
    (kk : ∀ s' H'', s'.n = s.n + 1 → Sym H0 S H'' (rows2 fl E1 E2 sz none s' (ss ++ [p]) (ls ++ [lp]) :: R) → K s' H'') : App P #[T, T] ty H' [.slice s.a s.n s.c, .slice (some ⟨b, 0, none⟩) 1 1] K := by
  have hok : Rows2 fl E1 E2 sz none H s ss ls := h.get (k := 0) rfl
  have hp : RowN fl E2 sz H p lp := h.get (k := 1) rfl
  have hap : apart (rows2 fl E1 E2 sz none s ss ls) (arr fl E2 sz p lp) := h.apt (i := 0) (j := 1) rfl rfl (by decide)
  have hno : ∀ j : Nat, (none : Option Nat) ≠ some j := fun j e => by cases e
  have h1 : Sym H (arr flS E1 1 s ss).fp H [arr flS E1 1 s ss] := Sym.start1 hok.out
  refine h1.app1 (k := 0) (x := p) ht FlS (by decide) hn rfl hl ?_
  intro s' H2 hn' h2
  have h2' : Sym H (arr flS E1 1 s ss).fp H2 [arr flS E1 1 s' (ss ++ [p])] := h2
  have hr : RowN flS E1 1 H2 s' (ss ++ [p]) := h2'.get (k := 0) rfl
  have hfr : Fr (own s) H H2 := h2'.fr
  have hown : ∀ i, own s' i → own s i ∨ H.size ≤ i := fun i hi => h2'.fp _ List.mem_cons_self i hi
  refine kk s' H2 hn' ?_
  have hrow : ∀ (si : Sl) (li : List τ), RowN fl E2 sz H si li → (∀ b, own si b → ¬ own s b) → RowN fl E2 sz H2 si li := fun si li hsi hd =>
    (arr fl E2 sz si li).st hsi fun b hb => hfr.keep b (hsi.row.lt hb) (hd b hb)
  have hpo : ∀ b, own p b → ¬ own s b := fun b h1 h2 => hap b (.inl h2) h1
  have hcase : ∀ (j : Nat) (sj : Sl), (ss ++ [p])[j]? = some sj → (j < ss.length ∧ ss[j]? = some sj) ∨ (j = ss.length ∧ sj = p) := by
    intro j sj hj
    by_cases hlt : j < ss.length
    · rw [List.getElem?_append_left hlt] at hj
      exact .inl ⟨hlt, hj⟩
    · rw [List.getElem?_append_right (by omega)] at hj
      have h0 : j - ss.length = 0 := by
        have := (List.getElem?_eq_some_iff.1 hj).1
        simp at this
        omega
      rw [h0] at hj
      simp only [List.getElem?_cons_zero, Option.some.injEq] at hj
      exact .inr ⟨by omega, hj.symm⟩
  have hnew : (rows2 fl E1 E2 sz none s' (ss ++ [p]) (ls ++ [lp])).ok H2 := by
    refine ⟨hr, by simp [hok.len], ?_, ?_, ?_⟩
    · intro j sj lj _ hj hlj
      rcases hcase j sj hj with ⟨w1, w2⟩ | ⟨rfl, rfl⟩
      · rw [List.getElem?_append_left (by rw [← hok.len]; exact w1)] at hlj
        exact hrow sj lj (hok.row j sj lj (hno j) w2 hlj) fun b hb hb2 => hok.ao j sj (hno j) w2 b hb hb2
      · have : lj = lp := by
          rw [hok.len, List.getElem?_append_right (Nat.le_refl _)] at hlj
          simpa using hlj.symm
        rw [this]
        exact hrow sj lp hp hpo
    · intro i j si sj _ _ hij hi hj b hb1 hb2
      rcases hcase i si hi with ⟨w1, w2⟩ | ⟨rfl, rfl⟩
      · rcases hcase j sj hj with ⟨w3, w4⟩ | ⟨rfl, rfl⟩
        · exact hok.ap i j si sj (hno i) (hno j) hij w2 w4 b hb1 hb2
        · exact hap b (.inr ⟨i, si, hno i, w2, hb1⟩) hb2
      · rcases hcase j sj hj with ⟨w3, w4⟩ | ⟨rfl, rfl⟩
        · exact hap b (.inr ⟨j, sj, hno j, w4, hb2⟩) hb1
        · exact hij rfl
    · intro j sj _ hj b hb1 hb2
      rcases hown b hb2 with hb2 | hb2
      · rcases hcase j sj hj with ⟨w1, w2⟩ | ⟨rfl, rfl⟩
        · exact hok.ao j sj (hno j) w2 b hb1 hb2
        · exact hpo b hb1 hb2
      · rcases hcase j sj hj with ⟨w1, w2⟩ | ⟨rfl, rfl⟩
        · have := (hok.row j sj _ (hno j) w2 (List.getElem?_eq_getElem (by rw [← hok.len]; exact w1))).row.lt hb1
          omega
        · have := hp.row.lt hb1
          omega
  have hS : Sym H (own s) H2 [] := ⟨hfr, by simp, List.Pairwise.nil, by simp⟩
  have hsep := h.sep
  rw [List.pairwise_cons, List.pairwise_cons] at hsep
  -- the whole
  have hS2 : Sym H (fun i => (rows2 fl E1 E2 sz none s ss ls).fp i ∨ (arr fl E2 sz p lp).fp i) H2 [rows2 fl E1 E2 sz none s' (ss ++ [p]) (ls ++ [lp])] := by
    refine ⟨hfr.mono fun i _ hi => .inl (.inl hi), by simpa using hnew, by simp, ?_⟩
    intro a ha i hi
    obtain rfl := List.mem_singleton.1 ha
    rcases hi with hi | ⟨j, sj, _, hj, hi⟩
    · rcases hown i hi with hi | hi
      · exact .inl (.inl (.inl hi))
      · exact .inr hi
    · rcases hcase j sj hj with ⟨w1, w2⟩ | ⟨rfl, rfl⟩
      · exact .inl (.inl (.inr ⟨j, sj, hno j, w2, hi⟩))
      · exact .inl (.inr hi)
  refine Sym.absorb (its := [rows2 fl E1 E2 sz none s ss ls, arr fl E2 sz p lp]) (R := R) h hS2 ?_
  rintro i (hi | hi)
  · exact ⟨_, List.mem_cons_self, hi⟩
  · exact ⟨_, List.mem_cons_of_mem _ List.mem_cons_self, hi⟩
theorem Sym.nil2 (h : Sym H0 S H L) (fl : τ → List Value) (E1 E2 : TypeId) (sz : Nat) : Sym H0 S H (rows2 fl E1 E2 sz none ⟨none, 0, 0⟩ [] [] :: L) :=
  h.new (Fr.refl _ _) ⟨⟨Row.nil _ _ _, by intro g o e; cases e⟩, rfl, by simp, by simp, by simp⟩ fun i hi => by
    rcases hi with hi | ⟨j, sj, _, hj, _⟩
    · exact (own_none rfl hi).elim
    · simp at hj
end
end Go.V
end

section
/- Texts as lists of bytes, and what the library's contracts say over heaps; of no program. -/
set_option linter.unusedVariables false
set_option linter.unusedSimpArgs false
namespace Go.V
attribute [local irreducible] Cvt ExtF CallF hrun
/-- the text of these bytes -/
def str (l : List UInt8) : ByteArray := ⟨l.toArray⟩
theorem str_of (s : ByteArray) : s = str s.data.toList := ByteArray.ext (by simp [str])
@[simp] theorem str_data (l : List UInt8) : (str l).data.toList = l := by simp [str]
theorem str_size (l : List UInt8) : (str l).size = l.length := by
  show l.toArray.size = _
  simp
theorem str_inj {a b : List UInt8} (h : str a = str b) : a = b := by
  have := congrArg (fun s : ByteArray => s.data.toList) h
  simpa using this
theorem str_app (a b : List UInt8) : str a ++ str b = str (a ++ b) := by
  apply ByteArray.ext
  show (str a ++ str b).data = _
  rw [ByteArray.data_append]
  simp [str]
theorem beq_str (a b : List UInt8) : beqS (str a) (str b) = decide (a = b) := by
  by_cases h : a = b
  · subst h
    rw [decide_eq_true rfl]
    exact beqS_iff.2 rfl
  · rw [decide_eq_false h]
    cases hb : beqS (str a) (str b) with
    | false => rfl
    | true => exact absurd (str_inj (beqS_iff.1 hb)) h
theorem lt_str (a b : List UInt8) : ltS (str a) (str b) = Op.bytesLess a b := by
  unfold ltS
  rw [ByteArray.toList_eq, ByteArray.toList_eq, str_data, str_data]
theorem str_nil : (⟨#[]⟩ : ByteArray) = str [] := rfl
theorem bt_str {l : List UInt8} {i : Nat} {b : UInt8} (h : l[i]? = some b) : bt (str l) (i : Int) = (b.toNat : Int) := by
  unfold bt
  rw [str_data, Int.toNat_natCast, List.getD_eq_getElem?_getD, h]
  rfl
theorem IxS.mk {l : List UInt8} {i : Nat} {b : UInt8} {K : Int → Prop} (h : l[i]? = some b) (k : K (b.toNat : Int)) : IxS (str l) (i : Int) K := by
  have hi := (List.getElem?_eq_some_iff.1 h).1
  refine ⟨⟨by omega, by rw [str_size]; omega⟩, ?_⟩
  rw [bt_str h]
  exact k
theorem ext_str {l : List UInt8} {a b : Nat} : (str l).extract a b = str ((l.drop a).take (b - a)) := by
  apply ByteArray.ext
  rw [ByteArray.data_extract]
  apply Array.ext'
  rw [Array.toList_extract]
  simp [str, List.extract_eq_take_drop]
theorem SlS.mk {l : List UInt8} {lo hi : Nat} {K : ByteArray → Prop} (h1 : lo ≤ hi) (h2 : hi ≤ l.length) (k : K (str ((l.drop lo).take (hi - lo)))) : SlS (str l) (lo : Int) (hi : Int) K := by
  refine ⟨⟨by omega, by omega, by rw [str_size]; omega⟩, ?_⟩
  rw [Int.toNat_natCast, Int.toNat_natCast, ext_str]
  exact k
theorem SlS.to {l : List UInt8} {hi : Nat} {K : ByteArray → Prop} (h2 : hi ≤ l.length) (k : K (str (l.take hi))) : SlS (str l) 0 (hi : Int) K := by
  have := @SlS.mk l 0 hi K (by omega) h2 (by simpa using k)
  exact this
theorem SlS.from {l : List UInt8} {lo : Nat} {K : ByteArray → Prop} (h2 : lo ≤ l.length) (k : K (str (l.drop lo))) : SlS (str l) (lo : Int) ((str l).size : Int) K := by
  rw [str_size]
  refine SlS.mk h2 (Nat.le_refl _) ?_
  have : (l.drop lo).take (l.length - lo) = l.drop lo := List.take_of_length_le (by simp)
  rw [this]
  exact k
/-- a table among the package's variables -/
def TabH (P : Program) (H : Hp) (name : String) (k : IntKind) (zs : List Int) : Prop := ∀ w : World, w.heap = H → Lib.TabIs P w name k zs
theorem TabH.of {P : Program} {w : World} {name : String} {k : IntKind} {zs : List Int} (h : Lib.TabIs P w name k zs) : TabH P w.heap name k zs := by
  intro w' hw
  unfold Lib.TabIs World.var? at h ⊢
  rw [hw]
  exact h
theorem TabH.more {P : Program} {H H' : Hp} {name : String} {k : IntKind} {zs : List Int} (h : TabH P H name k zs) (hf : Fr no H H') : TabH P H' name k zs := by
  intro w hw
  have h0 : ∃ w0 : World, w0.heap = H := ⟨{ w with heap := H }, rfl⟩
  obtain ⟨w0, hw0⟩ := h0
  have h1 := h w0 hw0
  unfold Lib.TabIs World.var? at h1 ⊢
  cases hg : P.globalNamed name with
  | none => rw [hg] at h1; cases h1
  | some g =>
    rw [hg] at h1
    simp only [Option.bind_some] at h1 ⊢
    rw [hw0] at h1
    rw [hw]
    cases hb : H[g]? with
    | none => rw [hb] at h1; cases h1
    | some o =>
      rw [hb] at h1
      rw [hf.at hb fun h => h]
      exact h1
/-- a contract of the library's that only lays new blocks -/
theorem callF_below {P : Program} {f : FuncId} {args : Array Value} {H : Hp} {v : Value} {K : Value → Hp → Prop} {Z : List PanicEntry → Hp → Prop} (h : ∀ w : World, w.heap = H → Calls P f args w fun e w' => e = .returned v ∧ Go.RowKit.Below w.heap.size w w')
    (k : ∀ H', Fr no H H' → K v H') : CallF P f args H K Z := by
  unfold CallF
  intro w hw
  refine (h w hw).mono ?_
  rintro e w' ⟨rfl, hb⟩
  refine ⟨⟨hb.os, hb.tape, hb.output⟩, ?_⟩
  refine k _ ⟨by rw [← hw]; exact hb.size, fun i hi _ => ?_⟩
  rw [← hw] at hi ⊢
  exact hb.block i hi
theorem callF_same {P : Program} {f : FuncId} {args : Array Value} {H : Hp} {v : Value} {K : Value → Hp → Prop} {Z : List PanicEntry → Hp → Prop} (h : ∀ w : World, w.heap = H → Calls P f args w fun e w' => e = .returned v ∧ w' = w)
    (k : K v H) : CallF P f args H K Z := by
  unfold CallF
  intro w hw
  refine (h w hw).mono ?_
  rintro e w' ⟨rfl, rfl⟩
  exact ⟨Lk.refl _, by rw [hw]; exact k⟩
end Go.V
end

section
/- Texts as lists of bytes in rows; rows that are only read; of no program. -/
set_option linter.unusedVariables false
set_option linter.unusedSimpArgs false
namespace Go.V
attribute [local irreducible] Cvt ExtF CallF hrun
def flL (l : List UInt8) : List Value := [.string (str l)]
theorem FlL : Fl flL 1 := ⟨fun _ => rfl, fun x v hv => by rw [List.mem_singleton.1 hv]; rfl⟩
def ltL (a b : List UInt8) : Bool := Op.bytesLess a b
theorem linL : Lin ltL := ⟨bl_irr, bl_tr, bl_tot⟩
theorem lt_strL (a b : List UInt8) : ltS (str a) (str b) = ltL a b := lt_str a b
/-- a row that is only read -/
def rdI {τ : Type} (fl : τ → List Value) (sz : Nat) (s : Sl) (l : List τ) : It where
  ok H := Rd fl sz H s l ∧ ∀ i, rown s i → i < H.size
  fp := rown s
  lt h hi := h.2 _ hi
  st := by
    intro H H' h hs
    have hlt : ∀ i, rown s i → i < H'.size := by
      intro i hi
      have h1 := hs i hi
      have h2 := h.2 i hi
      rw [Array.getElem?_eq_getElem h2] at h1
      exact (Array.getElem?_eq_some_iff.1 h1).1
    refine ⟨⟨h.1.len, h.1.le, fun i x k v hx hv => ?_⟩, hlt⟩
    obtain ⟨ad, ha, hc⟩ := h.1.el i x k v hx hv
    refine ⟨ad, ha, ?_⟩
    have hb : (ad.add (i * sz + k)).block = ad.block := add_block _ _
    have h1 := hs ad.block ⟨ad, ha, rfl⟩
    unfold hcell at hc ⊢
    rw [hb] at hc ⊢
    rw [h1]
    exact hc
/-- a text among texts -/
theorem els_rd {H : Hp} {s : Sl} {xs : List ByteArray} {val : ByteArray → Value} (hv : ∀ x, val x = .string x) (h : Els val H s xs) (hc : s.n ≤ s.c) : Rd flL 1 H s (xs.map (·.data.toList)) := by
  refine ⟨by rw [List.length_map]; exact h.len, hc, fun i x k v hx hk => ?_⟩
  rw [List.getElem?_map] at hx
  cases hxi : xs[i]? with
  | none => rw [hxi] at hx; cases hx
  | some y =>
    rw [hxi] at hx
    simp only [Option.map_some, Option.some.injEq] at hx
    subst hx
    have hk0 : k = 0 := by have := (List.getElem?_eq_some_iff.1 hk).1; simp [flL] at this; exact this
    subst hk0
    simp only [flL, List.getElem?_cons_zero, Option.some.injEq] at hk
    subst hk
    obtain ⟨ad, ha, hc⟩ := h.el i y hxi
    refine ⟨ad, ha, ?_⟩
    rw [Nat.add_zero, hc, hv, ← str_of]
theorem rd_els {H : Hp} {s : Sl} {xs : List (List UInt8)} {val : ByteArray → Value} (hv : ∀ x, val x = .string x) (h : Rd flL 1 H s xs) : Els val H s (xs.map str) := by
  refine ⟨by rw [List.length_map]; exact h.len, fun i x hx => ?_⟩
  rw [List.getElem?_map] at hx
  cases hxi : xs[i]? with
  | none => rw [hxi] at hx; cases hx
  | some y =>
    rw [hxi] at hx
    simp only [Option.map_some, Option.some.injEq] at hx
    subst hx
    obtain ⟨ad, ha, hc⟩ := h.el i y 0 (.string (str y)) hxi rfl
    exact ⟨ad, ha, by rw [hv]; exact hc⟩
/-- rising texts, as lists -/
theorem rising_map {ys : List ByteArray} (h : Rising ltS ys) : Rising ltL (ys.map (·.data.toList)) := by
  unfold Rising at h ⊢
  rw [List.pairwise_map]
  refine h.imp ?_
  intro a b hab
  rw [str_of a, str_of b, lt_str] at hab
  exact hab
theorem map_str (xs : List (List UInt8)) : (xs.map str).map (·.data.toList) = xs := by
  rw [List.map_map]
  have : ((·.data.toList) ∘ str : List UInt8 → List UInt8) = id := by
    funext x
    exact str_data x
  rw [this, List.map_id]
theorem u8_int {a b : UInt8} : (((a.toNat : Int) == (b.toNat : Int)) = true) ↔ a = b := by
  rw [beq_iff_eq]
  constructor
  · intro h
    exact UInt8.toNat_inj.1 (by omega)
  · rintro rfl
    rfl
/-- how many bytes two texts share at their beginnings -/
def shL : List UInt8 → List UInt8 → Nat
  | a :: x, b :: y => if a = b then shL x y + 1 else 0
  | _, _ => 0
theorem shL_at : ∀ {x y : List UInt8} {j : Nat}, j ≤ x.length → j ≤ y.length → x.take j = y.take j → (j = x.length ∨ j = y.length ∨ x[j]? ≠ y[j]?) → shL x y = j
  | [], y, j, h1, _, _, _ => by
    have : j = 0 := by simpa using h1
    subst this
    cases y <;> rfl
  | x :: xs, [], j, _, h2, _, _ => by
    have : j = 0 := by simpa using h2
    subst this
    rfl
  | x :: xs, y :: ys, 0, _, _, _, h => by
    rcases h with h | h | h
    · cases h
    · cases h
    · rw [shL, if_neg (fun e => h (by rw [e]; rfl))]
  | x :: xs, y :: ys, j + 1, h1, h2, he, h => by
    rw [List.take_succ_cons, List.take_succ_cons, List.cons.injEq] at he
    rw [shL, if_pos he.1, shL_at (by simpa using h1) (by simpa using h2) he.2 (by
      rcases h with h | h | h
      · left; simpa using h
      · right; left; simpa using h
      · right; right; simpa using h)]
theorem shL_le : ∀ (x y : List UInt8), shL x y ≤ x.length ∧ shL x y ≤ y.length ∧ x.take (shL x y) = y.take (shL x y)
  | [], y => by cases y <;> simp [shL]
  | x :: xs, [] => by simp [shL]
  | x :: xs, y :: ys => by
    rw [shL]
    by_cases h : x = y
    · rw [if_pos h]
      obtain ⟨a, b, c⟩ := shL_le xs ys
      exact ⟨by simpa using a, by simpa using b, by rw [List.take_succ_cons, List.take_succ_cons, c, h]⟩
    · rw [if_neg h]
      simp
end Go.V
end

section
/- slices.Delete of one element; a table, as a thing; of no program. -/
set_option linter.unusedVariables false
set_option linter.unusedSimpArgs false
namespace Go.V
attribute [local irreducible] Cvt ExtF CallF hrun
/-- one cell cleared -/
theorem clear1 {P : Program} {T E : TypeId} {inf : TypeInfo} {z : Value} (hu : P.underlying T = some (.slice E)) (hi : P.info? E = some inf) (hz : inf.zero = some z) (hzc : z.cells = #[z]) {H : Hp} {ad : Addr} {c : Nat} {ty : TypeId} {cs : Array Bool} {K : Value → Hp → Prop}
    (k : StL ad 0 [z] H fun H' => K (.tuple #[]) H') : Blt P .clear #[T] ty cs H [.slice (some ad) 1 c] K := by
  unfold Blt
  show hrun P (Builtin.clear_ #[T] ty #[.slice (some ad) 1 c] >>= fun v => pure (Next.value v)) H _ _
  refine hrun_bind _ (hrun.mono _ (K := K) (Z := fun _ _ => False) ?_ (fun v H' h => by simpa only [pure, hrun] using h) fun _ _ h => h)
  unfold Builtin.clear_
  simp only [List.getElem?_toArray, List.getElem?_cons_zero]
  refine hrun_pv (pv_underlying hu) ?_
  simp only
  refine hrun_pv (pv_zero hi hz) ?_
  have e : (Builtin.zeroCells z.cells 1).toList = [z] := by
    rw [hzc]
    simp [Builtin.zeroCells, Array.range, Array.ofFn_succ]
  rw [e]
  refine hrun_bind _ (hrun_storeCells [z] 0 ?_)
  refine StL.mono k fun H' h => ?_
  simpa only [pure, hrun] using h
/-- what slices.Delete does, by its condition -/
def DelV (P : Program) (T : TypeId) (H : Hp) (s : Sl) (i j : Int) (K : Value → Hp → Prop) : Prop :=
  SlX3 s.a s.c i j (s.n : Int) 1 fun cut => (((i == j) = true → K (.slice s.a s.n s.c) H) ∧ ((i == j) = false →
    (s.n ≤ s.c ∧ SlX s.a s.c 0 i 1 fun cut1 => (s.n ≤ s.c ∧ SlX s.a s.c j (s.n : Int) 1 fun cut2 => (App P #[T, T] T H [.slice cut1.a cut1.n cut1.c, .slice cut2.a cut2.n cut2.c] fun ap H1 =>
    (ap.n ≤ ap.c ∧ SlX ap.a ap.c (ap.n : Int) (s.n : Int) 1 fun cut3 => (Blt P .clear #[T] 0 #[false] H1 [.slice cut3.a cut3.n cut3.c] fun r H2 =>
    r = .tuple #[] ∧ K (.slice ap.a ap.n ap.c) H2)))))))
section
variable {τ : Type} {fl : τ → List Value} {H0 H : Hp} {S : Nat → Prop} {L : List It} {P : Program} {T E : TypeId} {by' : Nat} {z : Value} {s : Sl} {l : List τ}
theorem Sym.del {k i : Nat} {K : Value → Hp → Prop} (ht : TyS P T E 1 by' z) (hzc : z.cells = #[z]) (hz1 : z.oneCell = true) (h : Sym H0 S H L) (hf : Fl fl 1) (hk : L[k]? = some (arr fl E 1 s l)) (hi : i < l.length) (hl : s.n * by' ≤ 140737488355328)
    (kk : ∀ s' H', s'.n + 1 = s.n → Sym H0 S H' (L.set k (arr fl E 1 s' (l.eraseIdx i))) → K (.slice s'.a s'.n s'.c) H') : DelV P T H s (i : Int) ((i + 1 : Nat) : Int) K := by
  have hok : RowN fl E 1 H s l := h.get hk
  have hn := hok.len hf (by decide)
  have hle := hok.row.le
  obtain ⟨inf, i1, i2, i3, i4⟩ := info_of ht.i
  obtain ⟨g, hg⟩ := hok.row.some (by omega)
  have hrd := h.rd hf (by decide) hk
  refine ⟨⟨by omega, by omega, by omega, by omega⟩, fun he => ?_, fun _ => ⟨hle, ⟨by omega, by omega, by omega⟩, hle, ⟨by omega, by omega, by omega⟩, ?_⟩⟩
  · exfalso
    rw [beq_iff_eq] at he
    omega
  rw [show (0 : Int).toNat = 0 from rfl, Int.toNat_natCast, Int.toNat_natCast, Int.toNat_natCast, cut_lo]
  -- the beginning, as a row of its own
  have htr : RowN fl E 1 H ⟨s.a, i, s.c⟩ (l.take i) := by
    have h0 := Sym.trunc (K := fun _ => RowN fl E 1 H ⟨s.a, i, s.c⟩ (l.take i)) (Sym.start1 (a := arr fl E 1 s l) hok) hf (by decide) (k := 0) rfl (hi := i) (by omega) fun hs => hs.get (k := 0) rfl
    have h1 := h0.2.2
    exact h1
  have hpart := hrd.part hf (lo := i + 1) (hi := s.n) (by omega) (Nat.le_refl _)
  have hpl : ((l.drop (i + 1)).take (s.n - (i + 1))) = l.drop (i + 1) := List.take_of_length_le (by rw [List.length_drop]; omega)
  rw [hpl] at hpart
  have hm : (l.drop (i + 1)).length = s.n - (i + 1) := by rw [List.length_drop]; omega
  have hsrc := hpart.src hf (by decide)
  have htr' : Row H E inf.size ⟨s.a, i, s.c⟩ (flat fl (l.take i)) := by rw [i3]; exact htr.row
  refine app_row3 ht.u (by intro k; rw [ht.u]; simp) ⟨_, ht.u⟩ i1 i2 (by rw [i3]; exact ht.zc) (by rw [i4]; exact ht.b) htr' (by rw [i3]; exact hsrc) (flat_one hf) (by
    rw [i4, hm]
    refine Nat.le_trans (Nat.mul_le_mul_right _ ?_) hl
    show i + _ ≤ _
    omega) ?_
  intro ap H1 hrow hapn hfr hown hnf hin
  rw [i3] at hrow
  have hapn' : ap.n + 1 = s.n := by rw [hapn, hm]; show i + _ + 1 = _; omega
  obtain ⟨hc, ha⟩ := hin (by rw [hm]; show i + _ ≤ s.c; omega)
  have hc' : ap.c = s.c := hc
  have ha' : ap.a = s.a := ha
  refine ⟨by omega, ⟨by omega, by omega, by omega⟩, ?_⟩
  rw [Int.toNat_natCast, Int.toNat_natCast]
  have hcut : cut ap.a ap.c ap.n s.n 1 = ⟨some ⟨g, ap.n, none⟩, 1, ap.c - ap.n⟩ := by
    unfold cut
    rw [if_neg (by omega), ha', hg]
    have e1 : s.n - ap.n = 1 := by omega
    rw [e1]
    simp only [Option.map_some, Nat.mul_one]
    rw [add_mk, Nat.zero_add]
  rw [hcut]
  refine clear1 ht.u i1 i2 hzc ?_
  have hnf1 : Nf H1 ap := hnf htr.nf
  rcases hrow.2 with ⟨h1, _⟩ | ⟨g', cs, fr, h1, h2, h3, h4, h5, h6⟩
  · rw [ha', hg] at h1; cases h1
  have hgg : g' = g := by
    rw [ha', hg] at h1
    cases h1
    rfl
  subst hgg
  have hfr0 : fr = (0, 0) := by
    obtain ⟨cs', T', hb'⟩ := hnf1 g' 0 h1
    rw [h2] at hb'
    simp only [Option.some.injEq, Obj.cells.injEq] at hb'
    exact hb'.2.2
  subst hfr0
  refine stL_cells [z] 0 h2 (by simp only [List.length_cons, List.length_nil]; omega) (by simpa using hz1) (.inl (Nat.zero_le _)) fun H2 hg2 hf2 _ => ⟨rfl, ?_⟩
  have hfr2 : Fr (own s) H H2 := by
    refine (hfr.mono fun i _ hi => ?_).trans (hf2.mono fun i _ hi => ?_)
    · exact hi
    · rw [hi]; exact ⟨0, hg⟩
  refine kk ap H2 hapn' (h.setk hk hfr2 ⟨⟨?_, .inr ⟨g', cs.set ap.n z, (0, 0), h1, by simpa [setsL] using hg2, h3, by rw [List.length_set]; exact h4, ?_, Nat.zero_le _⟩⟩, fun g2 o e => ?_⟩ fun i hi => ?_)
  · have e : flat fl (l.eraseIdx i) = flat fl (l.take i) ++ flat fl (l.drop (i + 1)) := by rw [← flat_app, List.eraseIdx_eq_take_drop_succ]
    rw [e]
    exact hrow.1
  · have e : flat fl (l.eraseIdx i) = flat fl (l.take i) ++ flat fl (l.drop (i + 1)) := by rw [← flat_app, List.eraseIdx_eq_take_drop_succ]
    rw [e, ← h5, Nat.mul_one, List.take_set_of_le (Nat.le_refl _)]
  · rw [h1] at e
    simp only [Option.some.injEq, Addr.mk.injEq] at e
    rw [← e.1]
    exact ⟨_, _, by simpa [setsL] using hg2⟩
  · obtain ⟨o, hi⟩ := hi
    rw [h1] at hi
    simp only [Option.some.injEq, Addr.mk.injEq] at hi
    exact .inl ⟨0, by rw [← hi.1]; exact hg⟩
end
/-! ### tables -/
section
variable {τ : Type} {val : τ → Value} {lt : τ → τ → Bool} {E EI : TypeId}
def tbI (val : τ → Value) (lt : τ → τ → Bool) (E EI : TypeId) (b o : Nat) (T : TypeId) (cs : List Value) (ts : List τ) (os : List Nat) : It where
  ok H := TbS val lt E EI H b o T cs ts os
  fp i := i = b ∨ tOwn cs o i
  lt h hi := by
    rcases hi with rfl | hi
    · exact h.blk.lt
    · exact h.own_lt hi
  st := by
    intro H H' h hs
    obtain ⟨s1, s2, h1, h2, r1, r2, nf, ap⟩ := h.rows
    have rk : ∀ {s : Sl} {E : TypeId} {xs : List Value}, Row H E 1 s xs → (∀ i, own s i → tOwn cs o i) → Row H' E 1 s xs := by
      intro s E xs r ho
      refine ⟨r.1, ?_⟩
      rcases r.2 with h' | ⟨g, c, fr, ha, hg, h'⟩
      · exact .inl h'
      · exact .inr ⟨g, c, fr, ha, (hs g (.inr (ho g ⟨0, ha⟩))).trans hg, h'⟩
    refine ⟨(hs b (.inl rfl)).trans h.blk, ⟨s1, s2, h1, h2, rk r1 fun i hi => (tOwn_iff h1 h2 i).2 (.inl hi), rk r2 fun i hi => (tOwn_iff h1 h2 i).2 (.inr hi), ?_, ap⟩, h.nob, h.ok⟩
    intro g o' hg
    obtain ⟨c, T', hb⟩ := nf g o' hg
    exact ⟨c, T', (hs g (.inr ((tOwn_iff h1 h2 g).2 (.inr ⟨o', hg⟩)))).trans hb⟩
variable {H0 H H' : Hp} {S : Nat → Prop} {L : List It} {k b o : Nat} {T : TypeId} {cs cs' : List Value} {ts ts' : List τ} {os os' : List Nat}
theorem Sym.tb (h : Sym H0 S H L) (hk : L[k]? = some (tbI val lt E EI b o T cs ts os)) (ht : TbTo val lt E EI H H' b o T cs cs' ts' os') : Sym H0 S H' (L.set k (tbI val lt E EI b o T cs' ts' os')) :=
  h.setk hk ht.fr ht.st fun i hi => by
    rcases hi with rfl | hi
    · exact .inl (.inl rfl)
    · rcases ht.own i hi with h' | h'
      · exact .inl (.inr h')
      · exact .inr h'
/-- another field of the block is written -/
theorem Sym.tbset {i : Nat} {v : Value} {K : Hp → Prop} (h : Sym H0 S H L) (hk : L[k]? = some (tbI val lt E EI b o T cs ts os)) (hi : i < cs.length) (h1 : i ≠ o) (h2 : i ≠ o + 1) (hv : v.oneCell = true)
    (kk : ∀ H', Sym H0 S H' (L.set k (tbI val lt E EI b o T (cs.set i v) ts os)) → K H') : StL ⟨b, i, none⟩ 0 [v] H K := by
  have hok : TbS val lt E EI H b o T cs ts os := h.get hk
  refine st_blk hok.blk hi hv fun H' hb hf _ => ?_
  obtain ⟨s1, s2, e1, e2, r1, r2, nf, ap⟩ := hok.rows
  have g1 : (cs.set i v)[o]? = some (.slice s1.a s1.n s1.c) := by rw [List.getElem?_set_ne (by omega)]; exact e1
  have g2 : (cs.set i v)[o + 1]? = some (.slice s2.a s2.n s2.c) := by rw [List.getElem?_set_ne (by omega)]; exact e2
  have hown : ∀ j, tOwn (cs.set i v) o j ↔ tOwn cs o j := fun j => (tOwn_iff g1 g2 j).trans (tOwn_iff e1 e2 j).symm
  have hno : ∀ j, tOwn cs o j → j ≠ b := fun j hj e => hok.nob (e ▸ hj)
  refine kk H' (h.setk hk (hf.mono fun j _ hj => .inl hj) ⟨hb, ⟨s1, s2, g1, g2, r1.keep hf fun j hj => hno j ((tOwn_iff e1 e2 j).2 (.inl hj)), r2.keep hf fun j hj => hno j ((tOwn_iff e1 e2 j).2 (.inr hj)), nf.keep hf fun j hj => hno j ((tOwn_iff e1 e2 j).2 (.inr hj)), ap⟩, fun hb => hok.nob ((hown b).1 hb), hok.ok⟩ fun j hj => ?_)
  rcases hj with rfl | hj
  · exact .inl (.inl rfl)
  · exact .inl (.inr ((hown j).1 hj))
end
end Go.V
end

section
/- slices.BinarySearch over rising texts; of no program. -/
set_option linter.unusedVariables false
set_option linter.unusedSimpArgs false
namespace Go.V
attribute [local irreducible] Cvt ExtF CallF hrun
/-- slices.BinarySearch over texts, as it is printed; fl: cmp.Less, fn: isNaN -/
def BinV (P : Program) (fl fn : FuncId) (H : Hp) (x : Sl) (target : ByteArray) (K : Value → Hp → Prop) (Z : List PanicEntry → Hp → Prop) : Prop :=
  ∃ I : Int → Int → Hp → Nat → Prop, (∃ m, I 0 (x.n : Int) H m) ∧ ∀ (i : Int) (j : Int), ∀ H1 m1, I i j H1 m1 → 
    ∀ scr : Nat → Value, (((decide (i < j)) = true → IxA x.a x.n (w64 (Int.fdiv (IntKind.wrap .u64 (w64 (i + j))) (2 ^ 1))) 1 fun ad => 
    (∃ x1 : ByteArray, hcell H1 ad = some (.string x1) ∧ CallF P fl #[.string x1, .string target] H1 (fun r H2 => 
    ∃ y : Bool, r = .bool y ∧ ((y = true → (∃ m2, m2 < m1 ∧ I (w64 ((w64 (Int.fdiv (IntKind.wrap .u64 (w64 (i + j))) (2 ^ 1))) + 1)) j H2 m2)) ∧ 
    (y = false → (∃ m2, m2 < m1 ∧ I i (w64 (Int.fdiv (IntKind.wrap .u64 (w64 (i + j))) (2 ^ 1))) H2 m2)))) Z)) ∧ 
    ((decide (i < j)) = false → (((decide (i < (x.n : Int))) = true → IxA x.a x.n i 1 fun ad1 => (∃ x2 : ByteArray, hcell H1 ad1 = some (.string x2) ∧ 
    (((beqS x2 target) = true → K (.tuple #[.int .i64 i, .bool true]) H1) ∧ ((beqS x2 target) = false → 
    IxA x.a x.n i 1 fun ad2 => (∃ x3 : ByteArray, hcell H1 ad2 = some (.string x3) ∧ CallF P fn #[.string x3] H1 (fun r1 H3 => 
    ∃ y1 : Bool, r1 = .bool y1 ∧ ((y1 = true → CallF P fn #[.string target] H3 (fun r2 H4 => 
    ∃ y2 : Bool, r2 = .bool y2 ∧ K (.tuple #[.int .i64 i, .bool y2]) H4) Z) ∧ (y1 = false → K (.tuple #[.int .i64 i, .bool false]) H3))) Z))))) ∧ 
    ((decide (i < (x.n : Int))) = false → K (.tuple #[.int .i64 i, .bool false]) H1))))
/-- where a rising row parts at a text -/
structure PartAt (xs : List (List UInt8)) (t : List UInt8) (p : Nat) : Prop where
  le : p ≤ xs.length
  lo : ∀ (i : Nat) (x : List UInt8), i < p → xs[i]? = some x → ltL x t = true
  hi : ∀ (i : Nat) (x : List UInt8), p ≤ i → xs[i]? = some x → ltL x t = false
theorem PartAt.mem {xs : List (List UInt8)} {t : List UInt8} {p : Nat} (h : PartAt xs t p) (hr : Rising ltL xs) : t ∈ xs ↔ xs[p]? = some t := by
  constructor
  · intro hm
    obtain ⟨i, hi⟩ := List.getElem?_of_mem hm
    rcases Nat.lt_trichotomy i p with hip | hip | hip
    · have := h.lo i t hip hi
      rw [linL.irr] at this
      cases this
    · rw [← hip]; exact hi
    · obtain ⟨h2, e2⟩ := List.getElem?_eq_some_iff.1 hi
      have hp : p < xs.length := by omega
      have hlt := List.pairwise_iff_getElem.1 hr p i hp h2 hip
      rw [e2] at hlt
      have := h.hi p _ (Nat.le_refl _) (List.getElem?_eq_getElem hp)
      rw [hlt] at this
      cases this
  · exact fun hp => List.mem_of_getElem? hp
theorem binv_ok {P : Program} {fl fn : FuncId} {H : Hp} {s : Sl} {xs : List (List UInt8)} {t : List UInt8} {K : Value → Hp → Prop} {Z : List PanicEntry → Hp → Prop} (h : Rd flL 1 H s xs) (hr : Rising ltL xs) (hbig : xs.length ≤ 1000000000000)
    (hless : ∀ (a b : ByteArray) (K' : Value → Hp → Prop), K' (.bool (ltS a b)) H → CallF P fl #[.string a, .string b] H K' Z)
    (hnan : ∀ (a : ByteArray) (K' : Value → Hp → Prop), K' (.bool false) H → CallF P fn #[.string a] H K' Z)
    (k : ∀ p : Nat, PartAt xs t p → K (.tuple #[.int .i64 (p : Int), .bool (decide (t ∈ xs))]) H) : BinV P fl fn H s (str t) K Z := by
  have hn := h.len
  have mono : ∀ {i j : Nat} {x y : List UInt8}, i ≤ j → xs[i]? = some x → xs[j]? = some y → ltL y t = true → ltL x t = true := by
    intro i j x y hij hx hy hlt
    rcases Nat.eq_or_lt_of_le hij with rfl | hij
    · rw [hx] at hy; cases hy; exact hlt
    · obtain ⟨h1, e1⟩ := List.getElem?_eq_some_iff.1 hx
      obtain ⟨h2, e2⟩ := List.getElem?_eq_some_iff.1 hy
      have := List.pairwise_iff_getElem.1 hr i j h1 h2 hij
      rw [e1, e2] at this
      exact linL.tr _ _ _ this hlt
  unfold BinV
  refine ⟨fun i j A m => ∃ a b : Nat, A = H ∧ i = (a : Int) ∧ j = (b : Int) ∧ a ≤ b ∧ b ≤ xs.length ∧ m = b - a ∧ (∀ (i : Nat) x, i < a → xs[i]? = some x → ltL x t = true) ∧ (∀ (i : Nat) x, b ≤ i → xs[i]? = some x → ltL x t = false),
    ⟨_, 0, xs.length, rfl, rfl, by rw [hn], Nat.zero_le _, Nat.le_refl _, rfl, fun i x hi => by omega, fun i x hi hx => by have := (List.getElem?_eq_some_iff.1 hx).1; omega⟩, ?_⟩
  rintro i j A m ⟨a, b, rfl, rfl, rfl, hab, hb, rfl, hlo, hhi⟩ scr
  refine ⟨fun hlt => ?_, fun hge => ?_⟩
  · have hlt' : a < b := dlt hlt
    rw [mid_eq (by omega)]
    have hm1 : a ≤ (a + b) / 2 := by omega
    have hm2 : (a + b) / 2 < b := by omega
    generalize (a + b) / 2 = c at *
    have hv : xs[c]? = some (xs[c]'(by omega)) := List.getElem?_eq_getElem (by omega)
    generalize xs[c]'(by omega) = x at hv
    refine h.ixn FlL hv fun ad had => ⟨_, had, hless _ _ _ ⟨_, rfl, fun hy => ?_, fun hy => ?_⟩⟩
    · rw [lt_strL] at hy
      refine ⟨b - (c + 1), by omega, c + 1, b, rfl, wi (by omega), rfl, by omega, hb, rfl, fun i y hi hy' => mono (by omega) hy' hv hy, hhi⟩
    · rw [lt_strL] at hy
      refine ⟨c - a, by omega, a, c, rfl, rfl, rfl, by omega, by omega, rfl, hlo, fun i y hi hy' => ?_⟩
      cases e : ltL y t with
      | false => rfl
      | true => rw [mono hi hv hy' e] at hy; cases hy
  · have hab' : a = b := by have := dge hge; omega
    subst hab'
    have hp : PartAt xs t a := ⟨hb, hlo, hhi⟩
    have hk := k a hp
    refine ⟨fun hlt => ?_, fun hge2 => ?_⟩
    · have hlt' : a < xs.length := by have := dlt hlt; omega
      have hv : xs[a]? = some (xs[a]'hlt') := List.getElem?_eq_getElem hlt'
      generalize xs[a]'hlt' = x at hv
      refine h.ixn FlL hv fun ad had => ⟨_, had, fun he => ?_, fun he => ?_⟩
      · have hx : x = t := by rw [beq_str] at he; exact of_decide_eq_true he
        rw [decide_eq_true ((hp.mem hr).2 (by rw [hv, hx]))] at hk
        exact hk
      · have hx : x ≠ t := by rw [beq_str] at he; exact of_decide_eq_false he
        rw [decide_eq_false (fun hm => hx (by have := (hp.mem hr).1 hm; rw [hv] at this; exact Option.some.inj this))] at hk
        refine h.ixn FlL hv fun ad1 had1 => ⟨_, had1, hnan _ _ ⟨_, rfl, (fun h => by cases h), fun _ => hk⟩⟩
    · have hge2' : xs.length ≤ a := by have := dge hge2; omega
      rw [decide_eq_false (fun hm => by
        have := (hp.mem hr).1 hm
        rw [List.getElem?_eq_none hge2'] at this
        cases this)] at hk
      exact hk
end Go.V
end

section
/- Objects, functions, constraints, systems and summaries, as they lie in rows of rows; of no program. -/
set_option linter.unusedVariables false
set_option linter.unusedSimpArgs false
namespace Go.V
attribute [local irreducible] Cvt ExtF CallF hrun
abbrev L8 := List UInt8
abbrev Mk := Int × L8
structure ObjD where
  name : L8
  kinds : L8
  marks : List Mk
  deriving DecidableEq
structure FnD where
  name : L8
  kinds : L8
  ret : L8
  deriving DecidableEq
structure ConD where
  op : Int
  a : L8
  b : L8
  k : Int
  tag : L8
  args : List L8
  deriving DecidableEq
structure SysD where
  objs : List ObjD
  fns : List FnD
  cons : List ConD
  deriving DecidableEq
structure SumD where
  name : L8
  gives : List L8
  wants : List L8
  keeps : List L8
  sys : SysD
  deriving DecidableEq
instance : Inhabited ObjD := ⟨⟨[], [], []⟩⟩
instance : Inhabited FnD := ⟨⟨[], [], []⟩⟩
instance : Inhabited ConD := ⟨⟨0, [], [], 0, [], []⟩⟩
def flM (x : Mk) : List Value := [.int .i64 x.1, .string (str x.2)]
theorem FlM : Fl flM 2 := ⟨fun _ => rfl, fun x v hv => by
  unfold flM at hv
  simp only [List.mem_cons, List.not_mem_nil, or_false] at hv
  rcases hv with rfl | rfl <;> rfl⟩
def flF (x : FnD) : List Value := [.string (str x.name), .string (str x.kinds), .string (str x.ret)]
theorem FlF : Fl flF 3 := ⟨fun _ => rfl, fun x v hv => by
  unfold flF at hv
  simp only [List.mem_cons, List.not_mem_nil, or_false] at hv
  rcases hv with rfl | rfl | rfl <;> rfl⟩
/-- an object's own cells -/
abbrev HO := L8 × L8 × Sl
def flHO (h : HO) : List Value := [.string (str h.1), .string (str h.2.1), .slice h.2.2.a h.2.2.n h.2.2.c]
theorem FlHO : Fl flHO 3 := ⟨fun _ => rfl, fun x v hv => by
  unfold flHO at hv
  simp only [List.mem_cons, List.not_mem_nil, or_false] at hv
  rcases hv with rfl | rfl | rfl <;> rfl⟩
/-- a constraint's own cells -/
abbrev HC := Int × L8 × L8 × Int × L8 × Sl
def flHC (h : HC) : List Value := [.int .i64 h.1, .string (str h.2.1), .string (str h.2.2.1), .int .i64 h.2.2.2.1, .string (str h.2.2.2.2.1), .slice h.2.2.2.2.2.a h.2.2.2.2.2.n h.2.2.2.2.2.c]
theorem FlHC : Fl flHC 6 := ⟨fun _ => rfl, fun x v hv => by
  unfold flHC at hv
  simp only [List.mem_cons, List.not_mem_nil, or_false] at hv
  rcases hv with rfl | rfl | rfl | rfl | rfl | rfl <;> rfl⟩
def HO.of (x : ObjD) (s : Sl) : HO := (x.name, x.kinds, s)
def HC.of (x : ConD) (s : Sl) : HC := (x.op, x.a, x.b, x.k, x.tag, s)
/-- what lies behind an object's cells -/
def InO (H : Hp) (h : HO) (x : ObjD) : Prop := h = HO.of x h.2.2 ∧ Rd flM 2 H h.2.2 x.marks
def InC (H : Hp) (h : HC) (x : ConD) : Prop := h = HC.of x h.2.2.2.2.2 ∧ Rd flL 1 H h.2.2.2.2.2 x.args
/-- rows whose elements have rows of their own -/
def RdX {η χ : Type} (fl : η → List Value) (sz : Nat) (In : Hp → η → χ → Prop) (H : Hp) (s : Sl) (xs : List χ) : Prop :=
  ∃ hs : List η, Rd fl sz H s hs ∧ hs.length = xs.length ∧ ∀ (i : Nat) h x, hs[i]? = some h → xs[i]? = some x → In H h x
abbrev RdO := RdX flHO 3 InO
abbrev RdC := RdX flHC 6 InC
theorem InO.more {H H' : Hp} {h : HO} {x : ObjD} (k : InO H h x) (hf : Fr no H H') : InO H' h x := ⟨k.1, k.2.more hf⟩
theorem InC.more {H H' : Hp} {h : HC} {x : ConD} (k : InC H h x) (hf : Fr no H H') : InC H' h x := ⟨k.1, k.2.more hf⟩
section
variable {η χ : Type} {fl : η → List Value} {sz : Nat} {In : Hp → η → χ → Prop} {H H' : Hp} {s : Sl} {xs : List χ}
theorem RdX.more (hin : ∀ {h x}, In H h x → Fr no H H' → In H' h x) (k : RdX fl sz In H s xs) (hf : Fr no H H') : RdX fl sz In H' s xs := by
  obtain ⟨hs, h1, h2, h3⟩ := k
  exact ⟨hs, h1.more hf, h2, fun i h x a b => hin (h3 i h x a b) hf⟩
theorem RdX.len (k : RdX fl sz In H s xs) : s.n = xs.length := by
  obtain ⟨hs, h1, h2, h3⟩ := k
  rw [h1.len, h2]
theorem RdX.nil : RdX fl sz In H ⟨none, 0, 0⟩ ([] : List χ) := ⟨[], Rd.nil, rfl, by simp⟩
/-- one of them: its cells, and what is behind them -/
theorem RdX.get (k : RdX fl sz In H s xs) {i : Nat} {x : χ} (hx : xs[i]? = some x) : ∃ h, In H h x ∧ ∀ {hs : Fl fl sz} {hz : 0 < sz} {K : Addr → Prop}, (∀ ad, (∀ k v, (fl h)[k]? = some v → hcell H (ad.add k) = some v) → hcell H ad = (fl h)[0]? → K ad) → IxA s.a s.n (i : Int) sz K := by
  obtain ⟨hs, h1, h2, h3⟩ := k
  have hi := (List.getElem?_eq_some_iff.1 hx).1
  have hh : hs[i]? = some (hs[i]'(by omega)) := List.getElem?_eq_getElem _
  refine ⟨_, h3 i _ x hh hx, fun {hF hz K} kk => h1.ix hz hF (by omega) (by simp [hh]) kk⟩
theorem RdX.part (hf : Fl fl sz) (k : RdX fl sz In H s xs) {lo hi : Nat} (h1 : lo ≤ hi) (h2 : hi ≤ s.n) : RdX fl sz In H (cut s.a s.c lo hi sz) ((xs.drop lo).take (hi - lo)) := by
  obtain ⟨hs, a1, a2, a3⟩ := k
  refine ⟨_, a1.part hf h1 h2, by simp [a2], fun i h x hh hx => ?_⟩
  rw [List.getElem?_take] at hh hx
  split at hh
  · rename_i hlt
    rw [if_pos hlt] at hx
    rw [List.getElem?_drop] at hh hx
    exact a3 _ _ _ hh hx
  · cases hh
theorem RdX.le (k : RdX fl sz In H s xs) : s.n ≤ s.c := by
  obtain ⟨hs, h1, _⟩ := k
  exact h1.le
end
theorem RdO.more {H H' : Hp} {s : Sl} {xs : List ObjD} (k : RdO H s xs) (hf : Fr no H H') : RdO H' s xs := RdX.more (fun h hf => h.more hf) k hf
theorem RdC.more {H H' : Hp} {s : Sl} {xs : List ConD} (k : RdC H s xs) (hf : Fr no H H') : RdC H' s xs := RdX.more (fun h hf => h.more hf) k hf
/-- a system's three slices -/
structure RdSys (H : Hp) (s1 s2 s3 : Sl) (x : SysD) : Prop where
  o : RdO H s1 x.objs
  f : Rd flF 3 H s2 x.fns
  c : RdC H s3 x.cons
theorem RdSys.more {H H' : Hp} {s1 s2 s3 : Sl} {x : SysD} (k : RdSys H s1 s2 s3 x) (hf : Fr no H H') : RdSys H' s1 s2 s3 x := ⟨k.o.more hf, k.f.more hf, k.c.more hf⟩
/-- a summary's slices -/
structure RdSum (H : Hp) (s1 s2 s3 s4 s5 s6 : Sl) (x : SumD) : Prop where
  g : Rd flL 1 H s1 x.gives
  w : Rd flL 1 H s2 x.wants
  k : Rd flL 1 H s3 x.keeps
  s : RdSys H s4 s5 s6 x.sys
theorem RdSum.more {H H' : Hp} {s1 s2 s3 s4 s5 s6 : Sl} {x : SumD} (k : RdSum H s1 s2 s3 s4 s5 s6 x) (hf : Fr no H H') : RdSum H' s1 s2 s3 s4 s5 s6 x := ⟨k.g.more hf, k.w.more hf, k.k.more hf, k.s.more hf⟩
/-! ### many rows that are only read -/
section
variable {τ : Type} {fl : τ → List Value} {sz : Nat}
def rdsI (fl : τ → List Value) (sz : Nat) (ps : List (Sl × List τ)) : It where
  ok H := ∀ p ∈ ps, (rdI fl sz p.1 p.2).ok H
  fp i := ∃ p ∈ ps, rown p.1 i
  lt := by
    rintro H i h ⟨p, hp, hi⟩
    exact (rdI fl sz p.1 p.2).lt (h p hp) hi
  st := by
    intro H H' h hs p hp
    exact (rdI fl sz p.1 p.2).st (h p hp) fun i hi => hs i ⟨p, hp, hi⟩
variable {H0 H H' : Hp} {S : Nat → Prop} {L R : List It} {E : TypeId} {s : Sl} {l : List τ} {ps : List (Sl × List τ)}
theorem Sym.nilrds (h : Sym H0 S H L) (fl : τ → List Value) (sz : Nat) : Sym H0 S H (rdsI fl sz [] :: L) :=
  h.new (Fr.refl _ _) (fun p hp => by cases hp) fun i hi => by obtain ⟨p, hp, _⟩ := hi; cases hp
theorem RowN.rdi (hf : Fl fl sz) (hsz : 0 < sz) (h : RowN fl E sz H s l) : (rdI fl sz s l).ok H := by
  refine ⟨h.rd hf hsz, ?_⟩
  rintro i ⟨ad, ha, rfl⟩
  rcases h.row.2 with h' | ⟨g, cs, fr, ha', hg, _⟩
  · rw [h'.1] at ha; cases ha
  · rw [ha'] at ha
    cases ha
    exact (Array.getElem?_eq_some_iff.1 hg).1
theorem rown_own {i : Nat} (h : RowN fl E sz H s l) (hi : rown s i) : own s i := by
  obtain ⟨ad, ha, rfl⟩ := hi
  rcases h.row.2 with h' | ⟨g, cs, fr, ha', hg, _⟩
  · rw [h'.1] at ha; cases ha
  · rw [ha'] at ha
    cases ha
    exact ⟨0, ha'⟩
/-- a row of one's own goes among those that are only read -/
theorem Sym.inrds (hf : Fl fl sz) (hsz : 0 < sz) (h : Sym H0 S H (arr fl E sz s l :: rdsI fl sz ps :: R)) : Sym H0 S H (rdsI fl sz ((s, l) :: ps) :: R) := by
  have h0 : RowN fl E sz H s l := h.get (k := 0) rfl
  have h1 : (rdsI fl sz ps).ok H := h.get (k := 1) rfl
  have hs := h.sep
  rw [List.pairwise_cons, List.pairwise_cons] at hs
  have hfp : ∀ i, (rdsI fl sz ((s, l) :: ps)).fp i → own s i ∨ (rdsI fl sz ps).fp i := by
    rintro i ⟨p, hp, hi⟩
    rcases List.mem_cons.1 hp with rfl | hp
    · exact .inl (rown_own h0 hi)
    · exact .inr ⟨p, hp, hi⟩
  refine ⟨h.fr, ?_, ?_, ?_⟩
  · intro a ha
    rcases List.mem_cons.1 ha with rfl | ha
    · intro p hp
      rcases List.mem_cons.1 hp with rfl | hp
      · exact h0.rdi hf hsz
      · exact h1 p hp
    · exact h.ok a (List.mem_cons_of_mem _ (List.mem_cons_of_mem _ ha))
  · rw [List.pairwise_cons]
    refine ⟨?_, hs.2.2⟩
    intro a ha i hi hi2
    rcases hfp i hi with hi | hi
    · exact hs.1 a (List.mem_cons_of_mem _ ha) i hi hi2
    · exact hs.2.1 a ha i hi hi2
  · intro a ha i hi
    rcases List.mem_cons.1 ha with rfl | ha
    · rcases hfp i hi with hi | hi
      · exact h.fp _ List.mem_cons_self i hi
      · exact h.fp _ (List.mem_cons_of_mem _ List.mem_cons_self) i hi
    · exact h.fp a (List.mem_cons_of_mem _ (List.mem_cons_of_mem _ ha)) i hi
end
/-- one result of a text being in a rising list -/
theorem rising_same {a b : List L8} (ha : Rising ltL a) (hb : Rising ltL b) (h : ∀ z, z ∈ a ↔ z ∈ b) : a = b := by
  induction a generalizing b with
  | nil =>
    cases b with
    | nil => rfl
    | cons y b => exact absurd ((h y).2 List.mem_cons_self) (by simp)
  | cons x a ih =>
    cases b with
    | nil => exact absurd ((h x).1 List.mem_cons_self) (by simp)
    | cons y b =>
      unfold Rising at ha hb
      rw [List.pairwise_cons] at ha hb
      have hxy : x = y := by
        rcases List.mem_cons.1 ((h x).1 List.mem_cons_self) with e | hx
        · exact e
        · rcases List.mem_cons.1 ((h y).2 List.mem_cons_self) with e | hy
          · exact e.symm
          · have h1 := hb.1 x hx
            have h2 := ha.1 y hy
            have h3 := linL.tr _ _ _ h1 h2
            rw [linL.irr] at h3
            cases h3
      subst hxy
      congr 1
      refine ih ha.2 hb.2 fun z => ?_
      constructor
      · intro hz
        rcases List.mem_cons.1 ((h z).1 (List.mem_cons_of_mem _ hz)) with e | hz'
        · subst e
          have := ha.1 z hz
          rw [linL.irr] at this
          cases this
        · exact hz'
      · intro hz
        rcases List.mem_cons.1 ((h z).2 (List.mem_cons_of_mem _ hz)) with e | hz'
        · subst e
          have := hb.1 z hz
          rw [linL.irr] at this
          cases this
        · exact hz'
end Go.V
end

section
/- Elements of rows of objects, functions and constraints; of no program. -/
set_option linter.unusedVariables false
set_option linter.unusedSimpArgs false
namespace Go.V
attribute [local irreducible] Cvt ExtF CallF hrun
section
variable {H : Hp} {s : Sl} {i : Nat} {K : Addr → Prop}
theorem atM {xs : List Mk} {x : Mk} (h : Rd flM 2 H s xs) (hx : xs[i]? = some x) (k : ∀ ad, hcell H ad = some (.int .i64 x.1) → hcell H (ad.add 1) = some (.string (str x.2)) → K ad) : IxA s.a s.n (i : Int) 2 K :=
  h.ix (by decide) FlM (by omega) (by simpa using hx) fun ad h1 h2 => k ad h2 (h1 1 _ rfl)
theorem atF {xs : List FnD} {x : FnD} (h : Rd flF 3 H s xs) (hx : xs[i]? = some x) (k : ∀ ad, hcell H ad = some (.string (str x.name)) → hcell H (ad.add 1) = some (.string (str x.kinds)) → hcell H (ad.add 2) = some (.string (str x.ret)) → K ad) : IxA s.a s.n (i : Int) 3 K :=
  h.ix (by decide) FlF (by omega) (by simpa using hx) fun ad h1 h2 => k ad h2 (h1 1 _ rfl) (h1 2 _ rfl)
theorem atL {xs : List L8} {x : L8} (h : Rd flL 1 H s xs) (hx : xs[i]? = some x) (k : ∀ ad, hcell H ad = some (.string (str x)) → K ad) : IxA s.a s.n (i : Int) 1 K := h.ixn FlL hx fun ad e => k ad e
theorem atO {xs : List ObjD} {x : ObjD} (h : RdO H s xs) (hx : xs[i]? = some x) : ∃ t : Sl, Rd flM 2 H t x.marks ∧ ∀ {K : Addr → Prop}, (∀ ad, hcell H ad = some (.string (str x.name)) → hcell H (ad.add 1) = some (.string (str x.kinds)) → hcell H (ad.add 2) = some (.slice t.a t.n t.c) → K ad) → IxA s.a s.n (i : Int) 3 K := by
  obtain ⟨h1, ⟨e, r⟩, g⟩ := RdX.get h hx
  refine ⟨h1.2.2, r, fun {K} k => g (hs := FlHO) (hz := by decide) fun ad h2 h3 => ?_⟩
  rw [e] at h2 h3
  exact k ad h3 (h2 1 _ rfl) (h2 2 _ rfl)
theorem atC {xs : List ConD} {x : ConD} (h : RdC H s xs) (hx : xs[i]? = some x) : ∃ t : Sl, Rd flL 1 H t x.args ∧ ∀ {K : Addr → Prop}, (∀ ad, hcell H ad = some (.int .i64 x.op) → hcell H (ad.add 1) = some (.string (str x.a)) → hcell H (ad.add 2) = some (.string (str x.b)) → hcell H (ad.add 3) = some (.int .i64 x.k) →
    hcell H (ad.add 4) = some (.string (str x.tag)) → hcell H (ad.add 5) = some (.slice t.a t.n t.c) → K ad) → IxA s.a s.n (i : Int) 6 K := by
  obtain ⟨h1, ⟨e, r⟩, g⟩ := RdX.get h hx
  refine ⟨h1.2.2.2.2.2, r, fun {K} k => g (hs := FlHC) (hz := by decide) fun ad h2 h3 => ?_⟩
  rw [e] at h2 h3
  exact k ad h3 (h2 1 _ rfl) (h2 2 _ rfl) (h2 3 _ rfl) (h2 4 _ rfl) (h2 5 _ rfl)
end
/-- a place in a list -/
theorem getN {α : Type} {xs : List α} {i : Nat} (h : i < xs.length) : ∃ x, xs[i]? = some x ∧ x ∈ xs := ⟨xs[i], List.getElem?_eq_getElem h, List.getElem_mem h⟩
theorem all_snoc {α : Type} {xs : List α} {i : Nat} {x : α} {P : α → Prop} (h : xs[i]? = some x) (h1 : ∀ y ∈ xs.take i, P y) (hx : P x) : ∀ y ∈ xs.take (i + 1), P y := by
  intro y hy
  rw [List.take_add_one, h] at hy
  rcases List.mem_append.1 hy with hy | hy
  · exact h1 y hy
  · rw [Option.toList_some, List.mem_singleton] at hy
    rw [hy]
    exact hx
def okO (o : ObjD) : Prop := o.name.length ≤ 1048576 ∧ o.kinds.length ≤ 1048576 ∧ o.marks.length ≤ 1048576 ∧ ∀ m ∈ o.marks, m.2.length ≤ 1048576
def okF (f : FnD) : Prop := f.name.length ≤ 1048576 ∧ f.kinds.length ≤ 1048576 ∧ f.ret.length ≤ 1048576
def okC (c : ConD) : Prop := c.a.length ≤ 1048576 ∧ c.b.length ≤ 1048576 ∧ c.tag.length ≤ 1048576 ∧ c.args.length ≤ 1048576 ∧ ∀ x ∈ c.args, x.length ≤ 1048576
structure OkSys (x : SysD) : Prop where
  o : x.objs.length ≤ 1048576 ∧ ∀ o ∈ x.objs, okO o
  f : x.fns.length ≤ 1048576 ∧ ∀ f ∈ x.fns, okF f
  c : x.cons.length ≤ 1048576 ∧ ∀ c ∈ x.cons, okC c
structure OkSum (x : SumD) : Prop where
  n : x.name.length ≤ 1048576
  g : x.gives.length ≤ 1048576 ∧ ∀ y ∈ x.gives, y.length ≤ 1048576
  w : x.wants.length ≤ 1048576 ∧ ∀ y ∈ x.wants, y.length ≤ 1048576
  k : x.keeps.length ≤ 1048576 ∧ ∀ y ∈ x.keeps, y.length ≤ 1048576
  s : OkSys x.sys
theorem subset_len {α : Type} [DecidableEq α] : ∀ {a b : List α}, a.Nodup → (∀ z ∈ a, z ∈ b) → a.length ≤ b.length
  | [], b, _, _ => by simp
  | x :: a, b, hn, h => by
    rw [List.nodup_cons] at hn
    have hx := h x List.mem_cons_self
    have ih := subset_len (a := a) (b := b.erase x) hn.2 fun z hz => (List.mem_erase_of_ne (by rintro rfl; exact hn.1 hz)).2 (h z (List.mem_cons_of_mem _ hz))
    rw [List.length_erase_of_mem hx] at ih
    have := List.length_pos_of_mem hx
    rw [List.length_cons]
    omega
theorem rising_nodup {a : List L8} (h : Rising ltL a) : a.Nodup := by
  unfold Rising at h
  refine List.Pairwise.imp (fun hxy e => ?_) h
  subst e
  rw [linL.irr] at hxy
  cases hxy
theorem rising_len {a b : List L8} (h : Rising ltL a) (hm : ∀ z, z ∈ a ↔ z ∈ b) : a.length ≤ b.length := subset_len (rising_nodup h) fun z hz => (hm z).1 hz
/-- lengths alone -/
structure LenSys (x : SysD) : Prop where
  o : x.objs.length ≤ 1048576 ∧ ∀ o ∈ x.objs, o.marks.length ≤ 1048576
  f : x.fns.length ≤ 1048576
  c : x.cons.length ≤ 1048576 ∧ ∀ c ∈ x.cons, c.args.length ≤ 1048576
structure LenSum (x : SumD) : Prop where
  g : x.gives.length ≤ 1048576
  w : x.wants.length ≤ 1048576
  k : x.keeps.length ≤ 1048576
  s : LenSys x.sys
theorem OkSys.len {x : SysD} (h : OkSys x) : LenSys x := ⟨⟨h.o.1, fun o ho => (h.o.2 o ho).2.2.1⟩, h.f.1, ⟨h.c.1, fun c hc => (h.c.2 c hc).2.2.2.1⟩⟩
theorem OkSum.len {x : SumD} (h : OkSum x) : LenSum x := ⟨h.g.1, h.w.1, h.k.1, h.s.len⟩
/-- what is not great -/
structure Mild (most : Nat) (x : SysD) : Prop where
  o : x.objs.length ≤ most ∧ ∀ o ∈ x.objs, o.marks.length ≤ 3000
  f : x.fns.length ≤ most
  c : x.cons.length ≤ most ∧ ∀ c ∈ x.cons, c.args.length ≤ 6000
structure MildS (x : SumD) : Prop where
  g : x.gives.length ≤ 60
  w : x.wants.length ≤ 60
  k : x.keeps.length ≤ 200
  s : Mild 80 x.sys
end Go.V
end
