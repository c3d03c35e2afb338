/- Things apart, each on blocks of its own, over a base: symbolic heaps; of no program. -/
import Derived.Test.YtigbdoicgdmliaaDoorV15
set_option linter.unusedVariables false
set_option linter.unusedSimpArgs false
namespace Go.V
attribute [local irreducible] Cvt ExtF CallF hrun
theorem erase_perm {α : Type} : ∀ {l : List α} {k : Nat} {a : α}, l[k]? = some a → (a :: l.eraseIdx k).Perm l
  | [], k, a, h => by simp at h
  | x :: l, 0, a, h => by
    simp only [List.getElem?_cons_zero, Option.some.injEq] at h
    subst h
    exact List.Perm.refl _
  | x :: l, k + 1, a, h => by
    rw [List.getElem?_cons_succ] at h
    rw [List.eraseIdx_cons_succ]
    exact (List.Perm.swap _ _ _).trans ((erase_perm h).cons x)
/-- something that lies on blocks of its own -/
structure It where
  ok : Hp → Prop
  fp : Nat → Prop
  lt : ∀ {H : Hp} {i : Nat}, ok H → fp i → i < H.size
  st : ∀ {H H' : Hp}, ok H → (∀ i, fp i → H'[i]? = H[i]?) → ok H'
def apart (a b : It) : Prop := ∀ i, a.fp i → b.fp i → False
theorem apart.symm {a b : It} (h : apart a b) : apart b a := fun i x y => h i y x
/-- from H0 on, where nothing beside S has turned: these things, apart -/
structure Sym (H0 : Hp) (S : Nat → Prop) (H : Hp) (l : List It) : Prop where
  fr : Fr S H0 H
  ok : ∀ a ∈ l, a.ok H
  sep : l.Pairwise apart
  fp : ∀ a ∈ l, ∀ i, a.fp i → S i ∨ H0.size ≤ i
theorem It.keep {a : It} {S : Nat → Prop} {H H' : Hp} (h : a.ok H) (hf : Fr S H H') (hs : ∀ i, a.fp i → ¬ S i) : a.ok H' := a.st h fun i hi => hf.keep i (a.lt h hi) (hs i hi)
section
variable {H0 H H' : Hp} {S T : Nat → Prop} {l R N its : List It} {a b : It}
theorem Sym.start (H : Hp) : Sym H no H [] := ⟨Fr.refl _ _, by simp, List.Pairwise.nil, by simp⟩
theorem Sym.start1 (h : a.ok H) : Sym H a.fp H [a] := ⟨Fr.refl _ _, by simpa using h, by simp, by intro x hx i hi; rw [List.mem_singleton.1 hx] at hi; exact .inl hi⟩
theorem Sym.get (h : Sym H0 S H l) {k : Nat} (hk : l[k]? = some a) : a.ok H := h.ok a (List.mem_of_getElem? hk)
theorem Sym.apt (h : Sym H0 S H l) {i j : Nat} (hi : l[i]? = some a) (hj : l[j]? = some b) (hij : i ≠ j) : apart a b := by
  obtain ⟨h1, rfl⟩ := List.getElem?_eq_some_iff.1 hi
  obtain ⟨h2, rfl⟩ := List.getElem?_eq_some_iff.1 hj
  have hs := List.pairwise_iff_getElem.1 h.sep
  rcases Nat.lt_or_gt_of_ne hij with h3 | h3
  · exact hs i j h1 h2 h3
  · exact (hs j i h2 h1 h3).symm
theorem Sym.perm (h : Sym H0 S H l) (hp : l.Perm R) : Sym H0 S H R :=
  ⟨h.fr, fun a ha => h.ok a (hp.mem_iff.2 ha), h.sep.perm hp apart.symm, fun a ha => h.fp a (hp.mem_iff.2 ha)⟩
theorem Sym.sub (h : Sym H0 S H l) (hp : R.Sublist l) : Sym H0 S H R :=
  ⟨h.fr, fun a ha => h.ok a (hp.mem ha), h.sep.sublist hp, fun a ha => h.fp a (hp.mem ha)⟩
/-- one of them to the front -/
theorem Sym.pick (h : Sym H0 S H l) {k : Nat} (hk : l[k]? = some a) : Sym H0 S H (a :: l.eraseIdx k) := by
  exact h.perm (erase_perm hk).symm
theorem Sym.swap (h : Sym H0 S H (a :: b :: l)) : Sym H0 S H (b :: a :: l) := h.perm (List.Perm.swap _ _ _)
theorem Sym.drop (h : Sym H0 S H (a :: l)) : Sym H0 S H l := h.sub (List.sublist_cons_self _ _)
/-- only new blocks -/
theorem Sym.more (h : Sym H0 S H l) (hf : Fr no H H') : Sym H0 S H' l :=
  ⟨h.fr.step hf fun _ _ h => h.elim, fun a ha => It.keep (h.ok a ha) hf fun _ _ h => h, h.sep, h.fp⟩
/-- what a piece does on things of its own -/
theorem Sym.absorb (h : Sym H0 S H (its ++ R)) (k : Sym H T H' N) (ht : ∀ i, T i → ∃ a ∈ its, a.fp i) : Sym H0 S H' (N ++ R) := by
  have hsep := h.sep
  rw [List.pairwise_append] at hsep
  obtain ⟨s1, s2, s3⟩ := hsep
  refine ⟨h.fr.step k.fr ?_, ?_, ?_, ?_⟩
  · intro i hi hti
    obtain ⟨a, ha, hf⟩ := ht i hti
    rcases h.fp a (List.mem_append.2 (.inl ha)) i hf with h1 | h1
    · exact h1
    · omega
  · intro b hb
    rcases List.mem_append.1 hb with hb | hb
    · exact k.ok b hb
    · refine It.keep (h.ok b (List.mem_append.2 (.inr hb))) k.fr ?_
      intro i hi hti
      obtain ⟨a, ha, hf⟩ := ht i hti
      exact s3 a ha b hb i hf hi
  · rw [List.pairwise_append]
    refine ⟨k.sep, s2, ?_⟩
    intro x hx y hy i h1 h2
    rcases k.fp x hx i h1 with h3 | h3
    · obtain ⟨a, ha, hf⟩ := ht i h3
      exact s3 a ha y hy i hf h2
    · have := y.lt (h.ok y (List.mem_append.2 (.inr hy))) h2
      omega
  · intro b hb i hi
    rcases List.mem_append.1 hb with hb | hb
    · rcases k.fp b hb i hi with h1 | h1
      · obtain ⟨a, ha, hf⟩ := ht i h1
        exact h.fp a (List.mem_append.2 (.inl ha)) i hf
      · exact .inr (Nat.le_trans h.fr.size h1)
    · exact h.fp b (List.mem_append.2 (.inr hb)) i hi
theorem Sym.join (h : Sym H0 S H R) (k : Sym H no H' N) : Sym H0 S H' (N ++ R) := Sym.absorb (its := []) (R := R) h k fun _ h => h.elim
theorem Sym.join1 (h : Sym H0 S H (a :: R)) (k : Sym H a.fp H' N) : Sym H0 S H' (N ++ R) := Sym.absorb (its := [a]) (R := R) h k fun i hi => ⟨a, List.mem_singleton.2 rfl, hi⟩
/-- one of them turned -/
theorem Sym.upd (h : Sym H0 S H (a :: R)) (hf : Fr a.fp H H') (hb : b.ok H') (hp : ∀ i, b.fp i → a.fp i ∨ H.size ≤ i) : Sym H0 S H' (b :: R) :=
  Sym.join1 (N := [b]) h ⟨hf, by simpa using hb, by simp, by simpa using hp⟩
theorem Sym.setk (h : Sym H0 S H l) {k : Nat} (hk : l[k]? = some a) (hf : Fr a.fp H H') (hb : b.ok H') (hp : ∀ i, b.fp i → a.fp i ∨ H.size ≤ i) : Sym H0 S H' (l.set k b) := by
  have h1 := (h.pick hk).upd hf hb hp
  refine h1.perm ?_
  have h2 := (List.getElem?_eq_some_iff.1 hk).1
  have e : (l.set k b).eraseIdx k = l.eraseIdx k := List.eraseIdx_set_eq ..
  have h3 : (l.set k b)[k]? = some b := List.getElem?_set_self h2
  have h4 := erase_perm h3
  rw [e] at h4
  exact h4
/-- a new thing -/
theorem Sym.new (h : Sym H0 S H l) (hf : Fr no H H') (hb : b.ok H') (hp : ∀ i, b.fp i → H.size ≤ i) : Sym H0 S H' (b :: l) :=
  Sym.join (N := [b]) h ⟨hf, by simpa using hb, by simp, by intro x hx i hi; rw [List.mem_singleton.1 hx] at hi; exact .inr (hp i hi)⟩
/-- one thing as another one, on no more blocks -/
theorem Sym.as (h : Sym H0 S H l) {k : Nat} (hk : l[k]? = some a) (hb : a.ok H → b.ok H) (hp : ∀ i, b.fp i → a.fp i) : Sym H0 S H (l.set k b) :=
  h.setk hk (Fr.refl _ _) (hb (h.get hk)) fun i hi => .inl (hp i hi)
/-- the base kept, where S has nothing of it -/
theorem Sym.frno (h : Sym H0 no H l) : Fr no H0 H := h.fr
/-- a part taken out of the base -/
theorem Sym.fp0 (h : Sym H0 no H l) {k : Nat} (hk : l[k]? = some a) {i : Nat} (hi : a.fp i) : H0.size ≤ i := (h.fp a (List.mem_of_getElem? hk) i hi).resolve_left fun h => h
end

/-! ### blocks -/
def blk (b : Nat) (cs : List Value) (T : TypeId) : It where
  ok H := Blk H b cs T
  fp i := i = b
  lt h hi := by subst hi; exact h.lt
  st h hs := (hs b rfl).trans h
/-- any block -/
def obj (b : Nat) (o : Obj) : It where
  ok H := H[b]? = some o
  fp i := i = b
  lt h hi := by subst hi; exact lt_of_some h
  st h hs := (hs b rfl).trans h
section
variable {H0 H H' : Hp} {S : Nat → Prop} {l : List It}
theorem Sym.newb {b : Nat} {cs : List Value} {T : TypeId} (h : Sym H0 S H l) (hn : Newb H (.cells cs.toArray T) b H') : Sym H0 S H' (blk b cs T :: l) :=
  h.new hn.fr hn.blk fun i hi => by have := hn.eq; have : i = b := hi; omega
theorem Sym.newo {b : Nat} {o : Obj} (h : Sym H0 S H l) (hn : Newb H o b H') : Sym H0 S H' (obj b o :: l) :=
  h.new hn.fr hn.get fun i hi => by have := hn.eq; have : i = b := hi; omega
theorem Sym.ld {b k : Nat} {cs : List Value} {T : TypeId} (h : Sym H0 S H l) (hk : l[k]? = some (blk b cs T)) (i : Nat) : hcell H ⟨b, i, none⟩ = cs[i]? :=
  Blk.ld (h.get hk) i
theorem Sym.stb {b i k : Nat} {v : Value} {cs : List Value} {T : TypeId} {K : Hp → Prop} (h : Sym H0 S H l) (hk : l[k]? = some (blk b cs T)) (hi : i < cs.length) (hv : v.oneCell = true)
    (kk : ∀ H', Sym H0 S H' (l.set k (blk b (cs.set i v) T)) → K H') : StL ⟨b, i, none⟩ 0 [v] H K :=
  st_blk (h.get hk) hi hv fun H' h1 h2 _ => kk H' (h.setk hk h2 h1 fun i hi => .inl hi)
/-- several cells of a block -/
theorem Sym.stbs {b i k : Nat} {vs : List Value} {cs : List Value} {T : TypeId} {K : Hp → Prop} (h : Sym H0 S H l) (hk : l[k]? = some (blk b cs T)) (hi : i + vs.length ≤ cs.length) (hv : ∀ v ∈ vs, v.oneCell = true)
    (kk : ∀ H', Sym H0 S H' (l.set k (blk b (setsL cs i vs) T)) → K H') : StL ⟨b, i, none⟩ 0 vs H K := by
  refine stL_cells (o := i) vs 0 (h.get hk) (by omega) hv (.inr (Nat.le_refl _)) fun H' h1 h2 _ => kk H' (h.setk hk h2 h1 fun i hi => .inl hi)
end

/-! ### rows of typed elements -/
section
variable {τ : Type}
/-- elements flat -/
def flat (fl : τ → List Value) (l : List τ) : List Value := l.flatMap fl
/-- an element's cells -/
structure Fl (fl : τ → List Value) (sz : Nat) : Prop where
  len : ∀ x, (fl x).length = sz
  one : ∀ x, ∀ v ∈ fl x, v.oneCell = true
variable {fl : τ → List Value} {sz : Nat}
theorem flat_len (hf : Fl fl sz) : ∀ l : List τ, (flat fl l).length = l.length * sz
  | [] => by simp [flat]
  | x :: l => by
    have := flat_len hf l
    unfold flat at this ⊢
    rw [List.flatMap_cons, List.length_append, this, hf.len, List.length_cons, Nat.succ_mul]
    omega
theorem flat_one (hf : Fl fl sz) {l : List τ} : ∀ v ∈ flat fl l, v.oneCell = true := by
  intro v hv
  obtain ⟨x, _, hx⟩ := List.mem_flatMap.1 hv
  exact hf.one x v hx
theorem flat_app (l m : List τ) : flat fl (l ++ m) = flat fl l ++ flat fl m := by simp [flat]
theorem flat_sing (x : τ) : flat fl [x] = fl x := by simp [flat]
theorem flat_nil : flat fl ([] : List τ) = [] := rfl
theorem flat_get (hf : Fl fl sz) : ∀ {l : List τ} {i : Nat} {x : τ} {k : Nat}, l[i]? = some x → k < sz → (flat fl l)[i * sz + k]? = (fl x)[k]?
  | [], i, x, k, h, _ => by simp at h
  | y :: l, 0, x, k, h, hk => by
    simp only [List.getElem?_cons_zero, Option.some.injEq] at h
    subst h
    unfold flat
    rw [List.flatMap_cons, Nat.zero_mul, Nat.zero_add, List.getElem?_append_left (by rw [hf.len]; exact hk)]
  | y :: l, i + 1, x, k, h, hk => by
    rw [List.getElem?_cons_succ] at h
    have := flat_get hf h hk
    unfold flat at this ⊢
    rw [List.flatMap_cons, List.getElem?_append_right (by rw [hf.len, Nat.succ_mul]; omega), hf.len]
    rw [← this]
    congr 1
    rw [Nat.succ_mul]
    omega
theorem flat_set (hf : Fl fl sz) : ∀ {l : List τ} {i : Nat} {x y : τ} {k : Nat} {v : Value}, l[i]? = some x → k < sz → fl y = (fl x).set k v → (flat fl l).set (i * sz + k) v = flat fl (l.set i y)
  | [], i, x, y, k, v, h, _, _ => by simp at h
  | z :: l, 0, x, y, k, v, h, hk, e => by
    simp only [List.getElem?_cons_zero, Option.some.injEq] at h
    subst h
    unfold flat
    rw [List.flatMap_cons, Nat.zero_mul, Nat.zero_add, List.set_append_left _ _ (by rw [hf.len]; exact hk), List.set_cons_zero, List.flatMap_cons, e]
  | z :: l, i + 1, x, y, k, v, h, hk, e => by
    rw [List.getElem?_cons_succ] at h
    have := flat_set hf h hk e
    unfold flat at this ⊢
    rw [List.flatMap_cons, List.set_append_right _ _ (by rw [hf.len, Nat.succ_mul]; omega), hf.len, List.set_cons_succ, List.flatMap_cons, ← this]
    congr 2
    rw [Nat.succ_mul]
    omega
theorem flat_take (hf : Fl fl sz) : ∀ (l : List τ) (k : Nat), (flat fl l).take (k * sz) = flat fl (l.take k)
  | [], k => by simp [flat]
  | x :: l, 0 => by simp [flat]
  | x :: l, k + 1 => by
    have := flat_take hf l k
    unfold flat at this ⊢
    rw [List.take_succ_cons, List.flatMap_cons, List.flatMap_cons, ← this, Nat.succ_mul, Nat.add_comm, ← hf.len x, List.take_append, List.take_of_length_le (by omega)]
    congr 2
    omega
theorem flat_drop (hf : Fl fl sz) : ∀ (l : List τ) (k : Nat), (flat fl l).drop (k * sz) = flat fl (l.drop k)
  | [], k => by simp [flat]
  | x :: l, 0 => by simp [flat]
  | x :: l, k + 1 => by
    have := flat_drop hf l k
    unfold flat at this ⊢
    rw [List.drop_succ_cons, List.flatMap_cons, ← this, Nat.succ_mul, Nat.add_comm, ← hf.len x, List.drop_append, List.drop_of_length_le (by omega), List.nil_append]
    congr 1
    omega
/-- a row that is read -/
structure Rd (fl : τ → List Value) (sz : Nat) (H : Hp) (s : Sl) (l : List τ) : Prop where
  len : s.n = l.length
  le : s.n ≤ s.c
  el : ∀ (i : Nat) (x : τ) (k : Nat) (v : Value), l[i]? = some x → (fl x)[k]? = some v → ∃ ad, s.a = some ad ∧ hcell H (ad.add (i * sz + k)) = some v
theorem add_add (ad : Addr) (i k : Nat) : (ad.add i).add k = ad.add (i + k) := by
  unfold Addr.add
  by_cases hk : k = 0
  · simp [hk]
  · by_cases hi : i = 0
    · simp [hi, hk]
    · have : i + k ≠ 0 := by omega
      simp [hi, hk, this]
      omega
/-- the block that is read -/
def rown (s : Sl) (i : Nat) : Prop := ∃ ad, s.a = some ad ∧ ad.block = i
theorem Rd.keep {S : Nat → Prop} {H H' : Hp} {s : Sl} {l : List τ} (h : Rd fl sz H s l) (hf : Fr S H H') (hs : ∀ i, rown s i → ¬ S i) : Rd fl sz H' s l := by
  refine ⟨h.len, h.le, fun i x k v h1 h2 => ?_⟩
  obtain ⟨ad, ha, hc⟩ := h.el i x k v h1 h2
  refine ⟨ad, ha, hf.cell hc ?_⟩
  rw [add_block]
  exact hs _ ⟨ad, ha, rfl⟩
theorem Rd.more {H H' : Hp} {s : Sl} {l : List τ} (h : Rd fl sz H s l) (hf : Fr no H H') : Rd fl sz H' s l := h.keep hf fun _ _ h => h
theorem Rd.nil {H : Hp} : Rd fl sz H ⟨none, 0, 0⟩ [] := ⟨rfl, Nat.le_refl _, by simp⟩
/-- an element's address, and what lies there -/
theorem Rd.ix {H : Hp} {s : Sl} {l : List τ} {i : Int} {x : τ} {K : Addr → Prop} (hsz : 0 < sz) (hf : Fl fl sz) (h : Rd fl sz H s l) (h0 : 0 ≤ i) (hx : l[i.toNat]? = some x)
    (k : ∀ ad, (∀ k v, (fl x)[k]? = some v → hcell H (ad.add k) = some v) → hcell H ad = (fl x)[0]? → K ad) : IxA s.a s.n i sz K := by
  have hi := (List.getElem?_eq_some_iff.1 hx).1
  have hl := h.len
  have h00 : (fl x)[0]? = some ((fl x)[0]'(by rw [hf.len]; exact hsz)) := List.getElem?_eq_getElem _
  obtain ⟨ad, ha, hc⟩ := h.el _ _ _ _ hx h00
  refine ⟨ad, ha, ⟨h0, by omega⟩, k _ ?_ ?_⟩
  · intro k v hv
    obtain ⟨ad', ha', hc'⟩ := h.el _ _ _ _ hx hv
    rw [ha] at ha'
    cases ha'
    rw [add_add]
    exact hc'
  · rw [h00]
    exact hc
theorem Rd.part {H : Hp} {s : Sl} {l : List τ} (hf : Fl fl sz) (h : Rd fl sz H s l) {lo hi : Nat} (h1 : lo ≤ hi) (h2 : hi ≤ s.n) : Rd fl sz H (cut s.a s.c lo hi sz) ((l.drop lo).take (hi - lo)) := by
  have hl := h.len
  have hle := h.le
  refine ⟨?_, ?_, ?_⟩
  · show hi - lo = _
    rw [List.length_take, List.length_drop]
    omega
  · show hi - lo ≤ s.c - lo
    omega
  · intro i x k v hx hv
    rw [List.getElem?_take] at hx
    split at hx
    · rename_i hlt
      rw [List.getElem?_drop] at hx
      obtain ⟨ad, ha, hc⟩ := h.el _ _ _ _ hx hv
      have hlo : s.c ≠ lo := by omega
      refine ⟨ad.add (lo * sz), ?_, ?_⟩
      · unfold cut
        rw [if_neg hlo, ha]
        rfl
      · rw [add_add]
        have : lo * sz + (i * sz + k) = (lo + i) * sz + k := by rw [Nat.add_mul]; omega
        rw [this]
        exact hc
    · cases hx
/-- a row of one's own, nothing of it frozen -/
structure RowN (fl : τ → List Value) (E : TypeId) (sz : Nat) (H : Hp) (s : Sl) (l : List τ) : Prop where
  row : Row H E sz s (flat fl l)
  nf : Nf H s
theorem own_iff {s : Sl} {g o i : Nat} (h : s.a = some ⟨g, o, none⟩) : own s i ↔ i = g := by
  unfold own
  rw [h]
  constructor
  · rintro ⟨o', e⟩
    simp only [Option.some.injEq, Addr.mk.injEq] at e
    exact e.1.symm
  · rintro rfl
    exact ⟨o, rfl⟩
theorem own_none {s : Sl} {i : Nat} (h : s.a = none) : ¬ own s i := by
  rintro ⟨o, e⟩
  rw [h] at e
  cases e
theorem RowN.len (hf : Fl fl sz) (hsz : 0 < sz) {E : TypeId} {H : Hp} {s : Sl} {l : List τ} (h : RowN fl E sz H s l) : s.n = l.length := by
  have := h.row.1
  rw [flat_len hf] at this
  exact (Nat.eq_of_mul_eq_mul_right hsz this).symm
theorem RowN.rd (hf : Fl fl sz) (hsz : 0 < sz) {E : TypeId} {H : Hp} {s : Sl} {l : List τ} (h : RowN fl E sz H s l) : Rd fl sz H s l := by
  have hn := h.len hf hsz
  refine ⟨hn, h.row.le, fun i x k v hx hv => ?_⟩
  have hi := (List.getElem?_eq_some_iff.1 hx).1
  obtain ⟨g, hg⟩ := h.row.some (by omega)
  have hk : k < sz := by have := (List.getElem?_eq_some_iff.1 hv).1; rw [hf.len] at this; exact this
  refine ⟨_, hg, ?_⟩
  have hlen := flat_len hf l
  have hb : i * sz + k < l.length * sz := by
    have : (i + 1) * sz ≤ l.length * sz := Nat.mul_le_mul_right _ hi
    rw [Nat.succ_mul] at this
    omega
  rw [h.row.ld hg _ (by omega), flat_get hf hx hk]
  exact hv
/-- the row as a thing -/
def arr (fl : τ → List Value) (E : TypeId) (sz : Nat) (s : Sl) (l : List τ) : It where
  ok H := RowN fl E sz H s l
  fp i := own s i
  lt h hi := h.row.lt hi
  st := by
    intro H H' h hs
    refine ⟨⟨h.row.1, ?_⟩, ?_⟩
    · rcases h.row.2 with h' | ⟨g, cs, fr, ha, hg, h'⟩
      · exact .inl h'
      · exact .inr ⟨g, cs, fr, ha, (hs g ⟨0, ha⟩).trans hg, h'⟩
    · intro g o hg
      obtain ⟨cs, T, hb⟩ := h.nf g o hg
      exact ⟨cs, T, (hs g ⟨o, hg⟩).trans hb⟩
section
variable {H0 H H' : Hp} {S : Nat → Prop} {L : List It} {E : TypeId} {s : Sl} {l : List τ}
theorem Sym.rd {k : Nat} (h : Sym H0 S H L) (hf : Fl fl sz) (hsz : 0 < sz) (hk : L[k]? = some (arr fl E sz s l)) : Rd fl sz H s l := RowN.rd hf hsz (h.get hk)
theorem Sym.nilrow (h : Sym H0 S H L) (fl : τ → List Value) (E : TypeId) (sz : Nat) : Sym H0 S H (arr fl E sz ⟨none, 0, 0⟩ [] :: L) :=
  h.new (Fr.refl _ _) ⟨Row.nil _ _ _, by intro g o e; cases e⟩ fun i hi => (own_none rfl hi).elim
/-- one cell of an element is written -/
theorem Sym.sta {k : Nat} {i : Int} {j : Nat} {x y : τ} {v : Value} {K : Hp → Prop} (h : Sym H0 S H L) (hf : Fl fl sz) (hk : L[k]? = some (arr fl E sz s l)) (h0 : 0 ≤ i) (hx : l[i.toNat]? = some x) (hj : j < sz) (hy : fl y = (fl x).set j v)
    (kk : ∀ H', Sym H0 S H' (L.set k (arr fl E sz s (l.set i.toNat y))) → K H') : IxA s.a s.n i sz fun ad => StL (ad.add j) 0 [v] H K := by
  have hok : RowN fl E sz H s l := h.get hk
  have hi := (List.getElem?_eq_some_iff.1 hx).1
  have hn := hok.len hf (by omega)
  obtain ⟨g, hg⟩ := hok.row.some (by omega)
  rcases hok.row.2 with ⟨ha, _⟩ | ⟨g', cs, fr, ha, hb, h1, h2, h3, h4⟩
  · rw [hg] at ha; cases ha
  rw [hg] at ha
  cases ha
  refine ⟨_, hg, ⟨h0, by omega⟩, ?_⟩
  show StL (((⟨g, 0, none⟩ : Addr).add (i.toNat * sz)).add j) 0 [v] H K
  rw [add_mk, add_mk, Nat.zero_add]
  have hlen := flat_len hf l
  have hb1 : i.toNat * sz + j < l.length * sz := by
    have : (i.toNat + 1) * sz ≤ l.length * sz := Nat.mul_le_mul_right _ hi
    rw [Nat.succ_mul] at this
    omega
  have hc1 : l.length * sz ≤ cs.length := by rw [h2, ← hn]; exact Nat.mul_le_mul_right _ h1
  have hfr : fr = (0, 0) := by
    obtain ⟨cs', T', hb'⟩ := hok.nf g 0 hg
    rw [hb] at hb'
    simp only [Option.some.injEq, Obj.cells.injEq] at hb'
    exact hb'.2.2
  subst hfr
  have hv1 : v.oneCell = true := by
    refine hf.one y v ?_
    rw [hy]
    have := hf.len x
    exact List.mem_iff_getElem?.2 ⟨j, by rw [List.getElem?_set_self (by omega)]⟩
  refine stL_cells (o := i.toNat * sz + j) [v] 0 hb (by simp; omega) (by simpa using hv1) (.inr (Nat.le_refl _)) fun H' g1 g2 g3 => kk H' (h.setk hk (g2.mono fun q _ e => ⟨0, by rw [e]; exact hg⟩) ⟨⟨?_, .inr ⟨g, _, (0, 0), hg, g1, h1, ?_, ?_, Nat.zero_le _⟩⟩, ?_⟩ fun q hq => .inl hq)
  · rw [flat_len hf, List.length_set, hn]
  · rw [setsL_length]
    exact h2
  · rw [← flat_set hf hx hj hy, ← h3]
    simp only [setsL, Nat.add_zero]
    rw [List.take_set]
  · intro g' o' e
    rw [hg] at e
    simp only [Option.some.injEq, Addr.mk.injEq] at e
    exact ⟨_, _, by rw [← e.1]; exact g1⟩
/-- what is appended -/
theorem Rd.src (hf : Fl fl sz) (hsz : 0 < sz) {m : List τ} {t : Sl} (h : Rd fl sz H t m) : Src H sz (.slice t.a t.n t.c) m.length (flat fl m) := by
  refine ⟨flat_len hf m, ?_⟩
  have hl := h.len
  cases hm : t.a with
  | none =>
    refine ⟨hl, ?_⟩
    apply Classical.byContradiction
    intro hne
    have hx : m[0]? = some (m[0]'(by omega)) := List.getElem?_eq_getElem _
    have hv : (fl (m[0]'(by omega)))[0]? = some ((fl (m[0]'(by omega)))[0]'(by rw [hf.len]; exact hsz)) := List.getElem?_eq_getElem _
    obtain ⟨ad, ha, _⟩ := h.el _ _ _ _ hx hv
    rw [hm] at ha
    cases ha
  | some ad =>
    refine ⟨hl, ?_⟩
    have key : ∀ (n i : Nat), n = (flat fl m).length - i → AtL H ad i ((flat fl m).drop i) := by
      intro n
      induction n with
      | zero =>
        intro i hi
        rw [List.drop_of_length_le (by omega)]
        trivial
      | succ n ih =>
        intro i hi
        have hil : i < (flat fl m).length := by omega
        rw [List.drop_eq_getElem_cons hil]
        refine ⟨?_, ih (i + 1) (by omega)⟩
        have hd : i = i / sz * sz + i % sz := by rw [Nat.mul_comm]; exact (Nat.div_add_mod i sz).symm
        have hr := Nat.mod_lt i hsz
        have hq : i / sz < m.length := by
          rw [flat_len hf] at hil
          exact Nat.div_lt_of_lt_mul (by rw [Nat.mul_comm]; exact hil)
        have hx : m[i / sz]? = some (m[i / sz]'hq) := List.getElem?_eq_getElem _
        have hg := flat_get hf hx hr
        rw [← hd, List.getElem?_eq_getElem hil] at hg
        obtain ⟨ad', ha', hc⟩ := h.el _ _ _ _ hx hg.symm
        rw [hm] at ha'
        cases ha'
        rw [← hd] at hc
        exact hc
    have := key _ 0 rfl
    rwa [List.drop_zero] at this
/-- more elements behind the row's -/
theorem Sym.app {P : Program} {T T2 : TypeId} {inf : TypeInfo} {z : Value} {ty : TypeId} {k : Nat} {y : Value} {m : List τ} {K : Sl → Hp → Prop} (h : Sym H0 S H L) (hf : Fl fl sz) (hsz0 : 0 < sz) (hk : L[k]? = some (arr fl E sz s l))
    (hu : P.underlying T = some (.slice E)) (hu2 : ∀ k, P.underlying T2 ≠ some (.int k)) (hu2' : ∃ d, P.underlying T2 = some d) (hi : P.info? E = some inf) (hz : inf.zero = some z) (hzs : z.cells.size = inf.size) (hb : 0 < inf.bytes) (hs : inf.size = sz)
    (hy : Src H sz y m.length (flat fl m)) (hl : (s.n + m.length) * inf.bytes ≤ 140737488355328)
    (kk : ∀ s' H', s'.n = s.n + m.length → Sym H0 S H' (L.set k (arr fl E sz s' (l ++ m))) → K s' H') : App P #[T, T2] ty H [.slice s.a s.n s.c, y] K := by
  have hok : RowN fl E sz H s l := h.get hk
  subst hs
  refine app_row2 hu hu2 hu2' hi hz hzs hb hok.row hy (flat_one hf) hl ?_
  intro s' H' h1 h2 h3 h4 h5
  refine kk s' H' h2 (h.setk hk h3 ⟨?_, h5 hok.nf⟩ h4)
  rw [flat_app]
  exact h1
end
end
end Go.V

