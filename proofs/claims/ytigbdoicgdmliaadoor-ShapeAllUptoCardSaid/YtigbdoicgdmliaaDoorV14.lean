/- A table (two rows, of things and of their numbers in order) in a block; of no program. -/
import Derived.Test.YtigbdoicgdmliaaDoorV13
set_option linter.unusedVariables false
set_option linter.unusedSimpArgs false
namespace Go.V
section
variable {τ : Type}
def numV (os : List Nat) : List Value := os.map fun (k : Nat) => Value.int .i64 (k : Int)
theorem numV_one (os : List Nat) : ∀ v ∈ numV os, v.oneCell = true := by
  intro v hv
  obtain ⟨b, _, rfl⟩ := List.mem_map.1 hv
  rfl
/-- a row of things that is read -/
structure Els (val : τ → Value) (H : Hp) (s : Sl) (xs : List τ) : Prop where
  len : s.n = xs.length
  el : ∀ (i : Nat) (x : τ), xs[i]? = some x → ∃ ad, s.a = some ad ∧ hcell H (ad.add (i * 1)) = some (val x)
theorem Els.keep {val : τ → Value} {S : Nat → Prop} {H H' : Hp} {s : Sl} {xs : List τ} (h : Els val H s xs) (hf : Fr S H H') (hs : ∀ i, i < H.size → ¬ S i) : Els val H' s xs := by
  refine ⟨h.len, fun i p hp => ?_⟩
  obtain ⟨ad, h2, h3⟩ := h.el i p hp
  exact ⟨ad, h2, hf.cell h3 (hs _ (hcell_lt h3))⟩
theorem Els.row {val : τ → Value} {H : Hp} {E : TypeId} {s : Sl} {xs : List τ} (h : Row H E 1 s (xs.map val)) : Els val H s xs := by
  have hl := h.1
  rw [List.length_map, Nat.mul_one] at hl
  refine ⟨hl.symm, fun i x hx => ?_⟩
  have hi : i < xs.length := (List.getElem?_eq_some_iff.1 hx).1
  obtain ⟨g, hg⟩ := h.some (by omega)
  refine ⟨_, hg, ?_⟩
  rw [h.ld hg (i * 1) (by rw [List.length_map]; omega), Nat.mul_one, List.getElem?_map, hx]
  rfl
/-- the rows' blocks -/
def tOwn (cs : List Value) (o : Nat) (i : Nat) : Prop := ∃ off n c, cs[o]? = some (.slice (some ⟨i, off, none⟩) n c) ∨ cs[o + 1]? = some (.slice (some ⟨i, off, none⟩) n c)
structure TbS (val : τ → Value) (lt : τ → τ → Bool) (E EI : TypeId) (H : Hp) (b o : Nat) (T : TypeId) (cs : List Value) (ts : List τ) (os : List Nat) : Prop where
  blk : Blk H b cs T
  rows : ∃ s1 s2 : Sl, cs[o]? = some (.slice s1.a s1.n s1.c) ∧ cs[o + 1]? = some (.slice s2.a s2.n s2.c) ∧ Row H E 1 s1 (ts.map val) ∧ Row H EI 1 s2 (numV os) ∧ Nf H s2 ∧ (∀ i, own s1 i → own s2 i → False)
  nob : ¬ tOwn cs o b
  ok : Tbl lt ts os
structure TbTo (val : τ → Value) (lt : τ → τ → Bool) (E EI : TypeId) (H H' : Hp) (b o : Nat) (T : TypeId) (cs cs' : List Value) (ts : List τ) (os : List Nat) : Prop where
  st : TbS val lt E EI H' b o T cs' ts os
  len : cs'.length = cs.length
  rest : ∀ i, i ≠ o → i ≠ o + 1 → cs'[i]? = cs[i]?
  fr : Fr (fun i => i = b ∨ tOwn cs o i) H H'
  own : ∀ i, tOwn cs' o i → tOwn cs o i ∨ H.size ≤ i
variable {val : τ → Value} {lt : τ → τ → Bool} {E EI : TypeId}
theorem tOwn_iff {s1 s2 : Sl} {cs : List Value} {o : Nat} (h1 : cs[o]? = some (.slice s1.a s1.n s1.c)) (h2 : cs[o + 1]? = some (.slice s2.a s2.n s2.c)) (i : Nat) : tOwn cs o i ↔ own s1 i ∨ own s2 i := by
  unfold tOwn own
  rw [h1, h2]
  constructor
  · rintro ⟨off, n, c, h | h⟩
    · simp only [Option.some.injEq, Value.slice.injEq] at h
      exact .inl ⟨off, h.1⟩
    · simp only [Option.some.injEq, Value.slice.injEq] at h
      exact .inr ⟨off, h.1⟩
  · rintro (⟨off, h⟩ | ⟨off, h⟩)
    · exact ⟨off, s1.n, s1.c, .inl (by rw [h])⟩
    · exact ⟨off, s2.n, s2.c, .inr (by rw [h])⟩
section
variable {H : Hp} {b o : Nat} {T : TypeId} {cs : List Value} {ts : List τ} {os : List Nat}
theorem TbS.own_lt (h : TbS val lt E EI H b o T cs ts os) {i : Nat} (hi : tOwn cs o i) : i < H.size := by
  obtain ⟨s1, s2, h1, h2, r1, r2, nf, ap⟩ := h.rows
  rcases (tOwn_iff h1 h2 i).1 hi with h | h
  · exact r1.lt h
  · exact r2.lt h
theorem TbS.keep {S : Nat → Prop} {H' : Hp} (h : TbS val lt E EI H b o T cs ts os) (hf : Fr S H H') (hb : ¬ S b) (hs : ∀ i, tOwn cs o i → ¬ S i) : TbS val lt E EI H' b o T cs ts os := by
  obtain ⟨s1, s2, h1, h2, r1, r2, nf, ap⟩ := h.rows
  exact ⟨hf.blk h.blk hb, ⟨s1, s2, h1, h2, r1.keep hf (fun i hi => hs i ((tOwn_iff h1 h2 i).2 (.inl hi))), r2.keep hf (fun i hi => hs i ((tOwn_iff h1 h2 i).2 (.inr hi))), nf.keep hf (fun i hi => hs i ((tOwn_iff h1 h2 i).2 (.inr hi))), ap⟩, h.nob, h.ok⟩
theorem TbTo.refl (h : TbS val lt E EI H b o T cs ts os) : TbTo val lt E EI H H b o T cs cs ts os := ⟨h, rfl, fun _ _ _ => rfl, Fr.refl _ _, fun _ h => .inl h⟩
theorem TbTo.of_no {H' : Hp} (h : TbS val lt E EI H b o T cs ts os) (hf : Fr no H H') : TbTo val lt E EI H H' b o T cs cs ts os := ⟨h.keep hf (fun h => h) (fun _ _ h => h), rfl, fun _ _ _ => rfl, hf.of_no, fun _ h => .inl h⟩
theorem TbTo.trans {A B C : Hp} {c1 c2 c3 : List Value} {t1 t2 : List τ} {o1 o2 : List Nat} (h : TbTo val lt E EI A B b o T c1 c2 t1 o1) (k : TbTo val lt E EI B C b o T c2 c3 t2 o2) : TbTo val lt E EI A C b o T c1 c3 t2 o2 := by
  refine ⟨k.st, k.len.trans h.len, fun i h1 h2 => (k.rest i h1 h2).trans (h.rest i h1 h2), ?_, ?_⟩
  · refine h.fr.step k.fr ?_
    intro i hi ht
    rcases ht with rfl | ht
    · exact .inl rfl
    · rcases h.own i ht with h' | h'
      · exact .inr h'
      · omega
  · intro i hi
    rcases k.own i hi with h' | h'
    · exact h.own i h'
    · exact .inr (Nat.le_trans h.fr.size h')
/-- a thing's cell -/
theorem TbS.thing (h : TbS val lt E EI H b o T cs ts os) {s1 : Sl} (hs : cs[o]? = some (.slice s1.a s1.n s1.c)) : s1.n = ts.length ∧ ∀ (i : Nat) (x : τ), ts[i]? = some x → ∃ ad, s1.a = some ad ∧ hcell H (ad.add (i * 1)) = some (val x) := by
  obtain ⟨s1', s2, h1, h2, r1, r2, nf, ap⟩ := h.rows
  obtain rfl : s1' = s1 := by
    rw [hs] at h1
    cases s1; cases s1'
    simp only [Option.some.injEq, Value.slice.injEq] at h1
    simp [h1]
  have hl := r1.1
  rw [List.length_map, Nat.mul_one] at hl
  refine ⟨hl.symm, fun i x hx => ?_⟩
  have hi : i < ts.length := (List.getElem?_eq_some_iff.1 hx).1
  obtain ⟨g, hg⟩ := r1.some (by omega)
  refine ⟨_, hg, ?_⟩
  rw [r1.ld hg (i * 1) (by rw [List.length_map]; omega), Nat.mul_one, List.getElem?_map, hx]
  rfl
theorem TbS.order (h : TbS val lt E EI H b o T cs ts os) {s2 : Sl} (hs : cs[o + 1]? = some (.slice s2.a s2.n s2.c)) : s2.n = os.length ∧ ∀ (i : Nat) (k : Nat), os[i]? = some k → ∃ ad, s2.a = some ad ∧ hcell H (ad.add (i * 1)) = some (.int .i64 (k : Int)) := by
  obtain ⟨s1, s2', h1, h2, r1, r2, nf, ap⟩ := h.rows
  obtain rfl : s2' = s2 := by
    rw [hs] at h2
    cases s2; cases s2'
    simp only [Option.some.injEq, Value.slice.injEq] at h2
    simp [h2]
  have hl := r2.1
  unfold numV at hl r2
  rw [List.length_map, Nat.mul_one] at hl
  refine ⟨hl.symm, fun i x hx => ?_⟩
  have hi : i < os.length := (List.getElem?_eq_some_iff.1 hx).1
  obtain ⟨g, hg⟩ := r2.some (by omega)
  refine ⟨_, hg, ?_⟩
  rw [r2.ld hg (i * 1) (by rw [List.length_map]; omega), Nat.mul_one, List.getElem?_map, hx]
  rfl
end
end
end Go.V

