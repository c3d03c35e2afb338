/- strings.Builder, wherever it lies in a block: what its methods do. -/
import Derived.Test.YtigbdoicgdmliaaDoorN02
import Derived.Test.YtigbdoicgdmliaaDoorV9
import Derived.Lib.UnsafeStr
set_option linter.unusedVariables false
set_option linter.unusedSimpArgs false
-- tPB: 84
-- tUP: 123
-- tBld: 87
-- tBs: 85
-- tPU8: 116
-- tU8: 5
-- tStr: 9
-- tInt: 3
-- noEsc: 77
-- bWriteByte: 56
-- bWriteString: 50
-- bString: 49
-- bCopyCheck: 69
namespace Go.Proofs.YtigbdoicgdmliaaDoor.Bld
open Go Go.V Go.Proofs Go.Proofs.YtigbdoicgdmliaaDoor.N02

attribute [local irreducible] Cvt ExtF CallF hrun

/-- the row of a Builder's buffer -/
def bOwn (cs : List Value) (o : Nat) (i : Nat) : Prop := ∃ off n c, cs[o + 1]? = some (.slice (some ⟨i, off, none⟩) n c)
/-- A Builder at place o of block b: xs has been written. -/
structure BldS (H : Hp) (b o : Nat) (T : TypeId) (cs : List Value) (xs : List UInt8) : Prop where
  blk : Blk H b cs T
  ptr : ∃ p : Option Addr, cs[o]? = some (.pointer p) ∧ (p = none ∨ p = some ⟨b, o, none⟩)
  buf : ∃ s : Sl, cs[o + 1]? = some (.slice s.a s.n s.c) ∧ Row H 5 1 s (bv xs) ∧ ¬ own s b
  lies : liesAt Tryd.prog Tryd.prog.depth T (cs.length / Tryd.prog.cellsOf T) o 87 1 = true

theorem own_iff {s : Sl} {cs : List Value} {o : Nat} (h : cs[o + 1]? = some (.slice s.a s.n s.c)) (i : Nat) : bOwn cs o i ↔ own s i := by
  unfold bOwn own
  rw [h]
  constructor
  · rintro ⟨off, n, c, h⟩
    simp only [Option.some.injEq, Value.slice.injEq] at h
    exact ⟨off, h.1⟩
  · rintro ⟨off, h⟩
    exact ⟨off, s.n, s.c, by rw [h]⟩

/-- what a write has done: xs is there now -/
structure BldTo (H H' : Hp) (b o : Nat) (T : TypeId) (cs cs' : List Value) (xs : List UInt8) : Prop where
  st : BldS H' b o T cs' xs
  len : cs'.length = cs.length
  rest : ∀ i, i ≠ o → i ≠ o + 1 → cs'[i]? = cs[i]?
  fr : Fr (fun i => i = b ∨ bOwn cs o i) H H'
  own : ∀ i, bOwn cs' o i → bOwn cs o i ∨ H.size ≤ i

theorem blk_shape {H : Hp} {b : Nat} {T : TypeId} {cs : List Value} (hb : Blk H b cs T) : hshape H b = some (T, cs.length) := by
  unfold hshape
  have h' : H[b]? = some (.cells cs.toArray T (0, 0)) := hb
  rw [h']
  simp
theorem cv1 {P : Program} {tp tu t : TypeId} {z : Nat} (p1 : pureV P (underlying tp) = some (.pointer t)) (p2 : pureV P (underlying tu) = some .unsafePointer) (p3 : pureV P (sizeOf t) = some (z + 1))
    {H : Hp} {b o : Nat} {T : TypeId} {cs : List Value} {K : Value → Hp → Prop} (hb : Blk H b cs T) (ho : o < cs.length) (k : K (.pointer (some ⟨b, o, none⟩)) H) :
    Cvt P tp tu H (.pointer (some ⟨b, o, none⟩)) K := by
  unfold Cvt convert
  refine hrun_pv p1 ?_
  refine hrun_pv p2 ?_
  simp only [Conv.unsafePointer]
  refine hrun_pv p1 ?_
  refine hrun_pv p2 ?_
  have hsh := blk_shape hb
  simp only [Conv.seenAt, viewAt, cellsIn, shape, bind, Sem.bind, pure, hrun, hsh, Option.isSome_some, if_true]
  refine hrun_bind _ (hrun_pureV _ p3 ?_)
  have : ¬ (o ≥ cs.length) := by omega
  simp only [this, decide_false, Bool.false_and, Bool.false_eq_true, or_false]
  simpa [hrun] using k
theorem cv2 {P : Program} {tp tu t : TypeId} {z : Nat} (p1 : pureV P (underlying tp) = some (.pointer t)) (p2 : pureV P (underlying tu) = some .unsafePointer) (p3 : pureV P (sizeOf t) = some (z + 1))
    {H : Hp} {b o : Nat} {T : TypeId} {cs : List Value} {K : Value → Hp → Prop} (hb : Blk H b cs T) (hl : liesAt P P.depth T (cs.length / P.cellsOf T) o t 1 = true)
    (k : K (.pointer (some ⟨b, o, none⟩)) H) : Cvt P tu tp H (.pointer (some ⟨b, o, none⟩)) K := by
  unfold Cvt convert
  refine hrun_pv p2 ?_
  refine hrun_pv p1 ?_
  simp only [Conv.unsafePointer]
  refine hrun_pv p2 ?_
  refine hrun_pv p1 ?_
  have hsh := blk_shape hb
  simp only [Conv.seenAt, viewAt, variablesAt, shape, bind, Sem.bind, pure, hrun, hsh, Option.isSome_some, if_true, program]
  refine hrun_bind _ (hrun_pureV _ p3 ?_)
  simp only [hsh, hl, hrun, Sem.bind, Bool.or_true, if_true]
  exact k
theorem pvPB : pureV Tryd.prog (underlying 84) = some (.pointer 87) := by kernel_rfl
theorem pvUP : pureV Tryd.prog (underlying 123) = some .unsafePointer := by kernel_rfl
theorem pvSz : pureV Tryd.prog (sizeOf 87) = some (1 + 1) := by kernel_rfl

theorem pvNoEsc (v : Value) : pureV Tryd.prog (callFunc 77 #[v]) = some (.value v) := by kernel_rfl
theorem noEsc_ok {H : Hp} {K : Value → Hp → Prop} (v : Value) (k : K v H) : ExtF Tryd.prog 77 [v] H K := by
  unfold ExtF
  exact hrun_pureV _ (pvNoEsc v) k

theorem copyCheck {H : Hp} {b o : Nat} {T : TypeId} {cs : List Value} {xs : List UInt8} {Z : List PanicEntry → Hp → Prop} (h : BldS H b o T cs xs) :
    CallF Tryd.prog 69 #[.pointer (some ⟨b, o, none⟩)] H (fun r H' => r = .tuple #[] ∧ BldTo H H' b o T cs (cs.set o (.pointer (some ⟨b, o, none⟩))) xs ∧ H'.size = H.size) Z := by
  obtain ⟨hb, ⟨p, h0, hp⟩, ⟨s, h1, hr, hn⟩, hl⟩ := h
  have ho : o < cs.length := (List.getElem?_eq_some_iff.1 h0).1
  have hs1 : (cs.set o (.pointer (some ⟨b, o, none⟩)))[o + 1]? = some (.slice s.a s.n s.c) := by rw [List.getElem?_set_ne (by omega)]; exact h1
  refine V69_ok ?_
  unfold V69
  refine ⟨p, by rw [hb.ld]; exact h0, ?_, ?_⟩
  · intro hpn
    have hp' : p = none := by simpa using hpn
    subst hp'
    apply cv1 pvPB pvUP pvSz hb ho
    refine ⟨_, rfl, ?_⟩
    refine noEsc_ok _ ⟨_, rfl, ?_⟩
    refine cv2 pvPB pvUP pvSz hb hl ⟨_, rfl, ?_⟩
    refine st_blk hb ho rfl ?_
    intro H' hb' hf hs
    refine ⟨rfl, ⟨⟨hb', ⟨_, by rw [List.getElem?_set_self ho], .inr rfl⟩, ⟨s, hs1, hr.keep hf (fun i hi e => hn (e ▸ hi)), hn⟩, by simpa using hl⟩, by simp, ?_, hf.mono (fun i _ hi => .inl hi), ?_⟩, hs⟩
    · intro i hi _; exact List.getElem?_set_ne (Ne.symm hi)
    · intro i hi; rw [own_iff hs1] at hi; rw [own_iff h1]; exact .inl hi
  · intro hpn
    have hp' : p = some ⟨b, o, none⟩ := by
      rcases hp with rfl | h
      · simp at hpn
      · exact h
    subst hp'
    refine ⟨_, by rw [hb.ld]; exact h0, ?_⟩
    refine ⟨rfl, ?_, ?_⟩
    · intro h; simp at h
    · intro _
      have e : cs.set o (.pointer (some ⟨b, o, none⟩)) = cs := by
        apply List.ext_getElem?
        intro i
        by_cases hi : i = o
        · subst hi; rw [List.getElem?_set_self ho, h0]
        · rw [List.getElem?_set_ne (Ne.symm hi)]
      rw [e]
      exact ⟨rfl, ⟨⟨hb, ⟨_, h0, .inr rfl⟩, ⟨s, h1, hr, hn⟩, hl⟩, rfl, fun _ _ _ => rfl, Fr.refl _ _, fun i hi => .inl hi⟩, rfl⟩
theorem BldTo.trans {A B C : Hp} {b o : Nat} {T : TypeId} {c1 c2 c3 : List Value} {xs ys : List UInt8} (h : BldTo A B b o T c1 c2 xs) (k : BldTo B C b o T c2 c3 ys) : BldTo A C b o T c1 c3 ys := by
  refine ⟨k.st, k.len.trans h.len, fun i h1 h2 => (k.rest i h1 h2).trans (h.rest i h1 h2), ?_, ?_⟩
  · refine h.fr.step k.fr ?_
    intro i hi ht
    rcases ht with rfl | ht
    · exact .inl rfl
    · rcases h.own i ht with h' | h'
      · exact .inr h'
      · omega
  · intro i hi
    rcases k.own i hi with h' | h'
    · exact h.own i h'
    · exact .inr (Nat.le_trans h.fr.size h')
/-- nothing but new blocks -/
theorem BldS.keep {H H' : Hp} {b o : Nat} {T : TypeId} {cs : List Value} {xs : List UInt8} {S : Nat → Prop} (h : BldS H b o T cs xs) (hf : Fr S H H') (h1 : ¬ S b) (h2 : ∀ i, bOwn cs o i → ¬ S i) : BldS H' b o T cs xs := by
  obtain ⟨hb, hp, ⟨s, hs, hr, hn⟩, hl⟩ := h
  exact ⟨hf.blk hb h1, hp, ⟨s, hs, hr.keep hf (fun i hi => h2 i ((own_iff hs i).2 hi)), hn⟩, hl⟩

theorem BldS.own_lt {H : Hp} {b o : Nat} {T : TypeId} {cs : List Value} {xs : List UInt8} (h : BldS H b o T cs xs) {i : Nat} (hi : bOwn cs o i) : i < H.size := by
  obtain ⟨s, hs, hr, hn⟩ := h.buf
  exact hr.lt ((own_iff hs i).1 hi)
/-- on the way: new blocks below m are of others -/
structure Mid (A : Hp) (m : Nat) (H : Hp) (b o : Nat) (T : TypeId) (cs cs' : List Value) (xs : List UInt8) : Prop where
  st : BldS H b o T cs' xs
  len : cs'.length = cs.length
  rest : ∀ i, i ≠ o → i ≠ o + 1 → cs'[i]? = cs[i]?
  fr : Fr (fun i => i = b ∨ bOwn cs o i) A H
  own : ∀ i, bOwn cs' o i → bOwn cs o i ∨ m ≤ i
  sz : m ≤ H.size
  lo : A.size ≤ m
  ba : b < A.size
  oa : ∀ i, bOwn cs o i → i < A.size
theorem Mid.start {A H : Hp} {b o : Nat} {T : TypeId} {cs : List Value} {xs : List UInt8} (h : BldS A b o T cs xs) (hf : Fr no A H) : Mid A H.size H b o T cs cs xs :=
  ⟨h.keep hf (fun h => h) (fun _ _ h => h), rfl, fun _ _ _ => rfl, hf.of_no, fun _ h => .inl h, Nat.le_refl _, hf.size, h.blk.lt, fun _ => h.own_lt⟩
theorem Mid.step {A H H' : Hp} {m b o : Nat} {T : TypeId} {c1 c2 c3 : List Value} {xs ys : List UInt8} (h : Mid A m H b o T c1 c2 xs) (k : BldTo H H' b o T c2 c3 ys) : Mid A m H' b o T c1 c3 ys := by
  refine ⟨k.st, k.len.trans h.len, fun i h1 h2 => (k.rest i h1 h2).trans (h.rest i h1 h2), ?_, ?_, Nat.le_trans h.sz k.fr.size, h.lo, h.ba, h.oa⟩
  · refine h.fr.step k.fr ?_
    intro i hi ht
    rcases ht with rfl | ht
    · exact .inl rfl
    · rcases h.own i ht with h' | h'
      · exact .inr h'
      · have := h.lo; omega
  · intro i hi
    rcases k.own i hi with h' | h'
    · exact h.own i h'
    · exact .inr (Nat.le_trans h.sz h')
theorem Mid.other {A H H' : Hp} {m b o i : Nat} {T : TypeId} {c1 c2 : List Value} {xs : List UInt8} (h : Mid A m H b o T c1 c2 xs) (hf : Fr (fun j => j = i) H H') (h1 : A.size ≤ i) (h2 : i < m) : Mid A m H' b o T c1 c2 xs := by
  have hb := h.ba
  refine ⟨h.st.keep hf (by omega) ?_, h.len, h.rest, ?_, h.own, Nat.le_trans h.sz hf.size, h.lo, h.ba, h.oa⟩
  · intro j hj e
    rcases h.own j hj with h' | h'
    · have := h.oa j h'; omega
    · omega
  · refine h.fr.step hf ?_
    intro j hj e
    omega
theorem Mid.to {A H : Hp} {m b o : Nat} {T : TypeId} {c1 c2 : List Value} {xs : List UInt8} (h : Mid A m H b o T c1 c2 xs) : BldTo A H b o T c1 c2 xs :=
  ⟨h.st, h.len, h.rest, h.fr, fun i hi => (h.own i hi).imp id fun h' => Nat.le_trans h.lo h'⟩
/-- a block that is not the builder's stays -/
theorem BldTo.keep {H H' : Hp} {b o : Nat} {T : TypeId} {cs cs' : List Value} {xs : List UInt8} (h : BldTo H H' b o T cs cs' xs) {i : Nat} {x : Obj} (hx : H[i]? = some x) (h1 : i ≠ b) (h2 : ¬ bOwn cs o i) : H'[i]? = some x :=
  h.fr.at hx fun h => h.elim h1 h2

theorem pvu1 : Tryd.prog.underlying 85 = some (.slice 5) := by kernel_rfl
theorem pvu2 : Tryd.prog.underlying 9 = some .string := by kernel_rfl
theorem pvi : ∃ inf : TypeInfo, Tryd.prog.info? 5 = some inf ∧ inf.zero = some (.int .u8 0) ∧ inf.size = 1 ∧ inf.bytes = 1 := info_of (by kernel_rfl)

/-- append and store -/
theorem put_ok {T2 : TypeId} {y : Value} {m : Nat} {ty : TypeId} (ht : T2 = 85 ∨ T2 = 9) {H : Hp} {b o : Nat} {T : TypeId} {cs : List Value} {xs ys : List UInt8} (h : BldS H b o T cs xs) {s : Sl}
    (hs : hcell H (Addr.add ⟨b, o, none⟩ 1) = some (.slice s.a s.n s.c)) (hy : Src H 1 y m (bv ys)) (hl : xs.length + m ≤ 140737488355328) {K : Hp → Prop} (k : ∀ H' cs', BldTo H H' b o T cs cs' (xs ++ ys) → K H') :
    App Tryd.prog #[85, T2] ty H [.slice s.a s.n s.c, y] fun ap H3 => StL (Addr.add ⟨b, o, none⟩ 1) 0 [.slice ap.a ap.n ap.c] H3 K := by
  obtain ⟨hb, hp, ⟨s', h1, hr, hn⟩, hlies⟩ := h
  have e : s' = s := by
    rw [add_mk, hb.ld, h1] at hs
    cases s; cases s'
    simpa using hs
  subst e
  have ho : o + 1 < cs.length := (List.getElem?_eq_some_iff.1 h1).1
  obtain ⟨inf, i1, i2, i3, i4⟩ := pvi
  rw [← i3] at hr hy
  have hlen := hr.1
  rw [bv_length, i3] at hlen
  refine app_row pvu1 ?_ ?_ i1 i2 (by rw [i3]; rfl) (by rw [i4]; decide) hr hy (bv_one _) (by rw [i4]; omega) ?_
  · rcases ht with rfl | rfl
    · intro k; rw [pvu1]; simp
    · intro k; rw [pvu2]; simp
  · rcases ht with rfl | rfl
    · exact ⟨_, pvu1⟩
    · exact ⟨_, pvu2⟩
  · intro s2 H2 hr2 _ hf2 ho2
    have hb2 : Blk H2 b cs T := hf2.blk hb hn
    rw [add_mk]
    refine st_blk hb2 ho rfl ?_
    intro H3 hb3 hf3 _
    have hget : (cs.set (o + 1) (.slice s2.a s2.n s2.c))[o + 1]? = some (.slice s2.a s2.n s2.c) := List.getElem?_set_self ho
    have hn2 : ¬ own s2 b := by
      intro hc
      rcases ho2 b hc with h' | h'
      · exact hn h'
      · have := hb.lt; omega
    refine k H3 (cs.set (o + 1) (.slice s2.a s2.n s2.c)) ⟨⟨hb3, ?_, ⟨s2, hget, ?_, hn2⟩, by simpa using hlies⟩, by simp, ?_, ?_, ?_⟩
    · obtain ⟨p, hp1, hp2⟩ := hp
      exact ⟨p, by rw [List.getElem?_set_ne (by omega)]; exact hp1, hp2⟩
    · rw [bv_append]
      rw [i3] at hr2
      exact hr2.keep hf3 fun i hi e => hn2 (e ▸ hi)
    · intro i _ hi
      exact List.getElem?_set_ne (Ne.symm hi)
    · have hf2' : Fr (fun i => i = b ∨ bOwn cs o i) H H2 := hf2.mono fun i _ hi => .inr ((own_iff h1 i).2 hi)
      exact hf2'.step hf3 fun i _ hi => .inl hi
    · intro i hi
      rw [own_iff hget] at hi
      rw [own_iff h1]
      exact ho2 i hi

theorem writeByte {H : Hp} {b o : Nat} {T : TypeId} {cs : List Value} {xs : List UInt8} {c : UInt8} {K : Value → Hp → Prop} {Z : List PanicEntry → Hp → Prop} (h : BldS H b o T cs xs) (hl : xs.length + 1 ≤ 140737488355328)
    (k : ∀ H' cs', BldTo H H' b o T cs cs' (xs ++ [c]) → K .nilIface H') : CallF Tryd.prog 56 #[.pointer (some ⟨b, o, none⟩), .int .u8 (c.toNat : Int)] H K Z := by
  refine V56_ok ?_
  unfold V56
  refine (copyCheck h).mono ?_ fun _ _ h => h
  rintro r H1 ⟨rfl, h1, hs1⟩
  obtain ⟨hb, hp, ⟨s, hs, hr, hn⟩, hlies⟩ := h1.st
  refine ⟨rfl, s, by rw [add_mk, hb.ld]; exact hs, ?_⟩
  intro b1 H2 hn1
  have hb1 : Blk H2 b1 [.int .u8 (c.toNat : Int)] 5 := hn1.blk
  have hst2 : BldS H2 b o T _ xs := h1.st.keep (S := no) hn1.fr (fun h => h) (fun _ _ h => h)
  refine put_ok (.inl rfl) (ys := [c]) hst2 (by rw [add_mk, hst2.blk.ld]; exact hs) (Src.blk hb1 rfl) hl ?_
  intro H3 cs3 h3
  have h12 : BldTo H1 H2 b o T (cs.set o (.pointer (some ⟨b, o, none⟩))) (cs.set o (.pointer (some ⟨b, o, none⟩))) xs := ⟨hst2, rfl, fun _ _ _ => rfl, hn1.fr.of_no, fun i hi => .inl hi⟩
  exact k H3 cs3 ((h1.trans h12).trans h3)
theorem writeString {H : Hp} {b o : Nat} {T : TypeId} {cs : List Value} {xs : List UInt8} {t : ByteArray} {K : Value → Hp → Prop} {Z : List PanicEntry → Hp → Prop} (h : BldS H b o T cs xs) (hl : xs.length + t.size ≤ 140737488355328)
    (k : ∀ H' cs', BldTo H H' b o T cs cs' (xs ++ t.data.toList) → K (.tuple #[.int .i64 (t.size : Int), .nilIface]) H') : CallF Tryd.prog 50 #[.pointer (some ⟨b, o, none⟩), .string t] H K Z := by
  refine V50_ok ?_
  unfold V50
  refine (copyCheck h).mono ?_ fun _ _ h => h
  rintro r H1 ⟨rfl, h1, hs1⟩
  obtain ⟨hb, hp, ⟨s, hs, hr, hn⟩, hlies⟩ := h1.st
  refine ⟨rfl, s, by rw [add_mk, hb.ld]; exact hs, ?_⟩
  refine put_ok (.inr rfl) (ys := t.data.toList) h1.st (by rw [add_mk, hb.ld]; exact hs) (Src.str t) hl ?_
  intro H3 cs3 h3
  exact k H3 cs3 (h1.trans h3)
theorem sliceData_ok {P : Program} {ts : Array TypeId} {ty e E : TypeId} {cs : Array Bool} {H : Hp} {s : Sl} {sz : Nat} {xs : List Value} (hp : P.underlying ty = some (.pointer e)) (hr : Row H E sz s xs) {K : Value → Hp → Prop}
    (k : ∀ p H', Fr no H H' → (s.n = 0 ∨ (p = s.a ∧ H' = H)) → K (.pointer p) H') : Blt P .unsafeSliceData ts ty cs H [.slice s.a s.n s.c] K := by
  unfold Blt
  show hrun P (Builtin.unsafeSliceData_ ts ty #[.slice s.a s.n s.c] >>= fun v => pure (Next.value v)) H _ _
  refine hrun_bind _ (hrun.mono _ (K := K) (Z := fun _ _ => False) ?_ (fun v H' h => by simpa only [pure, hrun] using h) fun _ _ h => h)
  rcases hr.2 with ⟨h1, h2, h3⟩ | ⟨g, c, fr, ha, hg, h1, h2, h3, h4⟩
  · rw [h1, h2, h3]
    have hdef : Builtin.unsafeSliceData_ ts ty #[.slice none 0 0] = pure (.pointer none) := rfl
    rw [hdef]
    simp only [pure, hrun]
    exact k none H (Fr.refl _ _) (.inl h2)
  · rw [ha]
    have hdef : Builtin.unsafeSliceData_ ts ty #[.slice (some ⟨g, 0, none⟩) s.n s.c] =
      (do
        if s.c ≠ 0 then pure (.pointer (some ⟨g, 0, none⟩))
        else if (← viewAt g).isSome then pure (.pointer (some ⟨g, 0, none⟩))
        else pure (.pointer (some ⟨← newObj (.view ⟨g, 0, none⟩ (← elemOf ty)), 0, none⟩))) := rfl
    rw [hdef]
    by_cases hc : s.c = 0
    · rw [if_neg (by simpa using hc)]
      refine hrun_bind _ ?_
      have hsh : hshape H g = some (E, c.length) := by
        unfold hshape
        rw [hg]
        simp
      simp only [viewAt, shape, bind, Sem.bind, pure, hrun, hsh, Option.isSome_some, if_true, Option.isSome_none, Bool.false_eq_true, if_false]
      refine hrun_bind _ (hrun_pureV (a := e) _ ?_ ?_)
      · simp [elemOf, underlying, program, bind, Sem.bind, pure, pureV, hp]
      · simp only [newObj, Sem.bind, hrun]
        intro b H' hn
        exact k _ H' hn.fr (.inl (by omega))
    · rw [if_pos (by simpa using hc)]
      simp only [pure, hrun]
      exact k _ H (Fr.refl _ _) (.inr ⟨ha.symm, rfl⟩)

theorem str_ok {P : Program} {pt it ty e : TypeId} {cs : Array Bool} {H : Hp} {s : Sl} {xs : List UInt8} {p : Option Addr} (hp : P.underlying pt = some (.pointer e)) (hc : P.cellsOf e = 1) (hr : Row H e 1 s (bv xs)) (hl : xs.length < 2 ^ 63)
    (h : s.n = 0 ∨ p = s.a) {K : Value → Hp → Prop} (k : ∀ H', Fr (own s) H H' → Row H' e 1 s (bv xs) → K (.string ⟨xs.toArray⟩) H') : Blt P .unsafeString #[pt, it] ty cs H [.pointer p, .int .i64 (s.n : Int)] K := by
  have hlen := hr.1
  rw [bv_length, Nat.mul_one] at hlen
  have hmax : IntKind.i64.max = 9223372036854775807 := rfl
  unfold Blt
  show hrun P (Builtin.unsafeString_ #[pt, it] ty #[.pointer p, .int .i64 (s.n : Int)] >>= fun v => pure (Next.value v)) H _ _
  refine hrun_bind _ (hrun.mono _ (K := K) (Z := fun _ _ => False) ?_ (fun v H' h => by simpa only [pure, hrun] using h) fun _ _ h => h)
  have hdef : Builtin.unsafeString_ #[pt, it] ty #[.pointer p, .int .i64 (s.n : Int)] =
      (do
        let n ← asInt (.int .i64 (s.n : Int))
        if n < 0 then runtimePanic (.error "unsafe.String: len out of range")
        if n > IntKind.i64.max then unsupported (.unsafePointer "String: a length above the largest int")
        match p with
        | none => if n = 0 then pure (.string .empty)
                  else runtimePanic (.error "unsafe.String: ptr is nil and len is not zero")
        | some a =>
          if n = 0 then pure (.string .empty)
          else if ← variablesAt a (← elemOf pt) n.toNat then do
            let s ← loadBytes a .empty n.toNat
            freeze a n.toNat
            pure (.string s)
          else unsupported (.unsafePointer "String: not so many bytes at ptr")) := rfl
  rw [hdef]
  simp only [asInt, asIntOf, bind, pure, Sem.bind]
  have n1 : ¬ ((s.n : Int) < 0) := by omega
  have n2 : ¬ ((s.n : Int) > IntKind.i64.max) := by rw [hmax]; omega
  rw [if_neg n1, if_neg n2]
  by_cases h0 : s.n = 0
  · have hx : xs = [] := List.eq_nil_of_length_eq_zero (by omega)
    subst hx
    have : K (.string ByteArray.empty) H := k H (Fr.refl _ _) hr
    cases p <;> simpa [h0, hrun] using this
  · have hpa : p = s.a := by
      rcases h with h | h
      · exact absurd h h0
      · exact h
    subst hpa
    rcases hr.2 with ⟨_, h2, _⟩ | ⟨g, c, fr, ha, hg, h1, h2, h3, h4⟩
    · exact absurd h2 h0
    · rw [ha]
      simp only
      rw [if_neg (by omega)]
      refine hrun_bind _ (hrun_pureV (a := e) _ ?_ ?_)
      · simp [elemOf, underlying, program, bind, Sem.bind, pure, pureV, hp]
      have hsh : hshape H g = some (e, c.length) := by
        unfold hshape
        rw [hg]
        simp
      have hli : liesAt P P.depth e (c.length / P.cellsOf e) 0 e (s.n : Int).toNat = true := by
        refine Go.Lib.liesAt_bytes hc _ _ ?_
        rw [hc, h2]
        simpa using h1
      simp only [variablesAt, program, shape, bind, Sem.bind, pure, hrun, hsh, hli, if_true]
      have hn : (s.n : Int).toNat = xs.length := by omega
      rw [hn]
      refine hrun_bind _ (loadBytes_ok xs ⟨g, 0, none⟩ .empty ?_ ?_)
      · intro j x hj
        have hjl : j < xs.length := (List.getElem?_eq_some_iff.1 hj).1
        rw [add_mk]
        unfold hcell
        simp only [hg, Option.isSome_none, Bool.false_eq_true, if_false]
        have : (bv xs)[j]? = some (.int .u8 (x.toNat : Int)) := by simp [bv, hj]
        rw [← h3, List.getElem?_take, if_pos (by omega)] at this
        simpa using this
      · simp only [freeze, hrun, Sem.bind]
        have hfz : (hfreeze H ⟨g, 0, none⟩ xs.length)[g]? = some (.cells c.toArray e (if fr.1 == fr.2 then (0, xs.length) else (min fr.1 0, max fr.2 (xs.length)))) := by
          unfold hfreeze
          rw [if_neg (by omega), Array.getElem?_modify]
          simp [hg]
        have hfr : Fr (own s) H (hfreeze H ⟨g, 0, none⟩ xs.length) := by
          unfold hfreeze
          rw [if_neg (by omega)]
          refine ⟨by simp, fun i hi hn => ?_⟩
          rw [Array.getElem?_modify, if_neg]
          intro e
          exact hn ⟨0, by rw [ha]; simpa using e⟩
        have e : (ByteArray.empty.data ++ xs.toArray) = xs.toArray := by
          rw [show ByteArray.empty.data = #[] from rfl]
          simp
        rw [e]
        refine k _ hfr ⟨hr.1, .inr ⟨g, c, _, ha, hfz, h1, h2, h3, ?_⟩⟩
        split
        · simp only; omega
        · simp only; omega

theorem string {H : Hp} {b o : Nat} {T : TypeId} {cs : List Value} {xs : List UInt8} {K : Value → Hp → Prop} {Z : List PanicEntry → Hp → Prop} (h : BldS H b o T cs xs) (hl : xs.length < 2 ^ 63)
    (k : ∀ H', BldTo H H' b o T cs cs xs → K (.string ⟨xs.toArray⟩) H') : CallF Tryd.prog 49 #[.pointer (some ⟨b, o, none⟩)] H K Z := by
  refine V49_ok ?_
  unfold V49
  obtain ⟨s, hs, hr, hn⟩ := h.buf
  have hs' : ∀ H' : Hp, Fr no H H' → hcell H' (Addr.add ⟨b, o, none⟩ 1) = some (.slice s.a s.n s.c) := by
    intro H' hf
    rw [add_mk, (hf.blk h.blk fun h => h).ld]
    exact hs
  have pu : Tryd.prog.underlying 116 = some (.pointer 5) := by kernel_rfl
  have pc : Tryd.prog.cellsOf 5 = 1 := by kernel_rfl
  have fin : ∀ p H1, Fr no H H1 → (s.n = 0 ∨ (p = s.a ∧ H1 = H)) → Blt Tryd.prog .unsafeString #[116, 3] 9 #[false, false] H1 [.pointer p, .int .i64 (s.n : Int)] fun r1 H2 => ∃ y1 : ByteArray, r1 = .string y1 ∧ K (.string y1) H2 := by
    intro p H1 hf h1
    have hr1 := hr.keep hf fun _ _ h => h
    refine str_ok pu pc hr1 hl (h1.imp id fun h => h.1) ?_
    intro H2 hf2 hr2
    refine ⟨_, rfl, k H2 ⟨⟨?_, h.ptr, ⟨s, hs, hr2, hn⟩, h.lies⟩, rfl, fun _ _ _ => rfl, ?_, fun i hi => .inl hi⟩⟩
    · exact hf2.blk (hf.blk h.blk fun h => h) hn
    · have hf' : Fr (fun i => i = b ∨ bOwn cs o i) H H1 := hf.of_no
      exact hf'.step hf2 fun i _ hi => .inr ((own_iff hs i).2 hi)
  refine ⟨s, hs' H (Fr.refl _ _), sliceData_ok pu hr ?_, ⟨s, hs' H (Fr.refl _ _), sliceData_ok pu hr ?_⟩⟩
  · intro p H1 hf h1
    exact ⟨p, rfl, s, hs' H1 hf, fin p H1 hf h1⟩
  · intro p H1 hf h1
    exact ⟨p, rfl, fin p H1 hf h1⟩
end Go.Proofs.YtigbdoicgdmliaaDoor.Bld

