/- Rows made, cut, and rows of rows; of no program. -/
import Derived.Test.YtigbdoicgdmliaaDoorV16
set_option linter.unusedVariables false
set_option linter.unusedSimpArgs false
namespace Go.V
theorem wmul {n b : Nat} (h : n * b ≤ 140737488355328) (hb : 0 < b) : n ≤ 140737488355328 := Nat.le_trans (Nat.le_mul_of_pos_right _ hb) h
theorem mks_cells {P : Program} {T E : TypeId} {inf : TypeInfo} {zv : Value} (hu : P.underlying T = some (.slice E)) (hi : P.info? E = some inf) (hz : inf.zero = some zv) (hzc : zv.cells = #[zv]) (hs : inf.size = 1) (hb : 0 < inf.bytes)
    {H : Hp} {n : Nat} {K : Sl → Hp → Prop} (hl : n * inf.bytes ≤ 140737488355328)
    (k : ∀ b H', Newb H (.cells (List.replicate n zv).toArray E) b H' → K ⟨some ⟨b, 0, none⟩, n, n⟩ H') : MkS P T H (.int .i64 (n : Int)) (.int .i64 (n : Int)) K := by
  have hn := wmul hl hb
  have hw : IntKind.i64.wrap (n : Int) = (n : Int) := by
    have := @wrap64 (n : Int) (by omega) (by omega)
    exact this
  unfold MkS Instr.makeSlice
  refine hrun_pv (pv_underlying hu) ?_
  simp only [asInt, asIntOf, pure, bind, Sem.bind]
  refine hrun_bind _ (hrun_pureV _ (pv_typeInfo hi) ?_)
  simp only [hw]
  have h248 : (2 : Int) ^ 48 = 281474976710656 := by decide
  have hml : ¬ ((inf.bytes : Int) * (n : Int) > 2 ^ 48) := by
    rw [h248]
    have : ((n * inf.bytes : Nat) : Int) = (inf.bytes : Int) * (n : Int) := by rw [Nat.mul_comm]; simp
    omega
  rw [if_neg (by
    simp only [Bool.or_eq_true, decide_eq_true_eq]
    omega)]
  have hask : ∀ (n : Nat) {K : Unit → Hp → Prop} {Z : Value → Hp → Prop}, K () H → hrun P (askRoom n) H K Z := by
    intro n K Z hk
    unfold askRoom
    split
    · exact hk
    · exact hk
  refine hrun_bind _ (hask _ ?_)
  refine hrun_bind _ (hrun_pureV _ (pv_sizeOf hi) ?_)
  have hnn : (n : Int).toNat = n := by omega
  rw [hnn, hs, Nat.mul_one]
  have hfin : ∀ (zs : Array Value), (n = 0 ∨ zs = #[zv]) → hrun P (newRow E ((Array.range n).map (fun i => zs[i % zs.size]!)) >>= fun a => Sem.pure (Value.slice (some a) n n)) H (fun r H' => ∃ s : Sl, r = .slice s.a s.n s.c ∧ K s H') (fun _ _ => False) := by
    intro zs hzs
    simp only [newRow, newObj, bind, Sem.bind, hrun, pure]
    intro b H' hnb
    refine ⟨⟨some ⟨b, 0, none⟩, n, n⟩, rfl, k b H' ?_⟩
    have e : ((Array.range n).map fun i => zs[i % zs.size]!) = (List.replicate n zv).toArray := by
      apply Array.ext
      · simp
      · intro i h1 h2
        simp at h1
        rcases hzs with h0 | rfl
        · omega
        · simp [Nat.mod_one]
    rw [← e]
    exact hnb
  by_cases h0 : n = 0
  · rw [if_pos h0]
    exact hfin _ (.inl h0)
  · rw [if_neg h0]
    have hz' : pureV P (zeroValue E) = some zv := pv_zero hi hz
    refine hrun_bind _ (hrun_pureV (zeroValue E) hz' ?_)
    exact hfin _ (.inr hzc)
theorem flat_rep {τ : Type} {fl : τ → List Value} {z : τ} {zv : Value} (h : fl z = [zv]) : ∀ n : Nat, flat fl (List.replicate n z) = List.replicate n zv
  | 0 => rfl
  | n + 1 => by
    have := flat_rep h n
    unfold flat at this ⊢
    rw [List.replicate_succ, List.flatMap_cons, this, h, List.replicate_succ]
    rfl
section
variable {τ : Type} {fl : τ → List Value} {sz : Nat}
variable {H0 H H' : Hp} {S : Nat → Prop} {L R : List It} {E : TypeId} {s : Sl} {l : List τ}
theorem rowN_lit {b n : Nat} (hf : Fl fl sz) (hsz : 0 < sz) (hb : Blk H b (flat fl l) E) (hn : n = l.length) : RowN fl E sz H ⟨some ⟨b, 0, none⟩, n, n⟩ l := by
  subst hn
  refine ⟨⟨flat_len hf l, .inr ⟨b, _, (0, 0), rfl, hb, Nat.le_refl _, flat_len hf l, ?_, Nat.zero_le _⟩⟩, ?_⟩
  · show (flat fl l).take (l.length * sz) = _
    rw [← flat_len hf l, List.take_length]
  · intro g o e
    simp only [Option.some.injEq, Addr.mk.injEq] at e
    exact ⟨_, _, by rw [← e.1]; exact hb⟩
/-- a row as it is written down -/
theorem Sym.lit {b n : Nat} (h : Sym H0 S H L) (hf : Fl fl sz) (hsz : 0 < sz) (hn : Newb H (.cells (flat fl l).toArray E) b H') (hl : n = l.length) : Sym H0 S H' (arr fl E sz ⟨some ⟨b, 0, none⟩, n, n⟩ l :: L) :=
  h.new hn.fr (rowN_lit hf hsz hn.blk hl) fun i hi => by
    have := (own_iff rfl).1 hi
    have := hn.eq
    omega
theorem Sym.mks {P : Program} {T : TypeId} {inf : TypeInfo} {z : τ} {zv : Value} {n : Nat} {K : Sl → Hp → Prop} (h : Sym H0 S H L) (hf : Fl fl 1) (hfz : fl z = [zv]) (hu : P.underlying T = some (.slice E)) (hi : P.info? E = some inf) (hz : inf.zero = some zv) (hzc : zv.cells = #[zv]) (hs : inf.size = 1) (hb : 0 < inf.bytes)
    (hl : n * inf.bytes ≤ 140737488355328) (kk : ∀ s' H', s'.n = n → Fr no H H' → (∀ i, own s' i → H.size ≤ i) → Sym H0 S H' (arr fl E 1 s' (List.replicate n z) :: L) → K s' H') : MkS P T H (.int .i64 (n : Int)) (.int .i64 (n : Int)) K := by
  refine mks_cells hu hi hz hzc hs hb hl ?_
  intro b H' hn
  rw [← flat_rep hfz] at hn
  refine kk _ H' rfl hn.fr ?_ (h.lit hf (by decide) hn (by simp))
  intro i hi
  have := (own_iff rfl).1 hi
  have := hn.eq
  omega
/-- its beginning -/
theorem Sym.trunc {k hi : Nat} {K : Sl → Prop} (h : Sym H0 S H L) (hf : Fl fl sz) (hsz : 0 < sz) (hk : L[k]? = some (arr fl E sz s l)) (h1 : hi ≤ l.length)
    (kk : Sym H0 S H (L.set k (arr fl E sz ⟨s.a, hi, s.c⟩ (l.take hi))) → K ⟨s.a, hi, s.c⟩) : s.n ≤ s.c ∧ SlX s.a s.c 0 (hi : Int) sz K := by
  have hok : RowN fl E sz H s l := h.get hk
  have hn := hok.len hf hsz
  have hle := hok.row.le
  refine ⟨hle, ⟨by omega, by omega, by omega⟩, ?_⟩
  rw [show (0 : Int).toNat = 0 from rfl, Int.toNat_natCast, cut_lo]
  refine kk (h.as hk (fun hok => ⟨⟨?_, ?_⟩, ?_⟩) fun i hi => hi)
  · rw [flat_len hf, List.length_take, Nat.min_eq_left h1]
  · rcases hok.row.2 with ⟨h2, h3, h4⟩ | ⟨g, cs, fr, h2, h3, h4, h5, h6, h7⟩
    · exact .inl ⟨h2, by show hi = 0; omega, h4⟩
    · have hfr : fr = (0, 0) := by
        obtain ⟨cs', T', hb'⟩ := hok.nf g 0 h2
        rw [h3] at hb'
        simp only [Option.some.injEq, Obj.cells.injEq] at hb'
        exact hb'.2.2
      refine .inr ⟨g, cs, fr, h2, h3, by show hi ≤ s.c; omega, h5, ?_, by rw [hfr]; exact Nat.zero_le _⟩
      show cs.take (hi * sz) = _
      rw [← flat_take hf, ← h6, List.take_take, Nat.min_eq_left (Nat.mul_le_mul_right _ (by omega))]
  · exact hok.nf
end

/-- these of them, in this order -/
theorem Sym.re {H0 H : Hp} {S : Nat → Prop} {l : List It} (h : Sym H0 S H l) (idx : List Nat) (hn : idx.Nodup) : Sym H0 S H (idx.filterMap (l[·]?)) := by
  refine ⟨h.fr, fun a ha => ?_, ?_, fun a ha => ?_⟩
  · obtain ⟨i, _, hi⟩ := List.mem_filterMap.1 ha
    exact h.ok a (List.mem_of_getElem? hi)
  · induction idx with
    | nil => simp
    | cons i idx ih =>
      rw [List.nodup_cons] at hn
      rw [List.filterMap_cons]
      cases hi : l[i]? with
      | none => exact ih hn.2
      | some a =>
        simp only
        rw [List.pairwise_cons]
        refine ⟨?_, ih hn.2⟩
        intro b hb
        obtain ⟨j, hj, hjb⟩ := List.mem_filterMap.1 hb
        exact h.apt hi hjb (fun e => hn.1 (e ▸ hj))
  · obtain ⟨i, _, hi⟩ := List.mem_filterMap.1 ha
    exact h.fp a (List.mem_of_getElem? hi)
/-! ### rows of rows -/
def flS (s : Sl) : List Value := [.slice s.a s.n s.c]
theorem FlS : Fl flS 1 := ⟨fun _ => rfl, fun x v hv => by rw [List.mem_singleton.1 hv]; rfl⟩
def flI (x : Int) : List Value := [.int .i64 x]
theorem FlI : Fl flI 1 := ⟨fun _ => rfl, fun x v hv => by rw [List.mem_singleton.1 hv]; rfl⟩
def flN (x : Nat) : List Value := [.int .i64 (x : Int)]
theorem FlN : Fl flN 1 := ⟨fun _ => rfl, fun x v hv => by rw [List.mem_singleton.1 hv]; rfl⟩
def flB (x : Bool) : List Value := [.bool x]
theorem FlB : Fl flB 1 := ⟨fun _ => rfl, fun x v hv => by rw [List.mem_singleton.1 hv]; rfl⟩
def flT (x : ByteArray) : List Value := [.string x]
theorem FlT : Fl flT 1 := ⟨fun _ => rfl, fun x v hv => by rw [List.mem_singleton.1 hv]; rfl⟩
section
variable {τ : Type} {fl : τ → List Value} {sz : Nat} {E1 E2 : TypeId}
/-- a row of rows apart; 'but': of this one nothing is said -/
structure Rows2 (fl : τ → List Value) (E1 E2 : TypeId) (sz : Nat) (but : Option Nat) (H : Hp) (s : Sl) (ss : List Sl) (ls : List (List τ)) : Prop where
  out : RowN flS E1 1 H s ss
  len : ss.length = ls.length
  row : ∀ i si li, but ≠ some i → ss[i]? = some si → ls[i]? = some li → RowN fl E2 sz H si li
  ap : ∀ i j si sj, but ≠ some i → but ≠ some j → i ≠ j → ss[i]? = some si → ss[j]? = some sj → ∀ b, own si b → own sj b → False
  ao : ∀ i si, but ≠ some i → ss[i]? = some si → ∀ b, own si b → own s b → False
def rows2 (fl : τ → List Value) (E1 E2 : TypeId) (sz : Nat) (but : Option Nat) (s : Sl) (ss : List Sl) (ls : List (List τ)) : It where
  ok H := Rows2 fl E1 E2 sz but H s ss ls
  fp b := own s b ∨ ∃ (i : Nat) (si : Sl), but ≠ some i ∧ ss[i]? = some si ∧ own si b
  lt {H b} h hb := by
    rcases hb with hb | ⟨i, si, hi, hs, hb⟩
    · exact h.out.row.lt hb
    · have h1 := (List.getElem?_eq_some_iff.1 hs).1
      have h2 := h.len
      exact (h.row i si _ hi hs (List.getElem?_eq_getElem (by omega))).row.lt hb
  st {H H'} h hs := by
    refine ⟨(arr flS E1 1 s ss).st h.out fun i hi => hs i (.inl hi), h.len, fun i si li hi h1 h2 => ?_, h.ap, h.ao⟩
    exact (arr fl E2 sz si li).st (h.row i si li hi h1 h2) fun b hb => hs b (.inr ⟨i, si, hi, h1, hb⟩)
section
variable {H0 H H' : Hp} {S : Nat → Prop} {L R : List It} {s : Sl} {ss : List Sl} {ls : List (List τ)}
theorem Rows2.rd (h : Rows2 fl E1 E2 sz none H s ss ls) (hf : Fl fl sz) (hsz : 0 < sz) : Rd flS 1 H s ss ∧ ∀ (i : Nat) (si : Sl) (li : List τ), ss[i]? = some si → ls[i]? = some li → Rd fl sz H si li :=
  ⟨h.out.rd FlS (by decide), fun i si li h1 h2 => (h.row i si li (fun e => by cases e) h1 h2).rd hf hsz⟩
/-- one of the rows taken out -/
theorem Sym.out2 {i : Nat} {si : Sl} {li : List τ} (h : Sym H0 S H (rows2 fl E1 E2 sz none s ss ls :: R)) (hs : ss[i]? = some si) (hl : ls[i]? = some li) :
    Sym H0 S H (arr fl E2 sz si li :: rows2 fl E1 E2 sz (some i) s ss ls :: R) := by
  have hok : Rows2 fl E1 E2 sz none H s ss ls := h.get (k := 0) rfl
  have hp : ∀ j : Nat, (none : Option Nat) ≠ some j := fun j e => by cases e
  have hne : ∀ {j : Nat}, (some i : Option Nat) ≠ some j → i ≠ j := fun h e => h (by rw [e])
  have h1 := h.sep
  rw [List.pairwise_cons] at h1
  refine ⟨h.fr, ?_, ?_, ?_⟩
  · intro a ha
    rcases List.mem_cons.1 ha with rfl | ha
    · exact hok.row i si li (hp i) hs hl
    · rcases List.mem_cons.1 ha with rfl | ha
      · exact ⟨hok.out, hok.len, fun j sj lj hj => hok.row j sj lj (hp j), fun j k sj sk _ _ => hok.ap j k sj sk (hp j) (hp k), fun j sj _ => hok.ao j sj (hp j)⟩
      · exact h.ok a (List.mem_cons_of_mem _ ha)
  · rw [List.pairwise_cons, List.pairwise_cons]
    refine ⟨?_, ?_, h1.2⟩
    · intro a ha b hb1 hb2
      rcases List.mem_cons.1 ha with rfl | ha
      · rcases hb2 with hb2 | ⟨j, sj, hj, hsj, hb2⟩
        · exact hok.ao i si (hp i) hs b hb1 hb2
        · exact hok.ap i j si sj (hp i) (hp j) (hne hj) hs hsj b hb1 hb2
      · exact h1.1 a ha b (.inr ⟨i, si, hp i, hs, hb1⟩) hb2
    · intro a ha b hb1 hb2
      refine h1.1 a ha b ?_ hb2
      rcases hb1 with hb1 | ⟨j, sj, hj, hsj, hb1⟩
      · exact .inl hb1
      · exact .inr ⟨j, sj, hp j, hsj, hb1⟩
  · intro a ha b hb
    rcases List.mem_cons.1 ha with rfl | ha
    · exact h.fp _ List.mem_cons_self b (.inr ⟨i, si, hp i, hs, hb⟩)
    · rcases List.mem_cons.1 ha with rfl | ha
      · refine h.fp _ List.mem_cons_self b ?_
        rcases hb with hb | ⟨j, sj, hj, hsj, hb⟩
        · exact .inl hb
        · exact .inr ⟨j, sj, hp j, hsj, hb⟩
      · exact h.fp a (List.mem_cons_of_mem _ ha) b hb
/-- a row put in its place -/
theorem Sym.in2 {i : Nat} {si : Sl} {li : List τ} (h : Sym H0 S H (arr fl E2 sz si li :: rows2 fl E1 E2 sz (some i) s ss ls :: R)) (hs : ss[i]? = some si) (hl : i < ls.length) :
    Sym H0 S H (rows2 fl E1 E2 sz none s ss (ls.set i li) :: R) := by
  have ho : Rows2 fl E1 E2 sz (some i) H s ss ls := h.get (k := 1) rfl
  have hr : RowN fl E2 sz H si li := h.get (k := 0) rfl
  have h1 := h.sep
  rw [List.pairwise_cons, List.pairwise_cons] at h1
  have h01 := h1.1 _ List.mem_cons_self
  have hd : ∀ (j : Nat) (sj : Sl), ss[j]? = some sj → (j = i ∧ sj = si) ∨ (some i : Option Nat) ≠ some j := by
    intro j sj hj
    by_cases e : j = i
    · subst e
      rw [hs] at hj
      cases hj
      exact .inl ⟨rfl, rfl⟩
    · exact .inr fun e' => e (by simpa using e'.symm)
  have hfp : ∀ b, (rows2 fl E1 E2 sz none s ss (ls.set i li)).fp b → own si b ∨ (rows2 fl E1 E2 sz (some i) s ss ls).fp b := by
    rintro b (hb | ⟨j, sj, hj, hsj, hb⟩)
    · exact .inr (.inl hb)
    · rcases hd j sj hsj with ⟨rfl, rfl⟩ | hne
      · exact .inl hb
      · exact .inr (.inr ⟨j, sj, hne, hsj, hb⟩)
  refine ⟨h.fr, ?_, ?_, ?_⟩
  · intro a ha
    rcases List.mem_cons.1 ha with rfl | ha
    · refine ⟨ho.out, by rw [ho.len, List.length_set], ?_, ?_, ?_⟩
      · intro j sj lj _ hj hlj
        rcases hd j sj hj with ⟨rfl, rfl⟩ | hne
        · rw [List.getElem?_set_self hl] at hlj
          cases hlj
          exact hr
        · rw [List.getElem?_set_ne (by intro e; exact hne (by rw [e]))] at hlj
          exact ho.row j sj lj hne hj hlj
      · intro j k sj sk _ _ hjk hj hk b h2 h3
        rcases hd j sj hj with ⟨rfl, rfl⟩ | hne
        · rcases hd k sk hk with ⟨rfl, rfl⟩ | hne'
          · exact hjk rfl
          · exact h01 b h2 (.inr ⟨k, sk, hne', hk, h3⟩)
        · rcases hd k sk hk with ⟨rfl, rfl⟩ | hne'
          · exact h01 b h3 (.inr ⟨j, sj, hne, hj, h2⟩)
          · exact ho.ap j k sj sk hne hne' hjk hj hk b h2 h3
      · intro j sj _ hj b h2 h3
        rcases hd j sj hj with ⟨rfl, rfl⟩ | hne
        · exact h01 b h2 (.inl h3)
        · exact ho.ao j sj hne hj b h2 h3
    · exact h.ok a (List.mem_cons_of_mem _ (List.mem_cons_of_mem _ ha))
  · rw [List.pairwise_cons]
    refine ⟨?_, h1.2.2⟩
    intro a ha b hb1 hb2
    rcases hfp b hb1 with h2 | h2
    · exact h1.1 a (List.mem_cons_of_mem _ ha) b h2 hb2
    · exact h1.2.1 a ha b h2 hb2
  · intro a ha b hb
    rcases List.mem_cons.1 ha with rfl | ha
    · rcases hfp b hb with h2 | h2
      · exact h.fp _ List.mem_cons_self b h2
      · exact h.fp _ (List.mem_cons_of_mem _ List.mem_cons_self) b h2
    · exact h.fp a (List.mem_cons_of_mem _ (List.mem_cons_of_mem _ ha)) b hb
/-- a row's slice is written in its place -/
theorem Sym.st2 {k i : Nat} {t u : Sl} {K : Hp → Prop} (h : Sym H0 S H L) (hk : L[k]? = some (rows2 fl E1 E2 sz (some i) s ss ls)) (hs : ss[i]? = some u)
    (kk : ∀ H', Sym H0 S H' (L.set k (rows2 fl E1 E2 sz (some i) s (ss.set i t) ls)) → K H') : IxA s.a s.n (i : Int) 1 fun ad => StL ad 0 [.slice t.a t.n t.c] H K := by
  have hok : Rows2 fl E1 E2 sz (some i) H s ss ls := h.get hk
  have h1 : Sym H (arr flS E1 1 s ss).fp H [arr flS E1 1 s ss] := Sym.start1 hok.out
  have h2 := h1.sta (k := 0) (i := (i : Int)) (j := 0) (y := t) (v := .slice t.a t.n t.c) (K := K) FlS rfl (by omega) (by simpa using hs) (by decide) rfl ?_
  · obtain ⟨ad, e1, e2, e3⟩ := h2
    refine ⟨ad, e1, e2, ?_⟩
    have e3' : StL ((ad.add ((i : Int).toNat * 1)).add 0) 0 [.slice t.a t.n t.c] H K := e3
    rw [add_zero'] at e3'
    exact e3'
  intro H' hS
  rw [Int.toNat_natCast] at hS
  have hS1 : Sym H (arr flS E1 1 s ss).fp H' [arr flS E1 1 s (ss.set i t)] := hS
  have hr : RowN flS E1 1 H' s (ss.set i t) := hS1.get (k := 0) rfl
  have hii : ∀ j : Nat, (some i : Option Nat) ≠ some j → (ss.set i t)[j]? = ss[j]? := fun j hj => List.getElem?_set_ne (by intro e; exact hj (by rw [e]))
  refine kk H' (h.setk hk ?_ ?_ ?_)
  · exact hS1.fr.mono fun b _ hb => .inl hb
  · refine ⟨hr, by rw [List.length_set]; exact hok.len, ?_, ?_, ?_⟩
    · intro j sj lj hj h3 h4
      rw [hii j hj] at h3
      refine (arr fl E2 sz sj lj).st (hok.row j sj lj hj h3 h4) ?_
      intro b hb
      have hb' : own sj b := hb
      exact hS1.fr.keep b ((hok.row j sj lj hj h3 h4).row.lt hb') fun hb2 => hok.ao j sj hj h3 b hb' hb2
    · intro j k sj sk hj hk' hjk h3 h4
      rw [hii j hj] at h3
      rw [hii k hk'] at h4
      exact hok.ap j k sj sk hj hk' hjk h3 h4
    · intro j sj hj h3
      rw [hii j hj] at h3
      exact hok.ao j sj hj h3
  · rintro b (hb | ⟨j, sj, hj, h3, hb⟩)
    · exact .inl (.inl hb)
    · rw [hii j hj] at h3
      exact .inl (.inr ⟨j, sj, hj, h3, hb⟩)
end
end
end Go.V

