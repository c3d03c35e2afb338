/- Rows by their types: short forms; of no program. -/
import Derived.Test.YtigbdoicgdmliaaDoorV17
set_option linter.unusedVariables false
set_option linter.unusedSimpArgs false
namespace Go.V
attribute [local irreducible] Cvt ExtF CallF hrun
/-- a slice's type, and its elements' -/
structure TyS (P : Program) (T E : TypeId) (sz bytes : Nat) (z : Value) : Prop where
  u : P.underlying T = some (.slice E)
  i : (P.info? E).map (fun i => (i.zero, i.size, i.bytes)) = some (some z, sz, bytes)
  zc : z.cells.size = sz
  b : 0 < bytes
theorem StL.mono {a : Addr} : ∀ {vs : List Value} {i : Nat} {H : Hp} {K K' : Hp → Prop}, StL a i vs H K → (∀ H', K H' → K' H') → StL a i vs H K'
  | [], _, _, _, _, h, k => k _ h
  | v :: vs, _, _, _, _, h, k => ⟨h.1, h.2.1, h.2.2.1, StL.mono h.2.2.2 k⟩
theorem App.mono {P : Program} {ts : Array TypeId} {ty : TypeId} {H : Hp} {vs : List Value} {K K' : Sl → Hp → Prop} (h : App P ts ty H vs K) (hk : ∀ s H', K s H' → K' s H') : App P ts ty H vs K' := by
  unfold App at h ⊢
  refine hrun.mono _ h ?_ fun _ _ h => h
  rintro r A ⟨s, h1, h2⟩
  exact ⟨s, h1, hk _ _ h2⟩
section
variable {τ : Type} {fl : τ → List Value} {sz : Nat}
variable {H0 H H' : Hp} {S : Nat → Prop} {L R : List It} {P : Program} {T E : TypeId} {by' : Nat} {z : Value} {s t : Sl} {l m : List τ}
/-- elements of another row appended -/
theorem Sym.appR {ty : TypeId} {k : Nat} {K : Sl → Hp → Prop} (ht : TyS P T E sz by' z) (h : Sym H0 S H L) (hf : Fl fl sz) (hsz : 0 < sz) (hk : L[k]? = some (arr fl E sz s l)) (hy : Rd fl sz H t m) (hl : (s.n + m.length) * by' ≤ 140737488355328)
    (kk : ∀ s' H', s'.n = s.n + m.length → Sym H0 S H' (L.set k (arr fl E sz s' (l ++ m))) → K s' H') : App P #[T, T] ty H [.slice s.a s.n s.c, .slice t.a t.n t.c] K := by
  obtain ⟨inf, i1, i2, i3, i4⟩ := info_of ht.i
  exact h.app hf hsz hk ht.u (by intro k; rw [ht.u]; simp) ⟨_, ht.u⟩ i1 i2 (by rw [i3]; exact ht.zc) (by rw [i4]; exact ht.b) i3 (hy.src hf hsz) (by rw [i4]; exact hl) kk
/-- one element appended -/
theorem Sym.app1 {ty : TypeId} {k b : Nat} {x : τ} {K : Sl → Hp → Prop} (ht : TyS P T E sz by' z) (h : Sym H0 S H L) (hf : Fl fl sz) (hsz : 0 < sz) (hn : Newb H (.cells (fl x).toArray E) b H') (hk : L[k]? = some (arr fl E sz s l)) (hl : (s.n + 1) * by' ≤ 140737488355328)
    (kk : ∀ s' H', s'.n = s.n + 1 → Sym H0 S H' (L.set k (arr fl E sz s' (l ++ [x]))) → K s' H') : App P #[T, T] ty H' [.slice s.a s.n s.c, .slice (some ⟨b, 0, none⟩) 1 1] K := by
  have hx : flat fl [x] = fl x := flat_sing x
  rw [← hx] at hn
  have h2 := h.lit hf hsz hn (show 1 = [x].length from rfl)
  have hr := h2.rd (k := 0) hf hsz rfl
  refine Sym.appR (t := ⟨some ⟨b, 0, none⟩, 1, 1⟩) (k := k) ht (h2.drop) hf hsz hk hr (by simpa using hl) ?_
  exact kk
theorem Sym.make {n : Nat} {zt : τ} {zv : Value} {K : Sl → Hp → Prop} (ht : TyS P T E 1 by' zv) (h : Sym H0 S H L) (hf : Fl fl 1) (hfz : fl zt = [zv]) (hzc : zv.cells = #[zv])
    (hl : n * by' ≤ 140737488355328) (kk : ∀ s' H', s'.n = n → Fr no H H' → (∀ i, own s' i → H.size ≤ i) → Sym H0 S H' (arr fl E 1 s' (List.replicate n zt) :: L) → K s' H') : MkS P T H (.int .i64 (n : Int)) (.int .i64 (n : Int)) K := by
  obtain ⟨inf, i1, i2, i3, i4⟩ := info_of ht.i
  exact h.mks hf hfz ht.u i1 i2 hzc i3 (by rw [i4]; exact ht.b) (by rw [i4]; exact hl) kk
/-- one cell of a row is written -/
theorem Sym.st1 {k : Nat} {i : Int} {x y : τ} {v : Value} {K : Hp → Prop} (h : Sym H0 S H L) (hf : Fl fl 1) (hk : L[k]? = some (arr fl E 1 s l)) (h0 : 0 ≤ i) (hx : l[i.toNat]? = some x) (hy : fl y = [v])
    (kk : ∀ H', Sym H0 S H' (L.set k (arr fl E 1 s (l.set i.toNat y))) → K H') : IxA s.a s.n i 1 fun ad => StL ad 0 [v] H K := by
  have hl := hf.len x
  have h2 := h.sta (i := i) (j := 0) (y := y) (v := v) (K := K) hf hk h0 hx (by decide) (by
    rw [hy]
    match hm : fl x with
    | [] => rw [hm] at hl; cases hl
    | [a] => rfl
    | a :: b :: r => rw [hm] at hl; simp at hl) kk
  obtain ⟨ad, e1, e2, e3⟩ := h2
  refine ⟨ad, e1, e2, ?_⟩
  have e3' : StL ((ad.add (i.toNat * 1)).add 0) 0 [v] H K := e3
  rw [add_zero'] at e3'
  exact e3'
theorem Rd.ix1 {i : Int} {x : τ} {K : Addr → Prop} (h : Rd fl 1 H s l) (hf : Fl fl 1) (h0 : 0 ≤ i) (hx : l[i.toNat]? = some x) (k : ∀ ad, hcell H ad = (fl x)[0]? → K ad) : IxA s.a s.n i 1 K :=
  Rd.ix (by decide) hf h h0 hx fun ad _ e => k ad e
theorem Rd.ixn {i : Nat} {x : τ} {K : Addr → Prop} (h : Rd fl 1 H s l) (hf : Fl fl 1) (hx : l[i]? = some x) (k : ∀ ad, hcell H ad = (fl x)[0]? → K ad) : IxA s.a s.n (i : Int) 1 K :=
  Rd.ix (by decide) hf h (by omega) (by simpa using hx) fun ad _ e => k ad e
/-- at a row's own address -/
theorem Rd.at {i k : Nat} {x : τ} {v : Value} {base : Addr} (h : Rd fl sz H s l) (ha : s.a = some base) (hx : l[i]? = some x) (hv : (fl x)[k]? = some v) : hcell H ((base.add (i * sz)).add k) = some v := by
  obtain ⟨ad, e1, e2⟩ := h.el _ _ _ _ hx hv
  rw [ha] at e1
  cases e1
  rw [add_add]
  exact e2
theorem IxA.at {a : Option Addr} {n : Nat} {i : Int} {K : Addr → Prop} {base : Addr} (h : IxA a n i sz K) (ha : a = some base) : K (base.add (i.toNat * sz)) := by
  obtain ⟨ad, e1, _, e3⟩ := h
  rw [ha] at e1
  cases e1
  exact e3
theorem Sym.stn {k : Nat} {i : Nat} {x y : τ} {v : Value} {K : Hp → Prop} (h : Sym H0 S H L) (hf : Fl fl 1) (hk : L[k]? = some (arr fl E 1 s l)) (hx : l[i]? = some x) (hy : fl y = [v])
    (kk : ∀ H', Sym H0 S H' (L.set k (arr fl E 1 s (l.set i y))) → K H') : IxA s.a s.n (i : Int) 1 fun ad => StL ad 0 [v] H K :=
  h.st1 hf hk (by omega) (by simpa using hx) hy (by simpa using kk)
end
/-- rows that hold nothing yet -/
theorem Sym.none2 {τ : Type} {fl : τ → List Value} {sz n : Nat} {H0 H : Hp} {S : Nat → Prop} {R : List It} {E1 E2 : TypeId} {s : Sl} (h : Sym H0 S H (arr flS E1 1 s (List.replicate n ⟨none, 0, 0⟩) :: R)) :
    Sym H0 S H (rows2 fl E1 E2 sz none s (List.replicate n ⟨none, 0, 0⟩) (List.replicate n []) :: R) := by
  have hs : ∀ {i : Nat} {si : Sl}, (List.replicate n (⟨none, 0, 0⟩ : Sl))[i]? = some si → si = ⟨none, 0, 0⟩ := by
    intro i si hs
    rw [List.getElem?_replicate] at hs
    split at hs
    · cases hs; rfl
    · cases hs
  refine h.as (k := 0) rfl (fun hok => ⟨hok, by simp, ?_, ?_, ?_⟩) ?_
  · intro i si li _ h1 h2
    have hl : li = [] := by
      rw [List.getElem?_replicate] at h2
      split at h2
      · cases h2; rfl
      · cases h2
    rw [hs h1, hl]
    exact ⟨Row.nil _ _ _, by intro g o e; cases e⟩
  · intro i j si sj _ _ _ h1 _ b hb
    rw [hs h1] at hb
    exact (own_none rfl hb).elim
  · intro i si _ h1 b hb
    rw [hs h1] at hb
    exact (own_none rfl hb).elim
  · rintro i (hi | ⟨j, sj, _, h1, hb⟩)
    · exact hi
    · rw [hs h1] at hb
      exact (own_none rfl hb).elim
/-- rows of rows that are read -/
def RR {τ : Type} (fl : τ → List Value) (sz : Nat) (H : Hp) (s : Sl) (ls : List (List τ)) : Prop :=
  ∃ ss : List Sl, Rd flS 1 H s ss ∧ ss.length = ls.length ∧ ∀ (i : Nat) (si : Sl) (li : List τ), ss[i]? = some si → ls[i]? = some li → Rd fl sz H si li
theorem RR.more {τ : Type} {fl : τ → List Value} {sz : Nat} {H H' : Hp} {s : Sl} {ls : List (List τ)} (h : RR fl sz H s ls) (hf : Fr no H H') : RR fl sz H' s ls := by
  obtain ⟨ss, h1, h2, h3⟩ := h
  exact ⟨ss, h1.more hf, h2, fun i si li a b => (h3 i si li a b).more hf⟩
theorem RR.len {τ : Type} {fl : τ → List Value} {sz : Nat} {H : Hp} {s : Sl} {ls : List (List τ)} (h : RR fl sz H s ls) : s.n = ls.length := by
  obtain ⟨ss, h1, h2, h3⟩ := h
  rw [h1.len, h2]
theorem RR.ixn {τ : Type} {fl : τ → List Value} {sz : Nat} {H : Hp} {s : Sl} {ls : List (List τ)} {i : Nat} {li : List τ} {K : Addr → Prop} (h : RR fl sz H s ls) (hl : ls[i]? = some li) (k : ∀ ad si, Rd fl sz H si li → hcell H ad = some (.slice si.a si.n si.c) → K ad) : IxA s.a s.n (i : Int) 1 K := by
  obtain ⟨ss, h1, h2, h3⟩ := h
  have hi := (List.getElem?_eq_some_iff.1 hl).1
  have hs : ss[i]? = some (ss[i]'(by omega)) := List.getElem?_eq_getElem _
  exact h1.ixn FlS hs fun ad e => k ad _ (h3 i _ _ hs hl) e
theorem Rows2.rr {τ : Type} {fl : τ → List Value} {sz : Nat} {H : Hp} {E1 E2 : TypeId} {s : Sl} {ss : List Sl} {ls : List (List τ)} (h : Rows2 fl E1 E2 sz none H s ss ls) (hf : Fl fl sz) (hsz : 0 < sz) : RR fl sz H s ls :=
  ⟨ss, (h.rd hf hsz).1, h.len, (h.rd hf hsz).2⟩
theorem wi {n : Nat} (h : n ≤ 1000000000000) : w64 ((n : Int) + 1) = ((n + 1 : Nat) : Int) := by rw [wrap64 (by omega) (by omega)]; omega
theorem wd {n : Nat} (h : n ≤ 1000000000000) (h0 : 0 < n) : w64 ((n : Int) - 1) = ((n - 1 : Nat) : Int) := by rw [wrap64 (by omega) (by omega)]; omega
theorem wid {x : Int} (h1 : -1000000000000 ≤ x) (h2 : x ≤ 1000000000000) : w64 x = x := wrap64 (by omega) (by omega)
theorem dlt {a b : Nat} (h : decide ((a : Int) < (b : Int)) = true) : a < b := by have := of_decide_eq_true h; omega
theorem dge {a b : Nat} (h : decide ((a : Int) < (b : Int)) = false) : b ≤ a := by have := of_decide_eq_false h; omega
end Go.V

