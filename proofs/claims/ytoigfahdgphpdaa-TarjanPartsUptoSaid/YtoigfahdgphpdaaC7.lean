/- tarjan: what is made of edges, and the steps of the search. -/
import Derived.Test.YtoigfahdgphpdaaN07
import Derived.Test.YtoigfahdgphpdaaV18
import Derived.Test.YtoigfahdgphpdaaG7
set_option linter.unusedVariables false
set_option linter.unusedSimpArgs false
-- tInt: 3
-- tInts: 42
-- tIntss: 38
-- tBool: 4
-- tBools: 101
-- tGraph: 97
-- tStep: 131
-- tSteps: 102
-- tSearch: 104
-- tEdge: 96
-- made: 63
-- visit: 86
-- leave: 87
-- contains: 65
-- index: 88
namespace Go.Proofs.Ytoigfahdgphpdaa.C7
open Go Go.V Go.Proofs Go.Proofs.Ytoigfahdgphpdaa.N07 Go.Tar
attribute [local irreducible] Cvt ExtF CallF hrun App MkS
theorem tyI : TyS Try.prog 42 3 1 8 (.int .i64 0) := ⟨by kernel_rfl, by kernel_rfl, rfl, by decide⟩
theorem tyB : TyS Try.prog 101 4 1 1 (.bool false) := ⟨by kernel_rfl, by kernel_rfl, rfl, by decide⟩
theorem tyG : TyS Try.prog 97 42 1 24 (.slice none 0 0) := ⟨by kernel_rfl, by kernel_rfl, rfl, by decide⟩
theorem tyII : TyS Try.prog 38 42 1 24 (.slice none 0 0) := ⟨by kernel_rfl, by kernel_rfl, rfl, by decide⟩
theorem tyS : TyS Try.prog 102 131 2 16 (.agg #[.int .i64 0, .int .i64 0]) := ⟨by kernel_rfl, by kernel_rfl, rfl, by decide⟩
def flP (x : Nat × Nat) : List Value := [.int .i64 (x.1 : Int), .int .i64 (x.2 : Int)]
theorem FlP : Fl flP 2 := ⟨fun _ => rfl, fun x v hv => by
  simp only [flP, List.mem_cons, List.not_mem_nil, or_false] at hv
  rcases hv with rfl | rfl <;> rfl⟩
def flE (x : Int × Int) : List Value := [.int .i64 x.1, .int .i64 x.2]
theorem FlE : Fl flE 2 := ⟨fun _ => rfl, fun x v hv => by
  simp only [flE, List.mem_cons, List.not_mem_nil, or_false] at hv
  rcases hv with rfl | rfl <;> rfl⟩
/-- edges between members, of each member those that lead from it -/
def inb (N : Nat) (e : Int × Int) : Bool := decide (0 ≤ e.1) && decide (e.1 < (N : Int)) && decide (0 ≤ e.2) && decide (e.2 < (N : Int))
def adj (N : Nat) (es : List (Int × Int)) (v : Nat) : List Nat := es.filterMap fun e => if inb N e && (e.1.toNat == v) then some e.2.toNat else none
def adjs (N : Nat) (es : List (Int × Int)) : List (List Nat) := (List.range N).map (adj N es)
theorem adj_snoc {N v : Nat} {es : List (Int × Int)} {e : Int × Int} : adj N (es ++ [e]) v = if inb N e && (e.1.toNat == v) then adj N es v ++ [e.2.toNat] else adj N es v := by
  unfold adj
  rw [List.filterMap_append]
  split
  · rename_i h
    rw [List.filterMap_cons]
    simp only [if_pos h]
    rfl
  · rename_i h
    rw [List.filterMap_cons]
    simp only [if_neg h]
    exact List.append_nil _
theorem adjs_len {N : Nat} {es : List (Int × Int)} : (adjs N es).length = N := by simp [adjs]
theorem adjs_get {N v : Nat} {es : List (Int × Int)} (h : v < N) : (adjs N es)[v]? = some (adj N es v) := by simp [adjs, h]
theorem map_set {α : Type} {f : Nat → α} {N a : Nat} {x : α} : ((List.range N).map f).set a x = (List.range N).map (upd f a x) := by
  apply List.ext_getElem?
  intro i
  by_cases hi : i = a
  · subst hi
    by_cases h : i < N
    · rw [List.getElem?_set_self (by simpa using h)]
      simp [h, upd_self]
    · rw [List.getElem?_eq_none (by simp; omega), List.getElem?_eq_none (by simp; omega)]
  · rw [List.getElem?_set_ne (Ne.symm hi)]
    by_cases h : i < N
    · simp [h, upd_ne hi]
    · rw [List.getElem?_eq_none (by simp; omega), List.getElem?_eq_none (by simp; omega)]
theorem adjs_in {N : Nat} {es : List (Int × Int)} {e : Int × Int} (h : inb N e = true) : adjs N (es ++ [e]) = (adjs N es).set e.1.toNat (adj N es e.1.toNat ++ [e.2.toNat]) := by
  unfold adjs
  rw [map_set]
  apply List.map_congr_left
  intro v _
  rw [adj_snoc, h, Bool.true_and]
  by_cases hv : v = e.1.toNat
  · subst hv; simp [upd_self]
  · rw [upd_ne hv, if_neg (by simpa using Ne.symm hv)]
theorem adjs_out {N : Nat} {es : List (Int × Int)} {e : Int × Int} (h : inb N e = false) : adjs N (es ++ [e]) = adjs N es := by
  unfold adjs
  apply List.map_congr_left
  intro v _
  rw [adj_snoc, h, Bool.false_and, if_neg (by simp)]
theorem adj_lt {N v u : Nat} {es : List (Int × Int)} (h : u ∈ adj N es v) : u < N := by
  unfold adj at h
  obtain ⟨e, _, he⟩ := List.mem_filterMap.1 h
  split at he
  · rename_i hc
    simp only [Option.some.injEq] at he
    simp only [inb, Bool.and_eq_true, decide_eq_true_eq] at hc
    omega
  · cases he
theorem adj_le {N v : Nat} {es : List (Int × Int)} : (adj N es v).length ≤ es.length := List.length_filterMap_le _ _

section
variable {H : Hp} {K : Value → Hp → Prop} {Z : List PanicEntry → Hp → Prop}
theorem index_ok {s : Sl} {l : List Nat} {v : Nat} (h : Rd flN 1 H s l) (hl : l.length ≤ 1000000000)
    (k : ∀ y : Int, (0 ≤ y ↔ v ∈ l) → K (.int .i64 y) H) : CallF Try.prog 88 #[.slice s.a s.n s.c, .int .i64 (v : Int)] H K Z := by
  refine V88_ok ?_
  unfold V88
  have hn := h.len
  refine ⟨fun t A m => ∃ j : Nat, A = H ∧ t = (j : Int) ∧ j ≤ l.length ∧ m = l.length - j ∧ v ∉ l.take j, ⟨_, 0, rfl, rfl, Nat.zero_le _, rfl, by simp⟩, ?_⟩
  rintro t A m ⟨j, rfl, rfl, hj, rfl, hno⟩ scr
  refine ⟨fun hlt => ?_, fun hge => ?_⟩
  · have hlt' : j < l.length := by have := dlt hlt; omega
    have hx : l[j]? = some l[j] := List.getElem?_eq_getElem hlt'
    refine h.ix1 FlN (by omega) hx fun ad e => ⟨_, e, fun hy => ?_, fun hy => ?_⟩
    · have hy' : v = l[j] := by have := eq_of_beq hy; omega
      exact k _ ⟨fun _ => by rw [hy']; exact List.getElem_mem _, fun _ => by omega⟩
    · have hy' : v ≠ l[j] := fun e => by rw [e] at hy; simp at hy
      rw [wi (by omega)]
      refine ⟨l.length - (j + 1), by omega, j + 1, rfl, rfl, hlt', rfl, ?_⟩
      rw [List.take_succ_eq_append_getElem hlt', List.mem_append, List.mem_singleton, not_or]
      exact ⟨hno, hy'⟩
  · have hge' := dge hge
    have : l.take j = l := List.take_of_length_le (by omega)
    rw [this] at hno
    exact k _ ⟨fun h => by omega, fun h => absurd h hno⟩
theorem contains_ok {s : Sl} {l : List Nat} {v : Nat} (h : Rd flN 1 H s l) (hl : l.length ≤ 1000000000)
    (k : K (.bool (decide (v ∈ l))) H) : CallF Try.prog 65 #[.slice s.a s.n s.c, .int .i64 (v : Int)] H K Z := by
  refine V65_ok ?_
  unfold V65
  refine index_ok h hl fun y hy => ⟨y, rfl, ?_⟩
  have : decide (y ≥ 0) = decide (v ∈ l) := decide_eq_decide.2 hy
  rw [this]
  exact k

/-- a member put behind a row's others -/
theorem app_in {H0 H4 H5 : Hp} {S : Nat → Prop} {R : List It} {EG : TypeId} {s si : Sl} {ss : List Sl} {ls : List (List Nat)} {li : List Nat} {a x b ty : Nat} {K : Sl → Hp → Prop}
    (h : Sym H0 S H4 (rows2 flN EG 3 1 none s ss ls :: R)) (hs : ss[a]? = some si) (hl : ls[a]? = some li) (hn : Newb H4 (.cells #[.int .i64 (x : Int)] 3) b H5) (hb : li.length ≤ 1000000000)
    (kk : ∀ ap H6, (∀ a ∈ R, a.ok H6) → (∀ K', (∀ H7 ss', Sym H0 S H7 (rows2 flN EG 3 1 none s ss' (ls.set a (li ++ [x])) :: R) → K' H7) → IxA s.a s.n (a : Int) 1 fun ad => StL ad 0 [.slice ap.a ap.n ap.c] H6 K') → K ap H6) :
    App Try.prog #[42, 42] ty H5 [.slice si.a si.n si.c, .slice (some ⟨b, 0, none⟩) 1 1] K := by
  have h1 := h.out2 hs hl
  have hr : RowN flN 3 1 H4 si li := h1.get (k := 0) rfl
  have hn' := hr.len FlN (by decide)
  refine h1.app1 (k := 0) tyI FlN (by decide) hn rfl (by omega) ?_
  intro ap H6 hap h2
  have h2' : Sym H0 S H6 (arr flN 3 1 ap (li ++ [x]) :: rows2 flN EG 3 1 (some a) s ss ls :: R) := h2
  refine kk ap H6 (fun c hc => h2'.ok c (List.mem_cons_of_mem _ (List.mem_cons_of_mem _ hc))) fun K' hK' => ?_
  refine h2'.st2 (k := 1) rfl hs fun H7 h3 => ?_
  have h3' : Sym H0 S H7 (arr flN 3 1 ap (li ++ [x]) :: rows2 flN EG 3 1 (some a) s (ss.set a ap) ls :: R) := h3
  have hsl := (List.getElem?_eq_some_iff.1 hs).1
  exact hK' H7 _ (h3'.in2 (List.getElem?_set_self hsl) (List.getElem?_eq_some_iff.1 hl).1)

set_option maxRecDepth 10000 in
theorem made_ok {n : Int} {l : Sl} {es : List (Int × Int)} (h : Rd flE 2 H l es) (hl : es.length ≤ 1000000)
    (k : ∀ s ss H', Sym H no H' [rows2 flN 42 3 1 none s ss (adjs (if n < 0 ∨ n > 20000 then 0 else n.toNat) es)] → s.n = (if n < 0 ∨ n > 20000 then 0 else n.toNat) → K (.slice s.a s.n s.c) H') :
    CallF Try.prog 63 #[.int .i64 n, .slice l.a l.n l.c] H K Z := by
  refine V63_ok ?_
  unfold V63
  have hn := h.len
  have nil : (n < 0 ∨ n > 20000) → K (.slice none 0 0) H := by
    intro hc
    have := k ⟨none, 0, 0⟩ [] H
    rw [if_pos hc] at this
    refine this ⟨Fr.refl _ _, ?_, by simp, ?_⟩ rfl
    · intro a ha
      obtain rfl := List.mem_singleton.1 ha
      exact ⟨⟨Row.nil _ _ _, by intro g o e; cases e⟩, rfl, by simp, by simp, by simp⟩
    · intro a ha i hi
      obtain rfl := List.mem_singleton.1 ha
      rcases hi with hi | ⟨j, sj, _, hj, _⟩
      · exact (own_none rfl hi).elim
      · simp at hj
  refine ⟨fun A => A = H ∧ ¬ (n < 0 ∨ n > 20000), ?_, fun h0 => nil (.inl (of_decide_eq_true h0)), fun h0 => ⟨fun h1 => nil (.inr (of_decide_eq_true h1)), fun h1 => ⟨rfl, ?_⟩⟩⟩
  · rintro A ⟨rfl, hc⟩ scr
    rw [if_neg hc] at k
    obtain ⟨N, rfl⟩ : ∃ N : Nat, n = (N : Int) := ⟨n.toNat, by omega⟩
    rw [Int.toNat_natCast] at k
    refine (Sym.start A).make tyG FlS (zt := ⟨none, 0, 0⟩) rfl rfl (by omega) ?_
    intro mk B hmk _ _ hB
    have h2 : Sym A no B [rows2 flN 42 3 1 none mk (List.replicate N ⟨none, 0, 0⟩) (adjs N [])] := by
      refine hB.as (k := 0) rfl (fun hok => ⟨hok, by simp [adjs_len], ?_, ?_, ?_⟩) ?_
      · intro i si li _ hs hli
        have hs' : si = ⟨none, 0, 0⟩ := by
          rw [List.getElem?_replicate] at hs
          split at hs <;> simp_all
        have hl' : li = [] := by
          have hi : i < N := by
            have := (List.getElem?_eq_some_iff.1 hli).1
            rwa [adjs_len] at this
          rw [adjs_get hi] at hli
          simpa [adj] using hli.symm
        subst hs' hl'
        exact ⟨Row.nil _ _ _, by intro g o e; cases e⟩
      · intro i j si sj _ _ _ hs _ b hb
        rw [List.getElem?_replicate] at hs
        split at hs
        · cases hs; exact (own_none rfl hb).elim
        · cases hs
      · intro i si _ hs b hb
        rw [List.getElem?_replicate] at hs
        split at hs
        · cases hs; exact (own_none rfl hb).elim
        · cases hs
      · rintro i (hi | ⟨j, sj, _, hs, hb⟩)
        · exact hi
        · rw [List.getElem?_replicate] at hs
          split at hs
          · cases hs; exact (own_none rfl hb).elim
          · cases hs
    refine ⟨fun t C m => ∃ (j : Nat) (ss : List Sl), t = (j : Int) ∧ j ≤ es.length ∧ m = es.length - j ∧ Sym A no C [rows2 flN 42 3 1 none mk ss (adjs N (es.take j))], ⟨_, 0, _, rfl, Nat.zero_le _, rfl, h2⟩, ?_⟩
    rintro t C m ⟨j, ss, rfl, hj, rfl, hC⟩ scr1
    refine ⟨fun hlt => ?_, fun hge => ?_⟩
    · have hlt' : j < es.length := by have := dlt hlt; omega
      have hx : es[j]? = some es[j] := List.getElem?_eq_getElem hlt'
      have hs1 : es.take (j + 1) = es.take j ++ [es[j]] := List.take_succ_eq_append_getElem hlt'
      generalize es[j] = e at hx hs1
      have hcont : ∀ (D : Hp) (ss' : List Sl), Sym A no D [rows2 flN 42 3 1 none mk ss' (adjs N (es.take (j + 1)))] →
          ∃ m2, m2 < es.length - j ∧ ∃ (j' : Nat) (ss : List Sl), w64 ((j : Int) + 1) = (j' : Int) ∧ j' ≤ es.length ∧ m2 = es.length - j' ∧ Sym A no D [rows2 flN 42 3 1 none mk ss (adjs N (es.take j'))] := by
        intro D ss' hD
        exact ⟨es.length - (j + 1), by omega, j + 1, ss', wi (by omega), hlt', rfl, hD⟩
      refine (h.more hC.fr).ix (by decide) FlE (by omega) hx fun ad hk e0 => ?_
      refine ⟨e.1, e.2, ⟨e0, hk 1 _ rfl, trivial⟩, ?_⟩
      intro bE D hnD
      have hD := hC.newb hnD
      refine hD.stbs (k := 0) (i := 0) (vs := [.int .i64 e.1, .int .i64 e.2]) rfl (by simp) (by simp [Value.oneCell]) ?_
      intro E1 hE
      have hE' : Sym A no E1 [blk bE [.int .i64 e.1, .int .i64 e.2] 96, rows2 flN 42 3 1 none mk ss (adjs N (es.take j))] := hE
      have l0 : hcell E1 ⟨bE, 0, none⟩ = some (.int .i64 e.1) := hE'.ld (k := 0) rfl 0
      have l1 : hcell E1 ⟨bE, 1, none⟩ = some (.int .i64 e.2) := hE'.ld (k := 0) rfl 1
      have out : inb N e = false → ∃ m2, m2 < es.length - j ∧ ∃ (j' : Nat) (ss : List Sl), w64 ((j : Int) + 1) = (j' : Int) ∧ j' ≤ es.length ∧ m2 = es.length - j' ∧ Sym A no E1 [rows2 flN 42 3 1 none mk ss (adjs N (es.take j'))] := by
        intro hi
        refine hcont E1 ss ?_
        rw [hs1, adjs_out hi]
        exact hE'.drop
      refine ⟨_, l0, fun c1 => ⟨_, l0, fun c2 => ⟨_, l1, fun c3 => ⟨_, l1, fun c4 => ⟨_, l1, ?_⟩, fun c4 => out ?_⟩, fun c3 => out ?_⟩, fun c2 => out ?_⟩, fun c1 => out ?_⟩
      case refine_2 => have := of_decide_eq_false c4; simp [inb]; omega
      case refine_3 => have := of_decide_eq_false c3; simp [inb]; omega
      case refine_4 => have := of_decide_eq_false c2; simp [inb]; omega
      case refine_5 => have := of_decide_eq_false c1; simp [inb]; omega
      have c1' : 0 ≤ e.1 := of_decide_eq_true c1
      have c2' : e.1 < (N : Int) := of_decide_eq_true c2
      have c3' : 0 ≤ e.2 := of_decide_eq_true c3
      have c4' : e.2 < (N : Int) := of_decide_eq_true c4
      have hin : inb N e = true := by simp [inb]; omega
      have hgo : adjs N (es.take (j + 1)) = (adjs N (es.take j)).set e.1.toNat (adj N (es.take j) e.1.toNat ++ [e.2.toNat]) := by rw [hs1, adjs_in hin]
      obtain ⟨a, ha⟩ : ∃ a : Nat, e.1 = (a : Int) := ⟨e.1.toNat, by omega⟩
      obtain ⟨x, hx2⟩ : ∃ x : Nat, e.2 = (x : Int) := ⟨e.2.toNat, by omega⟩
      rw [ha, Int.toNat_natCast, hx2, Int.toNat_natCast] at hgo
      rw [ha] at c2' l0
      rw [hx2]
      have haN : a < N := by omega
      have hok := (hE'.get (k := 1) rfl : Rows2 flN 42 3 1 none E1 mk ss (adjs N (es.take j)))
      obtain ⟨r1, r2⟩ := hok.rd FlN (by decide)
      have hssl : ss.length = N := by rw [hok.len, adjs_len]
      have hsi : ss[a]? = some (ss[a]'(by omega)) := List.getElem?_eq_getElem _
      generalize ss[a]'(by omega) = si at hsi
      have hlen : (adj N (es.take j) a).length ≤ 1000000000 := by
        have := @adj_le N a (es.take j)
        rw [List.length_take] at this
        omega
      have hE2 : Sym A no E1 [rows2 flN 42 3 1 none mk ss (adjs N (es.take j)), blk bE [.int .i64 e.1, .int .i64 e.2] 96] := hE'.re [1, 0] (by decide)
      -- the append, and what follows
      have app : ∀ (b : Nat) (F : Hp) (K' : Sl → Hp → Prop), Newb E1 (.cells #[.int .i64 (x : Int)] 3) b F →
          (∀ ap G, hcell G ⟨bE, 0, none⟩ = some (.int .i64 (a : Int)) → (IxA mk.a mk.n (a : Int) 1 fun ad => StL ad 0 [.slice ap.a ap.n ap.c] G fun G' => ∃ m2, m2 < es.length - j ∧ ∃ (j' : Nat) (ss : List Sl), w64 ((j : Int) + 1) = (j' : Int) ∧ j' ≤ es.length ∧ m2 = es.length - j' ∧ Sym A no G' [rows2 flN 42 3 1 none mk ss (adjs N (es.take j'))]) → K' ap G) →
          App Try.prog #[42, 42] 42 F [.slice si.a si.n si.c, .slice (some ⟨b, 0, none⟩) 1 1] K' := by
        intro b F K' hnF hK'
        refine app_in hE2 hsi (adjs_get haN) hnF hlen fun ap G hG hst => hK' ap G ?_ (hst _ fun G' ss' hG' => hcont G' ss' ?_)
        · have := Blk.ld (hG _ List.mem_cons_self) 0
          rw [this, ← ha]
          rfl
        · rw [hgo]
          exact hG'.sub (by simp)
      have ix : ∀ K' : Addr → Prop, (∀ ad, hcell E1 ad = some (.slice si.a si.n si.c) → K' ad) → IxA mk.a mk.n (a : Int) 1 K' := fun K' hK' => r1.ix1 FlS (by omega) hsi fun ad e => hK' ad e
      have nw : ∀ (b : Nat) (F : Hp), Newb E1 (.cells #[.int .i64 (x : Int)] 3) b F → hcell F ⟨bE, 0, none⟩ = some (.int .i64 (a : Int)) := fun b F hF => hF.fr.cell l0 fun h => h
      have nwi : ∀ (b : Nat) (F : Hp) (ad : Addr), Newb E1 (.cells #[.int .i64 (x : Int)] 3) b F → hcell E1 ad = some (.slice si.a si.n si.c) → hcell F ad = some (.slice si.a si.n si.c) := fun b F ad hF h => hF.fr.cell h fun h => h
      have ixn : ∀ (b : Nat) (F : Hp) (K' : Addr → Prop), Newb E1 (.cells #[.int .i64 (x : Int)] 3) b F → (∀ ad, hcell F ad = some (.slice si.a si.n si.c) → K' ad) → IxA mk.a mk.n (a : Int) 1 K' := fun b F K' hF hK' => ix K' fun ad e => hK' ad (nwi b F ad hF e)
      refine ⟨⟨_, l0, ⟨_, l0, ix _ fun ad1 e1 => ⟨⟨si, e1, fun b F hF => app b F _ hF fun ap G hG hst => hst⟩, fun b F hF => ⟨si, nwi b F ad1 hF e1, app b F _ hF fun ap G hG hst => hst⟩⟩⟩, fun b F hF => ⟨_, nw b F hF, ixn b F _ hF fun ad4 e4 => ⟨si, e4, app b F _ hF fun ap G hG hst => hst⟩⟩⟩,
        ⟨_, l0, ix _ fun ad6 e6 => ⟨⟨_, l0, ⟨si, e6, fun b F hF => app b F _ hF fun ap G hG hst => hst⟩, fun b F hF => ⟨si, nwi b F ad6 hF e6, app b F _ hF fun ap G hG hst => hst⟩⟩, ⟨si, e6, ⟨_, l0, fun b F hF => app b F _ hF fun ap G hG hst => hst⟩, fun b F hF => ⟨⟨_, nw b F hF, app b F _ hF fun ap G hG hst => hst⟩, app b F _ hF fun ap G hG hst => ⟨_, hG, hst⟩⟩⟩, fun b F hF => ⟨si, nwi b F ad6 hF e6, ⟨_, nw b F hF, app b F _ hF fun ap G hG hst => hst⟩, app b F _ hF fun ap G hG hst => ⟨_, hG, hst⟩⟩⟩⟩,
        fun b F hF => ⟨_, nw b F hF, ixn b F _ hF fun ad14 e14 => ⟨si, e14, ⟨_, nw b F hF, app b F _ hF fun ap G hG hst => hst⟩, app b F _ hF fun ap G hG hst => ⟨_, hG, hst⟩⟩⟩⟩
    · have hge' := dge hge
      have : es.take j = es := List.take_of_length_le (by omega)
      rw [this] at hC
      have hok := (hC.get (k := 0) rfl : Rows2 flN 42 3 1 none C mk ss (adjs N es))
      exact k mk ss C hC hmk
  · have := of_decide_eq_false h0
    have := of_decide_eq_false h1
    omega

/-! ### the search -/
def mp {α : Type} (N : Nat) (f : Nat → α) : List α := (List.range N).map f
theorem mp_get {α : Type} {N v : Nat} {f : Nat → α} (h : v < N) : (mp N f)[v]? = some (f v) := by simp [mp, h]
theorem mp_set {α : Type} {N a : Nat} {f : Nat → α} {x : α} : (mp N f).set a x = mp N (upd f a x) := map_set
/-- the slices of a search -/
structure Ss where
  a : Sl
  b : Sl
  c : Sl
  d : Sl
  e : Sl
  f : Sl
/-- a search as it lies -/
def SR (N : Nat) (b : Nat) (g : Sl) (q : Ss) (s : St) : List It :=
  [blk b [.slice g.a g.n g.c, .slice q.a.a q.a.n q.a.c, .slice q.b.a q.b.n q.b.c, .slice q.c.a q.c.n q.c.c, .slice q.d.a q.d.n q.d.c, .slice q.e.a q.e.n q.e.c, .int .i64 (s.parts : Int), .slice q.f.a q.f.n q.f.c] 104,
   arr flN 3 1 q.a (mp N s.num), arr flN 3 1 q.b (mp N s.low), arr flB 4 1 q.c (mp N s.wt), arr flN 3 1 q.d s.wa.reverse, arr flN 3 1 q.e (mp N s.pt), arr flP 131 2 q.f s.steps.reverse]
section
variable {H0 H : Hp} {S : Nat → Prop} {R : List It} {N b : Nat} {g : Sl} {q : Ss} {s : St} {K : Value → Hp → Prop} {Z : List PanicEntry → Hp → Prop}
theorem visit_ok {v : Nat} (h : Sym H0 S H (SR N b g q s ++ R)) (hv : v < N) (h1 : s.wa.length ≤ 100000000) (h2 : s.steps.length ≤ 100000000)
    (k : ∀ q' H', Sym H0 S H' (SR N b g q' (Tar.visit s v) ++ R) → K (.tuple #[]) H') :
    CallF Try.prog 86 #[.pointer (some ⟨b, 0, none⟩), .int .i64 (v : Int), .int .i64 ((s.met + 1 : Nat) : Int)] H K Z := by
  refine V86_ok ?_
  unfold V86
  simp only [add_mk, Nat.zero_add]
  have e4 : q.d.n = s.wa.length := by have := RowN.len FlN (by decide) (h.get (k := 4) rfl); rwa [List.length_reverse] at this
  have e7 : q.f.n = s.steps.length := by have := RowN.len FlP (by decide) (h.get (k := 6) rfl); rwa [List.length_reverse] at this
  refine ⟨q.a, h.ld (k := 0) rfl 1, q.b, h.ld (k := 0) rfl 2, q.c, h.ld (k := 0) rfl 3, ?_⟩
  refine h.stn (k := 1) (y := s.met + 1) FlN rfl (mp_get hv) rfl fun A hA => ?_
  refine hA.stn (k := 2) (y := s.met + 1) FlN rfl (mp_get hv) rfl fun B hB => ?_
  refine hB.stn (k := 3) (y := true) FlB rfl (mp_get hv) rfl fun C hC => ?_
  refine ⟨q.d, hC.ld (k := 0) rfl 4, fun b1 D hD => ?_⟩
  refine hC.app1 (k := 4) (x := v) tyI FlN (by decide) hD rfl (by omega) fun ap E ha hE => ?_
  refine hE.stb (k := 0) (i := 4) (v := .slice ap.a ap.n ap.c) rfl (by simp) rfl fun F hF => ?_
  refine ⟨q.f, hF.ld (k := 0) rfl 7, fun b2 G hG => ?_⟩
  refine hF.app1 (k := 6) (x := (v, 0)) tyS FlP (by decide) hG rfl (by omega) fun ap1 I ha1 hI => ?_
  refine hI.stb (k := 0) (i := 7) (v := .slice ap1.a ap1.n ap1.c) rfl (by simp) rfl fun J hJ => ?_
  refine k ⟨q.a, q.b, q.c, ap, q.e, ap1⟩ J ?_
  have hJ' : Sym H0 S J ([blk b [.slice g.a g.n g.c, .slice q.a.a q.a.n q.a.c, .slice q.b.a q.b.n q.b.c, .slice q.c.a q.c.n q.c.c, .slice ap.a ap.n ap.c, .slice q.e.a q.e.n q.e.c, .int .i64 (s.parts : Int), .slice ap1.a ap1.n ap1.c] 104,
   arr flN 3 1 q.a ((mp N s.num).set v (s.met + 1)), arr flN 3 1 q.b ((mp N s.low).set v (s.met + 1)), arr flB 4 1 q.c ((mp N s.wt).set v true), arr flN 3 1 ap (s.wa.reverse ++ [v]), arr flN 3 1 q.e (mp N s.pt), arr flP 131 2 ap1 (s.steps.reverse ++ [(v, 0)])] ++ R) := hJ
  rw [mp_set, mp_set, mp_set] at hJ'
  have f1 : s.wa.reverse ++ [v] = (v :: s.wa).reverse := by simp
  have f2 : s.steps.reverse ++ [(v, 0)] = ((v, 0) :: s.steps).reverse := by simp
  rw [f1, f2] at hJ'
  exact hJ'

theorem min_eq {a c : Nat} : (if ((a : Nat) : Int) < ((c : Nat) : Int) then ((a : Nat) : Int) else ((c : Nat) : Int)) = ((min c a : Nat) : Int) := by
  split <;> omega
/-- some of those that wait are taken -/
def took (s : St) (p w : List Nat) : St := { s with wa := w, wt := fun v => if v ∈ p then false else s.wt v, pt := fun v => if v ∈ p then s.parts else s.pt v }
theorem took_upd {α : Type} {p : List Nat} {f : Nat → α} {k : Nat} {c : α} : upd (fun v => if v ∈ p then c else f v) k c = fun v => if v ∈ p ++ [k] then c else f v := by
  funext v
  by_cases hv : v = k
  · subst hv; simp [upd_self]
  · rw [upd_ne hv]; simp [hv]
set_option maxRecDepth 10000 in
theorem leave_ok {gf : Nat → List Nat} {x : Nat × Nat} {r : List (Nat × Nat)} (h : Sym H0 S H (SR N b g q s ++ R)) (hI : Inv N gf s) (e : s.steps = x :: r) (h1 : s.wa.length ≤ 100000000) (h2 : s.steps.length ≤ 100000000) (h3 : s.parts ≤ 100000000)
    (k1 : s.low x.1 ≠ s.num x.1 → ∀ q' H', Sym H0 S H' (SR N b g q' (pop s x r) ++ R) → K (.tuple #[]) H')
    (k2 : s.low x.1 = s.num x.1 → ∀ q' H' pre rest, s.wa = pre ++ x.1 :: rest → Sym H0 S H' (SR N b g q' (close s x r pre rest) ++ R) → K (.tuple #[]) H') :
    CallF Try.prog 87 #[.pointer (some ⟨b, 0, none⟩), .int .i64 (x.1 : Int)] H K Z := by
  refine V87_ok ?_
  unfold V87
  simp only [add_mk, Nat.zero_add]
  have hxs : x ∈ s.steps := by rw [e]; exact List.mem_cons_self
  have hxw := (hI.st2 x hxs).1
  have hxN : x.1 < N := hI.lt _ (by have := hI.wa3 _ hxw; omega)
  have e7 : q.f.n = s.steps.length := by have := RowN.len FlP (by decide) (h.get (k := 6) rfl); rwa [List.length_reverse] at this
  have hsl : s.steps.length = r.length + 1 := by rw [e]; rfl
  refine ⟨q.f, h.ld (k := 0) rfl 7, q.f, h.ld (k := 0) rfl 7, ?_⟩
  rw [e7, hsl, wd (by omega) (by omega), show r.length + 1 - 1 = r.length from rfl]
  have htk : s.steps.reverse.take r.length = r.reverse := by
    rw [e, List.reverse_cons, List.take_append_of_le_length (by simp), List.take_of_length_le (by simp)]
  have htr := h.trunc (k := 6) (hi := r.length) (K := fun cut => StL ⟨b, 7, none⟩ 0 [.slice cut.a cut.n cut.c] H fun H1 => ∃ q', Sym H0 S H1 (SR N b g q' { s with steps := r } ++ R) ∧ q'.f = cut) FlP (by decide) rfl (by rw [List.length_reverse]; omega) ?_
  rotate_left
  · rw [htk]
    intro hA
    refine hA.stb (k := 0) (i := 7) (v := .slice q.f.a r.length q.f.c) rfl (by simp) rfl fun B hB => ⟨⟨q.a, q.b, q.c, q.d, q.e, ⟨q.f.a, r.length, q.f.c⟩⟩, hB, rfl⟩
  obtain ⟨t1, t2, t3⟩ := htr
  rw [e7, hsl] at t1
  refine ⟨t1, t2, ?_⟩
  refine StL.mono t3 ?_
  rintro A ⟨q1, hA, _⟩
  have e71 : q1.f.n = r.length := by have := RowN.len FlP (by decide) (hA.get (k := 6) rfl); rwa [List.length_reverse] at this
  refine ⟨fun C => ∃ q2, Sym H0 S C (SR N b g q2 (pop s x r) ++ R), ?_, ?_⟩
  · rintro C ⟨q2, hC⟩ scr
    have hlow : (pop s x r).low x.1 = s.low x.1 := by
      show (match r with | [] => s.low | y :: _ => upd s.low y.1 (min (s.low y.1) (s.low x.1))) x.1 = _
      cases r with
      | nil => rfl
      | cons y r' =>
        have := hI.below e (y := y) List.mem_cons_self
        refine upd_ne fun hc => ?_
        rw [hc] at this
        omega
    refine ⟨q2.b, hC.ld (k := 0) rfl 2, ?_⟩
    refine (hC.rd (k := 2) FlN (by decide) rfl).ixn FlN (mp_get hxN) fun ad ea => ?_
    refine ⟨_, ea, q2.a, hC.ld (k := 0) rfl 1, ?_⟩
    refine (hC.rd (k := 1) FlN (by decide) rfl).ixn FlN (mp_get hxN) fun ad1 ea1 => ?_
    refine ⟨_, ea1, fun hne => ?_, fun heq => ?_⟩
    · refine k1 ?_ q2 C hC
      intro hc
      rw [hlow, hc] at hne
      simp [pop] at hne
    · have heq' : s.low x.1 = s.num x.1 := by
        rw [hlow] at heq
        have : ((s.low x.1 : Nat) : Int) = ((s.num x.1 : Nat) : Int) := by simpa [pop] using heq
        omega
      have hwt : s.wt x.1 = true := (hI.wa2 x.1).2 hxw
      refine ⟨fun D m => ∃ q3 p w, s.wa = p ++ w ∧ m = w.length ∧ ((x.1 ∉ p ∧ x.1 ∈ w) ∨ ∃ pre, p = pre ++ [x.1]) ∧ Sym H0 S D (SR N b g q3 (took (pop s x r) p w) ++ R), ⟨_, q2, [], s.wa, rfl, rfl, .inl ⟨by simp, hxw⟩, ?_⟩, ?_⟩
      · have : took (pop s x r) [] s.wa = pop s x r := by simp [took, pop]
        rw [this]
        exact hC
      rintro D m ⟨q3, p, w, hpw, rfl, hcase, hD⟩ scr1
      refine ⟨q3.c, hD.ld (k := 0) rfl 3, ?_⟩
      refine (hD.rd (k := 3) FlB (by decide) rfl).ixn FlB (mp_get hxN) fun ad2 ea2 => ?_
      refine ⟨_, ea2, fun hy => ?_, fun hy => ?_⟩
      · have hxp : x.1 ∉ p := by
          intro hc
          have : (if x.1 ∈ p then false else s.wt x.1) = true := hy
          rw [if_pos hc] at this
          cases this
        have hxw' : x.1 ∈ w := by
          rcases hcase with hc | ⟨pre, hc⟩
          · exact hc.2
          · exact absurd (by rw [hc]; simp) hxp
        obtain ⟨t, w', rfl⟩ : ∃ t w', w = t :: w' := by
          cases w with
          | nil => cases hxw'
          | cons t w' => exact ⟨t, w', rfl⟩
        have htw : t ∈ s.wa := by rw [hpw]; simp
        have htN : t < N := hI.lt _ (by have := hI.wa3 _ htw; omega)
        have e4 : q3.d.n = w'.length + 1 := by have := RowN.len FlN (by decide) (hD.get (k := 4) rfl); rw [List.length_reverse] at this; exact this
        have hwl : w'.length + 1 ≤ 100000000 := by
          have := congrArg List.length hpw
          rw [List.length_append, List.length_cons] at this
          omega
        have hrev : (t :: w').reverse = w'.reverse ++ [t] := List.reverse_cons
        have hget : (took (pop s x r) p (t :: w')).wa.reverse[w'.length]? = some t := by
          show (t :: w').reverse[w'.length]? = some t
          rw [hrev]
          simp
        refine ⟨q3.d, hD.ld (k := 0) rfl 4, q3.d, hD.ld (k := 0) rfl 4, ?_⟩
        rw [e4, wd (by omega) (by omega), show w'.length + 1 - 1 = w'.length from rfl]
        have hix := (hD.rd (k := 4) FlN (by decide) rfl)
        rw [← e4]
        refine hix.ixn FlN hget fun ad3 ea3 => ?_
        refine ⟨_, ea3, q3.d, hD.ld (k := 0) rfl 4, q3.d, hD.ld (k := 0) rfl 4, ?_⟩
        rw [e4, wd (by omega) (by omega), show w'.length + 1 - 1 = w'.length from rfl]
        rw [← e4]
        refine hD.trunc (k := 4) (hi := w'.length) FlN (by decide) rfl (by show w'.length ≤ (t :: w').reverse.length; simp) fun hE => ?_
        have htk' : (took (pop s x r) p (t :: w')).wa.reverse.take w'.length = w'.reverse := by
          show (t :: w').reverse.take w'.length = _
          rw [hrev, List.take_append_of_le_length (by simp), List.take_of_length_le (by simp)]
        rw [htk'] at hE
        refine hE.stb (k := 0) (i := 4) (v := .slice q3.d.a w'.length q3.d.c) rfl (by simp) rfl fun E1 hE1 => ?_
        refine ⟨q3.e, hE1.ld (k := 0) rfl 5, q3.c, hE1.ld (k := 0) rfl 3, _, hE1.ld (k := 0) rfl 6, ?_⟩
        refine hE1.stn (k := 5) (y := s.parts) FlN rfl (mp_get htN) rfl fun F hF => ?_
        refine hF.stn (k := 3) (y := false) FlB rfl (mp_get htN) rfl fun G hG => ?_
        refine ⟨w'.length, by simp, ⟨q3.a, q3.b, q3.c, ⟨q3.d.a, w'.length, q3.d.c⟩, q3.e, q3.f⟩, p ++ [t], w', by rw [hpw]; simp, rfl, ?_, ?_⟩
        · by_cases hc : t = x.1
          · exact .inr ⟨p, by rw [hc]⟩
          · refine .inl ⟨?_, ?_⟩
            · rw [List.mem_append, List.mem_singleton, not_or]
              exact ⟨hxp, fun h => hc h.symm⟩
            · rcases List.mem_cons.1 hxw' with h | h
              · exact absurd h.symm hc
              · exact h
        · have hG' : Sym H0 S G ([blk b [.slice g.a g.n g.c, .slice q3.a.a q3.a.n q3.a.c, .slice q3.b.a q3.b.n q3.b.c, .slice q3.c.a q3.c.n q3.c.c, .slice q3.d.a w'.length q3.d.c, .slice q3.e.a q3.e.n q3.e.c, .int .i64 (s.parts : Int), .slice q3.f.a q3.f.n q3.f.c] 104,
            arr flN 3 1 q3.a (mp N s.num), arr flN 3 1 q3.b (mp N (pop s x r).low), arr flB 4 1 q3.c ((mp N (fun v => if v ∈ p then false else s.wt v)).set t false), arr flN 3 1 ⟨q3.d.a, w'.length, q3.d.c⟩ w'.reverse, arr flN 3 1 q3.e ((mp N (fun v => if v ∈ p then s.parts else s.pt v)).set t s.parts), arr flP 131 2 q3.f r.reverse] ++ R) := hG
          rw [mp_set, mp_set, took_upd, took_upd] at hG'
          exact hG'
      · have hxp : x.1 ∈ p := by
          apply Classical.byContradiction
          intro hc
          have : (if x.1 ∈ p then false else s.wt x.1) = false := hy
          rw [if_neg hc, hwt] at this
          cases this
        obtain ⟨pre, rfl⟩ : ∃ pre, p = pre ++ [x.1] := by
          rcases hcase with hc | hc
          · exact absurd hxp hc.1
          · exact hc
        refine ⟨_, hD.ld (k := 0) rfl 6, ?_⟩
        have hw : w64 (((took (pop s x r) (pre ++ [x.1]) w).parts : Int) + 1) = ((s.parts + 1 : Nat) : Int) := wi (by show s.parts ≤ _; omega)
        rw [hw]
        refine hD.stb (k := 0) (i := 6) rfl (by simp) rfl fun E hE => ?_
        exact k2 heq' q3 E pre w (by rw [hpw]; simp) hE
  · refine ⟨q1.f, hA.ld (k := 0) rfl 7, fun hpos => ?_, fun hz => ?_⟩
    · have hpos' : 0 < r.length := by have := of_decide_eq_true hpos; omega
      obtain ⟨y, r', rfl⟩ : ∃ y r', r = y :: r' := by
        cases r with
        | nil => simp at hpos'
        | cons y r' => exact ⟨y, r', rfl⟩
      have hys : y ∈ s.steps := by rw [e]; simp
      have hyN : y.1 < N := hI.lt _ (by have := hI.wa3 _ (hI.st2 y hys).1; omega)
      refine ⟨q1.f, hA.ld (k := 0) rfl 7, q1.f, hA.ld (k := 0) rfl 7, ?_⟩
      have e72 : q1.f.n = r'.length + 1 := e71
      have hrl : r'.length + 1 ≤ 100000000 := by simp at hsl; omega
      have hix := (hA.rd (k := 6) FlP (by decide) rfl)
      have hww : w64 ((q1.f.n : Int) - 1) = (r'.length : Int) := by rw [e72, wd (by omega) (by omega)]; rfl
      rw [hww]
      have hget : (y :: r').reverse[r'.length]? = some y := by rw [List.reverse_cons]; simp
      refine hix.ix (by decide) FlP (by omega) hget fun ad6 _ ea6 => ?_
      refine ⟨_, ea6, q1.b, hA.ld (k := 0) rfl 2, q1.b, hA.ld (k := 0) rfl 2, ?_⟩
      refine (hA.rd (k := 2) FlN (by decide) rfl).ixn FlN (mp_get hyN) fun ad7 ea7 => ?_
      refine ⟨_, ea7, q1.b, hA.ld (k := 0) rfl 2, ?_⟩
      refine (hA.rd (k := 2) FlN (by decide) rfl).ixn FlN (mp_get hxN) fun ad8 ea8 => ?_
      refine ⟨_, ea8, ?_⟩
      rw [min_eq]
      refine hA.stn (k := 2) (y := min (s.low y.1) (s.low x.1)) FlN rfl (mp_get hyN) rfl fun B hB => ⟨q1, ?_⟩
      have hB' : Sym H0 S B ([blk b [.slice g.a g.n g.c, .slice q1.a.a q1.a.n q1.a.c, .slice q1.b.a q1.b.n q1.b.c, .slice q1.c.a q1.c.n q1.c.c, .slice q1.d.a q1.d.n q1.d.c, .slice q1.e.a q1.e.n q1.e.c, .int .i64 (s.parts : Int), .slice q1.f.a q1.f.n q1.f.c] 104,
        arr flN 3 1 q1.a (mp N s.num), arr flN 3 1 q1.b ((mp N s.low).set y.1 (min (s.low y.1) (s.low x.1))), arr flB 4 1 q1.c (mp N s.wt), arr flN 3 1 q1.d s.wa.reverse, arr flN 3 1 q1.e (mp N s.pt), arr flP 131 2 q1.f (y :: r').reverse] ++ R) := hB
      rw [mp_set] at hB'
      exact hB'
    · have hz' : r.length = 0 := by have := of_decide_eq_false hz; omega
      obtain rfl : r = [] := List.eq_nil_of_length_eq_zero hz'
      exact ⟨q1, hA⟩
end
end
end Go.Proofs.Ytoigfahdgphpdaa.C7

