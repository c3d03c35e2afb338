/- slices.Insert of one element into a row of one's own; of no program. -/
import Derived.Test.YtigbdoicgdmliaaDoorV10
set_option linter.unusedVariables false
set_option linter.unusedSimpArgs false
namespace Go.V
attribute [local irreducible] Cvt ExtF CallF

theorem ov_ok {P : Program} {ov : FuncId} {T E : TypeId} {f : Func} {inf : TypeInfo} {ps rs : Array TypeId} (hf : P.funcs[ov]? = some f) (h1 : (f.name == "runtime.NumGoroutine") = false) (h2 : f.body.isNone = true) (h3 : (Extern.findNext f).isNone = true)
    (h4 : Extern.find f = some (Extern.SlicesOverlaps.overlaps ps rs)) (hp : ps[0]? = some T) (hu : P.underlying T = some (.slice E)) (hi : P.info? E = some inf)
    {H : Hp} {g1 g2 o1 o2 n1 n2 c1 c2 : Nat} {cs1 cs2 : List Value} {T1 T2 : TypeId} (ha : Blk H g1 cs1 T1) (hb : Blk H g2 cs2 T2) (hne : g1 ≠ g2) {K : Value → Hp → Prop} (k : K (.bool false) H) :
    ExtF P ov [.slice (some ⟨g1, o1, none⟩) n1 c1, .slice (some ⟨g2, o2, none⟩) n2 c2] H K := by
  unfold ExtF callFunc
  simp only [program, bind, Sem.bind, hrun, hf, h1, h2, Bool.false_eq_true, if_false, if_true, mark]
  cases hx : Extern.findNext f with
  | some e => rw [hx] at h3; cases h3
  | none =>
    simp only [h4]
    have hs1 : hshape H g1 = some (T1, cs1.length) := by
      unfold hshape
      have h' : H[g1]? = some (.cells cs1.toArray T1 (0, 0)) := ha
      rw [h']
      simp
    have hs2 : hshape H g2 = some (T2, cs2.length) := by
      unfold hshape
      have h' : H[g2]? = some (.cells cs2.toArray T2 (0, 0)) := hb
      rw [h']
      simp
    have f1 := ha.frozen
    have f2 := hb.frozen
    have hneb : (g1 == g2) = false := by simpa using hne
    have hneb' : (g1 != g2) = true := by simpa using hne
    have hdef : Extern.SlicesOverlaps.overlaps ps rs #[.slice (some ⟨g1, o1, none⟩) n1 c1, .slice (some ⟨g2, o2, none⟩) n2 c2] = (do
        let some t := ps[0]? | stuck "slices.overlaps: no parameter types"
        let .slice elem ← underlying t | stuck "slices.overlaps: slice type expected"
        let size ← sizeOf elem
        if n1 = 0 ∨ n2 = 0 ∨ size = 0 then pure (.bool false)
        else if g1 != g2 && (← frozen ⟨g1, o1, none⟩) && (← frozen ⟨g2, o2, none⟩) then unsupported .addressObserved
        else do
          if g1 != g2 then do
            noView ⟨g1, o1, none⟩; noView ⟨g2, o2, none⟩
            if ← mayBeOne ⟨g1, o1, none⟩ ⟨g2, o2, none⟩ then return .bool ((← choose (.extern "sameAddr.stringBytes" 2)) == 1)
          pure (.bool (g1 == g2 && o1 < o2 + n2 * size && o2 < o1 + n1 * size))) := rfl
    rw [hdef, hp]
    simp only [bind, Sem.bind]
    refine hrun_bind _ (hrun_bind _ (hrun_pureV _ (pv_underlying hu) ?_))
    simp only
    refine hrun_bind _ (hrun_pureV _ (pv_sizeOf hi) ?_)
    split
    · simp only [pure, hrun]; exact k
    · simp only [hneb', hneb, mayBeOne, noView, viewAt, stringish, shape, frozen, bind, Sem.bind, hrun, pure, f1, f2, hs1, hs2, Bool.and_false, Bool.false_and, Bool.false_eq_true, if_false, if_true, Option.isSome_some, Option.isSome_none]
      simpa [hrun] using k
/-- slices.Insert, as it is printed -/
def InsV (P : Program) (T Ti : TypeId) (ov rot : FuncId) (sz : Nat) (H : Hp) (s : Sl) (i : Int) (v : Sl) (K : Value → Hp → Prop) (Z : List PanicEntry → Hp → Prop) : Prop :=
  (s.n ≤ s.c ∧ SlX s.a s.c i (s.n : Int) sz fun cut => ((((v.n : Int) == 0) = true → K (.slice s.a s.n s.c) H) ∧ 
    (((v.n : Int) == 0) = false → (((i == (s.n : Int)) = true → App P #[T, T] T H [.slice s.a s.n s.c, .slice v.a v.n v.c] fun ap H1 => 
    (K (.slice ap.a ap.n ap.c) H1)) ∧ ((i == (s.n : Int)) = false → (((decide ((w64 ((s.n : Int) + (v.n : Int))) > (s.c : Int))) = true → 
    (s.n ≤ s.c ∧ SlX s.a s.c 0 i sz fun cut1 => (App P #[T, Ti] T H [.slice cut1.a cut1.n cut1.c, .int .i64 (w64 ((w64 ((s.n : Int) + (v.n : Int))) - i))] fun ap1 H2 => 
    (ap1.n ≤ ap1.c ∧ SlX ap1.a ap1.c i (ap1.n : Int) sz fun cut2 => (Cpy P #[T, T] Ti H2 [.slice cut2.a cut2.n cut2.c, .slice v.a v.n v.c] fun cp H3 => 
    (ap1.n ≤ ap1.c ∧ SlX ap1.a ap1.c (w64 (i + (v.n : Int))) (ap1.n : Int) sz fun cut3 => (s.n ≤ s.c ∧ 
    SlX s.a s.c i (s.n : Int) sz fun cut4 => (Cpy P #[T, T] Ti H3 [.slice cut3.a cut3.n cut3.c, .slice cut4.a cut4.n cut4.c] fun cp1 H4 => 
    (K (.slice ap1.a ap1.n ap1.c) H4))))))))) ∧ ((decide ((w64 ((s.n : Int) + (v.n : Int))) > (s.c : Int))) = false → 
    (s.n ≤ s.c ∧ SlX s.a s.c 0 (w64 ((s.n : Int) + (v.n : Int))) sz fun cut5 => (cut5.n ≤ cut5.c ∧ SlX cut5.a cut5.c (w64 (i + (v.n : Int))) (cut5.n : Int) sz fun cut6 => 
    (ExtF P ov [.slice v.a v.n v.c, .slice cut6.a cut6.n cut6.c] H fun r H5 => ∃ y : Bool, r = .bool y ∧ 
    (((!y) = true → (cut5.n ≤ cut5.c ∧ SlX cut5.a cut5.c (w64 (i + (v.n : Int))) (cut5.n : Int) sz fun cut7 => 
    (cut5.n ≤ cut5.c ∧ SlX cut5.a cut5.c i (cut5.n : Int) sz fun cut8 => (Cpy P #[T, T] Ti H5 [.slice cut7.a cut7.n cut7.c, .slice cut8.a cut8.n cut8.c] fun cp2 H6 => 
    (cut5.n ≤ cut5.c ∧ SlX cut5.a cut5.c i (cut5.n : Int) sz fun cut9 => (Cpy P #[T, T] Ti H6 [.slice cut9.a cut9.n cut9.c, .slice v.a v.n v.c] fun cp3 H7 => 
    (K (.slice cut5.a cut5.n cut5.c) H7))))))) ∧ ((!y) = false → (cut5.n ≤ cut5.c ∧ SlX cut5.a cut5.c (s.n : Int) (cut5.n : Int) sz fun cut10 => 
    (Cpy P #[T, T] Ti H5 [.slice cut10.a cut10.n cut10.c, .slice v.a v.n v.c] fun cp4 H8 => (cut5.n ≤ cut5.c ∧ 
    SlX cut5.a cut5.c i (cut5.n : Int) sz fun cut11 => (CallF P rot #[.slice cut11.a cut11.n cut11.c, .int .i64 (v.n : Int)] H8 (fun r1 H9 => 
    r1 = .tuple #[] ∧ K (.slice cut5.a cut5.n cut5.c) H9) Z))))))))))))))))

theorem cut_lo (a : Option Addr) (c hi sz : Nat) : cut a c 0 hi sz = ⟨a, hi, c⟩ := by
  unfold cut
  have : a.map (fun x => x.add (0 * sz)) = a := by
    cases a with
    | none => rfl
    | some ad => simp [add_zero']
  rw [this]
  split <;> rfl
theorem cut_at {g c lo hi sz : Nat} (h : lo < c) : cut (some ⟨g, 0, none⟩) c lo hi sz = ⟨some ⟨g, lo * sz, none⟩, hi - lo, c - lo⟩ := by
  unfold cut
  rw [if_neg (by omega)]
  simp only [Option.map_some, add_mk, Nat.zero_add]
theorem cut_end (a : Option Addr) (c hi sz : Nat) : cut a c c hi sz = ⟨a, hi - c, c - c⟩ := by
  unfold cut
  rw [if_pos rfl]

theorem ins_ok {P : Program} {T Ti E : TypeId} {k2 : IntKind} {ov rot : FuncId} {f : Func} {inf : TypeInfo} {ps rs : Array TypeId} {z : Value} {sz : Nat}
    (hf : P.funcs[ov]? = some f) (h1 : (f.name == "runtime.NumGoroutine") = false) (h2 : f.body.isNone = true) (h3 : (Extern.findNext f).isNone = true)
    (h4 : Extern.find f = some (Extern.SlicesOverlaps.overlaps ps rs)) (hp : ps[0]? = some T) (hu : P.underlying T = some (.slice E)) (hu2 : P.underlying Ti = some (.int k2)) (hi : P.info? E = some inf) (hz : inf.zero = some z) (hzs : z.cells.size = inf.size) (hb : 0 < inf.bytes) (hsz : inf.size = sz) (hsz0 : 0 < sz)
    {H : Hp} {s : Sl} {xs vs : List Value} {i b1 : Nat} {K : Value → Hp → Prop} {Z : List PanicEntry → Hp → Prop} (hr : Row H E sz s xs) (hnf : Nf H s) (hx1 : ∀ v ∈ xs, v.oneCell = true) (hv : Blk H b1 vs E) (hvl : vs.length = sz) (hv1 : ∀ v ∈ vs, v.oneCell = true) (hne : ¬ own s b1)
    (hin : i ≤ s.n) (hbig : (s.n + 1) * inf.bytes ≤ 140737488355328)
    (k : ∀ s' H', Row H' E sz s' (xs.take (i * sz) ++ vs ++ xs.drop (i * sz)) → Nf H' s' → s'.n = s.n + 1 → Fr (own s) H H' → (∀ j, own s' j → own s j ∨ H.size ≤ j) → K (.slice s'.a s'.n s'.c) H') :
    InsV P T Ti ov rot sz H s (i : Int) ⟨some ⟨b1, 0, none⟩, 1, 1⟩ K Z := by
  have hle := hr.le
  have hbn : s.n + 1 ≤ 140737488355328 := Nat.le_trans (Nat.le_mul_of_pos_right _ hb) hbig
  have w1 : ∀ n : Nat, n ≤ 140737488355328 → w64 (n : Int) = (n : Int) := by
    intro n hn
    simp only [w64, IntKind.wrap, IntKind.bits, IntKind.signed, Int.reducePow, Nat.reduceSub, Bool.true_and, decide_eq_true_eq, ge_iff_le]
    by_cases h : 9223372036854775808 ≤ (n : Int) % 18446744073709551616
    · rw [if_pos h]; omega
    · rw [if_neg h]; omega
  have e1 : w64 ((s.n : Int) + ((1 : Nat) : Int)) = ((s.n + 1 : Nat) : Int) := by rw [← w1 (s.n + 1) hbn]; rfl
  unfold InsV
  simp only [e1]
  refine ⟨hle, ⟨⟨by omega, by omega, by omega⟩, ?_⟩⟩
  refine ⟨fun h => by simp at h, fun _ => ⟨fun hend => ?_, fun hend => ?_⟩⟩
  · have hend' : i = s.n := by
      have : (i : Int) = (s.n : Int) := by simpa using hend
      omega
    subst hsz
    refine app_row2 hu (by intro k; rw [hu]; simp) ⟨_, hu⟩ hi hz hzs hb hr (Src.blk hv (by rw [hvl]; simp)) hv1 hbig ?_
    intro s' H' hr' hn' hf' ho' hnf'
    refine k s' H' ?_ (hnf' hnf) hn' hf' ho'
    have hl : xs.length = i * inf.size := by rw [hr.1, hend']
    rw [List.take_of_length_le (by omega), List.drop_of_length_le (by omega), List.append_nil]
    exact hr'
  have hlt : i < s.n := by
    have : ¬ (i : Int) = (s.n : Int) := by simpa using hend
    omega
  obtain ⟨g, hga⟩ := hr.some (by omega)
  rcases hr.2 with ⟨ha0, _⟩ | ⟨g', cs, fr, ha, hg, r1, r2, r3, r4⟩
  · rw [hga] at ha0; cases ha0
  obtain rfl : g' = g := by rw [hga] at ha; simpa using ha.symm
  have hfr0 : fr = (0, 0) := by
    obtain ⟨cs', T', hb'⟩ := hnf g' 0 hga
    rw [hg] at hb'
    simp only [Option.some.injEq, Obj.cells.injEq] at hb'
    exact hb'.2.2
  subst hfr0
  have hgb : b1 ≠ g' := fun e => hne ⟨0, by rw [hga, e]⟩
  have hxl := hr.1
  have hmul : i * sz + (s.n - i) * sz = s.n * sz := by rw [← Nat.add_mul]; congr 1; omega
  have hmul1 : (i + 1) * sz = i * sz + sz := Nat.succ_mul i sz
  have hmul2 : (s.n + 1) * sz = s.n * sz + sz := Nat.succ_mul s.n sz
  have hcsn : s.n * sz ≤ cs.length := by rw [r2]; exact Nat.mul_le_mul_right _ r1
  have hdrop : (cs.drop (i * sz)).take ((s.n - i) * sz) = xs.drop (i * sz) := by
    rw [← r3, List.drop_take]
    congr 1
    omega
  have htake : cs.take (i * sz) = xs.take (i * sz) := by
    rw [← r3, List.take_take]
    congr 1
    omega
  refine ⟨fun hgrow => ?_, fun hroom => ?_⟩
  · have hgrow' : s.c < s.n + 1 := by
      have : ((s.n + 1 : Nat) : Int) > (s.c : Int) := of_decide_eq_true hgrow
      omega
    have e2 : w64 (((s.n + 1 : Nat) : Int) - (i : Int)) = ((s.n + 1 - i : Nat) : Int) := by rw [← w1 (s.n + 1 - i) (by omega)]; congr 1; omega
    rw [e2]
    refine ⟨hle, ⟨⟨by omega, by omega, by omega⟩, ?_⟩⟩
    rw [show (0 : Int).toNat = 0 from rfl, Int.toNat_natCast, cut_lo]
    subst hsz
    have en : i + (s.n + 1 - i) = s.n + 1 := by omega
    refine app_make (s := ⟨s.a, i, s.c⟩) (m := s.n + 1 - i) hu hu2 hi hz hzs hb (xs := xs.take (i * inf.size)) ?_ ?_ (Nat.mul_pos (by omega) hsz0) (by show s.c < i + (s.n + 1 - i); omega) (by show (i + (s.n + 1 - i)) * inf.bytes ≤ _; rw [en]; exact hbig) ?_
    · intro K' Z' hk
      rw [hga]
      refine first_cells hg (by show 0 + i * inf.size ≤ _; omega) ?_
      rw [List.drop_zero, htake]
      exact hk
    · rw [List.length_take]; show _ = i * inf.size; omega
    intro g2 A cap zs hn hcap hzl
    have hA := hn.blk
    have hfA := hn.fr
    have hcap' : s.n + 1 ≤ cap := by have : i + (s.n + 1 - i) ≤ cap := hcap; omega
    have hcapl : (s.n + 1) * inf.size ≤ cap * inf.size := Nat.mul_le_mul_right _ hcap'
    simp only [en]
    have hg2 : g2 = H.size := hn.eq
    have hglt := lt_of_some hg
    have hb1lt := hv.lt
    refine ⟨hcap', ⟨⟨by omega, by omega, by omega⟩, ?_⟩⟩
    rw [Int.toNat_natCast, Int.toNat_natCast, cut_at (by omega)]
    refine cpy_ok hu hi (m := 1) (ys := vs) rfl ?_ hA (by rw [hvl, hzl]; omega) hv1 (.inr (Nat.le_refl _)) ?_
    · intro K' Z' hk
      have hm1 : Nat.min 1 (s.n + 1 - i) = 1 := Nat.min_eq_left (by omega)
      show hrun P (Builtin.firstCells inf.size (Nat.min 1 (s.n + 1 - i)) _) _ _ _
      rw [hm1]
      refine first_cells (hfA.blk hv fun h => h) (by rw [hvl]; omega) ?_
      rw [List.drop_zero, List.take_of_length_le (by rw [hvl]; omega)]
      exact hk
    intro B hB hfB hsB
    have e3 : w64 ((i : Int) + ((1 : Nat) : Int)) = ((i + 1 : Nat) : Int) := by rw [← w1 (i + 1) (by omega)]; rfl
    rw [e3]
    refine ⟨hcap', ⟨⟨by omega, by omega, by omega⟩, ?_⟩⟩
    refine ⟨hle, ⟨⟨by omega, by omega, by omega⟩, ?_⟩⟩
    simp only [Int.toNat_natCast]
    rw [hga, cut_at (by omega), cut_at (by omega)]
    have hgB : B[g']? = some (.cells cs.toArray E (0, 0)) := hfB.at (hfA.at hg fun h => h) (by omega)
    have hdl : (xs.drop (i * inf.size)).length = (s.n - i) * inf.size := by rw [List.length_drop, hxl]; omega
    refine cpy_ok hu hi (m := s.n - i) (ys := xs.drop (i * inf.size)) rfl ?_ hB ?_ (fun v hv => hx1 v (List.mem_of_mem_drop hv)) (.inr (Nat.le_refl _)) ?_
    · intro K' Z' hk
      have hm1 : Nat.min (s.n - i) (s.n + 1 - (i + 1)) = s.n - i := Nat.min_eq_left (by omega)
      show hrun P (Builtin.firstCells inf.size (Nat.min (s.n - i) (s.n + 1 - (i + 1))) _) _ _ _
      rw [hm1]
      refine first_cells hgB (by omega) ?_
      rw [hdrop]
      exact hk
    · rw [setsL_length, hzl, hdl]; omega
    intro C hC hfC hsC
    have hti : (xs.take (i * inf.size)).length = i * inf.size := by rw [List.length_take]; omega
    have hzl' : i * inf.size + zs.length = cap * inf.size := by rw [← hzl, List.length_append, hti]
    rw [setsL_app hti.symm (by omega), ← List.append_assoc, setsL_app (by rw [List.length_append, hti, hvl]; omega) (by rw [hdl, List.length_drop]; omega)] at hC
    have hlenC : (xs.take (i * inf.size) ++ vs ++ (xs.drop (i * inf.size) ++ (zs.drop vs.length).drop (xs.drop (i * inf.size)).length)).length = cap * inf.size := by
      simp only [List.length_append, hti, hvl, hdl, List.length_drop]
      omega
    have hfin : (xs.take (i * inf.size) ++ vs ++ xs.drop (i * inf.size)).length = (s.n + 1) * inf.size := by
      simp only [List.length_append, hti, hvl, hdl]
      omega
    refine k ⟨some ⟨g2, 0, none⟩, s.n + 1, cap⟩ C ⟨hfin, .inr ⟨g2, _, (0, 0), rfl, hC, hcap', hlenC, ?_, Nat.zero_le _⟩⟩ ?_ rfl ?_ ?_
    · rw [← List.append_assoc, ← hfin, List.take_left]
    · intro g0 o0 e0
      simp only [Option.some.injEq, Addr.mk.injEq] at e0
      exact ⟨_, _, by rw [← e0.1]; exact hC⟩
    · have : Fr no H A := hfA
      refine ((this.of_no (S := own s)).step hfB ?_).step hfC ?_
      · intro j hj ej; omega
      · intro j hj ej; omega
    · rintro j ⟨o, ho⟩
      simp only [Option.some.injEq, Addr.mk.injEq] at ho
      exact .inr (by omega)
  · have hroom' : s.n + 1 ≤ s.c := by
      have : ¬ ((s.n + 1 : Nat) : Int) > (s.c : Int) := of_decide_eq_false hroom
      omega
    have e3 : w64 ((i : Int) + ((1 : Nat) : Int)) = ((i + 1 : Nat) : Int) := by rw [← w1 (i + 1) (by omega)]; rfl
    rw [e3]
    refine ⟨hle, ⟨⟨by omega, by omega, by omega⟩, ?_⟩⟩
    simp only [show (0 : Int).toNat = 0 from rfl, Int.toNat_natCast, cut_lo]
    refine ⟨hroom', ⟨⟨by omega, by omega, by omega⟩, ?_⟩⟩
    simp only [Int.toNat_natCast]
    have hcut := @cut_at g' s.c (i + 1) (s.n + 1) sz
    rw [hga, cut_at (by omega)]
    refine ov_ok hf h1 h2 h3 h4 hp hu hi hv hg hgb ⟨false, rfl, fun _ => ?_, fun h => by simp at h⟩
    refine ⟨hroom', ⟨⟨by omega, by omega, by omega⟩, hroom', ⟨⟨by omega, by omega, by omega⟩, ?_⟩⟩⟩
    simp only [Int.toNat_natCast]
    rw [cut_at (by omega), cut_at (by omega)]
    subst hsz
    have hdl : (xs.drop (i * inf.size)).length = (s.n - i) * inf.size := by rw [List.length_drop, hxl]; omega
    have hti : (xs.take (i * inf.size)).length = i * inf.size := by rw [List.length_take]; omega
    have hcl : (s.n + 1) * inf.size ≤ cs.length := by rw [r2]; exact Nat.mul_le_mul_right _ hroom'
    refine cpy_ok hu hi (m := s.n + 1 - i) (ys := xs.drop (i * inf.size)) rfl ?_ hg (by rw [hdl]; omega) (fun v hv => hx1 v (List.mem_of_mem_drop hv)) (.inr (Nat.le_refl _)) ?_
    · intro K' Z' hk
      have hm1 : Nat.min (s.n + 1 - i) (s.n + 1 - (i + 1)) = s.n - i := by
        show min _ _ = _
        omega
      show hrun P (Builtin.firstCells inf.size (Nat.min (s.n + 1 - i) (s.n + 1 - (i + 1))) _) _ _ _
      rw [hm1]
      refine first_cells hg (by omega) ?_
      rw [hdrop]
      exact hk
    intro B hB hfB hsB
    refine ⟨hroom', ⟨⟨by omega, by omega, by omega⟩, ?_⟩⟩
    simp only [Int.toNat_natCast]
    rw [cut_at (by omega)]
    have hvB : Blk B b1 vs E := hfB.blk hv hgb
    refine cpy_ok hu hi (m := 1) (ys := vs) rfl ?_ hB (by rw [setsL_length, hvl]; omega) hv1 (.inr (Nat.le_refl _)) ?_
    · intro K' Z' hk
      have hm1 : Nat.min 1 (s.n + 1 - i) = 1 := Nat.min_eq_left (by omega)
      show hrun P (Builtin.firstCells inf.size (Nat.min 1 (s.n + 1 - i)) _) _ _ _
      rw [hm1]
      refine first_cells hvB (by rw [hvl]; omega) ?_
      rw [List.drop_zero, List.take_of_length_le (by rw [hvl]; omega)]
      exact hk
    intro C hC hfC hsC
    -- the cells: X, Y, what is behind
    generalize hR : cs.drop (s.n * inf.size) = R at *
    have hcs : cs = xs.take (i * inf.size) ++ (xs.drop (i * inf.size) ++ R) := by
      rw [← List.append_assoc, List.take_append_drop, ← hR, ← r3, List.take_append_drop]
    have hRl : inf.size ≤ R.length := by
      rw [← hR, List.length_drop]
      omega
    generalize hQ : xs.drop (i * inf.size) ++ R = Q at *
    have hQl : Q.length = (s.n - i) * inf.size + R.length := by rw [← hQ, List.length_append, hdl]
    have hcs2 : cs = (xs.take (i * inf.size) ++ Q.take inf.size) ++ Q.drop inf.size := by
      rw [List.append_assoc, List.take_append_drop]
      exact hcs
    have hQt : (Q.take inf.size).length = inf.size := by rw [List.length_take]; omega
    rw [hcs2, setsL_app (by rw [List.length_append, hti, hQt]; omega) (by rw [hdl, List.length_drop]; omega), List.append_assoc, setsL_app hti.symm (by rw [hvl, List.length_append, hQt]; omega)] at hC
    have hdropq : (Q.take inf.size ++ (xs.drop (i * inf.size) ++ (Q.drop inf.size).drop (xs.drop (i * inf.size)).length)).drop vs.length = xs.drop (i * inf.size) ++ (Q.drop inf.size).drop (xs.drop (i * inf.size)).length := by
      rw [hvl]
      conv => lhs; arg 1; rw [← hQt]
      exact List.drop_left
    rw [hdropq] at hC
    have hfin : (xs.take (i * inf.size) ++ vs ++ xs.drop (i * inf.size)).length = (s.n + 1) * inf.size := by
      simp only [List.length_append, hti, hvl, hdl]
      omega
    have hlenC : (xs.take (i * inf.size) ++ (vs ++ (xs.drop (i * inf.size) ++ (Q.drop inf.size).drop (xs.drop (i * inf.size)).length))).length = s.c * inf.size := by
      have hcc := congrArg List.length hcs
      rw [List.length_append, hti, hQl] at hcc
      simp only [List.length_append, hti, hvl, hdl, List.length_drop, hQl]
      omega
    refine k ⟨some ⟨g', 0, none⟩, s.n + 1, s.c⟩ C ⟨hfin, .inr ⟨g', _, (0, 0), rfl, hC, hroom', hlenC, ?_, Nat.zero_le _⟩⟩ ?_ rfl ?_ ?_
    · have e9 : xs.take (i * inf.size) ++ (vs ++ (xs.drop (i * inf.size) ++ (Q.drop inf.size).drop (xs.drop (i * inf.size)).length)) = (xs.take (i * inf.size) ++ vs ++ xs.drop (i * inf.size)) ++ (Q.drop inf.size).drop (xs.drop (i * inf.size)).length := by
        simp only [List.append_assoc]
      rw [e9, ← hfin, List.take_left]
    · intro g0 o0 e0
      simp only [Option.some.injEq, Addr.mk.injEq] at e0
      exact ⟨_, _, by rw [← e0.1]; exact hC⟩
    · refine (hfB.mono ?_).step hfC ?_
      · intro j _ ej
        exact ⟨0, by rw [hga, ej]⟩
      · intro j _ ej
        exact ⟨0, by rw [hga, ej]⟩
    · rintro j ⟨o, ho⟩
      simp only [Option.some.injEq, Addr.mk.injEq] at ho
      exact .inl ⟨0, by rw [hga, ho.1]⟩
end Go.V

