/- agenda's picks, weftref08, and weftlaw08's helpers. -/
import Derived.Test.YtigbdoicgdmliaaC08I
import Derived.Test.YtigbdoicgdmliaaC08S
set_option linter.unusedVariables false
set_option linter.unusedSimpArgs false
-- tPicks: 104
-- tInt: 3
-- tInts: 22
-- tStr: 9
-- of: 11
-- next: 12
-- rNext: 13
-- rHas: 20
-- rPut: 16
-- rTake: 18
-- clone: 52
-- in: 24
namespace Go.Proofs.Ytigbdoicgdmliaa.C08
open Go Go.V Go.Proofs Go.Proofs.Ytigbdoicgdmliaa.N08
attribute [local irreducible] Cvt ExtF CallF hrun App MkS
section
variable {H0 H H' : Hp} {S : Nat → Prop} {L : List It} {K : Value → Hp → Prop} {Z : List PanicEntry → Hp → Prop}
def nthL (l : List Int) (i : Nat) : Int := (l[i]?).getD 0
theorem rnext_ok {s : Sl} {l : List Int} {i : Nat} (h : Rd flI 1 H s l) (k : K (.int .i64 (nthL l i)) H) : CallF Try.prog 13 #[.slice s.a s.n s.c, .int .i64 (i : Int)] H K Z := by
  refine V13_ok ?_
  unfold V13
  have hl := h.len
  refine ⟨fun h0 => ?_, fun _ => ⟨fun hge => ?_, fun hlt => ?_⟩⟩
  · have := of_decide_eq_true h0; omega
  · have := of_decide_eq_true hge
    have e : nthL l i = 0 := by unfold nthL; rw [List.getElem?_eq_none (by omega)]; rfl
    rw [e] at k
    exact k
  · have := of_decide_eq_false hlt
    have hx : l[i]? = some (l[i]'(by omega)) := List.getElem?_eq_getElem _
    refine h.ixn FlI hx fun ad had => ⟨_, had, ?_⟩
    have e : nthL l i = l[i]'(by omega) := by unfold nthL; rw [hx]; rfl
    rw [e] at k
    exact k
/-- the picks: numbers, and how many were taken -/
def pkL (b : Nat) (s : Sl) (l : List Int) (i : Nat) : List It := [blk b [.slice s.a s.n s.c, .int .i64 (i : Int)] 104, rdI flI 1 s l]
theorem rowI {s : Sl} {l : List Int} {E : TypeId} (h : Row H E 1 s (flat flI l)) : (rdI flI 1 s l).ok H := by
  have hn : s.n = l.length := by have := h.1; rw [flat_len FlI] at this; omega
  refine ⟨⟨hn, h.le, fun i x k v hx hv => ?_⟩, ?_⟩
  · have hi := (List.getElem?_eq_some_iff.1 hx).1
    obtain ⟨g, hg⟩ := h.some (by omega)
    have hk0 : k = 0 := by have := (List.getElem?_eq_some_iff.1 hv).1; simp [flI] at this; exact this
    subst hk0
    refine ⟨_, hg, ?_⟩
    rw [Nat.add_zero, h.ld hg (i * 1) (by rw [flat_len FlI]; omega)]
    have := flat_get FlI (l := l) (i := i) (k := 0) hx (by decide)
    rw [Nat.add_zero] at this
    rw [this]
    exact hv
  · rintro i ⟨ad, ha, rfl⟩
    rcases h.2 with h' | ⟨g, cs, fr, ha', hg, _⟩
    · rw [h'.1] at ha; cases ha
    · rw [ha'] at ha
      cases ha
      exact (Array.getElem?_eq_some_iff.1 hg).1
theorem clone {P : Program} {T E : TypeId} {by' : Nat} {z : Value} {s : Sl} {l : List Int} {K : Value → Hp → Prop} (ht : TyS P T E 1 by' z) (h : Sym H0 S H L) (hr : Rd flI 1 H s l) (hl : l.length * by' ≤ 140737488355328)
    (kk : ∀ s' H', Sym H0 S H' (arr flI E 1 s' l :: L) → K (.slice s'.a s'.n s'.c) H') : CloneV P T E H s K Z := by
  unfold CloneV
  refine ⟨fun hn => ?_, fun hs => ?_⟩
  · have hn' : s.a = none := by simpa using hn
    have hx : l = [] := by
      cases l with
      | nil => rfl
      | cons x l =>
        obtain ⟨ad, ha, _⟩ := hr.el 0 x 0 _ rfl rfl
        rw [hn'] at ha
        cases ha
    subst hx
    exact kk ⟨none, 0, 0⟩ H (h.nilrow flI E 1)
  · intro b A hA
    have s0 : Sym H0 S A (arr flI E 1 ⟨some ⟨b, 0, none⟩, 0, 0⟩ [] :: L) := h.lit (l := ([] : List Int)) FlI (by decide) hA rfl
    refine s0.appR (k := 0) ht FlI (by decide) rfl (hr.more hA.fr) (by show (0 + l.length) * by' ≤ _; rw [Nat.zero_add]; exact hl) fun ap B hap s1 => ?_
    exact kk ap B s1
theorem of_ok {s : Sl} {l : List Int} (h : Sym H0 S H L) (hr : Rd flI 1 H s l) (hl : l.length ≤ 1000000) (kk : ∀ b s' H', Sym H0 S H' (blk b [.slice s'.a s'.n s'.c, .int .i64 ((min 0 l.length : Nat) : Int)] 104 :: arr flI 3 1 s' l :: L) → K (.pointer (some ⟨b, 0, none⟩)) H') :
    CallF Try.prog 11 #[.slice s.a s.n s.c] H K Z := by
  refine V11_ok ?_
  unfold V11
  have hc : CloneV Try.prog 22 3 H s (fun r H1 => ∃ y : Sl, r = .slice y.a y.n y.c ∧ ∀ b H2, Newb H1 (.cells #[.slice y.a y.n y.c, .int .i64 0] 104) b H2 → K (.pointer (some ⟨b, 0, none⟩)) H2) Z :=
    clone C08I.tyI h hr (by omega) fun s' A s1 => ⟨s', rfl, fun b B hB => kk b s' B (by rw [Nat.zero_min]; exact s1.newb (cs := [.slice s'.a s'.n s'.c, .int .i64 0]) hB)⟩
  refine N05.V52_ok ?_
  unfold CloneV at hc
  unfold N05.V52
  exact hc
theorem next_ok {b i : Nat} {s : Sl} {l : List Int} {R : List It} (h : Sym H0 S H (blk b [.slice s.a s.n s.c, .int .i64 ((min i l.length : Nat) : Int)] 104 :: arr flI 3 1 s l :: R)) (hl : l.length ≤ 1000000)
    (kk : ∀ H', Sym H0 S H' (blk b [.slice s.a s.n s.c, .int .i64 ((min (i + 1) l.length : Nat) : Int)] 104 :: arr flI 3 1 s l :: R) → K (.int .i64 (nthL l i)) H') : CallF Try.prog 12 #[.pointer (some ⟨b, 0, none⟩)] H K Z := by
  refine V12_ok ?_
  unfold V12
  have hr := h.rd (k := 1) FlI (by decide) rfl
  have hb : Blk H b [.slice s.a s.n s.c, .int .i64 ((min i l.length : Nat) : Int)] 104 := h.get (k := 0) rfl
  have hn := hr.len
  have ld1 : ∀ {A : Hp} {cs : List Value}, Blk A b cs 104 → hcell A (Addr.add ⟨b, 0, none⟩ 1) = cs[1]? := by
    intro A cs hb
    rw [add_mk, Nat.zero_add]
    exact hb.ld 1
  refine ⟨fun A => A = H ∧ i < l.length, ?_, (fun h => by cases h), fun _ => ?_⟩
  · rintro H ⟨rfl, hi⟩ scr
    refine ⟨_, ld1 hb, ?_⟩
    show StL (Addr.add ⟨b, 0, none⟩ 1) 0 _ _ _
    rw [add_mk, Nat.zero_add]
    refine h.stb (k := 0) (i := 1) rfl (by simp) rfl fun A s1 => ?_
    have e : w64 (((min i l.length : Nat) : Int) + 1) = ((min (i + 1) l.length : Nat) : Int) := by rw [wi (by omega)]; congr 1; omega
    rw [e] at s1
    replace s1 : Sym H0 S A (blk b [.slice s.a s.n s.c, .int .i64 ((min (i + 1) l.length : Nat) : Int)] 104 :: arr flI 3 1 s l :: R) := s1
    have hb1 : Blk A b [.slice s.a s.n s.c, .int .i64 ((min (i + 1) l.length : Nat) : Int)] 104 := s1.get (k := 0) rfl
    refine ⟨s, hb1.ld 0, _, ld1 hb1, ?_⟩
    have e2 : w64 (((min (i + 1) l.length : Nat) : Int) - 1) = (i : Int) := by rw [wd (by omega) (by omega)]; congr 1; omega
    rw [e2]
    have hx : l[i]? = some l[i] := List.getElem?_eq_getElem hi
    have hr1 := s1.rd (k := 1) FlI (by decide) rfl
    refine hr1.ixn FlI hx fun ad had => ⟨_, had, ?_⟩
    have en : nthL l i = l[i] := by unfold nthL; rw [hx]; rfl
    rw [← en]
    exact kk A s1
  · refine ⟨_, ld1 hb, s, hb.ld 0, fun hge => ?_, fun hlt => ⟨rfl, ?_⟩⟩
    · have hge' : l.length ≤ i := by have := of_decide_eq_true hge; omega
      have en : nthL l i = 0 := by unfold nthL; rw [List.getElem?_eq_none hge']; rfl
      have em : min (i + 1) l.length = min i l.length := by omega
      have := kk H (by rw [em]; exact h)
      rw [en] at this
      exact this
    · have := of_decide_eq_false hlt
      omega
theorem nextN_ok (k : K (.int .i64 0) H) : CallF Try.prog 12 #[.pointer none] H K Z := by
  refine V12_ok ?_
  unfold V12
  exact ⟨fun _ => False, fun _ h => h.elim, fun _ => k, (fun h => by cases h)⟩
theorem rhas_ok {s : Sl} {l : List Int} {x : Int} (h : Rd flI 1 H s l) (hbig : l.length ≤ 1000000) (k : K (.bool (decide (x ∈ l))) H) : CallF Try.prog 20 #[.slice s.a s.n s.c, .int .i64 x] H K Z := by
  refine V20_ok ?_
  unfold V20
  have hn := h.len
  refine ⟨fun t A m => ∃ j : Nat, A = H ∧ t = (j : Int) ∧ j ≤ l.length ∧ m = l.length - j ∧ x ∉ l.take j, ⟨_, 0, rfl, rfl, Nat.zero_le _, rfl, by simp⟩, ?_⟩
  rintro t A m ⟨j, rfl, rfl, hj, rfl, hno⟩ scr
  refine ⟨fun hlt => ?_, fun hge => ?_⟩
  · have hjl : j < l.length := by have := dlt hlt; omega
    have hx : l[j]? = some l[j] := List.getElem?_eq_getElem hjl
    have htk : l.take (j + 1) = l.take j ++ [l[j]] := List.take_succ_eq_append_getElem hjl
    generalize l[j] = y at hx htk
    refine h.ixn FlI hx fun ad had => ⟨_, had, fun heq => ?_, fun hne => ⟨l.length - (j + 1), by omega, j + 1, rfl, wi (by omega), hjl, rfl, ?_⟩⟩
    · have : y = x := by simpa using heq
      subst this
      rw [decide_eq_true (List.mem_of_getElem? hx)] at k
      exact k
    · have : y ≠ x := by simpa using hne
      rw [htk, List.mem_append, List.mem_singleton]
      rintro (h | h)
      · exact hno h
      · exact this h.symm
  · have hjl : j = l.length := by have := dge hge; omega
    subst hjl
    rw [List.take_length] at hno
    rw [decide_eq_false hno] at k
    exact k
theorem rput_ok {s : Sl} {l : List Int} {x : Int} {R : List It} (h : Sym H0 S H (arr flI 3 1 s l :: R)) (hbig : l.length ≤ 1000000) (k : ∀ s' H', Sym H0 S H' (arr flI 3 1 s' (if x ∈ l then l else l ++ [x]) :: R) → K (.tuple #[.slice s'.a s'.n s'.c, .bool (decide (x ∉ l))]) H') :
    CallF Try.prog 16 #[.slice s.a s.n s.c, .int .i64 x] H K Z := by
  refine V16_ok ?_
  unfold V16
  have hr := h.rd (k := 0) FlI (by decide) rfl
  refine rhas_ok hr hbig ⟨_, rfl, fun hin => ?_, fun hno => ?_⟩
  · have hin' : x ∈ l := of_decide_eq_true hin
    have := k s H (by rw [if_pos hin']; exact h)
    rw [decide_eq_false (fun h => h hin')] at this
    exact this
  · have hno' : x ∉ l := of_decide_eq_false hno
    intro b A hA
    have s0 : Sym H0 S A (arr flI 3 1 ⟨some ⟨b, 0, none⟩, 0, 0⟩ [] :: arr flI 3 1 s l :: R) := h.lit (l := ([] : List Int)) FlI (by decide) hA rfl
    refine s0.appR (k := 0) C08I.tyI FlI (by decide) rfl (s0.rd (k := 1) FlI (by decide) rfl) (by show (0 + l.length) * 8 ≤ _; omega) fun ap B hap s1 => ?_
    replace s1 : Sym H0 S B (arr flI 3 1 ap l :: arr flI 3 1 s l :: R) := s1
    intro b1 C hC
    have hapn : ap.n = l.length := by rw [hap]; exact Nat.zero_add _
    refine s1.app1 (k := 0) (x := x) C08I.tyI FlI (by decide) hC rfl (by omega) fun ap1 D _ s2 => ?_
    replace s2 : Sym H0 S D (arr flI 3 1 ap1 (l ++ [x]) :: arr flI 3 1 s l :: R) := s2
    have := k ap1 D (by rw [if_neg hno']; exact s2.swap.drop)
    rw [decide_eq_true hno'] at this
    exact this
theorem rtake_ok {s : Sl} {l : List Int} {n : Int} {R : List It} (h : Sym H0 S H (arr flI 3 1 s l :: R)) (hbig : l.length ≤ 1000000) (k0 : l = [] → K (.tuple #[.slice s.a s.n s.c, .int .i64 0, .bool false]) H)
    (k1 : ∀ x s' H', l[pickN n l.length]? = some x → Sym H0 S H' (arr flI 3 1 s' (l.eraseIdx (pickN n l.length)) :: R) → K (.tuple #[.slice s'.a s'.n s'.c, .int .i64 x, .bool true]) H') : CallF Try.prog 18 #[.slice s.a s.n s.c, .int .i64 n] H K Z := by
  refine V18_ok ?_
  unfold V18
  have hr := h.rd (k := 0) FlI (by decide) rfl
  have hn := hr.len
  have hle := hr.le
  refine ⟨fun h0 => k0 ?_, fun h0 => ?_⟩
  · have : s.n = 0 := by simpa using h0
    exact List.eq_nil_of_length_eq_zero (by omega)
  have hpos : 0 < l.length := by
    have : s.n ≠ 0 := by simpa using h0
    omega
  have hw64 : IntKind.wrap .u64 (s.n : Int) = (s.n : Int) := wrapu64 (by omega) (by omega)
  have hpk : pickN n l.length < l.length := pick_lt hpos
  have epk : w64 (Int.tmod (IntKind.wrap .u64 n) (s.n : Int)) = ((pickN n l.length : Nat) : Int) := by
    have e1 : IntKind.wrap .u64 n = n % 18446744073709551616 := by
      simp only [IntKind.wrap, IntKind.bits, IntKind.signed, Int.reducePow, Nat.reduceSub, Bool.false_and, Bool.false_eq_true, if_false]
    rw [e1, Int.tmod_eq_emod_of_nonneg (Int.emod_nonneg _ (by decide))]
    have h1 := Int.emod_lt_of_pos (n % 18446744073709551616) (show (0 : Int) < s.n by omega)
    have h2 := Int.emod_nonneg (n % 18446744073709551616) (show (s.n : Int) ≠ 0 by omega)
    rw [wid (by omega) (by omega)]
    unfold pickN
    rw [← hn]
    omega
  have e1 : w64 (((pickN n l.length : Nat) : Int) + 1) = ((pickN n l.length + 1 : Nat) : Int) := wi (by omega)
  generalize hp : pickN n l.length = p at hpk epk e1 k1
  have hx : l[p]? = some l[p] := List.getElem?_eq_getElem hpk
  generalize l[p] = x at hx
  refine ⟨by rw [hw64]; omega, fun b A hA => ⟨hle, ?_⟩⟩
  have s0 : Sym H0 S A (arr flI 3 1 ⟨some ⟨b, 0, none⟩, 0, 0⟩ [] :: arr flI 3 1 s l :: R) := h.lit (l := ([] : List Int)) FlI (by decide) hA rfl
  rw [hw64, epk, e1]
  have r0 := s0.rd (k := 1) FlI (by decide) rfl
  have p1 := r0.part FlI (lo := 0) (hi := p) (Nat.zero_le _) (by omega)
  rw [List.drop_zero, Nat.sub_zero] at p1
  refine ⟨⟨by omega, by omega, by omega⟩, ?_⟩
  rw [show (0 : Int).toNat = 0 from rfl, Int.toNat_natCast]
  refine s0.appR (k := 0) C08I.tyI FlI (by decide) rfl p1 (by rw [List.length_take]; show (0 + _) * 8 ≤ _; omega) fun ap B hap s1 => ⟨hle, ⟨by omega, by omega, by omega⟩, ?_⟩
  replace s1 : Sym H0 S B (arr flI 3 1 ap (l.take p) :: arr flI 3 1 s l :: R) := s1
  rw [Int.toNat_natCast, Int.toNat_natCast]
  have r1 := s1.rd (k := 1) FlI (by decide) rfl
  have p2 := r1.part FlI (lo := p + 1) (hi := s.n) (by omega) (Nat.le_refl _)
  have hpl : ((l.drop (p + 1)).take (s.n - (p + 1))) = l.drop (p + 1) := List.take_of_length_le (by rw [List.length_drop]; omega)
  rw [hpl] at p2
  have hapn : ap.n = p := by rw [hap, List.length_take]; show 0 + _ = _; omega
  have hlen2 : (ap.n + (l.drop (p + 1)).length) * 8 ≤ 140737488355328 := by rw [List.length_drop]; omega
  obtain ⟨base, ha, hcB⟩ := r1.el p x 0 _ hx rfl
  refine ⟨base, ha, ⟨by omega, by omega⟩, ?_⟩
  rw [Int.toNat_natCast]
  refine ⟨?_, ⟨x, hcB, ?_⟩⟩
  · refine s1.appR (k := 0) C08I.tyI FlI (by decide) rfl p2 hlen2 fun ap1 C _ s2 => ?_
    replace s2 : Sym H0 S C (arr flI 3 1 ap1 (l.take p ++ l.drop (p + 1)) :: arr flI 3 1 s l :: R) := s2
    have r2 := s2.rd (k := 1) FlI (by decide) rfl
    refine ⟨x, ?_, k1 x ap1 C hx (by rw [List.eraseIdx_eq_take_drop_succ]; exact s2.swap.drop)⟩
    obtain ⟨base', ha', hcC⟩ := r2.el p x 0 _ hx rfl
    rw [ha] at ha'
    cases ha'
    exact hcC
  · refine s1.appR (k := 0) C08I.tyI FlI (by decide) rfl p2 hlen2 fun ap1 C _ s2 => ?_
    replace s2 : Sym H0 S C (arr flI 3 1 ap1 (l.take p ++ l.drop (p + 1)) :: arr flI 3 1 s l :: R) := s2
    exact k1 x ap1 C hx (by rw [List.eraseIdx_eq_take_drop_succ]; exact s2.swap.drop)
end
end Go.Proofs.Ytigbdoicgdmliaa.C08

