/- weftlaw08: the laws. -/
import Derived.Test.YtigbdoicgdmliaaC08
set_option linter.unusedVariables false
set_option linter.unusedSimpArgs false
-- tInt: 3
-- tInts: 22
-- tStr: 9
-- tBool: 4
-- tPicks: 104
-- tStrs: 47
-- in: 24
-- works: 14
-- lawDoes: 4
-- lawPicks: 3
-- lawOnce: 5
namespace Go.Proofs.Ytigbdoicgdmliaa.L08
open Go Go.V Go.Proofs Go.Proofs.Ytigbdoicgdmliaa.N08 Go.Proofs.Ytigbdoicgdmliaa.C08
attribute [local irreducible] Cvt ExtF CallF hrun App MkS
theorem tyStr : TyS Try.prog 47 9 1 16 (.string ⟨#[]⟩) := ⟨by kernel_rfl, by kernel_rfl, rfl, by decide⟩
theorem frS {H0 H : Hp} {R : List It} {b c : Nat} {m : List ByteArray} (h : C08S.AgS H0 no H R b m c) : Fr no H0 H := by
  obtain ⟨cs, ts, os, w, ws, q, qs, s, _⟩ := h
  exact s.frno
theorem frI {H0 H : Hp} {R : List It} {b c : Nat} {m : List Int} (h : C08I.AgS H0 no H R b m c) : Fr no H0 H := by
  obtain ⟨cs, ts, os, w, ws, q, qs, s, _⟩ := h
  exact s.frno
theorem bne {a b : UInt8} (h : a ≠ b) : (⟨#[a]⟩ : ByteArray) ≠ ⟨#[b]⟩ := by
  intro e
  have := congrArg (fun x : ByteArray => x.data) e
  simp at this
  exact h this
section
variable {H : Hp} {K : Value → Hp → Prop} {Z : List PanicEntry → Hp → Prop}
theorem works_ok (k : ∀ H', Fr no H H' → K (.bool true) H') : CallF Try.prog 14 #[] H K Z := by
  refine V14_ok ?_
  unfold V14
  intro b A hA
  have a0 := C08S.AgS.new (Sym.start H) hA
  refine C08S.put_ok a0 (by decide) fun B a1 => ⟨_, rfl, ?_⟩
  rw [if_neg (by simp)] at a1
  refine C08S.put_ok a1 (by decide) fun C a2 => ⟨_, rfl, ?_⟩
  rw [if_neg (by simp only [List.nil_append, List.mem_singleton]; exact bne (by decide))] at a2
  refine C08S.put_ok a2 (by decide) fun D a3 => ⟨_, rfl, ?_⟩
  rw [if_neg (by
    simp only [List.nil_append, List.cons_append, List.mem_cons, List.not_mem_nil, or_false, not_or]
    exact ⟨bne (by decide), bne (by decide)⟩)] at a3
  simp only [List.nil_append, List.cons_append] at a3
  refine C08S.take_ok (n := 4) a3 (by decide) (fun h => by cases h) fun x E hx a4 => ⟨_, _, rfl, ?_⟩
  have e4 : pickN 4 3 = 1 := by decide
  simp only [List.length_cons, List.length_nil, Nat.zero_add, Nat.reduceAdd] at hx a4
  rw [e4] at hx a4
  simp only [List.getElem?_cons_succ, List.getElem?_cons_zero, Option.some.injEq, List.eraseIdx_cons_succ, List.eraseIdx_cons_zero] at hx a4
  refine C08S.take_ok (n := 0) a4 (by decide) (fun h => by cases h) fun y F hy a5 => ⟨_, _, rfl, ?_⟩
  have e0 : pickN 0 2 = 0 := by decide
  simp only [List.length_cons, List.length_nil, Nat.zero_add, Nat.reduceAdd] at hy a5
  rw [e0] at hy a5
  simp only [List.getElem?_cons_zero, Option.some.injEq, List.eraseIdx_cons_zero] at hy a5
  refine C08S.take_ok (n := -1) a5 (by decide) (fun h => by cases h) fun z G hz a6 => ⟨_, _, rfl, ?_⟩
  have e1 : pickN (-1) 1 = 0 := by decide
  simp only [List.length_cons, List.length_nil, Nat.zero_add] at hz a6
  rw [e1] at hz
  simp only [List.getElem?_cons_zero, Option.some.injEq] at hz
  intro b1 I hI
  have s0 : Sym G no I [arr flI 3 1 ⟨some ⟨b1, 0, none⟩, 1, 1⟩ [7]] := (Sym.start G).lit (l := [(7 : Int)]) FlI (by decide) hI rfl
  refine C08.of_ok s0 (s0.rd (k := 0) FlI (by decide) rfl) (by decide) fun bp sp J s1 => ⟨_, rfl, fun _ => ⟨fun _ => ⟨fun _ => ⟨fun _ => ?_, (fun h => by cases h)⟩, fun h => ?_⟩, fun h => ?_⟩, fun h => ?_⟩
  · refine C08.next_ok (i := 0) s1 (by decide) fun M s2 => ⟨_, rfl, ?_⟩
    exact k M ((frS a6).trans s2.frno)
  · rw [← hz, beqS_iff.2 rfl] at h; cases h
  · rw [← hy, beqS_iff.2 rfl] at h; cases h
  · rw [← hx, beqS_iff.2 rfl] at h; cases h
theorem lawPicks_ok {s : Sl} {l : List Int} (h : Rd flI 1 H s l) (k : ∀ H', Fr no H H' → K (.bool true) H') : CallF Try.prog 3 #[.slice s.a s.n s.c] H K Z := by
  refine V3_ok ?_
  unfold V3
  have hn := h.len
  refine ⟨fun _ => k H (Fr.refl _ _), fun hle => ?_⟩
  have hl : l.length ≤ 200 := by have := of_decide_eq_false hle; omega
  intro b A hA
  have s0 : Sym H no A [arr flI 3 1 ⟨some ⟨b, 0, none⟩, 0, 0⟩ []] := (Sym.start H).lit (l := ([] : List Int)) FlI (by decide) hA rfl
  refine s0.appR (k := 0) C08I.tyI FlI (by decide) rfl (h.more s0.frno) (by show (0 + l.length) * 8 ≤ _; omega) fun ap B hap s1 => ?_
  replace s1 : Sym H no B [arr flI 3 1 ap l] := s1
  refine C08.of_ok s1 (s1.rd (k := 0) FlI (by decide) rfl) (by omega) fun bp sp C s2 => ⟨_, rfl, ?_⟩
  have e3 : w64 ((s.n : Int) + 3) = ((l.length + 3 : Nat) : Int) := by rw [wid (by omega) (by omega)]; omega
  rw [e3]
  refine ⟨fun t D m => ∃ j : Nat, t = (j : Int) ∧ j ≤ l.length + 3 ∧ m = l.length + 3 - j ∧ Sym H no D (blk bp [.slice sp.a sp.n sp.c, .int .i64 ((min j l.length : Nat) : Int)] _ :: arr flI 3 1 sp l :: [arr flI 3 1 ap l]), ⟨_, 0, rfl, by omega, rfl, s2⟩, ?_⟩
  rintro t D m ⟨j, rfl, hj, rfl, s3⟩ scr
  refine ⟨fun hlt => ?_, fun hge => works_ok fun E fE => ⟨_, rfl, k E (s3.more fE).frno⟩⟩
  have hjl : j < l.length + 3 := dlt hlt
  refine C08.next_ok s3 (by omega) fun E s4 => ⟨_, rfl, C08.rnext_ok (h.more s4.frno) ⟨_, rfl, fun hne => ?_, fun _ => C08.nextN_ok ⟨_, rfl, (fun h => by cases h), fun _ => ⟨l.length + 3 - (j + 1), by omega, j + 1, wi (by omega), hjl, rfl, s4⟩⟩⟩⟩
  simp at hne
/-! ### whatever is put and picked -/
def flO (x : Int × Int) : List Value := [.int .i64 x.1, .int .i64 x.2]
theorem FlO : Fl flO 2 := ⟨fun _ => rfl, fun x v hv => by
  simp only [flO, List.mem_cons, List.not_mem_nil, or_false] at hv
  rcases hv with rfl | rfl <;> rfl⟩
theorem swapI {H0 A : Hp} {x : It} {R : List It} {b c : Nat} {m : List Int} (h : C08I.AgS H0 no A (x :: R) b m c) : ∃ L, Sym H0 no A (x :: L) ∧ ∀ y A', Sym H0 no A' (y :: L) → C08I.AgS H0 no A' (y :: R) b m c := by
  obtain ⟨cs, ts, os, w, ws, q, qs, s, h1, h2, h3, h4, h5, h6⟩ := h
  refine ⟨C08I.tb b cs ts os :: arr flB 4 1 w ws :: arr flN 3 1 q qs :: R, s.perm ?_, fun y A' s' => ⟨cs, ts, os, w, ws, q, qs, s'.perm ?_, h1, h2, h3, h4, h5, h6⟩⟩
  · exact ((((List.Perm.swap _ _ _).cons _).trans (List.Perm.swap _ _ _)).cons _).trans (List.Perm.swap _ _ _)
  · exact (List.Perm.swap _ _ _).trans ((((List.Perm.swap _ _ _)).trans ((List.Perm.swap _ _ _).cons _)).cons _)
set_option maxRecDepth 10000 in
theorem lawDoes_ok {s : Sl} {l : List (Int × Int)} (h : Rd flO 2 H s l) (k : ∀ H', Fr no H H' → K (.bool true) H') : CallF Try.prog 4 #[.slice s.a s.n s.c] H K Z := by
  refine V4_ok ?_
  unfold V4
  have hn := h.len
  intro b A hA
  have a0 := C08I.AgS.new ((Sym.start H).nilrow flI 3 1) hA
  refine ⟨fun m1 t B mm => ∃ (j : Nat) (m : List Int), t = (j : Int) ∧ j ≤ l.length ∧ mm = l.length - j ∧ j ≤ 200 ∧ C08I.AgS H no B [arr flI 3 1 m1 m] b m j, ⟨_, 0, [], rfl, Nat.zero_le _, rfl, by omega, a0⟩, ?_⟩
  rintro m1 t B mm ⟨j, m, rfl, hj, rfl, hj2, a1⟩ scr
  refine ⟨fun B' => B' = B ∧ j < l.length ∧ j < 200, ?_, fun hlt => ⟨fun h2 => ⟨rfl, ?_, ?_⟩, fun h2 => works_ok fun C fC => ⟨_, rfl, k C ((frI a1).trans fC)⟩⟩, fun hge => works_ok fun C fC => ⟨_, rfl, k C ((frI a1).trans fC)⟩⟩
  rotate_left
  · have := dlt hlt; omega
  · have := of_decide_eq_true h2; omega
  rintro B ⟨rfl, hjl, hj200⟩ scr1
  have hx : l[j]? = some l[j] := List.getElem?_eq_getElem hjl
  generalize l[j] = x at hx
  have hB := h.more (frI a1)
  refine hB.ix (by decide) FlO (by omega) (by rw [Int.toNat_natCast]; exact hx) fun ad hc hc0 => ⟨_, hc 1 _ rfl, ?_⟩
  refine ⟨fun m4 x1 y p q C => x1 = y ∧ p = q ∧ ∃ m' : List Int, C08I.AgS H no C [arr flI 3 1 m4 m'] b m' (j + 1), ?_, hB.ix (by decide) FlO (by omega) (by rw [Int.toNat_natCast]; exact hx) fun ad1 hd hd0 => ⟨_, hd0, fun h0 => ?_, fun h0 => ⟨fun h1 => ?_, fun h1 => ⟨fun h2 => ?_, fun h2 => ⟨rfl, rfl, m, a1.le (by omega)⟩⟩⟩⟩⟩
  · rintro m4 x1 y p q C ⟨rfl, rfl, m', a2⟩ scr2
    refine ⟨fun hne => ?_, fun _ => ⟨fun hne => ?_, fun _ => C08I.len_ok a2 ⟨_, rfl, fun hne => ?_, fun _ => ⟨l.length - (j + 1), by omega, j + 1, m', wi (by omega), hjl, rfl, by omega, a2⟩⟩⟩⟩
    · simp at hne
    · simp at hne
    · obtain ⟨L, sx, _⟩ := swapI a2
      have := (sx.rd (k := 0) FlI (by decide) rfl).len
      rw [this] at hne
      simp at hne
  · refine C08I.put_ok a1 (by omega) fun C a2 => ⟨_, rfl, ?_⟩
    obtain ⟨L, sx, back⟩ := swapI a2
    have hcnt : m.length ≤ 1000000 := by have := a1.count; omega
    refine C08.rput_ok sx hcnt fun s' D s3 => ⟨_, _, rfl, rfl, rfl, _, back _ _ s3⟩
  · have hcnt : m.length ≤ 1000000 := by have := a1.count; omega
    refine C08I.take_ok a1 (by omega) (fun hm => ⟨_, _, rfl, ?_⟩) (fun y C hy a2 => ⟨_, _, rfl, ?_⟩)
    · obtain ⟨L, sx, back⟩ := swapI a1
      refine C08.rtake_ok sx hcnt (fun _ => ⟨_, _, _, rfl, rfl, rfl, m, a1.le (by omega)⟩) (fun z s' D hz _ => ?_)
      rw [hm] at hz
      simp at hz
    · obtain ⟨L, sx, back⟩ := swapI a2
      refine C08.rtake_ok sx hcnt (fun hm => ?_) (fun z s' D hz s3 => ⟨_, _, _, rfl, ?_, rfl, _, (back _ _ s3).le (by omega)⟩)
      · rw [hm] at hy
        simp at hy
      · rw [hy] at hz
        exact Option.some.inj hz
  · refine C08I.has_ok a1 (by omega) fun C a2 => ⟨_, rfl, ?_⟩
    obtain ⟨L, sx, back⟩ := swapI a2
    have hcnt : m.length ≤ 1000000 := by have := a1.count; omega
    exact C08.rhas_ok (sx.rd (k := 0) FlI (by decide) rfl) hcnt ⟨_, rfl, rfl, rfl, m, a2.le (by omega)⟩
/-! ### each once -/
theorem in_ok {s : Sl} {l : List ByteArray} {x : ByteArray} (h : Rd flT 1 H s l) (hbig : l.length ≤ 1000000) (hin : x ∈ l) (k : K (.bool true) H) : CallF Try.prog 24 #[.slice s.a s.n s.c, .string x] H K Z := by
  refine V24_ok ?_
  unfold V24
  have hn := h.len
  refine ⟨fun t A m => ∃ j : Nat, A = H ∧ t = (j : Int) ∧ j ≤ l.length ∧ m = l.length - j ∧ x ∉ l.take j, ⟨_, 0, rfl, rfl, Nat.zero_le _, rfl, by simp⟩, ?_⟩
  rintro t A m ⟨j, rfl, rfl, hj, rfl, hno⟩ scr
  refine ⟨fun hlt => ?_, fun hge => ?_⟩
  · have hjl : j < l.length := by have := dlt hlt; omega
    have hx : l[j]? = some l[j] := List.getElem?_eq_getElem hjl
    have htk : l.take (j + 1) = l.take j ++ [l[j]] := List.take_succ_eq_append_getElem hjl
    generalize l[j] = y at hx htk
    refine h.ixn FlT hx fun ad had => ⟨_, had, fun _ => k, fun hne => ⟨l.length - (j + 1), by omega, j + 1, rfl, wi (by omega), hjl, rfl, ?_⟩⟩
    rw [htk, List.mem_append, List.mem_singleton]
    rintro (h | h)
    · exact hno h
    · rw [h, beqS_iff.2 rfl] at hne
      cases hne
  · have hjl : j = l.length := by have := dge hge; omega
    subst hjl
    rw [List.take_length] at hno
    exact absurd hin hno
/-- an agenda's things, whatever else there is -/
def Vw (L : List It) (b : Nat) (m : List ByteArray) (c : Nat) : Prop := ∀ (H0 A : Hp) (R : List It), Sym H0 no A (L ++ R) → C08S.AgS H0 no A R b m c
theorem view {H0 A : Hp} {R : List It} {b c : Nat} {m : List ByteArray} (h : C08S.AgS H0 no A R b m c) : ∃ L, Sym H0 no A (L ++ R) ∧ Vw L b m c := by
  obtain ⟨cs, ts, os, w, ws, q, qs, s, h1, h2, h3, h4, h5, h6⟩ := h
  exact ⟨[C08S.tb b cs ts os, arr flB 4 1 w ws, arr flN 3 1 q qs], s, fun H0 A R s' => ⟨cs, ts, os, w, ws, q, qs, s', h1, h2, h3, h4, h5, h6⟩⟩
def Two (H A : Hp) (R : List It) (b : Nat) (wa : List ByteArray) (c b1 : Nat) (wb : List ByteArray) (c1 : Nat) : Prop := ∃ La Lb, Sym H no A (La ++ (Lb ++ R)) ∧ Vw La b wa c ∧ Vw Lb b1 wb c1
theorem Two.opA {A : Hp} {R : List It} {b c b1 c1 : Nat} {wa wb : List ByteArray} (h : Two H A R b wa c b1 wb c1) : ∃ R', C08S.AgS H no A R' b wa c ∧ ∀ A' wa' c', C08S.AgS H no A' R' b wa' c' → Two H A' R b wa' c' b1 wb c1 := by
  obtain ⟨La, Lb, s, va, vb⟩ := h
  refine ⟨Lb ++ R, va _ _ _ s, fun A' wa' c' a' => ?_⟩
  obtain ⟨La', s', va'⟩ := view a'
  exact ⟨La', Lb, s', va', vb⟩
theorem perm3 {La Lb R : List It} : (La ++ (Lb ++ R)).Perm (Lb ++ (La ++ R)) := by
  rw [← List.append_assoc, ← List.append_assoc]
  exact List.perm_append_comm.append_right R
theorem Two.opB {A : Hp} {R : List It} {b c b1 c1 : Nat} {wa wb : List ByteArray} (h : Two H A R b wa c b1 wb c1) : ∃ R', C08S.AgS H no A R' b1 wb c1 ∧ ∀ A' wb' c1', C08S.AgS H no A' R' b1 wb' c1' → Two H A' R b wa c b1 wb' c1' := by
  obtain ⟨La, Lb, s, va, vb⟩ := h
  refine ⟨La ++ R, vb _ _ _ (s.perm perm3), fun A' wb' c1' a' => ?_⟩
  obtain ⟨Lb', s', vb'⟩ := view a'
  exact ⟨La, Lb', s'.perm perm3, va, vb'⟩
theorem Two.opR {A : Hp} {R R0 : List It} {b c b1 c1 : Nat} {wa wb : List ByteArray} (h : Two H A (R ++ R0) b wa c b1 wb c1) : ∃ L, Sym H no A (R ++ L) ∧ ∀ R' A', Sym H no A' (R' ++ L) → Two H A' (R' ++ R0) b wa c b1 wb c1 := by
  obtain ⟨La, Lb, s, va, vb⟩ := h
  have p : ∀ X : List It, (La ++ (Lb ++ (X ++ R0))).Perm (X ++ (La ++ (Lb ++ R0))) := by
    intro X
    exact (List.Perm.append_left La perm3).trans perm3
  exact ⟨La ++ (Lb ++ R0), s.perm (p R), fun R' A' s' => ⟨La, Lb, s'.perm (p R').symm, va, vb⟩⟩
theorem Two.fr {A : Hp} {R : List It} {b c b1 c1 : Nat} {wa wb : List ByteArray} (h : Two H A R b wa c b1 wb c1) : Fr no H A := by
  obtain ⟨La, Lb, s, va, vb⟩ := h
  exact s.frno
theorem Two.more {A A' : Hp} {R : List It} {b c b1 c1 : Nat} {wa wb : List ByteArray} (h : Two H A R b wa c b1 wb c1) (hf : Fr no A A') : Two H A' R b wa c b1 wb c1 := by
  obtain ⟨La, Lb, s, va, vb⟩ := h
  exact ⟨La, Lb, s.more hf, va, vb⟩
theorem nd_inj {l : List ByteArray} (h : l.Nodup) {i j : Nat} {n : ByteArray} (hi : l[i]? = some n) (hj : l[j]? = some n) : i = j := by
  obtain ⟨h1, e1⟩ := List.getElem?_eq_some_iff.1 hi
  obtain ⟨h2, e2⟩ := List.getElem?_eq_some_iff.1 hj
  unfold List.Nodup at h
  rw [List.pairwise_iff_getElem] at h
  rcases Nat.lt_trichotomy i j with hij | hij | hij
  · exact absurd (e1.trans e2.symm) (h i j h1 h2 hij)
  · exact hij
  · exact absurd (e2.trans e1.symm) (h j i h2 h1 hij)
theorem nd_erase {l : List ByteArray} (h : l.Nodup) {i : Nat} {x : ByteArray} (hi : l[i]? = some x) : x ∉ l.eraseIdx i := by
  intro hm
  rw [List.mem_eraseIdx_iff_getElem?] at hm
  obtain ⟨j, hji, e⟩ := hm
  exact hji (nd_inj h e hi)
theorem Two.rdT {A : Hp} {R R0 : List It} {b c b1 c1 : Nat} {wa wb u : List ByteArray} {s : Sl} (h : Two H A (R ++ (arr flT 9 1 s u :: R0)) b wa c b1 wb c1) : Rd flT 1 A s u := by
  obtain ⟨L, sx, _⟩ := h.opR
  obtain ⟨La, Lb, s, va, vb⟩ := h
  have s' := s.perm (R := arr flT 9 1 _ u :: (La ++ (Lb ++ (R ++ R0)))) (by
    refine List.Perm.trans ?_ (List.perm_middle (l₁ := La))
    refine List.Perm.append_left La ?_
    refine List.Perm.trans ?_ (List.perm_middle (l₁ := Lb))
    exact List.Perm.append_left Lb List.perm_middle)
  exact s'.rd (k := 0) FlT (by decide) rfl
set_option maxRecDepth 10000 in
theorem lawOnce_ok {s p : Sl} {l : List ByteArray} {pk : List Int} (h : Rd flT 1 H s l) (hp : Rd flI 1 H p pk) (k : ∀ H', Fr no H H' → K (.bool true) H') : CallF Try.prog 5 #[.slice s.a s.n s.c, .slice p.a p.n p.c] H K Z := by
  refine V5_ok ?_
  unfold V5
  have hn := h.len
  have hpn := hp.len
  refine works_ok fun A f1 => ⟨_, rfl, (fun h => by cases h), fun _ => ⟨fun B => B = A ∧ l.length ≤ 100 ∧ pk.length ≤ 100, ?_, fun _ => k A f1, fun h1 => ⟨fun _ => k A f1, fun h2 => ⟨rfl, by have := of_decide_eq_false h1; omega, by have := of_decide_eq_false h2; omega⟩⟩⟩⟩
  rintro _ ⟨rfl, hl, hpk⟩ scr b B hB b1 C hC
  obtain ⟨A, rfl⟩ : ∃ X : Hp, X = H := ⟨_, rfl⟩
  have two0 : ∃ G, Two G C [arr flT 9 1 ⟨none, 0, 0⟩ []] b [] 0 b1 [] 0 ∧ Fr no A G ∧ Rd flT 1 G s l ∧ Rd flI 1 G p pk := by
    obtain ⟨La, sa, va⟩ := view (C08S.AgS.new ((Sym.start _).nilrow flT 9 1) hB)
    obtain ⟨Lb, sb, vb⟩ := view (C08S.AgS.new sa hC)
    exact ⟨_, ⟨La, Lb, sb.perm perm3, va, vb⟩, f1, h.more f1, hp.more f1⟩
  obtain ⟨G, two0, fG, hl0, hp0⟩ := two0
  have k' : ∀ X, Fr no G X → K (.bool true) X := fun X fX => k X (fG.trans fX)
  refine ⟨fun m1 t X mm => ∃ (j : Nat) (u : List ByteArray), t = (j : Int) ∧ j ≤ l.length ∧ mm = l.length - j ∧ u.Nodup ∧ u.length ≤ j ∧ Two G X [arr flT 9 1 m1 u] b u j b1 u j, ⟨_, 0, [], rfl, Nat.zero_le _, rfl, List.nodup_nil, Nat.le_refl _, two0⟩, ?_⟩
  rintro m1 t X mm ⟨j, u, rfl, hj, rfl, hnd, hul, two⟩ scr1
  refine ⟨fun hlt => ?_, fun hge => ?_⟩
  · have hjl : j < l.length := by have := dlt hlt; omega
    have hx : l[j]? = some l[j] := List.getElem?_eq_getElem hjl
    generalize l[j] = x at hx
    have hX := hl0.more two.fr
    refine hX.ixn FlT hx fun ad had => ⟨_, had, fun _ => k' _ two.fr, fun _ => hX.ixn FlT hx fun ad1 had1 => ⟨_, had1, ?_⟩⟩
    obtain ⟨R', aA, back⟩ := two.opA
    refine C08S.put_ok aA (by omega) fun D a2 => ?_
    have two2 := back _ _ _ a2
    have hD := hl0.more two2.fr
    refine ⟨_, rfl, fun hy => ?_, fun hy => ?_⟩
    · have hno : x ∉ u := of_decide_eq_true hy
      rw [if_neg hno] at two2
      refine hD.ixn FlT hx fun ad2 had2 => ⟨_, had2, fun b2 E hE => ?_⟩
      obtain ⟨L, sx, backR⟩ := two2.opR (R := [arr flT 9 1 m1 u]) (R0 := [])
      have hm1 := (sx.rd (k := 0) FlT (by decide) rfl).len
      refine sx.app1 (k := 0) (x := x) tyStr FlT (by decide) hE rfl (by omega) fun ap F hap s2 => ?_
      have two3 := backR [arr flT 9 1 ap (u ++ [x])] F s2
      refine (hl0.more two3.fr).ixn FlT hx fun ad3 had3 => ⟨_, had3, ?_⟩
      obtain ⟨R2, aB, backB⟩ := two3.opB
      refine C08S.put_ok aB (by omega) fun I a4 => ⟨_, rfl, l.length - (j + 1), by omega, j + 1, u ++ [x], wi (by omega), hjl, rfl, ?_, by simp; omega, ?_⟩
      · rw [List.nodup_append]
        refine ⟨hnd, by simp, ?_⟩
        intro a ha c hc
        rw [List.mem_singleton] at hc
        rintro rfl
        exact hno (hc ▸ ha)
      · rw [if_neg hno] at a4
        exact backB _ _ _ a4
    · have hin : x ∈ u := by simpa using hy
      rw [if_pos hin] at two2
      refine hD.ixn FlT hx fun ad3 had3 => ⟨_, had3, ?_⟩
      obtain ⟨R2, aB, backB⟩ := two2.opB
      refine C08S.put_ok aB (by omega) fun I a4 => ⟨_, rfl, l.length - (j + 1), by omega, j + 1, u, wi (by omega), hjl, rfl, hnd, by omega, ?_⟩
      rw [if_pos hin] at a4
      exact backB _ _ _ a4
  have hjl : j = l.length := by have := dge hge; omega
  subst hjl
  clear hge hj
  obtain ⟨L, sx, backR⟩ := two.opR (R := []) (R0 := [arr flT 9 1 m1 u])
  refine C08.of_ok sx (hp0.more two.fr) (by omega) fun bp sp D s2 => ⟨_, rfl, ?_⟩
  have two2 := backR [blk bp [.slice sp.a sp.n sp.c, .int .i64 ((min 0 pk.length : Nat) : Int)] 104, arr flI 3 1 sp pk] D s2
  refine ⟨fun tk t X mm => ∃ (i : Nat) (wa wb : List ByteArray), t = (i : Int) ∧ i ≤ l.length ∧ mm = l.length - i ∧ tk = ((min i u.length : Nat) : Int) ∧ wa.Nodup ∧ (∀ x ∈ wa, x ∈ u) ∧ wa.length = u.length - i ∧ wb = u.drop i ∧
    Two G X ([blk bp [.slice sp.a sp.n sp.c, .int .i64 ((min i pk.length : Nat) : Int)] 104, arr flI 3 1 sp pk] ++ [arr flT 9 1 m1 u]) b wa l.length b1 wb l.length, ⟨_, 0, u, u, rfl, Nat.zero_le _, rfl, by simp, hnd, fun _ h => h, by simp, by simp, two2⟩, ?_⟩
  clear two2 s2 backR sx two
  rintro tk t X mm ⟨i, wa, wb, rfl, hi, rfl, rfl, hna, hsub, hla, rfl, two⟩ scr2
  have hm1 : m1.n = u.length := (two.rdT (R := [_, _]) (R0 := [])).len
  refine ⟨fun hlt => ?_, fun hge => ?_⟩
  · have hil : i < l.length := by have := dlt hlt; omega
    obtain ⟨L, sx, backR⟩ := two.opR
    refine C08.next_ok sx (by omega) fun E s4 => ⟨_, rfl, ?_⟩
    have two4 := backR [blk bp [.slice sp.a sp.n sp.c, .int .i64 ((min (i + 1) pk.length : Nat) : Int)] 104, arr flI 3 1 sp pk] E s4
    obtain ⟨R', aA, back⟩ := two4.opA
    refine C08S.take_ok aA (by omega) (fun hm => ⟨_, _, rfl, ?_⟩) (fun x F hx a5 => ⟨_, _, rfl, ?_⟩)
    · have hui : u.length ≤ i := by rw [hm] at hla; simp at hla; omega
      obtain ⟨R2, aB, backB⟩ := two4.opB
      refine C08S.take_ok aB (by omega) (fun hm2 => ⟨_, _, rfl, fun B => B = E, ?_, (fun h => by simp at h), fun _ => ⟨(fun h => by cases h), fun _ => rfl⟩⟩) (fun z F hz _ => ?_)
      · rintro Y rfl scr3
        refine ⟨fun t B => t = ((min i u.length : Nat) : Int) ∧ B = Y, ?_, (fun h => by cases h), fun _ => ⟨rfl, rfl⟩⟩
        rintro _ _ ⟨rfl, rfl⟩ scr4
        refine ⟨(fun h => by cases h), fun _ => ⟨l.length - (i + 1), by omega, i + 1, wa, [], wi (by omega), hil, rfl, by omega, hna, hsub, by omega, ?_, ?_⟩⟩
        · rw [List.drop_eq_nil_of_le (by omega)]
        · rw [List.drop_eq_nil_of_le (by omega)] at two4
          exact two4
      · rw [List.drop_eq_nil_of_le hui] at hz
        simp at hz
    · have hui : i < u.length := by
        have := (List.getElem?_eq_some_iff.1 hx).1
        omega
      have two5 := back _ _ _ a5
      obtain ⟨R2, aB, backB⟩ := two5.opB
      refine C08S.take_ok aB (by omega) (fun hm2 => ?_) (fun z I hz a6 => ?_)
      · rw [List.drop_eq_nil_iff] at hm2
        omega
      have e0 : pickN 0 (u.drop i).length = 0 := by simp [pickN]
      rw [e0] at hz a6
      have hz' : u[i]? = some z := by rw [← hz]; simp
      have two6 := backB _ _ _ a6
      have hru := two6.rdT (R := [_, _]) (R0 := [])
      refine ⟨_, _, rfl, fun B => B = I, ?_, (fun h => by simp at h), fun _ => ⟨fun _ => ⟨fun _ => ?_, fun _ => rfl⟩, (fun h => by cases h)⟩⟩
      · rintro Y rfl scr3
        refine ⟨fun t B => t = w64 (((min i u.length : Nat) : Int) + 1) ∧ B = Y, ?_, fun _ => ⟨rfl, rfl⟩, (fun h => by cases h)⟩
        rintro _ _ ⟨rfl, rfl⟩ scr4
        refine ⟨fun _ => in_ok hru (by omega) (hsub x (List.mem_of_getElem? hx)) ⟨_, rfl, (fun h => by cases h), fun _ => ?_⟩, (fun h => by cases h)⟩
        obtain ⟨R3, aC, backC⟩ := two6.opA
        refine C08S.has_ok aC (by omega) fun M a7 => ⟨_, rfl, fun hh => ?_, fun _ => ?_⟩
        · exact absurd (of_decide_eq_true hh) (nd_erase hna hx)
        · refine ⟨l.length - (i + 1), by omega, i + 1, _, _, wi (by omega), hil, rfl, ?_, hna.sublist (List.eraseIdx_sublist _ _), fun y hy => hsub y (List.mem_of_mem_eraseIdx hy), ?_, ?_, backC _ _ _ a7⟩
          · rw [wid (by omega) (by omega)]; omega
          · rw [List.length_eraseIdx_of_lt (List.getElem?_eq_some_iff.1 hx).1]; omega
          · simp
      · refine hru.ixn FlT hz' fun ad had => ⟨_, had, fun hne => ?_, fun _ => rfl⟩
        rw [beqS_iff.2 rfl] at hne
        cases hne
  · have hil : i = l.length := by have := dge hge; omega
    refine ⟨fun _ => ?_, fun hne => ?_⟩
    · obtain ⟨R', aA, back⟩ := two.opA
      refine C08S.len_ok aA ⟨_, rfl, ?_⟩
      have : wa.length = 0 := by omega
      rw [this]
      exact k' _ two.fr
    · have : min i u.length = m1.n := by omega
      rw [this] at hne
      simp at hne
end
end Go.Proofs.Ytigbdoicgdmliaa.L08

