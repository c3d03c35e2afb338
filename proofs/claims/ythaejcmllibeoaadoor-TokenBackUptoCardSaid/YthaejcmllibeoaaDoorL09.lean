/- weftlaw09's laws. -/
import Derived.Test.YthaejcmllibeoaaDoorC09C
set_option linter.unusedVariables false
set_option linter.unusedSimpArgs false
-- keys: 18
-- isKey: 21
-- all: 45
-- join: 49
-- rKeys: 20
-- rIsKey: 22
-- rAll: 46
-- rJoin: 50
-- same5: 19
-- same: 47
-- works: 48
-- lawAll: 13
-- lawKeys: 4
-- lawJoins: 14
-- lawBack: 15
-- tStr: 9
-- tTok: 64
-- rTok: 63
namespace Go.Proofs.YthaejcmllibeoaaDoor.L09
open Go Go.V Go.Proofs Go.Proofs.YthaejcmllibeoaaDoor.N09 Go.Proofs.YthaejcmllibeoaaDoor.C01 Go.Proofs.YthaejcmllibeoaaDoor.P09 Go.Proofs.YthaejcmllibeoaaDoor.C09 Go.Proofs.YthaejcmllibeoaaDoor.C09C
attribute [local irreducible] Cvt ExtF CallF hrun App MkS
section
variable {H0 H : Hp} {L R : List It} {K : Value → Hp → Prop} {Z : List PanicEntry → Hp → Prop}
theorem same5_ok {s t : Sl} {l : List (List UInt8)} (h : Rd flL 1 H s l) (h2 : Rd flL 1 H t l) (hn : l.length ≤ 1000000) (k : K (.bool true) H) : CallF Tryd.prog 19 #[.slice s.a s.n s.c, .slice t.a t.n t.c] H K Z := by
  refine V19_ok ?_
  unfold V19
  have hs := h.len
  have ht := h2.len
  refine ⟨fun hne => ?_, fun _ => ?_⟩
  · rw [hs, ht] at hne
    simp at hne
  refine ⟨fun i A m => ∃ j : Nat, A = H ∧ i = (j : Int) ∧ j ≤ l.length ∧ m = l.length - j, ⟨_, 0, rfl, rfl, Nat.zero_le _, rfl⟩, ?_⟩
  rintro i A m ⟨j, rfl, rfl, hj, rfl⟩ scr
  refine ⟨fun hlt => ⟨fun _ => ?_, fun _ => k⟩, fun _ => k⟩
  have hjl : j < l.length := by have := dlt hlt; omega
  have hx : l[j]? = some l[j] := List.getElem?_eq_getElem hjl
  generalize l[j] = x at hx
  refine h.ixn FlL hx fun ad had => ⟨_, had, h2.ixn FlL hx fun ad1 had1 => ⟨_, had1, fun hne => ?_, fun _ => ?_⟩⟩
  · rw [beqS_iff.2 rfl] at hne; cases hne
  exact ⟨l.length - (j + 1), by omega, j + 1, rfl, wi (by omega), hjl, rfl⟩
def wText : List UInt8 := [120, 32, 61, 32, 108, 111, 97, 100, 32, 112, 59, 32, 35, 32, 110, 111, 116, 101]
def wToks : List Tk := [(1, [120], 1), (4, [61], 1), (2, [108, 111, 97, 100], 1), (1, [112], 1), (4, [59], 1)]
set_option maxRecDepth 10000 in
theorem w_tokens : tokens wText = (wToks, 0, 0) := by kernel_rfl
theorem works_ok (ht : Tabs H) (k : ∀ H', Fr no H H' → K (.bool true) H') : CallF Tryd.prog 48 #[] H K Z := by
  refine V48_ok ?_
  unfold V48
  refine C09B.all_ok (t := wText) ht (Sym.start H) (by decide) fun s A sA => ⟨s, _, _, rfl, ?_⟩
  rw [w_tokens] at sA ⊢
  have hr := sA.rd (k := 0) FlK (by decide) rfl
  have hn := hr.len
  refine ⟨fun _ => ⟨fun _ => ?_, fun h => ?_⟩, fun h => by cases h⟩
  · refine hr.ix (i := 2) (x := (2, [108, 111, 97, 100], 1)) (by decide) FlK (by decide) rfl fun ad hc hc0 => ⟨2, hc0, fun _ => ?_, fun h => by cases h⟩
    refine hr.ix (i := 3) (x := (1, [112], 1)) (by decide) FlK (by decide) rfl fun ad1 hd hd0 => ⟨_, hd 1 _ rfl, fun _ => ?_, fun h => ?_⟩
    · refine join_ok hr (by decide) (by decide) fun B fB => ⟨_, rfl, ?_⟩
      have : beqS (str (joinL (wToks.map (·.2.1)))) ⟨#[120, 32, 61, 32, 108, 111, 97, 100, 32, 112, 32, 59]⟩ = true := beqS_iff.2 rfl
      rw [this]
      exact k B (sA.fr.trans fB)
    · have : beqS (str [112]) ⟨#[112]⟩ = true := beqS_iff.2 rfl
      rw [this] at h
      cases h
  · rw [hn] at h
    cases h
theorem lawAll_ok {t : List UInt8} (hl : t.length ≤ 1048576) (ht : Tabs H) (k : ∀ H', Fr no H H' → K (.bool true) H') : CallF Tryd.prog 13 #[.string (str t)] H K Z := by
  refine V13_ok ?_
  unfold V13
  refine ⟨fun A => A = H, ?_, fun _ => ⟨fun _ => k H (Fr.refl _ _), fun _ => rfl⟩, fun _ => rfl⟩
  rintro A rfl scr
  refine C09B.all_ok ht (Sym.start A) (by omega) fun s B sB => ⟨s, _, _, rfl, ?_⟩
  refine rall_ok sB (by omega) fun s2 C sC => ⟨s2, _, _, rfl, ?_⟩
  have r2 := sC.rd (k := 0) FlK (by decide) rfl
  have r1 := sC.rd (k := 1) FlK (by decide) rfl
  have hn : (tokens t).1.length ≤ 1000000 := by
    unfold tokens
    split
    · simp
    · rename_i h
      have key : ∀ (f : Nat) (l : List UInt8) (n : Int) (acc : List Tk), (allT f l n acc).1.length ≤ acc.length + f := by
        intro f
        induction f with
        | zero => intro l n acc; simp [allT]
        | succ f ih =>
          intro l n acc
          unfold allT
          split
          · simp only; omega
          · split
            · simp
            · refine Nat.le_trans (ih _ _ _) ?_
              rw [List.length_append]
              have : (more (tokS l).2.1 (tokS l).2.2.1 n).length ≤ 1 := by unfold more; split <;> simp
              omega
      have := key (t.length + 1) t 1 []
      simp only [List.length_nil] at this
      omega
  refine same_ok r1 r2 hn ⟨_, rfl, fun _ => ⟨fun _ => ⟨fun _ => ?_, fun h => ?_⟩, fun h => ?_⟩, fun h => by cases h⟩
  · exact works_ok (ht.more sC.fr) fun D fD => ⟨_, rfl, k D (sC.fr.trans fD)⟩
  · rw [beq_self_eq_true] at h; cases h
  · rw [beq_self_eq_true] at h; cases h
theorem lawKeys_ok {t : List UInt8} (hl : t.length ≤ 1048576) (ht : Tabs H) (k : ∀ H', Fr no H H' → K (.bool true) H') : CallF Tryd.prog 4 #[.string (str t)] H K Z := by
  refine V4_ok ?_
  unfold V4
  refine keys_ok ht (Sym.start H) fun s A _ sA => ⟨s, rfl, ?_⟩
  refine keys_ok (ht.more sA.fr) sA fun s1 B _ sB => ⟨s1, rfl, ?_⟩
  have hn : s.n = keysL.length := (sB.rd (k := 1) FlL (by decide) rfl).len
  refine ⟨fun i C m => ∃ (j : Nat) (xs : List (List UInt8)), i = (j : Int) ∧ j ≤ keysL.length ∧ m = keysL.length - j ∧ xs.length = keysL.length ∧ Sym H no C [arr flL 9 1 s1 keysL, arr flL 9 1 s xs], ⟨_, 0, keysL, rfl, Nat.zero_le _, rfl, rfl, sB⟩, ?_⟩
  rintro i C m ⟨j, xs, rfl, hj, rfl, hxl, sC⟩ scr
  have h32 : keysL.length = 32 := rfl
  refine ⟨fun hlt => ?_, fun hge => ?_⟩
  · have hjl : j < keysL.length := by have := dlt hlt; omega
    have hx : xs[j]? = some (xs[j]'(by omega)) := List.getElem?_eq_getElem (by omega)
    refine sC.stn (k := 1) (y := []) FlL rfl hx rfl fun D sD => ⟨keysL.length - (j + 1), by omega, j + 1, xs.set j [], wi (by omega), hjl, rfl, by rw [List.length_set]; exact hxl, sD⟩
  · refine rkeys_ok sC fun s2 D fD sD => ⟨s2, rfl, ?_⟩
    have r2 := sD.rd (k := 0) FlL (by decide) rfl
    have r1 := sD.rd (k := 1) FlL (by decide) rfl
    refine same5_ok r1 r2 (by decide) ⟨_, rfl, fun _ => ?_, fun h => by cases h⟩
    refine keys_ok (ht.more sD.fr) sD fun s3 E fE sE => ⟨s3, rfl, ?_⟩
    refine rkeys_ok sE fun s4 G fG sG => ⟨s4, rfl, ?_⟩
    have r4 := sG.rd (k := 0) FlL (by decide) rfl
    have r3 := sG.rd (k := 1) FlL (by decide) rfl
    refine same5_ok r3 r4 (by decide) ⟨_, rfl, fun _ => ?_, fun h => by cases h⟩
    refine isKey_ok (ht.more sG.fr) fun M fM => ⟨_, rfl, rIsKey_ok fun N fN => ⟨_, rfl, ?_⟩⟩
    rw [beq_self_eq_true]
    exact k N ((sG.fr.trans fM).trans fN)
theorem small_size {l : List Tk} (h : ∀ x ∈ l, x.2.1.length ≤ 300) : sizeK l ≤ 301 * l.length := by
  induction l with
  | nil => simp [sizeK]
  | cons x l ih =>
    have e : sizeK (x :: l) = (x.2.1.length + 1) + sizeK l := by simp [sizeK]
    have h1 := h x List.mem_cons_self
    have h2 := ih fun y hy => h y (List.mem_cons_of_mem _ hy)
    rw [e, List.length_cons]
    omega
theorem lawJoins_ok {s : Sl} {l : List Tk} (h : Rd flK 3 H s l) (ht : Tabs H) (k : ∀ H', Fr no H H' → K (.bool true) H') : CallF Tryd.prog 14 #[.slice s.a s.n s.c] H K Z := by
  refine V14_ok ?_
  unfold V14
  have hn := h.len
  refine ⟨fun _ => k H (Fr.refl _ _), fun hs => ?_⟩
  have hl : l.length ≤ 300 := by have := of_decide_eq_false hs; omega
  refine ⟨fun m1 i A m => ∃ j : Nat, i = (j : Int) ∧ j ≤ l.length ∧ m = l.length - j ∧ Sym H no A [arr flK 64 3 m1 (l.take j)] ∧ ∀ x ∈ l.take j, x.2.1.length ≤ 300, ⟨_, 0, rfl, Nat.zero_le _, rfl, (Sym.start H).nilrow flK 64 3, by simp⟩, ?_⟩
  rintro m1 i A m ⟨j, rfl, hj, rfl, sA, hsm⟩ scr
  have hA := h.more sA.fr
  refine ⟨fun hlt => ?_, fun hge => ?_⟩
  · have hjl : j < l.length := by have := dlt hlt; omega
    have hx : l[j]? = some l[j] := List.getElem?_eq_getElem hjl
    have htk : l.take (j + 1) = l.take j ++ [l[j]] := List.take_succ_eq_append_getElem hjl
    generalize l[j] = x at hx htk
    have ix : ∀ {Q : Addr → Prop}, (∀ ad, (hcell A ad = some (.int .i64 x.1) ∧ hcell A (Addr.add ad 1) = some (.string (str x.2.1)) ∧ hcell A (Addr.add ad 2) = some (.int .i64 x.2.2)) → Q ad) → IxA s.a s.n (j : Int) 3 Q :=
      fun k => hA.ix (by decide) FlK (by omega) (by simpa using hx) fun ad hc hc0 => k ad ⟨hc0, hc 1 _ rfl, hc 2 _ rfl⟩
    refine ix fun ad c => ⟨_, c.2.1, fun _ => k A sA.fr, fun hsz => ?_⟩
    rw [str_size] at hsz
    have hsz' : x.2.1.length ≤ 300 := by have := of_decide_eq_false hsz; omega
    refine ix fun ad1 c1 => ⟨_, c1.1, ix fun ad2 c2 => ⟨_, c2.2.1, ix fun ad3 c3 => ⟨_, c3.2.2, fun b B hB => ?_⟩⟩⟩
    have hm1 := (sA.rd (k := 0) FlK (by decide) rfl).len
    rw [List.length_take, Nat.min_eq_left hj] at hm1
    refine sA.app1 (k := 0) (x := x) tyTok FlK (by decide) hB rfl (by omega) fun ap C hap sC => ⟨l.length - (j + 1), by omega, j + 1, wi (by omega), hjl, rfl, ?_, ?_⟩
    · rw [htk]; exact sC
    · rw [htk]
      intro y hy
      rcases List.mem_append.1 hy with hy | hy
      · exact hsm y hy
      · rw [List.mem_singleton.1 hy]; exact hsz'
  · have hjl : l.length ≤ j := by have := dge hge; omega
    rw [List.take_of_length_le hjl] at sA hsm
    have hsz := small_size hsm
    refine join_ok (sA.rd (k := 0) FlK (by decide) rfl) (by omega) (by omega) fun B fB => ⟨_, rfl, ?_⟩
    refine rjoin_ok (hA.more fB) (by omega) (by omega) ⟨_, rfl, fun _ => ?_, fun hne => ?_⟩
    · exact works_ok (ht.more (sA.fr.trans fB)) fun C fC => ⟨_, rfl, k C ((sA.fr.trans fB).trans fC)⟩
    · rw [beqS_iff.2 rfl] at hne; cases hne
theorem step_size {l : List UInt8} (h0 : l ≠ []) (he : (tokS l).1 = 0) : (tokS l).2.2.1.length + (tokS l).2.2.2.1.length ≤ l.length ∧ ((tokS l).2.1 ≠ 0 → (tokS l).2.2.1 ≠ []) := by
  cases l with
  | nil => exact absurd rfl h0
  | cons c r =>
    rw [step_cons] at he ⊢
    split
    · exact ⟨by simp, fun h => absurd rfl h⟩
    · split
      · exact ⟨by simp, fun h => absurd rfl h⟩
      · split
        · have := drop_le (fun x => !(x == 10)) (c :: r)
          exact ⟨by simpa using this, fun h => absurd rfl h⟩
        · split
          · simp; omega
          · split
            · rename_i h5
              have h1 := congrArg List.length (spl_app (c :: r))
              rw [List.length_append] at h1
              exact ⟨by simp only; omega, fun _ => splA_ne h5⟩
            · simp
theorem all_size : ∀ (f : Nat) (l : List UInt8) (n : Int) (acc : List Tk), sizeK (allT f l n acc).1 ≤ sizeK acc + 2 * l.length
  | 0, l, n, acc => by simp [allT]
  | f + 1, l, n, acc => by
    unfold allT
    split
    · simp
    · rename_i h0
      split
      · simp [sizeK]
      · rename_i he
        obtain ⟨h1, h2⟩ := step_size h0 (by simpa using he)
        refine Nat.le_trans (all_size f _ _ _) ?_
        unfold more
        by_cases hk : (tokS l).2.1 = 0
        · rw [if_pos hk, List.append_nil]
          omega
        · rw [if_neg hk, sizeK_snoc]
          have := List.length_pos_iff.2 (h2 hk)
          simp only
          omega
theorem toks_size (t : List UInt8) : sizeK (tokens t).1 ≤ 2 * t.length := by
  unfold tokens
  split
  · simp [sizeK]
  · have := all_size (t.length + 1) t 1 []
    simpa [sizeK] using this
theorem len_size (l : List Tk) : l.length ≤ sizeK l := by
  induction l with
  | nil => simp
  | cons x l ih =>
    have e : sizeK (x :: l) = (x.2.1.length + 1) + sizeK l := by simp [sizeK]
    rw [e, List.length_cons]
    omega
theorem noted_snoc (note : List UInt8) (l : List (List UInt8)) (t : List UInt8) : noted note (l ++ [t]) = noted note l ++ ([9, 35] ++ note ++ [10, 32] ++ t) := by simp [noted]
theorem lined_get : ∀ (l : List Tk) (n : Int) (j : Nat) (x : Tk), l[j]? = some x → (lined l n)[j]? = some (x.1, x.2.1, n + j)
  | [], _, _, _, h => by simp at h
  | y :: l, n, 0, x, h => by
    simp only [List.getElem?_cons_zero, Option.some.injEq] at h
    subst h
    simp [lined]
  | y :: l, n, j + 1, x, h => by
    rw [List.getElem?_cons_succ] at h
    have := lined_get l (n + 1) j x h
    simp only [lined, List.getElem?_cons_succ, this]
    congr 3
    omega
theorem lined_len : ∀ (l : List Tk) (n : Int), (lined l n).length = l.length
  | [], _ => rfl
  | y :: l, n => by simp [lined, lined_len l]
theorem str_note (a note x : List UInt8) : ((((str a ++ (⟨#[9, 35]⟩ : ByteArray)) ++ str note) ++ (⟨#[10, 32]⟩ : ByteArray)) ++ str x) = str (a ++ ([9, 35] ++ note ++ [10, 32] ++ x)) := by
  have e1 : (⟨#[9, 35]⟩ : ByteArray) = str [9, 35] := rfl
  have e2 : (⟨#[10, 32]⟩ : ByteArray) = str [10, 32] := rfl
  rw [e1, e2, str_app, str_app, str_app, str_app]
  simp
set_option maxRecDepth 10000 in
theorem lawBack_ok {t note : List UInt8} (hl : t.length ≤ 1048576) (hnl : note.length ≤ 1048576) (ht : Tabs H) (k : ∀ H', Fr no H H' → K (.bool true) H') : CallF Tryd.prog 15 #[.string (str t), .string (str note)] H K Z := by
  refine V15_ok ?_
  unfold V15
  refine works_ok ht fun A fA => ⟨_, rfl, (fun h => by cases h), fun _ => ?_⟩
  have htA := ht.more fA
  rw [str_size, str_size]
  refine ⟨fun B => B = A ∧ t.length ≤ 2000 ∧ note.length ≤ 20, ?_, fun _ => k A fA, fun h1 => ⟨fun _ => k A fA, fun h2 => ⟨rfl, by have := of_decide_eq_false h1; omega, by have := of_decide_eq_false h2; omega⟩⟩⟩
  rintro A ⟨rfl, hb1, hb2⟩ scr
  refine ⟨fun i B m => ∃ j : Nat, B = A ∧ i = (j : Int) ∧ j ≤ note.length ∧ m = note.length - j ∧ 10 ∉ note.take j, ⟨_, 0, rfl, rfl, Nat.zero_le _, rfl, by simp⟩, ?_⟩
  rintro i A m ⟨j, rfl, rfl, hj, rfl, hno⟩ scr1
  refine ⟨fun hlt => ?_, fun hge => ?_⟩
  · have hjl := dlt hlt
    have hx : note[j]? = some note[j] := List.getElem?_eq_getElem hjl
    have htk : note.take (j + 1) = note.take j ++ [note[j]] := List.take_succ_eq_append_getElem hjl
    generalize note[j] = c at hx htk
    refine IxS.mk hx ⟨fun _ => k A fA, fun hc => ⟨note.length - (j + 1), by omega, j + 1, rfl, wi (by omega), hjl, rfl, ?_⟩⟩
    rw [htk, List.mem_append, List.mem_singleton]
    rintro (h | rfl)
    · exact hno h
    · cases hc
  have hjl : note.length ≤ j := by have := dge hge; omega
  rw [List.take_of_length_le hjl] at hno
  clear hge hjl hj
  refine C09B.all_ok htA (Sym.start A) (by omega) fun s B sB => ⟨s, _, _, rfl, fun _ => k B (fA.trans sB.fr), fun hE => ?_⟩
  have hE' : (tokens t).2.2 = 0 := by simpa using hE
  have hself : ∀ x ∈ (tokens t).1, Self x.1 x.2.1 := by
    unfold tokens
    split
    · simp
    · exact all_self _ _ _ _ (by simp)
  have hsz := toks_size t
  have hlz := len_size (tokens t).1
  generalize (tokens t).1 = l at *
  have hs := (sB.rd (k := 0) FlK (by decide) rfl).len
  have rB := sB.rd (k := 0) FlK (by decide) rfl
  have hnl2 : ∀ j : Nat, (noted note ((l.take j).map (·.2.1))).length ≤ 25 * sizeK l := by
    intro j
    refine Nat.le_trans ?_ (Nat.mul_le_mul_left _ (size_take l j))
    generalize l.take j = m
    induction m with
    | nil => simp [noted]
    | cons x m ih =>
      have e : sizeK (x :: m) = (x.2.1.length + 1) + sizeK m := by simp [sizeK]
      have e2 : noted note ((x :: m).map (·.2.1)) = ([9, 35] ++ note ++ [10, 32] ++ x.2.1) ++ noted note (m.map (·.2.1)) := by simp [noted]
      rw [e, e2, List.length_append]
      simp only [List.length_append, List.length_cons, List.length_nil]
      omega
  refine ⟨fun a i C m => ∃ q : Nat, C = B ∧ i = (q : Int) ∧ q ≤ l.length ∧ m = l.length - q ∧ a = str (noted note ((l.take q).map (·.2.1))), ⟨_, 0, rfl, rfl, Nat.zero_le _, rfl, rfl⟩, ?_⟩
  rintro a i B m ⟨q, rfl, rfl, hq, rfl, rfl⟩ scr2
  refine ⟨fun hlt => ?_, fun hge => ?_⟩
  · have hql : q < l.length := by have := dlt hlt; omega
    have hx : l[q]? = some l[q] := List.getElem?_eq_getElem hql
    have htk : l.take (q + 1) = l.take q ++ [l[q]] := List.take_succ_eq_append_getElem hql
    generalize l[q] = x at hx htk
    have h5 := hnl2 (q + 1)
    have e3 : noted note ((l.take (q + 1)).map (·.2.1)) = noted note ((l.take q).map (·.2.1)) ++ ([9, 35] ++ note ++ [10, 32] ++ x.2.1) := by rw [htk, List.map_append, List.map_singleton, noted_snoc]
    rw [e3] at h5
    simp only [List.length_append, List.length_cons, List.length_nil] at h5
    have z1 : (⟨#[9, 35]⟩ : ByteArray).size = 2 := rfl
    have z2 : (⟨#[10, 32]⟩ : ByteArray).size = 2 := rfl
    simp only [ByteArray.size_append, str_size, z1, z2]
    refine ⟨by omega, by omega, by omega, ?_⟩
    refine rB.ix (by decide) FlK (by omega) (by simpa using hx) fun ad hc hc0 => ⟨_, hc 1 _ rfl, ?_⟩
    rw [str_size]
    refine ⟨by omega, l.length - (q + 1), by omega, q + 1, trivial, wi (by omega), hql, rfl, ?_⟩
    rw [e3, str_note]
  have hql : l.length ≤ q := by have := dge hge; omega
  have hnl3 := hnl2 q
  rw [List.take_of_length_le hql] at hnl3 ⊢
  clear hge hql hq hnl2
  refine join_ok rB (by omega) (by omega) fun C fC => ⟨_, rfl, ?_⟩
  have sC := sB.more fC
  have hjl := join_len l
  refine C09B.all_ok htA sC (by omega) fun s1 D sD => ⟨s1, _, _, rfl, ?_⟩
  refine C09B.all_ok htA sD (by omega) fun s2 E sE => ⟨s2, _, _, rfl, ?_⟩
  have fE := fA.trans sE.fr
  have e1 : (joinL (l.map (·.2.1))).length ≤ 20000 → tokens (joinL (l.map (·.2.1))) = (l.map (fun x => (x.1, x.2.1, 1)), 0, 0) := by
    intro h
    unfold tokens
    rw [if_neg (by omega), all_join l _ [] hself (by omega)]
    rfl
  have e2 : (noted note (l.map (·.2.1))).length ≤ 20000 → tokens (noted note (l.map (·.2.1))) = (lined l 2, 0, 0) := by
    intro h
    unfold tokens
    rw [if_neg (by omega), all_noted hno l _ 1 [] hself (by omega)]
    rfl
  have o1 : ¬ (joinL (l.map (·.2.1))).length ≤ 20000 → tokens (joinL (l.map (·.2.1))) = ([], 0, 9) := by
    intro h
    unfold tokens
    rw [if_pos (by omega)]
  have o2 : ¬ (noted note (l.map (·.2.1))).length ≤ 20000 → tokens (noted note (l.map (·.2.1))) = ([], 0, 9) := by
    intro h
    unfold tokens
    rw [if_pos (by omega)]
  refine ⟨fun G => G = E ∧ (joinL (l.map (·.2.1))).length ≤ 20000 ∧ (noted note (l.map (·.2.1))).length ≤ 20000, ?_, fun _ => k E fE, fun h1 => ⟨fun _ => k E fE, fun h2 => ⟨rfl, ?_, ?_⟩⟩⟩
  rotate_left
  · apply Classical.byContradiction
    intro h
    rw [o1 h] at h1
    cases h1
  · apply Classical.byContradiction
    intro h
    rw [o2 h] at h2
    cases h2
  rintro E ⟨rfl, hj1, hj2⟩ scr3
  rw [e1 hj1, e2 hj2] at *
  have r2 := sE.rd (k := 0) FlK (by decide) rfl
  have r1 := sE.rd (k := 1) FlK (by decide) rfl
  have r0 := sE.rd (k := 2) FlK (by decide) rfl
  have n2 := r2.len
  have n1 := r1.len
  have n0 := r0.len
  rw [lined_len] at n2
  rw [List.length_map] at n1
  refine ⟨fun G => G = E, ?_, (fun h => by cases h), fun _ => ⟨(fun h => by cases h), fun _ => ⟨fun h => ?_, fun _ => ⟨fun h => ?_, fun _ => rfl⟩⟩⟩⟩
  rotate_left
  · rw [n1, n0] at h
    simp at h
  · rw [n2, n0] at h
    simp at h
  rintro E rfl scr4
  refine ⟨fun i G m => ∃ q : Nat, G = E ∧ i = (q : Int) ∧ q ≤ l.length ∧ m = l.length - q, ⟨_, 0, rfl, rfl, Nat.zero_le _, rfl⟩, ?_⟩
  rintro i E m ⟨q, rfl, rfl, hq, rfl⟩ scr5
  refine ⟨fun G => G = E ∧ q < l.length, ?_, fun hlt => ⟨fun _ => ⟨fun _ => ⟨rfl, by have := dlt hlt; omega⟩, fun _ => k E fE⟩, fun _ => k E fE⟩, fun _ => k E fE⟩
  rintro E ⟨rfl, hql⟩ scr6
  have hx : l[q]? = some l[q] := List.getElem?_eq_getElem hql
  generalize l[q] = x at hx
  have ix : ∀ {u : Sl} {m : List Tk} {y : Tk} {Q : Addr → Prop}, Rd flK 3 E u m → m[q]? = some y → (∀ ad, (hcell E ad = some (.int .i64 y.1) ∧ hcell E (Addr.add ad 1) = some (.string (str y.2.1)) ∧ hcell E (Addr.add ad 2) = some (.int .i64 y.2.2)) → Q ad) → IxA u.a u.n (q : Int) 3 Q :=
    fun hu hy k => hu.ix (by decide) FlK (by omega) (by simpa using hy) fun ad hc hc0 => k ad ⟨hc0, hc 1 _ rfl, hc 2 _ rfl⟩
  have hx1 : (l.map (fun x => ((x.1, x.2.1, 1) : Tk)))[q]? = some (x.1, x.2.1, 1) := by rw [List.getElem?_map, hx]; rfl
  have hx2 := lined_get l 2 q x hx
  have nb : ∀ {u : Int} {P : Prop}, (u != u) = true → P := fun h => by rw [bne_self_eq_false] at h; cases h
  have ns : ∀ {u : ByteArray} {P : Prop}, (!(beqS u u)) = true → P := fun h => by rw [beqS_iff.2 rfl] at h; cases h
  refine ix r1 hx1 fun _ a1 => ⟨_, a1.1, ix r0 hx fun _ a2 => ⟨_, a2.1, nb, fun _ => ?_⟩⟩
  refine ix r1 hx1 fun _ a1 => ⟨_, a1.2.1, ix r0 hx fun _ a2 => ⟨_, a2.2.1, ns, fun _ => ?_⟩⟩
  refine ix r1 hx1 fun _ a1 => ⟨_, a1.2.2, nb, fun _ => ?_⟩
  refine ix r2 hx2 fun _ a1 => ⟨_, a1.1, ix r0 hx fun _ a2 => ⟨_, a2.1, nb, fun _ => ?_⟩⟩
  refine ix r2 hx2 fun _ a1 => ⟨_, a1.2.1, ix r0 hx fun _ a2 => ⟨_, a2.2.1, ns, fun _ => ?_⟩⟩
  have ew : w64 ((q : Int) + 2) = 2 + (q : Int) := by rw [wid (by omega) (by omega)]; omega
  refine ix r2 hx2 fun _ a1 => ⟨_, a1.2.2, ?_, fun _ => ⟨l.length - (q + 1), by omega, q + 1, rfl, wi (by omega), hql, rfl⟩⟩
  rw [ew]
  exact nb
end
theorem of_size {s : ByteArray} (h : s.size ≤ 1048576) : s.data.toList.length ≤ 1048576 := by
  have : s.data.toList.length = s.size := by simp
  omega
section
variable {H : Hp} {K : Value → Hp → Prop} {Z : List PanicEntry → Hp → Prop}
theorem lawAll_okS {s : ByteArray} (h : s.size ≤ 1048576) (ht : Tabs H) (k : ∀ H', Fr no H H' → K (.bool true) H') : CallF Tryd.prog 13 #[.string s] H K Z := by
  rw [str_of s]
  exact lawAll_ok (of_size h) ht k
theorem lawKeys_okS {s : ByteArray} (h : s.size ≤ 1048576) (ht : Tabs H) (k : ∀ H', Fr no H H' → K (.bool true) H') : CallF Tryd.prog 4 #[.string s] H K Z := by
  rw [str_of s]
  exact lawKeys_ok (of_size h) ht k
theorem lawBack_okS {s t : ByteArray} (h : s.size ≤ 1048576) (h2 : t.size ≤ 1048576) (ht : Tabs H) (k : ∀ H', Fr no H H' → K (.bool true) H') : CallF Tryd.prog 15 #[.string s, .string t] H K Z := by
  rw [str_of s, str_of t]
  exact lawBack_ok (of_size h) (of_size h2) ht k
end
end Go.Proofs.YthaejcmllibeoaaDoor.L09

