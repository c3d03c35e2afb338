/- weftlaw25: the laws PoolOf and PoolBack. -/
import Derived.Test.YtigbdoicgdmliaaL25
set_option linter.unusedVariables false
set_option linter.unusedSimpArgs false
-- tStr: 9
-- tStrs: 47
-- lawOf: 6
-- lawBack: 7
namespace Go.Proofs.Ytigbdoicgdmliaa.L25
open Go Go.V Go.Proofs Go.Proofs.Ytigbdoicgdmliaa.N25 Go.Proofs.Ytigbdoicgdmliaa.P02 Go.Proofs.Ytigbdoicgdmliaa.C25
attribute [local irreducible] Cvt ExtF CallF hrun App MkS
section
variable {H : Hp} {K : Value → Hp → Prop} {Z : List PanicEntry → Hp → Prop}
theorem plI_more {A B : Hp} {b : Nat} {s : Sl} {ts : List (List UInt8)} {S : Nat → Prop} (h : (plI b s ts).ok A) (hf : Fr S A B) (hs : ∀ i, (plI b s ts).fp i → ¬ S i) : (plI b s ts).ok B := It.keep h hf hs
theorem lawOf_ok {l : Sl} {xs : List (List UInt8)} {t : List UInt8} (h : Rd flL 1 H l xs) (hb : ∀ x ∈ xs, x.length ≤ 1048576) (k : ∀ H', Fr no H H' → K (.bool true) H') : CallF Try.prog 6 #[.slice l.a l.n l.c, .string (str t)] H K Z := by
  refine V6_ok ?_
  unfold V6
  refine great_ok h hb ⟨_, rfl, fun _ => k H (Fr.refl _ _), (fun h => by cases h)⟩ fun hn hs => ⟨_, rfl, (fun h => by cases h), fun _ => ?_⟩
  intro b A hA
  have hbig : l.n ≤ 100 := by have := h.len; omega
  have s0 : Sym H no A [arr flL 9 1 ⟨some ⟨b, 0, none⟩, 0, 0⟩ []] := (Sym.start H).lit (l := ([] : List (List UInt8))) FlL (by decide) hA rfl
  refine s0.appR (k := 0) tyStr FlL (by decide) rfl (h.more s0.frno) (by show (0 + xs.length) * 16 ≤ _; omega) fun ap B hap s1 => ?_
  have rB : Rd flL 1 B ap xs := s1.rd (k := 0) FlL (by decide) rfl
  have fB := s1.frno
  refine of_ok rB (by omega) fun bP s ts C hris hmem hlen fC hpl hfp => ⟨_, rfl, ?_⟩
  have fHC := fB.trans fC
  refine rof_ok (h.more fHC) (by omega) fun m ys D hris2 hmem2 rm fD => ⟨m, rfl, ?_⟩
  have e : ys = ts := rising_eq linL hris2 hris fun x => by rw [hmem2 x, hmem x]
  subst e
  have plD : (plI bP s ys).ok D := plI_more hpl fD fun _ _ h => h
  have hys : ∀ x ∈ ys, x.length ≤ 20000 := fun x hx => Nat.le_trans (sum_mem ((hmem x).1 hx)) hs
  have hts : Okp ys := okp_of (M := 20000) (by decide) (by omega) hys
  have hyl : ys.length ≤ 1000000000 := by omega
  -- the number asked for, by both
  obtain ⟨n, ok, kk, e1, e2, enum, ernum⟩ : ∃ (n : Int) (ok : Bool) (kk : Int), (ok == decide (kk ≥ 0)) = true ∧ (n == (if kk < 0 then 0 else kk)) = true ∧
      (∀ (K' : Value → Hp → Prop), K' (.tuple #[.int .i64 n, .bool ok]) D → CallF Try.prog 30 #[.pointer (some ⟨bP, 0, none⟩), .string (str t)] D K' Z) ∧
      (∀ (K' : Value → Hp → Prop), K' (.int .i64 kk) D → CallF Try.prog 31 #[.slice m.a m.n m.c, .string (str t)] D K' Z) := by
    have hels := rd_els (val := C05S.val) (fun _ => rfl) rm
    by_cases hin : t ∈ ys
    · obtain ⟨i, hi⟩ := List.getElem?_of_mem hin
      refine ⟨(i : Int), true, (i : Int), by simp, by rw [if_neg (by omega)]; simp, fun K' hk => number_ok (plI_s plD) hris hyl (fun j hj => ?_) (fun hno => absurd hin hno), fun K' hk => Q05.number_ok hels (by rw [List.length_map]; omega) (fun j hj hmin => ?_) (fun hno => ?_)⟩
      · rw [idx_eq hris hj hi]
        exact hk
      · have hj' : ys[j]? = some t := by
          rw [List.getElem?_map] at hj
          cases hy : ys[j]? with
          | none => rw [hy] at hj; cases hj
          | some y =>
            rw [hy] at hj
            simp only [Option.map_some, Option.some.injEq] at hj
            rw [str_inj hj]
        rw [idx_eq hris hj' hi]
        exact hk
      · exact absurd (List.mem_map.2 ⟨t, hin, rfl⟩) hno
    · refine ⟨0, false, -1, by decide, by decide, fun K' hk => number_ok (plI_s plD) hris hyl (fun j hj => absurd (List.mem_of_getElem? hj) hin) (fun hno => hk), fun K' hk => Q05.number_ok hels (by rw [List.length_map]; omega) (fun j hj hmin => ?_) (fun hno => hk)⟩
      obtain ⟨y, hy, e⟩ := List.mem_map.1 (List.mem_of_getElem? hj)
      rw [str_inj e] at hy
      exact absurd hy hin
  refine enum _ ⟨_, _, rfl, ernum _ ⟨_, rfl, ?_⟩⟩
  intro b1 E hE
  have plE : (plI bP s ys).ok E := plI_more plD hE.fr fun _ _ h => h
  have fHE := (fHC.trans fD).trans hE.fr
  have hne : ¬ (plI bP s ys).fp b1 := by
    intro hh
    have := (plI bP s ys).lt plD hh
    have := hE.eq
    omega
  refine write_new hts hE.blk plE hne fun F cs' hF => ⟨rfl, ?_⟩
  refine done_new hts hF fun G fG => ⟨_, _, rfl, ?_⟩
  have fEG : Fr no D G := hE.fr.step fG (by intro i hi e; have := hE.eq; omega)
  have plG : (plI bP s ys).ok G := plI_more plD fEG fun _ _ h => h
  have fHG := (fHC.trans fD).trans fEG
  have rG := rm.more fEG
  refine numberN_ok ⟨_, _, rfl, same_ok (plI_s plG) rG hris hyl ⟨_, rfl, fun _ => ⟨fun _ => ⟨fun _ => ?_, fun h => ?_⟩, fun h => ?_⟩, (fun h => by cases h)⟩⟩
  · refine rbytes_ok hts rG fun I fI => ⟨_, rfl, fun _ => ⟨fun _ => lenN_ok ⟨_, rfl, fun _ => ⟨fun _ => works_ok fun J fJ => ⟨_, rfl, k J ((fHG.trans fI).trans fJ)⟩, (fun h => by cases h)⟩, (fun h => by cases h)⟩, (fun h => by cases h)⟩, fun h => ?_⟩
    rw [beqS_iff.2 rfl] at h
    cases h
  · rw [e2] at h; cases h
  · rw [e1] at h; cases h
theorem lawBack_ok {l : Sl} {xs : List (List UInt8)} {more t : List UInt8} (h : Rd flL 1 H l xs) (hb : ∀ x ∈ xs, x.length ≤ 1048576) (hm : more.length ≤ 1048576) (ht : t.length ≤ 1048576) (k : ∀ H', Fr no H H' → K (.bool true) H') :
    CallF Try.prog 7 #[.slice l.a l.n l.c, .string (str more), .string (str t)] H K Z := by
  refine V7_ok ?_
  unfold V7
  have hn := h.len
  refine works_ok fun A fA => ⟨_, rfl, (fun h => by cases h), fun _ => ?_⟩
  refine ⟨fun B => Fr no H B ∧ xs.length ≤ 100 ∧ sumL xs ≤ 20000, ?_, ?_⟩
  rotate_left
  · refine great_ok (h.more fA) hb ⟨_, rfl, fun _ => k A fA, (fun h => by cases h)⟩ fun hn1 hs1 => ⟨_, rfl, (fun h => by cases h), fun _ => ?_⟩
    intro b2 B hB
    have hr : RowN flL 9 1 B ⟨some ⟨b2, 0, none⟩, 2, 2⟩ [more, t] := rowN_lit FlL (by decide) hB.blk rfl
    refine great_ok (hr.rd FlL (by decide)) (by
      intro x hx
      simp only [List.mem_cons, List.not_mem_nil, or_false] at hx
      rcases hx with rfl | rfl
      · exact hm
      · exact ht) ⟨_, rfl, fun _ => k B (fA.trans hB.fr), (fun h => by cases h)⟩ fun _ _ => ⟨_, rfl, (fun h => by cases h), fun _ => ⟨fA.trans hB.fr, hn1, hs1⟩⟩
  rintro B ⟨fB, hn1, hs1⟩ scr
  refine ⟨fun i C m => ∃ j : Nat, C = B ∧ i = (j : Int) ∧ j ≤ xs.length ∧ m = xs.length - j ∧ ∀ x ∈ xs.take j, x.length ≤ 1000, ⟨_, 0, rfl, rfl, Nat.zero_le _, rfl, by simp⟩, ?_⟩
  rintro i C m ⟨j, rfl, rfl, hj, rfl, hall⟩ scr1
  refine ⟨fun hlt => ?_, fun hge => ?_⟩
  · have hlt' : j < xs.length := by have := dlt hlt; omega
    have hx : xs[j]? = some xs[j] := List.getElem?_eq_getElem hlt'
    have htk : xs.take (j + 1) = xs.take j ++ [xs[j]] := List.take_succ_eq_append_getElem hlt'
    generalize xs[j] = x at hx htk
    refine (h.more fB).ixn FlL hx fun ad had => ⟨_, had, fun _ => k C fB, fun hle => ⟨xs.length - (j + 1), by omega, j + 1, rfl, wi (by omega), hlt', rfl, ?_⟩⟩
    have hle' := of_decide_eq_false hle
    rw [str_size] at hle'
    intro y hy
    rw [htk] at hy
    rcases List.mem_append.1 hy with hy | hy
    · exact hall y hy
    · rw [List.mem_singleton.1 hy]; omega
  have hjl : j = xs.length := by have := dge hge; omega
  subst hjl
  rw [List.take_length] at hall
  intro b D hD
  have fD := fB.trans hD.fr
  refine of_ok (h.more fD) (by omega) fun bP s ts E hris hmem hlen fE hpl hfp => ⟨_, rfl, ?_⟩
  have hts : Okp ts := okp_of (M := 1000) (by decide) (by omega) fun x hx => hall x ((hmem x).1 hx)
  have hbk : Blk E b wcs _ := fE.blk hD.blk fun h => h
  have hne : ¬ (plI bP s ts).fp b := by
    intro hh
    have h1 := hfp b hh
    have h2 := hD.eq
    have h3 := hD.size
    omega
  refine write_new hts hbk hpl hne fun F cs' hF => ⟨rfl, ?_⟩
  refine done_new hts hF fun G fG => ⟨_, _, rfl, ?_⟩
  have fDG : Fr no C G := (hD.fr.trans fE).step fG (by intro i hi e; have := hD.eq; omega)
  have fHG := fB.trans fDG
  have hlight := hts.light
  refine ⟨by rw [str_size, str_size]; omega, ?_⟩
  rw [str_app]
  refine C02R.new_ok (by rw [str_size, List.length_append]; omega) fun br I hbr hrd fI => ⟨_, rfl, ?_⟩
  refine ⟨fun J => J = I, ?_, (fun h => by cases h), fun _ => ⟨(fun h => by cases h), fun _ => rfl⟩⟩
  rintro _ rfl scr2
  have hrw := read_written (more := more) hris (fun x hx => hall x ((hmem x).1 hx)) (by omega)
  have hwr : wr (readP (str (bytesL ts ++ more), 0, 0)).2 = 0 := by rw [hrw]; exact wr0 _ _
  refine read_ok hrd (by rw [str_size, List.length_append]; omega) (fun J cs2 hw _ => absurd hwr hw) fun J cs2 bQ s2 _ sJ => ⟨_, _, rfl, ?_⟩
  rw [hrw] at sJ
  refine C02R.done_ok (sJ.get (k := 1) rfl : C02R.RdS _ br 0 _ cs2 _) ⟨_, _, rfl, ?_⟩
  have fGJ : Fr no G J := by
    refine fI.step sJ.fr ?_
    intro i hi e
    have : i = br := e
    omega
  have fHJ := fHG.trans fGJ
  refine ⟨fun M => Fr no H M, ?_, (fun h => by cases h), fun _ => ⟨fun hne => ?_, fun _ => ?_⟩⟩
  rotate_left
  · exfalso
    have : (rdoneM (str (bytesL ts ++ more), (bytesL ts).length, 0)).1 = (bytesL ts).length := by unfold rdoneM; split <;> rfl
    rw [this, str_size] at hne
    simp at hne
  · refine rof_ok (h.more fHJ) (by omega) fun m ys M hris2 hmem2 rm fM => ⟨m, rfl, ?_⟩
    have e : ys = ts := rising_eq linL hris2 hris fun x => by rw [hmem2 x, hmem x]
    subst e
    have plM : (plI bQ s2 ys).ok M := plI_more (sJ.get (k := 0) rfl) fM fun _ _ h => h
    exact same_ok (plI_s plM) rm hris (by omega) ⟨_, rfl, (fun h => by cases h), fun _ => fHJ.trans fM⟩
  rintro M fM scr3
  refine C02R.new_ok (by rw [str_size]; omega) fun bq O hbq hrq fO => ⟨_, rfl, (fun h => by cases h), fun _ => ?_⟩
  have fHO := fM.trans fO
  have frq : ∀ {P : Hp} {L : List It}, Sym O (fun i => i = bq) P L → Fr no M P := by
    intro P L hS
    refine fO.step hS.fr ?_
    intro i hi e
    have : i = bq := e
    omega
  refine read_ok hrq (by rw [str_size]; omega) (fun P cs3 hw sP => ⟨_, _, rfl, ?_⟩) fun P cs3 bX s3 hw sP => ⟨_, _, rfl, ?_⟩
  · refine C02R.done_ok (sP.get (k := 0) rfl : C02R.RdS _ bq 0 _ cs3 _) ⟨_, _, rfl, fun _ => k P (fM.trans (frq sP)), fun h => ?_⟩
    exact absurd (by simpa using h) hw
  · obtain ⟨ts2, a, e1, ha, hn2, hlen2, htk⟩ := read_back hw
    rw [e1] at sP
    refine C02R.done_ok (sP.get (k := 1) rfl : C02R.RdS _ bq 0 _ cs3 _) ⟨_, _, rfl, (fun h => by cases h), fun _ => ?_⟩
    have hts2 : Okp ts2 := okp_of (M := 1000) (by decide) hn2 hlen2
    have plP : (plI bX s3 ts2).ok P := sP.get (k := 0) rfl
    intro b1 Q hQ
    have plQ := plI_more plP hQ.fr fun _ _ h => h
    have hne : ¬ (plI bX s3 ts2).fp b1 := by
      intro hh
      have := (plI bX s3 ts2).lt plP hh
      have := hQ.eq
      omega
    refine write_new hts2 hQ.blk plQ hne fun R cs' hR => ⟨rfl, ?_⟩
    refine done_new hts2 hR fun U fU => ⟨_, _, rfl, fun _ => ?_, (fun h => by cases h)⟩
    have fPU : Fr no P U := hQ.fr.step fU (by intro i hi e; have := hQ.eq; omega)
    have ed : (rdoneM (str t, a, 0)).1 = a := by unfold rdoneM; split <;> rfl
    rw [ed]
    rw [str_size] at ha
    refine ⟨fun _ => SlS.to ha ?_, fun hgt => ?_⟩
    · rw [str_data] at htk
      rw [htk, beqS_iff.2 rfl]
      exact k U ((fM.trans (frq sP)).trans fPU)
    · have := of_decide_eq_false hgt
      rw [str_size] at this
      omega
theorem lawOf_okS {l : Sl} {xs : List (List UInt8)} {s : ByteArray} (h : Rd flL 1 H l xs) (hb : ∀ x ∈ xs, x.length ≤ 1048576) (k : ∀ H', Fr no H H' → K (.bool true) H') : CallF Try.prog 6 #[.slice l.a l.n l.c, .string s] H K Z := by
  rw [str_of s]
  exact lawOf_ok h hb k
theorem size_len {s : ByteArray} (h : s.size ≤ 1048576) : s.data.toList.length ≤ 1048576 := by
  have : s.data.toList.length = s.size := by simp
  omega
theorem lawBack_okS {l : Sl} {xs : List (List UInt8)} {more t : ByteArray} (h : Rd flL 1 H l xs) (hb : ∀ x ∈ xs, x.length ≤ 1048576) (hm : more.size ≤ 1048576) (ht : t.size ≤ 1048576) (k : ∀ H', Fr no H H' → K (.bool true) H') :
    CallF Try.prog 7 #[.slice l.a l.n l.c, .string more, .string t] H K Z := by
  rw [str_of more, str_of t]
  exact lawBack_ok h hb (size_len hm) (size_len ht) k
end
end Go.Proofs.Ytigbdoicgdmliaa.L25

