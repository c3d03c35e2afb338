/- weftlaw07: the law TarjanBehind, over heaps. -/
import Derived.Test.YtoigfahdgphpdaaL7B
set_option linter.unusedVariables false
set_option linter.unusedSimpArgs false
-- tInt: 3
-- tInts: 42
-- lawBehind: 4
namespace Go.Proofs.Ytoigfahdgphpdaa.L7
open Go Go.V Go.Proofs Go.Proofs.Ytoigfahdgphpdaa.N07 Go.Proofs.Ytoigfahdgphpdaa.C7 Go.Tar
attribute [local irreducible] Cvt ExtF CallF hrun App MkS
/-- where a part stands -/
def ix (ch : List Nat) (p : Nat) : Nat := ch.findIdx (· == p)
theorem ix_get : ∀ {ch : List Nat} {i p : Nat}, ch.Nodup → ch[i]? = some p → ix ch p = i
  | [], i, p, _, h => by simp at h
  | a :: ch, 0, p, _, h => by
    simp only [List.getElem?_cons_zero, Option.some.injEq] at h
    subst h
    unfold ix
    rw [List.findIdx_cons]
    simp
  | a :: ch, i + 1, p, hn, h => by
    rw [List.getElem?_cons_succ] at h
    rw [List.nodup_cons] at hn
    have hne : (a == p) = false := by
      cases hap : (a == p) with
      | false => rfl
      | true =>
        have := eq_of_beq hap
        subst this
        exact absurd (List.mem_of_getElem? h) hn.1
    have := ix_get hn.2 h
    unfold ix at this ⊢
    rw [List.findIdx_cons, hne]
    simp [this]
theorem cnt_full {f : Nat → Bool} : ∀ {n : Nat}, (∀ v, v < n → f v = true) → cnt f n = n
  | 0, _ => rfl
  | n + 1, h => by rw [cnt_succ, cnt_full fun v hv => h v (by omega), h n (by omega)]; rfl
section
variable {H : Hp} {K : Value → Hp → Prop} {Z : List PanicEntry → Hp → Prop}
set_option maxRecDepth 10000 in
theorem lawBehind_ok {n : Int} {l : Sl} {es : List (Int × Int)} (h : Rd flE 2 H l es) (k : ∀ H', Fr no H H' → K (.bool true) H') : CallF Try.prog 4 #[.int .i64 n, .slice l.a l.n l.c] H K Z := by
  refine V4_ok ?_
  unfold V4
  have hln := h.len
  refine works_ok fun H1 f1 => ⟨_, rfl, (fun h => by cases h), fun _ => ⟨fun A => A = H1 ∧ es.length ≤ 200 ∧ n ≤ 60, ?_, ?_⟩⟩
  rotate_left
  · have hk := k H1 f1
    refine great_ok (h.more f1) ⟨_, rfl, fun _ => hk, fun h => by cases h⟩ fun hl => ⟨_, rfl, (fun h => by cases h), fun _ => ⟨fun _ => hk, fun h2 => ⟨rfl, hl, ?_⟩⟩⟩
    have := of_decide_eq_false h2; omega
  rintro A ⟨rfl, hl, hn⟩ scr
  have hNof : nOf n = n.toNat := nOf_nat (by omega)
  refine edges_ok (h.more f1) (by omega) fun s B hB hs => ⟨s, rfl, ?_⟩
  refine parts_ok hs (by omega) fun p C hC hpf hp => ⟨p, rfl, ?_⟩
  have fC := (f1.trans hB).trans hC
  rw [hNof] at hp hpf
  have emax : (if n < 0 then 0 else n) = ((n.toNat : Nat) : Int) := by split <;> omega
  rw [emax]
  have hN : n.toNat ≤ 60 := by omega
  obtain ⟨P, pt, ch, hP, h1, h2, h3, h4, h5, h6⟩ := hpf
  generalize hNN : n.toNat = N at *
  rw [h5] at hp
  refine (Sym.start C).make tyI FlN (zt := 0) rfl rfl (by omega) fun mk D hmk fD _ hD => ?_
  rw [mp_rep (N := N) (f := fun _ : Nat => 0) fun _ => rfl] at hD
  -- who is there
  let at1 : Nat → Nat → Nat → Nat := fun i c v => if ix ch (pt v) < i ∨ (ix ch (pt v) = i ∧ ∃ j, j < c ∧ (mem pt N (pt v))[j]? = some v) then ix ch (pt v) + 1 else 0
  let nz : Nat → Nat → Nat := fun i c => cnt (fun v => decide (at1 i c v ≠ 0)) N
  have hat0 : mp N (fun _ : Nat => 0) = mp N (at1 0 0) := by
    unfold mp
    refine List.map_congr_left fun v _ => ?_
    show 0 = if _ then _ else _
    rw [if_neg]
    rintro (hc | ⟨_, j, hj, _⟩) <;> omega
  rw [hat0] at hD
  have hnz0 : nz 0 0 = 0 := cnt_zero.2 fun v _ => by
    show decide (at1 0 0 v ≠ 0) = false
    have : at1 0 0 v = 0 := by
      show (if _ then _ else _) = _
      rw [if_neg]
      rintro (hc | ⟨_, j, hj, _⟩) <;> omega
    simp [this]
  have hpln := hp.len
  rw [List.length_map] at hpln
  have hchN : ch.length ≤ N := by rw [h1]; exact hP.le
  refine ⟨fun seen i E m => ∃ c : Nat, i = (c : Int) ∧ c ≤ ch.length ∧ m = ch.length - c ∧ seen = (nz c 0 : Int) ∧ Sym C no E [arr flN 3 1 mk (mp N (at1 c 0))], ⟨_, 0, rfl, Nat.zero_le _, rfl, by rw [hnz0]; rfl, hD⟩, ?_⟩
  clear hD hat0 hnz0
  rintro seen i E m ⟨c, rfl, hc, rfl, rfl, hE⟩ scr1
  refine ⟨fun hlt => ?_, fun hge => ?_⟩
  · have hcl : c < ch.length := by have := dlt hlt; omega
    have hq : ch[c]? = some ch[c] := List.getElem?_eq_getElem hcl
    generalize ch[c] = q at hq
    have hqP := h2 q (List.mem_of_getElem? hq)
    have hixq := ix_get h3 hq
    have hx : (ch.map (mem pt N))[c]? = some (mem pt N q) := by rw [List.getElem?_map, hq]; rfl
    have hml : (mem pt N q).length ≤ N := by
      have := List.length_filter_le (fun v => pt v == q) (List.range N)
      rwa [List.length_range] at this
    refine ⟨fun seen kk F m => ∃ d : Nat, kk = (d : Int) ∧ d ≤ (mem pt N q).length ∧ m = (mem pt N q).length - d ∧ seen = (nz c d : Int) ∧ Sym C no F [arr flN 3 1 mk (mp N (at1 c d))], ⟨_, 0, rfl, Nat.zero_le _, rfl, rfl, hE⟩, ?_⟩
    clear hE
    rintro seen kk F m ⟨d, rfl, hd, rfl, rfl, hF⟩ scr2
    have hpF := hp.more hF.fr
    have ixp : ∀ K' : Addr → Prop, (∀ ad (si : Sl), Rd flN 1 F si (mem pt N q) → hcell F ad = some (.slice si.a si.n si.c) → K' ad) → IxA p.a p.n (c : Int) 1 K' := fun K' hK => hpF.ixn hx hK
    refine ixp _ fun ad s0 hs0 e0 => ⟨s0, e0, fun hlt2 => ?_, fun hge2 => ?_⟩
    · have hdl : d < (mem pt N q).length := by have := dlt hlt2; have := hs0.len; omega
      have hv : (mem pt N q)[d]? = some (mem pt N q)[d] := List.getElem?_eq_getElem hdl
      generalize (mem pt N q)[d] = v at hv
      obtain ⟨hvN, hvq⟩ := mem_iff.1 (List.mem_of_getElem? hv)
      have hnd : (mem pt N q).Nodup := List.nodup_range.filter _
      have hat : at1 c d v = 0 := by
        show (if _ then _ else _) = _
        rw [if_neg]
        rw [hvq, hixq]
        rintro (hc | ⟨_, j, hj, hjv⟩)
        · omega
        · obtain ⟨a1, a2⟩ := List.getElem?_eq_some_iff.1 hjv
          obtain ⟨b1, b2⟩ := List.getElem?_eq_some_iff.1 hv
          have := (List.getElem_inj hnd).1 (a2.trans b2.symm)
          omega
      have hat' : at1 c (d + 1) v = c + 1 := by
        show (if _ then _ else _) = _
        rw [if_pos (by rw [hvq, hixq]; exact .inr ⟨rfl, d, by omega, hv⟩), hvq, hixq]
      have hne : ∀ u, u ≠ v → at1 c (d + 1) u = at1 c d u := by
        intro u huv
        show (if _ then _ else _) = if _ then _ else _
        congr 1
        apply propext
        constructor
        · rintro (hc | ⟨hi, j, hj, hju⟩)
          · exact .inl hc
          · by_cases hjd : j = d
            · subst hjd
              exfalso
              -- the same part: the same member
              have hpu : pt u = q := by
                have hul : ix ch (pt u) < ch.length := by omega
                have h8 : ch[ix ch (pt u)]? = some (ch[ix ch (pt u)]'hul) := List.getElem?_eq_getElem _
                have h9 : ch[ix ch (pt u)]'hul = pt u := by
                  have := List.findIdx_getElem (p := (· == pt u)) (xs := ch) (w := hul)
                  exact eq_of_beq this
                rw [h9, hi, hq] at h8
                exact (Option.some.inj h8).symm
              rw [hpu, hv] at hju
              exact huv (Option.some.inj hju).symm
            · exact .inr ⟨hi, j, by omega, hju⟩
        · rintro (hc | ⟨hi, j, hj, hju⟩)
          · exact .inl hc
          · exact .inr ⟨hi, j, by omega, hju⟩
      have hcnt : nz c (d + 1) = nz c d + 1 := cnt_up (v := v) (by simp [hat]) (by simp [hat']) (fun u hu => by rw [hne u hu]) hvN
      have hnzle : nz c d ≤ N := cnt_le N
      refine ixp _ fun ad1 s1 hs1 e1 => ⟨s1, e1, hs1.ixn FlN hv fun ad2 e2 => ⟨_, e2, fun hneg => ?_, fun _ => ?_⟩⟩
      · have := of_decide_eq_true hneg; omega
      refine ixp _ fun ad3 s3 hs3 e3 => ⟨s3, e3, hs3.ixn FlN hv fun ad4 e4 => ⟨_, e4, fun hbig => ?_, fun _ => ?_⟩⟩
      · have := of_decide_eq_true hbig; omega
      refine ixp _ fun ad5 s5 hs5 e5 => ⟨s5, e5, hs5.ixn FlN hv fun ad6 e6 => ⟨_, e6, ?_⟩⟩
      refine (hF.rd (k := 0) FlN (by decide) rfl).ixn FlN (mp_get hvN) fun ad7 e7 => ⟨_, e7, fun hz => ?_, fun _ => ?_⟩
      · rw [hat] at hz
        simp at hz
      refine ixp _ fun ad8 s8 hs8 e8 => ⟨s8, e8, hs8.ixn FlN hv fun ad9 e9 => ⟨_, e9, ?_⟩⟩
      rw [wi (by omega), wi (by omega), wi (by omega)]
      refine hF.stn (k := 0) (y := c + 1) FlN rfl (mp_get hvN) rfl fun G hG0 => ⟨(mem pt N q).length - (d + 1), by omega, d + 1, rfl, hdl, rfl, by rw [hcnt], ?_⟩
      have hG : Sym C no G [arr flN 3 1 mk ((mp N (at1 c d)).set v (c + 1))] := hG0
      rw [mp_set] at hG
      have : upd (at1 c d) v (c + 1) = at1 c (d + 1) := by
        funext u
        by_cases huv : u = v
        · subst huv; rw [upd_self, hat']
        · rw [upd_ne huv, hne u huv]
      rw [← this]
      exact hG
    · have hdl : d = (mem pt N q).length := by have := dge hge2; have := hs0.len; omega
      have hnext : ∀ v, v < N → at1 (c + 1) 0 v = at1 c d v := by
        intro v hvN
        show (if _ then _ else _) = if _ then _ else _
        congr 1
        apply propext
        constructor
        · rintro (hcc | ⟨_, j, hj, _⟩)
          · by_cases hlt : ix ch (pt v) < c
            · exact .inl hlt
            · have hic : ix ch (pt v) = c := by omega
              right
              refine ⟨hic, ?_⟩
              have hvm : v ∈ mem pt N (pt v) := mem_iff.2 ⟨hvN, rfl⟩
              have hpv : pt v = q := by
                have hul : ix ch (pt v) < ch.length := by omega
                have h8 : ch[ix ch (pt v)]? = some (ch[ix ch (pt v)]'hul) := List.getElem?_eq_getElem _
                have h9 : ch[ix ch (pt v)]'hul = pt v := by
                  have := List.findIdx_getElem (p := (· == pt v)) (xs := ch) (w := hul)
                  exact eq_of_beq this
                rw [h9, hic, hq] at h8
                exact (Option.some.inj h8).symm
              obtain ⟨j, hj⟩ := List.getElem?_of_mem hvm
              have hjl := (List.getElem?_eq_some_iff.1 hj).1
              rw [hpv] at hjl
              exact ⟨j, by omega, hj⟩
          · omega
        · rintro (hcc | ⟨hi, _⟩)
          · exact .inl (by omega)
          · exact .inl (by omega)
      have hmp : mp N (at1 (c + 1) 0) = mp N (at1 c d) := by
        unfold mp
        exact List.map_congr_left fun v hv => hnext v (List.mem_range.1 hv)
      have hnz : nz (c + 1) 0 = nz c d := cnt_congr fun v hv => by
        show decide (at1 (c + 1) 0 v ≠ 0) = decide (at1 c d v ≠ 0)
        rw [hnext v hv]
      refine ixp _ fun ad11 s11 hs11 e11 => ⟨s11, e11, fun hgt => ?_, fun _ => ?_⟩
      · refine ixp _ fun ad12 s12 hs12 e12 => ⟨s12, e12, ?_⟩
        refine lround_ok (h.more (fC.trans hF.fr)) (by omega) hs12 (by omega) (fun x hx => by rw [hNof]; exact (mem_iff.1 hx).1) (fun x hx y hy => ?_) fun G hG => ⟨_, rfl, (fun h => by cases h), fun _ => ⟨ch.length - (c + 1), by omega, c + 1, wi (by omega), hcl, rfl, by rw [hnz], ?_⟩⟩
        · rw [hNof]
          obtain ⟨x1, x2⟩ := mem_iff.1 hx
          obtain ⟨y1, y2⟩ := mem_iff.1 hy
          exact ((hP.eqv x y x1 y1).1 (by rw [x2, y2])).1
        · rw [hmp]
          exact hF.more hG
      · refine ⟨ch.length - (c + 1), by omega, c + 1, wi (by omega), hcl, rfl, by rw [hnz], ?_⟩
        rw [hmp]
        exact hF
  · have hcl : c = ch.length := by have := dge hge; omega
    subst hcl
    have hixl : ∀ v, v < N → ix ch (pt v) < ch.length := by
      intro v hv
      have := h4 (pt v) (hP.lt v hv)
      exact List.findIdx_lt_length_of_exists ⟨pt v, this, by simp⟩
    have hatv : ∀ v, v < N → at1 ch.length 0 v = ix ch (pt v) + 1 := by
      intro v hv
      show (if _ then _ else _) = _
      rw [if_pos (.inl (hixl v hv))]
    have hall : nz ch.length 0 = N := cnt_full fun v hv => by
      show decide (at1 ch.length 0 v ≠ 0) = true
      rw [hatv v hv]
      simp
    have hlE := h.more (fC.trans hE.fr)
    refine ⟨fun i F m => ∃ d : Nat, F = E ∧ i = (d : Int) ∧ d ≤ es.length ∧ m = es.length - d, ⟨_, 0, rfl, rfl, Nat.zero_le _, rfl⟩, ?_⟩
    rintro i F m ⟨d, rfl, rfl, hd, rfl⟩ scr2
    refine ⟨fun hlt => ?_, fun hge => ?_⟩
    · have hdl : d < es.length := by have := dlt hlt; omega
      have hx : es[d]? = some es[d] := List.getElem?_eq_getElem hdl
      generalize es[d] = e at hx
      have next : ∃ m8, m8 < es.length - d ∧ ∃ d' : Nat, F = F ∧ w64 ((d : Int) + 1) = (d' : Int) ∧ d' ≤ es.length ∧ m8 = es.length - d' := ⟨es.length - (d + 1), by omega, d + 1, rfl, wi (by omega), hdl, rfl⟩
      refine hlE.ix (by decide) FlE (by omega) hx fun ad13 _ e13 => ⟨_, e13, hlE.ix (by decide) FlE (by omega) hx fun ad14 h14 _ => ⟨_, h14 1 _ rfl, fun c1 => ⟨fun c2 => ⟨fun c3 => ⟨fun c4 => ?_, fun _ => next⟩, fun _ => next⟩, fun _ => next⟩, fun _ => next⟩⟩
      have c1' : 0 ≤ e.1 := of_decide_eq_true c1
      have c2' : e.1 < (mk.n : Int) := of_decide_eq_true c2
      have c3' : 0 ≤ e.2 := of_decide_eq_true c3
      have c4' : e.2 < (mk.n : Int) := of_decide_eq_true c4
      obtain ⟨u, hu⟩ : ∃ u : Nat, e.1 = (u : Int) := ⟨e.1.toNat, by omega⟩
      obtain ⟨v, hv⟩ : ∃ v : Nat, e.2 = (v : Int) := ⟨e.2.toNat, by omega⟩
      rw [hu, hv]
      have huN : u < N := by omega
      have hvN : v < N := by omega
      refine (hE.rd (k := 0) FlN (by decide) rfl).ixn FlN (mp_get huN) fun ad15 e15 => ⟨_, e15, (hE.rd (k := 0) FlN (by decide) rfl).ixn FlN (mp_get hvN) fun ad16 e16 => ⟨_, e16, fun hless => ?_, fun _ => next⟩⟩
      exfalso
      have hless' := dlt hless
      rw [hatv u huN, hatv v hvN] at hless'
      -- an edge leads to one that stands ahead
      have hadj : v ∈ adj N es u := by
        unfold adj
        rw [List.mem_filterMap]
        refine ⟨e, List.mem_of_getElem? hx, ?_⟩
        rw [if_pos (by simp [inb, hu, hv]; omega), hv, Int.toNat_natCast]
      have hul := hixl u huN
      have h9 : ch[ix ch (pt u)]'hul = pt u := by
        have := List.findIdx_getElem (p := (· == pt u)) (xs := ch) (w := hul)
        exact eq_of_beq this
      have hsplit : ch = ch.take (ix ch (pt u)) ++ pt u :: ch.drop (ix ch (pt u) + 1) := by
        conv => lhs; rw [← List.take_append_drop (ix ch (pt u)) ch, List.drop_eq_getElem_cons hul, h9]
      rcases h6 _ _ _ hsplit u huN rfl v hadj with hpv | hpv
      · rw [hpv] at hless'
        omega
      · obtain ⟨j, hj⟩ := List.getElem?_of_mem hpv
        rw [List.getElem?_take] at hj
        split at hj
        · rename_i hjl
          have := ix_get h3 hj
          omega
        · cases hj
    · have : ((nz ch.length 0 : Nat) : Int) = (mk.n : Int) := by rw [hall, hmk]
      rw [this, beq_self_eq_true]
      exact k F (fC.trans hE.fr)
end
end Go.Proofs.Ytoigfahdgphpdaa.L7

