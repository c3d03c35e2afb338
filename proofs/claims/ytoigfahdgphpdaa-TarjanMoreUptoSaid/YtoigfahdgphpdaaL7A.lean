/- weftlaw07: the laws TarjanParts and TarjanLeads, over heaps. -/
import Derived.Test.YtoigfahdgphpdaaL7
set_option linter.unusedVariables false
set_option linter.unusedSimpArgs false
-- lawParts: 7
-- lawLeads: 10
namespace Go.Proofs.Ytoigfahdgphpdaa.L7
open Go Go.V Go.Proofs Go.Proofs.Ytoigfahdgphpdaa.N07 Go.Proofs.Ytoigfahdgphpdaa.C7 Go.Tar
attribute [local irreducible] Cvt ExtF CallF hrun App MkS
section
variable {H : Hp} {K : Value → Hp → Prop} {Z : List PanicEntry → Hp → Prop}
theorem parts_len {N : Nat} {es : List (Int × Int)} (hN : N ≤ 20000) : (partsOf N es).length ≤ 1000000000 ∧ ∀ x ∈ partsOf N es, x.length ≤ 1000000000 := by
  refine ⟨Nat.le_trans (bld_len _ _) (by omega), ?_⟩
  have key : ∀ (k : Nat) (dn : Nat → Bool), ∀ x ∈ bld (rE N es) N k dn, x.length ≤ N := by
    intro k
    induction k with
    | zero => intro dn x hx; cases hx
    | succ k ih =>
      intro dn x hx
      unfold bld at hx
      split at hx
      · cases hx
      · rcases List.mem_cons.1 hx with rfl | hx
        · exact cls_len
        · exact ih _ x hx
  intro x hx
  have := key N _ x hx
  omega
theorem lawParts_ok {n : Int} {l : Sl} {es : List (Int × Int)} (h : Rd flE 2 H l es) (k : ∀ H', Fr no H H' → K (.bool true) H') : CallF Try.prog 7 #[.int .i64 n, .slice l.a l.n l.c] H K Z := by
  refine V7_ok ?_
  unfold V7
  have hk := k H (Fr.refl _ _)
  refine great_ok h ⟨_, rfl, fun _ => hk, fun h => by cases h⟩ fun hl => ⟨_, rfl, (fun h => by cases h), fun _ => ?_⟩
  refine edges_ok h (by omega) fun s A hA hs => ⟨s, rfl, ?_⟩
  refine parts_ok hs (by omega) fun p B hB hpf hp => ⟨p, rfl, ?_⟩
  have fB := hA.trans hB
  refine rparts_ok (h.more fB) (by omega) fun q C hC hq => ⟨q, rfl, ?_⟩
  have fC := fB.trans hC
  obtain ⟨pl1, pl2⟩ := parts_len (N := nOf n) (es := es) nOf_le
  refine same_ok (hp.more hC) hq pl1 pl2 ⟨_, rfl, fun _ => ?_, fun h => by simp at h⟩
  refine edges_ok (h.more fC) (by omega) fun s2 D hD hs2 => ⟨s2, rfl, ?_⟩
  refine round_ok hs2 (by omega) fun E hE => ⟨_, rfl, ?_⟩
  have fE := (fC.trans hD).trans hE
  refine rround_ok (h.more fE) (by omega) hpf fun F hF => ⟨_, rfl, fun _ => ?_, fun h => by simp at h⟩
  refine works_ok fun G hG => ⟨_, rfl, k G ((fE.trans hF).trans hG)⟩
theorem lawLeads_ok {n : Int} {l t : Sl} {es : List (Int × Int)} {fr : List Int} (h : Rd flE 2 H l es) (hf : Rd flI 1 H t fr) (k : ∀ H', Fr no H H' → K (.bool true) H') : CallF Try.prog 10 #[.int .i64 n, .slice l.a l.n l.c, .slice t.a t.n t.c] H K Z := by
  refine V10_ok ?_
  unfold V10
  have hk := k H (Fr.refl _ _)
  have hfn := hf.len
  refine great_ok h ⟨_, rfl, fun _ => hk, fun h => by cases h⟩ fun hl => ⟨_, rfl, (fun h => by cases h), fun _ => ⟨fun _ => hk, fun hle => ?_⟩⟩
  have hfl : fr.length ≤ 60 := by have := of_decide_eq_false hle; omega
  refine edges_ok h (by omega) fun s A hA hs => ⟨s, rfl, ?_⟩
  refine leads_ok hs (by omega) (hf.more hA) (by omega) fun p B hB hp => ⟨p, rfl, ?_⟩
  have fB := hA.trans hB
  refine rleads_ok (h.more fB) (by omega) (hf.more fB) (by omega) fun q C hC hq => ⟨q, rfl, ?_⟩
  have fC := fB.trans hC
  have hll := @leads_len (nOf n) es fr
  have hnl := @nOf_le n
  refine sameInts_ok (hp.more hC) hq (by omega) ⟨_, rfl, fun _ => ?_, fun h => by simp at h⟩
  refine works_ok fun G hG => ⟨_, rfl, k G (fC.trans hG)⟩
end
end Go.Proofs.Ytoigfahdgphpdaa.L7

