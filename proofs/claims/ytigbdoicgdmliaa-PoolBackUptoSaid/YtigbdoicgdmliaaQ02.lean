/- weftref02, the reference's writer: what its methods do. -/
import Derived.Test.YtigbdoicgdmliaaN02
import Derived.Test.YtigbdoicgdmliaaV9
import Derived.Test.YtigbdoicgdmliaaP02
set_option linter.unusedVariables false
set_option linter.unusedSimpArgs false
-- tBs: 66
-- tU8: 5
-- tStr: 9
-- rNumber: 69
namespace Go.Proofs.Ytigbdoicgdmliaa.Q02
open Go Go.V Go.Proofs Go.Proofs.Ytigbdoicgdmliaa.N02 Go.Proofs.Ytigbdoicgdmliaa.P02
attribute [local irreducible] Cvt ExtF CallF hrun
theorem pvu1 : Try.prog.underlying 66 = some (.slice 5) := by kernel_rfl
theorem pvu2 : Try.prog.underlying 9 = some .string := by kernel_rfl
theorem pvu3 : Try.prog.underlying 5 = some (.int .u8) := by kernel_rfl

theorem one_ok {H A : Hp} {b : Nat} {c : UInt8} {K : Value → Hp → Prop} (hn : Newb H (.cells #[.int .u8 (c.toNat : Int)] 5) b A) (k : K (.string ⟨#[c]⟩) A) : Cvt Try.prog 66 9 A (.slice (some ⟨b, 0, none⟩) 1 1) K := by
  have hb : Blk A b (bv [c]) 5 := hn.blk
  exact bytesStr_ok pvu1 pvu3 pvu2 (Src.blk hb rfl) k
theorem number {H : Hp} {n : Int} {K : Value → Hp → Prop} {Z : List PanicEntry → Hp → Prop} (h0 : 0 ≤ n) (h1 : n ≤ 268435456)
    (k : ∀ H', Fr no H H' → K (.string ⟨(numB n.toNat).toArray⟩) H') : CallF Try.prog 69 #[.int .i64 n] H K Z := by
  refine V69_ok ?_
  unfold V69
  have h5 := numB_len5 (n := n.toNat) (by omega)
  refine ⟨fun y s A m => ∃ done : List UInt8, 0 ≤ y ∧ y ≤ n ∧ m = y.toNat ∧ s = ⟨done.toArray⟩ ∧ done ++ numB y.toNat = numB n.toNat ∧ Fr no H A, ⟨n.toNat, [], h0, Int.le_refl _, rfl, rfl, rfl, Fr.refl _ _⟩, ?_⟩
  rintro y s A m ⟨done, hy0, hyn, rfl, rfl, hd, hf⟩ scr
  have hlen := congrArg List.length hd
  simp only [List.length_append] at hlen
  have hsz : (⟨done.toArray⟩ : ByteArray).size = done.length := rfl
  have hone : ∀ c : UInt8, (⟨#[c]⟩ : ByteArray).size = 1 := fun _ => rfl
  refine ⟨?_, ?_⟩
  · intro hge
    have hge' : 128 ≤ y := by simpa using hge
    intro b B hn
    have e : IntKind.wrap .u8 ((IntKind.wrap .u8 (Int.tmod y 128)) + 128) = ((y.toNat % 128 + 128).toUInt8.toNat : Int) := by
      have t : Int.tmod y 128 = y % 128 := Int.tmod_eq_emod_of_nonneg hy0
      rw [t, u8_id (x := y % 128) (by omega) (by omega), u8_id (by omega) (by omega)]
      have : (y.toNat % 128 + 128).toUInt8.toNat = y.toNat % 128 + 128 := by
        rw [Nat.toUInt8, UInt8.toNat_ofNat']
        omega
      omega
    rw [e] at hn
    refine one_ok hn ⟨_, rfl, ?_, y.toNat / 128, by omega, done ++ [(y.toNat % 128 + 128).toUInt8], ?_⟩
    · rw [hsz, hone]; omega
    · have t : Int.tdiv y 128 = y / 128 := Int.tdiv_eq_ediv_of_nonneg hy0
      rw [t, w64_id (by omega) (by omega)]
      refine ⟨by omega, by omega, by omega, ?_, ?_, hf.trans hn.fr⟩
      · apply ByteArray.ext
        simp
      · rw [← hd, numB_ge (n := y.toNat) (by omega)]
        have : (y / 128).toNat = y.toNat / 128 := by omega
        rw [this]
        simp
  · intro hge
    have hge' : y < 128 := by simpa using hge
    intro b B hn
    have e : IntKind.wrap .u8 y = (y.toNat.toUInt8.toNat : Int) := by
      rw [u8_id (by omega) (by omega)]
      have : y.toNat.toUInt8.toNat = y.toNat := by
        rw [Nat.toUInt8, UInt8.toNat_ofNat']
        omega
      omega
    rw [e] at hn
    refine one_ok hn ⟨_, rfl, ?_, ?_⟩
    · rw [hsz, hone]; omega
    · have := k B (hf.trans hn.fr)
      rw [← hd, numB_lt (n := y.toNat) (by omega)] at this
      have e : (⟨done.toArray⟩ : ByteArray) ++ ⟨#[y.toNat.toUInt8]⟩ = ⟨(done ++ [y.toNat.toUInt8]).toArray⟩ := by
        apply ByteArray.ext
        simp
      rw [e]
      exact this
/-- the reference's writer at place o of block b -/
structure RwS (H : Hp) (b o : Nat) (T : TypeId) (cs : List Value) (st : St) : Prop where
  blk : Blk H b cs T
  str : cs[o]? = some (.string ⟨st.1.toArray⟩)
  err : cs[o + 1]? = some (.int .i64 st.2)
/-- what is changed -/
structure RwTo (H H' : Hp) (b o : Nat) (T : TypeId) (cs cs' : List Value) (st : St) : Prop where
  st : RwS H' b o T cs' st
  len : cs'.length = cs.length
  rest : ∀ i, i ≠ o → i ≠ o + 1 → cs'[i]? = cs[i]?
  fr : Fr (fun i => i = b) H H'
theorem RwTo.refl {H : Hp} {b o : Nat} {T : TypeId} {cs : List Value} {st : St} (h : RwS H b o T cs st) : RwTo H H b o T cs cs st := ⟨h, rfl, fun _ _ _ => rfl, Fr.refl _ _⟩
theorem RwS.ld0 {H : Hp} {b o : Nat} {T : TypeId} {cs : List Value} {st : St} (h : RwS H b o T cs st) : hcell H ⟨b, o, none⟩ = some (.string ⟨st.1.toArray⟩) := by rw [h.blk.ld]; exact h.str
theorem RwS.ld1 {H : Hp} {b o : Nat} {T : TypeId} {cs : List Value} {st : St} (h : RwS H b o T cs st) : hcell H (Addr.add ⟨b, o, none⟩ 1) = some (.int .i64 st.2) := by rw [add_mk, h.blk.ld]; exact h.err
theorem setE {H : Hp} {b o : Nat} {T : TypeId} {cs : List Value} {st : St} {e : Int} {K : Hp → Prop} (h : RwS H b o T cs st) (k : ∀ H', RwTo H H' b o T cs (cs.set (o + 1) (.int .i64 e)) (st.1, e) → K H') :
    StL (Addr.add ⟨b, o, none⟩ 1) 0 [.int .i64 e] H K := by
  rw [add_mk]
  have hl := (List.getElem?_eq_some_iff.1 h.err).1
  refine st_blk h.blk hl rfl ?_
  intro A hA hf _
  exact k A ⟨⟨hA, by rw [List.getElem?_set_ne (by omega)]; exact h.str, List.getElem?_set_self hl⟩, by simp, fun i _ hi => List.getElem?_set_ne (Ne.symm hi), hf⟩
theorem setS {H : Hp} {b o : Nat} {T : TypeId} {cs : List Value} {st : St} {xs : List UInt8} {s : ByteArray} {K : Hp → Prop} (h : RwS H b o T cs st) (hs : s = ⟨xs.toArray⟩) (k : ∀ H', RwTo H H' b o T cs (cs.set o (.string ⟨xs.toArray⟩)) (xs, st.2) → K H') :
    StL ⟨b, o, none⟩ 0 [.string s] H K := by
  subst hs
  have hl := (List.getElem?_eq_some_iff.1 h.str).1
  refine st_blk h.blk hl rfl ?_
  intro A hA hf _
  exact k A ⟨⟨hA, List.getElem?_set_self hl, by rw [List.getElem?_set_ne (by omega)]; exact h.err⟩, by simp, fun i hi _ => List.getElem?_set_ne (Ne.symm hi), hf⟩
theorem RwTo.pre {A B C : Hp} {b o : Nat} {T : TypeId} {c1 c2 : List Value} {st : St} (h : Fr no A B) (k : RwTo B C b o T c1 c2 st) : RwTo A C b o T c1 c2 st := ⟨k.st, k.len, k.rest, (h.of_no).trans k.fr⟩
end Go.Proofs.Ytigbdoicgdmliaa.Q02

