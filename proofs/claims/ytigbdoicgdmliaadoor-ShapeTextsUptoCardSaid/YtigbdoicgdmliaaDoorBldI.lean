/- A strings.Builder, as a thing. -/
import Derived.Test.YtigbdoicgdmliaaDoorBld
import Derived.Test.YtigbdoicgdmliaaDoorV20
set_option linter.unusedVariables false
set_option linter.unusedSimpArgs false
-- tBld: 87
-- tU8: 5
-- bWriteByte: 56
-- bWriteString: 50
-- bString: 49
namespace Go.Proofs.YtigbdoicgdmliaaDoor.BldI
open Go Go.V Go.Proofs Go.Proofs.YtigbdoicgdmliaaDoor.Bld
attribute [local irreducible] Cvt ExtF CallF hrun App MkS
def bldI (b : Nat) (cs : List Value) (xs : List UInt8) : It where
  ok H := BldS H b 0 87 cs xs
  fp i := i = b ∨ bOwn cs 0 i
  lt h hi := by
    rcases hi with rfl | hi
    · exact h.blk.lt
    · obtain ⟨s, hs, hr, _⟩ := h.buf
      exact hr.lt ((own_iff hs _).1 hi)
  st := by
    intro H H' h hs
    obtain ⟨s, h1, hr, hn⟩ := h.buf
    refine ⟨(hs b (.inl rfl)).trans h.blk, h.ptr, ⟨s, h1, ⟨hr.1, ?_⟩, hn⟩, h.lies⟩
    rcases hr.2 with h' | ⟨g, c, fr, ha, hg, h'⟩
    · exact .inl h'
    · exact .inr ⟨g, c, fr, ha, (hs g (.inr ((own_iff h1 g).2 ⟨0, ha⟩))).trans hg, h'⟩
section
variable {H0 H : Hp} {S : Nat → Prop} {L : List It} {k b : Nat} {cs : List Value} {xs t : List UInt8} {K : Value → Hp → Prop} {Z : List PanicEntry → Hp → Prop}
theorem set_bld {H' : Hp} {cs' : List Value} {ys : List UInt8} (h : Sym H0 S H L) (hk : L[k]? = some (bldI b cs xs)) (ht : BldTo H H' b 0 87 cs cs' ys) : Sym H0 S H' (L.set k (bldI b cs' ys)) :=
  h.setk hk ht.fr ht.st fun i hi => by
    rcases hi with rfl | hi
    · exact .inl (.inl rfl)
    · rcases ht.own i hi with h' | h'
      · exact .inl (.inr h')
      · exact .inr h'
theorem new_bld {H' : Hp} (h : Sym H0 S H L) (hn : Newb H (.cells #[.pointer none, .slice none 0 0] 87) b H') : Sym H0 S H' (bldI b [.pointer none, .slice none 0 0] [] :: L) := by
  have hno : ∀ i, ¬ bOwn [.pointer none, .slice none 0 0] 0 i := by
    rintro i ⟨o, n, c, h⟩
    simp at h
  refine h.new hn.fr ⟨hn.blk, ⟨none, rfl, .inl rfl⟩, ⟨⟨none, 0, 0⟩, rfl, Row.nil _ _ _, by rintro ⟨o, h⟩; cases h⟩, by kernel_rfl⟩ ?_
  rintro i (rfl | hi)
  · have := hn.eq; omega
  · exact absurd hi (hno i)
theorem wstr (h : Sym H0 S H L) (hk : L[k]? = some (bldI b cs xs)) (hl : xs.length + t.length ≤ 140737488355328)
    (kk : ∀ H' cs', Sym H0 S H' (L.set k (bldI b cs' (xs ++ t))) → K (.tuple #[.int .i64 ((str t).size : Int), .nilIface]) H') : CallF Tryd.prog 50 #[.pointer (some ⟨b, 0, none⟩), .string (str t)] H K Z :=
  writeString (t := str t) (h.get hk) (by rw [str_size]; exact hl) fun H' cs' ht => kk H' cs' (by
    rw [str_data] at ht
    exact set_bld h hk ht)
theorem wbyte {c : UInt8} (h : Sym H0 S H L) (hk : L[k]? = some (bldI b cs xs)) (hl : xs.length + 1 ≤ 140737488355328)
    (kk : ∀ H' cs', Sym H0 S H' (L.set k (bldI b cs' (xs ++ [c]))) → K .nilIface H') : CallF Tryd.prog 56 #[.pointer (some ⟨b, 0, none⟩), .int .u8 (c.toNat : Int)] H K Z :=
  writeByte (h.get hk) hl fun H' cs' ht => kk H' cs' (set_bld h hk ht)
theorem bstr (h : Sym H0 S H L) (hk : L[k]? = some (bldI b cs xs)) (hl : xs.length ≤ 140737488355328)
    (kk : ∀ H', Sym H0 S H' (L.set k (bldI b cs xs)) → K (.string (str xs)) H') : CallF Tryd.prog 49 #[.pointer (some ⟨b, 0, none⟩)] H K Z :=
  string (h.get hk) (by omega) fun H' ht => kk H' (set_bld h hk ht)
end
end Go.Proofs.YtigbdoicgdmliaaDoor.BldI

