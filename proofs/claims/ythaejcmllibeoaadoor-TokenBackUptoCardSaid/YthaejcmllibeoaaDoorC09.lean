/- token's functions, and weftref09's: the language's own words, marks, one word. -/
import Derived.Test.YthaejcmllibeoaaDoorN09
import Derived.Test.YthaejcmllibeoaaDoorP09
import Derived.Test.YthaejcmllibeoaaDoorS01
import Derived.Test.YthaejcmllibeoaaDoorV23
set_option linter.unusedVariables false
set_option linter.unusedSimpArgs false
-- tU8: 5
-- tBytes: 90
-- tStr: 9
-- keys: 18
-- isKey: 21
-- next: 65
-- put: 88
-- word: 89
-- rKeys: 20
-- rIsKey: 22
-- rMark: 66
-- rLetter: 67
-- rDigit: 68
-- rWord: 69
-- bs: 54
-- less: 76
-- snan: 77
-- nan: 93
-- fields: 53
-- ixByte: 86
-- tReader: 88
-- tTok: 64
-- tToks: 55
-- rTok: 63
-- rToks: 58
namespace Go.Proofs.YthaejcmllibeoaaDoor.C09
open Go Go.V Go.Proofs Go.Proofs.YthaejcmllibeoaaDoor.N09 Go.Proofs.YthaejcmllibeoaaDoor.C01 Go.Proofs.YthaejcmllibeoaaDoor.P09
attribute [local irreducible] Cvt ExtF CallF hrun App MkS
def flK (x : Tk) : List Value := [.int .i64 x.1, .string (str x.2.1), .int .i64 x.2.2]
theorem FlK : Fl flK 3 := ⟨fun _ => rfl, fun x v hv => by
  unfold flK at hv
  simp only [List.mem_cons, List.not_mem_nil, or_false] at hv
  rcases hv with rfl | rfl | rfl <;> rfl⟩
theorem tyTok : TyS Tryd.prog 55 64 3 32 (.agg #[.int .i64 0, .string ⟨#[]⟩, .int .i64 0]) := ⟨by kernel_rfl, by kernel_rfl, rfl, by decide⟩
theorem tyRTok : TyS Tryd.prog 58 63 3 32 (.agg #[.int .i64 0, .string ⟨#[]⟩, .int .i64 0]) := ⟨by kernel_rfl, by kernel_rfl, rfl, by decide⟩
abbrev Tabs (H : Hp) : Prop := TabH Tryd.prog H "strings.asciiSpace" .u8 Lib.asciiSpaceTab
theorem newb_alloc {H : Hp} {w w' : World} {o : Obj} (hw : w.heap = H) (h : w' = w.alloc o) : Newb H o H.size w'.heap := by
  subst h
  subst hw
  exact ⟨rfl, rfl⟩
section
variable {H0 H : Hp} {S : Nat → Prop} {L : List It} {K : Value → Hp → Prop} {Z : List PanicEntry → Hp → Prop}
set_option maxRecDepth 100000 in
def keysText : List UInt8 := [97, 100, 100, 114, 32, 99, 97, 108, 108, 32, 99, 111, 112, 121, 32, 101, 108, 115, 101, 32, 101, 120, 116, 101, 114, 110, 32, 102, 110, 32, 102, 114, 101, 101, 32, 103, 108, 111, 98, 97, 108, 32, 105, 99, 97, 108, 108, 32, 105, 102, 32, 105, 110, 100, 101, 120, 32, 105, 110, 112, 117, 116, 32, 105, 110, 116, 32, 105, 115, 110, 117, 108, 108, 32, 108, 101, 115, 115, 32, 108, 111, 97, 100, 32, 109, 101, 109, 98, 101, 114, 32, 109, 105, 110, 117, 115, 32, 109, 111, 100, 117, 108, 101, 32, 110, 101, 119, 32, 110, 117, 108, 108, 32, 111, 98, 106, 32, 112, 108, 117, 115, 32, 112, 116, 114, 32, 114, 101, 116, 117, 114, 110, 32, 115, 97, 109, 101, 32, 115, 116, 97, 116, 105, 99, 32, 115, 116, 111, 114, 101, 32, 115, 116, 114, 117, 99, 116, 32, 116, 105, 109, 101, 115, 32, 118, 97, 114, 32, 119, 104, 105, 108, 101]
set_option maxRecDepth 100000 in
theorem keys_fields : Lib.fields keysText = keysL := by kernel_rfl
set_option maxRecDepth 100000 in
theorem keys_rise : Rising ltL keysL := by unfold Rising; decide +kernel
set_option maxRecDepth 100000 in
theorem keys_ok (ht : Tabs H) (h : Sym H0 S H L) (kk : ∀ s H', Fr no H H' → Sym H0 S H' (arr flL 9 1 s keysL :: L) → K (.slice s.a s.n s.c) H') : CallF Tryd.prog 18 #[] H K Z := by
  refine V18_ok ?_
  unfold V18
  have hc : ∀ w : World, w.heap = H → Calls Tryd.prog 53 #[.string (str keysText)] w fun e w' =>
      e = .returned (.slice (some ⟨H.size, 0, none⟩) 32 32) ∧ w' = w.alloc (.cells (flat flL keysL).toArray 9) := by
    intro w hw
    have := Any.strings_Fields_laid S01.lays_fields (str keysText) w (by decide) (by
      intro j b hb
      rw [str_data] at hb
      have hall : keysText.all (fun b => decide (b.toNat < 128)) = true := by kernel_rfl
      rw [List.all_eq_true] at hall
      exact of_decide_eq_true (hall b (List.mem_of_getElem? hb))) (ht w hw)
    rw [str_data, keys_fields, hw] at this
    exact this
  unfold CallF
  intro w hw
  refine (hc w hw).mono ?_
  rintro e w' ⟨rfl, hw'⟩
  have hn := newb_alloc hw hw'
  have hs := h.lit (l := keysL) FlL (by decide) hn (n := 32) rfl
  refine ⟨⟨by rw [hw']; rfl, by rw [hw']; rfl, by rw [hw']; rfl⟩, ⟨some ⟨H.size, 0, none⟩, 32, 32⟩, rfl, kk _ _ hn.fr hs⟩
theorem nan_ok {x : ByteArray} (k : K (.bool false) H) : CallF Tryd.prog 93 #[.string x] H K Z := by
  refine V93_ok ?_
  unfold V93
  rw [beqS_iff.2 rfl]
  exact k
theorem snan_ok {x : ByteArray} (k : K (.bool false) H) : CallF Tryd.prog 77 #[.string x] H K Z := by
  refine V77_ok ?_
  unfold V77
  rw [beqS_iff.2 rfl]
  exact k
theorem less_ok {x y : ByteArray} (k : K (.bool (ltS x y)) H) : CallF Tryd.prog 76 #[.string x, .string y] H K Z := by
  refine V76_ok ?_
  unfold V76
  exact nan_ok ⟨_, rfl, (fun h => by cases h), fun _ => k⟩
theorem bs_ok {s : Sl} {xs : List (List UInt8)} {t : List UInt8} (h : Rd flL 1 H s xs) (hr : Rising ltL xs) (hbig : xs.length ≤ 1000000000000)
    (k : ∀ p : Nat, PartAt xs t p → K (.tuple #[.int .i64 (p : Int), .bool (decide (t ∈ xs))]) H) : CallF Tryd.prog 54 #[.slice s.a s.n s.c, .string (str t)] H K Z := by
  have hb : BinV Tryd.prog 76 77 H s (str t) K Z := binv_ok h hr hbig (fun _ _ _ k => less_ok k) (fun _ _ k => snan_ok k) k
  refine V54_ok ?_
  unfold BinV at hb
  unfold V54
  exact hb
theorem isKey_eq (t : List UInt8) : P09.isKey t = decide (t ∈ keysL) := by
  unfold P09.isKey
  rw [Bool.eq_iff_iff, List.contains_iff_mem, decide_eq_true_iff]
theorem isKey_ok {t : List UInt8} (ht : Tabs H) (k : ∀ H', Fr no H H' → K (.bool (P09.isKey t)) H') : CallF Tryd.prog 21 #[.string (str t)] H K Z := by
  refine V21_ok ?_
  unfold V21
  refine keys_ok ht (Sym.start H) fun s A fA sA => ⟨s, rfl, ?_⟩
  refine bs_ok (sA.rd (k := 0) FlL (by decide) rfl) keys_rise (by decide) fun p _ => ⟨_, _, rfl, ?_⟩
  rw [← isKey_eq]
  exact k A fA
theorem rkeys_ok (h : Sym H0 S H L) (kk : ∀ s H', Fr no H H' → Sym H0 S H' (arr flL 9 1 s keysL :: L) → K (.slice s.a s.n s.c) H') : CallF Tryd.prog 20 #[] H K Z := by
  refine V20_ok ?_
  unfold V20
  intro b A hA
  exact kk ⟨some ⟨b, 0, none⟩, 32, 32⟩ A hA.fr (h.lit (l := keysL) FlL (by decide) hA rfl)
theorem rIsKey_ok {t : List UInt8} (k : ∀ H', Fr no H H' → K (.bool (P09.isKey t)) H') : CallF Tryd.prog 22 #[.string (str t)] H K Z := by
  refine V22_ok ?_
  unfold V22
  refine rkeys_ok (Sym.start H) fun s A fA sA => ⟨s, rfl, ?_⟩
  have hr := sA.rd (k := 0) FlL (by decide) rfl
  have hn := hr.len
  have hk := k A fA
  rw [isKey_eq] at hk
  refine ⟨fun i B m => ∃ j : Nat, B = A ∧ i = (j : Int) ∧ j ≤ keysL.length ∧ m = keysL.length - j ∧ t ∉ keysL.take j, ⟨_, 0, rfl, rfl, Nat.zero_le _, rfl, by simp⟩, ?_⟩
  rintro i B m ⟨j, rfl, rfl, hj, rfl, hno⟩ scr
  refine ⟨fun hlt => ?_, fun hge => ?_⟩
  · have hjl : j < keysL.length := by have := dlt hlt; omega
    have hx : keysL[j]? = some (keysL[j]'hjl) := List.getElem?_eq_getElem hjl
    have htk : keysL.take (j + 1) = keysL.take j ++ [keysL[j]'hjl] := List.take_succ_eq_append_getElem hjl
    generalize keysL[j]'hjl = x at hx htk
    refine hr.ixn FlL hx fun ad had => ⟨_, had, fun he => ?_, fun he => ?_⟩
    · rw [beq_str] at he
      have hxt := of_decide_eq_true he
      rw [decide_eq_true (by rw [← hxt]; exact List.mem_of_getElem? hx)] at hk
      exact hk
    · rw [beq_str] at he
      have hxt := of_decide_eq_false he
      have h32 : keysL.length = 32 := rfl
      refine ⟨keysL.length - (j + 1), by omega, j + 1, rfl, wi (by omega), hjl, rfl, ?_⟩
      rw [htk, List.mem_append, List.mem_singleton]
      rintro (h | h)
      · exact hno h
      · exact hxt h.symm
  · have hjl : keysL.length ≤ j := by have := dge hge; omega
    rw [List.take_of_length_le hjl] at hno
    rw [decide_eq_false hno] at hk
    exact hk
theorem marks_size : ((⟨#[123, 125, 40, 41, 91, 93, 59, 61, 44, 45]⟩ : ByteArray).size : Int) = ((10 : Nat) : Int) := rfl
theorem rmark_ok {c : UInt8} (k : K (.bool (decide (c ∈ marksL))) H) : CallF Tryd.prog 66 #[.int .u8 (c.toNat : Int)] H K Z := by
  refine V66_ok ?_
  unfold V66
  refine ⟨fun i B m => ∃ j : Nat, B = H ∧ i = (j : Int) ∧ j ≤ marksL.length ∧ m = marksL.length - j ∧ c ∉ marksL.take j, ⟨_, 0, rfl, rfl, Nat.zero_le _, rfl, by simp⟩, ?_⟩
  rintro i B m ⟨j, rfl, rfl, hj, rfl, hno⟩ scr
  have h10 : marksL.length = 10 := rfl
  rw [marks_size]
  refine ⟨fun hlt => ?_, fun hge => ?_⟩
  · have hjl : j < marksL.length := by have := dlt hlt; omega
    have hx : marksL[j]? = some (marksL[j]'hjl) := List.getElem?_eq_getElem hjl
    have htk : marksL.take (j + 1) = marksL.take j ++ [marksL[j]'hjl] := List.take_succ_eq_append_getElem hjl
    generalize marksL[j]'hjl = x at hx htk
    refine IxS.mk (l := marksL) hx ⟨fun he => ?_, fun he => ?_⟩
    · have hxc := u8_int.1 he
      rw [decide_eq_true (by rw [← hxc]; exact List.mem_of_getElem? hx)] at k
      exact k
    · refine ⟨marksL.length - (j + 1), by omega, j + 1, rfl, wi (by omega), hjl, rfl, ?_⟩
      rw [htk, List.mem_append, List.mem_singleton]
      rintro (h | h)
      · exact hno h
      · rw [h, beq_self_eq_true] at he; cases he
  · have hjl : marksL.length ≤ j := by have := dge hge; omega
    rw [List.take_of_length_le hjl] at hno
    rw [decide_eq_false hno] at k
    exact k
theorem name_one (c : UInt8) : nameL [c] = isL c := by
  unfold nameL
  show (isL c && (true && ((isL c || isD c) && true))) = isL c
  cases isL c <;> simp
theorem rletter_ok {c : UInt8} (k : ∀ H', Fr no H H' → K (.bool (isL c)) H') : CallF Tryd.prog 67 #[.int .u8 (c.toNat : Int)] H K Z := by
  refine V67_ok ?_
  unfold V67
  intro b A hA
  refine one_ok hA rfl ⟨_, rfl, rname_ok (by simp) ⟨_, rfl, ?_⟩⟩
  rw [name_one]
  exact k A hA.fr
theorem rdigit_ok {c : UInt8} (k : K (.bool (isD c)) H) : CallF Tryd.prog 68 #[.int .u8 (c.toNat : Int)] H K Z := by
  refine V68_ok ?_
  unfold V68
  have hD : ∀ b : Bool, (isD c = b) → K (.bool b) H := fun b hc => by rw [hc] at k; exact k
  refine ⟨fun a1 => hD _ ?_, fun a1 => hD _ ?_⟩
  · have a1' := of_decide_eq_true a1
    unfold isD
    rw [decide_eq_true (by omega), Bool.true_and]
    exact decide_eq_decide.2 (by omega)
  · have a1' := of_decide_eq_false a1
    unfold isD
    rw [decide_eq_false (by omega), Bool.false_and]
theorem rword_ok {t : List UInt8} {b : Bool} (hl : t.length ≤ 1000000000) (h0 : t ≠ []) (k : ∀ H', Fr no H H' → K (.tuple #[.int .i64 (if (wordT t b).2 = 0 then (wordT t b).1 else if hdD t && !b then 3 else 0), .int .i64 (wordT t b).2]) H') : CallF Tryd.prog 69 #[.string (str t), .bool b] H K Z := by
  refine V69_ok ?_
  unfold V69
  obtain ⟨c, r, rfl⟩ : ∃ c r, t = c :: r := by
    cases t with
    | nil => exact absurd rfl h0
    | cons c r => exact ⟨c, r, rfl⟩
  refine IxS.mk (i := 0) rfl (rdigit_ok ⟨_, rfl, fun hd => ⟨fun hb => ?_, fun hb => ?_⟩, fun hd => ?_⟩)
  · have hk := k H (Fr.refl _ _)
    have hd' : hdD (c :: r) = true := hd
    unfold wordT at hk
    rw [hd', hb] at hk
    exact hk
  · have hd' : hdD (c :: r) = true := hd
    refine rread_ok hl ⟨_, _, rfl, ?_⟩
    have hk := k H (Fr.refl _ _)
    unfold wordT at hk
    rw [hd', hb] at hk
    simp only [if_true, Bool.false_eq_true, if_false, Bool.not_false, Bool.and_self] at hk
    split at hk <;> exact hk
  · have hd' : hdD (c :: r) = false := hd
    refine rIsKey_ok fun A fA => ⟨_, rfl, fun hy => ?_, fun hy => rname_ok hl ⟨_, rfl, fun hn => ?_, fun hn => ?_⟩⟩
    · have hk := k A fA
      unfold wordT at hk
      rw [hd', hy] at hk
      exact hk
    · have hk := k A fA
      have hn' : nameL (c :: r) = false := by simpa using hn
      unfold wordT at hk
      rw [hd', hy, hn'] at hk
      exact hk
    · have hk := k A fA
      have hn' : nameL (c :: r) = true := by simpa using hn
      unfold wordT at hk
      rw [hd', hy, hn'] at hk
      exact hk
end
end Go.Proofs.YthaejcmllibeoaaDoor.C09

