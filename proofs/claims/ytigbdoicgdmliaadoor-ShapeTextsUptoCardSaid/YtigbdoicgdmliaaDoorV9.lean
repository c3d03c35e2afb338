/- Bytes as cells, bytes to strings and back, of no program. -/
import Derived.Test.YtigbdoicgdmliaaDoorV8
set_option linter.unusedVariables false
set_option linter.unusedSimpArgs false
namespace Go.V
def bv (l : List UInt8) : List Value := l.map fun b => .int .u8 (b.toNat : Int)
theorem bv_append (l m : List UInt8) : bv (l ++ m) = bv l ++ bv m := by simp [bv]
theorem bv_length (l : List UInt8) : (bv l).length = l.length := by simp [bv]
theorem bv_one (l : List UInt8) : ∀ v ∈ bv l, v.oneCell = true := by
  intro v hv
  obtain ⟨b, _, rfl⟩ := List.mem_map.1 hv
  rfl

theorem Src.str {H : Hp} (t : ByteArray) : Src H 1 (.string t) t.size (bv t.data.toList) := by
  refine ⟨?_, rfl, rfl, rfl⟩
  rw [bv_length]
  simp
theorem loadBytes_ok {P : Program} {Z : Value → Hp → Prop} : ∀ (l : List UInt8) (a : Addr) (acc : ByteArray) {H : Hp} {K : ByteArray → Hp → Prop}, (∀ j x, l[j]? = some x → hcell H (a.add j) = some (.int .u8 x.toNat)) →
    K ⟨acc.data ++ l.toArray⟩ H → hrun P (loadBytes a acc l.length) H K Z
  | [], a, acc, H, K, _, k => by
    unfold hrun
    simpa [loadBytes, pure] using k
  | x :: l, a, acc, H, K, h, k => by
    have h0 : hcell H a = some (.int .u8 x.toNat) := by
      have := h 0 x rfl
      simpa [Addr.add] using this
    have hx : ((x.toNat : Int).toNat).toUInt8 = x := by simp
    simp only [List.length_cons, loadBytes]
    refine hrun_bind _ ?_
    unfold load hrun
    refine ⟨_, h0, ?_⟩
    unfold hrun
    simp only [hx]
    refine loadBytes_ok l (a.add 1) (acc.push x) (fun j y hy => ?_) ?_
    · have := h (j + 1) y (by simpa using hy)
      have e : (a.add 1).add j = a.add (j + 1) := by
        unfold Addr.add
        by_cases hj : j = 0
        · subst hj; simp
        · simp [hj]; omega
      rw [e]; exact this
    · have e : (⟨(acc.push x).data ++ l.toArray⟩ : ByteArray) = ⟨acc.data ++ (x :: l).toArray⟩ := by
        apply ByteArray.ext
        simp [ByteArray.push]
      rw [e]
      exact k

theorem info_of {x : Option TypeInfo} {z : Option Value} {a b : Nat} (h : (x.map fun i => (i.zero, i.size, i.bytes)) = some (z, a, b)) : ∃ inf : TypeInfo, x = some inf ∧ inf.zero = z ∧ inf.size = a ∧ inf.bytes = b := by
  cases x with
  | none => cases h
  | some i =>
    simp only [Option.map_some, Option.some.injEq, Prod.mk.injEq] at h
    exact ⟨i, rfl, h.1, h.2.1, h.2.2⟩

theorem forIn_bytes {P : Program} {Z : Value → Hp → Prop} (f : Value → ByteArray → Sem (ForInStep ByteArray)) (hf : ∀ (b : UInt8) (r : ByteArray), f (.int .u8 (b.toNat : Int)) r = Sem.pure (.yield (r.push b))) :
    ∀ (l : List UInt8) (s : ByteArray) {H : Hp} {K : ByteArray → Hp → Prop}, K ⟨s.data ++ l.toArray⟩ H → hrun P (forIn (bv l) s f) H K Z
  | [], s, H, K, k => by
    simpa [bv, pure, hrun] using k
  | b :: l, s, H, K, k => by
    simp only [bv, List.map_cons, List.forIn_cons]
    refine hrun_bind _ ?_
    rw [hf]
    simp only [hrun]
    refine forIn_bytes f hf l (s.push b) ?_
    have e : (⟨(s.push b).data ++ l.toArray⟩ : ByteArray) = ⟨s.data ++ (b :: l).toArray⟩ := by
      apply ByteArray.ext
      simp [ByteArray.push]
    rw [e]
    exact k
theorem bytesStr_ok {P : Program} {src dst e : TypeId} (hs : P.underlying src = some (.slice e)) (he : P.underlying e = some (.int .u8)) (hd : P.underlying dst = some .string)
    {H : Hp} {a : Option Addr} {n c : Nat} {xs : List UInt8} {K : Value → Hp → Prop} (h : Src H 1 (.slice a n c) n (bv xs)) (k : K (.string ⟨xs.toArray⟩) H) : Cvt P src dst H (.slice a n c) K := by
  unfold Cvt convert
  refine hrun_pv (pv_underlying hs) ?_
  refine hrun_pv (pv_underlying hd) ?_
  simp only
  refine hrun_pv (pv_underlying he) ?_
  simp only [Conv.bytesToString]
  obtain ⟨hl, h⟩ := h
  rw [bv_length, Nat.mul_one] at hl
  cases a with
  | none =>
    have h0 : n = 0 := h.2
    have : xs = [] := List.eq_nil_of_length_eq_zero (by omega)
    subst this
    exact k
  | some ad =>
    simp only at h
    refine hrun_bind _ ?_
    have := hrun_loadCells (P := P) (Z := fun _ _ => False) (bv xs) 0 #[] h.2 (K := fun v A => A = H ∧ v = (bv xs).toArray) ⟨rfl, by simp⟩
    rw [bv_length, hl] at this
    refine hrun.mono _ this ?_ fun _ _ h => h
    rintro v A ⟨rfl, rfl⟩
    rw [List.forIn_toArray]
    refine hrun_bind _ (forIn_bytes _ ?_ xs ByteArray.empty ?_)
    · intro b r
      simp [Sem.bind, pure]
    · have e : (ByteArray.empty.data ++ xs.toArray) = xs.toArray := by
        rw [show ByteArray.empty.data = #[] from rfl]
        simp
      rw [e]
      exact k
/-! ### cells of blocks that stay -/
theorem hcell_lt {H : Hp} {a : Addr} {v : Value} (h : hcell H a = some v) : a.block < H.size := by
  unfold hcell at h
  cases hb : H[a.block]? with
  | none => rw [hb] at h; cases h
  | some o => exact lt_of_some hb
theorem hcell_eq {H H' : Hp} {a : Addr} (h : H'[a.block]? = H[a.block]?) : hcell H' a = hcell H a := by
  unfold hcell
  rw [h]
theorem Fr.cell {S : Nat → Prop} {H H' : Hp} (hf : Fr S H H') {a : Addr} {v : Value} (h : hcell H a = some v) (hs : ¬ S a.block) : hcell H' a = some v :=
  (hcell_eq (hf.keep _ (hcell_lt h) hs)).trans h
theorem add_block (a : Addr) (k : Nat) : (a.add k).block = a.block := by
  unfold Addr.add
  split <;> rfl
theorem add_zero' (a : Addr) : a.add 0 = a := by
  unfold Addr.add
  simp
theorem strBytes_ok {P : Program} {src dst e : TypeId} {d : TypeDesc} (hs : P.underlying src = some d) (hd : P.underlying dst = some (.slice e)) (he : P.underlying e = some (.int .u8))
    {H : Hp} {s : ByteArray} {K : Value → Hp → Prop} (k : ∀ (sl : Sl) (H' : Hp), sl.n = s.size → (∀ i x, s.data.toList[i]? = some x → ∃ ad, sl.a = some ad ∧ hcell H' (ad.add (i * 1)) = some (.int .u8 (x.toNat : Int))) → Fr no H H' → K (.slice sl.a sl.n sl.c) H') :
    Cvt P src dst H (.string s) K := by
  unfold Cvt convert
  refine hrun_pv (pv_underlying hs) ?_
  refine hrun_pv (pv_underlying hd) ?_
  refine hrun_pv (pv_underlying he) ?_
  simp only [Conv.stringToBytes, choose, newRow, newObj, markStringish, shape, freeze, bind, Sem.bind, pure, hrun, Question.forced, Bool.false_eq_true, if_false]
  intro t b A hn
  generalize hz : Array.replicate ((Question.appendCap s.size 0 e).cut t - s.size) (Value.int IntKind.u8 0) = z at hn
  have hsh : ∃ n, hshape A b = some (e, n) ∧ s.size ≤ n := by
    refine ⟨_, by unfold hshape; rw [hn.get], ?_⟩
    simp
  obtain ⟨n, hsh, hle⟩ := hsh
  simp only [hsh, hrun]
  have hfz : Fr no H (hfreeze A ⟨b, n, none⟩ 1) ∧ ∃ fr, (hfreeze A ⟨b, n, none⟩ 1)[b]? = some (.cells ((s.data.map fun b => Value.int .u8 b.toNat) ++ z) e fr) := by
    have hb := hn.eq
    refine ⟨⟨?_, fun i hi _ => ?_⟩, ?_⟩
    · have := hn.size
      simp [hfreeze]
      omega
    · rw [← hn.fr.keep i hi fun h => h]
      unfold hfreeze
      rw [if_neg (by omega), Array.getElem?_modify, if_neg (by show ¬ b = i; omega)]
    · unfold hfreeze
      rw [if_neg (by omega), Array.getElem?_modify]
      have := hn.get
      simp only [this, if_true, Option.map_some]
      exact ⟨_, rfl⟩
  obtain ⟨hf, fr, hg⟩ := hfz
  refine k ⟨some ⟨b, 0, none⟩, s.size, _⟩ _ rfl ?_ hf
  intro i x hx
  refine ⟨_, rfl, ?_⟩
  rw [add_mk]
  unfold hcell
  simp only [hg, Option.isSome_none, Bool.false_eq_true, if_false, Nat.zero_add, Nat.mul_one]
  have hi : i < s.data.size := by
    have := (List.getElem?_eq_some_iff.1 hx).1
    simpa using this
  rw [Array.getElem?_append_left (by simpa using hi), Array.getElem?_map]
  have : s.data[i]? = some x := by simpa using hx
  rw [this]
  rfl

theorem callV_mono {P : Program} {v : Value} {args : List Value} {H : Hp} {K K' : Value → Hp → Prop} {Z Z' : List PanicEntry → Hp → Prop}
    (h : callV P v args H K Z) (hk : ∀ v H', K v H' → K' v H') (hz : ∀ v H', Z v H' → Z' v H') : callV P v args H K' Z' := by
  unfold callV at h ⊢
  split at h
  · split at h
    · rename_i h1; rw [if_pos h1]; exact h.mono hk hz
    · rename_i h1
      rw [if_neg h1]
      unfold ExtF at h ⊢
      refine hrun.mono _ h ?_ fun _ _ h => h
      intro nx A hA
      cases nx <;> first | exact hk _ _ hA | exact hA
  · obtain ⟨r, h1, h2, h3⟩ := h
    exact ⟨r, h1, h2, h3.mono hk⟩
  · exact h.elim
end Go.V

