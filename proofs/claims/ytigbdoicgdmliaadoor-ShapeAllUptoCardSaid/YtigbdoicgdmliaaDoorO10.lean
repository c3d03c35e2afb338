/- The shape laws over opened arguments. -/
import Derived.Test.YtigbdoicgdmliaaDoorOpT
import Derived.Test.YtigbdoicgdmliaaDoorL10
set_option linter.unusedVariables false
set_option linter.unusedSimpArgs false
-- lawTexts: 5
-- lawAll: 6
namespace Go.Proofs.YtigbdoicgdmliaaDoor.O10
open Go Go.V Go.Proofs Go.Proofs.YtigbdoicgdmliaaDoor.L10 Go.Proofs.YtigbdoicgdmliaaDoor.P10
section
variable {H : Hp} {K : Value → Hp → Prop} {Z : List PanicEntry → Hp → Prop} {s : Sl} {l : List StD} {a : HT}
abbrev Ty (H : Hp) (a : HT) : Prop := ∃ t, InT H a t ∧ OkT t
abbrev Sts (H : Hp) (s : Sl) (l : List StD) : Prop := RdS H s l ∧ OkL l
theorem texts2 (ha : Ty H a) (hp : TabH Tryd.prog H "internal/strconv.uint64pow10" .u64 Lib.pow10Tab) (k : ∀ H', Fr no H H' → K (.bool true) H') : CallF Tryd.prog 5 #[tyV a] H K Z := by
  obtain ⟨t, h1, h2⟩ := ha
  exact lawTexts_ok h1 h2 hp k
theorem all2 (hs : Sts H s l) (ha : Ty H a) (hp : TabH Tryd.prog H "internal/strconv.uint64pow10" .u64 Lib.pow10Tab) (k : ∀ H', Fr no H H' → K (.bool true) H') : CallF Tryd.prog 6 #[.slice s.a s.n s.c, tyV a] H K Z := by
  obtain ⟨t, h1, h2⟩ := ha
  exact lawAll_ok hs.1 hs.2 h1 h2 hp k
end
end Go.Proofs.YtigbdoicgdmliaaDoor.O10

