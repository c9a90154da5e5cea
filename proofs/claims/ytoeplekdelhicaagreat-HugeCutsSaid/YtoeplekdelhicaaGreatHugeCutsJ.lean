/- 'HugeCuts': what the row says of the program's text. No condition. -/
import Derived.Test.YtoeplekdelhicaaGreatRows
import Derived.Test.YtoeplekdelhicaaGreatChecked
import Derived.WalkKit
import Derived.ProofKit
namespace Go.Proofs.YtoeplekdelhicaaGreat.hugeCuts
set_option maxHeartbeats 40000000
set_option maxHeartbeats 4000000 in
theorem closed : joinedFacts Tryz.pinned.checked.prog 3 Tryz.f3 Rows.hugeCutsSpec Rows.hugeCutsRow = true := by
  unfold joinedFacts
  simp only [Bool.and_eq_true]
  repeat' apply And.intro
  all_goals (as_aux_lemma => kernel_rfl)
end Go.Proofs.YtoeplekdelhicaaGreat.hugeCuts
