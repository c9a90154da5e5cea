/- 'FaultEmpty': what the row says of the program's text. No condition. -/
import Derived.Test.YthfhlbphhmhaiaaGreatRows
import Derived.Test.YthfhlbphhmhaiaaGreatChecked
import Derived.WalkKit
import Derived.ProofKit
namespace Go.Proofs.YthfhlbphhmhaiaaGreat.faultEmpty
set_option maxHeartbeats 4000000 in
theorem closed : joinedFacts Tryz.pinned.checked.prog 3 Tryz.f3 Rows.faultEmptySpec Rows.faultEmptyRow = true := by
  unfold joinedFacts
  simp only [Bool.and_eq_true]
  repeat' apply And.intro
  all_goals (as_aux_lemma => kernel_rfl)
end Go.Proofs.YthfhlbphhmhaiaaGreat.faultEmpty
