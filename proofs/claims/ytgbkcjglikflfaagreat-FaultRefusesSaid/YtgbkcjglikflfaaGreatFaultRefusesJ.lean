/- 'FaultRefuses': what the row says of the program's text. No condition. -/
import Derived.Test.YtgbkcjglikflfaaGreatRows
import Derived.Test.YtgbkcjglikflfaaGreatChecked
import Derived.WalkKit
import Derived.ProofKit
namespace Go.Proofs.YtgbkcjglikflfaaGreat.faultRefuses
set_option maxHeartbeats 40000000
set_option maxHeartbeats 4000000 in
theorem closed : joinedFacts Tryz.pinned.checked.prog 3 Tryz.f3 Rows.faultRefusesSpec Rows.faultRefusesRow = true := by
  unfold joinedFacts
  simp only [Bool.and_eq_true]
  repeat' apply And.intro
  all_goals (as_aux_lemma => kernel_rfl)
end Go.Proofs.YtgbkcjglikflfaaGreat.faultRefuses
