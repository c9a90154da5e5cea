/- 'MoveWaits': what the row says of the program's text. No condition. -/
import Derived.Test.YthjamfniihejcaaGreatRows
import Derived.Test.YthjamfniihejcaaGreatChecked
import Derived.WalkKit
import Derived.ProofKit
namespace Go.Proofs.YthjamfniihejcaaGreat.moveWaits
set_option maxHeartbeats 4000000 in
theorem closed : joinedFacts Tryz.pinned.checked.prog 4 Tryz.f4 Rows.moveWaitsSpec Rows.moveWaitsRow = true := by
  unfold joinedFacts
  simp only [Bool.and_eq_true]
  repeat' apply And.intro
  all_goals (as_aux_lemma => kernel_rfl)
end Go.Proofs.YthjamfniihejcaaGreat.moveWaits
