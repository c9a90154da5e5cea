/- 'CopiesBreak': what the row says of the program's text. No condition. -/
import Derived.Test.YtffdgboijdbomaaGreatRows
import Derived.Test.YtffdgboijdbomaaGreatChecked
import Derived.WalkKit
import Derived.ProofKit
namespace Go.Proofs.YtffdgboijdbomaaGreat.copiesBreak
set_option maxHeartbeats 4000000 in
theorem closed : joinedFacts Tryz.pinned.checked.prog 4 Tryz.f4 Rows.copiesBreakSpec Rows.copiesBreakRow = true := by
  unfold joinedFacts
  simp only [Bool.and_eq_true]
  repeat' apply And.intro
  all_goals (as_aux_lemma => kernel_rfl)
end Go.Proofs.YtffdgboijdbomaaGreat.copiesBreak
