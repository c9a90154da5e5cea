/- 'QuietNobody': what the row says of the program's text. No condition. -/
import Derived.Test.YtnhakkolafedhaaGreatRows
import Derived.Test.YtnhakkolafedhaaGreatChecked
import Derived.WalkKit
import Derived.ProofKit
namespace Go.Proofs.YtnhakkolafedhaaGreat.quietNobody
set_option maxHeartbeats 4000000 in
theorem closed : joinedFacts Tryz.pinned.checked.prog 7 Tryz.f7 Rows.quietNobodySpec Rows.quietNobodyRow = true := by
  unfold joinedFacts
  simp only [Bool.and_eq_true]
  repeat' apply And.intro
  all_goals (as_aux_lemma => kernel_rfl)
end Go.Proofs.YtnhakkolafedhaaGreat.quietNobody
