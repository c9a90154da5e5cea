/- 'QuietFairs': what the row says of the program's text. No condition. -/
import Derived.Test.YtjgflopikppagaaGreatRows
import Derived.Test.YtjgflopikppagaaGreatChecked
import Derived.WalkKit
import Derived.ProofKit
namespace Go.Proofs.YtjgflopikppagaaGreat.quietFairs
set_option maxHeartbeats 4000000 in
theorem closed : joinedFacts Tryz.pinned.checked.prog 3 Tryz.f3 Rows.quietFairsSpec Rows.quietFairsRow = true := by
  unfold joinedFacts
  simp only [Bool.and_eq_true]
  repeat' apply And.intro
  all_goals (as_aux_lemma => kernel_rfl)
end Go.Proofs.YtjgflopikppagaaGreat.quietFairs
