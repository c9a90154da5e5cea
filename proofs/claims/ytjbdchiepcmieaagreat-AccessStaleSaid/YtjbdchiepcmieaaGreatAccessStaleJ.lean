/- 'AccessStale': what the row says of the program's text. No condition. -/
import Derived.Test.YtjbdchiepcmieaaGreatRows
import Derived.Test.YtjbdchiepcmieaaGreatChecked
import Derived.WalkKit
import Derived.ProofKit
namespace Go.Proofs.YtjbdchiepcmieaaGreat.accessStale
set_option maxHeartbeats 4000000 in
theorem closed : joinedFacts Tryz.pinned.checked.prog 4 Tryz.f4 Rows.accessStaleSpec Rows.accessStaleRow = true := by
  unfold joinedFacts
  simp only [Bool.and_eq_true]
  repeat' apply And.intro
  all_goals (as_aux_lemma => kernel_rfl)
end Go.Proofs.YtjbdchiepcmieaaGreat.accessStale
