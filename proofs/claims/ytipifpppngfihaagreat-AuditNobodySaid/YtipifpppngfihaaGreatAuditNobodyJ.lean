/- 'AuditNobody': what the row says of the program's text. No condition. -/
import Derived.Test.YtipifpppngfihaaGreatRows
import Derived.Test.YtipifpppngfihaaGreatChecked
import Derived.WalkKit
import Derived.ProofKit
namespace Go.Proofs.YtipifpppngfihaaGreat.auditNobody
set_option maxHeartbeats 40000000
set_option maxHeartbeats 4000000 in
theorem closed : joinedFacts Tryz.pinned.checked.prog 3 Tryz.f3 Rows.auditNobodySpec Rows.auditNobodyRow = true := by
  unfold joinedFacts
  simp only [Bool.and_eq_true]
  repeat' apply And.intro
  all_goals (as_aux_lemma => kernel_rfl)
end Go.Proofs.YtipifpppngfihaaGreat.auditNobody
