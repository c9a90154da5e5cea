/- 'basinlaw28.QuietFairs' returns true at every argument, and each argument reads behind the call as it read before. No condition. -/
import Derived.Test.YtjgflopikppagaaGreatQFj
import Derived.Test.YtjgflopikppagaaGreatQJ
import Derived.WalkKit
import Derived.ProofKit
namespace Go.Proofs.YtjgflopikppagaaGreat.quietFairs
open Go.RowKit
theorem over : Rows.quietFairsRow.holds Tryz.pinned (OpenSpec.ofChange Rows.quietFairsSpec) :=
  OpenClaim.holds_of_wide 3 Tryz.f3 rfl rfl rfl rfl rfl rfl rfl ⟨rfl, rfl, rfl, rfl, rfl⟩ rfl rfl rfl rfl rfl (by kernel_rfl) Tryz.func3 closed
    (of_decide_eq_true (by kernel_rfl)) (by unfold Func.isWrapper; first | (rw [if_pos (by decide +kernel)]; kernel_rfl) | (rw [if_neg (by decide +kernel)]; exact ⟨rfl, rfl⟩))
    (fun os started H enc _ => lifted os started H enc)

/-- THE STATEMENT -/
theorem proved : Rows.QuietFairsSaid :=
  over
#print axioms proved
end Go.Proofs.YtjgflopikppagaaGreat.quietFairs
