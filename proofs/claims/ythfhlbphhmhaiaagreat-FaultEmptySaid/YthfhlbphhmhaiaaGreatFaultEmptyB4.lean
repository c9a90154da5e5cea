/- 'FaultEmpty' returns true at these cases: runs by the kernel. No condition. -/
import Derived.Test.YthfhlbphhmhaiaaGreatFaultEmptyA
import Derived.KernelRfl
namespace Go.Proofs.YthfhlbphhmhaiaaGreat.faultEmpty
open Go.Ab Go.Proofs.YthfhlbphhmhaiaaGreat.ma
theorem pB0 : fB 0 = true := by kernel_rfl
theorem pB1 : fB 1 = true := by kernel_rfl
theorem pB2 : fB 2 = true := by kernel_rfl
theorem pB3 : fB 3 = true := by kernel_rfl
end Go.Proofs.YthfhlbphhmhaiaaGreat.faultEmpty
