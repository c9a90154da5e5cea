/- The types. No condition. -/
import Derived.Test.YtipifpppngfihaaGreatLc
import Derived.Test.YtipifpppngfihaaGreatProg
import Derived.KernelRfl
namespace Go.Proofs.YtipifpppngfihaaGreat.ma
open Go.Ab
noncomputable def TT : Tr TypeInfo := tyTab Tryz.prog.types.toList 0 .nil
noncomputable def CX : Cx := ⟨tyGet TT, eqsOf Tryz.prog⟩
end Go.Proofs.YtipifpppngfihaaGreat.ma
