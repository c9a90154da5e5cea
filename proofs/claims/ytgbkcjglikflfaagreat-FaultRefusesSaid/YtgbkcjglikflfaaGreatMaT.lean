/- The types. No condition. -/
import Derived.Test.YtgbkcjglikflfaaGreatLc
import Derived.Test.YtgbkcjglikflfaaGreatProg
import Derived.KernelRfl
namespace Go.Proofs.YtgbkcjglikflfaaGreat.ma
open Go.Ab
noncomputable def TT : Tr TypeInfo := tyTab Tryz.prog.types.toList 0 .nil
noncomputable def CX : Cx := ⟨tyGet TT, eqsOf Tryz.prog⟩
end Go.Proofs.YtgbkcjglikflfaaGreat.ma
