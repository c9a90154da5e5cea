/- The types. No condition. -/
import Derived.Test.YtffdgboijdbomaaGreatLc
import Derived.Test.YtffdgboijdbomaaGreatProg
import Derived.KernelRfl
namespace Go.Proofs.YtffdgboijdbomaaGreat.ma
open Go.Ab
noncomputable def TT : Tr TypeInfo := tyTab Tryz.prog.types.toList 0 .nil
noncomputable def CX : Cx := ⟨tyGet TT, eqsOf Tryz.prog⟩
end Go.Proofs.YtffdgboijdbomaaGreat.ma
