/- The types. No condition. -/
import Derived.Test.YtoeplekdelhicaaGreatLc
import Derived.Test.YtoeplekdelhicaaGreatProg
import Derived.KernelRfl
namespace Go.Proofs.YtoeplekdelhicaaGreat.ma
open Go.Ab
noncomputable def TT : Tr TypeInfo := tyTab Tryz.prog.types.toList 0 .nil
noncomputable def CX : Cx := ⟨tyGet TT, eqsOf Tryz.prog⟩
end Go.Proofs.YtoeplekdelhicaaGreat.ma
