/- The tables; where the runs of 'made' begin. No condition. -/
import Derived.Test.YthjamfniihejcaaGreatLc
import Derived.Test.YthjamfniihejcaaGreatProg
import Derived.KernelRfl
namespace Go.Proofs.YthjamfniihejcaaGreat.ma
open Go.Ab
noncomputable def TT : Tr TypeInfo := tyTab Tryz.prog.types.toList 0 .nil
noncomputable def CX : Cx := ⟨tyGet TT, eqsOf Tryz.prog⟩
noncomputable def FT : Tr IFn := fnTab CX Tryz.prog.funcs.toList 0 .nil
theorem follows : Tryz.prog.follows .mixedOrders = true := by kernel_rfl
theorem names : (Tryz.prog.funcs.toList.all fun fn => !(fn.name == "runtime.NumGoroutine")) = true := by kernel_rfl
theorem hyp : Hyp Tryz.prog CX := hyp_of rfl
theorem tabOk : TabOk Tryz.prog CX FT := tab_of rfl names
noncomputable def innP (f : Nat) : Bool := Nat.beq f 19 || Nat.beq f 43 || Nat.beq f 92 || Nat.beq f 124 || Nat.beq f 159
noncomputable def aP : List V := [.agg [zi 2, zi 2, zi 32, zi 8, zi 4, .bool false]]
noncomputable def sP0 : St1 := Go.Ab.begin 6 100000 aP (.mk (Pos.of 8) .nil)
noncomputable def innQ (f : Nat) : Bool := Nat.beq f 19 || Nat.beq f 43 || Nat.beq f 92 || Nat.beq f 124 || Nat.beq f 159
noncomputable def aQ : List V := [.agg [zi 2, zi 2, zi 8, zi 8, zi 4, .bool false]]
noncomputable def sQ0 : St1 := Go.Ab.begin 6 100000 aQ (.mk (Pos.of 8) .nil)
end Go.Proofs.YthjamfniihejcaaGreat.ma
