/- 'awake' returns true; 'ReplicaNobody': the tables; what a run may be asked at: the cases. No condition. -/
import Derived.Test.YtnhakkolafedhaaGreatAdD
import Derived.Test.YtnhakkolafedhaaGreatProg
import Derived.KernelRfl
namespace Go.Proofs.YtnhakkolafedhaaGreat.replicaNobody
open Go.Ab
noncomputable def TT : Tr TypeInfo := tyTab Tryz.prog.types.toList 0 .nil
noncomputable def CX : Cx := ⟨tyGet TT, eqsOf Tryz.prog⟩
noncomputable def FT : Tr IFn := fnTab CX Tryz.prog.funcs.toList 0 .nil
theorem follows : Tryz.prog.follows .mixedOrders = true := by kernel_rfl
theorem names : (Tryz.prog.funcs.toList.all fun fn => !(fn.name == "runtime.NumGoroutine")) = true := by kernel_rfl
theorem hyp : Hyp Tryz.prog CX := hyp_of rfl
theorem tabOk : TabOk Tryz.prog CX FT := tab_of rfl names
theorem awake (w : World) : Calls Tryz.prog 16 #[] w fun e w' => e = .returned (.bool true) ∧ Kept w w' :=
  law_true hyp follows noOrc_nat (fun _ => noOrc_ok) tabOk 100000 16 [] [] (by decide) .run (by kernel_rfl) #[] rfl w
theorem aw_name : (Tryz.f16.name == "runtime.NumGoroutine") = false := by kernel_rfl
theorem aw_body : ∃ c, Tryz.f16.body = some c := ⟨_, rfl⟩
theorem orcOk (σ : Nat → Int) : OrcOk Tryz.prog CX σ (trueOrc 16) := by
  obtain ⟨c, hc⟩ := aw_body
  exact trueOrc_ok Tryz.func16 hc aw_name awake
def sh : Sh := [(true, [some .i64, some .i64, some .i64, some .i64, some .i64, some .i64, some .i64, some .i64, some .i64])]
noncomputable def lf : List Dm → Bool := leaf (trueOrc 16) FT 100000 3 sh []
noncomputable def d0 : List Dm := (sh.flatMap (·.2)).map dom0
end Go.Proofs.YtnhakkolafedhaaGreat.replicaNobody
