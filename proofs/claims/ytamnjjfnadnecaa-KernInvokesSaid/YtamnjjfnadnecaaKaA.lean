/- 'awake' returns true; what a run of 'KernInvokes' may be asked at: the cases. No condition. -/
import Derived.Test.YtamnjjfnadnecaaAdD
import Derived.Test.YtamnjjfnadnecaaProg
import Derived.KernelRfl
namespace Go.Proofs.Ytamnjjfnadnecaa.kernInvokes
open Go.Ab
noncomputable def TT : Tr TypeInfo := tyTab Try.prog.types.toList 0 .nil
noncomputable def CX : Cx := ⟨tyGet TT, eqsOf Try.prog⟩
noncomputable def FT : Tr IFn := fnTab CX Try.prog.funcs.toList 0 .nil
theorem follows : Try.prog.follows .mixedOrders = true := by kernel_rfl
theorem names : (Try.prog.funcs.toList.all fun fn => !(fn.name == "runtime.NumGoroutine")) = true := by kernel_rfl
theorem hyp : Hyp Try.prog CX := hyp_of rfl
theorem tabOk : TabOk Try.prog CX FT := tab_of rfl names
theorem awake (w : World) : Calls Try.prog 8 #[] w fun e w' => e = .returned (.bool true) ∧ Kept w w' :=
  law_true hyp follows noOrc_nat (fun _ => noOrc_ok) tabOk 100000 8 [] [] (by decide) .run (by kernel_rfl) #[] rfl w
theorem aw_name : (Try.f8.name == "runtime.NumGoroutine") = false := by kernel_rfl
theorem aw_body : ∃ c, Try.f8.body = some c := ⟨_, rfl⟩
theorem orcOk (σ : Nat → Int) : OrcOk Try.prog CX σ (trueOrc 8) := by
  obtain ⟨c, hc⟩ := aw_body
  exact trueOrc_ok Try.func8 hc aw_name awake
def sh : Sh := [(true, List.replicate 8 (some .i64)), (false, [some .i64])]
def chain : List Nat → Tree
  | [] => .run
  | i :: is => .eq i 0 (chain is) .run
def kinds : Tree := .eq 0 1 (chain [6, 7]) (.eq 0 2 (chain [3, 4, 5, 6, 7]) (.eq 0 3 (chain [4, 5, 6, 7]) (.eq 0 4 (chain [3, 6, 7])
  (.eq 0 5 (.lt 6 0 .run (.lt 6 262144 (.lt 7 0 (chain [1, 2, 3, 4, 5]) (.eq 7 0 (chain [1, 2, 3, 4, 5]) (.lt 7 256 (chain [1, 2, 3, 4, 5]) (chain [1, 2, 3, 4, 5])))) .run))
  (.eq 0 6 (.lt 6 0 .run (.lt 6 262144 (.lt 7 0 .run (.lt 7 256 (chain [1, 2, 3, 4, 5]) .run)) .run)) .run)))))
noncomputable def lf : List Dm → Bool := leaf (trueOrc 8) FT 100000 3 sh [(false, 64), (true, 64)]
noncomputable def d0 : List Dm := (sh.flatMap (·.2)).map dom0
theorem low : evalT lf .run (hiD 8 0 d0) = true := by kernel_rfl
theorem high : evalT lf .run (loD 8 3 (loD 8 2 (loD 8 1 (loD 8 0 d0)))) = true := by kernel_rfl
end Go.Proofs.Ytamnjjfnadnecaa.kernInvokes
