/- 'basinlaw16.KernInvokes' returns true at every call and every core, and each argument reads behind the call as it read before. No condition. -/
import Derived.Test.YtamnjjfnadnecaaRows
import Derived.Test.YtamnjjfnadnecaaKaB0
import Derived.Test.YtamnjjfnadnecaaKaB1
import Derived.Test.YtamnjjfnadnecaaKaB2
import Derived.WalkKit
import Derived.ProofKit
import Derived.OpenShut
namespace Go.Proofs.Ytamnjjfnadnecaa.kernInvokes
open Go.ChangeShapes Go.WideShapes Go.ChangeAt Go.RowKit Go.Ab

theorem own : ownKnob Try.prog.godebug = none := by kernel_rfl

def tree : Tree := .lt 8 0 .run (.lt 8 1 kinds (.lt 8 2 kinds (.lt 8 3 kinds .run)))
theorem runs : evalT lf tree d0 = true := evalT_lt low (evalT_lt core0 (evalT_lt core1 (evalT_lt core2 high)))
theorem walk (vs : Array Value) (h : ArgsOk sh vs.toList) (w : World) : Calls Try.prog 3 vs w fun e w' => e = .returned (.bool true) ∧ Kept w w' :=
  law_true hyp follows (trueOrc_nat 8) orcOk tabOk 100000 3 sh [(false, 64), (true, 64)] (by decide) tree runs vs h w
theorem k25 : kindsT Try.prog 5 25 = some (List.replicate 8 (some .i64)) := by kernel_rfl

set_option maxRecDepth 100000 in
theorem lifted (os : Os) (started : os.Started) (H : Type) (enc : TypeId × Value → H) :
    ReturnsInHanded {} Try.checked os 3 .any (Rows.kernInvokesSpec.pre6 enc Try.prog Try.f3 Rows.kernInvokesRow.domain false) (Rows.kernInvokesSpec.post enc Try.prog Try.f3 false true false false) := by
  refine returnsInHanded_of_change (C := Try.checked) own started (by kernel_rfl) Try.func3
    (ChangeSpec.witness6 (enc := enc) (C := Try.checked) false ⟨#[], #[.agg (Array.replicate 8 (.int .i64 0)), .int .i64 0], []⟩ 8 (by kernel_rfl) (by kernel_rfl) (by kernel_rfl) (by kernel_rfl)) ?_
  intro W base args ds gs before hval0 hW hcnd _
  have hval : ∀ (j : Nat) t v, Try.f3.params[j]? = some t → args[j]? = some v → Value.okWide Try.prog W .any base t v := hval0
  have hW' := hW
  obtain ⟨p, q, hA0, hV, rfl, hfz, hnd⟩ := hW
  have hA : DataW.TrodAll enc Try.prog W 0 (fun _ => true) true Try.f3.params.toList args.toList ds p := hA0
  rw [Try.params3] at hA hval
  obtain ⟨v0, vs0, d0, ds0, p0, q0, hargs, rfl, rfl, h0, r0⟩ := trodAll_cons hA
  obtain ⟨v1, vs1, d1, ds1, p1, q1, rfl, rfl, rfl, h1, r1⟩ := trodAll_cons r0
  obtain ⟨rfl, rfl, rfl⟩ := trodAll_nil r1
  obtain rfl : args = #[v0, v1] := by cases args; simp_all
  obtain ⟨rfl, rfl⟩ := trodVars_none hV
  obtain ⟨cs, rfl, hsz⟩ := okWide_struct Try.underlying25 (hval 0 25 v0 rfl rfl)
  obtain ⟨rfl, c0, s0⟩ := arg_plain k25 h0
  obtain ⟨a1, rfl, rfl, rfl, w1⟩ := open_int Try.underlying3 (hval 1 3 v1 rfl rfl) h1
  clear hA0 hval0
  simp only [List.append_nil] at hW'
  have hok : ArgsOk sh (#[Value.agg cs, .int .i64 a1] : Array Value).toList := ⟨_, _, rfl, ⟨cs, rfl, c0⟩, _, _, rfl, ⟨_, [], rfl, ⟨a1, rfl, w1⟩, rfl⟩, rfl⟩
  refine (walk _ hok W).mono fun e W' ⟨he, hg⟩ => ?_
  subst he
  refine ⟨_, rfl, _, _, _, [], [], [], hW', trodAll_cons_mk (shut_bool Try.underlying4 _) trodAll_mk0, trodAll_cons_mk (s0 _ _ _ _) (trodAll_cons_mk (shut_int Try.underlying3 w1) trodAll_mk0), rfl, kept_of hg.1 hg.2.1 hg.2.2.2 _, fun h => (by cases h)⟩

theorem over : Rows.kernInvokesRow.holds Try.pinned (OpenSpec.ofChange Rows.kernInvokesSpec) :=
  OpenClaim.holds_of_wide 3 Try.f3 rfl rfl rfl rfl rfl rfl rfl ⟨rfl, rfl, rfl, rfl, rfl⟩ rfl rfl rfl rfl rfl (by kernel_rfl) Try.func3 (by kernel_rfl)
    (of_decide_eq_true (by kernel_rfl)) (by unfold Func.isWrapper; first | (rw [if_pos (by decide +kernel)]; kernel_rfl) | (rw [if_neg (by decide +kernel)]; exact ⟨rfl, rfl⟩))
    (fun os started H enc _ => lifted os started H enc)

/-- THE STATEMENT -/
theorem proved : Rows.KernInvokesSaid :=
  over
#print axioms proved
end Go.Proofs.Ytamnjjfnadnecaa.kernInvokes
