/- 'basin.KernNobody' returns true at every argument, and each argument reads behind the call as it read before. No condition. -/
import Derived.Test.YtnhakkolafedhaaGreatRows
import Derived.Test.YtnhakkolafedhaaGreatKernNobodyB0
import Derived.Test.YtnhakkolafedhaaGreatKernNobodyB1
import Derived.Test.YtnhakkolafedhaaGreatKernNobodyJ
import Derived.WalkKit
import Derived.ProofKit
import Derived.OpenShut
namespace Go.Proofs.YtnhakkolafedhaaGreat.kernNobody
open Go.ChangeShapes Go.WideShapes Go.ChangeAt Go.RowKit Go.Ab

theorem own : ownKnob Tryz.prog.godebug = none := by kernel_rfl

def tree : Tree := .lt 25 1 xx xx
theorem runs : evalT lf tree d0 = true := evalT_lt all0 all1
theorem walk (vs : Array Value) (h : ArgsOk sh vs.toList) (w : World) : Calls Tryz.prog 4 vs w fun e w' => e = .returned (.bool true) ∧ Kept w w' :=
  law_true hyp follows (trueOrc_nat 39) orcOk tabOk 100000 4 sh [] (by decide) tree runs vs h w
theorem k0 : kindsT Tryz.prog 9 59 = some [some .i64, some .i64, some .i64, some .i64, some .i64, some .i64, some .i64, some .i64, some .i64, some .i64, some .i64, some .i64, some .i64, some .i64, some .i64, some .i64, some .i64, some .i64, some .i64, some .i64, some .i64, some .i64, some .i64, some .i64, some .i64, none, some .i64, some .i64, some .i64, some .i64, some .i64, some .i64, some .i64, none, some .i64, some .i64, some .i64, some .i64, some .i64, some .i64, none] := by kernel_rfl

set_option maxRecDepth 100000 in
theorem lifted (os : Os) (started : os.Started) (H : Type) (enc : TypeId × Value → H) :
    ReturnsInHanded {} Tryz.checked os 4 .any (Rows.kernNobodySpec.pre6 enc Tryz.prog Tryz.f4 Rows.kernNobodyRow.domain false) (Rows.kernNobodySpec.post enc Tryz.prog Tryz.f4 false true false false) := by
  refine returnsInHanded_of_change (C := Tryz.checked) own started (by kernel_rfl) Tryz.func4
    (ChangeSpec.witness6 (enc := enc) (C := Tryz.checked) false ⟨#[], #[.agg #[.int .i64 0, .int .i64 0, .int .i64 0, .int .i64 0, .int .i64 0, .int .i64 0, .int .i64 0, .int .i64 0, .int .i64 0, .int .i64 0, .int .i64 0, .int .i64 0, .int .i64 0, .int .i64 0, .int .i64 0, .int .i64 0, .int .i64 0, .int .i64 0, .int .i64 0, .int .i64 0, .int .i64 0, .int .i64 0, .int .i64 0, .int .i64 0, .int .i64 0, .bool false, .int .i64 0, .int .i64 0, .int .i64 0, .int .i64 0, .int .i64 0, .int .i64 0, .int .i64 0, .bool false, .int .i64 0, .int .i64 0, .int .i64 0, .int .i64 0, .int .i64 0, .int .i64 0, .bool false]], []⟩ 8 (by kernel_rfl) (by kernel_rfl) (by kernel_rfl) (by kernel_rfl)) ?_
  intro W base args ds gs before hval0 hW hcnd _
  have hval : ∀ (j : Nat) t v, Tryz.f4.params[j]? = some t → args[j]? = some v → Value.okWide Tryz.prog W .any base t v := hval0
  have hW' := hW
  obtain ⟨p, q, hA0, hV, rfl, hfz, hnd⟩ := hW
  have hA : DataW.TrodAll enc Tryz.prog W 0 (fun _ => true) true Tryz.f4.params.toList args.toList ds p := hA0
  rw [Tryz.params4] at hA hval
  obtain ⟨v0, vs0, d0, ds0, p0, q0, hargs, rfl, rfl, h0, r0⟩ := trodAll_cons hA
  obtain ⟨rfl, rfl, rfl⟩ := trodAll_nil r0
  obtain rfl : args = #[v0] := by cases args; simp_all
  obtain ⟨rfl, rfl⟩ := trodVars_none hV
  obtain ⟨cs0, rfl, hsz0⟩ := okWide_struct Tryz.underlying59 (hval 0 59 v0 rfl rfl)
  obtain ⟨rfl, c0, s0⟩ := arg_plain k0 h0
  clear hA0 hval0
  simp only [List.append_nil] at hW'
  have hok : ArgsOk sh (#[Value.agg cs0] : Array Value).toList := ⟨_, _, rfl, ⟨cs0, rfl, c0⟩, rfl⟩
  refine (walk _ hok W).mono fun e W' ⟨he, hg⟩ => ?_
  subst he
  refine ⟨_, rfl, _, _, _, [], [], [], hW', trodAll_cons_mk (shut_bool Tryz.underlying4 _) trodAll_mk0, (trodAll_cons_mk (s0 _ _ _ _) trodAll_mk0), rfl, kept_of hg.1 hg.2.1 hg.2.2.2 _, fun h => (by cases h)⟩

theorem over : Rows.kernNobodyRow.holds Tryz.pinned (OpenSpec.ofChange Rows.kernNobodySpec) :=
  OpenClaim.holds_of_wide 4 Tryz.f4 rfl rfl rfl rfl rfl rfl rfl ⟨rfl, rfl, rfl, rfl, rfl⟩ rfl rfl rfl rfl rfl (by kernel_rfl) Tryz.func4 closed
    (of_decide_eq_true (by kernel_rfl)) (by unfold Func.isWrapper; first | (rw [if_pos (by decide +kernel)]; kernel_rfl) | (rw [if_neg (by decide +kernel)]; exact ⟨rfl, rfl⟩))
    (fun os started H enc _ => lifted os started H enc)

/-- THE STATEMENT -/
theorem proved : Rows.KernNobodySaid :=
  over
#print axioms proved
end Go.Proofs.YtnhakkolafedhaaGreat.kernNobody
