/- 'basin.AuditNobody' returns true at every argument, and each argument reads behind the call as it read before. No condition. -/
import Derived.Test.YtipifpppngfihaaGreatRows
import Derived.Test.YtipifpppngfihaaGreatAuditNobodyB0
import Derived.Test.YtipifpppngfihaaGreatAuditNobodyJ
import Derived.WalkKit
import Derived.ProofKit
import Derived.OpenShut
namespace Go.Proofs.YtipifpppngfihaaGreat.auditNobody
set_option maxHeartbeats 40000000
open Go.ChangeShapes Go.WideShapes Go.ChangeAt Go.RowKit Go.Ab Go.Proofs.YtipifpppngfihaaGreat.ma

theorem own : ownKnob Tryz.prog.godebug = none := by kernel_rfl

noncomputable def tree : Tree := .lt 0 1 .run .run
theorem runs : evalT lf tree d0 = true := all

theorem walk (vs : Array Value) (h : ArgsOk sh vs.toList) (w : World) : Calls Tryz.prog 3 vs w fun e w' => e = .returned (.bool true) ∧ Kept w w' :=
  law_true hyp follows orc_nat (fun σ => orc_ok σ) tabOk 100000 3 sh [] (by decide) tree runs vs h w

set_option maxRecDepth 100000 in
theorem lifted (os : Os) (started : os.Started) (H : Type) (enc : TypeId × Value → H) :
    ReturnsInHanded {} Tryz.checked os 3 .any (Rows.auditNobodySpec.pre6 enc Tryz.prog Tryz.f3 Rows.auditNobodyRow.domain false) (Rows.auditNobodySpec.post enc Tryz.prog Tryz.f3 false true false false) := by
  refine returnsInHanded_of_change (C := Tryz.checked) own started (by kernel_rfl) Tryz.func3
    (ChangeSpec.witness6 (enc := enc) (C := Tryz.checked) false ⟨#[], #[.bool false], []⟩ 8 (by kernel_rfl) (by kernel_rfl) (by kernel_rfl) (by kernel_rfl)) ?_
  intro W base args ds gs before hval0 hW hcnd _
  have hval : ∀ (j : Nat) t v, Tryz.f3.params[j]? = some t → args[j]? = some v → Value.okWide Tryz.prog W .any base t v := hval0
  have hW' := hW
  obtain ⟨p, q, hA0, hV, rfl, hfz, hnd⟩ := hW
  have hA : DataW.TrodAll enc Tryz.prog W 0 (fun _ => true) true Tryz.f3.params.toList args.toList ds p := hA0
  rw [Tryz.params3] at hA hval
  obtain ⟨v0, vs0, d0, ds0, p0, q0, hargs, rfl, rfl, h0, r0⟩ := trodAll_cons hA
  obtain ⟨rfl, rfl, rfl⟩ := trodAll_nil r0
  obtain rfl : args = #[v0] := by cases args; simp_all
  obtain ⟨rfl, rfl⟩ := trodVars_none hV
  obtain ⟨a0, rfl, rfl, rfl⟩ := open_bool Tryz.underlying4 (hval 0 4 v0 rfl rfl) h0
  clear hA0 hval0
  simp only [List.append_nil] at hW'
  have hok : ArgsOk sh (#[Value.bool a0] : Array Value).toList := ⟨_, _, rfl, ⟨_, [], rfl, ⟨a0, rfl⟩, rfl⟩, rfl⟩
  refine (walk _ hok W).mono fun e W' ⟨he, hg⟩ => ?_
  subst he
  refine ⟨_, rfl, _, _, _, [], [], [], hW', trodAll_cons_mk (shut_bool Tryz.underlying4 _) trodAll_mk0, (trodAll_cons_mk (shut_bool Tryz.underlying4 _) trodAll_mk0), rfl, kept_of hg.1 hg.2.1 hg.2.2.2 _, fun h => (by cases h)⟩

theorem over : Rows.auditNobodyRow.holds Tryz.pinned (OpenSpec.ofChange Rows.auditNobodySpec) :=
  OpenClaim.holds_of_wide 3 Tryz.f3 rfl rfl rfl rfl rfl rfl rfl ⟨rfl, rfl, rfl, rfl, rfl⟩ rfl rfl rfl rfl rfl (by kernel_rfl) Tryz.func3 closed
    (of_decide_eq_true (by kernel_rfl)) (by unfold Func.isWrapper; first | (rw [if_pos (by decide +kernel)]; kernel_rfl) | (rw [if_neg (by decide +kernel)]; exact ⟨rfl, rfl⟩))
    (fun os started H enc _ => lifted os started H enc)

/-- THE STATEMENT -/
theorem proved : Rows.AuditNobodySaid :=
  over
#print axioms proved
end Go.Proofs.YtipifpppngfihaaGreat.auditNobody
