/- 'basin.HugeFull' returns true at every argument, and each argument reads behind the call as it read before. No condition. -/
import Derived.Test.YtoeplekdelhicaaGreatRows
import Derived.Test.YtoeplekdelhicaaGreatHugeFullB0
import Derived.Test.YtoeplekdelhicaaGreatHugeFullJ
import Derived.WalkKit
import Derived.ProofKit
import Derived.OpenShut
namespace Go.Proofs.YtoeplekdelhicaaGreat.hugeFull
set_option maxHeartbeats 40000000
open Go.ChangeShapes Go.WideShapes Go.ChangeAt Go.RowKit Go.Ab Go.Proofs.YtoeplekdelhicaaGreat.ma

theorem own : ownKnob Tryz.prog.godebug = none := by kernel_rfl

noncomputable def tree : Tree := .run
theorem allA : ∀ r, r < 1 → fA r = true := fun r hr => match r, hr with | 0, _ => pA0 | j + 1, h => absurd h (by omega)
theorem runs : evalT lf tree d0 = true := allA 0 (by decide)

theorem walk (vs : Array Value) (h : ArgsOk sh vs.toList) (w : World) : Calls Tryz.prog 4 vs w fun e w' => e = .returned (.bool true) ∧ Kept w w' :=
  law_true hyp follows orc_nat (fun σ => orc_ok σ) tabOk 100001 4 sh [] (by decide) tree runs vs h w

set_option maxRecDepth 100000 in
theorem lifted (os : Os) (started : os.Started) (H : Type) (enc : TypeId × Value → H) :
    ReturnsInHanded {} Tryz.checked os 4 .any (Rows.hugeFullSpec.pre6 enc Tryz.prog Tryz.f4 Rows.hugeFullRow.domain false) (Rows.hugeFullSpec.post enc Tryz.prog Tryz.f4 false true false false) := by
  refine returnsInHanded_of_change (C := Tryz.checked) own started (by kernel_rfl) Tryz.func4
    (ChangeSpec.witness6 (enc := enc) (C := Tryz.checked) false ⟨#[], #[.int .u8 0], []⟩ 8 (by kernel_rfl) (by kernel_rfl) (by kernel_rfl) (by kernel_rfl)) ?_
  intro W base args ds gs before hval0 hW hcnd _
  have hval : ∀ (j : Nat) t v, Tryz.f4.params[j]? = some t → args[j]? = some v → Value.okWide Tryz.prog W .any base t v := hval0
  have hW' := hW
  obtain ⟨p, q, hA0, hV, rfl, hfz, hnd⟩ := hW
  have hA : DataW.TrodAll enc Tryz.prog W 0 (fun _ => true) true Tryz.f4.params.toList args.toList ds p := hA0
  rw [Tryz.params4] at hA hval
  obtain ⟨v0, vs0, d0, ds0, p0, q0, hargs, rfl, rfl, h0, r0⟩ := trodAll_cons hA
  obtain ⟨rfl, rfl, rfl⟩ := trodAll_nil r0
  obtain rfl : args = #[v0] := by cases args; simp_all
  obtain ⟨rfl, rfl⟩ := trodVars_none hV
  obtain ⟨a0, rfl, rfl, rfl, w0⟩ := open_int Tryz.underlying5 (hval 0 5 v0 rfl rfl) h0
  clear hA0 hval0
  simp only [List.append_nil] at hW'
  have hok : ArgsOk sh (#[Value.int .u8 a0] : Array Value).toList := ⟨_, _, rfl, ⟨_, [], rfl, ⟨a0, rfl, w0⟩, rfl⟩, rfl⟩
  refine (walk _ hok W).mono fun e W' ⟨he, hg⟩ => ?_
  subst he
  refine ⟨_, rfl, _, _, _, [], [], [], hW', trodAll_cons_mk (shut_bool Tryz.underlying4 _) trodAll_mk0, (trodAll_cons_mk (shut_int Tryz.underlying5 w0) trodAll_mk0), rfl, kept_of hg.1 hg.2.1 hg.2.2.2 _, fun h => (by cases h)⟩

theorem over : Rows.hugeFullRow.holds Tryz.pinned (OpenSpec.ofChange Rows.hugeFullSpec) :=
  OpenClaim.holds_of_wide 4 Tryz.f4 rfl rfl rfl rfl rfl rfl rfl ⟨rfl, rfl, rfl, rfl, rfl⟩ rfl rfl rfl rfl rfl (by kernel_rfl) Tryz.func4 closed
    (of_decide_eq_true (by kernel_rfl)) (by unfold Func.isWrapper; first | (rw [if_pos (by decide +kernel)]; kernel_rfl) | (rw [if_neg (by decide +kernel)]; exact ⟨rfl, rfl⟩))
    (fun os started H enc _ => lifted os started H enc)

/-- THE STATEMENT -/
theorem proved : Rows.HugeFullSaid :=
  over
#print axioms proved
end Go.Proofs.YtoeplekdelhicaaGreat.hugeFull
