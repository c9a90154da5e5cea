/- 'basin.CopiesBreak' returns true at every argument, and each argument reads behind the call as it read before. No condition. -/
import Derived.Test.YtffdgboijdbomaaGreatRows
import Derived.Test.YtffdgboijdbomaaGreatCopiesBreakB0
import Derived.Test.YtffdgboijdbomaaGreatCopiesBreakB1
import Derived.Test.YtffdgboijdbomaaGreatCopiesBreakB2
import Derived.Test.YtffdgboijdbomaaGreatCopiesBreakB3
import Derived.Test.YtffdgboijdbomaaGreatCopiesBreakB4
import Derived.Test.YtffdgboijdbomaaGreatCopiesBreakB5
import Derived.Test.YtffdgboijdbomaaGreatCopiesBreakB6
import Derived.Test.YtffdgboijdbomaaGreatCopiesBreakB7
import Derived.Test.YtffdgboijdbomaaGreatCopiesBreakJ
import Derived.WalkKit
import Derived.ProofKit
import Derived.OpenShut
namespace Go.Proofs.YtffdgboijdbomaaGreat.copiesBreak
open Go.ChangeShapes Go.WideShapes Go.ChangeAt Go.RowKit Go.Ab Go.Proofs.YtffdgboijdbomaaGreat.ma

theorem own : ownKnob Tryz.prog.godebug = none := by kernel_rfl

noncomputable def tree : Tree := .lt 2 1 (.md 0 16 fun _ => .run) (.md 0 16 fun _ => .run)
theorem allA : ∀ r, r < 16 → fA r = true := fun r hr => match r, hr with | 0, _ => pA0 | 1, _ => pA1 | 2, _ => pA2 | 3, _ => pA3 | 4, _ => pA4 | 5, _ => pA5 | 6, _ => pA6 | 7, _ => pA7 | 8, _ => pA8 | 9, _ => pA9 | 10, _ => pA10 | 11, _ => pA11 | 12, _ => pA12 | 13, _ => pA13 | 14, _ => pA14 | 15, _ => pA15 | j + 16, h => absurd h (by omega)
theorem allB : ∀ r, r < 16 → fB r = true := fun r hr => match r, hr with | 0, _ => pB0 | 1, _ => pB1 | 2, _ => pB2 | 3, _ => pB3 | 4, _ => pB4 | 5, _ => pB5 | 6, _ => pB6 | 7, _ => pB7 | 8, _ => pB8 | 9, _ => pB9 | 10, _ => pB10 | 11, _ => pB11 | 12, _ => pB12 | 13, _ => pB13 | 14, _ => pB14 | 15, _ => pB15 | j + 16, h => absurd h (by omega)
theorem runs : evalT lf tree d0 = true := evalT_lt (evalT_md (by kernel_rfl) allA) (evalT_md (by kernel_rfl) allB)

theorem walk (vs : Array Value) (h : ArgsOk sh vs.toList) (w : World) : Calls Tryz.prog 4 vs w fun e w' => e = .returned (.bool true) ∧ Kept w w' :=
  law_true hyp follows orc_nat (fun σ => orc_ok σ) tabOk 100000 4 sh [] (by decide) tree runs vs h w

set_option maxRecDepth 100000 in
theorem lifted (os : Os) (started : os.Started) (H : Type) (enc : TypeId × Value → H) :
    ReturnsInHanded {} Tryz.checked os 4 .any (Rows.copiesBreakSpec.pre6 enc Tryz.prog Tryz.f4 Rows.copiesBreakRow.domain false) (Rows.copiesBreakSpec.post enc Tryz.prog Tryz.f4 false true false false) := by
  refine returnsInHanded_of_change (C := Tryz.checked) own started (by kernel_rfl) Tryz.func4
    (ChangeSpec.witness6 (enc := enc) (C := Tryz.checked) false ⟨#[], #[.int .u8 0, .int .u8 0, .bool false], []⟩ 8 (by kernel_rfl) (by kernel_rfl) (by kernel_rfl) (by kernel_rfl)) ?_
  intro W base args ds gs before hval0 hW hcnd _
  have hval : ∀ (j : Nat) t v, Tryz.f4.params[j]? = some t → args[j]? = some v → Value.okWide Tryz.prog W .any base t v := hval0
  have hW' := hW
  obtain ⟨p, q, hA0, hV, rfl, hfz, hnd⟩ := hW
  have hA : DataW.TrodAll enc Tryz.prog W 0 (fun _ => true) true Tryz.f4.params.toList args.toList ds p := hA0
  rw [Tryz.params4] at hA hval
  obtain ⟨v0, vs0, d0, ds0, p0, q0, hargs, rfl, rfl, h0, r0⟩ := trodAll_cons hA
  obtain ⟨v1, vs1, d1, ds1, p1, q1, rfl, rfl, rfl, h1, r1⟩ := trodAll_cons r0
  obtain ⟨v2, vs2, d2, ds2, p2, q2, rfl, rfl, rfl, h2, r2⟩ := trodAll_cons r1
  obtain ⟨rfl, rfl, rfl⟩ := trodAll_nil r2
  obtain rfl : args = #[v0, v1, v2] := by cases args; simp_all
  obtain ⟨rfl, rfl⟩ := trodVars_none hV
  obtain ⟨a0, rfl, rfl, rfl, w0⟩ := open_int Tryz.underlying5 (hval 0 5 v0 rfl rfl) h0
  obtain ⟨a1, rfl, rfl, rfl, w1⟩ := open_int Tryz.underlying5 (hval 1 5 v1 rfl rfl) h1
  obtain ⟨a2, rfl, rfl, rfl⟩ := open_bool Tryz.underlying4 (hval 2 4 v2 rfl rfl) h2
  clear hA0 hval0
  simp only [List.append_nil] at hW'
  have hok : ArgsOk sh (#[Value.int .u8 a0, Value.int .u8 a1, Value.bool a2] : Array Value).toList := ⟨_, _, rfl, ⟨_, [], rfl, ⟨a0, rfl, w0⟩, rfl⟩, ⟨_, _, rfl, ⟨_, [], rfl, ⟨a1, rfl, w1⟩, rfl⟩, ⟨_, _, rfl, ⟨_, [], rfl, ⟨a2, rfl⟩, rfl⟩, rfl⟩⟩⟩
  refine (walk _ hok W).mono fun e W' ⟨he, hg⟩ => ?_
  subst he
  refine ⟨_, rfl, _, _, _, [], [], [], hW', trodAll_cons_mk (shut_bool Tryz.underlying4 _) trodAll_mk0, (trodAll_cons_mk (shut_int Tryz.underlying5 w0) (trodAll_cons_mk (shut_int Tryz.underlying5 w1) (trodAll_cons_mk (shut_bool Tryz.underlying4 _) trodAll_mk0))), rfl, kept_of hg.1 hg.2.1 hg.2.2.2 _, fun h => (by cases h)⟩

theorem over : Rows.copiesBreakRow.holds Tryz.pinned (OpenSpec.ofChange Rows.copiesBreakSpec) :=
  OpenClaim.holds_of_wide 4 Tryz.f4 rfl rfl rfl rfl rfl rfl rfl ⟨rfl, rfl, rfl, rfl, rfl⟩ rfl rfl rfl rfl rfl (by kernel_rfl) Tryz.func4 closed
    (of_decide_eq_true (by kernel_rfl)) (by unfold Func.isWrapper; first | (rw [if_pos (by decide +kernel)]; kernel_rfl) | (rw [if_neg (by decide +kernel)]; exact ⟨rfl, rfl⟩))
    (fun os started H enc _ => lifted os started H enc)

/-- THE STATEMENT -/
theorem proved : Rows.CopiesBreakSaid :=
  over
#print axioms proved
end Go.Proofs.YtffdgboijdbomaaGreat.copiesBreak
