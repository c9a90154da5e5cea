/- 'basin.MoveWaits' returns true at every argument, and each argument reads behind the call as it read before. No condition. -/
import Derived.Test.YthjamfniihejcaaGreatRows
import Derived.Test.YthjamfniihejcaaGreatMoveWaitsB0
import Derived.Test.YthjamfniihejcaaGreatMoveWaitsB1
import Derived.Test.YthjamfniihejcaaGreatMoveWaitsB2
import Derived.Test.YthjamfniihejcaaGreatMoveWaitsB3
import Derived.Test.YthjamfniihejcaaGreatMoveWaitsB4
import Derived.Test.YthjamfniihejcaaGreatMoveWaitsB5
import Derived.Test.YthjamfniihejcaaGreatMoveWaitsB6
import Derived.Test.YthjamfniihejcaaGreatMoveWaitsB7
import Derived.Test.YthjamfniihejcaaGreatMoveWaitsB8
import Derived.Test.YthjamfniihejcaaGreatMoveWaitsB9
import Derived.Test.YthjamfniihejcaaGreatMoveWaitsB10
import Derived.Test.YthjamfniihejcaaGreatMoveWaitsB11
import Derived.Test.YthjamfniihejcaaGreatMoveWaitsB12
import Derived.Test.YthjamfniihejcaaGreatMoveWaitsB13
import Derived.Test.YthjamfniihejcaaGreatMoveWaitsB14
import Derived.Test.YthjamfniihejcaaGreatMoveWaitsB15
import Derived.Test.YthjamfniihejcaaGreatMoveWaitsB16
import Derived.Test.YthjamfniihejcaaGreatMoveWaitsB17
import Derived.Test.YthjamfniihejcaaGreatMoveWaitsB18
import Derived.Test.YthjamfniihejcaaGreatMoveWaitsB19
import Derived.Test.YthjamfniihejcaaGreatMoveWaitsJ
import Derived.WalkKit
import Derived.ProofKit
import Derived.OpenShut
namespace Go.Proofs.YthjamfniihejcaaGreat.moveWaits
open Go.ChangeShapes Go.WideShapes Go.ChangeAt Go.RowKit Go.Ab Go.Proofs.YthjamfniihejcaaGreat.ma

theorem own : ownKnob Tryz.prog.godebug = none := by kernel_rfl

noncomputable def tree : Tree := .lt 2 1 (.md 0 40 fun _ => .run) (.md 0 40 fun _ => .run)
theorem allA : ∀ r, r < 40 → fA r = true := fun r hr => match r, hr with | 0, _ => pA0 | 1, _ => pA1 | 2, _ => pA2 | 3, _ => pA3 | 4, _ => pA4 | 5, _ => pA5 | 6, _ => pA6 | 7, _ => pA7 | 8, _ => pA8 | 9, _ => pA9 | 10, _ => pA10 | 11, _ => pA11 | 12, _ => pA12 | 13, _ => pA13 | 14, _ => pA14 | 15, _ => pA15 | 16, _ => pA16 | 17, _ => pA17 | 18, _ => pA18 | 19, _ => pA19 | 20, _ => pA20 | 21, _ => pA21 | 22, _ => pA22 | 23, _ => pA23 | 24, _ => pA24 | 25, _ => pA25 | 26, _ => pA26 | 27, _ => pA27 | 28, _ => pA28 | 29, _ => pA29 | 30, _ => pA30 | 31, _ => pA31 | 32, _ => pA32 | 33, _ => pA33 | 34, _ => pA34 | 35, _ => pA35 | 36, _ => pA36 | 37, _ => pA37 | 38, _ => pA38 | 39, _ => pA39 | j + 40, h => absurd h (by omega)
theorem allB : ∀ r, r < 40 → fB r = true := fun r hr => match r, hr with | 0, _ => pB0 | 1, _ => pB1 | 2, _ => pB2 | 3, _ => pB3 | 4, _ => pB4 | 5, _ => pB5 | 6, _ => pB6 | 7, _ => pB7 | 8, _ => pB8 | 9, _ => pB9 | 10, _ => pB10 | 11, _ => pB11 | 12, _ => pB12 | 13, _ => pB13 | 14, _ => pB14 | 15, _ => pB15 | 16, _ => pB16 | 17, _ => pB17 | 18, _ => pB18 | 19, _ => pB19 | 20, _ => pB20 | 21, _ => pB21 | 22, _ => pB22 | 23, _ => pB23 | 24, _ => pB24 | 25, _ => pB25 | 26, _ => pB26 | 27, _ => pB27 | 28, _ => pB28 | 29, _ => pB29 | 30, _ => pB30 | 31, _ => pB31 | 32, _ => pB32 | 33, _ => pB33 | 34, _ => pB34 | 35, _ => pB35 | 36, _ => pB36 | 37, _ => pB37 | 38, _ => pB38 | 39, _ => pB39 | j + 40, h => absurd h (by omega)
theorem runs : evalT lf tree d0 = true := evalT_lt (evalT_md (by kernel_rfl) allA) (evalT_md (by kernel_rfl) allB)

theorem walk (vs : Array Value) (h : ArgsOk sh vs.toList) (w : World) : Calls Tryz.prog 4 vs w fun e w' => e = .returned (.bool true) ∧ Kept w w' :=
  law_true hyp follows orc_nat (fun σ => orc_ok σ) tabOk 100001 4 sh [] (by decide) tree runs vs h w

set_option maxRecDepth 100000 in
theorem lifted (os : Os) (started : os.Started) (H : Type) (enc : TypeId × Value → H) :
    ReturnsInHanded {} Tryz.checked os 4 .any (Rows.moveWaitsSpec.pre6 enc Tryz.prog Tryz.f4 Rows.moveWaitsRow.domain false) (Rows.moveWaitsSpec.post enc Tryz.prog Tryz.f4 false true false false) := by
  refine returnsInHanded_of_change (C := Tryz.checked) own started (by kernel_rfl) Tryz.func4
    (ChangeSpec.witness6 (enc := enc) (C := Tryz.checked) false ⟨#[], #[.int .u8 0, .int .u8 0, .bool false], []⟩ 8 (by kernel_rfl) (by kernel_rfl) (by kernel_rfl) (by kernel_rfl)) ?_
  intro W base args ds gs before hval0 hW hcnd _
  have hval : ∀ (j : Nat) t v, Tryz.f4.params[j]? = some t → args[j]? = some v → Value.okWide Tryz.prog W .any base t v := hval0
  have hW' := hW
  obtain ⟨p, q, hA0, hV, rfl, hfz, hnd⟩ := hW
  have hA : DataW.TrodAll enc Tryz.prog W 0 (fun _ => true) true Tryz.f4.params.toList args.toList ds p := hA0
  rw [Tryz.params4] at hA hval
  obtain ⟨v0, vs0, d0, ds0, p0, q0, hargs, rfl, rfl, h0, r0⟩ := trodAll_cons hA
  obtain ⟨v1, vs1, d1, ds1, p1, q1, rfl, rfl, rfl, h1, r1⟩ := trodAll_cons r0
  obtain ⟨v2, vs2, d2, ds2, p2, q2, rfl, rfl, rfl, h2, r2⟩ := trodAll_cons r1
  obtain ⟨rfl, rfl, rfl⟩ := trodAll_nil r2
  obtain rfl : args = #[v0, v1, v2] := by cases args; simp_all
  obtain ⟨rfl, rfl⟩ := trodVars_none hV
  obtain ⟨a0, rfl, rfl, rfl, w0⟩ := open_int Tryz.underlying5 (hval 0 5 v0 rfl rfl) h0
  obtain ⟨a1, rfl, rfl, rfl, w1⟩ := open_int Tryz.underlying5 (hval 1 5 v1 rfl rfl) h1
  obtain ⟨a2, rfl, rfl, rfl⟩ := open_bool Tryz.underlying4 (hval 2 4 v2 rfl rfl) h2
  clear hA0 hval0
  simp only [List.append_nil] at hW'
  have hok : ArgsOk sh (#[Value.int .u8 a0, Value.int .u8 a1, Value.bool a2] : Array Value).toList := ⟨_, _, rfl, ⟨_, [], rfl, ⟨a0, rfl, w0⟩, rfl⟩, ⟨_, _, rfl, ⟨_, [], rfl, ⟨a1, rfl, w1⟩, rfl⟩, ⟨_, _, rfl, ⟨_, [], rfl, ⟨a2, rfl⟩, rfl⟩, rfl⟩⟩⟩
  refine (walk _ hok W).mono fun e W' ⟨he, hg⟩ => ?_
  subst he
  refine ⟨_, rfl, _, _, _, [], [], [], hW', trodAll_cons_mk (shut_bool Tryz.underlying4 _) trodAll_mk0, (trodAll_cons_mk (shut_int Tryz.underlying5 w0) (trodAll_cons_mk (shut_int Tryz.underlying5 w1) (trodAll_cons_mk (shut_bool Tryz.underlying4 _) trodAll_mk0))), rfl, kept_of hg.1 hg.2.1 hg.2.2.2 _, fun h => (by cases h)⟩

theorem over : Rows.moveWaitsRow.holds Tryz.pinned (OpenSpec.ofChange Rows.moveWaitsSpec) :=
  OpenClaim.holds_of_wide 4 Tryz.f4 rfl rfl rfl rfl rfl rfl rfl ⟨rfl, rfl, rfl, rfl, rfl⟩ rfl rfl rfl rfl rfl (by kernel_rfl) Tryz.func4 closed
    (of_decide_eq_true (by kernel_rfl)) (by unfold Func.isWrapper; first | (rw [if_pos (by decide +kernel)]; kernel_rfl) | (rw [if_neg (by decide +kernel)]; exact ⟨rfl, rfl⟩))
    (fun os started H enc _ => lifted os started H enc)

/-- THE STATEMENT -/
theorem proved : Rows.MoveWaitsSaid :=
  over
#print axioms proved
end Go.Proofs.YthjamfniihejcaaGreat.moveWaits
