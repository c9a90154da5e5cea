/- 'basin.HugeCuts' returns true at every argument, and each argument reads behind the call as it read before. No condition. -/
import Derived.Test.YtoeplekdelhicaaGreatRows
import Derived.Test.YtoeplekdelhicaaGreatHugeCutsB0
import Derived.Test.YtoeplekdelhicaaGreatHugeCutsB1
import Derived.Test.YtoeplekdelhicaaGreatHugeCutsB2
import Derived.Test.YtoeplekdelhicaaGreatHugeCutsB3
import Derived.Test.YtoeplekdelhicaaGreatHugeCutsB4
import Derived.Test.YtoeplekdelhicaaGreatHugeCutsB5
import Derived.Test.YtoeplekdelhicaaGreatHugeCutsB6
import Derived.Test.YtoeplekdelhicaaGreatHugeCutsB7
import Derived.Test.YtoeplekdelhicaaGreatHugeCutsB8
import Derived.Test.YtoeplekdelhicaaGreatHugeCutsB9
import Derived.Test.YtoeplekdelhicaaGreatHugeCutsB10
import Derived.Test.YtoeplekdelhicaaGreatHugeCutsB11
import Derived.Test.YtoeplekdelhicaaGreatHugeCutsJ
import Derived.WalkKit
import Derived.ProofKit
import Derived.OpenShut
namespace Go.Proofs.YtoeplekdelhicaaGreat.hugeCuts
set_option maxHeartbeats 40000000
open Go.ChangeShapes Go.WideShapes Go.ChangeAt Go.RowKit Go.Ab Go.Proofs.YtoeplekdelhicaaGreat.ma

theorem own : ownKnob Tryz.prog.godebug = none := by kernel_rfl

noncomputable def tree : Tree := .md 0 8 fun r => .md 1 (8 - r) fun _ => .run
theorem allA0 : ∀ r, r < 8 → fA0 r = true := fun r hr => match r, hr with | 0, _ => pA00 | 1, _ => pA01 | 2, _ => pA02 | 3, _ => pA03 | 4, _ => pA04 | 5, _ => pA05 | 6, _ => pA06 | 7, _ => pA07 | j + 8, h => absurd h (by omega)
theorem allA1 : ∀ r, r < 7 → fA1 r = true := fun r hr => match r, hr with | 0, _ => pA10 | 1, _ => pA11 | 2, _ => pA12 | 3, _ => pA13 | 4, _ => pA14 | 5, _ => pA15 | 6, _ => pA16 | j + 7, h => absurd h (by omega)
theorem allA2 : ∀ r, r < 6 → fA2 r = true := fun r hr => match r, hr with | 0, _ => pA20 | 1, _ => pA21 | 2, _ => pA22 | 3, _ => pA23 | 4, _ => pA24 | 5, _ => pA25 | j + 6, h => absurd h (by omega)
theorem allA3 : ∀ r, r < 5 → fA3 r = true := fun r hr => match r, hr with | 0, _ => pA30 | 1, _ => pA31 | 2, _ => pA32 | 3, _ => pA33 | 4, _ => pA34 | j + 5, h => absurd h (by omega)
theorem allA4 : ∀ r, r < 4 → fA4 r = true := fun r hr => match r, hr with | 0, _ => pA40 | 1, _ => pA41 | 2, _ => pA42 | 3, _ => pA43 | j + 4, h => absurd h (by omega)
theorem allA5 : ∀ r, r < 3 → fA5 r = true := fun r hr => match r, hr with | 0, _ => pA50 | 1, _ => pA51 | 2, _ => pA52 | j + 3, h => absurd h (by omega)
theorem allA6 : ∀ r, r < 2 → fA6 r = true := fun r hr => match r, hr with | 0, _ => pA60 | 1, _ => pA61 | j + 2, h => absurd h (by omega)
theorem allA7 : ∀ r, r < 1 → fA7 r = true := fun r hr => match r, hr with | 0, _ => pA70 | j + 1, h => absurd h (by omega)
theorem runs : evalT lf tree d0 = true := evalT_md (by kernel_rfl) fun r hr => match r, hr with | 0, _ => evalT_md (by kernel_rfl) allA0 | 1, _ => evalT_md (by kernel_rfl) allA1 | 2, _ => evalT_md (by kernel_rfl) allA2 | 3, _ => evalT_md (by kernel_rfl) allA3 | 4, _ => evalT_md (by kernel_rfl) allA4 | 5, _ => evalT_md (by kernel_rfl) allA5 | 6, _ => evalT_md (by kernel_rfl) allA6 | 7, _ => evalT_md (by kernel_rfl) allA7 | r + 8, h => absurd h (by omega)

theorem walk (vs : Array Value) (h : ArgsOk sh vs.toList) (w : World) : Calls Tryz.prog 3 vs w fun e w' => e = .returned (.bool true) ∧ Kept w w' :=
  law_true hyp follows orc_nat (fun σ => orc_ok σ) tabOk 100001 3 sh [] (by decide) tree runs vs h w

set_option maxRecDepth 100000 in
theorem lifted (os : Os) (started : os.Started) (H : Type) (enc : TypeId × Value → H) :
    ReturnsInHanded {} Tryz.checked os 3 .any (Rows.hugeCutsSpec.pre6 enc Tryz.prog Tryz.f3 Rows.hugeCutsRow.domain false) (Rows.hugeCutsSpec.post enc Tryz.prog Tryz.f3 false true false false) := by
  refine returnsInHanded_of_change (C := Tryz.checked) own started (by kernel_rfl) Tryz.func3
    (ChangeSpec.witness6 (enc := enc) (C := Tryz.checked) false ⟨#[], #[.int .u8 0, .int .u8 0, .int .u8 0], []⟩ 8 (by kernel_rfl) (by kernel_rfl) (by kernel_rfl) (by kernel_rfl)) ?_
  intro W base args ds gs before hval0 hW hcnd _
  have hval : ∀ (j : Nat) t v, Tryz.f3.params[j]? = some t → args[j]? = some v → Value.okWide Tryz.prog W .any base t v := hval0
  have hW' := hW
  obtain ⟨p, q, hA0, hV, rfl, hfz, hnd⟩ := hW
  have hA : DataW.TrodAll enc Tryz.prog W 0 (fun _ => true) true Tryz.f3.params.toList args.toList ds p := hA0
  rw [Tryz.params3] at hA hval
  obtain ⟨v0, vs0, d0, ds0, p0, q0, hargs, rfl, rfl, h0, r0⟩ := trodAll_cons hA
  obtain ⟨v1, vs1, d1, ds1, p1, q1, rfl, rfl, rfl, h1, r1⟩ := trodAll_cons r0
  obtain ⟨v2, vs2, d2, ds2, p2, q2, rfl, rfl, rfl, h2, r2⟩ := trodAll_cons r1
  obtain ⟨rfl, rfl, rfl⟩ := trodAll_nil r2
  obtain rfl : args = #[v0, v1, v2] := by cases args; simp_all
  obtain ⟨rfl, rfl⟩ := trodVars_none hV
  obtain ⟨a0, rfl, rfl, rfl, w0⟩ := open_int Tryz.underlying5 (hval 0 5 v0 rfl rfl) h0
  obtain ⟨a1, rfl, rfl, rfl, w1⟩ := open_int Tryz.underlying5 (hval 1 5 v1 rfl rfl) h1
  obtain ⟨a2, rfl, rfl, rfl, w2⟩ := open_int Tryz.underlying5 (hval 2 5 v2 rfl rfl) h2
  clear hA0 hval0
  simp only [List.append_nil] at hW'
  have hok : ArgsOk sh (#[Value.int .u8 a0, Value.int .u8 a1, Value.int .u8 a2] : Array Value).toList := ⟨_, _, rfl, ⟨_, [], rfl, ⟨a0, rfl, w0⟩, rfl⟩, ⟨_, _, rfl, ⟨_, [], rfl, ⟨a1, rfl, w1⟩, rfl⟩, ⟨_, _, rfl, ⟨_, [], rfl, ⟨a2, rfl, w2⟩, rfl⟩, rfl⟩⟩⟩
  refine (walk _ hok W).mono fun e W' ⟨he, hg⟩ => ?_
  subst he
  refine ⟨_, rfl, _, _, _, [], [], [], hW', trodAll_cons_mk (shut_bool Tryz.underlying4 _) trodAll_mk0, (trodAll_cons_mk (shut_int Tryz.underlying5 w0) (trodAll_cons_mk (shut_int Tryz.underlying5 w1) (trodAll_cons_mk (shut_int Tryz.underlying5 w2) trodAll_mk0))), rfl, kept_of hg.1 hg.2.1 hg.2.2.2 _, fun h => (by cases h)⟩

theorem over : Rows.hugeCutsRow.holds Tryz.pinned (OpenSpec.ofChange Rows.hugeCutsSpec) :=
  OpenClaim.holds_of_wide 3 Tryz.f3 rfl rfl rfl rfl rfl rfl rfl ⟨rfl, rfl, rfl, rfl, rfl⟩ rfl rfl rfl rfl rfl (by kernel_rfl) Tryz.func3 closed
    (of_decide_eq_true (by kernel_rfl)) (by unfold Func.isWrapper; first | (rw [if_pos (by decide +kernel)]; kernel_rfl) | (rw [if_neg (by decide +kernel)]; exact ⟨rfl, rfl⟩))
    (fun os started H enc _ => lifted os started H enc)

/-- THE STATEMENT -/
theorem proved : Rows.HugeCutsSaid :=
  over
#print axioms proved
end Go.Proofs.YtoeplekdelhicaaGreat.hugeCuts
