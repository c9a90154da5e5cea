/- 'basin.FaultRefuses' returns true at every argument, and each argument reads behind the call as it read before. No condition. -/
import Derived.Test.YtgbkcjglikflfaaGreatRows
import Derived.Test.YtgbkcjglikflfaaGreatFaultRefusesB0
import Derived.Test.YtgbkcjglikflfaaGreatFaultRefusesB1
import Derived.Test.YtgbkcjglikflfaaGreatFaultRefusesB2
import Derived.Test.YtgbkcjglikflfaaGreatFaultRefusesB3
import Derived.Test.YtgbkcjglikflfaaGreatFaultRefusesB4
import Derived.Test.YtgbkcjglikflfaaGreatFaultRefusesB5
import Derived.Test.YtgbkcjglikflfaaGreatFaultRefusesJ
import Derived.WalkKit
import Derived.ProofKit
import Derived.OpenShut
namespace Go.Proofs.YtgbkcjglikflfaaGreat.faultRefuses
set_option maxHeartbeats 40000000
open Go.ChangeShapes Go.WideShapes Go.ChangeAt Go.RowKit Go.Ab Go.Proofs.YtgbkcjglikflfaaGreat.ma

theorem own : ownKnob Tryz.prog.godebug = none := by kernel_rfl

noncomputable def tree : Tree := .md 0 3 fun r => match r with | 0 => (.lt 2 1 (.lt 3 8 (.run) (.lt 3 9 (.run) (.lt 3 10 (.run) (.lt 3 11 (.run) (.lt 3 12 (.run) (.lt 3 512 (.run) (.lt 3 1024 (.run) (.lt 3 1536 (.run) (.lt 3 2048 (.run) (.lt 3 2560 (.run) (.lt 3 3072 (.run) (.lt 3 3584 (.run) (.run))))))))))))) (.lt 3 8 (.run) (.lt 3 9 (.run) (.lt 3 10 (.run) (.lt 3 11 (.run) (.lt 3 12 (.run) (.lt 3 512 (.run) (.lt 3 1024 (.run) (.lt 3 1536 (.run) (.lt 3 2048 (.run) (.lt 3 2560 (.run) (.lt 3 3072 (.run) (.lt 3 3584 (.run) (.run)))))))))))))) | 1 => (.lt 2 1 (.lt 3 8 (.run) (.lt 3 9 (.run) (.lt 3 10 (.run) (.lt 3 11 (.run) (.lt 3 12 (.run) (.lt 3 512 (.run) (.lt 3 1024 (.run) (.lt 3 1536 (.run) (.lt 3 2048 (.run) (.lt 3 2560 (.run) (.lt 3 3072 (.run) (.lt 3 3584 (.run) (.run))))))))))))) (.lt 3 8 (.run) (.lt 3 9 (.run) (.lt 3 10 (.run) (.lt 3 11 (.run) (.lt 3 12 (.run) (.lt 3 512 (.run) (.lt 3 1024 (.run) (.lt 3 1536 (.run) (.lt 3 2048 (.run) (.lt 3 2560 (.run) (.lt 3 3072 (.run) (.lt 3 3584 (.run) (.run)))))))))))))) | 2 => (.lt 2 1 (.lt 3 8 (.run) (.lt 3 9 (.run) (.lt 3 10 (.run) (.lt 3 11 (.run) (.lt 3 12 (.run) (.lt 3 512 (.run) (.lt 3 1024 (.run) (.lt 3 1536 (.run) (.lt 3 2048 (.run) (.lt 3 2560 (.run) (.lt 3 3072 (.run) (.lt 3 3584 (.run) (.run))))))))))))) (.lt 3 8 (.run) (.lt 3 9 (.run) (.lt 3 10 (.run) (.lt 3 11 (.run) (.lt 3 12 (.run) (.lt 3 512 (.run) (.lt 3 1024 (.run) (.lt 3 1536 (.run) (.lt 3 2048 (.run) (.lt 3 2560 (.run) (.lt 3 3072 (.run) (.lt 3 3584 (.run) (.run)))))))))))))) | _ => .run
theorem runs : evalT lf tree d0 = true := evalT_md (by kernel_rfl) fun r hr => match r, hr with | 0, _ => evalT_lt (evalT_lt (p0) (evalT_lt (p1) (evalT_lt (p2) (evalT_lt (p3) (evalT_lt (p4) (evalT_lt (p5) (evalT_lt (p6) (evalT_lt (p7) (evalT_lt (p8) (evalT_lt (p9) (evalT_lt (p10) (evalT_lt (p11) (p12))))))))))))) (evalT_lt (p13) (evalT_lt (p14) (evalT_lt (p15) (evalT_lt (p16) (evalT_lt (p17) (evalT_lt (p18) (evalT_lt (p19) (evalT_lt (p20) (evalT_lt (p21) (evalT_lt (p22) (evalT_lt (p23) (evalT_lt (p24) (p25))))))))))))) | 1, _ => evalT_lt (evalT_lt (p26) (evalT_lt (p27) (evalT_lt (p28) (evalT_lt (p29) (evalT_lt (p30) (evalT_lt (p31) (evalT_lt (p32) (evalT_lt (p33) (evalT_lt (p34) (evalT_lt (p35) (evalT_lt (p36) (evalT_lt (p37) (p38))))))))))))) (evalT_lt (p39) (evalT_lt (p40) (evalT_lt (p41) (evalT_lt (p42) (evalT_lt (p43) (evalT_lt (p44) (evalT_lt (p45) (evalT_lt (p46) (evalT_lt (p47) (evalT_lt (p48) (evalT_lt (p49) (evalT_lt (p50) (p51))))))))))))) | 2, _ => evalT_lt (evalT_lt (p52) (evalT_lt (p53) (evalT_lt (p54) (evalT_lt (p55) (evalT_lt (p56) (evalT_lt (p57) (evalT_lt (p58) (evalT_lt (p59) (evalT_lt (p60) (evalT_lt (p61) (evalT_lt (p62) (evalT_lt (p63) (p64))))))))))))) (evalT_lt (p65) (evalT_lt (p66) (evalT_lt (p67) (evalT_lt (p68) (evalT_lt (p69) (evalT_lt (p70) (evalT_lt (p71) (evalT_lt (p72) (evalT_lt (p73) (evalT_lt (p74) (evalT_lt (p75) (evalT_lt (p76) (p77))))))))))))) | r + 3, h => absurd h (by omega)

theorem walk (vs : Array Value) (h : ArgsOk sh vs.toList) (w : World) : Calls Tryz.prog 3 vs w fun e w' => e = .returned (.bool true) ∧ Kept w w' :=
  law_trueE hyp follows orc_nat (fun σ => orc_ok σ) tabOk 100001 3 sh [(true, 1264284498579831539109888)] (by decide +kernel) tree runs vs h w

set_option maxRecDepth 100000 in
theorem lifted (os : Os) (started : os.Started) (H : Type) (enc : TypeId × Value → H) :
    ReturnsInHanded {} Tryz.checked os 3 .any (Rows.faultRefusesSpec.pre6 enc Tryz.prog Tryz.f3 Rows.faultRefusesRow.domain false) (Rows.faultRefusesSpec.post enc Tryz.prog Tryz.f3 false true false false) := by
  refine returnsInHanded_of_change (C := Tryz.checked) own started (by kernel_rfl) Tryz.func3
    (ChangeSpec.witness6 (enc := enc) (C := Tryz.checked) false ⟨#[], #[.int .u8 0, .int .u16 0, .bool false], []⟩ 8 (by kernel_rfl) (by kernel_rfl) (by kernel_rfl) (by kernel_rfl)) ?_
  intro W base args ds gs before hval0 hW hcnd _
  have hval : ∀ (j : Nat) t v, Tryz.f3.params[j]? = some t → args[j]? = some v → Value.okWide Tryz.prog W .any base t v := hval0
  have hW' := hW
  obtain ⟨p, q, hA0, hV, rfl, hfz, hnd⟩ := hW
  have hA : DataW.TrodAll enc Tryz.prog W 0 (fun _ => true) true Tryz.f3.params.toList args.toList ds p := hA0
  rw [Tryz.params3] at hA hval
  obtain ⟨v0, vs0, d0, ds0, p0, q0, hargs, rfl, rfl, h0, r0⟩ := trodAll_cons hA
  obtain ⟨v1, vs1, d1, ds1, p1, q1, rfl, rfl, rfl, h1, r1⟩ := trodAll_cons r0
  obtain ⟨v2, vs2, d2, ds2, p2, q2, rfl, rfl, rfl, h2, r2⟩ := trodAll_cons r1
  obtain ⟨rfl, rfl, rfl⟩ := trodAll_nil r2
  obtain rfl : args = #[v0, v1, v2] := by cases args; simp_all
  obtain ⟨rfl, rfl⟩ := trodVars_none hV
  obtain ⟨a0, rfl, rfl, rfl, w0⟩ := open_int Tryz.underlying5 (hval 0 5 v0 rfl rfl) h0
  obtain ⟨a1, rfl, rfl, rfl, w1⟩ := open_int Tryz.underlying22 (hval 1 22 v1 rfl rfl) h1
  obtain ⟨a2, rfl, rfl, rfl⟩ := open_bool Tryz.underlying4 (hval 2 4 v2 rfl rfl) h2
  clear hA0 hval0
  simp only [List.append_nil] at hW'
  have hok : ArgsOk sh (#[Value.int .u8 a0, Value.int .u16 a1, Value.bool a2] : Array Value).toList := ⟨_, _, rfl, ⟨_, [], rfl, ⟨a0, rfl, w0⟩, rfl⟩, ⟨_, _, rfl, ⟨_, [], rfl, ⟨a1, rfl, w1⟩, rfl⟩, ⟨_, _, rfl, ⟨_, [], rfl, ⟨a2, rfl⟩, rfl⟩, rfl⟩⟩⟩
  refine (walk _ hok W).mono fun e W' ⟨he, hg⟩ => ?_
  subst he
  refine ⟨_, rfl, _, _, _, [], [], [], hW', trodAll_cons_mk (shut_bool Tryz.underlying4 _) trodAll_mk0, (trodAll_cons_mk (shut_int Tryz.underlying5 w0) (trodAll_cons_mk (shut_int Tryz.underlying22 w1) (trodAll_cons_mk (shut_bool Tryz.underlying4 _) trodAll_mk0))), rfl, kept_of hg.1 hg.2.1 hg.2.2.2 _, fun h => (by cases h)⟩

theorem over : Rows.faultRefusesRow.holds Tryz.pinned (OpenSpec.ofChange Rows.faultRefusesSpec) :=
  OpenClaim.holds_of_wide 3 Tryz.f3 rfl rfl rfl rfl rfl rfl rfl ⟨rfl, rfl, rfl, rfl, rfl⟩ rfl rfl rfl rfl rfl (by kernel_rfl) Tryz.func3 closed
    (of_decide_eq_true (by kernel_rfl)) (by unfold Func.isWrapper; first | (rw [if_pos (by decide +kernel)]; kernel_rfl) | (rw [if_neg (by decide +kernel)]; exact ⟨rfl, rfl⟩))
    (fun os started H enc _ => lifted os started H enc)

/-- THE STATEMENT -/
theorem proved : Rows.FaultRefusesSaid :=
  over
#print axioms proved
end Go.Proofs.YtgbkcjglikflfaaGreat.faultRefuses
