/- 'MoveWaits' returns true at these cases: runs by the kernel. No condition. -/
import Derived.Test.YthjamfniihejcaaGreatMoveWaitsP
import Derived.Test.YthjamfniihejcaaGreatMoveWaitsG1
import Derived.KernelRfl
namespace Go.Proofs.YthjamfniihejcaaGreat.moveWaits
open Go.Ab Go.Proofs.YthjamfniihejcaaGreat.ma
theorem pA4 : fA 4 = true := by
  have e : mdD 0 40 4 (hiD 2 1 d0) = [⟨0, 255, [], [(.ofNat 40, .ofNat 4)]⟩, ⟨0, 255, [], []⟩, ⟨0, 0, [], []⟩] := by kernel_rfl
  have ea : mkArgs sh 0 [⟨0, 255, [], [(.ofNat 40, .ofNat 4)]⟩, ⟨0, 255, [], []⟩, ⟨0, 0, [], []⟩] = [.sym .u8 0, .sym .u8 1, (.bool false)] := by kernel_rfl
  show leaf orc FT (100000 + 1) 4 sh [] (mdD 0 40 4 (hiD 2 1 d0)) = true
  rw [e]
  refine leaf_cut (q := q1 (.bool false)) (by rw [ea]; kernel_rfl) (fun k0 => ?_) (by kernel_rfl)
  rw [ea]
  exact script_ok orc_nat (g1 (⟨0, 255, [], [(.ofNat 40, .ofNat 4)]⟩) (⟨0, 255, [], []⟩) (⟨0, 0, [], []⟩) (.bool false))
theorem pA5 : fA 5 = true := by
  have e : mdD 0 40 5 (hiD 2 1 d0) = [⟨0, 255, [], [(.ofNat 40, .ofNat 5)]⟩, ⟨0, 255, [], []⟩, ⟨0, 0, [], []⟩] := by kernel_rfl
  have ea : mkArgs sh 0 [⟨0, 255, [], [(.ofNat 40, .ofNat 5)]⟩, ⟨0, 255, [], []⟩, ⟨0, 0, [], []⟩] = [.sym .u8 0, .sym .u8 1, (.bool false)] := by kernel_rfl
  show leaf orc FT (100000 + 1) 4 sh [] (mdD 0 40 5 (hiD 2 1 d0)) = true
  rw [e]
  refine leaf_cut (q := q1 (.bool false)) (by rw [ea]; kernel_rfl) (fun k0 => ?_) (by kernel_rfl)
  rw [ea]
  exact script_ok orc_nat (g1 (⟨0, 255, [], [(.ofNat 40, .ofNat 5)]⟩) (⟨0, 255, [], []⟩) (⟨0, 0, [], []⟩) (.bool false))
theorem pA6 : fA 6 = true := by
  have e : mdD 0 40 6 (hiD 2 1 d0) = [⟨0, 255, [], [(.ofNat 40, .ofNat 6)]⟩, ⟨0, 255, [], []⟩, ⟨0, 0, [], []⟩] := by kernel_rfl
  have ea : mkArgs sh 0 [⟨0, 255, [], [(.ofNat 40, .ofNat 6)]⟩, ⟨0, 255, [], []⟩, ⟨0, 0, [], []⟩] = [.sym .u8 0, .sym .u8 1, (.bool false)] := by kernel_rfl
  show leaf orc FT (100000 + 1) 4 sh [] (mdD 0 40 6 (hiD 2 1 d0)) = true
  rw [e]
  refine leaf_cut (q := q1 (.bool false)) (by rw [ea]; kernel_rfl) (fun k0 => ?_) (by kernel_rfl)
  rw [ea]
  exact script_ok orc_nat (g1 (⟨0, 255, [], [(.ofNat 40, .ofNat 6)]⟩) (⟨0, 255, [], []⟩) (⟨0, 0, [], []⟩) (.bool false))
theorem pA7 : fA 7 = true := by
  have e : mdD 0 40 7 (hiD 2 1 d0) = [⟨0, 255, [], [(.ofNat 40, .ofNat 7)]⟩, ⟨0, 255, [], []⟩, ⟨0, 0, [], []⟩] := by kernel_rfl
  have ea : mkArgs sh 0 [⟨0, 255, [], [(.ofNat 40, .ofNat 7)]⟩, ⟨0, 255, [], []⟩, ⟨0, 0, [], []⟩] = [.sym .u8 0, .sym .u8 1, (.bool false)] := by kernel_rfl
  show leaf orc FT (100000 + 1) 4 sh [] (mdD 0 40 7 (hiD 2 1 d0)) = true
  rw [e]
  refine leaf_cut (q := q1 (.bool false)) (by rw [ea]; kernel_rfl) (fun k0 => ?_) (by kernel_rfl)
  rw [ea]
  exact script_ok orc_nat (g1 (⟨0, 255, [], [(.ofNat 40, .ofNat 7)]⟩) (⟨0, 255, [], []⟩) (⟨0, 0, [], []⟩) (.bool false))
end Go.Proofs.YthjamfniihejcaaGreat.moveWaits
