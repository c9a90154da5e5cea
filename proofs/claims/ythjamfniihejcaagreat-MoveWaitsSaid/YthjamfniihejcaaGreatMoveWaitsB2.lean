/- 'MoveWaits' returns true at these cases: runs by the kernel. No condition. -/
import Derived.Test.YthjamfniihejcaaGreatMoveWaitsP
import Derived.Test.YthjamfniihejcaaGreatMoveWaitsG1
import Derived.KernelRfl
namespace Go.Proofs.YthjamfniihejcaaGreat.moveWaits
open Go.Ab Go.Proofs.YthjamfniihejcaaGreat.ma
theorem pA8 : fA 8 = true := by
  have e : mdD 0 40 8 (hiD 2 1 d0) = [⟨0, 255, [], [(.ofNat 40, .ofNat 8)]⟩, ⟨0, 255, [], []⟩, ⟨0, 0, [], []⟩] := by kernel_rfl
  have ea : mkArgs sh 0 [⟨0, 255, [], [(.ofNat 40, .ofNat 8)]⟩, ⟨0, 255, [], []⟩, ⟨0, 0, [], []⟩] = [.sym .u8 0, .sym .u8 1, (.bool false)] := by kernel_rfl
  show leaf orc FT (100000 + 1) 4 sh [] (mdD 0 40 8 (hiD 2 1 d0)) = true
  rw [e]
  refine leaf_cut (q := q1 (.bool false)) (by rw [ea]; kernel_rfl) (fun k0 => ?_) (by kernel_rfl)
  rw [ea]
  exact script_ok orc_nat (g1 (⟨0, 255, [], [(.ofNat 40, .ofNat 8)]⟩) (⟨0, 255, [], []⟩) (⟨0, 0, [], []⟩) (.bool false))
theorem pA9 : fA 9 = true := by
  have e : mdD 0 40 9 (hiD 2 1 d0) = [⟨0, 255, [], [(.ofNat 40, .ofNat 9)]⟩, ⟨0, 255, [], []⟩, ⟨0, 0, [], []⟩] := by kernel_rfl
  have ea : mkArgs sh 0 [⟨0, 255, [], [(.ofNat 40, .ofNat 9)]⟩, ⟨0, 255, [], []⟩, ⟨0, 0, [], []⟩] = [.sym .u8 0, .sym .u8 1, (.bool false)] := by kernel_rfl
  show leaf orc FT (100000 + 1) 4 sh [] (mdD 0 40 9 (hiD 2 1 d0)) = true
  rw [e]
  refine leaf_cut (q := q1 (.bool false)) (by rw [ea]; kernel_rfl) (fun k0 => ?_) (by kernel_rfl)
  rw [ea]
  exact script_ok orc_nat (g1 (⟨0, 255, [], [(.ofNat 40, .ofNat 9)]⟩) (⟨0, 255, [], []⟩) (⟨0, 0, [], []⟩) (.bool false))
theorem pA10 : fA 10 = true := by
  have e : mdD 0 40 10 (hiD 2 1 d0) = [⟨0, 255, [], [(.ofNat 40, .ofNat 10)]⟩, ⟨0, 255, [], []⟩, ⟨0, 0, [], []⟩] := by kernel_rfl
  have ea : mkArgs sh 0 [⟨0, 255, [], [(.ofNat 40, .ofNat 10)]⟩, ⟨0, 255, [], []⟩, ⟨0, 0, [], []⟩] = [.sym .u8 0, .sym .u8 1, (.bool false)] := by kernel_rfl
  show leaf orc FT (100000 + 1) 4 sh [] (mdD 0 40 10 (hiD 2 1 d0)) = true
  rw [e]
  refine leaf_cut (q := q1 (.bool false)) (by rw [ea]; kernel_rfl) (fun k0 => ?_) (by kernel_rfl)
  rw [ea]
  exact script_ok orc_nat (g1 (⟨0, 255, [], [(.ofNat 40, .ofNat 10)]⟩) (⟨0, 255, [], []⟩) (⟨0, 0, [], []⟩) (.bool false))
theorem pA11 : fA 11 = true := by
  have e : mdD 0 40 11 (hiD 2 1 d0) = [⟨0, 255, [], [(.ofNat 40, .ofNat 11)]⟩, ⟨0, 255, [], []⟩, ⟨0, 0, [], []⟩] := by kernel_rfl
  have ea : mkArgs sh 0 [⟨0, 255, [], [(.ofNat 40, .ofNat 11)]⟩, ⟨0, 255, [], []⟩, ⟨0, 0, [], []⟩] = [.sym .u8 0, .sym .u8 1, (.bool false)] := by kernel_rfl
  show leaf orc FT (100000 + 1) 4 sh [] (mdD 0 40 11 (hiD 2 1 d0)) = true
  rw [e]
  refine leaf_cut (q := q1 (.bool false)) (by rw [ea]; kernel_rfl) (fun k0 => ?_) (by kernel_rfl)
  rw [ea]
  exact script_ok orc_nat (g1 (⟨0, 255, [], [(.ofNat 40, .ofNat 11)]⟩) (⟨0, 255, [], []⟩) (⟨0, 0, [], []⟩) (.bool false))
end Go.Proofs.YthjamfniihejcaaGreat.moveWaits
