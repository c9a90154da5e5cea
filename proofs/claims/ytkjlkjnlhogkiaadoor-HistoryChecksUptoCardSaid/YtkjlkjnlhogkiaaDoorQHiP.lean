/- 'history.ops': one round of its loop. No condition. -/
import Derived.Test.YtkjlkjnlhogkiaaDoorQHiM
namespace Go.Proofs.YtkjlkjnlhogkiaaDoor.hist
open Go.Ab Go.Hist
set_option maxHeartbeats 4000000
set_option maxRecDepth 1000000
set_option linter.unusedSimpArgs false
set_option linter.unusedVariables false
theorem one_int (j : IntKind) (n : Int) : (V.int j n).one = true := (rfl)
theorem lenE (x : Ev) : (rowE x).length = 12 := rfl
theorem lenP (x : Hop) : (rowP x).length = 13 := rfl
theorem lenR (x : Hop) : (rowR x).length = 13 := rfl
abbrev z12 : List V := [(.bool false), (.int .i64 0), (.int .i64 0), (.int .i64 0), (.int .i64 0), (.int .i64 0), (.int .i64 0), (.int .i64 0), (.int .i64 0), (.int .i64 0), (.int .i64 0), (.int .i64 0)]
/-- the event at hand, in a variable of its own -/
theorem new_ev {h : H} {lv : V} {l : List Ev} (hl : Sli h 12 lv (flat rowE l)) {i : Nat} {x : Ev} (e : l[i]? = some x) (ha : Ahead h) :
    ∃ b q h2, (∀ (h' : H) (k : K), o_ixs 12 lv (.int .i64 (i : Int)) h' k = k (.ptr b q) h') ∧ (∀ k : K, o_ldn 12 (.ptr b q) h k = k (.agg (rowE x)) h) ∧
      (∀ k : K, o_ldn 12 (.ptr b q) (h.push (mkO z12)) k = k (.agg (rowE x)) (h.push (mkO z12))) ∧
      (∀ k : K, o_stn 12 (.ptr h.nx 0) (.agg (rowE x)) (h.push (mkO z12)) k = k (.tup []) h2) ∧ Cells h2 h.nx (rowE x) ∧ Mod (fun _ => False) h h2 ∧ Ahead h2 ∧ h2.nx.toNat = h.nx.toNat + 1 := by
  obtain ⟨b, q, hb, hix, hrd, _⟩ := at_row lenE (by decide) hl e
  have hlt : ∀ p, lv.blk p → p ≠ h.nx := fun p hp e => by have := hl.lt hp; subst e; omega
  have hn := Cells.new h z12
  have hw := hn.wn (i := 0) (vs := rowE x) (by simp) (fun v hv => by simp at hv; rcases hv with rfl | rfl | rfl | rfl | rfl | rfl | rfl | rfl | rfl | rfl | rfl | rfl <;> rfl)
  refine ⟨b, q, (h.push (mkO z12)).wn h.nx 0 (rowE x), hix, fun k => ?_, fun k => ?_, fun k => hn.sta k rfl (by simp) (fun v hv => by simp at hv; rcases hv with rfl | rfl | rfl | rfl | rfl | rfl | rfl | rfl | rfl | rfl | rfl | rfl <;> rfl), hw, ?_, ?_, ?_⟩
  · exact (hrd h (fun _ _ => rfl) (Nat.le_refl _)).2 0 12 (rowE x) k (by omega) rfl
  · exact (hrd (h.push (mkO z12)) (fun p hp => H.get_push_ne _ _ _ (hlt p hp)) (Mod.push (M := no1) _ _).nx).2 0 12 (rowE x) k (by omega) rfl
  · refine (Mod.push h _).trans' ((Mod.wn _ _ _ _)) fun q hq he => ?_
    subst he; omega
  · exact (ha.push _).wn (by rw [H.nx_push, Pos.toNat_succ]; omega) _ _
  · rw [H.nx_wn, H.nx_push, Pos.toNat_succ]
end Go.Proofs.YtkjlkjnlhogkiaaDoor.hist
