/- What 'quiet.Bound' and 'basinref16.May' tell. No condition. -/
import Derived.Test.YtjgflopikppagaaGreatQFa
import Derived.Test.YtjgflopikppagaaGreatLc
set_option linter.unusedSimpArgs false
set_option linter.unusedVariables false
namespace Go.Proofs.YtjgflopikppagaaGreat.fair
open Go.Ab
noncomputable abbrev EV : Env := EE nS (trueOrc 6) FT
theorem cl12 (a b c : V) (h : H) (k : K) : EV.call 12 [a, b, c] h k = code nS i12 EV (ofL [a, b, c] 0 .nil) h (o_kn [(.of 6, none, false)] k) (o_kx [(.of 6, none, false)] k) := cl_eq (trueOrc_nat 6) fn12 rfl rfl k
theorem cl7 (a : V) (h : H) (k : K) : EV.call 7 [a] h k = code nS i7 EV (ofL [a] 0 .nil) h (o_kn [(.of 2, none, false)] k) (o_kx [(.of 2, none, false)] k) := cl_eq (trueOrc_nat 6) fn7 rfl rfl k
theorem cl4 (a : V) (h : H) (k : K) : EV.call 4 [a] h k = code nS i4 EV (ofL [a] 0 .nil) h (o_kn [(.of 2, none, false)] k) (o_kx [(.of 2, none, false)] k) := cl_eq (trueOrc_nat 6) fn4 rfl rfl k
set_option maxHeartbeats 4000000
set_option maxRecDepth 1000000
theorem within_c (a b c : Int) (h : H) (k : K) : EV.call 12 [.int .i64 a, .int .i64 b, .int .i64 c] h k = k (.bool (decide (b ≤ a ∧ a ≤ c))) h := by
  rw [cl12]
  by_cases h1 : b ≤ a
  · by_cases h2 : a ≤ c
    · simp (disch := first | decide | omega | exact rfl | (simp only [List.length_cons, List.length_nil] <;> omega)) only [go_sem]
      simp [h1, h2]
    · simp (disch := first | decide | omega | exact rfl | (simp only [List.length_cons, List.length_nil] <;> omega)) only [go_sem]
      simp [h1, h2]
  · simp (disch := first | decide | omega | exact rfl | (simp only [List.length_cons, List.length_nil] <;> omega)) only [go_sem]
    simp [h1]
abbrev cfg (n c f l t : Int) (hu : Bool) : List V := [.int .i64 n, .int .i64 c, .int .i64 f, .int .i64 l, .int .i64 t, .bool hu]
def may (n c f l t : Int) : Prop := 1 ≤ n ∧ n ≤ 8 ∧ 1 ≤ c ∧ c ≤ 64 ∧ 1 ≤ f ∧ f ≤ 1024 ∧ c ≤ l ∧ l ≤ 1024 ∧ 1 ≤ t ∧ t ≤ 64
instance (n c f l t : Int) : Decidable (may n c f l t) := by unfold may; infer_instance
theorem may_c (n c f l t : Int) (hu : Bool) (h : H) (k : K) : EV.call 4 [.agg (cfg n c f l t hu)] h k = k (.bool (decide (may n c f l t))) (h.push (mkO (cfg n c f l t hu))) := by
  have hc := Cells.new h (cfg n c f l t hu)
  rw [cl4]
  by_cases h0 : 1 ≤ n
  case neg =>
    rw [decide_eq_false (show ¬ may n c f l t by unfold may; omega)]
    simp (disch := first | decide | omega | exact rfl | (simp only [List.length_cons, List.length_nil] <;> omega)) only [go_sem, hc.ld]
  by_cases h1 : n ≤ 8
  case neg =>
    rw [decide_eq_false (show ¬ may n c f l t by unfold may; omega)]
    simp (disch := first | decide | omega | exact rfl | (simp only [List.length_cons, List.length_nil] <;> omega)) only [go_sem, hc.ld]
  by_cases h2 : 1 ≤ c
  case neg =>
    rw [decide_eq_false (show ¬ may n c f l t by unfold may; omega)]
    simp (disch := first | decide | omega | exact rfl | (simp only [List.length_cons, List.length_nil] <;> omega)) only [go_sem, hc.ld]
  by_cases h3 : c ≤ 64
  case neg =>
    rw [decide_eq_false (show ¬ may n c f l t by unfold may; omega)]
    simp (disch := first | decide | omega | exact rfl | (simp only [List.length_cons, List.length_nil] <;> omega)) only [go_sem, hc.ld]
  by_cases h4 : 1 ≤ f
  case neg =>
    rw [decide_eq_false (show ¬ may n c f l t by unfold may; omega)]
    simp (disch := first | decide | omega | exact rfl | (simp only [List.length_cons, List.length_nil] <;> omega)) only [go_sem, hc.ld]
  by_cases h5 : f ≤ 1024
  case neg =>
    rw [decide_eq_false (show ¬ may n c f l t by unfold may; omega)]
    simp (disch := first | decide | omega | exact rfl | (simp only [List.length_cons, List.length_nil] <;> omega)) only [go_sem, hc.ld]
  by_cases h6 : c ≤ l
  case neg =>
    rw [decide_eq_false (show ¬ may n c f l t by unfold may; omega)]
    simp (disch := first | decide | omega | exact rfl | (simp only [List.length_cons, List.length_nil] <;> omega)) only [go_sem, hc.ld]
  by_cases h7 : l ≤ 1024
  case neg =>
    rw [decide_eq_false (show ¬ may n c f l t by unfold may; omega)]
    simp (disch := first | decide | omega | exact rfl | (simp only [List.length_cons, List.length_nil] <;> omega)) only [go_sem, hc.ld]
  by_cases h8 : 1 ≤ t
  case neg =>
    rw [decide_eq_false (show ¬ may n c f l t by unfold may; omega)]
    simp (disch := first | decide | omega | exact rfl | (simp only [List.length_cons, List.length_nil] <;> omega)) only [go_sem, hc.ld]
  by_cases h9 : t ≤ 64
  case neg =>
    rw [decide_eq_false (show ¬ may n c f l t by unfold may; omega)]
    simp (disch := first | decide | omega | exact rfl | (simp only [List.length_cons, List.length_nil] <;> omega)) only [go_sem, hc.ld]
    rw [decide_eq_false h9]
  rw [decide_eq_true (show may n c f l t by unfold may; omega)]
  simp (disch := first | decide | omega | exact rfl | (simp only [List.length_cons, List.length_nil] <;> omega)) only [go_sem, hc.ld]
  rw [decide_eq_true h9]
theorem bound_c (n c f l t : Int) (hu : Bool) : ∃ v : Int, (v = 0 ↔ ¬ may n c f l t) ∧ ∀ (h : H) (k : K), EV.call 7 [.agg (cfg n c f l t hu)] h k = k (.int .i64 v) (h.push (mkO (cfg n c f l t hu))) := by
  by_cases h0 : 1 ≤ n ∧ n ≤ 8
  case neg =>
    refine ⟨0, by unfold may; simp; omega, fun h k => ?_⟩
    have hc := Cells.new h (cfg n c f l t hu)
    rw [cl7]
    simp (disch := first | decide | omega | exact rfl | (simp only [List.length_cons, List.length_nil] <;> omega)) only [go_sem, hc.ld, within_c, i7S0]
  by_cases h1 : 1 ≤ c ∧ c ≤ 64
  case neg =>
    refine ⟨0, by unfold may; simp; omega, fun h k => ?_⟩
    have hc := Cells.new h (cfg n c f l t hu)
    rw [cl7]
    simp (disch := first | decide | omega | exact rfl | (simp only [List.length_cons, List.length_nil] <;> omega)) only [go_sem, hc.ld, within_c, i7S0]
  by_cases h2 : 1 ≤ f ∧ f ≤ 1024
  case neg =>
    refine ⟨0, by unfold may; simp; omega, fun h k => ?_⟩
    have hc := Cells.new h (cfg n c f l t hu)
    rw [cl7]
    simp (disch := first | decide | omega | exact rfl | (simp only [List.length_cons, List.length_nil] <;> omega)) only [go_sem, hc.ld, within_c, i7S0]
  by_cases h3 : c ≤ l ∧ l ≤ 1024
  case neg =>
    refine ⟨0, by unfold may; simp; omega, fun h k => ?_⟩
    have hc := Cells.new h (cfg n c f l t hu)
    rw [cl7]
    simp (disch := first | decide | omega | exact rfl | (simp only [List.length_cons, List.length_nil] <;> omega)) only [go_sem, hc.ld, within_c, i7S0]
  by_cases h4 : 1 ≤ t ∧ t ≤ 64
  case neg =>
    refine ⟨0, by unfold may; simp; omega, fun h k => ?_⟩
    have hc := Cells.new h (cfg n c f l t hu)
    rw [cl7]
    simp (disch := first | decide | omega | exact rfl | (simp only [List.length_cons, List.length_nil] <;> omega)) only [go_sem, hc.ld, within_c, i7S0]
  have m1 : 0 ≤ 16 * c := by omega
  have m2 : 16 * c * (n + c + 32) ≤ 1024 * 104 := Int.mul_le_mul (by omega) (by omega) (by omega) (by omega)
  have m3 : 0 ≤ 16 * c * (n + c + 32) := Int.mul_nonneg (by omega) (by omega)
  refine ⟨64 + 16 * c * (n + c + 32), by unfold may; omega, fun h k => ?_⟩
  have hc := Cells.new h (cfg n c f l t hu)
  rw [cl7]
  simp (disch := first | decide | omega | exact rfl | (simp only [List.length_cons, List.length_nil] <;> omega)) only [go_sem, hc.ld, within_c, i7S0, o_mul]
end Go.Proofs.YtjgflopikppagaaGreat.fair
