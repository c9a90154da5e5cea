/- What 'quiet.Fair' tells, step by step. No condition. -/
import Derived.Test.YtjgflopikppagaaGreatQFb
import Derived.Test.YtjgflopikppagaaGreatQFairA
namespace Go.Proofs.YtjgflopikppagaaGreat.fair
open Go.Ab Go.Fair
set_option maxHeartbeats 4000000
set_option maxRecDepth 1000000
set_option linter.unusedSimpArgs false
set_option linter.unusedVariables false
def cnt (N : Nat) (W : List Int) : List V := (List.range N).map fun (k : Nat) => V.int .i64 (W.count (k : Int) : Nat)
theorem cnt_len (N : Nat) (W : List Int) : (cnt N W).length = N := by simp [cnt]
theorem cnt_get {N : Nat} {W : List Int} {p : Int} (h0 : 0 ≤ p) (h1 : p < N) : (cnt N W)[p.toNat]? = some (.int .i64 (W.count p : Nat)) := by
  unfold cnt
  rw [List.getElem?_map, List.getElem?_range (by omega)]
  simp [Int.toNat_of_nonneg h0]
theorem cnt_ext {N : Nat} {W W' : List Int} (h : ∀ k : Nat, k < N → W'.count (k : Int) = W.count (k : Int)) : cnt N W' = cnt N W := by
  unfold cnt
  apply List.map_congr_left
  intro k hk
  rw [h k (List.mem_range.1 hk)]
theorem cnt_set {N : Nat} {W W' : List Int} {p : Int} (h0 : 0 ≤ p) (h : ∀ k : Nat, k < N → (k : Int) ≠ p → W'.count (k : Int) = W.count (k : Int)) {x : Int} (hx : x = (W'.count p : Nat)) : (cnt N W).set p.toNat (.int .i64 x) = cnt N W' := by
  apply List.ext_getElem?
  intro j
  unfold cnt
  by_cases hj : j < N
  · by_cases e : p.toNat = j
    · subst e
      rw [List.getElem?_set_self (by simp; omega), List.getElem?_map, List.getElem?_range hj, hx]
      simp [Int.toNat_of_nonneg h0]
    · rw [List.getElem?_set_ne e, List.getElem?_map, List.getElem?_map, List.getElem?_range hj]
      simp only [Option.map_some]
      rw [h j hj (by omega)]
  · rw [List.getElem?_eq_none (by simp; omega), List.getElem?_eq_none (by simp; omega)]
theorem miss_le (n : Nat) (W : List Int) : miss n W ≤ n := by
  unfold miss
  have := List.countP_le_length (p := fun (k : Nat) => W.count (k : Int) == 0) (l := List.range n)
  simpa using this
theorem count_lt {W : List Int} {x : Int} (h : W.length < 1152921504606846976) : W.count x < 1152921504606846976 := Nat.lt_of_le_of_lt List.count_le_length h

theorem step1 {N : Nat} {W : List Int} {p : Int} {b : Pos} {t : T} {h : H} (hN : N ≤ 72) (hW : W.length < 1152921504606846976) (h7 : t.v 7 = .sl b 0 N N none) (h8 : t.v 8 = .int .i64 (miss N W : Nat)) (h10 : t.v 10 = .int .i64 p) (hc : Cells h b (cnt N W)) :
    ∃ t' h', (∀ kn kx, code nS i5S4 EV t h kn kx = kn t' h') ∧ t'.v 8 = .int .i64 (miss N (W ++ [p]) : Nat) ∧ Cells h' b (cnt N (W ++ [p])) ∧ Kp 43 [8] t t' ∧ Mod (fun q => q = b) h h' := by
  have hm := miss_le N W
  have hk := count_lt (x := p) hW
  by_cases h0 : 0 ≤ p
  · by_cases h1 : p < N
    · have hg : ∀ k, o_ld1 (.ptr b p.toNat) h k = k (.int .i64 (W.count p : Nat)) h := fun k => hc.ldv k (cnt_get h0 h1)
      have hst : ∀ (x : Int) (k : K), o_st1 (.ptr b p.toNat) (.int .i64 x) h k = k (.tup []) (h.wn b p.toNat [.int .i64 x]) := fun x k => hc.st k (by rw [cnt_len]; omega) rfl
      have hnew : (cnt N W).set p.toNat (.int .i64 ((W.count p : Nat) + 1)) = cnt N (W ++ [p]) := cnt_set h0 (fun k _ hk => by rw [count_snoc, if_neg (fun e => hk e.symm)]; rfl) (by rw [count_snoc, if_pos rfl]; omega)
      have hcn : Cells (h.wn b p.toNat [.int .i64 ((W.count p : Nat) + 1)]) b (cnt N (W ++ [p])) := by rw [← hnew]; exact hc.w1 (by rw [cnt_len]; omega) rfl
      by_cases hz : W.count p = 0
      · have hma := miss_add (n := N) ⟨h0, h1⟩ hz
        apply to_of
        · intro kn kx; simp (disch := first | decide | omega | exact rfl | (simp only [List.length_cons, List.length_nil] <;> omega)) only [go_sem, i5S4, i5S3, h7, h8, h10, hg, hst]; try exact rfl
        · refine ⟨?ga, hcn, ?gc, Mod.wn _ _ _ _⟩
          case ga => simp (disch := decide) only [go_sem]; congr 1; omega
          case gc => repeat first | exact Kp.refl _ _ _ | refine Kp.st ?_ (by decide)
      · have hma := miss_keep (n := N) (p := p) (W := W) (.inr hz)
        apply to_of
        · intro kn kx; simp (disch := first | decide | omega | exact rfl | (simp only [List.length_cons, List.length_nil] <;> omega)) only [go_sem, i5S4, i5S3, h7, h8, h10, hg, hst]; try exact rfl
        · refine ⟨?ga, hcn, ?gc, Mod.wn _ _ _ _⟩
          case ga => simp (disch := decide) only [go_sem, h8]; rw [hma]
          case gc => repeat first | exact Kp.refl _ _ _ | refine Kp.st ?_ (by decide)
    · have hma := miss_keep (n := N) (p := p) (W := W) (.inl (by omega))
      have hcn : cnt N (W ++ [p]) = cnt N W := cnt_ext fun k hk => by rw [count_snoc, if_neg (by omega)]; rfl
      apply to_of
      · intro kn kx; simp (disch := first | decide | omega | exact rfl | (simp only [List.length_cons, List.length_nil] <;> omega)) only [go_sem, i5S4, i5S3, h7, h8, h10]; try exact rfl
      · refine ⟨?ga, by rw [hcn]; exact hc, ?gc, Mod.refl _⟩
        case ga => simp (disch := decide) only [go_sem, h8]; rw [hma]
        case gc => repeat first | exact Kp.refl _ _ _ | refine Kp.st ?_ (by decide)
  · have hma := miss_keep (n := N) (p := p) (W := W) (.inl (by omega))
    have hcn : cnt N (W ++ [p]) = cnt N W := cnt_ext fun k hk => by rw [count_snoc, if_neg (by omega)]; rfl
    apply to_of
    · intro kn kx; simp (disch := first | decide | omega | exact rfl | (simp only [List.length_cons, List.length_nil] <;> omega)) only [go_sem, i5S4, i5S3, h7, h8, h10]; try exact rfl
    · refine ⟨?ga, by rw [hcn]; exact hc, ?gc, Mod.refl _⟩
      case ga => simp (disch := decide) only [go_sem, h8]; rw [hma]
      case gc => repeat first | exact Kp.refl _ _ _ | refine Kp.st ?_ (by decide)
end Go.Proofs.YtjgflopikppagaaGreat.fair
