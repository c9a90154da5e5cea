/- What 'quiet.Fair' tells: the loop. No condition. -/
import Derived.Test.YtjgflopikppagaaGreatQFc
namespace Go.Proofs.YtjgflopikppagaaGreat.fair
open Go.Ab Go.Fair
set_option maxHeartbeats 4000000
set_option maxRecDepth 1000000
set_option linter.unusedSimpArgs false
set_option linter.unusedVariables false
def ints (l : List Int) : List V := l.map fun x => V.int .i64 x
theorem ints_get {l : List Int} {i : Nat} (h : i < l.length) : (ints l)[i]? = some (.int .i64 l[i]) := by simp [ints, h]
theorem step2 {N n : Nat} {l W W2 : List Int} {w : Int} {m : Nat} {b : Pos} {s : V} {t : T} {h : H} (hN : N ≤ 72) (hW : W.length < 1152921504606846976) (hm : m < l.length) (hl : l.length < 1152921504606846976) (hw : 1 ≤ w) (h1 : t.v 1 = s) (h2 : t.v 2 = .int .i64 w) (h9 : t.v 9 = .int .i64 (m : Nat)) (h7 : t.v 7 = .sl b 0 N N none)
    (h8 : t.v 8 = .int .i64 (miss N W : Nat)) (hc : Cells h b (cnt N W)) (hs : Sli h 1 s (ints l)) (a1 : (m : Int) < w → W2 = W) (a2 : ∀ (q : w ≤ (m : Int)), W = l[m - w.toNat]'(by omega) :: W2) :
    ∃ t' h', (∀ kn kx, code nS i5S5 EV t h kn kx = kn t' h') ∧ t'.v 8 = .int .i64 (miss N W2 : Nat) ∧ Cells h' b (cnt N W2) ∧ Kp 43 [8, 11] t t' ∧ Mod (fun q => q = b) h h' := by
  have hml := miss_le N W
  by_cases hq : w ≤ (m : Int)
  case neg =>
    have e := a1 (by omega); subst e
    apply to_of
    · intro kn kx; simp (disch := first | decide | omega | exact rfl | (simp only [List.length_cons, List.length_nil] <;> omega)) only [go_sem, i5S5, h1, h2, h9, h7, h8]; try exact rfl
    · refine ⟨?ga, hc, ?gc, Mod.refl _⟩
      case ga => simp (disch := decide) only [go_sem, h8]
      case gc => repeat first | exact Kp.refl _ _ _ | refine Kp.st ?_ (by decide)
  have e := a2 hq
  generalize ho : l[m - w.toNat]'(by omega) = o at e
  have hget : (ints l)[((m : Int) - w).toNat]? = some (.int .i64 o) := by
    rw [show ((m : Int) - w).toNat = m - w.toNat by omega, ints_get (by omega), ho]
  obtain ⟨bl, ql, hx, hy, hz⟩ := hs.at (i := (m : Int) - w) (by omega) hget
  have hk := count_lt (x := o) hW
  have hcp : ∀ k : Int, W.count k = W2.count k + if o = k then 1 else 0 := fun k => by rw [e, count_tail]
  by_cases h0 : 0 ≤ o
  case neg =>
    have hmd := miss_dkeep (n := N) (a := o) (W := W2) (.inl (by omega))
    have hcn : cnt N W2 = cnt N W := cnt_ext fun k hk => by rw [hcp, if_neg (by omega)]; rfl
    apply to_of
    · intro kn kx; simp (disch := first | decide | omega | exact rfl | (simp only [List.length_cons, List.length_nil] <;> omega)) only [go_sem, i5S5, h1, h2, h9, h7, h8, hx, hy]; try exact rfl
    · refine ⟨?ga, by rw [hcn]; exact hc, ?gc, Mod.refl _⟩
      case ga => simp (disch := decide) only [go_sem, h8]; rw [hmd, ← e]
      case gc => repeat first | exact Kp.refl _ _ _ | refine Kp.st ?_ (by decide)
  by_cases h3 : o < N
  case neg =>
    have hmd := miss_dkeep (n := N) (a := o) (W := W2) (.inl (by omega))
    have hcn : cnt N W2 = cnt N W := cnt_ext fun k hk => by rw [hcp, if_neg (by omega)]; rfl
    apply to_of
    · intro kn kx; simp (disch := first | decide | omega | exact rfl | (simp only [List.length_cons, List.length_nil] <;> omega)) only [go_sem, i5S5, h1, h2, h9, h7, h8, hx, hy]; try exact rfl
    · refine ⟨?ga, by rw [hcn]; exact hc, ?gc, Mod.refl _⟩
      case ga => simp (disch := decide) only [go_sem, h8]; rw [hmd, ← e]
      case gc => repeat first | exact Kp.refl _ _ _ | refine Kp.st ?_ (by decide)
  have hco := hcp o
  rw [if_pos rfl] at hco
  have hg : ∀ k, o_ld1 (.ptr b o.toNat) h k = k (.int .i64 (W.count o : Nat)) h := fun k => hc.ldv k (cnt_get h0 h3)
  have hst : ∀ (x : Int) (k : K), o_st1 (.ptr b o.toNat) (.int .i64 x) h k = k (.tup []) (h.wn b o.toNat [.int .i64 x]) := fun x k => hc.st k (by rw [cnt_len]; omega) rfl
  have hnew : (cnt N W).set o.toNat (.int .i64 ((W.count o : Nat) - 1)) = cnt N W2 := cnt_set h0 (fun k _ hk => by rw [hcp, if_neg (fun e => hk e.symm)]; rfl) (by omega)
  have hcn : Cells (h.wn b o.toNat [.int .i64 ((W.count o : Nat) - 1)]) b (cnt N W2) := by rw [← hnew]; exact hc.w1 (by rw [cnt_len]; omega) rfl
  have hg2 : ∀ k, o_ld1 (.ptr b o.toNat) (h.wn b o.toNat [.int .i64 ((W.count o : Nat) - 1)]) k = k (.int .i64 (W2.count o : Nat)) _ := fun k => hcn.ldv k (cnt_get h0 h3)
  by_cases h4 : W2.count o = 0
  · have hmd := miss_drop (n := N) (a := o) (W := W2) ⟨h0, h3⟩ h4
    rw [← e] at hmd
    apply to_of
    · intro kn kx; simp (disch := first | decide | omega | exact rfl | (simp only [List.length_cons, List.length_nil] <;> omega)) only [go_sem, i5S5, h1, h2, h9, h7, h8, hx, hy, hg, hst, hg2]; try exact rfl
    · refine ⟨?ga, hcn, ?gc, Mod.wn _ _ _ _⟩
      case ga => simp (disch := decide) only [go_sem, h8]; congr 1; omega
      case gc => repeat first | exact Kp.refl _ _ _ | refine Kp.st ?_ (by decide)
  · have hmd := miss_dkeep (n := N) (a := o) (W := W2) (.inr h4)
    rw [← e] at hmd
    apply to_of
    · intro kn kx; simp (disch := first | decide | omega | exact rfl | (simp only [List.length_cons, List.length_nil] <;> omega)) only [go_sem, i5S5, h1, h2, h9, h7, h8, hx, hy, hg, hst, hg2]; try exact rfl
    · refine ⟨?ga, hcn, ?gc, Mod.wn _ _ _ _⟩
      case ga => simp (disch := decide) only [go_sem, h8]; rw [hmd]
      case gc => repeat first | exact Kp.refl _ _ _ | refine Kp.st ?_ (by decide)

/-- a round, at m -/
def bad (N : Nat) (l : List Int) (w : Int) (m : Nat) : Prop := w - 1 ≤ (m : Int) ∧ 0 < miss N (win l w.toNat (m + 1))
theorem round {N : Nat} {l : List Int} {w : Int} {m : Nat} {b : Pos} {s : V} {t : T} {h : H} (hN : N ≤ 72) (hm : m < l.length) (hl : l.length < 576460752303423488) (hw : 1 ≤ w) (hw2 : w < 4611686018427387904) (h1 : t.v 1 = s) (h2 : t.v 2 = .int .i64 w) (h7 : t.v 7 = .sl b 0 N N none)
    (h8 : t.v 8 = .int .i64 (miss N (win l w.toNat m) : Nat)) (h40 : t.v 40 = s) (h42 : t.v 42 = .int .i64 (m : Nat)) (hc : Cells h b (cnt N (win l w.toNat m))) (hs : Sli h 1 s (ints l)) (hb : ¬ s.blk b) :
    ∃ t' h', Mod (fun q => q = b) h h' ∧ ((bad N l w m ∧ t'.v 6 = .bool false ∧ ∀ kn kx, code nS i5S6 EV t h kn kx = kx none t' h') ∨
      (¬ bad N l w m ∧ (∀ kn kx, code nS i5S6 EV t h kn kx = kn t' h') ∧ t'.v 8 = .int .i64 (miss N (win l w.toNat (m + 1)) : Nat) ∧ Cells h' b (cnt N (win l w.toNat (m + 1))) ∧ Kp 43 [6, 8, 9, 10, 11] t t')) := by
  obtain ⟨bl, ql, hx, hy, hz⟩ := hs.at (i := (m : Int)) (by omega) (ints_get hm)
  have hwl : (win l w.toNat m).length ≤ l.length := by unfold win; simp; omega
  have g := step1 (p := l[m]) (W := win l w.toNat m) (t := ((((t.st 44 (.int .i64 (m : Nat))).st 45 (.ptr bl ql)).st 46 (.int .i64 l[m])).st 9 (.int .i64 (m : Nat))).st 10 (.int .i64 l[m])) (h := h) hN (by omega)
    (by simp (disch := decide) only [go_sem, h7]) (by simp (disch := decide) only [go_sem, h8]) (by simp (disch := decide) only [go_sem]) hc
  obtain ⟨t1, g1, e1, e2, e3, e4, e5⟩ := g
  have k1 : t1.v 1 = s := by rw [e4 1 (by decide) (by decide)]; simp (disch := decide) only [go_sem, h1]
  have k2 : t1.v 2 = .int .i64 w := by rw [e4 2 (by decide) (by decide)]; simp (disch := decide) only [go_sem, h2]
  have k7 : t1.v 7 = .sl b 0 N N none := by rw [e4 7 (by decide) (by decide)]; simp (disch := decide) only [go_sem, h7]
  have k9 : t1.v 9 = .int .i64 (m : Nat) := by rw [e4 9 (by decide) (by decide)]; simp (disch := decide) only [go_sem]
  have hs1 : Sli g1 1 s (ints l) := hs.mod e5 fun q hq e => hb (e ▸ hq)
  obtain ⟨t2, g2, f1, f2, f3, f4, f5⟩ := step2 (W := win l w.toNat m ++ [l[m]]) (W2 := win l w.toNat (m + 1)) (N := N) (n := 0) (l := l) (w := w) (m := m) hN (by simp; omega) hm (by omega) hw k1 k2 k9 k7 e2 e3 hs1
    (fun q => win_lo hm (by omega)) (fun q => (win_hi hm (by omega)).symm)
  have q6 : Kp 43 [6, 8, 9, 10, 11] t t2 := by
    refine Kp.trans (b := t1) (Kp.trans (b := ((((t.st 44 (.int .i64 (m : Nat))).st 45 (.ptr bl ql)).st 46 (.int .i64 l[m])).st 9 (.int .i64 (m : Nat))).st 10 (.int .i64 l[m])) ?_ (e4.weaken (by decide) (by decide))) (f4.weaken (by decide) (by decide))
    repeat first | exact Kp.refl _ _ _ | refine Kp.st ?_ (by decide)
  have m2 : t2.v 2 = .int .i64 w := by rw [f4 2 (by decide) (by decide), k2]
  have m9 : t2.v 9 = .int .i64 (m : Nat) := by rw [f4 9 (by decide) (by decide), k9]
  have hml := miss_le N (win l w.toNat (m + 1))
  by_cases c1 : w - 1 ≤ (m : Int)
  · by_cases c2 : 0 < miss N (win l w.toNat (m + 1))
    · obtain ⟨t3, g3, r1, r2, rfl⟩ : ∃ t' h', (∀ kn kx, code nS i5S6 EV t h kn kx = kx none t' h') ∧ t'.v 6 = .bool false ∧ h' = g2 := by
        apply to_x
        · intro kn kx; simp (disch := first | decide | omega | exact rfl | (simp only [List.length_cons, List.length_nil] <;> omega)) only [go_sem, i5S6, h1, h2, h40, h42, hx, hy, e1, f1, m2, m9, f2]; try exact rfl
        · exact ⟨by simp (disch := decide) only [go_sem], rfl⟩
      exact ⟨t3, g3, e5.trans f5, .inl ⟨⟨c1, c2⟩, r2, r1⟩⟩
    · obtain ⟨t3, g3, r1, r2, r3, rfl⟩ : ∃ t' h', (∀ kn kx, code nS i5S6 EV t h kn kx = kn t' h') ∧ t'.v 8 = .int .i64 (miss N (win l w.toNat (m + 1)) : Nat) ∧ Kp 43 [6, 8, 9, 10, 11] t2 t' ∧ h' = g2 := by
        apply to_of
        · intro kn kx; simp (disch := first | decide | omega | exact rfl | (simp only [List.length_cons, List.length_nil] <;> omega)) only [go_sem, i5S6, h1, h2, h40, h42, hx, hy, e1, f1, m2, m9, f2]; try exact rfl
        · refine ⟨?ga, ?gc, rfl⟩
          case ga => simp (disch := decide) only [go_sem, f2]
          case gc => repeat first | exact Kp.refl _ _ _ | refine Kp.st ?_ (by decide)
      exact ⟨t3, g3, e5.trans f5, .inr ⟨fun x => c2 x.2, r1, r2, f3, q6.trans r3⟩⟩
  · obtain ⟨t3, g3, r1, r2, r3, rfl⟩ : ∃ t' h', (∀ kn kx, code nS i5S6 EV t h kn kx = kn t' h') ∧ t'.v 8 = .int .i64 (miss N (win l w.toNat (m + 1)) : Nat) ∧ Kp 43 [6, 8, 9, 10, 11] t2 t' ∧ h' = g2 := by
      apply to_of
      · intro kn kx; simp (disch := first | decide | omega | exact rfl | (simp only [List.length_cons, List.length_nil] <;> omega)) only [go_sem, i5S6, h1, h2, h40, h42, hx, hy, e1, f1, m2, m9, f2]; try exact rfl
      · refine ⟨?ga, ?gc, rfl⟩
        case ga => simp (disch := decide) only [go_sem, f2]
        case gc => repeat first | exact Kp.refl _ _ _ | refine Kp.st ?_ (by decide)
    exact ⟨t3, g3, e5.trans f5, .inr ⟨fun x => c1 x.1, r1, r2, f3, q6.trans r3⟩⟩
end Go.Proofs.YtjgflopikppagaaGreat.fair
