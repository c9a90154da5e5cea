/- 'basinref26.Ops': the search, one round of the loop. No condition. -/
import Derived.Test.YtkjlkjnlhogkiaaDoorQHiP3
namespace Go.Proofs.YtkjlkjnlhogkiaaDoor.hist
open Go.Ab Go.Hist
set_option maxHeartbeats 4000000
set_option maxRecDepth 1000000
set_option linter.unusedSimpArgs false
set_option linter.unusedVariables false
/-- the temporaries -/
structure TmR (t : T) (lv s : V) (i : Nat) : Prop where
  t0 : t.v 0 = lv
  t4 : t.v 4 = s
  t5 : t.v 5 = .int .i64 (i : Int)
theorem search_r {l : List Ev} {L : List Hop} {h : H} {lv s : V} (hl : Sli h 12 lv (flat rowE l)) (hs : Sli h 13 s (flat rowR L)) (hL : L.length ≤ 1048576) {i : Nat} {x : Ev} (e : l[i]? = some x) :
    ∀ (r k : Nat), k + r = L.length → ∀ (t : T) (a : Int), TmR t lv s i → t.v 6 = .int .i64 a → t.v 7 = .int .i64 (k : Int) →
      ∃ t', (∀ kn kx, EV.loop i8L3 t h kn kx = kx (some 2) t' h) ∧ t'.v 6 = .int .i64 (oi x.core (L.drop k) k a) ∧ TmR t' lv s i := by
  obtain ⟨n, en, _, hlen⟩ := hs.len
  have hnl : n = L.length := by rw [flat_len lenR] at en; omega
  subst hnl
  obtain ⟨b, q, hb, f1, f2, _⟩ := at_row lenE (by decide) hl e
  have f3 : ∀ k : K, o_ld1 (.ptr b (q + 1)) h k = k (.int .i64 x.core) h := fun k => (f2 h (fun _ _ => rfl) (Nat.le_refl _)).1 1 _ k rfl
  intro r
  induction r with
  | zero =>
    intro k hk t a ⟨t0, t4, t5⟩ t6 t7
    have hd : L.drop k = [] := List.drop_eq_nil_of_le (by omega)
    have hlt : ¬ ((k : Int) < (L.length : Int)) := by omega
    have hh : ∃ t' h', (∀ kn kx, code nS i8L3 EV t h kn kx = kx (some 2) t' h') ∧ h' = h ∧ t'.v 6 = .int .i64 (oi x.core (L.drop k) k a) ∧ TmR t' lv s i := by
      apply to_x
      · intro kn kx
        simp (disch := first | decide | omega | assumption) only [go_sem, i8S1, t4, t7, hlen]
        try exact rfl
      · refine ⟨rfl, ?_, ?_, ?_, ?_⟩
        · rw [hd]; simp (disch := decide) only [go_sem, t6, oi]
        · simp (disch := decide) only [go_sem, t0]
        · simp (disch := decide) only [go_sem, t4]
        · simp (disch := decide) only [go_sem, t5]
    obtain ⟨t', h', e1, e2, e3, e4⟩ := hh
    subst e2
    exact ⟨t', fun kn kx => by rw [EE_loop nS FT (trueOrc_nat 6)]; exact e1 _ _, e3, e4⟩
  | succ r ih =>
    intro k hk t a ⟨t0, t4, t5⟩ t6 t7
    have hlt : (k : Int) < (L.length : Int) := by omega
    have hkl : k < L.length := by omega
    have eo : L[k]? = some L[k] := List.getElem?_eq_getElem hkl
    generalize L[k] = o at eo
    have hd : L.drop k = o :: L.drop (k + 1) := by
      rw [List.drop_eq_getElem_cons hkl, (List.getElem?_eq_some_iff.1 eo).2]
    obtain ⟨ob, oq, hob, g1, g2, _⟩ := at_row lenR (by decide) hs eo
    have g3 : ∀ k : K, o_ld1 (.ptr ob oq) h k = k (.int .i64 o.core) h := fun k => (g2 h (fun _ _ => rfl) (Nat.le_refl _)).1 0 _ k rfl
    have g4 : ∀ k : K, o_ld1 (.ptr ob (oq + 12)) h k = k (.int .i64 o.fin) h := fun k => (g2 h (fun _ _ => rfl) (Nat.le_refl _)).1 12 _ k rfl
    have hh : ∃ t' h', (∀ kn kx, code nS i8L3 EV t h kn kx = kn t' h') ∧ h' = h ∧ t'.v 6 = .int .i64 (if o.core = x.core ∧ o.fin < 0 then (k : Int) else a) ∧ t'.v 7 = .int .i64 ((k : Int) + 1) ∧ TmR t' lv s i := by
      by_cases hc : o.core = x.core
      · by_cases hf : o.fin < 0
        · apply to_of
          · intro kn kx
            simp (disch := first | decide | omega | assumption) only [go_sem, i8S1, i8S2, t0, t4, t5, t6, t7, hlen, f1, f3, g1, g3, g4]
            try exact rfl
          · refine ⟨rfl, ?_, ?_, ?_, ?_, ?_⟩
            · rw [if_pos ⟨hc, hf⟩]; simp (disch := decide) only [go_sem, t7]
            · simp (disch := decide) only [go_sem, t7]
            · simp (disch := decide) only [go_sem, t0]
            · simp (disch := decide) only [go_sem, t4]
            · simp (disch := decide) only [go_sem, t5]
        · apply to_of
          · intro kn kx
            simp (disch := first | decide | omega | assumption) only [go_sem, i8S1, i8S2, t0, t4, t5, t6, t7, hlen, f1, f3, g1, g3, g4]
            try exact rfl
          · refine ⟨rfl, ?_, ?_, ?_, ?_, ?_⟩
            · rw [if_neg (fun h => hf h.2)]; simp (disch := decide) only [go_sem, t6]
            · simp (disch := decide) only [go_sem, t7]
            · simp (disch := decide) only [go_sem, t0]
            · simp (disch := decide) only [go_sem, t4]
            · simp (disch := decide) only [go_sem, t5]
      · apply to_of
        · intro kn kx
          simp (disch := first | decide | omega | assumption) only [go_sem, i8S1, i8S2, t0, t4, t5, t6, t7, hlen, f1, f3, g1, g3, g4]
          try exact rfl
        · refine ⟨rfl, ?_, ?_, ?_, ?_, ?_⟩
          · rw [if_neg (fun h => hc h.1)]; simp (disch := decide) only [go_sem, t6]
          · simp (disch := decide) only [go_sem, t7]
          · simp (disch := decide) only [go_sem, t0]
          · simp (disch := decide) only [go_sem, t4]
          · simp (disch := decide) only [go_sem, t5]
    obtain ⟨t1, h1, e1, e2, e3, e4, e5⟩ := hh
    subst e2
    obtain ⟨t2, d1, d2, d3⟩ := ih (k + 1) (by omega) t1 _ e5 e3 (by rw [e4]; simp)
    refine ⟨t2, fun kn kx => ?_, ?_, d3⟩
    · rw [EE_loop nS FT (trueOrc_nat 6), e1]; exact d1 _ _
    · rw [d2, hd]; rfl
end Go.Proofs.YtkjlkjnlhogkiaaDoor.hist
