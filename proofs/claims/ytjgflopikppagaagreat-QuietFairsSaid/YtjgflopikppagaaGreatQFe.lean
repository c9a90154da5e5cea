/- What 'quiet.Fair' tells. No condition. -/
import Derived.Test.YtjgflopikppagaaGreatQFd
namespace Go.Proofs.YtjgflopikppagaaGreat.fair
open Go.Ab Go.Fair
set_option maxHeartbeats 4000000
set_option maxRecDepth 1000000
set_option linter.unusedSimpArgs false
set_option linter.unusedVariables false
/-- the loop, from m on -/
theorem rounds {N : Nat} {l : List Int} {w : Int} {b : Pos} {s : V} (hN : N ≤ 72) (hl : l.length < 576460752303423488) (hw : 1 ≤ w) (hw2 : w < 4611686018427387904) (hb : ¬ s.blk b) : ∀ (d m : Nat) (t : T) (h : H), m + d = l.length → t.v 1 = s → t.v 2 = .int .i64 w → t.v 7 = .sl b 0 N N none →
    t.v 8 = .int .i64 (miss N (win l w.toNat m) : Nat) → t.v 40 = s → t.v 41 = .int .i64 (l.length : Nat) → t.v 42 = .int .i64 (m : Nat) → Cells h b (cnt N (win l w.toNat m)) → Sli h 1 s (ints l) →
    ∃ t' h', Mod (fun q => q = b) h h' ∧ (((∃ j, m ≤ j ∧ j < l.length ∧ bad N l w j) ∧ t'.v 6 = .bool false ∧ ∀ kn kx, EV.loop i5L7 t h kn kx = kx none t' h') ∨
      ((¬ ∃ j, m ≤ j ∧ j < l.length ∧ bad N l w j) ∧ ∀ kn kx, EV.loop i5L7 t h kn kx = kx (some 1) t' h'))
  | 0, m, t, h, hd, h1, h2, h7, h8, h40, h41, h42, hc, hs => by
    obtain ⟨t3, g3, r1, rfl⟩ : ∃ t' h', (∀ kn kx, code nS i5L7 EV t h kn kx = kx (some 1) t' h') ∧ h' = h := by
      apply to_x
      · intro kn kx; simp (disch := first | decide | omega | exact rfl | (simp only [List.length_cons, List.length_nil] <;> omega)) only [go_sem, i5S2, h41, h42]; try exact rfl
      · rfl
    exact ⟨t3, g3, Mod.refl _, .inr ⟨fun ⟨j, j1, j2, _⟩ => by omega, fun kn kx => by rw [EE_loop nS FT (trueOrc_nat 6), r1]⟩⟩
  | d + 1, m, t, h, hd, h1, h2, h7, h8, h40, h41, h42, hc, hs => by
    have hm : m < l.length := by omega
    let t0 := t.st 43 (.bool (decide ((m : Int) < (l.length : Nat))))
    have v0 : ∀ q, q < 43 → t0.v q = t.v q := fun q hq => Tr.v_ne' _ _ (by omega)
    obtain ⟨t1, g1, e1, e2⟩ := round (t := t0) hN hm hl hw hw2 (by rw [v0 1 (by decide), h1]) (by rw [v0 2 (by decide), h2]) (by rw [v0 7 (by decide), h7]) (by rw [v0 8 (by decide), h8]) (by rw [v0 40 (by decide), h40]) (by rw [v0 42 (by decide), h42]) hc hs hb
    rcases e2 with ⟨f1, f2, f3⟩ | ⟨f1, f2, f3, f4, f5⟩
    · refine ⟨t1, g1, e1, .inl ⟨⟨m, Nat.le_refl _, hm, f1⟩, f2, fun kn kx => ?_⟩⟩
      rw [EE_loop nS FT (trueOrc_nat 6)]
      show code nS i5L7 EV t h _ kx = _
      have f3' : ∀ kn kx, code nS i5S6 EV (t.st 43 (.bool (decide ((m : Int) < (l.length : Nat))))) h kn kx = kx none t1 g1 := f3
      simp (disch := first | decide | omega | exact rfl | (simp only [List.length_cons, List.length_nil] <;> omega)) only [go_sem, i5S2, h41, h42, f3']
    · have f2' : ∀ kn kx, code nS i5S6 EV (t.st 43 (.bool (decide ((m : Int) < (l.length : Nat))))) h kn kx = kn t1 g1 := f2
      have k : ∀ q, q < 43 → q ∉ [6, 8, 9, 10, 11] → t1.v q = t.v q := fun q h1 h2 => (f5 q h1 h2).trans (v0 q h1)
      have k42 : t1.v 42 = .int .i64 (m : Nat) := by rw [k 42 (by decide) (by decide), h42]
      let t2 := (t1.st 106 (.int .i64 ((m : Int) + 1))).st 42 (.int .i64 ((m : Int) + 1))
      have v2 : ∀ q, q < 42 → t2.v q = t1.v q := fun q hq => by
        show ((t1.st 106 _).st 42 _).v q = _
        rw [Tr.v_ne' _ _ (by omega), Tr.v_ne' _ _ (by omega)]
      obtain ⟨t3, g3, q1, q2⟩ := rounds hN hl hw hw2 hb d (m + 1) t2 g1 (by omega) (by rw [v2 1 (by decide), k 1 (by decide) (by decide), h1]) (by rw [v2 2 (by decide), k 2 (by decide) (by decide), h2]) (by rw [v2 7 (by decide), k 7 (by decide) (by decide), h7])
        (by rw [v2 8 (by decide), f3]) (by rw [v2 40 (by decide), k 40 (by decide) (by decide), h40]) (by rw [v2 41 (by decide), k 41 (by decide) (by decide), h41]) (by show ((t1.st 106 _).st 42 _).v 42 = _; rw [Tr.v_same]; rfl) f4 (hs.mod e1 fun q hq e => hb (e ▸ hq))
      have go : ∀ kn kx, EV.loop i5L7 t h kn kx = EV.loop i5L7 t2 g1 kn kx := fun kn kx => by
        rw [EE_loop nS FT (trueOrc_nat 6)]
        show code nS i5L7 EV t h (fun t h => EV.loop i5L7 t h kn kx) kx = _
        generalize hk : (fun t h => EV.loop i5L7 t h kn kx) = kk
        rw [show EV.loop i5L7 t2 g1 kn kx = kk t2 g1 by rw [← hk]]
        simp (disch := first | decide | omega | exact rfl | (simp only [List.length_cons, List.length_nil] <;> omega)) only [go_sem, i5S2, h41, h42, f2', k42]; try exact rfl
      rcases q2 with ⟨⟨j, j1, j2, j3⟩, q3, q4⟩ | ⟨q3, q4⟩
      · exact ⟨t3, g3, e1.trans q1, .inl ⟨⟨j, by omega, j2, j3⟩, q3, fun kn kx => by rw [go, q4]⟩⟩
      · refine ⟨t3, g3, e1.trans q1, .inr ⟨fun ⟨j, j1, j2, j3⟩ => ?_, fun kn kx => by rw [go, q4]⟩⟩
        rcases Nat.lt_or_ge m j with hj | hj
        · exact q3 ⟨j, by omega, j2, j3⟩
        · obtain rfl : j = m := by omega
          exact f1 j3

theorem cl5 (a b c : V) (h : H) (k : K) : EV.call 5 [a, b, c] h k = code nS i5 EV (ofL [a, b, c] 0 .nil) h (o_kn [(.of 6, none, false)] k) (o_kx [(.of 6, none, false)] k) := cl_eq (trueOrc_nat 6) fn5 rfl rfl k
/-- fair picks -/
def Fair (n c f lg tl : Int) (l : List Int) (w : Int) : Prop := 1 ≤ w ∧ may n c f lg tl ∧ ((l.length : Int) < w ∨ (c + n ≤ w ∧ ¬ ∃ j, 0 ≤ j ∧ j < l.length ∧ bad (c + n).toNat l w j))
theorem fair_c {n c f lg tl w : Int} {hu : Bool} {l : List Int} {s : V} {h : H} (hs : Sli h 1 s (ints l)) (hl : l.length < 576460752303423488) (hw : w < 9223372036854775808) : ∃ (h' : H) (r : Bool), (r = true ↔ Fair n c f lg tl l w) ∧ Mod (fun _ => False) h h' ∧ ∀ k, EV.call 5 [.agg (cfg n c f lg tl hu), s, .int .i64 w] h k = k (.bool r) h' := by
  obtain ⟨v, v1, v2⟩ := bound_c n c f lg tl hu
  have hc := Cells.new h (cfg n c f lg tl hu)
  obtain ⟨len, el, _, ol⟩ := hs.len
  obtain rfl : len = l.length := by simpa [ints] using el.symm
  by_cases c1 : 1 ≤ w
  case neg =>
    refine ⟨_, false, by simp [Fair, c1], Mod.push (M := fun _ => False) h (mkO (cfg n c f lg tl hu)), fun k => ?_⟩
    rw [cl5]
    simp (disch := first | decide | omega | exact rfl | (simp only [List.length_cons, List.length_nil] <;> omega)) only [go_sem, i5S0]
  by_cases c2 : may n c f lg tl
  case neg =>
    have v0 := v1.2 c2
    refine ⟨_, false, by simp [Fair, c2], (Mod.push (M := fun _ => False) h (mkO (cfg n c f lg tl hu))).trans (Mod.push _ (mkO (cfg n c f lg tl hu))), fun k => ?_⟩
    rw [cl5]
    simp (disch := first | decide | omega | exact rfl | (simp only [List.length_cons, List.length_nil] <;> omega)) only [go_sem, i5S0, hc.lda, v2]
  have v0 : v ≠ 0 := fun e => v1.1 e c2
  have hb : 1 ≤ n ∧ n ≤ 8 ∧ 1 ≤ c ∧ c ≤ 64 := by unfold may at c2; omega
  by_cases c3 : (l.length : Int) < w
  · refine ⟨_, true, by simp [Fair, c1, c2, c3], (Mod.push (M := fun _ => False) h (mkO (cfg n c f lg tl hu))).trans (Mod.push _ (mkO (cfg n c f lg tl hu))), fun k => ?_⟩
    rw [cl5]
    simp (disch := first | decide | omega | exact rfl | (simp only [List.length_cons, List.length_nil] <;> omega)) only [go_sem, i5S0, hc.lda, v2, ol]
  have hm1 : Mod (fun _ => False) (h.push (mkO (cfg n c f lg tl hu))) ((h.push (mkO (cfg n c f lg tl hu))).push (mkO (cfg n c f lg tl hu))) := Mod.push _ _
  have hc2 := hc.mod hm1 (fun h => h)
  by_cases c4 : c + n ≤ w
  case neg =>
    refine ⟨_, false, by simp [Fair, c3, c4], (Mod.push (M := fun _ => False) h (mkO (cfg n c f lg tl hu))).trans hm1, fun k => ?_⟩
    rw [cl5]
    simp (disch := first | decide | omega | exact rfl | (simp only [List.length_cons, List.length_nil] <;> omega)) only [go_sem, i5S0, i5S1, hc.lda, hc2.ld, v2, ol]
  have ha : (c + n).toNat ≤ 72 := by omega
  -- the counters
  let h2 := (h.push (mkO (cfg n c f lg tl hu))).push (mkO (cfg n c f lg tl hu))
  let h3 := h2.push (.big ((c + n).toNat * 1) 1 [.int .i64 0] .nil)
  have hz : Cells h3 h2.nx (cnt (c + n).toNat (win l w.toNat 0)) := by
    have := Cells.zeros h2 (c + n).toNat (.int .i64 0)
    rw [win_zero]
    have e : cnt (c + n).toNat [] = List.replicate (c + n).toNat (V.int .i64 0) := by
      unfold cnt
      rw [List.eq_replicate_iff]
      refine ⟨by simp, fun b hb => ?_⟩
      obtain ⟨k, _, rfl⟩ := List.mem_map.1 hb
      rfl
    rw [e]; exact this
  have m03 : Mod (fun _ => False) h h3 := ((Mod.push (M := fun _ => False) h (mkO (cfg n c f lg tl hu))).trans hm1).trans (Mod.push _ _)
  have hs3 : Sli h3 1 s (ints l) := hs.mod m03 fun _ _ h => h
  have nb : ¬ s.blk h2.nx := fun hq => by
    have a := hs.lt hq
    have b := (((Mod.push (M := fun _ => False) h (mkO (cfg n c f lg tl hu))).trans hm1)).nx
    have : h2.nx.toNat < h.nx.toNat := a
    have : h.nx.toNat ≤ h2.nx.toNat := b
    omega
  have mk : ∀ k : K, o_mkslice 1 [.int .i64 0] 8 (.int .i64 (c + n)) (.int .i64 (c + n)) ((h.push (mkO (cfg n c f lg tl hu))).push (mkO (cfg n c f lg tl hu))) k = k (.sl h2.nx 0 (c + n).toNat (c + n).toNat none) h3 := fun k => mkslice_v (by omega) (by omega) (by omega) (by omega) h2 k
  -- up to the loop
  obtain ⟨t4, p1, p2, p3, p4, p5⟩ : ∃ t4, (∀ k, EV.call 5 [.agg (cfg n c f lg tl hu), s, .int .i64 w] h k = code nS i5S8 EV t4 h3 (qSeq nS (.seq (.reg [⟨(some (.of 6)), none, 0, .mv (.c (.bool true))⟩]) .ret) EV (o_kn [(.of 6, none, false)] k) (o_kx [(.of 6, none, false)] k)) (o_kx [(.of 6, none, false)] k)) ∧
      t4.v 1 = s ∧ t4.v 2 = .int .i64 w ∧ t4.v 7 = .sl h2.nx 0 (c + n).toNat (c + n).toNat none ∧ t4.v 8 = .int .i64 ((c + n).toNat : Nat) := by
    apply ex_t
    · intro k
      rw [cl5]
      simp (disch := first | decide | omega | exact rfl | (simp only [List.length_cons, List.length_nil] <;> omega)) only [go_sem, i5S0, i5S1, hc.lda, hc2.ld, v2, ol, mk]; try exact rfl
    · refine ⟨?_, ?_, ?_, ?_⟩ <;> simp (disch := decide) only [go_sem]
  let t5 := ((t4.st 40 s).st 41 (.int .i64 (l.length : Nat))).st 42 (.int .i64 ((0 : Nat) : Int))
  have g5 : ∀ kn kx, code nS i5S8 EV t4 h3 kn kx = EV.loop i5L7 t5 h3 kn (o_blk 1 kn kx) := fun kn kx => by
    simp (disch := first | decide | omega | exact rfl | (simp only [List.length_cons, List.length_nil] <;> omega)) only [go_sem, i5S8, p2, ol, code_loop]; try exact rfl
  have v5 : ∀ q, q < 40 → t5.v q = t4.v q := fun q hq => by
    show (((t4.st 40 _).st 41 _).st 42 _).v q = _
    rw [Tr.v_ne' _ _ (by omega), Tr.v_ne' _ _ (by omega), Tr.v_ne' _ _ (by omega)]
  obtain ⟨t6, h6, q1, q2⟩ := rounds (l := l) (w := w) (s := s) ha hl c1 (by omega) nb l.length 0 t5 h3 (by omega) (by rw [v5 1 (by decide), p2]) (by rw [v5 2 (by decide), p3]) (by rw [v5 7 (by decide), p4]) (by rw [v5 8 (by decide), p5, win_zero, miss_nil])
    (by show (((t4.st 40 _).st 41 _).st 42 _).v 40 = _; simp (disch := decide) only [go_sem]) (by show (((t4.st 40 _).st 41 _).st 42 _).v 41 = _; simp (disch := decide) only [go_sem]) (by show (((t4.st 40 _).st 41 _).st 42 _).v 42 = _; simp (disch := decide) only [go_sem]) hz hs3
  have mm : Mod (fun _ => False) h h6 := m03.trans' q1 fun q hq e => by
    subst e
    have b := (((Mod.push (M := fun _ => False) h (mkO (cfg n c f lg tl hu))).trans hm1)).nx
    have : h.nx.toNat ≤ h2.nx.toNat := b
    have : h2.nx.toNat < h.nx.toNat := hq
    omega
  rcases q2 with ⟨q3, q4, q5⟩ | ⟨q3, q5⟩
  · refine ⟨h6, false, ?_, mm, fun k => ?_⟩
    · simp only [Fair, c1, c2, c3, c4, true_and, false_or, Bool.false_eq_true, false_iff]; exact fun x => x q3
    · rw [p1, g5, q5]
      simp (disch := first | decide | omega | exact rfl | (simp only [List.length_cons, List.length_nil] <;> omega)) only [go_sem, q4]
  · refine ⟨h6, true, ?_, mm, fun k => ?_⟩
    · simp only [Fair, c1, c2, c3, c4, true_and, false_or, true_iff]; exact q3
    · rw [p1, g5, q5]
      simp (disch := first | decide | omega | exact rfl | (simp only [List.length_cons, List.length_nil] <;> omega)) only [go_sem]
end Go.Proofs.YtjgflopikppagaaGreat.fair
