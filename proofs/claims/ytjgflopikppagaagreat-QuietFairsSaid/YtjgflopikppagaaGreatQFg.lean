/- The law's loops. No condition. -/
import Derived.Test.YtjgflopikppagaaGreatQFe
namespace Go.Proofs.YtjgflopikppagaaGreat.fair
open Go.Ab Go.Fair
set_option maxHeartbeats 4000000
set_option maxRecDepth 1000000
set_option linter.unusedSimpArgs false
set_option linter.unusedVariables false
theorem lp (b : IC) (t : T) (h : H) (kn : T → H → R) (kx : Option Nat → T → H → R) : EV.loop b t h kn kx = code nS b EV t h (EV.loop b · · kn kx) kx := EE_loop nS FT (trueOrc_nat 6) b t h kn kx

/-- does a number stand there? from j on -/
theorem loopJ {l : List Int} {s : V} {h : H} {w k : Int} {i : Nat} (hs : Sli h 1 s (ints l)) (hw : 1 ≤ w) (hi : (i : Int) + w ≤ l.length) (hl : l.length < 576460752303423488) : ∀ (d j : Nat) (t : T) (b : Bool), ((j + d : Nat) : Int) = i + w → t.v 1 = s → t.v 2 = .int .i64 w → t.v 8 = .int .i64 (i : Nat) → t.v 9 = .int .i64 k → t.v 10 = .bool b → t.v 11 = .int .i64 (j : Nat) →
    ∃ t' r, (r = true ↔ b = true ∨ ∃ q, j ≤ q ∧ q < j + d ∧ l[q]? = some k) ∧ t'.v 10 = .bool r ∧ Kp 48 [10, 11] t t' ∧ ∀ kn kx, EV.loop i3L3 t h kn kx = kx (some 4) t' h
  | 0, j, t, b, hd, h1, h2, h8, h9, h10, h11 => by
    obtain ⟨t', h', q0, rfl, q1, q2⟩ : ∃ t' h', (∀ kn kx, code nS i3L3 EV t h kn kx = kx (some 4) t' h') ∧ h' = h ∧ t'.v 10 = .bool b ∧ Kp 48 [10, 11] t t' := by
      apply to_x
      · intro kn kx; simp (disch := first | decide | omega | exact rfl | (simp only [List.length_cons, List.length_nil] <;> omega)) only [go_sem, i3S2, h2, h8, h11]; try exact rfl
      · refine ⟨rfl, ?ga, ?gc⟩
        case ga => simp (disch := decide) only [go_sem, h10]
        case gc => repeat first | exact Kp.refl _ _ _ | refine Kp.st ?_ (by decide)
    exact ⟨t', b, ⟨.inl, fun x => x.elim id fun ⟨q, a1, a2, _⟩ => by omega⟩, q1, q2, fun kn kx => by rw [lp, q0]⟩
  | d + 1, j, t, b, hd, h1, h2, h8, h9, h10, h11 => by
    have hj : j < l.length := by omega
    obtain ⟨bl, ql, hx, hy, _⟩ := hs.at (i := (j : Int)) (by omega) (ints_get hj)
    obtain ⟨t1, h', q0, rfl, q1, q2, q3⟩ : ∃ t' h', (∀ kn kx, code nS i3L3 EV t h kn kx = kn t' h') ∧ h' = h ∧ t'.v 10 = .bool (b || decide (l[j] = k)) ∧ Kp 48 [10, 11] t t' ∧ t'.v 11 = .int .i64 ((j + 1 : Nat) : Int) := by
      cases b with
      | true =>
        apply to_of
        · intro kn kx; simp (disch := first | decide | omega | exact rfl | (simp only [List.length_cons, List.length_nil] <;> omega)) only [go_sem, i3S2, h1, h2, h8, h9, h10, h11]; try exact rfl
        · refine ⟨rfl, ?ga, ?gc, ?gd⟩
          case ga => simp (disch := decide) only [go_sem, h10]; rfl
          case gc => repeat first | exact Kp.refl _ _ _ | refine Kp.st ?_ (by decide)
          case gd => simp (disch := decide) only [go_sem]; rfl
      | false =>
        apply to_of
        · intro kn kx; simp (disch := first | decide | omega | exact rfl | (simp only [List.length_cons, List.length_nil] <;> omega)) only [go_sem, i3S2, h1, h2, h8, h9, h10, h11, hx, hy]; try exact rfl
        · refine ⟨rfl, ?ga, ?gc, ?gd⟩
          case ga => simp (disch := decide) only [go_sem, Bool.false_or]
          case gc => repeat first | exact Kp.refl _ _ _ | refine Kp.st ?_ (by decide)
          case gd => simp (disch := decide) only [go_sem]; rfl
    obtain ⟨t2, r, r1, r2, r3, r4⟩ := loopJ hs hw hi hl d (j + 1) t1 (b || decide (l[j] = k)) (by omega) (by rw [q2 1 (by decide) (by decide), h1]) (by rw [q2 2 (by decide) (by decide), h2]) (by rw [q2 8 (by decide) (by decide), h8]) (by rw [q2 9 (by decide) (by decide), h9]) q1 q3
    refine ⟨t2, r, ?_, r2, q2.trans r3, fun kn kx => by rw [lp, q0]; exact r4 kn kx⟩
    rw [r1, Bool.or_eq_true, decide_eq_true_eq]
    constructor
    · rintro ((a | a) | ⟨q, a1, a2, a3⟩)
      · exact .inl a
      · exact .inr ⟨j, Nat.le_refl _, by omega, by rw [List.getElem?_eq_getElem hj, a]⟩
      · exact .inr ⟨q, by omega, by omega, a3⟩
    · rintro (a | ⟨q, a1, a2, a3⟩)
      · exact .inl (.inl a)
      · by_cases e : q = j
        · subst e; rw [List.getElem?_eq_getElem hj] at a3; exact .inl (.inr (Option.some.inj a3))
        · exact .inr ⟨q, by omega, by omega, a3⟩
/-- stands k within the window at i? -/
def Has (l : List Int) (i : Nat) (w : Int) (k : Int) : Prop := ∃ q, i ≤ q ∧ ((q : Int) < i + w) ∧ l[q]? = some k
theorem loopK {l : List Int} {s : V} {h : H} {w : Int} {i N : Nat} {n c f lg tl : Int} {hu : Bool} {b3 : Pos} (hs : Sli h 1 s (ints l)) (hc : Cells h b3 (cfg n c f lg tl hu)) (hN : (N : Int) = c + n) (hN2 : N ≤ 72) (hw : 1 ≤ w) (hi : (i : Int) + w ≤ l.length) (hl : l.length < 576460752303423488) :
    ∀ (d k : Nat) (t : T) (b : Bool), k + d = N → t.v 1 = s → t.v 2 = .int .i64 w → t.v 3 = .ptr b3 0 → t.v 7 = .bool b → t.v 8 = .int .i64 (i : Nat) → t.v 9 = .int .i64 (k : Nat) →
    ∃ t' r, (r = true ↔ b = true ∧ ∀ q : Nat, k ≤ q → q < N → Has l i w q) ∧ t'.v 7 = .bool r ∧ Kp 35 [7, 9, 10, 11] t t' ∧ ∀ kn kx, EV.loop i3L6 t h kn kx = kx (some 2) t' h
  | 0, k, t, b, hd, h1, h2, h3, h7, h8, h9 => by
    obtain ⟨t', h', q0, rfl, q1, q2⟩ : ∃ t' h', (∀ kn kx, code nS i3L6 EV t h kn kx = kx (some 2) t' h') ∧ h' = h ∧ t'.v 7 = .bool b ∧ Kp 35 [7, 9, 10, 11] t t' := by
      apply to_x
      · intro kn kx; simp (disch := first | decide | omega | exact rfl | (simp only [List.length_cons, List.length_nil] <;> omega)) only [go_sem, i3S1, h3, h7, h9, hc.ld]; try exact rfl
      · refine ⟨rfl, ?ga, ?gc⟩
        case ga => simp (disch := decide) only [go_sem, h7]
        case gc => repeat first | exact Kp.refl _ _ _ | refine Kp.st ?_ (by decide)
    exact ⟨t', b, ⟨fun x => ⟨x, fun q a1 a2 => by omega⟩, fun x => x.1⟩, q1, q2, fun kn kx => by rw [lp, q0]⟩
  | d + 1, k, t, b, hd, h1, h2, h3, h7, h8, h9 => by
    cases b with
    | false =>
      obtain ⟨t', h', q0, rfl, q1, q2⟩ : ∃ t' h', (∀ kn kx, code nS i3L6 EV t h kn kx = kx (some 2) t' h') ∧ h' = h ∧ t'.v 7 = .bool false ∧ Kp 35 [7, 9, 10, 11] t t' := by
        apply to_x
        · intro kn kx; simp (disch := first | decide | omega | exact rfl | (simp only [List.length_cons, List.length_nil] <;> omega)) only [go_sem, i3S1, h3, h7, h9, hc.ld]; try exact rfl
        · refine ⟨rfl, ?ga, ?gc⟩
          case ga => simp (disch := decide) only [go_sem, h7]
          case gc => repeat first | exact Kp.refl _ _ _ | refine Kp.st ?_ (by decide)
      exact ⟨t', false, ⟨fun x => (by cases x), fun x => (by cases x.1)⟩, q1, q2, fun kn kx => by rw [lp, q0]⟩
    | true =>
      -- into the body
      obtain ⟨t1, q0, q1⟩ : ∃ t1, (∀ kn kx, code nS i3L6 EV t h kn kx = code nS i3S4 EV t1 h (qSeq nS (.reg [⟨(some (.of 64)), none, 0, .mv (.t (.of 10))⟩, ⟨(some (.of 7)), none, 0, .mv (.t (.of 64))⟩]) EV (qSeq nS (.reg [⟨(some (.of 45)), none, 0, .mv (.t (.of 9))⟩,
          ⟨(some (.of 46)), none, 0, .bin .add (.t (.of 45)) (.c (.int .i64 1))⟩, ⟨(some (.of 9)), none, 0, .mv (.t (.of 46))⟩]) EV kn kx) (o_blk 3 (qSeq nS (.reg [⟨(some (.of 45)), none, 0, .mv (.t (.of 9))⟩,
          ⟨(some (.of 46)), none, 0, .bin .add (.t (.of 45)) (.c (.int .i64 1))⟩, ⟨(some (.of 9)), none, 0, .mv (.t (.of 46))⟩]) EV kn kx) kx)) (o_blk 3 (qSeq nS (.reg [⟨(some (.of 45)), none, 0, .mv (.t (.of 9))⟩,
          ⟨(some (.of 46)), none, 0, .bin .add (.t (.of 45)) (.c (.int .i64 1))⟩, ⟨(some (.of 9)), none, 0, .mv (.t (.of 46))⟩]) EV kn kx) kx)) ∧ Kp 35 [10] t t1 ∧ t1.v 10 = .bool false := by
        apply ex_t
        · intro kn kx; simp (disch := first | decide | omega | exact rfl | (simp only [List.length_cons, List.length_nil] <;> omega)) only [go_sem, i3S1, i3S5, h3, h7, h9, hc.ld]; try exact rfl
        · refine ⟨?ga, ?gc⟩
          case ga => repeat first | exact Kp.refl _ _ _ | refine Kp.st ?_ (by decide)
          case gc => simp (disch := decide) only [go_sem]
      let t2 := (t1.st 47 (.int .i64 (i : Nat))).st 11 (.int .i64 (i : Nat))
      have v2 : ∀ q, q < 35 → q ≠ 11 → t2.v q = t1.v q := fun q hq h11 => by
        show ((t1.st 47 _).st 11 _).v q = _
        rw [Tr.v_ne' _ _ (by omega), Tr.v_ne' _ _ (by omega)]
      have k8 : t1.v 8 = .int .i64 (i : Nat) := by rw [q1.1 8 (by decide) (by decide), h8]
      have g2 : ∀ kn kx, code nS i3S4 EV t1 h kn kx = EV.loop i3L3 t2 h kn (o_blk 4 kn kx) := fun kn kx => by
        simp (disch := first | decide | omega | exact rfl | (simp only [List.length_cons, List.length_nil] <;> omega)) only [go_sem, i3S4, k8, code_loop]; try exact rfl
      obtain ⟨t3, r, r1, r2, r3, r4⟩ := loopJ (k := (k : Nat)) hs hw hi hl w.toNat i t2 false (by omega) (by rw [v2 1 (by decide) (by decide), q1.1 1 (by decide) (by decide), h1]) (by rw [v2 2 (by decide) (by decide), q1.1 2 (by decide) (by decide), h2]) (by rw [v2 8 (by decide) (by decide), k8])
        (by rw [v2 9 (by decide) (by decide), q1.1 9 (by decide) (by decide), h9]) (by rw [v2 10 (by decide) (by decide), q1.2]) (by show ((t1.st 47 _).st 11 _).v 11 = _; rw [Tr.v_same])
      have kk : Kp 35 [7, 9, 10, 11] t t3 := by
        refine (q1.1.weaken (by decide) (by decide)).trans (Kp.trans (b := t2) ?_ (r3.weaken (by decide) (by decide)))
        show Kp 35 _ t1 ((t1.st 47 _).st 11 _)
        repeat first | exact Kp.refl _ _ _ | refine Kp.st ?_ (by decide)
      have k9 : t3.v 9 = .int .i64 (k : Nat) := by rw [r3 9 (by decide) (by decide), v2 9 (by decide) (by decide), q1.1 9 (by decide) (by decide), h9]
      obtain ⟨t4, h', p0, rfl, p1, p2, p3⟩ : ∃ t' h', (∀ kn kx, code nS i3L6 EV t h kn kx = kn t' h') ∧ h' = h ∧ t'.v 7 = .bool r ∧ Kp 35 [7, 9, 10, 11] t3 t' ∧ t'.v 9 = .int .i64 ((k + 1 : Nat) : Int) := by
        apply to_of
        · intro kn kx; rw [q0, g2, r4]; simp (disch := first | decide | omega | exact rfl | (simp only [List.length_cons, List.length_nil] <;> omega)) only [go_sem, r2, k9]; try exact rfl
        · refine ⟨rfl, ?ga, ?gc, ?gd⟩
          case ga => simp (disch := decide) only [go_sem]
          case gc => repeat first | exact Kp.refl _ _ _ | refine Kp.st ?_ (by decide)
          case gd => simp (disch := decide) only [go_sem]; rfl
      have k2 := kk.trans p2
      obtain ⟨t5, u, u1, u2, u3, u4⟩ := loopK hs hc hN hN2 hw hi hl d (k + 1) t4 r (by omega) (by rw [k2 1 (by decide) (by decide), h1]) (by rw [k2 2 (by decide) (by decide), h2]) (by rw [k2 3 (by decide) (by decide), h3]) p1 (by rw [k2 8 (by decide) (by decide), h8]) p3
      refine ⟨t5, u, ?_, u2, k2.trans u3, fun kn kx => by rw [lp, p0]; exact u4 kn kx⟩
      have hr : r = true ↔ Has l i w k := by
        rw [r1]
        constructor
        · rintro (a | ⟨q, a1, a2, a3⟩)
          · cases a
          · exact ⟨q, a1, by omega, a3⟩
        · rintro ⟨q, a1, a2, a3⟩
          exact .inr ⟨q, a1, by omega, a3⟩
      rw [u1, hr]
      constructor
      · rintro ⟨a, b⟩
        exact ⟨rfl, fun q e1 e2 => by
          by_cases e : q = k
          · subst e; exact a
          · exact b q (by omega) e2⟩
      · rintro ⟨_, b⟩
        exact ⟨b k (Nat.le_refl _) (by omega), fun q e1 e2 => b q (by omega) e2⟩
end Go.Proofs.YtjgflopikppagaaGreat.fair
