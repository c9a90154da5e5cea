/- The law 'basinlaw28.QuietFairs' tells true, in plain memory. No condition. -/
import Derived.Test.YtjgflopikppagaaGreatQFg
namespace Go.Proofs.YtjgflopikppagaaGreat.fair
open Go.Ab Go.Fair
set_option maxHeartbeats 4000000
set_option maxRecDepth 1000000
set_option linter.unusedSimpArgs false
set_option linter.unusedVariables false
theorem outI {l : List Int} {s : V} {h : H} {w : Int} (hs : Sli h 1 s (ints l)) (hw2 : w < 9223372036854775808) (hl : l.length < 576460752303423488) : ∀ (i : Nat) (t : T) (b : Bool), (b = true → 1 ≤ w) → t.v 1 = s → t.v 2 = .int .i64 w → t.v 7 = .bool b → t.v 8 = .int .i64 (i : Nat) → (i : Int) ≤ l.length → (b = false ∨ (l.length : Int) < i + w) →
      ∃ t', t'.v 7 = .bool b ∧ Kp 18 [7, 8, 9, 10, 11] t t' ∧ ∀ kn kx, EV.loop i3L8 t h kn kx = kx (some 0) t' h := fun i t b hw h1 h2 h7 h8 hi hq => by
    obtain ⟨len, el, _, ol⟩ := hs.len
    obtain rfl : len = l.length := by simpa [ints] using el.symm
    obtain ⟨t', h', q0, rfl, q1, q2⟩ : ∃ t' h', (∀ kn kx, code nS i3L8 EV t h kn kx = kx (some 0) t' h') ∧ h' = h ∧ t'.v 7 = .bool b ∧ Kp 18 [7, 8, 9, 10, 11] t t' := by
      cases b with
      | false =>
        apply to_x
        · intro kn kx; simp (disch := first | decide | omega | exact rfl | (simp only [List.length_cons, List.length_nil] <;> omega)) only [go_sem, i3S0, h1, h2, h7, h8, ol]; try exact rfl
        · refine ⟨rfl, ?ga, ?gc⟩
          case ga => simp (disch := decide) only [go_sem, h7]
          case gc => repeat first | exact Kp.refl _ _ _ | refine Kp.st ?_ (by decide)
      | true =>
        have hw := hw rfl
        have hq : (l.length : Int) < i + w := hq.resolve_left (by simp)
        by_cases hwl : w ≤ l.length
        · apply to_x
          · intro kn kx; simp (disch := first | decide | omega | exact rfl | (simp only [List.length_cons, List.length_nil] <;> omega)) only [go_sem, i3S0, h1, h2, h7, h8, ol]; try exact rfl
          · refine ⟨rfl, ?ga, ?gc⟩
            case ga => simp (disch := decide) only [go_sem, h7]
            case gc => repeat first | exact Kp.refl _ _ _ | refine Kp.st ?_ (by decide)
        · apply to_x
          · intro kn kx; simp (disch := first | decide | omega | exact rfl | (simp only [List.length_cons, List.length_nil] <;> omega)) only [go_sem, i3S0, h1, h2, h7, h8, ol]; try exact rfl
          · refine ⟨rfl, ?ga, ?gc⟩
            case ga => simp (disch := decide) only [go_sem, h7]
            case gc => repeat first | exact Kp.refl _ _ _ | refine Kp.st ?_ (by decide)
    exact ⟨t', q1, q2, fun kn kx => by rw [lp, q0]⟩
/-- all windows from i on -/
theorem loopI {l : List Int} {s : V} {h : H} {w : Int} {N : Nat} {n c f lg tl : Int} {hu : Bool} {b3 : Pos} (hs : Sli h 1 s (ints l)) (hc : Cells h b3 (cfg n c f lg tl hu)) (hN : (N : Int) = c + n) (hN2 : N ≤ 72) (hw2 : w < 9223372036854775808) (hl : l.length < 576460752303423488) :
    ∀ (d i : Nat) (t : T) (b : Bool), (b = true → 1 ≤ w) → (l.length : Int) ≤ i + d → t.v 1 = s → t.v 2 = .int .i64 w → t.v 3 = .ptr b3 0 → t.v 7 = .bool b → t.v 8 = .int .i64 (i : Nat) → (i : Int) ≤ l.length →
    ∃ t' r, (r = true ↔ b = true ∧ ∀ e : Nat, i ≤ e → (e : Int) + w ≤ l.length → ∀ q : Nat, q < N → Has l e w q) ∧ t'.v 7 = .bool r ∧ Kp 18 [7, 8, 9, 10, 11] t t' ∧ ∀ kn kx, EV.loop i3L8 t h kn kx = kx (some 0) t' h := by
  have out := outI hs hw2 hl
  intro d
  induction d with
  | zero =>
    intro i t b hw hd h1 h2 h3 h7 h8 hi
    obtain ⟨t', q1, q2, q3⟩ := out i t b hw h1 h2 h7 h8 hi (by cases b with | false => exact .inl rfl | true => exact .inr (by have := hw rfl; omega))
    exact ⟨t', b, ⟨fun x => ⟨x, fun e e1 e2 => by have := hw x; omega⟩, fun x => x.1⟩, q1, q2, q3⟩
  | succ d ih =>
    intro i t b hw hd h1 h2 h3 h7 h8 hi
    by_cases hq : b = false ∨ (l.length : Int) < i + w
    · obtain ⟨t', q1, q2, q3⟩ := out i t b hw h1 h2 h7 h8 hi hq
      refine ⟨t', b, ⟨fun x => ⟨x, fun e e1 e2 => ?_⟩, fun x => x.1⟩, q1, q2, q3⟩
      rcases hq with hq | hq
      · rw [hq] at x; cases x
      · have := hw x; omega
    · have hb : b = true := by cases b <;> simp_all
      subst hb
      have hw := hw rfl
      have hi2 : (i : Int) + w ≤ l.length := by
        rcases Int.lt_or_le (l.length : Int) (i + w) with h | h
        · exact absurd (.inr h) hq
        · exact h
      obtain ⟨len, el, _, ol⟩ := hs.len
      obtain rfl : len = l.length := by simpa [ints] using el.symm
      obtain ⟨t1, q0, q1⟩ : ∃ t1, (∀ kn kx, code nS i3L8 EV t h kn kx = EV.loop i3L6 t1 h (qSeq nS (.reg [⟨(some (.of 33)), none, 0, .mv (.t (.of 8))⟩,
          ⟨(some (.of 34)), none, 0, .bin .add (.t (.of 33)) (.c (.int .i64 1))⟩, ⟨(some (.of 8)), none, 0, .mv (.t (.of 34))⟩]) EV kn kx) (o_blk 2 (qSeq nS (.reg [⟨(some (.of 33)), none, 0, .mv (.t (.of 8))⟩,
          ⟨(some (.of 34)), none, 0, .bin .add (.t (.of 33)) (.c (.int .i64 1))⟩, ⟨(some (.of 8)), none, 0, .mv (.t (.of 34))⟩]) EV kn kx) (o_blk 1 (qSeq nS (.reg [⟨(some (.of 33)), none, 0, .mv (.t (.of 8))⟩,
          ⟨(some (.of 34)), none, 0, .bin .add (.t (.of 33)) (.c (.int .i64 1))⟩, ⟨(some (.of 8)), none, 0, .mv (.t (.of 34))⟩]) EV kn kx) kx))) ∧ Kp 18 [9] t t1 ∧ t1.v 9 = .int .i64 ((0 : Nat) : Int) := by
        apply ex_t
        · intro kn kx; simp (disch := first | decide | omega | exact rfl | (simp only [List.length_cons, List.length_nil] <;> omega)) only [go_sem, i3S0, i3S7, h1, h2, h7, h8, ol, code_loop]; try exact rfl
        · refine ⟨?ga, ?gc⟩
          case ga => repeat first | exact Kp.refl _ _ _ | refine Kp.st ?_ (by decide)
          case gc => simp (disch := decide) only [go_sem]; rfl
      obtain ⟨t2, r, r1, r2, r3, r4⟩ := loopK hs hc hN hN2 hw hi2 hl N 0 t1 true (by omega) (by rw [q1.1 1 (by decide) (by decide), h1]) (by rw [q1.1 2 (by decide) (by decide), h2]) (by rw [q1.1 3 (by decide) (by decide), h3])
        (by rw [q1.1 7 (by decide) (by decide), h7]) (by rw [q1.1 8 (by decide) (by decide), h8]) q1.2
      have kk : Kp 18 [7, 8, 9, 10, 11] t t2 := (q1.1.weaken (by decide) (by decide)).trans (r3.weaken (by decide) (by decide))
      have k8 : t2.v 8 = .int .i64 (i : Nat) := by rw [r3 8 (by decide) (by decide), q1.1 8 (by decide) (by decide), h8]
      obtain ⟨t3, h', p0, rfl, p1, p2, p3⟩ : ∃ t' h', (∀ kn kx, code nS i3L8 EV t h kn kx = kn t' h') ∧ h' = h ∧ t'.v 7 = .bool r ∧ Kp 18 [7, 8, 9, 10, 11] t2 t' ∧ t'.v 8 = .int .i64 ((i + 1 : Nat) : Int) := by
        apply to_of
        · intro kn kx; rw [q0, r4]; simp (disch := first | decide | omega | exact rfl | (simp only [List.length_cons, List.length_nil] <;> omega)) only [go_sem, k8]; try exact rfl
        · refine ⟨rfl, ?ga, ?gc, ?gd⟩
          case ga => simp (disch := decide) only [go_sem, r2]
          case gc => repeat first | exact Kp.refl _ _ _ | refine Kp.st ?_ (by decide)
          case gd => simp (disch := decide) only [go_sem]; rfl
      have k2 := kk.trans p2
      obtain ⟨t5, u, u1, u2, u3, u4⟩ := ih (i + 1) t3 r (fun _ => hw) (by omega) (by rw [k2 1 (by decide) (by decide), h1]) (by rw [k2 2 (by decide) (by decide), h2]) (by rw [k2 3 (by decide) (by decide), h3]) p1 p3 (by omega)
      refine ⟨t5, u, ?_, u2, k2.trans u3, fun kn kx => by rw [lp, p0]; exact u4 kn kx⟩
      rw [u1, r1]
      constructor
      · rintro ⟨⟨_, a⟩, b⟩
        refine ⟨rfl, fun e e1 e2 q e3 => ?_⟩
        by_cases ee : e = i
        · subst ee; exact a q (Nat.zero_le _) e3
        · exact b e (by omega) e2 q e3
      · rintro ⟨_, b⟩
        exact ⟨⟨rfl, fun q _ e3 => b i (Nat.le_refl _) hi2 q e3⟩, fun e e1 e2 q e3 => b e (by omega) e2 q e3⟩

/-- the two are the same -/
theorem fair_iff {n c f lg tl w : Int} {l : List Int} : Fair n c f lg tl l w ↔ ((1 ≤ w ∧ may n c f lg tl) ∧ ∀ e : Nat, (e : Int) + w ≤ l.length → ∀ q : Nat, q < (c + n).toNat → Has l e w q) := by
  unfold Fair
  constructor
  · rintro ⟨h1, h2, h3⟩
    refine ⟨⟨h1, h2⟩, fun e he q hq => ?_⟩
    rcases h3 with h3 | ⟨h3, h4⟩
    · omega
    · have hm : miss (c + n).toNat (win l w.toNat (e + w.toNat)) = 0 := by
        rcases Nat.eq_zero_or_pos (miss (c + n).toNat (win l w.toNat (e + w.toNat))) with h | h
        · exact h
        · refine absurd ⟨e + w.toNat - 1, by omega, by omega, ?_, ?_⟩ h4
          · omega
          · rw [show e + w.toNat - 1 + 1 = e + w.toNat by omega]; exact h
      have := (win_mem (l := l) (w := w.toNat) (i := e) (by omega) (q : Int)).1 (miss_zero.1 hm q hq)
      obtain ⟨j, j1, j2, j3⟩ := this
      exact ⟨j, j1, by omega, j3⟩
  · rintro ⟨⟨h1, h2⟩, h3⟩
    refine ⟨h1, h2, ?_⟩
    by_cases hlw : (l.length : Int) < w
    · exact .inl hlw
    · have key : ∀ e : Nat, (e : Int) + w ≤ l.length → miss (c + n).toNat (win l w.toNat (e + w.toNat)) = 0 := fun e he => miss_zero.2 fun q hq => by
        obtain ⟨j, j1, j2, j3⟩ := h3 e he q hq
        exact (win_mem (l := l) (w := w.toNat) (i := e) (by omega) (q : Int)).2 ⟨j, j1, by omega, j3⟩
      refine .inr ⟨?_, ?_⟩
      · have h0 := pigeon (key 0 (by omega))
        rw [win_len (by omega)] at h0
        omega
      · rintro ⟨j, _, j2, j3, j4⟩
        have := key (j + 1 - w.toNat) (by omega)
        rw [show j + 1 - w.toNat + w.toNat = j + 1 by omega] at this
        omega

theorem cl3 (a b c : V) (h : H) (k : K) : EV.call 3 [a, b, c] h k = code nS i3 EV (ofL [a, b, c] 0 .nil) h (o_kn [(.of 6, none, false)] k) (o_kx [(.of 6, none, false)] k) := cl_eq (trueOrc_nat 6) fn3 rfl rfl k
theorem awake_c (h : H) (k : K) : EV.call 6 [] h k = k (.bool true) h := by
  rw [EE_call nS FT (trueOrc_nat 6)]; rfl
theorem cfg_same (n c f lg tl : Int) (hu : Bool) : vsame (.agg (cfg n c f lg tl hu)) (.agg (cfg n c f lg tl hu)) = true :=
  (vsame_row (l := cfg n c f lg tl hu) (by intro v hv; simp only [cfg, List.mem_cons, List.not_mem_nil, or_false] at hv; rcases hv with rfl | rfl | rfl | rfl | rfl | rfl <;> simp) : vsameL _ _ = true)
theorem false_bne_self (r : Bool) : (false != decide (r = r)) = true := by cases r <;> rfl
noncomputable abbrev tailIC : IC := (.seq (.regd [⟨(some (.of 65)), none, 1, .ldn 6 (.t (.of 3))⟩, 
    ⟨(some (.of 66)), none, 0, .bslice 0 [] []⟩, 
    ⟨(some (.of 67)), none, 0, .mv (.t (.of 1))⟩, 
    ⟨(some (.of 69)), none, 0, .mv (.t (.of 2))⟩, 
    ⟨(some (.of 71)), none, 0, .mv (.t (.of 7))⟩, 
    ⟨(some (.of 68)), none, 0, .app 1 8 (.t (.of 66)) (.t (.of 67))⟩, 
    ⟨(some (.of 70)), none, 0, .call (.c (.fn 5 [] [])) [(.t (.of 65)), (.t (.of 68)), (.t (.of 69))]⟩, 
    ⟨(some (.of 72)), none, 0, .eqv 0 false (.t (.of 70)) (.t (.of 71))⟩, 
    ⟨(some (.of 73)), none, 0, .mv (.t (.of 72))⟩, 
    ⟨(some (.of 74)), some ((.of 73), true), 0, .call (.c (.fn 6 [] [])) []⟩, 
    ⟨(some (.of 75)), none, 0, .pick (.t (.of 73)) (.t (.of 74)) (.c (.bool false))⟩, 
    ⟨(some (.of 6)), none, 0, .mv (.t (.of 75))⟩])
  .ret)
/-- behind the loops -/
theorem tail_c {n c f lg tl w : Int} {hu : Bool} {l : List Int} {s : V} {h : H} {b3 : Pos} {t : T} {b : Bool} (hs : Sli h 1 s (ints l)) (ha : Ahead h) (hc : Cells h b3 (cfg n c f lg tl hu)) (hl : l.length * 9 ≤ 281474976710656) (hw : w < 9223372036854775808) (hb : b = true ↔ Fair n c f lg tl l w)
    (h1 : t.v 1 = s) (h2 : t.v 2 = .int .i64 w) (h3 : t.v 3 = .ptr b3 0) (h7 : t.v 7 = .bool b) : ∃ h', Mod (fun _ => False) h h' ∧ ∀ k kn, code nS tailIC EV t h kn (o_kx [(.of 6, none, false)] k) = k (.bool true) h' := by
  let g1 := h.push (mkO [])
  have e0 : Sli g1 1 (.sl h.nx 0 0 0 none) [] := by
    have := Sli.sl (esz := 1) (n := 0) (cap := 0) (o := 0) (fx := none) (Cells.new h []) (Nat.le_refl _) (by simp) fun e he => by cases he
    simpa using this
  have m1 : Mod (fun _ => False) h g1 := Mod.push _ _
  have e1 : Sli g1 1 s (ints l) := hs.mod m1 fun _ _ x => x
  obtain ⟨s', g2, p1, p2, p3⟩ := e0.append (by_ := 8) e1 (by decide) (fun v hv => by obtain ⟨x, _, rfl⟩ := List.mem_map.1 hv; rfl) (fun q len x y => by
    have hlen : len = 0 := by simp at x; omega
    have hq : q = l.length := by simpa [ints] using y.symm
    subst hlen hq
    unfold appOk
    cases Nat.ble (Nat.add 0 l.length) 1073741824 with
    | true => rfl
    | false => exact ble_of hl)
  rw [List.nil_append] at p2
  have m2 : Mod (fun _ => False) h g2 := m1.trans' p3 fun q hq e => by
    have : q = h.nx := e
    subst this; omega
  obtain ⟨g3, r, q1, q2, q3⟩ := fair_c (n := n) (c := c) (f := f) (lg := lg) (tl := tl) (w := w) (hu := hu) p2 (by omega) hw
  have hrb : r = b := by
    cases r <;> cases b <;> simp_all
  subst hrb
  have hf := ha.fresh
  have hc1 : Cells g1 b3 (cfg n c f lg tl hu) := hc.mod m1 fun x => x
  have hc2 : Cells g2 b3 (cfg n c f lg tl hu) := hc.mod m2 fun x => x
  have hv := cfg_same n c f lg tl hu
  have p1' : ∀ k : K, o_app 1 8 (.sl h.nx 0 0 0 none) s (h.push (mkO [])) k = k s' g2 := p1
  refine ⟨g3, m2.trans q2, fun k kn => ?_⟩
  simp (disch := first | decide | omega | exact rfl | assumption | (simp only [List.length_cons, List.length_nil] <;> omega)) only [go_sem, h1, h2, h3, h7, hc.lda, hc2.lda, p1', q3, awake_c, false_bne_self]
/-- THE LAW, in plain memory -/
theorem law {n c f lg tl w : Int} {hu : Bool} {l : List Int} {s : V} {h : H} (hs : Sli h 1 s (ints l)) (ha : Ahead h) (hl : l.length * 9 ≤ 281474976710656) (hw : w < 9223372036854775808) (hw2 : -9223372036854775808 ≤ w) :
    ∃ h', Mod (fun _ => False) h h' ∧ ∀ k, EV.call 3 [.agg (cfg n c f lg tl hu), s, .int .i64 w] h k = k (.bool true) h' := by
  have hc := Cells.new h (cfg n c f lg tl hu)
  have m1 : Mod (fun _ => False) h (h.push (mkO (cfg n c f lg tl hu))) := Mod.push _ _
  have m2 : Mod (fun _ => False) (h.push (mkO (cfg n c f lg tl hu))) ((h.push (mkO (cfg n c f lg tl hu))).push (mkO (cfg n c f lg tl hu))) := Mod.push _ _
  obtain ⟨h1, b, x0, x1, x2, x3, t1, x4, x5, x6, x7, x8⟩ : ∃ (h1 : H) (b : Bool), Mod (fun _ => False) h h1 ∧ Ahead h1 ∧ Cells h1 h.nx (cfg n c f lg tl hu) ∧ (b = true ↔ 1 ≤ w ∧ may n c f lg tl) ∧
      ∃ t1 : T, (∀ k, EV.call 3 [.agg (cfg n c f lg tl hu), s, .int .i64 w] h k = code nS i3S9 EV t1 h1 (qSeq nS tailIC EV (o_kn [(.of 6, none, false)] k) (o_kx [(.of 6, none, false)] k)) (o_kx [(.of 6, none, false)] k)) ∧
        t1.v 1 = s ∧ t1.v 2 = .int .i64 w ∧ t1.v 3 = .ptr h.nx 0 ∧ t1.v 7 = .bool b := by
    by_cases c1 : 1 ≤ w
    · refine ⟨_, decide (may n c f lg tl), m1.trans m2, (ha.push _).push _, hc.mod m2 fun x => x, by simp [c1], ?_⟩
      apply ex_t
      · intro k; rw [cl3]; simp (disch := first | decide | omega | exact rfl | assumption | (simp only [List.length_cons, List.length_nil] <;> omega)) only [go_sem, hc.lda, may_c]; try exact rfl
      · refine ⟨?_, ?_, ?_, ?_⟩ <;> simp (disch := decide) only [go_sem]
    · refine ⟨_, false, m1, ha.push _, hc, by simp [c1], ?_⟩
      apply ex_t
      · intro k; rw [cl3]; simp (disch := first | decide | omega | exact rfl | assumption | (simp only [List.length_cons, List.length_nil] <;> omega)) only [go_sem]; try exact rfl
      · refine ⟨?_, ?_, ?_, ?_⟩ <;> simp (disch := decide) only [go_sem]
  have hs1 : Sli h1 1 s (ints l) := hs.mod x0 fun _ _ x => x
  let t2 := t1.st 8 (.int .i64 ((0 : Nat) : Int))
  have g2 : ∀ kn kx, code nS i3S9 EV t1 h1 kn kx = EV.loop i3L8 t2 h1 kn (o_blk 0 kn kx) := fun kn kx => by
    simp (disch := first | decide | omega | exact rfl | assumption | (simp only [List.length_cons, List.length_nil] <;> omega)) only [go_sem, i3S9, code_loop]; try exact rfl
  have v2 : ∀ q, q ≠ 8 → t2.v q = t1.v q := fun q hq => Tr.v_ne' _ _ (by omega)
  have fin : ∃ (t3 : T) (r : Bool), (r = true ↔ Fair n c f lg tl l w) ∧ t3.v 7 = .bool r ∧ Kp 18 [7, 8, 9, 10, 11] t2 t3 ∧ ∀ kn kx, EV.loop i3L8 t2 h1 kn kx = kx (some 0) t3 h1 := by
    cases b with
    | true =>
      obtain ⟨b1, b2⟩ := x3.1 rfl
      have hm : 1 ≤ n ∧ n ≤ 8 ∧ 1 ≤ c ∧ c ≤ 64 := by unfold may at b2; omega
      obtain ⟨t3, r, r1, r2, r3, r4⟩ := loopI (N := (c + n).toNat) (l := l) (w := w) hs1 (n := n) (c := c) x2 (by omega) (by omega) hw (by omega) l.length 0 t2 true (fun e => b1) (by omega) (by rw [v2 1 (by decide), x5]) (by rw [v2 2 (by decide), x6]) (by rw [v2 3 (by decide), x7]) (by rw [v2 7 (by decide), x8]) (Tr.v_same _ _ _) (by omega)
      refine ⟨t3, r, ?_, r2, r3, r4⟩
      rw [r1, fair_iff]
      constructor
      · rintro ⟨_, q⟩; exact ⟨⟨b1, b2⟩, fun e he => q e (Nat.zero_le _) he⟩
      · rintro ⟨_, q⟩; exact ⟨rfl, fun e _ he => q e he⟩
    | false =>
      obtain ⟨t3, r2, r3, r4⟩ := outI hs1 hw (by omega) 0 t2 false (fun e => (by cases e)) (by rw [v2 1 (by decide), x5]) (by rw [v2 2 (by decide), x6]) (by rw [v2 7 (by decide), x8]) (Tr.v_same _ _ _) (by omega) (.inl rfl)
      refine ⟨t3, false, ⟨fun e => (by cases e), fun e => ?_⟩, r2, r3, r4⟩
      exact x3.2 ⟨e.1, e.2.1⟩
  obtain ⟨t3, r, r1, r2, r3, r4⟩ := fin
  obtain ⟨h', y1, y2⟩ := tail_c (lg := lg) (tl := tl) hs1 x1 x2 hl hw r1 (by rw [r3 1 (by decide) (by decide), v2 1 (by decide), x5]) (by rw [r3 2 (by decide) (by decide), v2 2 (by decide), x6]) (by rw [r3 3 (by decide) (by decide), v2 3 (by decide), x7]) r2
  refine ⟨h', x0.trans y1, fun k => ?_⟩
  rw [x4, g2, r4]
  show o_blk 0 _ _ (some 0) t3 h1 = _
  rw [blk_same, ap_qSeq, y2]
end Go.Proofs.YtjgflopikppagaaGreat.fair
