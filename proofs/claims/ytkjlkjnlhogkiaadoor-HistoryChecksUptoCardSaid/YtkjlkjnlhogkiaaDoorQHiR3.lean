/- 'basinref26.Ops' and 'basinref26.Check': what they tell; the law. No condition. -/
import Derived.Test.YtkjlkjnlhogkiaaDoorQHiR2
namespace Go.Proofs.YtkjlkjnlhogkiaaDoor.hist
open Go.Ab Go.Hist
set_option maxHeartbeats 4000000
set_option maxRecDepth 1000000
set_option linter.unusedSimpArgs false
set_option linter.unusedVariables false
theorem InvR.tmp {l : List Ev} {t t' : T} {h : H} {lv : V} {i i' : Nat} {s : V} {L : List Hop} (v : InvR l t h lv i s L) (tm : TmR t' lv s i') : InvR l t' h lv i' s L := ⟨tm, v.hl, v.hs, v.ds, v.u, v.ah⟩
/-- one round -/
theorem stepR {l : List Ev} {t : T} {h : H} {lv : V} {i : Nat} {s : V} {L : List Hop} (v : InvR l t h lv i s L) {x : Ev} (e : l[i]? = some x) (hL : L.length ≤ 1048576) :
    (hstep L i x = none ∧ ∃ t' h', (∀ kn kx, code nS i8S8 EV t h kn kx = kx none t' h') ∧ (t'.v 2 = .nils ∧ t'.v 3 = .bool false) ∧ Mod s.blk h h') ∨
    ∃ L' t' h' s', hstep L i x = some L' ∧ L'.length ≤ L.length + 1 ∧ (∀ kn kx, code nS i8S8 EV t h kn kx = kn t' h') ∧ InvR l t' h' lv i s' L' ∧ Mod s.blk h h' ∧ (∀ q, s'.blk q → s.blk q ∨ h.nx.toNat ≤ q.toNat) := by
  have fin : (∃ t' h', (∀ kn kx, code nS i8S8 EV t h kn kx = kx none t' h') ∧ (t'.v 2 = .nils ∧ t'.v 3 = .bool false) ∧ h' = h) → ∃ t' h', (∀ kn kx, code nS i8S8 EV t h kn kx = kx none t' h') ∧ (t'.v 2 = .nils ∧ t'.v 3 = .bool false) ∧ Mod s.blk h h' := fun ⟨t', h', a, b, c⟩ => ⟨t', h', a, b, by subst c; exact Mod.refl _⟩
  cases hf : x.fin with
  | true =>
    by_cases ho : 0 ≤ openIdx L x.core
    · obtain ⟨j, o, h1, h2, h3, h4⟩ : ∃ (j : Nat) (o : Hop), openIdx L x.core = (j : Int) ∧ L[j]? = some o ∧ o.core = x.core ∧ o.fin < 0 := by
        rcases openIdx_spec L x.core with ⟨h1, _⟩ | ⟨j, o, h1, h2, h3, h4⟩
        · omega
        · exact ⟨j, o, h1, h2, h3, h4⟩
      have hg : L.getD j Op0 = o := by rw [List.getD_eq_getElem?_getD, h2]; rfl
      by_cases hq : o.call = x.call
      · refine .inr ?_
        obtain ⟨t', h', a1, a2, a3⟩ := rC v e hL hf h1 h2 hq
        refine ⟨_, t', h', s, ?_, ?_, a1, a2, a3, fun q hq => .inl hq⟩
        · unfold hstep
          simp only [hf, h1, Int.toNat_natCast, hg]
          rw [if_pos trivial, if_neg (by simp [hq])]
        · simp
      · refine .inl ⟨?_, fin (rB v e hL hf h1 h2 hq)⟩
        unfold hstep
        simp only [hf, h1, Int.toNat_natCast, hg]
        rw [if_pos trivial, if_pos (.inr hq)]
    · refine .inl ⟨?_, fin (rA v e hL hf (by omega))⟩
      unfold hstep
      simp only [hf]
      rw [if_pos trivial, if_pos (.inl (by omega))]
  | false =>
    by_cases ho : 0 ≤ openIdx L x.core
    · refine .inl ⟨?_, fin (rD v e hL hf ho)⟩
      unfold hstep
      simp only [hf]
      rw [if_neg (by simp), if_pos (.inl ho)]
    · by_cases hr : x.res = Re0
      · refine .inr ?_
        obtain ⟨t', h', s', a1, a2, a3, a4⟩ := rF v e hL hf (by omega) hr
        refine ⟨_, t', h', s', ?_, ?_, a1, a2, a3, a4⟩
        · unfold hstep
          simp only [hf]
          rw [if_neg (by simp), if_neg (by simp [hr]; omega)]
        · simp
      · refine .inl ⟨?_, fin (rE v e hL hf (by omega) hr)⟩
        unfold hstep
        simp only [hf]
        rw [if_neg (by simp), if_pos (.inr hr)]
theorem loopR (l : List Ev) (lv : V) (hn : l.length ≤ 1048576) : ∀ (r i : Nat), i + r = l.length → ∀ (t : T) (h : H) (s : V) (L : List Hop), InvR l t h lv i s L → L.length ≤ i →
    ∃ t' h', ((hrun L i (l.drop i) = none ∧ (∀ kn kx, EV.loop i8L9 t h kn kx = kx none t' h') ∧ t'.v 2 = .nils ∧ t'.v 3 = .bool false) ∨
      ((hrun L i (l.drop i)).isSome = true ∧ (∀ kn kx, EV.loop i8L9 t h kn kx = kx (some 0) t' h'))) ∧ Mod s.blk h h'
  | 0, i, hi, t, h, s, L, v, hL => by
    have hd : l.drop i = [] := List.drop_eq_nil_of_le (by omega)
    have hlt : ¬ ((i : Int) < (l.length : Int)) := by omega
    obtain ⟨n, en, _, hlen⟩ := v.hl.len
    have hnl : n = l.length := by rw [flat_len lenE] at en; omega
    subst hnl
    have hh : ∃ t' h', (∀ kn kx, code nS i8L9 EV t h kn kx = kx (some 0) t' h') ∧ h' = h := by
      apply to_x
      · intro kn kx
        simp (disch := first | decide | omega | assumption) only [go_sem, i8S0, v.tm.t0, v.tm.t5, hlen]
        try exact rfl
      · rfl
    obtain ⟨t', h', e1, rfl⟩ := hh
    exact ⟨t', h', .inr ⟨by rw [hd]; rfl, fun kn kx => by rw [EE_loop nS FT (trueOrc_nat 6)]; exact e1 _ _⟩, Mod.refl _⟩
  | r + 1, i, hi, t, h, s, L, v, hL => by
    have hlt : (i : Int) < (l.length : Int) := by omega
    have hil : i < l.length := by omega
    have hx : l[i]? = some l[i] := List.getElem?_eq_getElem hil
    have hd : l.drop i = l[i] :: l.drop (i + 1) := List.drop_eq_getElem_cons hil
    obtain ⟨n, en, _, hlen⟩ := v.hl.len
    have hnl : n = l.length := by rw [flat_len lenE] at en; omega
    subst hnl
    let t1 : T := (((t.st 9 (.int .i64 (i : Int))).st 10 lv).st 11 (.int .i64 (l.length : Int))).st 12 (.bool (decide ((i : Int) < (l.length : Int))))
    have v1 : InvR l t1 h lv i s L := v.tmp ⟨by simp (disch := decide) only [t1, go_sem, v.tm.t0], by simp (disch := decide) only [t1, go_sem, v.tm.t4], by simp (disch := decide) only [t1, go_sem, v.tm.t5]⟩
    have hgo : ∀ kn kx, EV.loop i8L9 t h kn kx = code nS i8S8 EV t1 h (qSeq nS (.reg [⟨(some (.of 13)), none, 0, .mv (.t (.of 5))⟩, ⟨(some (.of 14)), none, 0, .bin .add (.t (.of 13)) (.c (.int .i64 1))⟩, ⟨(some (.of 5)), none, 0, .mv (.t (.of 14))⟩]) EV (fun t h => EV.loop i8L9 t h kn kx) kx) kx := fun kn kx => by
      rw [EE_loop nS FT (trueOrc_nat 6)]
      simp (disch := first | decide | omega | assumption) only [go_sem, i8S0, v.tm.t0, v.tm.t5, hlen]
      try exact rfl
    rcases stepR v1 hx (by omega) with ⟨h1, t', h', h2, h3, h4⟩ | ⟨L', t', h', s', h1, h5, h2, h3, h4, h6⟩
    · exact ⟨t', h', .inl ⟨by rw [hd]; unfold hrun; rw [h1], fun kn kx => by rw [hgo, h2], h3⟩, h4⟩
    · have v2 : InvR l (((t'.st 13 (.int .i64 (i : Int))).st 14 (.int .i64 ((i : Int) + 1))).st 5 (.int .i64 ((i : Int) + 1))) h' lv (i + 1) s' L' := h3.tmp ⟨by simp (disch := decide) only [go_sem, h3.tm.t0], by simp (disch := decide) only [go_sem, h3.tm.t4], by simp (disch := decide) only [go_sem]; simp⟩
      obtain ⟨t9, h9, c1, c2⟩ := loopR l lv hn r (i + 1) (by omega) _ h' s' L' v2 (by omega)
      have e : ∀ kn kx, EV.loop i8L9 t h kn kx = EV.loop i8L9 (((t'.st 13 (.int .i64 (i : Int))).st 14 (.int .i64 ((i : Int) + 1))).st 5 (.int .i64 ((i : Int) + 1))) h' kn kx := fun kn kx => by
        rw [hgo, h2]
        simp (disch := first | decide | omega | assumption) only [go_sem, h3.tm.t5]
        try exact rfl
      have er : hrun L i (l.drop i) = hrun L' (i + 1) (l.drop (i + 1)) := by rw [hd]; show (match hstep L i l[i] with | none => none | some L' => hrun L' (i + 1) (l.drop (i + 1))) = _; rw [h1]
      refine ⟨t9, h9, ?_, h4.trans' c2 fun q hq hb => ?_⟩
      · rcases c1 with ⟨d1, d2, d3⟩ | ⟨d1, d2⟩
        · exact .inl ⟨by rw [er]; simpa using d1, fun kn kx => by rw [e, d2], d3⟩
        · exact .inr ⟨by rw [er]; simpa using d1, fun kn kx => by rw [e, d2]⟩
      · rcases h6 q hb with h7 | h7
        · exact h7
        · omega
theorem cl8 (a : V) (h : H) (k : K) : EV.call 8 [a] h k = code nS i8 EV (ofL [a] 0 .nil) h (o_kn [(.of 2, none, false), (.of 3, none, false)] k) (o_kx [(.of 2, none, false), (.of 3, none, false)] k) := cl_eq (trueOrc_nat 6) fn8 rfl rfl k
theorem cl5 (a : V) (h : H) (k : K) : EV.call 5 [a] h k = code nS i5 EV (ofL [a] 0 .nil) h (o_kn [(.of 2, none, false)] k) (o_kx [(.of 2, none, false)] k) := cl_eq (trueOrc_nat 6) fn5 rfl rfl k
theorem cl3 (a : V) (h : H) (k : K) : EV.call 3 [a] h k = code nS i3 EV (ofL [a] 0 .nil) h (o_kn [(.of 2, none, false)] k) (o_kx [(.of 2, none, false)] k) := cl_eq (trueOrc_nat 6) fn3 rfl rfl k
theorem Sli_empty (h : H) (n : Nat) : Sli (h.push (mkO [])) n (.sl h.nx 0 0 0 none) [] := by
  have := Sli.sl (esz := n) (n := 0) (cap := 0) (o := 0) (fx := none) (Cells.new h []) (Nat.le_refl _) (by simp) fun e he => by cases he
  simpa using this
theorem refops_c {l : List Ev} {h : H} {lv : V} (hl : Sli h 12 lv (flat rowE l)) (hn : l.length ≤ 1048576) (ah : Ahead h) :
    ∃ v h', (∀ k : K, EV.call 8 [lv] h k = k (.tup [v, .bool (hrun [] 0 l).isSome]) h') ∧ Mod (fun _ => False) h h' := by
  let t1 : T := (((((Tr.nil : T).st 0 lv).st 2 .nils).st 3 (.bool false)).st 8 (.sl h.nx 0 0 0 none)).st 4 (.sl h.nx 0 0 0 none) |>.st 5 (.int .i64 0)
  have hlt : ∀ p, lv.blk p → p ≠ h.nx := fun p hp e => by have := hl.lt hp; subst e; omega
  have v : InvR l t1 (h.push (mkO [])) lv 0 (.sl h.nx 0 0 0 none) [] := {
    tm := ⟨by simp (disch := decide) only [t1, go_sem], by simp (disch := decide) only [t1, go_sem], by simp (disch := decide) only [t1, go_sem]; rfl⟩
    hl := hl.mod (Mod.push (M := fun _ => False) _ _) fun _ _ x => x
    hs := Sli_empty h 13
    ds := fun q hq hb => hlt q hb hq
    u := fun i j a b ha => by simp at ha
    ah := ah.push _ }
  obtain ⟨t', h', c1, c2⟩ := loopR l lv hn l.length 0 (by omega) t1 _ _ [] v (by simp)
  have md : Mod (fun _ => False) h h' := (Mod.push (M := fun _ => False) h (mkO [])).trans' c2 fun q hq hb => by
    have hb : q = h.nx := hb
    subst hb; omega
  simp only [List.drop_zero] at c1
  rcases c1 with ⟨d1, d2, d3, d4⟩ | ⟨d1, d2⟩
  · refine ⟨.nils, h', fun k => ?_, md⟩
    have d1' : hrun [] 0 l = none := d1
    rw [cl8, d1']
    simp (disch := first | decide | omega | assumption) only [go_sem, i8S10, code_loop]
    refine (d2 _ _).trans ?_
    simp (disch := first | decide | omega | assumption) only [go_sem, d3, d4]
    exact rfl
  · refine ⟨t'.v 4, h', fun k => ?_, md⟩
    have d1' : (hrun [] 0 l).isSome = true := d1
    rw [cl8, d1']
    simp (disch := first | decide | omega | assumption) only [go_sem, i8S10, code_loop]
    refine (d2 _ _).trans ?_
    simp (disch := first | decide | omega | assumption) only [go_sem]
    try exact rfl
/-- 'basinref26.Check' -/
theorem refcheck_c {l : List Ev} {h : H} {lv : V} (hl : Sli h 12 lv (flat rowE l)) (hn : l.length ≤ 1048576) (ah : Ahead h) :
    ∃ h', (∀ k : K, EV.call 5 [lv] h k = k (.int .i64 (if (hrun [] 0 l).isSome then 0 else 1)) h') ∧ Mod (fun _ => False) h h' := by
  obtain ⟨v, h', e, md⟩ := refops_c hl hn ah
  refine ⟨h', fun k => ?_, md⟩
  rw [cl5]
  cases hr : (hrun [] 0 l).isSome with
  | true =>
    rw [hr] at e
    simp (disch := first | decide | omega | assumption) only [go_sem, i5S0, e, Bool.not_true, Bool.not_false, if_true]
    try exact rfl
  | false =>
    rw [hr] at e
    simp (disch := first | decide | omega | assumption) only [go_sem, i5S0, e, Bool.not_true, Bool.not_false, if_false]
    try exact rfl
theorem awake_c (h : H) (k : K) : EV.call 6 [] h k = k (.bool true) h := by
  rw [EE_call nS FT (trueOrc_nat 6)]; rfl
/-- the law -/
theorem law {l : List Ev} {h : H} {lv : V} (hl : Sli h 12 lv (flat rowE l)) (hn : l.length ≤ 1048576) (ah : Ahead h) :
    ∃ h', Mod (fun _ => False) h h' ∧ ∀ k : K, EV.call 3 [lv] h k = k (.bool true) h' := by
  have hl1 := hl.mod (Mod.push (M := fun _ => False) h (mkO [])) fun _ _ x => x
  obtain ⟨s1, h1, a1, a2, a3, a4, a5⟩ := (Sli_empty h 12).append2 (by_ := 96) hl1 (by omega) (fun v hv => by
    simp only [flat, List.mem_flatten, List.mem_map] at hv
    obtain ⟨r, ⟨x, _, rfl⟩, hv⟩ := hv
    simp at hv
    rcases hv with rfl | rfl | rfl | rfl | rfl | rfl | rfl | rfl | rfl | rfl | rfl | rfl <;> rfl) (fun n len h2 h3 => by
    have e1 : n = l.length := by rw [flat_len lenE] at h3; omega
    have e2 : len = 0 := by simp at h2; omega
    subst e1 e2
    unfold appOk
    have : Nat.ble (Nat.add 0 l.length) 1073741824 = true := by rw [Nat.ble_eq]; show 0 + l.length ≤ _; omega
    rw [this])
  rw [List.nil_append] at a2
  have ah1 := a4 (ah.push _)
  have m1 : Mod (fun _ => False) h h1 := (Mod.push (M := fun _ => False) h (mkO [])).trans' a3 fun q hq hb => by
    have hb : q = h.nx := hb
    subst hb; omega
  obtain ⟨h2, b1, b2, b3⟩ := check_c a2 hn ah1
  obtain ⟨h3, c1, c2⟩ := refcheck_c ((hl.mod m1 fun _ _ x => x).mod b2 fun _ _ x => x) hn b3
  refine ⟨h3, (m1.trans b2).trans c2, fun k => ?_⟩
  rw [cl3]
  simp (disch := first | decide | omega | assumption) only [go_sem, a1, b1, c1, awake_c, decide_true]
  try exact rfl
end Go.Proofs.YtkjlkjnlhogkiaaDoor.hist
