/- 'history.ops' and 'history.Check': what they tell. No condition. -/
import Derived.Test.YtkjlkjnlhogkiaaDoorQHiP2
namespace Go.Proofs.YtkjlkjnlhogkiaaDoor.hist
open Go.Ab Go.Hist
set_option maxHeartbeats 4000000
set_option maxRecDepth 1000000
set_option linter.unusedSimpArgs false
set_option linter.unusedVariables false
theorem InvP.st14 {l : List Ev} {t : T} {h : H} {lv : V} {i : Nat} {mb : Pos} {m : List (Int × Int)} {s : V} {L : List Hop} (v : InvP l t h lv i mb m s L) (x : V) : InvP l (t.st 14 x) h lv i mb m s L where
  t4 := by rw [Tr.v_ne _ _ (by decide)]; exact v.t4
  t5 := by rw [Tr.v_ne _ _ (by decide)]; exact v.t5
  t11 := by rw [Tr.v_ne _ _ (by decide)]; exact v.t11
  t12 := by rw [Tr.v_ne _ _ (by decide)]; exact v.t12
  t13 := by rw [Tr.v_ne _ _ (by decide)]; exact v.t13
  hl := v.hl
  hs := v.hs
  hm := v.hm
  mlt := v.mlt
  ds := v.ds
  dm := v.dm
  ag := v.ag
  u := v.u
  ah := v.ah
theorem InvP.next {l : List Ev} {t : T} {h : H} {lv : V} {i : Nat} {mb : Pos} {m : List (Int × Int)} {s : V} {L : List Hop} (v : InvP l t h lv i mb m s L) : InvP l ((t.st 76 (.int .i64 ((i : Int) + 1))).st 13 (.int .i64 ((i : Int) + 1))) h lv (i + 1) mb m s L where
  t4 := by rw [Tr.v_ne _ _ (by decide), Tr.v_ne _ _ (by decide)]; exact v.t4
  t5 := by rw [Tr.v_ne _ _ (by decide), Tr.v_ne _ _ (by decide)]; exact v.t5
  t11 := by rw [Tr.v_ne _ _ (by decide), Tr.v_ne _ _ (by decide)]; exact v.t11
  t12 := by rw [Tr.v_ne _ _ (by decide), Tr.v_ne _ _ (by decide)]; exact v.t12
  t13 := by rw [Tr.v_same]; simp
  hl := v.hl
  hs := v.hs
  hm := v.hm
  mlt := v.mlt
  ds := v.ds
  dm := v.dm
  ag := v.ag
  u := v.u
  ah := v.ah
/-- one round -/
theorem stepP {l : List Ev} {t : T} {h : H} {lv : V} {i : Nat} {mb : Pos} {m : List (Int × Int)} {s : V} {L : List Hop} (v : InvP l t h lv i mb m s L) {x : Ev} (e : l[i]? = some x) (hL : L.length ≤ 1048576) :
    (hstep L i x = none ∧ ∃ t' h', (∀ kn kx, code nS i7S2 EV t h kn kx = kx none t' h') ∧ (t'.v 2 = .nils ∧ t'.v 3 = .bool false) ∧ Mod (fun q => s.blk q ∨ q = mb) h h' ∧ Ahead h') ∨
    ∃ L' t' h' s' m', hstep L i x = some L' ∧ L'.length ≤ L.length + 1 ∧ (∀ kn kx, code nS i7S2 EV t h kn kx = kn t' h') ∧ InvP l t' h' lv i mb m' s' L' ∧ Mod (fun q => s.blk q ∨ q = mb) h h' ∧ (∀ q, s'.blk q → s.blk q ∨ h.nx.toNat ≤ q.toNat) := by
  cases hf : x.fin with
  | true =>
    by_cases ho : 0 ≤ openIdx L x.core
    · obtain ⟨j, o, h1, h2, h3, h4⟩ := rec_at v.hs ho
      have hg : L.getD j Op0 = o := by rw [List.getD_eq_getElem?_getD, h2]; rfl
      by_cases hq : o.call = x.call
      · refine .inr ?_
        obtain ⟨t', h', a1, a2, a3⟩ := stepC v e hf h1 h2 h3 h4 hq
        refine ⟨_, t', h', s, _, ?_, ?_, a1, a2, a3, fun q hq => .inl hq⟩
        · unfold hstep
          simp only [hf, h1, Int.toNat_natCast, hg]
          rw [if_pos trivial, if_neg (by simp [hq])]
        · simp
      · refine .inl ⟨?_, stepB v e hf h1 h2 hq⟩
        unfold hstep
        simp only [hf, h1, Int.toNat_natCast, hg]
        rw [if_pos trivial, if_pos (.inr hq)]
    · refine .inl ⟨?_, stepA v e hf (by omega)⟩
      unfold hstep
      simp only [hf]
      rw [if_pos trivial, if_pos (.inl (by omega))]
  | false =>
    by_cases ho : 0 ≤ openIdx L x.core
    · refine .inl ⟨?_, stepD v e hf ho⟩
      unfold hstep
      simp only [hf]
      rw [if_neg (by simp), if_pos (.inl ho)]
    · by_cases hr : x.res = Re0
      · refine .inr ?_
        obtain ⟨t', h', s', a1, a2, a3, a4⟩ := stepF v e hf (by omega) hr hL
        refine ⟨_, t', h', s', _, ?_, ?_, a1, a2, a3, a4⟩
        · unfold hstep
          simp only [hf]
          rw [if_neg (by simp), if_neg (by simp [hr]; omega)]
        · simp
      · refine .inl ⟨?_, stepE v e hf (by omega) hr⟩
        unfold hstep
        simp only [hf]
        rw [if_neg (by simp), if_pos (.inr hr)]
theorem loopP (l : List Ev) (lv : V) (mb : Pos) (hn : l.length ≤ 1048576) : ∀ (r i : Nat), i + r = l.length → ∀ (t : T) (h : H) (m : List (Int × Int)) (s : V) (L : List Hop), InvP l t h lv i mb m s L → L.length ≤ i →
    ∃ t' h', ((hrun L i (l.drop i) = none ∧ (∀ kn kx, EV.loop i7L3 t h kn kx = kx none t' h') ∧ t'.v 2 = .nils ∧ t'.v 3 = .bool false) ∨
      ((hrun L i (l.drop i)).isSome = true ∧ (∀ kn kx, EV.loop i7L3 t h kn kx = kx (some 0) t' h'))) ∧ Mod (fun q => s.blk q ∨ q = mb) h h' ∧ Ahead h'
  | 0, i, hi, t, h, m, s, L, v, hL => by
    have hd : l.drop i = [] := List.drop_eq_nil_of_le (by omega)
    have hlt : ¬ ((i : Int) < (l.length : Int)) := by omega
    refine ⟨t.st 14 (.bool (decide ((i : Int) < (l.length : Int)))), h, .inr ⟨by rw [hd]; rfl, fun kn kx => ?_⟩, Mod.refl _, v.ah⟩
    rw [EE_loop nS FT (trueOrc_nat 6)]
    simp (disch := first | decide | omega | assumption) only [go_sem, i7S0, v.t12, v.t13]
    try exact rfl
  | r + 1, i, hi, t, h, m, s, L, v, hL => by
    have hlt : (i : Int) < (l.length : Int) := by omega
    have hil : i < l.length := by omega
    have hx : l[i]? = some l[i] := List.getElem?_eq_getElem hil
    have hd : l.drop i = l[i] :: l.drop (i + 1) := List.drop_eq_getElem_cons hil
    have v1 := v.st14 (.bool (decide ((i : Int) < (l.length : Int))))
    rcases stepP v1 hx (by omega) with ⟨h1, t', h', h2, h3, h4⟩ | ⟨L', t', h', s', m', h1, h5, h2, h3, h4, h6⟩
    · refine ⟨t', h', .inl ⟨by rw [hd]; unfold hrun; rw [h1], fun kn kx => ?_, h3⟩, h4⟩
      rw [EE_loop nS FT (trueOrc_nat 6)]
      simp (disch := first | decide | omega | assumption) only [go_sem, i7S0, v.t12, v.t13, h2]
      try exact rfl
    · obtain ⟨t9, h9, c1, c2, c3⟩ := loopP l lv mb hn r (i + 1) (by omega) _ h' m' s' L' h3.next (by omega)
      have e : ∀ kn kx, EV.loop i7L3 t h kn kx = EV.loop i7L3 ((t'.st 76 (.int .i64 ((i : Int) + 1))).st 13 (.int .i64 ((i : Int) + 1))) h' kn kx := fun kn kx => by
        rw [EE_loop nS FT (trueOrc_nat 6)]
        simp (disch := first | decide | omega | assumption) only [go_sem, i7S0, v.t12, v.t13, h2, h3.t13]
        try exact rfl
      have er : hrun L i (l.drop i) = hrun L' (i + 1) (l.drop (i + 1)) := by rw [hd]; show (match hstep L i l[i] with | none => none | some L' => hrun L' (i + 1) (l.drop (i + 1))) = _; rw [h1]
      refine ⟨t9, h9, ?_, h4.trans' c2 fun q hq hb => ?_, c3⟩
      · rcases c1 with ⟨d1, d2, d3⟩ | ⟨d1, d2⟩
        · exact .inl ⟨by rw [er]; simpa using d1, fun kn kx => by rw [e, d2], d3⟩
        · exact .inr ⟨by rw [er]; simpa using d1, fun kn kx => by rw [e, d2]⟩
      · rcases hb with hb | hb
        · rcases h6 q hb with h7 | h7
          · exact .inl h7
          · omega
        · exact .inr hb

theorem cl7 (a : V) (h : H) (k : K) : EV.call 7 [a] h k = code nS i7 EV (ofL [a] 0 .nil) h (o_kn [(.of 2, none, false), (.of 3, none, false)] k) (o_kx [(.of 2, none, false), (.of 3, none, false)] k) := cl_eq (trueOrc_nat 6) fn7 rfl rfl k
theorem cl4 (a : V) (h : H) (k : K) : EV.call 4 [a] h k = code nS i4 EV (ofL [a] 0 .nil) h (o_kn [(.of 2, none, false)] k) (o_kx [(.of 2, none, false)] k) := cl_eq (trueOrc_nat 6) fn4 rfl rfl k
theorem ops_c {l : List Ev} {h : H} {lv : V} (hl : Sli h 12 lv (flat rowE l)) (hn : l.length ≤ 1048576) (ah : Ahead h) :
    ∃ v h', (∀ k : K, EV.call 7 [lv] h k = k (.tup [v, .bool (hrun [] 0 l).isSome]) h') ∧ Mod (fun _ => False) h h' ∧ Ahead h' := by
  obtain ⟨n, en, _, hlen⟩ := hl.len
  have hnl : n = l.length := by rw [flat_len lenE] at en; omega
  subst hnl
  let t1 : T := ((((((((Tr.nil : T).st 0 lv).st 2 .nils).st 3 (.bool false)).st 4 .nils).st 10 (.map h.nx)).st 5 (.map h.nx)).st 11 lv).st 12 (.int .i64 (l.length : Int)) |>.st 13 (.int .i64 0)
  have hlt : ∀ p, lv.blk p → p ≠ h.nx := fun p hp e => by have := hl.lt hp; subst e; omega
  have v : InvP l t1 (h.push (.mp (im []))) lv 0 h.nx [] .nils [] := {
    t4 := by simp (disch := decide) only [t1, go_sem]
    t5 := by simp (disch := decide) only [t1, go_sem]
    t11 := by simp (disch := decide) only [t1, go_sem]
    t12 := by simp (disch := decide) only [t1, go_sem]
    t13 := by simp (disch := decide) only [t1, go_sem]; rfl
    hl := hl.mod (Mod.push (M := fun _ => False) _ _) fun _ _ x => x
    hs := .nil
    hm := H.get_push_same _ _
    mlt := by rw [H.nx_push, Pos.toNat_succ]; omega
    ds := fun q hq => by cases hq
    dm := fun hb => hlt _ hb rfl
    ag := Ag_nil
    u := fun i j a b ha => by simp at ha
    ah := ah.push _ }
  obtain ⟨t', h', c1, c2, c3⟩ := loopP l lv h.nx hn l.length 0 (by omega) t1 _ [] .nils [] v (by simp)
  have md : Mod (fun _ => False) h h' := (Mod.push (M := fun _ => False) h (.mp (im []))).trans' c2 fun q hq hb => by
    rcases hb with hb | hb
    · cases hb
    · subst hb; omega
  simp only [List.drop_zero] at c1
  rcases c1 with ⟨d1, d2, d3, d4⟩ | ⟨d1, d2⟩
  · refine ⟨.nils, h', fun k => ?_, md, c3⟩
    have d1' : hrun [] 0 l = none := d1
    rw [cl7, d1']
    simp (disch := first | decide | omega | assumption) only [go_sem, i7S4, hlen, code_loop]
    refine (d2 _ _).trans ?_
    simp (disch := first | decide | omega | assumption) only [go_sem, d3, d4]
    exact rfl
  · refine ⟨t'.v 4, h', fun k => ?_, md, c3⟩
    have d1' : (hrun [] 0 l).isSome = true := d1
    rw [cl7, d1']
    simp (disch := first | decide | omega | assumption) only [go_sem, i7S4, hlen, code_loop]
    refine (d2 _ _).trans ?_
    simp (disch := first | decide | omega | assumption) only [go_sem]
    try exact rfl
/-- 'history.Check' -/
theorem check_c {l : List Ev} {h : H} {lv : V} (hl : Sli h 12 lv (flat rowE l)) (hn : l.length ≤ 1048576) (ah : Ahead h) :
    ∃ h', (∀ k : K, EV.call 4 [lv] h k = k (.int .i64 (if (hrun [] 0 l).isSome then 0 else 1)) h') ∧ Mod (fun _ => False) h h' ∧ Ahead h' := by
  obtain ⟨v, h', e, md, c3⟩ := ops_c hl hn ah
  refine ⟨h', fun k => ?_, md, c3⟩
  rw [cl4]
  cases hr : (hrun [] 0 l).isSome with
  | true =>
    rw [hr] at e
    simp (disch := first | decide | omega | assumption) only [go_sem, i4S0, e, Bool.not_true, Bool.not_false, if_true]
    try exact rfl
  | false =>
    rw [hr] at e
    simp (disch := first | decide | omega | assumption) only [go_sem, i4S0, e, Bool.not_true, Bool.not_false, if_false]
    try exact rfl
end Go.Proofs.YtkjlkjnlhogkiaaDoor.hist
