/- 'basinref26.Ops': one round of its loop. No condition. -/
import Derived.Test.YtkjlkjnlhogkiaaDoorQHiR1
namespace Go.Proofs.YtkjlkjnlhogkiaaDoor.hist
open Go.Ab Go.Hist
set_option maxHeartbeats 4000000
set_option maxRecDepth 1000000
set_option linter.unusedSimpArgs false
set_option linter.unusedVariables false
structure InvR (l : List Ev) (t : T) (h : H) (lv : V) (i : Nat) (s : V) (L : List Hop) : Prop where
  tm : TmR t lv s i
  hl : Sli h 12 lv (flat rowE l)
  hs : Sli h 13 s (flat rowR L)
  ds : ∀ q, s.blk q → ¬ lv.blk q
  u : U L
  ah : Ahead h
/-- the round, behind the search -/
theorem body_r {l : List Ev} {t : T} {h : H} {lv : V} {i : Nat} {s : V} {L : List Hop} (v : InvR l t h lv i s L) {x : Ev} (e : l[i]? = some x) (hL : L.length ≤ 1048576) :
    ∃ t1, (∀ kn kx, EV.loop i8L3 ((t.st 6 (.int .i64 (-1))).st 7 (.int .i64 0)) h kn kx = kx (some 2) t1 h) ∧ t1.v 6 = .int .i64 (openIdx L x.core) ∧ TmR t1 lv s i := by
  obtain ⟨⟨t0, t4, t5⟩, hl, hs, ds, u, ah⟩ := v
  have tm : TmR ((t.st 6 (.int .i64 (-1))).st 7 (.int .i64 0)) lv s i := ⟨by simp (disch := decide) only [go_sem, t0], by simp (disch := decide) only [go_sem, t4], by simp (disch := decide) only [go_sem, t5]⟩
  obtain ⟨t1, e1, e2, e3⟩ := search_r hl hs hL e L.length 0 (by omega) _ (-1) tm (by simp (disch := decide) only [go_sem]) (by simp (disch := decide) only [go_sem]; rfl)
  exact ⟨t1, e1, e2, e3⟩
theorem rA {l : List Ev} {t : T} {h : H} {lv : V} {i : Nat} {s : V} {L : List Hop} (v : InvR l t h lv i s L) {x : Ev} (e : l[i]? = some x) (hL : L.length ≤ 1048576) (hf : x.fin = true) (ho : openIdx L x.core < 0) :
    ∃ t' h', (∀ kn kx, code nS i8S8 EV t h kn kx = kx none t' h') ∧ (t'.v 2 = .nils ∧ t'.v 3 = .bool false) ∧ h' = h := by
  obtain ⟨t1, e1, o6, ⟨o0, o4, o5⟩⟩ := body_r v e hL
  obtain ⟨⟨t0, t4, t5⟩, hl, hs, ds, u, ah⟩ := v
  obtain ⟨b, q, hb, f1, f2, _⟩ := at_row lenE (by decide) hl e
  have f3 : ∀ k : K, o_ld1 (.ptr b q) h k = k (.bool x.fin) h := fun k => (f2 h (fun _ _ => rfl) (Nat.le_refl _)).1 0 _ k rfl
  apply to_x
  · intro kn kx
    simp (disch := first | decide | omega | assumption) only [go_sem, i8S8, i8S4, i8S6, i8S5, code_loop, e1, o0, o4, o5, o6, f1, f3]
    try exact rfl
  · refine ⟨⟨?ga, ?gb⟩, rfl⟩
    case ga => simp (disch := decide) only [go_sem]
    case gb => simp (disch := decide) only [go_sem]
theorem rB {l : List Ev} {t : T} {h : H} {lv : V} {i : Nat} {s : V} {L : List Hop} (v : InvR l t h lv i s L) {x : Ev} (e : l[i]? = some x) (hL : L.length ≤ 1048576) (hf : x.fin = true) {j : Nat} {o : Hop} (ho : openIdx L x.core = (j : Int)) (eo : L[j]? = some o) (hne : o.call ≠ x.call) :
    ∃ t' h', (∀ kn kx, code nS i8S8 EV t h kn kx = kx none t' h') ∧ (t'.v 2 = .nils ∧ t'.v 3 = .bool false) ∧ h' = h := by
  obtain ⟨t1, e1, o6, ⟨o0, o4, o5⟩⟩ := body_r v e hL
  rw [ho] at o6
  obtain ⟨⟨t0, t4, t5⟩, hl, hs, ds, u, ah⟩ := v
  obtain ⟨b, q, hb, f1, f2, _⟩ := at_row lenE (by decide) hl e
  obtain ⟨ob, oq, hob, g1, g2, _⟩ := at_row lenR (by decide) hs eo
  have f3 : ∀ k : K, o_ld1 (.ptr b q) h k = k (.bool x.fin) h := fun k => (f2 h (fun _ _ => rfl) (Nat.le_refl _)).1 0 _ k rfl
  have f4 : ∀ k : K, o_ldn 8 (.ptr b (q + 2)) h k = k (.agg (ca x.call)) h := fun k => (f2 h (fun _ _ => rfl) (Nat.le_refl _)).2 2 8 _ k (by omega) rfl
  have g3 : ∀ k : K, o_ldn 8 (.ptr ob (oq + 1)) h k = k (.agg (ca o.call)) h := fun k => (g2 h (fun _ _ => rfl) (Nat.le_refl _)).2 1 8 _ k (by omega) rfl
  have hq : (true != decide (o.call = x.call)) = true := by simp [hne]
  have hj : ¬ ((j : Int) < 0) := by omega
  apply to_x
  · intro kn kx
    simp (disch := first | decide | omega | assumption) only [go_sem, i8S8, i8S4, i8S6, i8S5, code_loop, e1, o0, o4, o5, o6, f1, f3, f4, g1, g3, eqa8]
    try exact rfl
  · refine ⟨⟨?ga, ?gb⟩, rfl⟩
    case ga => simp (disch := decide) only [go_sem]
    case gb => simp (disch := decide) only [go_sem]
theorem rD {l : List Ev} {t : T} {h : H} {lv : V} {i : Nat} {s : V} {L : List Hop} (v : InvR l t h lv i s L) {x : Ev} (e : l[i]? = some x) (hL : L.length ≤ 1048576) (hf : x.fin = false) (ho : 0 ≤ openIdx L x.core) :
    ∃ t' h', (∀ kn kx, code nS i8S8 EV t h kn kx = kx none t' h') ∧ (t'.v 2 = .nils ∧ t'.v 3 = .bool false) ∧ h' = h := by
  obtain ⟨t1, e1, o6, ⟨o0, o4, o5⟩⟩ := body_r v e hL
  obtain ⟨⟨t0, t4, t5⟩, hl, hs, ds, u, ah⟩ := v
  obtain ⟨b, q, hb, f1, f2, _⟩ := at_row lenE (by decide) hl e
  have f3 : ∀ k : K, o_ld1 (.ptr b q) h k = k (.bool x.fin) h := fun k => (f2 h (fun _ _ => rfl) (Nat.le_refl _)).1 0 _ k rfl
  apply to_x
  · intro kn kx
    simp (disch := first | decide | omega | assumption) only [go_sem, i8S8, i8S4, i8S6, i8S7, code_loop, e1, o0, o4, o5, o6, f1, f3]
    try exact rfl
  · refine ⟨⟨?ga, ?gb⟩, rfl⟩
    case ga => simp (disch := decide) only [go_sem]
    case gb => simp (disch := decide) only [go_sem]
theorem rE {l : List Ev} {t : T} {h : H} {lv : V} {i : Nat} {s : V} {L : List Hop} (v : InvR l t h lv i s L) {x : Ev} (e : l[i]? = some x) (hL : L.length ≤ 1048576) (hf : x.fin = false) (ho : openIdx L x.core < 0) (hr : x.res ≠ Re0) :
    ∃ t' h', (∀ kn kx, code nS i8S8 EV t h kn kx = kx none t' h') ∧ (t'.v 2 = .nils ∧ t'.v 3 = .bool false) ∧ h' = h := by
  obtain ⟨t1, e1, o6, ⟨o0, o4, o5⟩⟩ := body_r v e hL
  obtain ⟨⟨t0, t4, t5⟩, hl, hs, ds, u, ah⟩ := v
  obtain ⟨b, q, hb, f1, f2, _⟩ := at_row lenE (by decide) hl e
  have f3 : ∀ k : K, o_ld1 (.ptr b q) h k = k (.bool x.fin) h := fun k => (f2 h (fun _ _ => rfl) (Nat.le_refl _)).1 0 _ k rfl
  have f4 : ∀ k : K, o_ldn 2 (.ptr b (q + 10)) h k = k (.agg (re x.res)) h := fun k => (f2 h (fun _ _ => rfl) (Nat.le_refl _)).2 10 2 _ k (by omega) rfl
  have r3 : ∀ (h' : H) (k : K), o_eqa nS [false, false] true (.agg (re x.res)) (.agg [.int .i64 0, .int .i64 0]) h' k = k (.bool (true != decide (x.res = Re0))) h' := fun h' k => eqa2 x.res Re0 true h' k
  have hq : (true != decide (x.res = Re0)) = true := by simp [hr]
  have hj : ¬ (0 ≤ openIdx L x.core) := by omega
  apply to_x
  · intro kn kx
    simp (disch := first | decide | omega | assumption) only [go_sem, i8S8, i8S4, i8S6, i8S7, code_loop, e1, o0, o4, o5, o6, f1, f3, f4, r3]
    try exact rfl
  · refine ⟨⟨?ga, ?gb⟩, rfl⟩
    case ga => simp (disch := decide) only [go_sem]
    case gb => simp (disch := decide) only [go_sem]
theorem rC {l : List Ev} {t : T} {h : H} {lv : V} {i : Nat} {s : V} {L : List Hop} (v : InvR l t h lv i s L) {x : Ev} (e : l[i]? = some x) (hL : L.length ≤ 1048576) (hf : x.fin = true) {j : Nat} {o : Hop} (ho : openIdx L x.core = (j : Int)) (eo : L[j]? = some o) (heq : o.call = x.call) :
    ∃ t' h', (∀ kn kx, code nS i8S8 EV t h kn kx = kn t' h') ∧ InvR l t' h' lv i s (L.set j { o with fin := (i : Int), res := x.res }) ∧ Mod s.blk h h' := by
  obtain ⟨t1, e1, o6, ⟨o0, o4, o5⟩⟩ := body_r v e hL
  rw [ho] at o6
  obtain ⟨⟨t0, t4, t5⟩, hl, hs, ds, u, ah⟩ := v
  obtain ⟨b, q, hb, f1, f2, _⟩ := at_row lenE (by decide) hl e
  obtain ⟨ob, oq, hob, g1, g2, g3⟩ := at_row lenR (by decide) hs eo
  have f3 : ∀ k : K, o_ld1 (.ptr b q) h k = k (.bool x.fin) h := fun k => (f2 h (fun _ _ => rfl) (Nat.le_refl _)).1 0 _ k rfl
  have f4 : ∀ k : K, o_ldn 8 (.ptr b (q + 2)) h k = k (.agg (ca x.call)) h := fun k => (f2 h (fun _ _ => rfl) (Nat.le_refl _)).2 2 8 _ k (by omega) rfl
  have g4 : ∀ k : K, o_ldn 8 (.ptr ob (oq + 1)) h k = k (.agg (ca o.call)) h := fun k => (g2 h (fun _ _ => rfl) (Nat.le_refl _)).2 1 8 _ k (by omega) rfl
  have hq : (true != decide (o.call = x.call)) = false := by simp [heq]
  have hj : ¬ ((j : Int) < 0) := by omega
  obtain ⟨h3, w1, w2, hs3, hmod3, hnx3, ha3⟩ := g3 h [.int .i64 (i : Int)] { o with fin := (i : Int) } 12 (fun _ _ => rfl) (Nat.le_refl _) (by simp) (by simp [V.one]) rfl
  have w1' : ∀ k : K, o_st1 (.ptr ob (oq + 12)) (.int .i64 (i : Int)) h k = k (.tup []) h3 := fun k => w2 _ k rfl
  have hjl := (List.getElem?_eq_some_iff.1 eo).1
  obtain ⟨ob', oq', hob', g1', g2', g3'⟩ := at_row lenR (by decide) hs3 (i := j) (a := { o with fin := (i : Int) }) (List.getElem?_set_self hjl)
  obtain ⟨rfl, rfl⟩ := same_ptr g1 g1'
  obtain ⟨h4, y1, y2, hs4, hmod4, hnx4, ha4⟩ := g3' h3 (re x.res) { o with fin := (i : Int), res := x.res } 9 (fun _ _ => rfl) (Nat.le_refl _) (by simp) (by simp [V.one]) rfl
  have y1' : ∀ k : K, o_stn 2 (.ptr ob' (oq' + 9)) (.agg (re x.res)) h3 k = k (.tup []) h4 := fun k => y1 k
  have f5 : ∀ k : K, o_ldn 2 (.ptr b (q + 10)) h3 k = k (.agg (re x.res)) h3 := fun k => (f2 h3 (fun p hp => hmod3.get p (hl.lt hp) fun hb => ds p hb hp) (by rw [hnx3]; exact Nat.le_refl _)).2 10 2 _ k (by omega) rfl
  have hset : (L.set j { o with fin := (i : Int) }).set j { o with fin := (i : Int), res := x.res } = L.set j { o with fin := (i : Int), res := x.res } := by simp
  rw [hset] at hs4
  apply to_of
  · intro kn kx
    simp (disch := first | decide | omega | assumption) only [go_sem, i8S8, i8S4, i8S6, i8S5, code_loop, e1, o0, o4, o5, o6, f1, f3, f4, g1, g4, eqa8, w1', f5, y1']
    try exact rfl
  · refine ⟨⟨⟨?t0, ?t4, ?t5⟩, ?hl, hs4, ds, U_set u (by show (0 : Int) ≤ i; omega), ha4 (ha3 ah)⟩, hmod3.trans hmod4⟩
    case t0 => simp (disch := decide) only [go_sem, o0]
    case t4 => simp (disch := decide) only [go_sem, o4]
    case t5 => simp (disch := decide) only [go_sem, o5]
    case hl => exact (hl.mod hmod3 fun p hp hb => ds p hb hp).mod hmod4 fun p hp hb => ds p hb hp
theorem rF {l : List Ev} {t : T} {h : H} {lv : V} {i : Nat} {s : V} {L : List Hop} (v : InvR l t h lv i s L) {x : Ev} (e : l[i]? = some x) (hL : L.length ≤ 1048576) (hf : x.fin = false) (ho : openIdx L x.core < 0) (hr : x.res = Re0) :
    ∃ t' h' s', (∀ kn kx, code nS i8S8 EV t h kn kx = kn t' h') ∧ InvR l t' h' lv i s' (L ++ [⟨x.core, x.call, (i : Int), -1, Re0⟩]) ∧ Mod s.blk h h' ∧ (∀ q, s'.blk q → s.blk q ∨ h.nx.toNat ≤ q.toNat) := by
  obtain ⟨t1, e1, o6, ⟨o0, o4, o5⟩⟩ := body_r v e hL
  obtain ⟨⟨t0, t4, t5⟩, hl, hs, ds, u, ah⟩ := v
  obtain ⟨b, q, hb, f1, f2, _⟩ := at_row lenE (by decide) hl e
  have f3 : ∀ k : K, o_ld1 (.ptr b q) h k = k (.bool x.fin) h := fun k => (f2 h (fun _ _ => rfl) (Nat.le_refl _)).1 0 _ k rfl
  have f4 : ∀ k : K, o_ldn 2 (.ptr b (q + 10)) h k = k (.agg (re x.res)) h := fun k => (f2 h (fun _ _ => rfl) (Nat.le_refl _)).2 10 2 _ k (by omega) rfl
  have r3 : ∀ (h' : H) (k : K), o_eqa nS [false, false] true (.agg (re x.res)) (.agg [.int .i64 0, .int .i64 0]) h' k = k (.bool (true != decide (x.res = Re0))) h' := fun h' k => eqa2 x.res Re0 true h' k
  have hq : (true != decide (x.res = Re0)) = false := by simp [hr]
  have hj : ¬ (0 ≤ openIdx L x.core) := by omega
  have f5 : ∀ k : K, o_ld1 (.ptr b (q + 1)) h k = k (.int .i64 x.core) h := fun k => (f2 h (fun _ _ => rfl) (Nat.le_refl _)).1 1 _ k rfl
  have f6 : ∀ k : K, o_ldn 8 (.ptr b (q + 2)) h k = k (.agg (ca x.call)) h := fun k => (f2 h (fun _ _ => rfl) (Nat.le_refl _)).2 2 8 _ k (by omega) rfl
  have hfr : h.fresh = true := ah.fresh
  obtain ⟨s', h4, w1, hs4, hmod4, ha4, hblk⟩ := app_row lenR (fun a v hv => by simp [rowR] at hv; rcases hv with rfl | rfl | rfl | rfl | rfl | rfl | rfl | rfl | rfl | rfl | rfl | rfl | rfl <;> rfl) hs hL ah ⟨x.core, x.call, (i : Int), -1, Re0⟩
  have w1' : ∀ k : K, o_app 13 104 s (.sl h.nx 0 1 1 none) (h.push (mkO [.int .i64 x.core, .int .i64 x.call.c0, .int .i64 x.call.c1, .int .i64 x.call.c2, .int .i64 x.call.c3, .int .i64 x.call.c4, .int .i64 x.call.c5, .int .i64 x.call.c6, .int .i64 x.call.c7, .int .i64 0, .int .i64 0, .int .i64 (i : Int), .int .i64 (-1)])) k = k s' h4 := w1
  have hkp : ∀ p, lv.blk p → h4.get p = h.get p := fun p hp => hmod4.get p (hl.lt hp) fun hb => ds p hb hp
  have f7 : ∀ k : K, o_ld1 (.ptr b (q + 1)) h4 k = k (.int .i64 x.core) h4 := fun k => (f2 h4 hkp hmod4.nx).1 1 _ k rfl
  have f8 : ∀ k : K, o_ldn 8 (.ptr b (q + 2)) h4 k = k (.agg (ca x.call)) h4 := fun k => (f2 h4 hkp hmod4.nx).2 2 8 _ k (by omega) rfl
  have hh : ∃ t' h', (∀ kn kx, code nS i8S8 EV t h kn kx = kn t' h') ∧ InvR l t' h' lv i s' (L ++ [⟨x.core, x.call, (i : Int), -1, Re0⟩]) ∧ Mod s.blk h h' := by
    apply to_of
    · intro kn kx
      simp (disch := first | decide | omega | assumption | exact one_int _ _ | exact vs_ca _ | exact vs_int _ | (simp only [List.length_cons, List.length_nil] <;> omega)) only [go_sem, i8S8, i8S4, i8S6, i8S7, code_loop, e1, o0, o4, o5, o6, f1, f3, f4, r3, f5, f6, w1', f7, f8, ap_kRe, List.set_cons_zero, List.set_cons_succ, List.append_nil, List.singleton_append, List.cons_append]
      try exact rfl
    · refine ⟨⟨⟨?t0, ?t4, ?t5⟩, hl.mod hmod4 fun p hp hb => ds p hb hp, hs4, ?ds, U_push (o := ⟨x.core, x.call, (i : Int), -1, Re0⟩) u ho, ha4⟩, hmod4⟩
      case t0 => simp (disch := decide) only [go_sem, o0]
      case t4 => simp (disch := decide) only [go_sem]
      case t5 => simp (disch := decide) only [go_sem, o5]
      case ds =>
        intro q hq hb
        rcases hblk q hq with h5 | h5
        · exact ds q h5 hb
        · have := hl.lt hb; omega
  obtain ⟨t9, h9, c1, c2, c3⟩ := hh
  exact ⟨t9, h9, s', c1, c2, c3, hblk⟩
end Go.Proofs.YtkjlkjnlhogkiaaDoor.hist
