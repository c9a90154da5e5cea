/- 'history.ops': one round of its loop, where it goes on. No condition. -/
import Derived.Test.YtkjlkjnlhogkiaaDoorQHiP1
namespace Go.Proofs.YtkjlkjnlhogkiaaDoor.hist
open Go.Ab Go.Hist
set_option maxHeartbeats 4000000
set_option maxRecDepth 1000000
set_option linter.unusedSimpArgs false
set_option linter.unusedVariables false
theorem same_ptr {n : Nat} {s : V} {j : Int} {b b' : Pos} {q q' : Nat} (x : ∀ (h' : H) (k : K), o_ixs n s (.int .i64 j) h' k = k (.ptr b q) h') (y : ∀ (h' : H) (k : K), o_ixs n s (.int .i64 j) h' k = k (.ptr b' q') h') : b' = b ∧ q' = q := by
  have := (x h0 fun v h => some (v, h)).symm.trans (y h0 fun v h => some (v, h))
  simp at this
  exact ⟨this.1.symm, this.2.symm⟩
theorem stepC {l : List Ev} {t : T} {h : H} {lv : V} {i : Nat} {mb : Pos} {m : List (Int × Int)} {s : V} {L : List Hop} (v : InvP l t h lv i mb m s L) {x : Ev} (e : l[i]? = some x) (hf : x.fin = true) {j : Nat} {o : Hop} (ho : openIdx L x.core = (j : Int)) (eo : L[j]? = some o) (hco : o.core = x.core) (hfo : o.fin < 0) (heq : o.call = x.call) :
    ∃ t' h', (∀ kn kx, code nS i7S2 EV t h kn kx = kn t' h') ∧ InvP l t' h' lv i mb (m.eraseP fun e => e.1 == x.core) s (L.set j { o with fin := (i : Int), res := x.res }) ∧ Mod (fun q => s.blk q ∨ q = mb) h h' := by
  have v0 := v
  obtain ⟨t4, t5, t11, t12, t13, hl, hs, hm, mlt, ds, dm, ag, u, ah⟩ := v
  obtain ⟨b, q, h2, f1, f2, f3, f4, hc, hmod, ha2, hnx⟩ := new_ev hl e ah
  obtain ⟨ob, oq, hob, g1, g2, g3⟩ := at_row lenP (by decide) hs eo
  have hm2 : h2.get mb = some (.mp (im m)) := by rw [hmod.get mb mlt (fun x => x)]; exact hm
  have hsb : ∀ p, s.blk p → h2.get p = h.get p := fun p hp => hmod.get p (hs.lt hp) fun x => x
  have hlk : ∀ k : K, o_lkp nS false [false] (.int .i64 0) true (.map mb) (.int .i64 x.core) h2 k = k (.tup [.int .i64 (j : Int), .bool true]) h2 := fun k => by
    rw [o_lkp_im nS hm2, mget_mg, ag.2, ho, if_pos (by omega)]; rfl
  have r1 : ∀ k : K, o_ldn 8 (.ptr ob (oq + 1)) h2 k = k (.agg (ca o.call)) h2 := fun k => (g2 h2 hsb (by omega)).2 1 8 _ k (by omega) rfl
  have r2 : ∀ k : K, o_ldn 8 (.ptr h.nx 2) h2 k = k (.agg (ca x.call)) h2 := fun k => hc.ldp k (by simp)
  have hq : (true != decide (o.call = x.call)) = false := by simp [heq]
  have nsx : ∀ p, s.blk p → p ≠ h.nx := fun p hp e => by have := hs.lt hp; subst e; omega
  have r4 : ∀ k : K, o_ldn 2 (.ptr h.nx 10) h2 k = k (.agg (re x.res)) h2 := fun k => hc.ldp k (by simp)
  obtain ⟨h3, w1, w2, hs3, hmod3, hnx3, ha3⟩ := g3 h2 [.int .i64 (i : Int)] { o with fin := (i : Int) } 10 hsb (by omega) (by simp) (by simp [V.one]) rfl
  have w1' : ∀ k : K, o_st1 (.ptr ob (oq + 10)) (.int .i64 (i : Int)) h2 k = k (.tup []) h3 := fun k => w2 _ k rfl
  have hc3 : Cells h3 h.nx (rowE x) := hc.mod hmod3 fun hb => nsx _ hb rfl
  have r5 : ∀ k : K, o_ldn 2 (.ptr h.nx 10) h3 k = k (.agg (re x.res)) h3 := fun k => hc3.ldp k (by simp)
  have hj := (List.getElem?_eq_some_iff.1 eo).1
  obtain ⟨ob', oq', hob', g1', g2', g3'⟩ := at_row lenP (by decide) hs3 (i := j) (a := { o with fin := (i : Int) }) (List.getElem?_set_self hj)
  obtain ⟨rfl, rfl⟩ := same_ptr g1 g1'
  obtain ⟨h4, y1, y2, hs4, hmod4, hnx4, ha4⟩ := g3' h3 (re x.res) { o with fin := (i : Int), res := x.res } 11 (fun _ _ => rfl) (Nat.le_refl _) (by simp) (by simp [V.one]) rfl
  have y1' : ∀ k : K, o_stn 2 (.ptr ob' (oq' + 11)) (.agg (re x.res)) h3 k = k (.tup []) h4 := fun k => y1 k
  have hc4 : Cells h4 h.nx (rowE x) := hc3.mod hmod4 fun hb => nsx _ hb rfl
  have hmb : ¬ s.blk mb := fun hb => (ds mb hb).2 rfl
  have hm4 : h4.get mb = some (.mp (im m)) := by
    rw [hmod4.get mb (by rw [hnx3]; omega) hmb, hmod3.get mb (by omega) hmb]; exact hm2
  have hdl : ∀ k : K, o_del nS false [false] (.map mb) (.int .i64 x.core) h4 k = k (.tup []) (h4.put mb (.mp (im (m.eraseP fun e => e.1 == x.core)))) := fun k => o_del_im nS hm4 x.core k
  have hset : (L.set j { o with fin := (i : Int) }).set j { o with fin := (i : Int), res := x.res } = L.set j { o with fin := (i : Int), res := x.res } := by simp
  rw [hset] at hs4
  apply to_of
  · intro kn kx
    simp (disch := first | decide | omega | assumption | exact rfl | exact vs_re _ | (simp only [List.length_cons, List.length_nil] <;> omega)) only [go_sem, i7S2, i7S1, t4, t5, t11, t13, f1, f2, f4, hc.ld, hlk, g1, r1, r2, eqa8, r4, w1', r5, ap_kRe, y1', hc4.ld, hdl, Bool.not_false, Bool.not_true]
    try exact rfl
  · refine ⟨⟨?t4, ?t5, ?t11, ?t12, ?t13, ?hl, ?hs, ?hm, ?mlt, ds, dm, ?ag, ?u, ?ah⟩, ?md⟩
    case t4 => simp (disch := decide) only [go_sem, t4]
    case t5 => simp (disch := decide) only [go_sem, t5]
    case t11 => simp (disch := decide) only [go_sem, t11]
    case t12 => simp (disch := decide) only [go_sem, t12]
    case t13 => simp (disch := decide) only [go_sem, t13]
    case hl =>
      refine (((hl.mod hmod fun _ _ x => x).mod hmod3 fun p hp hb => (ds p hb).1 hp).mod hmod4 fun p hp hb => (ds p hb).1 hp).mod (Mod.put _ mb _) fun p hp hb => ?_
      subst hb; exact dm hp
    case hs => exact hs4.mod (Mod.put _ mb _) fun p hp hb => (ds p hp).2 hb
    case hm => exact H.get_put_same _ _ _
    case mlt => rw [H.nx_put, hnx4, hnx3]; omega
    case ag => have := Ag_set (o := { o with fin := (i : Int), res := x.res }) ag u eo hfo (by show (0 : Int) ≤ i; omega); rw [show (fun e : Int × Int => e.1 == o.core) = fun e => e.1 == x.core from by rw [hco]] at this; exact this
    case u => exact U_set u (by show (0 : Int) ≤ i; omega)
    case ah => exact (ha4 (ha3 ha2)).put (by rw [hnx4, hnx3]; omega) _
    case md =>
      refine ((((hmod.weaken fun _ _ h => h.elim).trans (hmod3.weaken fun _ _ h => Or.inl h)).trans (hmod4.weaken fun _ _ h => Or.inl h)).trans ((Mod.put _ mb _).weaken fun _ _ h => Or.inr h))
abbrev z13 : List V := [(.int .i64 0), (.int .i64 0), (.int .i64 0), (.int .i64 0), (.int .i64 0), (.int .i64 0), (.int .i64 0), (.int .i64 0), (.int .i64 0), (.int .i64 0), (.int .i64 0), (.int .i64 0), (.int .i64 0)]
theorem app_ok {s : V} {len : Nat} (h : len ≤ 1048576) : appOk 104 s len 1 = true := by
  unfold appOk
  have : Nat.ble (Nat.add len 1) 1073741824 = true := by rw [Nat.ble_eq]; show len + 1 ≤ _; omega
  rw [this]
/-- one record behind the others -/
theorem app_row {α : Type} {f : α → List V} (hf : ∀ a, (f a).length = 13) (h1 : ∀ a, ∀ v ∈ f a, v.one = true) {h : H} {s : V} {L : List α} (hs : Sli h 13 s (flat f L)) (hl : L.length ≤ 1048576) (ha : Ahead h) (a : α) :
    ∃ s' h', (∀ k : K, o_app 13 104 s (.sl h.nx 0 1 1 none) (h.push (mkO (f a))) k = k s' h') ∧ Sli h' 13 s' (flat f (L ++ [a])) ∧ Mod s.blk h h' ∧ Ahead h' ∧ (∀ q, s'.blk q → s.blk q ∨ h.nx.toNat ≤ q.toNat) := by
  have xb : Sli (h.push (mkO (f a))) 13 (.sl h.nx 0 1 1 none) (f a) := by
    have := Sli.sl (esz := 13) (n := 1) (cap := 1) (o := 0) (fx := none) (Cells.new h (f a)) (Nat.le_refl _) (by rw [hf]; omega) fun e he => by cases he
    rw [List.drop_zero, List.take_of_length_le (by rw [hf]; omega)] at this
    exact this
  obtain ⟨s', h', w1, w2, w3, w4, w5⟩ := (hs.mod (Mod.push (M := fun _ => False) h _) fun _ _ x => x).append2 (by_ := 104) xb (by omega) (h1 a) (fun n len h2 h3 => by
    have e1 : n = 1 := by rw [hf] at h3; omega
    have e2 : len = L.length := by rw [flat_len hf] at h2; omega
    subst e1 e2
    exact app_ok hl)
  refine ⟨s', h', w1, by rw [flat_push]; exact w2, ((Mod.push (M := s.blk) h _).trans w3), w4 (ha.push _), fun q hq => ?_⟩
  rcases w5 q hq with h2 | h2
  · exact .inl h2
  · rw [H.nx_push, Pos.toNat_succ] at h2; exact .inr (by omega)
theorem stepF {l : List Ev} {t : T} {h : H} {lv : V} {i : Nat} {mb : Pos} {m : List (Int × Int)} {s : V} {L : List Hop} (v : InvP l t h lv i mb m s L) {x : Ev} (e : l[i]? = some x) (hf : x.fin = false) (ho : openIdx L x.core < 0) (hr : x.res = Re0) (hL : L.length ≤ 1048576) :
    ∃ t' h' s', (∀ kn kx, code nS i7S2 EV t h kn kx = kn t' h') ∧ InvP l t' h' lv i mb (m ++ [(x.core, (L.length : Int))]) s' (L ++ [⟨x.core, x.call, (i : Int), -1, Re0⟩]) ∧ Mod (fun q => s.blk q ∨ q = mb) h h' ∧ (∀ q, s'.blk q → s.blk q ∨ h.nx.toNat ≤ q.toNat) := by
  obtain ⟨t4, t5, t11, t12, t13, hl, hs, hm, mlt, ds, dm, ag, u, ah⟩ := v
  obtain ⟨b, q, h2, f1, f2, f3, f4, hc, hmod, ha2, hnx⟩ := new_ev hl e ah
  have hm2 : h2.get mb = some (.mp (im m)) := by rw [hmod.get mb mlt (fun x => x)]; exact hm
  have hlk : ∀ k : K, o_lkp nS false [false] (.int .i64 0) true (.map mb) (.int .i64 x.core) h2 k = k (.tup [.int .i64 0, .bool false]) h2 := fun k => by
    rw [o_lkp_im nS hm2, mget_mg, ag.2, if_neg (by omega)]; rfl
  have r2 : ∀ k : K, o_ldn 2 (.ptr h.nx 10) h2 k = k (.agg (re x.res)) h2 := fun k => hc.ldp k (by simp)
  have r3 : ∀ (h' : H) (k : K), o_eqa nS [false, false] true (.agg (re x.res)) (.agg [.int .i64 0, .int .i64 0]) h' k = k (.bool (true != decide (x.res = Re0))) h' := fun h' k => eqa2 x.res Re0 true h' k
  have hq : (true != decide (x.res = Re0)) = false := by simp [hr]
  have hmn : mget m x.core = none := by rw [mget_mg, ag.2, if_neg (by omega)]
  have hms : ∀ k : K, o_mset nS false [false] (.map mb) (.int .i64 x.core) (.int .i64 (L.length : Int)) h2 k = k (.tup []) (h2.put mb (.mp (im (m ++ [(x.core, (L.length : Int))])))) := fun k => o_mset_im nS hm2 hmn _ k
  have hmb : ¬ s.blk mb := fun hb => (ds mb hb).2 rfl
  have hs3 : Sli (h2.put mb (.mp (im (m ++ [(x.core, (L.length : Int))])))) 13 s (flat rowP L) := (hs.mod hmod fun _ _ x => x).mod (Mod.put _ mb _) fun p hp hb => (ds p hp).2 hb
  have hne : h.nx ≠ mb := fun e => by rw [← e] at mlt; omega
  have hc3 : Cells (h2.put mb (.mp (im (m ++ [(x.core, (L.length : Int))])))) h.nx (rowE x) := hc.mod (Mod.put _ mb _) hne
  obtain ⟨h3, eh3⟩ : ∃ h3, h3 = h2.put mb (.mp (im (m ++ [(x.core, (L.length : Int))]))) := ⟨_, rfl⟩
  have ha3 : Ahead h3 := by rw [eh3]; exact ha2.put (by omega) _
  have hnx3 : h3.nx = h2.nx := by rw [eh3, H.nx_put]
  rw [← eh3] at hs3 hc3 hms
  have r4 : ∀ k : K, o_ldn 8 (.ptr h.nx 2) h3 k = k (.agg (ca x.call)) h3 := fun k => hc3.ldp k (by simp)
  obtain ⟨n, hn, _, hlen⟩ := hs.len
  have hnL : n = L.length := by rw [flat_len lenP] at hn; omega
  subst hnL
  obtain ⟨s', h4, w1, hs4, hmod4, ha4, hblk⟩ := app_row lenP (fun a v hv => by simp [rowP] at hv; rcases hv with rfl | rfl | rfl | rfl | rfl | rfl | rfl | rfl | rfl | rfl | rfl | rfl | rfl <;> rfl) hs3 hL ha3 ⟨x.core, x.call, (i : Int), -1, Re0⟩
  have w1' : ∀ k : K, o_app 13 104 s (.sl h3.nx 0 1 1 none) (h3.push (mkO [.int .i64 x.core, .int .i64 x.call.c0, .int .i64 x.call.c1, .int .i64 x.call.c2, .int .i64 x.call.c3, .int .i64 x.call.c4, .int .i64 x.call.c5, .int .i64 x.call.c6, .int .i64 x.call.c7, .int .i64 (i : Int), .int .i64 (-1), .int .i64 0, .int .i64 0])) k = k s' h4 := w1
  have hh : ∃ t' h', (∀ kn kx, code nS i7S2 EV t h kn kx = kn t' h') ∧ InvP l t' h' lv i mb (m ++ [(x.core, (L.length : Int))]) s' (L ++ [⟨x.core, x.call, (i : Int), -1, Re0⟩]) ∧ Mod (fun q => s.blk q ∨ q = mb) h h' := by
    apply to_of
    · intro kn kx
      simp (disch := first | decide | omega | assumption | exact rfl | exact one_int _ _ | (simp only [List.length_cons, List.length_nil] <;> omega)) only [go_sem, i7S2, i7S1, t4, t5, t11, t13, f1, f2, f4, hc.ld, hlk, r2, r3, hlen, hms, hc3.ld, r4, w1', List.set_cons_zero, List.set_cons_succ, Bool.not_false, Bool.not_true]
      try exact rfl
    · refine ⟨⟨?t4, ?t5, ?t11, ?t12, ?t13, ?hl, hs4, ?hm, ?mlt, ?ds, dm, Ag_push (o := ⟨x.core, x.call, (i : Int), -1, Re0⟩) ag u (by show (-1 : Int) < 0; decide) ho, U_push (o := ⟨x.core, x.call, (i : Int), -1, Re0⟩) u ho, ha4⟩, ?md⟩
      case t4 => simp (disch := decide) only [go_sem]
      case t5 => simp (disch := decide) only [go_sem, t5]
      case t11 => simp (disch := decide) only [go_sem, t11]
      case t12 => simp (disch := decide) only [go_sem, t12]
      case t13 => simp (disch := decide) only [go_sem, t13]
      case hl =>
        have a1 : Sli h3 12 lv (flat rowE l) := by
          rw [eh3]
          exact (hl.mod hmod fun _ _ x => x).mod (Mod.put _ mb _) fun p hp hb => by subst hb; exact dm hp
        exact a1.mod hmod4 fun p hp hb => (ds p hb).1 hp
      case hm =>
        rw [hmod4.get mb (by rw [hnx3]; omega) hmb, eh3]
        exact H.get_put_same _ _ _
      case mlt => have := hmod4.nx; rw [hnx3] at this; omega
      case ds =>
        intro q hq
        rcases hblk q hq with h5 | h5
        · exact ds q h5
        · rw [hnx3] at h5
          exact ⟨fun hb => by have := hl.lt hb; omega, fun hb => by subst hb; omega⟩
      case md =>
        refine ((hmod.weaken fun _ _ h => h.elim).trans (?_ : Mod _ h2 h3)).trans (hmod4.weaken fun _ _ h => Or.inl h)
        rw [eh3]; exact (Mod.put _ mb _).weaken fun _ _ h => Or.inr h
  obtain ⟨t', h', e1, e2, e3⟩ := hh
  exact ⟨t', h', s', e1, e2, e3, fun q hq => by rcases hblk q hq with h | h; exact .inl h; exact .inr (by rw [hnx3] at h; omega)⟩
end Go.Proofs.YtkjlkjnlhogkiaaDoor.hist
