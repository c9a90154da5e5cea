/- 'history.ops': one round of its loop, where it ends. No condition. -/
import Derived.Test.YtkjlkjnlhogkiaaDoorQHiP
namespace Go.Proofs.YtkjlkjnlhogkiaaDoor.hist
open Go.Ab Go.Hist
set_option maxHeartbeats 4000000
set_option maxRecDepth 1000000
set_option linter.unusedSimpArgs false
set_option linter.unusedVariables false
structure InvP (l : List Ev) (t : T) (h : H) (lv : V) (i : Nat) (mb : Pos) (m : List (Int × Int)) (s : V) (L : List Hop) : Prop where
  t4 : t.v 4 = s
  t5 : t.v 5 = .map mb
  t11 : t.v 11 = lv
  t12 : t.v 12 = .int .i64 (l.length : Int)
  t13 : t.v 13 = .int .i64 (i : Int)
  hl : Sli h 12 lv (flat rowE l)
  hs : Sli h 13 s (flat rowP L)
  hm : h.get mb = some (.mp (im m))
  mlt : mb.toNat < h.nx.toNat
  ds : ∀ q, s.blk q → ¬ lv.blk q ∧ q ≠ mb
  dm : ¬ lv.blk mb
  ag : Ag m L
  u : U L
  ah : Ahead h
theorem mget_mg (m : List (Int × Int)) (c : Int) : mget m c = mg m c := rfl
theorem stepA {l : List Ev} {t : T} {h : H} {lv : V} {i : Nat} {mb : Pos} {m : List (Int × Int)} {s : V} {L : List Hop} (v : InvP l t h lv i mb m s L) {x : Ev} (e : l[i]? = some x) (hf : x.fin = true) (ho : openIdx L x.core < 0) :
    ∃ t' h', (∀ kn kx, code nS i7S2 EV t h kn kx = kx none t' h') ∧ (t'.v 2 = .nils ∧ t'.v 3 = .bool false) ∧ Mod (fun q => s.blk q ∨ q = mb) h h' ∧ Ahead h' := by
  obtain ⟨t4, t5, t11, t12, t13, hl, hs, hm, mlt, ds, dm, ag, u, ah⟩ := v
  obtain ⟨b, q, h2, f1, f2, f3, f4, hc, hmod, ha2, hnx⟩ := new_ev hl e ah
  have hm2 : h2.get mb = some (.mp (im m)) := by rw [hmod.get mb mlt (fun x => x)]; exact hm
  have hlk : ∀ k : K, o_lkp nS false [false] (.int .i64 0) true (.map mb) (.int .i64 x.core) h2 k = k (.tup [.int .i64 0, .bool false]) h2 := fun k => by
    rw [o_lkp_im nS hm2, mget_mg, ag.2, if_neg (by omega)]; rfl
  apply to_x
  · intro kn kx
    simp (disch := first | decide | omega | assumption | exact rfl | (simp only [List.length_cons, List.length_nil] <;> omega)) only [go_sem, i7S2, i7S1, t4, t5, t11, t13, f1, f2, f4, hc.ld, hlk, Bool.not_false, Bool.not_true]
    try exact rfl
  · refine ⟨⟨?ga, ?gb⟩, hmod.weaken fun q _ h => h.elim, ha2⟩
    case ga => simp (disch := decide) only [go_sem]
    case gb => simp (disch := decide) only [go_sem]
/-- where the call stands that has not ended -/
theorem rec_at {h : H} {s : V} {L : List Hop} (hs : Sli h 13 s (flat rowP L)) {c : Int} (ho : 0 ≤ openIdx L c) :
    ∃ (j : Nat) (o : Hop), openIdx L c = (j : Int) ∧ L[j]? = some o ∧ o.core = c ∧ o.fin < 0 := by
  rcases openIdx_spec L c with ⟨h1, _⟩ | ⟨j, o, h1, h2, h3, h4⟩
  · omega
  · exact ⟨j, o, h1, h2, h3, h4⟩
theorem stepB {l : List Ev} {t : T} {h : H} {lv : V} {i : Nat} {mb : Pos} {m : List (Int × Int)} {s : V} {L : List Hop} (v : InvP l t h lv i mb m s L) {x : Ev} (e : l[i]? = some x) (hf : x.fin = true) {j : Nat} {o : Hop} (ho : openIdx L x.core = (j : Int)) (eo : L[j]? = some o) (hne : o.call ≠ x.call) :
    ∃ t' h', (∀ kn kx, code nS i7S2 EV t h kn kx = kx none t' h') ∧ (t'.v 2 = .nils ∧ t'.v 3 = .bool false) ∧ Mod (fun q => s.blk q ∨ q = mb) h h' ∧ Ahead h' := by
  obtain ⟨t4, t5, t11, t12, t13, hl, hs, hm, mlt, ds, dm, ag, u, ah⟩ := v
  obtain ⟨b, q, h2, f1, f2, f3, f4, hc, hmod, ha2, hnx⟩ := new_ev hl e ah
  obtain ⟨ob, oq, hob, g1, g2, g3⟩ := at_row lenP (by decide) hs eo
  have hm2 : h2.get mb = some (.mp (im m)) := by rw [hmod.get mb mlt (fun x => x)]; exact hm
  have hsb : ∀ p, s.blk p → h2.get p = h.get p := fun p hp => hmod.get p (hs.lt hp) fun x => x
  have hlk : ∀ k : K, o_lkp nS false [false] (.int .i64 0) true (.map mb) (.int .i64 x.core) h2 k = k (.tup [.int .i64 (j : Int), .bool true]) h2 := fun k => by
    rw [o_lkp_im nS hm2, mget_mg, ag.2, ho, if_pos (by omega)]; rfl
  have r1 : ∀ k : K, o_ldn 8 (.ptr ob (oq + 1)) h2 k = k (.agg (ca o.call)) h2 := fun k => (g2 h2 hsb (by omega)).2 1 8 _ k (by omega) rfl
  have r2 : ∀ k : K, o_ldn 8 (.ptr h.nx 2) h2 k = k (.agg (ca x.call)) h2 := fun k => hc.ldp k (by simp)
  have hq : (true != decide (o.call = x.call)) = true := by simp [hne]
  apply to_x
  · intro kn kx
    simp (disch := first | decide | omega | assumption | exact rfl | (simp only [List.length_cons, List.length_nil] <;> omega)) only [go_sem, i7S2, i7S1, t4, t5, t11, t13, f1, f2, f4, hc.ld, hlk, g1, r1, r2, eqa8, Bool.not_false, Bool.not_true]
    try exact rfl
  · refine ⟨⟨?ga, ?gb⟩, hmod.weaken fun q _ h => h.elim, ha2⟩
    case ga => simp (disch := decide) only [go_sem]
    case gb => simp (disch := decide) only [go_sem]
theorem stepD {l : List Ev} {t : T} {h : H} {lv : V} {i : Nat} {mb : Pos} {m : List (Int × Int)} {s : V} {L : List Hop} (v : InvP l t h lv i mb m s L) {x : Ev} (e : l[i]? = some x) (hf : x.fin = false) (ho : 0 ≤ openIdx L x.core) :
    ∃ t' h', (∀ kn kx, code nS i7S2 EV t h kn kx = kx none t' h') ∧ (t'.v 2 = .nils ∧ t'.v 3 = .bool false) ∧ Mod (fun q => s.blk q ∨ q = mb) h h' ∧ Ahead h' := by
  obtain ⟨t4, t5, t11, t12, t13, hl, hs, hm, mlt, ds, dm, ag, u, ah⟩ := v
  obtain ⟨b, q, h2, f1, f2, f3, f4, hc, hmod, ha2, hnx⟩ := new_ev hl e ah
  have hm2 : h2.get mb = some (.mp (im m)) := by rw [hmod.get mb mlt (fun x => x)]; exact hm
  have hlk : ∀ k : K, o_lkp nS false [false] (.int .i64 0) true (.map mb) (.int .i64 x.core) h2 k = k (.tup [.int .i64 (openIdx L x.core), .bool true]) h2 := fun k => by
    rw [o_lkp_im nS hm2, mget_mg, ag.2, if_pos ho]; rfl
  apply to_x
  · intro kn kx
    simp (disch := first | decide | omega | assumption | exact rfl | (simp only [List.length_cons, List.length_nil] <;> omega)) only [go_sem, i7S2, i7S1, t4, t5, t11, t13, f1, f2, f4, hc.ld, hlk, Bool.not_false, Bool.not_true]
    try exact rfl
  · refine ⟨⟨?ga, ?gb⟩, hmod.weaken fun q _ h => h.elim, ha2⟩
    case ga => simp (disch := decide) only [go_sem]
    case gb => simp (disch := decide) only [go_sem]
theorem stepE {l : List Ev} {t : T} {h : H} {lv : V} {i : Nat} {mb : Pos} {m : List (Int × Int)} {s : V} {L : List Hop} (v : InvP l t h lv i mb m s L) {x : Ev} (e : l[i]? = some x) (hf : x.fin = false) (ho : openIdx L x.core < 0) (hr : x.res ≠ Re0) :
    ∃ t' h', (∀ kn kx, code nS i7S2 EV t h kn kx = kx none t' h') ∧ (t'.v 2 = .nils ∧ t'.v 3 = .bool false) ∧ Mod (fun q => s.blk q ∨ q = mb) h h' ∧ Ahead h' := by
  obtain ⟨t4, t5, t11, t12, t13, hl, hs, hm, mlt, ds, dm, ag, u, ah⟩ := v
  obtain ⟨b, q, h2, f1, f2, f3, f4, hc, hmod, ha2, hnx⟩ := new_ev hl e ah
  have hm2 : h2.get mb = some (.mp (im m)) := by rw [hmod.get mb mlt (fun x => x)]; exact hm
  have hlk : ∀ k : K, o_lkp nS false [false] (.int .i64 0) true (.map mb) (.int .i64 x.core) h2 k = k (.tup [.int .i64 0, .bool false]) h2 := fun k => by
    rw [o_lkp_im nS hm2, mget_mg, ag.2, if_neg (by omega)]; rfl
  have r2 : ∀ k : K, o_ldn 2 (.ptr h.nx 10) h2 k = k (.agg (re x.res)) h2 := fun k => hc.ldp k (by simp)
  have r3 : ∀ (h' : H) (k : K), o_eqa nS [false, false] true (.agg (re x.res)) (.agg [.int .i64 0, .int .i64 0]) h' k = k (.bool (true != decide (x.res = Re0))) h' := fun h' k => eqa2 x.res Re0 true h' k
  have hq : (true != decide (x.res = Re0)) = true := by simp [hr]
  apply to_x
  · intro kn kx
    simp (disch := first | decide | omega | assumption | exact rfl | (simp only [List.length_cons, List.length_nil] <;> omega)) only [go_sem, i7S2, i7S1, t4, t5, t11, t13, f1, f2, f4, hc.ld, hlk, r2, r3, Bool.not_false, Bool.not_true]
    try exact rfl
  · refine ⟨⟨?ga, ?gb⟩, hmod.weaken fun q _ h => h.elim, ha2⟩
    case ga => simp (disch := decide) only [go_sem]
    case gb => simp (disch := decide) only [go_sem]
end Go.Proofs.YtkjlkjnlhogkiaaDoor.hist
