/- An abstract interpreter of the program's text, in plain terms, proved sound; part 3. No condition. -/
import Derived.Test.YtkjlkjnlhogkiaaDoorLb
import Derived.ChangeSame
import Derived.OpenShut
import Derived.Scope
set_option linter.unusedVariables false
set_option linter.unusedSimpArgs false
/- A region that draws its order: one step of an order; the whole. -/
namespace Go.Ab
section
variable {P : Program} {cx : Cx} {σ : Nat → Int} {S : Sy} {call : Nat → List V → H → K → R} {round : Pos → List V → H → K → R} {loop : IC → T → H → (T → H → R) → (Option Nat → T → H → R) → R}
variable {nt : Nat} {ops : Array Oper} {es : List Ent} {t : T} {h : H} {k : T → H → R} {r : V × H} {ts : Nat → T} {hs : Nat → H} {vs : Nat → V} {wt : Nat → Bool}
variable {ι0 : Inj} {w0 : World} {df : List Deferred} {listed : Array Bool} {a : Act} {w : World} {T0 : T} {ι : Inj} {F : Nat}

theorem Rg.late {E : Env} (_ : Rg cx S E nt ops es t h k r ts hs vs wt) {p F : Nat} {e : Ent} (_ : es[p]? = some e) (hpF : p + 1 ≤ F)
    (hn : ∀ (q : Nat) (g : Ent), p < q → q < F → es[q]? = some g → g.io.op.kind = 3 → e.j ∉ g.ps) :
    ((es.drop (p + 1)).take (F - (p + 1))).countP (fun e => e.io.op.kind == 3) ≤ lateOf e.j (es.drop (p + 1)) :=
  lateOf_cnt _ _ fun i f hi hf hk => hn (p + 1 + i) f (by omega) (by omega) (by simpa using hf) hk

theorem St.step (hS : SyOk σ P S) (hy : Hyp P cx) (hE : EnvNat call round loop) (hok : EnvOk P cx σ call round) (R0 : Rg cx S (.mk call round loop) nt ops es t h k r ts hs vs wt)
    (st : St cx σ nt ops es t h hs vs wt ι0 w0 df listed a w T0 ι F) {i : Nat} (hi : i ∈ Region.ready .any ops listed) {ro : Option Nat} {K : Act → World → Prop} {Q : Exit → Act → World → Prop}
    (hK : ∀ a' w' T' ι' F', St cx σ nt ops es t h hs vs wt ι0 w0 df (listed.setIfInBounds i true) a' w' T' ι' F' → K a' w') : wpOpIn (Fz ro) 0 P ops Q i K a w := by
  unfold Region.ready at hi
  rw [List.mem_filter] at hi
  obtain ⟨hi1, hi2⟩ := hi
  have hi1 : i < ops.size := by simpa using hi1
  obtain ⟨p, e, he, rfl⟩ := R0.chk.surj i hi1
  obtain ⟨oo, op, g, d, hoo, hio, hc, hg, hd, hpsq⟩ := R0.good rfl he
  rw [Bool.and_eq_true, hoo] at hi2
  have hlt : e.j < listed.size := by rw [st.sz]; exact hi1
  have hnD : ¬ Dn listed e.j := fun hD => by
    have := hi2.1
    unfold Dn at hD
    rw [Array.getD_eq_getD_getElem?, hD] at this
    cases this
  have hps : ∀ z ∈ e.ps, Dn listed z := fun z hz => by
    rw [hpsq] at hz
    unfold predsOf at hz
    rw [List.mem_map] at hz
    obtain ⟨ed, hed, rfl⟩ := hz
    rw [List.mem_filter] at hed
    have := hi2.2
    simp only [Option.map_some, Option.getD_some] at this
    rw [← Array.all_toList, List.all_eq_true] at this
    have := this ed hed.1
    rw [hed.2] at this
    simp only [Bool.not_true, Bool.false_or] at this
    unfold Dn
    rw [Array.getD_eq_getD_getElem?] at this
    cases hx : listed[ed.on]? with
    | none => rw [hx] at this; cases this
    | some b => rw [hx] at this; simp only [Option.getD_some] at this; rw [this]
  have hahead := st.ahead R0 p e he hps
  have hpl : p < es.length := (List.getElem?_eq_some_iff.1 he).1
  have hpF : p ≤ F := by
    refine Nat.le_of_not_lt fun hlt => ?_
    obtain ⟨g', g1, g2, g3⟩ := st.Fw (by omega)
    exact g3 (hahead F g' hlt g1 g2)
  have hag : ∀ x, rdsIn x e.io = true → T0.get x = (ts p).get x := fun x hx => st.agree R0 he hnD hps hx
  obtain ⟨o, ho, o1, o2, o3, o4⟩ := R0.get he
  have hop : e.io.op = op := by rw [hio]
  have hgd : e.io.guard = g := by rw [hio]
  have hdd : e.io.dst = d := by rw [hio]
  have hexec : ∀ H' k', exec S (.mk call round loop) op T0 H' k' = exec S (.mk call round loop) op (ts p) H' k' := fun H' k' => exec_congr (by rw [← hop]; exact agree_opds hag) H' k'
  have hwant : ∀ x y, wantK g T0 x y = wantK g (ts p) x y := fun x y => by rw [← hgd]; exact agree_guard hag x y
  -- where the next writer stands, once this one is done
  have fin : ∀ (a' : Act) (w' : World) (ι' : Inj), TRel σ ι' (tset d (vs p) T0) a'.tmps → a'.tmps.size = nt → a'.defers = df →
      (p < F → Rel cx σ ι' (hs F) w' ∧ Ext ι0 ι' h (hs F) w0 w' ∧ ∀ (q : Nat) (g : Ent), es[q]? = some g → q < F → wt q = true → g.io.op.kind = 2 → ¬ Dn listed g.j → q ≠ p → ι' (hs q).nx = none) →
      (p = F → Rel cx σ ι' (hs (p + 1)) w' ∧ Ext ι0 ι' h (hs (p + 1)) w0 w' ∧ (hs F).nx.toNat ≤ (hs (p + 1)).nx.toNat ∧
        ∀ (b : Pos), b.toNat < (hs F).nx.toNat → ι b = none → ι' b = none ∧ (hs (p + 1)).get b = (hs F).get b) → K a' w' := by
    intro a' w' ι' h1 h2 h3 h4 h5
    by_cases hlt : p < F
    · obtain ⟨h6, h7, h8⟩ := h4 hlt
      refine hK a' w' (tset d (vs p) T0) ι' F ?_
      have := st.add R0 he hps (a' := a') (w' := w') (ι' := ι') (F' := F) (by rw [hdd]; exact h1) h2 h3 st.Fm (fun hF => ?_) (fun q g hq hD => ?_) (fun q g hq hqF hk => .inr (st.wdone q g hq hqF hk)) h6 h7
        (fun q g hq hqF hw hk hD hne => { st.mks q g hq hqF hw hk hD with no := h8 q g hq hqF hw hk hD hne })
        (fun x q f g hf hg hx hq hwx hwq hkx hkq hDx hDq _ _ => st.mkd x q f g hf hg hx hq hwx hwq hkx hkq hDx hDq)
      · rw [hdd] at this; exact this
      · obtain ⟨g', a1, a2, a3⟩ := st.Fw hF; exact ⟨g', a1, a2, a3, by omega⟩
      · rcases hD with hD | rfl
        · exact st.below q g hq hD
        · exact hlt
    · have hpe : p = F := by omega
      obtain ⟨h6, h7, h8, h9⟩ := h5 hpe
      obtain ⟨F', n1, n2, n3, n4⟩ := next_writer es (es.length - (p + 1)) (p + 1) (by omega)
      obtain ⟨c1, c2, c3, c4⟩ := R0.chain (σ := σ) F' n1 n2 n3
      have past : ∀ q, p < q → q < F' → (hs (p + 1)).nx.toNat ≤ (hs q).nx.toNat := fun q hq hqF => by
        obtain ⟨d1, d2, d3, d4⟩ := R0.chain (σ := σ) (a := p + 1) q (by omega) (by omega) fun i e' x1 x2 x3 => n3 i e' x1 (by omega) x3
        exact d3
      refine hK a' w' (tset d (vs p) T0) ι' F' ?_
      have := st.add R0 he hps (a' := a') (w' := w') (ι' := ι') (F' := F') (by rw [hdd]; exact h1) h2 h3 n2 (fun hF => ?_) (fun q g hq hD => ?_) (fun q g hq hqF hk => ?_) (c1 ι' w' h6) (c2 ι0 ι' h w0 w' h7)
        (fun q g hq hqF hw hk hD hne => ?_) (fun x q f g hf hg hx hq hwx hwq hkx hkq hDx hDq hnx hnq => ?_)
      · rw [hdd] at this; exact this
      · obtain ⟨g', a1, a2⟩ := n4 hF
        exact ⟨g', a1, a2, fun hD => by have := st.below F' g' a1 hD; omega, by omega⟩
      · rcases hD with hD | rfl
        · have := st.below q g hq hD; omega
        · omega
      · by_cases e1 : q = p
        · exact .inl e1
        · by_cases e2 : q < p
          · exact .inr (st.wdone q g hq (by omega) hk)
          · exact absurd hk (n3 q g (by omega) hqF hq)
      · by_cases e2 : q < p
        · have m := st.mks q g hq (by omega) hw hk hD
          obtain ⟨x1, x2⟩ := h9 _ m.lt m.no
          obtain ⟨ob, y1, y2⟩ := m.get
          exact ⟨x1, m.ge, by have := m.lt; omega, ob, y1, c4 _ _ (x2.trans y2)⟩
        · have hle := past q (by omega) hqF
          obtain ⟨y1, y2⟩ := R0.mkAt hq hw hk hqF n2 fun i e' x1 x2 x3 => n3 i e' (by omega) x2 x3
          refine ⟨?_, by have := h7.nx; omega, y1, y2⟩
          cases hx : ι' (hs q).nx with
          | none => rfl
          | some l => have := (h6.bound _ l hx).1; omega
      · by_cases e2 : q < p
        · exact st.mkd x q f g hf hg hx (by omega) hwx hwq hkx hkq hDx hDq
        · have hle := past q (by omega) hq
          by_cases e3 : x < p
          · have := (st.mks x f hf (by omega) hwx hkx hDx).lt; omega
          · exact (R0.mkAt hf hwx hkx hx (by omega) fun i e' x1 x2 x3 => n3 i e' (by omega) (by omega) x3).1
  unfold wpOpIn
  simp only [hoo]
  rcases wantK_spec (σ := σ) (ops := ops) (o := oo) rfl hg T0 none (some r) with ⟨ew, hw⟩ | ⟨ew, hw⟩
  · -- wanted
    have hwt : wt p = true := by
      cases hwt : wt p with
      | true => rfl
      | false =>
        have := (R0.can.no p o ho hwt).2.2 none (some r)
        rw [o2, hgd, ← hwant, ew] at this; cases this
    simp only [hw ι a.tmps st.tm, if_true]
    have hyes := (R0.can.yes p o ho hwt).2
    rw [o3, hop] at hyes
    have oper : ∀ (H' H'' : H), exec S (.mk call round loop) op T0 H' (fun v h => some (v, h)) = some (vs p, H'') → Sim cx σ P oo T0 H' (vs p) H'' := fun H' H'' hx => by
      obtain ⟨v, h', e1, e2⟩ := op_sim hS hy rfl hok hc hx
      simp at e1
      obtain ⟨rfl, rfl⟩ := e1
      exact e2
    have putok : ∀ (v' : Value) (ι' : Inj), Le ι ι' → VR σ ι' (vs p) v' → TRel σ ι' (tset d (vs p) T0) (a.put oo.dst v').tmps ∧ (a.put oo.dst v').tmps.size = nt ∧ (a.put oo.dst v').defers = df := fun v' ι' hle hv => by
      obtain ⟨p1, p2⟩ := (st.tm.mono hle).put st.tsz hd hv
      exact ⟨p1, p2, by rw [← st.df]; cases oo.dst <;> rfl⟩
    -- a run that leaves the abstract memory as it is
    have same : p < F → exec S (.mk call round loop) op T0 (hs F) (fun v h => some (v, h)) = some (vs p, hs F) → oo.wpIn (Fz ro) 0 P a w K Q := fun hlt hx => by
      refine oper _ _ hx ro ι a w K Q st.rel st.tm.opds fun v' w' ι' hv hr hext => ?_
      obtain ⟨p1, p2, p3⟩ := putok v' ι' hext.le hv
      refine fin _ w' ι' p1 p2 p3 (fun _ => ⟨hr, st.ext.trans hext, fun q g' hq hqF hwq hk hD hne => ?_⟩) (fun e1 => by omega)
      have m := st.mks q g' hq hqF hwq hk hD
      cases hx : ι' (hs q).nx with
      | none => rfl
      | some l => have h1 := hext.fresh _ l hx m.no; have := m.lt; omega
    have lateNo : p < F → ∀ (q : Nat) (g' : Ent), p < q → q < F → es[q]? = some g' → g'.io.op.kind = 3 → e.j ∉ g'.ps := fun _ q g' h1 h2 hq hk hmem => hnD (st.cl q g' hq (st.wdone q g' hq h2 hk) _ hmem)
    by_cases hlt : p < F
    · rcases kind_le op with hk | hk | hk | hk
      · have hx := hyes (fun v h => some (v, h))
        obtain ⟨v, e1, e2⟩ := kind0_spec hk hx
        simp at e1
        refine same hlt ?_
        rw [hexec, e2, e1.1]
      · have hrd := R0.can.rd p o (F - (p + 1)) ho hwt (by rw [o3, hop]; exact hk) (by rw [lateE_length]; have := st.Fm; omega) (by
          rw [lateE_drop, cnt_lateE, o4]
          have hb : Nat.beq e.io.op.kind 1 = true := by rw [Nat.beq_eq, hop]; exact hk
          rw [if_pos hb]
          exact R0.late he (by omega) (lateNo hlt))
        rw [o3, hop, show p + 1 + (F - (p + 1)) = F by omega] at hrd
        refine same hlt ?_
        rw [hexec, hrd (hs F) (HLe.refl _)]
      · -- a block is made
        have hmkop := R0.chk.mks p e oo he hoo (by rw [hop]; exact hk)
        have hx := hyes (fun v h => some (v, h))
        obtain ⟨ob, val, e1, e2⟩ := comp_makes (σ := σ) hy hmkop hc S (.mk call round loop) T0 (hs p) (fun v h => some (v, h)) _ ((hexec _ _).trans hx)
        simp only [Option.some.injEq, Prod.mk.injEq] at e1
        obtain ⟨ev, eh⟩ := e1
        obtain ⟨hnone, hge, hltF, ob2, g1, g2⟩ := st.mks p e he hlt hwt (by rw [hop]; exact hk) hnD
        have hob : ob2 = ob := by
          have x1 := H.get_push_same (hs p) ob
          have x2 := H.get_push_same (hs p) ob2
          rw [eh, g1, x2] at x1
          simpa using x1
        have hgetF : (hs F).get (hs p).nx = some ob := hob ▸ g2
        obtain ⟨v', obj, sz, r1, r2, r3⟩ := e2 ι w a.eval st.tm.opds
        have hrel := st.rel.fill hnone hltF hgetF r2
        have hext := st.ext.fill (obj := obj) (sz := sz) hnone hge
        have hv : VR σ (ι.add (hs p).nx ⟨w.heap.size, 0, sz⟩) (vs p) v' := by rw [← ev]; exact r3 _ _ (Inj.add_same _ _ _)
        obtain ⟨p1, p2, p3⟩ := putok v' _ (Inj.add_le hnone) hv
        refine ⟨fun f _ => trivial, ?_⟩
        rw [Oper.semAt_eq _ _ _ (not_defer hc), r1]
        refine fin _ _ _ p1 p2 p3 (fun _ => ⟨hrel, hext, fun q g' hq hqF hwq hkq hD hne => ?_⟩) (fun e1 => by omega)
        have hmq := (st.mks q g' hq hqF hwq hkq hD).no
        rw [Inj.add_ne]
        · exact hmq
        · intro heq
          rcases Nat.lt_or_gt_of_ne hne with h1 | h1
          · have := st.mkd q p g' e hq he h1 hlt hwq hwt hkq (by rw [hop]; exact hk) hD hnD
            rw [heq] at this; omega
          · have := st.mkd p q e g' he hq h1 hqF hwt hwq (by rw [hop]; exact hk) hkq hnD hD
            rw [heq] at this; omega
      · exact absurd (st.wdone p e he hlt (by rw [hop]; exact hk)) hnD
    · have hpe : p = F := by omega
      have hx := hyes (fun v h => some (v, h))
      refine oper (hs F) (hs (p + 1)) (by rw [hexec, ← hpe]; exact hx) ro ι a w K Q st.rel st.tm.opds fun v' w' ι' hv hr hext => ?_
      obtain ⟨p1, p2, p3⟩ := putok v' ι' hext.le hv
      exact fin _ w' ι' p1 p2 p3 (fun h => absurd h hlt) (fun _ => ⟨hr, st.ext.trans hext, hext.nx, fun b hb hbn => ⟨by
        cases hx : ι' b with
        | none => rfl
        | some l => have := hext.fresh _ l hx hbn; omega, hext.keepA b hb hbn⟩⟩)
  · -- not wanted
    have hwt : wt p = false := by
      cases hwt : wt p with
      | false => rfl
      | true =>
        have := (R0.can.yes p o ho hwt).1 none (some r)
        rw [o2, hgd, ← hwant, ew] at this; cases this
    simp only [hw ι a.tmps st.tm, if_false, Bool.false_eq_true]
    refine ⟨fun _ _ => trivial, ?_⟩
    obtain ⟨n1, n2, _⟩ := R0.can.no p o ho hwt
    obtain ⟨p1, p2⟩ := st.tm.put st.tsz hd (VR.undef (σ := σ) (ι := ι))
    rw [← n1] at p1
    refine fin _ w ι p1 p2 (by rw [← st.df]; cases oo.dst <;> rfl) (fun hlt => ⟨st.rel, st.ext, fun q g' hq hqF hwq hk hD hne => (st.mks q g' hq hqF hwq hk hD).no⟩) (fun e1 => ?_)
    rw [n2, e1]; exact ⟨st.rel, st.ext, Nat.le_refl _, fun b _ hb => ⟨hb, rfl⟩⟩
end
end Go.Ab

/- A region that draws its order, whole. -/
namespace Go.Ab
section
variable {P : Program} {cx : Cx} {σ : Nat → Int} {S : Sy} {call : Nat → List V → H → K → R} {round : Pos → List V → H → K → R} {loop : IC → T → H → (T → H → R) → (Option Nat → T → H → R) → R}
variable {nt : Nat} {ops : Array Oper} {es : List Ent} {t : T} {h : H} {k : T → H → R} {r : V × H} {ts : Nat → T} {hs : Nat → H} {vs : Nat → V} {wt : Nat → Bool}
variable {ι0 : Inj} {w0 : World} {df : List Deferred} {listed : Array Bool} {a : Act} {w : World} {T0 : T} {ι : Inj} {F : Nat}

theorem St.final {E : Env} (R0 : Rg cx S E nt ops es t h k r ts hs vs wt) (st : St cx σ nt ops es t h hs vs wt ι0 w0 df listed a w T0 ι F) (hall : ∀ (p : Nat) (e : Ent), es[p]? = some e → Dn listed e.j) :
    Fr cx σ nt ι (ts es.length) (hs es.length) a w ∧ a.defers = df ∧ Ext ι0 ι h (hs es.length) w0 w := by
  have hF : F = es.length := by
    have := st.Fm
    by_cases h1 : F < es.length
    · obtain ⟨e, h2, _, h3⟩ := st.Fw h1; exact absurd (hall F e h2) h3
    · omega
  subst hF
  refine ⟨⟨st.rel, fun n => ?_, st.tsz⟩, st.df, st.ext⟩
  obtain ⟨g1, g2⟩ := R0.tsGot es.length (Nat.le_refl _)
  have : T0.get (Pos.of n) = (ts es.length).get (Pos.of n) := by
    by_cases hq : ∃ (q : Nat) (f : Ent), es[q]? = some f ∧ f.io.dst = some (Pos.of n)
    · obtain ⟨q, f, hf, hd⟩ := hq
      rw [st.got q f _ hf (hall q f hf) hd, g1 q f _ (List.getElem?_eq_some_iff.1 hf).1 hf hd]
    · rw [st.old _ fun q f hf _ hd => hq ⟨q, f, hf, hd⟩, g2 _ fun q f _ hf hd => hq ⟨q, f, hf, hd⟩]
  rw [← ev_get this]; exact st.tm n

theorem St.any (hS : SyOk σ P S) (hy : Hyp P cx) (hE : EnvNat call round loop) (hok : EnvOk P cx σ call round) (R0 : Rg cx S (.mk call round loop) nt ops es t h k r ts hs vs wt) {ro : Option Nat} {Q : Exit → Act → World → Prop}
    (hQ : ∀ ι a w, Fr cx σ nt ι (ts es.length) (hs es.length) a w → a.defers = df → Ext ι0 ι h (hs es.length) w0 w → Q .normal a w) :
    ∀ (fuel : Nat) (listed : Array Bool) (a : Act) (w : World) (T0 : T) (ι : Inj) (F : Nat), St cx σ nt ops es t h hs vs wt ι0 w0 df listed a w T0 ι F → listed.toList.count false = fuel → wpAnyIn (Fz ro) 0 P .any ops Q fuel listed a w := by
  intro fuel
  have done : ∀ (listed : Array Bool) (a : Act) (w : World) (T0 : T) (ι : Inj) (F : Nat), St cx σ nt ops es t h hs vs wt ι0 w0 df listed a w T0 ι F → Region.ready .any ops listed = [] → Q .normal a w := by
    intro listed a w T0 ι F st hr
    have hall : ∀ (p : Nat) (e : Ent), es[p]? = some e → Dn listed e.j := by
      intro p
      induction p using Nat.strongRecOn with
      | _ p ih =>
        intro e he
        refine Classical.byContradiction fun hn => ?_
        have hlt := R0.chk.lt p e he
        obtain ⟨oo, h1, h2, h3⟩ := R0.ent p e he
        have : e.j ∈ Region.ready .any ops listed := by
          unfold Region.ready
          rw [List.mem_filter]
          refine ⟨by simpa using hlt, ?_⟩
          rw [Bool.and_eq_true, h1]
          constructor
          · rw [Array.getD_eq_getD_getElem?]
            cases hx : listed[e.j]? with
            | none => rw [Array.getElem?_eq_none_iff] at hx; rw [st.sz] at hx; omega
            | some b => cases b with
              | false => rfl
              | true => exact absurd hx hn
          · simp only [Option.map_some, Option.getD_some]
            rw [← Array.all_toList, List.all_eq_true]
            intro ed hed
            cases hb : Region.binds .any ed with
            | false => rfl
            | true =>
              have hz : ed.on ∈ e.ps := by
                rw [h2]; unfold predsOf; rw [List.mem_map]; exact ⟨ed, by rw [List.mem_filter]; exact ⟨hed, hb⟩, rfl⟩
              obtain ⟨q, f, hq, hf, e1⟩ := R0.chk.topo p e he _ hz
              have hD := ih q hq f hf
              rw [e1] at hD
              unfold Dn at hD
              simp [Array.getD_eq_getD_getElem?, hD]
        rw [hr] at this; cases this
    obtain ⟨f1, f2, f3⟩ := st.final R0 hall
    exact hQ ι a w f1 f2 f3
  induction fuel with
  | zero =>
    intro listed a w T0 ι F st hc
    have hr : Region.ready .any ops listed = [] := by
      unfold Region.ready
      rw [List.filter_eq_nil_iff]
      intro i hi hb
      rw [Bool.and_eq_true] at hb
      have hi : i < ops.size := by simpa using hi
      have hl : i < listed.size := by rw [st.sz]; exact hi
      have hx := hb.1
      rw [Array.getD_eq_getD_getElem?, Array.getElem?_eq_getElem hl] at hx
      simp only [Option.getD_some, Bool.not_eq_true'] at hx
      have : false ∈ listed.toList := by rw [← hx]; exact Array.getElem_mem_toList hl
      have := List.count_pos_iff.2 this
      omega
    exact ⟨hr, done listed a w T0 ι F st hr⟩
  | succ fuel ih =>
    intro listed a w T0 ι F st hc
    refine ⟨done listed a w T0 ι F st, fun i hi => ?_⟩
    refine st.step hS hy hE hok R0 hi fun a' w' T' ι' F' st' => ih _ a' w' T' ι' F' st' ?_
    unfold Region.ready at hi
    rw [List.mem_filter] at hi
    have hi1 : i < ops.size := by simpa using hi.1
    have hl : i < listed.size := by rw [st.sz]; exact hi1
    have hx := (Bool.and_eq_true .. ▸ hi.2 : _ ∧ _).1
    rw [Array.getD_eq_getD_getElem?, Array.getElem?_eq_getElem hl] at hx
    simp only [Option.getD_some, Bool.not_eq_true'] at hx
    rw [Array.toList_setIfInBounds, List.count_set (by simpa using hl)]
    have : listed.toList[i]'(by simpa using hl) = false := by simpa using hx
    rw [this, hc]; simp

theorem regd_sound (hS : SyOk σ P S) (hy : Hyp P cx) (hm : P.follows .mixedOrders = true) (hE : EnvNat call round loop) (hok : EnvOk P cx σ call round) {L : List IOpr} (hc : compDraw cx nt ops = .regd L)
    {t : T} {h : H} {k : T → H → R} {r : V × H} (hx : opersD S L (.mk call round loop) [] t h k = some r) :
    ∃ t' h', k t' h' = some r ∧ ∀ (ro : Option Nat) (id : Nat) (ι : Inj) (a : Act) (w : World) (Q : Exit → Act → World → Prop), Fr cx σ nt ι t h a w →
      (∀ ι' a' w', Fr cx σ nt ι' t' h' a' w' → a'.defers = a.defers → Ext ι ι' h h' w w' → Q .normal a' w') → (Code.region id ops true).wpIn (Fz ro) 0 P Q a w := by
  unfold compDraw at hc
  generalize hes : (order ops ops.size []).map (entOf cx nt ops) = es at hc
  by_cases hchk : chkEnts ops es = true
  · rw [if_pos hchk] at hc
    cases hc
    obtain ⟨hlen, hok2⟩ := chk_ok hchk
    have hlate : ∀ o ∈ lateE es, o.late ≠ 0 → o.op.kind = 1 := by
      intro o ho hl
      obtain ⟨p, hp, e⟩ := List.getElem_of_mem ho
      have h1 := lateE_get es p
      rw [List.getElem?_eq_getElem hp, e] at h1
      cases h2 : es[p]? with
      | none => rw [h2] at h1; cases h1
      | some x =>
        rw [h2] at h1
        simp only [Option.map_some, Option.some.injEq] at h1
        subst h1
        by_cases hb : Nat.beq x.io.op.kind 1 = true
        · rw [Nat.beq_eq] at hb; exact hb
        · simp [hb] at hl
    obtain ⟨ts, hs, vs, wt, can⟩ := opersD_can hE (lateE es) [] t h k r (by simp) hlate hx
    have R0 : Rg cx S (.mk call round loop) nt ops es t h k r ts hs vs wt := ⟨hlen, hok2, fun p e he => by
      rw [← hes, List.getElem?_map] at he
      cases h2 : (order ops ops.size [])[p]? with
      | none => rw [h2] at he; cases he
      | some j =>
        rw [h2] at he
        simp only [Option.map_some, Option.some.injEq] at he
        have hj := hok2.lt p e (by rw [← hes, List.getElem?_map, h2, ← he]; rfl)
        have hje : e.j = j := by rw [← he]; unfold entOf; split <;> rfl
        rw [hje] at hj ⊢
        refine ⟨ops[j], Array.getElem?_eq_getElem hj, ?_, ?_⟩
        · rw [← he]; unfold entOf; rw [Array.getElem?_eq_getElem hj]
        · rw [← he]; unfold entOf; rw [Array.getElem?_eq_getElem hj], can⟩
    have hfin := can.fin
    rw [lateE_length] at hfin
    refine ⟨_, _, hfin, fun ro id ι a w Q hf hQ => ?_⟩
    refine wpIn_region_any hm ?_
    obtain ⟨F, n1, n2, n3, n4⟩ := next_writer es es.length 0 (by omega)
    obtain ⟨c1, c2, c3, c4⟩ := R0.chain (σ := σ) F n1 n2 n3
    rw [can.h0] at c1 c2 c3
    have hnD : ∀ j, ¬ Dn (Array.replicate ops.size false) j := fun j hD => by
      unfold Dn at hD
      rw [Array.getElem?_replicate] at hD
      split at hD <;> simp at hD
    have hrel : Rel cx σ ι h { w with drawn := w.drawn + 1 } := hf.rel.drew rfl
    have hst : St cx σ nt ops es t h hs vs wt ι w a.defers (Array.replicate ops.size false) a { w with drawn := w.drawn + 1 } t ι F :=
      ⟨by simp, fun p e _ hD => absurd hD (hnD _), hf.tm, hf.sz, rfl, fun p e d _ hD => absurd hD (hnD _), fun x _ => rfl, n2, fun hF => by obtain ⟨e, a1, a2⟩ := n4 hF; exact ⟨e, a1, a2, hnD _⟩, fun p e _ hD => absurd hD (hnD _),
        fun p e he hpF hk => absurd hk (n3 p e (Nat.zero_le _) hpF he), c1 ι _ hrel, c2 ι ι h w _ (Ext.drew ι h w _), fun p e he hpF hw hk _ => by
          obtain ⟨_, _, d3, _⟩ := R0.chain (σ := σ) (a := 0) p (Nat.zero_le _) (by omega) fun i e' x1 x2 x3 => n3 i e' x1 (by omega) x3
          rw [can.h0] at d3
          obtain ⟨y1, y2⟩ := R0.mkAt he hw hk hpF n2 fun i e' x1 x2 x3 => n3 i e' (Nat.zero_le _) x2 x3
          refine ⟨?_, d3, y1, y2⟩
          cases hxx : ι (hs p).nx with
          | none => rfl
          | some l => have := (hf.rel.bound _ l hxx).1; omega,
        fun p q e g he hg hpq hqF hwp hwq hkp hkq _ _ => (R0.mkAt he hwp hkp hpq (by omega) fun i e' x1 x2 x3 => n3 i e' (Nat.zero_le _) (by omega) x3).1⟩
    exact St.any hS hy hE hok R0 (ι0 := ι) (w0 := w) (df := a.defers) (fun ι' a' w' f1 f2 f3 => hQ ι' a' w' f1 f2 f3) ops.size _ _ _ _ _ _ hst (by simp [List.count_replicate])
  · rw [if_neg hchk] at hc; cases hc
end
end Go.Ab

/- Code: every run of it ends as the abstract one. -/
namespace Go.Ab

section scope
variable {F : Fence} {n : Nat} {P : Program} {Q : Exit → Act → World → Prop} {a : Act} {w : World} {b : Frame} {k : List Item} {cs : List Frame}
theorem stepR_scope {c : Code} : step P (lone (b.atR a (.code (.scope c) :: k)) cs w) = .next (lone (b.atR a (.code c :: .inScope c :: k)) cs w) :=
  step_lone_go (by simp [stepG, stepG.exec, Frame.atR])
theorem stepR_inScope {c : Code} : step P (lone (b.atR a (.inScope c :: k)) cs w) = .next (lone (b.atR a k) cs w) :=
  step_lone_go (by simp [stepG, stepG.exec, Frame.atR])
theorem wpIn_scope_straight {c : Code} (h : c.wpIn F n P (Exit.noGoto Q) a w) : (Code.scope c).wpIn F n P Q a w := by
  intro b k cs hro hb hr
  have h0 : (lone (b.atR a (.code (.scope c) :: k)) cs w).fenced P F := fenced_calm hb hr rfl
  obtain ⟨e, a₁, w₁, hq, harr⟩ := h b (.inScope c :: k) cs hro hb hr
  cases e with
  | normal => exact ⟨.normal, a₁, w₁, hq, .head h0 stepR_scope (StepsIn.trans harr (.one (fenced_calm hb hr rfl) stepR_inScope))⟩
  | exit id =>
    have hx : exitTo id (.inScope c :: k) = exitTo id k := by simp [exitTo]
    exact ⟨.exit id, a₁, w₁, hq, fun k' hk => .head h0 stepR_scope (harr.1 k' (by rw [hx]; exact hk)),
      fun hr' hk => let ⟨k₁, h1, h2⟩ := harr.2 hr' (by rw [hx]; exact hk); ⟨k₁, h1, .head h0 stepR_scope h2⟩⟩
  | goto l => exact hq.elim
  | ret => exact ⟨_, a₁, w₁, hq, .of_steps (.one h0 stepR_scope) harr⟩
  | panic ch => exact ⟨_, a₁, w₁, hq, .of_steps (.one h0 stepR_scope) harr⟩
  | outgrown => exact ⟨_, a₁, w₁, hq, .of_steps (.one h0 stepR_scope) harr⟩

/-- a loop, as it stands behind its entry -/
def LoopW (F : Fence) (n : Nat) (P : Program) (c : Code) (Q : Exit → Act → World → Prop) (a : Act) (w : World) : Prop :=
  ∀ (b : Frame) (k : List Item) (cs : List Frame), b.roundOf = F.round → F.fn b.fn → F.room (cs.length + 1 + n) →
    ∃ e a' w', Q e a' w' ∧ ArrivesIn (Machine.fenced P F) P (lone (b.atR a (.code c :: .inLoop c :: k)) cs w) b k cs e a' w'
theorem LoopW.step {c : Code} (h : c.wpIn F n P (Exit.then (LoopW F n P c Q) Q) a w) : LoopW F n P c Q a w := by
  intro b k cs hro hb hr
  obtain ⟨e, a₁, w₁, hq, harr⟩ := h b (.inLoop c :: k) cs hro hb hr
  cases e with
  | normal =>
    obtain ⟨e₂, a₂, w₂, hq₂, harr₂⟩ := hq b k cs hro hb hr
    exact ⟨e₂, a₂, w₂, hq₂, .of_steps (StepsIn.trans harr (.one (fenced_calm hb hr rfl) stepR_inLoop)) harr₂⟩
  | exit id => exact ⟨_, a₁, w₁, hq, .pass (x := .inLoop c) rfl (fun _ _ => .inl (by simp)) harr⟩
  | goto l => exact ⟨_, a₁, w₁, hq, .pass (x := .inLoop c) rfl (fun _ _ => .inl (by simp)) harr⟩
  | ret => exact ⟨_, a₁, w₁, hq, .pass (x := .inLoop c) rfl (fun _ _ => .inl (by simp)) harr⟩
  | panic ch => exact ⟨_, a₁, w₁, hq, .pass (x := .inLoop c) rfl (fun _ _ => .inl (by simp)) harr⟩
  | outgrown => exact ⟨_, a₁, w₁, hq, .pass (x := .inLoop c) rfl (fun _ _ => .inl (by simp)) harr⟩
theorem LoopW.wp {c : Code} (h : LoopW F n P c Q a w) : (Code.loop c).wpIn F n P Q a w := by
  intro b k cs hro hb hr
  obtain ⟨e, a', w', hq, harr⟩ := h b k cs hro hb hr
  exact ⟨e, a', w', hq, .of_steps (.one (fenced_calm hb hr rfl) stepR_loop) harr⟩
end scope

section
variable {P : Program} {cx : Cx} {σ : Nat → Int} {S : Sy} {call : Nat → List V → H → K → R} {round : Pos → List V → H → K → R} {loop : IC → T → H → (T → H → R) → (Option Nat → T → H → R) → R}

/-- a frame's deferred calls: marks alone, of blocks that hold none -/
def MRel (lo : Nat) (ι : Inj) (w : World) : List Deferred → Prop
  | [] => True
  | d :: ds => (∃ r, d.target = .collected r ∧ lo ≤ r ∧ w.heap[r]? = some (.deferred (some [])) ∧ (∀ b l, ι b = some l → l.blk ≠ r) ∧ ∀ d' ∈ ds, d'.target ≠ .collected r) ∧ MRel lo ι w ds
theorem lt_of_some {w : World} {B : Nat} {o : Obj} (e : w.heap[B]? = some o) : B < w.heap.size := by
  rcases Nat.lt_or_ge B w.heap.size with h | h
  · exact h
  · rw [Array.getElem?_eq_none h] at e; cases e
theorem MRel.ext {lo : Nat} {ι ι' : Inj} {h h' : H} {w w' : World} (he : Ext ι ι' h h' w w') : ∀ {ds : List Deferred}, MRel lo ι w ds → MRel lo ι' w' ds
  | [], _ => trivial
  | d :: ds, hm => by
    obtain ⟨⟨r, h1, h0, h2, h3, h4⟩, h5⟩ := hm
    refine ⟨⟨r, h1, h0, he.keepW r _ h2 h3, fun b l hb hr => ?_, h4⟩, MRel.ext he h5⟩
    cases hx : ι b with
    | some l0 => have := he.le b l0 hx; rw [hb] at this; cases this; exact h3 b l hx hr
    | none =>
      rcases he.rng b l hb hx with h6 | ⟨b0, l0, h6, h7, _⟩
      · have := lt_of_some h2; omega
      · exact h3 b0 l0 h6 (h7.trans hr)

def exitOf : Option Nat → Exit
  | none => .ret
  | some id => .exit id
theorem then_exitOf {N : Act → World → Prop} {Q : Exit → Act → World → Prop} {e : Option Nat} {a : Act} {w : World} (h : Q (exitOf e) a w) : Exit.then N Q (exitOf e) a w := by cases e <;> exact h

/-- what a code's abstract run, in which 'kn' and 'kx' come to r, tells of the code's real ones -/
def WpOk (cx : Cx) (σ : Nat → Int) (lo nt : Nat) (t : T) (h : H) (kn : T → H → R) (kx : Option Nat → T → H → R) (r : V × H) (W : (Exit → Act → World → Prop) → Act → World → Prop) : Prop :=
  ∀ (ι : Inj) (a : Act) (w : World) (Q : Exit → Act → World → Prop), Fr cx σ nt ι t h a w → lo ≤ w.heap.size → MRel lo ι w a.defers →
    (∀ t' h', kn t' h' = some r → ∀ ι' a' w', Fr cx σ nt ι' t' h' a' w' → MRel lo ι' w' a'.defers → Ext ι ι' h h' w w' → Q .normal a' w') →
    (∀ e t' h', kx e t' h' = some r → ∀ ι' a' w', Fr cx σ nt ι' t' h' a' w' → MRel lo ι' w' a'.defers → Ext ι ι' h h' w w' → Q (exitOf e) a' w') → W Q a w

def LoopOk (P : Program) (cx : Cx) (σ : Nat → Int) (loop : IC → T → H → (T → H → R) → (Option Nat → T → H → R) → R) : Prop :=
  ∀ (c : Code) (lo nt : Nat) (inR : Bool) (t : T) (h : H) (kn : T → H → R) (kx : Option Nat → T → H → R) (r : V × H), loop (compC cx nt inR c) t h kn kx = some r →
    ∀ ro : Option Nat, (inR = false → ro = none) → WpOk cx σ lo nt t h kn kx r (LoopW (Fz ro) 0 P c)

theorem range_map_ops (ops : Array Oper) : (List.range ops.size).map (ops[·]?) = ops.toList.map some := by
  apply List.ext_getElem?
  intro i
  rw [List.getElem?_map, List.getElem?_map]
  by_cases h : i < ops.size
  · rw [List.getElem?_range h]; simp [h]
  · rw [List.getElem?_eq_none (by simp; omega), List.getElem?_eq_none (by simp; omega)]; rfl

/-- a block that stands for nothing is made -/
theorem Rel.beside {ι : Inj} {h : H} {w : World} (hr : Rel cx σ ι h w) (ob : Obj) : Rel cx σ ι h (w.alloc ob) ∧ Ext ι ι h h w (w.alloc ob) := by
  have hsz : (w.alloc ob).heap.size = w.heap.size + 1 := by show (w.heap.push ob).size = _; simp
  have hold : ∀ B, B < w.heap.size → (w.alloc ob).heap[B]? = w.heap[B]? := fun B hB => by show (w.heap.push ob)[B]? = _; simp [Array.getElem?_push, Nat.ne_of_lt hB]
  refine ⟨⟨fun x lx hx => ?_, hr.inj, fun x lx ox hx hox => (hr.obj x lx ox hx hox).other fun y hy => by rw [hold _ (hr.bound x lx hx).2]; exact hy⟩, ?_⟩
  · rw [hsz]; have := hr.bound x lx hx; omega
  · exact ⟨Le.refl _, fun _ _ e n => no_some e n, fun _ _ _ => rfl, Nat.le_refl _, fun B o e _ => (hold B (lt_of_some e)).trans e, by omega, fun _ _ e n => no_some e n, rfl, rfl, rfl, .same fun B o e => (hold B (lt_of_some e)).trans e⟩

theorem loopK_some {h : H} {l : Pos} {G : Nat → T → List Pos → IC → IC → R} {r : V × H} (e : h.loopK l G = some r) : ∃ st t ps as bd, h.get l = some (.loop st t ps as bd) ∧ G st t ps as bd = some r := by
  obtain ⟨o, ho, e⟩ := H.getK_some e
  cases o with
  | loop st t ps as bd => exact ⟨st, t, ps, as, bd, ho, e⟩
  | _ => cases e

theorem run_getLoop {w : World} {l : Nat} {r : Loop} (h : w.heap[l]? = some (.loop r)) : (Instr.getLoop l).run P w = .ok r w := by
  have : (getObj l).run P w = .ok (.loop r) w := by simp [getObj, Sem.run, h]
  simp [Instr.getLoop, this]

/-- a block is turned -/
def setO (w : World) (l : Nat) (o : Obj) : World := { w with heap := w.heap.setIfInBounds l o }
theorem run_setO {w : World} {l : Nat} {r : Loop} (h : w.heap[l]? = some (.loop r)) (o : Obj) : (setObj l o).run P w = .ok () (setO w l o) := by simp [setObj, Sem.run, h, setO]
theorem size_set (w : World) (l : Nat) (o : Obj) : (setO w l o).heap.size = w.heap.size := by simp [setO]
theorem get_set_same {w : World} {l : Nat} {o o' : Obj} (h : w.heap[l]? = some o') : (setO w l o).heap[l]? = some o := by
  have := lt_of_some h
  simp [setO, this]
theorem get_set_ne {w : World} {l B : Nat} {o : Obj} (h : B ≠ l) : (setO w l o).heap[B]? = w.heap[B]? := by
  simp [setO, Array.getElem?_setIfInBounds, Ne.symm h]

/-- a loop's record is turned -/
theorem Rel.setLoop {ι : Inj} {h : H} {w : World} (hr : Rel cx σ ι h w) {l : Pos} {lc : Loc} (hl : ι l = some lc) {st : Nat} {t : T} {ps : List Pos} {as bd : IC} (hg : h.get l = some (.loop st t ps as bd)) {r r' : Loop}
    (hw : w.heap[lc.blk]? = some (.loop r)) {o' : O} (hn : ORel cx σ ι (setO w lc.blk (.loop r')) lc o') :
    Rel cx σ ι (h.put l o') (setO w lc.blk (.loop r')) ∧ Ext ι ι h (h.put l o') w (setO w lc.blk (.loop r')) :=
  hr.put hl hg (by intro e; cases e) (size_set _ _ _) (fun B hB => get_set_ne hB) hn rfl rfl rfl (fun c ty fz e => by rw [hw] at e; cases e)

theorem rangeFunc_sound (hE : EnvNat call round loop) (hok : EnvOk P cx σ call round) {f : Operand} {ps : Array Tmp} {as bd : Code} {lo nt : Nat} {x : Opd} (hf : ofOpd f = some x) (hps : ∀ p ∈ ps.toList, p < nt)
    {t : T} {h : H} {kn : T → H → R} {kx : Option Nat → T → H → R} {r : V × H}
    (hx : code S (.rfun x (ps.toList.map Pos.of) (compC cx nt true as) (compC cx nt true bd)) (.mk call round loop) t h kn kx = some r) :
    WpOk cx σ lo nt t h kn kx r (fun Q a w => (Code.rangeFunc f ps as bd).wpIn (Fz none) 0 P Q a w) := by
  have hx : h.alloc (.loop 0 t (ps.toList.map Pos.of) (compC cx nt true as) (compC cx nt true bd)) (fun l h1 => Env.callFn (.mk call round loop) (x.ev t) [.yield l] h1 fun _ h2 => h2.loopK l fun st _ _ _ _ => Nat.rec (motive := fun _ => R) (kn t (h2.put l .dead))
        (fun s _ => Nat.rec (motive := fun _ => R) none (fun s _ => Nat.rec (motive := fun _ => R) (kx none t (h2.put l .dead)) (fun id _ => kx (some id) t (h2.put l .dead)) s) s) st) = some r := hx
  rw [H.alloc_eq] at hx
  cases hv : x.ev t with
  | fn g fs cs =>
    rw [hv] at hx
    obtain ⟨v, h2, hx, hcall⟩ := hok.call _ _ _ _ _ (show call g (app fs (app [.yield h.nx] cs)) _ _ = some r from hx)
    intro ι a w Q hfr hlo hm hkn hkx
    refine wpIn_rangeFunc fun fn _ => ?_
    have e1 := hfr.tm.opds f x hf
    rw [hv] at e1
    obtain ⟨xs, ys, ex, hx1, hy1⟩ := VR.fn.1 e1
    obtain ⟨b1, b2⟩ := hfr.rel.beside (cx := cx) (.deferred (some []))
    let rec0 : Loop := { state := .ready, pending := none, fn := fn, tmps := a.tmps, params := ps, assign := as, body := bd, defers := w.heap.size }
    let w1 := w.alloc (.deferred (some []))
    have hsz1 : w1.heap.size = w.heap.size + 1 := by show (w.heap.push _).size = _; simp
    have hor : ORel cx σ ι (w1.alloc (.loop rec0)) ⟨w1.heap.size, 0, 0⟩ (.loop 0 t (ps.toList.map Pos.of) (compC cx nt true as) (compC cx nt true bd)) :=
      ⟨rec0, by show (w1.heap.push _)[w1.heap.size]? = _; simp, rfl, fun _ => rfl, hfr.tm, rfl, fun p hp => by show p < a.tmps.size; rw [hfr.sz]; exact hps p hp, by show _ = compC cx a.tmps.size true as; rw [hfr.sz], by show _ = compC cx a.tmps.size true bd; rw [hfr.sz]⟩
    obtain ⟨c1, c2⟩ := b1.push _ (.loop rec0) 0 hor
    have hnx : (ι.add h.nx ⟨w1.heap.size, 0, 0⟩) h.nx = some ⟨w1.heap.size, 0, 0⟩ := Inj.add_same _ _ _
    have hargs : VRL σ (ι.add h.nx ⟨w1.heap.size, 0, 0⟩) (app fs (app [.yield h.nx] cs)) (xs ++ #[Value.func (.yield w1.heap.size) #[] #[]] ++ ys).toList := by
      rw [app_eq, app_eq]
      have h1 := VRL.mono c2.le _ _ hx1
      have h2 := VRL.mono c2.le _ _ hy1
      have h3 : VRL σ (ι.add h.nx ⟨w1.heap.size, 0, 0⟩) [.yield h.nx] [Value.func (.yield w1.heap.size) #[] #[]] := ⟨_, _, rfl, ⟨_, hnx, rfl⟩, rfl⟩
      have e : (xs ++ #[Value.func (.yield w1.heap.size) #[] #[]] ++ ys).toList = xs.toList ++ ([Value.func (.yield w1.heap.size) #[] #[]] ++ ys.toList) := by rw [Array.toList_append, Array.toList_append, List.append_assoc]
      rw [e]; exact h1.append (h3.append h2)
    obtain ⟨d1, d2⟩ := hcall _ _ _ c1 hargs
    refine ⟨w1.heap.size, [{ target := .collected w.heap.size, args := #[] }], w1.alloc (.loop rec0), { target := .fn (.func g) ys, args := xs ++ #[Value.func (.yield w1.heap.size) #[] #[]] }, w1.alloc (.loop rec0), g, _, w1.alloc (.loop rec0), ?_, ?_, fun _ _ => trivial, ?_, fun hh => (by cases hh), CallsIn.mono (callsIn_Fz d2) ?_⟩
    · simp [Instr.enterLoop, Fz, rec0, w1, Fence.wide]
    · show (Deferred.ofValue (a.eval f) (Array.map a.eval #[.const (.func (.yield w1.heap.size) #[] #[])])).run P _ = _
      rw [ex, show Array.map a.eval #[Operand.const (.func (.yield w1.heap.size) #[] #[])] = #[Value.func (.yield w1.heap.size) #[] #[]] by simp [Act.eval]]; rfl
    · exact d1
    · rintro e w3 ⟨v', ι2, rfl, hv2, hr2, he2⟩
      obtain ⟨st, t', ps', as', bd', hg, hx⟩ := loopK_some hx
      have hl2 : ι2 h.nx = some ⟨w1.heap.size, 0, 0⟩ := he2.le _ _ hnx
      obtain ⟨rr, hw3, hlr⟩ := hr2.obj _ _ _ hl2 hg
      have hw3 : w3.heap[w1.heap.size]? = some (.loop rr) := hw3
      obtain ⟨p1, p2⟩ := hr2.setLoop hl2 hg hw3 (r' := { rr with state := .exhausted }) (o' := .dead) trivial
      have hall : Ext ι ι2 h (h2.put h.nx .dead) w (setO w3 w1.heap.size (.loop { rr with state := .exhausted })) := (b2.trans c2).trans (he2.trans p2)
      have hfr2 : Fr cx σ nt ι2 t (h2.put h.nx .dead) { a with defers := [{ target := .collected w.heap.size, args := #[] }] ++ a.defers } (setO w3 w1.heap.size (.loop { rr with state := .exhausted })) := ⟨p1, hfr.tm.mono hall.le, hfr.sz⟩
      have hrest := hm.ext hall
      have hmark : (w1.alloc (.loop rec0)).heap[w.heap.size]? = some (.deferred (some [])) := by
        show ((w.heap.push _).push _)[w.heap.size]? = _
        simp [Array.getElem?_push]
      have hout : ∀ b l, (ι.add h.nx ⟨w1.heap.size, 0, 0⟩) b = some l → l.blk ≠ w.heap.size := fun b l hb => by
        by_cases e : b = h.nx
        · subst e; rw [Inj.add_same] at hb; cases hb; simp only; omega
        · rw [Inj.add_ne _ _ _ _ e] at hb; have := (hfr.rel.bound b l hb).2; omega
      have one : MRel lo (ι.add h.nx ⟨w1.heap.size, 0, 0⟩) (w1.alloc (.loop rec0)) [{ target := .collected w.heap.size, args := #[] }] := ⟨⟨_, rfl, hlo, hmark, hout, by simp⟩, trivial⟩
      obtain ⟨⟨q, q1, q0, q2, q3, _⟩, _⟩ := one.ext (he2.trans p2)
      have hm2 : MRel lo ι2 (setO w3 w1.heap.size (.loop { rr with state := .exhausted })) ([{ target := .collected w.heap.size, args := #[] }] ++ a.defers) := by
        refine ⟨⟨q, q1, q0, q2, q3, fun d' hd' hdq => ?_⟩, hrest⟩
        have hq : q = w.heap.size := by simpa using q1.symm
        have old : ∀ {ds : List Deferred}, MRel lo ι w ds → ∀ d' ∈ ds, d'.target ≠ .collected w.heap.size := by
          intro ds
          induction ds with
          | nil => intro _ d' h; cases h
          | cons d ds ih =>
            intro hm d' h
            obtain ⟨⟨r, r1, _, r2, _⟩, r3⟩ := hm
            rcases List.mem_cons.1 h with rfl | h
            · rw [r1]; intro e; cases e; have := lt_of_some r2; omega
            · exact ih r3 d' h
        exact old hm d' hd' (hq ▸ hdq)
      have hstate := hlr.hst
      have hend : rr.state ≠ .busy → (Instr.endLoop w1.heap.size).run P w3 = .ok rr.pending (setO w3 w1.heap.size (.loop { rr with state := .exhausted })) := fun hb => by
        have hlt := lt_of_some hw3
        have hb' : (rr.state == LoopState.busy) = false := by cases hs : rr.state <;> first | rfl | exact absurd hs hb
        unfold Instr.endLoop
        simp only [Sem.run_bind, run_getLoop hw3, Result.andThen_ok, hb', Bool.false_eq_true, if_false]
        simp only [Sem.run_bind, run_setO hw3, Result.andThen_ok, Sem.run_pure]
      cases st with
      | zero =>
        have hp : rr.pending = none := hlr.pend rfl
        refine ⟨none, _, (hend (fun e => by rw [e] at hstate; cases hstate)).trans (congrArg (Result.ok · _) hp), ?_⟩
        exact hkn t _ hx ι2 _ _ hfr2 hm2 hall
      | succ s =>
        cases s with
        | zero => cases hx
        | succ s =>
          cases s with
          | zero =>
            have hh : rr.state = .done ∧ rr.pending = some .ret := by
              revert hstate
              cases rr.state <;> (cases rr.pending with | none => simp [stOf] | some c => cases c <;> simp [stOf])
            refine ⟨some .ret, _, (hend (by rw [hh.1]; simp)).trans (congrArg (Result.ok · _) hh.2), wpIn_ret ?_⟩
            exact hkx none t _ hx ι2 _ _ hfr2 hm2 hall
          | succ s =>
            have hh : rr.state = .done ∧ rr.pending = some (.exit s) := by
              revert hstate
              cases rr.state <;> (cases rr.pending with | none => simp [stOf] | some c => cases c <;> simp [stOf]; try omega)
            refine ⟨some (.exit s), _, (hend (by rw [hh.1]; simp)).trans (congrArg (Result.ok · _) hh.2), wpIn_exit ?_⟩
            exact hkx (some s) t _ hx ι2 _ _ hfr2 hm2 hall
  | _ => rw [hv] at hx; cases hx
end
end Go.Ab

/- Code: by its shape; a loop's round; a function. -/
namespace Go.Ab
section
variable {P : Program} {cx : Cx} {σ : Nat → Int} {S : Sy} {call : Nat → List V → H → K → R} {round : Pos → List V → H → K → R} {loop : IC → T → H → (T → H → R) → (Option Nat → T → H → R) → R}

theorem code_sound (hS : SyOk σ P S) (hy : Hyp P cx) (hm : P.follows .mixedOrders = true) (hE : EnvNat call round loop) (hok : EnvOk P cx σ call round) (hlp : LoopOk P cx σ loop) {lo nt : Nat} (c : Code) :
    ∀ (inR : Bool) (t : T) (h : H) (kn : T → H → R) (kx : Option Nat → T → H → R) (r : V × H), code S (compC cx nt inR c) (.mk call round loop) t h kn kx = some r →
      ∀ ro : Option Nat, (inR = false → ro = none) → WpOk cx σ lo nt t h kn kx r (fun Q a w => c.wpIn (Fz ro) 0 P Q a w) := by
  induction c with
  | skip => intro inR t h kn kx r hx ro _ ι a w Q hf hlo hmr hn _; exact wpIn_skip (hn t h hx ι a w hf hmr (Ext.refl _ _ _))
  | ret => intro inR t h kn kx r hx ro _ ι a w Q hf hlo hmr _ hk; exact wpIn_ret (hk none t h hx ι a w hf hmr (Ext.refl _ _ _))
  | label l => intro inR t h kn kx r hx ro _ ι a w Q hf hlo hmr hn _; exact wpIn_label (hn t h hx ι a w hf hmr (Ext.refl _ _ _))
  | exit id => intro inR t h kn kx r hx ro _ ι a w Q hf hlo hmr _ hk; exact wpIn_exit (hk (some id) t h hx ι a w hf hmr (Ext.refl _ _ _))
  | goto l => intro inR t h kn kx r hx; cases hx
  | refuse s => intro inR t h kn kx r hx; cases hx
  | scope c ih =>
    intro inR t h kn kx r hx ro hro ι a w Q hf hlo hmr hn hk
    refine wpIn_scope_straight (ih inR t h kn kx r hx ro hro ι a w _ hf hlo hmr (fun t' h' e ι' a' w' f1 f2 f3 => hn t' h' e ι' a' w' f1 f2 f3) fun e t' h' ee ι' a' w' f1 f2 f3 => ?_)
    have := hk e t' h' ee ι' a' w' f1 f2 f3
    cases e <;> exact this
  | region id ops draw =>
    intro inR t h kn kx r hx ro _ ι a w Q hf hlo hmr hn _
    cases draw with
    | true =>
      have hx : code S (compDraw cx nt ops) (.mk call round loop) t h kn kx = some r := hx
      cases hcd : compDraw cx nt ops with
      | regd L =>
        rw [hcd] at hx
        obtain ⟨t', h', h1, h2⟩ := regd_sound hS hy hm hE hok hcd (show opersD S L (.mk call round loop) [] t h kn = some r from hx)
        exact h2 ro id ι a w Q hf fun ι' a' w' f1 f2 f3 => hn t' h' h1 ι' a' w' f1 (by rw [f2]; exact hmr.ext f3) f3
      | bad => rw [hcd] at hx; cases hx
      | _ =>
        exfalso
        unfold compDraw at hcd
        split at hcd
        · cases hcd
        · cases hcd
    | false =>
      have hx : opers S (ops.toList.map (compOpr cx nt ops 0)) (.mk call round loop) t h kn = some r := hx
      obtain ⟨t', h', h1, h2⟩ := opers_sound hS hy rfl hok (List.range ops.size) ops.toList (range_map_ops ops) hx
      exact wpIn_region (h2 ro ι a w Q hf fun ι' a' w' f1 f2 f3 => hn t' h' h1 ι' a' w' f1 (by rw [f2]; exact hmr.ext f3) f3)
  | seq x y ihx ihy =>
    intro inR t h kn kx r hx ro hro ι a w Q hf hlo hmr hn hk
    refine wpIn_seq (ihx inR t h (fun t h => code S (compC cx nt inR y) (.mk call round loop) t h kn kx) kx r hx ro hro ι a w _ hf hlo hmr (fun t' h' e ι' a' w' f1 f2 f3 => ?_) fun e t' h' ee ι' a' w' f1 f2 f3 => then_exitOf (hk e t' h' ee ι' a' w' f1 f2 f3))
    exact ihy inR t' h' kn kx r e ro hro ι' a' w' Q f1 (Nat.le_trans hlo f3.size) f2 (fun t2 h2 e2 ι2 a2 w2 g1 g2 g3 => hn t2 h2 e2 ι2 a2 w2 g1 g2 (f3.trans g3)) fun e t2 h2 e2 ι2 a2 w2 g1 g2 g3 => hk e t2 h2 e2 ι2 a2 w2 g1 g2 (f3.trans g3)
  | cond o x y ihx ihy =>
    intro inR t h kn kx r hx ro hro ι a w Q hf hlo hmr hn hk
    unfold compC at hx
    cases ho : ofOpd o with
    | none => rw [ho] at hx; cases hx
    | some o' =>
      rw [ho] at hx
      have hx : (o'.ev t).onBool (fun b => Bool.rec (motive := fun _ => R) (code S (compC cx nt inR y) (.mk call round loop) t h kn kx) (code S (compC cx nt inR x) (.mk call round loop) t h kn kx) b) = some r := hx
      obtain ⟨b, hb, hx⟩ := V.onBool_some hx
      have hv := hf.tm.opds o o' ho
      rw [hb] at hv
      refine wpIn_cond (t := b) (VR.bool.1 hv) ?_
      cases b with
      | true => exact ihx inR t h kn kx r hx ro hro ι a w Q hf hlo hmr hn hk
      | false => exact ihy inR t h kn kx r hx ro hro ι a w Q hf hlo hmr hn hk
  | block id x ih =>
    intro inR t h kn kx r hx ro hro ι a w Q hf hlo hmr hn hk
    refine wpIn_block (ih inR t h kn (fun e t h => Option.rec (motive := fun _ => R) (kx none t h) (fun j => Bool.rec (motive := fun _ => R) (kx (some j) t h) (kn t h) (Nat.beq j id)) e) r hx ro hro ι a w _ hf hlo hmr
      (fun t' h' e ι' a' w' f1 f2 f3 => hn t' h' e ι' a' w' f1 f2 f3) fun e t' h' ee ι' a' w' f1 f2 f3 => ?_)
    cases e with
    | none => exact hk none t' h' ee ι' a' w' f1 f2 f3
    | some j =>
      show Exit.inBlock id Q (.exit j) a' w'
      by_cases hj : j = id
      · subst hj
        have hb : Nat.beq j j = true := by rw [Nat.beq_eq]
        have ee : Bool.rec (motive := fun _ => R) (kx (some j) t' h') (kn t' h') (Nat.beq j j) = some r := ee
        rw [hb] at ee
        simp only [Exit.inBlock, if_true]
        exact hn t' h' ee ι' a' w' f1 f2 f3
      · have hb : Nat.beq j id = false := by
          cases hb : Nat.beq j id with
          | false => rfl
          | true => rw [Nat.beq_eq] at hb; exact absurd hb hj
        have ee : Bool.rec (motive := fun _ => R) (kx (some j) t' h') (kn t' h') (Nat.beq j id) = some r := ee
        rw [hb] at ee
        simp only [Exit.inBlock, hj, if_false]
        exact hk (some j) t' h' ee ι' a' w' f1 f2 f3
  | loop x ih =>
    intro inR t h kn kx r hx ro hro ι a w Q hf hlo hmr hn hk
    exact LoopW.wp (hlp x lo nt inR t h kn kx r hx ro hro ι a w Q hf hlo hmr hn hk)
  | rangeFunc f ps x y ihx ihy =>
    intro inR t h kn kx r hx ro hro
    unfold compC at hx
    cases ho : ofOpd f with
    | none => rw [ho] at hx; cases hx
    | some o' =>
      rw [ho] at hx
      simp only at hx
      split at hx
      · rename_i hcond
        rw [Bool.and_eq_true, List.all_eq_true] at hcond
        cases inR with
        | true => cases hcond.1
        | false =>
          rw [hro rfl]
          exact rangeFunc_sound hE hok ho (fun p hp => by simpa using hcond.2 p hp) hx
      · cases hx

theorem loop_sound (hS : SyOk σ P S) (hy : Hyp P cx) (hm : P.follows .mixedOrders = true) (hE : EnvNat call round loop) (hok : EnvOk P cx σ call round) (hlp : LoopOk P cx σ loop) :
    LoopOk P cx σ (fun b t h kn kx => code S b (.mk call round loop) t h (fun t h => loop b t h kn kx) kx) := by
  intro c lo nt inR t h kn kx r hx ro hro ι a w Q hf hlo hmr hn hk
  refine LoopW.step (code_sound hS hy hm hE hok hlp (lo := lo) c inR t h _ kx r hx ro hro ι a w _ hf hlo hmr (fun t' h' e ι' a' w' f1 f2 f3 => ?_) fun e t' h' ee ι' a' w' f1 f2 f3 => then_exitOf (hk e t' h' ee ι' a' w' f1 f2 f3))
  exact hlp c lo nt inR t' h' kn kx r e ro hro ι' a' w' Q f1 (Nat.le_trans hlo f3.size) f2 (fun t2 h2 e2 ι2 a2 w2 g1 g2 g3 => hn t2 h2 e2 ι2 a2 w2 g1 g2 (f3.trans g3)) fun e t2 h2 e2 ι2 a2 w2 g1 g2 g3 => hk e t2 h2 e2 ι2 a2 w2 g1 g2 (f3.trans g3)
end
end Go.Ab

/- A loop's round; a function; all of them. -/
namespace Go.Ab
section
variable {P : Program} {cx : Cx} {σ : Nat → Int} {S : Sy} {call : Nat → List V → H → K → R} {round : Pos → List V → H → K → R} {loop : IC → T → H → (T → H → R) → (Option Nat → T → H → R) → R}

theorem tsets_sound {ι : Inj} : ∀ (ps : List Nat) (vs : List V) (xs : List Value) (t : T) (tmps : Array Value) {k : T → R} {r : V × H}, (∀ p ∈ ps, p < tmps.size) → TRel σ ι t tmps → VRL σ ι vs xs → tsets (ps.map Pos.of) vs t k = some r →
    ∃ t', k t' = some r ∧ xs.length = ps.length ∧ TRel σ ι t' ((ps.zip xs).foldl (fun tmps (t, a) => tmps.setIfInBounds t a) tmps) ∧ ((ps.zip xs).foldl (fun tmps (t, a) => tmps.setIfInBounds t a) tmps).size = tmps.size
  | [], [], xs, t, tmps, k, r, _, ht, hv, hx => by rw [VRL.nil.1 hv]; exact ⟨t, hx, rfl, ht, rfl⟩
  | [], v :: vs, _, _, _, _, _, _, _, _, hx => by cases hx
  | p :: ps, [], _, _, _, _, _, _, _, _, hx => by cases hx
  | p :: ps, v :: vs, xs, t, tmps, k, r, hp, ht, hv, hx => by
    obtain ⟨x, xs', rfl, h1, h2⟩ := hv
    obtain ⟨t', e1, e2, e3, e4⟩ := tsets_sound ps vs xs' (Tr.put (Pos.of p) v t) (tmps.setIfInBounds p x) (fun q hq => by simpa using hp q (by simp [hq])) (ht.set (hp p (by simp)) h1) h2 hx
    exact ⟨t', e1, by simp [e2], e3, by simpa using e4⟩

theorem foldl_zip (f : Array Value → Nat → Value → Array Value) (ps : Array Nat) (xs : Array Value) (i : Array Value) : (ps.zip xs).foldl (fun t (p, a) => f t p a) i = (ps.toList.zip xs.toList).foldl (fun t (p, a) => f t p a) i := by
  rw [← Array.foldl_toList, Array.toList_zip]

theorem EndsAs.mono {ι : Inj} {h : H} {w : World} {v : V} {h' : H} {e : Ending} {w' : World} (x : EndsAs cx σ ι h w v h' e w') : EndsAs cx σ ι h w v h' e w' := x

theorem round_sound (hS : SyOk σ P S) (hy : Hyp P cx) (hm : P.follows .mixedOrders = true) (hE : EnvNat call round loop) (hok : EnvOk P cx σ call round) (hlp : LoopOk P cx σ loop)
    (l : Pos) (args : List V) (h : H) (k : K) (r : V × H) (hx : runR S (.mk call round loop) l args h k = some r) : ∃ v h', k v h' = some r ∧ ∀ (ι : Inj) (w : World) (lc : Loc) (xs : Array Value), Rel cx σ ι h w → ι l = some lc → VRL σ ι args xs.toList →
    ∃ f tmps as bd, (Instr.yield lc.blk xs).run P w = .ok (.round lc.blk f tmps as bd) w ∧ RoundIn (Fz none) 0 P lc.blk f tmps as bd w (EndsAs cx σ ι h w v h') := by
  rcases runR_nat hE (S := S) l args h with hn | ⟨v, h', hn⟩
  · rw [hn] at hx; cases hx
  · rw [hn] at hx
    refine ⟨v, h', hx, fun ι w lc xs hr hl hv => ?_⟩
    have hx := hn (fun v h => some (v, h))
    unfold runR at hx
    obtain ⟨st, t, ps, as, bd, hg, hx⟩ := loopK_some hx
    obtain ⟨hst, hx⟩ := ifK_some.1 hx
    rw [Nat.beq_eq] at hst
    subst hst
    obtain ⟨r0, hw0, hlr⟩ := hr.obj _ _ _ hl hg
    have hps := hlr.hps
    subst hps
    obtain ⟨t1, hx, hlen, ht1, hs1⟩ := tsets_sound (σ := σ) r0.params.toList args xs.toList t r0.tmps hlr.lt hlr.tm hv hx
    have hfold : ∀ i : Array Value, (r0.params.zip xs).foldl (fun tmps (t, a) => tmps.setIfInBounds t a) i = (r0.params.toList.zip xs.toList).foldl (fun tmps (t, a) => tmps.setIfInBounds t a) i := fun i => foldl_zip (fun tmps t a => tmps.setIfInBounds t a) _ _ _
    refine ⟨r0.fn, (r0.params.zip xs).foldl (fun tmps (t, a) => tmps.setIfInBounds t a) r0.tmps, r0.assign, r0.body, ?_, ?_⟩
    · have hsz : ¬ (xs.size ≠ r0.params.size) := by simpa using hlen
      unfold Instr.yield
      simp only [Sem.run_bind, run_getLoop hw0, Result.andThen_ok, hsz, if_false]
      rfl
    · have has := hlr.has
      have hbd := hlr.hbd
      subst has hbd
      refine roundIn_Fz (ro := none) (ro' := none) (roundIn_of_wpIn (F := Fz none) trivial ?_)
      have hfr : Fr cx σ r0.tmps.size ι t1 h { tmps := (r0.params.zip xs).foldl (fun tmps (t, a) => tmps.setIfInBounds t a) r0.tmps, defers := [] } w := ⟨hr, by rw [hfold]; exact ht1, by rw [hfold]; exact hs1⟩
      refine code_sound hS hy hm hE hok hlp (lo := 0) r0.assign true t1 h _ _ _ hx (some lc.blk) (fun h => by cases h) ι _ w _ hfr (Nat.zero_le _) trivial (fun t2 h1 e ι1 a1 w1 f1 f2 f3 => ?_) (fun e t' h' ee => by cases ee)
      obtain ⟨st', t', ps', as', bd', hg1, e⟩ := loopK_some e
      obtain ⟨hst, e⟩ := ifK_some.1 e
      rw [Nat.beq_eq] at hst
      subst hst
      have hl1 := f3.le _ _ hl
      obtain ⟨r1, hw1, hlr1⟩ := f1.rel.obj _ _ _ hl1 hg1
      have hready : r1.state = .ready := by
        have := hlr1.hst
        revert this
        cases r1.state <;> (cases r1.pending with | none => simp [stOf] | some c => cases c <;> simp [stOf])
      obtain ⟨p1, p2⟩ := f1.rel.setLoop hl1 hg1 hw1 (r' := { r1 with state := .busy }) (o' := .loop 1 t' ps' as' bd')
        ⟨{ r1 with state := .busy }, get_set_same hw1, rfl, fun h => (by cases h), hlr1.tm, hlr1.hps, hlr1.lt, hlr1.has, hlr1.hbd⟩
      refine ⟨setO w1 lc.blk (.loop { r1 with state := .busy }), ?_, ?_⟩
      · unfold Instr.beginRound
        simp only [Sem.run_bind, run_getLoop hw1, Result.andThen_ok, run_setO hw1, hready]
        rfl
      · have hfr2 : Fr cx σ r0.tmps.size ι1 t2 (h1.put l (.loop 1 t' ps' as' bd')) a1 (setO w1 lc.blk (.loop { r1 with state := .busy })) := ⟨p1, f1.tm, f1.sz⟩
        refine code_sound hS hy hm hE hok hlp (lo := 0) r0.body true t2 _ _ _ _ e (some lc.blk) (fun h => by cases h) ι1 a1 _ _ hfr2 (Nat.zero_le _) (f2.ext p2) (fun t3 h2 e2 ι2 a2 w2 g1 g2 g3 => ?_) (fun ex t3 h2 e2 ι2 a2 w2 g1 g2 g3 => ?_)
        · obtain ⟨st3, t3', ps3, as3, bd3, hg2, e2⟩ := loopK_some e2
          simp only [Option.some.injEq, Prod.mk.injEq] at e2
          obtain ⟨rfl, rfl⟩ := e2
          have hl2 := g3.le _ _ hl1
          obtain ⟨r2, hw2, hlr2⟩ := g1.rel.obj _ _ _ hl2 hg2
          obtain ⟨q1, q2⟩ := g1.rel.setLoop hl2 hg2 hw2 (r' := { r2 with state := .ready, pending := none }) (o' := .loop 0 t3' ps3 as3 bd3)
            ⟨{ r2 with state := .ready, pending := none }, get_set_same hw2, rfl, fun _ => rfl, hlr2.tm, hlr2.hps, hlr2.lt, hlr2.has, hlr2.hbd⟩
          refine ⟨.bool true, setO w2 lc.blk (.loop { r2 with state := .ready, pending := none }), ?_, .bool true, ι2, rfl, rfl, q1, (f3.trans p2).trans (g3.trans q2)⟩
          unfold Instr.endRound
          simp only [Sem.run_bind, run_getLoop hw2, Result.andThen_ok, Option.isNone_none, if_true, run_setO hw2, Sem.run_pure]
        · obtain ⟨st3, t3', ps3, as3, bd3, hg2, e2⟩ := loopK_some e2
          simp only [Option.some.injEq, Prod.mk.injEq] at e2
          obtain ⟨rfl, rfl⟩ := e2
          have hl2 := g3.le _ _ hl1
          obtain ⟨r2, hw2, hlr2⟩ := g1.rel.obj _ _ _ hl2 hg2
          cases ex with
          | none =>
            obtain ⟨q1, q2⟩ := g1.rel.setLoop hl2 hg2 hw2 (r' := { r2 with state := .done, pending := some .ret }) (o' := .loop (exitSt none) t3' ps3 as3 bd3)
              ⟨{ r2 with state := .done, pending := some .ret }, get_set_same hw2, rfl, fun h => (by cases h), hlr2.tm, hlr2.hps, hlr2.lt, hlr2.has, hlr2.hbd⟩
            refine ⟨.bool false, setO w2 lc.blk (.loop { r2 with state := .done, pending := some .ret }), ?_, .bool false, ι2, rfl, rfl, q1, (f3.trans p2).trans (g3.trans q2)⟩
            unfold Instr.endRound
            simp only [Sem.run_bind, run_getLoop hw2, Result.andThen_ok, Option.isNone_some, Bool.false_eq_true, if_false, run_setO hw2, Sem.run_pure]
          | some id =>
            obtain ⟨q1, q2⟩ := g1.rel.setLoop hl2 hg2 hw2 (r' := { r2 with state := .done, pending := some (.exit id) }) (o' := .loop (exitSt (some id)) t3' ps3 as3 bd3)
              ⟨{ r2 with state := .done, pending := some (.exit id) }, get_set_same hw2, rfl, fun h => (by cases h), hlr2.tm, hlr2.hps, hlr2.lt, hlr2.has, hlr2.hbd⟩
            refine ⟨.bool false, setO w2 lc.blk (.loop { r2 with state := .done, pending := some (.exit id) }), ?_, .bool false, ι2, rfl, rfl, q1, (f3.trans p2).trans (g3.trans q2)⟩
            unfold Instr.endRound
            simp only [Sem.run_bind, run_getLoop hw2, Result.andThen_ok, Option.isNone_some, Bool.false_eq_true, if_false, run_setO hw2, Sem.run_pure]
end
end Go.Ab

/- A function's contract; the whole environment; the law: an abstract run tells a call's. -/
namespace Go.Ab
section
variable {P : Program} {cx : Cx} {σ : Nat → Int} {S : Sy} {call : Nat → List V → H → K → R} {round : Pos → List V → H → K → R} {loop : IC → T → H → (T → H → R) → (Option Nat → T → H → R) → R}

/-- the table's functions are the program's -/
structure TabOk (P : Program) (cx : Cx) (tab : Tr IFn) : Prop where
  ok : ∀ f x, tab.get (Pos.of f) = some x → ∃ fn c, P.funcs[f]? = some fn ∧ fn.body = some c ∧ compF cx fn = some x ∧ (fn.name == "runtime.NumGoroutine") = false

theorem run_callFunc {f : Nat} {fn : Func} {c : Code} (h1 : P.funcs[f]? = some fn) (h2 : fn.body = some c) (h3 : (fn.name == "runtime.NumGoroutine") = false) (xs : Array Value) (w : World) : (callFunc f xs).run P w = .ok (.enter f xs) w := by
  unfold callFunc
  simp only [Sem.run_bind, run_program, Result.andThen_ok, h1, h3, h2, Option.isNone_some, Bool.false_eq_true, if_false, Sem.run_pure]

theorem ld1_real (hy : Hyp P cx) {ι : Inj} {h : H} {w : World} (hr : Rel cx σ ι h w) {b : Pos} {i : Nat} {ty : TypeId} (ha : aggOf cx ty = some false) {l : Loc} (hl : ι b = some l) {k : V → R} {r : V × H} (e : h.ld1 b i k = some r) :
    ∃ v x, k v = some r ∧ VR σ ι v x ∧ (loadVar ty ⟨l.blk, l.off + i, none⟩).run P w = .ok x w := by
  obtain ⟨ob, hb, e⟩ := H.getK_some e
  obtain ⟨v, hc, hi, hv, e⟩ := O.getK_some e
  obtain ⟨c, tyy, fz, h2, h3, h4, h5, h6⟩ := (orel_cells cx σ hc).1 (hr.obj b l ob hl hb)
  obtain ⟨xv, hx1, hx2, _⟩ := h6 i v hv
  exact ⟨v, xv, e, hx2, by simp [loadVar, aggOf_spec hy ha, cell_of w h2, hx1]⟩

theorem ldn_real (hy : Hyp P cx) {ι : Inj} {h : H} {w : World} (hr : Rel cx σ ι h w) {b : Pos} {i n : Nat} {ty : TypeId} (ha : aggOf cx ty = some true) (hs : szOf cx ty = some n) {l : Loc} (hlo : ι b = some l) {k : List V → R} {r : V × H} (e : h.ldn b i n k = some r) :
    ∃ vs x, k vs = some r ∧ VR σ ι (.agg vs) x ∧ (loadVar ty ⟨l.blk, l.off + i, none⟩).run P w = .ok x w := by
  obtain ⟨ob, hb, e⟩ := H.getK_some e
  obtain ⟨vs, hl, hn, hat, e⟩ := getcs_some e
  have hone : ∀ v ∈ vs, v.one = true := fun v hv => by
    obtain ⟨j, hj, hjv⟩ := List.getElem_of_mem hv
    obtain ⟨c, tyy, fz, h2, h3, h4, h5, h6⟩ := (orel_cells cx σ (hn (by omega)).1).1 (hr.obj b l ob hlo hb)
    exact (h6 (i + j) v (by rw [hat j (by omega), List.getElem?_eq_getElem hj, hjv])).choose_spec.2.2
  have key : ∃ ws : List Value, VRL σ ι vs ws ∧ ∀ j v, ws[j]? = some v → w.cell? ((⟨l.blk, l.off + i, none⟩ : Addr).add j) = some v := by
    by_cases hz : n = 0
    · have : vs = [] := List.eq_nil_of_length_eq_zero (by omega)
      subst this
      exact ⟨[], rfl, by simp⟩
    · obtain ⟨c, tyy, fz, h2, h3, h4, h5, h6⟩ := (orel_cells cx σ (hn hz).1).1 (hr.obj b l ob hlo hb)
      refine ⟨(c.toList.drop (l.off + i)).take n, VRL.of_get ?_ fun j v hj => ?_, fun j v hj => ?_⟩
      · have := (hn hz).2; simp; omega
      · have hj' : j < n := by rw [← hl]; exact (List.getElem?_eq_some_iff.1 hj).1
        obtain ⟨xv, hx1, hx2, _⟩ := h6 (i + j) v (by rw [hat j hj', hj])
        refine ⟨xv, ?_, hx2⟩
        simp [hj', List.getElem?_drop, ← Nat.add_assoc] at hx1 ⊢; exact hx1
      · rw [addr_add, cell_of w h2]
        have hj' : j < n := by have := (List.getElem?_eq_some_iff.1 hj).1; simp at this; omega
        simpa [List.getElem?_take, hj', List.getElem?_drop] using hj
  obtain ⟨ws, hw1, hw2⟩ := key
  have hlen : ws.length = n := by rw [hw1.length, hl]
  have := run_loadCells_list (P := P) w (⟨l.blk, l.off + i, none⟩ : Addr) ws hw2
  rw [hlen] at this
  exact ⟨vs, .agg ws.toArray, e, VR.agg.2 ⟨ws.toArray, rfl, by simpa using hw1, hone⟩, by simp [loadVar, aggOf_spec hy ha, szOf_spec hy hs, this]⟩

def resOf (tmps : Array Value) : ResultVar → Sem Value
  | .tmp t => pure (tmps.getD t undef)
  | .cell a t => do loadVar t (← asAddr (tmps.getD a undef))

theorem res_sound (hy : Hyp P cx) {ι : Inj} {t : T} {h : H} {tmps : Array Value} {w : World} (hr : Rel cx σ ι h w) (ht : TRel σ ι t tmps) : ∀ (l : List ResultVar) (l' : List (Pos × Option Nat × Bool)) {k : List V → R} {r : V × H}, compRes cx l = some l' → resK l' t h k = some r →
    ∃ vs xs, k vs = some r ∧ VRL σ ι vs xs ∧ (l.mapM (resOf tmps)).run P w = .ok xs w
  | [], l', k, r, hc, hx => by simp [compRes] at hc; subst hc; exact ⟨[], [], hx, rfl, rfl⟩
  | .tmp n :: l, l', k, r, hc, hx => by
    unfold compRes at hc
    cases h1 : compRes cx l with
    | none => simp [h1] at hc
    | some r' =>
      simp [h1] at hc; subst hc
      obtain ⟨vs, xs, e1, e2, e3⟩ := res_sound hy hr ht l r' (k := fun vs => k ((Opd.t (Pos.of n)).ev t :: vs)) h1 hx
      refine ⟨_, _, e1, ⟨_, _, rfl, ht n, e2⟩, ?_⟩
      rw [List.mapM_cons]
      simp only [Sem.run_bind, e3, Result.andThen_ok, Sem.run_pure]
      simp only [resOf, Sem.run_pure, Result.andThen_ok, e3]
  | .cell n ty :: l, l', k, r, hc, hx => by
    unfold compRes at hc
    cases hs : szOf cx ty with
    | none => simp [hs] at hc
    | some s => cases hg : aggOf cx ty with
      | none => simp [hs, hg] at hc
      | some g => cases h1 : compRes cx l with
        | none => simp [hs, hg, h1] at hc
        | some r' =>
          simp [hs, hg, h1] at hc; subst hc
          have hx : ((Opd.t (Pos.of n)).ev t).onPtr (fun b i => Bool.rec (motive := fun _ => R) (h.ld1 b i fun v => resK r' t h fun vs => k (v :: vs)) (h.ldn b i s fun c => resK r' t h fun vs => k (.agg c :: vs)) g) = some r := hx
          obtain ⟨b, i, hp, hx⟩ := V.onPtr_some hx
          have h3 := ht n
          rw [hp] at h3
          obtain ⟨lc, hlc, hw⟩ := h3
          cases g with
          | false =>
            obtain ⟨v, x, hx, hv, hrun⟩ := ld1_real hy hr hg hlc hx
            obtain ⟨vs, xs, e1, e2, e3⟩ := res_sound hy hr ht l r' h1 hx
            refine ⟨_, _, e1, ⟨_, _, rfl, hv, e2⟩, ?_⟩
            rw [List.mapM_cons]
            simp only [Sem.run_bind, resOf, hw, asAddr, Sem.run_pure, Result.andThen_ok, hrun, e3]
          | true =>
            obtain ⟨v, x, hx, hv, hrun⟩ := ldn_real hy hr hg hs hlc hx
            obtain ⟨vs, xs, e1, e2, e3⟩ := res_sound hy hr ht l r' h1 hx
            refine ⟨_, _, e1, ⟨_, _, rfl, hv, e2⟩, ?_⟩
            rw [List.mapM_cons]
            simp only [Sem.run_bind, resOf, hw, asAddr, Sem.run_pure, Result.andThen_ok, hrun, e3]

theorem resV_sound {ι : Inj} {vs : List V} {xs : List Value} (h : VRL σ ι vs xs) : VR σ ι (resV vs) (if h : xs.toArray.size = 1 then xs.toArray[0] else .tuple xs.toArray) := by
  cases vs with
  | nil => rw [VRL.nil.1 h]; exact VR.tup.2 ⟨#[], rfl, rfl⟩
  | cons v vs =>
    obtain ⟨x, xs', rfl, h1, h2⟩ := h
    have h2 : VRL σ ι vs xs' := h2
    cases vs with
    | nil => rw [VRL.nil.1 h2]; exact h1
    | cons u us =>
      have hl := VRL.length h2
      have : ¬ (x :: xs').toArray.size = 1 := by simp [hl]
      rw [dif_neg this]
      exact VR.tup.2 ⟨_, rfl, ⟨x, xs', rfl, h1, h2⟩⟩

theorem results_run {fn : Func} {tmps : Array Value} {w : World} {xs : List Value} (h : (fn.results.toList.mapM (resOf tmps)).run P w = .ok xs w) :
    (results fn tmps).run P w = .ok (if h : xs.toArray.size = 1 then xs.toArray[0] else .tuple xs.toArray) w := by
  have e : (fun x : ResultVar => match x with | .tmp t => (pure (tmps.getD t undef) : Sem Value) | .cell a t => do loadVar t (← asAddr (tmps.getD a undef))) = resOf tmps := by
    funext x; cases x <;> rfl
  show ((do let vs ← fn.results.mapM (fun x : ResultVar => match x with | .tmp t => (pure (tmps.getD t undef) : Sem Value) | .cell a t => do loadVar t (← asAddr (tmps.getD a undef))); pure (if h : vs.size = 1 then vs[0] else .tuple vs)) : Sem Value).run P w = _
  rw [e, Array.mapM_eq_mapM_toList]
  simp only [Sem.run_bind, Sem.run_map, h, Result.andThen_ok, Sem.run_pure]

/-- the function is left: its marks are taken up, its results told -/
theorem leaves_sound (hy : Hyp P cx) {fn : Func} {a : Act} {t : T} {h0 h : H} {ι0 ι : Inj} {w0 : World} {res : List (Pos × Option Nat × Bool)} (hres : compRes cx fn.results.toList = some res) {v : V}
    (ht : TRel σ ι t a.tmps) (hx : resK res t h (fun vs => some (resV vs, h)) = some (v, h)) : ∀ (ds : List Deferred) (w : World), Rel cx σ ι h w → Ext ι0 ι h0 h w0 w → MRel w0.heap.size ι w ds →
    LeavesInM (Fz none) 0 P fn a.tmps (EndsAs cx σ ι0 h0 w0 v h) ds .returning w
  | [], w, hr, he, _ => by
    obtain ⟨vs, xs, e1, e2, e3⟩ := res_sound hy hr ht _ _ hres hx
    simp only [Option.some.injEq, Prod.mk.injEq, and_true] at e1
    exact ⟨_, results_run e3, _, ι, rfl, by rw [← e1]; exact resV_sound e2, hr, he⟩
  | d :: ds, w, hr, he, hm => by
    obtain ⟨⟨r, h1, h2, h3, h4, h5⟩, h6⟩ := hm
    have hlt := lt_of_some h3
    have hsz : (setO w r (.deferred none)).heap.size = w.heap.size := size_set _ _ _
    refine ⟨by simp, .inl ⟨r, setO w r (.deferred none), h1, ?_, leaves_sound hy hres ht hx ds _ ?_ ?_ ?_⟩⟩
    · have g1 : (getObj r).run P w = .ok (.deferred (some [])) w := by simp [getObj, Sem.run, h3]
      have g2 : (setObj r (.deferred none)).run P w = .ok () (setO w r (.deferred none)) := by simp [setObj, Sem.run, h3, setO]
      unfold Instr.takeDeferred
      simp only [Sem.run_bind, g1, Result.andThen_ok, g2, Sem.run_pure]
    · refine ⟨fun b l hb => by rw [hsz]; exact hr.bound b l hb, hr.inj, fun b l o hb ho => (hr.obj b l o hb ho).other fun y hy' => ?_⟩
      rw [get_set_ne (h4 b l hb)]; exact hy'
    · refine ⟨he.le, he.fresh, he.keepA, he.nx, fun B o hB hn => ?_, by rw [hsz]; exact he.size, he.rng, he.os, he.out, he.tape, fun B c ty fz e => ?_⟩
      · rw [get_set_ne (fun e => by have := lt_of_some hB; omega)]
        exact he.keepW B o hB hn
      · obtain ⟨c', k1, k2, k3⟩ := he.keepC B c ty fz e
        exact ⟨c', by rw [get_set_ne (fun e' => by have := lt_of_some e; omega)]; exact k1, k2, k3⟩
    · have key : ∀ {ds : List Deferred}, (∀ d' ∈ ds, d'.target ≠ .collected r) → MRel w0.heap.size ι w ds → MRel w0.heap.size ι (setO w r (.deferred none)) ds := by
        intro ds
        induction ds with
        | nil => intro _ _; trivial
        | cons d' ds ih =>
          intro hne hm
          obtain ⟨⟨q, q1, q2, q3, q4, q5⟩, q6⟩ := hm
          refine ⟨⟨q, q1, q2, ?_, q4, q5⟩, ih (fun x hx => hne x (by simp [hx])) q6⟩
          rw [get_set_ne (fun e => hne d' (by simp) (by rw [q1, e]))]; exact q3
      exact key h5 h6

theorem func_sound (hS : SyOk σ P S) (hy : Hyp P cx) (hm : P.follows .mixedOrders = true) (hE : EnvNat call round loop) (hok : EnvOk P cx σ call round) (hlp : LoopOk P cx σ loop) {tab : Tr IFn} (htab : TabOk P cx tab)
    (f : Nat) (args : List V) (h : H) (k : K) (r : V × H) (hx : runF S tab (.mk call round loop) f args h k = some r) : ∃ v h', k v h' = some r ∧ ∀ (ι : Inj) (w : World) (xs : Array Value), Rel cx σ ι h w → VRL σ ι args xs.toList →
    (callFunc f xs).run P w = .ok (.enter f xs) w ∧ CallsIn (Fz none) 0 P f xs w (EndsAs cx σ ι h w v h') := by
  rcases runF_nat hE (S := S) tab f args h with hn | ⟨v, h', hn⟩
  · rw [hn] at hx; cases hx
  · rw [hn] at hx
    refine ⟨v, h', hx, fun ι w xs hr hv => ?_⟩
    have hx := hn (fun v h => some (v, h))
    unfold runF at hx
    cases htf : tab.get (Pos.of f) with
    | none => rw [htf] at hx; cases hx
    | some x =>
      rw [htf] at hx
      obtain ⟨fn, c, g1, g2, g3, g4⟩ := htab.ok f x htf
      refine ⟨run_callFunc g1 g2 g4 xs w, ?_⟩
      unfold compF at g3
      rw [g2] at g3
      cases hres : compRes cx fn.results.toList with
      | none => simp [hres] at g3
      | some res =>
        simp [hres] at g3
        subst g3
        have hx : ifK (Nat.ble (llen args) fn.ntmps) (code S (compC cx fn.ntmps false c) (.mk call round loop) (ofL args 0 .nil) h (fun t h' => resK res t h' fun vs => some (resV vs, h'))
          (fun e t h' => Option.rec (motive := fun _ => R) (resK res t h' fun vs => some (resV vs, h')) (fun _ => none) e)) = some (v, h') := hx
        obtain ⟨hle, hx⟩ := ifK_some.1 hx
        rw [Nat.ble_eq, llen_eq] at hle
        have hlen : xs.size = args.length := by have := hv.length; simpa using this
        have htm : TRel σ ι (ofL args 0 .nil) (xs ++ Array.replicate (fn.ntmps - xs.size) undef) := by
          intro n
          have hev : (Opd.t (Pos.of n)).ev (ofL args 0 .nil) = ((ofL args 0 .nil).get (Pos.of n)).getD (.tup []) := by
            show Option.rec (motive := fun _ => V) (.tup []) (fun v => v) ((ofL args 0 .nil).get (Pos.of n)) = _
            cases (ofL args 0 .nil).get (Pos.of n) <;> rfl
          rw [hev, ofL_get, Array.getD_eq_getD_getElem?]
          by_cases hnl : n < args.length
          · rw [if_pos ⟨Nat.zero_le _, by omega⟩, Nat.sub_zero]
            obtain ⟨u, hu1, hu2⟩ := hv.get (List.getElem?_eq_getElem hnl)
            rw [List.getElem?_eq_getElem hnl]
            have : (xs ++ Array.replicate (fn.ntmps - xs.size) undef)[n]? = some u := by
              rw [Array.getElem?_append_left (by omega)]; simpa using hu1
            rw [this]; exact hu2
          · rw [if_neg (by omega)]
            have hnil : (Tr.nil : Tr V).get (Pos.of n) = none := Tr.get_nil _
            rw [hnil]
            have : ((xs ++ Array.replicate (fn.ntmps - xs.size) undef)[n]?).getD undef = undef := by
              rw [Array.getElem?_append_right (by omega), Array.getElem?_replicate]
              split <;> rfl
            rw [this]; exact VR.undef
        refine callsIn_of_wp_marks g1 g2 trivial (code_sound hS hy hm hE hok hlp (lo := w.heap.size) c false _ _ _ _ _ hx none (fun _ => rfl) ι _ w _ ⟨hr, htm, by simp; omega⟩ (Nat.le_refl _) trivial (fun t' h1 e ι' a' w' f1 f2 f3 => ?_) (fun ex t' h1 e ι' a' w' f1 f2 f3 => ?_))
        · have eh : h1 = h' := by
            have e' : resK res t' h1 (fun vs => some (resV vs, h1)) = some (v, h') := e
            obtain ⟨vs, xs', e1, _, _⟩ := res_sound hy f1.rel f1.tm _ _ hres e'
            simp only [Option.some.injEq, Prod.mk.injEq] at e1
            exact e1.2
          subst eh
          exact leaves_sound hy hres f1.tm e a'.defers w' f1.rel f3 f2
        · cases ex with
          | some id => cases e
          | none =>
            have eh : h1 = h' := by
              have e' : resK res t' h1 (fun vs => some (resV vs, h1)) = some (v, h') := e
              obtain ⟨vs, xs', e1, _, _⟩ := res_sound hy f1.rel f1.tm _ _ hres e'
              simp only [Option.some.injEq, Prod.mk.injEq] at e1
              exact e1.2
            subst eh
            exact leaves_sound hy hres f1.tm e a'.defers w' f1.rel f3 f2
end

/-- contracts tell the truth -/
def OrcOk (P : Program) (cx : Cx) (σ : Nat → Int) (orc : Orc) : Prop :=
  ∀ f args h c k r, orc f args h = some c → c k = some r → ∃ v h', k v h' = some r ∧ ∀ (ι : Inj) (w : World) (xs : Array Value), Rel cx σ ι h w → VRL σ ι args xs.toList →
    (callFunc f xs).run P w = .ok (.enter f xs) w ∧ CallsIn (Fz none) 0 P f xs w (EndsAs cx σ ι h w v h')

theorem env_sound {P : Program} {cx : Cx} {σ : Nat → Int} {S : Sy} {orc : Orc} {tab : Tr IFn} (hS : SyOk σ P S) (hy : Hyp P cx) (hm : P.follows .mixedOrders = true) (hon : OrcNat orc) (hoo : OrcOk P cx σ orc) (htab : TabOk P cx tab) (n : Nat) :
    ∃ call round loop, env S orc tab n = .mk call round loop ∧ EnvNat call round loop ∧ EnvOk P cx σ call round ∧ LoopOk P cx σ loop := by
  induction n with
  | zero => exact ⟨_, _, _, rfl, ⟨fun _ _ _ => CpK.no, fun _ _ _ => CpK.no, fun _ _ _ => CpE.no⟩, ⟨fun _ _ _ _ _ h => (by cases h), fun _ _ _ _ _ h => (by cases h)⟩, fun _ _ _ _ _ _ _ _ _ h => (by cases h)⟩
  | succ n ih =>
    obtain ⟨call, round, loop, e, hE, hok, hlp⟩ := ih
    obtain ⟨c2, r2, l2, e2, hE2⟩ := env_nat (S := S) hon tab (n + 1)
    have hd : env S orc tab (n + 1) = .mk (fun f args h k => Option.rec (motive := fun _ => R) (runF S tab (env S orc tab n) f args h k) (fun c => c k) (orc f args h)) (runR S (env S orc tab n))
      (fun b t h kn kx => code S b (env S orc tab n) t h (fun t h => Env.rec (motive := fun _ => R) (fun _ _ l => l b t h kn kx) (env S orc tab n)) kx) := rfl
    rw [e] at hd
    rw [hd] at e2
    cases e2
    refine ⟨_, _, _, hd, hE2, ⟨fun f args h k r hx => ?_, fun l args h k r hx => round_sound hS hy hm hE hok hlp l args h k r hx⟩, loop_sound hS hy hm hE hok hlp⟩
    cases hc : orc f args h with
    | none => simp only [hc] at hx; exact func_sound hS hy hm hE hok hlp htab f args h k r hx
    | some c => simp only [hc] at hx; exact hoo f args h c k r hc hx

/-- THE LAW: an abstract run of a call tells what every real run of it does. -/
theorem run_law {P : Program} {cx : Cx} {σ : Nat → Int} {S : Sy} {orc : Orc} {tab : Tr IFn} (hS : SyOk σ P S) (hy : Hyp P cx) (hm : P.follows .mixedOrders = true) (hon : OrcNat orc) (hoo : OrcOk P cx σ orc) (htab : TabOk P cx tab) (n : Nat)
    {f : Nat} {args : List V} {h : H} {v : V} {h' : H} (hx : (env S orc tab n).callV (.fn f [] []) args h (fun v h => some (v, h)) = some (v, h')) {ι : Inj} {w : World} {xs : Array Value} (hr : Rel cx σ ι h w) (hv : VRL σ ι args xs.toList) :
    CallsIn Fence.wide 0 P f xs w (EndsAs cx σ ι h w v h') := by
  obtain ⟨call, round, loop, e, hE, hok, hlp⟩ := env_sound hS hy hm hon hoo htab n
  rw [e] at hx
  have hx : call f (app [] (app args [])) h (fun v h => some (v, h)) = some (v, h') := hx
  obtain ⟨v1, h1, e1, e2⟩ := hok.call _ _ _ _ _ hx
  simp only [Option.some.injEq, Prod.mk.injEq] at e1
  obtain ⟨rfl, rfl⟩ := e1
  exact (e2 ι w xs hr (by rw [app_eq, app_eq]; simpa using hv)).2
end Go.Ab

/- A byte laid into a word: 'b or x << 8 s'. Numbers alone. -/
namespace Go.Ab

def lin (b s y : Nat) : Nat := b ||| (y <<< (8 * s))

theorem tb_byte {y j : Nat} (hy : y < 256) (hj : 8 ≤ j) : y.testBit j = false := by
  apply Nat.testBit_lt_two_pow
  exact Nat.lt_of_lt_of_le hy (by calc 256 = 2 ^ 8 := rfl
    _ ≤ 2 ^ j := Nat.pow_le_pow_right (by decide) hj)

theorem shl_lt {s y : Nat} (hy : y < 256) (hs : s < 8) : y <<< (8 * s) < 2 ^ 64 := by
  rw [Nat.shiftLeft_eq]
  calc y * 2 ^ (8 * s) < 2 ^ 8 * 2 ^ (8 * s) := Nat.mul_lt_mul_of_pos_right hy (Nat.two_pow_pos _)
    _ = 2 ^ (8 + 8 * s) := (Nat.pow_add 2 8 (8 * s)).symm
    _ ≤ 2 ^ 64 := Nat.pow_le_pow_right (by decide) (by omega)

theorem lin_lt {b s y : Nat} (hb : b < 2 ^ 64) (hy : y < 256) (hs : s < 8) : lin b s y < 2 ^ 64 := Nat.or_lt_two_pow hb (shl_lt hy hs)

theorem lin_or (b s y m : Nat) : lin b s y ||| m = lin (b ||| m) s y := by
  unfold lin; apply Nat.eq_of_testBit_eq; intro i; simp only [Nat.testBit_or]
  cases b.testBit i <;> cases m.testBit i <;> cases (y <<< (8 * s)).testBit i <;> rfl

theorem byte_bit {M s r : Nat} (h : (M >>> (8 * s)) % 256 = r) {j : Nat} (hj : j < 8) : M.testBit (8 * s + j) = r.testBit j := by
  rw [← h, show (256 : Nat) = 2 ^ 8 from rfl, Nat.testBit_mod_two_pow, Nat.testBit_shiftRight]; simp [hj]

theorem lin_and0 {b s y M : Nat} (hy : y < 256) (h : (M >>> (8 * s)) % 256 = 0) : lin b s y &&& M = b &&& M := by
  unfold lin; apply Nat.eq_of_testBit_eq; intro i
  simp only [Nat.testBit_and, Nat.testBit_or, Nat.testBit_shiftLeft]
  by_cases hi : 8 * s ≤ i
  · by_cases h2 : i - 8 * s < 8
    · have := byte_bit h h2
      rw [show 8 * s + (i - 8 * s) = i by omega] at this
      rw [this]; simp
    · rw [tb_byte hy (by omega)]; simp
  · simp [hi]

theorem lin_and1 {b s y M : Nat} (hy : y < 256) (h : (M >>> (8 * s)) % 256 = 255) : lin b s y &&& M = lin (b &&& M) s y := by
  unfold lin; apply Nat.eq_of_testBit_eq; intro i
  simp only [Nat.testBit_and, Nat.testBit_or, Nat.testBit_shiftLeft]
  by_cases hi : 8 * s ≤ i
  · by_cases h2 : i - 8 * s < 8
    · have h3 := byte_bit h h2
      rw [show 8 * s + (i - 8 * s) = i by omega] at h3
      have h4 : Nat.testBit 255 (i - 8 * s) = true := by
        have : ∀ j : Fin 8, Nat.testBit 255 j = true := by decide
        exact this ⟨_, h2⟩
      rw [h3, h4]; simp
    · rw [tb_byte hy (by omega)]; simp
  · simp [hi]

theorem lin_shl {s y q : Nat} : lin 0 s y * 2 ^ (8 * q) = lin 0 (s + q) y := by
  unfold lin; rw [Nat.zero_or, Nat.zero_or, Nat.shiftLeft_eq, Nat.shiftLeft_eq, Nat.mul_assoc, ← Nat.pow_add]; congr 2; omega

theorem lin_shr {b s y q : Nat} (hq : q ≤ s) : lin b s y / 2 ^ (8 * q) = lin (b >>> (8 * q)) (s - q) y := by
  rw [← Nat.shiftRight_eq_div_pow]
  unfold lin; apply Nat.eq_of_testBit_eq; intro i
  simp only [Nat.testBit_or, Nat.testBit_shiftLeft, Nat.testBit_shiftRight]
  congr 1
  by_cases h : 8 * (s - q) ≤ i
  · rw [show 8 * q + i - 8 * s = i - 8 * (s - q) by omega]
    simp [h, show 8 * s ≤ 8 * q + i by omega]
  · simp [h, show ¬ 8 * s ≤ 8 * q + i by omega]

theorem lin_shr0 {b s y q : Nat} (hy : y < 256) (hq : s < q) : lin b s y / 2 ^ (8 * q) = b >>> (8 * q) := by
  rw [← Nat.shiftRight_eq_div_pow]
  unfold lin; apply Nat.eq_of_testBit_eq; intro i
  simp only [Nat.testBit_or, Nat.testBit_shiftLeft, Nat.testBit_shiftRight]
  rw [tb_byte hy (show 8 ≤ 8 * q + i - 8 * s by omega)]; simp

theorem lin_mod0 {b y : Nat} (hy : y < 256) (hb : b % 256 = 0) : lin b 0 y % 256 = y := by
  unfold lin; apply Nat.eq_of_testBit_eq; intro i
  rw [show (256 : Nat) = 2 ^ 8 from rfl, Nat.testBit_mod_two_pow, Nat.testBit_or]
  simp only [Nat.mul_zero, Nat.shiftLeft_zero]
  by_cases hi : i < 8
  · have : b.testBit i = false := by
      have h := congrArg (fun n => Nat.testBit n i) hb
      simp only [Nat.zero_testBit] at h
      rw [show (256 : Nat) = 2 ^ 8 from rfl, Nat.testBit_mod_two_pow] at h
      simpa [hi] using h
    simp [hi, this]
  · rw [tb_byte hy (by omega)]; simp [hi]

theorem lin_mods {b s y : Nat} (hs : 0 < s) : lin b s y % 256 = b % 256 := by
  unfold lin; apply Nat.eq_of_testBit_eq; intro i
  rw [show (256 : Nat) = 2 ^ 8 from rfl, Nat.testBit_mod_two_pow, Nat.testBit_mod_two_pow, Nat.testBit_or, Nat.testBit_shiftLeft]
  by_cases hi : i < 8
  · simp [hi, show ¬ 8 * s ≤ i by omega]
  · simp [hi]

theorem lin_inj {b s y z : Nat} (hy : y < 256) (hz : z < 256) (hb : (b >>> (8 * s)) % 256 = 0) (h : lin b s y = lin b s z) : y = z := by
  apply Nat.eq_of_testBit_eq; intro j
  by_cases hj : j < 8
  · have h1 := congrArg (fun n => Nat.testBit n (8 * s + j)) h
    simp only [lin, Nat.testBit_or, Nat.testBit_shiftLeft] at h1
    rw [byte_bit hb hj] at h1
    simpa using h1
  · rw [tb_byte hy (by omega), tb_byte hz (by omega)]

/-- a word, with the byte at a place laid anew -/
theorem lin_word {b s c : Nat} (M : Nat) (hM : (M >>> (8 * s)) % 256 = 0) (hM1 : ∀ j, c.testBit j = true → (j < 8 * s ∨ 8 * s + 8 ≤ j) → M.testBit j = true) (h : c &&& M = b) : lin b s ((c >>> (8 * s)) % 256) = c := by
  subst h
  unfold lin; apply Nat.eq_of_testBit_eq; intro i
  rw [Nat.testBit_or, Nat.testBit_and, Nat.testBit_shiftLeft, show (256 : Nat) = 2 ^ 8 from rfl, Nat.testBit_mod_two_pow, Nat.testBit_shiftRight]
  by_cases hi : 8 * s ≤ i
  · by_cases h2 : i - 8 * s < 8
    · have h3 := byte_bit hM h2
      rw [show 8 * s + (i - 8 * s) = i by omega] at h3 ⊢
      rw [h3]; simp [hi, h2]
    · simp [hi, h2]
      intro hc; exact hM1 i hc (by omega)
  · simp [hi]
    intro hc; exact hM1 i hc (by omega)
end Go.Ab
namespace Go.Ab
/-- a number got from another one: 'a * (y / d) + b' -/
def aff (a d b y : Nat) : Nat := a * (y / d) + b
theorem aff_mono {a d b y z : Nat} (h : y ≤ z) : aff a d b y ≤ aff a d b z := Nat.add_le_add_right (Nat.mul_le_mul_left _ (Nat.div_le_div_right h)) _
theorem aff_mul (a d b y c : Nat) : aff a d b y * c = aff (a * c) d (b * c) y := by unfold aff; rw [Nat.add_mul, Nat.mul_right_comm]
theorem aff_add (a d b y c : Nat) : aff a d b y + c = aff a d (b + c) y := by unfold aff; omega
theorem aff_div1 (d y c : Nat) : aff 1 d 0 y / c = aff 1 (d * c) 0 y := by unfold aff; rw [Nat.one_mul, Nat.one_mul, Nat.add_zero, Nat.add_zero, Nat.div_div_eq_div_mul]
theorem aff_div {a d b y c : Nat} (hc : 0 < c) (ha : a % c = 0) (hb : b % c = 0) : aff a d b y / c = aff (a / c) d (b / c) y := by
  unfold aff
  have h1 : a = c * (a / c) := by have := Nat.div_add_mod a c; omega
  have h2 : b = c * (b / c) := by have := Nat.div_add_mod b c; omega
  conv => lhs; rw [h1, h2, Nat.mul_assoc, ← Nat.mul_add, Nat.mul_div_cancel_left _ hc]
theorem aff_mod {a d b y c : Nat} (ha : a % c = 0) : aff a d b y % c = b % c := by
  unfold aff
  obtain ⟨q, rfl⟩ := Nat.dvd_of_mod_eq_zero ha
  rw [Nat.mul_assoc, Nat.mul_add_mod]
end Go.Ab

/- Arguments of plain data: ints, bools, structs and arrays of these: how they are read, what they are made of. -/
namespace Go.Ab
section
variable {H : Type} {enc : TypeId × Value → H} {P : Program}

/-- the kinds of a plain type's cells, one by one: none: a bool's -/
def kindFs (P : Program) (rec : TypeId → Option (List (Option IntKind))) : List Field → Nat → Option (List (Option IntKind))
  | [], _ => some []
  | f :: fs, off => if f.offset = off then match rec f.type with
      | some l => if P.cellsOf f.type = l.length then match kindFs P rec fs (off + l.length) with
          | some r => some (l ++ r)
          | none => none
        else none
      | none => none
    else none
def kindsT (P : Program) : Nat → TypeId → Option (List (Option IntKind))
  | 0, _ => none
  | d + 1, t => match P.underlying t with
    | some .bool => some [none]
    | some (.int k) => some [some k]
    | some (.struct fs) => match kindFs P (kindsT P d) fs.toList 0 with
      | some l => if P.cellsOf t = l.length then some l else none
      | none => none
    | some (.array n e) => match kindsT P d e with
      | some l => if P.cellsOf e = l.length ∧ P.cellsOf t = n * l.length then some (List.replicate n l).flatten else none
      | none => none
    | _ => none

def okCell : Option IntKind → Value → Prop
  | none, v => ∃ b, v = .bool b
  | some k, v => ∃ n, v = .int k n ∧ (Lit.int k n).wf = true
def Cl : List (Option IntKind) → List Value → Prop
  | [], cs => cs = []
  | k :: ks, cs => ∃ c cs', cs = c :: cs' ∧ okCell k c ∧ Cl ks cs'
theorem Cl.append : ∀ {a b : List (Option IntKind)} {x y : List Value}, Cl a x → Cl b y → Cl (a ++ b) (x ++ y)
  | [], b, x, y, h, h' => by rw [show x = [] from h]; exact h'
  | k :: a, b, x, y, ⟨c, cs, e, h1, h2⟩, h' => by subst e; exact ⟨c, cs ++ y, rfl, h1, Cl.append h2 h'⟩
theorem Cl.length : ∀ {a : List (Option IntKind)} {x : List Value}, Cl a x → x.length = a.length
  | [], x, h => by rw [show x = [] from h]; rfl
  | k :: a, x, ⟨c, cs, e, h1, h2⟩ => by subst e; simp [Cl.length h2]

theorem mapM_some {α β : Type} {g g' : α → Option β} {Q : β → Prop} : ∀ {l : List α} {xs : List β}, l.mapM g = some xs → (∀ f ∈ l, ∀ y, g f = some y → Q y ∧ g' f = some y) → l.mapM g' = some xs ∧ ∀ y ∈ xs, Q y
  | [], xs, h, _ => by simp at h; subst h; simp
  | a :: l, xs, h, hq => by
    rw [List.mapM_cons] at h ⊢
    cases h1 : g a with
    | none => simp [h1] at h
    | some y =>
      cases h2 : l.mapM g with
      | none => simp [h1, h2] at h
      | some ys =>
        simp [h1, h2] at h
        subst h
        obtain ⟨q1, q2⟩ := hq a (by simp) y h1
        obtain ⟨r1, r2⟩ := mapM_some (g' := g') h2 fun f hf => hq f (by simp [hf])
        exact ⟨by simp [q2, r1], fun z hz => by rcases List.mem_cons.1 hz with rfl | hz; exact q1; exact r2 z hz⟩

theorem flat_nil {α β : Type} {xs : List (α × List β)} (h : ∀ y ∈ xs, y.2 = []) : xs.flatMap (·.2) = [] := by
  rw [List.flatMap_eq_nil_iff]; exact h

def Fix (enc : TypeId × Value → H) (P : Program) (fuel : Nat) (t : TypeId) (cs : List Value) (x : DataW H × List MemPlace) : Prop :=
  x.2 = [] ∧ ∀ (w : World) (base : Nat) (sp : Nat → Bool) (held : Bool), DataW.trod enc P w base sp held fuel t cs = some x

theorem kindFs_mem {rec : TypeId → Option (List (Option IntKind))} : ∀ {fs : List Field} {off : Nat} {ks : List (Option IntKind)}, kindFs P rec fs off = some ks → ∀ f ∈ fs, ∃ l, rec f.type = some l
  | [], _, _, _, f, hf => by cases hf
  | g :: fs, off, ks, h, f, hf => by
    unfold kindFs at h
    split at h
    · cases h1 : rec g.type with
      | none => simp [h1] at h
      | some l =>
        simp only [h1] at h
        split at h
        · cases h2 : kindFs P rec fs (off + l.length) with
          | none => simp [h2] at h
          | some r =>
            rcases List.mem_cons.1 hf with rfl | hf
            · exact ⟨l, h1⟩
            · exact kindFs_mem h2 f hf
        · cases h
    · cases h

theorem mapM_each {α β : Type} {g : α → Option β} : ∀ {l : List α} {xs : List β}, l.mapM g = some xs → ∀ f ∈ l, ∃ y, g f = some y
  | [], _, _, f, hf => by cases hf
  | a :: l, xs, h, f, hf => by
    rw [List.mapM_cons] at h
    cases h1 : g a with
    | none => simp [h1] at h
    | some y =>
      cases h2 : l.mapM g with
      | none => simp [h1, h2] at h
      | some ys =>
        rcases List.mem_cons.1 hf with rfl | hf
        · exact ⟨y, h1⟩
        · exact mapM_each h2 f hf

theorem take_add (cs : List Value) (a b : Nat) (off : Nat) : (cs.drop off).take (a + b) = (cs.drop off).take a ++ (cs.drop (off + a)).take b := by
  rw [List.take_add, List.drop_drop]

theorem kindFs_cl {rec : TypeId → Option (List (Option IntKind))} {cs : List Value} : ∀ {fs : List Field} {off : Nat} {l : List (Option IntKind)}, kindFs P rec fs off = some l →
    (∀ f ∈ fs, ∀ lf, rec f.type = some lf → Cl lf ((cs.drop f.offset).take (P.cellsOf f.type))) → Cl l ((cs.drop off).take l.length)
  | [], off, l, h, _ => by simp [kindFs] at h; subst h; show _ = _; simp
  | g :: fs, off, l, h, hc => by
    unfold kindFs at h
    split at h
    · rename_i ho
      cases h1 : rec g.type with
      | none => simp [h1] at h
      | some lg =>
        simp only [h1] at h
        split at h
        · rename_i hsz
          cases h2 : kindFs P rec fs (off + lg.length) with
          | none => simp [h2] at h
          | some r =>
            simp only [h2, Option.some.injEq] at h
            subst h
            have e1 := hc g (by simp) lg h1
            rw [ho, hsz] at e1
            have e2 := kindFs_cl h2 fun f hf => hc f (by simp [hf])
            rw [List.length_append, take_add]
            exact e1.append e2
        · cases h
    · cases h

theorem array_cl {l : List (Option IntKind)} {cs : List Value} : ∀ (n i : Nat), (∀ j, i ≤ j → j < i + n → Cl l ((cs.drop (j * l.length)).take l.length)) → Cl (List.replicate n l).flatten ((cs.drop (i * l.length)).take (n * l.length))
  | 0, i, _ => by show _ = _; simp
  | n + 1, i, h => by
    rw [List.replicate_succ, List.flatten_cons, show (n + 1) * l.length = l.length + n * l.length by rw [Nat.add_mul]; omega, take_add]
    refine (h i (Nat.le_refl _) (by omega)).append ?_
    have := array_cl n (i + 1) fun j h1 h2 => h j (by omega) (by omega)
    rw [show (i + 1) * l.length = i * l.length + l.length by rw [Nat.add_mul]; omega] at this
    exact this

theorem trod_plain : ∀ (fuel d : Nat) (t : TypeId) (ks : List (Option IntKind)) (cs : List Value) (x : DataW H × List MemPlace) (w : World) (base : Nat) (sp : Nat → Bool) (held : Bool), kindsT P d t = some ks →
    DataW.trod enc P w base sp held fuel t cs = some x → Fix enc P fuel t cs x ∧ Cl ks cs := by
  intro fuel
  induction fuel with
  | zero => intro d t ks cs x w base sp held _ h; cases h
  | succ fuel ih =>
    intro d t ks cs x w base sp held hk h
    cases d with
    | zero => cases hk
    | succ d =>
      unfold kindsT at hk
      cases hu : P.underlying t with
      | none => simp [hu] at hk
      | some u =>
        cases u with
        | bool =>
          simp [hu] at hk; subst hk
          unfold DataW.trod at h
          simp only [hu] at h
          split at h <;> rename_i heq <;> simp_all
          subst h
          exact ⟨⟨rfl, fun w base sp held => by simp [DataW.trod, hu]⟩, ⟨_, [], rfl, ⟨_, rfl⟩, rfl⟩⟩
        | int k =>
          simp [hu] at hk; subst hk
          unfold DataW.trod at h
          simp only [hu] at h
          split at h <;> rename_i heq <;> simp_all
          obtain ⟨⟨rfl, hw⟩, rfl⟩ := h
          exact ⟨⟨rfl, fun w base sp held => by simp [DataW.trod, hu, hw]⟩, ⟨_, [], rfl, ⟨_, rfl, hw⟩, rfl⟩⟩
        | struct fs =>
          simp only [hu] at hk
          cases hf : kindFs P (kindsT P d) fs.toList 0 with
          | none => simp [hf] at hk
          | some l =>
            simp only [hf] at hk
            split at hk
            · rename_i hsz
              cases hk
              unfold DataW.trod at h
              simp only [hu] at h
              split at h
              · rename_i hlen
                cases hm : (fs.toList.mapM fun f => DataW.trod enc P w base sp held fuel f.type ((cs.drop f.offset).take (P.cellsOf f.type))) with
                | none => simp [hm] at h
                | some xs =>
                  simp only [hm, Option.map_some, Option.some.injEq] at h
                  subst h
                  have each := fun f hf' => mapM_each hm f hf'
                  have sub : ∀ f ∈ fs.toList, ∀ y, DataW.trod enc P w base sp held fuel f.type ((cs.drop f.offset).take (P.cellsOf f.type)) = some y → Fix enc P fuel f.type ((cs.drop f.offset).take (P.cellsOf f.type)) y := fun f hf' y hy => by
                    obtain ⟨lf, hlf⟩ := kindFs_mem hf f hf'
                    exact (ih d f.type lf _ y w base sp held hlf hy).1
                  refine ⟨⟨flat_nil (mapM_some (g' := fun f => DataW.trod enc P w base sp held fuel f.type ((cs.drop f.offset).take (P.cellsOf f.type))) hm fun f hf' y hy => ⟨(sub f hf' y hy).1, hy⟩).2, fun w' base' sp' held' => ?_⟩, ?_⟩
                  · have := (mapM_some (Q := fun y => y.2 = []) (g' := fun f => DataW.trod enc P w' base' sp' held' fuel f.type ((cs.drop f.offset).take (P.cellsOf f.type))) hm fun f hf' y hy => ⟨(sub f hf' y hy).1, (sub f hf' y hy).2 w' base' sp' held'⟩).1
                    unfold DataW.trod
                    simp only [hu, hlen, if_true, this, Option.map_some]
                  · have := kindFs_cl hf fun f hf' lf hlf => by
                      obtain ⟨y, hy⟩ := each f hf'
                      exact (ih d f.type lf _ y w base sp held hlf hy).2
                    rw [List.drop_zero, List.take_of_length_le (by omega)] at this
                    exact this
              · cases h
            · cases hk
        | array n e =>
          simp only [hu] at hk
          cases hf : kindsT P d e with
          | none => simp [hf] at hk
          | some l =>
            simp only [hf] at hk
            split at hk
            · rename_i hsz
              obtain ⟨hs1, hs2⟩ := hsz
              cases hk
              unfold DataW.trod at h
              simp only [hu] at h
              split at h
              · rename_i hlen
                cases hm : ((List.range n).mapM fun i => DataW.trod enc P w base sp held fuel e ((cs.drop (i * P.cellsOf e)).take (P.cellsOf e))) with
                | none => simp [hm] at h
                | some xs =>
                  simp only [hm, Option.map_some, Option.some.injEq] at h
                  subst h
                  have each := fun f hf' => mapM_each hm f hf'
                  have sub : ∀ i ∈ List.range n, ∀ y, DataW.trod enc P w base sp held fuel e ((cs.drop (i * P.cellsOf e)).take (P.cellsOf e)) = some y → Fix enc P fuel e ((cs.drop (i * P.cellsOf e)).take (P.cellsOf e)) y := fun i hi y hy =>
                    (ih d e l _ y w base sp held hf hy).1
                  refine ⟨⟨flat_nil (mapM_some (g' := fun i => DataW.trod enc P w base sp held fuel e ((cs.drop (i * P.cellsOf e)).take (P.cellsOf e))) hm fun f hf' y hy => ⟨(sub f hf' y hy).1, hy⟩).2, fun w' base' sp' held' => ?_⟩, ?_⟩
                  · have := (mapM_some (Q := fun y => y.2 = []) (g' := fun i => DataW.trod enc P w' base' sp' held' fuel e ((cs.drop (i * P.cellsOf e)).take (P.cellsOf e))) hm fun f hf' y hy => ⟨(sub f hf' y hy).1, (sub f hf' y hy).2 w' base' sp' held'⟩).1
                    unfold DataW.trod
                    simp only [hu, hlen, if_true, this, Option.map_some]
                  · have := array_cl (l := l) (cs := cs) n 0 fun j _ hj => by
                      obtain ⟨y, hy⟩ := each j (by simpa using hj)
                      have := (ih d e l _ y w base sp held hf hy).2
                      rw [hs1] at this; exact this
                    rw [Nat.zero_mul, List.drop_zero, List.take_of_length_le (by omega)] at this
                    exact this
              · cases h
            · cases hk
        | _ => simp [hu] at hk

/-- an argument of plain data -/
theorem arg_plain {d : Nat} {t : TypeId} {ks : List (Option IntKind)} (hk : kindsT P d t = some ks) {w : World} {base : Nat} {sp : Nat → Bool} {held : Bool} {v : Value} {x : DataW H} {ps : List MemPlace}
    (h : DataW.Trod enc P w base sp held t v x ps) : ps = [] ∧ Cl ks v.cells.toList ∧ ∀ (w : World) (base : Nat) (sp : Nat → Bool) (held : Bool), DataW.Trod enc P w base sp held t v x [] := by
  obtain ⟨fuel, h⟩ := h
  obtain ⟨⟨h1, h2⟩, h3⟩ := trod_plain fuel d t ks _ _ w base sp held hk h
  simp only at h1
  subst h1
  exact ⟨rfl, h3, fun w base sp held => ⟨fuel, h2 w base sp held⟩⟩

/-- blocks come alone -/
theorem kept_of {w w' : World} (ho : w'.os = w.os) (hp : w'.output = w.output) (hk : ∀ (B : Nat) (o : Obj), w.heap[B]? = some o → w'.heap[B]? = some o) (may : MemPlace → Prop) : w.keptBut w' may := by
  refine ⟨ho, hp, fun i hi => ?_⟩
  have h1 : w.heap[i]? = some w.heap[i] := Array.getElem?_eq_getElem hi
  rw [h1, hk i _ h1]
  cases w.heap[i] <;> simp
end
end Go.Ab

/- Symbols whose values lie in given ranges; cases by a tree; a law over plain data. -/
namespace Go.Ab

/-- what is known of a symbol -/
structure Dm where
  lo : Int
  hi : Int
  ne : List Int
  md : List (Int × Int)
def Dm.has (d : Dm) (n : Int) : Prop := d.lo ≤ n ∧ n ≤ d.hi ∧ (∀ c ∈ d.ne, n ≠ c) ∧ ∀ p ∈ d.md, n.tmod p.1 = p.2

noncomputable def dget (l : List Dm) : Nat → Option Dm :=
  List.rec (motive := fun _ => Nat → Option Dm) (fun _ => none) (fun d _ ih n => Nat.rec (motive := fun _ => Option Dm) (some d) (fun m _ => ih m) n) l
theorem dget_eq (l : List Dm) (n : Nat) : dget l n = l[n]? := by
  induction l generalizing n with
  | nil => simp; rfl
  | cons d l ih => cases n with
    | zero => rfl
    | succ n => show dget l n = _; rw [ih]; simp
noncomputable def memI (c : Int) (l : List Int) : Bool := List.rec (motive := fun _ => Bool) false (fun d _ ih => Bool.rec (motive := fun _ => Bool) ih true (ieq c d)) l
theorem memI_iff {c : Int} {l : List Int} (h : memI c l = true) : c ∈ l := by
  induction l with
  | nil => cases h
  | cons d l ih =>
    have h : Bool.rec (motive := fun _ => Bool) (memI c l) true (ieq c d) = true := h
    cases hb : ieq c d with
    | true => rw [ieq_eq] at hb; simp at hb; simp [hb]
    | false => rw [hb] at h; exact List.mem_cons_of_mem _ (ih h)

noncomputable def cmpD (op : BinOp) (d : Dm) (c : Int) : Option Bool := match op with
  | .eql => if ilt c d.lo || ilt d.hi c || memI c d.ne then some false else none
  | .neq => if ilt c d.lo || ilt d.hi c || memI c d.ne then some true else none
  | .lss => if ilt d.hi c then some true else if !ilt d.lo c then some false else none
  | .leq => if !ilt c d.hi then some true else if ilt c d.lo then some false else none
  | .gtr => if ilt c d.lo then some true else if !ilt c d.hi then some false else none
  | .geq => if !ilt d.lo c then some true else if ilt d.hi c then some false else none
  | _ => none
def isCmp (op : BinOp) : Bool := match op with | .eql | .neq | .lss | .leq | .gtr | .geq => true | _ => false
def cmpZ (op : BinOp) (a b : Int) : Bool := match op with
  | .eql => a == b | .neq => a != b | .lss => decide (a < b) | .leq => decide (a ≤ b) | .gtr => decide (a > b) | .geq => decide (a ≥ b) | _ => false
def flipOp (op : BinOp) : BinOp := match op with | .lss => .gtr | .gtr => .lss | .leq => .geq | .geq => .leq | op => op
theorem cmpD_spec {op : BinOp} {d : Dm} {n c : Int} (h : d.has n) {b : Bool} (e : cmpD op d c = some b) : isCmp op = true ∧ cmpZ op n c = b := by
  obtain ⟨h1, h2, h3, _⟩ := h
  have hne : memI c d.ne = true → n ≠ c := fun h => h3 c (memI_iff h)
  cases op <;> simp only [cmpD, ilt_eq] at e <;> (try cases e) <;> refine ⟨rfl, ?_⟩
  · split at e
    · rename_i hc
      cases e
      simp only [Bool.or_eq_true, decide_eq_true_eq] at hc
      simp only [cmpZ, beq_eq_false_iff_ne]
      rcases hc with (hc | hc) | hc
      · omega
      · omega
      · exact hne hc
    · cases e
  · split at e
    · rename_i hc
      cases e
      simp only [Bool.or_eq_true, decide_eq_true_eq] at hc
      simp only [cmpZ, bne_iff_ne]
      rcases hc with (hc | hc) | hc
      · omega
      · omega
      · exact hne hc
    · cases e
  all_goals
    split at e
    · rename_i hc
      cases e
      simp at hc
      simp [cmpZ]; omega
    · split at e
      · rename_i hc
        cases e
        simp at hc
        simp [cmpZ]; omega
      · cases e
theorem flip_spec {op : BinOp} {a b : Int} (h : isCmp op = true) : isCmp (flipOp op) = true ∧ cmpZ (flipOp op) b a = cmpZ op a b := by
  cases op <;> simp [isCmp, flipOp] at h ⊢
  · show (b == a) = (a == b); rw [Bool.eq_iff_iff, beq_iff_eq, beq_iff_eq]; exact ⟨Eq.symm, Eq.symm⟩
  · show (b != a) = (a != b); rw [Bool.eq_iff_iff, bne_iff_ne, bne_iff_ne]; exact ⟨Ne.symm, Ne.symm⟩
  all_goals rfl
theorem isCmp_flip {op : BinOp} (h : isCmp (flipOp op) = true) : isCmp op = true := by cases op <;> simp [isCmp, flipOp] at h ⊢
theorem run_cmp {op : BinOp} (h : isCmp op = true) {k : IntKind} {a b : Int} {P : Program} (t : TypeId) (w : World) : (binOp op t (.int k a) (.int k b)).run P w = .ok (.bool (cmpZ op a b)) w := by
  cases op <;> simp [isCmp] at h <;> simp [binOp, cmpZ, Op.intCmp]

/-- derived symbols: quotients and remainders by constants -/
noncomputable def findD (q : Bool) (c : Int) (l : List (Bool × Int)) : Option Nat :=
  List.rec (motive := fun _ => Option Nat) none (fun d _ ih => Bool.rec (motive := fun _ => Option Nat) (Option.rec (motive := fun _ => Option Nat) none (fun n => some (Nat.succ n)) ih) (some 0) (andB (beqB d.1 q) (ieq d.2 c))) l
theorem findD_spec {q : Bool} {c : Int} {l : List (Bool × Int)} {n : Nat} (h : findD q c l = some n) : l[n]? = some (q, c) := by
  induction l generalizing n with
  | nil => cases h
  | cons d l ih =>
    have h : Bool.rec (motive := fun _ => Option Nat) (Option.rec (motive := fun _ => Option Nat) none (fun n => some (Nat.succ n)) (findD q c l)) (some 0) (andB (beqB d.1 q) (ieq d.2 c)) = some n := h
    cases hb : andB (beqB d.1 q) (ieq d.2 c) with
    | true =>
      rw [hb] at h
      cases h
      obtain ⟨h1, h2⟩ := andB_iff.1 hb
      rw [beqB_eq] at h1; rw [ieq_eq] at h2
      simp at h1 h2
      obtain ⟨d1, d2⟩ := d
      simp at h1 h2
      simp [h1, h2]
    | false =>
      rw [hb] at h
      cases hf : findD q c l with
      | none => rw [hf] at h; cases h
      | some m => rw [hf] at h; cases h; simpa using ih hf
abbrev affBase : Nat := 10000000000000000000000000000000000000000
noncomputable def affCode (a d b i : Nat) : Nat := affBase + (i + 1000 * (d + 18446744073709551616 * (a + 18446744073709551616 * b)))
/-- a word that holds a symbol's byte: which word, at which place, of which symbol -/
def linCode (b s i : Nat) : Nat := 1000000 + (b * 8000 + s * 1000 + i)
def sigma (xs : Nat → Int) (D : List (Bool × Int)) (n : Nat) : Int := if n < 1000000 then (match n / 1000 with
  | 0 => xs n
  | j + 1 => match D[j]? with
    | some (false, c) => IntKind.i64.wrap ((xs (n % 1000)).tdiv c)
    | some (true, c) => (xs (n % 1000)).tmod c
    | none => 0) else if n < affBase then Int.ofNat (lin ((n - 1000000) / 8000) ((n - 1000000) / 1000 % 8) (xs ((n - 1000000) % 1000)).toNat)
  else Int.ofNat (aff ((n - affBase) / (1000 * 2 ^ 64) % 2 ^ 64) ((n - affBase) / 1000 % 2 ^ 64) ((n - affBase) / (1000 * 2 ^ 64) / 2 ^ 64) (xs ((n - affBase) % 1000)).toNat)
theorem sigma_low (xs : Nat → Int) (D : List (Bool × Int)) {n : Nat} (h : n < 1000) : sigma xs D n = xs n := by
  unfold sigma; rw [if_pos (by omega), Nat.div_eq_of_lt h]
theorem sigma_d (xs : Nat → Int) (D : List (Bool × Int)) {i j : Nat} (h : i < 1000) (hj : j < 999) : sigma xs D (1000 * (j + 1) + i) = match D[j]? with
    | some (false, c) => IntKind.i64.wrap ((xs i).tdiv c)
    | some (true, c) => (xs i).tmod c
    | none => 0 := by
  unfold sigma
  rw [if_pos (by omega), show (1000 * (j + 1) + i) / 1000 = j + 1 by omega, show (1000 * (j + 1) + i) % 1000 = i by omega]
theorem sigma_lin (xs : Nat → Int) (D : List (Bool × Int)) {b s i : Nat} (hb : b < 18446744073709551616) (hs : s < 8) (hi : i < 1000) : sigma xs D (linCode b s i) = Int.ofNat (lin b s (xs i).toNat) := by
  unfold sigma linCode
  rw [if_neg (by omega), if_pos (by unfold affBase; omega), Nat.add_sub_cancel_left, show (b * 8000 + s * 1000 + i) / 8000 = b by omega, show (b * 8000 + s * 1000 + i) / 1000 % 8 = s by omega, show (b * 8000 + s * 1000 + i) % 1000 = i by omega]

theorem sigma_aff (xs : Nat → Int) (D : List (Bool × Int)) {a d b i : Nat} (ha : a < 18446744073709551616) (hd : d < 18446744073709551616) (hi : i < 1000) : sigma xs D (affCode a d b i) = Int.ofNat (aff a d b (xs i).toNat) := by
  unfold sigma affCode
  rw [if_neg (by unfold affBase; omega), if_neg (by unfold affBase; omega), Nat.add_sub_cancel_left]
  have e1 : (i + 1000 * (d + 18446744073709551616 * (a + 18446744073709551616 * b))) / (1000 * 2 ^ 64) = a + 18446744073709551616 * b := by omega
  have e2 : (i + 1000 * (d + 18446744073709551616 * (a + 18446744073709551616 * b))) / 1000 % 2 ^ 64 = d := by omega
  have e3 : (i + 1000 * (d + 18446744073709551616 * (a + 18446744073709551616 * b))) % 1000 = i := by omega
  rw [e1, e2, e3, show (a + 18446744073709551616 * b) % 2 ^ 64 = a by omega, show (a + 18446744073709551616 * b) / 2 ^ 64 = b by omega]

noncomputable def isI64 (k : IntKind) : Bool := kbeq k .i64
noncomputable def drv (D : List (Bool × Int)) (q : Bool) (j k : IntKind) (i : Nat) (c : Int) : Option V :=
  if isI64 j && isI64 k && ltb i 1000 && !ieq c 0 then (match findD q c D with | some n => if ltb n 999 then some (.sym .i64 (1000 * (n + 1) + i)) else none | none => none) else none
/-- a remainder that is known -/
noncomputable def mdget (c : Int) (l : List (Int × Int)) : Option Int :=
  List.rec (motive := fun _ => Option Int) none (fun d _ ih => Bool.rec (motive := fun _ => Option Int) ih (some d.2) (ieq c d.1)) l
theorem mdget_mem {c r : Int} {l : List (Int × Int)} (h : mdget c l = some r) : (c, r) ∈ l := by
  induction l with
  | nil => cases h
  | cons d l ih =>
    have h : Bool.rec (motive := fun _ => Option Int) (mdget c l) (some d.2) (ieq c d.1) = some r := h
    cases hb : ieq c d.1 with
    | true =>
      rw [hb] at h
      cases h
      rw [ieq_eq] at hb
      simp at hb
      rw [hb]
      exact List.mem_cons_self
    | false => rw [hb] at h; exact List.mem_cons_of_mem _ (ih h)
noncomputable def modOf (B : List Dm) (i : Nat) (c : Int) : Option Int := match dget B i with | some d => mdget c d.md | none => none
/-- a remainder that is a symbol of its own: entries of D from 2^80 on tell of which symbol, by what, and which symbol it is -/
def isE (e : Bool × Int) : Option (Nat × Nat × Nat) := match e with
  | (true, .ofNat m) => if 1208925819614629174706176 ≤ m then some ((m - 1208925819614629174706176) % 18446744073709551616, (m - 1208925819614629174706176) / 18446744073709551616 % 1000, (m - 1208925819614629174706176) / 18446744073709551616 / 1000) else none
  | _ => none
noncomputable def findE (c i : Nat) (D : List (Bool × Int)) : Option Nat :=
  List.rec (motive := fun _ => Option Nat) none (fun e _ ih => match isE e with
    | some (c', i', j) => Bool.rec (motive := fun _ => Option Nat) ih (some j) (andB (Nat.beq c c') (Nat.beq i i'))
    | none => ih) D
theorem findE_spec {c i j : Nat} {D : List (Bool × Int)} (h : findE c i D = some j) : ∃ e ∈ D, isE e = some (c, i, j) := by
  induction D with
  | nil => cases h
  | cons e D ih =>
    have h : (match isE e with
      | some (c', i', j) => Bool.rec (motive := fun _ => Option Nat) (findE c i D) (some j) (andB (Nat.beq c c') (Nat.beq i i'))
      | none => findE c i D) = some j := h
    split at h
    · rename_i c' i' j' he
      cases hb : andB (Nat.beq c c') (Nat.beq i i') with
      | true =>
        rw [hb] at h
        obtain ⟨h1, h2⟩ := andB_iff.1 hb
        rw [Nat.beq_eq] at h1 h2
        subst h1 h2
        cases h
        exact ⟨e, List.mem_cons_self, he⟩
      | false => rw [hb] at h; obtain ⟨e', h1, h2⟩ := ih h; exact ⟨e', List.mem_cons_of_mem _ h1, h2⟩
    · obtain ⟨e', h1, h2⟩ := ih h; exact ⟨e', List.mem_cons_of_mem _ h1, h2⟩
def EOk (xs : Nat → Int) (D : List (Bool × Int)) : Prop := ∀ e ∈ D, ∀ c i j, isE e = some (c, i, j) → 0 < c ∧ j < 1000 ∧ xs j = (xs i).tmod c
noncomputable def remE (D : List (Bool × Int)) (j k : IntKind) (i : Nat) (c : Int) : Option V := match c with
  | .ofNat m => if kbeq j k && ltb i 1000 then (match findE m i D with | some jj => some (.sym j jj) | none => drv D true j k i c) else drv D true j k i c
  | .negSucc _ => drv D true j k i c
noncomputable def remS (B : List Dm) (D : List (Bool × Int)) (j k : IntKind) (i : Nat) (c : Int) : Option V := match modOf B i c with
  | some r => if kbeq j k && ltb i 1000 && !ieq c 0 then some (.int j r) else none
  | none => remE D j k i c
noncomputable def cmpS (B : List Dm) (op : BinOp) (i : Nat) (c : Int) : Option V := if ltb i 1000 then (match dget B i with | some d => (match cmpD op d c with | some b => some (.bool b) | none => none) | none => none) else none
noncomputable def symS (op : BinOp) : Option V := match op with | .eql | .leq | .geq => some (.bool true) | .neq | .lss | .gtr => some (.bool false) | _ => none
noncomputable def binB (B : List Dm) (D : List (Bool × Int)) (op : BinOp) (x y : V) : Option V := match x, y with
  | .sym j i, .int k c => match op with
    | .quo => drv D false j k i c
    | .rem => remS B D j k i c
    | op => if kbeq j k then cmpS B op i c else none
  | .int k c, .sym j i => if kbeq j k then cmpS B (flipOp op) i c else none
  | .sym j i, .sym k l => if kbeq j k && Nat.beq i l then symS op else none
  | _, _ => none
noncomputable def convB (B : List Dm) (k : IntKind) (x : V) : Option V := match x with
  | .sym j i => if isI64 k && ltb i 1000 then (match dget B i with
    | some d => if !ilt d.lo (-9223372036854775808) && ilt d.hi 9223372036854775808 then some (.sym .i64 i) else none
    | none => none) else none
  | _ => none
/-! bytes of symbols laid into words -/
noncomputable def byteD (B : List Dm) (i : Nat) : Bool := match dget B i with | some d => !ilt d.lo 0 && ilt d.hi 256 | none => false
noncomputable def linOf (B : List Dm) (n : Nat) (k : Nat → Nat → Nat → Option V) : Option V :=
  if ltb n 1000 then (if byteD B n then k 0 0 n else none) else
  if ltb n 1000000 then none else
  if byteD B (Nat.mod (Nat.sub n 1000000) 1000) && ltb (Nat.div (Nat.sub n 1000000) 8000) 18446744073709551616 then
    k (Nat.div (Nat.sub n 1000000) 8000) (Nat.mod (Nat.div (Nat.sub n 1000000) 1000) 8) (Nat.mod (Nat.sub n 1000000) 1000) else none
noncomputable def mkLin (b s i : Nat) : V := if Nat.beq b 0 && Nat.beq s 0 then .sym .u64 i else .sym .u64 (linCode b s i)
noncomputable def byteAt (m s : Nat) : Nat := Nat.mod (Nat.shiftRight m (Nat.mul 8 s)) 256
noncomputable def andL (b s i m : Nat) : Option V :=
  if Nat.beq (byteAt m s) 0 then some (.int .u64 (.ofNat (Nat.land b m))) else if Nat.beq (byteAt m s) 255 then some (mkLin (Nat.land b m) s i) else none
noncomputable def eqN (B : List Dm) (b s i m : Nat) : Option Bool :=
  if Nat.beq (byteAt b s) 0 && ltb m 18446744073709551616 then
    (if bnot (Nat.beq (Nat.land m (Nat.sub 18446744073709551615 (Nat.shiftLeft 255 (Nat.mul 8 s)))) b) then some false else
      match dget B i with | some d => cmpD .eql d (.ofNat (byteAt m s)) | none => none) else none
noncomputable def binLN (B : List Dm) (op : BinOp) (b s i : Nat) (k : IntKind) (m : Nat) : Option V := match op with
  | .or => if kbeq k .u64 && ltb m 18446744073709551616 then some (mkLin (Nat.lor b m) s i) else none
  | .and => if kbeq k .u64 && ltb m 18446744073709551616 then andL b s i m else none
  | .andNot => if kbeq k .u64 && ltb m 18446744073709551616 then andL b s i (Nat.sub 18446744073709551615 m) else none
  | .shl => if Nat.beq b 0 && Nat.beq (Nat.mod m 8) 0 && ltb (Nat.add s (Nat.div m 8)) 8 then some (mkLin 0 (Nat.add s (Nat.div m 8)) i) else none
  | .shr => if Nat.beq (Nat.mod m 8) 0 && Nat.ble m 64 then
      (if Nat.ble (Nat.div m 8) s then some (mkLin (Nat.shiftRight b m) (Nat.sub s (Nat.div m 8)) i) else some (.int .u64 (.ofNat (Nat.shiftRight b m)))) else none
  | .eql => if kbeq k .u64 then (match eqN B b s i m with | some r => some (.bool r) | none => none) else none
  | .neq => if kbeq k .u64 then (match eqN B b s i m with | some r => some (.bool (bnot r)) | none => none) else none
  | _ => none
noncomputable def binL (B : List Dm) (op : BinOp) (x y : V) : Option V := match x, y with
  | .sym j n, .int k c => if kbeq j .u64 then (match c with
    | .ofNat m => linOf B n fun b s i => binLN B op b s i k m
    | .negSucc _ => none) else none
  | .int j c, .sym k n => if kbeq k .u64 && kbeq j .u64 then (match c with
    | .ofNat m => (match op with | .or => linOf B n fun b s i => binLN B .or b s i .u64 m | _ => none)
    | .negSucc _ => none) else none
  | _, _ => none
/-! numbers got from a symbol by dividing, multiplying, adding -/
noncomputable def affOf (B : List Dm) (n : Nat) (k : Nat → Nat → Nat → Nat → Nat → Nat → Option V) : Option V :=
  if ltb n 1000 then (match dget B n with | some d => (match d.lo, d.hi with | .ofNat lo, .ofNat hi => k 1 1 0 n lo hi | _, _ => none) | none => none) else
  if ltb n affBase then none else
  match dget B (Nat.mod (Nat.sub n affBase) 1000) with
  | some d => (match d.lo, d.hi with
    | .ofNat lo, .ofNat hi => k (Nat.mod (Nat.div (Nat.sub n affBase) 18446744073709551616000) 18446744073709551616) (Nat.mod (Nat.div (Nat.sub n affBase) 1000) 18446744073709551616)
        (Nat.div (Nat.div (Nat.sub n affBase) 18446744073709551616000) 18446744073709551616) (Nat.mod (Nat.sub n affBase) 1000) lo hi
    | _, _ => none)
  | none => none
noncomputable def affN (a d b y : Nat) : Nat := Nat.add (Nat.mul a (Nat.div y d)) b
noncomputable def mkAff (a d b i lo hi : Nat) : Option V :=
  if ltb (affN a d b hi) 4611686018427387904 then
    (if Nat.beq (affN a d b lo) (affN a d b hi) then some (.int .i64 (.ofNat (affN a d b lo))) else
     if ltb a 18446744073709551616 && ltb d 18446744073709551616 then some (.sym .i64 (affCode a d b i)) else none) else none
noncomputable def binAN (op : BinOp) (a d b i lo hi m : Nat) : Option V := match op with
  | .mul => mkAff (Nat.mul a m) d (Nat.mul b m) i lo hi
  | .add => mkAff a d (Nat.add b m) i lo hi
  | .quo => if ltb 0 m then (if Nat.beq a 1 && Nat.beq b 0 then mkAff 1 (Nat.mul d m) 0 i lo hi else if Nat.beq (Nat.mod a m) 0 && Nat.beq (Nat.mod b m) 0 then mkAff (Nat.div a m) d (Nat.div b m) i lo hi else none) else none
  | .rem => if ltb 0 m && Nat.beq (Nat.mod a m) 0 then some (.int .i64 (.ofNat (Nat.mod b m))) else none
  | op => match cmpD op ⟨.ofNat (affN a d b lo), .ofNat (affN a d b hi), [], []⟩ (.ofNat m) with | some r => some (.bool r) | none => none
/-- a number at hand left of one got from a symbol: comparisons -/
noncomputable def binAF (op : BinOp) (a d b lo hi m : Nat) : Option V := match cmpD (flipOp op) ⟨.ofNat (affN a d b lo), .ofNat (affN a d b hi), [], []⟩ (.ofNat m) with | some r => some (.bool r) | none => none
noncomputable def binA (B : List Dm) (op : BinOp) (x y : V) : Option V := match x, y with
  | .int k c, .sym j n => if kbeq j .i64 && kbeq k .i64 then (match c with
    | .ofNat m => affOf B n fun a d b _ lo hi => binAF op a d b lo hi m
    | .negSucc _ => none) else none
  | .sym j n, .int k c => if kbeq j .i64 && kbeq k .i64 then (match c with
    | .ofNat m => affOf B n fun a d b i lo hi => binAN op a d b i lo hi m
    | .negSucc _ => none) else none
  | _, _ => none
noncomputable def binC (B : List Dm) (D : List (Bool × Int)) (op : BinOp) (x y : V) : Option V := match binB B D op x y with | some v => some v | none => match binL B op x y with | some v => some v | none => binA B op x y
noncomputable def convL (B : List Dm) (k : IntKind) (x : V) : Option V := match x with
  | .sym j n =>
    if ltb n 1000 then (if byteD B n && (kbeq k .u8 || kbeq k .u64 || kbeq k .i64) then some (.sym k n) else none) else
    if kbeq j .u64 && kbeq k .u8 then linOf B n fun b s i => if Nat.beq s 0 then (if Nat.beq (Nat.mod b 256) 0 then some (.sym .u8 i) else none) else some (.int .u8 (.ofNat (Nat.mod b 256))) else none
  | _ => none
noncomputable def convC (B : List Dm) (k : IntKind) (x : V) : Option V := match convB B k x with | some v => some v | none => convL B k x
noncomputable def SyB (B : List Dm) (D : List (Bool × Int)) : Sy := ⟨binC B D, convC B⟩

/-- the symbols lie as told -/
def Lies (xs : Nat → Int) (B : List Dm) : Prop := ∀ (i : Nat) (d : Dm), B[i]? = some d → d.has (xs i)

theorem cmpS_spec {xs : Nat → Int} {D : List (Bool × Int)} {B : List Dm} (h : Lies xs B) {op : BinOp} {i : Nat} {c : Int} {v : V} (e : cmpS B op i c = some v) : isCmp op = true ∧ v = .bool (cmpZ op (sigma xs D i) c) := by
  unfold cmpS at e
  split at e
  · rename_i hi
    rw [ltb_iff] at hi
    cases hd : dget B i with
    | none => rw [hd] at e; cases e
    | some d =>
      rw [hd] at e
      simp only at e
      cases hc : cmpD op d c with
      | none => rw [hc] at e; cases e
      | some b =>
        rw [hc] at e
        rw [dget_eq] at hd
        obtain ⟨h1, h2⟩ := cmpD_spec (h i d hd) hc
        rw [sigma_low xs D hi]
        simp at e
        exact ⟨h1, by rw [← e, h2]⟩
  · cases e

theorem drv_spec {xs : Nat → Int} {D : List (Bool × Int)} {P : Program} {q : Bool} {j k : IntKind} {i : Nat} {c : Int} {v : V} (e : drv D q j k i c = some v) (ι : Inj) (t : TypeId) (w : World) :
    ∃ x, (binOp (if q then .rem else .quo) t (.int j (sigma xs D i)) (.int k c)).run P w = .ok x w ∧ ∀ ι, VR (sigma xs D) ι v x := by
  unfold drv at e
  split at e
  · rename_i hc
    simp only [Bool.and_eq_true, Bool.not_eq_true', isI64, kbeq_iff, ltb_iff, ieq_eq, beq_eq_false_iff_ne] at hc
    obtain ⟨⟨⟨rfl, rfl⟩, hi⟩, hz⟩ := hc
    cases hf : findD q c D with
    | none => rw [hf] at e; cases e
    | some n =>
      rw [hf] at e
      simp only at e
      split at e
      rotate_left
      · cases e
      rename_i hn
      rw [ltb_iff] at hn
      simp at e
      subst e
      have hD := findD_spec hf
      rw [sigma_low xs D hi]
      cases q with
      | false =>
        refine ⟨.int .i64 (IntKind.i64.wrap ((xs i).tdiv c)), by simp [binOp, Op.intDiv, hz], fun ι => ?_⟩
        show _ = Value.int .i64 (sigma xs D (1000 * (n + 1) + i))
        rw [sigma_d xs D hi hn, hD]
      | true =>
        refine ⟨.int .i64 ((xs i).tmod c), by simp [binOp, Op.intDiv, hz], fun ι => ?_⟩
        show _ = Value.int .i64 (sigma xs D (1000 * (n + 1) + i))
        rw [sigma_d xs D hi hn, hD]
  · cases e

theorem remE_spec {xs : Nat → Int} {D : List (Bool × Int)} (hE : EOk xs D) {P : Program} {j k : IntKind} {i : Nat} {c : Int} {v : V} (e : remE D j k i c = some v) (ι : Inj) (t : TypeId) (w : World) :
    ∃ x, (binOp .rem t (.int j (sigma xs D i)) (.int k c)).run P w = .ok x w ∧ ∀ ι, VR (sigma xs D) ι v x := by
  unfold remE at e
  split at e
  · rename_i m
    split at e
    · rename_i hc
      rw [Bool.and_eq_true, kbeq_iff, ltb_iff] at hc
      obtain ⟨rfl, hi⟩ := hc
      split at e
      · rename_i jj hj
        cases e
        obtain ⟨e', h1, h2⟩ := findE_spec hj
        obtain ⟨h3, h4, h5⟩ := hE e' h1 _ _ _ h2
        rw [sigma_low xs D hi]
        refine ⟨.int j ((xs i).tmod (Int.ofNat m)), by simp [binOp, Op.intDiv]; omega, fun ι => ?_⟩
        show _ = Value.int j (sigma xs D jj)
        rw [sigma_low xs D h4, h5]; rfl
      · exact drv_spec (q := true) e ι t w
    · exact drv_spec (q := true) e ι t w
  · exact drv_spec (q := true) e ι t w

theorem remS_spec {xs : Nat → Int} {D : List (Bool × Int)} {B : List Dm} (h : Lies xs B) (hE : EOk xs D) {P : Program} {j k : IntKind} {i : Nat} {c : Int} {v : V} (e : remS B D j k i c = some v) (ι : Inj) (t : TypeId) (w : World) :
    ∃ x, (binOp .rem t (.int j (sigma xs D i)) (.int k c)).run P w = .ok x w ∧ ∀ ι, VR (sigma xs D) ι v x := by
  unfold remS at e
  split at e
  · rename_i r hm
    split at e
    · rename_i hc
      simp only [Bool.and_eq_true, Bool.not_eq_true', kbeq_iff, ltb_iff, ieq_eq, beq_eq_false_iff_ne] at hc
      obtain ⟨⟨rfl, hi⟩, hz⟩ := hc
      cases e
      unfold modOf at hm
      cases hd : dget B i with
      | none => rw [hd] at hm; cases hm
      | some d =>
        rw [hd] at hm
        rw [dget_eq] at hd
        have := (h i d hd).2.2.2 _ (mdget_mem hm)
        rw [sigma_low xs D hi]
        exact ⟨.int j ((xs i).tmod c), by simp [binOp, Op.intDiv, hz], fun ι => by rw [this]; rfl⟩
    · cases e
  · exact remE_spec hE e ι t w

theorem byteD_of {xs : Nat → Int} {B : List Dm} (h : Lies xs B) {i : Nat} (e : byteD B i = true) : 0 ≤ xs i ∧ xs i < 256 := by
  unfold byteD at e
  cases hd : dget B i with
  | none => rw [hd] at e; cases e
  | some d =>
    rw [hd] at e
    rw [dget_eq] at hd
    obtain ⟨h1, h2, _⟩ := h i d hd
    simp only [Bool.and_eq_true, Bool.not_eq_true', ilt_eq, decide_eq_false_iff_not, decide_eq_true_eq] at e
    omega
theorem linOf_some {xs : Nat → Int} {B : List Dm} (D : List (Bool × Int)) (h : Lies xs B) {n : Nat} {k : Nat → Nat → Nat → Option V} {v : V} (e : linOf B n k = some v) :
    ∃ b s i, k b s i = some v ∧ s < 8 ∧ i < 1000 ∧ b < 18446744073709551616 ∧ (xs i).toNat < 256 ∧ 0 ≤ xs i ∧ sigma xs D n = Int.ofNat (lin b s (xs i).toNat) := by
  unfold linOf at e
  split at e
  · rename_i hn
    rw [ltb_iff] at hn
    split at e
    · rename_i hb
      have := byteD_of h hb
      refine ⟨0, 0, n, e, by omega, hn, by omega, by omega, this.1, ?_⟩
      rw [sigma_low xs D hn]
      unfold lin
      simp only [Nat.mul_zero, Nat.shiftLeft_zero, Nat.zero_or, Int.ofNat_eq_natCast]
      omega
    · cases e
  · split at e
    · cases e
    · rename_i hn
      have hn : 1000000 ≤ n := Nat.le_of_not_lt fun hh => hn (ltb_iff.2 hh)
      split at e
      · rename_i hb
        rw [Bool.and_eq_true, ltb_iff] at hb
        have h1 := byteD_of h hb.1
        refine ⟨_, _, _, e, Nat.mod_lt _ (by decide), Nat.mod_lt _ (by decide), hb.2, by omega, h1.1, ?_⟩
        unfold sigma
        have hb2 : (n - 1000000) / 8000 < 18446744073709551616 := hb.2
        rw [if_neg (by omega), if_pos (by unfold affBase; omega)]
        rfl
      · cases e
theorem mkLin_vr {xs : Nat → Int} {D : List (Bool × Int)} {b s i : Nat} (hb : b < 18446744073709551616) (hs : s < 8) (hi : i < 1000) (hx : 0 ≤ xs i) (ι : Inj) : VR (sigma xs D) ι (mkLin b s i) (.int .u64 (Int.ofNat (lin b s (xs i).toNat))) := by
  unfold mkLin
  split
  · rename_i hc
    rw [Bool.and_eq_true, Nat.beq_eq, Nat.beq_eq] at hc
    obtain ⟨rfl, rfl⟩ := hc
    show _ = Value.int .u64 (sigma xs D i)
    rw [sigma_low xs D hi]
    unfold lin
    simp only [Nat.mul_zero, Nat.shiftLeft_zero, Nat.zero_or, Int.ofNat_eq_natCast]
    congr 1; omega
  · show _ = Value.int .u64 (sigma xs D _)
    rw [sigma_lin xs D hb hs hi]
theorem bin_of {P : Program} {σ : Nat → Int} {op : BinOp} {j k : IntKind} {a b : Int} {v : V} (h : ∀ c : V → R, binInt op j k a b c = c v) (t : TypeId) (w : World) : ∃ x, (binOp op t (.int j a) (.int k b)).run P w = .ok x w ∧ ∀ ι, VR σ ι v x := by
  obtain ⟨v', h1, x, h2, h3⟩ := bin_sim (P := P) (σ := σ) (h (fun v => some (v, .mk (.s .k0 .k0 .k0) .nil))) t
  simp only [Option.some.injEq, Prod.mk.injEq, and_true] at h1
  subst h1
  exact ⟨x, h3 w, h2⟩
theorem wrap_u64 {n : Nat} (h : n < 18446744073709551616) : IntKind.u64.wrap (Int.ofNat n) = Int.ofNat n := by
  show (let m := Int.ofNat n % 18446744073709551616; if (false && decide (m ≥ 9223372036854775808)) = true then m - 18446744073709551616 else m) = _
  simp only [Bool.false_and, Bool.false_eq_true, if_false, Int.ofNat_eq_natCast]; omega
theorem wrap_u8 (n : Nat) : IntKind.u8.wrap (Int.ofNat n) = Int.ofNat (n % 256) := by
  show (let m := Int.ofNat n % 256; if (false && decide (m ≥ 128)) = true then m - 256 else m) = _
  simp only [Bool.false_and, Bool.false_eq_true, if_false, Int.ofNat_eq_natCast]; omega
theorem vr_eq {σ : Nat → Int} {x y : Value} {v : V} (e : x = y) (h : ∀ ι, VR σ ι v y) : ∀ ι, VR σ ι v x := by subst e; exact h
theorem int_of {σ : Nat → Int} {k : IntKind} {n : Int} {x : Value} (h : ∀ ι, VR σ ι (.int k n) x) : x = .int k n := h (fun _ => none)
theorem land_sub {n m : Nat} (hm : m < 18446744073709551616) : Nat.land n (18446744073709551616 - 1 - m) = Nat.land n (Nat.sub 18446744073709551615 m) := rfl
theorem andL_spec {xs : Nat → Int} {D : List (Bool × Int)} {b s i m : Nat} {v : V} (hb : b < 18446744073709551616) (hs : s < 8) (hi : i < 1000) (hx : 0 ≤ xs i) (hx2 : (xs i).toNat < 256) (e : andL b s i m = some v) (ι : Inj) : VR (sigma xs D) ι v (.int .u64 (Int.ofNat (lin b s (xs i).toNat &&& m))) := by
  unfold andL byteAt at e
  split at e
  · rename_i h0
    rw [Nat.beq_eq] at h0
    cases e
    show Value.int _ _ = Value.int _ _
    rw [lin_and0 hx2 h0]; rfl
  · split at e
    · rename_i h1
      rw [Nat.beq_eq] at h1
      cases e
      rw [lin_and1 hx2 h1]
      exact mkLin_vr (Nat.lt_of_le_of_lt Nat.and_le_left hb) hs hi hx ι
    · cases e
theorem eqN_spec {xs : Nat → Int} {B : List Dm} (h : Lies xs B) {b s i m : Nat} {r : Bool} (hs : s < 8) (hx : 0 ≤ xs i) (hx2 : (xs i).toNat < 256) (e : eqN B b s i m = some r) : (Int.ofNat (lin b s (xs i).toNat) == Int.ofNat m) = r := by
  unfold eqN byteAt at e
  split at e
  · rename_i hc
    rw [Bool.and_eq_true, Nat.beq_eq, ltb_iff] at hc
    obtain ⟨hb, hm⟩ := hc
    have hM : ((18446744073709551615 - 255 <<< (8 * s)) >>> (8 * s)) % 256 = 0 := by
      have : ∀ s : Fin 8, ((18446744073709551615 - 255 <<< (8 * s.val)) >>> (8 * s.val)) % 256 = 0 := by decide
      exact this ⟨s, hs⟩
    split at e
    · rename_i hne
      cases e
      rw [bnot_eq, Bool.not_eq_true'] at hne
      rw [beq_eq_false_iff_ne]
      intro heq
      have heq : lin b s (xs i).toNat = m := Int.ofNat.inj heq
      have : Nat.beq (Nat.land m (Nat.sub 18446744073709551615 (Nat.shiftLeft 255 (Nat.mul 8 s)))) b = true := by
        rw [Nat.beq_eq]
        show m &&& (18446744073709551615 - 255 <<< (8 * s)) = b
        rw [← heq, lin_and0 hx2 hM]
        have h0 : lin b s 0 = b := by unfold lin; simp
        have := lin_word (b := b &&& (18446744073709551615 - 255 <<< (8 * s))) (s := s) (c := b) _ hM ?_ rfl
        · rw [show (b >>> (8 * s)) % 256 = 0 from hb] at this
          unfold lin at this; simpa using this
        · intro j hj ho
          have hj64 : j < 64 := Nat.lt_of_not_le fun hle => by
            have hlt : b < 2 ^ 64 := Nat.lt_of_le_of_lt (by rw [← heq]; exact Nat.left_le_or) hm
            rw [Nat.testBit_lt_two_pow (Nat.lt_of_lt_of_le hlt (Nat.pow_le_pow_right (by decide) hle))] at hj; cases hj
          have : ∀ (s : Fin 8) (j : Fin 64), (j.val < 8 * s.val ∨ 8 * s.val + 8 ≤ j.val) → (18446744073709551615 - 255 <<< (8 * s.val)).testBit j.val = true := by decide
          exact this ⟨s, hs⟩ ⟨j, hj64⟩ ho
      rw [this] at hne; cases hne
    · rename_i hne
      rw [bnot_eq, Bool.not_eq_true', Bool.not_eq_false] at hne
      rw [Nat.beq_eq] at hne
      have hne : m &&& (18446744073709551615 - 255 <<< (8 * s)) = b := hne
      have hw : lin b s ((m >>> (8 * s)) % 256) = m := lin_word _ hM (fun j hj ho => by
          have hj64 : j < 64 := Nat.lt_of_not_le fun hle => by
            rw [Nat.testBit_lt_two_pow (Nat.lt_of_lt_of_le (show m < 2 ^ 64 from hm) (Nat.pow_le_pow_right (by decide) hle))] at hj; cases hj
          have : ∀ (s : Fin 8) (j : Fin 64), (j.val < 8 * s.val ∨ 8 * s.val + 8 ≤ j.val) → (18446744073709551615 - 255 <<< (8 * s.val)).testBit j.val = true := by decide
          exact this ⟨s, hs⟩ ⟨j, hj64⟩ ho) hne
      cases hd : dget B i with
      | none => rw [hd] at e; cases e
      | some d =>
        rw [hd] at e
        rw [dget_eq] at hd
        have hcmp := (cmpD_spec (h i d hd) e).2
        have hcmp : (xs i == Int.ofNat ((m >>> (8 * s)) % 256)) = r := hcmp
        rw [← hcmp, Bool.eq_iff_iff, beq_iff_eq, beq_iff_eq]
        constructor
        · intro heq
          have heq : lin b s (xs i).toNat = m := Int.ofNat.inj heq
          have := lin_inj hx2 (Nat.mod_lt _ (by decide)) hb (heq.trans hw.symm)
          rw [← this]; simp only [Int.ofNat_eq_natCast]; omega
        · intro heq
          have : (xs i).toNat = (m >>> (8 * s)) % 256 := by rw [heq]; rfl
          rw [this, hw]
  · cases e
theorem binLN_spec {xs : Nat → Int} {D : List (Bool × Int)} {B : List Dm} {P : Program} (h : Lies xs B) {op : BinOp} {b s i : Nat} {k : IntKind} {m : Nat} {v : V} (hs : s < 8) (hi : i < 1000) (hb : b < 18446744073709551616) (hx2 : (xs i).toNat < 256) (hx : 0 ≤ xs i) (e : binLN B op b s i k m = some v) (t : TypeId) (w : World) :
    ∃ x, (binOp op t (.int .u64 (Int.ofNat (lin b s (xs i).toNat))) (.int k (Int.ofNat m))).run P w = .ok x w ∧ ∀ ι, VR (sigma xs D) ι v x := by
  have hlt : lin b s (xs i).toNat < 18446744073709551616 := lin_lt (b := b) hb hx2 hs
  unfold binLN at e
  cases op <;> simp only at e <;> (try cases e)
  case shl =>
    split at e
    · rename_i hc
      rw [Bool.and_eq_true, Bool.and_eq_true, Nat.beq_eq, Nat.beq_eq, ltb_iff] at hc
      obtain ⟨⟨rfl, h8⟩, h3⟩ := hc
      cases e
      have h8 : m % 8 = 0 := h8
      have h3 : s + m / 8 < 8 := h3
      have e0 : IntKind.u64.wrap (Int.mul (Int.ofNat (lin 0 s (xs i).toNat)) (Int.ofNat (Nat.pow 2 (Nat.min (Int.toNat (Int.ofNat m)) 64)))) = Int.ofNat (lin 0 (s + m / 8) (xs i).toNat) := by
        have e1 : Nat.min (Int.toNat (Int.ofNat m)) 64 = 8 * (m / 8) := by
          show min m 64 = _; omega
        rw [e1]
        have e2 : Int.mul (Int.ofNat (lin 0 s (xs i).toNat)) (Int.ofNat (Nat.pow 2 (8 * (m / 8)))) = Int.ofNat (lin 0 s (xs i).toNat * 2 ^ (8 * (m / 8))) := rfl
        rw [e2, lin_shl]
        exact wrap_u64 (lin_lt (by decide) hx2 h3)
      obtain ⟨x, h1, h2⟩ := bin_of (P := P) (σ := sigma xs D) (op := .shl) (j := .u64) (k := k) (a := Int.ofNat (lin 0 s (xs i).toNat)) (b := Int.ofNat m) (v := .int .u64 (Int.ofNat (lin 0 (s + m / 8) (xs i).toNat))) (fun c => by rw [← e0]; rfl) t w
      exact ⟨x, h1, vr_eq (int_of h2) (mkLin_vr (by decide) h3 hi hx)⟩
    · cases e
  case shr =>
    split at e
    · rename_i hc
      rw [Bool.and_eq_true, Nat.beq_eq, Nat.ble_eq] at hc
      obtain ⟨h8, h64⟩ := hc
      have h8 : m % 8 = 0 := h8
      have hm : m = 8 * (m / 8) := by omega
      have e1 : Int.fdiv (Int.ofNat (lin b s (xs i).toNat)) (Int.ofNat (Nat.pow 2 (Nat.min (Int.toNat (Int.ofNat m)) 64))) = Int.ofNat (lin b s (xs i).toNat / 2 ^ (8 * (m / 8))) := by
        have : Nat.min (Int.toNat (Int.ofNat m)) 64 = 8 * (m / 8) := by show min m 64 = _; omega
        rw [this]
        show Int.fdiv _ _ = _
        simp only [Int.ofNat_eq_natCast]
        rw [Int.fdiv_eq_ediv_of_nonneg _ (by exact Int.natCast_nonneg _)]
        rfl
      split at e
      · rename_i hq
        rw [Nat.ble_eq] at hq
        have hq : m / 8 ≤ s := hq
        cases e
        rw [lin_shr hq] at e1
        obtain ⟨x, h1, h2⟩ := bin_of (P := P) (σ := sigma xs D) (op := .shr) (j := .u64) (k := k) (a := Int.ofNat (lin b s (xs i).toNat)) (b := Int.ofNat m) (v := .int .u64 (Int.ofNat (lin (b >>> (8 * (m / 8))) (s - m / 8) (xs i).toNat))) (fun c => by rw [← e1]; rfl) t w
        refine ⟨x, h1, vr_eq (int_of h2) fun ι => ?_⟩
        have := mkLin_vr (xs := xs) (D := D) (b := b >>> (8 * (m / 8))) (s := s - m / 8) (Nat.lt_of_le_of_lt (Nat.shiftRight_le _ _) hb) (by omega) hi hx ι
        rw [← hm] at this ⊢
        exact this
      · rename_i hq
        have hq : s < m / 8 := Nat.lt_of_not_le fun hh => hq (by rw [Nat.ble_eq]; exact hh)
        cases e
        rw [lin_shr0 hx2 hq] at e1
        obtain ⟨x, h1, h2⟩ := bin_of (P := P) (σ := sigma xs D) (op := .shr) (j := .u64) (k := k) (a := Int.ofNat (lin b s (xs i).toNat)) (b := Int.ofNat m) (v := .int .u64 (Int.ofNat (b >>> (8 * (m / 8))))) (fun c => by rw [← e1]; rfl) t w
        refine ⟨x, h1, vr_eq (int_of h2) fun ι => ?_⟩
        rw [← hm]; exact rfl
    · cases e
  case and =>
    split at e
    · rename_i hc
      rw [Bool.and_eq_true, kbeq_iff, ltb_iff] at hc
      obtain ⟨rfl, hm⟩ := hc
      have e0 : IntKind.u64.wrap (Int.ofNat (Nat.land (Nat.mod (lin b s (xs i).toNat) (2 ^ IntKind.u64.bits)) (Nat.mod m (2 ^ IntKind.u64.bits)))) = Int.ofNat (lin b s (xs i).toNat &&& m) := by
        have e1 : Nat.mod (lin b s (xs i).toNat) (2 ^ IntKind.u64.bits) = lin b s (xs i).toNat := Nat.mod_eq_of_lt hlt
        have e2 : Nat.mod m (2 ^ IntKind.u64.bits) = m := Nat.mod_eq_of_lt hm
        rw [e1, e2]
        exact wrap_u64 (Nat.lt_of_le_of_lt Nat.and_le_left hlt)
      obtain ⟨x, h1, h2⟩ := bin_of (P := P) (σ := sigma xs D) (op := .and) (j := .u64) (k := .u64) (a := Int.ofNat (lin b s (xs i).toNat)) (b := Int.ofNat m) (v := .int .u64 (Int.ofNat (lin b s (xs i).toNat &&& m))) (fun c => by rw [← e0]; rfl) t w
      exact ⟨x, h1, vr_eq (int_of h2) (andL_spec hb hs hi hx hx2 e)⟩
    · cases e
  case or =>
    split at e
    · rename_i hc
      rw [Bool.and_eq_true, kbeq_iff, ltb_iff] at hc
      obtain ⟨rfl, hm⟩ := hc
      cases e
      have e0 : IntKind.u64.wrap (Int.ofNat (Nat.lor (Nat.mod (lin b s (xs i).toNat) (2 ^ IntKind.u64.bits)) (Nat.mod m (2 ^ IntKind.u64.bits)))) = Int.ofNat (lin (b ||| m) s (xs i).toNat) := by
        have e1 : Nat.mod (lin b s (xs i).toNat) (2 ^ IntKind.u64.bits) = lin b s (xs i).toNat := Nat.mod_eq_of_lt hlt
        have e2 : Nat.mod m (2 ^ IntKind.u64.bits) = m := Nat.mod_eq_of_lt hm
        rw [e1, e2]
        have e3 : Nat.lor (lin b s (xs i).toNat) m = lin (b ||| m) s (xs i).toNat := lin_or _ _ _ _
        rw [e3]
        exact wrap_u64 (lin_lt (Nat.or_lt_two_pow (n := 64) hb hm) hx2 hs)
      obtain ⟨x, h1, h2⟩ := bin_of (P := P) (σ := sigma xs D) (op := .or) (j := .u64) (k := .u64) (a := Int.ofNat (lin b s (xs i).toNat)) (b := Int.ofNat m) (v := .int .u64 (Int.ofNat (lin (b ||| m) s (xs i).toNat))) (fun c => by rw [← e0]; rfl) t w
      exact ⟨x, h1, vr_eq (int_of h2) (mkLin_vr (Nat.or_lt_two_pow (n := 64) hb hm) hs hi hx)⟩
    · cases e
  case andNot =>
    split at e
    · rename_i hc
      rw [Bool.and_eq_true, kbeq_iff, ltb_iff] at hc
      obtain ⟨rfl, hm⟩ := hc
      have e0 : IntKind.u64.wrap (Int.ofNat (Nat.land (Nat.mod (lin b s (xs i).toNat) (2 ^ IntKind.u64.bits)) (Nat.sub (2 ^ IntKind.u64.bits - 1) (Nat.mod m (2 ^ IntKind.u64.bits))))) = Int.ofNat (lin b s (xs i).toNat &&& (18446744073709551615 - m)) := by
        have e1 : Nat.mod (lin b s (xs i).toNat) (2 ^ IntKind.u64.bits) = lin b s (xs i).toNat := Nat.mod_eq_of_lt hlt
        have e2 : Nat.mod m (2 ^ IntKind.u64.bits) = m := Nat.mod_eq_of_lt hm
        rw [e1, e2]
        exact wrap_u64 (Nat.lt_of_le_of_lt Nat.and_le_left hlt)
      obtain ⟨x, h1, h2⟩ := bin_of (P := P) (σ := sigma xs D) (op := .andNot) (j := .u64) (k := .u64) (a := Int.ofNat (lin b s (xs i).toNat)) (b := Int.ofNat m) (v := .int .u64 (Int.ofNat (lin b s (xs i).toNat &&& (18446744073709551615 - m)))) (fun c => by rw [← e0]; rfl) t w
      exact ⟨x, h1, vr_eq (int_of h2) (andL_spec hb hs hi hx hx2 e)⟩
    · cases e
  case eql =>
    split at e
    · rename_i hc
      rw [kbeq_iff] at hc; subst hc
      cases hr : eqN B b s i m with
      | none => rw [hr] at e; cases e
      | some r =>
        rw [hr] at e; cases e
        have := eqN_spec h hs hx hx2 hr
        exact bin_of (op := .eql) (j := .u64) (k := .u64) (fun c => by rw [← this, ← ieq_eq]; rfl) t w
    · cases e
  case neq =>
    split at e
    · rename_i hc
      rw [kbeq_iff] at hc; subst hc
      cases hr : eqN B b s i m with
      | none => rw [hr] at e; cases e
      | some r =>
        rw [hr] at e; cases e
        have := eqN_spec h hs hx hx2 hr
        exact bin_of (op := .neq) (j := .u64) (k := .u64) (fun c => by rw [← this, ← ieq_eq]; rfl) t w
    · cases e

theorem binL_spec {xs : Nat → Int} {D : List (Bool × Int)} {B : List Dm} {P : Program} (h : Lies xs B) {op : BinOp} {x y v : V} (e : binL B op x y = some v) (ι : Inj) (a b : Value) (ha : VR (sigma xs D) ι x a) (hb : VR (sigma xs D) ι y b) :
    ∃ (k k' : IntKind) (n m : Int), a = .int k n ∧ b = .int k' m ∧ ∀ (t : TypeId) (w : World), ∃ c, (binOp op t a b).run P w = .ok c w ∧ ∀ ι, VR (sigma xs D) ι v c := by
  cases x with
  | sym j n =>
    replace ha : a = .int j (sigma xs D n) := ha
    cases y with
    | int k c =>
      replace hb : b = .int k c := hb
      replace e : (if kbeq j .u64 then (match c with
        | .ofNat m => linOf B n fun b s i => binLN B op b s i k m
        | .negSucc _ => none) else none) = some v := e
      split at e
      · rename_i hj
        rw [kbeq_iff] at hj; subst hj
        cases c with
        | negSucc m => cases e
        | ofNat m =>
          obtain ⟨b0, s, i, e, hs, hi, hb0, hx2, hx, hsig⟩ := linOf_some D h e
          refine ⟨_, _, _, _, ha, hb, fun t w => ?_⟩
          subst ha hb
          rw [hsig]
          exact binLN_spec h hs hi hb0 hx2 hx e t w
      · cases e
    | _ => cases e
  | int j c =>
    replace ha : a = .int j c := ha
    cases y with
    | sym k n =>
      replace hb : b = .int k (sigma xs D n) := hb
      replace e : (if kbeq k .u64 && kbeq j .u64 then (match c with
        | .ofNat m => (match op with | .or => linOf B n fun b s i => binLN B .or b s i .u64 m | _ => none)
        | .negSucc _ => none) else none) = some v := e
      split at e
      · rename_i hj
        rw [Bool.and_eq_true, kbeq_iff, kbeq_iff] at hj
        obtain ⟨rfl, rfl⟩ := hj
        cases c with
        | negSucc m => cases e
        | ofNat m =>
          cases op <;> try (cases e; done)
          obtain ⟨b0, s, i, e, hs, hi, hb0, hx2, hx, hsig⟩ := linOf_some D h e
          refine ⟨_, _, _, _, ha, hb, fun t w => ?_⟩
          subst ha hb
          rw [hsig]
          obtain ⟨z, h1, h2⟩ := binLN_spec (D := D) (P := P) h hs hi hb0 hx2 hx e t w
          refine ⟨z, ?_, h2⟩
          rw [← h1]
          have hcomm : ∀ p q : Int, (binOp .or t (.int .u64 p) (.int .u64 q)).run P w = (binOp .or t (.int .u64 q) (.int .u64 p)).run P w := fun p q => by
            simp only [binOp, Op.intBits, BitVec.or_comm]
          exact hcomm _ _
      · cases e
    | _ => cases e
  | _ => cases e

theorem convL_spec {xs : Nat → Int} {D : List (Bool × Int)} {B : List Dm} (h : Lies xs B) {k : IntKind} {x v : V} (e : convL B k x = some v) (ι : Inj) (a : Value) (ha : VR (sigma xs D) ι x a) : ∃ (j : IntKind) (n : Int), a = .int j n ∧ ∀ ι, VR (sigma xs D) ι v (.int k (k.wrap n)) := by
  cases x with
  | sym j n =>
    replace ha : a = .int j (sigma xs D n) := ha
    refine ⟨j, _, ha, ?_⟩
    replace e : (if ltb n 1000 then (if byteD B n && (kbeq k .u8 || kbeq k .u64 || kbeq k .i64) then some (V.sym k n) else none) else
      if kbeq j .u64 && kbeq k .u8 then linOf B n fun b s i => if Nat.beq s 0 then (if Nat.beq (Nat.mod b 256) 0 then some (.sym .u8 i) else none) else some (.int .u8 (.ofNat (Nat.mod b 256))) else none) = some v := e
    split at e
    · rename_i hn
      rw [ltb_iff] at hn
      split at e
      · rename_i hc
        rw [Bool.and_eq_true] at hc
        have hx := byteD_of h hc.1
        cases e
        intro ι
        show Value.int k _ = .int k _
        rw [sigma_low xs D hn]
        have hz : xs n = Int.ofNat (xs n).toNat := by simp only [Int.ofNat_eq_natCast]; omega
        have hk := hc.2
        rw [Bool.or_eq_true, Bool.or_eq_true, kbeq_iff, kbeq_iff, kbeq_iff] at hk
        rcases hk with (rfl | rfl) | rfl
        · rw [hz, wrap_u8, Nat.mod_eq_of_lt (by omega)]
        · rw [hz, wrap_u64 (by omega)]
        · rw [wrap_i64 (by omega) (by omega)]
      · cases e
    · split at e
      · rename_i hc
        rw [Bool.and_eq_true, kbeq_iff, kbeq_iff] at hc
        obtain ⟨rfl, rfl⟩ := hc
        obtain ⟨b, s, i, e, hs, hi, hb0, hx2, hx, hsig⟩ := linOf_some D h e
        rw [hsig, wrap_u8]
        intro ι
        split at e
        · rename_i h0
          rw [Nat.beq_eq] at h0; subst h0
          split at e
          · rename_i hm
            rw [Nat.beq_eq] at hm
            cases e
            show Value.int _ _ = Value.int _ (sigma xs D i)
            rw [sigma_low xs D hi, lin_mod0 hx2 hm]
            congr 1; simp only [Int.ofNat_eq_natCast]; omega
          · cases e
        · rename_i h0
          have h0 : 0 < s := Nat.pos_of_ne_zero fun hh => h0 (by rw [hh]; rfl)
          cases e
          show Value.int _ _ = Value.int _ _
          rw [lin_mods h0]; rfl
      · cases e
  | _ => cases e

theorem affOf_some {xs : Nat → Int} {B : List Dm} (D : List (Bool × Int)) (h : Lies xs B) {n : Nat} {k : Nat → Nat → Nat → Nat → Nat → Nat → Option V} {v : V} (e : affOf B n k = some v) :
    ∃ a d b i lo hi, k a d b i lo hi = some v ∧ i < 1000 ∧ lo ≤ (xs i).toNat ∧ (xs i).toNat ≤ hi ∧ 0 ≤ xs i ∧ sigma xs D n = Int.ofNat (aff a d b (xs i).toNat) := by
  have dom : ∀ {i : Nat} {d : Dm} {lo hi : Nat}, dget B i = some d → d.lo = .ofNat lo → d.hi = .ofNat hi → lo ≤ (xs i).toNat ∧ (xs i).toNat ≤ hi ∧ 0 ≤ xs i := fun {i d lo hi} h1 h2 h3 => by
    rw [dget_eq] at h1
    obtain ⟨g1, g2, _⟩ := h i d h1
    rw [h2] at g1; rw [h3] at g2
    simp only [Int.ofNat_eq_natCast] at g1 g2
    omega
  unfold affOf at e
  split at e
  · rename_i hn
    rw [ltb_iff] at hn
    split at e
    · rename_i d hd
      split at e
      · rename_i lo hi h1 h2
        obtain ⟨g1, g2, g3⟩ := dom hd h1 h2
        refine ⟨1, 1, 0, n, lo, hi, e, hn, g1, g2, g3, ?_⟩
        rw [sigma_low xs D hn]
        unfold aff
        simp only [Nat.div_one, Nat.one_mul, Nat.add_zero, Int.ofNat_eq_natCast]; omega
      · cases e
    · cases e
  · split at e
    · cases e
    · rename_i hn
      have hn : affBase ≤ n := Nat.le_of_not_lt fun hh => hn (ltb_iff.2 hh)
      split at e
      · rename_i d hd
        split at e
        · rename_i lo hi h1 h2
          obtain ⟨g1, g2, g3⟩ := dom hd h1 h2
          refine ⟨_, _, _, _, lo, hi, e, Nat.mod_lt _ (by decide), g1, g2, g3, ?_⟩
          unfold sigma
          rw [if_neg (by unfold affBase at hn; omega), if_neg (by omega)]
          rfl
        · cases e
      · cases e
theorem mkAff_vr {xs : Nat → Int} {D : List (Bool × Int)} {a d b i lo hi : Nat} {v : V} (hi1 : i < 1000) (h1 : lo ≤ (xs i).toNat) (h2 : (xs i).toNat ≤ hi) (e : mkAff a d b i lo hi = some v) :
    aff a d b (xs i).toNat < 4611686018427387904 ∧ ∀ ι, VR (sigma xs D) ι v (.int .i64 (Int.ofNat (aff a d b (xs i).toNat))) := by
  have m1 := aff_mono (a := a) (d := d) (b := b) h1
  have m2 := aff_mono (a := a) (d := d) (b := b) h2
  unfold mkAff at e
  split at e
  · rename_i hb
    rw [ltb_iff] at hb
    have hb : aff a d b hi < 4611686018427387904 := hb
    refine ⟨by omega, fun ι => ?_⟩
    split at e
    · rename_i he
      rw [Nat.beq_eq] at he
      have he : aff a d b lo = aff a d b hi := he
      cases e
      show Value.int _ _ = Value.int _ _
      rw [show aff a d b (xs i).toNat = aff a d b lo by omega]; rfl
    · split at e
      · rename_i hc
        rw [Bool.and_eq_true, ltb_iff, ltb_iff] at hc
        cases e
        show Value.int _ _ = Value.int _ (sigma xs D _)
        rw [sigma_aff xs D hc.1 hc.2 hi1]
      · cases e
  · cases e
theorem wrapK_nat {n : Nat} (h : n < 9223372036854775808) (c : Int → R) : wrapK .i64 (Int.ofNat n) c = c (Int.ofNat n) := by
  show (Bool.rec (motive := fun _ => R) (c (IntKind.wrap .i64 (.ofNat n))) (c (.ofNat n)) (Nat.ble n 9223372036854775807) : R) = _
  rw [show Nat.ble n 9223372036854775807 = true by rw [Nat.ble_eq]; omega]
theorem binAN_spec {xs : Nat → Int} {D : List (Bool × Int)} {P : Program} {op : BinOp} {a d b i lo hi m : Nat} {v : V} (hi1 : i < 1000) (h1 : lo ≤ (xs i).toNat) (h2 : (xs i).toNat ≤ hi) (e : binAN op a d b i lo hi m = some v) (t : TypeId) (w : World) :
    ∃ x, (binOp op t (.int .i64 (Int.ofNat (aff a d b (xs i).toNat))) (.int .i64 (Int.ofNat m))).run P w = .ok x w ∧ ∀ ι, VR (sigma xs D) ι v x := by
  have cmp : (match cmpD op ⟨.ofNat (affN a d b lo), .ofNat (affN a d b hi), [], []⟩ (.ofNat m) with | some r => some (V.bool r) | none => none) = some v →
      ∃ x, (binOp op t (.int .i64 (Int.ofNat (aff a d b (xs i).toNat))) (.int .i64 (Int.ofNat m))).run P w = .ok x w ∧ ∀ ι, VR (sigma xs D) ι v x := fun e => by
    split at e
    · rename_i r hr
      cases e
      have m1 := aff_mono (a := a) (d := d) (b := b) h1
      have m2 := aff_mono (a := a) (d := d) (b := b) h2
      obtain ⟨g1, g2⟩ := cmpD_spec (n := Int.ofNat (aff a d b (xs i).toNat)) ⟨by show Int.ofNat (aff a d b lo) ≤ _; simp only [Int.ofNat_eq_natCast]; omega, by show _ ≤ Int.ofNat (aff a d b hi); simp only [Int.ofNat_eq_natCast]; omega, by simp, by simp⟩ hr
      exact ⟨_, run_cmp g1 t w, fun _ => by rw [g2]; rfl⟩
    · cases e
  cases op
  case mul =>
    have e : mkAff (a * m) d (b * m) i lo hi = some v := e
    obtain ⟨g1, g2⟩ := mkAff_vr (D := D) hi1 h1 h2 e
    obtain ⟨x, r1, r2⟩ := bin_of (P := P) (σ := sigma xs D) (op := .mul) (j := .i64) (k := .i64) (a := Int.ofNat (aff a d b (xs i).toNat)) (b := Int.ofNat m) (v := .int .i64 (Int.ofNat (aff (a * m) d (b * m) (xs i).toNat))) (fun c => by
      show wrapK .i64 (Int.ofNat (aff a d b (xs i).toNat * m)) (fun n => c (.int .i64 n)) = _
      rw [aff_mul, wrapK_nat (by omega)]) t w
    exact ⟨x, r1, vr_eq (int_of r2) g2⟩
  case add =>
    have e : mkAff a d (b + m) i lo hi = some v := e
    obtain ⟨g1, g2⟩ := mkAff_vr (D := D) hi1 h1 h2 e
    obtain ⟨x, r1, r2⟩ := bin_of (P := P) (σ := sigma xs D) (op := .add) (j := .i64) (k := .i64) (a := Int.ofNat (aff a d b (xs i).toNat)) (b := Int.ofNat m) (v := .int .i64 (Int.ofNat (aff a d (b + m) (xs i).toNat))) (fun c => by
      show wrapK .i64 (Int.ofNat (aff a d b (xs i).toNat + m)) (fun n => c (.int .i64 n)) = _
      rw [aff_add, wrapK_nat (by omega)]) t w
    exact ⟨x, r1, vr_eq (int_of r2) g2⟩
  case quo =>
    have go : 0 < m → ∀ a' d' b', aff a d b (xs i).toNat / m = aff a' d' b' (xs i).toNat → mkAff a' d' b' i lo hi = some v →
        ∃ x, (binOp .quo t (.int .i64 (Int.ofNat (aff a d b (xs i).toNat))) (.int .i64 (Int.ofNat m))).run P w = .ok x w ∧ ∀ ι, VR (sigma xs D) ι v x := fun h0 a' d' b' he e => by
      obtain ⟨g1, g2⟩ := mkAff_vr (D := D) hi1 h1 h2 e
      obtain ⟨x, r1, r2⟩ := bin_of (P := P) (σ := sigma xs D) (op := .quo) (j := .i64) (k := .i64) (a := Int.ofNat (aff a d b (xs i).toNat)) (b := Int.ofNat m) (v := .int .i64 (Int.ofNat (aff a' d' b' (xs i).toNat))) (fun c => by
        show ifK (bnot (ieq (Int.ofNat m) 0)) (wrapK .i64 (Int.ofNat (aff a d b (xs i).toNat / m)) (fun n => c (.int .i64 n))) = _
        rw [ieq_eq, show (Int.ofNat m == 0) = false by rw [beq_eq_false_iff_ne]; simp only [Int.ofNat_eq_natCast]; omega, he, wrapK_nat (by omega)]; rfl) t w
      exact ⟨x, r1, vr_eq (int_of r2) g2⟩
    unfold binAN at e
    simp only at e
    split at e
    · rename_i h0
      rw [ltb_iff] at h0
      split at e
      · rename_i hc
        rw [Bool.and_eq_true, Nat.beq_eq, Nat.beq_eq] at hc
        obtain ⟨rfl, rfl⟩ := hc
        exact go h0 _ _ _ (aff_div1 _ _ _) e
      · split at e
        · rename_i hc
          rw [Bool.and_eq_true, Nat.beq_eq, Nat.beq_eq] at hc
          exact go h0 _ _ _ (aff_div h0 hc.1 hc.2) e
        · cases e
    · cases e
  case rem =>
    unfold binAN at e
    simp only at e
    split at e
    · rename_i hc
      rw [Bool.and_eq_true, ltb_iff, Nat.beq_eq] at hc
      cases e
      obtain ⟨x, r1, r2⟩ := bin_of (P := P) (σ := sigma xs D) (op := .rem) (j := .i64) (k := .i64) (a := Int.ofNat (aff a d b (xs i).toNat)) (b := Int.ofNat m) (v := .int .i64 (Int.ofNat (b % m))) (fun c => by
        show ifK (bnot (ieq (Int.ofNat m) 0)) (c (.int .i64 (Int.ofNat (aff a d b (xs i).toNat % m)))) = _
        rw [ieq_eq, show (Int.ofNat m == 0) = false by rw [beq_eq_false_iff_ne]; simp only [Int.ofNat_eq_natCast]; omega, aff_mod hc.2]; rfl) t w
      exact ⟨x, r1, r2⟩
    · cases e
  all_goals first | exact cmp e | (cases e; done)
theorem binA_spec {xs : Nat → Int} {D : List (Bool × Int)} {B : List Dm} {P : Program} (h : Lies xs B) {op : BinOp} {x y v : V} (e : binA B op x y = some v) (ι : Inj) (a b : Value) (ha : VR (sigma xs D) ι x a) (hb : VR (sigma xs D) ι y b) :
    ∃ (k k' : IntKind) (n m : Int), a = .int k n ∧ b = .int k' m ∧ ∀ (t : TypeId) (w : World), ∃ c, (binOp op t a b).run P w = .ok c w ∧ ∀ ι, VR (sigma xs D) ι v c := by
  cases x with
  | sym j n =>
    replace ha : a = .int j (sigma xs D n) := ha
    cases y with
    | int k c =>
      replace hb : b = .int k c := hb
      replace e : (if kbeq j .i64 && kbeq k .i64 then (match c with
        | .ofNat m => affOf B n fun a d b i lo hi => binAN op a d b i lo hi m
        | .negSucc _ => none) else none) = some v := e
      split at e
      · rename_i hj
        rw [Bool.and_eq_true, kbeq_iff, kbeq_iff] at hj
        obtain ⟨rfl, rfl⟩ := hj
        cases c with
        | negSucc m => cases e
        | ofNat m =>
          obtain ⟨a0, d0, b0, i, lo, hi, e, hi1, h1, h2, _, hsig⟩ := affOf_some D h e
          refine ⟨_, _, _, _, ha, hb, fun t w => ?_⟩
          subst ha hb
          rw [hsig]
          exact binAN_spec hi1 h1 h2 e t w
      · cases e
    | _ => cases e
  | int k c =>
    replace ha : a = .int k c := ha
    cases y with
    | sym j n =>
      replace hb : b = .int j (sigma xs D n) := hb
      replace e : (if kbeq j .i64 && kbeq k .i64 then (match c with
        | .ofNat m => affOf B n fun a d b _ lo hi => binAF op a d b lo hi m
        | .negSucc _ => none) else none) = some v := e
      split at e
      · rename_i hj
        rw [Bool.and_eq_true, kbeq_iff, kbeq_iff] at hj
        obtain ⟨rfl, rfl⟩ := hj
        cases c with
        | negSucc m => cases e
        | ofNat m =>
          obtain ⟨a0, d0, b0, i, lo, hi, e, hi1, h1, h2, _, hsig⟩ := affOf_some D h e
          refine ⟨_, _, _, _, ha, hb, fun t w => ?_⟩
          subst ha hb
          rw [hsig]
          unfold binAF at e
          split at e
          · rename_i r hr
            cases e
            have m1 := aff_mono (a := a0) (d := d0) (b := b0) h1
            have m2 := aff_mono (a := a0) (d := d0) (b := b0) h2
            obtain ⟨g1, g2⟩ := cmpD_spec (n := Int.ofNat (aff a0 d0 b0 (xs i).toNat)) ⟨by show Int.ofNat (aff a0 d0 b0 lo) ≤ _; simp only [Int.ofNat_eq_natCast]; omega, by show _ ≤ Int.ofNat (aff a0 d0 b0 hi); simp only [Int.ofNat_eq_natCast]; omega, by simp, by simp⟩ hr
            have g3 := isCmp_flip g1
            refine ⟨_, run_cmp g3 t w, fun _ => ?_⟩
            have g4 : cmpZ op (Int.ofNat m) (Int.ofNat (aff a0 d0 b0 (xs i).toNat)) = r := by rw [← g2, (flip_spec g3).2]
            rw [g4]; rfl
          · cases e
      · cases e
    | _ => cases e
  | _ => cases e

theorem syOkB {xs : Nat → Int} {D : List (Bool × Int)} {B : List Dm} {P : Program} (h : Lies xs B) (hE : EOk xs D) : SyOk (sigma xs D) P ⟨binB B D, convB B⟩ where
  bin := by
    intro op x y v hv ι a b ha hb
    replace hv : binB B D op x y = some v := hv
    cases x with
    | sym j i =>
      replace ha : a = .int j (sigma xs D i) := ha
      cases y with
      | int k c =>
        replace hb : b = .int k c := hb
        refine ⟨j, k, _, c, ha, hb, fun t w => ?_⟩
        subst ha hb
        have cmp : (if kbeq j k then cmpS B op i c else none) = some v → ∃ x, (binOp op t (.int j (sigma xs D i)) (.int k c)).run P w = .ok x w ∧ ∀ ι, VR (sigma xs D) ι v x := fun hq => by
          clear hv
          split at hq
          · rename_i hk
            rw [kbeq_iff] at hk; subst hk
            obtain ⟨h1, rfl⟩ := cmpS_spec (D := D) h hq
            exact ⟨_, run_cmp h1 t w, fun _ => rfl⟩
          · cases hq
        cases op <;> first
          | exact drv_spec (q := false) hv ι t w
          | exact remS_spec h hE hv ι t w
          | exact cmp hv
      | sym k l =>
        replace hv : (if kbeq j k && Nat.beq i l then symS op else none) = some v := hv
        split at hv
        · rename_i hk
          rw [Bool.and_eq_true, kbeq_iff, Nat.beq_eq] at hk
          obtain ⟨rfl, rfl⟩ := hk
          replace hb : b = .int j (sigma xs D i) := hb
          refine ⟨j, j, _, _, ha, hb, fun t w => ?_⟩
          subst ha hb
          cases op <;> first
            | cases hv; done
            | (cases hv; exact ⟨_, run_cmp rfl t w, fun _ => by simp [cmpZ]; rfl⟩)
        · cases hv
      | _ => cases hv
    | int k c =>
      replace ha : a = .int k c := ha
      cases y with
      | sym j i =>
        replace hb : b = .int j (sigma xs D i) := hb
        replace hv : (if kbeq j k then cmpS B (flipOp op) i c else none) = some v := hv
        refine ⟨k, j, c, _, ha, hb, fun t w => ?_⟩
        subst ha hb
        split at hv
        · rename_i hk
          rw [kbeq_iff] at hk; subst hk
          obtain ⟨h1, rfl⟩ := cmpS_spec (D := D) h hv
          have h2 := isCmp_flip h1
          refine ⟨_, run_cmp h2 t w, fun _ => ?_⟩
          rw [(flip_spec h2).2]; rfl
        · cases hv
      | _ => cases hv
    | _ => cases hv
  conv := by
    intro k x v hv ι a ha
    replace hv : convB B k x = some v := hv
    cases x with
    | sym j i =>
      replace hv : (if isI64 k && ltb i 1000 then (match dget B i with
        | some d => if !ilt d.lo (-9223372036854775808) && ilt d.hi 9223372036854775808 then some (V.sym .i64 i) else none
        | none => none) else none) = some v := hv
      split at hv
      · rename_i hc
        rw [Bool.and_eq_true, isI64, kbeq_iff, ltb_iff] at hc
        obtain ⟨rfl, hi⟩ := hc
        cases hd : dget B i with
        | none => rw [hd] at hv; cases hv
        | some d =>
          rw [hd] at hv
          simp only at hv
          split at hv
          · rename_i hc
            rw [Bool.and_eq_true, Bool.not_eq_true', ilt_eq, ilt_eq, decide_eq_false_iff_not, decide_eq_true_eq] at hc
            cases hv
            rw [dget_eq] at hd
            obtain ⟨h1, h2, _⟩ := h i d hd
            refine ⟨j, sigma xs D i, ha, fun ι => ?_⟩
            rw [wrap_i64 (by rw [sigma_low xs D hi]; omega) (by rw [sigma_low xs D hi]; omega)]
            rfl
          · cases hv
      · cases hv
    | _ => cases hv

theorem syOk {xs : Nat → Int} {D : List (Bool × Int)} {B : List Dm} {P : Program} (h : Lies xs B) (hE : EOk xs D) : SyOk (sigma xs D) P (SyB B D) where
  bin := by
    intro op x y v hv ι a b ha hb
    replace hv : (match binB B D op x y with | some v => some v | none => match binL B op x y with | some v => some v | none => binA B op x y) = some v := hv
    cases hq : binB B D op x y with
    | some v' => rw [hq] at hv; cases hv; exact (syOkB h hE).bin op x y v hq ι a b ha hb
    | none =>
      rw [hq] at hv
      replace hv : (match binL B op x y with | some v => some v | none => binA B op x y) = some v := hv
      cases hq2 : binL B op x y with
      | some v' => rw [hq2] at hv; cases hv; exact binL_spec h hq2 ι a b ha hb
      | none => rw [hq2] at hv; exact binA_spec h hv ι a b ha hb
  conv := by
    intro k x v hv ι a ha
    replace hv : (match convB B k x with | some v => some v | none => convL B k x) = some v := hv
    cases hq : convB B k x with
    | some v' => rw [hq] at hv; cases hv; exact (syOkB (P := P) h hE).conv k x v hq ι a ha
    | none => rw [hq] at hv; exact convL_spec h hv ι a ha
end Go.Ab

/- A law over plain data: cases by a tree, each run by the kernel. -/
namespace Go.Ab

noncomputable def cellV (k : Option IntKind) (i : Nat) (d : Dm) : V := match k with
  | some k => if ieq d.lo d.hi then .int k d.lo else .sym k i
  | none => .bool (ieq d.lo 1)
noncomputable def cellsV : List (Option IntKind) → Nat → List Dm → List V
  | k :: ks, i, d :: ds => cellV k i d :: cellsV ks (i + 1) ds
  | _, _, _ => []
/-- are the bools told? -/
noncomputable def detV : List (Option IntKind) → List Dm → Bool
  | some _ :: ks, _ :: ds => detV ks ds
  | none :: ks, d :: ds => ieq d.lo d.hi && detV ks ds
  | [], _ => true
  | _ :: _, [] => false

def cellN : Value → Int
  | .int _ n => n
  | .bool true => 1
  | .bool false => 0
  | _ => 0

theorem cell_rel {xs : Nat → Int} {D : List (Bool × Int)} {ι : Inj} {k : Option IntKind} {i : Nat} {d : Dm} {c : Value} (hi : i < 1000) (hc : okCell k c) (hx : xs i = cellN c) (hd : d.has (xs i)) (hb : k = none → d.lo = d.hi) : VR (sigma xs D) ι (cellV k i d) c := by
  obtain ⟨h1, h2, _, _⟩ := hd
  cases k with
  | some k =>
    obtain ⟨n, rfl, _⟩ := hc
    have hx : xs i = n := hx
    unfold cellV
    simp only
    split
    · rename_i he
      rw [ieq_eq] at he
      simp at he
      show Value.int k n = .int k d.lo
      rw [show n = d.lo by omega]
    · show Value.int k n = .int k (sigma xs D i)
      rw [sigma_low xs D hi, hx]
  | none =>
    obtain ⟨b, rfl⟩ := hc
    have he := hb rfl
    show Value.bool b = .bool (ieq d.lo 1)
    rw [ieq_eq]
    cases b with
    | true => have hx : xs i = 1 := hx; have : d.lo = 1 := by omega
              rw [this]; rfl
    | false => have hx : xs i = 0 := hx; have : d.lo = 0 := by omega
               rw [this]; rfl

theorem cells_rel {xs : Nat → Int} {D : List (Bool × Int)} {ι : Inj} : ∀ {ks : List (Option IntKind)} {cs : List Value} {i : Nat} {ds : List Dm}, Cl ks cs → detV ks ds = true → i + ks.length ≤ 1000 → (∀ (j : Nat) (c : Value), cs[j]? = some c → xs (i + j) = cellN c) →
    (∀ (j : Nat) (d : Dm), ds[j]? = some d → d.has (xs (i + j))) → VRL (sigma xs D) ι (cellsV ks i ds) cs
  | [], cs, i, ds, hc, _, _, _, _ => by rw [show cs = [] from hc]; cases ds <;> exact rfl
  | k :: ks, cs, i, [], hc, hdet, _, _, _ => by cases k <;> cases hdet
  | k :: ks, cs, i, d :: ds, hc, hdet, hi, hx, hd => by
    obtain ⟨c, cs', rfl, h1, h2⟩ := hc
    simp only [List.length_cons] at hi
    refine ⟨c, cs', rfl, cell_rel (by omega) h1 (by simpa using hx 0 c (by simp)) (by simpa using hd 0 d (by simp)) (fun hk => ?_), cells_rel h2 ?_ (by omega) (fun j c hj => ?_) (fun j d hj => ?_)⟩
    · subst hk
      have : (ieq d.lo d.hi && detV ks ds) = true := hdet
      rw [Bool.and_eq_true, ieq_eq] at this
      simpa using this.1
    · cases k with
      | some k => exact hdet
      | none =>
        have : (ieq d.lo d.hi && detV ks ds) = true := hdet
        rw [Bool.and_eq_true] at this; exact this.2
    · have := hx (j + 1) c (by simpa using hj); rwa [show i + 1 + j = i + (j + 1) by omega]
    · have := hd (j + 1) d (by simpa using hj); rwa [show i + 1 + j = i + (j + 1) by omega]

theorem cellsV_one {xs : Nat → Int} {D : List (Bool × Int)} : ∀ {ks : List (Option IntKind)} {i : Nat} {ds : List Dm}, ∀ v ∈ cellsV ks i ds, v.one = true
  | [], i, ds, v, h => by cases ds <;> cases h
  | k :: ks, i, [], v, h => by cases h
  | k :: ks, i, d :: ds, v, h => by
    rcases List.mem_cons.1 h with rfl | h
    · unfold cellV; cases k with
      | none => rfl
      | some k => simp only; split <;> rfl
    · exact cellsV_one (xs := xs) (D := D) v h

/-- the arguments' shapes: a struct's or an array's cells, or one cell -/
abbrev Sh := List (Bool × List (Option IntKind))
noncomputable def mkArgs : Sh → Nat → List Dm → List V
  | [], _, _ => []
  | (ag, ks) :: sh, i, ds => (Bool.rec (motive := fun _ => V) (match cellsV ks i ds with | v :: _ => v | [] => .tup []) (.agg (cellsV ks i ds)) ag) :: mkArgs sh (i + ks.length) (ds.drop ks.length)
noncomputable def detA : Sh → List Dm → Bool
  | [], _ => true
  | (_, ks) :: sh, ds => detV ks ds && detA sh (ds.drop ks.length)
def ArgOk : Bool × List (Option IntKind) → Value → Prop
  | (true, ks), v => ∃ cs : Array Value, v = .agg cs ∧ Cl ks cs.toList
  | (false, ks), v => Cl ks [v]
def ArgsOk : Sh → List Value → Prop
  | [], vs => vs = []
  | a :: sh, vs => ∃ v vs', vs = v :: vs' ∧ ArgOk a v ∧ ArgsOk sh vs'
def argCells : Bool × List (Option IntKind) → Value → List Value
  | (true, _), .agg cs => cs.toList
  | (_, _), v => [v]
def allCells : Sh → List Value → List Value
  | a :: sh, v :: vs => argCells a v ++ allCells sh vs
  | _, _ => []
def total (sh : Sh) : Nat := (sh.map fun a => a.2.length).sum

theorem argCells_cl {a : Bool × List (Option IntKind)} {v : Value} (h : ArgOk a v) : Cl a.2 (argCells a v) := by
  obtain ⟨ag, ks⟩ := a
  cases ag with
  | true => obtain ⟨cs, rfl, h⟩ := h; exact h
  | false => cases v <;> exact h
theorem allCells_cl : ∀ {sh : Sh} {vs : List Value}, ArgsOk sh vs → Cl (sh.flatMap (·.2)) (allCells sh vs)
  | [], vs, h => by rw [show vs = [] from h]; rfl
  | a :: sh, vs, ⟨v, vs', e, h1, h2⟩ => by
    subst e
    show Cl (a.2 ++ sh.flatMap (·.2)) (argCells a v ++ allCells sh vs')
    exact (argCells_cl h1).append (allCells_cl h2)

theorem args_rel {xs : Nat → Int} {D : List (Bool × Int)} {ι : Inj} : ∀ {sh : Sh} {vs : List Value} {i : Nat} {ds : List Dm}, ArgsOk sh vs → detA sh ds = true → i + total sh ≤ 1000 → (∀ (j : Nat) (c : Value), (allCells sh vs)[j]? = some c → xs (i + j) = cellN c) →
    (∀ (j : Nat) (d : Dm), ds[j]? = some d → d.has (xs (i + j))) → VRL (sigma xs D) ι (mkArgs sh i ds) vs
  | [], vs, i, ds, h, _, _, _, _ => by rw [show vs = [] from h]; exact rfl
  | (ag, ks) :: sh, vs, i, ds, h, hdet, hi, hx, hd => by
    obtain ⟨v, vs', rfl, h1, h2⟩ := h
    have hdet : (detV ks ds && detA sh (ds.drop ks.length)) = true := hdet
    rw [Bool.and_eq_true] at hdet
    have hi : i + (ks.length + total sh) ≤ 1000 := hi
    have hlen : (argCells (ag, ks) v).length = ks.length := (argCells_cl h1).length
    have hall : allCells ((ag, ks) :: sh) (v :: vs') = argCells (ag, ks) v ++ allCells sh vs' := rfl
    have hc := cells_rel (D := D) (ι := ι) (i := i) (argCells_cl h1) hdet.1 (by show i + ks.length ≤ 1000; omega) (fun j c hj => hx j c (by
      have := (List.getElem?_eq_some_iff.1 hj).1
      rw [hall, List.getElem?_append_left this]; exact hj)) hd
    refine ⟨v, vs', rfl, ?_, args_rel h2 hdet.2 (by omega) (fun j c hj => ?_) (fun j d hj => ?_)⟩
    · cases ag with
      | true =>
        obtain ⟨cs, rfl, _⟩ := h1
        exact VR.agg.2 ⟨cs, rfl, hc, cellsV_one (xs := xs) (D := D)⟩
      | false =>
        have hc : VRL (sigma xs D) ι (cellsV ks i ds) [v] := by cases v <;> exact hc
        show VR _ _ (match cellsV ks i ds with | v :: _ => v | [] => .tup []) v
        cases hcv : cellsV ks i ds with
        | nil => rw [hcv] at hc; cases (VRL.nil.1 hc)
        | cons u us => rw [hcv] at hc; obtain ⟨w, ws, e, h3, _⟩ := hc; cases e; exact h3
    · have := hx (ks.length + j) c (by rw [hall, List.getElem?_append_right (by omega), hlen, Nat.add_sub_cancel_left]; exact hj)
      rwa [show i + ks.length + j = i + (ks.length + j) by omega]
    · have := hd (ks.length + j) d (by rw [List.getElem?_drop] at hj; exact hj)
      rwa [show i + ks.length + j = i + (ks.length + j) by omega]

/-! ### cases -/
inductive Tree where
  | run
  | eq (i : Nat) (c : Int) (a b : Tree)
  | lt (i : Nat) (c : Int) (a b : Tree)
  | md (i c : Nat) (f : Nat → Tree)
noncomputable def dset (i : Nat) (f : Dm → Dm) (l : List Dm) : List Dm := match i, l with
  | 0, d :: ds => f d :: ds
  | i + 1, d :: ds => d :: dset i f ds
  | _, [] => []
noncomputable def eqD (i : Nat) (c : Int) (l : List Dm) : List Dm := dset i (fun _ => ⟨c, c, [], []⟩) l
noncomputable def neD (i : Nat) (c : Int) (l : List Dm) : List Dm := dset i (fun d => ⟨d.lo, d.hi, c :: d.ne, d.md⟩) l
noncomputable def hiD (i : Nat) (c : Int) (l : List Dm) : List Dm := dset i (fun d => ⟨d.lo, if ilt (c - 1) d.hi then c - 1 else d.hi, d.ne, d.md⟩) l
noncomputable def loD (i : Nat) (c : Int) (l : List Dm) : List Dm := dset i (fun d => ⟨if ilt d.lo c then c else d.lo, d.hi, d.ne, d.md⟩) l
noncomputable def mdD (i c r : Nat) (l : List Dm) : List Dm := dset i (fun d => ⟨d.lo, d.hi, d.ne, (Int.ofNat c, Int.ofNat r) :: d.md⟩) l
noncomputable def nnD (i : Nat) (l : List Dm) : Bool := match dget l i with | some d => !ilt d.lo 0 | none => false
noncomputable def allN (f : Nat → Bool) (n : Nat) : Bool := Nat.rec (motive := fun _ => Bool) true (fun r ih => f r && ih) n
theorem allN_iff {f : Nat → Bool} {n : Nat} : allN f n = true ↔ ∀ r, r < n → f r = true := by
  induction n with
  | zero => exact ⟨fun _ r h => absurd h (by omega), fun _ => rfl⟩
  | succ n ih =>
    show (f n && allN f n) = true ↔ _
    rw [Bool.and_eq_true, ih]
    exact ⟨fun h r hr => by
      by_cases e : r = n
      · rw [e]; exact h.1
      · exact h.2 r (by omega), fun h => ⟨h n (by omega), fun r hr => h r (by omega)⟩⟩
noncomputable def evalT (chk : List Dm → Bool) : Tree → List Dm → Bool
  | .run, ds => chk ds
  | .eq i c a b, ds => evalT chk a (eqD i c ds) && evalT chk b (neD i c ds)
  | .lt i c a b, ds => evalT chk a (hiD i c ds) && evalT chk b (loD i c ds)
  | .md i c f, ds => nnD i ds && ltb 0 c && allN (fun r => evalT chk (f r) (mdD i c r ds)) c

theorem dset_lies {xs : Nat → Int} {f : Dm → Dm} : ∀ {ds : List Dm} {i : Nat} {k : Nat}, (∀ (j : Nat) (d : Dm), ds[j]? = some d → d.has (xs (k + j))) → (∀ d : Dm, d.has (xs (k + i)) → (f d).has (xs (k + i))) → ∀ (j : Nat) (d : Dm), (dset i f ds)[j]? = some d → d.has (xs (k + j))
  | [], i, k, _, _, j, d, e => by cases i <;> simp [dset] at e
  | x :: ds, 0, k, h, hf, j, d, e => by
    cases j with
    | zero => simp [dset] at e; subst e; exact hf x (h 0 x (by simp))
    | succ j => simp [dset] at e; exact h (j + 1) d (by simpa using e)
  | x :: ds, i + 1, k, h, hf, j, d, e => by
    cases j with
    | zero => simp [dset] at e; subst e; exact h 0 x (by simp)
    | succ j =>
      simp [dset] at e
      have := dset_lies (ds := ds) (i := i) (k := k + 1) (fun j d hj => by have := h (j + 1) d (by simpa using hj); rwa [show k + 1 + j = k + (j + 1) by omega]) (fun d hd => by
        rw [show k + 1 + i = k + (i + 1) by omega] at hd ⊢; exact hf d hd) j d e
      rwa [show k + (j + 1) = k + 1 + j by omega]

theorem evalT_eq {chk : List Dm → Bool} {i : Nat} {c : Int} {a b : Tree} {ds : List Dm} (h1 : evalT chk a (eqD i c ds) = true) (h2 : evalT chk b (neD i c ds) = true) : evalT chk (.eq i c a b) ds = true := by
  unfold evalT; rw [Bool.and_eq_true]; exact ⟨h1, h2⟩
theorem evalT_lt {chk : List Dm → Bool} {i : Nat} {c : Int} {a b : Tree} {ds : List Dm} (h1 : evalT chk a (hiD i c ds) = true) (h2 : evalT chk b (loD i c ds) = true) : evalT chk (.lt i c a b) ds = true := by
  unfold evalT; rw [Bool.and_eq_true]; exact ⟨h1, h2⟩
theorem evalT_md {chk : List Dm → Bool} {i c : Nat} {f : Nat → Tree} {ds : List Dm} (h0 : (nnD i ds && ltb 0 c) = true) (h : ∀ r, r < c → evalT chk (f r) (mdD i c r ds) = true) : evalT chk (.md i c f) ds = true := by
  unfold evalT; rw [Bool.and_eq_true]; exact ⟨h0, allN_iff.2 h⟩
theorem evalT_lies {xs : Nat → Int} {chk : List Dm → Bool} : ∀ (t : Tree) (ds : List Dm), evalT chk t ds = true → Lies xs ds → ∃ ds', chk ds' = true ∧ Lies xs ds'
  | .run, ds, h, hl => ⟨ds, h, hl⟩
  | .eq i c a b, ds, h, hl => by
    unfold evalT at h
    rw [Bool.and_eq_true] at h
    by_cases e : xs i = c
    · refine evalT_lies a _ h.1 fun j d hj => ?_
      have := dset_lies (xs := xs) (k := 0) (i := i) (f := fun _ => ⟨c, c, [], []⟩) (by simpa [Lies] using hl) (fun d _ => ⟨by simp [e], by simp [e], by simp, by simp⟩) j d hj
      simpa using this
    · refine evalT_lies b _ h.2 fun j d hj => ?_
      have := dset_lies (xs := xs) (k := 0) (i := i) (f := fun d => ⟨d.lo, d.hi, c :: d.ne, d.md⟩) (by simpa [Lies] using hl) (fun d hd => ⟨hd.1, hd.2.1, fun x hx => by
        rcases List.mem_cons.1 hx with rfl | hx
        · simpa using e
        · exact hd.2.2.1 x hx, hd.2.2.2⟩) j d hj
      simpa using this
  | .lt i c a b, ds, h, hl => by
    unfold evalT at h
    rw [Bool.and_eq_true] at h
    by_cases e : xs i < c
    · refine evalT_lies a _ h.1 fun j d hj => ?_
      have := dset_lies (xs := xs) (k := 0) (i := i) (f := fun d => ⟨d.lo, if ilt (c - 1) d.hi then c - 1 else d.hi, d.ne, d.md⟩) (by simpa [Lies] using hl) (fun d hd => ⟨hd.1, by
        have := hd.2.1
        simp only [Nat.zero_add] at this ⊢
        split <;> omega, hd.2.2⟩) j d hj
      simpa using this
    · refine evalT_lies b _ h.2 fun j d hj => ?_
      have := dset_lies (xs := xs) (k := 0) (i := i) (f := fun d => ⟨if ilt d.lo c then c else d.lo, d.hi, d.ne, d.md⟩) (by simpa [Lies] using hl) (fun d hd => ⟨by
        have := hd.1
        simp only [Nat.zero_add] at this ⊢
        split <;> omega, hd.2.1, hd.2.2⟩) j d hj
      simpa using this
  | .md i c f, ds, h, hl => by
    unfold evalT at h
    rw [Bool.and_eq_true, Bool.and_eq_true] at h
    obtain ⟨⟨h0, hc⟩, h⟩ := h
    rw [ltb_iff] at hc
    unfold nnD at h0
    cases hd : dget ds i with
    | none => rw [hd] at h0; cases h0
    | some d =>
      rw [hd] at h0
      rw [dget_eq] at hd
      have hlo := (hl i d hd).1
      simp only [ilt_eq, Bool.not_eq_true', decide_eq_false_iff_not] at h0
      have hr : 0 ≤ (xs i).tmod c := Int.tmod_nonneg _ (by omega)
      have hr2 : (xs i).tmod c < c := Int.tmod_lt_of_pos _ (by omega)
      refine evalT_lies (f ((xs i).tmod c).toNat) _ (allN_iff.1 h _ (by omega)) fun j d hj => ?_
      have := dset_lies (xs := xs) (k := 0) (i := i) (f := fun d => ⟨d.lo, d.hi, d.ne, (Int.ofNat c, Int.ofNat ((xs i).tmod c).toNat) :: d.md⟩) (by simpa [Lies] using hl) (fun d hd => ⟨hd.1, hd.2.1, hd.2.2.1, fun p hp => by
        rcases List.mem_cons.1 hp with rfl | hp
        · simp only [Nat.zero_add, Int.ofNat_eq_natCast]; omega
        · exact hd.2.2.2 p hp⟩) j d hj
      simpa using this

/-- where the cells of a kind lie -/
def dom0 : Option IntKind → Dm
  | none => ⟨0, 1, [], []⟩
  | some .i8 => ⟨-128, 127, [], []⟩
  | some .i16 => ⟨-32768, 32767, [], []⟩
  | some .i32 => ⟨-2147483648, 2147483647, [], []⟩
  | some .i64 => ⟨-9223372036854775808, 9223372036854775807, [], []⟩
  | some .u8 => ⟨0, 255, [], []⟩
  | some .u16 => ⟨0, 65535, [], []⟩
  | some .u32 => ⟨0, 4294967295, [], []⟩
  | some .u64 => ⟨0, 18446744073709551615, [], []⟩
theorem dom0_has {k : Option IntKind} {c : Value} (h : okCell k c) : (dom0 k).has (cellN c) := by
  cases k with
  | none => obtain ⟨b, rfl⟩ := h; cases b <;> exact ⟨by decide, by decide, by simp [dom0], by simp [dom0]⟩
  | some k =>
    obtain ⟨n, rfl, hw⟩ := h
    show (dom0 (some k)).has n
    cases k
    · have := bounds_i8 hw; exact ⟨this.1, this.2, by simp [dom0], by simp [dom0]⟩
    · have := bounds_i16 hw; exact ⟨this.1, this.2, by simp [dom0], by simp [dom0]⟩
    · have := bounds_i32 hw; exact ⟨this.1, this.2, by simp [dom0], by simp [dom0]⟩
    · have := bounds_i64 hw; exact ⟨this.1, this.2, by simp [dom0], by simp [dom0]⟩
    · have := bounds_u8 hw; exact ⟨this.1, this.2, by simp [dom0], by simp [dom0]⟩
    · have := bounds_u16 hw; exact ⟨this.1, this.2, by simp [dom0], by simp [dom0]⟩
    · have := bounds_u32 hw; exact ⟨this.1, this.2, by simp [dom0], by simp [dom0]⟩
    · have := bounds_u64 hw; exact ⟨this.1, this.2, by simp [dom0], by simp [dom0]⟩
theorem dom0_lies : ∀ {ks : List (Option IntKind)} {cs : List Value} (j : Nat) (d : Dm), Cl ks cs → (ks.map dom0)[j]? = some d → ∃ c, cs[j]? = some c ∧ d.has (cellN c)
  | [], cs, j, d, _, e => by simp at e
  | k :: ks, cs, j, d, ⟨c, cs', e0, h1, h2⟩, e => by
    subst e0
    cases j with
    | zero => simp at e; subst e; exact ⟨c, by simp, dom0_has h1⟩
    | succ j => simpa using dom0_lies j d h2 (by simpa using e)

noncomputable def isTrue (r : R) : Bool := match r with | some (.bool true, _) => true | _ => false
noncomputable def h0 : H := .mk (.s .k0 .k0 .k0) .nil

/-- one leaf -/
noncomputable def leaf (orc : Orc) (tab : Tr IFn) (n f : Nat) (sh : Sh) (D : List (Bool × Int)) (ds : List Dm) : Bool :=
  detA sh ds && isTrue ((env (SyB ds D) orc tab n).callV (.fn f [] []) (mkArgs sh 0 ds) h0 fun v h => some (v, h))

theorem rel_none {cx : Cx} {σ : Nat → Int} {w : World} (h : H) : Rel cx σ (fun _ => none) h w := ⟨fun _ _ h => (by cases h), fun _ _ _ _ h => (by cases h), fun _ _ _ h => (by cases h)⟩

theorem law_core {P : Program} {cx : Cx} {orc : Orc} {tab : Tr IFn} (hy : Hyp P cx) (hm : P.follows .mixedOrders = true) (hon : OrcNat orc) (hoo : ∀ σ, OrcOk P cx σ orc) (htab : TabOk P cx tab) (n f : Nat) (sh : Sh) (D : List (Bool × Int)) (hsz : total sh ≤ 1000)
    (t : Tree) {d0 : List Dm} (hrun : evalT (leaf orc tab n f sh D) t d0 = true) (vs : Array Value) (hvs : ArgsOk sh vs.toList) {xs : Nat → Int} (hxs : ∀ (j : Nat) (c : Value), (allCells sh vs.toList)[j]? = some c → xs j = cellN c) (hlies : Lies xs d0) (hE : EOk xs D) (w : World) :
    Calls P f vs w fun e w' => e = .returned (.bool true) ∧ w'.os = w.os ∧ w'.output = w.output ∧ w'.tape = w.tape ∧ ∀ (B : Nat) (o : Obj), w.heap[B]? = some o → w'.heap[B]? = some o := by
  obtain ⟨ds, hleaf, hl⟩ := evalT_lies t _ hrun hlies
  unfold leaf at hleaf
  rw [Bool.and_eq_true] at hleaf
  obtain ⟨hdet, htrue⟩ := hleaf
  cases hr : (env (SyB ds D) orc tab n).callV (.fn f [] []) (mkArgs sh 0 ds) h0 (fun v h => some (v, h)) with
  | none => rw [hr] at htrue; cases htrue
  | some vh =>
    obtain ⟨v, h'⟩ := vh
    rw [hr] at htrue
    have hv : v = .bool true := by
      cases v with
      | bool b => cases b; cases htrue; rfl
      | _ => cases htrue
    subst hv
    have := run_law (syOk (D := D) (P := P) hl hE) hy hm hon (hoo _) htab n hr (rel_none (w := w) h0) (args_rel (D := D) (i := 0) (ι := fun _ => none) hvs hdet (by simpa using hsz) (fun j c hj => by simpa using hxs j c hj) (fun j d hj => by simpa using hl j d hj))
    refine callsIn_wide.1 (CallsIn.mono this ?_)
    rintro e w' ⟨v', ι', rfl, hv', hr', he⟩
    refine ⟨by rw [VR.bool.1 hv'], he.os, he.out, he.tape, fun B o hB => he.keepW B o hB (fun _ _ h => by cases h)⟩

def noE (D : List (Bool × Int)) : Bool := D.all fun e => (isE e).isNone
theorem noE_ok {xs : Nat → Int} {D : List (Bool × Int)} (h : noE D = true) : EOk xs D := fun e he c i j hj => by
  have := List.all_eq_true.1 h e he
  rw [hj] at this; cases this
/-- A LAW: wherever the tree's leaves run through, the law returns true, and the memory has blocks more alone. -/
theorem law_true {P : Program} {cx : Cx} {orc : Orc} {tab : Tr IFn} (hy : Hyp P cx) (hm : P.follows .mixedOrders = true) (hon : OrcNat orc) (hoo : ∀ σ, OrcOk P cx σ orc) (htab : TabOk P cx tab) (n f : Nat) (sh : Sh) (D : List (Bool × Int)) (hsz : total sh ≤ 1000 ∧ noE D = true)
    (t : Tree) (hrun : evalT (leaf orc tab n f sh D) t ((sh.flatMap (·.2)).map dom0) = true) (vs : Array Value) (hvs : ArgsOk sh vs.toList) (w : World) :
    Calls P f vs w fun e w' => e = .returned (.bool true) ∧ w'.os = w.os ∧ w'.output = w.output ∧ w'.tape = w.tape ∧ ∀ (B : Nat) (o : Obj), w.heap[B]? = some o → w'.heap[B]? = some o := by
  have hxs : ∀ (j : Nat) (c : Value), (allCells sh vs.toList)[j]? = some c → (fun i => cellN ((allCells sh vs.toList).getD i undef)) j = cellN c := fun j c hj => by simp [hj]
  exact law_core hy hm hon hoo htab n f sh D hsz.1 t hrun vs hvs hxs (fun j d hj => by
    obtain ⟨c, h1, h2⟩ := dom0_lies j d (allCells_cl hvs) hj
    rw [hxs j c h1]; exact h2) (noE_ok hsz.2) w

/-- the symbols that are remainders of other ones -/
def exts (D : List (Bool × Int)) : List (Nat × Nat × Nat) := D.filterMap isE
def goodE (sh : Sh) (D : List (Bool × Int)) : Bool := (exts D).zipIdx.all fun p => p.1.2.2 == total sh + p.2 && decide (p.1.2.1 < total sh) && decide (0 < p.1.1) && decide (p.1.2.2 < 1000) &&
  (match ((sh.flatMap (·.2)).map dom0)[p.1.2.1]? with | some d => decide (0 ≤ d.lo) | none => false)
def domE (sh : Sh) (D : List (Bool × Int)) : List Dm := (sh.flatMap (·.2)).map dom0 ++ (exts D).map fun e => ⟨0, Int.ofNat (e.1 - 1), [], []⟩
theorem flat_total (sh : Sh) : (sh.flatMap (·.2)).length = total sh := by
  induction sh with
  | nil => rfl
  | cons a sh ih => show (a.2 ++ sh.flatMap (·.2)).length = a.2.length + total sh; rw [List.length_append, ih]
/-- the same, with symbols that are remainders of other ones -/
theorem law_trueE {P : Program} {cx : Cx} {orc : Orc} {tab : Tr IFn} (hy : Hyp P cx) (hm : P.follows .mixedOrders = true) (hon : OrcNat orc) (hoo : ∀ σ, OrcOk P cx σ orc) (htab : TabOk P cx tab) (n f : Nat) (sh : Sh) (D : List (Bool × Int)) (hsz : total sh ≤ 1000 ∧ goodE sh D = true)
    (t : Tree) (hrun : evalT (leaf orc tab n f sh D) t (domE sh D) = true) (vs : Array Value) (hvs : ArgsOk sh vs.toList) (w : World) :
    Calls P f vs w fun e w' => e = .returned (.bool true) ∧ w'.os = w.os ∧ w'.output = w.output ∧ w'.tape = w.tape ∧ ∀ (B : Nat) (o : Obj), w.heap[B]? = some o → w'.heap[B]? = some o := by
  let ys : Nat → Int := fun i => cellN ((allCells sh vs.toList).getD i undef)
  have hys : ∀ (j : Nat) (c : Value), (allCells sh vs.toList)[j]? = some c → ys j = cellN c := fun j c hj => by simp [ys, hj]
  have hlen : (allCells sh vs.toList).length = total sh := by rw [(allCells_cl hvs).length, flat_total]
  have hl0 : Lies ys ((sh.flatMap (·.2)).map dom0) := fun j d hj => by
    obtain ⟨c, h1, h2⟩ := dom0_lies j d (allCells_cl hvs) hj
    rw [hys j c h1]; exact h2
  have hgood : ∀ (q : Nat) (e : Nat × Nat × Nat), (exts D)[q]? = some e → e.2.2 = total sh + q ∧ e.2.1 < total sh ∧ 0 < e.1 ∧ e.2.2 < 1000 ∧ 0 ≤ ys e.2.1 := fun q e he => by
    have hm : (e, q) ∈ (exts D).zipIdx := by rw [List.mem_zipIdx_iff_getElem?]; exact he
    have := List.all_eq_true.1 hsz.2 _ hm
    simp only [Bool.and_eq_true, beq_iff_eq, decide_eq_true_eq] at this
    obtain ⟨⟨⟨⟨h1, h2⟩, h3⟩, h4⟩, h5⟩ := this
    refine ⟨h1, h2, h3, h4, ?_⟩
    split at h5
    · rename_i d hd
      have := (hl0 _ d hd).1
      simp only [decide_eq_true_eq] at h5
      omega
    · cases h5
  let xs : Nat → Int := fun i => if i < total sh then ys i else match (exts D)[i - total sh]? with | some e => (ys e.2.1).tmod e.1 | none => 0
  have hlow : ∀ i, i < total sh → xs i = ys i := fun i hi => by simp [xs, hi]
  have hup : ∀ q e, (exts D)[q]? = some e → xs (total sh + q) = (ys e.2.1).tmod e.1 := fun q e he => by
    simp only [xs]; rw [if_neg (by omega), Nat.add_sub_cancel_left, he]
  refine law_core hy hm hon hoo htab n f sh D hsz.1 t hrun vs hvs (xs := xs) (fun j c hj => ?_) (fun j d hj => ?_) (fun e he c i j hj => ?_) w
  · rw [hlow j (by have := (List.getElem?_eq_some_iff.1 hj).1; omega)]; exact hys j c hj
  · unfold domE at hj
    have hl1 : ((sh.flatMap (·.2)).map dom0).length = total sh := by rw [List.length_map, flat_total]
    by_cases hlt : j < total sh
    · rw [List.getElem?_append_left (by omega)] at hj
      rw [hlow j hlt]; exact hl0 j d hj
    · rw [List.getElem?_append_right (by omega), hl1, List.getElem?_map] at hj
      cases hq : (exts D)[j - total sh]? with
      | none => rw [hq] at hj; cases hj
      | some e =>
        rw [hq] at hj
        cases hj
        obtain ⟨h1, h2, h3, h4, h5⟩ := hgood _ _ hq
        have := hup _ _ hq
        rw [show total sh + (j - total sh) = j by omega] at this
        rw [this]
        have hr : 0 ≤ (ys e.2.1).tmod e.1 := Int.tmod_nonneg _ h5
        have hr2 : (ys e.2.1).tmod e.1 < e.1 := Int.tmod_lt_of_pos _ (by omega)
        exact ⟨hr, by show _ ≤ Int.ofNat (e.1 - 1); simp only [Int.ofNat_eq_natCast]; omega, by simp, by simp⟩
  · have hm : (c, i, j) ∈ exts D := List.mem_filterMap.2 ⟨e, he, hj⟩
    obtain ⟨q, hq⟩ := List.mem_iff_getElem?.1 hm
    obtain ⟨h1, h2, h3, h4, h5⟩ := hgood _ _ hq
    have h1 : j = total sh + q := h1
    refine ⟨h3, h4, ?_⟩
    rw [h1, hup q _ hq, hlow i h2]
end Go.Ab

/- A program's tables; the contract of a function of no argument that returns true. -/
namespace Go.Ab

theorem tyTab_get (l : List TypeInfo) : ∀ (n : Nat) (t : Tr TypeInfo) (i : Nat), (tyTab l n t).get (Pos.of i) = if n ≤ i ∧ i < n + l.length then l[i - n]? else t.get (Pos.of i) := by
  induction l with
  | nil => intro n t i; rw [if_neg (by simp)]; rfl
  | cons v l ih =>
    intro n t i
    show (tyTab l (Nat.succ n) (Tr.put (Pos.of n) v t)).get (Pos.of i) = _
    rw [ih]
    simp only [List.length_cons]
    by_cases e : i = n
    · subst e; rw [if_neg (by omega), if_pos (by omega), Tr.get_put_same]; simp
    · by_cases hin : Nat.succ n ≤ i ∧ i < Nat.succ n + l.length
      · rw [if_pos hin, if_pos (by omega), show i - n = (i - Nat.succ n) + 1 by omega]; simp
      · rw [if_neg hin, if_neg (by omega), Tr.get_put_ne _ _ _ _ (Pos.of_ne e)]

theorem fnTab_get (cx : Cx) (l : List Func) : ∀ (n : Nat) (t : Tr IFn) (i : Nat) (x : IFn), (fnTab cx l n t).get (Pos.of i) = some x → (n ≤ i ∧ ∃ f, l[i - n]? = some f ∧ compF cx f = some x) ∨ t.get (Pos.of i) = some x := by
  induction l with
  | nil => intro n t i x h; exact .inr h
  | cons v l ih =>
    intro n t i x h
    have h : (fnTab cx l (Nat.succ n) (Option.rec (motive := fun _ => Tr IFn) t (fun x => Tr.put (Pos.of n) x t) (compF cx v))).get (Pos.of i) = some x := h
    rcases ih _ _ _ _ h with ⟨h1, f, h2, h3⟩ | h1
    · left
      refine ⟨by omega, f, ?_, h3⟩
      rw [show i - n = (i - Nat.succ n) + 1 by omega]; simpa using h2
    · cases hc : compF cx v with
      | none => rw [hc] at h1; exact .inr h1
      | some y =>
        rw [hc] at h1
        have h1 : (Tr.put (Pos.of n) y t).get (Pos.of i) = some x := h1
        by_cases e : i = n
        · subst e; rw [Tr.get_put_same] at h1; cases h1; exact .inl ⟨Nat.le_refl _, v, by simp, hc⟩
        · rw [Tr.get_put_ne _ _ _ _ (Pos.of_ne e)] at h1; exact .inr h1

noncomputable def eqsOf (P : Program) (t : TypeId) : Bool := !P.stoodInHeld t && !P.eqGuardType P.depth t

theorem hyp_of {P : Program} {TT : Tr TypeInfo} (ht : TT = tyTab P.types.toList 0 .nil) : Hyp P ⟨tyGet TT, eqsOf P⟩ where
  ti := by
    intro t i h
    have h : TT.get (Pos.of t) = some i := h
    rw [ht, tyTab_get] at h
    split at h
    · rename_i hlt
      have hlt : t < P.types.size := by simpa using hlt.2
      show (if t < P.types.size then P.types[t]? else _) = some i
      rw [if_pos hlt]
      simpa using h
    · rw [Tr.get_nil] at h; cases h
  eqs := by
    intro t h
    have h : (!P.stoodInHeld t && !P.eqGuardType P.depth t) = true := h
    rw [Bool.and_eq_true, Bool.not_eq_true', Bool.not_eq_true'] at h
    exact h

theorem tab_of {P : Program} {cx : Cx} {FT : Tr IFn} (hf : FT = fnTab cx P.funcs.toList 0 .nil) (hn : (P.funcs.toList.all fun fn => !(fn.name == "runtime.NumGoroutine")) = true) : TabOk P cx FT where
  ok := by
    intro f x h
    rw [hf] at h
    rcases fnTab_get cx _ _ _ _ _ h with ⟨_, fn, h1, h2⟩ | h1
    · have h1 : P.funcs[f]? = some fn := by simpa using h1
      have hb : ∃ c, fn.body = some c := by
        unfold compF at h2
        cases hb : fn.body with
        | none => rw [hb] at h2; simp at h2
        | some c => exact ⟨c, rfl⟩
      obtain ⟨c, hb⟩ := hb
      have := List.all_eq_true.1 hn fn (by have := List.mem_of_getElem? (l := P.funcs.toList) (i := f) (by simpa using h1); exact this)
      exact ⟨fn, c, h1, hb, h2, by simpa using this⟩
    · rw [Tr.get_nil] at h1; cases h1

def noOrc : Orc := fun _ _ _ => none
theorem noOrc_nat : OrcNat noOrc := fun _ _ _ _ h => by cases h
theorem noOrc_ok {P : Program} {cx : Cx} {σ : Nat → Int} : OrcOk P cx σ noOrc := fun _ _ _ _ _ _ h => by cases h

/-- a function that takes nothing and returns true -/
noncomputable def trueOrc (g : Nat) : Orc := fun f args h => match args with
  | [] => if Nat.beq f g then some (fun k => k (.bool true) h) else none
  | _ :: _ => none
theorem trueOrc_nat (g : Nat) : OrcNat (trueOrc g) := by
  intro f args h c e
  unfold trueOrc at e
  split at e
  · split at e
    · cases e; exact CpK.ret _ _
    · cases e
  · cases e

def Kept (w w' : World) : Prop := w'.os = w.os ∧ w'.output = w.output ∧ w'.tape = w.tape ∧ ∀ (B : Nat) (o : Obj), w.heap[B]? = some o → w'.heap[B]? = some o
theorem kept_size {w w' : World} (h : Kept w w') : w.heap.size ≤ w'.heap.size := by
  rcases Nat.eq_zero_or_pos w.heap.size with e | e
  · omega
  · have h1 : w.heap[w.heap.size - 1]? = some w.heap[w.heap.size - 1] := Array.getElem?_eq_getElem (by omega)
    have := lt_of_some (h.2.2.2 _ _ h1)
    omega
theorem trueOrc_ok {P : Program} {cx : Cx} {σ : Nat → Int} {g : Nat} {fn : Func} {c : Code} (h1 : P.funcs[g]? = some fn) (h2 : fn.body = some c) (h3 : (fn.name == "runtime.NumGoroutine") = false)
    (hcall : ∀ w : World, Calls P g #[] w fun e w' => e = .returned (.bool true) ∧ Kept w w') : OrcOk P cx σ (trueOrc g) := by
  intro f args h c k r e hx
  unfold trueOrc at e
  split at e
  · split at e
    · rename_i hf
      rw [Nat.beq_eq] at hf
      subst hf
      cases e
      refine ⟨_, _, hx, fun ι w xs hr hv => ?_⟩
      have hxs : xs = #[] := by have := VRL.nil.1 hv; simpa using this
      subst hxs
      refine ⟨run_callFunc h1 h2 h3 _ _, ?_⟩
      have := callsIn_wide (n := 0).2 (hcall w)
      refine CallsIn.mono (callsIn_Fz (ro := none) this) ?_
      rintro e w' ⟨rfl, hk⟩
      have hsz := kept_size hk
      refine ⟨.bool true, ι, rfl, rfl, ⟨fun b l hb => by have := hr.bound b l hb; exact ⟨this.1, by omega⟩, hr.inj, fun b l o hb ho => (hr.obj b l o hb ho).other fun x hx => hk.2.2.2 _ _ hx⟩, ?_⟩
      exact ⟨Le.refl _, fun _ _ e n => no_some e n, fun _ _ _ => rfl, Nat.le_refl _, fun B o hB _ => hk.2.2.2 B o hB, hsz, fun _ _ e n => no_some e n, hk.1, hk.2.1, hk.2.2.1, .same hk.2.2.2⟩
    · cases e
  · cases e
end Go.Ab

/- The limit of the environments: what is so from some depth on. Equations without a depth. -/
namespace Go.Ab
noncomputable def Env.call (E : Env) : Nat → List V → H → K → R := Env.rec (motive := fun _ => Nat → List V → H → K → R) (fun c _ _ => c) E
noncomputable def Env.round (E : Env) : Pos → List V → H → K → R := Env.rec (motive := fun _ => Pos → List V → H → K → R) (fun _ r _ => r) E
noncomputable def Env.loop (E : Env) : IC → T → H → (T → H → R) → (Option Nat → T → H → R) → R := Env.rec (motive := fun _ => IC → T → H → (T → H → R) → (Option Nat → T → H → R) → R) (fun _ _ l => l) E
theorem Env.eta (E : Env) : E = .mk E.call E.round E.loop := by cases E; rfl

abbrev KXT := (T → H → R) × (Option Nat → T → H → R)
section th
variable {I : Type} (U : (I → Prop) → Prop)
structure Adm : Prop where
  tt : U fun _ => True
  inter : ∀ u v, U u → U v → U fun i => u i ∧ v i
def Th {κ : Type} (Ret : (κ → R) → Prop) (F : I × κ → R) : Prop :=
  (∀ i k, F (i, k) = none) ∨ ∃ g u, Ret g ∧ U u ∧ ∀ i k, (u i → F (i, k) = g k) ∧ (¬ u i → F (i, k) = none)
def RetB {β : Type} (g : (β → R) → R) : Prop := ∃ v, g = fun k => k v
def RetK (g : K → R) : Prop := ∃ v h, g = fun k => k v h
def RetT (g : (T → H → R) → R) : Prop := ∃ t h, g = fun k => k t h
def RetE (g : (T → H → R) × (Option Nat → T → H → R) → R) : Prop := (∃ t h, g = fun k => k.1 t h) ∨ ∃ e t h, g = fun k => k.2 e t h
variable {U}
theorem Th.no {κ : Type} {Ret : (κ → R) → Prop} : Th U Ret fun _ => none := .inl fun _ _ => rfl
theorem Th.ret (hU : Adm U) {κ : Type} {Ret : (κ → R) → Prop} {g : κ → R} (hg : Ret g) : Th U Ret fun x => g x.2 := .inr ⟨g, _, hg, hU.tt, fun _ _ => ⟨fun _ => rfl, fun n => absurd trivial n⟩⟩
theorem Th.retK (hU : Adm U) (v : V) (h : H) : Th U RetK fun x => x.2 v h := Th.ret hU (Ret := RetK) (g := fun k : K => k v h) ⟨v, h, rfl⟩
theorem Th.retT (hU : Adm U) (t : T) (h : H) : Th U RetT fun x => x.2 t h := Th.ret hU (Ret := RetT) (g := fun k : T → H → R => k t h) ⟨t, h, rfl⟩
theorem Th.retB (hU : Adm U) {β : Type} (v : β) : Th U RetB fun x => x.2 v := Th.ret hU (Ret := RetB) (g := fun k : β → R => k v) ⟨v, rfl⟩
theorem Th.retE (hU : Adm U) (t : T) (h : H) : Th U RetE fun x => x.2.1 t h := Th.ret hU (Ret := RetE) (g := fun k : (T → H → R) × (Option Nat → T → H → R) => k.1 t h) (.inl ⟨t, h, rfl⟩)
theorem Th.outE (hU : Adm U) (e : Option Nat) (t : T) (h : H) : Th U RetE fun x => x.2.2 e t h := Th.ret hU (Ret := RetE) (g := fun k : (T → H → R) × (Option Nat → T → H → R) => k.2 e t h) (.inr ⟨e, t, h, rfl⟩)
/-- behind a family -/
theorem Th.bind (hU : Adm U) {α κ : Type} {RA : (α → R) → Prop} {Ret : (κ → R) → Prop} {F : I × α → R} (hF : Th U RA F) {J : I × κ → α} (hR : ∀ g, RA g → ∃ G : I × κ → R, Th U Ret G ∧ ∀ x, g (J x) = G x) :
    Th U Ret fun x => F (x.1, J x) := by
  rcases hF with h | ⟨g, u, hg, hu, h⟩
  · exact .inl fun i k => h _ _
  · obtain ⟨G, hG, he⟩ := hR g hg
    rcases hG with h2 | ⟨g2, u2, hg2, hu2, h2⟩
    · refine .inl fun i k => ?_
      by_cases hi : u i
      · show F (i, J (i, k)) = none
        rw [(h i _).1 hi, he, h2]
      · exact (h i _).2 hi
    · refine .inr ⟨g2, fun i => u i ∧ u2 i, hg2, hU.inter u u2 hu hu2, fun i k => ⟨fun hi => ?_, fun hi => ?_⟩⟩
      · show F (i, J (i, k)) = _
        rw [(h i _).1 hi.1, he, (h2 i k).1 hi.2]
      · show F (i, J (i, k)) = _
        by_cases h1 : u i
        · rw [(h i _).1 h1, he, (h2 i k).2 fun h3 => hi ⟨h1, h3⟩]
        · exact (h i _).2 h1
theorem Th.bindK (hU : Adm U) {κ : Type} {Ret : (κ → R) → Prop} {F : I × K → R} (hF : Th U RetK F) {G : V → H → I × κ → R} (hG : ∀ v h, Th U Ret (G v h)) : Th U Ret fun x => F (x.1, fun v h => G v h x) :=
  .bind hU hF fun _ ⟨v, h, e⟩ => ⟨G v h, hG v h, fun x => by rw [e]⟩
theorem Th.bindT (hU : Adm U) {κ : Type} {Ret : (κ → R) → Prop} {F : I × (T → H → R) → R} (hF : Th U RetT F) {G : T → H → I × κ → R} (hG : ∀ v h, Th U Ret (G v h)) : Th U Ret fun x => F (x.1, fun v h => G v h x) :=
  .bind hU hF fun _ ⟨v, h, e⟩ => ⟨G v h, hG v h, fun x => by rw [e]⟩
theorem Th.bindB (hU : Adm U) {β κ : Type} {Ret : (κ → R) → Prop} {F : I × (β → R) → R} (hF : Th U RetB F) {G : β → I × κ → R} (hG : ∀ v, Th U Ret (G v)) : Th U Ret fun x => F (x.1, fun v => G v x) :=
  .bind hU hF fun _ ⟨v, e⟩ => ⟨G v, hG v, fun x => by rw [e]⟩
theorem Th.bindE (hU : Adm U) {κ : Type} {Ret : (κ → R) → Prop} {F : I × ((T → H → R) × (Option Nat → T → H → R)) → R} (hF : Th U RetE F) {G : T → H → I × κ → R} {G' : Option Nat → T → H → I × κ → R} (hG : ∀ v h, Th U Ret (G v h)) (hG' : ∀ e v h, Th U Ret (G' e v h)) :
    Th U Ret fun x => F (x.1, (fun v h => G v h x, fun e v h => G' e v h x)) :=
  .bind hU hF fun _ hr => by
    rcases hr with ⟨v, h, e⟩ | ⟨x, v, h, e⟩
    · exact ⟨G v h, hG v h, fun y => by rw [e]⟩
    · exact ⟨G' x v h, hG' x v h, fun y => by rw [e]⟩

structure EnvTh (U : (I → Prop) → Prop) (E : I → Env) : Prop where
  call : ∀ f args h, Th U RetK fun x => (E x.1).call f args h x.2
  round : ∀ l args h, Th U RetK fun x => (E x.1).round l args h x.2
  loop : ∀ b t h, Th U RetE fun x => (E x.1).loop b t h x.2.1 x.2.2

theorem no_nat : EnvNat (fun _ _ _ _ => none) (fun _ _ _ _ => none) (fun _ _ _ _ _ => none) := ⟨fun _ _ _ => CpK.no, fun _ _ _ => CpK.no, fun _ _ _ => CpE.no⟩
noncomputable def E0 : Env := .mk (fun _ _ _ _ => none) (fun _ _ _ _ => none) (fun _ _ _ _ _ => none)
theorem callV_fn (E : Env) (f : Nat) (fs cs args : List V) (h : H) (k : K) : E.callV (.fn f fs cs) args h k = E.call f (app fs (app args cs)) h k := by cases E; rfl
theorem callV_yield (E : Env) (l : Pos) (args : List V) (h : H) (k : K) : E.callV (.yield l) args h k = E.round l args h k := by cases E; rfl
theorem callFn_fn (E : Env) (f : Nat) (fs cs args : List V) (h : H) (k : K) : E.callFn (.fn f fs cs) args h k = E.call f (app fs (app args cs)) h k := by cases E; rfl
variable {E : I → Env} {S : Sy}
theorem callV_th (hE : EnvTh U E) (f : V) (args : List V) (h : H) : Th U RetK fun x => (E x.1).callV f args h x.2 := by
  cases f with
  | fn f a b => simp only [callV_fn]; exact hE.call _ _ _
  | yield l => simp only [callV_yield]; exact hE.round _ _ _
  | _ => exact Th.no
theorem callFn_th (hE : EnvTh U E) (f : V) (args : List V) (h : H) : Th U RetK fun x => (E x.1).callFn f args h x.2 := by
  cases f with
  | fn f a b => simp only [callFn_fn]; exact hE.call _ _ _
  | _ => exact Th.no
theorem exec_env (S : Sy) (A B : Env) (op : IOp) (hc : ∀ f as, op ≠ .call f as) (t : T) (h : H) (k : K) : exec S A op t h k = exec S B op t h k := by
  cases op <;> first | rfl | exact absurd rfl (hc _ _)
theorem exec_th (hU : Adm U) (hE : EnvTh U E) (op : IOp) (t : T) (h : H) : Th U RetK fun x => exec S (E x.1) op t h x.2 := by
  by_cases hc : ∃ f as, op = .call f as
  · obtain ⟨f, as, rfl⟩ := hc
    exact callV_th hE (f.ev t) (evs as t) h
  · have e := fun i k => exec_env S (E i) E0 op (fun f as e => hc ⟨f, as, e⟩) t h k
    rcases exec_nat (S := S) no_nat op t h with h1 | ⟨v, h', h1⟩
    · exact .inl fun i k => by show exec S (E i) op t h k = _; rw [e]; exact h1 k
    · exact .inr ⟨fun k => k v h', _, ⟨v, h', rfl⟩, hU.tt, fun i k => ⟨fun _ => by show exec S (E i) op t h k = _; rw [e]; exact h1 k, fun n => absurd trivial n⟩⟩
theorem opers_th (hU : Adm U) (hE : EnvTh U E) (l : List IOpr) : ∀ t h, Th U RetT fun x => opers S l (E x.1) t h x.2 := by
  induction l with
  | nil => intro t h; exact .retT hU t h
  | cons o l ih =>
    intro t h
    obtain ⟨d, g, late, op⟩ := o
    exact wantK_nat no_nat (P := Th U RetT) g t (ih _ _) (Th.bindK hU (exec_th hU hE op t h) fun v h' => ih _ _)
theorem rechk_th (hU : Adm U) (hE : EnvTh U E) (h : H) (l : List Pend) : Th U RetB fun x => rechk S (E x.1) h l x.2 := by
  induction l with
  | nil => exact .retB hU _
  | cons p l ih =>
    obtain ⟨n, op, t, v⟩ := p
    cases n with
    | zero => exact ih
    | succ n =>
      change Th U RetB fun x => exec S (E x.1) op t h fun v' _ => ifK (vsame v v') (rechk S (E x.1) h l fun l' => x.2 (⟨n, op, t, v⟩ :: l'))
      exact Th.bindK hU (exec_th hU hE op t h) (G := fun v' _ (x : I × (List Pend → R)) => ifK (vsame v v') (rechk S (E x.1) h l fun l' => x.2 (⟨n, op, t, v⟩ :: l'))) fun v' _ => Gn.ifK (P := Th U RetB) Th.no
        (Th.bindB hU (F := fun x => rechk S (E x.1) h l x.2) ih (G := fun l' (x : I × (List Pend → R)) => x.2 (⟨n, op, t, v⟩ :: l')) fun l' => .retB hU (⟨n, op, t, v⟩ :: l'))
theorem opersD_th (hU : Adm U) (hE : EnvTh U E) (l : List IOpr) : ∀ pend t h, Th U RetT fun x => opersD S l (E x.1) pend t h x.2 := by
  induction l with
  | nil => intro _ t h; exact .retT hU t h
  | cons o l ih =>
    intro pend t h
    obtain ⟨d, g, late, op⟩ := o
    refine wantK_nat no_nat (P := Th U RetT) g t (F := fun x => isK3 op (rechk S (E x.1) h pend fun pend' => opersD S l (E x.1) pend' (tset d (.tup []) t) h x.2) (opersD S l (E x.1) pend (tset d (.tup []) t) h x.2))
      (G := fun x => exec S (E x.1) op t h fun v h' => isK3 op (rechk S (E x.1) h' pend fun pend' => opersD S l (E x.1) pend' (tset d v t) h' x.2) (Ab.ifK (mkOk op h) (opersD S l (E x.1) (pendAdd late op t v pend) (tset d v t) h' x.2))) ?_ ?_
    · simp only [isK3_eq no_nat]
      by_cases h3 : op.kind = 3
      · simp only [h3, if_true]; exact Th.bindB hU (rechk_th hU hE h pend) (G := fun pend' (x : I × (T → H → R)) => opersD S l (E x.1) pend' (tset d (.tup []) t) h x.2) fun p => ih _ _ _
      · simp only [h3, if_false]; exact ih _ _ _
    · refine Th.bindK hU (exec_th hU hE op t h) (G := fun v h' (x : I × (T → H → R)) => isK3 op (rechk S (E x.1) h' pend fun pend' => opersD S l (E x.1) pend' (tset d v t) h' x.2) (Ab.ifK (mkOk op h) (opersD S l (E x.1) (pendAdd late op t v pend) (tset d v t) h' x.2))) fun v h' => ?_
      simp only [isK3_eq no_nat]
      by_cases h3 : op.kind = 3
      · simp only [h3, if_true]; exact Th.bindB hU (rechk_th hU hE h' pend) (G := fun pend' (x : I × (T → H → R)) => opersD S l (E x.1) pend' (tset d v t) h' x.2) fun p => ih _ _ _
      · simp only [h3, if_false]; exact Gn.ifK (P := Th U RetT) Th.no (ih _ _ _)
theorem code_loop (S : Sy) (E : Env) (b : IC) (t : T) (h : H) (kn : T → H → R) (kx : Option Nat → T → H → R) : code S (.loop b) E t h kn kx = E.loop b t h kn kx := by cases E; rfl
theorem code_th (hU : Adm U) (hE : EnvTh U E) (c : IC) : ∀ t h, Th U RetE fun x => code S c (E x.1) t h x.2.1 x.2.2 := by
  induction c with
  | skip => intro t h; exact .retE hU t h
  | ret => intro t h; exact .outE hU none t h
  | bad => intro t h; exact Th.no
  | reg ops => intro t h; exact Th.bindT hU (opers_th hU hE ops t h) (G := fun t h (x : I × KXT) => x.2.1 t h) fun t h => .retE hU t h
  | regd ops => intro t h; exact Th.bindT hU (opersD_th hU hE ops [] t h) (G := fun t h (x : I × KXT) => x.2.1 t h) fun t h => .retE hU t h
  | seq a b iha ihb => intro t h; exact Th.bindE hU (iha t h) (G := fun t h (x : I × KXT) => code S b (E x.1) t h x.2.1 x.2.2) (G' := fun e t h (x : I × KXT) => x.2.2 e t h) (fun t h => ihb t h) fun e t h => .outE hU e t h
  | cond c a b iha ihb => intro t h; exact Gn.onBool Th.no fun w => Gn.bool (P := Th U RetE) (ihb t h) (iha t h)
  | block id b ih =>
    intro t h
    exact Th.bindE hU (ih t h) (G := fun t h (x : I × KXT) => x.2.1 t h) (G' := fun e t h (x : I × KXT) => Option.rec (motive := fun _ => R) (x.2.2 none t h) (fun j => Bool.rec (motive := fun _ => R) (x.2.2 (some j) t h) (x.2.1 t h) (Nat.beq j id)) e) (fun t h => .retE hU t h)
      fun e t h => Gn.opt (P := Th U RetE) (.outE hU none t h) fun j => Gn.bool (P := Th U RetE) (.outE hU _ t h) (.retE hU t h)
  | loop b ih => intro t h; simp only [code_loop]; exact hE.loop b t h
  | exit id => intro t h; exact .outE hU (some id) t h
  | rfun f ps as bd _ _ =>
    intro t h
    change Th U RetE fun x => h.alloc (.loop 0 t ps as bd) fun l h1 => Env.callFn (E x.1) (f.ev t) [.yield l] h1 fun _ h2 => h2.loopK l fun st _ _ _ _ => Nat.rec (motive := fun _ => R) (x.2.1 t (h2.put l .dead))
        (fun s _ => Nat.rec (motive := fun _ => R) none (fun s _ => Nat.rec (motive := fun _ => R) (x.2.2 none t (h2.put l .dead)) (fun id _ => x.2.2 (some id) t (h2.put l .dead)) s) s) st
    refine Gn.alloc (P := Th U RetE) fun l h1 => Th.bindK hU (callFn_th hE (f.ev t) [.yield l] h1) (G := fun _ h2 x => h2.loopK l fun st _ _ _ _ => Nat.rec (motive := fun _ => R) (x.2.1 t (h2.put l .dead))
        (fun s _ => Nat.rec (motive := fun _ => R) none (fun s _ => Nat.rec (motive := fun _ => R) (x.2.2 none t (h2.put l .dead)) (fun id _ => x.2.2 (some id) t (h2.put l .dead)) s) s) st) fun _ h2 => loopK_nat no_nat (P := Th U RetE) Th.no h2 l fun st _ _ _ _ => ?_
    cases st with
    | zero => exact .retE hU _ _
    | succ s => cases s with
      | zero => exact Th.no
      | succ s => cases s with
        | zero => exact .outE hU none _ _
        | succ s => exact .outE hU (some s) _ _
theorem runF_th (hU : Adm U) (hE : EnvTh U E) (tab : Tr IFn) (f : Nat) (args : List V) (h : H) : Th U RetK fun x => runF S tab (E x.1) f args h x.2 := by
  unfold runF
  cases tab.get (Pos.of f) with
  | none => exact Th.no
  | some fn =>
  obtain ⟨body, nt, res⟩ := fn
  change Th U RetK fun x => ifK (Nat.ble (llen args) nt) (code S body (E x.1) (ofL args 0 .nil) h (fun t h' => resK res t h' fun vs => x.2 (resV vs) h')
      (fun e t h' => Option.rec (motive := fun _ => R) (resK res t h' fun vs => x.2 (resV vs) h') (fun _ => none) e))
  refine Gn.ifK (P := Th U RetK) Th.no ?_
  refine Th.bindE hU (code_th hU hE body _ h) (G := fun t h' (x : I × K) => resK res t h' fun vs => x.2 (resV vs) h') (G' := fun e t h' (x : I × K) => Option.rec (motive := fun _ => R) (resK res t h' fun vs => x.2 (resV vs) h') (fun _ => none) e) (fun t h' => ?_) fun e t h' => ?_
  · exact Gn.bind (P := Th U RetK) Th.no (resK_nat no_nat res t h') fun vs => .retK hU _ _
  · exact Gn.opt (P := Th U RetK) (Gn.bind (P := Th U RetK) Th.no (resK_nat no_nat res t h') fun vs => .retK hU _ _) fun _ => Th.no
theorem runR_th (hU : Adm U) (hE : EnvTh U E) (l : Pos) (args : List V) (h : H) : Th U RetK fun x => runR S (E x.1) l args h x.2 := by
  unfold runR
  refine loopK_nat no_nat (P := Th U RetK) Th.no h l fun st t ps as bd => Gn.ifK (P := Th U RetK) Th.no (tsets_nat no_nat (P := Th U RetK) Th.no ps args t fun t1 => ?_)
  refine Th.bindE hU (code_th hU hE as t1 h) (G := fun t2 h1 (x : I × K) => h1.loopK l fun st' t' ps' as' bd' => ifK (Nat.beq st' 0) (code S bd (E x.1) t2 (h1.put l (.loop 1 t' ps' as' bd'))
      (fun _ h2 => h2.loopK l fun _ t3 ps3 as3 bd3 => x.2 (.bool true) (h2.put l (.loop 0 t3 ps3 as3 bd3)))
      (fun e _ h2 => h2.loopK l fun _ t3 ps3 as3 bd3 => x.2 (.bool false) (h2.put l (.loop (exitSt e) t3 ps3 as3 bd3))))) (G' := fun _ _ _ _ => none) (fun t2 h1 => ?_) fun e t h => Th.no
  refine loopK_nat no_nat (P := Th U RetK) Th.no h1 l fun st' t' ps' as' bd' => Gn.ifK (P := Th U RetK) Th.no ?_
  refine Th.bindE hU (code_th hU hE bd t2 _) (G := fun _ h2 (x : I × K) => h2.loopK l fun _ t3 ps3 as3 bd3 => x.2 (.bool true) (h2.put l (.loop 0 t3 ps3 as3 bd3))) (G' := fun e _ h2 (x : I × K) => h2.loopK l fun _ t3 ps3 as3 bd3 => x.2 (.bool false) (h2.put l (.loop (exitSt e) t3 ps3 as3 bd3))) (fun _ h2 => ?_) fun e _ h2 => ?_
  · exact loopK_nat no_nat (P := Th U RetK) Th.no h2 l fun _ _ _ _ _ => .retK hU _ _
  · exact loopK_nat no_nat (P := Th U RetK) Th.no h2 l fun _ _ _ _ _ => .retK hU _ _

/-- one depth more -/
noncomputable def deeper (S : Sy) (orc : Orc) (tab : Tr IFn) (E : Env) : Env := .mk (fun f args h k => Option.rec (motive := fun _ => R) (runF S tab E f args h k) (fun c => c k) (orc f args h)) (runR S E)
      (fun b t h kn kx => code S b E t h (fun t h => Env.rec (motive := fun _ => R) (fun _ _ l => l b t h kn kx) E) kx)
theorem env_succ (S : Sy) (orc : Orc) (tab : Tr IFn) (n : Nat) : env S orc tab (n + 1) = deeper S orc tab (env S orc tab n) := rfl
theorem deeper_call (S : Sy) (orc : Orc) (tab : Tr IFn) (E : Env) (f : Nat) (args : List V) (h : H) (k : K) : (deeper S orc tab E).call f args h k = match orc f args h with | none => runF S tab E f args h k | some c => c k := by
  show Option.rec (motive := fun _ => R) (runF S tab E f args h k) (fun c => c k) (orc f args h) = _
  cases orc f args h <;> rfl
theorem deeper_loop (S : Sy) (orc : Orc) (tab : Tr IFn) (E : Env) (b : IC) (t : T) (h : H) (kn : T → H → R) (kx : Option Nat → T → H → R) : (deeper S orc tab E).loop b t h kn kx = code S b E t h (fun t h => E.loop b t h kn kx) kx := by cases E; rfl
theorem deeper_th (hU : Adm U) {orc : Orc} (ho : OrcNat orc) (tab : Tr IFn) (hE : EnvTh U E) : EnvTh U fun i => deeper S orc tab (E i) where
  call := fun f args h => by
    simp only [deeper_call]
    cases hc : orc f args h with
    | none => exact runF_th hU hE tab f args h
    | some c =>
      rcases ho f args h c hc with h1 | ⟨v, h', h1⟩
      · exact .inl fun i k => h1 k
      · exact .inr ⟨fun k => k v h', _, ⟨v, h', rfl⟩, hU.tt, fun i k => ⟨fun _ => h1 k, fun n => absurd trivial n⟩⟩
  round := fun l args h => runR_th hU hE l args h
  loop := fun b t h => by
    simp only [deeper_loop]
    exact Th.bindE hU (code_th hU hE b t h) (G := fun t h (x : I × KXT) => (E x.1).loop b t h x.2.1 x.2.2) (G' := fun e t h (x : I × KXT) => x.2.2 e t h) (fun t h => hE.loop b t h) fun e t h => .outE hU e t h
end th

section limit
variable (S : Sy) (orc : Orc) (tab : Tr IFn)
def Um (u : Bool → Prop) : Prop := u false → u true
theorem Um_adm : Adm Um := ⟨fun _ => trivial, fun _ _ a b h => ⟨a h.1, b h.2⟩⟩
noncomputable def two (n : Nat) : Bool → Env := fun b => env S orc tab (cond b (n + 1) n)
variable {orc}
theorem env_mono (ho : OrcNat orc) (n : Nat) : EnvTh Um (two S orc tab n) := by
  induction n with
  | zero =>
    obtain ⟨c, r, l, e, hn⟩ := env_nat (S := S) ho tab 1
    refine ⟨fun f args h => ?_, fun p args h => ?_, fun b t h => ?_⟩
    · rcases hn.call f args h with h1 | ⟨v, h', h1⟩
      · exact .inl fun i k => by cases i; rfl; show (env S orc tab 1).call f args h k = none; rw [e]; exact h1 k
      · exact .inr ⟨fun k => k v h', fun b => b = true, ⟨v, h', rfl⟩, fun h => (by cases h), fun i k => by
          cases i
          · exact ⟨fun h => (by cases h), fun _ => rfl⟩
          · exact ⟨fun _ => by show (env S orc tab 1).call f args h k = _; rw [e]; exact h1 k, fun h => absurd rfl h⟩⟩
    · rcases hn.round p args h with h1 | ⟨v, h', h1⟩
      · exact .inl fun i k => by cases i; rfl; show (env S orc tab 1).round p args h k = none; rw [e]; exact h1 k
      · exact .inr ⟨fun k => k v h', fun b => b = true, ⟨v, h', rfl⟩, fun h => (by cases h), fun i k => by
          cases i
          · exact ⟨fun h => (by cases h), fun _ => rfl⟩
          · exact ⟨fun _ => by show (env S orc tab 1).round p args h k = _; rw [e]; exact h1 k, fun h => absurd rfl h⟩⟩
    · rcases hn.loop b t h with h1 | ⟨v, h', h1⟩ | ⟨x, v, h', h1⟩
      · exact .inl fun i k => by cases i; rfl; show (env S orc tab 1).loop b t h k.1 k.2 = none; rw [e]; exact h1 k
      · exact .inr ⟨fun k => k.1 v h', fun b => b = true, .inl ⟨v, h', rfl⟩, fun h => (by cases h), fun i k => by
          cases i
          · exact ⟨fun h => (by cases h), fun _ => rfl⟩
          · exact ⟨fun _ => by show (env S orc tab 1).loop b t h k.1 k.2 = _; rw [e]; exact h1 k, fun h => absurd rfl h⟩⟩
      · exact .inr ⟨fun k => k.2 x v h', fun b => b = true, .inr ⟨x, v, h', rfl⟩, fun h => (by cases h), fun i k => by
          cases i
          · exact ⟨fun h => (by cases h), fun _ => rfl⟩
          · exact ⟨fun _ => by show (env S orc tab 1).loop b t h k.1 k.2 = _; rw [e]; exact h1 k, fun h => absurd rfl h⟩⟩
  | succ n ih =>
    have h := deeper_th (S := S) Um_adm ho tab ih
    have e : (fun i => deeper S orc tab (two S orc tab n i)) = two S orc tab (n + 1) := by
      funext i; cases i <;> rfl
    rw [e] at h; exact h

/-- what is so from some depth on -/
noncomputable def lim {κ : Type} (Ret : (κ → R) → Prop) (F : Nat → κ → R) (k : κ) : R := by
  classical exact if x : ∃ g, Ret g ∧ ∃ n, ∀ k, F n k = g k then Classical.choose x k else none
def UL (u : Option Nat → Prop) : Prop := (∀ n, u (some n) → u (some (n + 1))) ∧ (u none ↔ ∃ n, u (some n))
theorem UL.up {u : Option Nat → Prop} (h : UL u) {n m : Nat} (hle : n ≤ m) (hn : u (some n)) : u (some m) := by
  induction hle with
  | refl => exact hn
  | step _ ih => exact h.1 _ ih
theorem UL_adm : Adm UL := ⟨⟨fun _ _ => trivial, ⟨fun _ => ⟨0, trivial⟩, fun _ => trivial⟩⟩, fun u v a b => ⟨fun n h => ⟨a.1 n h.1, b.1 n h.2⟩, ⟨fun h => by
  obtain ⟨n, hn⟩ := a.2.1 h.1
  obtain ⟨m, hm⟩ := b.2.1 h.2
  exact ⟨max n m, a.up (Nat.le_max_left _ _) hn, b.up (Nat.le_max_right _ _) hm⟩, fun ⟨n, h⟩ => ⟨a.2.2 ⟨n, h.1⟩, b.2.2 ⟨n, h.2⟩⟩⟩⟩⟩
noncomputable def some0 : R := some (.tup [], .mk (.s .k0 .k0 .k0) .nil)
theorem lim_th {κ : Type} {Ret : (κ → R) → Prop} (hne : ∀ g, Ret g → ∃ k, g k ≠ none) {F : Nat → κ → R} (hm : ∀ n, Th Um Ret fun x => F (cond x.1 (n + 1) n) x.2) :
    Th UL Ret fun x => match x.1 with | some n => F n x.2 | none => lim Ret F x.2 := by
  have step : ∀ {g} {n : Nat}, Ret g → (∀ k, F n k = g k) → ∀ k, F (n + 1) k = g k := fun {g n} hg h => by
    obtain ⟨k0, hk0⟩ := hne g hg
    rcases hm n with h1 | ⟨g', u, hg', hu, h1⟩
    · exact absurd (h1 false k0) (by show F n k0 ≠ none; rw [h]; exact hk0)
    · have huf : u false := Classical.byContradiction fun hn => absurd ((h1 false k0).2 hn) (by show F n k0 ≠ none; rw [h]; exact hk0)
      intro k
      have a := (h1 true k).1 (hu huf)
      have b := (h1 false k).1 huf
      exact a.trans (b.symm.trans (h k))
  have up : ∀ {g} {n m : Nat}, Ret g → n ≤ m → (∀ k, F n k = g k) → ∀ k, F m k = g k := fun {g n m} hg hle h => by
    induction hle with
    | refl => exact h
    | step _ ih => exact step hg ih
  by_cases x : ∃ g, Ret g ∧ ∃ n, ∀ k, F n k = g k
  · have hx := Classical.choose_spec x
    obtain ⟨hg, n, hn⟩ := hx
    refine .inr ⟨Classical.choose x, fun i => match i with | some m => ∀ k, F m k = Classical.choose x k | none => True, hg, ⟨fun m h => step hg h, ⟨fun _ => ⟨n, hn⟩, fun _ => trivial⟩⟩, fun i k => ?_⟩
    cases i with
    | none => exact ⟨fun _ => by show lim Ret F k = _; unfold lim; rw [dif_pos x], fun h => absurd trivial h⟩
    | some m =>
      refine ⟨fun h => h k, fun h => ?_⟩
      show F m k = none
      rcases hm m with h1 | ⟨g', u, hg', hu, h1⟩
      · exact h1 false k
      · by_cases huf : u false
        · exfalso
          refine h fun k => ?_
          have e : ∀ k, F m k = g' k := fun k => (h1 false k).1 huf
          have a := up hg' (Nat.le_max_left m n) e k
          have b := up hg (Nat.le_max_right m n) hn k
          exact (e k).trans (a.symm.trans b)
        · exact (h1 false k).2 huf
  · refine .inl fun i k => ?_
    cases i with
    | none => show lim Ret F k = _; unfold lim; rw [dif_neg x]
    | some m =>
      show F m k = none
      rcases hm m with h1 | ⟨g', u, hg', hu, h1⟩
      · exact h1 false k
      · by_cases huf : u false
        · exact absurd ⟨g', hg', m, fun k => (h1 false k).1 huf⟩ x
        · exact (h1 false k).2 huf
theorem RetK_ne (g : K → R) (h : RetK g) : ∃ k, g k ≠ none := by obtain ⟨v, h', rfl⟩ := h; exact ⟨fun _ _ => some0, by simp [some0]⟩
theorem RetE_ne (g : (T → H → R) × (Option Nat → T → H → R) → R) (h : RetE g) : ∃ k, g k ≠ none := by
  rcases h with ⟨v, h', rfl⟩ | ⟨e, v, h', rfl⟩ <;> exact ⟨(fun _ _ => some0, fun _ _ _ => some0), by simp [some0]⟩
/-- the same at the end -/
theorem lim_eq {κ : Type} {Ret : (κ → R) → Prop} (hne : ∀ g, Ret g → ∃ k, g k ≠ none) {F : Nat → κ → R} {G G' : κ → R} (h1 : Th UL Ret fun x => match x.1 with | some n => F n x.2 | none => G x.2)
    (h2 : Th UL Ret fun x => match x.1 with | some n => F (n + 1) x.2 | none => G' x.2) (k : κ) : G k = G' k := by
  rcases h1 with h1 | ⟨g, u, hg, hu, h1⟩
  · have e1 : G k = none := h1 none k
    rw [e1]
    rcases h2 with h2 | ⟨g', u', hg', hu', h2⟩
    · exact (h2 none k).symm
    · refine ((h2 none k).2 fun hn => ?_).symm
      obtain ⟨n, hn⟩ := hu'.2.1 hn
      obtain ⟨k0, hk0⟩ := hne g' hg'
      exact hk0 (((h2 (some n) k0).1 hn).symm.trans (h1 (some (n + 1)) k0))
  · by_cases hn : u none
    · obtain ⟨n, hn'⟩ := hu.2.1 hn
      have e1 : G k = g k := (h1 none k).1 hn
      rw [e1]
      have e2 : ∀ k, F (n + 1) k = g k := fun k => (h1 (some (n + 1)) k).1 (hu.1 _ hn')
      obtain ⟨k0, hk0⟩ := hne g hg
      rcases h2 with h2 | ⟨g', u', hg', hu', h2⟩
      · exact absurd ((e2 k0).symm.trans (h2 (some n) k0)) hk0
      · have hun : u' (some n) := Classical.byContradiction fun hx => hk0 ((e2 k0).symm.trans ((h2 (some n) k0).2 hx))
        have a := (h2 none k).1 (hu'.2.2 ⟨n, hun⟩)
        have b : F (n + 1) k = g' k := (h2 (some n) k).1 hun
        exact ((e2 k).symm.trans b).trans a.symm
    · have e1 : G k = none := (h1 none k).2 hn
      rw [e1]
      have e2 : ∀ n k, F n k = none := fun n k => (h1 (some n) k).2 fun hx => hn (hu.2.2 ⟨n, hx⟩)
      rcases h2 with h2 | ⟨g', u', hg', hu', h2⟩
      · exact (h2 none k).symm
      · refine ((h2 none k).2 fun hn => ?_).symm
        obtain ⟨n, hn⟩ := hu'.2.1 hn
        obtain ⟨k0, hk0⟩ := hne g' hg'
        exact hk0 (((h2 (some n) k0).1 hn).symm.trans (e2 (n + 1) k0))

variable (orc) in
/-- THE LIMIT -/
noncomputable def EE : Env := .mk (fun f args h k => lim RetK (fun n k => (env S orc tab n).call f args h k) k) (fun l args h k => lim RetK (fun n k => (env S orc tab n).round l args h k) k)
  (fun b t h kn kx => lim RetE (fun n (k : (T → H → R) × (Option Nat → T → H → R)) => (env S orc tab n).loop b t h k.1 k.2) (kn, kx))
variable (orc) in
noncomputable def fam : Option Nat → Env := fun i => match i with | some n => env S orc tab n | none => EE S orc tab
theorem fam_th (ho : OrcNat orc) : EnvTh UL (fam S orc tab) where
  call := fun f args h => by
    have := lim_th RetK_ne (F := fun n k => (env S orc tab n).call f args h k) fun n => (env_mono S tab ho n).call f args h
    have e : (fun x : Option Nat × K => (fam S orc tab x.1).call f args h x.2) = fun x => match x.1 with | some n => (env S orc tab n).call f args h x.2 | none => lim RetK (fun n k => (env S orc tab n).call f args h k) x.2 := by
      funext ⟨i, k⟩; cases i <;> rfl
    rw [e]; exact this
  round := fun f args h => by
    have := lim_th RetK_ne (F := fun n k => (env S orc tab n).round f args h k) fun n => (env_mono S tab ho n).round f args h
    have e : (fun x : Option Nat × K => (fam S orc tab x.1).round f args h x.2) = fun x => match x.1 with | some n => (env S orc tab n).round f args h x.2 | none => lim RetK (fun n k => (env S orc tab n).round f args h k) x.2 := by
      funext ⟨i, k⟩; cases i <;> rfl
    rw [e]; exact this
  loop := fun b t h => by
    have := lim_th RetE_ne (F := fun n k => (env S orc tab n).loop b t h k.1 k.2) fun n => (env_mono S tab ho n).loop b t h
    have e : (fun x : Option Nat × ((T → H → R) × (Option Nat → T → H → R)) => (fam S orc tab x.1).loop b t h x.2.1 x.2.2) = fun x => match x.1 with | some n => (env S orc tab n).loop b t h x.2.1 x.2.2 | none => lim RetE (fun n (k : (T → H → R) × (Option Nat → T → H → R)) => (env S orc tab n).loop b t h k.1 k.2) x.2 := by
      funext ⟨i, k⟩; cases i <;> rfl
    rw [e]; exact this
theorem EE_call (ho : OrcNat orc) (f : Nat) (args : List V) (h : H) (k : K) : (EE S orc tab).call f args h k = match orc f args h with | none => runF S tab (EE S orc tab) f args h k | some c => c k := by
  rw [← deeper_call]
  have h2 := (deeper_th (S := S) UL_adm ho tab (fam_th S tab ho)).call f args h
  have e : (fun x : Option Nat × K => (deeper S orc tab (fam S orc tab x.1)).call f args h x.2) = fun x => match x.1 with | some n => (env S orc tab (n + 1)).call f args h x.2 | none => (deeper S orc tab (EE S orc tab)).call f args h x.2 := by
    funext ⟨i, k⟩; cases i <;> rfl
  rw [e] at h2
  have h1 := (fam_th S tab ho).call f args h
  have e : (fun x : Option Nat × K => (fam S orc tab x.1).call f args h x.2) = fun x => match x.1 with | some n => (env S orc tab n).call f args h x.2 | none => (EE S orc tab).call f args h x.2 := by
    funext ⟨i, k⟩; cases i <;> rfl
  rw [e] at h1
  exact lim_eq RetK_ne h1 h2 k
theorem EE_round (ho : OrcNat orc) (l : Pos) (args : List V) (h : H) (k : K) : (EE S orc tab).round l args h k = runR S (EE S orc tab) l args h k := by
  have h2 := (deeper_th (S := S) UL_adm ho tab (fam_th S tab ho)).round l args h
  have e : (fun x : Option Nat × K => (deeper S orc tab (fam S orc tab x.1)).round l args h x.2) = fun x => match x.1 with | some n => (env S orc tab (n + 1)).round l args h x.2 | none => runR S (EE S orc tab) l args h x.2 := by
    funext ⟨i, k⟩; cases i <;> rfl
  rw [e] at h2
  have h1 := (fam_th S tab ho).round l args h
  have e : (fun x : Option Nat × K => (fam S orc tab x.1).round l args h x.2) = fun x => match x.1 with | some n => (env S orc tab n).round l args h x.2 | none => (EE S orc tab).round l args h x.2 := by
    funext ⟨i, k⟩; cases i <;> rfl
  rw [e] at h1
  exact lim_eq RetK_ne h1 h2 k
theorem EE_loop (ho : OrcNat orc) (b : IC) (t : T) (h : H) (kn : T → H → R) (kx : Option Nat → T → H → R) : (EE S orc tab).loop b t h kn kx = code S b (EE S orc tab) t h (fun t h => (EE S orc tab).loop b t h kn kx) kx := by
  rw [← deeper_loop]
  have h2 := (deeper_th (S := S) UL_adm ho tab (fam_th S tab ho)).loop b t h
  have e : (fun x : Option Nat × ((T → H → R) × (Option Nat → T → H → R)) => (deeper S orc tab (fam S orc tab x.1)).loop b t h x.2.1 x.2.2) = fun x => match x.1 with | some n => (env S orc tab (n + 1)).loop b t h x.2.1 x.2.2 | none => (deeper S orc tab (EE S orc tab)).loop b t h x.2.1 x.2.2 := by
    funext ⟨i, k⟩; cases i <;> rfl
  rw [e] at h2
  have h1 := (fam_th S tab ho).loop b t h
  have e : (fun x : Option Nat × ((T → H → R) × (Option Nat → T → H → R)) => (fam S orc tab x.1).loop b t h x.2.1 x.2.2) = fun x => match x.1 with | some n => (env S orc tab n).loop b t h x.2.1 x.2.2 | none => (EE S orc tab).loop b t h x.2.1 x.2.2 := by
    funext ⟨i, k⟩; cases i <;> rfl
  rw [e] at h1
  exact lim_eq (F := fun n (k : (T → H → R) × (Option Nat → T → H → R)) => (env S orc tab n).loop b t h k.1 k.2) (G := fun k => (EE S orc tab).loop b t h k.1 k.2) (G' := fun k => (deeper S orc tab (EE S orc tab)).loop b t h k.1 k.2) RetE_ne h1 h2 (kn, kx)
/-- a run at the limit is one at some depth -/
theorem EE_run (ho : OrcNat orc) {f : Nat} {args : List V} {h : H} {r : V × H} (e : (EE S orc tab).call f args h (fun v h => some (v, h)) = some r) : ∃ n, (env S orc tab n).callV (.fn f [] []) args h (fun v h => some (v, h)) = some r := by
  have ha : app [] (app args []) = args := by rw [app_eq, app_eq]; simp
  rcases (fam_th S tab ho).call f args h with h1 | ⟨g, u, hg, hu, h1⟩
  · have : (EE S orc tab).call f args h (fun v h => some (v, h)) = none := h1 none _
    rw [e] at this; cases this
  · by_cases hn : u none
    · obtain ⟨n, hn'⟩ := hu.2.1 hn
      have a : (EE S orc tab).call f args h (fun v h => some (v, h)) = g _ := (h1 none _).1 hn
      have b : (env S orc tab n).call f args h (fun v h => some (v, h)) = g _ := (h1 (some n) _).1 hn'
      refine ⟨n, ?_⟩
      rw [callV_fn, ha, b, ← a, e]
    · have : (EE S orc tab).call f args h (fun v h => some (v, h)) = none := (h1 none _).2 hn
      rw [e] at this; cases this
end limit
end Go.Ab

/- Words for going through a text step by step: the head is what comes next; nothing behind it is looked at before its turn. -/
namespace Go.Ab
noncomputable def nS : Sy := ⟨fun _ _ _ => none, fun _ _ => none⟩
theorem nS_ok {P : Program} (σ : Nat → Int) : SyOk σ P nS := ⟨fun _ _ _ _ h => (by cases h), fun _ _ _ h => (by cases h)⟩
abbrev wrap64 (n : Int) : Int := IntKind.wrap .i64 n
theorem wrap64_id {n : Int} (h1 : -9223372036854775808 ≤ n) (h2 : n < 9223372036854775808) : wrap64 n = n := wrap_i64 h1 h2

theorem ble_of {a b : Nat} (h : a ≤ b) : Nat.ble a b = true := by rw [Nat.ble_eq]; exact h
/-! temporaries -/
noncomputable def Tr.v (t : Tr V) (p : Nat) : V := (Opd.t (Pos.of p)).ev t
noncomputable def Tr.st (t : Tr V) (p : Nat) (v : V) : Tr V := Tr.putV (Pos.of p) v t
theorem Tr.v_same (t : Tr V) (p : Nat) (v : V) : (t.st p v).v p = v := ev_put_same (Pos.of p) v t
theorem Tr.v_ne {p q : Nat} (t : Tr V) (v : V) (h : Nat.beq q p = false) : (t.st q v).v p = t.v p :=
  ev_put_ne (Pos.of q) (Pos.of p) v t (Pos.of_ne fun e => by rw [← e] at h; have : Nat.beq p p = true := Nat.beq_refl p; rw [this] at h; cases h)
theorem ofL_nil (i : Nat) (t : Tr V) : ofL [] i t = t := (rfl)
theorem ofL_cons (a : V) (l : List V) (i : Nat) (t : Tr V) : ofL (a :: l) i t = ofL l (i + 1) (t.st i a) := (rfl)
theorem tset_some (p : Nat) (v : V) (t : Tr V) : tset (some (Pos.of p)) v t = t.st p v := (rfl)
theorem tset_none (v : V) (t : Tr V) : tset none v t = t := (rfl)

theorem ev_t (p : Nat) (t : Tr V) : (Opd.t (Pos.of p)).ev t = t.v p := (rfl)
theorem ev_c (v : V) (t : Tr V) : (Opd.c v).ev t = v := (rfl)
theorem evs_nil (t : Tr V) : evs [] t = [] := (rfl)
theorem evs_cons (x : Opd) (l : List Opd) (t : Tr V) : evs (x :: l) t = x.ev t :: evs l t := (rfl)
theorem evo_none (t : Tr V) : evo none t = none := (rfl)
theorem evo_some (x : Opd) (t : Tr V) : evo (some x) t = some (x.ev t) := (rfl)

/-! operations, of values -/
noncomputable def o_if (c : V) (a b : R) : R := c.onBool fun w => Bool.rec (motive := fun _ => R) b a w
noncomputable def o_pick (c a b : V) (h : H) (k : K) : R := c.onBool fun w => Bool.rec (motive := fun _ => R) (k b h) (k a h) w
noncomputable def o_want (g : V) (w : Bool) (no yes : R) : R := V.on g no (fun b => Bool.rec (motive := fun _ => R) no yes (beqB b w)) (fun _ _ => no) (fun _ _ => no) (fun _ _ _ _ _ => no) (fun _ => no) (fun _ _ _ => no) (fun _ => no) (fun _ => no)
noncomputable def o_box (x : V) (h : H) (k : K) : R := ifK x.bx (h.alloc (mkO x.cells) fun r h' => k (.ptr r 0) h')
noncomputable def o_fill (v : V) (o n : Nat) (l : List V) (k : List V → R) : R := ifK v.bx <| ifK (Nat.beq (llen v.cells) n) (ifK (Nat.ble (o + n) (llen l)) (k (lsets v.cells l o)))
noncomputable def o_ld1 (x : V) (h : H) (k : K) : R := x.onPtr fun b i => h.ld1 b i fun v => k v h
noncomputable def o_ldn (n : Nat) (x : V) (h : H) (k : K) : R := x.onPtr fun b i => h.ldn b i n fun vs => k (.agg vs) h
noncomputable def o_st1 (a x : V) (h : H) (k : K) : R := a.onPtr fun b i => h.st1 b i x fun h' => k (.tup []) h'
noncomputable def o_stn (n : Nat) (a x : V) (h : H) (k : K) : R := a.onPtr fun b i => x.onAgg fun c => ifK (Nat.beq (llen c) n) (h.stn b i c fun h' => k (.tup []) h')
noncomputable def o_nilck (x : V) (h : H) (k : K) : R := x.onPtr fun b i => k (.ptr b i) h
noncomputable def o_bin (S : Sy) (op : BinOp) (x y : V) (h : H) (k : K) : R :=
  x.onInt (Option.rec (motive := fun _ => R) none (fun v => k v h) (S.bin op x y)) fun i a =>
    y.onInt (Option.rec (motive := fun _ => R) none (fun v => k v h) (S.bin op x y)) fun j b => binInt op i j a b fun v => k v h
noncomputable def o_eqv (c : Nat) (neg : Bool) (x y : V) (h : H) (k : K) : R := ifK (Nat.beq x.cls c) (Option.rec (motive := fun _ => R) none (fun b => k (.bool (negIf neg b)) h) (eq1 x y))
noncomputable def o_eqa (S : Sy) (sh : List Bool) (neg : Bool) (x y : V) (h : H) (k : K) : R := x.onAgg fun a => y.onAgg fun b => eqLK S sh a b fun r => k (.bool (negIf neg r)) h
noncomputable def o_notb (x : V) (h : H) (k : K) : R := x.onBool fun b => k (.bool (bnot b)) h
noncomputable def o_neg (x : V) (h : H) (k : K) : R := x.onInt none fun j n => wrapK j (Int.sub 0 n) fun n => k (.int j n) h
noncomputable def o_conv (S : Sy) (j : IntKind) (x : V) (h : H) (k : K) : R := x.onInt (Option.rec (motive := fun _ => R) none (fun v => k v h) (S.conv j x)) fun _ n => wrapK j n fun n => k (.int j n) h
noncomputable def o_mkslice (esz : Nat) (zs : List V) (bytes : Nat) (l c : V) (h : H) (k : K) : R := l.nat fun n => c.nat fun m =>
  ifK (Nat.ble n m) (ifK (Nat.ble (Nat.mul m bytes) 1099511627776) (ifK (Nat.ble m 1099511627776) (h.alloc (.big (Nat.mul m esz) esz zs .nil) fun r h' => k (.sl r 0 n m none) h')))
noncomputable def o_slc (esz : Nat) (x : V) (lo hi mx : Option V) (h : H) (k : K) : R :=
  x.onSl (ifK x.isNils (bounds 0 0 lo hi mx fun _ _ _ => k .nils h)) fun b o len cap fx => slcE esz b o len cap fx lo hi mx fun v => k v h
noncomputable def o_slca (n esz : Nat) (x : V) (lo hi mx : Option V) (h : H) (k : K) : R := x.onPtr fun b o => slcE esz b o n n none lo hi mx fun v => k v h
noncomputable def o_fa (off : Nat) (x : V) (h : H) (k : K) : R := x.onPtr fun b o => k (.ptr b (Nat.add o off)) h
noncomputable def o_ixs (esz : Nat) (x i : V) (h : H) (k : K) : R := x.onSl none fun b o len _ _ => i.nat fun n => ifK (ltb n len) (k (.ptr b (Nat.add o (Nat.mul n esz))) h)
noncomputable def o_ixa (len esz : Nat) (x i : V) (h : H) (k : K) : R := x.onPtr fun b o => i.nat fun n => ifK (ltb n len) (k (.ptr b (Nat.add o (Nat.mul n esz))) h)
noncomputable def o_fld (n : Option Nat) (off : Nat) (x : V) (h : H) (k : K) : R := x.onAgg fun c => partK n c off fun v => k v h
noncomputable def o_ixv (len : Nat) (n : Option Nat) (esz : Nat) (x i : V) (h : H) (k : K) : R := x.onAgg fun c => i.nat fun j => ifK (ltb j len) (partK n c (Nat.mul j esz) fun v => k v h)
noncomputable def o_lkp (S : Sy) (ag : Bool) (sh : List Bool) (zero : V) (ok : Bool) (x i : V) (h : H) (k : K) : R := keyOk ag sh i
  (x.onMap (ifK x.isNilm (lkR zero ok none fun v => k v h)) fun r => h.mapK r fun es => findK S ag sh i es fun f => lkR zero ok f fun v => k v h)
noncomputable def o_mset (S : Sy) (ag : Bool) (sh : List Bool) (m key x : V) (h : H) (k : K) : R := keyOk ag sh key
  (m.onMap none fun r => h.mapK r fun es => setKK S ag sh key x es fun es' => k (.tup []) (h.put r (.mp es')))
noncomputable def o_del (S : Sy) (ag : Bool) (sh : List Bool) (m key : V) (h : H) (k : K) : R := keyOk ag sh key
  (m.onMap none fun r => h.mapK r fun es => delKK S ag sh key es fun es' => k (.tup []) (h.put r (.mp es')))
noncomputable def o_ext (x : V) (i : Nat) (h : H) (k : K) : R := x.onTup fun c => nthK c i fun v => k v h
noncomputable def o_app (esz by_ : Nat) (s x : V) (h : H) (k : K) : R :=
  lenK s fun len => lenK x fun n => h.elems esz x n fun new => ifK (appOk by_ s len n) (doApp h esz s new n k)
noncomputable def o_copy (esz : Nat) (d s : V) (h : H) (k : K) : R :=
  lenK d fun dn => lenK s fun sn => h.elems esz s (Nat.min sn dn) fun cs =>
    d.onSl (k (.int .i64 (.ofNat (Nat.min sn dn))) h) fun b o _ _ _ => h.stn b o cs fun h' => k (.int .i64 (.ofNat (Nat.min sn dn))) h'
noncomputable def o_len (x : V) (h : H) (k : K) : R := lenK x fun n => k (.int .i64 (.ofNat n)) h
noncomputable def o_lenm (x : V) (h : H) (k : K) : R := x.onMap (ifK x.isNilm (k (.int .i64 (.ofNat 0)) h)) fun r => h.mapK r fun es => k (.int .i64 (.ofNat (llen es))) h
noncomputable def o_clear (zs : List V) (x : V) (h : H) (k : K) : R := x.onSl none fun b o n _ _ => h.stn b o (repl zs n) fun h' => k (.tup []) h'
noncomputable def o_capx (x : V) (h : H) (k : K) : R :=
  x.onSl (ifK x.isNils (k (.int .i64 (.ofNat 0)) h)) fun _ _ _ cap fx => Option.rec (motive := fun _ => R) (k (.int .i64 (.ofNat cap)) h) (fun _ => none) fx
noncomputable def o_appz (esz : Nat) (zs : List V) (s n : V) (h : H) (k : K) : R := n.nat fun m =>
  ifK s.isNils (ifK (ltb 0 m) (ifK (Nat.ble m 1073741824) (h.alloc (mkO (repl zs m)) fun r h' => k (.sl r 0 m m (some esz)) h')))
noncomputable def o_sidx (x i : V) (h : H) (k : K) : R := x.onStr fun s => i.nat fun n => nthB s.data.toList n fun b => k (.int .u8 (.ofNat b.toNat)) h

/-! parts laid in -/
noncomputable def fillB (ps : List (Nat × Nat × Opd)) (t : Tr V) (l : List V) (h : H) (k : K) : R := fillK ps t l fun l => k (.agg l) h
noncomputable def fillS (n : Nat) (ps : List (Nat × Nat × Opd)) (t : Tr V) (l : List V) (h : H) (k : K) : R := fillK ps t l fun l => h.alloc (mkO l) fun r h' => k (.sl r 0 n n none) h'
noncomputable def fill1B (v : V) (o n : Nat) (ps : List (Nat × Nat × Opd)) (t : Tr V) (l : List V) (h : H) (k : K) : R := o_fill v o n l fun l => fillB ps t l h k
noncomputable def fill1S (m : Nat) (v : V) (o n : Nat) (ps : List (Nat × Nat × Opd)) (t : Tr V) (l : List V) (h : H) (k : K) : R := o_fill v o n l fun l => fillS m ps t l h k
theorem fillB_nil (t : Tr V) (l : List V) (h : H) (k : K) : fillB [] t l h k = k (.agg l) h := (rfl)
theorem fillS_nil (n : Nat) (t : Tr V) (l : List V) (h : H) (k : K) : fillS n [] t l h k = k (.sl h.nx 0 n n none) (h.push (mkO l)) := H.alloc_eq h (mkO l) fun r h' => k (.sl r 0 n n none) h'
theorem fillB_cons (o n : Nat) (x : Opd) (ps : List (Nat × Nat × Opd)) (t : Tr V) (l : List V) (h : H) (k : K) : fillB ((o, n, x) :: ps) t l h k = fill1B (x.ev t) o n ps t l h k := (rfl)
theorem fillS_cons (m o n : Nat) (x : Opd) (ps : List (Nat × Nat × Opd)) (t : Tr V) (l : List V) (h : H) (k : K) : fillS m ((o, n, x) :: ps) t l h k = fill1S m (x.ev t) o n ps t l h k := (rfl)
theorem o_fill1 {v : V} {o : Nat} {l : List V} (hv : v.one = true) (ho : o < l.length) (k : List V → R) : o_fill v o 1 l k = k (l.set o v) := by
  have e1 : v.bx = true := by cases v <;> first | rfl | cases hv
  have e2 : v.cells = [v] := by cases v <;> first | rfl | cases hv
  unfold o_fill
  rw [e1, e2]
  show ifK (Nat.ble (o + 1) (llen l)) (k (lset v l o)) = _
  rw [llen_eq, ble_of (by omega), lset_eq]; rfl
theorem fill1B_1 {v : V} {o : Nat} {l : List V} (ps : List (Nat × Nat × Opd)) (t : Tr V) (h : H) (k : K) (hv : v.one = true) (ho : o < l.length) : fill1B v o 1 ps t l h k = fillB ps t (l.set o v) h k := o_fill1 hv ho _
theorem fill1S_1 {v : V} {o : Nat} {l : List V} (m : Nat) (ps : List (Nat × Nat × Opd)) (t : Tr V) (h : H) (k : K) (hv : v.one = true) (ho : o < l.length) : fill1S m v o 1 ps t l h k = fillS m ps t (l.set o v) h k := o_fill1 hv ho _
theorem lsets_nil (l : List V) (o : Nat) : lsets [] l o = l := (rfl)
theorem lsets_cons (v : V) (vs l : List V) (o : Nat) : lsets (v :: vs) l o = lsets vs (l.set o v) (o + 1) := by rw [← lset_eq]; rfl
theorem o_filln {c : List V} {o n : Nat} {l : List V} (hn : c.length = n) (ho : o + n ≤ l.length) (k : List V → R) : o_fill (.agg c) o n l k = k (lsets c l o) := by
  show ifK (Nat.beq (llen c) n) (ifK (Nat.ble (o + n) (llen l)) (k (lsets c l o))) = _
  rw [llen_eq, llen_eq, hn, Nat.beq_refl, ble_of ho]; rfl
theorem fill1B_n {c : List V} {o n : Nat} {l : List V} (ps : List (Nat × Nat × Opd)) (t : Tr V) (h : H) (k : K) (hn : c.length = n) (ho : o + n ≤ l.length) : fill1B (.agg c) o n ps t l h k = fillB ps t (lsets c l o) h k := o_filln hn ho _
theorem fill1S_n {c : List V} {o n : Nat} {l : List V} (m : Nat) (ps : List (Nat × Nat × Opd)) (t : Tr V) (h : H) (k : K) (hn : c.length = n) (ho : o + n ≤ l.length) : fill1S m (.agg c) o n ps t l h k = fillS m ps t (lsets c l o) h k := o_filln hn ho _
/-! what comes behind, by name -/
noncomputable def kOps (S : Sy) (ops : List IOpr) (E : Env) (d : Option Pos) (t : Tr V) (k : T → H → R) : K := fun v h => opers S ops E (tset d v t) h k
noncomputable def qSeq (S : Sy) (b : IC) (E : Env) (kn : T → H → R) (kx : Option Nat → T → H → R) : T → H → R := fun t h => code S b E t h kn kx
noncomputable def ifC (S : Sy) (c : V) (a b : IC) (E : Env) (t : Tr V) (h : H) (kn : T → H → R) (kx : Option Nat → T → H → R) : R := o_if c (code S a E t h kn kx) (code S b E t h kn kx)
noncomputable def wantOp (S : Sy) (g : V) (w : Bool) (d : Option Pos) (op : IOp) (ops : List IOpr) (E : Env) (t : Tr V) (h : H) (k : T → H → R) : R :=
  o_want g w (opers S ops E (tset d (.tup []) t) h k) (exec S E op t h (kOps S ops E d t k))
theorem ap_kOps (S : Sy) (ops : List IOpr) (E : Env) (d : Option Pos) (t : Tr V) (k : T → H → R) (v : V) (h : H) : kOps S ops E d t k v h = opers S ops E (tset d v t) h k := (rfl)
theorem ap_qSeq (S : Sy) (b : IC) (E : Env) (kn : T → H → R) (kx : Option Nat → T → H → R) (t : Tr V) (h : H) : qSeq S b E kn kx t h = code S b E t h kn kx := (rfl)

section
variable (S : Sy) (E : Env) (t : Tr V) (h : H) (k : K)
theorem ex_mv (x : Opd) : exec S E (.mv x) t h k = k (x.ev t) h := (rfl)
theorem ex_pick (c a b : Opd) : exec S E (.pick c a b) t h k = o_pick (c.ev t) (a.ev t) (b.ev t) h k := (rfl)
theorem ex_new (zs : List V) : exec S E (.new zs) t h k = k (.ptr h.nx 0) (h.push (mkO zs)) := H.alloc_eq h (mkO zs) fun r h' => k (.ptr r 0) h'
theorem ex_box (x : Opd) : exec S E (.box x) t h k = o_box (x.ev t) h k := (rfl)
theorem ex_build (zs : List V) (ps : List (Nat × Nat × Opd)) : exec S E (.build zs ps) t h k = fillB ps t zs h k := (rfl)
theorem ex_bslice (n : Nat) (zs : List V) (ps : List (Nat × Nat × Opd)) : exec S E (.bslice n zs ps) t h k = fillS n ps t zs h k := (rfl)
theorem ex_ld1 (x : Opd) : exec S E (.ld1 x) t h k = o_ld1 (x.ev t) h k := (rfl)
theorem ex_ldn (n : Nat) (x : Opd) : exec S E (.ldn n x) t h k = o_ldn n (x.ev t) h k := (rfl)
theorem ex_st1 (a x : Opd) : exec S E (.st1 a x) t h k = o_st1 (a.ev t) (x.ev t) h k := (rfl)
theorem ex_stn (n : Nat) (a x : Opd) : exec S E (.stn n a x) t h k = o_stn n (a.ev t) (x.ev t) h k := (rfl)
theorem ex_nilck (x : Opd) : exec S E (.nilck x) t h k = o_nilck (x.ev t) h k := (rfl)
theorem ex_bin (op : BinOp) (x y : Opd) : exec S E (.bin op x y) t h k = o_bin S op (x.ev t) (y.ev t) h k := (rfl)
theorem ex_eqv (c : Nat) (neg : Bool) (x y : Opd) : exec S E (.eqv c neg x y) t h k = o_eqv c neg (x.ev t) (y.ev t) h k := (rfl)
theorem ex_eqa (sh : List Bool) (neg : Bool) (x y : Opd) : exec S E (.eqa sh neg x y) t h k = o_eqa S sh neg (x.ev t) (y.ev t) h k := (rfl)
theorem ex_notb (x : Opd) : exec S E (.notb x) t h k = o_notb (x.ev t) h k := (rfl)
theorem ex_neg (x : Opd) : exec S E (.neg x) t h k = o_neg (x.ev t) h k := (rfl)
theorem ex_conv (j : IntKind) (x : Opd) : exec S E (.conv j x) t h k = o_conv S j (x.ev t) h k := (rfl)
theorem ex_mkfn (f : Nat) (a b : List Opd) : exec S E (.mkfn f a b) t h k = k (.fn f (evs a t) (evs b t)) h := (rfl)
theorem ex_mkmap : exec S E .mkmap t h k = k (.map h.nx) (h.push (.mp [])) := H.alloc_eq h (.mp []) fun r h' => k (.map r) h'
theorem ex_mkslice (esz : Nat) (zs : List V) (by_ : Nat) (l c : Opd) : exec S E (.mkslice esz zs by_ l c) t h k = o_mkslice esz zs by_ (l.ev t) (c.ev t) h k := (rfl)
theorem ex_slc (esz : Nat) (x : Opd) (lo hi mx : Option Opd) : exec S E (.slc esz x lo hi mx) t h k = o_slc esz (x.ev t) (evo lo t) (evo hi t) (evo mx t) h k := (rfl)
theorem ex_slca (n esz : Nat) (x : Opd) (lo hi mx : Option Opd) : exec S E (.slca n esz x lo hi mx) t h k = o_slca n esz (x.ev t) (evo lo t) (evo hi t) (evo mx t) h k := (rfl)
theorem ex_fa (off : Nat) (x : Opd) : exec S E (.fa off x) t h k = o_fa off (x.ev t) h k := (rfl)
theorem ex_ixs (esz : Nat) (x i : Opd) : exec S E (.ixs esz x i) t h k = o_ixs esz (x.ev t) (i.ev t) h k := (rfl)
theorem ex_ixa (len esz : Nat) (x i : Opd) : exec S E (.ixa len esz x i) t h k = o_ixa len esz (x.ev t) (i.ev t) h k := (rfl)
theorem ex_fld (n : Option Nat) (off : Nat) (x : Opd) : exec S E (.fld n off x) t h k = o_fld n off (x.ev t) h k := (rfl)
theorem ex_ixv (len : Nat) (n : Option Nat) (esz : Nat) (x i : Opd) : exec S E (.ixv len n esz x i) t h k = o_ixv len n esz (x.ev t) (i.ev t) h k := (rfl)
theorem ex_lkp (ag : Bool) (sh : List Bool) (z : V) (ok : Bool) (x i : Opd) : exec S E (.lkp ag sh z ok x i) t h k = o_lkp S ag sh z ok (x.ev t) (i.ev t) h k := (rfl)
theorem ex_mset (ag : Bool) (sh : List Bool) (m key x : Opd) : exec S E (.mset ag sh m key x) t h k = o_mset S ag sh (m.ev t) (key.ev t) (x.ev t) h k := (rfl)
theorem ex_ext (x : Opd) (i : Nat) : exec S E (.ext x i) t h k = o_ext (x.ev t) i h k := (rfl)
theorem ex_call (f : Opd) (as : List Opd) : exec S E (.call f as) t h k = E.callV (f.ev t) (evs as t) h k := (rfl)
theorem ex_app (esz by_ : Nat) (s x : Opd) : exec S E (.app esz by_ s x) t h k = o_app esz by_ (s.ev t) (x.ev t) h k := (rfl)
theorem ex_copy (esz : Nat) (d s : Opd) : exec S E (.copy esz d s) t h k = o_copy esz (d.ev t) (s.ev t) h k := (rfl)
theorem ex_len (x : Opd) : exec S E (.len x) t h k = o_len (x.ev t) h k := (rfl)
theorem ex_lenm (x : Opd) : exec S E (.lenm x) t h k = o_lenm (x.ev t) h k := (rfl)
theorem ex_clear (zs : List V) (x : Opd) : exec S E (.clear zs x) t h k = o_clear zs (x.ev t) h k := (rfl)
theorem ex_del (ag : Bool) (sh : List Bool) (m key : Opd) : exec S E (.del ag sh m key) t h k = o_del S ag sh (m.ev t) (key.ev t) h k := (rfl)
theorem ex_capx (x : Opd) : exec S E (.capx x) t h k = o_capx (x.ev t) h k := (rfl)
theorem ex_appz (esz : Nat) (zs : List V) (s n : Opd) : exec S E (.appz esz zs s n) t h k = o_appz esz zs (s.ev t) (n.ev t) h k := (rfl)
theorem ex_sidx (x i : Opd) : exec S E (.sidx x i) t h k = o_sidx (x.ev t) (i.ev t) h k := (rfl)
end
theorem call_fn (E : Env) (f : Nat) (args : List V) (h : H) (k : K) : E.callV (.fn f [] []) args h k = E.call f args h k := by
  rw [callV_fn]; simp [app_eq]
theorem call_cl (E : Env) (f : Nat) (cs args : List V) (h : H) (k : K) : E.callV (.fn f [] cs) args h k = E.call f (args ++ cs) h k := by
  rw [callV_fn]; simp [app_eq]
theorem call_mt (E : Env) (f : Nat) (fs args : List V) (h : H) (k : K) : E.callV (.fn f fs []) args h k = E.call f (fs ++ args) h k := by
  rw [callV_fn]; simp [app_eq]

/-! code -/
section
variable (S : Sy) (E : Env) (t : Tr V) (h : H) (kn : T → H → R) (kx : Option Nat → T → H → R)
theorem c_skip : code S .skip E t h kn kx = kn t h := (rfl)
theorem c_ret : code S .ret E t h kn kx = kx none t h := (rfl)
theorem c_exit (id : Nat) : code S (.exit id) E t h kn kx = kx (some id) t h := (rfl)
theorem c_reg (ops : List IOpr) : code S (.reg ops) E t h kn kx = opers S ops E t h kn := (rfl)
theorem c_regd (ops : List IOpr) : code S (.regd ops) E t h kn kx = opersD S ops E [] t h kn := (rfl)
theorem c_seq (a b : IC) : code S (.seq a b) E t h kn kx = code S a E t h (qSeq S b E kn kx) kx := (rfl)
theorem c_cond (c : Opd) (a b : IC) : code S (.cond c a b) E t h kn kx = ifC S (c.ev t) a b E t h kn kx := (rfl)
noncomputable def o_blk (id : Nat) (kn : T → H → R) (kx : Option Nat → T → H → R) (e : Option Nat) (t : T) (h : H) : R :=
  Option.rec (motive := fun _ => R) (kx none t h) (fun j => Bool.rec (motive := fun _ => R) (kx (some j) t h) (kn t h) (Nat.beq j id)) e
theorem c_block (id : Nat) (b : IC) : code S (.block id b) E t h kn kx = code S b E t h kn (o_blk id kn kx) := (rfl)
theorem blk_none (id : Nat) : o_blk id kn kx none t h = kx none t h := (rfl)
theorem blk_same (id : Nat) : o_blk id kn kx (some id) t h = kn t h := by unfold o_blk; simp
theorem blk_ne {j id : Nat} (e : Nat.beq j id = false) : o_blk id kn kx (some j) t h = kx (some j) t h := by unfold o_blk; simp only [e]
theorem opers_nil (k : T → H → R) : opers S [] E t h k = k t h := (rfl)
theorem opers_n (d : Option Pos) (l : Nat) (op : IOp) (ops : List IOpr) (k : T → H → R) : opers S (⟨d, none, l, op⟩ :: ops) E t h k = exec S E op t h (kOps S ops E d t k) := (rfl)
theorem opers_g (d : Option Pos) (p : Nat) (w : Bool) (l : Nat) (op : IOp) (ops : List IOpr) (k : T → H → R) : opers S (⟨d, some (Pos.of p, w), l, op⟩ :: ops) E t h k = wantOp S (t.v p) w d op ops E t h k := (rfl)
end
noncomputable def o_kn (res : List (Pos × Option Nat × Bool)) (k : K) (t : T) (h : H) : R := resK res t h fun vs => k (resV vs) h
noncomputable def o_kx (res : List (Pos × Option Nat × Bool)) (k : K) (e : Option Nat) (t : T) (h : H) : R := Option.rec (motive := fun _ => R) (o_kn res k t h) (fun _ => none) e
theorem kx_none (res : List (Pos × Option Nat × Bool)) (k : K) (t : T) (h : H) : o_kx res k none t h = o_kn res k t h := (rfl)
theorem kn_0 (k : K) (t : T) (h : H) : o_kn [] k t h = k (.tup []) h := (rfl)
theorem kn_1 (p : Nat) (k : K) (t : T) (h : H) : o_kn [(Pos.of p, none, false)] k t h = k (t.v p) h := (rfl)
theorem kn_2 (p q : Nat) (k : K) (t : T) (h : H) : o_kn [(Pos.of p, none, false), (Pos.of q, none, false)] k t h = k (.tup [t.v p, t.v q]) h := (rfl)
theorem kn_3 (p q r : Nat) (k : K) (t : T) (h : H) : o_kn [(Pos.of p, none, false), (Pos.of q, none, false), (Pos.of r, none, false)] k t h = k (.tup [t.v p, t.v q, t.v r]) h := (rfl)
/-- a function of the table -/
theorem cl_eq {orc : Orc} {tab : Tr IFn} (ho : OrcNat orc) {f : Nat} {body : IC} {nt : Nat} {res : List (Pos × Option Nat × Bool)} (hf : tab.get (Pos.of f) = some (.mk body nt res)) {args : List V} {h : H} (h0 : orc f args h = none) (hn : Nat.ble (llen args) nt = true) (k : K) :
    (EE nS orc tab).call f args h k = code nS body (EE nS orc tab) (ofL args 0 .nil) h (o_kn res k) (o_kx res k) := by
  rw [EE_call nS tab ho, h0]
  show runF nS tab (EE nS orc tab) f args h k = _
  unfold runF
  rw [hf]
  show ifK (Nat.ble (llen args) nt) _ = _
  rw [hn]; rfl

/-! values known: what an operation comes to -/
theorem if_t {c : Bool} (e : c = true) (a b : R) : o_if (.bool c) a b = a := by subst e; rfl
theorem if_f {c : Bool} (e : c = false) (a b : R) : o_if (.bool c) a b = b := by subst e; rfl
section
variable (S : Sy) (a b : IC) (E : Env) (t : Tr V) (h : H) (kn : T → H → R) (kx : Option Nat → T → H → R)
theorem ifC_t : ifC S (.bool true) a b E t h kn kx = code S a E t h kn kx := (rfl)
theorem ifC_f : ifC S (.bool false) a b E t h kn kx = code S b E t h kn kx := (rfl)
theorem ifC_b {c : Bool} (e : c = true) : ifC S (.bool c) a b E t h kn kx = code S a E t h kn kx := if_t e _ _
theorem ifC_nb {c : Bool} (e : c = false) : ifC S (.bool c) a b E t h kn kx = code S b E t h kn kx := if_f e _ _
theorem ifC_p {p : Prop} [Decidable p] (e : p) : ifC S (.bool (decide p)) a b E t h kn kx = code S a E t h kn kx := if_t (decide_eq_true e) _ _
theorem ifC_n {p : Prop} [Decidable p] (e : ¬p) : ifC S (.bool (decide p)) a b E t h kn kx = code S b E t h kn kx := if_f (decide_eq_false e) _ _
theorem ifC_np {p : Prop} [Decidable p] (e : p) : ifC S (.bool (!decide p)) a b E t h kn kx = code S b E t h kn kx := if_f (by simp [e]) _ _
theorem ifC_nn {p : Prop} [Decidable p] (e : ¬p) : ifC S (.bool (!decide p)) a b E t h kn kx = code S a E t h kn kx := if_t (by simp [e]) _ _
end
theorem pick_t {c : Bool} (e : c = true) (a b : V) (h : H) (k : K) : o_pick (.bool c) a b h k = k a h := by subst e; rfl
theorem pick_f {c : Bool} (e : c = false) (a b : V) (h : H) (k : K) : o_pick (.bool c) a b h k = k b h := by subst e; rfl
theorem pick_p {p : Prop} [Decidable p] (e : p) (a b : V) (h : H) (k : K) : o_pick (.bool (decide p)) a b h k = k a h := pick_t (decide_eq_true e) a b h k
theorem pick_tt (a b : V) (h : H) (k : K) : o_pick (.bool true) a b h k = k a h := (rfl)
theorem pick_ff (a b : V) (h : H) (k : K) : o_pick (.bool false) a b h k = k b h := (rfl)
theorem pick_np {p : Prop} [Decidable p] (e : p) (a b : V) (h : H) (k : K) : o_pick (.bool (!decide p)) a b h k = k b h := pick_f (by simp [e]) a b h k
theorem pick_nn {p : Prop} [Decidable p] (e : ¬p) (a b : V) (h : H) (k : K) : o_pick (.bool (!decide p)) a b h k = k a h := pick_t (by simp [e]) a b h k
theorem pick_n {p : Prop} [Decidable p] (e : ¬p) (a b : V) (h : H) (k : K) : o_pick (.bool (decide p)) a b h k = k b h := pick_f (decide_eq_false e) a b h k
theorem want_tt {c : Bool} (e : c = true) (no yes : R) : o_want (.bool c) true no yes = yes := by subst e; rfl
theorem want_ft {c : Bool} (e : c = false) (no yes : R) : o_want (.bool c) true no yes = no := by subst e; rfl
theorem want_tf {c : Bool} (e : c = true) (no yes : R) : o_want (.bool c) false no yes = no := by subst e; rfl
theorem want_ff {c : Bool} (e : c = false) (no yes : R) : o_want (.bool c) false no yes = yes := by subst e; rfl
theorem want_tup (w : Bool) (l : List V) (no yes : R) : o_want (.tup l) w no yes = no := (rfl)
section
variable (S : Sy) (d : Option Pos) (op : IOp) (ops : List IOpr) (E : Env) (t : Tr V) (h : H) (k : T → H → R)
theorem wo_tup (w : Bool) (l : List V) : wantOp S (.tup l) w d op ops E t h k = opers S ops E (tset d (.tup []) t) h k := (rfl)
theorem wo_tt : wantOp S (.bool true) true d op ops E t h k = exec S E op t h (kOps S ops E d t k) := (rfl)
theorem wo_ft : wantOp S (.bool false) true d op ops E t h k = opers S ops E (tset d (.tup []) t) h k := (rfl)
theorem wo_tf : wantOp S (.bool true) false d op ops E t h k = opers S ops E (tset d (.tup []) t) h k := (rfl)
theorem wo_ff : wantOp S (.bool false) false d op ops E t h k = exec S E op t h (kOps S ops E d t k) := (rfl)
theorem wo_bt {c : Bool} (e : c = true) : wantOp S (.bool c) true d op ops E t h k = exec S E op t h (kOps S ops E d t k) := want_tt e _ _
theorem wo_bnt {c : Bool} (e : c = false) : wantOp S (.bool c) true d op ops E t h k = opers S ops E (tset d (.tup []) t) h k := want_ft e _ _
theorem wo_bf {c : Bool} (e : c = true) : wantOp S (.bool c) false d op ops E t h k = opers S ops E (tset d (.tup []) t) h k := want_tf e _ _
theorem wo_bnf {c : Bool} (e : c = false) : wantOp S (.bool c) false d op ops E t h k = exec S E op t h (kOps S ops E d t k) := want_ff e _ _
theorem wo_pt {p : Prop} [Decidable p] (e : p) : wantOp S (.bool (decide p)) true d op ops E t h k = exec S E op t h (kOps S ops E d t k) := want_tt (decide_eq_true e) _ _
theorem wo_nt {p : Prop} [Decidable p] (e : ¬p) : wantOp S (.bool (decide p)) true d op ops E t h k = opers S ops E (tset d (.tup []) t) h k := want_ft (decide_eq_false e) _ _
theorem wo_pf {p : Prop} [Decidable p] (e : p) : wantOp S (.bool (decide p)) false d op ops E t h k = opers S ops E (tset d (.tup []) t) h k := want_tf (decide_eq_true e) _ _
theorem wo_nf {p : Prop} [Decidable p] (e : ¬p) : wantOp S (.bool (decide p)) false d op ops E t h k = exec S E op t h (kOps S ops E d t k) := want_ff (decide_eq_false e) _ _
theorem wo_npt {p : Prop} [Decidable p] (e : ¬p) : wantOp S (.bool (!decide p)) true d op ops E t h k = exec S E op t h (kOps S ops E d t k) := want_tt (by simp [e]) _ _
theorem wo_nnt {p : Prop} [Decidable p] (e : p) : wantOp S (.bool (!decide p)) true d op ops E t h k = opers S ops E (tset d (.tup []) t) h k := want_ft (by simp [e]) _ _
theorem wo_npf {p : Prop} [Decidable p] (e : ¬p) : wantOp S (.bool (!decide p)) false d op ops E t h k = opers S ops E (tset d (.tup []) t) h k := want_tf (by simp [e]) _ _
theorem wo_nnf {p : Prop} [Decidable p] (e : p) : wantOp S (.bool (!decide p)) false d op ops E t h k = exec S E op t h (kOps S ops E d t k) := want_ff (by simp [e]) _ _
end
theorem notb_v (b : Bool) (h : H) (k : K) : o_notb (.bool b) h k = k (.bool (!b)) h := by show k (.bool (bnot b)) h = _; rw [bnot_eq]
section
variable (a b : Int)
theorem bin_ii (S : Sy) (op : BinOp) (i j : IntKind) (h : H) (k : K) : o_bin S op (.int i a) (.int j b) h k = binInt op i j a b fun v => k v h := (rfl)
theorem wrapK_eq (j : IntKind) (n : Int) (c : Int → R) : wrapK j n c = c (j.wrap n) := by
  cases j with
  | i64 =>
    cases n with
    | ofNat x =>
      show Bool.rec (motive := fun _ => R) (c (IntKind.wrap .i64 (.ofNat x))) (c (.ofNat x)) (Nat.ble x 9223372036854775807) = _
      cases hb : Nat.ble x 9223372036854775807 with
      | false => rfl
      | true =>
        have := Nat.le_of_ble_eq_true hb
        show c (.ofNat x) = _
        rw [wrap_i64 (n := .ofNat x) (by have : (Int.ofNat x) = (x : Int) := rfl; omega) (by have : (Int.ofNat x) = (x : Int) := rfl; omega)]
    | negSucc x =>
      show Bool.rec (motive := fun _ => R) (c (IntKind.wrap .i64 (.negSucc x))) (c (.negSucc x)) (Nat.ble x 9223372036854775807) = _
      cases hb : Nat.ble x 9223372036854775807 with
      | false => rfl
      | true =>
        have := Nat.le_of_ble_eq_true hb
        show c (.negSucc x) = _
        rw [wrap_i64 (n := .negSucc x) (by omega) (by omega)]
  | _ => rfl
theorem bi_addw (c : V → R) : binInt .add .i64 .i64 a b c = c (.int .i64 (wrap64 (a + b))) := wrapK_eq .i64 (a + b) fun n => c (.int .i64 n)
theorem bi_subw (c : V → R) : binInt .sub .i64 .i64 a b c = c (.int .i64 (wrap64 (a - b))) := wrapK_eq .i64 (a - b) fun n => c (.int .i64 n)
theorem bi_mulw (c : V → R) : binInt .mul .i64 .i64 a b c = c (.int .i64 (wrap64 (a * b))) := wrapK_eq .i64 (a * b) fun n => c (.int .i64 n)
end
section
variable {a b : Int} (c : V → R)
theorem bi_add (h1 : -9223372036854775808 ≤ a + b) (h2 : a + b < 9223372036854775808) : binInt .add .i64 .i64 a b c = c (.int .i64 (a + b)) := by rw [bi_addw a b, wrap64_id h1 h2]
theorem bi_sub (h1 : -9223372036854775808 ≤ a - b) (h2 : a - b < 9223372036854775808) : binInt .sub .i64 .i64 a b c = c (.int .i64 (a - b)) := by rw [bi_subw a b, wrap64_id h1 h2]
theorem bi_mul (h1 : -9223372036854775808 ≤ a * b) (h2 : a * b < 9223372036854775808) : binInt .mul .i64 .i64 a b c = c (.int .i64 (a * b)) := by rw [bi_mulw a b, wrap64_id h1 h2]
theorem bi_quo (h1 : 0 ≤ a) (h2 : 0 < b) (h3 : a < 9223372036854775808) : binInt .quo .i64 .i64 a b c = c (.int .i64 (a / b)) := by
  have hb : bnot (ieq b 0) = true := by rw [bnot_eq, ieq_eq]; simp; omega
  show ifK (bnot (ieq b 0)) (wrapK .i64 (Int.tdiv a b) fun n => c (.int .i64 n)) = _
  rw [hb]
  show wrapK .i64 (Int.tdiv a b) (fun n => c (.int .i64 n)) = _
  rw [wrapK_eq, Int.tdiv_eq_ediv_of_nonneg h1]
  have e1 : 0 ≤ a / b := Int.ediv_nonneg h1 (by omega)
  have e2 : a / b ≤ a := Int.ediv_le_self _ h1
  show c (.int .i64 (wrap64 (a / b))) = _
  rw [wrap64_id (by omega) (by omega)]
theorem bi_rem (h1 : 0 ≤ a) (h2 : 0 < b) : binInt .rem .i64 .i64 a b c = c (.int .i64 (a % b)) := by
  have hb : bnot (ieq b 0) = true := by rw [bnot_eq, ieq_eq]; simp; omega
  show ifK (bnot (ieq b 0)) (c (.int .i64 (Int.tmod a b))) = _
  rw [hb]
  show c (.int .i64 (Int.tmod a b)) = _
  rw [Int.tmod_eq_emod_of_nonneg h1]
theorem bi_eql (k : IntKind) : binInt .eql k k a b c = c (.bool (decide (a = b))) := by
  have : kbeq k k = true := by cases k <;> rfl
  show ifK (kbeq k k) (c (.bool (ieq a b))) = _
  rw [this, ieq_eq]; rfl
theorem bi_neq (k : IntKind) : binInt .neq k k a b c = c (.bool (!decide (a = b))) := by
  have : kbeq k k = true := by cases k <;> rfl
  show ifK (kbeq k k) (c (.bool (bnot (ieq a b)))) = _
  rw [this, ieq_eq, bnot_eq]; rfl
theorem bi_lss (k : IntKind) : binInt .lss k k a b c = c (.bool (decide (a < b))) := by
  have : kbeq k k = true := by cases k <;> rfl
  show ifK (kbeq k k) (c (.bool (ilt a b))) = _
  rw [this, ilt_eq]; rfl
theorem bi_gtr (k : IntKind) : binInt .gtr k k a b c = c (.bool (decide (b < a))) := by
  have : kbeq k k = true := by cases k <;> rfl
  show ifK (kbeq k k) (c (.bool (ilt b a))) = _
  rw [this, ilt_eq]; rfl
theorem bi_leq (k : IntKind) : binInt .leq k k a b c = c (.bool (decide (a ≤ b))) := by
  have : kbeq k k = true := by cases k <;> rfl
  show ifK (kbeq k k) (c (.bool (bnot (ilt b a)))) = _
  rw [this, ilt_eq, bnot_eq]
  show c _ = _
  congr 2
  by_cases h : b < a
  · simp [h]
  · simp [h]; omega
theorem bi_geq (k : IntKind) : binInt .geq k k a b c = c (.bool (decide (b ≤ a))) := by
  have : kbeq k k = true := by cases k <;> rfl
  show ifK (kbeq k k) (c (.bool (bnot (ilt a b)))) = _
  rw [this, ilt_eq, bnot_eq]
  show c _ = _
  congr 2
  by_cases h : a < b
  · simp [h]
  · simp [h]; omega
end
section
variable (S : Sy) {a b : Int} (h : H) (k : K)
theorem o_add (h1 : -9223372036854775808 ≤ a + b) (h2 : a + b < 9223372036854775808) : o_bin S .add (.int .i64 a) (.int .i64 b) h k = k (.int .i64 (a + b)) h := bi_add (fun v => k v h) h1 h2
theorem o_sub (h1 : -9223372036854775808 ≤ a - b) (h2 : a - b < 9223372036854775808) : o_bin S .sub (.int .i64 a) (.int .i64 b) h k = k (.int .i64 (a - b)) h := bi_sub (fun v => k v h) h1 h2
theorem o_mul (h1 : -9223372036854775808 ≤ a * b) (h2 : a * b < 9223372036854775808) : o_bin S .mul (.int .i64 a) (.int .i64 b) h k = k (.int .i64 (a * b)) h := bi_mul (fun v => k v h) h1 h2
theorem o_quo (h1 : 0 ≤ a) (h2 : 0 < b) (h3 : a < 9223372036854775808) : o_bin S .quo (.int .i64 a) (.int .i64 b) h k = k (.int .i64 (a / b)) h := bi_quo (fun v => k v h) h1 h2 h3
theorem o_rem (h1 : 0 ≤ a) (h2 : 0 < b) : o_bin S .rem (.int .i64 a) (.int .i64 b) h k = k (.int .i64 (a % b)) h := bi_rem (fun v => k v h) h1 h2
variable (a b) (j : IntKind)
theorem o_eql : o_bin S .eql (.int j a) (.int j b) h k = k (.bool (decide (a = b))) h := bi_eql (fun v => k v h) j
theorem o_neq : o_bin S .neq (.int j a) (.int j b) h k = k (.bool (!decide (a = b))) h := bi_neq (fun v => k v h) j
theorem o_lss : o_bin S .lss (.int j a) (.int j b) h k = k (.bool (decide (a < b))) h := bi_lss (fun v => k v h) j
theorem o_gtr : o_bin S .gtr (.int j a) (.int j b) h k = k (.bool (decide (b < a))) h := bi_gtr (fun v => k v h) j
theorem o_leq : o_bin S .leq (.int j a) (.int j b) h k = k (.bool (decide (a ≤ b))) h := bi_leq (fun v => k v h) j
theorem o_geq : o_bin S .geq (.int j a) (.int j b) h k = k (.bool (decide (b ≤ a))) h := bi_geq (fun v => k v h) j
end
theorem conv_i (S : Sy) (j i : IntKind) (n : Int) (h : H) (k : K) : o_conv S j (.int i n) h k = k (.int j (j.wrap n)) h := wrapK_eq j n fun n => k (.int j n) h
theorem conv_64 {n : Int} (S : Sy) (i : IntKind) (h : H) (k : K) (h1 : -9223372036854775808 ≤ n) (h2 : n < 9223372036854775808) : o_conv S .i64 (.int i n) h k = k (.int .i64 n) h := by
  rw [conv_i]; show k (.int .i64 (wrap64 n)) h = _; rw [wrap64_id h1 h2]
theorem neg_v (n : Int) (h : H) (k : K) : o_neg (.int .i64 n) h k = k (.int .i64 (wrap64 (0 - n))) h := wrapK_eq .i64 (0 - n) fun n => k (.int .i64 n) h
theorem nilck_v (b : Pos) (i : Nat) (h : H) (k : K) : o_nilck (.ptr b i) h k = k (.ptr b i) h := (rfl)
theorem fa_v (off : Nat) (b : Pos) (i : Nat) (h : H) (k : K) : o_fa off (.ptr b i) h k = k (.ptr b (i + off)) h := (rfl)
theorem nat_i {j : IntKind} {n : Int} (h0 : 0 ≤ n) (k : Nat → R) : V.nat (.int j n) k = k n.toNat := by
  cases n with
  | ofNat n => rfl
  | negSucc n => exact absurd h0 (by omega)
theorem ixs_v {b : Pos} {o len cap : Nat} {fx : Option Nat} {j : IntKind} {i : Int} (h0 : 0 ≤ i) (h1 : i < (len : Int)) (esz : Nat) (h : H) (k : K) : o_ixs esz (.sl b o len cap fx) (.int j i) h k = k (.ptr b (o + i.toNat * esz)) h := by
  show V.nat (.int j i) (fun n => ifK (ltb n len) _) = _
  rw [nat_i h0, ltb_eq, decide_eq_true (by omega)]; rfl
theorem ixa_v {b : Pos} {o len : Nat} {j : IntKind} {i : Int} (h0 : 0 ≤ i) (h1 : i < (len : Int)) (esz : Nat) (h : H) (k : K) : o_ixa len esz (.ptr b o) (.int j i) h k = k (.ptr b (o + i.toNat * esz)) h := by
  show V.nat (.int j i) (fun n => ifK (ltb n len) _) = _
  rw [nat_i h0, ltb_eq, decide_eq_true (by omega)]; rfl
theorem len_sl (b : Pos) (o n c : Nat) (fx : Option Nat) (h : H) (k : K) : o_len (.sl b o n c fx) h k = k (.int .i64 (n : Int)) h := (rfl)
theorem len_nil (h : H) (k : K) : o_len .nils h k = k (.int .i64 0) h := (rfl)
theorem nthK_eq {l : List V} {i : Nat} {v : V} (e : l[i]? = some v) (k : V → R) : nthK l i k = k v := by
  induction l generalizing i with
  | nil => simp at e
  | cons a l ih =>
    cases i with
    | zero => simp at e; subst e; rfl
    | succ i => exact ih (by simpa using e)
theorem ext_0 (a : V) (l : List V) (h : H) (k : K) : o_ext (.tup (a :: l)) 0 h k = k a h := (rfl)
theorem ext_1 (a b : V) (l : List V) (h : H) (k : K) : o_ext (.tup (a :: b :: l)) 1 h k = k b h := (rfl)
theorem ext_2 (a b c : V) (l : List V) (h : H) (k : K) : o_ext (.tup (a :: b :: c :: l)) 2 h k = k c h := (rfl)
theorem fld_1 {off : Nat} {c : List V} {v : V} (e : c[off]? = some v) (h : H) (k : K) : o_fld none off (.agg c) h k = k v h := nthK_eq e fun v => k v h
theorem fld_n {n off : Nat} {c : List V} (e : off + n ≤ c.length) (h : H) (k : K) : o_fld (some n) off (.agg c) h k = k (.agg ((c.drop off).take n)) h := by
  show ifK (Nat.ble (off + n) (llen c)) (k (.agg (tkn (drp c off) n)) h) = _
  rw [llen_eq, ble_of e, tkn_eq, drp_eq]; rfl
end Go.Ab
