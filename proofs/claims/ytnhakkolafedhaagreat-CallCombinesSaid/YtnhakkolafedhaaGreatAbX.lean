/- A region that draws its order: one step of an order; the whole. -/
import Derived.Test.YtnhakkolafedhaaGreatAbW
set_option linter.unusedVariables false
set_option linter.unusedSimpArgs false
namespace Go.Ab
section
variable {P : Program} {cx : Cx} {σ : Nat → Int} {S : Sy} {call : Nat → List V → H → K → R} {round : Pos → List V → H → K → R} {loop : IC → T → H → (T → H → R) → (Option Nat → T → H → R) → R}
variable {nt : Nat} {ops : Array Oper} {es : List Ent} {t : T} {h : H} {k : T → H → R} {r : V × H} {ts : Nat → T} {hs : Nat → H} {vs : Nat → V} {wt : Nat → Bool}
variable {ι0 : Inj} {w0 : World} {df : List Deferred} {listed : Array Bool} {a : Act} {w : World} {T0 : T} {ι : Inj} {F : Nat}

theorem Rg.late {E : Env} (_ : Rg cx S E nt ops es t h k r ts hs vs wt) {p F : Nat} {e : Ent} (_ : es[p]? = some e) (hpF : p + 1 ≤ F)
    (hn : ∀ (q : Nat) (g : Ent), p < q → q < F → es[q]? = some g → g.io.op.kind = 3 → e.j ∉ g.ps) :
    ((es.drop (p + 1)).take (F - (p + 1))).countP (fun e => e.io.op.kind == 3) ≤ lateOf e.j (es.drop (p + 1)) :=
  lateOf_cnt _ _ fun i f hi hf hk => hn (p + 1 + i) f (by omega) (by omega) (by simpa using hf) hk

theorem St.step (hS : SyOk σ P S) (hy : Hyp P cx) (hE : EnvNat call round loop) (hok : EnvOk P cx σ call round) (R0 : Rg cx S (.mk call round loop) nt ops es t h k r ts hs vs wt)
    (st : St cx σ nt ops es t h hs vs wt ι0 w0 df listed a w T0 ι F) {i : Nat} (hi : i ∈ Region.ready .any ops listed) {ro : Option Nat} {K : Act → World → Prop} {Q : Exit → Act → World → Prop}
    (hK : ∀ a' w' T' ι' F', St cx σ nt ops es t h hs vs wt ι0 w0 df (listed.setIfInBounds i true) a' w' T' ι' F' → K a' w') : wpOpIn (Fz ro) 0 P ops Q i K a w := by
  unfold Region.ready at hi
  rw [List.mem_filter] at hi
  obtain ⟨hi1, hi2⟩ := hi
  have hi1 : i < ops.size := by simpa using hi1
  obtain ⟨p, e, he, rfl⟩ := R0.chk.surj i hi1
  obtain ⟨oo, op, g, d, hoo, hio, hc, hg, hd, hpsq⟩ := R0.good rfl he
  rw [Bool.and_eq_true, hoo] at hi2
  have hlt : e.j < listed.size := by rw [st.sz]; exact hi1
  have hnD : ¬ Dn listed e.j := fun hD => by
    have := hi2.1
    unfold Dn at hD
    rw [Array.getD_eq_getD_getElem?, hD] at this
    cases this
  have hps : ∀ z ∈ e.ps, Dn listed z := fun z hz => by
    rw [hpsq] at hz
    unfold predsOf at hz
    rw [List.mem_map] at hz
    obtain ⟨ed, hed, rfl⟩ := hz
    rw [List.mem_filter] at hed
    have := hi2.2
    simp only [Option.map_some, Option.getD_some] at this
    rw [← Array.all_toList, List.all_eq_true] at this
    have := this ed hed.1
    rw [hed.2] at this
    simp only [Bool.not_true, Bool.false_or] at this
    unfold Dn
    rw [Array.getD_eq_getD_getElem?] at this
    cases hx : listed[ed.on]? with
    | none => rw [hx] at this; cases this
    | some b => rw [hx] at this; simp only [Option.getD_some] at this; rw [this]
  have hahead := st.ahead R0 p e he hps
  have hpl : p < es.length := (List.getElem?_eq_some_iff.1 he).1
  have hpF : p ≤ F := by
    refine Nat.le_of_not_lt fun hlt => ?_
    obtain ⟨g', g1, g2, g3⟩ := st.Fw (by omega)
    exact g3 (hahead F g' hlt g1 g2)
  have hag : ∀ x, rdsIn x e.io = true → T0.get x = (ts p).get x := fun x hx => st.agree R0 he hnD hps hx
  obtain ⟨o, ho, o1, o2, o3, o4⟩ := R0.get he
  have hop : e.io.op = op := by rw [hio]
  have hgd : e.io.guard = g := by rw [hio]
  have hdd : e.io.dst = d := by rw [hio]
  have hexec : ∀ H' k', exec S (.mk call round loop) op T0 H' k' = exec S (.mk call round loop) op (ts p) H' k' := fun H' k' => exec_congr (by rw [← hop]; exact agree_opds hag) H' k'
  have hwant : ∀ x y, wantK g T0 x y = wantK g (ts p) x y := fun x y => by rw [← hgd]; exact agree_guard hag x y
  -- where the next writer stands, once this one is done
  have fin : ∀ (a' : Act) (w' : World) (ι' : Inj), TRel σ ι' (tset d (vs p) T0) a'.tmps → a'.tmps.size = nt → a'.defers = df →
      (p < F → Rel cx σ ι' (hs F) w' ∧ Ext ι0 ι' h (hs F) w0 w' ∧ ∀ (q : Nat) (g : Ent), es[q]? = some g → q < F → wt q = true → g.io.op.kind = 2 → ¬ Dn listed g.j → q ≠ p → ι' (hs q).nx = none) →
      (p = F → Rel cx σ ι' (hs (p + 1)) w' ∧ Ext ι0 ι' h (hs (p + 1)) w0 w' ∧ (hs F).nx.toNat ≤ (hs (p + 1)).nx.toNat ∧
        ∀ (b : Pos), b.toNat < (hs F).nx.toNat → ι b = none → ι' b = none ∧ (hs (p + 1)).get b = (hs F).get b) → K a' w' := by
    intro a' w' ι' h1 h2 h3 h4 h5
    by_cases hlt : p < F
    · obtain ⟨h6, h7, h8⟩ := h4 hlt
      refine hK a' w' (tset d (vs p) T0) ι' F ?_
      have := st.add R0 he hps (a' := a') (w' := w') (ι' := ι') (F' := F) (by rw [hdd]; exact h1) h2 h3 st.Fm (fun hF => ?_) (fun q g hq hD => ?_) (fun q g hq hqF hk => .inr (st.wdone q g hq hqF hk)) h6 h7
        (fun q g hq hqF hw hk hD hne => { st.mks q g hq hqF hw hk hD with no := h8 q g hq hqF hw hk hD hne })
        (fun x q f g hf hg hx hq hwx hwq hkx hkq hDx hDq _ _ => st.mkd x q f g hf hg hx hq hwx hwq hkx hkq hDx hDq)
      · rw [hdd] at this; exact this
      · obtain ⟨g', a1, a2, a3⟩ := st.Fw hF; exact ⟨g', a1, a2, a3, by omega⟩
      · rcases hD with hD | rfl
        · exact st.below q g hq hD
        · exact hlt
    · have hpe : p = F := by omega
      obtain ⟨h6, h7, h8, h9⟩ := h5 hpe
      obtain ⟨F', n1, n2, n3, n4⟩ := next_writer es (es.length - (p + 1)) (p + 1) (by omega)
      obtain ⟨c1, c2, c3, c4⟩ := R0.chain (σ := σ) F' n1 n2 n3
      have past : ∀ q, p < q → q < F' → (hs (p + 1)).nx.toNat ≤ (hs q).nx.toNat := fun q hq hqF => by
        obtain ⟨d1, d2, d3, d4⟩ := R0.chain (σ := σ) (a := p + 1) q (by omega) (by omega) fun i e' x1 x2 x3 => n3 i e' x1 (by omega) x3
        exact d3
      refine hK a' w' (tset d (vs p) T0) ι' F' ?_
      have := st.add R0 he hps (a' := a') (w' := w') (ι' := ι') (F' := F') (by rw [hdd]; exact h1) h2 h3 n2 (fun hF => ?_) (fun q g hq hD => ?_) (fun q g hq hqF hk => ?_) (c1 ι' w' h6) (c2 ι0 ι' h w0 w' h7)
        (fun q g hq hqF hw hk hD hne => ?_) (fun x q f g hf hg hx hq hwx hwq hkx hkq hDx hDq hnx hnq => ?_)
      · rw [hdd] at this; exact this
      · obtain ⟨g', a1, a2⟩ := n4 hF
        exact ⟨g', a1, a2, fun hD => by have := st.below F' g' a1 hD; omega, by omega⟩
      · rcases hD with hD | rfl
        · have := st.below q g hq hD; omega
        · omega
      · by_cases e1 : q = p
        · exact .inl e1
        · by_cases e2 : q < p
          · exact .inr (st.wdone q g hq (by omega) hk)
          · exact absurd hk (n3 q g (by omega) hqF hq)
      · by_cases e2 : q < p
        · have m := st.mks q g hq (by omega) hw hk hD
          obtain ⟨x1, x2⟩ := h9 _ m.lt m.no
          obtain ⟨ob, y1, y2⟩ := m.get
          exact ⟨x1, m.ge, by have := m.lt; omega, ob, y1, c4 _ _ (x2.trans y2)⟩
        · have hle := past q (by omega) hqF
          obtain ⟨y1, y2⟩ := R0.mkAt hq hw hk hqF n2 fun i e' x1 x2 x3 => n3 i e' (by omega) x2 x3
          refine ⟨?_, by have := h7.nx; omega, y1, y2⟩
          cases hx : ι' (hs q).nx with
          | none => rfl
          | some l => have := (h6.bound _ l hx).1; omega
      · by_cases e2 : q < p
        · exact st.mkd x q f g hf hg hx (by omega) hwx hwq hkx hkq hDx hDq
        · have hle := past q (by omega) hq
          by_cases e3 : x < p
          · have := (st.mks x f hf (by omega) hwx hkx hDx).lt; omega
          · exact (R0.mkAt hf hwx hkx hx (by omega) fun i e' x1 x2 x3 => n3 i e' (by omega) (by omega) x3).1
  unfold wpOpIn
  simp only [hoo]
  rcases wantK_spec (σ := σ) (ops := ops) (o := oo) rfl hg T0 none (some r) with ⟨ew, hw⟩ | ⟨ew, hw⟩
  · -- wanted
    have hwt : wt p = true := by
      cases hwt : wt p with
      | true => rfl
      | false =>
        have := (R0.can.no p o ho hwt).2.2 none (some r)
        rw [o2, hgd, ← hwant, ew] at this; cases this
    simp only [hw ι a.tmps st.tm, if_true]
    have hyes := (R0.can.yes p o ho hwt).2
    rw [o3, hop] at hyes
    have oper : ∀ (H' H'' : H), exec S (.mk call round loop) op T0 H' (fun v h => some (v, h)) = some (vs p, H'') → Sim cx σ P oo T0 H' (vs p) H'' := fun H' H'' hx => by
      obtain ⟨v, h', e1, e2⟩ := op_sim hS hy rfl hok hc hx
      simp at e1
      obtain ⟨rfl, rfl⟩ := e1
      exact e2
    have putok : ∀ (v' : Value) (ι' : Inj), Le ι ι' → VR σ ι' (vs p) v' → TRel σ ι' (tset d (vs p) T0) (a.put oo.dst v').tmps ∧ (a.put oo.dst v').tmps.size = nt ∧ (a.put oo.dst v').defers = df := fun v' ι' hle hv => by
      obtain ⟨p1, p2⟩ := (st.tm.mono hle).put st.tsz hd hv
      exact ⟨p1, p2, by rw [← st.df]; cases oo.dst <;> rfl⟩
    -- a run that leaves the abstract memory as it is
    have same : p < F → exec S (.mk call round loop) op T0 (hs F) (fun v h => some (v, h)) = some (vs p, hs F) → oo.wpIn (Fz ro) 0 P a w K Q := fun hlt hx => by
      refine oper _ _ hx ro ι a w K Q st.rel st.tm.opds fun v' w' ι' hv hr hext => ?_
      obtain ⟨p1, p2, p3⟩ := putok v' ι' hext.le hv
      refine fin _ w' ι' p1 p2 p3 (fun _ => ⟨hr, st.ext.trans hext, fun q g' hq hqF hwq hk hD hne => ?_⟩) (fun e1 => by omega)
      have m := st.mks q g' hq hqF hwq hk hD
      cases hx : ι' (hs q).nx with
      | none => rfl
      | some l => have h1 := hext.fresh _ l hx m.no; have := m.lt; omega
    have lateNo : p < F → ∀ (q : Nat) (g' : Ent), p < q → q < F → es[q]? = some g' → g'.io.op.kind = 3 → e.j ∉ g'.ps := fun _ q g' h1 h2 hq hk hmem => hnD (st.cl q g' hq (st.wdone q g' hq h2 hk) _ hmem)
    by_cases hlt : p < F
    · rcases kind_le op with hk | hk | hk | hk
      · have hx := hyes (fun v h => some (v, h))
        obtain ⟨v, e1, e2⟩ := kind0_spec hk hx
        simp at e1
        refine same hlt ?_
        rw [hexec, e2, e1.1]
      · have hrd := R0.can.rd p o (F - (p + 1)) ho hwt (by rw [o3, hop]; exact hk) (by rw [lateE_length]; have := st.Fm; omega) (by
          rw [lateE_drop, cnt_lateE, o4]
          have hb : Nat.beq e.io.op.kind 1 = true := by rw [Nat.beq_eq, hop]; exact hk
          rw [if_pos hb]
          exact R0.late he (by omega) (lateNo hlt))
        rw [o3, hop, show p + 1 + (F - (p + 1)) = F by omega] at hrd
        refine same hlt ?_
        rw [hexec, hrd (hs F) (HLe.refl _)]
      · -- a block is made
        have hmkop := R0.chk.mks p e oo he hoo (by rw [hop]; exact hk)
        have hx := hyes (fun v h => some (v, h))
        obtain ⟨ob, val, e1, e2⟩ := comp_makes (σ := σ) hy hmkop hc S (.mk call round loop) T0 (hs p) (fun v h => some (v, h)) _ ((hexec _ _).trans hx)
        simp only [Option.some.injEq, Prod.mk.injEq] at e1
        obtain ⟨ev, eh⟩ := e1
        obtain ⟨hnone, hge, hltF, ob2, g1, g2⟩ := st.mks p e he hlt hwt (by rw [hop]; exact hk) hnD
        have hob : ob2 = ob := by
          have x1 := H.get_push_same (hs p) ob
          have x2 := H.get_push_same (hs p) ob2
          rw [eh, g1, x2] at x1
          simpa using x1
        have hgetF : (hs F).get (hs p).nx = some ob := hob ▸ g2
        obtain ⟨v', obj, sz, r1, r2, r3⟩ := e2 ι w a.eval st.tm.opds
        have hrel := st.rel.fill hnone hltF hgetF r2
        have hext := st.ext.fill (obj := obj) (sz := sz) hnone hge
        have hv : VR σ (ι.add (hs p).nx ⟨w.heap.size, 0, sz⟩) (vs p) v' := by rw [← ev]; exact r3 _ _ (Inj.add_same _ _ _)
        obtain ⟨p1, p2, p3⟩ := putok v' _ (Inj.add_le hnone) hv
        refine ⟨fun f _ => trivial, ?_⟩
        rw [Oper.semAt_eq _ _ _ (not_defer hc), r1]
        refine fin _ _ _ p1 p2 p3 (fun _ => ⟨hrel, hext, fun q g' hq hqF hwq hkq hD hne => ?_⟩) (fun e1 => by omega)
        have hmq := (st.mks q g' hq hqF hwq hkq hD).no
        rw [Inj.add_ne]
        · exact hmq
        · intro heq
          rcases Nat.lt_or_gt_of_ne hne with h1 | h1
          · have := st.mkd q p g' e hq he h1 hlt hwq hwt hkq (by rw [hop]; exact hk) hD hnD
            rw [heq] at this; omega
          · have := st.mkd p q e g' he hq h1 hqF hwt hwq (by rw [hop]; exact hk) hkq hnD hD
            rw [heq] at this; omega
      · exact absurd (st.wdone p e he hlt (by rw [hop]; exact hk)) hnD
    · have hpe : p = F := by omega
      have hx := hyes (fun v h => some (v, h))
      refine oper (hs F) (hs (p + 1)) (by rw [hexec, ← hpe]; exact hx) ro ι a w K Q st.rel st.tm.opds fun v' w' ι' hv hr hext => ?_
      obtain ⟨p1, p2, p3⟩ := putok v' ι' hext.le hv
      exact fin _ w' ι' p1 p2 p3 (fun h => absurd h hlt) (fun _ => ⟨hr, st.ext.trans hext, hext.nx, fun b hb hbn => ⟨by
        cases hx : ι' b with
        | none => rfl
        | some l => have := hext.fresh _ l hx hbn; omega, hext.keepA b hb hbn⟩⟩)
  · -- not wanted
    have hwt : wt p = false := by
      cases hwt : wt p with
      | false => rfl
      | true =>
        have := (R0.can.yes p o ho hwt).1 none (some r)
        rw [o2, hgd, ← hwant, ew] at this; cases this
    simp only [hw ι a.tmps st.tm, if_false, Bool.false_eq_true]
    refine ⟨fun _ _ => trivial, ?_⟩
    obtain ⟨n1, n2, _⟩ := R0.can.no p o ho hwt
    obtain ⟨p1, p2⟩ := st.tm.put st.tsz hd (VR.undef (σ := σ) (ι := ι))
    rw [← n1] at p1
    refine fin _ w ι p1 p2 (by rw [← st.df]; cases oo.dst <;> rfl) (fun hlt => ⟨st.rel, st.ext, fun q g' hq hqF hwq hk hD hne => (st.mks q g' hq hqF hwq hk hD).no⟩) (fun e1 => ?_)
    rw [n2, e1]; exact ⟨st.rel, st.ext, Nat.le_refl _, fun b _ hb => ⟨hb, rfl⟩⟩
end
end Go.Ab
