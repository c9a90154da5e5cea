/- A region that draws its order, whole. -/
import Derived.Test.YtnhakkolafedhaaGreatAbX
set_option linter.unusedVariables false
set_option linter.unusedSimpArgs false
namespace Go.Ab
section
variable {P : Program} {cx : Cx} {σ : Nat → Int} {S : Sy} {call : Nat → List V → H → K → R} {round : Pos → List V → H → K → R} {loop : IC → T → H → (T → H → R) → (Option Nat → T → H → R) → R}
variable {nt : Nat} {ops : Array Oper} {es : List Ent} {t : T} {h : H} {k : T → H → R} {r : V × H} {ts : Nat → T} {hs : Nat → H} {vs : Nat → V} {wt : Nat → Bool}
variable {ι0 : Inj} {w0 : World} {df : List Deferred} {listed : Array Bool} {a : Act} {w : World} {T0 : T} {ι : Inj} {F : Nat}

theorem St.final {E : Env} (R0 : Rg cx S E nt ops es t h k r ts hs vs wt) (st : St cx σ nt ops es t h hs vs wt ι0 w0 df listed a w T0 ι F) (hall : ∀ (p : Nat) (e : Ent), es[p]? = some e → Dn listed e.j) :
    Fr cx σ nt ι (ts es.length) (hs es.length) a w ∧ a.defers = df ∧ Ext ι0 ι h (hs es.length) w0 w := by
  have hF : F = es.length := by
    have := st.Fm
    by_cases h1 : F < es.length
    · obtain ⟨e, h2, _, h3⟩ := st.Fw h1; exact absurd (hall F e h2) h3
    · omega
  subst hF
  refine ⟨⟨st.rel, fun n => ?_, st.tsz⟩, st.df, st.ext⟩
  obtain ⟨g1, g2⟩ := R0.tsGot es.length (Nat.le_refl _)
  have : T0.get (Pos.of n) = (ts es.length).get (Pos.of n) := by
    by_cases hq : ∃ (q : Nat) (f : Ent), es[q]? = some f ∧ f.io.dst = some (Pos.of n)
    · obtain ⟨q, f, hf, hd⟩ := hq
      rw [st.got q f _ hf (hall q f hf) hd, g1 q f _ (List.getElem?_eq_some_iff.1 hf).1 hf hd]
    · rw [st.old _ fun q f hf _ hd => hq ⟨q, f, hf, hd⟩, g2 _ fun q f _ hf hd => hq ⟨q, f, hf, hd⟩]
  rw [← ev_get this]; exact st.tm n

theorem St.any (hS : SyOk σ P S) (hy : Hyp P cx) (hE : EnvNat call round loop) (hok : EnvOk P cx σ call round) (R0 : Rg cx S (.mk call round loop) nt ops es t h k r ts hs vs wt) {ro : Option Nat} {Q : Exit → Act → World → Prop}
    (hQ : ∀ ι a w, Fr cx σ nt ι (ts es.length) (hs es.length) a w → a.defers = df → Ext ι0 ι h (hs es.length) w0 w → Q .normal a w) :
    ∀ (fuel : Nat) (listed : Array Bool) (a : Act) (w : World) (T0 : T) (ι : Inj) (F : Nat), St cx σ nt ops es t h hs vs wt ι0 w0 df listed a w T0 ι F → listed.toList.count false = fuel → wpAnyIn (Fz ro) 0 P .any ops Q fuel listed a w := by
  intro fuel
  have done : ∀ (listed : Array Bool) (a : Act) (w : World) (T0 : T) (ι : Inj) (F : Nat), St cx σ nt ops es t h hs vs wt ι0 w0 df listed a w T0 ι F → Region.ready .any ops listed = [] → Q .normal a w := by
    intro listed a w T0 ι F st hr
    have hall : ∀ (p : Nat) (e : Ent), es[p]? = some e → Dn listed e.j := by
      intro p
      induction p using Nat.strongRecOn with
      | _ p ih =>
        intro e he
        refine Classical.byContradiction fun hn => ?_
        have hlt := R0.chk.lt p e he
        obtain ⟨oo, h1, h2, h3⟩ := R0.ent p e he
        have : e.j ∈ Region.ready .any ops listed := by
          unfold Region.ready
          rw [List.mem_filter]
          refine ⟨by simpa using hlt, ?_⟩
          rw [Bool.and_eq_true, h1]
          constructor
          · rw [Array.getD_eq_getD_getElem?]
            cases hx : listed[e.j]? with
            | none => rw [Array.getElem?_eq_none_iff] at hx; rw [st.sz] at hx; omega
            | some b => cases b with
              | false => rfl
              | true => exact absurd hx hn
          · simp only [Option.map_some, Option.getD_some]
            rw [← Array.all_toList, List.all_eq_true]
            intro ed hed
            cases hb : Region.binds .any ed with
            | false => rfl
            | true =>
              have hz : ed.on ∈ e.ps := by
                rw [h2]; unfold predsOf; rw [List.mem_map]; exact ⟨ed, by rw [List.mem_filter]; exact ⟨hed, hb⟩, rfl⟩
              obtain ⟨q, f, hq, hf, e1⟩ := R0.chk.topo p e he _ hz
              have hD := ih q hq f hf
              rw [e1] at hD
              unfold Dn at hD
              simp [Array.getD_eq_getD_getElem?, hD]
        rw [hr] at this; cases this
    obtain ⟨f1, f2, f3⟩ := st.final R0 hall
    exact hQ ι a w f1 f2 f3
  induction fuel with
  | zero =>
    intro listed a w T0 ι F st hc
    have hr : Region.ready .any ops listed = [] := by
      unfold Region.ready
      rw [List.filter_eq_nil_iff]
      intro i hi hb
      rw [Bool.and_eq_true] at hb
      have hi : i < ops.size := by simpa using hi
      have hl : i < listed.size := by rw [st.sz]; exact hi
      have hx := hb.1
      rw [Array.getD_eq_getD_getElem?, Array.getElem?_eq_getElem hl] at hx
      simp only [Option.getD_some, Bool.not_eq_true'] at hx
      have : false ∈ listed.toList := by rw [← hx]; exact Array.getElem_mem_toList hl
      have := List.count_pos_iff.2 this
      omega
    exact ⟨hr, done listed a w T0 ι F st hr⟩
  | succ fuel ih =>
    intro listed a w T0 ι F st hc
    refine ⟨done listed a w T0 ι F st, fun i hi => ?_⟩
    refine st.step hS hy hE hok R0 hi fun a' w' T' ι' F' st' => ih _ a' w' T' ι' F' st' ?_
    unfold Region.ready at hi
    rw [List.mem_filter] at hi
    have hi1 : i < ops.size := by simpa using hi.1
    have hl : i < listed.size := by rw [st.sz]; exact hi1
    have hx := (Bool.and_eq_true .. ▸ hi.2 : _ ∧ _).1
    rw [Array.getD_eq_getD_getElem?, Array.getElem?_eq_getElem hl] at hx
    simp only [Option.getD_some, Bool.not_eq_true'] at hx
    rw [Array.toList_setIfInBounds, List.count_set (by simpa using hl)]
    have : listed.toList[i]'(by simpa using hl) = false := by simpa using hx
    rw [this, hc]; simp

theorem regd_sound (hS : SyOk σ P S) (hy : Hyp P cx) (hm : P.follows .mixedOrders = true) (hE : EnvNat call round loop) (hok : EnvOk P cx σ call round) {L : List IOpr} (hc : compDraw cx nt ops = .regd L)
    {t : T} {h : H} {k : T → H → R} {r : V × H} (hx : opersD S L (.mk call round loop) [] t h k = some r) :
    ∃ t' h', k t' h' = some r ∧ ∀ (ro : Option Nat) (id : Nat) (ι : Inj) (a : Act) (w : World) (Q : Exit → Act → World → Prop), Fr cx σ nt ι t h a w →
      (∀ ι' a' w', Fr cx σ nt ι' t' h' a' w' → a'.defers = a.defers → Ext ι ι' h h' w w' → Q .normal a' w') → (Code.region id ops true).wpIn (Fz ro) 0 P Q a w := by
  unfold compDraw at hc
  generalize hes : (order ops ops.size []).map (entOf cx nt ops) = es at hc
  by_cases hchk : chkEnts ops es = true
  · rw [if_pos hchk] at hc
    cases hc
    obtain ⟨hlen, hok2⟩ := chk_ok hchk
    have hlate : ∀ o ∈ lateE es, o.late ≠ 0 → o.op.kind = 1 := by
      intro o ho hl
      obtain ⟨p, hp, e⟩ := List.getElem_of_mem ho
      have h1 := lateE_get es p
      rw [List.getElem?_eq_getElem hp, e] at h1
      cases h2 : es[p]? with
      | none => rw [h2] at h1; cases h1
      | some x =>
        rw [h2] at h1
        simp only [Option.map_some, Option.some.injEq] at h1
        subst h1
        by_cases hb : Nat.beq x.io.op.kind 1 = true
        · rw [Nat.beq_eq] at hb; exact hb
        · simp [hb] at hl
    obtain ⟨ts, hs, vs, wt, can⟩ := opersD_can hE (lateE es) [] t h k r (by simp) hlate hx
    have R0 : Rg cx S (.mk call round loop) nt ops es t h k r ts hs vs wt := ⟨hlen, hok2, fun p e he => by
      rw [← hes, List.getElem?_map] at he
      cases h2 : (order ops ops.size [])[p]? with
      | none => rw [h2] at he; cases he
      | some j =>
        rw [h2] at he
        simp only [Option.map_some, Option.some.injEq] at he
        have hj := hok2.lt p e (by rw [← hes, List.getElem?_map, h2, ← he]; rfl)
        have hje : e.j = j := by rw [← he]; unfold entOf; split <;> rfl
        rw [hje] at hj ⊢
        refine ⟨ops[j], Array.getElem?_eq_getElem hj, ?_, ?_⟩
        · rw [← he]; unfold entOf; rw [Array.getElem?_eq_getElem hj]
        · rw [← he]; unfold entOf; rw [Array.getElem?_eq_getElem hj], can⟩
    have hfin := can.fin
    rw [lateE_length] at hfin
    refine ⟨_, _, hfin, fun ro id ι a w Q hf hQ => ?_⟩
    refine wpIn_region_any hm ?_
    obtain ⟨F, n1, n2, n3, n4⟩ := next_writer es es.length 0 (by omega)
    obtain ⟨c1, c2, c3, c4⟩ := R0.chain (σ := σ) F n1 n2 n3
    rw [can.h0] at c1 c2 c3
    have hnD : ∀ j, ¬ Dn (Array.replicate ops.size false) j := fun j hD => by
      unfold Dn at hD
      rw [Array.getElem?_replicate] at hD
      split at hD <;> simp at hD
    have hrel : Rel cx σ ι h { w with drawn := w.drawn + 1 } := hf.rel.drew rfl
    have hst : St cx σ nt ops es t h hs vs wt ι w a.defers (Array.replicate ops.size false) a { w with drawn := w.drawn + 1 } t ι F :=
      ⟨by simp, fun p e _ hD => absurd hD (hnD _), hf.tm, hf.sz, rfl, fun p e d _ hD => absurd hD (hnD _), fun x _ => rfl, n2, fun hF => by obtain ⟨e, a1, a2⟩ := n4 hF; exact ⟨e, a1, a2, hnD _⟩, fun p e _ hD => absurd hD (hnD _),
        fun p e he hpF hk => absurd hk (n3 p e (Nat.zero_le _) hpF he), c1 ι _ hrel, c2 ι ι h w _ (Ext.drew ι h w _), fun p e he hpF hw hk _ => by
          obtain ⟨_, _, d3, _⟩ := R0.chain (σ := σ) (a := 0) p (Nat.zero_le _) (by omega) fun i e' x1 x2 x3 => n3 i e' x1 (by omega) x3
          rw [can.h0] at d3
          obtain ⟨y1, y2⟩ := R0.mkAt he hw hk hpF n2 fun i e' x1 x2 x3 => n3 i e' (Nat.zero_le _) x2 x3
          refine ⟨?_, d3, y1, y2⟩
          cases hxx : ι (hs p).nx with
          | none => rfl
          | some l => have := (hf.rel.bound _ l hxx).1; omega,
        fun p q e g he hg hpq hqF hwp hwq hkp hkq _ _ => (R0.mkAt he hwp hkp hpq (by omega) fun i e' x1 x2 x3 => n3 i e' (Nat.zero_le _) (by omega) x3).1⟩
    exact St.any hS hy hE hok R0 (ι0 := ι) (w0 := w) (df := a.defers) (fun ι' a' w' f1 f2 f3 => hQ ι' a' w' f1 f2 f3) ops.size _ _ _ _ _ _ hst (by simp [List.count_replicate])
  · rw [if_neg hchk] at hc; cases hc
end
end Go.Ab
