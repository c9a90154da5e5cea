/- A loop's round; a function; all of them. -/
import Derived.Test.YtnhakkolafedhaaGreatAcA
set_option linter.unusedVariables false
set_option linter.unusedSimpArgs false
namespace Go.Ab
section
variable {P : Program} {cx : Cx} {σ : Nat → Int} {S : Sy} {call : Nat → List V → H → K → R} {round : Pos → List V → H → K → R} {loop : IC → T → H → (T → H → R) → (Option Nat → T → H → R) → R}

theorem tsets_sound {ι : Inj} : ∀ (ps : List Nat) (vs : List V) (xs : List Value) (t : T) (tmps : Array Value) {k : T → R} {r : V × H}, (∀ p ∈ ps, p < tmps.size) → TRel σ ι t tmps → VRL σ ι vs xs → tsets (ps.map Pos.of) vs t k = some r →
    ∃ t', k t' = some r ∧ xs.length = ps.length ∧ TRel σ ι t' ((ps.zip xs).foldl (fun tmps (t, a) => tmps.setIfInBounds t a) tmps) ∧ ((ps.zip xs).foldl (fun tmps (t, a) => tmps.setIfInBounds t a) tmps).size = tmps.size
  | [], [], xs, t, tmps, k, r, _, ht, hv, hx => by rw [VRL.nil.1 hv]; exact ⟨t, hx, rfl, ht, rfl⟩
  | [], v :: vs, _, _, _, _, _, _, _, _, hx => by cases hx
  | p :: ps, [], _, _, _, _, _, _, _, _, hx => by cases hx
  | p :: ps, v :: vs, xs, t, tmps, k, r, hp, ht, hv, hx => by
    obtain ⟨x, xs', rfl, h1, h2⟩ := hv
    obtain ⟨t', e1, e2, e3, e4⟩ := tsets_sound ps vs xs' (Tr.put (Pos.of p) v t) (tmps.setIfInBounds p x) (fun q hq => by simpa using hp q (by simp [hq])) (ht.set (hp p (by simp)) h1) h2 hx
    exact ⟨t', e1, by simp [e2], e3, by simpa using e4⟩

theorem foldl_zip (f : Array Value → Nat → Value → Array Value) (ps : Array Nat) (xs : Array Value) (i : Array Value) : (ps.zip xs).foldl (fun t (p, a) => f t p a) i = (ps.toList.zip xs.toList).foldl (fun t (p, a) => f t p a) i := by
  rw [← Array.foldl_toList, Array.toList_zip]

theorem EndsAs.mono {ι : Inj} {h : H} {w : World} {v : V} {h' : H} {e : Ending} {w' : World} (x : EndsAs cx σ ι h w v h' e w') : EndsAs cx σ ι h w v h' e w' := x

theorem round_sound (hS : SyOk σ P S) (hy : Hyp P cx) (hm : P.follows .mixedOrders = true) (hE : EnvNat call round loop) (hok : EnvOk P cx σ call round) (hlp : LoopOk P cx σ loop)
    (l : Pos) (args : List V) (h : H) (k : K) (r : V × H) (hx : runR S (.mk call round loop) l args h k = some r) : ∃ v h', k v h' = some r ∧ ∀ (ι : Inj) (w : World) (lc : Loc) (xs : Array Value), Rel cx σ ι h w → ι l = some lc → VRL σ ι args xs.toList →
    ∃ f tmps as bd, (Instr.yield lc.blk xs).run P w = .ok (.round lc.blk f tmps as bd) w ∧ RoundIn (Fz none) 0 P lc.blk f tmps as bd w (EndsAs cx σ ι h w v h') := by
  rcases runR_nat hE (S := S) l args h with hn | ⟨v, h', hn⟩
  · rw [hn] at hx; cases hx
  · rw [hn] at hx
    refine ⟨v, h', hx, fun ι w lc xs hr hl hv => ?_⟩
    have hx := hn (fun v h => some (v, h))
    unfold runR at hx
    obtain ⟨st, t, ps, as, bd, hg, hx⟩ := loopK_some hx
    obtain ⟨hst, hx⟩ := ifK_some.1 hx
    rw [Nat.beq_eq] at hst
    subst hst
    obtain ⟨r0, hw0, hlr⟩ := hr.obj _ _ _ hl hg
    have hps := hlr.hps
    subst hps
    obtain ⟨t1, hx, hlen, ht1, hs1⟩ := tsets_sound (σ := σ) r0.params.toList args xs.toList t r0.tmps hlr.lt hlr.tm hv hx
    have hfold : ∀ i : Array Value, (r0.params.zip xs).foldl (fun tmps (t, a) => tmps.setIfInBounds t a) i = (r0.params.toList.zip xs.toList).foldl (fun tmps (t, a) => tmps.setIfInBounds t a) i := fun i => foldl_zip (fun tmps t a => tmps.setIfInBounds t a) _ _ _
    refine ⟨r0.fn, (r0.params.zip xs).foldl (fun tmps (t, a) => tmps.setIfInBounds t a) r0.tmps, r0.assign, r0.body, ?_, ?_⟩
    · have hsz : ¬ (xs.size ≠ r0.params.size) := by simpa using hlen
      unfold Instr.yield
      simp only [Sem.run_bind, run_getLoop hw0, Result.andThen_ok, hsz, if_false]
      rfl
    · have has := hlr.has
      have hbd := hlr.hbd
      subst has hbd
      refine roundIn_Fz (ro := none) (ro' := none) (roundIn_of_wpIn (F := Fz none) trivial ?_)
      have hfr : Fr cx σ r0.tmps.size ι t1 h { tmps := (r0.params.zip xs).foldl (fun tmps (t, a) => tmps.setIfInBounds t a) r0.tmps, defers := [] } w := ⟨hr, by rw [hfold]; exact ht1, by rw [hfold]; exact hs1⟩
      refine code_sound hS hy hm hE hok hlp (lo := 0) r0.assign true t1 h _ _ _ hx (some lc.blk) (fun h => by cases h) ι _ w _ hfr (Nat.zero_le _) trivial (fun t2 h1 e ι1 a1 w1 f1 f2 f3 => ?_) (fun e t' h' ee => by cases ee)
      obtain ⟨st', t', ps', as', bd', hg1, e⟩ := loopK_some e
      obtain ⟨hst, e⟩ := ifK_some.1 e
      rw [Nat.beq_eq] at hst
      subst hst
      have hl1 := f3.le _ _ hl
      obtain ⟨r1, hw1, hlr1⟩ := f1.rel.obj _ _ _ hl1 hg1
      have hready : r1.state = .ready := by
        have := hlr1.hst
        revert this
        cases r1.state <;> (cases r1.pending with | none => simp [stOf] | some c => cases c <;> simp [stOf])
      obtain ⟨p1, p2⟩ := f1.rel.setLoop hl1 hg1 hw1 (r' := { r1 with state := .busy }) (o' := .loop 1 t' ps' as' bd')
        ⟨{ r1 with state := .busy }, get_set_same hw1, rfl, fun h => (by cases h), hlr1.tm, hlr1.hps, hlr1.lt, hlr1.has, hlr1.hbd⟩
      refine ⟨setO w1 lc.blk (.loop { r1 with state := .busy }), ?_, ?_⟩
      · unfold Instr.beginRound
        simp only [Sem.run_bind, run_getLoop hw1, Result.andThen_ok, run_setO hw1, hready]
        rfl
      · have hfr2 : Fr cx σ r0.tmps.size ι1 t2 (h1.put l (.loop 1 t' ps' as' bd')) a1 (setO w1 lc.blk (.loop { r1 with state := .busy })) := ⟨p1, f1.tm, f1.sz⟩
        refine code_sound hS hy hm hE hok hlp (lo := 0) r0.body true t2 _ _ _ _ e (some lc.blk) (fun h => by cases h) ι1 a1 _ _ hfr2 (Nat.zero_le _) (f2.ext p2) (fun t3 h2 e2 ι2 a2 w2 g1 g2 g3 => ?_) (fun ex t3 h2 e2 ι2 a2 w2 g1 g2 g3 => ?_)
        · obtain ⟨st3, t3', ps3, as3, bd3, hg2, e2⟩ := loopK_some e2
          simp only [Option.some.injEq, Prod.mk.injEq] at e2
          obtain ⟨rfl, rfl⟩ := e2
          have hl2 := g3.le _ _ hl1
          obtain ⟨r2, hw2, hlr2⟩ := g1.rel.obj _ _ _ hl2 hg2
          obtain ⟨q1, q2⟩ := g1.rel.setLoop hl2 hg2 hw2 (r' := { r2 with state := .ready, pending := none }) (o' := .loop 0 t3' ps3 as3 bd3)
            ⟨{ r2 with state := .ready, pending := none }, get_set_same hw2, rfl, fun _ => rfl, hlr2.tm, hlr2.hps, hlr2.lt, hlr2.has, hlr2.hbd⟩
          refine ⟨.bool true, setO w2 lc.blk (.loop { r2 with state := .ready, pending := none }), ?_, .bool true, ι2, rfl, rfl, q1, (f3.trans p2).trans (g3.trans q2)⟩
          unfold Instr.endRound
          simp only [Sem.run_bind, run_getLoop hw2, Result.andThen_ok, Option.isNone_none, if_true, run_setO hw2, Sem.run_pure]
        · obtain ⟨st3, t3', ps3, as3, bd3, hg2, e2⟩ := loopK_some e2
          simp only [Option.some.injEq, Prod.mk.injEq] at e2
          obtain ⟨rfl, rfl⟩ := e2
          have hl2 := g3.le _ _ hl1
          obtain ⟨r2, hw2, hlr2⟩ := g1.rel.obj _ _ _ hl2 hg2
          cases ex with
          | none =>
            obtain ⟨q1, q2⟩ := g1.rel.setLoop hl2 hg2 hw2 (r' := { r2 with state := .done, pending := some .ret }) (o' := .loop (exitSt none) t3' ps3 as3 bd3)
              ⟨{ r2 with state := .done, pending := some .ret }, get_set_same hw2, rfl, fun h => (by cases h), hlr2.tm, hlr2.hps, hlr2.lt, hlr2.has, hlr2.hbd⟩
            refine ⟨.bool false, setO w2 lc.blk (.loop { r2 with state := .done, pending := some .ret }), ?_, .bool false, ι2, rfl, rfl, q1, (f3.trans p2).trans (g3.trans q2)⟩
            unfold Instr.endRound
            simp only [Sem.run_bind, run_getLoop hw2, Result.andThen_ok, Option.isNone_some, Bool.false_eq_true, if_false, run_setO hw2, Sem.run_pure]
          | some id =>
            obtain ⟨q1, q2⟩ := g1.rel.setLoop hl2 hg2 hw2 (r' := { r2 with state := .done, pending := some (.exit id) }) (o' := .loop (exitSt (some id)) t3' ps3 as3 bd3)
              ⟨{ r2 with state := .done, pending := some (.exit id) }, get_set_same hw2, rfl, fun h => (by cases h), hlr2.tm, hlr2.hps, hlr2.lt, hlr2.has, hlr2.hbd⟩
            refine ⟨.bool false, setO w2 lc.blk (.loop { r2 with state := .done, pending := some (.exit id) }), ?_, .bool false, ι2, rfl, rfl, q1, (f3.trans p2).trans (g3.trans q2)⟩
            unfold Instr.endRound
            simp only [Sem.run_bind, run_getLoop hw2, Result.andThen_ok, Option.isNone_some, Bool.false_eq_true, if_false, run_setO hw2, Sem.run_pure]
end
end Go.Ab
