/- An abstract interpreter of the program's text, in plain terms, proved sound; part 3. No condition. -/
import Derived.Test.YtoeplekdelhicaaGreatLb
import Derived.ChangeSame
import Derived.OpenShut
set_option linter.unusedVariables false
set_option linter.unusedSimpArgs false
/- A loop's round; a function; all of them. -/
namespace Go.Ab
section
variable {P : Program} {cx : Cx} {σ : Nat → Int} {S : Sy} {call : Nat → List V → H → K → R} {round : Pos → List V → H → K → R} {loop : IC → T → H → (T → H → R) → (Option Nat → T → H → R) → R}

theorem tsets_sound {ι : Inj} : ∀ (ps : List Nat) (vs : List V) (xs : List Value) (t : T) (tmps : Array Value) {k : T → R} {r : V × H}, (∀ p ∈ ps, p < tmps.size) → TRel σ ι t tmps → VRL σ ι vs xs → tsets (ps.map Pos.of) vs t k = some r →
    ∃ t', k t' = some r ∧ xs.length = ps.length ∧ TRel σ ι t' ((ps.zip xs).foldl (fun tmps (t, a) => tmps.setIfInBounds t a) tmps) ∧ ((ps.zip xs).foldl (fun tmps (t, a) => tmps.setIfInBounds t a) tmps).size = tmps.size
  | [], [], xs, t, tmps, k, r, _, ht, hv, hx => by rw [VRL.nil.1 hv]; exact ⟨t, hx, rfl, ht, rfl⟩
  | [], v :: vs, _, _, _, _, _, _, _, _, hx => by cases hx
  | p :: ps, [], _, _, _, _, _, _, _, _, hx => by cases hx
  | p :: ps, v :: vs, xs, t, tmps, k, r, hp, ht, hv, hx => by
    obtain ⟨x, xs', rfl, h1, h2⟩ := hv
    obtain ⟨t', e1, e2, e3, e4⟩ := tsets_sound ps vs xs' (Tr.put (Pos.of p) v t) (tmps.setIfInBounds p x) (fun q hq => by simpa using hp q (by simp [hq])) (ht.set (hp p (by simp)) h1) h2 hx
    exact ⟨t', e1, by simp [e2], e3, by simpa using e4⟩

theorem foldl_zip (f : Array Value → Nat → Value → Array Value) (ps : Array Nat) (xs : Array Value) (i : Array Value) : (ps.zip xs).foldl (fun t (p, a) => f t p a) i = (ps.toList.zip xs.toList).foldl (fun t (p, a) => f t p a) i := by
  rw [← Array.foldl_toList, Array.toList_zip]

theorem EndsAs.mono {ι : Inj} {h : H} {w : World} {v : V} {h' : H} {e : Ending} {w' : World} (x : EndsAs cx σ ι h w v h' e w') : EndsAs cx σ ι h w v h' e w' := x

theorem round_sound (hS : SyOk σ P S) (hy : Hyp P cx) (hm : P.follows .mixedOrders = true) (hE : EnvNat call round loop) (hok : EnvOk P cx σ call round) (hlp : LoopOk P cx σ loop)
    (l : Pos) (args : List V) (h : H) (k : K) (r : V × H) (hx : runR S (.mk call round loop) l args h k = some r) : ∃ v h', k v h' = some r ∧ ∀ (ι : Inj) (w : World) (lc : Loc) (xs : Array Value), Rel cx σ ι h w → ι l = some lc → VRL σ ι args xs.toList →
    ∃ f tmps as bd, (Instr.yield lc.blk xs).run P w = .ok (.round lc.blk f tmps as bd) w ∧ RoundIn (Fz none) 0 P lc.blk f tmps as bd w (EndsAs cx σ ι h w v h') := by
  rcases runR_nat hE (S := S) l args h with hn | ⟨v, h', hn⟩
  · rw [hn] at hx; cases hx
  · rw [hn] at hx
    refine ⟨v, h', hx, fun ι w lc xs hr hl hv => ?_⟩
    have hx := hn (fun v h => some (v, h))
    unfold runR at hx
    obtain ⟨st, t, ps, as, bd, hg, hx⟩ := loopK_some hx
    obtain ⟨hst, hx⟩ := ifK_some.1 hx
    rw [Nat.beq_eq] at hst
    subst hst
    obtain ⟨r0, hw0, hlr⟩ := hr.obj _ _ _ hl hg
    have hps := hlr.hps
    subst hps
    obtain ⟨t1, hx, hlen, ht1, hs1⟩ := tsets_sound (σ := σ) r0.params.toList args xs.toList t r0.tmps hlr.lt hlr.tm hv hx
    have hfold : ∀ i : Array Value, (r0.params.zip xs).foldl (fun tmps (t, a) => tmps.setIfInBounds t a) i = (r0.params.toList.zip xs.toList).foldl (fun tmps (t, a) => tmps.setIfInBounds t a) i := fun i => foldl_zip (fun tmps t a => tmps.setIfInBounds t a) _ _ _
    refine ⟨r0.fn, (r0.params.zip xs).foldl (fun tmps (t, a) => tmps.setIfInBounds t a) r0.tmps, r0.assign, r0.body, ?_, ?_⟩
    · have hsz : ¬ (xs.size ≠ r0.params.size) := by simpa using hlen
      unfold Instr.yield
      simp only [Sem.run_bind, run_getLoop hw0, Result.andThen_ok, hsz, if_false]
      rfl
    · have has := hlr.has
      have hbd := hlr.hbd
      subst has hbd
      refine roundIn_Fz (ro := none) (ro' := none) (roundIn_of_wpIn (F := Fz none) trivial ?_)
      have hfr : Fr cx σ r0.tmps.size ι t1 h { tmps := (r0.params.zip xs).foldl (fun tmps (t, a) => tmps.setIfInBounds t a) r0.tmps, defers := [] } w := ⟨hr, by rw [hfold]; exact ht1, by rw [hfold]; exact hs1⟩
      refine code_sound hS hy hm hE hok hlp (lo := 0) r0.assign true t1 h _ _ _ hx (some lc.blk) (fun h => by cases h) ι _ w _ hfr (Nat.zero_le _) trivial (fun t2 h1 e ι1 a1 w1 f1 f2 f3 => ?_) (fun e t' h' ee => by cases ee)
      obtain ⟨st', t', ps', as', bd', hg1, e⟩ := loopK_some e
      obtain ⟨hst, e⟩ := ifK_some.1 e
      rw [Nat.beq_eq] at hst
      subst hst
      have hl1 := f3.le _ _ hl
      obtain ⟨r1, hw1, hlr1⟩ := f1.rel.obj _ _ _ hl1 hg1
      have hready : r1.state = .ready := by
        have := hlr1.hst
        revert this
        cases r1.state <;> (cases r1.pending with | none => simp [stOf] | some c => cases c <;> simp [stOf])
      obtain ⟨p1, p2⟩ := f1.rel.setLoop hl1 hg1 hw1 (r' := { r1 with state := .busy }) (o' := .loop 1 t' ps' as' bd')
        ⟨{ r1 with state := .busy }, get_set_same hw1, rfl, fun h => (by cases h), hlr1.tm, hlr1.hps, hlr1.lt, hlr1.has, hlr1.hbd⟩
      refine ⟨setO w1 lc.blk (.loop { r1 with state := .busy }), ?_, ?_⟩
      · unfold Instr.beginRound
        simp only [Sem.run_bind, run_getLoop hw1, Result.andThen_ok, run_setO hw1, hready]
        rfl
      · have hfr2 : Fr cx σ r0.tmps.size ι1 t2 (h1.put l (.loop 1 t' ps' as' bd')) a1 (setO w1 lc.blk (.loop { r1 with state := .busy })) := ⟨p1, f1.tm, f1.sz⟩
        refine code_sound hS hy hm hE hok hlp (lo := 0) r0.body true t2 _ _ _ _ e (some lc.blk) (fun h => by cases h) ι1 a1 _ _ hfr2 (Nat.zero_le _) (f2.ext p2) (fun t3 h2 e2 ι2 a2 w2 g1 g2 g3 => ?_) (fun ex t3 h2 e2 ι2 a2 w2 g1 g2 g3 => ?_)
        · obtain ⟨st3, t3', ps3, as3, bd3, hg2, e2⟩ := loopK_some e2
          simp only [Option.some.injEq, Prod.mk.injEq] at e2
          obtain ⟨rfl, rfl⟩ := e2
          have hl2 := g3.le _ _ hl1
          obtain ⟨r2, hw2, hlr2⟩ := g1.rel.obj _ _ _ hl2 hg2
          obtain ⟨q1, q2⟩ := g1.rel.setLoop hl2 hg2 hw2 (r' := { r2 with state := .ready, pending := none }) (o' := .loop 0 t3' ps3 as3 bd3)
            ⟨{ r2 with state := .ready, pending := none }, get_set_same hw2, rfl, fun _ => rfl, hlr2.tm, hlr2.hps, hlr2.lt, hlr2.has, hlr2.hbd⟩
          refine ⟨.bool true, setO w2 lc.blk (.loop { r2 with state := .ready, pending := none }), ?_, .bool true, ι2, rfl, rfl, q1, (f3.trans p2).trans (g3.trans q2)⟩
          unfold Instr.endRound
          simp only [Sem.run_bind, run_getLoop hw2, Result.andThen_ok, Option.isNone_none, if_true, run_setO hw2, Sem.run_pure]
        · obtain ⟨st3, t3', ps3, as3, bd3, hg2, e2⟩ := loopK_some e2
          simp only [Option.some.injEq, Prod.mk.injEq] at e2
          obtain ⟨rfl, rfl⟩ := e2
          have hl2 := g3.le _ _ hl1
          obtain ⟨r2, hw2, hlr2⟩ := g1.rel.obj _ _ _ hl2 hg2
          cases ex with
          | none =>
            obtain ⟨q1, q2⟩ := g1.rel.setLoop hl2 hg2 hw2 (r' := { r2 with state := .done, pending := some .ret }) (o' := .loop (exitSt none) t3' ps3 as3 bd3)
              ⟨{ r2 with state := .done, pending := some .ret }, get_set_same hw2, rfl, fun h => (by cases h), hlr2.tm, hlr2.hps, hlr2.lt, hlr2.has, hlr2.hbd⟩
            refine ⟨.bool false, setO w2 lc.blk (.loop { r2 with state := .done, pending := some .ret }), ?_, .bool false, ι2, rfl, rfl, q1, (f3.trans p2).trans (g3.trans q2)⟩
            unfold Instr.endRound
            simp only [Sem.run_bind, run_getLoop hw2, Result.andThen_ok, Option.isNone_some, Bool.false_eq_true, if_false, run_setO hw2, Sem.run_pure]
          | some id =>
            obtain ⟨q1, q2⟩ := g1.rel.setLoop hl2 hg2 hw2 (r' := { r2 with state := .done, pending := some (.exit id) }) (o' := .loop (exitSt (some id)) t3' ps3 as3 bd3)
              ⟨{ r2 with state := .done, pending := some (.exit id) }, get_set_same hw2, rfl, fun h => (by cases h), hlr2.tm, hlr2.hps, hlr2.lt, hlr2.has, hlr2.hbd⟩
            refine ⟨.bool false, setO w2 lc.blk (.loop { r2 with state := .done, pending := some (.exit id) }), ?_, .bool false, ι2, rfl, rfl, q1, (f3.trans p2).trans (g3.trans q2)⟩
            unfold Instr.endRound
            simp only [Sem.run_bind, run_getLoop hw2, Result.andThen_ok, Option.isNone_some, Bool.false_eq_true, if_false, run_setO hw2, Sem.run_pure]
end
end Go.Ab

/- A function's contract; the whole environment; the law: an abstract run tells a call's. -/
namespace Go.Ab
section
variable {P : Program} {cx : Cx} {σ : Nat → Int} {S : Sy} {call : Nat → List V → H → K → R} {round : Pos → List V → H → K → R} {loop : IC → T → H → (T → H → R) → (Option Nat → T → H → R) → R}

/-- the table's functions are the program's -/
structure TabOk (P : Program) (cx : Cx) (tab : Tr IFn) : Prop where
  ok : ∀ f x, tab.get (Pos.of f) = some x → ∃ fn c, P.funcs[f]? = some fn ∧ fn.body = some c ∧ compF cx fn = some x ∧ (fn.name == "runtime.NumGoroutine") = false

theorem run_callFunc {f : Nat} {fn : Func} {c : Code} (h1 : P.funcs[f]? = some fn) (h2 : fn.body = some c) (h3 : (fn.name == "runtime.NumGoroutine") = false) (xs : Array Value) (w : World) : (callFunc f xs).run P w = .ok (.enter f xs) w := by
  unfold callFunc
  simp only [Sem.run_bind, run_program, Result.andThen_ok, h1, h3, h2, Option.isNone_some, Bool.false_eq_true, if_false, Sem.run_pure]

theorem ld1_real (hy : Hyp P cx) {ι : Inj} {h : H} {w : World} (hr : Rel cx σ ι h w) {b : Pos} {i : Nat} {ty : TypeId} (ha : aggOf cx ty = some false) {l : Loc} (hl : ι b = some l) {k : V → R} {r : V × H} (e : h.ld1 b i k = some r) :
    ∃ v x, k v = some r ∧ VR σ ι v x ∧ (loadVar ty ⟨l.blk, l.off + i, none⟩).run P w = .ok x w := by
  obtain ⟨ob, hb, e⟩ := H.getK_some e
  obtain ⟨v, hc, hi, hv, e⟩ := O.getK_some e
  obtain ⟨c, tyy, fz, h2, h3, h4, h5, h6⟩ := (orel_cells cx σ hc).1 (hr.obj b l ob hl hb)
  obtain ⟨xv, hx1, hx2, _⟩ := h6 i v hv
  exact ⟨v, xv, e, hx2, by simp [loadVar, aggOf_spec hy ha, cell_of w h2, hx1]⟩

theorem ldn_real (hy : Hyp P cx) {ι : Inj} {h : H} {w : World} (hr : Rel cx σ ι h w) {b : Pos} {i n : Nat} {ty : TypeId} (ha : aggOf cx ty = some true) (hs : szOf cx ty = some n) {l : Loc} (hlo : ι b = some l) {k : List V → R} {r : V × H} (e : h.ldn b i n k = some r) :
    ∃ vs x, k vs = some r ∧ VR σ ι (.agg vs) x ∧ (loadVar ty ⟨l.blk, l.off + i, none⟩).run P w = .ok x w := by
  obtain ⟨ob, hb, e⟩ := H.getK_some e
  obtain ⟨vs, hl, hn, hat, e⟩ := getcs_some e
  have hone : ∀ v ∈ vs, v.one = true := fun v hv => by
    obtain ⟨j, hj, hjv⟩ := List.getElem_of_mem hv
    obtain ⟨c, tyy, fz, h2, h3, h4, h5, h6⟩ := (orel_cells cx σ (hn (by omega)).1).1 (hr.obj b l ob hlo hb)
    exact (h6 (i + j) v (by rw [hat j (by omega), List.getElem?_eq_getElem hj, hjv])).choose_spec.2.2
  have key : ∃ ws : List Value, VRL σ ι vs ws ∧ ∀ j v, ws[j]? = some v → w.cell? ((⟨l.blk, l.off + i, none⟩ : Addr).add j) = some v := by
    by_cases hz : n = 0
    · have : vs = [] := List.eq_nil_of_length_eq_zero (by omega)
      subst this
      exact ⟨[], rfl, by simp⟩
    · obtain ⟨c, tyy, fz, h2, h3, h4, h5, h6⟩ := (orel_cells cx σ (hn hz).1).1 (hr.obj b l ob hlo hb)
      refine ⟨(c.toList.drop (l.off + i)).take n, VRL.of_get ?_ fun j v hj => ?_, fun j v hj => ?_⟩
      · have := (hn hz).2; simp; omega
      · have hj' : j < n := by rw [← hl]; exact (List.getElem?_eq_some_iff.1 hj).1
        obtain ⟨xv, hx1, hx2, _⟩ := h6 (i + j) v (by rw [hat j hj', hj])
        refine ⟨xv, ?_, hx2⟩
        simp [hj', List.getElem?_drop, ← Nat.add_assoc] at hx1 ⊢; exact hx1
      · rw [addr_add, cell_of w h2]
        have hj' : j < n := by have := (List.getElem?_eq_some_iff.1 hj).1; simp at this; omega
        simpa [List.getElem?_take, hj', List.getElem?_drop] using hj
  obtain ⟨ws, hw1, hw2⟩ := key
  have hlen : ws.length = n := by rw [hw1.length, hl]
  have := run_loadCells_list (P := P) w (⟨l.blk, l.off + i, none⟩ : Addr) ws hw2
  rw [hlen] at this
  exact ⟨vs, .agg ws.toArray, e, VR.agg.2 ⟨ws.toArray, rfl, by simpa using hw1, hone⟩, by simp [loadVar, aggOf_spec hy ha, szOf_spec hy hs, this]⟩

def resOf (tmps : Array Value) : ResultVar → Sem Value
  | .tmp t => pure (tmps.getD t undef)
  | .cell a t => do loadVar t (← asAddr (tmps.getD a undef))

theorem res_sound (hy : Hyp P cx) {ι : Inj} {t : T} {h : H} {tmps : Array Value} {w : World} (hr : Rel cx σ ι h w) (ht : TRel σ ι t tmps) : ∀ (l : List ResultVar) (l' : List (Pos × Option Nat × Bool)) {k : List V → R} {r : V × H}, compRes cx l = some l' → resK l' t h k = some r →
    ∃ vs xs, k vs = some r ∧ VRL σ ι vs xs ∧ (l.mapM (resOf tmps)).run P w = .ok xs w
  | [], l', k, r, hc, hx => by simp [compRes] at hc; subst hc; exact ⟨[], [], hx, rfl, rfl⟩
  | .tmp n :: l, l', k, r, hc, hx => by
    unfold compRes at hc
    cases h1 : compRes cx l with
    | none => simp [h1] at hc
    | some r' =>
      simp [h1] at hc; subst hc
      obtain ⟨vs, xs, e1, e2, e3⟩ := res_sound hy hr ht l r' (k := fun vs => k ((Opd.t (Pos.of n)).ev t :: vs)) h1 hx
      refine ⟨_, _, e1, ⟨_, _, rfl, ht n, e2⟩, ?_⟩
      rw [List.mapM_cons]
      simp only [Sem.run_bind, e3, Result.andThen_ok, Sem.run_pure]
      simp only [resOf, Sem.run_pure, Result.andThen_ok, e3]
  | .cell n ty :: l, l', k, r, hc, hx => by
    unfold compRes at hc
    cases hs : szOf cx ty with
    | none => simp [hs] at hc
    | some s => cases hg : aggOf cx ty with
      | none => simp [hs, hg] at hc
      | some g => cases h1 : compRes cx l with
        | none => simp [hs, hg, h1] at hc
        | some r' =>
          simp [hs, hg, h1] at hc; subst hc
          have hx : ((Opd.t (Pos.of n)).ev t).onPtr (fun b i => Bool.rec (motive := fun _ => R) (h.ld1 b i fun v => resK r' t h fun vs => k (v :: vs)) (h.ldn b i s fun c => resK r' t h fun vs => k (.agg c :: vs)) g) = some r := hx
          obtain ⟨b, i, hp, hx⟩ := V.onPtr_some hx
          have h3 := ht n
          rw [hp] at h3
          obtain ⟨lc, hlc, hw⟩ := h3
          cases g with
          | false =>
            obtain ⟨v, x, hx, hv, hrun⟩ := ld1_real hy hr hg hlc hx
            obtain ⟨vs, xs, e1, e2, e3⟩ := res_sound hy hr ht l r' h1 hx
            refine ⟨_, _, e1, ⟨_, _, rfl, hv, e2⟩, ?_⟩
            rw [List.mapM_cons]
            simp only [Sem.run_bind, resOf, hw, asAddr, Sem.run_pure, Result.andThen_ok, hrun, e3]
          | true =>
            obtain ⟨v, x, hx, hv, hrun⟩ := ldn_real hy hr hg hs hlc hx
            obtain ⟨vs, xs, e1, e2, e3⟩ := res_sound hy hr ht l r' h1 hx
            refine ⟨_, _, e1, ⟨_, _, rfl, hv, e2⟩, ?_⟩
            rw [List.mapM_cons]
            simp only [Sem.run_bind, resOf, hw, asAddr, Sem.run_pure, Result.andThen_ok, hrun, e3]

theorem resV_sound {ι : Inj} {vs : List V} {xs : List Value} (h : VRL σ ι vs xs) : VR σ ι (resV vs) (if h : xs.toArray.size = 1 then xs.toArray[0] else .tuple xs.toArray) := by
  cases vs with
  | nil => rw [VRL.nil.1 h]; exact VR.tup.2 ⟨#[], rfl, rfl⟩
  | cons v vs =>
    obtain ⟨x, xs', rfl, h1, h2⟩ := h
    have h2 : VRL σ ι vs xs' := h2
    cases vs with
    | nil => rw [VRL.nil.1 h2]; exact h1
    | cons u us =>
      have hl := VRL.length h2
      have : ¬ (x :: xs').toArray.size = 1 := by simp [hl]
      rw [dif_neg this]
      exact VR.tup.2 ⟨_, rfl, ⟨x, xs', rfl, h1, h2⟩⟩

theorem results_run {fn : Func} {tmps : Array Value} {w : World} {xs : List Value} (h : (fn.results.toList.mapM (resOf tmps)).run P w = .ok xs w) :
    (results fn tmps).run P w = .ok (if h : xs.toArray.size = 1 then xs.toArray[0] else .tuple xs.toArray) w := by
  have e : (fun x : ResultVar => match x with | .tmp t => (pure (tmps.getD t undef) : Sem Value) | .cell a t => do loadVar t (← asAddr (tmps.getD a undef))) = resOf tmps := by
    funext x; cases x <;> rfl
  show ((do let vs ← fn.results.mapM (fun x : ResultVar => match x with | .tmp t => (pure (tmps.getD t undef) : Sem Value) | .cell a t => do loadVar t (← asAddr (tmps.getD a undef))); pure (if h : vs.size = 1 then vs[0] else .tuple vs)) : Sem Value).run P w = _
  rw [e, Array.mapM_eq_mapM_toList]
  simp only [Sem.run_bind, Sem.run_map, h, Result.andThen_ok, Sem.run_pure]

/-- the function is left: its marks are taken up, its results told -/
theorem leaves_sound (hy : Hyp P cx) {fn : Func} {a : Act} {t : T} {h0 h : H} {ι0 ι : Inj} {w0 : World} {res : List (Pos × Option Nat × Bool)} (hres : compRes cx fn.results.toList = some res) {v : V}
    (ht : TRel σ ι t a.tmps) (hx : resK res t h (fun vs => some (resV vs, h)) = some (v, h)) : ∀ (ds : List Deferred) (w : World), Rel cx σ ι h w → Ext ι0 ι h0 h w0 w → MRel w0.heap.size ι w ds →
    LeavesInM (Fz none) 0 P fn a.tmps (EndsAs cx σ ι0 h0 w0 v h) ds .returning w
  | [], w, hr, he, _ => by
    obtain ⟨vs, xs, e1, e2, e3⟩ := res_sound hy hr ht _ _ hres hx
    simp only [Option.some.injEq, Prod.mk.injEq, and_true] at e1
    exact ⟨_, results_run e3, _, ι, rfl, by rw [← e1]; exact resV_sound e2, hr, he⟩
  | d :: ds, w, hr, he, hm => by
    obtain ⟨⟨r, h1, h2, h3, h4, h5⟩, h6⟩ := hm
    have hlt := lt_of_some h3
    have hsz : (setO w r (.deferred none)).heap.size = w.heap.size := size_set _ _ _
    refine ⟨by simp, .inl ⟨r, setO w r (.deferred none), h1, ?_, leaves_sound hy hres ht hx ds _ ?_ ?_ ?_⟩⟩
    · have g1 : (getObj r).run P w = .ok (.deferred (some [])) w := by simp [getObj, Sem.run, h3]
      have g2 : (setObj r (.deferred none)).run P w = .ok () (setO w r (.deferred none)) := by simp [setObj, Sem.run, h3, setO]
      unfold Instr.takeDeferred
      simp only [Sem.run_bind, g1, Result.andThen_ok, g2, Sem.run_pure]
    · refine ⟨fun b l hb => by rw [hsz]; exact hr.bound b l hb, hr.inj, fun b l o hb ho => (hr.obj b l o hb ho).other fun y hy' => ?_⟩
      rw [get_set_ne (h4 b l hb)]; exact hy'
    · refine ⟨he.le, he.fresh, he.keepA, he.nx, fun B o hB hn => ?_, by rw [hsz]; exact he.size, he.rng, he.os, he.out, he.tape⟩
      rw [get_set_ne (fun e => by have := lt_of_some hB; omega)]
      exact he.keepW B o hB hn
    · have key : ∀ {ds : List Deferred}, (∀ d' ∈ ds, d'.target ≠ .collected r) → MRel w0.heap.size ι w ds → MRel w0.heap.size ι (setO w r (.deferred none)) ds := by
        intro ds
        induction ds with
        | nil => intro _ _; trivial
        | cons d' ds ih =>
          intro hne hm
          obtain ⟨⟨q, q1, q2, q3, q4, q5⟩, q6⟩ := hm
          refine ⟨⟨q, q1, q2, ?_, q4, q5⟩, ih (fun x hx => hne x (by simp [hx])) q6⟩
          rw [get_set_ne (fun e => hne d' (by simp) (by rw [q1, e]))]; exact q3
      exact key h5 h6

theorem func_sound (hS : SyOk σ P S) (hy : Hyp P cx) (hm : P.follows .mixedOrders = true) (hE : EnvNat call round loop) (hok : EnvOk P cx σ call round) (hlp : LoopOk P cx σ loop) {tab : Tr IFn} (htab : TabOk P cx tab)
    (f : Nat) (args : List V) (h : H) (k : K) (r : V × H) (hx : runF S tab (.mk call round loop) f args h k = some r) : ∃ v h', k v h' = some r ∧ ∀ (ι : Inj) (w : World) (xs : Array Value), Rel cx σ ι h w → VRL σ ι args xs.toList →
    (callFunc f xs).run P w = .ok (.enter f xs) w ∧ CallsIn (Fz none) 0 P f xs w (EndsAs cx σ ι h w v h') := by
  rcases runF_nat hE (S := S) tab f args h with hn | ⟨v, h', hn⟩
  · rw [hn] at hx; cases hx
  · rw [hn] at hx
    refine ⟨v, h', hx, fun ι w xs hr hv => ?_⟩
    have hx := hn (fun v h => some (v, h))
    unfold runF at hx
    cases htf : tab.get (Pos.of f) with
    | none => rw [htf] at hx; cases hx
    | some x =>
      rw [htf] at hx
      obtain ⟨fn, c, g1, g2, g3, g4⟩ := htab.ok f x htf
      refine ⟨run_callFunc g1 g2 g4 xs w, ?_⟩
      unfold compF at g3
      rw [g2] at g3
      cases hres : compRes cx fn.results.toList with
      | none => simp [hres] at g3
      | some res =>
        simp [hres] at g3
        subst g3
        have hx : ifK (Nat.ble (llen args) fn.ntmps) (code S (compC cx fn.ntmps false c) (.mk call round loop) (ofL args 0 .nil) h (fun t h' => resK res t h' fun vs => some (resV vs, h'))
          (fun e t h' => Option.rec (motive := fun _ => R) (resK res t h' fun vs => some (resV vs, h')) (fun _ => none) e)) = some (v, h') := hx
        obtain ⟨hle, hx⟩ := ifK_some.1 hx
        rw [Nat.ble_eq, llen_eq] at hle
        have hlen : xs.size = args.length := by have := hv.length; simpa using this
        have htm : TRel σ ι (ofL args 0 .nil) (xs ++ Array.replicate (fn.ntmps - xs.size) undef) := by
          intro n
          have hev : (Opd.t (Pos.of n)).ev (ofL args 0 .nil) = ((ofL args 0 .nil).get (Pos.of n)).getD (.tup []) := by
            show Option.rec (motive := fun _ => V) (.tup []) (fun v => v) ((ofL args 0 .nil).get (Pos.of n)) = _
            cases (ofL args 0 .nil).get (Pos.of n) <;> rfl
          rw [hev, ofL_get, Array.getD_eq_getD_getElem?]
          by_cases hnl : n < args.length
          · rw [if_pos ⟨Nat.zero_le _, by omega⟩, Nat.sub_zero]
            obtain ⟨u, hu1, hu2⟩ := hv.get (List.getElem?_eq_getElem hnl)
            rw [List.getElem?_eq_getElem hnl]
            have : (xs ++ Array.replicate (fn.ntmps - xs.size) undef)[n]? = some u := by
              rw [Array.getElem?_append_left (by omega)]; simpa using hu1
            rw [this]; exact hu2
          · rw [if_neg (by omega)]
            have hnil : (Tr.nil : Tr V).get (Pos.of n) = none := Tr.get_nil _
            rw [hnil]
            have : ((xs ++ Array.replicate (fn.ntmps - xs.size) undef)[n]?).getD undef = undef := by
              rw [Array.getElem?_append_right (by omega), Array.getElem?_replicate]
              split <;> rfl
            rw [this]; exact VR.undef
        refine callsIn_of_wp_marks g1 g2 trivial (code_sound hS hy hm hE hok hlp (lo := w.heap.size) c false _ _ _ _ _ hx none (fun _ => rfl) ι _ w _ ⟨hr, htm, by simp; omega⟩ (Nat.le_refl _) trivial (fun t' h1 e ι' a' w' f1 f2 f3 => ?_) (fun ex t' h1 e ι' a' w' f1 f2 f3 => ?_))
        · have eh : h1 = h' := by
            have e' : resK res t' h1 (fun vs => some (resV vs, h1)) = some (v, h') := e
            obtain ⟨vs, xs', e1, _, _⟩ := res_sound hy f1.rel f1.tm _ _ hres e'
            simp only [Option.some.injEq, Prod.mk.injEq] at e1
            exact e1.2
          subst eh
          exact leaves_sound hy hres f1.tm e a'.defers w' f1.rel f3 f2
        · cases ex with
          | some id => cases e
          | none =>
            have eh : h1 = h' := by
              have e' : resK res t' h1 (fun vs => some (resV vs, h1)) = some (v, h') := e
              obtain ⟨vs, xs', e1, _, _⟩ := res_sound hy f1.rel f1.tm _ _ hres e'
              simp only [Option.some.injEq, Prod.mk.injEq] at e1
              exact e1.2
            subst eh
            exact leaves_sound hy hres f1.tm e a'.defers w' f1.rel f3 f2
end

/-- contracts tell the truth -/
def OrcOk (P : Program) (cx : Cx) (σ : Nat → Int) (orc : Orc) : Prop :=
  ∀ f args h c k r, orc f args h = some c → c k = some r → ∃ v h', k v h' = some r ∧ ∀ (ι : Inj) (w : World) (xs : Array Value), Rel cx σ ι h w → VRL σ ι args xs.toList →
    (callFunc f xs).run P w = .ok (.enter f xs) w ∧ CallsIn (Fz none) 0 P f xs w (EndsAs cx σ ι h w v h')

theorem env_sound {P : Program} {cx : Cx} {σ : Nat → Int} {S : Sy} {orc : Orc} {tab : Tr IFn} (hS : SyOk σ P S) (hy : Hyp P cx) (hm : P.follows .mixedOrders = true) (hon : OrcNat orc) (hoo : OrcOk P cx σ orc) (htab : TabOk P cx tab) (n : Nat) :
    ∃ call round loop, env S orc tab n = .mk call round loop ∧ EnvNat call round loop ∧ EnvOk P cx σ call round ∧ LoopOk P cx σ loop := by
  induction n with
  | zero => exact ⟨_, _, _, rfl, ⟨fun _ _ _ => CpK.no, fun _ _ _ => CpK.no, fun _ _ _ => CpE.no⟩, ⟨fun _ _ _ _ _ h => (by cases h), fun _ _ _ _ _ h => (by cases h)⟩, fun _ _ _ _ _ _ _ _ _ h => (by cases h)⟩
  | succ n ih =>
    obtain ⟨call, round, loop, e, hE, hok, hlp⟩ := ih
    obtain ⟨c2, r2, l2, e2, hE2⟩ := env_nat (S := S) hon tab (n + 1)
    have hd : env S orc tab (n + 1) = .mk (fun f args h k => Option.rec (motive := fun _ => R) (runF S tab (env S orc tab n) f args h k) (fun c => c k) (orc f args h)) (runR S (env S orc tab n))
      (fun b t h kn kx => code S b (env S orc tab n) t h (fun t h => Env.rec (motive := fun _ => R) (fun _ _ l => l b t h kn kx) (env S orc tab n)) kx) := rfl
    rw [e] at hd
    rw [hd] at e2
    cases e2
    refine ⟨_, _, _, hd, hE2, ⟨fun f args h k r hx => ?_, fun l args h k r hx => round_sound hS hy hm hE hok hlp l args h k r hx⟩, loop_sound hS hy hm hE hok hlp⟩
    cases hc : orc f args h with
    | none => simp only [hc] at hx; exact func_sound hS hy hm hE hok hlp htab f args h k r hx
    | some c => simp only [hc] at hx; exact hoo f args h c k r hc hx

/-- THE LAW: an abstract run of a call tells what every real run of it does. -/
theorem run_law {P : Program} {cx : Cx} {σ : Nat → Int} {S : Sy} {orc : Orc} {tab : Tr IFn} (hS : SyOk σ P S) (hy : Hyp P cx) (hm : P.follows .mixedOrders = true) (hon : OrcNat orc) (hoo : OrcOk P cx σ orc) (htab : TabOk P cx tab) (n : Nat)
    {f : Nat} {args : List V} {h : H} {v : V} {h' : H} (hx : (env S orc tab n).callV (.fn f [] []) args h (fun v h => some (v, h)) = some (v, h')) {ι : Inj} {w : World} {xs : Array Value} (hr : Rel cx σ ι h w) (hv : VRL σ ι args xs.toList) :
    CallsIn Fence.wide 0 P f xs w (EndsAs cx σ ι h w v h') := by
  obtain ⟨call, round, loop, e, hE, hok, hlp⟩ := env_sound hS hy hm hon hoo htab n
  rw [e] at hx
  have hx : call f (app [] (app args [])) h (fun v h => some (v, h)) = some (v, h') := hx
  obtain ⟨v1, h1, e1, e2⟩ := hok.call _ _ _ _ _ hx
  simp only [Option.some.injEq, Prod.mk.injEq] at e1
  obtain ⟨rfl, rfl⟩ := e1
  exact (e2 ι w xs hr (by rw [app_eq, app_eq]; simpa using hv)).2
end Go.Ab

/- A byte laid into a word: 'b or x << 8 s'. Numbers alone. -/
namespace Go.Ab

def lin (b s y : Nat) : Nat := b ||| (y <<< (8 * s))

theorem tb_byte {y j : Nat} (hy : y < 256) (hj : 8 ≤ j) : y.testBit j = false := by
  apply Nat.testBit_lt_two_pow
  exact Nat.lt_of_lt_of_le hy (by calc 256 = 2 ^ 8 := rfl
    _ ≤ 2 ^ j := Nat.pow_le_pow_right (by decide) hj)

theorem shl_lt {s y : Nat} (hy : y < 256) (hs : s < 8) : y <<< (8 * s) < 2 ^ 64 := by
  rw [Nat.shiftLeft_eq]
  calc y * 2 ^ (8 * s) < 2 ^ 8 * 2 ^ (8 * s) := Nat.mul_lt_mul_of_pos_right hy (Nat.two_pow_pos _)
    _ = 2 ^ (8 + 8 * s) := (Nat.pow_add 2 8 (8 * s)).symm
    _ ≤ 2 ^ 64 := Nat.pow_le_pow_right (by decide) (by omega)

theorem lin_lt {b s y : Nat} (hb : b < 2 ^ 64) (hy : y < 256) (hs : s < 8) : lin b s y < 2 ^ 64 := Nat.or_lt_two_pow hb (shl_lt hy hs)

theorem lin_or (b s y m : Nat) : lin b s y ||| m = lin (b ||| m) s y := by
  unfold lin; apply Nat.eq_of_testBit_eq; intro i; simp only [Nat.testBit_or]
  cases b.testBit i <;> cases m.testBit i <;> cases (y <<< (8 * s)).testBit i <;> rfl

theorem byte_bit {M s r : Nat} (h : (M >>> (8 * s)) % 256 = r) {j : Nat} (hj : j < 8) : M.testBit (8 * s + j) = r.testBit j := by
  rw [← h, show (256 : Nat) = 2 ^ 8 from rfl, Nat.testBit_mod_two_pow, Nat.testBit_shiftRight]; simp [hj]

theorem lin_and0 {b s y M : Nat} (hy : y < 256) (h : (M >>> (8 * s)) % 256 = 0) : lin b s y &&& M = b &&& M := by
  unfold lin; apply Nat.eq_of_testBit_eq; intro i
  simp only [Nat.testBit_and, Nat.testBit_or, Nat.testBit_shiftLeft]
  by_cases hi : 8 * s ≤ i
  · by_cases h2 : i - 8 * s < 8
    · have := byte_bit h h2
      rw [show 8 * s + (i - 8 * s) = i by omega] at this
      rw [this]; simp
    · rw [tb_byte hy (by omega)]; simp
  · simp [hi]

theorem lin_and1 {b s y M : Nat} (hy : y < 256) (h : (M >>> (8 * s)) % 256 = 255) : lin b s y &&& M = lin (b &&& M) s y := by
  unfold lin; apply Nat.eq_of_testBit_eq; intro i
  simp only [Nat.testBit_and, Nat.testBit_or, Nat.testBit_shiftLeft]
  by_cases hi : 8 * s ≤ i
  · by_cases h2 : i - 8 * s < 8
    · have h3 := byte_bit h h2
      rw [show 8 * s + (i - 8 * s) = i by omega] at h3
      have h4 : Nat.testBit 255 (i - 8 * s) = true := by
        have : ∀ j : Fin 8, Nat.testBit 255 j = true := by decide
        exact this ⟨_, h2⟩
      rw [h3, h4]; simp
    · rw [tb_byte hy (by omega)]; simp
  · simp [hi]

theorem lin_shl {s y q : Nat} : lin 0 s y * 2 ^ (8 * q) = lin 0 (s + q) y := by
  unfold lin; rw [Nat.zero_or, Nat.zero_or, Nat.shiftLeft_eq, Nat.shiftLeft_eq, Nat.mul_assoc, ← Nat.pow_add]; congr 2; omega

theorem lin_shr {b s y q : Nat} (hq : q ≤ s) : lin b s y / 2 ^ (8 * q) = lin (b >>> (8 * q)) (s - q) y := by
  rw [← Nat.shiftRight_eq_div_pow]
  unfold lin; apply Nat.eq_of_testBit_eq; intro i
  simp only [Nat.testBit_or, Nat.testBit_shiftLeft, Nat.testBit_shiftRight]
  congr 1
  by_cases h : 8 * (s - q) ≤ i
  · rw [show 8 * q + i - 8 * s = i - 8 * (s - q) by omega]
    simp [h, show 8 * s ≤ 8 * q + i by omega]
  · simp [h, show ¬ 8 * s ≤ 8 * q + i by omega]

theorem lin_shr0 {b s y q : Nat} (hy : y < 256) (hq : s < q) : lin b s y / 2 ^ (8 * q) = b >>> (8 * q) := by
  rw [← Nat.shiftRight_eq_div_pow]
  unfold lin; apply Nat.eq_of_testBit_eq; intro i
  simp only [Nat.testBit_or, Nat.testBit_shiftLeft, Nat.testBit_shiftRight]
  rw [tb_byte hy (show 8 ≤ 8 * q + i - 8 * s by omega)]; simp

theorem lin_mod0 {b y : Nat} (hy : y < 256) (hb : b % 256 = 0) : lin b 0 y % 256 = y := by
  unfold lin; apply Nat.eq_of_testBit_eq; intro i
  rw [show (256 : Nat) = 2 ^ 8 from rfl, Nat.testBit_mod_two_pow, Nat.testBit_or]
  simp only [Nat.mul_zero, Nat.shiftLeft_zero]
  by_cases hi : i < 8
  · have : b.testBit i = false := by
      have h := congrArg (fun n => Nat.testBit n i) hb
      simp only [Nat.zero_testBit] at h
      rw [show (256 : Nat) = 2 ^ 8 from rfl, Nat.testBit_mod_two_pow] at h
      simpa [hi] using h
    simp [hi, this]
  · rw [tb_byte hy (by omega)]; simp [hi]

theorem lin_mods {b s y : Nat} (hs : 0 < s) : lin b s y % 256 = b % 256 := by
  unfold lin; apply Nat.eq_of_testBit_eq; intro i
  rw [show (256 : Nat) = 2 ^ 8 from rfl, Nat.testBit_mod_two_pow, Nat.testBit_mod_two_pow, Nat.testBit_or, Nat.testBit_shiftLeft]
  by_cases hi : i < 8
  · simp [hi, show ¬ 8 * s ≤ i by omega]
  · simp [hi]

theorem lin_inj {b s y z : Nat} (hy : y < 256) (hz : z < 256) (hb : (b >>> (8 * s)) % 256 = 0) (h : lin b s y = lin b s z) : y = z := by
  apply Nat.eq_of_testBit_eq; intro j
  by_cases hj : j < 8
  · have h1 := congrArg (fun n => Nat.testBit n (8 * s + j)) h
    simp only [lin, Nat.testBit_or, Nat.testBit_shiftLeft] at h1
    rw [byte_bit hb hj] at h1
    simpa using h1
  · rw [tb_byte hy (by omega), tb_byte hz (by omega)]

/-- a word, with the byte at a place laid anew -/
theorem lin_word {b s c : Nat} (M : Nat) (hM : (M >>> (8 * s)) % 256 = 0) (hM1 : ∀ j, c.testBit j = true → (j < 8 * s ∨ 8 * s + 8 ≤ j) → M.testBit j = true) (h : c &&& M = b) : lin b s ((c >>> (8 * s)) % 256) = c := by
  subst h
  unfold lin; apply Nat.eq_of_testBit_eq; intro i
  rw [Nat.testBit_or, Nat.testBit_and, Nat.testBit_shiftLeft, show (256 : Nat) = 2 ^ 8 from rfl, Nat.testBit_mod_two_pow, Nat.testBit_shiftRight]
  by_cases hi : 8 * s ≤ i
  · by_cases h2 : i - 8 * s < 8
    · have h3 := byte_bit hM h2
      rw [show 8 * s + (i - 8 * s) = i by omega] at h3 ⊢
      rw [h3]; simp [hi, h2]
    · simp [hi, h2]
      intro hc; exact hM1 i hc (by omega)
  · simp [hi]
    intro hc; exact hM1 i hc (by omega)
end Go.Ab
namespace Go.Ab
/-- a number got from another one: 'a * (y / d) + b' -/
def aff (a d b y : Nat) : Nat := a * (y / d) + b
theorem aff_mono {a d b y z : Nat} (h : y ≤ z) : aff a d b y ≤ aff a d b z := Nat.add_le_add_right (Nat.mul_le_mul_left _ (Nat.div_le_div_right h)) _
theorem aff_mul (a d b y c : Nat) : aff a d b y * c = aff (a * c) d (b * c) y := by unfold aff; rw [Nat.add_mul, Nat.mul_right_comm]
theorem aff_add (a d b y c : Nat) : aff a d b y + c = aff a d (b + c) y := by unfold aff; omega
theorem aff_div1 (d y c : Nat) : aff 1 d 0 y / c = aff 1 (d * c) 0 y := by unfold aff; rw [Nat.one_mul, Nat.one_mul, Nat.add_zero, Nat.add_zero, Nat.div_div_eq_div_mul]
theorem aff_div {a d b y c : Nat} (hc : 0 < c) (ha : a % c = 0) (hb : b % c = 0) : aff a d b y / c = aff (a / c) d (b / c) y := by
  unfold aff
  have h1 : a = c * (a / c) := by have := Nat.div_add_mod a c; omega
  have h2 : b = c * (b / c) := by have := Nat.div_add_mod b c; omega
  conv => lhs; rw [h1, h2, Nat.mul_assoc, ← Nat.mul_add, Nat.mul_div_cancel_left _ hc]
theorem aff_mod {a d b y c : Nat} (ha : a % c = 0) : aff a d b y % c = b % c := by
  unfold aff
  obtain ⟨q, rfl⟩ := Nat.dvd_of_mod_eq_zero ha
  rw [Nat.mul_assoc, Nat.mul_add_mod]
end Go.Ab

/- Arguments of plain data: ints, bools, structs and arrays of these: how they are read, what they are made of. -/
namespace Go.Ab
section
variable {H : Type} {enc : TypeId × Value → H} {P : Program}

/-- the kinds of a plain type's cells, one by one: none: a bool's -/
def kindFs (P : Program) (rec : TypeId → Option (List (Option IntKind))) : List Field → Nat → Option (List (Option IntKind))
  | [], _ => some []
  | f :: fs, off => if f.offset = off then match rec f.type with
      | some l => if P.cellsOf f.type = l.length then match kindFs P rec fs (off + l.length) with
          | some r => some (l ++ r)
          | none => none
        else none
      | none => none
    else none
def kindsT (P : Program) : Nat → TypeId → Option (List (Option IntKind))
  | 0, _ => none
  | d + 1, t => match P.underlying t with
    | some .bool => some [none]
    | some (.int k) => some [some k]
    | some (.struct fs) => match kindFs P (kindsT P d) fs.toList 0 with
      | some l => if P.cellsOf t = l.length then some l else none
      | none => none
    | some (.array n e) => match kindsT P d e with
      | some l => if P.cellsOf e = l.length ∧ P.cellsOf t = n * l.length then some (List.replicate n l).flatten else none
      | none => none
    | _ => none

def okCell : Option IntKind → Value → Prop
  | none, v => ∃ b, v = .bool b
  | some k, v => ∃ n, v = .int k n ∧ (Lit.int k n).wf = true
def Cl : List (Option IntKind) → List Value → Prop
  | [], cs => cs = []
  | k :: ks, cs => ∃ c cs', cs = c :: cs' ∧ okCell k c ∧ Cl ks cs'
theorem Cl.append : ∀ {a b : List (Option IntKind)} {x y : List Value}, Cl a x → Cl b y → Cl (a ++ b) (x ++ y)
  | [], b, x, y, h, h' => by rw [show x = [] from h]; exact h'
  | k :: a, b, x, y, ⟨c, cs, e, h1, h2⟩, h' => by subst e; exact ⟨c, cs ++ y, rfl, h1, Cl.append h2 h'⟩
theorem Cl.length : ∀ {a : List (Option IntKind)} {x : List Value}, Cl a x → x.length = a.length
  | [], x, h => by rw [show x = [] from h]; rfl
  | k :: a, x, ⟨c, cs, e, h1, h2⟩ => by subst e; simp [Cl.length h2]

theorem mapM_some {α β : Type} {g g' : α → Option β} {Q : β → Prop} : ∀ {l : List α} {xs : List β}, l.mapM g = some xs → (∀ f ∈ l, ∀ y, g f = some y → Q y ∧ g' f = some y) → l.mapM g' = some xs ∧ ∀ y ∈ xs, Q y
  | [], xs, h, _ => by simp at h; subst h; simp
  | a :: l, xs, h, hq => by
    rw [List.mapM_cons] at h ⊢
    cases h1 : g a with
    | none => simp [h1] at h
    | some y =>
      cases h2 : l.mapM g with
      | none => simp [h1, h2] at h
      | some ys =>
        simp [h1, h2] at h
        subst h
        obtain ⟨q1, q2⟩ := hq a (by simp) y h1
        obtain ⟨r1, r2⟩ := mapM_some (g' := g') h2 fun f hf => hq f (by simp [hf])
        exact ⟨by simp [q2, r1], fun z hz => by rcases List.mem_cons.1 hz with rfl | hz; exact q1; exact r2 z hz⟩

theorem flat_nil {α β : Type} {xs : List (α × List β)} (h : ∀ y ∈ xs, y.2 = []) : xs.flatMap (·.2) = [] := by
  rw [List.flatMap_eq_nil_iff]; exact h

def Fix (enc : TypeId × Value → H) (P : Program) (fuel : Nat) (t : TypeId) (cs : List Value) (x : DataW H × List MemPlace) : Prop :=
  x.2 = [] ∧ ∀ (w : World) (base : Nat) (sp : Nat → Bool) (held : Bool), DataW.trod enc P w base sp held fuel t cs = some x

theorem kindFs_mem {rec : TypeId → Option (List (Option IntKind))} : ∀ {fs : List Field} {off : Nat} {ks : List (Option IntKind)}, kindFs P rec fs off = some ks → ∀ f ∈ fs, ∃ l, rec f.type = some l
  | [], _, _, _, f, hf => by cases hf
  | g :: fs, off, ks, h, f, hf => by
    unfold kindFs at h
    split at h
    · cases h1 : rec g.type with
      | none => simp [h1] at h
      | some l =>
        simp only [h1] at h
        split at h
        · cases h2 : kindFs P rec fs (off + l.length) with
          | none => simp [h2] at h
          | some r =>
            rcases List.mem_cons.1 hf with rfl | hf
            · exact ⟨l, h1⟩
            · exact kindFs_mem h2 f hf
        · cases h
    · cases h

theorem mapM_each {α β : Type} {g : α → Option β} : ∀ {l : List α} {xs : List β}, l.mapM g = some xs → ∀ f ∈ l, ∃ y, g f = some y
  | [], _, _, f, hf => by cases hf
  | a :: l, xs, h, f, hf => by
    rw [List.mapM_cons] at h
    cases h1 : g a with
    | none => simp [h1] at h
    | some y =>
      cases h2 : l.mapM g with
      | none => simp [h1, h2] at h
      | some ys =>
        rcases List.mem_cons.1 hf with rfl | hf
        · exact ⟨y, h1⟩
        · exact mapM_each h2 f hf

theorem take_add (cs : List Value) (a b : Nat) (off : Nat) : (cs.drop off).take (a + b) = (cs.drop off).take a ++ (cs.drop (off + a)).take b := by
  rw [List.take_add, List.drop_drop]

theorem kindFs_cl {rec : TypeId → Option (List (Option IntKind))} {cs : List Value} : ∀ {fs : List Field} {off : Nat} {l : List (Option IntKind)}, kindFs P rec fs off = some l →
    (∀ f ∈ fs, ∀ lf, rec f.type = some lf → Cl lf ((cs.drop f.offset).take (P.cellsOf f.type))) → Cl l ((cs.drop off).take l.length)
  | [], off, l, h, _ => by simp [kindFs] at h; subst h; show _ = _; simp
  | g :: fs, off, l, h, hc => by
    unfold kindFs at h
    split at h
    · rename_i ho
      cases h1 : rec g.type with
      | none => simp [h1] at h
      | some lg =>
        simp only [h1] at h
        split at h
        · rename_i hsz
          cases h2 : kindFs P rec fs (off + lg.length) with
          | none => simp [h2] at h
          | some r =>
            simp only [h2, Option.some.injEq] at h
            subst h
            have e1 := hc g (by simp) lg h1
            rw [ho, hsz] at e1
            have e2 := kindFs_cl h2 fun f hf => hc f (by simp [hf])
            rw [List.length_append, take_add]
            exact e1.append e2
        · cases h
    · cases h

theorem array_cl {l : List (Option IntKind)} {cs : List Value} : ∀ (n i : Nat), (∀ j, i ≤ j → j < i + n → Cl l ((cs.drop (j * l.length)).take l.length)) → Cl (List.replicate n l).flatten ((cs.drop (i * l.length)).take (n * l.length))
  | 0, i, _ => by show _ = _; simp
  | n + 1, i, h => by
    rw [List.replicate_succ, List.flatten_cons, show (n + 1) * l.length = l.length + n * l.length by rw [Nat.add_mul]; omega, take_add]
    refine (h i (Nat.le_refl _) (by omega)).append ?_
    have := array_cl n (i + 1) fun j h1 h2 => h j (by omega) (by omega)
    rw [show (i + 1) * l.length = i * l.length + l.length by rw [Nat.add_mul]; omega] at this
    exact this

theorem trod_plain : ∀ (fuel d : Nat) (t : TypeId) (ks : List (Option IntKind)) (cs : List Value) (x : DataW H × List MemPlace) (w : World) (base : Nat) (sp : Nat → Bool) (held : Bool), kindsT P d t = some ks →
    DataW.trod enc P w base sp held fuel t cs = some x → Fix enc P fuel t cs x ∧ Cl ks cs := by
  intro fuel
  induction fuel with
  | zero => intro d t ks cs x w base sp held _ h; cases h
  | succ fuel ih =>
    intro d t ks cs x w base sp held hk h
    cases d with
    | zero => cases hk
    | succ d =>
      unfold kindsT at hk
      cases hu : P.underlying t with
      | none => simp [hu] at hk
      | some u =>
        cases u with
        | bool =>
          simp [hu] at hk; subst hk
          unfold DataW.trod at h
          simp only [hu] at h
          split at h <;> rename_i heq <;> simp_all
          subst h
          exact ⟨⟨rfl, fun w base sp held => by simp [DataW.trod, hu]⟩, ⟨_, [], rfl, ⟨_, rfl⟩, rfl⟩⟩
        | int k =>
          simp [hu] at hk; subst hk
          unfold DataW.trod at h
          simp only [hu] at h
          split at h <;> rename_i heq <;> simp_all
          obtain ⟨⟨rfl, hw⟩, rfl⟩ := h
          exact ⟨⟨rfl, fun w base sp held => by simp [DataW.trod, hu, hw]⟩, ⟨_, [], rfl, ⟨_, rfl, hw⟩, rfl⟩⟩
        | struct fs =>
          simp only [hu] at hk
          cases hf : kindFs P (kindsT P d) fs.toList 0 with
          | none => simp [hf] at hk
          | some l =>
            simp only [hf] at hk
            split at hk
            · rename_i hsz
              cases hk
              unfold DataW.trod at h
              simp only [hu] at h
              split at h
              · rename_i hlen
                cases hm : (fs.toList.mapM fun f => DataW.trod enc P w base sp held fuel f.type ((cs.drop f.offset).take (P.cellsOf f.type))) with
                | none => simp [hm] at h
                | some xs =>
                  simp only [hm, Option.map_some, Option.some.injEq] at h
                  subst h
                  have each := fun f hf' => mapM_each hm f hf'
                  have sub : ∀ f ∈ fs.toList, ∀ y, DataW.trod enc P w base sp held fuel f.type ((cs.drop f.offset).take (P.cellsOf f.type)) = some y → Fix enc P fuel f.type ((cs.drop f.offset).take (P.cellsOf f.type)) y := fun f hf' y hy => by
                    obtain ⟨lf, hlf⟩ := kindFs_mem hf f hf'
                    exact (ih d f.type lf _ y w base sp held hlf hy).1
                  refine ⟨⟨flat_nil (mapM_some (g' := fun f => DataW.trod enc P w base sp held fuel f.type ((cs.drop f.offset).take (P.cellsOf f.type))) hm fun f hf' y hy => ⟨(sub f hf' y hy).1, hy⟩).2, fun w' base' sp' held' => ?_⟩, ?_⟩
                  · have := (mapM_some (Q := fun y => y.2 = []) (g' := fun f => DataW.trod enc P w' base' sp' held' fuel f.type ((cs.drop f.offset).take (P.cellsOf f.type))) hm fun f hf' y hy => ⟨(sub f hf' y hy).1, (sub f hf' y hy).2 w' base' sp' held'⟩).1
                    unfold DataW.trod
                    simp only [hu, hlen, if_true, this, Option.map_some]
                  · have := kindFs_cl hf fun f hf' lf hlf => by
                      obtain ⟨y, hy⟩ := each f hf'
                      exact (ih d f.type lf _ y w base sp held hlf hy).2
                    rw [List.drop_zero, List.take_of_length_le (by omega)] at this
                    exact this
              · cases h
            · cases hk
        | array n e =>
          simp only [hu] at hk
          cases hf : kindsT P d e with
          | none => simp [hf] at hk
          | some l =>
            simp only [hf] at hk
            split at hk
            · rename_i hsz
              obtain ⟨hs1, hs2⟩ := hsz
              cases hk
              unfold DataW.trod at h
              simp only [hu] at h
              split at h
              · rename_i hlen
                cases hm : ((List.range n).mapM fun i => DataW.trod enc P w base sp held fuel e ((cs.drop (i * P.cellsOf e)).take (P.cellsOf e))) with
                | none => simp [hm] at h
                | some xs =>
                  simp only [hm, Option.map_some, Option.some.injEq] at h
                  subst h
                  have each := fun f hf' => mapM_each hm f hf'
                  have sub : ∀ i ∈ List.range n, ∀ y, DataW.trod enc P w base sp held fuel e ((cs.drop (i * P.cellsOf e)).take (P.cellsOf e)) = some y → Fix enc P fuel e ((cs.drop (i * P.cellsOf e)).take (P.cellsOf e)) y := fun i hi y hy =>
                    (ih d e l _ y w base sp held hf hy).1
                  refine ⟨⟨flat_nil (mapM_some (g' := fun i => DataW.trod enc P w base sp held fuel e ((cs.drop (i * P.cellsOf e)).take (P.cellsOf e))) hm fun f hf' y hy => ⟨(sub f hf' y hy).1, hy⟩).2, fun w' base' sp' held' => ?_⟩, ?_⟩
                  · have := (mapM_some (Q := fun y => y.2 = []) (g' := fun i => DataW.trod enc P w' base' sp' held' fuel e ((cs.drop (i * P.cellsOf e)).take (P.cellsOf e))) hm fun f hf' y hy => ⟨(sub f hf' y hy).1, (sub f hf' y hy).2 w' base' sp' held'⟩).1
                    unfold DataW.trod
                    simp only [hu, hlen, if_true, this, Option.map_some]
                  · have := array_cl (l := l) (cs := cs) n 0 fun j _ hj => by
                      obtain ⟨y, hy⟩ := each j (by simpa using hj)
                      have := (ih d e l _ y w base sp held hf hy).2
                      rw [hs1] at this; exact this
                    rw [Nat.zero_mul, List.drop_zero, List.take_of_length_le (by omega)] at this
                    exact this
              · cases h
            · cases hk
        | _ => simp [hu] at hk

/-- an argument of plain data -/
theorem arg_plain {d : Nat} {t : TypeId} {ks : List (Option IntKind)} (hk : kindsT P d t = some ks) {w : World} {base : Nat} {sp : Nat → Bool} {held : Bool} {v : Value} {x : DataW H} {ps : List MemPlace}
    (h : DataW.Trod enc P w base sp held t v x ps) : ps = [] ∧ Cl ks v.cells.toList ∧ ∀ (w : World) (base : Nat) (sp : Nat → Bool) (held : Bool), DataW.Trod enc P w base sp held t v x [] := by
  obtain ⟨fuel, h⟩ := h
  obtain ⟨⟨h1, h2⟩, h3⟩ := trod_plain fuel d t ks _ _ w base sp held hk h
  simp only at h1
  subst h1
  exact ⟨rfl, h3, fun w base sp held => ⟨fuel, h2 w base sp held⟩⟩

/-- blocks come alone -/
theorem kept_of {w w' : World} (ho : w'.os = w.os) (hp : w'.output = w.output) (hk : ∀ (B : Nat) (o : Obj), w.heap[B]? = some o → w'.heap[B]? = some o) (may : MemPlace → Prop) : w.keptBut w' may := by
  refine ⟨ho, hp, fun i hi => ?_⟩
  have h1 : w.heap[i]? = some w.heap[i] := Array.getElem?_eq_getElem hi
  rw [h1, hk i _ h1]
  cases w.heap[i] <;> simp
end
end Go.Ab

/- Symbols whose values lie in given ranges; cases by a tree; a law over plain data. -/
namespace Go.Ab

/-- what is known of a symbol -/
structure Dm where
  lo : Int
  hi : Int
  ne : List Int
  md : List (Int × Int)
def Dm.has (d : Dm) (n : Int) : Prop := d.lo ≤ n ∧ n ≤ d.hi ∧ (∀ c ∈ d.ne, n ≠ c) ∧ ∀ p ∈ d.md, n.tmod p.1 = p.2

noncomputable def dget (l : List Dm) : Nat → Option Dm :=
  List.rec (motive := fun _ => Nat → Option Dm) (fun _ => none) (fun d _ ih n => Nat.rec (motive := fun _ => Option Dm) (some d) (fun m _ => ih m) n) l
theorem dget_eq (l : List Dm) (n : Nat) : dget l n = l[n]? := by
  induction l generalizing n with
  | nil => simp; rfl
  | cons d l ih => cases n with
    | zero => rfl
    | succ n => show dget l n = _; rw [ih]; simp
noncomputable def memI (c : Int) (l : List Int) : Bool := List.rec (motive := fun _ => Bool) false (fun d _ ih => Bool.rec (motive := fun _ => Bool) ih true (ieq c d)) l
theorem memI_iff {c : Int} {l : List Int} (h : memI c l = true) : c ∈ l := by
  induction l with
  | nil => cases h
  | cons d l ih =>
    have h : Bool.rec (motive := fun _ => Bool) (memI c l) true (ieq c d) = true := h
    cases hb : ieq c d with
    | true => rw [ieq_eq] at hb; simp at hb; simp [hb]
    | false => rw [hb] at h; exact List.mem_cons_of_mem _ (ih h)

noncomputable def cmpD (op : BinOp) (d : Dm) (c : Int) : Option Bool := match op with
  | .eql => if ilt c d.lo || ilt d.hi c || memI c d.ne then some false else none
  | .neq => if ilt c d.lo || ilt d.hi c || memI c d.ne then some true else none
  | .lss => if ilt d.hi c then some true else if !ilt d.lo c then some false else none
  | .leq => if !ilt c d.hi then some true else if ilt c d.lo then some false else none
  | .gtr => if ilt c d.lo then some true else if !ilt c d.hi then some false else none
  | .geq => if !ilt d.lo c then some true else if ilt d.hi c then some false else none
  | _ => none
def isCmp (op : BinOp) : Bool := match op with | .eql | .neq | .lss | .leq | .gtr | .geq => true | _ => false
def cmpZ (op : BinOp) (a b : Int) : Bool := match op with
  | .eql => a == b | .neq => a != b | .lss => decide (a < b) | .leq => decide (a ≤ b) | .gtr => decide (a > b) | .geq => decide (a ≥ b) | _ => false
def flipOp (op : BinOp) : BinOp := match op with | .lss => .gtr | .gtr => .lss | .leq => .geq | .geq => .leq | op => op
theorem cmpD_spec {op : BinOp} {d : Dm} {n c : Int} (h : d.has n) {b : Bool} (e : cmpD op d c = some b) : isCmp op = true ∧ cmpZ op n c = b := by
  obtain ⟨h1, h2, h3, _⟩ := h
  have hne : memI c d.ne = true → n ≠ c := fun h => h3 c (memI_iff h)
  cases op <;> simp only [cmpD, ilt_eq] at e <;> (try cases e) <;> refine ⟨rfl, ?_⟩
  · split at e
    · rename_i hc
      cases e
      simp only [Bool.or_eq_true, decide_eq_true_eq] at hc
      simp only [cmpZ, beq_eq_false_iff_ne]
      rcases hc with (hc | hc) | hc
      · omega
      · omega
      · exact hne hc
    · cases e
  · split at e
    · rename_i hc
      cases e
      simp only [Bool.or_eq_true, decide_eq_true_eq] at hc
      simp only [cmpZ, bne_iff_ne]
      rcases hc with (hc | hc) | hc
      · omega
      · omega
      · exact hne hc
    · cases e
  all_goals
    split at e
    · rename_i hc
      cases e
      simp at hc
      simp [cmpZ]; omega
    · split at e
      · rename_i hc
        cases e
        simp at hc
        simp [cmpZ]; omega
      · cases e
theorem flip_spec {op : BinOp} {a b : Int} (h : isCmp op = true) : isCmp (flipOp op) = true ∧ cmpZ (flipOp op) b a = cmpZ op a b := by
  cases op <;> simp [isCmp, flipOp] at h ⊢
  · show (b == a) = (a == b); rw [Bool.eq_iff_iff, beq_iff_eq, beq_iff_eq]; exact ⟨Eq.symm, Eq.symm⟩
  · show (b != a) = (a != b); rw [Bool.eq_iff_iff, bne_iff_ne, bne_iff_ne]; exact ⟨Ne.symm, Ne.symm⟩
  all_goals rfl
theorem isCmp_flip {op : BinOp} (h : isCmp (flipOp op) = true) : isCmp op = true := by cases op <;> simp [isCmp, flipOp] at h ⊢
theorem run_cmp {op : BinOp} (h : isCmp op = true) {k : IntKind} {a b : Int} {P : Program} (t : TypeId) (w : World) : (binOp op t (.int k a) (.int k b)).run P w = .ok (.bool (cmpZ op a b)) w := by
  cases op <;> simp [isCmp] at h <;> simp [binOp, cmpZ, Op.intCmp]

/-- derived symbols: quotients and remainders by constants -/
noncomputable def findD (q : Bool) (c : Int) (l : List (Bool × Int)) : Option Nat :=
  List.rec (motive := fun _ => Option Nat) none (fun d _ ih => Bool.rec (motive := fun _ => Option Nat) (Option.rec (motive := fun _ => Option Nat) none (fun n => some (Nat.succ n)) ih) (some 0) (andB (beqB d.1 q) (ieq d.2 c))) l
theorem findD_spec {q : Bool} {c : Int} {l : List (Bool × Int)} {n : Nat} (h : findD q c l = some n) : l[n]? = some (q, c) := by
  induction l generalizing n with
  | nil => cases h
  | cons d l ih =>
    have h : Bool.rec (motive := fun _ => Option Nat) (Option.rec (motive := fun _ => Option Nat) none (fun n => some (Nat.succ n)) (findD q c l)) (some 0) (andB (beqB d.1 q) (ieq d.2 c)) = some n := h
    cases hb : andB (beqB d.1 q) (ieq d.2 c) with
    | true =>
      rw [hb] at h
      cases h
      obtain ⟨h1, h2⟩ := andB_iff.1 hb
      rw [beqB_eq] at h1; rw [ieq_eq] at h2
      simp at h1 h2
      obtain ⟨d1, d2⟩ := d
      simp at h1 h2
      simp [h1, h2]
    | false =>
      rw [hb] at h
      cases hf : findD q c l with
      | none => rw [hf] at h; cases h
      | some m => rw [hf] at h; cases h; simpa using ih hf
abbrev affBase : Nat := 10000000000000000000000000000000000000000
noncomputable def affCode (a d b i : Nat) : Nat := affBase + (i + 1000 * (d + 18446744073709551616 * (a + 18446744073709551616 * b)))
/-- a word that holds a symbol's byte: which word, at which place, of which symbol -/
def linCode (b s i : Nat) : Nat := 1000000 + (b * 8000 + s * 1000 + i)
def sigma (xs : Nat → Int) (D : List (Bool × Int)) (n : Nat) : Int := if n < 1000000 then (match n / 1000 with
  | 0 => xs n
  | j + 1 => match D[j]? with
    | some (false, c) => IntKind.i64.wrap ((xs (n % 1000)).tdiv c)
    | some (true, c) => (xs (n % 1000)).tmod c
    | none => 0) else if n < affBase then Int.ofNat (lin ((n - 1000000) / 8000) ((n - 1000000) / 1000 % 8) (xs ((n - 1000000) % 1000)).toNat)
  else Int.ofNat (aff ((n - affBase) / (1000 * 2 ^ 64) % 2 ^ 64) ((n - affBase) / 1000 % 2 ^ 64) ((n - affBase) / (1000 * 2 ^ 64) / 2 ^ 64) (xs ((n - affBase) % 1000)).toNat)
theorem sigma_low (xs : Nat → Int) (D : List (Bool × Int)) {n : Nat} (h : n < 1000) : sigma xs D n = xs n := by
  unfold sigma; rw [if_pos (by omega), Nat.div_eq_of_lt h]
theorem sigma_d (xs : Nat → Int) (D : List (Bool × Int)) {i j : Nat} (h : i < 1000) (hj : j < 999) : sigma xs D (1000 * (j + 1) + i) = match D[j]? with
    | some (false, c) => IntKind.i64.wrap ((xs i).tdiv c)
    | some (true, c) => (xs i).tmod c
    | none => 0 := by
  unfold sigma
  rw [if_pos (by omega), show (1000 * (j + 1) + i) / 1000 = j + 1 by omega, show (1000 * (j + 1) + i) % 1000 = i by omega]
theorem sigma_lin (xs : Nat → Int) (D : List (Bool × Int)) {b s i : Nat} (hb : b < 18446744073709551616) (hs : s < 8) (hi : i < 1000) : sigma xs D (linCode b s i) = Int.ofNat (lin b s (xs i).toNat) := by
  unfold sigma linCode
  rw [if_neg (by omega), if_pos (by unfold affBase; omega), Nat.add_sub_cancel_left, show (b * 8000 + s * 1000 + i) / 8000 = b by omega, show (b * 8000 + s * 1000 + i) / 1000 % 8 = s by omega, show (b * 8000 + s * 1000 + i) % 1000 = i by omega]

theorem sigma_aff (xs : Nat → Int) (D : List (Bool × Int)) {a d b i : Nat} (ha : a < 18446744073709551616) (hd : d < 18446744073709551616) (hi : i < 1000) : sigma xs D (affCode a d b i) = Int.ofNat (aff a d b (xs i).toNat) := by
  unfold sigma affCode
  rw [if_neg (by unfold affBase; omega), if_neg (by unfold affBase; omega), Nat.add_sub_cancel_left]
  have e1 : (i + 1000 * (d + 18446744073709551616 * (a + 18446744073709551616 * b))) / (1000 * 2 ^ 64) = a + 18446744073709551616 * b := by omega
  have e2 : (i + 1000 * (d + 18446744073709551616 * (a + 18446744073709551616 * b))) / 1000 % 2 ^ 64 = d := by omega
  have e3 : (i + 1000 * (d + 18446744073709551616 * (a + 18446744073709551616 * b))) % 1000 = i := by omega
  rw [e1, e2, e3, show (a + 18446744073709551616 * b) % 2 ^ 64 = a by omega, show (a + 18446744073709551616 * b) / 2 ^ 64 = b by omega]

noncomputable def isI64 (k : IntKind) : Bool := kbeq k .i64
noncomputable def drv (D : List (Bool × Int)) (q : Bool) (j k : IntKind) (i : Nat) (c : Int) : Option V :=
  if isI64 j && isI64 k && ltb i 1000 && !ieq c 0 then (match findD q c D with | some n => if ltb n 999 then some (.sym .i64 (1000 * (n + 1) + i)) else none | none => none) else none
/-- a remainder that is known -/
noncomputable def mdget (c : Int) (l : List (Int × Int)) : Option Int :=
  List.rec (motive := fun _ => Option Int) none (fun d _ ih => Bool.rec (motive := fun _ => Option Int) ih (some d.2) (ieq c d.1)) l
theorem mdget_mem {c r : Int} {l : List (Int × Int)} (h : mdget c l = some r) : (c, r) ∈ l := by
  induction l with
  | nil => cases h
  | cons d l ih =>
    have h : Bool.rec (motive := fun _ => Option Int) (mdget c l) (some d.2) (ieq c d.1) = some r := h
    cases hb : ieq c d.1 with
    | true =>
      rw [hb] at h
      cases h
      rw [ieq_eq] at hb
      simp at hb
      rw [hb]
      exact List.mem_cons_self
    | false => rw [hb] at h; exact List.mem_cons_of_mem _ (ih h)
noncomputable def modOf (B : List Dm) (i : Nat) (c : Int) : Option Int := match dget B i with | some d => mdget c d.md | none => none
/-- a remainder that is a symbol of its own: entries of D from 2^80 on tell of which symbol, by what, and which symbol it is -/
def isE (e : Bool × Int) : Option (Nat × Nat × Nat) := match e with
  | (true, .ofNat m) => if 1208925819614629174706176 ≤ m then some ((m - 1208925819614629174706176) % 18446744073709551616, (m - 1208925819614629174706176) / 18446744073709551616 % 1000, (m - 1208925819614629174706176) / 18446744073709551616 / 1000) else none
  | _ => none
noncomputable def findE (c i : Nat) (D : List (Bool × Int)) : Option Nat :=
  List.rec (motive := fun _ => Option Nat) none (fun e _ ih => match isE e with
    | some (c', i', j) => Bool.rec (motive := fun _ => Option Nat) ih (some j) (andB (Nat.beq c c') (Nat.beq i i'))
    | none => ih) D
theorem findE_spec {c i j : Nat} {D : List (Bool × Int)} (h : findE c i D = some j) : ∃ e ∈ D, isE e = some (c, i, j) := by
  induction D with
  | nil => cases h
  | cons e D ih =>
    have h : (match isE e with
      | some (c', i', j) => Bool.rec (motive := fun _ => Option Nat) (findE c i D) (some j) (andB (Nat.beq c c') (Nat.beq i i'))
      | none => findE c i D) = some j := h
    split at h
    · rename_i c' i' j' he
      cases hb : andB (Nat.beq c c') (Nat.beq i i') with
      | true =>
        rw [hb] at h
        obtain ⟨h1, h2⟩ := andB_iff.1 hb
        rw [Nat.beq_eq] at h1 h2
        subst h1 h2
        cases h
        exact ⟨e, List.mem_cons_self, he⟩
      | false => rw [hb] at h; obtain ⟨e', h1, h2⟩ := ih h; exact ⟨e', List.mem_cons_of_mem _ h1, h2⟩
    · obtain ⟨e', h1, h2⟩ := ih h; exact ⟨e', List.mem_cons_of_mem _ h1, h2⟩
def EOk (xs : Nat → Int) (D : List (Bool × Int)) : Prop := ∀ e ∈ D, ∀ c i j, isE e = some (c, i, j) → 0 < c ∧ j < 1000 ∧ xs j = (xs i).tmod c
noncomputable def remE (D : List (Bool × Int)) (j k : IntKind) (i : Nat) (c : Int) : Option V := match c with
  | .ofNat m => if kbeq j k && ltb i 1000 then (match findE m i D with | some jj => some (.sym j jj) | none => drv D true j k i c) else drv D true j k i c
  | .negSucc _ => drv D true j k i c
noncomputable def remS (B : List Dm) (D : List (Bool × Int)) (j k : IntKind) (i : Nat) (c : Int) : Option V := match modOf B i c with
  | some r => if kbeq j k && ltb i 1000 && !ieq c 0 then some (.int j r) else none
  | none => remE D j k i c
noncomputable def cmpS (B : List Dm) (op : BinOp) (i : Nat) (c : Int) : Option V := if ltb i 1000 then (match dget B i with | some d => (match cmpD op d c with | some b => some (.bool b) | none => none) | none => none) else none
noncomputable def symS (op : BinOp) : Option V := match op with | .eql | .leq | .geq => some (.bool true) | .neq | .lss | .gtr => some (.bool false) | _ => none
noncomputable def binB (B : List Dm) (D : List (Bool × Int)) (op : BinOp) (x y : V) : Option V := match x, y with
  | .sym j i, .int k c => match op with
    | .quo => drv D false j k i c
    | .rem => remS B D j k i c
    | op => if kbeq j k then cmpS B op i c else none
  | .int k c, .sym j i => if kbeq j k then cmpS B (flipOp op) i c else none
  | .sym j i, .sym k l => if kbeq j k && Nat.beq i l then symS op else none
  | _, _ => none
noncomputable def convB (B : List Dm) (k : IntKind) (x : V) : Option V := match x with
  | .sym j i => if isI64 k && ltb i 1000 then (match dget B i with
    | some d => if !ilt d.lo (-9223372036854775808) && ilt d.hi 9223372036854775808 then some (.sym .i64 i) else none
    | none => none) else none
  | _ => none
/-! bytes of symbols laid into words -/
noncomputable def byteD (B : List Dm) (i : Nat) : Bool := match dget B i with | some d => !ilt d.lo 0 && ilt d.hi 256 | none => false
noncomputable def linOf (B : List Dm) (n : Nat) (k : Nat → Nat → Nat → Option V) : Option V :=
  if ltb n 1000 then (if byteD B n then k 0 0 n else none) else
  if ltb n 1000000 then none else
  if byteD B (Nat.mod (Nat.sub n 1000000) 1000) && ltb (Nat.div (Nat.sub n 1000000) 8000) 18446744073709551616 then
    k (Nat.div (Nat.sub n 1000000) 8000) (Nat.mod (Nat.div (Nat.sub n 1000000) 1000) 8) (Nat.mod (Nat.sub n 1000000) 1000) else none
noncomputable def mkLin (b s i : Nat) : V := if Nat.beq b 0 && Nat.beq s 0 then .sym .u64 i else .sym .u64 (linCode b s i)
noncomputable def byteAt (m s : Nat) : Nat := Nat.mod (Nat.shiftRight m (Nat.mul 8 s)) 256
noncomputable def andL (b s i m : Nat) : Option V :=
  if Nat.beq (byteAt m s) 0 then some (.int .u64 (.ofNat (Nat.land b m))) else if Nat.beq (byteAt m s) 255 then some (mkLin (Nat.land b m) s i) else none
noncomputable def eqN (B : List Dm) (b s i m : Nat) : Option Bool :=
  if Nat.beq (byteAt b s) 0 && ltb m 18446744073709551616 then
    (if bnot (Nat.beq (Nat.land m (Nat.sub 18446744073709551615 (Nat.shiftLeft 255 (Nat.mul 8 s)))) b) then some false else
      match dget B i with | some d => cmpD .eql d (.ofNat (byteAt m s)) | none => none) else none
noncomputable def binLN (B : List Dm) (op : BinOp) (b s i : Nat) (k : IntKind) (m : Nat) : Option V := match op with
  | .or => if kbeq k .u64 && ltb m 18446744073709551616 then some (mkLin (Nat.lor b m) s i) else none
  | .and => if kbeq k .u64 && ltb m 18446744073709551616 then andL b s i m else none
  | .andNot => if kbeq k .u64 && ltb m 18446744073709551616 then andL b s i (Nat.sub 18446744073709551615 m) else none
  | .shl => if Nat.beq b 0 && Nat.beq (Nat.mod m 8) 0 && ltb (Nat.add s (Nat.div m 8)) 8 then some (mkLin 0 (Nat.add s (Nat.div m 8)) i) else none
  | .shr => if Nat.beq (Nat.mod m 8) 0 && Nat.ble m 64 then
      (if Nat.ble (Nat.div m 8) s then some (mkLin (Nat.shiftRight b m) (Nat.sub s (Nat.div m 8)) i) else some (.int .u64 (.ofNat (Nat.shiftRight b m)))) else none
  | .eql => if kbeq k .u64 then (match eqN B b s i m with | some r => some (.bool r) | none => none) else none
  | .neq => if kbeq k .u64 then (match eqN B b s i m with | some r => some (.bool (bnot r)) | none => none) else none
  | _ => none
noncomputable def binL (B : List Dm) (op : BinOp) (x y : V) : Option V := match x, y with
  | .sym j n, .int k c => if kbeq j .u64 then (match c with
    | .ofNat m => linOf B n fun b s i => binLN B op b s i k m
    | .negSucc _ => none) else none
  | .int j c, .sym k n => if kbeq k .u64 && kbeq j .u64 then (match c with
    | .ofNat m => (match op with | .or => linOf B n fun b s i => binLN B .or b s i .u64 m | _ => none)
    | .negSucc _ => none) else none
  | _, _ => none
/-! numbers got from a symbol by dividing, multiplying, adding -/
noncomputable def affOf (B : List Dm) (n : Nat) (k : Nat → Nat → Nat → Nat → Nat → Nat → Option V) : Option V :=
  if ltb n 1000 then (match dget B n with | some d => (match d.lo, d.hi with | .ofNat lo, .ofNat hi => k 1 1 0 n lo hi | _, _ => none) | none => none) else
  if ltb n affBase then none else
  match dget B (Nat.mod (Nat.sub n affBase) 1000) with
  | some d => (match d.lo, d.hi with
    | .ofNat lo, .ofNat hi => k (Nat.mod (Nat.div (Nat.sub n affBase) 18446744073709551616000) 18446744073709551616) (Nat.mod (Nat.div (Nat.sub n affBase) 1000) 18446744073709551616)
        (Nat.div (Nat.div (Nat.sub n affBase) 18446744073709551616000) 18446744073709551616) (Nat.mod (Nat.sub n affBase) 1000) lo hi
    | _, _ => none)
  | none => none
noncomputable def affN (a d b y : Nat) : Nat := Nat.add (Nat.mul a (Nat.div y d)) b
noncomputable def mkAff (a d b i lo hi : Nat) : Option V :=
  if ltb (affN a d b hi) 4611686018427387904 then
    (if Nat.beq (affN a d b lo) (affN a d b hi) then some (.int .i64 (.ofNat (affN a d b lo))) else
     if ltb a 18446744073709551616 && ltb d 18446744073709551616 then some (.sym .i64 (affCode a d b i)) else none) else none
noncomputable def binAN (op : BinOp) (a d b i lo hi m : Nat) : Option V := match op with
  | .mul => mkAff (Nat.mul a m) d (Nat.mul b m) i lo hi
  | .add => mkAff a d (Nat.add b m) i lo hi
  | .quo => if ltb 0 m then (if Nat.beq a 1 && Nat.beq b 0 then mkAff 1 (Nat.mul d m) 0 i lo hi else if Nat.beq (Nat.mod a m) 0 && Nat.beq (Nat.mod b m) 0 then mkAff (Nat.div a m) d (Nat.div b m) i lo hi else none) else none
  | .rem => if ltb 0 m && Nat.beq (Nat.mod a m) 0 then some (.int .i64 (.ofNat (Nat.mod b m))) else none
  | op => match cmpD op ⟨.ofNat (affN a d b lo), .ofNat (affN a d b hi), [], []⟩ (.ofNat m) with | some r => some (.bool r) | none => none
noncomputable def binA (B : List Dm) (op : BinOp) (x y : V) : Option V := match x, y with
  | .sym j n, .int k c => if kbeq j .i64 && kbeq k .i64 then (match c with
    | .ofNat m => affOf B n fun a d b i lo hi => binAN op a d b i lo hi m
    | .negSucc _ => none) else none
  | _, _ => none
noncomputable def binC (B : List Dm) (D : List (Bool × Int)) (op : BinOp) (x y : V) : Option V := match binB B D op x y with | some v => some v | none => match binL B op x y with | some v => some v | none => binA B op x y
noncomputable def convL (B : List Dm) (k : IntKind) (x : V) : Option V := match x with
  | .sym j n =>
    if ltb n 1000 then (if byteD B n && (kbeq k .u8 || kbeq k .u64 || kbeq k .i64) then some (.sym k n) else none) else
    if kbeq j .u64 && kbeq k .u8 then linOf B n fun b s i => if Nat.beq s 0 then (if Nat.beq (Nat.mod b 256) 0 then some (.sym .u8 i) else none) else some (.int .u8 (.ofNat (Nat.mod b 256))) else none
  | _ => none
noncomputable def convC (B : List Dm) (k : IntKind) (x : V) : Option V := match convB B k x with | some v => some v | none => convL B k x
noncomputable def SyB (B : List Dm) (D : List (Bool × Int)) : Sy := ⟨binC B D, convC B⟩

/-- the symbols lie as told -/
def Lies (xs : Nat → Int) (B : List Dm) : Prop := ∀ (i : Nat) (d : Dm), B[i]? = some d → d.has (xs i)

theorem cmpS_spec {xs : Nat → Int} {D : List (Bool × Int)} {B : List Dm} (h : Lies xs B) {op : BinOp} {i : Nat} {c : Int} {v : V} (e : cmpS B op i c = some v) : isCmp op = true ∧ v = .bool (cmpZ op (sigma xs D i) c) := by
  unfold cmpS at e
  split at e
  · rename_i hi
    rw [ltb_iff] at hi
    cases hd : dget B i with
    | none => rw [hd] at e; cases e
    | some d =>
      rw [hd] at e
      simp only at e
      cases hc : cmpD op d c with
      | none => rw [hc] at e; cases e
      | some b =>
        rw [hc] at e
        rw [dget_eq] at hd
        obtain ⟨h1, h2⟩ := cmpD_spec (h i d hd) hc
        rw [sigma_low xs D hi]
        simp at e
        exact ⟨h1, by rw [← e, h2]⟩
  · cases e

theorem drv_spec {xs : Nat → Int} {D : List (Bool × Int)} {P : Program} {q : Bool} {j k : IntKind} {i : Nat} {c : Int} {v : V} (e : drv D q j k i c = some v) (ι : Inj) (t : TypeId) (w : World) :
    ∃ x, (binOp (if q then .rem else .quo) t (.int j (sigma xs D i)) (.int k c)).run P w = .ok x w ∧ ∀ ι, VR (sigma xs D) ι v x := by
  unfold drv at e
  split at e
  · rename_i hc
    simp only [Bool.and_eq_true, Bool.not_eq_true', isI64, kbeq_iff, ltb_iff, ieq_eq, beq_eq_false_iff_ne] at hc
    obtain ⟨⟨⟨rfl, rfl⟩, hi⟩, hz⟩ := hc
    cases hf : findD q c D with
    | none => rw [hf] at e; cases e
    | some n =>
      rw [hf] at e
      simp only at e
      split at e
      rotate_left
      · cases e
      rename_i hn
      rw [ltb_iff] at hn
      simp at e
      subst e
      have hD := findD_spec hf
      rw [sigma_low xs D hi]
      cases q with
      | false =>
        refine ⟨.int .i64 (IntKind.i64.wrap ((xs i).tdiv c)), by simp [binOp, Op.intDiv, hz], fun ι => ?_⟩
        show _ = Value.int .i64 (sigma xs D (1000 * (n + 1) + i))
        rw [sigma_d xs D hi hn, hD]
      | true =>
        refine ⟨.int .i64 ((xs i).tmod c), by simp [binOp, Op.intDiv, hz], fun ι => ?_⟩
        show _ = Value.int .i64 (sigma xs D (1000 * (n + 1) + i))
        rw [sigma_d xs D hi hn, hD]
  · cases e

theorem remE_spec {xs : Nat → Int} {D : List (Bool × Int)} (hE : EOk xs D) {P : Program} {j k : IntKind} {i : Nat} {c : Int} {v : V} (e : remE D j k i c = some v) (ι : Inj) (t : TypeId) (w : World) :
    ∃ x, (binOp .rem t (.int j (sigma xs D i)) (.int k c)).run P w = .ok x w ∧ ∀ ι, VR (sigma xs D) ι v x := by
  unfold remE at e
  split at e
  · rename_i m
    split at e
    · rename_i hc
      rw [Bool.and_eq_true, kbeq_iff, ltb_iff] at hc
      obtain ⟨rfl, hi⟩ := hc
      split at e
      · rename_i jj hj
        cases e
        obtain ⟨e', h1, h2⟩ := findE_spec hj
        obtain ⟨h3, h4, h5⟩ := hE e' h1 _ _ _ h2
        rw [sigma_low xs D hi]
        refine ⟨.int j ((xs i).tmod (Int.ofNat m)), by simp [binOp, Op.intDiv]; omega, fun ι => ?_⟩
        show _ = Value.int j (sigma xs D jj)
        rw [sigma_low xs D h4, h5]; rfl
      · exact drv_spec (q := true) e ι t w
    · exact drv_spec (q := true) e ι t w
  · exact drv_spec (q := true) e ι t w

theorem remS_spec {xs : Nat → Int} {D : List (Bool × Int)} {B : List Dm} (h : Lies xs B) (hE : EOk xs D) {P : Program} {j k : IntKind} {i : Nat} {c : Int} {v : V} (e : remS B D j k i c = some v) (ι : Inj) (t : TypeId) (w : World) :
    ∃ x, (binOp .rem t (.int j (sigma xs D i)) (.int k c)).run P w = .ok x w ∧ ∀ ι, VR (sigma xs D) ι v x := by
  unfold remS at e
  split at e
  · rename_i r hm
    split at e
    · rename_i hc
      simp only [Bool.and_eq_true, Bool.not_eq_true', kbeq_iff, ltb_iff, ieq_eq, beq_eq_false_iff_ne] at hc
      obtain ⟨⟨rfl, hi⟩, hz⟩ := hc
      cases e
      unfold modOf at hm
      cases hd : dget B i with
      | none => rw [hd] at hm; cases hm
      | some d =>
        rw [hd] at hm
        rw [dget_eq] at hd
        have := (h i d hd).2.2.2 _ (mdget_mem hm)
        rw [sigma_low xs D hi]
        exact ⟨.int j ((xs i).tmod c), by simp [binOp, Op.intDiv, hz], fun ι => by rw [this]; rfl⟩
    · cases e
  · exact remE_spec hE e ι t w

theorem byteD_of {xs : Nat → Int} {B : List Dm} (h : Lies xs B) {i : Nat} (e : byteD B i = true) : 0 ≤ xs i ∧ xs i < 256 := by
  unfold byteD at e
  cases hd : dget B i with
  | none => rw [hd] at e; cases e
  | some d =>
    rw [hd] at e
    rw [dget_eq] at hd
    obtain ⟨h1, h2, _⟩ := h i d hd
    simp only [Bool.and_eq_true, Bool.not_eq_true', ilt_eq, decide_eq_false_iff_not, decide_eq_true_eq] at e
    omega
theorem linOf_some {xs : Nat → Int} {B : List Dm} (D : List (Bool × Int)) (h : Lies xs B) {n : Nat} {k : Nat → Nat → Nat → Option V} {v : V} (e : linOf B n k = some v) :
    ∃ b s i, k b s i = some v ∧ s < 8 ∧ i < 1000 ∧ b < 18446744073709551616 ∧ (xs i).toNat < 256 ∧ 0 ≤ xs i ∧ sigma xs D n = Int.ofNat (lin b s (xs i).toNat) := by
  unfold linOf at e
  split at e
  · rename_i hn
    rw [ltb_iff] at hn
    split at e
    · rename_i hb
      have := byteD_of h hb
      refine ⟨0, 0, n, e, by omega, hn, by omega, by omega, this.1, ?_⟩
      rw [sigma_low xs D hn]
      unfold lin
      simp only [Nat.mul_zero, Nat.shiftLeft_zero, Nat.zero_or, Int.ofNat_eq_natCast]
      omega
    · cases e
  · split at e
    · cases e
    · rename_i hn
      have hn : 1000000 ≤ n := Nat.le_of_not_lt fun hh => hn (ltb_iff.2 hh)
      split at e
      · rename_i hb
        rw [Bool.and_eq_true, ltb_iff] at hb
        have h1 := byteD_of h hb.1
        refine ⟨_, _, _, e, Nat.mod_lt _ (by decide), Nat.mod_lt _ (by decide), hb.2, by omega, h1.1, ?_⟩
        unfold sigma
        have hb2 : (n - 1000000) / 8000 < 18446744073709551616 := hb.2
        rw [if_neg (by omega), if_pos (by unfold affBase; omega)]
        rfl
      · cases e
theorem mkLin_vr {xs : Nat → Int} {D : List (Bool × Int)} {b s i : Nat} (hb : b < 18446744073709551616) (hs : s < 8) (hi : i < 1000) (hx : 0 ≤ xs i) (ι : Inj) : VR (sigma xs D) ι (mkLin b s i) (.int .u64 (Int.ofNat (lin b s (xs i).toNat))) := by
  unfold mkLin
  split
  · rename_i hc
    rw [Bool.and_eq_true, Nat.beq_eq, Nat.beq_eq] at hc
    obtain ⟨rfl, rfl⟩ := hc
    show _ = Value.int .u64 (sigma xs D i)
    rw [sigma_low xs D hi]
    unfold lin
    simp only [Nat.mul_zero, Nat.shiftLeft_zero, Nat.zero_or, Int.ofNat_eq_natCast]
    congr 1; omega
  · show _ = Value.int .u64 (sigma xs D _)
    rw [sigma_lin xs D hb hs hi]
theorem bin_of {P : Program} {σ : Nat → Int} {op : BinOp} {j k : IntKind} {a b : Int} {v : V} (h : ∀ c : V → R, binInt op j k a b c = c v) (t : TypeId) (w : World) : ∃ x, (binOp op t (.int j a) (.int k b)).run P w = .ok x w ∧ ∀ ι, VR σ ι v x := by
  obtain ⟨v', h1, x, h2, h3⟩ := bin_sim (P := P) (σ := σ) (h (fun v => some (v, .mk (.s .k0 .k0 .k0) .nil))) t
  simp only [Option.some.injEq, Prod.mk.injEq, and_true] at h1
  subst h1
  exact ⟨x, h3 w, h2⟩
theorem wrap_u64 {n : Nat} (h : n < 18446744073709551616) : IntKind.u64.wrap (Int.ofNat n) = Int.ofNat n := by
  show (let m := Int.ofNat n % 18446744073709551616; if (false && decide (m ≥ 9223372036854775808)) = true then m - 18446744073709551616 else m) = _
  simp only [Bool.false_and, Bool.false_eq_true, if_false, Int.ofNat_eq_natCast]; omega
theorem wrap_u8 (n : Nat) : IntKind.u8.wrap (Int.ofNat n) = Int.ofNat (n % 256) := by
  show (let m := Int.ofNat n % 256; if (false && decide (m ≥ 128)) = true then m - 256 else m) = _
  simp only [Bool.false_and, Bool.false_eq_true, if_false, Int.ofNat_eq_natCast]; omega
theorem vr_eq {σ : Nat → Int} {x y : Value} {v : V} (e : x = y) (h : ∀ ι, VR σ ι v y) : ∀ ι, VR σ ι v x := by subst e; exact h
theorem int_of {σ : Nat → Int} {k : IntKind} {n : Int} {x : Value} (h : ∀ ι, VR σ ι (.int k n) x) : x = .int k n := h (fun _ => none)
theorem land_sub {n m : Nat} (hm : m < 18446744073709551616) : Nat.land n (18446744073709551616 - 1 - m) = Nat.land n (Nat.sub 18446744073709551615 m) := rfl
theorem andL_spec {xs : Nat → Int} {D : List (Bool × Int)} {b s i m : Nat} {v : V} (hb : b < 18446744073709551616) (hs : s < 8) (hi : i < 1000) (hx : 0 ≤ xs i) (hx2 : (xs i).toNat < 256) (e : andL b s i m = some v) (ι : Inj) : VR (sigma xs D) ι v (.int .u64 (Int.ofNat (lin b s (xs i).toNat &&& m))) := by
  unfold andL byteAt at e
  split at e
  · rename_i h0
    rw [Nat.beq_eq] at h0
    cases e
    show Value.int _ _ = Value.int _ _
    rw [lin_and0 hx2 h0]; rfl
  · split at e
    · rename_i h1
      rw [Nat.beq_eq] at h1
      cases e
      rw [lin_and1 hx2 h1]
      exact mkLin_vr (Nat.lt_of_le_of_lt Nat.and_le_left hb) hs hi hx ι
    · cases e
theorem eqN_spec {xs : Nat → Int} {B : List Dm} (h : Lies xs B) {b s i m : Nat} {r : Bool} (hs : s < 8) (hx : 0 ≤ xs i) (hx2 : (xs i).toNat < 256) (e : eqN B b s i m = some r) : (Int.ofNat (lin b s (xs i).toNat) == Int.ofNat m) = r := by
  unfold eqN byteAt at e
  split at e
  · rename_i hc
    rw [Bool.and_eq_true, Nat.beq_eq, ltb_iff] at hc
    obtain ⟨hb, hm⟩ := hc
    have hM : ((18446744073709551615 - 255 <<< (8 * s)) >>> (8 * s)) % 256 = 0 := by
      have : ∀ s : Fin 8, ((18446744073709551615 - 255 <<< (8 * s.val)) >>> (8 * s.val)) % 256 = 0 := by decide
      exact this ⟨s, hs⟩
    split at e
    · rename_i hne
      cases e
      rw [bnot_eq, Bool.not_eq_true'] at hne
      rw [beq_eq_false_iff_ne]
      intro heq
      have heq : lin b s (xs i).toNat = m := Int.ofNat.inj heq
      have : Nat.beq (Nat.land m (Nat.sub 18446744073709551615 (Nat.shiftLeft 255 (Nat.mul 8 s)))) b = true := by
        rw [Nat.beq_eq]
        show m &&& (18446744073709551615 - 255 <<< (8 * s)) = b
        rw [← heq, lin_and0 hx2 hM]
        have h0 : lin b s 0 = b := by unfold lin; simp
        have := lin_word (b := b &&& (18446744073709551615 - 255 <<< (8 * s))) (s := s) (c := b) _ hM ?_ rfl
        · rw [show (b >>> (8 * s)) % 256 = 0 from hb] at this
          unfold lin at this; simpa using this
        · intro j hj ho
          have hj64 : j < 64 := Nat.lt_of_not_le fun hle => by
            have hlt : b < 2 ^ 64 := Nat.lt_of_le_of_lt (by rw [← heq]; exact Nat.left_le_or) hm
            rw [Nat.testBit_lt_two_pow (Nat.lt_of_lt_of_le hlt (Nat.pow_le_pow_right (by decide) hle))] at hj; cases hj
          have : ∀ (s : Fin 8) (j : Fin 64), (j.val < 8 * s.val ∨ 8 * s.val + 8 ≤ j.val) → (18446744073709551615 - 255 <<< (8 * s.val)).testBit j.val = true := by decide
          exact this ⟨s, hs⟩ ⟨j, hj64⟩ ho
      rw [this] at hne; cases hne
    · rename_i hne
      rw [bnot_eq, Bool.not_eq_true', Bool.not_eq_false] at hne
      rw [Nat.beq_eq] at hne
      have hne : m &&& (18446744073709551615 - 255 <<< (8 * s)) = b := hne
      have hw : lin b s ((m >>> (8 * s)) % 256) = m := lin_word _ hM (fun j hj ho => by
          have hj64 : j < 64 := Nat.lt_of_not_le fun hle => by
            rw [Nat.testBit_lt_two_pow (Nat.lt_of_lt_of_le (show m < 2 ^ 64 from hm) (Nat.pow_le_pow_right (by decide) hle))] at hj; cases hj
          have : ∀ (s : Fin 8) (j : Fin 64), (j.val < 8 * s.val ∨ 8 * s.val + 8 ≤ j.val) → (18446744073709551615 - 255 <<< (8 * s.val)).testBit j.val = true := by decide
          exact this ⟨s, hs⟩ ⟨j, hj64⟩ ho) hne
      cases hd : dget B i with
      | none => rw [hd] at e; cases e
      | some d =>
        rw [hd] at e
        rw [dget_eq] at hd
        have hcmp := (cmpD_spec (h i d hd) e).2
        have hcmp : (xs i == Int.ofNat ((m >>> (8 * s)) % 256)) = r := hcmp
        rw [← hcmp, Bool.eq_iff_iff, beq_iff_eq, beq_iff_eq]
        constructor
        · intro heq
          have heq : lin b s (xs i).toNat = m := Int.ofNat.inj heq
          have := lin_inj hx2 (Nat.mod_lt _ (by decide)) hb (heq.trans hw.symm)
          rw [← this]; simp only [Int.ofNat_eq_natCast]; omega
        · intro heq
          have : (xs i).toNat = (m >>> (8 * s)) % 256 := by rw [heq]; rfl
          rw [this, hw]
  · cases e
theorem binLN_spec {xs : Nat → Int} {D : List (Bool × Int)} {B : List Dm} {P : Program} (h : Lies xs B) {op : BinOp} {b s i : Nat} {k : IntKind} {m : Nat} {v : V} (hs : s < 8) (hi : i < 1000) (hb : b < 18446744073709551616) (hx2 : (xs i).toNat < 256) (hx : 0 ≤ xs i) (e : binLN B op b s i k m = some v) (t : TypeId) (w : World) :
    ∃ x, (binOp op t (.int .u64 (Int.ofNat (lin b s (xs i).toNat))) (.int k (Int.ofNat m))).run P w = .ok x w ∧ ∀ ι, VR (sigma xs D) ι v x := by
  have hlt : lin b s (xs i).toNat < 18446744073709551616 := lin_lt (b := b) hb hx2 hs
  unfold binLN at e
  cases op <;> simp only at e <;> (try cases e)
  case shl =>
    split at e
    · rename_i hc
      rw [Bool.and_eq_true, Bool.and_eq_true, Nat.beq_eq, Nat.beq_eq, ltb_iff] at hc
      obtain ⟨⟨rfl, h8⟩, h3⟩ := hc
      cases e
      have h8 : m % 8 = 0 := h8
      have h3 : s + m / 8 < 8 := h3
      have e0 : IntKind.u64.wrap (Int.mul (Int.ofNat (lin 0 s (xs i).toNat)) (Int.ofNat (Nat.pow 2 (Nat.min (Int.toNat (Int.ofNat m)) 64)))) = Int.ofNat (lin 0 (s + m / 8) (xs i).toNat) := by
        have e1 : Nat.min (Int.toNat (Int.ofNat m)) 64 = 8 * (m / 8) := by
          show min m 64 = _; omega
        rw [e1]
        have e2 : Int.mul (Int.ofNat (lin 0 s (xs i).toNat)) (Int.ofNat (Nat.pow 2 (8 * (m / 8)))) = Int.ofNat (lin 0 s (xs i).toNat * 2 ^ (8 * (m / 8))) := rfl
        rw [e2, lin_shl]
        exact wrap_u64 (lin_lt (by decide) hx2 h3)
      obtain ⟨x, h1, h2⟩ := bin_of (P := P) (σ := sigma xs D) (op := .shl) (j := .u64) (k := k) (a := Int.ofNat (lin 0 s (xs i).toNat)) (b := Int.ofNat m) (v := .int .u64 (Int.ofNat (lin 0 (s + m / 8) (xs i).toNat))) (fun c => by rw [← e0]; rfl) t w
      exact ⟨x, h1, vr_eq (int_of h2) (mkLin_vr (by decide) h3 hi hx)⟩
    · cases e
  case shr =>
    split at e
    · rename_i hc
      rw [Bool.and_eq_true, Nat.beq_eq, Nat.ble_eq] at hc
      obtain ⟨h8, h64⟩ := hc
      have h8 : m % 8 = 0 := h8
      have hm : m = 8 * (m / 8) := by omega
      have e1 : Int.fdiv (Int.ofNat (lin b s (xs i).toNat)) (Int.ofNat (Nat.pow 2 (Nat.min (Int.toNat (Int.ofNat m)) 64))) = Int.ofNat (lin b s (xs i).toNat / 2 ^ (8 * (m / 8))) := by
        have : Nat.min (Int.toNat (Int.ofNat m)) 64 = 8 * (m / 8) := by show min m 64 = _; omega
        rw [this]
        show Int.fdiv _ _ = _
        simp only [Int.ofNat_eq_natCast]
        rw [Int.fdiv_eq_ediv_of_nonneg _ (by exact Int.natCast_nonneg _)]
        rfl
      split at e
      · rename_i hq
        rw [Nat.ble_eq] at hq
        have hq : m / 8 ≤ s := hq
        cases e
        rw [lin_shr hq] at e1
        obtain ⟨x, h1, h2⟩ := bin_of (P := P) (σ := sigma xs D) (op := .shr) (j := .u64) (k := k) (a := Int.ofNat (lin b s (xs i).toNat)) (b := Int.ofNat m) (v := .int .u64 (Int.ofNat (lin (b >>> (8 * (m / 8))) (s - m / 8) (xs i).toNat))) (fun c => by rw [← e1]; rfl) t w
        refine ⟨x, h1, vr_eq (int_of h2) fun ι => ?_⟩
        have := mkLin_vr (xs := xs) (D := D) (b := b >>> (8 * (m / 8))) (s := s - m / 8) (Nat.lt_of_le_of_lt (Nat.shiftRight_le _ _) hb) (by omega) hi hx ι
        rw [← hm] at this ⊢
        exact this
      · rename_i hq
        have hq : s < m / 8 := Nat.lt_of_not_le fun hh => hq (by rw [Nat.ble_eq]; exact hh)
        cases e
        rw [lin_shr0 hx2 hq] at e1
        obtain ⟨x, h1, h2⟩ := bin_of (P := P) (σ := sigma xs D) (op := .shr) (j := .u64) (k := k) (a := Int.ofNat (lin b s (xs i).toNat)) (b := Int.ofNat m) (v := .int .u64 (Int.ofNat (b >>> (8 * (m / 8))))) (fun c => by rw [← e1]; rfl) t w
        refine ⟨x, h1, vr_eq (int_of h2) fun ι => ?_⟩
        rw [← hm]; exact rfl
    · cases e
  case and =>
    split at e
    · rename_i hc
      rw [Bool.and_eq_true, kbeq_iff, ltb_iff] at hc
      obtain ⟨rfl, hm⟩ := hc
      have e0 : IntKind.u64.wrap (Int.ofNat (Nat.land (Nat.mod (lin b s (xs i).toNat) (2 ^ IntKind.u64.bits)) (Nat.mod m (2 ^ IntKind.u64.bits)))) = Int.ofNat (lin b s (xs i).toNat &&& m) := by
        have e1 : Nat.mod (lin b s (xs i).toNat) (2 ^ IntKind.u64.bits) = lin b s (xs i).toNat := Nat.mod_eq_of_lt hlt
        have e2 : Nat.mod m (2 ^ IntKind.u64.bits) = m := Nat.mod_eq_of_lt hm
        rw [e1, e2]
        exact wrap_u64 (Nat.lt_of_le_of_lt Nat.and_le_left hlt)
      obtain ⟨x, h1, h2⟩ := bin_of (P := P) (σ := sigma xs D) (op := .and) (j := .u64) (k := .u64) (a := Int.ofNat (lin b s (xs i).toNat)) (b := Int.ofNat m) (v := .int .u64 (Int.ofNat (lin b s (xs i).toNat &&& m))) (fun c => by rw [← e0]; rfl) t w
      exact ⟨x, h1, vr_eq (int_of h2) (andL_spec hb hs hi hx hx2 e)⟩
    · cases e
  case or =>
    split at e
    · rename_i hc
      rw [Bool.and_eq_true, kbeq_iff, ltb_iff] at hc
      obtain ⟨rfl, hm⟩ := hc
      cases e
      have e0 : IntKind.u64.wrap (Int.ofNat (Nat.lor (Nat.mod (lin b s (xs i).toNat) (2 ^ IntKind.u64.bits)) (Nat.mod m (2 ^ IntKind.u64.bits)))) = Int.ofNat (lin (b ||| m) s (xs i).toNat) := by
        have e1 : Nat.mod (lin b s (xs i).toNat) (2 ^ IntKind.u64.bits) = lin b s (xs i).toNat := Nat.mod_eq_of_lt hlt
        have e2 : Nat.mod m (2 ^ IntKind.u64.bits) = m := Nat.mod_eq_of_lt hm
        rw [e1, e2]
        have e3 : Nat.lor (lin b s (xs i).toNat) m = lin (b ||| m) s (xs i).toNat := lin_or _ _ _ _
        rw [e3]
        exact wrap_u64 (lin_lt (Nat.or_lt_two_pow (n := 64) hb hm) hx2 hs)
      obtain ⟨x, h1, h2⟩ := bin_of (P := P) (σ := sigma xs D) (op := .or) (j := .u64) (k := .u64) (a := Int.ofNat (lin b s (xs i).toNat)) (b := Int.ofNat m) (v := .int .u64 (Int.ofNat (lin (b ||| m) s (xs i).toNat))) (fun c => by rw [← e0]; rfl) t w
      exact ⟨x, h1, vr_eq (int_of h2) (mkLin_vr (Nat.or_lt_two_pow (n := 64) hb hm) hs hi hx)⟩
    · cases e
  case andNot =>
    split at e
    · rename_i hc
      rw [Bool.and_eq_true, kbeq_iff, ltb_iff] at hc
      obtain ⟨rfl, hm⟩ := hc
      have e0 : IntKind.u64.wrap (Int.ofNat (Nat.land (Nat.mod (lin b s (xs i).toNat) (2 ^ IntKind.u64.bits)) (Nat.sub (2 ^ IntKind.u64.bits - 1) (Nat.mod m (2 ^ IntKind.u64.bits))))) = Int.ofNat (lin b s (xs i).toNat &&& (18446744073709551615 - m)) := by
        have e1 : Nat.mod (lin b s (xs i).toNat) (2 ^ IntKind.u64.bits) = lin b s (xs i).toNat := Nat.mod_eq_of_lt hlt
        have e2 : Nat.mod m (2 ^ IntKind.u64.bits) = m := Nat.mod_eq_of_lt hm
        rw [e1, e2]
        exact wrap_u64 (Nat.lt_of_le_of_lt Nat.and_le_left hlt)
      obtain ⟨x, h1, h2⟩ := bin_of (P := P) (σ := sigma xs D) (op := .andNot) (j := .u64) (k := .u64) (a := Int.ofNat (lin b s (xs i).toNat)) (b := Int.ofNat m) (v := .int .u64 (Int.ofNat (lin b s (xs i).toNat &&& (18446744073709551615 - m)))) (fun c => by rw [← e0]; rfl) t w
      exact ⟨x, h1, vr_eq (int_of h2) (andL_spec hb hs hi hx hx2 e)⟩
    · cases e
  case eql =>
    split at e
    · rename_i hc
      rw [kbeq_iff] at hc; subst hc
      cases hr : eqN B b s i m with
      | none => rw [hr] at e; cases e
      | some r =>
        rw [hr] at e; cases e
        have := eqN_spec h hs hx hx2 hr
        exact bin_of (op := .eql) (j := .u64) (k := .u64) (fun c => by rw [← this, ← ieq_eq]; rfl) t w
    · cases e
  case neq =>
    split at e
    · rename_i hc
      rw [kbeq_iff] at hc; subst hc
      cases hr : eqN B b s i m with
      | none => rw [hr] at e; cases e
      | some r =>
        rw [hr] at e; cases e
        have := eqN_spec h hs hx hx2 hr
        exact bin_of (op := .neq) (j := .u64) (k := .u64) (fun c => by rw [← this, ← ieq_eq]; rfl) t w
    · cases e

theorem binL_spec {xs : Nat → Int} {D : List (Bool × Int)} {B : List Dm} {P : Program} (h : Lies xs B) {op : BinOp} {x y v : V} (e : binL B op x y = some v) (ι : Inj) (a b : Value) (ha : VR (sigma xs D) ι x a) (hb : VR (sigma xs D) ι y b) :
    ∃ (k k' : IntKind) (n m : Int), a = .int k n ∧ b = .int k' m ∧ ∀ (t : TypeId) (w : World), ∃ c, (binOp op t a b).run P w = .ok c w ∧ ∀ ι, VR (sigma xs D) ι v c := by
  cases x with
  | sym j n =>
    replace ha : a = .int j (sigma xs D n) := ha
    cases y with
    | int k c =>
      replace hb : b = .int k c := hb
      replace e : (if kbeq j .u64 then (match c with
        | .ofNat m => linOf B n fun b s i => binLN B op b s i k m
        | .negSucc _ => none) else none) = some v := e
      split at e
      · rename_i hj
        rw [kbeq_iff] at hj; subst hj
        cases c with
        | negSucc m => cases e
        | ofNat m =>
          obtain ⟨b0, s, i, e, hs, hi, hb0, hx2, hx, hsig⟩ := linOf_some D h e
          refine ⟨_, _, _, _, ha, hb, fun t w => ?_⟩
          subst ha hb
          rw [hsig]
          exact binLN_spec h hs hi hb0 hx2 hx e t w
      · cases e
    | _ => cases e
  | int j c =>
    replace ha : a = .int j c := ha
    cases y with
    | sym k n =>
      replace hb : b = .int k (sigma xs D n) := hb
      replace e : (if kbeq k .u64 && kbeq j .u64 then (match c with
        | .ofNat m => (match op with | .or => linOf B n fun b s i => binLN B .or b s i .u64 m | _ => none)
        | .negSucc _ => none) else none) = some v := e
      split at e
      · rename_i hj
        rw [Bool.and_eq_true, kbeq_iff, kbeq_iff] at hj
        obtain ⟨rfl, rfl⟩ := hj
        cases c with
        | negSucc m => cases e
        | ofNat m =>
          cases op <;> try (cases e; done)
          obtain ⟨b0, s, i, e, hs, hi, hb0, hx2, hx, hsig⟩ := linOf_some D h e
          refine ⟨_, _, _, _, ha, hb, fun t w => ?_⟩
          subst ha hb
          rw [hsig]
          obtain ⟨z, h1, h2⟩ := binLN_spec (D := D) (P := P) h hs hi hb0 hx2 hx e t w
          refine ⟨z, ?_, h2⟩
          rw [← h1]
          have hcomm : ∀ p q : Int, (binOp .or t (.int .u64 p) (.int .u64 q)).run P w = (binOp .or t (.int .u64 q) (.int .u64 p)).run P w := fun p q => by
            simp only [binOp, Op.intBits, BitVec.or_comm]
          exact hcomm _ _
      · cases e
    | _ => cases e
  | _ => cases e

theorem convL_spec {xs : Nat → Int} {D : List (Bool × Int)} {B : List Dm} (h : Lies xs B) {k : IntKind} {x v : V} (e : convL B k x = some v) (ι : Inj) (a : Value) (ha : VR (sigma xs D) ι x a) : ∃ (j : IntKind) (n : Int), a = .int j n ∧ ∀ ι, VR (sigma xs D) ι v (.int k (k.wrap n)) := by
  cases x with
  | sym j n =>
    replace ha : a = .int j (sigma xs D n) := ha
    refine ⟨j, _, ha, ?_⟩
    replace e : (if ltb n 1000 then (if byteD B n && (kbeq k .u8 || kbeq k .u64 || kbeq k .i64) then some (V.sym k n) else none) else
      if kbeq j .u64 && kbeq k .u8 then linOf B n fun b s i => if Nat.beq s 0 then (if Nat.beq (Nat.mod b 256) 0 then some (.sym .u8 i) else none) else some (.int .u8 (.ofNat (Nat.mod b 256))) else none) = some v := e
    split at e
    · rename_i hn
      rw [ltb_iff] at hn
      split at e
      · rename_i hc
        rw [Bool.and_eq_true] at hc
        have hx := byteD_of h hc.1
        cases e
        intro ι
        show Value.int k _ = .int k _
        rw [sigma_low xs D hn]
        have hz : xs n = Int.ofNat (xs n).toNat := by simp only [Int.ofNat_eq_natCast]; omega
        have hk := hc.2
        rw [Bool.or_eq_true, Bool.or_eq_true, kbeq_iff, kbeq_iff, kbeq_iff] at hk
        rcases hk with (rfl | rfl) | rfl
        · rw [hz, wrap_u8, Nat.mod_eq_of_lt (by omega)]
        · rw [hz, wrap_u64 (by omega)]
        · rw [wrap_i64 (by omega) (by omega)]
      · cases e
    · split at e
      · rename_i hc
        rw [Bool.and_eq_true, kbeq_iff, kbeq_iff] at hc
        obtain ⟨rfl, rfl⟩ := hc
        obtain ⟨b, s, i, e, hs, hi, hb0, hx2, hx, hsig⟩ := linOf_some D h e
        rw [hsig, wrap_u8]
        intro ι
        split at e
        · rename_i h0
          rw [Nat.beq_eq] at h0; subst h0
          split at e
          · rename_i hm
            rw [Nat.beq_eq] at hm
            cases e
            show Value.int _ _ = Value.int _ (sigma xs D i)
            rw [sigma_low xs D hi, lin_mod0 hx2 hm]
            congr 1; simp only [Int.ofNat_eq_natCast]; omega
          · cases e
        · rename_i h0
          have h0 : 0 < s := Nat.pos_of_ne_zero fun hh => h0 (by rw [hh]; rfl)
          cases e
          show Value.int _ _ = Value.int _ _
          rw [lin_mods h0]; rfl
      · cases e
  | _ => cases e

theorem affOf_some {xs : Nat → Int} {B : List Dm} (D : List (Bool × Int)) (h : Lies xs B) {n : Nat} {k : Nat → Nat → Nat → Nat → Nat → Nat → Option V} {v : V} (e : affOf B n k = some v) :
    ∃ a d b i lo hi, k a d b i lo hi = some v ∧ i < 1000 ∧ lo ≤ (xs i).toNat ∧ (xs i).toNat ≤ hi ∧ 0 ≤ xs i ∧ sigma xs D n = Int.ofNat (aff a d b (xs i).toNat) := by
  have dom : ∀ {i : Nat} {d : Dm} {lo hi : Nat}, dget B i = some d → d.lo = .ofNat lo → d.hi = .ofNat hi → lo ≤ (xs i).toNat ∧ (xs i).toNat ≤ hi ∧ 0 ≤ xs i := fun {i d lo hi} h1 h2 h3 => by
    rw [dget_eq] at h1
    obtain ⟨g1, g2, _⟩ := h i d h1
    rw [h2] at g1; rw [h3] at g2
    simp only [Int.ofNat_eq_natCast] at g1 g2
    omega
  unfold affOf at e
  split at e
  · rename_i hn
    rw [ltb_iff] at hn
    split at e
    · rename_i d hd
      split at e
      · rename_i lo hi h1 h2
        obtain ⟨g1, g2, g3⟩ := dom hd h1 h2
        refine ⟨1, 1, 0, n, lo, hi, e, hn, g1, g2, g3, ?_⟩
        rw [sigma_low xs D hn]
        unfold aff
        simp only [Nat.div_one, Nat.one_mul, Nat.add_zero, Int.ofNat_eq_natCast]; omega
      · cases e
    · cases e
  · split at e
    · cases e
    · rename_i hn
      have hn : affBase ≤ n := Nat.le_of_not_lt fun hh => hn (ltb_iff.2 hh)
      split at e
      · rename_i d hd
        split at e
        · rename_i lo hi h1 h2
          obtain ⟨g1, g2, g3⟩ := dom hd h1 h2
          refine ⟨_, _, _, _, lo, hi, e, Nat.mod_lt _ (by decide), g1, g2, g3, ?_⟩
          unfold sigma
          rw [if_neg (by unfold affBase at hn; omega), if_neg (by omega)]
          rfl
        · cases e
      · cases e
theorem mkAff_vr {xs : Nat → Int} {D : List (Bool × Int)} {a d b i lo hi : Nat} {v : V} (hi1 : i < 1000) (h1 : lo ≤ (xs i).toNat) (h2 : (xs i).toNat ≤ hi) (e : mkAff a d b i lo hi = some v) :
    aff a d b (xs i).toNat < 4611686018427387904 ∧ ∀ ι, VR (sigma xs D) ι v (.int .i64 (Int.ofNat (aff a d b (xs i).toNat))) := by
  have m1 := aff_mono (a := a) (d := d) (b := b) h1
  have m2 := aff_mono (a := a) (d := d) (b := b) h2
  unfold mkAff at e
  split at e
  · rename_i hb
    rw [ltb_iff] at hb
    have hb : aff a d b hi < 4611686018427387904 := hb
    refine ⟨by omega, fun ι => ?_⟩
    split at e
    · rename_i he
      rw [Nat.beq_eq] at he
      have he : aff a d b lo = aff a d b hi := he
      cases e
      show Value.int _ _ = Value.int _ _
      rw [show aff a d b (xs i).toNat = aff a d b lo by omega]; rfl
    · split at e
      · rename_i hc
        rw [Bool.and_eq_true, ltb_iff, ltb_iff] at hc
        cases e
        show Value.int _ _ = Value.int _ (sigma xs D _)
        rw [sigma_aff xs D hc.1 hc.2 hi1]
      · cases e
  · cases e
theorem wrapK_nat {n : Nat} (h : n < 9223372036854775808) (c : Int → R) : wrapK .i64 (Int.ofNat n) c = c (Int.ofNat n) := by
  show (Bool.rec (motive := fun _ => R) (c (IntKind.wrap .i64 (.ofNat n))) (c (.ofNat n)) (Nat.ble n 9223372036854775807) : R) = _
  rw [show Nat.ble n 9223372036854775807 = true by rw [Nat.ble_eq]; omega]
theorem binAN_spec {xs : Nat → Int} {D : List (Bool × Int)} {P : Program} {op : BinOp} {a d b i lo hi m : Nat} {v : V} (hi1 : i < 1000) (h1 : lo ≤ (xs i).toNat) (h2 : (xs i).toNat ≤ hi) (e : binAN op a d b i lo hi m = some v) (t : TypeId) (w : World) :
    ∃ x, (binOp op t (.int .i64 (Int.ofNat (aff a d b (xs i).toNat))) (.int .i64 (Int.ofNat m))).run P w = .ok x w ∧ ∀ ι, VR (sigma xs D) ι v x := by
  have cmp : (match cmpD op ⟨.ofNat (affN a d b lo), .ofNat (affN a d b hi), [], []⟩ (.ofNat m) with | some r => some (V.bool r) | none => none) = some v →
      ∃ x, (binOp op t (.int .i64 (Int.ofNat (aff a d b (xs i).toNat))) (.int .i64 (Int.ofNat m))).run P w = .ok x w ∧ ∀ ι, VR (sigma xs D) ι v x := fun e => by
    split at e
    · rename_i r hr
      cases e
      have m1 := aff_mono (a := a) (d := d) (b := b) h1
      have m2 := aff_mono (a := a) (d := d) (b := b) h2
      obtain ⟨g1, g2⟩ := cmpD_spec (n := Int.ofNat (aff a d b (xs i).toNat)) ⟨by show Int.ofNat (aff a d b lo) ≤ _; simp only [Int.ofNat_eq_natCast]; omega, by show _ ≤ Int.ofNat (aff a d b hi); simp only [Int.ofNat_eq_natCast]; omega, by simp, by simp⟩ hr
      exact ⟨_, run_cmp g1 t w, fun _ => by rw [g2]; rfl⟩
    · cases e
  cases op
  case mul =>
    have e : mkAff (a * m) d (b * m) i lo hi = some v := e
    obtain ⟨g1, g2⟩ := mkAff_vr (D := D) hi1 h1 h2 e
    obtain ⟨x, r1, r2⟩ := bin_of (P := P) (σ := sigma xs D) (op := .mul) (j := .i64) (k := .i64) (a := Int.ofNat (aff a d b (xs i).toNat)) (b := Int.ofNat m) (v := .int .i64 (Int.ofNat (aff (a * m) d (b * m) (xs i).toNat))) (fun c => by
      show wrapK .i64 (Int.ofNat (aff a d b (xs i).toNat * m)) (fun n => c (.int .i64 n)) = _
      rw [aff_mul, wrapK_nat (by omega)]) t w
    exact ⟨x, r1, vr_eq (int_of r2) g2⟩
  case add =>
    have e : mkAff a d (b + m) i lo hi = some v := e
    obtain ⟨g1, g2⟩ := mkAff_vr (D := D) hi1 h1 h2 e
    obtain ⟨x, r1, r2⟩ := bin_of (P := P) (σ := sigma xs D) (op := .add) (j := .i64) (k := .i64) (a := Int.ofNat (aff a d b (xs i).toNat)) (b := Int.ofNat m) (v := .int .i64 (Int.ofNat (aff a d (b + m) (xs i).toNat))) (fun c => by
      show wrapK .i64 (Int.ofNat (aff a d b (xs i).toNat + m)) (fun n => c (.int .i64 n)) = _
      rw [aff_add, wrapK_nat (by omega)]) t w
    exact ⟨x, r1, vr_eq (int_of r2) g2⟩
  case quo =>
    have go : 0 < m → ∀ a' d' b', aff a d b (xs i).toNat / m = aff a' d' b' (xs i).toNat → mkAff a' d' b' i lo hi = some v →
        ∃ x, (binOp .quo t (.int .i64 (Int.ofNat (aff a d b (xs i).toNat))) (.int .i64 (Int.ofNat m))).run P w = .ok x w ∧ ∀ ι, VR (sigma xs D) ι v x := fun h0 a' d' b' he e => by
      obtain ⟨g1, g2⟩ := mkAff_vr (D := D) hi1 h1 h2 e
      obtain ⟨x, r1, r2⟩ := bin_of (P := P) (σ := sigma xs D) (op := .quo) (j := .i64) (k := .i64) (a := Int.ofNat (aff a d b (xs i).toNat)) (b := Int.ofNat m) (v := .int .i64 (Int.ofNat (aff a' d' b' (xs i).toNat))) (fun c => by
        show ifK (bnot (ieq (Int.ofNat m) 0)) (wrapK .i64 (Int.ofNat (aff a d b (xs i).toNat / m)) (fun n => c (.int .i64 n))) = _
        rw [ieq_eq, show (Int.ofNat m == 0) = false by rw [beq_eq_false_iff_ne]; simp only [Int.ofNat_eq_natCast]; omega, he, wrapK_nat (by omega)]; rfl) t w
      exact ⟨x, r1, vr_eq (int_of r2) g2⟩
    unfold binAN at e
    simp only at e
    split at e
    · rename_i h0
      rw [ltb_iff] at h0
      split at e
      · rename_i hc
        rw [Bool.and_eq_true, Nat.beq_eq, Nat.beq_eq] at hc
        obtain ⟨rfl, rfl⟩ := hc
        exact go h0 _ _ _ (aff_div1 _ _ _) e
      · split at e
        · rename_i hc
          rw [Bool.and_eq_true, Nat.beq_eq, Nat.beq_eq] at hc
          exact go h0 _ _ _ (aff_div h0 hc.1 hc.2) e
        · cases e
    · cases e
  case rem =>
    unfold binAN at e
    simp only at e
    split at e
    · rename_i hc
      rw [Bool.and_eq_true, ltb_iff, Nat.beq_eq] at hc
      cases e
      obtain ⟨x, r1, r2⟩ := bin_of (P := P) (σ := sigma xs D) (op := .rem) (j := .i64) (k := .i64) (a := Int.ofNat (aff a d b (xs i).toNat)) (b := Int.ofNat m) (v := .int .i64 (Int.ofNat (b % m))) (fun c => by
        show ifK (bnot (ieq (Int.ofNat m) 0)) (c (.int .i64 (Int.ofNat (aff a d b (xs i).toNat % m)))) = _
        rw [ieq_eq, show (Int.ofNat m == 0) = false by rw [beq_eq_false_iff_ne]; simp only [Int.ofNat_eq_natCast]; omega, aff_mod hc.2]; rfl) t w
      exact ⟨x, r1, r2⟩
    · cases e
  all_goals first | exact cmp e | (cases e; done)
theorem binA_spec {xs : Nat → Int} {D : List (Bool × Int)} {B : List Dm} {P : Program} (h : Lies xs B) {op : BinOp} {x y v : V} (e : binA B op x y = some v) (ι : Inj) (a b : Value) (ha : VR (sigma xs D) ι x a) (hb : VR (sigma xs D) ι y b) :
    ∃ (k k' : IntKind) (n m : Int), a = .int k n ∧ b = .int k' m ∧ ∀ (t : TypeId) (w : World), ∃ c, (binOp op t a b).run P w = .ok c w ∧ ∀ ι, VR (sigma xs D) ι v c := by
  cases x with
  | sym j n =>
    replace ha : a = .int j (sigma xs D n) := ha
    cases y with
    | int k c =>
      replace hb : b = .int k c := hb
      replace e : (if kbeq j .i64 && kbeq k .i64 then (match c with
        | .ofNat m => affOf B n fun a d b i lo hi => binAN op a d b i lo hi m
        | .negSucc _ => none) else none) = some v := e
      split at e
      · rename_i hj
        rw [Bool.and_eq_true, kbeq_iff, kbeq_iff] at hj
        obtain ⟨rfl, rfl⟩ := hj
        cases c with
        | negSucc m => cases e
        | ofNat m =>
          obtain ⟨a0, d0, b0, i, lo, hi, e, hi1, h1, h2, _, hsig⟩ := affOf_some D h e
          refine ⟨_, _, _, _, ha, hb, fun t w => ?_⟩
          subst ha hb
          rw [hsig]
          exact binAN_spec hi1 h1 h2 e t w
      · cases e
    | _ => cases e
  | _ => cases e

theorem syOkB {xs : Nat → Int} {D : List (Bool × Int)} {B : List Dm} {P : Program} (h : Lies xs B) (hE : EOk xs D) : SyOk (sigma xs D) P ⟨binB B D, convB B⟩ where
  bin := by
    intro op x y v hv ι a b ha hb
    replace hv : binB B D op x y = some v := hv
    cases x with
    | sym j i =>
      replace ha : a = .int j (sigma xs D i) := ha
      cases y with
      | int k c =>
        replace hb : b = .int k c := hb
        refine ⟨j, k, _, c, ha, hb, fun t w => ?_⟩
        subst ha hb
        have cmp : (if kbeq j k then cmpS B op i c else none) = some v → ∃ x, (binOp op t (.int j (sigma xs D i)) (.int k c)).run P w = .ok x w ∧ ∀ ι, VR (sigma xs D) ι v x := fun hq => by
          clear hv
          split at hq
          · rename_i hk
            rw [kbeq_iff] at hk; subst hk
            obtain ⟨h1, rfl⟩ := cmpS_spec (D := D) h hq
            exact ⟨_, run_cmp h1 t w, fun _ => rfl⟩
          · cases hq
        cases op <;> first
          | exact drv_spec (q := false) hv ι t w
          | exact remS_spec h hE hv ι t w
          | exact cmp hv
      | sym k l =>
        replace hv : (if kbeq j k && Nat.beq i l then symS op else none) = some v := hv
        split at hv
        · rename_i hk
          rw [Bool.and_eq_true, kbeq_iff, Nat.beq_eq] at hk
          obtain ⟨rfl, rfl⟩ := hk
          replace hb : b = .int j (sigma xs D i) := hb
          refine ⟨j, j, _, _, ha, hb, fun t w => ?_⟩
          subst ha hb
          cases op <;> first
            | cases hv; done
            | (cases hv; exact ⟨_, run_cmp rfl t w, fun _ => by simp [cmpZ]; rfl⟩)
        · cases hv
      | _ => cases hv
    | int k c =>
      replace ha : a = .int k c := ha
      cases y with
      | sym j i =>
        replace hb : b = .int j (sigma xs D i) := hb
        replace hv : (if kbeq j k then cmpS B (flipOp op) i c else none) = some v := hv
        refine ⟨k, j, c, _, ha, hb, fun t w => ?_⟩
        subst ha hb
        split at hv
        · rename_i hk
          rw [kbeq_iff] at hk; subst hk
          obtain ⟨h1, rfl⟩ := cmpS_spec (D := D) h hv
          have h2 := isCmp_flip h1
          refine ⟨_, run_cmp h2 t w, fun _ => ?_⟩
          rw [(flip_spec h2).2]; rfl
        · cases hv
      | _ => cases hv
    | _ => cases hv
  conv := by
    intro k x v hv ι a ha
    replace hv : convB B k x = some v := hv
    cases x with
    | sym j i =>
      replace hv : (if isI64 k && ltb i 1000 then (match dget B i with
        | some d => if !ilt d.lo (-9223372036854775808) && ilt d.hi 9223372036854775808 then some (V.sym .i64 i) else none
        | none => none) else none) = some v := hv
      split at hv
      · rename_i hc
        rw [Bool.and_eq_true, isI64, kbeq_iff, ltb_iff] at hc
        obtain ⟨rfl, hi⟩ := hc
        cases hd : dget B i with
        | none => rw [hd] at hv; cases hv
        | some d =>
          rw [hd] at hv
          simp only at hv
          split at hv
          · rename_i hc
            rw [Bool.and_eq_true, Bool.not_eq_true', ilt_eq, ilt_eq, decide_eq_false_iff_not, decide_eq_true_eq] at hc
            cases hv
            rw [dget_eq] at hd
            obtain ⟨h1, h2, _⟩ := h i d hd
            refine ⟨j, sigma xs D i, ha, fun ι => ?_⟩
            rw [wrap_i64 (by rw [sigma_low xs D hi]; omega) (by rw [sigma_low xs D hi]; omega)]
            rfl
          · cases hv
      · cases hv
    | _ => cases hv

theorem syOk {xs : Nat → Int} {D : List (Bool × Int)} {B : List Dm} {P : Program} (h : Lies xs B) (hE : EOk xs D) : SyOk (sigma xs D) P (SyB B D) where
  bin := by
    intro op x y v hv ι a b ha hb
    replace hv : (match binB B D op x y with | some v => some v | none => match binL B op x y with | some v => some v | none => binA B op x y) = some v := hv
    cases hq : binB B D op x y with
    | some v' => rw [hq] at hv; cases hv; exact (syOkB h hE).bin op x y v hq ι a b ha hb
    | none =>
      rw [hq] at hv
      replace hv : (match binL B op x y with | some v => some v | none => binA B op x y) = some v := hv
      cases hq2 : binL B op x y with
      | some v' => rw [hq2] at hv; cases hv; exact binL_spec h hq2 ι a b ha hb
      | none => rw [hq2] at hv; exact binA_spec h hv ι a b ha hb
  conv := by
    intro k x v hv ι a ha
    replace hv : (match convB B k x with | some v => some v | none => convL B k x) = some v := hv
    cases hq : convB B k x with
    | some v' => rw [hq] at hv; cases hv; exact (syOkB (P := P) h hE).conv k x v hq ι a ha
    | none => rw [hq] at hv; exact convL_spec h hv ι a ha
end Go.Ab

/- A law over plain data: cases by a tree, each run by the kernel. -/
namespace Go.Ab

noncomputable def cellV (k : Option IntKind) (i : Nat) (d : Dm) : V := match k with
  | some k => if ieq d.lo d.hi then .int k d.lo else .sym k i
  | none => .bool (ieq d.lo 1)
noncomputable def cellsV : List (Option IntKind) → Nat → List Dm → List V
  | k :: ks, i, d :: ds => cellV k i d :: cellsV ks (i + 1) ds
  | _, _, _ => []
/-- are the bools told? -/
noncomputable def detV : List (Option IntKind) → List Dm → Bool
  | some _ :: ks, _ :: ds => detV ks ds
  | none :: ks, d :: ds => ieq d.lo d.hi && detV ks ds
  | [], _ => true
  | _ :: _, [] => false

def cellN : Value → Int
  | .int _ n => n
  | .bool true => 1
  | .bool false => 0
  | _ => 0

theorem cell_rel {xs : Nat → Int} {D : List (Bool × Int)} {ι : Inj} {k : Option IntKind} {i : Nat} {d : Dm} {c : Value} (hi : i < 1000) (hc : okCell k c) (hx : xs i = cellN c) (hd : d.has (xs i)) (hb : k = none → d.lo = d.hi) : VR (sigma xs D) ι (cellV k i d) c := by
  obtain ⟨h1, h2, _, _⟩ := hd
  cases k with
  | some k =>
    obtain ⟨n, rfl, _⟩ := hc
    have hx : xs i = n := hx
    unfold cellV
    simp only
    split
    · rename_i he
      rw [ieq_eq] at he
      simp at he
      show Value.int k n = .int k d.lo
      rw [show n = d.lo by omega]
    · show Value.int k n = .int k (sigma xs D i)
      rw [sigma_low xs D hi, hx]
  | none =>
    obtain ⟨b, rfl⟩ := hc
    have he := hb rfl
    show Value.bool b = .bool (ieq d.lo 1)
    rw [ieq_eq]
    cases b with
    | true => have hx : xs i = 1 := hx; have : d.lo = 1 := by omega
              rw [this]; rfl
    | false => have hx : xs i = 0 := hx; have : d.lo = 0 := by omega
               rw [this]; rfl

theorem cells_rel {xs : Nat → Int} {D : List (Bool × Int)} {ι : Inj} : ∀ {ks : List (Option IntKind)} {cs : List Value} {i : Nat} {ds : List Dm}, Cl ks cs → detV ks ds = true → i + ks.length ≤ 1000 → (∀ (j : Nat) (c : Value), cs[j]? = some c → xs (i + j) = cellN c) →
    (∀ (j : Nat) (d : Dm), ds[j]? = some d → d.has (xs (i + j))) → VRL (sigma xs D) ι (cellsV ks i ds) cs
  | [], cs, i, ds, hc, _, _, _, _ => by rw [show cs = [] from hc]; cases ds <;> exact rfl
  | k :: ks, cs, i, [], hc, hdet, _, _, _ => by cases k <;> cases hdet
  | k :: ks, cs, i, d :: ds, hc, hdet, hi, hx, hd => by
    obtain ⟨c, cs', rfl, h1, h2⟩ := hc
    simp only [List.length_cons] at hi
    refine ⟨c, cs', rfl, cell_rel (by omega) h1 (by simpa using hx 0 c (by simp)) (by simpa using hd 0 d (by simp)) (fun hk => ?_), cells_rel h2 ?_ (by omega) (fun j c hj => ?_) (fun j d hj => ?_)⟩
    · subst hk
      have : (ieq d.lo d.hi && detV ks ds) = true := hdet
      rw [Bool.and_eq_true, ieq_eq] at this
      simpa using this.1
    · cases k with
      | some k => exact hdet
      | none =>
        have : (ieq d.lo d.hi && detV ks ds) = true := hdet
        rw [Bool.and_eq_true] at this; exact this.2
    · have := hx (j + 1) c (by simpa using hj); rwa [show i + 1 + j = i + (j + 1) by omega]
    · have := hd (j + 1) d (by simpa using hj); rwa [show i + 1 + j = i + (j + 1) by omega]

theorem cellsV_one {xs : Nat → Int} {D : List (Bool × Int)} : ∀ {ks : List (Option IntKind)} {i : Nat} {ds : List Dm}, ∀ v ∈ cellsV ks i ds, v.one = true
  | [], i, ds, v, h => by cases ds <;> cases h
  | k :: ks, i, [], v, h => by cases h
  | k :: ks, i, d :: ds, v, h => by
    rcases List.mem_cons.1 h with rfl | h
    · unfold cellV; cases k with
      | none => rfl
      | some k => simp only; split <;> rfl
    · exact cellsV_one (xs := xs) (D := D) v h

/-- the arguments' shapes: a struct's or an array's cells, or one cell -/
abbrev Sh := List (Bool × List (Option IntKind))
noncomputable def mkArgs : Sh → Nat → List Dm → List V
  | [], _, _ => []
  | (ag, ks) :: sh, i, ds => (Bool.rec (motive := fun _ => V) (match cellsV ks i ds with | v :: _ => v | [] => .tup []) (.agg (cellsV ks i ds)) ag) :: mkArgs sh (i + ks.length) (ds.drop ks.length)
noncomputable def detA : Sh → List Dm → Bool
  | [], _ => true
  | (_, ks) :: sh, ds => detV ks ds && detA sh (ds.drop ks.length)
def ArgOk : Bool × List (Option IntKind) → Value → Prop
  | (true, ks), v => ∃ cs : Array Value, v = .agg cs ∧ Cl ks cs.toList
  | (false, ks), v => Cl ks [v]
def ArgsOk : Sh → List Value → Prop
  | [], vs => vs = []
  | a :: sh, vs => ∃ v vs', vs = v :: vs' ∧ ArgOk a v ∧ ArgsOk sh vs'
def argCells : Bool × List (Option IntKind) → Value → List Value
  | (true, _), .agg cs => cs.toList
  | (_, _), v => [v]
def allCells : Sh → List Value → List Value
  | a :: sh, v :: vs => argCells a v ++ allCells sh vs
  | _, _ => []
def total (sh : Sh) : Nat := (sh.map fun a => a.2.length).sum

theorem argCells_cl {a : Bool × List (Option IntKind)} {v : Value} (h : ArgOk a v) : Cl a.2 (argCells a v) := by
  obtain ⟨ag, ks⟩ := a
  cases ag with
  | true => obtain ⟨cs, rfl, h⟩ := h; exact h
  | false => cases v <;> exact h
theorem allCells_cl : ∀ {sh : Sh} {vs : List Value}, ArgsOk sh vs → Cl (sh.flatMap (·.2)) (allCells sh vs)
  | [], vs, h => by rw [show vs = [] from h]; rfl
  | a :: sh, vs, ⟨v, vs', e, h1, h2⟩ => by
    subst e
    show Cl (a.2 ++ sh.flatMap (·.2)) (argCells a v ++ allCells sh vs')
    exact (argCells_cl h1).append (allCells_cl h2)

theorem args_rel {xs : Nat → Int} {D : List (Bool × Int)} {ι : Inj} : ∀ {sh : Sh} {vs : List Value} {i : Nat} {ds : List Dm}, ArgsOk sh vs → detA sh ds = true → i + total sh ≤ 1000 → (∀ (j : Nat) (c : Value), (allCells sh vs)[j]? = some c → xs (i + j) = cellN c) →
    (∀ (j : Nat) (d : Dm), ds[j]? = some d → d.has (xs (i + j))) → VRL (sigma xs D) ι (mkArgs sh i ds) vs
  | [], vs, i, ds, h, _, _, _, _ => by rw [show vs = [] from h]; exact rfl
  | (ag, ks) :: sh, vs, i, ds, h, hdet, hi, hx, hd => by
    obtain ⟨v, vs', rfl, h1, h2⟩ := h
    have hdet : (detV ks ds && detA sh (ds.drop ks.length)) = true := hdet
    rw [Bool.and_eq_true] at hdet
    have hi : i + (ks.length + total sh) ≤ 1000 := hi
    have hlen : (argCells (ag, ks) v).length = ks.length := (argCells_cl h1).length
    have hall : allCells ((ag, ks) :: sh) (v :: vs') = argCells (ag, ks) v ++ allCells sh vs' := rfl
    have hc := cells_rel (D := D) (ι := ι) (i := i) (argCells_cl h1) hdet.1 (by show i + ks.length ≤ 1000; omega) (fun j c hj => hx j c (by
      have := (List.getElem?_eq_some_iff.1 hj).1
      rw [hall, List.getElem?_append_left this]; exact hj)) hd
    refine ⟨v, vs', rfl, ?_, args_rel h2 hdet.2 (by omega) (fun j c hj => ?_) (fun j d hj => ?_)⟩
    · cases ag with
      | true =>
        obtain ⟨cs, rfl, _⟩ := h1
        exact VR.agg.2 ⟨cs, rfl, hc, cellsV_one (xs := xs) (D := D)⟩
      | false =>
        have hc : VRL (sigma xs D) ι (cellsV ks i ds) [v] := by cases v <;> exact hc
        show VR _ _ (match cellsV ks i ds with | v :: _ => v | [] => .tup []) v
        cases hcv : cellsV ks i ds with
        | nil => rw [hcv] at hc; cases (VRL.nil.1 hc)
        | cons u us => rw [hcv] at hc; obtain ⟨w, ws, e, h3, _⟩ := hc; cases e; exact h3
    · have := hx (ks.length + j) c (by rw [hall, List.getElem?_append_right (by omega), hlen, Nat.add_sub_cancel_left]; exact hj)
      rwa [show i + ks.length + j = i + (ks.length + j) by omega]
    · have := hd (ks.length + j) d (by rw [List.getElem?_drop] at hj; exact hj)
      rwa [show i + ks.length + j = i + (ks.length + j) by omega]

/-! ### cases -/
inductive Tree where
  | run
  | eq (i : Nat) (c : Int) (a b : Tree)
  | lt (i : Nat) (c : Int) (a b : Tree)
  | md (i c : Nat) (f : Nat → Tree)
noncomputable def dset (i : Nat) (f : Dm → Dm) (l : List Dm) : List Dm := match i, l with
  | 0, d :: ds => f d :: ds
  | i + 1, d :: ds => d :: dset i f ds
  | _, [] => []
noncomputable def eqD (i : Nat) (c : Int) (l : List Dm) : List Dm := dset i (fun _ => ⟨c, c, [], []⟩) l
noncomputable def neD (i : Nat) (c : Int) (l : List Dm) : List Dm := dset i (fun d => ⟨d.lo, d.hi, c :: d.ne, d.md⟩) l
noncomputable def hiD (i : Nat) (c : Int) (l : List Dm) : List Dm := dset i (fun d => ⟨d.lo, if ilt (c - 1) d.hi then c - 1 else d.hi, d.ne, d.md⟩) l
noncomputable def loD (i : Nat) (c : Int) (l : List Dm) : List Dm := dset i (fun d => ⟨if ilt d.lo c then c else d.lo, d.hi, d.ne, d.md⟩) l
noncomputable def mdD (i c r : Nat) (l : List Dm) : List Dm := dset i (fun d => ⟨d.lo, d.hi, d.ne, (Int.ofNat c, Int.ofNat r) :: d.md⟩) l
noncomputable def nnD (i : Nat) (l : List Dm) : Bool := match dget l i with | some d => !ilt d.lo 0 | none => false
noncomputable def allN (f : Nat → Bool) (n : Nat) : Bool := Nat.rec (motive := fun _ => Bool) true (fun r ih => f r && ih) n
theorem allN_iff {f : Nat → Bool} {n : Nat} : allN f n = true ↔ ∀ r, r < n → f r = true := by
  induction n with
  | zero => exact ⟨fun _ r h => absurd h (by omega), fun _ => rfl⟩
  | succ n ih =>
    show (f n && allN f n) = true ↔ _
    rw [Bool.and_eq_true, ih]
    exact ⟨fun h r hr => by
      by_cases e : r = n
      · rw [e]; exact h.1
      · exact h.2 r (by omega), fun h => ⟨h n (by omega), fun r hr => h r (by omega)⟩⟩
noncomputable def evalT (chk : List Dm → Bool) : Tree → List Dm → Bool
  | .run, ds => chk ds
  | .eq i c a b, ds => evalT chk a (eqD i c ds) && evalT chk b (neD i c ds)
  | .lt i c a b, ds => evalT chk a (hiD i c ds) && evalT chk b (loD i c ds)
  | .md i c f, ds => nnD i ds && ltb 0 c && allN (fun r => evalT chk (f r) (mdD i c r ds)) c

theorem dset_lies {xs : Nat → Int} {f : Dm → Dm} : ∀ {ds : List Dm} {i : Nat} {k : Nat}, (∀ (j : Nat) (d : Dm), ds[j]? = some d → d.has (xs (k + j))) → (∀ d : Dm, d.has (xs (k + i)) → (f d).has (xs (k + i))) → ∀ (j : Nat) (d : Dm), (dset i f ds)[j]? = some d → d.has (xs (k + j))
  | [], i, k, _, _, j, d, e => by cases i <;> simp [dset] at e
  | x :: ds, 0, k, h, hf, j, d, e => by
    cases j with
    | zero => simp [dset] at e; subst e; exact hf x (h 0 x (by simp))
    | succ j => simp [dset] at e; exact h (j + 1) d (by simpa using e)
  | x :: ds, i + 1, k, h, hf, j, d, e => by
    cases j with
    | zero => simp [dset] at e; subst e; exact h 0 x (by simp)
    | succ j =>
      simp [dset] at e
      have := dset_lies (ds := ds) (i := i) (k := k + 1) (fun j d hj => by have := h (j + 1) d (by simpa using hj); rwa [show k + 1 + j = k + (j + 1) by omega]) (fun d hd => by
        rw [show k + 1 + i = k + (i + 1) by omega] at hd ⊢; exact hf d hd) j d e
      rwa [show k + (j + 1) = k + 1 + j by omega]

theorem evalT_eq {chk : List Dm → Bool} {i : Nat} {c : Int} {a b : Tree} {ds : List Dm} (h1 : evalT chk a (eqD i c ds) = true) (h2 : evalT chk b (neD i c ds) = true) : evalT chk (.eq i c a b) ds = true := by
  unfold evalT; rw [Bool.and_eq_true]; exact ⟨h1, h2⟩
theorem evalT_lt {chk : List Dm → Bool} {i : Nat} {c : Int} {a b : Tree} {ds : List Dm} (h1 : evalT chk a (hiD i c ds) = true) (h2 : evalT chk b (loD i c ds) = true) : evalT chk (.lt i c a b) ds = true := by
  unfold evalT; rw [Bool.and_eq_true]; exact ⟨h1, h2⟩
theorem evalT_md {chk : List Dm → Bool} {i c : Nat} {f : Nat → Tree} {ds : List Dm} (h0 : (nnD i ds && ltb 0 c) = true) (h : ∀ r, r < c → evalT chk (f r) (mdD i c r ds) = true) : evalT chk (.md i c f) ds = true := by
  unfold evalT; rw [Bool.and_eq_true]; exact ⟨h0, allN_iff.2 h⟩
theorem evalT_lies {xs : Nat → Int} {chk : List Dm → Bool} : ∀ (t : Tree) (ds : List Dm), evalT chk t ds = true → Lies xs ds → ∃ ds', chk ds' = true ∧ Lies xs ds'
  | .run, ds, h, hl => ⟨ds, h, hl⟩
  | .eq i c a b, ds, h, hl => by
    unfold evalT at h
    rw [Bool.and_eq_true] at h
    by_cases e : xs i = c
    · refine evalT_lies a _ h.1 fun j d hj => ?_
      have := dset_lies (xs := xs) (k := 0) (i := i) (f := fun _ => ⟨c, c, [], []⟩) (by simpa [Lies] using hl) (fun d _ => ⟨by simp [e], by simp [e], by simp, by simp⟩) j d hj
      simpa using this
    · refine evalT_lies b _ h.2 fun j d hj => ?_
      have := dset_lies (xs := xs) (k := 0) (i := i) (f := fun d => ⟨d.lo, d.hi, c :: d.ne, d.md⟩) (by simpa [Lies] using hl) (fun d hd => ⟨hd.1, hd.2.1, fun x hx => by
        rcases List.mem_cons.1 hx with rfl | hx
        · simpa using e
        · exact hd.2.2.1 x hx, hd.2.2.2⟩) j d hj
      simpa using this
  | .lt i c a b, ds, h, hl => by
    unfold evalT at h
    rw [Bool.and_eq_true] at h
    by_cases e : xs i < c
    · refine evalT_lies a _ h.1 fun j d hj => ?_
      have := dset_lies (xs := xs) (k := 0) (i := i) (f := fun d => ⟨d.lo, if ilt (c - 1) d.hi then c - 1 else d.hi, d.ne, d.md⟩) (by simpa [Lies] using hl) (fun d hd => ⟨hd.1, by
        have := hd.2.1
        simp only [Nat.zero_add] at this ⊢
        split <;> omega, hd.2.2⟩) j d hj
      simpa using this
    · refine evalT_lies b _ h.2 fun j d hj => ?_
      have := dset_lies (xs := xs) (k := 0) (i := i) (f := fun d => ⟨if ilt d.lo c then c else d.lo, d.hi, d.ne, d.md⟩) (by simpa [Lies] using hl) (fun d hd => ⟨by
        have := hd.1
        simp only [Nat.zero_add] at this ⊢
        split <;> omega, hd.2.1, hd.2.2⟩) j d hj
      simpa using this
  | .md i c f, ds, h, hl => by
    unfold evalT at h
    rw [Bool.and_eq_true, Bool.and_eq_true] at h
    obtain ⟨⟨h0, hc⟩, h⟩ := h
    rw [ltb_iff] at hc
    unfold nnD at h0
    cases hd : dget ds i with
    | none => rw [hd] at h0; cases h0
    | some d =>
      rw [hd] at h0
      rw [dget_eq] at hd
      have hlo := (hl i d hd).1
      simp only [ilt_eq, Bool.not_eq_true', decide_eq_false_iff_not] at h0
      have hr : 0 ≤ (xs i).tmod c := Int.tmod_nonneg _ (by omega)
      have hr2 : (xs i).tmod c < c := Int.tmod_lt_of_pos _ (by omega)
      refine evalT_lies (f ((xs i).tmod c).toNat) _ (allN_iff.1 h _ (by omega)) fun j d hj => ?_
      have := dset_lies (xs := xs) (k := 0) (i := i) (f := fun d => ⟨d.lo, d.hi, d.ne, (Int.ofNat c, Int.ofNat ((xs i).tmod c).toNat) :: d.md⟩) (by simpa [Lies] using hl) (fun d hd => ⟨hd.1, hd.2.1, hd.2.2.1, fun p hp => by
        rcases List.mem_cons.1 hp with rfl | hp
        · simp only [Nat.zero_add, Int.ofNat_eq_natCast]; omega
        · exact hd.2.2.2 p hp⟩) j d hj
      simpa using this

/-- where the cells of a kind lie -/
def dom0 : Option IntKind → Dm
  | none => ⟨0, 1, [], []⟩
  | some .i8 => ⟨-128, 127, [], []⟩
  | some .i16 => ⟨-32768, 32767, [], []⟩
  | some .i32 => ⟨-2147483648, 2147483647, [], []⟩
  | some .i64 => ⟨-9223372036854775808, 9223372036854775807, [], []⟩
  | some .u8 => ⟨0, 255, [], []⟩
  | some .u16 => ⟨0, 65535, [], []⟩
  | some .u32 => ⟨0, 4294967295, [], []⟩
  | some .u64 => ⟨0, 18446744073709551615, [], []⟩
theorem dom0_has {k : Option IntKind} {c : Value} (h : okCell k c) : (dom0 k).has (cellN c) := by
  cases k with
  | none => obtain ⟨b, rfl⟩ := h; cases b <;> exact ⟨by decide, by decide, by simp [dom0], by simp [dom0]⟩
  | some k =>
    obtain ⟨n, rfl, hw⟩ := h
    show (dom0 (some k)).has n
    cases k
    · have := bounds_i8 hw; exact ⟨this.1, this.2, by simp [dom0], by simp [dom0]⟩
    · have := bounds_i16 hw; exact ⟨this.1, this.2, by simp [dom0], by simp [dom0]⟩
    · have := bounds_i32 hw; exact ⟨this.1, this.2, by simp [dom0], by simp [dom0]⟩
    · have := bounds_i64 hw; exact ⟨this.1, this.2, by simp [dom0], by simp [dom0]⟩
    · have := bounds_u8 hw; exact ⟨this.1, this.2, by simp [dom0], by simp [dom0]⟩
    · have := bounds_u16 hw; exact ⟨this.1, this.2, by simp [dom0], by simp [dom0]⟩
    · have := bounds_u32 hw; exact ⟨this.1, this.2, by simp [dom0], by simp [dom0]⟩
    · have := bounds_u64 hw; exact ⟨this.1, this.2, by simp [dom0], by simp [dom0]⟩
theorem dom0_lies : ∀ {ks : List (Option IntKind)} {cs : List Value} (j : Nat) (d : Dm), Cl ks cs → (ks.map dom0)[j]? = some d → ∃ c, cs[j]? = some c ∧ d.has (cellN c)
  | [], cs, j, d, _, e => by simp at e
  | k :: ks, cs, j, d, ⟨c, cs', e0, h1, h2⟩, e => by
    subst e0
    cases j with
    | zero => simp at e; subst e; exact ⟨c, by simp, dom0_has h1⟩
    | succ j => simpa using dom0_lies j d h2 (by simpa using e)

noncomputable def isTrue (r : R) : Bool := match r with | some (.bool true, _) => true | _ => false
noncomputable def h0 : H := .mk (.s .k0 .k0 .k0) .nil

/-- one leaf -/
noncomputable def leaf (orc : Orc) (tab : Tr IFn) (n f : Nat) (sh : Sh) (D : List (Bool × Int)) (ds : List Dm) : Bool :=
  detA sh ds && isTrue ((env (SyB ds D) orc tab n).callV (.fn f [] []) (mkArgs sh 0 ds) h0 fun v h => some (v, h))

theorem rel_none {cx : Cx} {σ : Nat → Int} {w : World} (h : H) : Rel cx σ (fun _ => none) h w := ⟨fun _ _ h => (by cases h), fun _ _ _ _ h => (by cases h), fun _ _ _ h => (by cases h)⟩

theorem law_core {P : Program} {cx : Cx} {orc : Orc} {tab : Tr IFn} (hy : Hyp P cx) (hm : P.follows .mixedOrders = true) (hon : OrcNat orc) (hoo : ∀ σ, OrcOk P cx σ orc) (htab : TabOk P cx tab) (n f : Nat) (sh : Sh) (D : List (Bool × Int)) (hsz : total sh ≤ 1000)
    (t : Tree) {d0 : List Dm} (hrun : evalT (leaf orc tab n f sh D) t d0 = true) (vs : Array Value) (hvs : ArgsOk sh vs.toList) {xs : Nat → Int} (hxs : ∀ (j : Nat) (c : Value), (allCells sh vs.toList)[j]? = some c → xs j = cellN c) (hlies : Lies xs d0) (hE : EOk xs D) (w : World) :
    Calls P f vs w fun e w' => e = .returned (.bool true) ∧ w'.os = w.os ∧ w'.output = w.output ∧ w'.tape = w.tape ∧ ∀ (B : Nat) (o : Obj), w.heap[B]? = some o → w'.heap[B]? = some o := by
  obtain ⟨ds, hleaf, hl⟩ := evalT_lies t _ hrun hlies
  unfold leaf at hleaf
  rw [Bool.and_eq_true] at hleaf
  obtain ⟨hdet, htrue⟩ := hleaf
  cases hr : (env (SyB ds D) orc tab n).callV (.fn f [] []) (mkArgs sh 0 ds) h0 (fun v h => some (v, h)) with
  | none => rw [hr] at htrue; cases htrue
  | some vh =>
    obtain ⟨v, h'⟩ := vh
    rw [hr] at htrue
    have hv : v = .bool true := by
      cases v with
      | bool b => cases b; cases htrue; rfl
      | _ => cases htrue
    subst hv
    have := run_law (syOk (D := D) (P := P) hl hE) hy hm hon (hoo _) htab n hr (rel_none (w := w) h0) (args_rel (D := D) (i := 0) (ι := fun _ => none) hvs hdet (by simpa using hsz) (fun j c hj => by simpa using hxs j c hj) (fun j d hj => by simpa using hl j d hj))
    refine callsIn_wide.1 (CallsIn.mono this ?_)
    rintro e w' ⟨v', ι', rfl, hv', hr', he⟩
    refine ⟨by rw [VR.bool.1 hv'], he.os, he.out, he.tape, fun B o hB => he.keepW B o hB (fun _ _ h => by cases h)⟩

def noE (D : List (Bool × Int)) : Bool := D.all fun e => (isE e).isNone
theorem noE_ok {xs : Nat → Int} {D : List (Bool × Int)} (h : noE D = true) : EOk xs D := fun e he c i j hj => by
  have := List.all_eq_true.1 h e he
  rw [hj] at this; cases this
/-- A LAW: wherever the tree's leaves run through, the law returns true, and the memory has blocks more alone. -/
theorem law_true {P : Program} {cx : Cx} {orc : Orc} {tab : Tr IFn} (hy : Hyp P cx) (hm : P.follows .mixedOrders = true) (hon : OrcNat orc) (hoo : ∀ σ, OrcOk P cx σ orc) (htab : TabOk P cx tab) (n f : Nat) (sh : Sh) (D : List (Bool × Int)) (hsz : total sh ≤ 1000 ∧ noE D = true)
    (t : Tree) (hrun : evalT (leaf orc tab n f sh D) t ((sh.flatMap (·.2)).map dom0) = true) (vs : Array Value) (hvs : ArgsOk sh vs.toList) (w : World) :
    Calls P f vs w fun e w' => e = .returned (.bool true) ∧ w'.os = w.os ∧ w'.output = w.output ∧ w'.tape = w.tape ∧ ∀ (B : Nat) (o : Obj), w.heap[B]? = some o → w'.heap[B]? = some o := by
  have hxs : ∀ (j : Nat) (c : Value), (allCells sh vs.toList)[j]? = some c → (fun i => cellN ((allCells sh vs.toList).getD i undef)) j = cellN c := fun j c hj => by simp [hj]
  exact law_core hy hm hon hoo htab n f sh D hsz.1 t hrun vs hvs hxs (fun j d hj => by
    obtain ⟨c, h1, h2⟩ := dom0_lies j d (allCells_cl hvs) hj
    rw [hxs j c h1]; exact h2) (noE_ok hsz.2) w

/-- the symbols that are remainders of other ones -/
def exts (D : List (Bool × Int)) : List (Nat × Nat × Nat) := D.filterMap isE
def goodE (sh : Sh) (D : List (Bool × Int)) : Bool := (exts D).zipIdx.all fun p => p.1.2.2 == total sh + p.2 && decide (p.1.2.1 < total sh) && decide (0 < p.1.1) && decide (p.1.2.2 < 1000) &&
  (match ((sh.flatMap (·.2)).map dom0)[p.1.2.1]? with | some d => decide (0 ≤ d.lo) | none => false)
def domE (sh : Sh) (D : List (Bool × Int)) : List Dm := (sh.flatMap (·.2)).map dom0 ++ (exts D).map fun e => ⟨0, Int.ofNat (e.1 - 1), [], []⟩
theorem flat_total (sh : Sh) : (sh.flatMap (·.2)).length = total sh := by
  induction sh with
  | nil => rfl
  | cons a sh ih => show (a.2 ++ sh.flatMap (·.2)).length = a.2.length + total sh; rw [List.length_append, ih]
/-- the same, with symbols that are remainders of other ones -/
theorem law_trueE {P : Program} {cx : Cx} {orc : Orc} {tab : Tr IFn} (hy : Hyp P cx) (hm : P.follows .mixedOrders = true) (hon : OrcNat orc) (hoo : ∀ σ, OrcOk P cx σ orc) (htab : TabOk P cx tab) (n f : Nat) (sh : Sh) (D : List (Bool × Int)) (hsz : total sh ≤ 1000 ∧ goodE sh D = true)
    (t : Tree) (hrun : evalT (leaf orc tab n f sh D) t (domE sh D) = true) (vs : Array Value) (hvs : ArgsOk sh vs.toList) (w : World) :
    Calls P f vs w fun e w' => e = .returned (.bool true) ∧ w'.os = w.os ∧ w'.output = w.output ∧ w'.tape = w.tape ∧ ∀ (B : Nat) (o : Obj), w.heap[B]? = some o → w'.heap[B]? = some o := by
  let ys : Nat → Int := fun i => cellN ((allCells sh vs.toList).getD i undef)
  have hys : ∀ (j : Nat) (c : Value), (allCells sh vs.toList)[j]? = some c → ys j = cellN c := fun j c hj => by simp [ys, hj]
  have hlen : (allCells sh vs.toList).length = total sh := by rw [(allCells_cl hvs).length, flat_total]
  have hl0 : Lies ys ((sh.flatMap (·.2)).map dom0) := fun j d hj => by
    obtain ⟨c, h1, h2⟩ := dom0_lies j d (allCells_cl hvs) hj
    rw [hys j c h1]; exact h2
  have hgood : ∀ (q : Nat) (e : Nat × Nat × Nat), (exts D)[q]? = some e → e.2.2 = total sh + q ∧ e.2.1 < total sh ∧ 0 < e.1 ∧ e.2.2 < 1000 ∧ 0 ≤ ys e.2.1 := fun q e he => by
    have hm : (e, q) ∈ (exts D).zipIdx := by rw [List.mem_zipIdx_iff_getElem?]; exact he
    have := List.all_eq_true.1 hsz.2 _ hm
    simp only [Bool.and_eq_true, beq_iff_eq, decide_eq_true_eq] at this
    obtain ⟨⟨⟨⟨h1, h2⟩, h3⟩, h4⟩, h5⟩ := this
    refine ⟨h1, h2, h3, h4, ?_⟩
    split at h5
    · rename_i d hd
      have := (hl0 _ d hd).1
      simp only [decide_eq_true_eq] at h5
      omega
    · cases h5
  let xs : Nat → Int := fun i => if i < total sh then ys i else match (exts D)[i - total sh]? with | some e => (ys e.2.1).tmod e.1 | none => 0
  have hlow : ∀ i, i < total sh → xs i = ys i := fun i hi => by simp [xs, hi]
  have hup : ∀ q e, (exts D)[q]? = some e → xs (total sh + q) = (ys e.2.1).tmod e.1 := fun q e he => by
    simp only [xs]; rw [if_neg (by omega), Nat.add_sub_cancel_left, he]
  refine law_core hy hm hon hoo htab n f sh D hsz.1 t hrun vs hvs (xs := xs) (fun j c hj => ?_) (fun j d hj => ?_) (fun e he c i j hj => ?_) w
  · rw [hlow j (by have := (List.getElem?_eq_some_iff.1 hj).1; omega)]; exact hys j c hj
  · unfold domE at hj
    have hl1 : ((sh.flatMap (·.2)).map dom0).length = total sh := by rw [List.length_map, flat_total]
    by_cases hlt : j < total sh
    · rw [List.getElem?_append_left (by omega)] at hj
      rw [hlow j hlt]; exact hl0 j d hj
    · rw [List.getElem?_append_right (by omega), hl1, List.getElem?_map] at hj
      cases hq : (exts D)[j - total sh]? with
      | none => rw [hq] at hj; cases hj
      | some e =>
        rw [hq] at hj
        cases hj
        obtain ⟨h1, h2, h3, h4, h5⟩ := hgood _ _ hq
        have := hup _ _ hq
        rw [show total sh + (j - total sh) = j by omega] at this
        rw [this]
        have hr : 0 ≤ (ys e.2.1).tmod e.1 := Int.tmod_nonneg _ h5
        have hr2 : (ys e.2.1).tmod e.1 < e.1 := Int.tmod_lt_of_pos _ (by omega)
        exact ⟨hr, by show _ ≤ Int.ofNat (e.1 - 1); simp only [Int.ofNat_eq_natCast]; omega, by simp, by simp⟩
  · have hm : (c, i, j) ∈ exts D := List.mem_filterMap.2 ⟨e, he, hj⟩
    obtain ⟨q, hq⟩ := List.mem_iff_getElem?.1 hm
    obtain ⟨h1, h2, h3, h4, h5⟩ := hgood _ _ hq
    have h1 : j = total sh + q := h1
    refine ⟨h3, h4, ?_⟩
    rw [h1, hup q _ hq, hlow i h2]
end Go.Ab

/- A program's tables; the contract of a function of no argument that returns true. -/
namespace Go.Ab

theorem tyTab_get (l : List TypeInfo) : ∀ (n : Nat) (t : Tr TypeInfo) (i : Nat), (tyTab l n t).get (Pos.of i) = if n ≤ i ∧ i < n + l.length then l[i - n]? else t.get (Pos.of i) := by
  induction l with
  | nil => intro n t i; rw [if_neg (by simp)]; rfl
  | cons v l ih =>
    intro n t i
    show (tyTab l (Nat.succ n) (Tr.put (Pos.of n) v t)).get (Pos.of i) = _
    rw [ih]
    simp only [List.length_cons]
    by_cases e : i = n
    · subst e; rw [if_neg (by omega), if_pos (by omega), Tr.get_put_same]; simp
    · by_cases hin : Nat.succ n ≤ i ∧ i < Nat.succ n + l.length
      · rw [if_pos hin, if_pos (by omega), show i - n = (i - Nat.succ n) + 1 by omega]; simp
      · rw [if_neg hin, if_neg (by omega), Tr.get_put_ne _ _ _ _ (Pos.of_ne e)]

theorem fnTab_get (cx : Cx) (l : List Func) : ∀ (n : Nat) (t : Tr IFn) (i : Nat) (x : IFn), (fnTab cx l n t).get (Pos.of i) = some x → (n ≤ i ∧ ∃ f, l[i - n]? = some f ∧ compF cx f = some x) ∨ t.get (Pos.of i) = some x := by
  induction l with
  | nil => intro n t i x h; exact .inr h
  | cons v l ih =>
    intro n t i x h
    have h : (fnTab cx l (Nat.succ n) (Option.rec (motive := fun _ => Tr IFn) t (fun x => Tr.put (Pos.of n) x t) (compF cx v))).get (Pos.of i) = some x := h
    rcases ih _ _ _ _ h with ⟨h1, f, h2, h3⟩ | h1
    · left
      refine ⟨by omega, f, ?_, h3⟩
      rw [show i - n = (i - Nat.succ n) + 1 by omega]; simpa using h2
    · cases hc : compF cx v with
      | none => rw [hc] at h1; exact .inr h1
      | some y =>
        rw [hc] at h1
        have h1 : (Tr.put (Pos.of n) y t).get (Pos.of i) = some x := h1
        by_cases e : i = n
        · subst e; rw [Tr.get_put_same] at h1; cases h1; exact .inl ⟨Nat.le_refl _, v, by simp, hc⟩
        · rw [Tr.get_put_ne _ _ _ _ (Pos.of_ne e)] at h1; exact .inr h1

noncomputable def eqsOf (P : Program) (t : TypeId) : Bool := !P.stoodInHeld t && !P.eqGuardType P.depth t

theorem hyp_of {P : Program} {TT : Tr TypeInfo} (ht : TT = tyTab P.types.toList 0 .nil) : Hyp P ⟨tyGet TT, eqsOf P⟩ where
  ti := by
    intro t i h
    have h : TT.get (Pos.of t) = some i := h
    rw [ht, tyTab_get] at h
    split at h
    · rename_i hlt
      have hlt : t < P.types.size := by simpa using hlt.2
      show (if t < P.types.size then P.types[t]? else _) = some i
      rw [if_pos hlt]
      simpa using h
    · rw [Tr.get_nil] at h; cases h
  eqs := by
    intro t h
    have h : (!P.stoodInHeld t && !P.eqGuardType P.depth t) = true := h
    rw [Bool.and_eq_true, Bool.not_eq_true', Bool.not_eq_true'] at h
    exact h

theorem tab_of {P : Program} {cx : Cx} {FT : Tr IFn} (hf : FT = fnTab cx P.funcs.toList 0 .nil) (hn : (P.funcs.toList.all fun fn => !(fn.name == "runtime.NumGoroutine")) = true) : TabOk P cx FT where
  ok := by
    intro f x h
    rw [hf] at h
    rcases fnTab_get cx _ _ _ _ _ h with ⟨_, fn, h1, h2⟩ | h1
    · have h1 : P.funcs[f]? = some fn := by simpa using h1
      have hb : ∃ c, fn.body = some c := by
        unfold compF at h2
        cases hb : fn.body with
        | none => rw [hb] at h2; simp at h2
        | some c => exact ⟨c, rfl⟩
      obtain ⟨c, hb⟩ := hb
      have := List.all_eq_true.1 hn fn (by have := List.mem_of_getElem? (l := P.funcs.toList) (i := f) (by simpa using h1); exact this)
      exact ⟨fn, c, h1, hb, h2, by simpa using this⟩
    · rw [Tr.get_nil] at h1; cases h1

def noOrc : Orc := fun _ _ _ => none
theorem noOrc_nat : OrcNat noOrc := fun _ _ _ _ h => by cases h
theorem noOrc_ok {P : Program} {cx : Cx} {σ : Nat → Int} : OrcOk P cx σ noOrc := fun _ _ _ _ _ _ h => by cases h

/-- a function that takes nothing and returns true -/
noncomputable def trueOrc (g : Nat) : Orc := fun f args h => match args with
  | [] => if Nat.beq f g then some (fun k => k (.bool true) h) else none
  | _ :: _ => none
theorem trueOrc_nat (g : Nat) : OrcNat (trueOrc g) := by
  intro f args h c e
  unfold trueOrc at e
  split at e
  · split at e
    · cases e; exact CpK.ret _ _
    · cases e
  · cases e

def Kept (w w' : World) : Prop := w'.os = w.os ∧ w'.output = w.output ∧ w'.tape = w.tape ∧ ∀ (B : Nat) (o : Obj), w.heap[B]? = some o → w'.heap[B]? = some o
theorem kept_size {w w' : World} (h : Kept w w') : w.heap.size ≤ w'.heap.size := by
  rcases Nat.eq_zero_or_pos w.heap.size with e | e
  · omega
  · have h1 : w.heap[w.heap.size - 1]? = some w.heap[w.heap.size - 1] := Array.getElem?_eq_getElem (by omega)
    have := lt_of_some (h.2.2.2 _ _ h1)
    omega
theorem trueOrc_ok {P : Program} {cx : Cx} {σ : Nat → Int} {g : Nat} {fn : Func} {c : Code} (h1 : P.funcs[g]? = some fn) (h2 : fn.body = some c) (h3 : (fn.name == "runtime.NumGoroutine") = false)
    (hcall : ∀ w : World, Calls P g #[] w fun e w' => e = .returned (.bool true) ∧ Kept w w') : OrcOk P cx σ (trueOrc g) := by
  intro f args h c k r e hx
  unfold trueOrc at e
  split at e
  · split at e
    · rename_i hf
      rw [Nat.beq_eq] at hf
      subst hf
      cases e
      refine ⟨_, _, hx, fun ι w xs hr hv => ?_⟩
      have hxs : xs = #[] := by have := VRL.nil.1 hv; simpa using this
      subst hxs
      refine ⟨run_callFunc h1 h2 h3 _ _, ?_⟩
      have := callsIn_wide (n := 0).2 (hcall w)
      refine CallsIn.mono (callsIn_Fz (ro := none) this) ?_
      rintro e w' ⟨rfl, hk⟩
      have hsz := kept_size hk
      refine ⟨.bool true, ι, rfl, rfl, ⟨fun b l hb => by have := hr.bound b l hb; exact ⟨this.1, by omega⟩, hr.inj, fun b l o hb ho => (hr.obj b l o hb ho).other fun x hx => hk.2.2.2 _ _ hx⟩, ?_⟩
      exact ⟨Le.refl _, fun _ _ e n => no_some e n, fun _ _ _ => rfl, Nat.le_refl _, fun B o hB _ => hk.2.2.2 B o hB, hsz, fun _ _ e n => no_some e n, hk.1, hk.2.1, hk.2.2.1⟩
    · cases e
  · cases e
end Go.Ab

/- A run, step by step: so that a long one can be cut into theorems. -/
namespace Go.Ab

structure CP where
  f : Nat
  p : List Nat
def CP.sub (x : CP) (i : Nat) : CP := ⟨x.f, x.p ++ [i]⟩
noncomputable def IC.sub (c : IC) (i : Nat) : IC := match c with
  | .seq a b => match i with | 0 => a | _ => b
  | .cond _ a b => match i with | 0 => a | _ => b
  | .block _ b => b
  | .loop b => b
  | _ => .bad
noncomputable def look (tab : Tr IFn) (x : CP) : IC := match tab.get (Pos.of x.f) with
  | some (.mk body _ _) => x.p.foldl IC.sub body
  | none => .bad
noncomputable def resT (tab : Tr IFn) (g : Nat) : List (Pos × Option Nat × Bool) := match tab.get (Pos.of g) with
  | some (.mk _ _ r) => r
  | none => []
noncomputable def opsAt (tab : Tr IFn) (x : CP) (i : Nat) : List IOpr := match look tab x with
  | .reg l => l.drop i
  | _ => []
noncomputable def opsD (tab : Tr IFn) (x : CP) (i : Nat) : List IOpr := match look tab x with
  | .regd l => l.drop i
  | _ => []
theorem look_sub {tab : Tr IFn} {x : CP} (h : look tab x ≠ .bad) (i : Nat) : look tab (x.sub i) = (look tab x).sub i := by
  unfold look CP.sub at *
  cases hx : tab.get (Pos.of x.f) with
  | none => simp [hx] at h
  | some f => obtain ⟨b, n, r⟩ := f; simp [List.foldl_append]

inductive Ct where
  | c (x : CP)
  | o (x : CP) (i : Nat)
  | d (x : CP) (i : Nat) (pend : List Pend)
  | n
  | x (e : Option Nat)
inductive Fr1 where
  | seq (x : CP) (n : Nat)
  | blk (id : Nat)
  | loop (x : CP) (n : Nat)
  | call (d : Option Pos) (x : CP) (i n : Nat) (t : T) (g : Nat)
  | calld (d : Option Pos) (x : CP) (i n : Nat) (t : T) (g : Nat) (pend : List Pend)
  | base (g : Nat)
  | rf (x : CP) (t : T) (l : Pos) (g : Nat)
structure St1 where
  ct : Ct
  n : Nat
  t : T
  h : H
  s : List Fr1

section
variable (S : Sy) (orc : Orc) (tab : Tr IFn) (k0 : K)

noncomputable def lpE (E : Env) (b : IC) (t : T) (h : H) (kn : T → H → R) (kx : Option Nat → T → H → R) : R := Env.rec (motive := fun _ => R) (fun _ _ l => l b t h kn kx) E
noncomputable def xK (F : T → H → R) (e : Option Nat) (t : T) (h : H) : R := Option.rec (motive := fun _ => R) (F t h) (fun _ => none) e
noncomputable def bK (id : Nat) (kn : T → H → R) (kx : Option Nat → T → H → R) (e : Option Nat) (t : T) (h : H) : R :=
  Option.rec (motive := fun _ => R) (kx none t h) (fun j => Bool.rec (motive := fun _ => R) (kx (some j) t h) (kn t h) (Nat.beq j id)) e
/-- behind a function that was ranged over -/
noncomputable def afterR (t : T) (l : Pos) (kn : T → H → R) (kx : Option Nat → T → H → R) (h : H) : R := h.loopK l fun st _ _ _ _ => Nat.rec (motive := fun _ => R) (kn t (h.put l .dead))
  (fun s _ => Nat.rec (motive := fun _ => R) none (fun s _ => Nat.rec (motive := fun _ => R) (kx none t (h.put l .dead)) (fun id _ => kx (some id) t (h.put l .dead)) s) s) st
noncomputable def kk : List Fr1 → (T → H → R) × (Option Nat → T → H → R)
  | [] => (fun _ _ => none, fun _ _ _ => none)
  | .seq x n :: s => (fun t h => code S (look tab x) (env S orc tab n) t h (kk s).1 (kk s).2, (kk s).2)
  | .blk id :: s => ((kk s).1, bK id (kk s).1 (kk s).2)
  | .loop x n :: s => (fun t h => lpE (env S orc tab n) (look tab x) t h (kk s).1 (kk s).2, (kk s).2)
  | .call d x i n tc g :: s => (fun t h => resK (resT tab g) t h fun vs => opers S (opsAt tab x i) (env S orc tab n) (tset d (resV vs) tc) h (kk s).1,
      xK fun t h => resK (resT tab g) t h fun vs => opers S (opsAt tab x i) (env S orc tab n) (tset d (resV vs) tc) h (kk s).1)
  | .calld d x i n tc g pend :: s => (fun t h => resK (resT tab g) t h fun vs => rechk S (env S orc tab n) h pend fun pend' => opersD S (opsD tab x i) (env S orc tab n) pend' (tset d (resV vs) tc) h (kk s).1,
      xK fun t h => resK (resT tab g) t h fun vs => rechk S (env S orc tab n) h pend fun pend' => opersD S (opsD tab x i) (env S orc tab n) pend' (tset d (resV vs) tc) h (kk s).1)
  | .base g :: _ => (fun t h => resK (resT tab g) t h fun vs => k0 (resV vs) h, xK fun t h => resK (resT tab g) t h fun vs => k0 (resV vs) h)
  | .rf _ t0 l g :: s => (fun t h => resK (resT tab g) t h fun _ => afterR t0 l (kk s).1 (kk s).2 h, xK fun t h => resK (resT tab g) t h fun _ => afterR t0 l (kk s).1 (kk s).2 h)

noncomputable def interp (s : St1) : R := match s.ct with
  | .c x => code S (look tab x) (env S orc tab s.n) s.t s.h (kk S orc tab k0 s.s).1 (kk S orc tab k0 s.s).2
  | .o x i => opers S (opsAt tab x i) (env S orc tab s.n) s.t s.h (kk S orc tab k0 s.s).1
  | .d x i pend => opersD S (opsD tab x i) (env S orc tab s.n) pend s.t s.h (kk S orc tab k0 s.s).1
  | .n => (kk S orc tab k0 s.s).1 s.t s.h
  | .x e => (kk S orc tab k0 s.s).2 e s.t s.h

noncomputable def pair1 : K := fun v h => some (v, h)
noncomputable def wantB (g : Option (Pos × Bool)) (t : T) : Bool := match wantK g t none (some (.nilp, h0)) with | some _ => true | none => false
noncomputable def rechkF (S : Sy) (E : Env) (h : H) : List Pend → Option (List Pend)
  | [] => some []
  | p :: l => match p.n with
    | 0 => rechkF S E h l
    | n + 1 => match exec S E p.op p.t h (fun v' _ => ifK (vsame p.v v') (some (.nilp, h))) with
      | some _ => match rechkF S E h l with
        | some l' => some (⟨n, p.op, p.t, p.v⟩ :: l')
        | none => none
      | none => none
noncomputable def big (x : CP) (i n : Nat) (d : Option Pos) (op : IOp) (t : T) (h : H) (s : List Fr1) : Option St1 := match exec S (env S orc tab n) op t h pair1 with
  | some (v, h') => some ⟨.o x (i + 1), n, tset d v t, h', s⟩
  | none => none
noncomputable def ready (g : Nat) (args : List V) (h : H) : Bool := match orc g args h, tab.get (Pos.of g) with
  | none, some (.mk _ nt _) => Nat.ble (llen args) nt
  | _, _ => false
noncomputable def stepO (inn : Nat → Bool) (x : CP) (i n : Nat) (op : IOpr) (t : T) (h : H) (s : List Fr1) : Option St1 := match op.op, n with
  | .call f xs, m + 1 => match f.ev t with
    | .fn g fs cs => match inn g && ready orc tab g (app fs (app (evs xs t) cs)) h with
      | true => some ⟨.c ⟨g, []⟩, m, ofL (app fs (app (evs xs t) cs)) 0 .nil, h, .call op.dst x (i + 1) (m + 1) t g :: s⟩
      | false => big S orc tab x i n op.dst op.op t h s
    | _ => big S orc tab x i n op.dst op.op t h s
  | _, _ => big S orc tab x i n op.dst op.op t h s
noncomputable def back (d : Option Pos) (x : CP) (i m : Nat) (tc : T) (g : Nat) (t : T) (h : H) (s : List Fr1) : Option St1 := match resK (resT tab g) t h (fun vs => some (resV vs, h)) with
  | some (v, _) => some ⟨.o x i, m, tset d v tc, h, s⟩
  | none => none
/-- behind a writer of a drawn region -/
noncomputable def bigD (x : CP) (i n : Nat) (pend : List Pend) (d : Option Pos) (v : V) (t : T) (h : H) (s : List Fr1) : Option St1 := match rechkF S (env S orc tab n) h pend with
  | some pend' => some ⟨.d x (i + 1) pend', n, tset d v t, h, s⟩
  | none => none
noncomputable def stepE (x : CP) (i n : Nat) (pend : List Pend) (op : IOpr) (t : T) (h : H) (s : List Fr1) : Option St1 := match exec S (env S orc tab n) op.op t h pair1 with
  | some (v, h') => match Nat.beq op.op.kind 3 with
    | true => bigD S orc tab x i n pend op.dst v t h' s
    | false => match mkOk op.op h with
      | true => some ⟨.d x (i + 1) (pendAdd op.late op.op t v pend), n, tset op.dst v t, h', s⟩
      | false => none
  | none => none
noncomputable def stepD (inn : Nat → Bool) (x : CP) (i n : Nat) (pend : List Pend) (op : IOpr) (t : T) (h : H) (s : List Fr1) : Option St1 := match op.op, n with
  | .call f xs, m + 1 => match f.ev t with
    | .fn g fs cs => match inn g && ready orc tab g (app fs (app (evs xs t) cs)) h with
      | true => some ⟨.c ⟨g, []⟩, m, ofL (app fs (app (evs xs t) cs)) 0 .nil, h, .calld op.dst x (i + 1) (m + 1) t g pend :: s⟩
      | false => stepE S orc tab x i n pend op t h s
    | _ => stepE S orc tab x i n pend op t h s
  | _, _ => stepE S orc tab x i n pend op t h s
noncomputable def backD (d : Option Pos) (x : CP) (i m : Nat) (tc : T) (g : Nat) (pend : List Pend) (t : T) (h : H) (s : List Fr1) : Option St1 := match resK (resT tab g) t h (fun vs => some (resV vs, h)) with
  | some (v, _) => match rechkF S (env S orc tab m) h pend with
    | some pend' => some ⟨.d x i pend', m, tset d v tc, h, s⟩
    | none => none
  | none => none
/-- temporaries and memory, kept as one -/
noncomputable def packK (t : T) (h : H) : R := H.rec (motive := fun _ => R) (fun nx m => Tr.rec (motive := fun _ => R) (fun s mm f =>
  Tb.rec (motive := fun _ => R) (some (.nilp, .mk nx ⟨s, mm, .node (some (.loop 0 t [] .skip .skip)) .nil .nil⟩)) (fun _ _ _ _ _ => none) f) m) h
noncomputable def unpack (r : R) : Option (T × H) := match r with
  | some (_, .mk nx ⟨s, mm, .node (some (.loop _ t _ _ _)) _ _⟩) => some (t, .mk nx ⟨s, mm, .nil⟩)
  | _ => none
theorem unpack_pack {t t' : T} {h h' : H} (e : unpack (packK t h) = some (t', h')) : t = t' ∧ h = h' := by
  obtain ⟨nx, s, mm, f⟩ := h
  cases f with
  | nil =>
    have e : some (t, H.mk nx ⟨s, mm, .nil⟩) = some (t', h') := e
    simp only [Option.some.injEq, Prod.mk.injEq] at e
    exact e
  | node a l r => cases e
noncomputable def once (b : IC) (E : Env) (t : T) (h : H) : Option (T × H) := unpack (code S b E t h packK (fun _ _ _ => none))
/-- a function that is ranged over begins -/
noncomputable def stepR (inn : Nat → Bool) (x : CP) (c : IC) (f : Opd) (ps : List Pos) (as bd : IC) (n : Nat) (t : T) (h : H) (s : List Fr1) : Option St1 := match n, f.ev t with
  | m + 1, .fn g fs cs => match inn g && ready orc tab g (app fs (app [.yield h.nx] cs)) (h.push (.loop 0 t ps as bd)) with
    | true => some ⟨.c ⟨g, []⟩, m, ofL (app fs (app [.yield h.nx] cs)) 0 .nil, h.push (.loop 0 t ps as bd), .rf x t h.nx g :: s⟩
    | false => match once S c (env S orc tab n) t h with | some (t', h') => some ⟨.n, n, t', h', s⟩ | none => none
  | _, _ => match once S c (env S orc tab n) t h with | some (t', h') => some ⟨.n, n, t', h', s⟩ | none => none
/-- and ends -/
noncomputable def backR (t0 : T) (l : Pos) (g n : Nat) (t : T) (h : H) (s : List Fr1) : Option St1 := match resK (resT tab g) t h (fun vs => some (resV vs, h)) with
  | some _ => match h.get l with
    | some (.loop st _ _ _ _) => match st with
      | 0 => some ⟨.n, n, t0, h.put l .dead, s⟩
      | 1 => none
      | 2 => some ⟨.x none, n, t0, h.put l .dead, s⟩
      | k + 3 => some ⟨.x (some k), n, t0, h.put l .dead, s⟩
    | _ => none
  | none => none
noncomputable def step (inn : Nat → Bool) (q : St1) : Option St1 := match q.ct with
  | .c x => match look tab x with
    | .skip => some { q with ct := .n }
    | .ret => some { q with ct := .x none }
    | .reg _ => some { q with ct := .o x 0 }
    | .regd _ => some { q with ct := .d x 0 [] }
    | .seq _ _ => some { q with ct := .c (x.sub 0), s := .seq (x.sub 1) q.n :: q.s }
    | .cond c _ _ => match c.ev q.t with
      | .bool true => some { q with ct := .c (x.sub 0) }
      | .bool false => some { q with ct := .c (x.sub 1) }
      | _ => none
    | .block id _ => some { q with ct := .c (x.sub 0), s := .blk id :: q.s }
    | .loop _ => match q.n with
      | 0 => none
      | m + 1 => some { q with ct := .c (x.sub 0), n := m, s := .loop (x.sub 0) m :: q.s }
    | .exit id => some { q with ct := .x (some id) }
    | .rfun f ps as bd => stepR S orc tab inn x (.rfun f ps as bd) f ps as bd q.n q.t q.h q.s
    | _ => none
  | .o x i => match opsAt tab x i with
    | [] => some { q with ct := .n }
    | op :: _ => match wantB op.guard q.t with
      | false => some { q with ct := .o x (i + 1), t := tset op.dst (.tup []) q.t }
      | true => stepO S orc tab inn x i q.n op q.t q.h q.s
  | .d x i pend => match opsD tab x i with
    | [] => some { q with ct := .n }
    | op :: _ => match wantB op.guard q.t with
      | false => match Nat.beq op.op.kind 3 with
        | true => bigD S orc tab x i q.n pend op.dst (.tup []) q.t q.h q.s
        | false => some { q with ct := .d x (i + 1) pend, t := tset op.dst (.tup []) q.t }
      | true => stepD S orc tab inn x i q.n pend op q.t q.h q.s
  | .n => match q.s with
    | .seq x m :: s => some ⟨.c x, m, q.t, q.h, s⟩
    | .blk _ :: s => some { q with s := s }
    | .loop x (m + 1) :: s => some ⟨.c x, m, q.t, q.h, .loop x m :: s⟩
    | .call d x i m tc g :: s => back tab d x i m tc g q.t q.h s
    | .calld d x i m tc g pend :: s => backD S orc tab d x i m tc g pend q.t q.h s
    | .rf _ t0 l g :: s => backR tab t0 l g q.n q.t q.h s
    | _ => none
  | .x e => match q.s with
    | .seq _ _ :: s => some { q with s := s }
    | .loop _ _ :: s => some { q with s := s }
    | .blk id :: s => match e with
      | none => some { q with s := s }
      | some j => match Nat.beq j id with
        | true => some { q with ct := .n, s := s }
        | false => some { q with s := s }
    | .call d x i m tc g :: s => match e with
      | none => back tab d x i m tc g q.t q.h s
      | some _ => none
    | .calld d x i m tc g pend :: s => match e with
      | none => backD S orc tab d x i m tc g pend q.t q.h s
      | some _ => none
    | .rf _ t0 l g :: s => match e with
      | none => backR tab t0 l g q.n q.t q.h s
      | some _ => none
    | _ => none

variable {S} {orc} {tab} {k0}
theorem env_has (hon : OrcNat orc) (n : Nat) : ∃ call round loop, env S orc tab n = .mk call round loop ∧ EnvNat call round loop := env_nat hon tab n

theorem want_of {g : Option (Pos × Bool)} {t : T} {b : Bool} (h : wantB g t = b) (x y : R) : wantK g t x y = if b then y else x := by
  unfold wantB at h
  rcases wantK_two g t with hw | hw
  · rw [hw] at h; subst h; rw [hw]; rfl
  · rw [hw] at h; subst h; rw [hw]; rfl

theorem opsAt_cons {x : CP} {i : Nat} {op : IOpr} {l : List IOpr} (h : opsAt tab x i = op :: l) : opsAt tab x (i + 1) = l := by
  unfold opsAt at *
  split at h
  · rename_i l' hl
    show l'.drop (i + 1) = l
    rw [← List.tail_drop, h]; rfl
  · cases h

theorem opsD_cons {x : CP} {i : Nat} {op : IOpr} {l : List IOpr} (h : opsD tab x i = op :: l) : opsD tab x (i + 1) = l := by
  unfold opsD at *
  split at h
  · rename_i l' hl
    show l'.drop (i + 1) = l
    rw [← List.tail_drop, h]; rfl
  · cases h

theorem exec_of (hon : OrcNat orc) {n : Nat} {op : IOp} {t : T} {h h' : H} {v : V} (e : exec S (env S orc tab n) op t h pair1 = some (v, h')) (k : K) : exec S (env S orc tab n) op t h k = k v h' := by
  obtain ⟨call, round, loop, e0, hE⟩ := env_has (S := S) (tab := tab) hon n
  rw [e0] at e ⊢
  rcases exec_nat hE op t h with hn | ⟨v0, h0, hv⟩
  · rw [hn] at e; cases e
  · rw [hv] at e
    have e : some (v0, h0) = some (v, h') := e
    simp only [Option.some.injEq, Prod.mk.injEq] at e
    rw [hv, e.1, e.2]

theorem resK_of (hon : OrcNat orc) {l : List (Pos × Option Nat × Bool)} {t : T} {h h1 : H} {v : V} (e : resK l t h (fun vs => some (resV vs, h)) = some (v, h1)) (F : V → R) : resK l t h (fun vs => F (resV vs)) = F v := by
  obtain ⟨call, round, loop, e0, hE⟩ := env_has (S := ⟨fun _ _ _ => none, fun _ _ => none⟩) (tab := .nil) hon 0
  rcases resK_nat hE l t h with hn | ⟨vs, hv⟩
  · rw [hn] at e; cases e
  · rw [hv] at e
    simp only [Option.some.injEq, Prod.mk.injEq] at e
    rw [hv, e.1]

theorem rechkF_ok (hon : OrcNat orc) {n : Nat} {h : H} : ∀ {l l' : List Pend}, rechkF S (env S orc tab n) h l = some l' → ∀ (k : List Pend → R), rechk S (env S orc tab n) h l k = k l'
  | [], l', e, k => by cases e; rfl
  | p :: l, l', e, k => by
    obtain ⟨m, op, t, v⟩ := p
    unfold rechkF at e
    cases m with
    | zero => exact rechkF_ok hon (l := l) e k
    | succ m =>
      simp only at e
      obtain ⟨call, round, loop, e0, hE⟩ := env_has (S := S) (tab := tab) hon n
      split at e
      · rename_i r hx
        split at e
        · rename_i l1 hl
          cases e
          have ih := rechkF_ok hon hl (k := fun l' => k (⟨m, op, t, v⟩ :: l'))
          show exec S (env S orc tab n) op t h (fun v' _ => ifK (vsame v v') (rechk S (env S orc tab n) h l fun l' => k (⟨m, op, t, v⟩ :: l'))) = _
          rw [ih]
          rw [e0] at hx ⊢
          rcases exec_nat hE op t h with hn | ⟨v0, h0, hv⟩
          · rw [hn] at hx; cases hx
          · rw [hv] at hx ⊢
            rw [(ifK_some.1 hx).1]; rfl
        · cases e
      · cases e
theorem bigD_ok (hon : OrcNat orc) {x : CP} {i n : Nat} {pend : List Pend} {d : Option Pos} {v : V} {t : T} {h : H} {s : List Fr1} {q : St1} (e : bigD S orc tab x i n pend d v t h s = some q) :
    (rechk S (env S orc tab n) h pend fun pend' => opersD S (opsD tab x (i + 1)) (env S orc tab n) pend' (tset d v t) h (kk S orc tab k0 s).1) = interp S orc tab k0 q := by
  unfold bigD at e
  split at e
  · rename_i l' hl; cases e; rw [rechkF_ok hon hl]; rfl
  · cases e
theorem opersD_cons (op : IOpr) (l : List IOpr) (E : Env) (pend : List Pend) (t : T) (h : H) (k : T → H → R) :
    opersD S (op :: l) E pend t h k = wantK op.guard t (isK3 op.op (rechk S E h pend fun pend' => opersD S l E pend' (tset op.dst (.tup []) t) h k) (opersD S l E pend (tset op.dst (.tup []) t) h k))
      (exec S E op.op t h fun v h' => isK3 op.op (rechk S E h' pend fun pend' => opersD S l E pend' (tset op.dst v t) h' k) (ifK (mkOk op.op h) (opersD S l E (pendAdd op.late op.op t v pend) (tset op.dst v t) h' k))) := by
  obtain ⟨d, g, late, o⟩ := op; rfl
theorem isK3_of (op : IOp) (a b : R) : isK3 op a b = if op.kind = 3 then a else b := by cases op <;> rfl
theorem stepE_ok (hon : OrcNat orc) {x : CP} {i n : Nat} {pend : List Pend} {op : IOpr} {l : List IOpr} {t : T} {h : H} {s : List Fr1} {q : St1} (ho : opsD tab x i = op :: l) (hw : wantB op.guard t = true) (e : stepE S orc tab x i n pend op t h s = some q) :
    interp S orc tab k0 ⟨.d x i pend, n, t, h, s⟩ = interp S orc tab k0 q := by
  unfold stepE at e
  split at e
  · rename_i v h' hx
    show opersD S (opsD tab x i) _ pend t h _ = _
    rw [ho, opersD_cons, want_of hw, if_pos rfl, exec_of hon hx, isK3_of]
    split at e
    · rename_i hk
      rw [Nat.beq_eq] at hk
      rw [if_pos hk, ← opsD_cons ho]
      exact bigD_ok hon e
    · rename_i hk
      have hk : op.op.kind ≠ 3 := fun e => by rw [e] at hk; cases hk
      rw [if_neg hk]
      split at e
      · rename_i hm; cases e; rw [hm, ← opsD_cons ho]; rfl
      · cases e
  · cases e

theorem opers_cons (op : IOpr) (l : List IOpr) (E : Env) (t : T) (h : H) (k : T → H → R) :
    opers S (op :: l) E t h k = wantK op.guard t (opers S l E (tset op.dst (.tup []) t) h k) (exec S E op.op t h fun v h' => opers S l E (tset op.dst v t) h' k) := rfl

theorem big_ok (hon : OrcNat orc) {x : CP} {i n : Nat} {op : IOpr} {l : List IOpr} {t : T} {h : H} {s : List Fr1} {q : St1} (ho : opsAt tab x i = op :: l) (hw : wantB op.guard t = true) (e : big S orc tab x i n op.dst op.op t h s = some q) :
    interp S orc tab k0 ⟨.o x i, n, t, h, s⟩ = interp S orc tab k0 q := by
  unfold big at e
  split at e
  · rename_i v h' hx
    cases e
    show opers S (opsAt tab x i) _ t h _ = opers S (opsAt tab x (i + 1)) _ (tset op.dst v t) h' _
    rw [ho, opsAt_cons ho, opers_cons, want_of hw, if_pos rfl, exec_of hon hx]
  · cases e

theorem back_ok (hon : OrcNat orc) {d : Option Pos} {x : CP} {i m : Nat} {tc : T} {g : Nat} {t : T} {h : H} {s : List Fr1} {q : St1} (e : back tab d x i m tc g t h s = some q) :
    (resK (resT tab g) t h fun vs => opers S (opsAt tab x i) (env S orc tab m) (tset d (resV vs) tc) h (kk S orc tab k0 s).1) = interp S orc tab k0 q := by
  unfold back at e
  split at e
  · rename_i v h1 hx
    cases e
    exact resK_of hon hx fun v => opers S (opsAt tab x i) (env S orc tab m) (tset d v tc) h (kk S orc tab k0 s).1
  · cases e

theorem callV_succ (m g : Nat) (fs cs args : List V) (h : H) (k : K) : (env S orc tab (m + 1)).callV (.fn g fs cs) args h k =
    Option.rec (motive := fun _ => R) (runF S tab (env S orc tab m) g (app fs (app args cs)) h k) (fun c => c k) (orc g (app fs (app args cs)) h) := rfl
theorem runF_of {E : Env} {g nt : Nat} {b : IC} {r : List (Pos × Option Nat × Bool)} (htab : tab.get (Pos.of g) = some (.mk b nt r)) {args : List V} (hr : Nat.ble (llen args) nt = true) (h : H) (k : K) :
    runF S tab E g args h k = code S b E (ofL args 0 .nil) h (fun t h' => resK r t h' fun vs => k (resV vs) h') (xK fun t h' => resK r t h' fun vs => k (resV vs) h') := by
  unfold runF
  rw [htab]
  show ifK (Nat.ble (llen args) nt) _ = _
  rw [hr]; rfl

theorem stepO_ok (hon : OrcNat orc) {inn : Nat → Bool} {x : CP} {i n : Nat} {op : IOpr} {l : List IOpr} {t : T} {h : H} {s : List Fr1} {q : St1} (ho : opsAt tab x i = op :: l) (hw : wantB op.guard t = true) (e : stepO S orc tab inn x i n op t h s = some q) :
    interp S orc tab k0 ⟨.o x i, n, t, h, s⟩ = interp S orc tab k0 q := by
  unfold stepO at e
  split at e
  · rename_i f xs m hop
    split at e
    · rename_i g fs cs hf
      split at e
      · rename_i hr
        rw [Bool.and_eq_true] at hr
        have hr := hr.2
        cases e
        unfold ready at hr
        split at hr
        · rename_i b nt r horc htab
          show opers S (opsAt tab x i) _ t h _ = code S (look tab ⟨g, []⟩) (env S orc tab m) (ofL (app fs (app (evs xs t) cs)) 0 .nil) h _ _
          have hl : look tab ⟨g, []⟩ = b := by unfold look; simp only [htab]; rfl
          have hres : resT tab g = r := by unfold resT; simp only [htab]
          rw [ho, opers_cons, want_of hw, if_pos rfl, hop, hl]
          have hcall : ∀ k, exec S (env S orc tab (m + 1)) (.call f xs) t h k = Env.callV (env S orc tab (m + 1)) (f.ev t) (evs xs t) h k := fun _ => rfl
          show exec S (env S orc tab (m + 1)) (.call f xs) t h _ = _
          rw [hcall, hf, callV_succ, horc]
          show runF S tab (env S orc tab m) g (app fs (app (evs xs t) cs)) h _ = _
          rw [runF_of htab hr]
          show _ = code S b _ _ h (fun t' h' => resK (resT tab g) t' h' fun vs => opers S (opsAt tab x (i + 1)) (env S orc tab (m + 1)) (tset op.dst (resV vs) t) h' (kk S orc tab k0 s).1)
            (xK fun t' h' => resK (resT tab g) t' h' fun vs => opers S (opsAt tab x (i + 1)) (env S orc tab (m + 1)) (tset op.dst (resV vs) t) h' (kk S orc tab k0 s).1)
          rw [hres, opsAt_cons ho]
        · cases hr
      · exact big_ok hon ho hw e
    · exact big_ok hon ho hw e
  · exact big_ok hon ho hw e

theorem stepD_ok (hon : OrcNat orc) {inn : Nat → Bool} {x : CP} {i n : Nat} {pend : List Pend} {op : IOpr} {l : List IOpr} {t : T} {h : H} {s : List Fr1} {q : St1} (ho : opsD tab x i = op :: l) (hw : wantB op.guard t = true) (e : stepD S orc tab inn x i n pend op t h s = some q) :
    interp S orc tab k0 ⟨.d x i pend, n, t, h, s⟩ = interp S orc tab k0 q := by
  unfold stepD at e
  split at e
  · rename_i f xs m hop
    split at e
    · rename_i g fs cs hf
      split at e
      · rename_i hr
        rw [Bool.and_eq_true] at hr
        have hr := hr.2
        cases e
        unfold ready at hr
        split at hr
        · rename_i b nt r horc htab
          show opersD S (opsD tab x i) _ pend t h _ = code S (look tab ⟨g, []⟩) (env S orc tab m) (ofL (app fs (app (evs xs t) cs)) 0 .nil) h _ _
          have hl : look tab ⟨g, []⟩ = b := by unfold look; simp only [htab]; rfl
          have hres : resT tab g = r := by unfold resT; simp only [htab]
          rw [ho, opersD_cons, want_of hw, if_pos rfl, hop, hl]
          have hcall : ∀ k, exec S (env S orc tab (m + 1)) (.call f xs) t h k = Env.callV (env S orc tab (m + 1)) (f.ev t) (evs xs t) h k := fun _ => rfl
          show exec S (env S orc tab (m + 1)) (.call f xs) t h _ = _
          rw [hcall, hf, callV_succ, horc]
          show runF S tab (env S orc tab m) g (app fs (app (evs xs t) cs)) h _ = _
          rw [runF_of htab hr]
          show _ = code S b _ _ h (fun t' h' => resK (resT tab g) t' h' fun vs => rechk S (env S orc tab (m + 1)) h' pend fun pend' => opersD S (opsD tab x (i + 1)) (env S orc tab (m + 1)) pend' (tset op.dst (resV vs) t) h' (kk S orc tab k0 s).1)
            (xK fun t' h' => resK (resT tab g) t' h' fun vs => rechk S (env S orc tab (m + 1)) h' pend fun pend' => opersD S (opsD tab x (i + 1)) (env S orc tab (m + 1)) pend' (tset op.dst (resV vs) t) h' (kk S orc tab k0 s).1)
          rw [hres, opsD_cons ho]
          rfl
        · cases hr
      · exact stepE_ok hon ho hw e
    · exact stepE_ok hon ho hw e
  · exact stepE_ok hon ho hw e
theorem backD_ok (hon : OrcNat orc) {d : Option Pos} {x : CP} {i m : Nat} {tc : T} {g : Nat} {pend : List Pend} {t : T} {h : H} {s : List Fr1} {q : St1} (e : backD S orc tab d x i m tc g pend t h s = some q) :
    (resK (resT tab g) t h fun vs => rechk S (env S orc tab m) h pend fun pend' => opersD S (opsD tab x i) (env S orc tab m) pend' (tset d (resV vs) tc) h (kk S orc tab k0 s).1) = interp S orc tab k0 q := by
  unfold backD at e
  split at e
  · rename_i v h1 hx
    split at e
    · rename_i l' hl
      cases e
      rw [resK_of hon hx fun v => rechk S (env S orc tab m) h pend fun pend' => opersD S (opsD tab x i) (env S orc tab m) pend' (tset d v tc) h (kk S orc tab k0 s).1, rechkF_ok hon hl]
      rfl
    · cases e
  · cases e

theorem once_ok (hon : OrcNat orc) {b : IC} {n : Nat} {t t' : T} {h h' : H} (e : once S b (env S orc tab n) t h = some (t', h')) (kn : T → H → R) (kx : Option Nat → T → H → R) : code S b (env S orc tab n) t h kn kx = kn t' h' := by
  unfold once at e
  obtain ⟨call, round, loop, e0, hE⟩ := env_has (S := S) (tab := tab) hon n
  rw [e0] at e ⊢
  rcases code_nat (S := S) hE b t h with hn | ⟨t1, h1, hv⟩ | ⟨ex, t1, h1, hv⟩
  · have := hn (packK, fun _ _ _ => none)
    simp only at this
    rw [this] at e; cases e
  · have := hv (packK, fun _ _ _ => none)
    simp only at this
    rw [this] at e
    obtain ⟨rfl, rfl⟩ := unpack_pack e
    exact hv (kn, kx)
  · have := hv (packK, fun _ _ _ => none)
    simp only at this
    rw [this] at e; cases e
theorem stepR_ok (hon : OrcNat orc) {inn : Nat → Bool} {x : CP} {f : Opd} {ps : List Pos} {as bd : IC} {n : Nat} {t : T} {h : H} {s : List Fr1} {q : St1} (hx : look tab x = .rfun f ps as bd)
    (e : stepR S orc tab inn x (.rfun f ps as bd) f ps as bd n t h s = some q) : interp S orc tab k0 ⟨.c x, n, t, h, s⟩ = interp S orc tab k0 q := by
  have nat : (match once S (.rfun f ps as bd) (env S orc tab n) t h with | some (t', h') => some (⟨.n, n, t', h', s⟩ : St1) | none => none) = some q → interp S orc tab k0 ⟨.c x, n, t, h, s⟩ = interp S orc tab k0 q := fun e => by
    split at e
    · rename_i t' h' ho
      cases e
      show code S (look tab x) _ t h _ _ = _
      rw [hx, once_ok hon ho]; rfl
    · cases e
  unfold stepR at e
  split at e
  · rename_i m g fs cs hf
    split at e
    · rename_i hr
      rw [Bool.and_eq_true] at hr
      have hr := hr.2
      cases e
      unfold ready at hr
      split at hr
      · rename_i b nt r horc htab
        have hl : look tab ⟨g, []⟩ = b := by unfold look; simp only [htab]; rfl
        have hres : resT tab g = r := by unfold resT; simp only [htab]
        show code S (look tab x) (env S orc tab (m + 1)) t h (kk S orc tab k0 s).1 (kk S orc tab k0 s).2 = code S (look tab ⟨g, []⟩) (env S orc tab m) _ _
          (fun t' h' => resK (resT tab g) t' h' fun _ => afterR t h.nx (kk S orc tab k0 s).1 (kk S orc tab k0 s).2 h') (xK fun t' h' => resK (resT tab g) t' h' fun _ => afterR t h.nx (kk S orc tab k0 s).1 (kk S orc tab k0 s).2 h')
        rw [hx, hl, hres]
        show h.alloc (.loop 0 t ps as bd) (fun l h1 => Env.callFn (env S orc tab (m + 1)) (f.ev t) [.yield l] h1 fun _ h2 => afterR t l (kk S orc tab k0 s).1 (kk S orc tab k0 s).2 h2) = _
        rw [H.alloc_eq, hf]
        have hc : ∀ (args : List V) (h1 : H) (k : K), Env.callFn (env S orc tab (m + 1)) (.fn g fs cs) args h1 k = Option.rec (motive := fun _ => R) (runF S tab (env S orc tab m) g (app fs (app args cs)) h1 k) (fun c => c k) (orc g (app fs (app args cs)) h1) := fun _ _ _ => rfl
        rw [hc, horc]
        show runF S tab (env S orc tab m) g (app fs (app [.yield h.nx] cs)) (h.push (.loop 0 t ps as bd)) _ = _
        rw [runF_of htab hr]
      · cases hr
    · exact nat e
  · exact nat e
theorem backR_ok (hon : OrcNat orc) {t0 : T} {l : Pos} {g n : Nat} {t : T} {h : H} {s : List Fr1} {q : St1} (e : backR tab t0 l g n t h s = some q) :
    (resK (resT tab g) t h fun _ => afterR t0 l (kk S orc tab k0 s).1 (kk S orc tab k0 s).2 h) = interp S orc tab k0 q := by
  unfold backR at e
  split at e
  · rename_i p hx
    obtain ⟨v, h1⟩ := p
    rw [resK_of hon hx fun _ => afterR t0 l (kk S orc tab k0 s).1 (kk S orc tab k0 s).2 h]
    split at e
    · rename_i st a1 a2 a3 a4 hl
      have hlk : ∀ kk : Nat → T → List Pos → IC → IC → R, h.loopK l kk = kk st a1 a2 a3 a4 := fun kk => by
        unfold H.loopK
        cases h with
        | mk nx m => simp only [H.getK]; rw [show Tr.getO m l = some _ from hl]
      unfold afterR
      rw [hlk]
      split at e
      · cases e; rfl
      · cases e
      · cases e; rfl
      · cases e; rfl
    · cases e
  · cases e

theorem step_ok (hon : OrcNat orc) {inn : Nat → Bool} {q q' : St1} (e : step S orc tab inn q = some q') : interp S orc tab k0 q = interp S orc tab k0 q' := by
  obtain ⟨ct, n, t, h, s⟩ := q
  unfold step at e
  cases ct with
  | c x =>
    simp only at e
    have hl : ∀ {y : IC} (i : Nat), look tab x = y → y ≠ .bad → look tab (x.sub i) = y.sub i := fun {y} i hy hb => by rw [look_sub (by rw [hy]; exact hb), hy]
    show code S (look tab x) _ t h _ _ = _
    split at e
    · rename_i hx; cases e; rw [hx]; rfl
    · rename_i hx; cases e; rw [hx]; rfl
    · rename_i ops hx; cases e
      rw [hx]
      show opers S ops _ t h _ = opers S (opsAt tab x 0) _ t h _
      have : opsAt tab x 0 = ops := by unfold opsAt; simp [hx]
      rw [this]
    · rename_i ops hx; cases e
      rw [hx]
      show opersD S ops _ [] t h _ = opersD S (opsD tab x 0) _ [] t h _
      have : opsD tab x 0 = ops := by unfold opsD; simp [hx]
      rw [this]
    · rename_i a b hx; cases e
      rw [hx]
      show code S a (env S orc tab n) t h (fun t h => code S b (env S orc tab n) t h (kk S orc tab k0 s).1 (kk S orc tab k0 s).2) (kk S orc tab k0 s).2 =
        code S (look tab (x.sub 0)) (env S orc tab n) t h (fun t h => code S (look tab (x.sub 1)) (env S orc tab n) t h (kk S orc tab k0 s).1 (kk S orc tab k0 s).2) (kk S orc tab k0 s).2
      rw [hl 0 hx (by simp), hl 1 hx (by simp)]; rfl
    · rename_i c a b hx
      rw [hx]
      show (c.ev t).onBool _ = _
      split at e
      · rename_i hc; cases e; rw [hc]
        show code S a _ t h _ _ = code S (look tab (x.sub 0)) _ t h _ _
        rw [hl 0 hx (by simp)]; rfl
      · rename_i hc; cases e; rw [hc]
        show code S b _ t h _ _ = code S (look tab (x.sub 1)) _ t h _ _
        rw [hl 1 hx (by simp)]; rfl
      · cases e
    · rename_i id b hx; cases e
      rw [hx]
      show code S b _ t h _ _ = code S (look tab (x.sub 0)) _ t h _ _
      rw [hl 0 hx (by simp)]; rfl
    · rename_i b hx
      rw [hx]
      split at e
      · cases e
      · rename_i m
        cases e
        show code S b (env S orc tab m) t h (fun t h => lpE (env S orc tab m) b t h (kk S orc tab k0 s).1 (kk S orc tab k0 s).2) (kk S orc tab k0 s).2 =
          code S (look tab (x.sub 0)) (env S orc tab m) t h (fun t h => lpE (env S orc tab m) (look tab (x.sub 0)) t h (kk S orc tab k0 s).1 (kk S orc tab k0 s).2) (kk S orc tab k0 s).2
        rw [hl 0 hx (by simp)]; rfl
    · rename_i id hx; cases e; rw [hx]; rfl
    · rename_i f ps as bd hx; exact stepR_ok hon hx e
    · cases e
  | o x i =>
    simp only at e
    split at e
    · rename_i ho; cases e
      show opers S (opsAt tab x i) _ t h _ = _
      rw [ho]; rfl
    · rename_i op l ho
      split at e
      · rename_i hw; cases e
        show opers S (opsAt tab x i) _ t h _ = opers S (opsAt tab x (i + 1)) _ (tset op.dst (.tup []) t) h _
        rw [ho, opsAt_cons ho, opers_cons, want_of hw]; rfl
      · rename_i hw; exact stepO_ok hon ho hw e
  | d x i pend =>
    simp only at e
    split at e
    · rename_i ho; cases e
      show opersD S (opsD tab x i) _ pend t h _ = _
      rw [ho]; rfl
    · rename_i op l ho
      split at e
      · rename_i hw
        show opersD S (opsD tab x i) _ pend t h _ = _
        rw [ho, opersD_cons, want_of hw, isK3_of]
        show (if op.op.kind = 3 then _ else _) = _
        split at e
        · rename_i hk
          rw [Nat.beq_eq] at hk
          rw [if_pos hk, ← opsD_cons ho]
          exact bigD_ok hon e
        · rename_i hk; cases e
          have hk : op.op.kind ≠ 3 := fun e => by rw [e] at hk; cases hk
          rw [if_neg hk, ← opsD_cons ho]; rfl
      · rename_i hw; exact stepD_ok hon ho hw e
  | n =>
    simp only at e
    split at e
    · cases e; rfl
    · cases e; rfl
    · cases e; rfl
    · exact back_ok hon e
    · exact backD_ok hon e
    · exact backR_ok hon e
    · cases e
  | x ex =>
    cases s with
    | nil => simp at e
    | cons fr s =>
      cases fr with
      | seq x m => simp only [Option.some.injEq] at e; subst e; rfl
      | loop x m => simp only [Option.some.injEq] at e; subst e; rfl
      | base g => simp at e
      | call d x i m tc g =>
        cases ex with
        | none => exact back_ok hon e
        | some _ => simp at e
      | calld d x i m tc g pend =>
        cases ex with
        | none => exact backD_ok hon e
        | some _ => simp at e
      | rf x t0 l g =>
        cases ex with
        | none => exact backR_ok hon e
        | some _ => simp at e
      | blk id =>
        cases ex with
        | none => simp only [Option.some.injEq] at e; subst e; rfl
        | some j =>
          have hb : ∀ b, Nat.beq j id = b → bK id (kk S orc tab k0 s).1 (kk S orc tab k0 s).2 (some j) t h = Bool.rec (motive := fun _ => R) ((kk S orc tab k0 s).2 (some j) t h) ((kk S orc tab k0 s).1 t h) b := fun b hb => by
            rw [← hb]; rfl
          show bK id (kk S orc tab k0 s).1 (kk S orc tab k0 s).2 (some j) t h = _
          cases hj : Nat.beq j id with
          | true => simp only [hj, Option.some.injEq] at e; subst e; rw [hb _ hj]; rfl
          | false => simp only [hj, Option.some.injEq] at e; subst e; rw [hb _ hj]; rfl

/-- so many steps -/
noncomputable def steps (S : Sy) (orc : Orc) (tab : Tr IFn) (inn : Nat → Bool) (k : Nat) : St1 → Option St1 :=
  Nat.rec (motive := fun _ => St1 → Option St1) (fun q => some q) (fun _ ih q => match step S orc tab inn q with | some q' => ih q' | none => none) k
theorem steps_ok (hon : OrcNat orc) {inn : Nat → Bool} : ∀ {k : Nat} {q q' : St1}, steps S orc tab inn k q = some q' → interp S orc tab k0 q = interp S orc tab k0 q'
  | 0, q, q', e => by cases e; rfl
  | k + 1, q, q', e => by
    have e : (match step S orc tab inn q with | some q' => steps S orc tab inn k q' | none => none) = some q' := e
    split at e
    · rename_i q1 h1
      rw [step_ok hon h1]; exact steps_ok hon e
    · cases e

/-- how a call begins -/
noncomputable def begin (f n : Nat) (args : List V) (h : H) : St1 := ⟨.c ⟨f, []⟩, n, ofL args 0 .nil, h, [.base f]⟩
theorem begin_ok {f n : Nat} {args : List V} {h : H} (hr : ready orc tab f args h = true) : (env S orc tab (n + 1)).callV (.fn f [] []) args h k0 = interp S orc tab k0 (begin f n args h) := by
  unfold ready at hr
  split at hr
  · rename_i b nt r horc htab
    rw [callV_succ]
    have ha : app [] (app args []) = args := by rw [app_eq, app_eq]; simp
    rw [ha, horc]
    have hl : look tab ⟨f, []⟩ = b := by unfold look; simp only [htab]; rfl
    have hres : resT tab f = r := by unfold resT; simp only [htab]
    show runF S tab (env S orc tab n) f args h k0 = code S (look tab ⟨f, []⟩) (env S orc tab n) (ofL args 0 .nil) h (fun t h => resK (resT tab f) t h fun vs => k0 (resV vs) h) (xK fun t h => resK (resT tab f) t h fun vs => k0 (resV vs) h)
    rw [hl, hres, runF_of htab hr]
  · cases hr
end
end Go.Ab

/- A run in cuts: how the states at the cuts are written; a law whose leaves begin at a cut. -/
namespace Go.Ab

noncomputable def zi (n : Nat) : V := .int .i64 (.ofNat n)
noncomputable def zn (n : Nat) : V := .int .i64 (.negSucc n)
noncomputable def zp (b o : Nat) : V := .ptr (Pos.of b) o
/-- a range of places filled at once: the trie that puts would have built -/
noncomputable def al0 (v : V) : Option V := some v
noncomputable def fl0 (v : V) (lo hi b : Nat) (x : Option V) : Option V := Bool.rec (motive := fun _ => Option V) x (some v) (andB (Nat.ble lo b) (ltb b hi))
noncomputable def al1 (v : V) : N4 (Option V) := (fun x => ⟨x, x, x, x⟩) (al0 v)
noncomputable def fl1 (v : V) (lo hi b : Nat) (n : N4 (Option V)) : N4 (Option V) := Bool.rec (motive := fun _ => N4 (Option V)) (Bool.rec (motive := fun _ => N4 (Option V))
  ⟨fl0 v lo hi b n.a, fl0 v lo hi (Nat.add b 1) n.b, fl0 v lo hi (Nat.add b 2) n.c, fl0 v lo hi (Nat.add b 3) n.d⟩ (al1 v) (andB (Nat.ble lo b) (Nat.ble (Nat.add b 4) hi))) n (Bool.rec (motive := fun _ => Bool) (Nat.ble (Nat.add b 4) lo) true (Nat.ble hi b))
noncomputable def al2 (v : V) : N4 (N4 (Option V)) := (fun x => ⟨x, x, x, x⟩) (al1 v)
noncomputable def fl2 (v : V) (lo hi b : Nat) (n : N4 (N4 (Option V))) : N4 (N4 (Option V)) := Bool.rec (motive := fun _ => N4 (N4 (Option V))) (Bool.rec (motive := fun _ => N4 (N4 (Option V)))
  ⟨fl1 v lo hi b n.a, fl1 v lo hi (Nat.add b 4) n.b, fl1 v lo hi (Nat.add b 8) n.c, fl1 v lo hi (Nat.add b 12) n.d⟩ (al2 v) (andB (Nat.ble lo b) (Nat.ble (Nat.add b 16) hi))) n (Bool.rec (motive := fun _ => Bool) (Nat.ble (Nat.add b 16) lo) true (Nat.ble hi b))
noncomputable def al3 (v : V) : N4 (N4 (N4 (Option V))) := (fun x => ⟨x, x, x, x⟩) (al2 v)
noncomputable def fl3 (v : V) (lo hi b : Nat) (n : N4 (N4 (N4 (Option V)))) : N4 (N4 (N4 (Option V))) := Bool.rec (motive := fun _ => N4 (N4 (N4 (Option V)))) (Bool.rec (motive := fun _ => N4 (N4 (N4 (Option V))))
  ⟨fl2 v lo hi b n.a, fl2 v lo hi (Nat.add b 16) n.b, fl2 v lo hi (Nat.add b 32) n.c, fl2 v lo hi (Nat.add b 48) n.d⟩ (al3 v) (andB (Nat.ble lo b) (Nat.ble (Nat.add b 64) hi))) n (Bool.rec (motive := fun _ => Bool) (Nat.ble (Nat.add b 64) lo) true (Nat.ble hi b))
noncomputable def al4 (v : V) : N4 (N4 (N4 (N4 (Option V)))) := (fun x => ⟨x, x, x, x⟩) (al3 v)
noncomputable def fl4 (v : V) (lo hi b : Nat) (n : N4 (N4 (N4 (N4 (Option V))))) : N4 (N4 (N4 (N4 (Option V)))) := Bool.rec (motive := fun _ => N4 (N4 (N4 (N4 (Option V))))) (Bool.rec (motive := fun _ => N4 (N4 (N4 (N4 (Option V)))))
  ⟨fl3 v lo hi b n.a, fl3 v lo hi (Nat.add b 64) n.b, fl3 v lo hi (Nat.add b 128) n.c, fl3 v lo hi (Nat.add b 192) n.d⟩ (al4 v) (andB (Nat.ble lo b) (Nat.ble (Nat.add b 256) hi))) n (Bool.rec (motive := fun _ => Bool) (Nat.ble (Nat.add b 256) lo) true (Nat.ble hi b))
noncomputable def al5 (v : V) : N4 (N4 (N4 (N4 (N4 (Option V))))) := (fun x => ⟨x, x, x, x⟩) (al4 v)
noncomputable def fl5 (v : V) (lo hi b : Nat) (n : N4 (N4 (N4 (N4 (N4 (Option V)))))) : N4 (N4 (N4 (N4 (N4 (Option V))))) := Bool.rec (motive := fun _ => N4 (N4 (N4 (N4 (N4 (Option V)))))) (Bool.rec (motive := fun _ => N4 (N4 (N4 (N4 (N4 (Option V))))))
  ⟨fl4 v lo hi b n.a, fl4 v lo hi (Nat.add b 256) n.b, fl4 v lo hi (Nat.add b 512) n.c, fl4 v lo hi (Nat.add b 768) n.d⟩ (al5 v) (andB (Nat.ble lo b) (Nat.ble (Nat.add b 1024) hi))) n (Bool.rec (motive := fun _ => Bool) (Nat.ble (Nat.add b 1024) lo) true (Nat.ble hi b))
noncomputable def al6 (v : V) : N4 (N4 (N4 (N4 (N4 (N4 (Option V)))))) := (fun x => ⟨x, x, x, x⟩) (al5 v)
noncomputable def fl6 (v : V) (lo hi b : Nat) (n : N4 (N4 (N4 (N4 (N4 (N4 (Option V))))))) : N4 (N4 (N4 (N4 (N4 (N4 (Option V)))))) := Bool.rec (motive := fun _ => N4 (N4 (N4 (N4 (N4 (N4 (Option V))))))) (Bool.rec (motive := fun _ => N4 (N4 (N4 (N4 (N4 (N4 (Option V)))))))
  ⟨fl5 v lo hi b n.a, fl5 v lo hi (Nat.add b 1024) n.b, fl5 v lo hi (Nat.add b 2048) n.c, fl5 v lo hi (Nat.add b 3072) n.d⟩ (al6 v) (andB (Nat.ble lo b) (Nat.ble (Nat.add b 4096) hi))) n (Bool.rec (motive := fun _ => Bool) (Nat.ble (Nat.add b 4096) lo) true (Nat.ble hi b))
noncomputable def al7 (v : V) : N4 (N4 (N4 (N4 (N4 (N4 (N4 (Option V))))))) := (fun x => ⟨x, x, x, x⟩) (al6 v)
noncomputable def fl7 (v : V) (lo hi b : Nat) (n : N4 (N4 (N4 (N4 (N4 (N4 (N4 (Option V)))))))) : N4 (N4 (N4 (N4 (N4 (N4 (N4 (Option V))))))) := Bool.rec (motive := fun _ => N4 (N4 (N4 (N4 (N4 (N4 (N4 (Option V)))))))) (Bool.rec (motive := fun _ => N4 (N4 (N4 (N4 (N4 (N4 (N4 (Option V))))))))
  ⟨fl6 v lo hi b n.a, fl6 v lo hi (Nat.add b 4096) n.b, fl6 v lo hi (Nat.add b 8192) n.c, fl6 v lo hi (Nat.add b 12288) n.d⟩ (al7 v) (andB (Nat.ble lo b) (Nat.ble (Nat.add b 16384) hi))) n (Bool.rec (motive := fun _ => Bool) (Nat.ble (Nat.add b 16384) lo) true (Nat.ble hi b))
noncomputable def zrun (a : Nat) (v : V) (t : Tr V) (n : Nat) : Tr V := Tr.rec (motive := fun _ => Tr V) (fun s m f => ⟨fl3 v a (Nat.add a n) 0 s, fl7 v a (Nat.add a n) 64 m, f⟩) t
/-- so many places, from one on, that hold a value -/
noncomputable def zt (l : List (Nat × Nat × V)) : Tr V := List.rec (motive := fun _ => Tr V) .nil (fun e _ ih => zrun e.1 e.2.2 ih e.2.1) l
noncomputable def zh (l : List (Nat × O)) : Tr O := List.rec (motive := fun _ => Tr O) .nil (fun e _ ih => Tr.putO (Pos.of e.1) e.2 ih) l

/-- an operation of a drawn region -/
noncomputable def opJ (tab : Tr IFn) (x : CP) (j : Nat) : IOp := match opsD tab x j with | o :: _ => o.op | [] => .bad

/-- a range over a function: its parts -/
noncomputable def rfP (tab : Tr IFn) (x : CP) : List Pos := match look tab x with | .rfun _ ps _ _ => ps | _ => []
noncomputable def rfA (tab : Tr IFn) (x : CP) : IC := match look tab x with | .rfun _ _ as _ => as | _ => .bad
noncomputable def rfB (tab : Tr IFn) (x : CP) : IC := match look tab x with | .rfun _ _ _ bd => bd | _ => .bad

theorem evalT_imp {chk chk' : List Dm → Bool} (h : ∀ ds, chk ds = true → chk' ds = true) : ∀ (t : Tree) (ds : List Dm), evalT chk t ds = true → evalT chk' t ds = true
  | .run, ds, e => h ds e
  | .eq i c a b, ds, e => by
    unfold evalT at *
    rw [Bool.and_eq_true] at *
    exact ⟨evalT_imp h a _ e.1, evalT_imp h b _ e.2⟩
  | .lt i c a b, ds, e => by
    unfold evalT at *
    rw [Bool.and_eq_true] at *
    exact ⟨evalT_imp h a _ e.1, evalT_imp h b _ e.2⟩
  | .md i c f, ds, e => by
    unfold evalT at *
    rw [Bool.and_eq_true] at *
    exact ⟨e.1, allN_iff.2 fun r hr => evalT_imp h (f r) _ (allN_iff.1 e.2 r hr)⟩

/-- one leaf, from the cut on -/
noncomputable def leaf2 (orc : Orc) (tab : Tr IFn) (sh : Sh) (D : List (Bool × Int)) (q : List V → St1) (ds : List Dm) : Bool :=
  detA sh ds && isTrue (interp (SyB ds D) orc tab (fun v h => some (v, h)) (q (mkArgs sh 0 ds)))

theorem leaf_of {orc : Orc} {tab : Tr IFn} {sh : Sh} {D : List (Bool × Int)} {f n : Nat} {q : List V → St1} (hr : ∀ ds, ready orc tab f (mkArgs sh 0 ds) h0 = true)
    (hq : ∀ (S : Sy) (k0 : K) (ds : List Dm), interp S orc tab k0 (begin f n (mkArgs sh 0 ds) h0) = interp S orc tab k0 (q (mkArgs sh 0 ds))) (ds : List Dm) (h : leaf2 orc tab sh D q ds = true) :
    leaf orc tab (n + 1) f sh D ds = true := by
  unfold leaf2 at h
  unfold leaf
  rw [Bool.and_eq_true] at *
  exact ⟨h.1, by rw [begin_ok (hr ds), hq]; exact h.2⟩
end Go.Ab

/- A call that is told nothing of the memory, as a contract: what it makes is laid into the memory as it is. -/
namespace Go.Ab

noncomputable def eqW (v w : V) : Bool := match v, w with
  | .agg a, .agg b => vsameL a b
  | v, w => vsame1 v w
theorem eqW_eq {v w : V} (h : eqW v w = true) : v = w := by
  unfold eqW at h
  split at h
  · rw [vsameL_eq h]
  · exact vsame1_eq h
noncomputable def eqWL : List V → List V → Bool
  | [], [] => true
  | v :: vs, w :: ws => eqW v w && eqWL vs ws
  | _, _ => false
theorem eqWL_eq : ∀ {vs ws : List V}, eqWL vs ws = true → vs = ws
  | [], [], _ => rfl
  | v :: vs, w :: ws, h => by
    unfold eqWL at h
    rw [Bool.and_eq_true] at h
    rw [eqW_eq h.1, eqWL_eq h.2]
  | [], _ :: _, h => by cases h
  | _ :: _, [], h => by cases h
noncomputable def eqV (v w : V) : Bool := match v, w with
  | .tup a, .tup b => eqWL a b
  | v, w => eqW v w
theorem eqV_eq {v w : V} (h : eqV v w = true) : v = w := by
  unfold eqV at h
  split at h
  · rw [eqWL_eq h]
  · exact eqW_eq h
noncomputable def eqVL (vs : List V) : List V → Bool :=
  List.rec (motive := fun _ => List V → Bool) (fun ws => List.rec (motive := fun _ => Bool) true (fun _ _ _ => false) ws)
    (fun v _ ih ws => List.rec (motive := fun _ => Bool) false (fun w ws' _ => andB (eqV v w) (ih ws')) ws) vs
theorem eqVL_eq {vs ws : List V} (h : eqVL vs ws = true) : vs = ws := by
  induction vs generalizing ws with
  | nil => cases ws; rfl; cases h
  | cons v vs ih =>
    cases ws with
    | nil => cases h
    | cons w ws => obtain ⟨h1, h2⟩ := andB_iff.1 (show andB (eqV v w) (eqVL vs ws) = true from h); rw [eqV_eq h1, ih h2]
noncomputable def eqPL (vs : List (V × V)) : List (V × V) → Bool :=
  List.rec (motive := fun _ => List (V × V) → Bool) (fun ws => List.rec (motive := fun _ => Bool) true (fun _ _ _ => false) ws)
    (fun v _ ih ws => List.rec (motive := fun _ => Bool) false (fun w ws' _ => andB (eqV v.1 w.1) (andB (eqV v.2 w.2) (ih ws'))) ws) vs
theorem eqPL_eq {vs ws : List (V × V)} (h : eqPL vs ws = true) : vs = ws := by
  induction vs generalizing ws with
  | nil => cases ws; rfl; cases h
  | cons v vs ih =>
    cases ws with
    | nil => cases h
    | cons w ws =>
      obtain ⟨h1, h2⟩ := andB_iff.1 (show andB (eqV v.1 w.1) (andB (eqV v.2 w.2) (eqPL vs ws)) = true from h)
      obtain ⟨h2, h3⟩ := andB_iff.1 h2
      rw [ih h3, show v = w from Prod.ext (eqV_eq h1) (eqV_eq h2)]

/-- a cell of a great row -/
noncomputable def cellB (m : Nat) (zs : List V) (t : Tr V) (i : Nat) : Option V :=
  Option.rec (motive := fun _ => Option V) (zs[i % m]?) (fun v => some v) (t.getV (Pos.of i))
noncomputable def eqOV (x y : Option V) : Bool := match x, y with
  | none, none => true
  | some v, some w => eqV v w
  | _, _ => false
theorem eqOV_eq {x y : Option V} (h : eqOV x y = true) : x = y := by
  unfold eqOV at h
  split at h
  · rfl
  · rw [eqV_eq h]
  · cases h
/-- the same cells: the same places -/
noncomputable def simO (o o' : O) : Bool := match o, o' with
  | .lst l, .lst l' => eqVL l l'
  | .big n m zs t, .big n' m' zs' t' => Nat.beq n n' && allN (fun i => eqOV (cellB m zs t i) (cellB m' zs' t' i)) n
  | .mp es, .mp es' => eqPL es es'
  | .dead, .dead => true
  | _, _ => false

section
variable {cx : Cx} {σ : Nat → Int}
theorem simO_rel {ι : Inj} {w : World} {l : Loc} {o o' : O} (h : simO o o' = true) (hr : ORel cx σ ι w l o) : ORel cx σ ι w l o' := by
  unfold simO at h
  split at h
  · rw [← eqVL_eq h]; exact hr
  · rename_i n m zs t n' m' zs' t'
    rw [Bool.and_eq_true, Nat.beq_eq] at h
    obtain ⟨rfl, h⟩ := h
    rw [allN_iff] at h
    have hat : ∀ i, (O.big n m' zs' t').at i = (O.big n m zs t).at i := fun i => by
      by_cases hi : i < n
      · have e := eqOV_eq (h i hi)
        simp only [O.at, if_pos hi]
        have c : ∀ (m : Nat) (zs : List V) (t : Tr V), cellB m zs t i = (match t.get (Pos.of i) with | some v => some v | none => zs[i % m]?) := fun m zs t => by
          unfold cellB; rw [Tr.getV_eq]; cases t.get (Pos.of i) <;> rfl
        rw [c, c] at e; exact e.symm
      · simp only [O.at, if_neg hi]
    obtain ⟨c, ty, fz, h1, h2, h3, h4, h5⟩ := (orel_cells cx σ (o := .big n m zs t) rfl).1 hr
    exact (orel_cells cx σ (o := .big n m' zs' t') rfl).2 ⟨c, ty, fz, h1, h2, h3, h4, fun i v hv => h5 i v (by rw [← hat]; exact hv)⟩
  · rw [← eqPL_eq h]; exact hr
  · trivial
  · cases h

/-- values without places -/
noncomputable def pl1 (v : V) : Bool := match v with | .bool _ => true | .int _ _ => true | .nilp => true | .nils => true | _ => false
noncomputable def plv (v : V) : Bool := match v with | .agg c => c.all pl1 | v => pl1 v
theorem pl1_rel {ι ι' : Inj} {v : V} {x : Value} (h : pl1 v = true) (hv : VR σ ι v x) : VR σ ι' v x := by
  cases v <;> first | exact hv | cases h
theorem pl_list {ι ι' : Inj} : ∀ {vs : List V} {xs : List Value}, vs.all pl1 = true → VRL σ ι vs xs → VRL σ ι' vs xs
  | [], xs, _, hv => VRL.nil.2 (VRL.nil.1 hv)
  | v :: vs, xs, h, hv => by
    rw [List.all_cons, Bool.and_eq_true] at h
    obtain ⟨w, ws, rfl, h1, h2⟩ := hv
    exact ⟨w, ws, rfl, pl1_rel h.1 h1, pl_list h.2 h2⟩
theorem plv_rel {ι ι' : Inj} {v : V} {x : Value} (h : plv v = true) (hv : VR σ ι v x) : VR σ ι' v x := by
  cases v with
  | agg c => obtain ⟨a, e, h1, h2⟩ := VR.agg.1 hv; exact VR.agg.2 ⟨a, e, pl_list h h1, h2⟩
  | _ => first | exact pl1_rel h hv
theorem plvs_rel {ι ι' : Inj} : ∀ {vs : List V} {xs : List Value}, vs.all plv = true → VRL σ ι vs xs → VRL σ ι' vs xs
  | [], xs, _, hv => VRL.nil.2 (VRL.nil.1 hv)
  | v :: vs, xs, h, hv => by
    rw [List.all_cons, Bool.and_eq_true] at h
    obtain ⟨w, ws, rfl, h1, h2⟩ := hv
    exact ⟨w, ws, rfl, plv_rel h.1 h1, plvs_rel h.2 h2⟩
end

/-- the contract: so many blocks stand before it; what it tells; where the next block will lie; what it leaves -/
structure Clo where
  f : Nat
  args : List V
  n : Nat
  v : V
  nx : Nat
  m : Tr O
noncomputable def layT (h : H) (m : Tr O) (n : Nat) : Tr O :=
  Nat.rec (motive := fun _ => Tr O) m (fun i t => Option.rec (motive := fun _ => Tr O) t (fun o => Tr.putO (Pos.of i) o t) (h.get (Pos.of i))) n
noncomputable def Clo.lay (c : Clo) (h : H) : H := .mk (Pos.of c.nx) (layT h c.m c.n)
noncomputable def cloOrc (c : Clo) : Orc := fun f args h =>
  Bool.rec (motive := fun _ => Option (K → R)) none (some (fun k => k c.v (c.lay h))) (andB (Nat.beq f c.f) (andB (Nat.ble h.nx.nat (Nat.succ c.n)) (eqVL args c.args)))
theorem cloOrc_nat (c : Clo) : OrcNat (cloOrc c) := by
  intro f args h k e
  unfold cloOrc at e
  cases hb : andB (Nat.beq f c.f) (andB (Nat.ble h.nx.nat (Nat.succ c.n)) (eqVL args c.args)) with
  | false => rw [hb] at e; cases e
  | true => rw [hb] at e; cases e; exact CpK.ret _ _

/-- at one place: what is kept is as it was left; what lies dead is kept -/
noncomputable def chk1 (o1 o : Option O) : Bool := match o1, o with
  | some o1, some o => simO o1 o
  | none, some _ => false
  | some .dead, none => false
  | _, none => true
noncomputable def chkC (c : Clo) (v : V) (h1 : H) : Bool :=
  eqV v c.v && Nat.beq h1.nx.nat (Nat.succ c.nx) && Nat.ble c.n c.nx && allN (fun i => match Nat.ble c.n i with | true => chk1 (h1.get (Pos.of i)) (c.m.get (Pos.of i)) | false => (match c.m.get (Pos.of i) with | some _ => false | none => true)) c.nx
/-- the keys that a row of blocks has -/
theorem zh_get (l : List (Nat × O)) (b : Pos) (o : O) (h : (zh l).get b = some o) : ∃ i, (i, o) ∈ l ∧ b = Pos.of i := by
  induction l with
  | nil => rw [show zh [] = .nil from rfl, Tr.get_nil] at h; cases h
  | cons e l ih =>
    have h : (Tr.put (Pos.of e.1) e.2 (zh l)).get b = some o := h
    by_cases hb : b = Pos.of e.1
    · subst hb; rw [Tr.get_put_same] at h; cases h; exact ⟨e.1, by simp, rfl⟩
    · rw [Tr.get_put_ne _ _ _ _ hb] at h
      obtain ⟨i, h1, h2⟩ := ih h
      exact ⟨i, by simp [h1], h2⟩

theorem layT_get (h : H) (m : Tr O) (n : Nat) (b : Pos) : (layT h m n).get b = if b.toNat ≤ n then (match h.get b with | some o => some o | none => m.get b) else m.get b := by
  induction n with
  | zero => rw [if_neg (by have := b.toNat_pos; omega)]; rfl
  | succ n ih =>
    show (Option.rec (motive := fun _ => Tr O) (layT h m n) (fun o => Tr.put (Pos.of n) o (layT h m n)) (h.get (Pos.of n)) : Tr O).get b = _
    by_cases hb : b = Pos.of n
    · have hn : b.toNat = n + 1 := by rw [hb, Pos.toNat_of]
      rw [if_pos (by omega)]
      cases hg : h.get (Pos.of n) with
      | none => show (layT h m n).get b = _; rw [ih, if_neg (by omega), hb, hg]
      | some o => show (Tr.put (Pos.of n) o (layT h m n)).get b = _; rw [hb, Tr.get_put_same, hg]
    · have hne : b.toNat ≠ n + 1 := fun e => hb (Pos.toNat_inj (by rw [e, Pos.toNat_of]))
      have e1 : (Option.rec (motive := fun _ => Tr O) (layT h m n) (fun o => Tr.put (Pos.of n) o (layT h m n)) (h.get (Pos.of n)) : Tr O).get b = (layT h m n).get b := by
        cases h.get (Pos.of n) with
        | none => rfl
        | some o => exact Tr.get_put_ne _ _ _ _ hb
      rw [e1, ih]
      by_cases hle : b.toNat ≤ n
      · rw [if_pos hle, if_pos (by omega)]
      · rw [if_neg hle, if_neg (by omega)]

theorem cloOrc_ok {P : Program} {cx : Cx} {S : Sy} {orc : Orc} {tab : Tr IFn} {c : Clo} {nf : Nat} {fn : Func} {cd : Code} (hS : ∀ σ, SyOk σ P S) (hy : Hyp P cx) (hm : P.follows .mixedOrders = true) (hon : OrcNat orc) (hoo : ∀ σ, OrcOk P cx σ orc) (htab : TabOk P cx tab)
    (hf1 : P.funcs[c.f]? = some fn) (hf2 : fn.body = some cd) (hf3 : (fn.name == "runtime.NumGoroutine") = false) (hpl : c.args.all plv = true) (hk : ∀ b o, c.m.get b = some o → b.toNat ≤ c.nx)
    {v1 : V} {h1 : H} (hx : (env S orc tab nf).callV (.fn c.f [] []) c.args (.mk (Pos.of c.n) .nil) (fun v h => some (v, h)) = some (v1, h1)) (hc : chkC c v1 h1 = true) (σ : Nat → Int) : OrcOk P cx σ (cloOrc c) := by
  intro f args h cc k r e hkr
  unfold cloOrc at e
  cases hb : andB (Nat.beq f c.f) (andB (Nat.ble h.nx.nat (Nat.succ c.n)) (eqVL args c.args)) with
  | false => rw [hb] at e; cases e
  | true =>
    rw [hb] at e
    cases e
    obtain ⟨hb1, hb2⟩ := andB_iff.1 hb
    obtain ⟨hb4, hb3⟩ := andB_iff.1 hb2
    rw [Nat.beq_eq] at hb1
    rw [Nat.ble_eq] at hb4
    have hargs := eqVL_eq hb3
    subst hb1 hargs
    have hnx : h.nx.toNat ≤ c.n + 1 := hb4
    unfold chkC at hc
    simp only [Bool.and_eq_true, Nat.beq_eq, Nat.ble_eq] at hc
    obtain ⟨⟨⟨hv, hnx1⟩, hle⟩, hall⟩ := hc
    have hv := eqV_eq hv
    subst hv
    have hnx1 : h1.nx.toNat = c.nx + 1 := hnx1
    rw [allN_iff] at hall
    refine ⟨_, _, hkr, fun ι w xs hr hvs => ⟨run_callFunc hf1 hf2 hf3 _ _, ?_⟩⟩
    let ι0 : Inj := fun _ => none
    have hrun := run_law (ι := ι0) (w := w) (hS σ) hy hm hon (hoo σ) htab nf hx (rel_none _) (plvs_rel hpl hvs)
    refine CallsIn.mono (callsIn_Fz (ro := none) hrun) ?_
    rintro e w' ⟨v', ι1, rfl, hv1, hr1, hx1⟩
    have hlow : ∀ b l, ι1 b = some l → c.n + 1 ≤ b.toNat := fun b l hb => by
      have := hx1.fresh b l hb rfl
      have e : (H.mk (Pos.of c.n) Tr.nil).nx.toNat = c.n + 1 := Pos.toNat_of c.n
      omega
    let ι' : Inj := fun b => if b.toNat < c.n + 1 then ι b else ι1 b
    have lt' : ∀ {b : Pos}, b.toNat < c.n + 1 → ι' b = ι b := fun {b} hb => if_pos hb
    have ge' : ∀ {b : Pos}, ¬ b.toNat < c.n + 1 → ι' b = ι1 b := fun {b} hb => if_neg hb
    have le1 : Le ι1 ι' := fun b l hb => by rw [ge' (by have := hlow b l hb; omega)]; exact hb
    have le0 : Le ι ι' := fun b l hb => by rw [lt' (by have := (hr.bound b l hb).1; omega)]; exact hb
    have hmlow : ∀ b o, c.m.get b = some o → c.n + 1 ≤ b.toNat := fun b o hbo => by
      refine Nat.le_of_not_lt fun hlt => ?_
      have hpos := b.toNat_pos
      have hb2 : b = Pos.of (b.toNat - 1) := Pos.toNat_inj (by rw [Pos.toNat_of]; omega)
      have := hall (b.toNat - 1) (by omega)
      have hbl : Nat.ble c.n (b.toNat - 1) = false := by
        cases hq : Nat.ble c.n (b.toNat - 1) with
        | false => rfl
        | true => rw [Nat.ble_eq] at hq; omega
      rw [hbl, ← hb2, hbo] at this
      cases this
    have layLo : ∀ {b : Pos}, b.toNat < c.n + 1 → (c.lay h).get b = h.get b := fun {b} hb => by
      show (layT h c.m c.n).get b = _
      rw [layT_get, if_pos (by omega)]
      cases hg : h.get b with
      | some o => rfl
      | none =>
        cases hg2 : c.m.get b with
        | none => rfl
        | some o => have := hmlow b o hg2; omega
    have layHi : ∀ {b : Pos}, ¬ b.toNat < c.n + 1 → (c.lay h).get b = c.m.get b := fun {b} hb => by
      show (layT h c.m c.n).get b = _
      rw [layT_get, if_neg (by omega)]
    have at1 : ∀ {b : Pos}, ¬ b.toNat < c.n + 1 → b.toNat ≤ c.nx → chk1 (h1.get b) (c.m.get b) = true := fun {b} hb hb2 => by
      have he : b = Pos.of (b.toNat - 1) := Pos.toNat_inj (by rw [Pos.toNat_of]; omega)
      have := hall (b.toNat - 1) (by omega)
      have hbl : Nat.ble c.n (b.toNat - 1) = true := by rw [Nat.ble_eq]; omega
      rw [hbl, ← he] at this
      exact this
    have hnx' : (c.lay h).nx.toNat = c.nx + 1 := Pos.toNat_of c.nx
    have dead1 : ∀ {b : Pos} {l : Loc}, ¬ b.toNat < c.n + 1 → ι1 b = some l → (c.lay h).get b ≠ some .dead → h1.get b ≠ some .dead := fun {b l} hb hl hd hd1 => by
      have := at1 hb (by have := (hr1.bound b l hl).1; omega)
      rw [layHi hb] at hd
      rw [hd1] at this
      cases hg : c.m.get b with
      | none => rw [hg] at this; cases this
      | some o =>
        rw [hg] at this hd
        cases o with
        | dead => exact hd rfl
        | _ => cases this
    have hrel : Rel cx σ ι' (c.lay h) w' := by
      refine ⟨fun b l hb => ?_, fun b b' l l' hb hb' e hd hd' => ?_, fun b l o hb ho => ?_⟩
      · rw [hnx']
        by_cases hlt : b.toNat < c.n + 1
        · rw [lt' hlt] at hb
          exact ⟨by omega, by have := (hr.bound b l hb).2; have := hx1.size; omega⟩
        · rw [ge' hlt] at hb
          exact ⟨by have := (hr1.bound b l hb).1; omega, (hr1.bound b l hb).2⟩
      · by_cases hlt : b.toNat < c.n + 1
        · rw [lt' hlt] at hb
          by_cases hlt' : b'.toNat < c.n + 1
          · rw [lt' hlt'] at hb'
            exact hr.inj b b' l l' hb hb' e (by rw [← layLo hlt]; exact hd) (by rw [← layLo hlt']; exact hd')
          · rw [ge' hlt'] at hb'
            have h2 := (hr.bound b l hb).2
            rcases hx1.rng b' l' hb' rfl with h3 | ⟨b0, l0, h3, _⟩
            · omega
            · cases h3
        · rw [ge' hlt] at hb
          by_cases hlt' : b'.toNat < c.n + 1
          · rw [lt' hlt'] at hb'
            have h2 := (hr.bound b' l' hb').2
            rcases hx1.rng b l hb rfl with h3 | ⟨b0, l0, h3, _⟩
            · omega
            · cases h3
          · rw [ge' hlt'] at hb'
            exact hr1.inj b b' l l' hb hb' e (dead1 hlt hb hd) (dead1 hlt' hb' hd')
      · by_cases hlt : b.toNat < c.n + 1
        · rw [lt' hlt] at hb
          rw [layLo hlt] at ho
          exact ((hr.obj b l o hb ho).mono le0).other fun x hx => hx1.keepW _ _ hx fun _ _ hn => by cases hn
        · rw [ge' hlt] at hb
          rw [layHi hlt] at ho
          have := at1 hlt (by have := (hr1.bound b l hb).1; omega)
          rw [ho] at this
          cases hg : h1.get b with
          | none => rw [hg] at this; cases this
          | some o1 =>
            rw [hg] at this
            have hs : simO o1 o = true := by cases o1 <;> exact this
            exact (simO_rel hs (hr1.obj b l o1 hb hg)).mono le1
    refine ⟨v', ι', rfl, VR.mono le1 _ _ hv1, hrel, ?_⟩
    refine ⟨le0, fun b l hb hn => ?_, fun b hb hn => ?_, by rw [hnx']; omega, fun B o hB _ => hx1.keepW B o hB (fun _ _ hn => by cases hn), hx1.size, fun b l hb hn => ?_, hx1.os, hx1.out, hx1.tape⟩
    · refine Nat.le_of_not_lt fun hlt => ?_
      rw [lt' (by omega)] at hb; rw [hn] at hb; cases hb
    · exact layLo (by omega)
    · by_cases hlt : b.toNat < c.n + 1
      · rw [lt' hlt] at hb; rw [hn] at hb; cases hb
      · rw [ge' hlt] at hb
        rcases hx1.rng b l hb rfl with h3 | ⟨b0, l0, h3, _⟩
        · exact .inl h3
        · cases h3

/-- one contract, or else another one -/
noncomputable def orElse (a b : Orc) : Orc := fun f args h => Option.rec (motive := fun _ => Option (K → R)) (b f args h) (fun c => some c) (a f args h)
theorem orElse_nat {a b : Orc} (ha : OrcNat a) (hb : OrcNat b) : OrcNat (orElse a b) := by
  intro f args h c e
  unfold orElse at e
  cases hx : a f args h with
  | none => rw [hx] at e; exact hb f args h c e
  | some c' => rw [hx] at e; cases e; exact ha f args h c hx
theorem orElse_ok {P : Program} {cx : Cx} {σ : Nat → Int} {a b : Orc} (ha : OrcOk P cx σ a) (hb : OrcOk P cx σ b) : OrcOk P cx σ (orElse a b) := by
  intro f args h c k r e
  unfold orElse at e
  cases hx : a f args h with
  | none => rw [hx] at e; exact hb f args h c k r e
  | some c' => rw [hx] at e; cases e; exact ha f args h c k r hx
/-- no symbol at all -/
noncomputable def noSy : Sy := ⟨fun _ _ _ => none, fun _ _ => none⟩
theorem noSy_ok {P : Program} (σ : Nat → Int) : SyOk σ P noSy := ⟨fun _ _ _ _ h => (by cases h), fun _ _ _ h => (by cases h)⟩
end Go.Ab

/- The machine's great steps: so many rounds of a loop at once; on, till a function's loop begins. Scripts of such steps. -/
namespace Go.Ab

section
variable (S : Sy) (orc : Orc) (tab : Tr IFn) (k0 : K)
noncomputable def iterL (b : IC) (k : Nat) : Nat → T → H → Option (Nat × T × H) :=
  Nat.rec (motive := fun _ => Nat → T → H → Option (Nat × T × H)) (fun m t h => some (m, t, h))
    (fun _ ih m t h => match m with
      | 0 => none
      | m + 1 => match once S b (env S orc tab m) t h with
        | some (t', h') => ih m t' h'
        | none => none) k
/-- so many rounds of the loop that begins, or goes on, here -/
noncomputable def iter (k : Nat) (q : St1) : Option St1 := match q.ct with
  | .c x => match look tab x with
    | .loop _ => match iterL S orc tab (look tab (x.sub 0)) k q.n q.t q.h with
      | some (m, t, h) => some ⟨.n, q.n, t, h, .loop (x.sub 0) m :: q.s⟩
      | none => none
    | _ => none
  | .n => match q.s with
    | .loop x n :: s => match iterL S orc tab (look tab x) k n q.t q.h with
      | some (m, t, h) => some ⟨.n, q.n, t, h, .loop x m :: s⟩
      | none => none
    | _ => none
  | _ => none
/-- does a loop of a function begin here? -/
noncomputable def atLoop (f : Nat) (q : St1) : Bool := match q.ct with
  | .c x => Nat.beq x.f f && (match look tab x with | .loop _ => true | _ => false)
  | _ => false
/-- steps, till a loop of a function begins -/
noncomputable def till (inn : Nat → Bool) (f : Nat) (k : Nat) : St1 → Option St1 :=
  Nat.rec (motive := fun _ => St1 → Option St1) (fun _ => none) (fun _ ih q => match atLoop tab f q with
    | true => some q
    | false => match step S orc tab inn q with | some q' => ih q' | none => none) k
/-- steps, till control is at the begin of a function -/
noncomputable def atFn (f : Nat) (q : St1) : Bool := match q.ct with
  | .c x => Nat.beq x.f f && (match x.p with | [] => true | _ => false)
  | _ => false
/-- steps, till control is back in a function -/
noncomputable def inFn (f : Nat) (q : St1) : Bool := match q.ct with
  | .c x => Nat.beq x.f f
  | .o x _ => Nat.beq x.f f
  | .d x _ _ => Nat.beq x.f f
  | _ => false
noncomputable def backTo (inn : Nat → Bool) (f : Nat) (k : Nat) : St1 → Option St1 :=
  Nat.rec (motive := fun _ => St1 → Option St1) (fun _ => none) (fun _ ih q => match step S orc tab inn q with
    | some q' => (match inFn f q' with | true => some q' | false => ih q')
    | none => none) k
noncomputable def enter (inn : Nat → Bool) (f : Nat) (k : Nat) : St1 → Option St1 :=
  Nat.rec (motive := fun _ => St1 → Option St1) (fun _ => none) (fun _ ih q => match step S orc tab inn q with
    | some q' => (match atFn f q' with | true => some q' | false => ih q')
    | none => none) k
end

inductive Cmd where
  | st (n : Nat)
  | it (n : Nat)
  | to (f : Nat)
  | fn (f : Nat)
  | bk (f : Nat)
noncomputable def cmd (S : Sy) (orc : Orc) (tab : Tr IFn) (inn : Nat → Bool) (c : Cmd) (q : St1) : Option St1 := match c with
  | .st n => steps S orc tab inn n q
  | .it n => iter S orc tab n q
  | .to f => till S orc tab inn f 100000 q
  | .fn f => enter S orc tab inn f 100000 q
  | .bk f => backTo S orc tab inn f 100000 q
noncomputable def script (S : Sy) (orc : Orc) (tab : Tr IFn) (inn : Nat → Bool) (l : List Cmd) : St1 → Option St1 :=
  List.rec (motive := fun _ => St1 → Option St1) (fun q => some q) (fun c _ ih q => match cmd S orc tab inn c q with | some q' => ih q' | none => none) l

section
variable {S : Sy} {orc : Orc} {tab : Tr IFn} {k0 : K}
theorem iterL_ok (hon : OrcNat orc) {b : IC} (kn : T → H → R) (kx : Option Nat → T → H → R) : ∀ {k n m : Nat} {t t' : T} {h h' : H}, iterL S orc tab b k n t h = some (m, t', h') →
    lpE (env S orc tab n) b t h kn kx = lpE (env S orc tab m) b t' h' kn kx
  | 0, n, m, t, t', h, h', e => by cases e; rfl
  | k + 1, n, m, t, t', h, h', e => by
    cases n with
    | zero => cases e
    | succ n =>
      have e : (match once S b (env S orc tab n) t h with | some (t', h') => iterL S orc tab b k n t' h' | none => none) = some (m, t', h') := e
      split at e
      · rename_i t1 h1 h0
        rw [← iterL_ok hon kn kx e]
        exact once_ok hon h0 _ _
      · cases e
theorem iter_ok (hon : OrcNat orc) {k : Nat} {q q' : St1} (e : iter S orc tab k q = some q') : interp S orc tab k0 q = interp S orc tab k0 q' := by
  obtain ⟨ct, n, t, h, s⟩ := q
  unfold iter at e
  cases ct with
  | c x =>
    simp only at e
    split at e
    · rename_i b hx
      have hl : look tab (x.sub 0) = b := by rw [look_sub (by rw [hx]; simp), hx]; rfl
      split at e
      · rename_i m t' h' hi
        cases e
        show code S (look tab x) _ t h _ _ = lpE (env S orc tab m) (look tab (x.sub 0)) t' h' _ _
        rw [← iterL_ok hon _ _ hi, hx, hl]; rfl
      · cases e
    · cases e
  | n =>
    simp only at e
    split at e
    · rename_i x n' s'
      split at e
      · rename_i m t' h' hi
        cases e
        show lpE (env S orc tab n') (look tab x) t h _ _ = lpE (env S orc tab m) (look tab x) t' h' _ _
        rw [← iterL_ok hon _ _ hi]
      · cases e
    · cases e
  | o x i => cases e
  | d x i p => cases e
  | x ex => cases e
theorem till_ok (hon : OrcNat orc) {inn : Nat → Bool} {f : Nat} : ∀ {k : Nat} {q q' : St1}, till S orc tab inn f k q = some q' → interp S orc tab k0 q = interp S orc tab k0 q'
  | 0, q, q', e => by cases e
  | k + 1, q, q', e => by
    have e : (match atLoop tab f q with | true => some q | false => match step S orc tab inn q with | some q' => till S orc tab inn f k q' | none => none) = some q' := e
    split at e
    · cases e; rfl
    · split at e
      · rename_i q1 h1
        rw [step_ok hon h1]; exact till_ok hon e
      · cases e
theorem enter_ok (hon : OrcNat orc) {inn : Nat → Bool} {f : Nat} : ∀ {k : Nat} {q q' : St1}, enter S orc tab inn f k q = some q' → interp S orc tab k0 q = interp S orc tab k0 q'
  | 0, q, q', e => by cases e
  | k + 1, q, q', e => by
    have e : (match step S orc tab inn q with | some q' => (match atFn f q' with | true => some q' | false => enter S orc tab inn f k q') | none => none) = some q' := e
    split at e
    · rename_i q1 h1
      rw [step_ok hon h1]
      split at e
      · cases e; rfl
      · exact enter_ok hon e
    · cases e
theorem backTo_ok (hon : OrcNat orc) {inn : Nat → Bool} {f : Nat} : ∀ {k : Nat} {q q' : St1}, backTo S orc tab inn f k q = some q' → interp S orc tab k0 q = interp S orc tab k0 q'
  | 0, q, q', e => by cases e
  | k + 1, q, q', e => by
    have e : (match step S orc tab inn q with | some q' => (match inFn f q' with | true => some q' | false => backTo S orc tab inn f k q') | none => none) = some q' := e
    split at e
    · rename_i q1 h1
      rw [step_ok hon h1]
      split at e
      · cases e; rfl
      · exact backTo_ok hon e
    · cases e
theorem cmd_ok (hon : OrcNat orc) {inn : Nat → Bool} {c : Cmd} {q q' : St1} (e : cmd S orc tab inn c q = some q') : interp S orc tab k0 q = interp S orc tab k0 q' := by
  cases c with
  | st n => exact steps_ok hon e
  | it n => exact iter_ok hon e
  | to f => exact till_ok (f := f) (k := 100000) hon (show till S orc tab inn f 100000 q = some q' from e)
  | bk f => exact backTo_ok (f := f) (k := 100000) hon (show backTo S orc tab inn f 100000 q = some q' from e)
  | fn f => exact enter_ok (f := f) (k := 100000) hon (show enter S orc tab inn f 100000 q = some q' from e)
theorem script_ok (hon : OrcNat orc) {inn : Nat → Bool} : ∀ {l : List Cmd} {q q' : St1}, script S orc tab inn l q = some q' → interp S orc tab k0 q = interp S orc tab k0 q'
  | [], q, q', e => by cases e; rfl
  | c :: l, q, q', e => by
    have e : (match cmd S orc tab inn c q with | some q' => script S orc tab inn l q' | none => none) = some q' := e
    split at e
    · rename_i q1 h1
      rw [cmd_ok hon h1]; exact script_ok hon e
    · cases e
end
end Go.Ab
namespace Go.Ab
/-- cases in parts -/
theorem parts {f : Nat → Bool} (k n : Nat) (hk : 0 < k) (h : ∀ j, j < n → allN (fun r => f (k * j + r)) k = true) : ∀ r, r < k * n → f r = true := fun r hr => by
  have := allN_iff.1 (h (r / k) (Nat.div_lt_of_lt_mul hr)) (r % k) (Nat.mod_lt _ hk)
  rwa [Nat.div_add_mod] at this
end Go.Ab
namespace Go.Ab
/-- one leaf, from a cut on -/
theorem leaf_cut {orc : Orc} {tab : Tr IFn} {sh : Sh} {D : List (Bool × Int)} {f n : Nat} {ds : List Dm} {q : St1} (hr : ready orc tab f (mkArgs sh 0 ds) h0 = true)
    (hq : ∀ k0 : K, interp (SyB ds D) orc tab k0 (begin f n (mkArgs sh 0 ds) h0) = interp (SyB ds D) orc tab k0 q)
    (h : (detA sh ds && isTrue (interp (SyB ds D) orc tab (fun v h => some (v, h)) q)) = true) : leaf orc tab (n + 1) f sh D ds = true := by
  unfold leaf
  rw [Bool.and_eq_true] at *
  exact ⟨h.1, by rw [begin_ok hr, hq]; exact h.2⟩
end Go.Ab

/- The table of functions with hints: the order of a drawn region and which readings may be late are told, and held against the compile once. -/
namespace Go.Ab
section
variable (cx : Cx)
noncomputable def hintAt (r : Nat) (hs : List (Nat × List (Nat × Nat))) : Option (List (Nat × Nat)) :=
  List.rec (motive := fun _ => Option (List (Nat × Nat))) none (fun h _ ih => Bool.rec (motive := fun _ => Option (List (Nat × Nat))) ih (some h.2) (Nat.beq h.1 r)) hs
noncomputable def opAtH (nt : Nat) (ops : Array Oper) (p : Nat × Nat) : IOpr := match ops[p.1]? with
  | some o => compOpr cx nt ops p.2 o
  | none => badOpr
noncomputable def compC2 (hs : List (Nat × List (Nat × Nat))) (nt : Nat) (inR : Bool) : Code → IC
  | .skip => .skip
  | .ret => .ret
  | .region r ops draw => match draw with
    | true => (match hintAt r hs with
      | some l => .regd (l.map (opAtH cx nt ops))
      | none => .bad)
    | false => .reg (ops.toList.map (compOpr cx nt ops 0))
  | .seq a b => .seq (compC2 hs nt inR a) (compC2 hs nt inR b)
  | .cond c a b => match ofOpd c with
    | some x => .cond x (compC2 hs nt inR a) (compC2 hs nt inR b)
    | none => .bad
  | .block id b => .block id (compC2 hs nt inR b)
  | .scope b => compC2 hs nt inR b
  | .label _ => .skip
  | .loop b => .loop (compC2 hs nt inR b)
  | .exit id => .exit id
  | .rangeFunc f ps a b => match ofOpd f with
    | some x => match !inR && ps.toList.all (· < nt) with
      | true => .rfun x (ps.toList.map Pos.of) (compC2 hs nt true a) (compC2 hs nt true b)
      | false => .bad
    | none => .bad
  | _ => .bad
noncomputable def compF2 (hs : List (Nat × List (Nat × Nat))) (f : Func) : Option IFn := match f.body, compRes cx f.results.toList with
  | some b, some r => some (.mk (compC2 cx hs f.ntmps false b) f.ntmps r)
  | _, _ => none
end
/-- the hints of a function's text (to be printed) -/
noncomputable def hintsC (cx : Cx) (nt : Nat) : Code → List (Nat × List (Nat × Nat))
  | .region r ops draw => match draw with
    | true => [(r, ((order ops ops.size []).zip ((lateE ((order ops ops.size []).map (entOf cx nt ops))).map fun o => o.late)))]
    | false => []
  | .seq a b => hintsC cx nt a ++ hintsC cx nt b
  | .cond _ a b => hintsC cx nt a ++ hintsC cx nt b
  | .block _ b => hintsC cx nt b
  | .scope b => hintsC cx nt b
  | .loop b => hintsC cx nt b
  | .rangeFunc _ _ a b => hintsC cx nt a ++ hintsC cx nt b
  | _ => []

noncomputable def tabOf (l : List (Nat × Option IFn)) : Tr IFn :=
  List.rec (motive := fun _ => Tr IFn) .nil (fun e _ ih => Option.rec (motive := fun _ => Tr IFn) ih (fun x => Tr.put (Pos.of e.1) x ih) e.2) l
theorem tabOf_get (l : List (Nat × Option IFn)) (i : Nat) (x : IFn) (h : (tabOf l).get (Pos.of i) = some x) : (i, some x) ∈ l := by
  induction l with
  | nil =>
    have h : (Tr.nil : Tr IFn).get (Pos.of i) = some x := h
    rw [Tr.get_nil] at h; cases h
  | cons e l ih =>
    obtain ⟨n, o⟩ := e
    cases o with
    | none => exact List.mem_cons_of_mem _ (ih h)
    | some y =>
      have h : (Tr.put (Pos.of n) y (tabOf l)).get (Pos.of i) = some x := h
      by_cases e : i = n
      · subst e; rw [Tr.get_put_same] at h; cases h; exact List.mem_cons_self
      · rw [Tr.get_put_ne _ _ _ _ (Pos.of_ne e)] at h; exact List.mem_cons_of_mem _ (ih h)
inductive Good (P : Program) (cx : Cx) : List (Nat × Option IFn) → Prop
  | nil : Good P cx []
  | cons {i : Nat} {fn : Func} {o : Option IFn} {l : List (Nat × Option IFn)} (h1 : P.funcs[i]? = some fn) (h2 : fn.body.isSome = true) (h3 : (fn.name == "runtime.NumGoroutine") = false) (h4 : compF cx fn = o) (t : Good P cx l) : Good P cx ((i, o) :: l)
theorem Good.mem {P : Program} {cx : Cx} {l : List (Nat × Option IFn)} (h : Good P cx l) : ∀ i o, (i, o) ∈ l → ∃ fn, P.funcs[i]? = some fn ∧ fn.body.isSome = true ∧ (fn.name == "runtime.NumGoroutine") = false ∧ compF cx fn = o := by
  induction h with
  | nil => intro i o h; cases h
  | cons h1 h2 h3 h4 _ ih =>
    intro i o h
    rcases List.mem_cons.1 h with e | h
    · cases e; exact ⟨_, h1, h2, h3, h4⟩
    · exact ih i o h
theorem tab_of2 {P : Program} {cx : Cx} {l : List (Nat × Option IFn)} (h : Good P cx l) : TabOk P cx (tabOf l) where
  ok := by
    intro f x hx
    obtain ⟨fn, h1, h2, h3, h4⟩ := h.mem f _ (tabOf_get l f x hx)
    cases hb : fn.body with
    | none => rw [hb] at h2; cases h2
    | some c => exact ⟨fn, c, h1, hb, h4, h3⟩
end Go.Ab
