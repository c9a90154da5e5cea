/- A function's contract; the whole environment; the law: an abstract run tells a call's. -/
import Derived.Test.YtnhakkolafedhaaGreatAcB
set_option linter.unusedVariables false
set_option linter.unusedSimpArgs false
namespace Go.Ab
section
variable {P : Program} {cx : Cx} {σ : Nat → Int} {S : Sy} {call : Nat → List V → H → K → R} {round : Pos → List V → H → K → R} {loop : IC → T → H → (T → H → R) → (Option Nat → T → H → R) → R}

/-- the table's functions are the program's -/
structure TabOk (P : Program) (cx : Cx) (tab : Tr IFn) : Prop where
  ok : ∀ f x, tab.get (Pos.of f) = some x → ∃ fn c, P.funcs[f]? = some fn ∧ fn.body = some c ∧ compF cx fn = some x ∧ (fn.name == "runtime.NumGoroutine") = false

theorem run_callFunc {f : Nat} {fn : Func} {c : Code} (h1 : P.funcs[f]? = some fn) (h2 : fn.body = some c) (h3 : (fn.name == "runtime.NumGoroutine") = false) (xs : Array Value) (w : World) : (callFunc f xs).run P w = .ok (.enter f xs) w := by
  unfold callFunc
  simp only [Sem.run_bind, run_program, Result.andThen_ok, h1, h3, h2, Option.isNone_some, Bool.false_eq_true, if_false, Sem.run_pure]

theorem ld1_real (hy : Hyp P cx) {ι : Inj} {h : H} {w : World} (hr : Rel cx σ ι h w) {b : Pos} {i : Nat} {ty : TypeId} (ha : aggOf cx ty = some false) {l : Loc} (hl : ι b = some l) {k : V → R} {r : V × H} (e : h.ld1 b i k = some r) :
    ∃ v x, k v = some r ∧ VR σ ι v x ∧ (loadVar ty ⟨l.blk, l.off + i, none⟩).run P w = .ok x w := by
  obtain ⟨ob, hb, e⟩ := H.getK_some e
  obtain ⟨v, hc, hi, hv, e⟩ := O.getK_some e
  obtain ⟨c, tyy, fz, h2, h3, h4, h5, h6⟩ := (orel_cells cx σ hc).1 (hr.obj b l ob hl hb)
  obtain ⟨xv, hx1, hx2, _⟩ := h6 i v hv
  exact ⟨v, xv, e, hx2, by simp [loadVar, aggOf_spec hy ha, cell_of w h2, hx1]⟩

theorem ldn_real (hy : Hyp P cx) {ι : Inj} {h : H} {w : World} (hr : Rel cx σ ι h w) {b : Pos} {i n : Nat} {ty : TypeId} (ha : aggOf cx ty = some true) (hs : szOf cx ty = some n) {l : Loc} (hlo : ι b = some l) {k : List V → R} {r : V × H} (e : h.ldn b i n k = some r) :
    ∃ vs x, k vs = some r ∧ VR σ ι (.agg vs) x ∧ (loadVar ty ⟨l.blk, l.off + i, none⟩).run P w = .ok x w := by
  obtain ⟨ob, hb, e⟩ := H.getK_some e
  obtain ⟨vs, hl, hn, hat, e⟩ := getcs_some e
  have hone : ∀ v ∈ vs, v.one = true := fun v hv => by
    obtain ⟨j, hj, hjv⟩ := List.getElem_of_mem hv
    obtain ⟨c, tyy, fz, h2, h3, h4, h5, h6⟩ := (orel_cells cx σ (hn (by omega)).1).1 (hr.obj b l ob hlo hb)
    exact (h6 (i + j) v (by rw [hat j (by omega), List.getElem?_eq_getElem hj, hjv])).choose_spec.2.2
  have key : ∃ ws : List Value, VRL σ ι vs ws ∧ ∀ j v, ws[j]? = some v → w.cell? ((⟨l.blk, l.off + i, none⟩ : Addr).add j) = some v := by
    by_cases hz : n = 0
    · have : vs = [] := List.eq_nil_of_length_eq_zero (by omega)
      subst this
      exact ⟨[], rfl, by simp⟩
    · obtain ⟨c, tyy, fz, h2, h3, h4, h5, h6⟩ := (orel_cells cx σ (hn hz).1).1 (hr.obj b l ob hlo hb)
      refine ⟨(c.toList.drop (l.off + i)).take n, VRL.of_get ?_ fun j v hj => ?_, fun j v hj => ?_⟩
      · have := (hn hz).2; simp; omega
      · have hj' : j < n := by rw [← hl]; exact (List.getElem?_eq_some_iff.1 hj).1
        obtain ⟨xv, hx1, hx2, _⟩ := h6 (i + j) v (by rw [hat j hj', hj])
        refine ⟨xv, ?_, hx2⟩
        simp [hj', List.getElem?_drop, ← Nat.add_assoc] at hx1 ⊢; exact hx1
      · rw [addr_add, cell_of w h2]
        have hj' : j < n := by have := (List.getElem?_eq_some_iff.1 hj).1; simp at this; omega
        simpa [List.getElem?_take, hj', List.getElem?_drop] using hj
  obtain ⟨ws, hw1, hw2⟩ := key
  have hlen : ws.length = n := by rw [hw1.length, hl]
  have := run_loadCells_list (P := P) w (⟨l.blk, l.off + i, none⟩ : Addr) ws hw2
  rw [hlen] at this
  exact ⟨vs, .agg ws.toArray, e, VR.agg.2 ⟨ws.toArray, rfl, by simpa using hw1, hone⟩, by simp [loadVar, aggOf_spec hy ha, szOf_spec hy hs, this]⟩

def resOf (tmps : Array Value) : ResultVar → Sem Value
  | .tmp t => pure (tmps.getD t undef)
  | .cell a t => do loadVar t (← asAddr (tmps.getD a undef))

theorem res_sound (hy : Hyp P cx) {ι : Inj} {t : T} {h : H} {tmps : Array Value} {w : World} (hr : Rel cx σ ι h w) (ht : TRel σ ι t tmps) : ∀ (l : List ResultVar) (l' : List (Pos × Option Nat × Bool)) {k : List V → R} {r : V × H}, compRes cx l = some l' → resK l' t h k = some r →
    ∃ vs xs, k vs = some r ∧ VRL σ ι vs xs ∧ (l.mapM (resOf tmps)).run P w = .ok xs w
  | [], l', k, r, hc, hx => by simp [compRes] at hc; subst hc; exact ⟨[], [], hx, rfl, rfl⟩
  | .tmp n :: l, l', k, r, hc, hx => by
    unfold compRes at hc
    cases h1 : compRes cx l with
    | none => simp [h1] at hc
    | some r' =>
      simp [h1] at hc; subst hc
      obtain ⟨vs, xs, e1, e2, e3⟩ := res_sound hy hr ht l r' (k := fun vs => k ((Opd.t (Pos.of n)).ev t :: vs)) h1 hx
      refine ⟨_, _, e1, ⟨_, _, rfl, ht n, e2⟩, ?_⟩
      rw [List.mapM_cons]
      simp only [Sem.run_bind, e3, Result.andThen_ok, Sem.run_pure]
      simp only [resOf, Sem.run_pure, Result.andThen_ok, e3]
  | .cell n ty :: l, l', k, r, hc, hx => by
    unfold compRes at hc
    cases hs : szOf cx ty with
    | none => simp [hs] at hc
    | some s => cases hg : aggOf cx ty with
      | none => simp [hs, hg] at hc
      | some g => cases h1 : compRes cx l with
        | none => simp [hs, hg, h1] at hc
        | some r' =>
          simp [hs, hg, h1] at hc; subst hc
          have hx : ((Opd.t (Pos.of n)).ev t).onPtr (fun b i => Bool.rec (motive := fun _ => R) (h.ld1 b i fun v => resK r' t h fun vs => k (v :: vs)) (h.ldn b i s fun c => resK r' t h fun vs => k (.agg c :: vs)) g) = some r := hx
          obtain ⟨b, i, hp, hx⟩ := V.onPtr_some hx
          have h3 := ht n
          rw [hp] at h3
          obtain ⟨lc, hlc, hw⟩ := h3
          cases g with
          | false =>
            obtain ⟨v, x, hx, hv, hrun⟩ := ld1_real hy hr hg hlc hx
            obtain ⟨vs, xs, e1, e2, e3⟩ := res_sound hy hr ht l r' h1 hx
            refine ⟨_, _, e1, ⟨_, _, rfl, hv, e2⟩, ?_⟩
            rw [List.mapM_cons]
            simp only [Sem.run_bind, resOf, hw, asAddr, Sem.run_pure, Result.andThen_ok, hrun, e3]
          | true =>
            obtain ⟨v, x, hx, hv, hrun⟩ := ldn_real hy hr hg hs hlc hx
            obtain ⟨vs, xs, e1, e2, e3⟩ := res_sound hy hr ht l r' h1 hx
            refine ⟨_, _, e1, ⟨_, _, rfl, hv, e2⟩, ?_⟩
            rw [List.mapM_cons]
            simp only [Sem.run_bind, resOf, hw, asAddr, Sem.run_pure, Result.andThen_ok, hrun, e3]

theorem resV_sound {ι : Inj} {vs : List V} {xs : List Value} (h : VRL σ ι vs xs) : VR σ ι (resV vs) (if h : xs.toArray.size = 1 then xs.toArray[0] else .tuple xs.toArray) := by
  cases vs with
  | nil => rw [VRL.nil.1 h]; exact VR.tup.2 ⟨#[], rfl, rfl⟩
  | cons v vs =>
    obtain ⟨x, xs', rfl, h1, h2⟩ := h
    have h2 : VRL σ ι vs xs' := h2
    cases vs with
    | nil => rw [VRL.nil.1 h2]; exact h1
    | cons u us =>
      have hl := VRL.length h2
      have : ¬ (x :: xs').toArray.size = 1 := by simp [hl]
      rw [dif_neg this]
      exact VR.tup.2 ⟨_, rfl, ⟨x, xs', rfl, h1, h2⟩⟩

theorem results_run {fn : Func} {tmps : Array Value} {w : World} {xs : List Value} (h : (fn.results.toList.mapM (resOf tmps)).run P w = .ok xs w) :
    (results fn tmps).run P w = .ok (if h : xs.toArray.size = 1 then xs.toArray[0] else .tuple xs.toArray) w := by
  have e : (fun x : ResultVar => match x with | .tmp t => (pure (tmps.getD t undef) : Sem Value) | .cell a t => do loadVar t (← asAddr (tmps.getD a undef))) = resOf tmps := by
    funext x; cases x <;> rfl
  show ((do let vs ← fn.results.mapM (fun x : ResultVar => match x with | .tmp t => (pure (tmps.getD t undef) : Sem Value) | .cell a t => do loadVar t (← asAddr (tmps.getD a undef))); pure (if h : vs.size = 1 then vs[0] else .tuple vs)) : Sem Value).run P w = _
  rw [e, Array.mapM_eq_mapM_toList]
  simp only [Sem.run_bind, Sem.run_map, h, Result.andThen_ok, Sem.run_pure]

/-- the function is left: its marks are taken up, its results told -/
theorem leaves_sound (hy : Hyp P cx) {fn : Func} {a : Act} {t : T} {h0 h : H} {ι0 ι : Inj} {w0 : World} {res : List (Pos × Option Nat × Bool)} (hres : compRes cx fn.results.toList = some res) {v : V}
    (ht : TRel σ ι t a.tmps) (hx : resK res t h (fun vs => some (resV vs, h)) = some (v, h)) : ∀ (ds : List Deferred) (w : World), Rel cx σ ι h w → Ext ι0 ι h0 h w0 w → MRel w0.heap.size ι w ds →
    LeavesInM (Fz none) 0 P fn a.tmps (EndsAs cx σ ι0 h0 w0 v h) ds .returning w
  | [], w, hr, he, _ => by
    obtain ⟨vs, xs, e1, e2, e3⟩ := res_sound hy hr ht _ _ hres hx
    simp only [Option.some.injEq, Prod.mk.injEq, and_true] at e1
    exact ⟨_, results_run e3, _, ι, rfl, by rw [← e1]; exact resV_sound e2, hr, he⟩
  | d :: ds, w, hr, he, hm => by
    obtain ⟨⟨r, h1, h2, h3, h4, h5⟩, h6⟩ := hm
    have hlt := lt_of_some h3
    have hsz : (setO w r (.deferred none)).heap.size = w.heap.size := size_set _ _ _
    refine ⟨by simp, .inl ⟨r, setO w r (.deferred none), h1, ?_, leaves_sound hy hres ht hx ds _ ?_ ?_ ?_⟩⟩
    · have g1 : (getObj r).run P w = .ok (.deferred (some [])) w := by simp [getObj, Sem.run, h3]
      have g2 : (setObj r (.deferred none)).run P w = .ok () (setO w r (.deferred none)) := by simp [setObj, Sem.run, h3, setO]
      unfold Instr.takeDeferred
      simp only [Sem.run_bind, g1, Result.andThen_ok, g2, Sem.run_pure]
    · refine ⟨fun b l hb => by rw [hsz]; exact hr.bound b l hb, hr.inj, fun b l o hb ho => (hr.obj b l o hb ho).other fun y hy' => ?_⟩
      rw [get_set_ne (h4 b l hb)]; exact hy'
    · refine ⟨he.le, he.fresh, he.keepA, he.nx, fun B o hB hn => ?_, by rw [hsz]; exact he.size, he.rng, he.os, he.out, he.tape⟩
      rw [get_set_ne (fun e => by have := lt_of_some hB; omega)]
      exact he.keepW B o hB hn
    · have key : ∀ {ds : List Deferred}, (∀ d' ∈ ds, d'.target ≠ .collected r) → MRel w0.heap.size ι w ds → MRel w0.heap.size ι (setO w r (.deferred none)) ds := by
        intro ds
        induction ds with
        | nil => intro _ _; trivial
        | cons d' ds ih =>
          intro hne hm
          obtain ⟨⟨q, q1, q2, q3, q4, q5⟩, q6⟩ := hm
          refine ⟨⟨q, q1, q2, ?_, q4, q5⟩, ih (fun x hx => hne x (by simp [hx])) q6⟩
          rw [get_set_ne (fun e => hne d' (by simp) (by rw [q1, e]))]; exact q3
      exact key h5 h6

theorem func_sound (hS : SyOk σ P S) (hy : Hyp P cx) (hm : P.follows .mixedOrders = true) (hE : EnvNat call round loop) (hok : EnvOk P cx σ call round) (hlp : LoopOk P cx σ loop) {tab : Tr IFn} (htab : TabOk P cx tab)
    (f : Nat) (args : List V) (h : H) (k : K) (r : V × H) (hx : runF S tab (.mk call round loop) f args h k = some r) : ∃ v h', k v h' = some r ∧ ∀ (ι : Inj) (w : World) (xs : Array Value), Rel cx σ ι h w → VRL σ ι args xs.toList →
    (callFunc f xs).run P w = .ok (.enter f xs) w ∧ CallsIn (Fz none) 0 P f xs w (EndsAs cx σ ι h w v h') := by
  rcases runF_nat hE (S := S) tab f args h with hn | ⟨v, h', hn⟩
  · rw [hn] at hx; cases hx
  · rw [hn] at hx
    refine ⟨v, h', hx, fun ι w xs hr hv => ?_⟩
    have hx := hn (fun v h => some (v, h))
    unfold runF at hx
    cases htf : tab.get (Pos.of f) with
    | none => rw [htf] at hx; cases hx
    | some x =>
      rw [htf] at hx
      obtain ⟨fn, c, g1, g2, g3, g4⟩ := htab.ok f x htf
      refine ⟨run_callFunc g1 g2 g4 xs w, ?_⟩
      unfold compF at g3
      rw [g2] at g3
      cases hres : compRes cx fn.results.toList with
      | none => simp [hres] at g3
      | some res =>
        simp [hres] at g3
        subst g3
        have hx : ifK (Nat.ble (llen args) fn.ntmps) (code S (compC cx fn.ntmps false c) (.mk call round loop) (ofL args 0 .nil) h (fun t h' => resK res t h' fun vs => some (resV vs, h'))
          (fun e t h' => Option.rec (motive := fun _ => R) (resK res t h' fun vs => some (resV vs, h')) (fun _ => none) e)) = some (v, h') := hx
        obtain ⟨hle, hx⟩ := ifK_some.1 hx
        rw [Nat.ble_eq, llen_eq] at hle
        have hlen : xs.size = args.length := by have := hv.length; simpa using this
        have htm : TRel σ ι (ofL args 0 .nil) (xs ++ Array.replicate (fn.ntmps - xs.size) undef) := by
          intro n
          have hev : (Opd.t (Pos.of n)).ev (ofL args 0 .nil) = ((ofL args 0 .nil).get (Pos.of n)).getD (.tup []) := by
            show Option.rec (motive := fun _ => V) (.tup []) (fun v => v) ((ofL args 0 .nil).get (Pos.of n)) = _
            cases (ofL args 0 .nil).get (Pos.of n) <;> rfl
          rw [hev, ofL_get, Array.getD_eq_getD_getElem?]
          by_cases hnl : n < args.length
          · rw [if_pos ⟨Nat.zero_le _, by omega⟩, Nat.sub_zero]
            obtain ⟨u, hu1, hu2⟩ := hv.get (List.getElem?_eq_getElem hnl)
            rw [List.getElem?_eq_getElem hnl]
            have : (xs ++ Array.replicate (fn.ntmps - xs.size) undef)[n]? = some u := by
              rw [Array.getElem?_append_left (by omega)]; simpa using hu1
            rw [this]; exact hu2
          · rw [if_neg (by omega)]
            have hnil : (Tr.nil : Tr V).get (Pos.of n) = none := Tr.get_nil _
            rw [hnil]
            have : ((xs ++ Array.replicate (fn.ntmps - xs.size) undef)[n]?).getD undef = undef := by
              rw [Array.getElem?_append_right (by omega), Array.getElem?_replicate]
              split <;> rfl
            rw [this]; exact VR.undef
        refine callsIn_of_wp_marks g1 g2 trivial (code_sound hS hy hm hE hok hlp (lo := w.heap.size) c false _ _ _ _ _ hx none (fun _ => rfl) ι _ w _ ⟨hr, htm, by simp; omega⟩ (Nat.le_refl _) trivial (fun t' h1 e ι' a' w' f1 f2 f3 => ?_) (fun ex t' h1 e ι' a' w' f1 f2 f3 => ?_))
        · have eh : h1 = h' := by
            have e' : resK res t' h1 (fun vs => some (resV vs, h1)) = some (v, h') := e
            obtain ⟨vs, xs', e1, _, _⟩ := res_sound hy f1.rel f1.tm _ _ hres e'
            simp only [Option.some.injEq, Prod.mk.injEq] at e1
            exact e1.2
          subst eh
          exact leaves_sound hy hres f1.tm e a'.defers w' f1.rel f3 f2
        · cases ex with
          | some id => cases e
          | none =>
            have eh : h1 = h' := by
              have e' : resK res t' h1 (fun vs => some (resV vs, h1)) = some (v, h') := e
              obtain ⟨vs, xs', e1, _, _⟩ := res_sound hy f1.rel f1.tm _ _ hres e'
              simp only [Option.some.injEq, Prod.mk.injEq] at e1
              exact e1.2
            subst eh
            exact leaves_sound hy hres f1.tm e a'.defers w' f1.rel f3 f2
end

/-- contracts tell the truth -/
def OrcOk (P : Program) (cx : Cx) (σ : Nat → Int) (orc : Orc) : Prop :=
  ∀ f args h c k r, orc f args h = some c → c k = some r → ∃ v h', k v h' = some r ∧ ∀ (ι : Inj) (w : World) (xs : Array Value), Rel cx σ ι h w → VRL σ ι args xs.toList →
    (callFunc f xs).run P w = .ok (.enter f xs) w ∧ CallsIn (Fz none) 0 P f xs w (EndsAs cx σ ι h w v h')

theorem env_sound {P : Program} {cx : Cx} {σ : Nat → Int} {S : Sy} {orc : Orc} {tab : Tr IFn} (hS : SyOk σ P S) (hy : Hyp P cx) (hm : P.follows .mixedOrders = true) (hon : OrcNat orc) (hoo : OrcOk P cx σ orc) (htab : TabOk P cx tab) (n : Nat) :
    ∃ call round loop, env S orc tab n = .mk call round loop ∧ EnvNat call round loop ∧ EnvOk P cx σ call round ∧ LoopOk P cx σ loop := by
  induction n with
  | zero => exact ⟨_, _, _, rfl, ⟨fun _ _ _ => CpK.no, fun _ _ _ => CpK.no, fun _ _ _ => CpE.no⟩, ⟨fun _ _ _ _ _ h => (by cases h), fun _ _ _ _ _ h => (by cases h)⟩, fun _ _ _ _ _ _ _ _ _ h => (by cases h)⟩
  | succ n ih =>
    obtain ⟨call, round, loop, e, hE, hok, hlp⟩ := ih
    obtain ⟨c2, r2, l2, e2, hE2⟩ := env_nat (S := S) hon tab (n + 1)
    have hd : env S orc tab (n + 1) = .mk (fun f args h k => Option.rec (motive := fun _ => R) (runF S tab (env S orc tab n) f args h k) (fun c => c k) (orc f args h)) (runR S (env S orc tab n))
      (fun b t h kn kx => code S b (env S orc tab n) t h (fun t h => Env.rec (motive := fun _ => R) (fun _ _ l => l b t h kn kx) (env S orc tab n)) kx) := rfl
    rw [e] at hd
    rw [hd] at e2
    cases e2
    refine ⟨_, _, _, hd, hE2, ⟨fun f args h k r hx => ?_, fun l args h k r hx => round_sound hS hy hm hE hok hlp l args h k r hx⟩, loop_sound hS hy hm hE hok hlp⟩
    cases hc : orc f args h with
    | none => simp only [hc] at hx; exact func_sound hS hy hm hE hok hlp htab f args h k r hx
    | some c => simp only [hc] at hx; exact hoo f args h c k r hc hx

/-- THE LAW: an abstract run of a call tells what every real run of it does. -/
theorem run_law {P : Program} {cx : Cx} {σ : Nat → Int} {S : Sy} {orc : Orc} {tab : Tr IFn} (hS : SyOk σ P S) (hy : Hyp P cx) (hm : P.follows .mixedOrders = true) (hon : OrcNat orc) (hoo : OrcOk P cx σ orc) (htab : TabOk P cx tab) (n : Nat)
    {f : Nat} {args : List V} {h : H} {v : V} {h' : H} (hx : (env S orc tab n).callV (.fn f [] []) args h (fun v h => some (v, h)) = some (v, h')) {ι : Inj} {w : World} {xs : Array Value} (hr : Rel cx σ ι h w) (hv : VRL σ ι args xs.toList) :
    CallsIn Fence.wide 0 P f xs w (EndsAs cx σ ι h w v h') := by
  obtain ⟨call, round, loop, e, hE, hok, hlp⟩ := env_sound hS hy hm hon hoo htab n
  rw [e] at hx
  have hx : call f (app [] (app args [])) h (fun v h => some (v, h)) = some (v, h') := hx
  obtain ⟨v1, h1, e1, e2⟩ := hok.call _ _ _ _ _ hx
  simp only [Option.some.injEq, Prod.mk.injEq] at e1
  obtain ⟨rfl, rfl⟩ := e1
  exact (e2 ι w xs hr (by rw [app_eq, app_eq]; simpa using hv)).2
end Go.Ab
