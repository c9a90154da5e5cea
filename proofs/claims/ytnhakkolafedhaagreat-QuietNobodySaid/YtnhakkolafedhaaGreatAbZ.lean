/- Code: every run of it ends as the abstract one. -/
import Derived.Test.YtnhakkolafedhaaGreatAbY
import Derived.Scope
set_option linter.unusedVariables false
set_option linter.unusedSimpArgs false
namespace Go.Ab

section scope
variable {F : Fence} {n : Nat} {P : Program} {Q : Exit → Act → World → Prop} {a : Act} {w : World} {b : Frame} {k : List Item} {cs : List Frame}
theorem stepR_scope {c : Code} : step P (lone (b.atR a (.code (.scope c) :: k)) cs w) = .next (lone (b.atR a (.code c :: .inScope c :: k)) cs w) :=
  step_lone_go (by simp [stepG, stepG.exec, Frame.atR])
theorem stepR_inScope {c : Code} : step P (lone (b.atR a (.inScope c :: k)) cs w) = .next (lone (b.atR a k) cs w) :=
  step_lone_go (by simp [stepG, stepG.exec, Frame.atR])
theorem wpIn_scope_straight {c : Code} (h : c.wpIn F n P (Exit.noGoto Q) a w) : (Code.scope c).wpIn F n P Q a w := by
  intro b k cs hro hb hr
  have h0 : (lone (b.atR a (.code (.scope c) :: k)) cs w).fenced P F := fenced_calm hb hr rfl
  obtain ⟨e, a₁, w₁, hq, harr⟩ := h b (.inScope c :: k) cs hro hb hr
  cases e with
  | normal => exact ⟨.normal, a₁, w₁, hq, .head h0 stepR_scope (StepsIn.trans harr (.one (fenced_calm hb hr rfl) stepR_inScope))⟩
  | exit id =>
    have hx : exitTo id (.inScope c :: k) = exitTo id k := by simp [exitTo]
    exact ⟨.exit id, a₁, w₁, hq, fun k' hk => .head h0 stepR_scope (harr.1 k' (by rw [hx]; exact hk)),
      fun hr' hk => let ⟨k₁, h1, h2⟩ := harr.2 hr' (by rw [hx]; exact hk); ⟨k₁, h1, .head h0 stepR_scope h2⟩⟩
  | goto l => exact hq.elim
  | ret => exact ⟨_, a₁, w₁, hq, .of_steps (.one h0 stepR_scope) harr⟩
  | panic ch => exact ⟨_, a₁, w₁, hq, .of_steps (.one h0 stepR_scope) harr⟩
  | outgrown => exact ⟨_, a₁, w₁, hq, .of_steps (.one h0 stepR_scope) harr⟩

/-- a loop, as it stands behind its entry -/
def LoopW (F : Fence) (n : Nat) (P : Program) (c : Code) (Q : Exit → Act → World → Prop) (a : Act) (w : World) : Prop :=
  ∀ (b : Frame) (k : List Item) (cs : List Frame), b.roundOf = F.round → F.fn b.fn → F.room (cs.length + 1 + n) →
    ∃ e a' w', Q e a' w' ∧ ArrivesIn (Machine.fenced P F) P (lone (b.atR a (.code c :: .inLoop c :: k)) cs w) b k cs e a' w'
theorem LoopW.step {c : Code} (h : c.wpIn F n P (Exit.then (LoopW F n P c Q) Q) a w) : LoopW F n P c Q a w := by
  intro b k cs hro hb hr
  obtain ⟨e, a₁, w₁, hq, harr⟩ := h b (.inLoop c :: k) cs hro hb hr
  cases e with
  | normal =>
    obtain ⟨e₂, a₂, w₂, hq₂, harr₂⟩ := hq b k cs hro hb hr
    exact ⟨e₂, a₂, w₂, hq₂, .of_steps (StepsIn.trans harr (.one (fenced_calm hb hr rfl) stepR_inLoop)) harr₂⟩
  | exit id => exact ⟨_, a₁, w₁, hq, .pass (x := .inLoop c) rfl (fun _ _ => .inl (by simp)) harr⟩
  | goto l => exact ⟨_, a₁, w₁, hq, .pass (x := .inLoop c) rfl (fun _ _ => .inl (by simp)) harr⟩
  | ret => exact ⟨_, a₁, w₁, hq, .pass (x := .inLoop c) rfl (fun _ _ => .inl (by simp)) harr⟩
  | panic ch => exact ⟨_, a₁, w₁, hq, .pass (x := .inLoop c) rfl (fun _ _ => .inl (by simp)) harr⟩
  | outgrown => exact ⟨_, a₁, w₁, hq, .pass (x := .inLoop c) rfl (fun _ _ => .inl (by simp)) harr⟩
theorem LoopW.wp {c : Code} (h : LoopW F n P c Q a w) : (Code.loop c).wpIn F n P Q a w := by
  intro b k cs hro hb hr
  obtain ⟨e, a', w', hq, harr⟩ := h b k cs hro hb hr
  exact ⟨e, a', w', hq, .of_steps (.one (fenced_calm hb hr rfl) stepR_loop) harr⟩
end scope

section
variable {P : Program} {cx : Cx} {σ : Nat → Int} {S : Sy} {call : Nat → List V → H → K → R} {round : Pos → List V → H → K → R} {loop : IC → T → H → (T → H → R) → (Option Nat → T → H → R) → R}

/-- a frame's deferred calls: marks alone, of blocks that hold none -/
def MRel (lo : Nat) (ι : Inj) (w : World) : List Deferred → Prop
  | [] => True
  | d :: ds => (∃ r, d.target = .collected r ∧ lo ≤ r ∧ w.heap[r]? = some (.deferred (some [])) ∧ (∀ b l, ι b = some l → l.blk ≠ r) ∧ ∀ d' ∈ ds, d'.target ≠ .collected r) ∧ MRel lo ι w ds
theorem lt_of_some {w : World} {B : Nat} {o : Obj} (e : w.heap[B]? = some o) : B < w.heap.size := by
  rcases Nat.lt_or_ge B w.heap.size with h | h
  · exact h
  · rw [Array.getElem?_eq_none h] at e; cases e
theorem MRel.ext {lo : Nat} {ι ι' : Inj} {h h' : H} {w w' : World} (he : Ext ι ι' h h' w w') : ∀ {ds : List Deferred}, MRel lo ι w ds → MRel lo ι' w' ds
  | [], _ => trivial
  | d :: ds, hm => by
    obtain ⟨⟨r, h1, h0, h2, h3, h4⟩, h5⟩ := hm
    refine ⟨⟨r, h1, h0, he.keepW r _ h2 h3, fun b l hb hr => ?_, h4⟩, MRel.ext he h5⟩
    cases hx : ι b with
    | some l0 => have := he.le b l0 hx; rw [hb] at this; cases this; exact h3 b l hx hr
    | none =>
      rcases he.rng b l hb hx with h6 | ⟨b0, l0, h6, h7⟩
      · have := lt_of_some h2; omega
      · exact h3 b0 l0 h6 (h7.trans hr)

def exitOf : Option Nat → Exit
  | none => .ret
  | some id => .exit id
theorem then_exitOf {N : Act → World → Prop} {Q : Exit → Act → World → Prop} {e : Option Nat} {a : Act} {w : World} (h : Q (exitOf e) a w) : Exit.then N Q (exitOf e) a w := by cases e <;> exact h

/-- what a code's abstract run, in which 'kn' and 'kx' come to r, tells of the code's real ones -/
def WpOk (cx : Cx) (σ : Nat → Int) (lo nt : Nat) (t : T) (h : H) (kn : T → H → R) (kx : Option Nat → T → H → R) (r : V × H) (W : (Exit → Act → World → Prop) → Act → World → Prop) : Prop :=
  ∀ (ι : Inj) (a : Act) (w : World) (Q : Exit → Act → World → Prop), Fr cx σ nt ι t h a w → lo ≤ w.heap.size → MRel lo ι w a.defers →
    (∀ t' h', kn t' h' = some r → ∀ ι' a' w', Fr cx σ nt ι' t' h' a' w' → MRel lo ι' w' a'.defers → Ext ι ι' h h' w w' → Q .normal a' w') →
    (∀ e t' h', kx e t' h' = some r → ∀ ι' a' w', Fr cx σ nt ι' t' h' a' w' → MRel lo ι' w' a'.defers → Ext ι ι' h h' w w' → Q (exitOf e) a' w') → W Q a w

def LoopOk (P : Program) (cx : Cx) (σ : Nat → Int) (loop : IC → T → H → (T → H → R) → (Option Nat → T → H → R) → R) : Prop :=
  ∀ (c : Code) (lo nt : Nat) (inR : Bool) (t : T) (h : H) (kn : T → H → R) (kx : Option Nat → T → H → R) (r : V × H), loop (compC cx nt inR c) t h kn kx = some r →
    ∀ ro : Option Nat, (inR = false → ro = none) → WpOk cx σ lo nt t h kn kx r (LoopW (Fz ro) 0 P c)

theorem range_map_ops (ops : Array Oper) : (List.range ops.size).map (ops[·]?) = ops.toList.map some := by
  apply List.ext_getElem?
  intro i
  rw [List.getElem?_map, List.getElem?_map]
  by_cases h : i < ops.size
  · rw [List.getElem?_range h]; simp [h]
  · rw [List.getElem?_eq_none (by simp; omega), List.getElem?_eq_none (by simp; omega)]; rfl

/-- a block that stands for nothing is made -/
theorem Rel.beside {ι : Inj} {h : H} {w : World} (hr : Rel cx σ ι h w) (ob : Obj) : Rel cx σ ι h (w.alloc ob) ∧ Ext ι ι h h w (w.alloc ob) := by
  have hsz : (w.alloc ob).heap.size = w.heap.size + 1 := by show (w.heap.push ob).size = _; simp
  have hold : ∀ B, B < w.heap.size → (w.alloc ob).heap[B]? = w.heap[B]? := fun B hB => by show (w.heap.push ob)[B]? = _; simp [Array.getElem?_push, Nat.ne_of_lt hB]
  refine ⟨⟨fun x lx hx => ?_, hr.inj, fun x lx ox hx hox => (hr.obj x lx ox hx hox).other fun y hy => by rw [hold _ (hr.bound x lx hx).2]; exact hy⟩, ?_⟩
  · rw [hsz]; have := hr.bound x lx hx; omega
  · exact ⟨Le.refl _, fun _ _ e n => no_some e n, fun _ _ _ => rfl, Nat.le_refl _, fun B o e _ => (hold B (lt_of_some e)).trans e, by omega, fun _ _ e n => no_some e n, rfl, rfl, rfl⟩

theorem loopK_some {h : H} {l : Pos} {G : Nat → T → List Pos → IC → IC → R} {r : V × H} (e : h.loopK l G = some r) : ∃ st t ps as bd, h.get l = some (.loop st t ps as bd) ∧ G st t ps as bd = some r := by
  obtain ⟨o, ho, e⟩ := H.getK_some e
  cases o with
  | loop st t ps as bd => exact ⟨st, t, ps, as, bd, ho, e⟩
  | _ => cases e

theorem run_getLoop {w : World} {l : Nat} {r : Loop} (h : w.heap[l]? = some (.loop r)) : (Instr.getLoop l).run P w = .ok r w := by
  have : (getObj l).run P w = .ok (.loop r) w := by simp [getObj, Sem.run, h]
  simp [Instr.getLoop, this]

/-- a block is turned -/
def setO (w : World) (l : Nat) (o : Obj) : World := { w with heap := w.heap.setIfInBounds l o }
theorem run_setO {w : World} {l : Nat} {r : Loop} (h : w.heap[l]? = some (.loop r)) (o : Obj) : (setObj l o).run P w = .ok () (setO w l o) := by simp [setObj, Sem.run, h, setO]
theorem size_set (w : World) (l : Nat) (o : Obj) : (setO w l o).heap.size = w.heap.size := by simp [setO]
theorem get_set_same {w : World} {l : Nat} {o o' : Obj} (h : w.heap[l]? = some o') : (setO w l o).heap[l]? = some o := by
  have := lt_of_some h
  simp [setO, this]
theorem get_set_ne {w : World} {l B : Nat} {o : Obj} (h : B ≠ l) : (setO w l o).heap[B]? = w.heap[B]? := by
  simp [setO, Array.getElem?_setIfInBounds, Ne.symm h]

/-- a loop's record is turned -/
theorem Rel.setLoop {ι : Inj} {h : H} {w : World} (hr : Rel cx σ ι h w) {l : Pos} {lc : Loc} (hl : ι l = some lc) {st : Nat} {t : T} {ps : List Pos} {as bd : IC} (hg : h.get l = some (.loop st t ps as bd)) {r r' : Loop}
    (hw : w.heap[lc.blk]? = some (.loop r)) {o' : O} (hn : ORel cx σ ι (setO w lc.blk (.loop r')) lc o') :
    Rel cx σ ι (h.put l o') (setO w lc.blk (.loop r')) ∧ Ext ι ι h (h.put l o') w (setO w lc.blk (.loop r')) :=
  hr.put hl hg (by intro e; cases e) (size_set _ _ _) (fun B hB => get_set_ne hB) hn rfl rfl rfl

theorem rangeFunc_sound (hE : EnvNat call round loop) (hok : EnvOk P cx σ call round) {f : Operand} {ps : Array Tmp} {as bd : Code} {lo nt : Nat} {x : Opd} (hf : ofOpd f = some x) (hps : ∀ p ∈ ps.toList, p < nt)
    {t : T} {h : H} {kn : T → H → R} {kx : Option Nat → T → H → R} {r : V × H}
    (hx : code S (.rfun x (ps.toList.map Pos.of) (compC cx nt true as) (compC cx nt true bd)) (.mk call round loop) t h kn kx = some r) :
    WpOk cx σ lo nt t h kn kx r (fun Q a w => (Code.rangeFunc f ps as bd).wpIn (Fz none) 0 P Q a w) := by
  have hx : h.alloc (.loop 0 t (ps.toList.map Pos.of) (compC cx nt true as) (compC cx nt true bd)) (fun l h1 => Env.callFn (.mk call round loop) (x.ev t) [.yield l] h1 fun _ h2 => h2.loopK l fun st _ _ _ _ => Nat.rec (motive := fun _ => R) (kn t (h2.put l .dead))
        (fun s _ => Nat.rec (motive := fun _ => R) none (fun s _ => Nat.rec (motive := fun _ => R) (kx none t (h2.put l .dead)) (fun id _ => kx (some id) t (h2.put l .dead)) s) s) st) = some r := hx
  rw [H.alloc_eq] at hx
  cases hv : x.ev t with
  | fn g fs cs =>
    rw [hv] at hx
    obtain ⟨v, h2, hx, hcall⟩ := hok.call _ _ _ _ _ (show call g (app fs (app [.yield h.nx] cs)) _ _ = some r from hx)
    intro ι a w Q hfr hlo hm hkn hkx
    refine wpIn_rangeFunc fun fn _ => ?_
    have e1 := hfr.tm.opds f x hf
    rw [hv] at e1
    obtain ⟨xs, ys, ex, hx1, hy1⟩ := VR.fn.1 e1
    obtain ⟨b1, b2⟩ := hfr.rel.beside (cx := cx) (.deferred (some []))
    let rec0 : Loop := { state := .ready, pending := none, fn := fn, tmps := a.tmps, params := ps, assign := as, body := bd, defers := w.heap.size }
    let w1 := w.alloc (.deferred (some []))
    have hsz1 : w1.heap.size = w.heap.size + 1 := by show (w.heap.push _).size = _; simp
    have hor : ORel cx σ ι (w1.alloc (.loop rec0)) ⟨w1.heap.size, 0, 0⟩ (.loop 0 t (ps.toList.map Pos.of) (compC cx nt true as) (compC cx nt true bd)) :=
      ⟨rec0, by show (w1.heap.push _)[w1.heap.size]? = _; simp, rfl, fun _ => rfl, hfr.tm, rfl, fun p hp => by show p < a.tmps.size; rw [hfr.sz]; exact hps p hp, by show _ = compC cx a.tmps.size true as; rw [hfr.sz], by show _ = compC cx a.tmps.size true bd; rw [hfr.sz]⟩
    obtain ⟨c1, c2⟩ := b1.push _ (.loop rec0) 0 hor
    have hnx : (ι.add h.nx ⟨w1.heap.size, 0, 0⟩) h.nx = some ⟨w1.heap.size, 0, 0⟩ := Inj.add_same _ _ _
    have hargs : VRL σ (ι.add h.nx ⟨w1.heap.size, 0, 0⟩) (app fs (app [.yield h.nx] cs)) (xs ++ #[Value.func (.yield w1.heap.size) #[] #[]] ++ ys).toList := by
      rw [app_eq, app_eq]
      have h1 := VRL.mono c2.le _ _ hx1
      have h2 := VRL.mono c2.le _ _ hy1
      have h3 : VRL σ (ι.add h.nx ⟨w1.heap.size, 0, 0⟩) [.yield h.nx] [Value.func (.yield w1.heap.size) #[] #[]] := ⟨_, _, rfl, ⟨_, hnx, rfl⟩, rfl⟩
      have e : (xs ++ #[Value.func (.yield w1.heap.size) #[] #[]] ++ ys).toList = xs.toList ++ ([Value.func (.yield w1.heap.size) #[] #[]] ++ ys.toList) := by rw [Array.toList_append, Array.toList_append, List.append_assoc]
      rw [e]; exact h1.append (h3.append h2)
    obtain ⟨d1, d2⟩ := hcall _ _ _ c1 hargs
    refine ⟨w1.heap.size, [{ target := .collected w.heap.size, args := #[] }], w1.alloc (.loop rec0), { target := .fn (.func g) ys, args := xs ++ #[Value.func (.yield w1.heap.size) #[] #[]] }, w1.alloc (.loop rec0), g, _, w1.alloc (.loop rec0), ?_, ?_, fun _ _ => trivial, ?_, fun hh => (by cases hh), CallsIn.mono (callsIn_Fz d2) ?_⟩
    · simp [Instr.enterLoop, Fz, rec0, w1, Fence.wide]
    · show (Deferred.ofValue (a.eval f) (Array.map a.eval #[.const (.func (.yield w1.heap.size) #[] #[])])).run P _ = _
      rw [ex, show Array.map a.eval #[Operand.const (.func (.yield w1.heap.size) #[] #[])] = #[Value.func (.yield w1.heap.size) #[] #[]] by simp [Act.eval]]; rfl
    · exact d1
    · rintro e w3 ⟨v', ι2, rfl, hv2, hr2, he2⟩
      obtain ⟨st, t', ps', as', bd', hg, hx⟩ := loopK_some hx
      have hl2 : ι2 h.nx = some ⟨w1.heap.size, 0, 0⟩ := he2.le _ _ hnx
      obtain ⟨rr, hw3, hlr⟩ := hr2.obj _ _ _ hl2 hg
      have hw3 : w3.heap[w1.heap.size]? = some (.loop rr) := hw3
      obtain ⟨p1, p2⟩ := hr2.setLoop hl2 hg hw3 (r' := { rr with state := .exhausted }) (o' := .dead) trivial
      have hall : Ext ι ι2 h (h2.put h.nx .dead) w (setO w3 w1.heap.size (.loop { rr with state := .exhausted })) := (b2.trans c2).trans (he2.trans p2)
      have hfr2 : Fr cx σ nt ι2 t (h2.put h.nx .dead) { a with defers := [{ target := .collected w.heap.size, args := #[] }] ++ a.defers } (setO w3 w1.heap.size (.loop { rr with state := .exhausted })) := ⟨p1, hfr.tm.mono hall.le, hfr.sz⟩
      have hrest := hm.ext hall
      have hmark : (w1.alloc (.loop rec0)).heap[w.heap.size]? = some (.deferred (some [])) := by
        show ((w.heap.push _).push _)[w.heap.size]? = _
        simp [Array.getElem?_push]
      have hout : ∀ b l, (ι.add h.nx ⟨w1.heap.size, 0, 0⟩) b = some l → l.blk ≠ w.heap.size := fun b l hb => by
        by_cases e : b = h.nx
        · subst e; rw [Inj.add_same] at hb; cases hb; simp only; omega
        · rw [Inj.add_ne _ _ _ _ e] at hb; have := (hfr.rel.bound b l hb).2; omega
      have one : MRel lo (ι.add h.nx ⟨w1.heap.size, 0, 0⟩) (w1.alloc (.loop rec0)) [{ target := .collected w.heap.size, args := #[] }] := ⟨⟨_, rfl, hlo, hmark, hout, by simp⟩, trivial⟩
      obtain ⟨⟨q, q1, q0, q2, q3, _⟩, _⟩ := one.ext (he2.trans p2)
      have hm2 : MRel lo ι2 (setO w3 w1.heap.size (.loop { rr with state := .exhausted })) ([{ target := .collected w.heap.size, args := #[] }] ++ a.defers) := by
        refine ⟨⟨q, q1, q0, q2, q3, fun d' hd' hdq => ?_⟩, hrest⟩
        have hq : q = w.heap.size := by simpa using q1.symm
        have old : ∀ {ds : List Deferred}, MRel lo ι w ds → ∀ d' ∈ ds, d'.target ≠ .collected w.heap.size := by
          intro ds
          induction ds with
          | nil => intro _ d' h; cases h
          | cons d ds ih =>
            intro hm d' h
            obtain ⟨⟨r, r1, _, r2, _⟩, r3⟩ := hm
            rcases List.mem_cons.1 h with rfl | h
            · rw [r1]; intro e; cases e; have := lt_of_some r2; omega
            · exact ih r3 d' h
        exact old hm d' hd' (hq ▸ hdq)
      have hstate := hlr.hst
      have hend : rr.state ≠ .busy → (Instr.endLoop w1.heap.size).run P w3 = .ok rr.pending (setO w3 w1.heap.size (.loop { rr with state := .exhausted })) := fun hb => by
        have hlt := lt_of_some hw3
        have hb' : (rr.state == LoopState.busy) = false := by cases hs : rr.state <;> first | rfl | exact absurd hs hb
        unfold Instr.endLoop
        simp only [Sem.run_bind, run_getLoop hw3, Result.andThen_ok, hb', Bool.false_eq_true, if_false]
        simp only [Sem.run_bind, run_setO hw3, Result.andThen_ok, Sem.run_pure]
      cases st with
      | zero =>
        have hp : rr.pending = none := hlr.pend rfl
        refine ⟨none, _, (hend (fun e => by rw [e] at hstate; cases hstate)).trans (congrArg (Result.ok · _) hp), ?_⟩
        exact hkn t _ hx ι2 _ _ hfr2 hm2 hall
      | succ s =>
        cases s with
        | zero => cases hx
        | succ s =>
          cases s with
          | zero =>
            have hh : rr.state = .done ∧ rr.pending = some .ret := by
              revert hstate
              cases rr.state <;> (cases rr.pending with | none => simp [stOf] | some c => cases c <;> simp [stOf])
            refine ⟨some .ret, _, (hend (by rw [hh.1]; simp)).trans (congrArg (Result.ok · _) hh.2), wpIn_ret ?_⟩
            exact hkx none t _ hx ι2 _ _ hfr2 hm2 hall
          | succ s =>
            have hh : rr.state = .done ∧ rr.pending = some (.exit s) := by
              revert hstate
              cases rr.state <;> (cases rr.pending with | none => simp [stOf] | some c => cases c <;> simp [stOf]; try omega)
            refine ⟨some (.exit s), _, (hend (by rw [hh.1]; simp)).trans (congrArg (Result.ok · _) hh.2), wpIn_exit ?_⟩
            exact hkx (some s) t _ hx ι2 _ _ hfr2 hm2 hall
  | _ => rw [hv] at hx; cases hx
end
end Go.Ab
