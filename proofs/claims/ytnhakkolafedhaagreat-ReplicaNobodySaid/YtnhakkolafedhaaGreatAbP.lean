/- A frame's temporaries; one operation of a region, calls among them; regions in the order of their text. -/
import Derived.Test.YtnhakkolafedhaaGreatAbO
import Derived.RangeFuncLeaves
set_option linter.unusedVariables false
set_option linter.unusedSimpArgs false
namespace Go.Ab

theorem Hyp.mk' {P : Program} {cx : Cx} (h : Hyp P cx) : Hyp P cx := h

section
variable {P : Program} {cx : Cx} {σ : Nat → Int}

/-- the fence for frames: all functions, whatever depth; a round's frame or not -/
def Fz (ro : Option Nat) : Fence := { Fence.wide with round := ro }
theorem Fz_about (ro : Option Nat) (x : FuncId) : (Fz ro).fn x := trivial
theorem callsIn_Fz {ro ro' : Option Nat} {n : Nat} {f : FuncId} {args : Array Value} {w : World} {R : Ending → World → Prop} (h : CallsIn (Fz ro) n P f args w R) : CallsIn (Fz ro') n P f args w R := h
theorem roundIn_Fz {ro ro' : Option Nat} {n l : Nat} {f : FuncId} {tmps : Array Value} {as bd : Code} {w : World} {R : Ending → World → Prop} (h : RoundIn (Fz ro) n P l f tmps as bd w R) : RoundIn (Fz ro') n P l f tmps as bd w R := h

theorem TRel.opds {ι : Inj} {t : T} {a : Act} (h : TRel σ ι t a.tmps) : Opds σ ι t a.eval := by
  intro x y hx
  cases x with
  | tmp n => simp [ofOpd] at hx; subst hx; exact h n
  | const v =>
    unfold ofOpd at hx
    cases hv : ofV v with
    | none => simp [hv] at hx
    | some z => simp [hv] at hx; subst hx; exact ofV_spec hv ι
  | global g => simp [ofOpd] at hx
  | func f => simp [ofOpd] at hx; subst hx; exact VR.fn.2 ⟨#[], #[], rfl, rfl, rfl⟩

theorem VR.undef {ι : Inj} : VR σ ι (.tup []) undef := VR.tup.2 ⟨#[], rfl, rfl⟩

theorem ev_put_same (d : Pos) (v : V) (t : T) : (Opd.t d).ev (Tr.put d v t) = v := by
  show Option.rec (motive := fun _ => V) (.tup []) (fun v => v) ((Tr.put d v t).get d) = v
  rw [Tr.get_put_same]
theorem ev_put_ne (d d' : Pos) (v : V) (t : T) (h : d' ≠ d) : (Opd.t d').ev (Tr.put d v t) = (Opd.t d').ev t := by
  show Option.rec (motive := fun _ => V) (.tup []) (fun v => v) ((Tr.put d v t).get d') = _
  rw [Tr.get_put_ne _ _ _ _ h]; rfl

theorem TRel.set {ι : Inj} {t : T} {tmps : Array Value} (h : TRel σ ι t tmps) {d : Nat} (hd : d < tmps.size) {v : V} {x : Value} (hv : VR σ ι v x) :
    TRel σ ι (Tr.put (Pos.of d) v t) (tmps.setIfInBounds d x) := by
  intro n
  by_cases e : n = d
  · subst e; rw [ev_put_same]; simpa [Array.getD_eq_getD_getElem?, hd] using hv
  · rw [ev_put_ne _ _ _ _ (fun h => e (Pos.of_inj h))]
    have := h n
    simpa [Array.getD_eq_getD_getElem?, Array.getElem?_setIfInBounds, Ne.symm e] using this

/-- a destination, as it is turned -/
def DstOk (nt : Nat) (dst : Option Nat) (d : Option Pos) : Prop := d = dst.map Pos.of ∧ ∀ x, dst = some x → x < nt
theorem TRel.put {ι : Inj} {t : T} {a : Act} {nt : Nat} (h : TRel σ ι t a.tmps) (hs : a.tmps.size = nt) {dst : Option Nat} {d : Option Pos} (hd : DstOk nt dst d) {v : V} {x : Value} (hv : VR σ ι v x) :
    TRel σ ι (tset d v t) (a.put dst x).tmps ∧ (a.put dst x).tmps.size = nt := by
  obtain ⟨rfl, hlt⟩ := hd
  cases dst with
  | none => exact ⟨h, hs⟩
  | some n => exact ⟨h.set (by rw [hs]; exact hlt n rfl) hv, by simp [Act.put, hs]⟩

/-- what a compiled operation is made of -/
theorem compOpr_eq {nt : Nat} {ops : Array Oper} {late : Nat} {o : Oper} : (∃ op g d, compOpr cx nt ops late o = ⟨d, g, late, op⟩ ∧ compOp cx o.op = some op ∧ compGuard ops o.guard = some g ∧ DstOk nt o.dst d) ∨ compOpr cx nt ops late o = badOpr := by
  unfold compOpr
  split
  · rename_i op g h1 h2 h3; exact .inl ⟨op, g, none, rfl, h1, h2, by rw [h3]; exact ⟨rfl, fun _ h => by cases h⟩⟩
  · rename_i op g d h1 h2 h3
    split
    · rename_i hd; exact .inl ⟨op, g, some (Pos.of d), rfl, h1, h2, by rw [h3]; exact ⟨rfl, fun x h => by cases h; exact hd⟩⟩
    · exact .inr rfl
  · exact .inr rfl

theorem VR.is_bool {ι : Inj} {v : V} {b : Bool} (h : VR σ ι v (.bool b)) : v = .bool b := by
  cases v with
  | bool c => cases (show Value.bool b = .bool c from h); rfl
  | fn f a b => obtain ⟨_, _, h, _⟩ := VR.fn.1 h; cases h
  | agg c => obtain ⟨_, h, _⟩ := VR.agg.1 h; cases h
  | tup c => obtain ⟨_, h, _⟩ := VR.tup.1 h; cases h
  | int k n => cases (show Value.bool b = .int k n from h)
  | str s => cases (show Value.bool b = .string s from h)
  | sym k i => cases (show Value.bool b = .int k (σ i) from h)
  | nilp => cases (show Value.bool b = .pointer none from h)
  | nils => cases (show Value.bool b = .slice none 0 0 from h)
  | nilm => cases (show Value.bool b = .map none from h)
  | nilf => cases (show Value.bool b = .nilFunc from h)
  | ptr => obtain ⟨_, _, h⟩ := h; cases h
  | map => obtain ⟨_, _, h⟩ := h; cases h
  | yield => obtain ⟨_, _, h⟩ := h; cases h
  | sl => obtain ⟨_, _, _, _, h, _⟩ := h; cases h

/-- an operation's guard: asked of both alike -/
theorem wantK_spec {ops : Array Oper} {gd : Option (Nat × Bool)} {g : Option (Pos × Bool)} {o : Oper} (hgd : o.guard = gd) (hg : compGuard ops gd = some g) (t : T) (no yes : R) :
    (wantK g t no yes = yes ∧ ∀ (ι : Inj) (tmps : Array Value), TRel σ ι t tmps → Region.wanted o (yielded ops tmps) = true) ∨
    (wantK g t no yes = no ∧ ∀ (ι : Inj) (tmps : Array Value), TRel σ ι t tmps → Region.wanted o (yielded ops tmps) = false) := by
  cases gd with
  | none =>
    simp [compGuard] at hg; subst hg
    exact .inl ⟨rfl, fun _ _ _ => by simp [Region.wanted, hgd]⟩
  | some p =>
    obtain ⟨j, want⟩ := p
    unfold compGuard at hg
    cases hd : (ops[j]?).bind (·.dst) with
    | none => simp [hd] at hg
    | some d =>
      simp [hd] at hg; subst hg
      have real : ∀ (ι : Inj) (tmps : Array Value), TRel σ ι t tmps → yielded ops tmps j = (match (Opd.t (Pos.of d)).ev t with | .bool b => some b | _ => none) := by
        intro ι tmps ht
        have h1 := ht d
        unfold yielded
        rw [hd]
        simp only [Option.bind_some]
        cases hx : tmps[d]? with
        | none =>
          rw [Array.getD_eq_getD_getElem?, hx] at h1
          cases hv : (Opd.t (Pos.of d)).ev t with
          | bool b => rw [hv] at h1; cases (show undef = .bool b from h1)
          | _ => rfl
        | some x =>
          rw [Array.getD_eq_getD_getElem?, hx] at h1
          simp only [Option.getD_some] at h1
          by_cases hb : ∃ b, x = .bool b
          · obtain ⟨b, rfl⟩ := hb; rw [VR.is_bool h1]
          · cases hv : (Opd.t (Pos.of d)).ev t with
            | bool b => rw [hv] at h1; exact absurd ⟨b, h1⟩ hb
            | _ => cases x <;> first | rfl | exact absurd ⟨_, rfl⟩ hb
      have key : ∀ (ι : Inj) (tmps : Array Value), TRel σ ι t tmps → Region.wanted o (yielded ops tmps) = ((match (Opd.t (Pos.of d)).ev t with | .bool b => some b | _ => none) == some want) := fun ι tmps ht => by
        simp [Region.wanted, hgd, real ι tmps ht]
      have ab : wantK (some (Pos.of d, want)) t no yes = (match (Opd.t (Pos.of d)).ev t with | .bool b => if b = want then yes else no | _ => no) := by
        show V.on ((Opd.t (Pos.of d)).ev t) no (fun b => Bool.rec (motive := fun _ => R) no yes (beqB b want)) _ _ _ _ _ _ _ = _
        cases (Opd.t (Pos.of d)).ev t with
        | bool b => cases b <;> cases want <;> rfl
        | _ => rfl
      rw [ab]
      cases hv : (Opd.t (Pos.of d)).ev t with
      | bool b =>
        by_cases e : b = want
        · left; refine ⟨by simp [e], fun ι tmps ht => by rw [key ι tmps ht, hv]; simp [e]⟩
        · right; refine ⟨by simp [e], fun ι tmps ht => by rw [key ι tmps ht, hv]; simp [e]⟩
      | _ => right; exact ⟨rfl, fun ι tmps ht => by rw [key ι tmps ht, hv]; rfl⟩

/-- what a run of another function, or of a loop's round, comes to -/
def EndsAs (cx : Cx) (σ : Nat → Int) (ι : Inj) (h : H) (w : World) (v : V) (h' : H) (e : Ending) (w' : World) : Prop :=
  ∃ v' ι', e = .returned v' ∧ VR σ ι' v v' ∧ Rel cx σ ι' h' w' ∧ Ext ι ι' h h' w w'

structure EnvOk (P : Program) (cx : Cx) (σ : Nat → Int) (call : Nat → List V → H → K → R) (round : Pos → List V → H → K → R) : Prop where
  call : ∀ f args h k r, call f args h k = some r → ∃ v h', k v h' = some r ∧ ∀ (ι : Inj) (w : World) (xs : Array Value), Rel cx σ ι h w → VRL σ ι args xs.toList →
    (callFunc f xs).run P w = .ok (.enter f xs) w ∧ CallsIn (Fz none) 0 P f xs w (EndsAs cx σ ι h w v h')
  round : ∀ l args h k r, round l args h k = some r → ∃ v h', k v h' = some r ∧ ∀ (ι : Inj) (w : World) (lc : Loc) (xs : Array Value), Rel cx σ ι h w → ι l = some lc → VRL σ ι args xs.toList →
    ∃ f tmps as bd, (Instr.yield lc.blk xs).run P w = .ok (.round lc.blk f tmps as bd) w ∧ RoundIn (Fz none) 0 P lc.blk f tmps as bd w (EndsAs cx σ ι h w v h')

/-- what one operation's abstract run comes to, of whatever kind the operation is -/
def Sim (cx : Cx) (σ : Nat → Int) (P : Program) (o : Oper) (t : T) (h : H) (v : V) (h' : H) : Prop :=
  ∀ (ro : Option Nat) (ι : Inj) (a : Act) (w : World) (K : Act → World → Prop) (Q : Exit → Act → World → Prop), Rel cx σ ι h w → Opds σ ι t a.eval →
    (∀ v' w' ι', VR σ ι' v v' → Rel cx σ ι' h' w' → Ext ι ι' h h' w w' → K (a.put o.dst v') w') → o.wpIn (Fz ro) 0 P a w K Q

theorem not_defer {o : Oper} {iop : IOp} (h : compOp cx o.op = some iop) : ∀ c, o.op ≠ .defer c := by
  intro c e; rw [e] at h; simp [compOp] at h

theorem OSim.sim {o : Oper} {t : T} {h : H} {v : V} {h' : H} (hd : ∀ c, o.op ≠ .defer c) (hs : OSim cx σ P o t h v h') : Sim cx σ P o t h v h' := by
  intro ro ι a w K Q hr hρ hk
  obtain ⟨nx, v', w', ι', h1, h2, h3, h4, h5⟩ := hs ι w a.eval hr hρ
  refine ⟨fun f _ => trivial, ?_⟩
  rw [Oper.semAt_eq _ _ _ hd, h1]
  rcases h2 with rfl | ⟨rfl, rfl⟩
  · exact hk v' w' ι' h3 h4 h5
  · exact hk undef w' ι' h3 h4 h5

theorem call_sim {E : Env} {call : Nat → List V → H → K → R} {round : Pos → List V → H → K → R} {loop : IC → T → H → (T → H → R) → (Option Nat → T → H → R) → R} (hE : E = .mk call round loop) (hok : EnvOk P cx σ call round)
    {o : Oper} {f : Operand} {args : Array Operand} {tys : Array TypeId} (ho : o.op = .call { callee := .value f, args := args, argTypes := tys }) {f' : Opd} {as : List Opd} (hf : ofOpd f = some f') (ha : ofOpds args.toList = some as)
    {t : T} {h : H} {k : K} {r : V × H} (hx : E.callV (f'.ev t) (evs as t) h k = some r) : ∃ v h', k v h' = some r ∧ Sim cx σ P o t h v h' := by
  subst hE
  have hd : ∀ c, o.op ≠ .defer c := fun c e => by rw [ho] at e; cases e
  cases hv : f'.ev t with
  | fn g fs cs =>
    rw [hv] at hx
    obtain ⟨v, h', h1, h2⟩ := hok.call _ _ _ _ _ (show call g (app fs (app (evs as t) cs)) h k = some r from hx)
    refine ⟨v, h', h1, fun ro ι a w K Q hr hρ hk => ⟨fun f _ => trivial, ?_⟩⟩
    have e1 := hρ f f' hf
    rw [hv] at e1
    obtain ⟨x, y, ex, hx1, hy1⟩ := VR.fn.1 e1
    have e2 : VRL σ ι (evs as t) (args.map a.eval).toList := by simpa using evs_sim hρ ha
    obtain ⟨c1, c2⟩ := h2 ι w (x ++ args.map a.eval ++ y) hr (by rw [app_eq, app_eq]; simpa using hx1.append (e2.append hy1))
    rw [Oper.semAt_eq _ _ _ hd]
    have : (execOp a.eval o).run P w = .ok (.enter g (x ++ args.map a.eval ++ y)) w := by
      rw [Array.append_assoc] at c1; simp [execOp, ho, resolve, Deferred.ofValue, ex, invoke, c1]
    rw [this]
    refine ⟨fun hh => (by cases hh), CallsIn.mono (callsIn_Fz c2) fun e w' he => ?_⟩
    obtain ⟨v', ι', rfl, hv', hr', hext⟩ := he
    exact hk v' w' ι' hv' hr' hext
  | yield l =>
    rw [hv] at hx
    obtain ⟨v, h', h1, h2⟩ := hok.round _ _ _ _ _ (show round l (evs as t) h k = some r from hx)
    refine ⟨v, h', h1, fun ro ι a w K Q hr hρ hk => ⟨fun f _ => trivial, ?_⟩⟩
    have e1 := hρ f f' hf
    rw [hv] at e1
    obtain ⟨lc, hl, ex⟩ := e1
    have e2 : VRL σ ι (evs as t) (args.map a.eval).toList := by simpa using evs_sim hρ ha
    obtain ⟨g, tmps, as', bd, c1, c2⟩ := h2 ι w lc (args.map a.eval) hr hl e2
    rw [Oper.semAt_eq _ _ _ hd]
    have : (execOp a.eval o).run P w = .ok (.round lc.blk g tmps as' bd) w := by
      simp [execOp, ho, resolve, Deferred.ofValue, ex, invoke, c1]
    rw [this]
    refine ⟨fun hh => (by cases hh), RoundIn.mono (roundIn_Fz c2) fun e w' he => ?_⟩
    obtain ⟨v', ι', rfl, hv', hr', hext⟩ := he
    exact hk v' w' ι' hv' hr' hext
  | _ => rw [hv] at hx; cases hx

theorem op_sim {S : Sy} (hS : SyOk σ P S) (hy : Hyp P cx) {E : Env} {call : Nat → List V → H → K → R} {round : Pos → List V → H → K → R} {loop : IC → T → H → (T → H → R) → (Option Nat → T → H → R) → R} (hE : E = .mk call round loop) (hok : EnvOk P cx σ call round)
    {o : Oper} {iop : IOp} (hc : compOp cx o.op = some iop) {t : T} {h : H} {k : K} {r : V × H} (hx : exec S E iop t h k = some r) : ∃ v h', k v h' = some r ∧ Sim cx σ P o t h v h' := by
  by_cases hn : ∃ f args tys, o.op = .call { callee := .value f, args := args, argTypes := tys }
  · obtain ⟨f, args, tys, ho⟩ := hn
    rw [ho] at hc
    cases h1 : ofOpd f with
    | none => simp [compOp, h1] at hc
    | some f' => cases h2 : ofOpds args.toList with
      | none => simp [compOp, h1, h2] at hc
      | some as =>
        simp [compOp, h1, h2] at hc
        subst hc
        exact call_sim hE hok ho h1 h2 hx
  · obtain ⟨v, h', h1, h2⟩ := comp_sound hS hy hc (fun f args tys e => hn ⟨f, args, tys, e⟩) E t h k r hx
    exact ⟨v, h', h1, h2.sim (not_defer hc)⟩

/-- a frame stands as told -/
structure Fr (cx : Cx) (σ : Nat → Int) (nt : Nat) (ι : Inj) (t : T) (h : H) (a : Act) (w : World) : Prop where
  rel : Rel cx σ ι h w
  tm : TRel σ ι t a.tmps
  sz : a.tmps.size = nt

/-- a region, its operations taken in a given order that is the turned ones' -/
theorem opers_sound {S : Sy} (hS : SyOk σ P S) (hy : Hyp P cx) {E : Env} {call : Nat → List V → H → K → R} {round : Pos → List V → H → K → R} {loop : IC → T → H → (T → H → R) → (Option Nat → T → H → R) → R} (hE : E = .mk call round loop) (hok : EnvOk P cx σ call round)
    {nt : Nat} {ops : Array Oper} : ∀ (is : List Nat) (l : List Oper), is.map (ops[·]?) = l.map some → ∀ {t : T} {h : H} {k : T → H → R} {r : V × H},
      opers S (l.map (compOpr cx nt ops 0)) E t h k = some r → ∃ t' h', k t' h' = some r ∧ ∀ (ro : Option Nat) (ι : Inj) (a : Act) (w : World) (Q : Exit → Act → World → Prop), Fr cx σ nt ι t h a w →
        (∀ ι' a' w', Fr cx σ nt ι' t' h' a' w' → a'.defers = a.defers → Ext ι ι' h h' w w' → Q .normal a' w') → wpOpsIn (Fz ro) 0 P ops Q is a w := by
  intro is
  induction is with
  | nil =>
    intro l hl t h k r hx
    cases l with
    | cons => simp at hl
    | nil => exact ⟨t, h, hx, fun ro ι a w Q hf hQ => hQ ι a w hf rfl (Ext.refl _ _ _)⟩
  | cons i is ih =>
    intro l hl t h k r hx
    cases l with
    | nil => simp at hl
    | cons o l =>
      simp only [List.map_cons, List.cons.injEq] at hl
      obtain ⟨hi, hl⟩ := hl
      rcases compOpr_eq (cx := cx) (nt := nt) (ops := ops) (late := 0) (o := o) with ⟨op, g, d, e, hc, hg, hd⟩ | e
      · rw [List.map_cons, e] at hx
        rcases wantK_spec (σ := σ) rfl hg t (opers S (l.map (compOpr cx nt ops 0)) E (tset d (.tup []) t) h k) (exec S E op t h fun v h' => opers S (l.map (compOpr cx nt ops 0)) E (tset d v t) h' k) with ⟨ew, hw⟩ | ⟨ew, hw⟩
        · have hx' : exec S E op t h (fun v h' => opers S (l.map (compOpr cx nt ops 0)) E (tset d v t) h' k) = some r := ew.symm.trans hx
          obtain ⟨v, h1, hx1, hsim⟩ := op_sim hS hy hE hok hc hx'
          obtain ⟨t', h', hk, hrest⟩ := ih l hl hx1
          refine ⟨t', h', hk, fun ro ι a w Q hf hQ => ?_⟩
          simp only [wpOpsIn, hi, hw ι a.tmps hf.tm, if_true]
          refine hsim ro ι a w _ Q hf.rel hf.tm.opds fun v' w' ι' hv hr hext => ?_
          obtain ⟨p1, p2⟩ := (hf.tm.mono hext.le).put hf.sz hd hv
          exact hrest ro ι' _ w' Q ⟨hr, p1, p2⟩ fun ι2 a2 w2 hf2 hd2 hext2 => hQ ι2 a2 w2 hf2 (hd2.trans (by cases o.dst <;> rfl)) (hext.trans hext2)
        · have hx' : opers S (l.map (compOpr cx nt ops 0)) E (tset d (.tup []) t) h k = some r := ew.symm.trans hx
          obtain ⟨t', h', hk, hrest⟩ := ih l hl hx'
          refine ⟨t', h', hk, fun ro ι a w Q hf hQ => ?_⟩
          simp only [wpOpsIn, hi, hw ι a.tmps hf.tm, if_false, Bool.false_eq_true]
          refine ⟨fun _ _ => trivial, ?_⟩
          obtain ⟨p1, p2⟩ := hf.tm.put hf.sz hd VR.undef
          exact hrest ro ι _ w Q ⟨hf.rel, p1, p2⟩ fun ι2 a2 w2 hf2 hd2 hext2 => hQ ι2 a2 w2 hf2 (hd2.trans (by cases o.dst <;> rfl)) hext2
      · rw [List.map_cons, e] at hx
        cases hx
end
end Go.Ab
