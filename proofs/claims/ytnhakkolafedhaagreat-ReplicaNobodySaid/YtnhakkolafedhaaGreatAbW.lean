/- A region that draws its order: every order of it ends as the turned one. -/
import Derived.Test.YtnhakkolafedhaaGreatAbU
set_option linter.unusedVariables false
set_option linter.unusedSimpArgs false
namespace Go.Ab
section
variable {P : Program} {cx : Cx} {σ : Nat → Int} {S : Sy} {call : Nat → List V → H → K → R} {round : Pos → List V → H → K → R} {loop : IC → T → H → (T → H → R) → (Option Nat → T → H → R) → R}

structure Rg (cx : Cx) (S : Sy) (E : Env) (nt : Nat) (ops : Array Oper) (es : List Ent) (t : T) (h : H) (k : T → H → R) (r : V × H) (ts : Nat → T) (hs : Nat → H) (vs : Nat → V) (wt : Nat → Bool) : Prop where
  len : es.length = ops.size
  chk : ChkOk ops es
  ent : ∀ (p : Nat) (e : Ent), es[p]? = some e → ∃ o, ops[e.j]? = some o ∧ e.ps = predsOf o ∧ e.io = compOpr cx nt ops 0 o
  can : Can S E (lateE es) [] t h k r ts hs vs wt

variable {nt : Nat} {ops : Array Oper} {es : List Ent} {t : T} {h : H} {k : T → H → R} {r : V × H} {ts : Nat → T} {hs : Nat → H} {vs : Nat → V} {wt : Nat → Bool}

theorem Rg.get {E : Env} (_ : Rg cx S E nt ops es t h k r ts hs vs wt) {p : Nat} {e : Ent} (he : es[p]? = some e) :
    ∃ o, (lateE es)[p]? = some o ∧ o.dst = e.io.dst ∧ o.guard = e.io.guard ∧ o.op = e.io.op ∧ o.late = (if Nat.beq e.io.op.kind 1 then lateOf e.j (es.drop (p + 1)) else 0) :=
  ⟨{ e.io with late := if Nat.beq e.io.op.kind 1 then lateOf e.j (es.drop (p + 1)) else 0 }, by rw [lateE_get, he]; rfl, rfl, rfl, rfl, rfl⟩

theorem Rg.good {E : Env} (hE : E = .mk call round loop) (R0 : Rg cx S E nt ops es t h k r ts hs vs wt) {p : Nat} {e : Ent} (he : es[p]? = some e) :
    ∃ oo op g d, ops[e.j]? = some oo ∧ e.io = ⟨d, g, 0, op⟩ ∧ compOp cx oo.op = some op ∧ compGuard ops oo.guard = some g ∧ DstOk nt oo.dst d ∧ e.ps = predsOf oo := by
  obtain ⟨oo, h1, h2, h3⟩ := R0.ent p e he
  rcases compOpr_eq (cx := cx) (nt := nt) (ops := ops) (late := 0) (o := oo) with ⟨op, g, d, a, b, c, f⟩ | hb
  · exact ⟨oo, op, g, d, h1, h3.trans a, b, c, f, h2⟩
  · exfalso
    obtain ⟨o, ho, o1, o2, o3, o4⟩ := R0.get he
    rw [h3, hb] at o2 o3
    cases hw : wt p with
    | false =>
      have := (R0.can.no p o ho hw).2.2 none (some r)
      rw [o2] at this
      cases (show (some r : R) = none from this)
    | true =>
      have := (R0.can.yes p o ho hw).2 (fun v h => some (v, h))
      rw [o3] at this
      cases (show (none : R) = _ from this)

/-- no writer from one place up to another -/
def NoW (es : List Ent) (a b : Nat) : Prop := ∀ (i : Nat) (e : Ent), a ≤ i → i < b → es[i]? = some e → e.io.op.kind ≠ 3

theorem Rg.chain {E : Env} (R0 : Rg cx S E nt ops es t h k r ts hs vs wt) {a : Nat} : ∀ (b : Nat), a ≤ b → b ≤ es.length → NoW es a b →
    (∀ (ι : Inj) (w : World), Rel cx σ ι (hs a) w → Rel cx σ ι (hs b) w) ∧ (∀ (ι0 ι : Inj) (h0 : H) (w0 w : World), Ext ι0 ι h0 (hs a) w0 w → Ext ι0 ι h0 (hs b) w0 w) ∧ (hs a).nx.toNat ≤ (hs b).nx.toNat ∧ HLe (hs a) (hs b) := by
  intro b
  induction b with
  | zero => intro h1 _ _; rw [Nat.le_zero.1 h1]; exact ⟨fun _ _ x => x, fun _ _ _ _ _ x => x, Nat.le_refl _, HLe.refl _⟩
  | succ b ih =>
    intro h1 h2 hn
    by_cases e : a = b + 1
    · rw [e]; exact ⟨fun _ _ x => x, fun _ _ _ _ _ x => x, Nat.le_refl _, HLe.refl _⟩
    · obtain ⟨i1, i2, i3, i4⟩ := ih (by omega) (by omega) fun i e h3 h4 => hn i e h3 (by omega)
      have hlt : b < es.length := by omega
      have he : es[b]? = some es[b] := List.getElem?_eq_getElem hlt
      obtain ⟨o, ho, o1, o2, o3, o4⟩ := R0.get he
      have hk3 := hn b _ (by omega) (by omega) he
      have same : hs (b + 1) = hs b → _ := fun e => (⟨fun ι w x => by rw [e]; exact i1 ι w x, fun ι0 ι h0 w0 w x => by rw [e]; exact i2 ι0 ι h0 w0 w x, by rw [e]; exact i3, by rw [e]; exact i4⟩ :
        (∀ (ι : Inj) (w : World), Rel cx σ ι (hs a) w → Rel cx σ ι (hs (b + 1)) w) ∧ (∀ (ι0 ι : Inj) (h0 : H) (w0 w : World), Ext ι0 ι h0 (hs a) w0 w → Ext ι0 ι h0 (hs (b + 1)) w0 w) ∧ (hs a).nx.toNat ≤ (hs (b + 1)).nx.toNat ∧ HLe (hs a) (hs (b + 1)))
      cases hw : wt b with
      | false => exact same (R0.can.no b o ho hw).2.1
      | true =>
        rcases kind_le es[b].io.op with hk | hk | hk | hk
        · exact same (R0.can.k01 b o ho hw (by rw [o3]; exact .inl hk))
        · exact same (R0.can.k01 b o ho hw (by rw [o3]; exact .inr hk))
        · obtain ⟨ob, e1, e2⟩ := R0.can.k2 b o ho hw (by rw [o3]; exact hk)
          rw [e1]
          refine ⟨fun ι w x => (i1 ι w x).more ob, fun ι0 ι h0 w0 w x => (i2 ι0 ι h0 w0 w x).more ob, ?_, i4.trans (push_le e2 ob)⟩
          rw [H.nx_push, Pos.toNat_succ]; omega
        · exact absurd hk hk3

/-- blocks made in a row, no writer between: their places, and what lies there -/
theorem Rg.mkAt {E : Env} (R0 : Rg cx S E nt ops es t h k r ts hs vs wt) {q F : Nat} {g : Ent} (hg : es[q]? = some g) (hw : wt q = true) (hk : g.io.op.kind = 2) (hqF : q < F) (hF : F ≤ es.length) (hn : NoW es (q + 1) F) :
    (hs q).nx.toNat < (hs F).nx.toNat ∧ ∃ ob, hs (q + 1) = (hs q).push ob ∧ (hs F).get (hs q).nx = some ob := by
  obtain ⟨o, ho, o1, o2, o3, o4⟩ := R0.get hg
  obtain ⟨ob, e1, e2⟩ := R0.can.k2 q o ho hw (by rw [o3]; exact hk)
  obtain ⟨_, _, d3, d4⟩ := R0.chain (σ := fun _ => 0) (a := q + 1) F (by omega) hF hn
  refine ⟨?_, ob, e1, d4 _ _ (by rw [e1]; exact H.get_push_same _ _)⟩
  rw [e1, H.nx_push, Pos.toNat_succ] at d3; omega

theorem next_writer (es : List Ent) : ∀ (n a : Nat), a + n = es.length → ∃ F, a ≤ F ∧ F ≤ es.length ∧ NoW es a F ∧ (F < es.length → ∃ e, es[F]? = some e ∧ e.io.op.kind = 3) := by
  intro n
  induction n with
  | zero => intro a h; exact ⟨a, Nat.le_refl _, by omega, fun i e h1 h2 => by omega, fun h => by omega⟩
  | succ n ih =>
    intro a h
    have he : es[a]? = some es[a] := List.getElem?_eq_getElem (by omega)
    by_cases hk : es[a].io.op.kind = 3
    · exact ⟨a, Nat.le_refl _, by omega, fun i e h1 h2 => by omega, fun _ => ⟨_, he, hk⟩⟩
    · obtain ⟨F, h1, h2, h3, h4⟩ := ih (a + 1) (by omega)
      refine ⟨F, by omega, h2, fun i e hi1 hi2 hie => ?_, h4⟩
      by_cases e1 : i = a
      · subst e1; rw [he] at hie; cases hie; exact hk
      · exact h3 i e (by omega) hi2 hie

theorem Rg.tsGot {E : Env} (R0 : Rg cx S E nt ops es t h k r ts hs vs wt) : ∀ (p : Nat), p ≤ es.length → (∀ (q : Nat) (e : Ent) (d : Pos), q < p → es[q]? = some e → e.io.dst = some d → (ts p).get d = some (vs q)) ∧
    ∀ x, (∀ (q : Nat) (e : Ent), q < p → es[q]? = some e → e.io.dst ≠ some x) → (ts p).get x = t.get x := by
  intro p
  induction p with
  | zero => intro _; exact ⟨fun q e d h => by omega, fun x _ => by rw [R0.can.t0]⟩
  | succ p ih =>
    intro hp
    obtain ⟨i1, i2⟩ := ih (by omega)
    have he : es[p]? = some es[p] := List.getElem?_eq_getElem (by omega)
    obtain ⟨o, ho, o1, o2, o3, o4⟩ := R0.get he
    have hts := R0.can.tst p o ho
    rw [o1] at hts
    refine ⟨fun q e d hq hqe hd => ?_, fun x hx => ?_⟩
    · by_cases e1 : q = p
      · subst e1; rw [he] at hqe; cases hqe; rw [hts, hd]; exact Tr.get_put_same _ _ _
      · rw [hts]
        cases hd' : es[p].io.dst with
        | none => exact i1 q e d (by omega) hqe hd
        | some d' =>
          have hne : d ≠ d' := fun e2 => R0.chk.dne q p e _ d (by omega) hqe he hd (by rw [hd', e2])
          show (Tr.put d' (vs p) (ts p)).get d = _
          rw [Tr.get_put_ne _ _ _ _ hne]; exact i1 q e d (by omega) hqe hd
    · rw [hts]
      have hx' := i2 x fun q e hq => hx q e (by omega)
      cases hd' : es[p].io.dst with
      | none => exact hx'
      | some d' =>
        have hne : x ≠ d' := fun e2 => hx p _ (by omega) he (by rw [hd', e2])
        show (Tr.put d' (vs p) (ts p)).get x = _
        rw [Tr.get_put_ne _ _ _ _ hne]; exact hx'

def Dn (listed : Array Bool) (j : Nat) : Prop := listed[j]? = some true
theorem Dn.set {listed : Array Bool} {i j : Nat} (hi : i < listed.size) : Dn (listed.setIfInBounds i true) j ↔ j = i ∨ Dn listed j := by
  unfold Dn
  rw [Array.getElem?_setIfInBounds]
  by_cases e : i = j
  · subst e; simp [hi]
  · simp [e, Ne.symm e]

/-- a block that is made, but not yet in the memory itself -/
structure MkAt (ι : Inj) (h hp hp1 hF : H) : Prop where
  no : ι hp.nx = none
  ge : h.nx.toNat ≤ hp.nx.toNat
  lt : hp.nx.toNat < hF.nx.toNat
  get : ∃ ob, hp1 = hp.push ob ∧ hF.get hp.nx = some ob

structure St (cx : Cx) (σ : Nat → Int) (nt : Nat) (ops : Array Oper) (es : List Ent) (t : T) (h : H) (hs : Nat → H) (vs : Nat → V) (wt : Nat → Bool) (ι0 : Inj) (w0 : World) (df : List Deferred)
    (listed : Array Bool) (a : Act) (w : World) (T0 : T) (ι : Inj) (F : Nat) : Prop where
  sz : listed.size = ops.size
  cl : ∀ (p : Nat) (e : Ent), es[p]? = some e → Dn listed e.j → ∀ z ∈ e.ps, Dn listed z
  tm : TRel σ ι T0 a.tmps
  tsz : a.tmps.size = nt
  df : a.defers = df
  got : ∀ (p : Nat) (e : Ent) (d : Pos), es[p]? = some e → Dn listed e.j → e.io.dst = some d → T0.get d = some (vs p)
  old : ∀ x, (∀ (p : Nat) (e : Ent), es[p]? = some e → Dn listed e.j → e.io.dst ≠ some x) → T0.get x = t.get x
  Fm : F ≤ es.length
  Fw : F < es.length → ∃ e, es[F]? = some e ∧ e.io.op.kind = 3 ∧ ¬ Dn listed e.j
  below : ∀ (p : Nat) (e : Ent), es[p]? = some e → Dn listed e.j → p < F
  wdone : ∀ (p : Nat) (e : Ent), es[p]? = some e → p < F → e.io.op.kind = 3 → Dn listed e.j
  rel : Rel cx σ ι (hs F) w
  ext : Ext ι0 ι h (hs F) w0 w
  mks : ∀ (p : Nat) (e : Ent), es[p]? = some e → p < F → wt p = true → e.io.op.kind = 2 → ¬ Dn listed e.j → MkAt ι h (hs p) (hs (p + 1)) (hs F)
  mkd : ∀ (p q : Nat) (e g : Ent), es[p]? = some e → es[q]? = some g → p < q → q < F → wt p = true → wt q = true → e.io.op.kind = 2 → g.io.op.kind = 2 → ¬ Dn listed e.j → ¬ Dn listed g.j → (hs p).nx.toNat < (hs q).nx.toNat

variable {ι0 : Inj} {w0 : World} {df : List Deferred} {listed : Array Bool} {a : Act} {w : World} {T0 : T} {ι : Inj} {F : Nat}

/-- what waits for nothing has no writer left ahead -/
theorem St.ahead {E : Env} (R0 : Rg cx S E nt ops es t h k r ts hs vs wt) (st : St cx σ nt ops es t h hs vs wt ι0 w0 df listed a w T0 ι F) : ∀ (p : Nat) (e : Ent), es[p]? = some e → (∀ z ∈ e.ps, Dn listed z) →
    ∀ (y : Nat) (g : Ent), y < p → es[y]? = some g → g.io.op.kind = 3 → Dn listed g.j := by
  intro p
  induction p using Nat.strongRecOn with
  | _ p ih =>
    intro e he hps y g hy hg hk
    rcases R0.chk.seg p e he with hn | ⟨s, x, hs1, hx, hxj, hlast⟩
    · exact absurd hk (hn y g hy hg)
    · have hys := hlast y g hy hg hk
      have hxd := hps _ hxj
      by_cases e1 : y = s
      · subst e1; rw [hg] at hx; cases hx; exact hxd
      · exact ih s hs1 x hx (st.cl s x hx hxd) y g (by omega) hg hk

theorem St.agree {E : Env} (R0 : Rg cx S E nt ops es t h k r ts hs vs wt) (st : St cx σ nt ops es t h hs vs wt ι0 w0 df listed a w T0 ι F) {p : Nat} {e : Ent} (he : es[p]? = some e) (hnD : ¬ Dn listed e.j) (hps : ∀ z ∈ e.ps, Dn listed z)
    {x : Pos} (hx : rdsIn x e.io = true) : T0.get x = (ts p).get x := by
  have hpl : p ≤ es.length := by have := (List.getElem?_eq_some_iff.1 he).1; omega
  obtain ⟨g1, g2⟩ := R0.tsGot p hpl
  by_cases hq : ∃ (q : Nat) (f : Ent), es[q]? = some f ∧ f.io.dst = some x
  · obtain ⟨q, f, hf, hd⟩ := hq
    have uniq : ∀ (q' : Nat) (f' : Ent), es[q']? = some f' → f'.io.dst = some x → q' = q := fun q' f' hf' hd' => by
      rcases Nat.lt_trichotomy q q' with h1 | h1 | h1
      · exact absurd hd' (R0.chk.dne q q' f f' x h1 hf hf' hd)
      · exact h1.symm
      · exact absurd hd (R0.chk.dne q' q f' f x h1 hf' hf hd')
    rcases Nat.lt_trichotomy q p with h1 | h1 | h1
    · have hD := hps _ (R0.chk.wr q p f e x h1 hf he hd hx)
      rw [st.got q f x hf hD hd, g1 q f x h1 hf hd]
    · subst h1; rw [he] at hf; cases hf
      rw [R0.chk.own q e x he hd] at hx; cases hx
    · have hj := R0.chk.rw p q e f x h1 he hf hd hx
      rw [st.old x fun q' f' hf' hD hd' => ?_, g2 x fun q' f' hq' hf' hd' => ?_]
      · have := uniq q' f' hf' hd'; omega
      · have := uniq q' f' hf' hd'; subst this; rw [hf] at hf'; cases hf'
        exact hnD (st.cl q' f hf hD _ hj)
  · rw [st.old x fun q' f' hf' _ hd' => hq ⟨q', f', hf', hd'⟩, g2 x fun q' f' _ hf' hd' => hq ⟨q', f', hf', hd'⟩]

theorem ev_get {n : Pos} {t t' : T} (h : t.get n = t'.get n) : (Opd.t n).ev t = (Opd.t n).ev t' := by
  show Option.rec (motive := fun _ => V) (.tup []) (fun v => v) (t.get n) = Option.rec (motive := fun _ => V) (.tup []) (fun v => v) (t'.get n)
  rw [h]
theorem agree_opds {io : IOpr} {t t' : T} (h : ∀ x, rdsIn x io = true → t.get x = t'.get x) : ∀ y ∈ io.op.opds, y.ev t = y.ev t' := by
  intro y hy
  cases y with
  | c v => rfl
  | t n =>
    refine ev_get (h n ?_)
    unfold rdsIn
    rw [Bool.or_eq_true]
    left
    exact List.any_eq_true.2 ⟨_, hy, by show Nat.beq n.nat n.nat = true; rw [Nat.beq_eq]⟩
theorem agree_guard {io : IOpr} {t t' : T} (h : ∀ x, rdsIn x io = true → t.get x = t'.get x) (a b : R) : wantK io.guard t a b = wantK io.guard t' a b := by
  cases hg : io.guard with
  | none => rfl
  | some p =>
    obtain ⟨d, w⟩ := p
    have : (Opd.t d).ev t = (Opd.t d).ev t' := ev_get (h d (by
      unfold rdsIn
      rw [Bool.or_eq_true]
      right
      rw [hg]; show Nat.beq d.nat d.nat = true; rw [Nat.beq_eq]))
    show V.on ((Opd.t d).ev t) _ _ _ _ _ _ _ _ _ = V.on ((Opd.t d).ev t') _ _ _ _ _ _ _ _ _
    rw [this]

/-- one more is done -/
theorem St.add {E : Env} (R0 : Rg cx S E nt ops es t h k r ts hs vs wt) (st : St cx σ nt ops es t h hs vs wt ι0 w0 df listed a w T0 ι F) {p : Nat} {e : Ent} (he : es[p]? = some e) (hps : ∀ z ∈ e.ps, Dn listed z)
    {a' : Act} {w' : World} {ι' : Inj} {F' : Nat} (htm : TRel σ ι' (tset e.io.dst (vs p) T0) a'.tmps) (htsz : a'.tmps.size = nt) (hdf : a'.defers = df) (hFm : F' ≤ es.length)
    (hFw : F' < es.length → ∃ g, es[F']? = some g ∧ g.io.op.kind = 3 ∧ ¬ Dn listed g.j ∧ F' ≠ p) (hbel : ∀ (q : Nat) (g : Ent), es[q]? = some g → Dn listed g.j ∨ q = p → q < F')
    (hwd : ∀ (q : Nat) (g : Ent), es[q]? = some g → q < F' → g.io.op.kind = 3 → q = p ∨ Dn listed g.j) (hrel : Rel cx σ ι' (hs F') w') (hext : Ext ι0 ι' h (hs F') w0 w')
    (hmk : ∀ (q : Nat) (g : Ent), es[q]? = some g → q < F' → wt q = true → g.io.op.kind = 2 → ¬ Dn listed g.j → q ≠ p → MkAt ι' h (hs q) (hs (q + 1)) (hs F'))
    (hmkd : ∀ (x q : Nat) (f g : Ent), es[x]? = some f → es[q]? = some g → x < q → q < F' → wt x = true → wt q = true → f.io.op.kind = 2 → g.io.op.kind = 2 → ¬ Dn listed f.j → ¬ Dn listed g.j → x ≠ p → q ≠ p → (hs x).nx.toNat < (hs q).nx.toNat) :
    St cx σ nt ops es t h hs vs wt ι0 w0 df (listed.setIfInBounds e.j true) a' w' (tset e.io.dst (vs p) T0) ι' F' := by
  have hlt : e.j < listed.size := by rw [st.sz]; exact R0.chk.lt p e he
  have key : ∀ (q : Nat) (g : Ent), es[q]? = some g → (Dn (listed.setIfInBounds e.j true) g.j ↔ q = p ∨ Dn listed g.j) := fun q g hg => by
    rw [Dn.set hlt]
    constructor
    · rintro (e1 | e1)
      · left
        rcases Nat.lt_trichotomy q p with h1 | h1 | h1
        · exact absurd e1 (R0.chk.jne q p g e h1 hg he)
        · exact h1
        · exact absurd e1.symm (R0.chk.jne p q e g h1 he hg)
      · exact .inr e1
    · rintro (rfl | e1)
      · rw [he] at hg; cases hg; exact .inl rfl
      · exact .inr e1
  refine ⟨by simp [st.sz], fun q g hg hD z hz => ?_, htm, htsz, hdf, fun q g d hg hD hd => ?_, fun x hx => ?_, hFm, fun hF => ?_, fun q g hg hD => ?_, fun q g hg hq hk => ?_, hrel, hext, fun q g hg hq hw hk hD => ?_, fun x q f g hf hg hx hq hwx hwq hkx hkq hDx hDq => ?_⟩
  · rw [Dn.set hlt]
    rcases (key q g hg).1 hD with rfl | h1
    · rw [he] at hg; cases hg; exact .inr (hps z hz)
    · exact .inr (st.cl q g hg h1 z hz)
  · rcases (key q g hg).1 hD with rfl | h1
    · rw [he] at hg; cases hg; rw [hd]; exact Tr.get_put_same _ _ _
    · have h2 := st.got q g d hg h1 hd
      cases hd' : e.io.dst with
      | none => exact h2
      | some d' =>
        by_cases e2 : q = p
        · subst e2; rw [he] at hg; cases hg; rw [hd] at hd'; cases hd'; exact Tr.get_put_same _ _ _
        · have hne : d ≠ d' := fun e3 => by
            subst e3
            rcases Nat.lt_or_gt_of_ne e2 with h3 | h3
            · exact R0.chk.dne q p g e d h3 hg he hd hd'
            · exact R0.chk.dne p q e g d h3 he hg hd' hd
          show (Tr.put d' (vs p) T0).get d = _
          rw [Tr.get_put_ne _ _ _ _ hne]; exact h2
  · have h1 := st.old x fun q g hg hD => hx q g hg ((key q g hg).2 (.inr hD))
    cases hd' : e.io.dst with
    | none => exact h1
    | some d' =>
      have hne : x ≠ d' := fun e3 => hx p e he ((key p e he).2 (.inl rfl)) (by rw [hd', e3])
      show (Tr.put d' (vs p) T0).get x = _
      rw [Tr.get_put_ne _ _ _ _ hne]; exact h1
  · obtain ⟨g, h1, h2, h3, h4⟩ := hFw hF
    exact ⟨g, h1, h2, fun hD => by rcases (key F' g h1).1 hD with h5 | h5; exact h4 h5; exact h3 h5⟩
  · rcases (key q g hg).1 hD with h1 | h1
    · exact hbel q g hg (.inr h1)
    · exact hbel q g hg (.inl h1)
  · exact (key q g hg).2 (hwd q g hg hq hk)
  · exact hmk q g hg hq hw hk (fun h1 => hD ((key q g hg).2 (.inr h1))) (fun h1 => hD ((key q g hg).2 (.inl h1)))
  · exact hmkd x q f g hf hg hx hq hwx hwq hkx hkq (fun h1 => hDx ((key x f hf).2 (.inr h1))) (fun h1 => hDq ((key q g hg).2 (.inr h1))) (fun h1 => hDx ((key x f hf).2 (.inl h1))) (fun h1 => hDq ((key q g hg).2 (.inl h1)))
end
end Go.Ab
