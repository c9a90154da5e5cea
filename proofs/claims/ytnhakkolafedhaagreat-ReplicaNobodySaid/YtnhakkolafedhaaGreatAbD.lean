/- What a run of the abstract interpreter says of the real memory: the relation, what it lets turn. -/
import Derived.Test.YtnhakkolafedhaaGreatAbC
import Derived.ChangeKeysEq
import Derived.Laws.IdiomCopy
import Derived.Laws.Cells
set_option linter.unusedVariables false
set_option linter.unusedSimpArgs false
namespace Go.Ab

/-! ### what the continuation-passing words come to -/
section inv
variable {r : V × H}
theorem ifK_some {b : Bool} {k : R} : ifK b k = some r ↔ b = true ∧ k = some r := by cases b <;> simp [ifK]
theorem ltb_iff {a b : Nat} : ltb a b = true ↔ a < b := by unfold ltb; rw [Nat.ble_eq]; exact Iff.rfl
theorem nthK_some {l : List V} {i : Nat} {k : V → R} (h : nthK l i k = some r) : ∃ v, l[i]? = some v ∧ k v = some r := by
  induction l generalizing i with
  | nil => cases h
  | cons a l ih => cases i with
    | zero => exact ⟨a, rfl, h⟩
    | succ i => obtain ⟨v, h1, h2⟩ := ih h; exact ⟨v, by simpa using h1, h2⟩
theorem llen_eq {α : Type} (l : List α) : llen l = l.length := by
  induction l with
  | nil => rfl
  | cons a l ih => show Nat.succ (llen l) = _; rw [ih]; rfl
theorem app_eq {α : Type} (l m : List α) : app l m = l ++ m := by
  induction l with
  | nil => rfl
  | cons a l ih => show a :: app l m = _; rw [ih]; rfl
theorem tkn_eq {α : Type} (l : List α) (n : Nat) : tkn l n = l.take n := by
  induction l generalizing n with
  | nil => cases n <;> rfl
  | cons a l ih => cases n with
    | zero => rfl
    | succ n => show a :: tkn l n = _; rw [ih]; rfl
theorem drp_eq {α : Type} (l : List α) (n : Nat) : drp l n = l.drop n := by
  induction l generalizing n with
  | nil => cases n <;> rfl
  | cons a l ih => cases n with
    | zero => rfl
    | succ n => show drp l n = _; rw [ih]; rfl
theorem lset_eq (x : V) (l : List V) (i : Nat) : lset x l i = l.set i x := by
  induction l generalizing i with
  | nil => cases i <;> rfl
  | cons a l ih => cases i with
    | zero => rfl
    | succ i => show a :: lset x l i = _; rw [ih]; rfl
theorem repl_eq (zs : List V) (n : Nat) : repl zs n = (List.replicate n zs).flatten := by
  induction n with
  | zero => rfl
  | succ n ih => show app zs (repl zs n) = _; rw [app_eq, ih]; simp [List.replicate_succ]

/-- is it a row of cells? -/
noncomputable def O.isC (o : O) : Bool := match o with | .lst _ => true | .big _ _ _ _ => true | _ => false
noncomputable def O.size (o : O) : Nat := match o with | .lst l => l.length | .big n _ _ _ => n | _ => 0
noncomputable def O.at (o : O) (i : Nat) : Option V := match o with
  | .lst l => l[i]?
  | .big n m zs t => if i < n then (match t.get (Pos.of i) with | some v => some v | none => zs[i % m]?) else none
  | _ => none

theorem O.getK_some {o : O} {i : Nat} {k : V → R} (h : o.getK i k = some r) : ∃ v, o.isC = true ∧ i < o.size ∧ o.at i = some v ∧ k v = some r := by
  cases o with
  | lst l =>
    obtain ⟨v, h1, h2⟩ := nthK_some (l := l) h
    exact ⟨v, rfl, (List.getElem?_eq_some_iff.1 h1).1, h1, h2⟩
  | big n m zs t =>
    obtain ⟨hb, h⟩ := ifK_some.1 h
    rw [ltb_iff] at hb
    rw [Tr.getV_eq] at h
    cases ht : t.get (Pos.of i) with
    | some v => rw [ht] at h; exact ⟨v, rfl, hb, by simp [O.at, hb, ht], h⟩
    | none => rw [ht] at h; obtain ⟨v, h1, h2⟩ := nthK_some h; exact ⟨v, rfl, hb, by simp only [O.at, hb, ht, if_true]; exact h1, h2⟩
  | mp es => cases h
  | loop a b c d e => cases h
  | dead => cases h

theorem O.setK_some {o : O} {i : Nat} {v : V} {k : O → R} (h : o.setK i v k = some r) :
    ∃ o', v.one = true ∧ o.isC = true ∧ i < o.size ∧ o'.isC = true ∧ o'.size = o.size ∧ (∀ j, o'.at j = if j = i then some v else o.at j) ∧ k o' = some r := by
  obtain ⟨h1, h⟩ := ifK_some.1 h
  cases o with
  | lst l =>
    obtain ⟨hb, h⟩ := ifK_some.1 h
    rw [ltb_iff, llen_eq] at hb
    rw [lset_eq] at h
    refine ⟨_, h1, rfl, hb, rfl, by simp [O.size], fun j => ?_, h⟩
    by_cases hj : j = i
    · subst hj; simp [O.at, hb]
    · simp [O.at, hj, List.getElem?_set_ne (Ne.symm hj)]
  | big n m zs t =>
    obtain ⟨hb, h⟩ := ifK_some.1 h
    rw [ltb_iff] at hb
    refine ⟨.big n m zs (t.put (Pos.of i) v), h1, rfl, hb, rfl, rfl, fun j => ?_, h⟩
    by_cases hj : j = i
    · subst hj; simp [O.at, hb, Tr.get_put_same]
    · simp [O.at, hj, Tr.get_put_ne _ _ _ _ (Pos.of_ne hj)]
  | mp es => cases h
  | loop a b c d e => cases h
  | dead => cases h

theorem H.getK_some {h : H} {b : Pos} {k : O → R} (e : h.getK b k = some r) : ∃ o, h.get b = some o ∧ k o = some r := by
  cases h with
  | mk nx m =>
    cases ho : m.get b with
    | none => simp [H.getK, Tr.getO_eq, ho] at e
    | some o => simp [H.getK, Tr.getO_eq, ho] at e; exact ⟨o, ho, e⟩

theorem getcs_some {o : O} {n : Nat} : ∀ {i : Nat} {k : List V → R}, getcs o n i k = some r →
    ∃ vs, vs.length = n ∧ (n ≠ 0 → o.isC = true ∧ i + n ≤ o.size) ∧ (∀ j, j < n → o.at (i + j) = vs[j]?) ∧ k vs = some r := by
  induction n with
  | zero => intro i k h; exact ⟨[], rfl, fun h => absurd rfl h, fun j hj => absurd hj (Nat.not_lt_zero _), h⟩
  | succ n ih =>
    intro i k h
    obtain ⟨v, hc, hi, hv, h⟩ := O.getK_some (o := o) (i := i) (k := fun v => getcs o n (Nat.succ i) fun vs => k (v :: vs)) h
    obtain ⟨vs, hl, hn, hat, h⟩ := ih h
    refine ⟨v :: vs, by simp [hl], fun _ => ⟨hc, ?_⟩, fun j hj => ?_, h⟩
    · by_cases hz : n = 0
      · omega
      · have := (hn hz).2; omega
    · cases j with
      | zero => simpa using hv
      | succ j => have := hat j (by omega); rw [show i + (j + 1) = Nat.succ i + j by omega]; simpa using this

theorem setcs_some {vs : List V} : ∀ {o : O} {i : Nat} {k : O → R}, setcs vs o i k = some r →
    ∃ o', (vs ≠ [] → o.isC = true ∧ i + vs.length ≤ o.size) ∧ (o.isC = true → o'.isC = true) ∧ o'.size = o.size ∧ (∀ v ∈ vs, v.one = true) ∧
      (∀ j, o'.at j = if i ≤ j ∧ j < i + vs.length then vs[j - i]? else o.at j) ∧ (vs = [] → o' = o) ∧ k o' = some r := by
  induction vs with
  | nil => intro o i k h; exact ⟨o, fun h => absurd rfl h, id, rfl, by simp, fun j => by rw [if_neg (by simp)], fun _ => rfl, h⟩
  | cons v vs ih =>
    intro o i k h
    obtain ⟨o1, h1, hc, hi, hc1, hs1, ha1, h⟩ := O.setK_some (o := o) (i := i) (v := v) (k := fun o' => setcs vs o' (Nat.succ i) k) h
    obtain ⟨o2, hn, hc2, hs2, hone, ha2, _, h⟩ := ih h
    refine ⟨o2, fun _ => ⟨hc, ?_⟩, fun _ => hc2 hc1, hs2.trans hs1, ?_, fun j => ?_, by simp, h⟩
    · by_cases hz : vs = []
      · subst hz; simp; omega
      · have := (hn hz).2; rw [hs1] at this; simp; omega
    · intro u hu; rcases List.mem_cons.1 hu with rfl | hu
      · exact h1
      · exact hone u hu
    · rw [ha2 j, ha1 j]
      simp only [List.length_cons]
      by_cases hj : j = i
      · subst hj; rw [if_neg (by omega), if_pos rfl, if_pos (by omega)]; simp
      · by_cases hin : Nat.succ i ≤ j ∧ j < Nat.succ i + vs.length
        · rw [if_pos hin, if_pos (by omega), show j - i = (j - Nat.succ i) + 1 by omega]; simp
        · rw [if_neg hin, if_neg hj, if_neg (by omega)]

theorem V.onPtr_some {v : V} {k : Pos → Nat → R} (h : v.onPtr k = some r) : ∃ b o, v = .ptr b o ∧ k b o = some r := by
  cases v <;> first | exact ⟨_, _, rfl, h⟩ | cases h
theorem V.onBool_some {v : V} {k : Bool → R} (h : v.onBool k = some r) : ∃ b, v = .bool b ∧ k b = some r := by
  cases v <;> first | exact ⟨_, rfl, h⟩ | cases h
theorem V.onAgg_some {v : V} {k : List V → R} (h : v.onAgg k = some r) : ∃ c, v = .agg c ∧ k c = some r := by
  cases v <;> first | exact ⟨_, rfl, h⟩ | cases h
theorem V.onTup_some {v : V} {k : List V → R} (h : v.onTup k = some r) : ∃ c, v = .tup c ∧ k c = some r := by
  cases v <;> first | exact ⟨_, rfl, h⟩ | cases h
theorem V.onInt_some {v : V} {d : R} {k : IntKind → Int → R} (h : v.onInt d k = some r) : (∃ j n, v = .int j n ∧ k j n = some r) ∨ ((∀ j n, v ≠ .int j n) ∧ d = some r) := by
  cases v <;> first | exact .inl ⟨_, _, rfl, h⟩ | exact .inr ⟨by simp, h⟩
theorem V.onSl_some {v : V} {d : R} {k : Pos → Nat → Nat → Nat → Option Nat → R} (h : v.onSl d k = some r) :
    (∃ b o len cap fx, v = .sl b o len cap fx ∧ k b o len cap fx = some r) ∨ ((∀ b o len cap fx, v ≠ .sl b o len cap fx) ∧ d = some r) := by
  cases v <;> first | exact .inl ⟨_, _, _, _, _, rfl, h⟩ | exact .inr ⟨by simp, h⟩
theorem V.onMap_some {v : V} {d : R} {k : Pos → R} (h : v.onMap d k = some r) : (∃ b, v = .map b ∧ k b = some r) ∨ ((∀ b, v ≠ .map b) ∧ d = some r) := by
  cases v <;> first | exact .inl ⟨_, rfl, h⟩ | exact .inr ⟨by simp, h⟩
theorem V.isNils_iff {v : V} : v.isNils = true ↔ v = .nils := by cases v <;> simp [V.isNils]
theorem V.isNilm_iff {v : V} : v.isNilm = true ↔ v = .nilm := by cases v <;> simp [V.isNilm]
theorem V.nat_some {v : V} {k : Nat → R} (h : v.nat k = some r) : ∃ j n, v = .int j (.ofNat n) ∧ k n = some r := by
  rcases V.onInt_some h with ⟨j, n, rfl, h⟩ | ⟨_, h⟩
  · cases n with
    | ofNat n => exact ⟨j, n, rfl, h⟩
    | negSucc n => cases h
  · cases h
end inv

/-! ### the relation -/
section rel
variable (cx : Cx) (σ : Nat → Int)

/-- temporaries: each stands for the real one of its number -/
def TRel (ι : Inj) (t : T) (tmps : Array Value) : Prop := ∀ n, VR σ ι ((Opd.t (Pos.of n)).ev t) (tmps.getD n undef)

def stOf : LoopState → Option Code → Nat → Prop
  | .ready, _, st => st = 0
  | .busy, _, st => st = 1
  | .done, some .ret, st => st = 2
  | .done, some (.exit id), st => st = id + 3
  | _, _, _ => False

structure LRel (ι : Inj) (r : Loop) (st : Nat) (t : T) (ps : List Pos) (as bd : IC) : Prop where
  hst : stOf r.state r.pending st
  pend : st = 0 → r.pending = none
  tm : TRel σ ι t r.tmps
  hps : ps = r.params.toList.map Pos.of
  lt : ∀ p ∈ r.params.toList, p < r.tmps.size
  has : as = compC cx r.tmps.size true r.assign
  hbd : bd = compC cx r.tmps.size true r.body

def ORel (ι : Inj) (w : World) (l : Loc) (o : O) : Prop := match o with
  | .mp es => ∃ es' clk, w.heap[l.blk]? = some (.map es' clk) ∧ VRL σ ι (es.map (·.1)) (es'.toList.map (·.key)) ∧ VRL σ ι (es.map (·.2)) (es'.toList.map (·.val))
  | .loop st t ps as bd => ∃ r, w.heap[l.blk]? = some (.loop r) ∧ LRel cx σ ι r st t ps as bd
  | .dead => True
  | o => ∃ c ty fz, w.heap[l.blk]? = some (.cells c ty fz) ∧ o.size ≤ l.sz ∧ l.off + l.sz ≤ c.size ∧ (∀ i, i < l.sz → ¬(fz.1 ≤ l.off + i ∧ l.off + i < fz.2)) ∧
      (∀ i v, o.at i = some v → ∃ x, c[l.off + i]? = some x ∧ VR σ ι v x ∧ v.one = true)

theorem orel_cells {ι : Inj} {w : World} {l : Loc} {o : O} (hc : o.isC = true) : ORel cx σ ι w l o ↔
    ∃ c ty fz, w.heap[l.blk]? = some (.cells c ty fz) ∧ o.size ≤ l.sz ∧ l.off + l.sz ≤ c.size ∧ (∀ i, i < l.sz → ¬(fz.1 ≤ l.off + i ∧ l.off + i < fz.2)) ∧
      (∀ i v, o.at i = some v → ∃ x, c[l.off + i]? = some x ∧ VR σ ι v x ∧ v.one = true) := by
  cases o <;> first | exact Iff.rfl | cases hc

variable {cx} {σ}
theorem TRel.mono {ι ι' : Inj} {t : T} {tmps : Array Value} (h : TRel σ ι t tmps) (hle : Le ι ι') : TRel σ ι' t tmps := fun n => VR.mono hle _ _ (h n)
theorem LRel.mono {ι ι' : Inj} {r : Loop} {st : Nat} {t : T} {ps : List Pos} {as bd : IC} (h : LRel cx σ ι r st t ps as bd) (hle : Le ι ι') : LRel cx σ ι' r st t ps as bd :=
  { h with tm := h.tm.mono hle }
theorem ORel.mono {ι ι' : Inj} {w : World} {l : Loc} {o : O} (h : ORel cx σ ι w l o) (hle : Le ι ι') : ORel cx σ ι' w l o := by
  cases o with
  | mp es => obtain ⟨es', clk, h1, h2, h3⟩ := h; exact ⟨es', clk, h1, VRL.mono hle _ _ h2, VRL.mono hle _ _ h3⟩
  | loop => obtain ⟨r, h1, h2⟩ := h; exact ⟨r, h1, h2.mono hle⟩
  | dead => trivial
  | lst => obtain ⟨c, ty, fz, h1, h2, h3, h4, h5⟩ := h; exact ⟨c, ty, fz, h1, h2, h3, h4, fun i v hv => let ⟨x, a, b, c⟩ := h5 i v hv; ⟨x, a, VR.mono hle _ _ b, c⟩⟩
  | big => obtain ⟨c, ty, fz, h1, h2, h3, h4, h5⟩ := h; exact ⟨c, ty, fz, h1, h2, h3, h4, fun i v hv => let ⟨x, a, b, c⟩ := h5 i v hv; ⟨x, a, VR.mono hle _ _ b, c⟩⟩
theorem ORel.other {ι : Inj} {w w' : World} {l : Loc} {o : O} (h : ORel cx σ ι w l o) (e : ∀ x, w.heap[l.blk]? = some x → w'.heap[l.blk]? = some x) : ORel cx σ ι w' l o := by
  cases o with
  | mp es => obtain ⟨es', clk, h1, h2⟩ := h; exact ⟨es', clk, e _ h1, h2⟩
  | loop => obtain ⟨r, h1, h2⟩ := h; exact ⟨r, e _ h1, h2⟩
  | dead => trivial
  | lst => obtain ⟨c, ty, fz, h1, h2⟩ := h; exact ⟨c, ty, fz, e _ h1, h2⟩
  | big => obtain ⟨c, ty, fz, h1, h2⟩ := h; exact ⟨c, ty, fz, e _ h1, h2⟩

variable (cx) (σ)
structure Rel (ι : Inj) (h : H) (w : World) : Prop where
  bound : ∀ b l, ι b = some l → b.toNat < h.nx.toNat ∧ l.blk < w.heap.size
  inj : ∀ b b' l l', ι b = some l → ι b' = some l' → l.blk = l'.blk → h.get b ≠ some .dead → h.get b' ≠ some .dead → b = b'
  obj : ∀ b l o, ι b = some l → h.get b = some o → ORel cx σ ι w l o

variable {cx} {σ}
structure Ext (ι ι' : Inj) (h h' : H) (w w' : World) : Prop where
  le : Le ι ι'
  fresh : ∀ b l, ι' b = some l → ι b = none → h.nx.toNat ≤ b.toNat
  keepA : ∀ b, b.toNat < h.nx.toNat → ι b = none → h'.get b = h.get b
  nx : h.nx.toNat ≤ h'.nx.toNat
  keepW : ∀ B o, w.heap[B]? = some o → (∀ b l, ι b = some l → l.blk ≠ B) → w'.heap[B]? = some o
  size : w.heap.size ≤ w'.heap.size
  rng : ∀ b l, ι' b = some l → ι b = none → w.heap.size ≤ l.blk ∨ ∃ b0 l0, ι b0 = some l0 ∧ l0.blk = l.blk
  os : w'.os = w.os
  out : w'.output = w.output
  tape : w'.tape = w.tape

theorem no_some {α : Type} {x : Option α} {a : α} {p : Prop} (e : x = some a) (n : x = none) : p := by rw [n] at e; cases e

theorem Ext.refl (ι : Inj) (h : H) (w : World) : Ext ι ι h h w w :=
  ⟨Le.refl _, fun _ _ e n => no_some e n, fun _ _ _ => rfl, Nat.le_refl _, fun _ _ e _ => e, Nat.le_refl _, fun _ _ e n => no_some e n, rfl, rfl, rfl⟩

theorem Ext.trans {ι ι1 ι2 : Inj} {h h1 h2 : H} {w w1 w2 : World} (a : Ext ι ι1 h h1 w w1) (b : Ext ι1 ι2 h1 h2 w1 w2) : Ext ι ι2 h h2 w w2 where
  le := a.le.trans b.le
  fresh := fun x l e n => by
    cases hx : ι1 x with
    | none => have := b.fresh x l e hx; have := a.nx; omega
    | some l' => exact a.fresh x l' hx n
  keepA := fun x hlt n => by
    have hx : ι1 x = none := by
      cases hx : ι1 x with
      | none => rfl
      | some l' => have := a.fresh x l' hx n; omega
    rw [b.keepA x (by have := a.nx; omega) hx, a.keepA x hlt n]
  nx := Nat.le_trans a.nx b.nx
  keepW := fun B o e hn => by
    have h1 := a.keepW B o e hn
    refine b.keepW B o h1 fun x l hx hB => ?_
    cases hx0 : ι x with
    | some l0 =>
      have := a.le x l0 hx0; rw [hx] at this; cases this
      exact hn x l hx0 hB
    | none =>
      rcases a.rng x l hx hx0 with h | ⟨b0, l0, h0, h0'⟩
      · have : B < w.heap.size := by rcases Nat.lt_or_ge B w.heap.size with h | h; exact h; rw [Array.getElem?_eq_none h] at e; cases e
        omega
      · exact hn b0 l0 h0 (h0'.trans hB)
  size := Nat.le_trans a.size b.size
  rng := fun x l e n => by
    cases hx : ι1 x with
    | some l' => have := b.le x l' hx; rw [e] at this; cases this; exact a.rng x l hx n
    | none =>
      rcases b.rng x l e hx with h | ⟨b0, l0, h0, h0'⟩
      · exact .inl (Nat.le_trans a.size h)
      · cases hb0 : ι b0 with
        | some l1 => have := a.le b0 l1 hb0; rw [h0] at this; cases this; exact .inr ⟨b0, l0, hb0, h0'⟩
        | none =>
          rcases a.rng b0 l0 h0 hb0 with h | ⟨b1, l1, h1, h1'⟩
          · exact .inl (h0' ▸ h)
          · exact .inr ⟨b1, l1, h1, h1'.trans h0'⟩
  os := b.os.trans a.os
  out := b.out.trans a.out
  tape := b.tape.trans a.tape

/-- the same memory, another count of draws -/
theorem Rel.drew {ι : Inj} {h : H} {w w' : World} (hr : Rel cx σ ι h w) (e : w'.heap = w.heap) : Rel cx σ ι h w' :=
  ⟨fun b l hb => by rw [e]; exact hr.bound b l hb, hr.inj, fun b l o hb ho => (hr.obj b l o hb ho).other fun x hx => by rw [e]; exact hx⟩
theorem Ext.drew (ι : Inj) (h : H) (w : World) (n : Nat) : Ext ι ι h h w { w with drawn := n } :=
  ⟨Le.refl _, fun _ _ e n => no_some e n, fun _ _ _ => rfl, Nat.le_refl _, fun _ _ e _ => e, Nat.le_refl _, fun _ _ e n => no_some e n, rfl, rfl, rfl⟩

/-- one block is turned -/
theorem Rel.put {ι : Inj} {h : H} {w w' : World} (hr : Rel cx σ ι h w) {b : Pos} {l : Loc} {o o' : O} (hb : ι b = some l) (ho : h.get b = some o) (hd : o ≠ .dead)
    (hsz : w'.heap.size = w.heap.size) (hoth : ∀ B, B ≠ l.blk → w'.heap[B]? = w.heap[B]?) (hn : ORel cx σ ι w' l o') (hos : w'.os = w.os) (hout : w'.output = w.output) (htape : w'.tape = w.tape) :
    Rel cx σ ι (h.put b o') w' ∧ Ext ι ι h (h.put b o') w w' := by
  refine ⟨⟨fun x lx hx => ?_, fun x y lx ly hx hy e hdx hdy => ?_, fun x lx ox hx hox => ?_⟩, ?_⟩
  · rw [H.nx_put, hsz]; exact hr.bound x lx hx
  · have key : ∀ z, (h.put b o').get z ≠ some .dead → h.get z ≠ some .dead := fun z hz => by
      by_cases e : z = b
      · subst e; rw [ho]; exact fun e => hd (Option.some.inj e)
      · rwa [H.get_put_ne _ _ _ _ e] at hz
    exact hr.inj x y lx ly hx hy e (key x hdx) (key y hdy)
  · by_cases e : x = b
    · subst e; rw [H.get_put_same] at hox; cases hox; rw [hb] at hx; cases hx; exact hn
    · rw [H.get_put_ne _ _ _ _ e] at hox
      by_cases hde : ox = .dead
      · subst hde; trivial
      · refine (hr.obj x lx ox hx hox).other fun y hy => ?_
        rw [hoth]; · exact hy
        intro eb
        exact e (hr.inj x b lx l hx hb eb (by rw [hox]; exact fun e => hde (Option.some.inj e)) (by rw [ho]; exact fun e => hd (Option.some.inj e)))
  · refine ⟨Le.refl _, fun _ _ e n => no_some e n, fun x _ n => H.get_put_ne _ _ _ _ (fun e => no_some hb (e ▸ n)), ?_,
      fun B o e hn => (hoth B (fun e' => hn b l hb e'.symm)).trans e, ?_, fun _ _ e n => no_some e n, hos, hout, htape⟩
    · rw [H.nx_put]; exact Nat.le_refl _
    · omega

/-- the injection with one block more -/
noncomputable def Inj.add (ι : Inj) (b : Pos) (l : Loc) : Inj := fun x => by classical exact if x = b then some l else ι x
theorem Inj.add_same (ι : Inj) (b : Pos) (l : Loc) : ι.add b l b = some l := by simp [Inj.add]
theorem Inj.add_ne (ι : Inj) (b x : Pos) (l : Loc) (h : x ≠ b) : ι.add b l x = ι x := by simp [Inj.add, h]
theorem Inj.add_le {ι : Inj} {b : Pos} {l : Loc} (h : ι b = none) : Le ι (ι.add b l) := fun x lx hx => by
  by_cases e : x = b
  · subst e; rw [h] at hx; cases hx
  · rw [Inj.add_ne _ _ _ _ e]; exact hx
theorem Rel.none_nx {ι : Inj} {h : H} {w : World} (hr : Rel cx σ ι h w) : ι h.nx = none := by
  cases e : ι h.nx with
  | none => rfl
  | some l => have := (hr.bound _ _ e).1; omega

/-- a block is made in both -/
theorem Rel.push {ι : Inj} {h : H} {w : World} (hr : Rel cx σ ι h w) (o : O) (ob : Obj) (sz : Nat)
    (hn : ORel cx σ ι (w.alloc ob) ⟨w.heap.size, 0, sz⟩ o) :
    Rel cx σ (ι.add h.nx ⟨w.heap.size, 0, sz⟩) (h.push o) (w.alloc ob) ∧ Ext ι (ι.add h.nx ⟨w.heap.size, 0, sz⟩) h (h.push o) w (w.alloc ob) := by
  have hle : Le ι (ι.add h.nx ⟨w.heap.size, 0, sz⟩) := Inj.add_le hr.none_nx
  have hsz : (w.alloc ob).heap.size = w.heap.size + 1 := by show (w.heap.push ob).size = _; simp
  have hold : ∀ B, B < w.heap.size → (w.alloc ob).heap[B]? = w.heap[B]? := fun B hB => by show (w.heap.push ob)[B]? = _; simp [Array.getElem?_push, Nat.ne_of_lt hB]
  refine ⟨⟨fun x lx hx => ?_, fun x y lx ly hx hy e hdx hdy => ?_, fun x lx ox hx hox => ?_⟩, ?_⟩
  · rw [H.nx_push, Pos.toNat_succ, hsz]
    by_cases e : x = h.nx
    · subst e; rw [Inj.add_same] at hx; cases hx; exact ⟨by omega, by simp⟩
    · rw [Inj.add_ne _ _ _ _ e] at hx; have := hr.bound x lx hx; omega
  · by_cases ex : x = h.nx
    · by_cases ey : y = h.nx
      · rw [ex, ey]
      · subst ex; rw [Inj.add_same] at hx; cases hx; rw [Inj.add_ne _ _ _ _ ey] at hy; have := (hr.bound y ly hy).2; simp at e; omega
    · rw [Inj.add_ne _ _ _ _ ex] at hx
      by_cases ey : y = h.nx
      · subst ey; rw [Inj.add_same] at hy; cases hy; have := (hr.bound x lx hx).2; simp at e; omega
      · rw [Inj.add_ne _ _ _ _ ey] at hy
        rw [H.get_push_ne _ _ _ ex] at hdx
        rw [H.get_push_ne _ _ _ ey] at hdy
        exact hr.inj x y lx ly hx hy e hdx hdy
  · by_cases e : x = h.nx
    · subst e; rw [Inj.add_same] at hx; cases hx; rw [H.get_push_same] at hox; cases hox; exact hn.mono hle
    · rw [Inj.add_ne _ _ _ _ e] at hx; rw [H.get_push_ne _ _ _ e] at hox
      exact ((hr.obj x lx ox hx hox).other fun y hy => by rw [hold _ (hr.bound x lx hx).2]; exact hy).mono hle
  · refine ⟨hle, fun x l e n => ?_, fun x hlt _ => H.get_push_ne _ _ _ (fun e => ?_), ?_, fun B o e _ => ?_, ?_, fun x l e n => ?_, rfl, rfl, rfl⟩
    · by_cases ex : x = h.nx
      · rw [ex]; exact Nat.le_refl _
      · rw [Inj.add_ne _ _ _ _ ex] at e; exact no_some e n
    · rw [e] at hlt; omega
    · rw [H.nx_push, Pos.toNat_succ]; omega
    · refine (hold B ?_).trans e
      rcases Nat.lt_or_ge B w.heap.size with h | h
      · exact h
      · rw [Array.getElem?_eq_none h] at e; cases e
    · omega
    · by_cases ex : x = h.nx
      · rw [ex, Inj.add_same] at e; cases e; exact .inl (Nat.le_refl _)
      · rw [Inj.add_ne _ _ _ _ ex] at e; exact no_some e n
end rel
end Go.Ab
