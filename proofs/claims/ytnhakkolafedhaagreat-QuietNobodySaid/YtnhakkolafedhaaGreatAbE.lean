/- Each operation: what the abstract one tells, the real one tells, whatever real memory stands for the abstract one. First part. -/
import Derived.Test.YtnhakkolafedhaaGreatAbD
set_option linter.unusedVariables false
set_option linter.unusedSimpArgs false
namespace Go.Ab

structure Hyp (P : Program) (cx : Cx) : Prop where
  ti : ∀ t i, cx.ti t = some i → P.info? t = some i
  eqs : ∀ t, cx.eqs t = true → P.stoodInHeld t = false ∧ P.eqGuardType P.depth t = false

section
variable {P : Program} {cx : Cx} {σ : Nat → Int}

theorem und_spec (hy : Hyp P cx) {t : TypeId} {d : TypeDesc} (h : und cx t = some d) : P.underlying t = some d := by
  unfold und at h
  unfold Program.underlying
  cases hi : cx.ti t with
  | none => simp [hi] at h
  | some i =>
    rw [hi] at h
    rw [hy.ti t i hi]
    cases hd : i.desc with
    | named nm u =>
      simp only [hd] at h
      cases hu : cx.ti u with
      | none => simp [hu] at h
      | some j => simp [hu] at h; obtain ⟨dd⟩ := i; simp only at hd; subst hd; simp [hy.ti u j hu, h]
    | _ => simp only [hd, Option.some.injEq] at h; obtain ⟨dd⟩ := i; simp only at hd; subst hd; simp [h]
theorem szOf_spec (hy : Hyp P cx) {t : TypeId} {n : Nat} (h : szOf cx t = some n) (w : World) : (sizeOf t).run P w = .ok n w := by
  unfold szOf at h
  cases hi : cx.ti t with
  | none => simp [hi] at h
  | some i => simp [hi] at h; rw [run_sizeOf w (hy.ti t i hi)]; simp [Program.cellsOf, hy.ti t i hi, h]
theorem byOf_spec (hy : Hyp P cx) {t : TypeId} {n : Nat} (h : byOf cx t = some n) (w : World) : ∃ i, (typeInfo t).run P w = .ok i w ∧ i.bytes = n := by
  unfold byOf at h
  cases hi : cx.ti t with
  | none => simp [hi] at h
  | some i => simp [hi] at h; exact ⟨i, run_typeInfo w (hy.ti t i hi), h⟩
theorem aggOf_spec (hy : Hyp P cx) {t : TypeId} {b : Bool} (h : aggOf cx t = some b) (w : World) : (isAgg t).run P w = .ok b w := by
  unfold aggOf at h
  cases hu : und cx t with
  | none => simp [hu] at h
  | some d =>
    rw [hu] at h
    have := und_spec hy hu
    cases d <;> simp at h <;> subst h <;> simp [isAgg, run_underlying this]

/-- constants stand for themselves, wherever blocks lie -/
theorem ofV1_spec {v : Value} {x : V} (h : ofV1 v = some x) (ι : Inj) : VR σ ι x v ∧ x.one = true := by
  unfold ofV1 at h
  split at h <;> simp at h <;> subst h <;> exact ⟨rfl, rfl⟩
theorem ofVs_spec {vs : List Value} {l : List V} (h : ofVs vs = some l) (ι : Inj) : VRL σ ι l vs ∧ ∀ x ∈ l, x.one = true := by
  induction vs generalizing l with
  | nil => simp [ofVs] at h; subst h; exact ⟨rfl, by simp⟩
  | cons v vs ih =>
    unfold ofVs at h
    cases h1 : ofV1 v with
    | none => simp [h1] at h
    | some x =>
      cases h2 : ofVs vs with
      | none => simp [h1, h2] at h
      | some xs =>
        simp [h1, h2] at h; subst h
        obtain ⟨a, b⟩ := ih h2
        obtain ⟨c, d⟩ := ofV1_spec (σ := σ) h1 ι
        exact ⟨⟨v, vs, rfl, c, a⟩, fun y hy => by rcases List.mem_cons.1 hy with rfl | hy; exact d; exact b y hy⟩
theorem ofV_spec {v : Value} {x : V} (h : ofV v = some x) (ι : Inj) : VR σ ι x v := by
  unfold ofV at h
  split at h
  · rename_i cs
    cases h1 : ofVs cs.toList with
    | none => simp [h1] at h
    | some l => simp [h1] at h; subst h; exact VR.agg.2 ⟨cs, rfl, (ofVs_spec h1 ι).1, (ofVs_spec (σ := σ) h1 ι).2⟩
  · exact (ofV1_spec h ι).1
theorem zerosV_spec {v : Value} {l : List V} (h : zerosV v = some l) (ι : Inj) : VRL σ ι l v.cells.toList ∧ ∀ x ∈ l, x.one = true := by
  unfold zerosV at h
  split at h
  · exact ofVs_spec h ι
  · rename_i hne
    cases h1 : ofV1 v with
    | none => simp [h1] at h
    | some x =>
      simp [h1] at h; subst h
      have hc : v.cells = #[v] := by cases v <;> first | rfl | exact absurd rfl (hne _)
      obtain ⟨a, b⟩ := ofV1_spec (σ := σ) h1 ι
      rw [hc]
      exact ⟨⟨v, [], rfl, a, rfl⟩, by simpa using b⟩
theorem zerosOf_spec (hy : Hyp P cx) {t : TypeId} {l : List V} (h : zerosOf cx t = some l) (w : World) :
    ∃ z, (zeroValue t).run P w = .ok z w ∧ ∀ ι, VRL σ ι l z.cells.toList ∧ ∀ x ∈ l, x.one = true := by
  unfold zerosOf at h
  cases hi : cx.ti t with
  | none => simp [hi] at h
  | some i =>
    cases hz : i.zero with
    | none => simp [hi, hz] at h
    | some z => simp only [hi, hz] at h; exact ⟨z, by simp [zeroValue, run_typeInfo w (hy.ti t i hi), hz], fun ι => zerosV_spec h ι⟩
theorem zeroOf_spec (hy : Hyp P cx) {t : TypeId} {x : V} (h : zeroOf cx t = some x) (w : World) :
    ∃ z, (zeroValue t).run P w = .ok z w ∧ ∀ ι, VR σ ι x z := by
  unfold zeroOf at h
  cases hi : cx.ti t with
  | none => simp [hi] at h
  | some i =>
    cases hz : i.zero with
    | none => simp [hi, hz] at h
    | some z => simp only [hi, hz] at h; exact ⟨z, by simp [zeroValue, run_typeInfo w (hy.ti t i hi), hz], fun ι => ofV_spec h ι⟩

variable (cx σ)
/-- operands stand for what they are -/
def Opds (ι : Inj) (t : T) (ρ : Operand → Value) : Prop := ∀ x y, ofOpd x = some y → VR σ ι (y.ev t) (ρ x)

def OSim (P : Program) (o : Oper) (t : T) (h : H) (v : V) (h' : H) : Prop :=
  ∀ (ι : Inj) (w : World) (ρ : Operand → Value), Rel cx σ ι h w → Opds σ ι t ρ →
    ∃ nx v' w' ι', (execOp ρ o).run P w = .ok nx w' ∧ (nx = .value v' ∨ nx = .skip ∧ v' = undef) ∧ VR σ ι' v v' ∧ Rel cx σ ι' h' w' ∧ Ext ι ι' h h' w w'
variable {cx σ}

theorem OSim.same {o : Oper} {t : T} {h : H} {v : V}
    (hs : ∀ (ι : Inj) (w : World) (ρ : Operand → Value), Rel cx σ ι h w → Opds σ ι t ρ → ∃ v', (execOp ρ o).run P w = .ok (.value v') w ∧ VR σ ι v v') : OSim cx σ P o t h v h :=
  fun ι w ρ hr ho => let ⟨v', h1, h2⟩ := hs ι w ρ hr ho; ⟨_, v', w, ι, h1, .inl rfl, h2, hr, Ext.refl _ _ _⟩

/-- what a compiled operation's abstract run comes to -/
def Sound (cx : Cx) (σ : Nat → Int) (P : Program) (o : Oper) (x : T → H → K → R) : Prop :=
  ∀ (t : T) (h : H) (k : K) (r : V × H), x t h k = some r → ∃ v h', k v h' = some r ∧ OSim cx σ P o t h v h'

theorem cell_of (w : World) {b : Nat} {c : Array Value} {ty : TypeId} {fz : Nat × Nat} (h : w.heap[b]? = some (.cells c ty fz)) (i : Nat) : w.cell? ⟨b, i, none⟩ = c[i]? := by
  simp [World.cell?, h]
theorem frozen_of (w : World) {b : Nat} {c : Array Value} {ty : TypeId} {fz : Nat × Nat} (h : w.heap[b]? = some (.cells c ty fz)) (i : Nat) (hn : ¬(fz.1 ≤ i ∧ i < fz.2)) : w.frozen? ⟨b, i, none⟩ = false := by
  obtain ⟨lo, hi⟩ := fz
  simp only [World.frozen?, h]
  simp at hn
  simp; omega
theorem addr_add (b o i : Nat) : (⟨b, o, none⟩ : Addr).add i = ⟨b, o + i, none⟩ := by unfold Addr.add; split <;> simp_all

theorem oneCell_of {ι : Inj} {v : V} {x : Value} (h : VR σ ι v x) (h1 : v.one = true) : x.oneCell' = true := by
  cases v <;> first
    | (rw [show x = _ from h]; rfl)
    | (obtain ⟨_, _, rfl⟩ := h; rfl)
    | (obtain ⟨_, _, _, _, rfl, _⟩ := h; rfl)
    | (obtain ⟨_, _, rfl, _⟩ := VR.fn.1 h; rfl)
    | cases h1
theorem cells_of_one {ι : Inj} {v : V} {x : Value} (h : VR σ ι v x) : VRL σ ι v.cells x.cells.toList := by
  cases v with
  | agg c => obtain ⟨a, rfl, ha, _⟩ := VR.agg.1 h; exact ha
  | tup c => obtain ⟨a, rfl, ha⟩ := VR.tup.1 h; exact ⟨_, [], rfl, h, rfl⟩
  | fn f a b => obtain ⟨x, y, rfl, _⟩ := VR.fn.1 h; exact ⟨_, [], rfl, h, rfl⟩
  | _ => first
    | (have e := h; rw [show x = _ from e] at h ⊢; exact ⟨_, [], rfl, h, rfl⟩)
    | (obtain ⟨l, h1, rfl⟩ := h; exact ⟨_, [], rfl, ⟨l, h1, rfl⟩, rfl⟩)
    | (obtain ⟨l, c, A, h1, rfl, h2⟩ := h; exact ⟨_, [], rfl, ⟨l, c, A, h1, rfl, h2⟩, rfl⟩)

/-- a row that is laid out as a new block -/
theorem orel_new {ι : Inj} (w : World) {vs : List V} {ws : List Value} (ty : TypeId) {o : O} (hc : o.isC = true) (hsz : o.size = vs.length) (hat : ∀ i, i < vs.length → o.at i = vs[i]?) (hout : ∀ i, vs.length ≤ i → o.at i = none)
    (h : VRL σ ι vs ws) (h1 : ∀ v ∈ vs, v.one = true) {c : Array Value} (hcs : c.toList = ws ++ c.toList.drop ws.length) (hle : ws.length ≤ c.size) :
    ORel cx σ ι (w.alloc (.cells c ty)) ⟨w.heap.size, 0, c.size⟩ o := by
  rw [orel_cells cx σ hc]
  refine ⟨c, ty, (0, 0), by show (w.heap.push _)[w.heap.size]? = _; simp, by rw [hsz, ← h.length]; exact hle, by simp, fun i _ => by simp, fun i v hv => ?_⟩
  by_cases hi : i < vs.length
  · rw [hat i hi] at hv
    obtain ⟨x, hx, hvx⟩ := h.get hv
    refine ⟨x, ?_, hvx, h1 v (List.mem_of_getElem? hv)⟩
    rw [Nat.zero_add, ← Array.getElem?_toList, hcs, List.getElem?_append_left (by rw [h.length]; exact hi)]; exact hx
  · rw [hout i (by omega)] at hv; cases hv

theorem ofL_get (l : List V) : ∀ (n : Nat) (t : Tr V) (i : Nat), (ofL l n t).get (Pos.of i) = if n ≤ i ∧ i < n + l.length then l[i - n]? else t.get (Pos.of i) := by
  induction l with
  | nil => intro n t i; rw [if_neg (by simp)]; rfl
  | cons v l ih =>
    intro n t i
    show (ofL l (Nat.succ n) (Tr.put (Pos.of n) v t)).get (Pos.of i) = _
    rw [ih]
    simp only [List.length_cons]
    by_cases e : i = n
    · subst e; rw [if_neg (by omega), if_pos (by omega), Tr.get_put_same]; simp
    · by_cases hin : Nat.succ n ≤ i ∧ i < Nat.succ n + l.length
      · rw [if_pos hin, if_pos (by omega), show i - n = (i - Nat.succ n) + 1 by omega]; simp
      · rw [if_neg hin, if_neg (by omega), Tr.get_put_ne _ _ _ _ (Pos.of_ne e)]
theorem mkO_spec (l : List V) : (mkO l).isC = true ∧ (mkO l).size = l.length ∧ (∀ i, i < l.length → (mkO l).at i = l[i]?) ∧ (∀ i, l.length ≤ i → (mkO l).at i = none) := by
  unfold mkO
  cases Nat.ble (llen l) 8 with
  | true => exact ⟨rfl, rfl, fun i _ => rfl, fun i hi => by simp [O.at, hi]⟩
  | false =>
    refine ⟨rfl, llen_eq l, fun i hi => ?_, fun i hi => ?_⟩
    · simp only [O.at, llen_eq, hi, if_true]
      rw [ofL_get, if_pos (by omega)]
      simp [List.getElem?_eq_getElem hi]
    · simp only [O.at, llen_eq]; rw [if_neg (by omega)]

/-- a variable is made: 'box', 'alloc' -/
theorem new_sim {ι : Inj} {h : H} {w : World} (hr : Rel cx σ ι h w) {vs : List V} {ws : Array Value} (ty : TypeId) (hv : VRL σ ι vs ws.toList) (h1 : ∀ v ∈ vs, v.one = true) :
    ∃ ι', VR σ ι' (.ptr h.nx 0) (.pointer (some ⟨w.heap.size, 0, none⟩)) ∧ Rel cx σ ι' (h.push (mkO vs)) (w.alloc (.cells ws ty)) ∧ Ext ι ι' h (h.push (mkO vs)) w (w.alloc (.cells ws ty)) ∧
      ι' h.nx = some ⟨w.heap.size, 0, ws.size⟩ := by
  obtain ⟨a, b, c, d⟩ := mkO_spec vs
  have := orel_new (cx := cx) w ty a b c d hv h1 (c := ws) (by simp) (by simp)
  obtain ⟨e, f⟩ := hr.push (mkO vs) (.cells ws ty) ws.size this
  exact ⟨_, ⟨_, Inj.add_same _ _ _, rfl⟩, e, f, Inj.add_same _ _ _⟩

/-! ### the operations -/
theorem s_mv {o : Oper} {x : Operand} {y : Opd} (ho : o.op = .move x ∨ o.op = .assign x) (hx : ofOpd x = some y) : Sound cx σ P o (x_mv y) := by
  intro t h k r e
  refine ⟨_, _, e, OSim.same fun ι w ρ hr hρ => ⟨ρ x, ?_, hρ x y hx⟩⟩
  rcases ho with ho | ho <;> simp [execOp, ho]

theorem s_pick {o : Oper} {c a b : Operand} {c' a' b' : Opd} (ho : o.op = .pick c a b) (hc : ofOpd c = some c') (ha : ofOpd a = some a') (hb : ofOpd b = some b') : Sound cx σ P o (x_pick c' a' b') := by
  intro t h k r e
  obtain ⟨w0, hw, e⟩ := V.onBool_some e
  refine ⟨if w0 then a'.ev t else b'.ev t, h, by cases w0 <;> exact e, OSim.same fun ι w ρ hr hρ => ?_⟩
  have h1 := hρ c c' hc
  rw [hw] at h1
  refine ⟨if w0 then ρ a else ρ b, by simp [execOp, ho, VR.bool.1 h1, asBool], ?_⟩
  cases w0
  · exact hρ b b' hb
  · exact hρ a a' ha

theorem s_new (hy : Hyp P cx) {o : Oper} {e : TypeId} {zs : List V} (ho : o.op = .alloc e) (hz : zerosOf cx e = some zs) : Sound cx σ P o (x_new zs) := by
  intro t h k r e0
  have e1 : k (.ptr h.nx 0) (h.push (mkO zs)) = some r := by rw [← e0]; exact (H.alloc_eq h (mkO zs) (fun r h' => k (.ptr r 0) h')).symm
  refine ⟨_, _, e1, fun ι w ρ hr hρ => ?_⟩
  obtain ⟨z, hz1, hz2⟩ := zerosOf_spec (σ := σ) hy hz w
  obtain ⟨ι', h1, h2, h3, _⟩ := new_sim hr e (hz2 ι).1 (hz2 ι).2
  refine ⟨_, _, _, ι', ?_, .inl rfl, h1, h2, h3⟩
  simp [execOp, ho, Instr.alloc, hz1, newVar, newRow]

theorem bx_one {ι : Inj} {v : V} {x : Value} (h : VR σ ι v x) (hb : v.bx = true) : ∀ u ∈ v.cells, u.one = true := by
  cases v with
  | agg c => obtain ⟨a, _, _, h1⟩ := VR.agg.1 h; exact h1
  | tup c => cases hb
  | _ => intro u hu; rcases List.mem_singleton.1 hu with rfl; rfl
theorem s_box {o : Oper} {ty : TypeId} {x : Operand} {y : Opd} (ho : o.op = .box ty x) (hx : ofOpd x = some y) : Sound cx σ P o (x_box y) := by
  intro t h k r e0
  obtain ⟨hb, e0⟩ := ifK_some.1 e0
  have e1 : k (.ptr h.nx 0) (h.push (mkO (y.ev t).cells)) = some r := by rw [← e0]; exact (H.alloc_eq h _ (fun r h' => k (.ptr r 0) h')).symm
  refine ⟨_, _, e1, fun ι w ρ hr hρ => ?_⟩
  have h1 := hρ x y hx
  obtain ⟨ι', h2, h3, h4, _⟩ := new_sim hr ty (cells_of_one h1) (bx_one h1 hb)
  refine ⟨_, _, _, ι', ?_, .inl rfl, h2, h3, h4⟩
  simp [execOp, ho, Instr.box, newVar, newRow]

theorem s_ld1 (hy : Hyp P cx) {o : Oper} {ty : TypeId} {x : Operand} {y : Opd} (ho : o.op = .load ty x) (hx : ofOpd x = some y) (ha : aggOf cx ty = some false) : Sound cx σ P o (x_ld1 y) := by
  intro t h k r e
  obtain ⟨b, i, hp, e⟩ := V.onPtr_some e
  obtain ⟨ob, hb, e⟩ := H.getK_some e
  obtain ⟨v, hc, hi, hv, e⟩ := O.getK_some e
  refine ⟨v, h, e, OSim.same fun ι w ρ hr hρ => ?_⟩
  have h1 := hρ x y hx
  rw [hp] at h1
  obtain ⟨l, hl, hw⟩ := h1
  obtain ⟨c, tyy, fz, h2, h3, h4, h5, h6⟩ := (orel_cells cx σ hc).1 (hr.obj b l ob hl hb)
  obtain ⟨xv, hx1, hx2, _⟩ := h6 i v hv
  refine ⟨xv, ?_, hx2⟩
  simp [execOp, ho, hw, Instr.loadAt, Instr.sureAddr, loadVar, aggOf_spec hy ha, cell_of w h2, hx1]

theorem s_ldn (hy : Hyp P cx) {o : Oper} {ty : TypeId} {x : Operand} {y : Opd} {n : Nat} (ho : o.op = .load ty x) (hx : ofOpd x = some y) (ha : aggOf cx ty = some true) (hs : szOf cx ty = some n) : Sound cx σ P o (x_ldn n y) := by
  intro t h k r e
  obtain ⟨b, i, hp, e⟩ := V.onPtr_some e
  obtain ⟨ob, hb, e⟩ := H.getK_some e
  obtain ⟨vs, hl, hn, hat, e⟩ := getcs_some e
  refine ⟨.agg vs, h, e, OSim.same fun ι w ρ hr hρ => ?_⟩
  have h1 := hρ x y hx
  rw [hp] at h1
  obtain ⟨l, hlo, hw⟩ := h1
  have hone : ∀ v ∈ vs, v.one = true := fun v hv => by
    obtain ⟨j, hj, hjv⟩ := List.getElem_of_mem hv
    obtain ⟨c, tyy, fz, h2, h3, h4, h5, h6⟩ := (orel_cells cx σ (hn (by omega)).1).1 (hr.obj b l ob hlo hb)
    exact (h6 (i + j) v (by rw [hat j (by omega), List.getElem?_eq_getElem hj, hjv])).choose_spec.2.2
  have key : ∃ ws : List Value, VRL σ ι vs ws ∧ ∀ j v, ws[j]? = some v → w.cell? ((⟨l.blk, l.off + i, none⟩ : Addr).add j) = some v := by
    by_cases hz : n = 0
    · have : vs = [] := List.eq_nil_of_length_eq_zero (by omega)
      subst this
      exact ⟨[], rfl, by simp⟩
    · obtain ⟨c, tyy, fz, h2, h3, h4, h5, h6⟩ := (orel_cells cx σ (hn hz).1).1 (hr.obj b l ob hlo hb)
      refine ⟨(c.toList.drop (l.off + i)).take n, VRL.of_get ?_ fun j v hj => ?_, fun j v hj => ?_⟩
      · have := (hn hz).2; simp; omega
      · have hj' : j < n := by rw [← hl]; exact (List.getElem?_eq_some_iff.1 hj).1
        obtain ⟨xv, hx1, hx2, _⟩ := h6 (i + j) v (by rw [hat j hj', hj])
        refine ⟨xv, ?_, hx2⟩
        simp [hj', List.getElem?_drop, ← Nat.add_assoc] at hx1 ⊢; exact hx1
      · rw [addr_add, cell_of w h2]
        have hj' : j < n := by have := (List.getElem?_eq_some_iff.1 hj).1; simp at this; omega
        simpa [List.getElem?_take, hj', List.getElem?_drop] using hj
  obtain ⟨ws, hw1, hw2⟩ := key
  refine ⟨.agg ws.toArray, ?_, VR.agg.2 ⟨ws.toArray, rfl, by simpa using hw1, hone⟩⟩
  have hlen : ws.length = n := by rw [hw1.length, hl]
  have := run_loadCells_list (P := P) w (⟨l.blk, l.off + i, none⟩ : Addr) ws hw2
  rw [hlen] at this
  simp [execOp, ho, hw, Instr.loadAt, Instr.sureAddr, loadVar, aggOf_spec hy ha, szOf_spec hy hs, this]

theorem s_nilck {o : Oper} {x : Operand} {y : Opd} (ho : o.op = .nilCheck x) (hx : ofOpd x = some y) : Sound cx σ P o (x_nilck y) := by
  intro t h k r e
  obtain ⟨b, i, hp, e⟩ := V.onPtr_some e
  refine ⟨_, h, e, OSim.same fun ι w ρ hr hρ => ?_⟩
  have h1 := hρ x y hx
  rw [hp] at h1
  refine ⟨ρ x, ?_, h1⟩
  obtain ⟨l, hl, hw⟩ := h1
  simp [execOp, ho, hw]

theorem s_ext {o : Oper} {x : Operand} {i : Nat} {y : Opd} (ho : o.op = .extract x i) (hx : ofOpd x = some y) : Sound cx σ P o (x_ext y i) := by
  intro t h k r e
  obtain ⟨c, hp, e⟩ := V.onTup_some e
  obtain ⟨v, hv, e⟩ := nthK_some e
  refine ⟨v, h, e, OSim.same fun ι w ρ hr hρ => ?_⟩
  have h1 := hρ x y hx
  rw [hp] at h1
  obtain ⟨a, hw, ha⟩ := VR.tup.1 h1
  obtain ⟨u, hu1, hu2⟩ := ha.get hv
  refine ⟨u, ?_, hu2⟩
  simp at hu1
  simp [execOp, ho, hw, Instr.extract, hu1]
end
end Go.Ab
