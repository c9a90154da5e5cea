/- Each operation, second part: stores, addresses, parts, slices. -/
import Derived.Test.YtnhakkolafedhaaGreatAbE
set_option linter.unusedVariables false
set_option linter.unusedSimpArgs false
namespace Go.Ab
section
variable {P : Program} {cx : Cx} {σ : Nat → Int}

theorem heap_setCell_same (w : World) {b : Nat} {c : Array Value} {ty : TypeId} {fz : Nat × Nat} (hb : w.heap[b]? = some (.cells c ty fz)) (o : Nat) (v : Value) :
    (w.setCell ⟨b, o, none⟩ v).heap[b]? = some (.cells (c.setIfInBounds o v) ty fz) := by
  simp only [World.setCell, Array.getElem?_modify]
  simp [hb]
theorem heap_setCell_other (w : World) (b : Nat) (o : Nat) (v : Value) {B : Nat} (h : B ≠ b) : (w.setCell ⟨b, o, none⟩ v).heap[B]? = w.heap[B]? := by
  simp only [World.setCell, Array.getElem?_modify]
  simp [Ne.symm h]

theorem run_stores {b : Nat} {ty : TypeId} {fz : Nat × Nat} (off : Nat) : ∀ (vs : List Value) (i : Nat) (w : World) (c : Array Value), w.heap[b]? = some (.cells c ty fz) → off + i + vs.length ≤ c.size →
    (∀ j, off + i ≤ j → j < off + i + vs.length → ¬(fz.1 ≤ j ∧ j < fz.2)) → (∀ v ∈ vs, v.oneCell' = true) →
    ∃ w' c', (storeCells ⟨b, off, none⟩ vs i).run P w = .ok () w' ∧ w'.heap.size = w.heap.size ∧ (∀ B, B ≠ b → w'.heap[B]? = w.heap[B]?) ∧ w'.heap[b]? = some (.cells c' ty fz) ∧
      c'.size = c.size ∧ (∀ j, c'[j]? = if off + i ≤ j ∧ j < off + i + vs.length then vs[j - (off + i)]? else c[j]?) ∧ w'.os = w.os ∧ w'.output = w.output ∧ w'.tape = w.tape
  | [], i, w, c, hb, _, _, _ => ⟨w, c, rfl, rfl, fun _ _ => rfl, hb, rfl, fun j => by rw [if_neg (by simp)], rfl, rfl, rfl⟩
  | v :: vs, i, w, c, hb, hle, hf, h1 => by
    simp only [List.length_cons] at hle hf
    have hst : (store ((⟨b, off, none⟩ : Addr).add i) v).run P w = .ok () (w.setCell ⟨b, off + i, none⟩ v) := by
      rw [addr_add, run_store P w _ v _ (h1 v (by simp)), cell_of w hb, frozen_of w hb _ (hf (off + i) (by omega) (by omega))]
      have : off + i < c.size := by omega
      simp [this]
    have hb' := heap_setCell_same w hb (off + i) v
    obtain ⟨w', c', h2, h3, h4, h5, h6, h7, h8, h9, h10⟩ := run_stores off vs (i + 1) (w.setCell ⟨b, off + i, none⟩ v) _ hb' (by simp; omega) (fun j ha hb => hf j (by omega) (by omega)) (fun u hu => h1 u (by simp [hu]))
    refine ⟨w', c', ?_, ?_, fun B hB => by rw [h4 B hB, heap_setCell_other w b _ v hB], h5, by rw [h6]; simp, fun j => ?_, h8, h9, h10⟩
    · simp only [storeCells, Sem.run_bind, hst, Result.andThen_ok]; exact h2
    · rw [h3]; simp [World.setCell]
    · rw [h7 j]
      by_cases hj : j = off + i
      · have hlt : off + i < c.size := by omega
        rw [hj, if_neg (by omega), if_pos (by simp), Nat.sub_self, Array.getElem?_setIfInBounds_self_of_lt hlt]; rfl
      · by_cases hin : off + (i + 1) ≤ j ∧ j < off + (i + 1) + vs.length
        · rw [if_pos hin, if_pos (by simp; omega), show j - (off + i) = (j - (off + (i + 1))) + 1 by omega]; simp
        · rw [if_neg hin, if_neg (by simp; omega)]; simp [Ne.symm hj]

theorem Rel.congr {ι : Inj} {h h' : H} {w : World} (hr : Rel cx σ ι h w) (hn : h'.nx = h.nx) (hg : ∀ b, h'.get b = h.get b) : Rel cx σ ι h' w ∧ Ext ι ι h h' w w :=
  ⟨⟨fun b l hb => by rw [hn]; exact hr.bound b l hb, fun b b' l l' h1 h2 e d d' => hr.inj b b' l l' h1 h2 e (by rwa [hg] at d) (by rwa [hg] at d'), fun b l o hb ho => hr.obj b l o hb (by rwa [hg] at ho)⟩,
   Le.refl _, fun _ _ e n => no_some e n, fun b _ _ => hg b, by rw [hn]; exact Nat.le_refl _, fun _ _ e _ => e, Nat.le_refl _, fun _ _ e n => no_some e n, rfl, rfl, rfl⟩
theorem H.get_put_self {h : H} {b : Pos} {o : O} (hb : h.get b = some o) (q : Pos) : (h.put b o).get q = h.get q := by
  by_cases e : q = b
  · rw [e, H.get_put_same, hb]
  · exact H.get_put_ne _ _ _ _ e

/-- cells are stored, in both -/
theorem store_sim {ι : Inj} {h : H} {w : World} (hr : Rel cx σ ι h w) {b : Pos} {l : Loc} {o o' : O} {vs : List V} {ws : List Value} {i : Nat} (hl : ι b = some l) (hb : h.get b = some o)
    (hn : vs ≠ [] → o.isC = true ∧ i + vs.length ≤ o.size) (hc : o.isC = true → o'.isC = true) (hs : o'.size = o.size) (hone : ∀ v ∈ vs, v.one = true)
    (hat : ∀ j, o'.at j = if i ≤ j ∧ j < i + vs.length then vs[j - i]? else o.at j) (he : vs = [] → o' = o) (hv : VRL σ ι vs ws) :
    ∃ w', (storeCells ⟨l.blk, l.off + i, none⟩ ws 0).run P w = .ok () w' ∧ Rel cx σ ι (h.put b o') w' ∧ Ext ι ι h (h.put b o') w w' := by
  have hlen := hv.length
  by_cases hz : vs = []
  · rw [he hz]
    obtain ⟨e1, e2⟩ := hr.congr (h' := h.put b o) (by simp) (H.get_put_self hb)
    subst hz
    rw [VRL.nil.1 hv]
    exact ⟨w, rfl, e1, e2⟩
  · obtain ⟨hoc, hsz⟩ := hn hz
    obtain ⟨c, ty, fz, h2, h3, h4, h5, h6⟩ := (orel_cells cx σ hoc).1 (hr.obj b l o hl hb)
    have hone' : ∀ x ∈ ws, x.oneCell' = true := fun x hx => by
      obtain ⟨j, hj, hjx⟩ := List.getElem_of_mem hx
      have hj' : j < vs.length := by omega
      obtain ⟨y, hy1, hy2⟩ := hv.get (List.getElem?_eq_getElem hj')
      rw [List.getElem?_eq_getElem hj, Option.some.injEq] at hy1
      rw [← hjx, hy1]
      exact oneCell_of hy2 (hone _ (List.getElem_mem hj'))
    obtain ⟨w', c', e1, e2, e3, e4, e5, e6, e7, e8, e9⟩ := run_stores (P := P) (b := l.blk) (l.off + i) ws 0 w c h2 (by omega)
      (fun j ha hb => by have := h5 (j - l.off) (by omega); rwa [show l.off + (j - l.off) = j by omega] at this) hone'
    have hd : o ≠ .dead := fun e => by rw [e] at hoc; cases hoc
    obtain ⟨f1, f2⟩ := hr.put (o' := o') hl hb hd e2 e3 ((orel_cells cx σ (hc hoc)).2 ⟨c', ty, fz, e4, by rw [hs]; exact h3, by rw [e5]; exact h4, h5, fun j v hj => by
      rw [hat] at hj
      by_cases hin : i ≤ j ∧ j < i + vs.length
      · rw [if_pos hin] at hj
        obtain ⟨y, hy1, hy2⟩ := hv.get hj
        refine ⟨y, ?_, hy2, hone v (List.mem_of_getElem? hj)⟩
        rw [e6, if_pos (by omega), show l.off + j - (l.off + i + 0) = j - i by omega]; exact hy1
      · rw [if_neg hin] at hj
        obtain ⟨y, hy1, hy2⟩ := h6 j v hj
        exact ⟨y, by rw [e6, if_neg (by omega)]; exact hy1, hy2⟩⟩) e7 e8 e9
    exact ⟨w', e1, f1, f2⟩

/-- what 'stn' comes to -/
theorem stn_some {h : H} {b : Pos} {i : Nat} {vs : List V} {k : H → R} {r : V × H} (e : h.stn b i vs k = some r) :
    ∃ o o', h.get b = some o ∧ k (h.put b o') = some r ∧ (vs ≠ [] → o.isC = true ∧ i + vs.length ≤ o.size) ∧ (o.isC = true → o'.isC = true) ∧ o'.size = o.size ∧ (∀ v ∈ vs, v.one = true) ∧
      (∀ j, o'.at j = if i ≤ j ∧ j < i + vs.length then vs[j - i]? else o.at j) ∧ (vs = [] → o' = o) := by
  obtain ⟨o, hb, e⟩ := H.getK_some e
  obtain ⟨o', h1, h2, h3, h4, h5, h6, e⟩ := setcs_some e
  exact ⟨o, o', hb, e, h1, h2, h3, h4, h5, h6⟩

theorem s_st1 (hy : Hyp P cx) {o : Oper} {ty : TypeId} {a x : Operand} {a' y : Opd} (ho : o.op = .store ty a x) (ha : ofOpd a = some a') (hx : ofOpd x = some y) (hs : szOf cx ty = some 1) : Sound cx σ P o (x_st1 a' y) := by
  intro t h k r e
  obtain ⟨b, i, hp, e⟩ := V.onPtr_some e
  obtain ⟨ob, hb, e⟩ := H.getK_some e
  obtain ⟨o', h1, hc, hi, hc', hsz, hat, e⟩ := O.setK_some e
  refine ⟨_, _, e, fun ι w ρ hr hρ => ?_⟩
  have hA := hρ a a' ha
  rw [hp] at hA
  obtain ⟨l, hl, hw⟩ := hA
  have hX := hρ x y hx
  obtain ⟨w', e1, e2, e3⟩ := store_sim (P := P) hr hl hb (vs := [y.ev t]) (ws := [ρ x]) (i := i) (fun _ => ⟨hc, by simp; omega⟩) (fun _ => hc') hsz (by simpa using h1)
    (fun j => by rw [hat]; by_cases hj : j = i
                 · subst hj; rw [if_pos rfl, if_pos (by simp)]; simp
                 · rw [if_neg hj, if_neg (by simp; omega)]) (by simp) ⟨_, [], rfl, hX, rfl⟩
  refine ⟨.skip, undef, w', ι, ?_, .inr ⟨rfl, rfl⟩, VR.tup.2 ⟨#[], rfl, rfl⟩, e2, e3⟩
  have hcl : (ρ x).cells = #[ρ x] := by
    have := oneCell_of hX h1
    cases hq : ρ x <;> first | rfl | (rw [hq] at this; cases this)
  simp [execOp, ho, hw, Instr.storeAt, Instr.sureAddr, storeVar, szOf_spec hy hs, hcl, e1]

theorem s_stn (hy : Hyp P cx) {o : Oper} {ty : TypeId} {a x : Operand} {a' y : Opd} {n : Nat} (ho : o.op = .store ty a x) (ha : ofOpd a = some a') (hx : ofOpd x = some y) (hs : szOf cx ty = some n) : Sound cx σ P o (x_stn n a' y) := by
  intro t h k r e
  obtain ⟨b, i, hp, e⟩ := V.onPtr_some e
  obtain ⟨c, hag, e⟩ := V.onAgg_some e
  obtain ⟨hn, e⟩ := ifK_some.1 e
  obtain ⟨ob, o', hb, e, h1, h2, h3, h4, h5, h6⟩ := stn_some e
  refine ⟨_, _, e, fun ι w ρ hr hρ => ?_⟩
  have hA := hρ a a' ha
  rw [hp] at hA
  obtain ⟨l, hl, hw⟩ := hA
  have hX := hρ x y hx
  rw [hag] at hX
  obtain ⟨av, hxv, hvr, _⟩ := VR.agg.1 hX
  obtain ⟨w', e1, e2, e3⟩ := store_sim (P := P) hr hl hb h1 h2 h3 h4 h5 h6 hvr
  refine ⟨.skip, undef, w', ι, ?_, .inr ⟨rfl, rfl⟩, VR.tup.2 ⟨#[], rfl, rfl⟩, e2, e3⟩
  have hsz : av.size = n := by have := hvr.length; rw [llen_eq] at hn; have := Nat.eq_of_beq_eq_true hn; simp at *; omega
  simp [execOp, ho, hw, Instr.storeAt, Instr.sureAddr, storeVar, szOf_spec hy hs, hxv, Value.cells, hsz, e1]

theorem s_fa (hy : Hyp P cx) {o : Oper} {s : TypeId} {x : Operand} {i : Nat} {y : Opd} {fs : Array Field} {f : Field} {n : Nat} (ho : o.op = .fieldAddr s x i) (hx : ofOpd x = some y) (hu : und cx s = some (.struct fs)) (hf : fs[i]? = some f)
    (hn : szOf cx f.type = some n) (h0 : n ≠ 0) : Sound cx σ P o (x_fa f.offset y) := by
  intro t h k r e
  obtain ⟨b, off, hp, e⟩ := V.onPtr_some e
  refine ⟨_, h, e, OSim.same fun ι w ρ hr hρ => ?_⟩
  have h1 := hρ x y hx
  rw [hp] at h1
  obtain ⟨l, hl, hw⟩ := h1
  refine ⟨.pointer (some ⟨l.blk, l.off + (off + f.offset), none⟩), ?_, ⟨l, hl, rfl⟩⟩
  simp [execOp, ho, hw, Instr.fieldAt, run_underlying (und_spec hy hu), hf, Instr.sureAddr, fieldPlace, szOf_spec hy hn, h0, addr_add, Nat.add_assoc]

theorem nat_of {ι : Inj} {v : V} {j : IntKind} {n : Nat} {x : Value} (e : v = .int j (.ofNat n)) (h : VR σ ι v x) : x = .int j n := by subst e; exact h

theorem s_ixs (hy : Hyp P cx) {o : Oper} {ty e : TypeId} {x i : Operand} {y z : Opd} {esz : Nat} (ho : o.op = .indexAddr ty x i) (hx : ofOpd x = some y) (hi : ofOpd i = some z) (hu : und cx ty = some (.slice e)) (hs : szOf cx e = some esz) :
    Sound cx σ P o (x_ixs esz y z) := by
  intro t h k r e
  rcases V.onSl_some e with ⟨b, off, len, cap, fx, hp, e⟩ | ⟨_, e⟩
  · obtain ⟨j, n, hn, e⟩ := V.nat_some e
    obtain ⟨hlt, e⟩ := ifK_some.1 e
    rw [ltb_iff] at hlt
    refine ⟨_, h, e, OSim.same fun ι w ρ hr hρ => ?_⟩
    have h1 := hρ x y hx
    rw [hp] at h1
    obtain ⟨l, c, hl, hw, _⟩ := VR.sl_pre h1 (.inl (by omega))
    have h2 := nat_of hn (hρ i z hi)
    refine ⟨.pointer (some ⟨l.blk, l.off + (off + n * esz), none⟩), ?_, ⟨l, hl, rfl⟩⟩
    simp [execOp, ho, hw, h2, Instr.indexAt, asIntOf, run_underlying (und_spec hy hu), szOf_spec hy hs, hlt, addr_add, Nat.add_assoc]
  · cases e

theorem s_ixa (hy : Hyp P cx) {o : Oper} {ty e : TypeId} {x i : Operand} {y z : Opd} {esz m : Nat} (ho : o.op = .indexAddr ty x i) (hx : ofOpd x = some y) (hi : ofOpd i = some z) (hu : und cx ty = some (.array m e)) (hs : szOf cx e = some esz) :
    Sound cx σ P o (x_ixa m esz y z) := by
  intro t h k r e
  obtain ⟨b, off, hp, e⟩ := V.onPtr_some e
  obtain ⟨j, n, hn, e⟩ := V.nat_some e
  obtain ⟨hlt, e⟩ := ifK_some.1 e
  rw [ltb_iff] at hlt
  refine ⟨_, h, e, OSim.same fun ι w ρ hr hρ => ?_⟩
  have h1 := hρ x y hx
  rw [hp] at h1
  obtain ⟨l, hl, hw⟩ := h1
  have h2 := nat_of hn (hρ i z hi)
  refine ⟨.pointer (some ⟨l.blk, l.off + (off + n * esz), none⟩), ?_, ⟨l, hl, rfl⟩⟩
  simp [execOp, ho, hw, h2, Instr.indexAt, Instr.sureAddr, asIntOf, run_underlying (und_spec hy hu), szOf_spec hy hs, hlt, addr_add, Nat.add_assoc]

/-! parts of structs and arrays -/
theorem VRL.take {ι : Inj} {vs : List V} {ws : List Value} (h : VRL σ ι vs ws) (n : Nat) : VRL σ ι (vs.take n) (ws.take n) := by
  induction n generalizing vs ws with
  | zero => simp; exact rfl
  | succ n ih => cases vs with
    | nil => rw [VRL.nil.1 h]; simp; exact rfl
    | cons v vs => obtain ⟨w, ws', rfl, hv, h⟩ := h; exact ⟨w, _, rfl, hv, ih h⟩
theorem VRL.drop {ι : Inj} {vs : List V} {ws : List Value} (h : VRL σ ι vs ws) (n : Nat) : VRL σ ι (vs.drop n) (ws.drop n) := by
  induction n generalizing vs ws with
  | zero => exact h
  | succ n ih => cases vs with
    | nil => rw [VRL.nil.1 h]; simp; exact rfl
    | cons v vs => obtain ⟨w, ws', rfl, hv, h⟩ := h; exact ih h

theorem part_sim (hy : Hyp P cx) {ty : TypeId} {n : Option Nat} (hp : partOf cx ty = some n) {c : List V} {off : Nat} {k : V → R} {r : V × H} (e : partK n c off k = some r) :
    ∃ v, k v = some r ∧ ∀ (ι : Inj) (a : Array Value) (w : World), VRL σ ι c a.toList → (∀ v ∈ c, v.one = true) → ∃ x, (part ty a off).run P w = .ok x w ∧ VR σ ι v x := by
  unfold partOf at hp
  cases hs : szOf cx ty with
  | none => simp [hs] at hp
  | some s =>
    cases hg : aggOf cx ty with
    | none => simp [hs, hg] at hp
    | some g =>
      cases g with
      | true =>
        simp [hs, hg] at hp; subst hp
        obtain ⟨hle, e⟩ := ifK_some.1 e
        rw [tkn_eq, drp_eq] at e
        refine ⟨_, e, fun ι a w hv h1 => ⟨.agg (a.extract off (off + s)), ?_, VR.agg.2 ⟨_, rfl, ?_, fun v hv => h1 v (List.mem_of_mem_drop (List.mem_of_mem_take hv))⟩⟩⟩
        · simp [part, aggOf_spec hy hg, szOf_spec hy hs]
        · have := (hv.drop off).take s
          simpa [Array.toList_extract, List.extract] using this
      | false =>
        simp [hs, hg] at hp; subst hp
        obtain ⟨v, hv, e⟩ := nthK_some e
        refine ⟨v, e, fun ι a w hvr h1 => ?_⟩
        obtain ⟨x, hx1, hx2⟩ := hvr.get hv
        refine ⟨x, ?_, hx2⟩
        simp at hx1
        simp [part, aggOf_spec hy hg, hx1]

theorem s_fld (hy : Hyp P cx) {o : Oper} {ty : TypeId} {x : Operand} {i : Nat} {y : Opd} {fs : Array Field} {f : Field} {n : Option Nat} (ho : o.op = .field ty x i) (hx : ofOpd x = some y) (hu : und cx ty = some (.struct fs)) (hf : fs[i]? = some f)
    (hn : partOf cx f.type = some n) : Sound cx σ P o (x_fld n f.offset y) := by
  intro t h k r e
  obtain ⟨c, hp, e⟩ := V.onAgg_some e
  obtain ⟨v, e, hv⟩ := part_sim (σ := σ) hy hn e
  refine ⟨v, h, e, OSim.same fun ι w ρ hr hρ => ?_⟩
  have h1 := hρ x y hx
  rw [hp] at h1
  obtain ⟨a, hw, ha, h1⟩ := VR.agg.1 h1
  obtain ⟨u, hu1, hu2⟩ := hv ι a w ha h1
  refine ⟨u, ?_, hu2⟩
  simp [execOp, ho, hw, Instr.field, run_underlying (und_spec hy hu), hf, asAgg, hu1]

theorem s_ixv (hy : Hyp P cx) {o : Oper} {ty el : TypeId} {x i : Operand} {y z : Opd} {m esz : Nat} {n : Option Nat} (ho : o.op = .index ty x i) (hx : ofOpd x = some y) (hi : ofOpd i = some z) (hu : und cx ty = some (.array m el)) (hs : szOf cx el = some esz)
    (hn : partOf cx el = some n) : Sound cx σ P o (x_ixv m n esz y z) := by
  intro t h k r e
  obtain ⟨c, hp, e⟩ := V.onAgg_some e
  obtain ⟨j, q, hq, e⟩ := V.nat_some e
  obtain ⟨hlt, e⟩ := ifK_some.1 e
  rw [ltb_iff] at hlt
  obtain ⟨v, e, hv⟩ := part_sim (σ := σ) hy hn e
  refine ⟨v, h, e, OSim.same fun ι w ρ hr hρ => ?_⟩
  have h1 := hρ x y hx
  rw [hp] at h1
  obtain ⟨a, hw, ha, h1⟩ := VR.agg.1 h1
  have h2 := nat_of hq (hρ i z hi)
  obtain ⟨u, hu1, hu2⟩ := hv ι a w ha h1
  refine ⟨u, ?_, hu2⟩
  have hu1' : (part el a (q * esz)).run P w = .ok u w := hu1
  simp [execOp, ho, hw, h2, Instr.index, asIntOf, run_underlying (und_spec hy hu), szOf_spec hy hs, hlt, hu1']
end
end Go.Ab
