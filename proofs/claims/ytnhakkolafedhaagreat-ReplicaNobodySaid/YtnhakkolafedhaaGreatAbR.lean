/- Blocks that are made: at whatever place of the abstract memory. -/
import Derived.Test.YtnhakkolafedhaaGreatAbQ
set_option linter.unusedVariables false
set_option linter.unusedSimpArgs false
namespace Go.Ab
section
variable {P : Program} {cx : Cx} {σ : Nat → Int}

/-- a block that is there in the abstract memory is made in the real one -/
theorem Rel.fill {ι : Inj} {h : H} {w : World} (hr : Rel cx σ ι h w) {b : Pos} {ob : O} {obj : Obj} {sz : Nat} (hb : ι b = none) (hlt : b.toNat < h.nx.toNat) (ho : h.get b = some ob)
    (hn : ORel cx σ ι (w.alloc obj) ⟨w.heap.size, 0, sz⟩ ob) : Rel cx σ (ι.add b ⟨w.heap.size, 0, sz⟩) h (w.alloc obj) := by
  have hle : Le ι (ι.add b ⟨w.heap.size, 0, sz⟩) := Inj.add_le hb
  have hsz : (w.alloc obj).heap.size = w.heap.size + 1 := by show (w.heap.push obj).size = _; simp
  have hold : ∀ B, B < w.heap.size → (w.alloc obj).heap[B]? = w.heap[B]? := fun B hB => by show (w.heap.push obj)[B]? = _; simp [Array.getElem?_push, Nat.ne_of_lt hB]
  refine ⟨fun x lx hx => ?_, fun x y lx ly hx hy e hdx hdy => ?_, fun x lx ox hx hox => ?_⟩
  · rw [hsz]
    by_cases e : x = b
    · subst e; rw [Inj.add_same] at hx; cases hx; exact ⟨hlt, by simp⟩
    · rw [Inj.add_ne _ _ _ _ e] at hx; have := hr.bound x lx hx; omega
  · by_cases ex : x = b
    · by_cases ey : y = b
      · rw [ex, ey]
      · subst ex; rw [Inj.add_same] at hx; cases hx; rw [Inj.add_ne _ _ _ _ ey] at hy; have := (hr.bound y ly hy).2; simp at e; omega
    · rw [Inj.add_ne _ _ _ _ ex] at hx
      by_cases ey : y = b
      · subst ey; rw [Inj.add_same] at hy; cases hy; have := (hr.bound x lx hx).2; simp at e; omega
      · rw [Inj.add_ne _ _ _ _ ey] at hy
        exact hr.inj x y lx ly hx hy e hdx hdy
  · by_cases e : x = b
    · subst e; rw [Inj.add_same] at hx; cases hx; rw [ho] at hox; cases hox; exact hn.mono hle
    · rw [Inj.add_ne _ _ _ _ e] at hx
      exact ((hr.obj x lx ox hx hox).other fun y hy => by rw [hold _ (hr.bound x lx hx).2]; exact hy).mono hle

theorem Ext.fill {ι0 ι : Inj} {h0 h : H} {w0 w : World} (he : Ext ι0 ι h0 h w0 w) {b : Pos} {obj : Obj} {sz : Nat} (hb : ι b = none) (hge : h0.nx.toNat ≤ b.toNat) :
    Ext ι0 (ι.add b ⟨w.heap.size, 0, sz⟩) h0 h w0 (w.alloc obj) := by
  have hsz : (w.alloc obj).heap.size = w.heap.size + 1 := by show (w.heap.push obj).size = _; simp
  have hlt : ∀ {B o}, w.heap[B]? = some o → B < w.heap.size := fun {B o} e => by
    rcases Nat.lt_or_ge B w.heap.size with h | h
    · exact h
    · rw [Array.getElem?_eq_none h] at e; cases e
  have hold : ∀ B, B < w.heap.size → (w.alloc obj).heap[B]? = w.heap[B]? := fun B hB => by show (w.heap.push obj)[B]? = _; simp [Array.getElem?_push, Nat.ne_of_lt hB]
  refine ⟨he.le.trans (Inj.add_le hb), fun x l e n => ?_, he.keepA, he.nx, fun B o e hn => ?_, ?_, fun x l e n => ?_, he.os, he.out, he.tape⟩
  · by_cases ex : x = b
    · rw [ex]; exact hge
    · rw [Inj.add_ne _ _ _ _ ex] at e; exact he.fresh x l e n
  · have := he.keepW B o e hn
    rw [hold B (hlt this)]; exact this
  · rw [hsz]; have := he.size; omega
  · by_cases ex : x = b
    · rw [ex, Inj.add_same] at e; cases e; exact .inl he.size
    · rw [Inj.add_ne _ _ _ _ ex] at e; exact he.rng x l e n

/-- the abstract memory has a block more -/
theorem Rel.more {ι : Inj} {h : H} {w : World} (hr : Rel cx σ ι h w) (ob : O) : Rel cx σ ι (h.push ob) w := by
  have hne : ∀ x l, ι x = some l → x ≠ h.nx := fun x l hx e => by have := (hr.bound x l hx).1; rw [e] at this; omega
  refine ⟨fun x lx hx => ?_, fun x y lx ly hx hy e hdx hdy => ?_, fun x lx ox hx hox => ?_⟩
  · rw [H.nx_push, Pos.toNat_succ]; have := hr.bound x lx hx; omega
  · rw [H.get_push_ne _ _ _ (hne x lx hx)] at hdx
    rw [H.get_push_ne _ _ _ (hne y ly hy)] at hdy
    exact hr.inj x y lx ly hx hy e hdx hdy
  · rw [H.get_push_ne _ _ _ (hne x lx hx)] at hox
    exact hr.obj x lx ox hx hox
theorem Ext.more {ι0 ι : Inj} {h0 h : H} {w0 w : World} (he : Ext ι0 ι h0 h w0 w) (ob : O) : Ext ι0 ι h0 (h.push ob) w0 w := by
  refine ⟨he.le, he.fresh, fun x hlt hn => ?_, ?_, he.keepW, he.size, he.rng, he.os, he.out, he.tape⟩
  · rw [H.get_push_ne _ _ _ (fun e => by have := he.nx; rw [e] at hlt; omega)]; exact he.keepA x hlt hn
  · rw [H.nx_push, Pos.toNat_succ]; have := he.nx; omega

/-- what a making comes to, wherever it is made -/
def AOSim (cx : Cx) (σ : Nat → Int) (P : Program) (o : Oper) (t : T) (ob : O) (val : Pos → V) : Prop :=
  ∀ (ι : Inj) (w : World) (ρ : Operand → Value), Opds σ ι t ρ → ∃ (v' : Value) (obj : Obj) (sz : Nat), (execOp ρ o).run P w = .ok (.value v') (w.alloc obj) ∧
    ORel cx σ ι (w.alloc obj) ⟨w.heap.size, 0, sz⟩ ob ∧ ∀ (ι' : Inj) (b : Pos), ι' b = some ⟨w.heap.size, 0, sz⟩ → VR σ ι' (val b) v'
def Makes (cx : Cx) (σ : Nat → Int) (P : Program) (o : Oper) (x : T → H → K → R) : Prop :=
  ∀ (t : T) (h : H) (k : K) (r : V × H), x t h k = some r → ∃ ob val, k (val h.nx) (h.push ob) = some r ∧ AOSim cx σ P o t ob val

theorem m_new (hy : Hyp P cx) {o : Oper} {e : TypeId} {zs : List V} (ho : o.op = .alloc e) (hz : zerosOf cx e = some zs) : Makes cx σ P o (x_new zs) := by
  intro t h k r e0
  have e1 : k (.ptr h.nx 0) (h.push (mkO zs)) = some r := by rw [← e0]; exact (H.alloc_eq h (mkO zs) (fun r h' => k (.ptr r 0) h')).symm
  refine ⟨mkO zs, fun b => .ptr b 0, e1, fun ι w ρ hρ => ?_⟩
  obtain ⟨z, hz1, hz2⟩ := zerosOf_spec (σ := σ) hy hz w
  obtain ⟨a, b, c, d⟩ := mkO_spec zs
  have hor := orel_new (cx := cx) w e a b c d (hz2 ι).1 (hz2 ι).2 (c := z.cells) (by simp) (by simp)
  refine ⟨.pointer (some ⟨w.heap.size, 0, none⟩), .cells z.cells e, _, ?_, hor, fun ι' b hb => ⟨_, hb, rfl⟩⟩
  simp [execOp, ho, Instr.alloc, hz1, newVar, newRow]

theorem m_box {o : Oper} {ty : TypeId} {x : Operand} {y : Opd} (ho : o.op = .box ty x) (hx : ofOpd x = some y) : Makes cx σ P o (x_box y) := by
  intro t h k r e0
  obtain ⟨hb, e0⟩ := ifK_some.1 e0
  have e1 : k (.ptr h.nx 0) (h.push (mkO (y.ev t).cells)) = some r := by rw [← e0]; exact (H.alloc_eq h _ (fun r h' => k (.ptr r 0) h')).symm
  refine ⟨mkO (y.ev t).cells, fun b => .ptr b 0, e1, fun ι w ρ hρ => ?_⟩
  have h1 := hρ x y hx
  obtain ⟨a, b, c, d⟩ := mkO_spec (y.ev t).cells
  have hor := orel_new (cx := cx) w ty a b c d (cells_of_one h1) (bx_one h1 hb) (c := (ρ x).cells) (by simp) (by simp)
  refine ⟨.pointer (some ⟨w.heap.size, 0, none⟩), .cells (ρ x).cells ty, _, ?_, hor, fun ι' b hb => ⟨_, hb, rfl⟩⟩
  simp [execOp, ho, Instr.box, newVar, newRow]

theorem m_mkmap {o : Oper} {ty : TypeId} (ho : o.op = .makeMap ty none) : Makes cx σ P o x_mkmap := by
  intro t h k r e0
  have e1 : k (.map h.nx) (h.push (.mp [])) = some r := by rw [← e0]; exact (H.alloc_eq h _ (fun r h' => k (.map r) h')).symm
  refine ⟨.mp [], fun b => .map b, e1, fun ι w ρ hρ => ?_⟩
  refine ⟨.map (some w.heap.size), .map #[] 0, 0, ?_, ⟨#[], 0, by show (w.heap.push _)[w.heap.size]? = _; simp, rfl, rfl⟩, fun ι' b hb => ⟨_, hb, rfl⟩⟩
  simp [execOp, ho, Instr.makeMap]

theorem m_bslice (hy : Hyp P cx) {o : Oper} {ty e : TypeId} {n : Nat} {parts : Array (Nat × Operand)} {esz : Nat} {ps : List (Nat × Nat × Opd)} {zs : List V} (ho : o.op = .buildSlice ty n parts) (hz : zerosOf cx e = some zs)
    (hu : und cx ty = some (.slice e)) (hs : szOf cx e = some esz) (hzl : zs.length = esz) (hsm : n * esz ≤ 16777216) (h0 : esz ≠ 0) (hps : partsAt (fun i => some (i * esz, esz)) parts.toList = some ps) : Makes cx σ P o (x_bslice n (repl zs n) ps) := by
  intro t h k r e0
  obtain ⟨l', e0, hl⟩ := fill_sim (σ := σ) hps e0
  have e1 : k (.sl h.nx 0 n n none) (h.push (mkO l')) = some r := by rw [← e0]; exact (H.alloc_eq h _ (fun r h' => k (.sl r 0 n n none) h')).symm
  refine ⟨mkO l', fun b => .sl b 0 n n none, e1, fun ι w ρ hρ => ?_⟩
  obtain ⟨i, z, hi, hz0, hzz⟩ := zeros_info (σ := σ) hy hz
  obtain ⟨i', hi', hsz⟩ := info_of hy hs
  rw [hi] at hi'; cases hi'
  have hrs := repl_sim (hzz ι).1 n (by omega)
  obtain ⟨c', h1, h2, h3⟩ := hl ι ρ ((Array.range (n * zs.length)).map (z.cells[· % z.cells.size]!)) hρ hrs (fun v hv => (hzz ι).2 v (repl_mem hv))
  obtain ⟨o1, o2, o3, o4⟩ := mkO_spec l'
  have hor := orel_new (cx := cx) w e o1 o2 o3 o4 h2 h3 (c := c') (by simp) (by simp)
  refine ⟨.slice (some ⟨w.heap.size, 0, none⟩) n n, .cells c' e, _, ?_, hor, fun ι' b hb => VR.sl_mk hb rfl (Nat.le_refl _) (fun _ => rfl) (fun _ h => by cases h)⟩
  have hmap : (parts.map fun (i, x) => (i, ρ x)).toList = parts.toList.map fun p => (p.1, ρ p.2) := by simp
  by_cases hn : n = 0
  · subst hn
    have hc' : Instr.fill (fun i => some (i * esz, esz)) #[] (parts.toList.map fun p => (p.1, ρ p.2)) = some c' := by
      rw [← h1, Nat.zero_mul, range0]
    simp [execOp, ho, Instr.buildSlice, run_underlying (und_spec hy hu), szOf_spec hy hs, hc', newRow, range0]
  · have hne : ¬ n * esz = 0 := fun hh => by rcases Nat.mul_eq_zero.1 hh with h | h; exact hn h; exact h0 h
    have hsm' : ¬ n * esz > 2 ^ 24 := by omega
    have hz1 : ∀ w : World, (zeroValue e).run P w = .ok z w := fun w => by simp [zeroValue, run_typeInfo w hi, hz0]
    rw [hzl] at h1
    have run0 : (Instr.buildSlice ty n (parts.map fun (i, x) => (i, ρ x))).run P w = .ok (.slice (some ⟨w.heap.size, 0, none⟩) n n) (w.alloc (.cells c' e)) := by
      unfold Instr.buildSlice
      simp only [Sem.run_bind, run_underlying (und_spec hy hu), Result.andThen_ok, szOf_spec hy hs, if_neg hsm', if_neg hne, hz1, Sem.run_pure, hmap, h1, newRow, run_newObj]
      rfl
    simp only [execOp, ho, Sem.run_bind, run0, Result.andThen_ok, Sem.run_pure]

theorem m_mkslice (hy : Hyp P cx) {o : Oper} {ty e : TypeId} {l c : Operand} {l' c' : Opd} {esz bytes : Nat} {zs : List V} (ho : o.op = .makeSlice ty l c) (hl : ofOpd l = some l') (hc : ofOpd c = some c') (hz : zerosOf cx e = some zs)
    (hu : und cx ty = some (.slice e)) (hs : szOf cx e = some esz) (hb : byOf cx e = some bytes) (hzl : zs.length = esz) (h0 : esz ≠ 0) : Makes cx σ P o (x_mkslice esz zs bytes l' c') := by
  intro t h k r e0
  obtain ⟨j, n, hn, e0⟩ := V.nat_some e0
  obtain ⟨j', m, hm, e0⟩ := V.nat_some e0
  obtain ⟨h1, e0⟩ := ifK_some.1 e0
  obtain ⟨h2, e0⟩ := ifK_some.1 e0
  obtain ⟨h3, e0⟩ := ifK_some.1 e0
  rw [Nat.ble_eq] at h1 h2 h3
  have e1 : k (.sl h.nx 0 n m none) (h.push (.big (Nat.mul m esz) esz zs .nil)) = some r := by rw [← e0]; exact (H.alloc_eq h _ (fun r h' => k (.sl r 0 n m none) h')).symm
  refine ⟨.big (Nat.mul m esz) esz zs .nil, fun b => .sl b 0 n m none, e1, fun ι w ρ hρ => ?_⟩
  have hN := nat_of hn (hρ l l' hl)
  have hM := nat_of hm (hρ c c' hc)
  obtain ⟨i, z, hi, hz0, hzz⟩ := zeros_info (σ := σ) hy hz
  obtain ⟨ib, hib, hbytes⟩ := byOf_spec hy hb w
  have hzsz : z.cells.size = zs.length := by have := (hzz ι).1.length; simpa using this
  let cs : Array Value := (Array.range (m * esz)).map (z.cells[· % z.cells.size]!)
  have hor : ORel cx σ ι (w.alloc (.cells cs e)) ⟨w.heap.size, 0, m * esz⟩ (.big (Nat.mul m esz) esz zs .nil) := by
    refine ⟨cs, e, (0, 0), by show (w.heap.push _)[w.heap.size]? = _; simp, Nat.le_refl _, by simp [cs], fun i _ => by simp, fun q v hv => ?_⟩
    simp only [O.at] at hv
    by_cases hq : q < Nat.mul m esz
    · rw [if_pos hq, Tr.get_nil] at hv
      have hv : zs[q % esz]? = some v := hv
      obtain ⟨x, hx1, hx2⟩ := (hzz ι).1.get hv
      have hmod : q % z.cells.size < z.cells.size := Nat.mod_lt _ (by omega)
      refine ⟨x, ?_, hx2, (hzz ι).2 v (List.mem_of_getElem? hv)⟩
      show cs[0 + q]? = _
      rw [Nat.zero_add, show cs[q]? = _ from range_map_get z.cells _ q hq hmod, hzsz, hzl]
      simpa using hx1
    · rw [if_neg hq] at hv; cases hv
  refine ⟨.slice (some ⟨w.heap.size, 0, none⟩) n m, .cells cs e, _, ?_, hor, fun ι' b hb => VR.sl_mk hb rfl (Nat.le_refl _) (fun _ => rfl) (fun _ h => by cases h)⟩
  have hwn : IntKind.i64.wrap (n : Int) = n := wrap_i64 (by omega) (by omega)
  have hwm : IntKind.i64.wrap (m : Int) = m := wrap_i64 (by omega) (by omega)
  have hbm : (bytes : Int) * (m : Int) ≤ 1099511627776 := by
    have : bytes * m ≤ 1099511627776 := by rw [Nat.mul_comm]; exact h2
    have hq := Int.ofNat_le.2 this
    rw [Int.natCast_mul] at hq
    omega
  have hz1 : ∀ w : World, (zeroValue e).run P w = .ok z w := fun w => by simp [zeroValue, run_typeInfo w hi, hz0]
  have hti : (typeInfo e).run P w = .ok i w := run_typeInfo w hi
  rw [hti] at hib
  have hib' : i = ib := by injection hib
  rw [← hib'] at hbytes
  have hp48 : (2 : Int) ^ 48 = 281474976710656 := rfl
  have htl : (decide ((m : Int) < 0) || decide ((bytes : Int) * m > 2 ^ 48)) = false := by
    rw [Bool.or_eq_false_iff]; exact ⟨decide_eq_false (by omega), decide_eq_false (by omega)⟩
  have hnm : ¬ ((n : Int) > m) := by omega
  have run0 : (Instr.makeSlice ty (.int j n) (.int j' m)).run P w = .ok (.slice (some ⟨w.heap.size, 0, none⟩) n m) (w.alloc (.cells cs e)) := by
    have hl0 : ¬ ((n : Int) < 0) := by omega
    have t2 : (decide ((n : Int) < 0) || decide ((n : Int) > m)) = false := by rw [Bool.or_eq_false_iff]; exact ⟨decide_eq_false (by omega), decide_eq_false (by omega)⟩
    have tt : ((decide ((m : Int) < 0) || decide ((bytes : Int) * m > 2 ^ 48) || decide ((n : Int) < 0) || decide ((n : Int) > m)) = true) = False := by
      rw [Bool.or_assoc, htl, Bool.false_or, t2]; exact eq_false (by decide)
    unfold Instr.makeSlice
    simp only [Sem.run_bind, run_underlying (und_spec hy hu), asInt, asIntOf, hti, hbytes, Result.andThen_ok, Sem.run_pure, hwn, hwm, tt, if_false, run_askRoom, szOf_spec hy hs, Int.toNat_natCast]
    by_cases hme : m * esz = 0
    · have hcs : cs = #[] := by simp only [cs, hme]; exact range0 _
      simp only [hme, if_true, Sem.run_pure, Result.andThen_ok, newRow, Sem.run_bind, run_newObj, range0, hcs]
      rfl
    · simp only [if_neg hme, Sem.run_bind, hz1, Result.andThen_ok, Sem.run_pure, newRow, run_newObj]
      rfl
  simp [execOp, ho, hN, hM, run0]

theorem comp_makes (hy : Hyp P cx) {o : Oper} {iop : IOp} (hm : isMk o.op = true) (hc : compOp cx o.op = some iop) (S : Sy) (E : Env) : Makes cx σ P o (exec S E iop) := by
  cases ho : o.op with
  | alloc e =>
    rw [ho] at hc; simp [compOp, Option.bind_eq_some_iff] at hc
    obtain ⟨z, h1, rfl⟩ := hc
    exact m_new hy ho h1
  | box t x =>
    rw [ho] at hc; simp [compOp, Option.bind_eq_some_iff] at hc
    obtain ⟨y, h1, rfl⟩ := hc
    exact m_box ho h1
  | buildSlice t n ps =>
    rw [ho] at hc; simp [compOp, Option.bind_eq_some_iff] at hc
    obtain ⟨d, h1, hc⟩ := hc
    cases d <;> simp [Option.bind_eq_some_iff] at hc
    obtain ⟨s, h2, z, h3, ⟨⟨h4, h5⟩, h6⟩, q, h7, rfl⟩ := hc
    exact m_bslice hy ho h3 h1 h2 h4 h5 h6 h7
  | makeMap t r =>
    rw [ho] at hc
    cases r <;> simp [compOp] at hc
    subst hc
    exact m_mkmap ho
  | makeSlice t l c =>
    rw [ho] at hc; simp [compOp, Option.bind_eq_some_iff] at hc
    obtain ⟨d, h1, hc⟩ := hc
    cases d <;> simp [Option.bind_eq_some_iff] at hc
    obtain ⟨s, h2, z, h3, ⟨h4, h5⟩, by_, h6, l', h7, c', h8, rfl⟩ := hc
    exact m_mkslice hy ho h7 h8 h3 h1 h2 h6 h4 h5
  | _ => rw [ho] at hm; cases hm
end
end Go.Ab
