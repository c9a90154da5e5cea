/- Each operation, third part: literals, numbers, equality. -/
import Derived.Test.YtnhakkolafedhaaGreatAbF
set_option linter.unusedVariables false
set_option linter.unusedSimpArgs false
namespace Go.Ab
section
variable {P : Program} {cx : Cx} {σ : Nat → Int}

theorem VRL.set {ι : Inj} {vs : List V} {ws : List Value} (h : VRL σ ι vs ws) (i : Nat) {v : V} {x : Value} (hv : VR σ ι v x) : VRL σ ι (vs.set i v) (ws.set i x) := by
  induction vs generalizing ws i with
  | nil => rw [VRL.nil.1 h]; exact rfl
  | cons u vs ih =>
    obtain ⟨w, ws', rfl, hu, h⟩ := h
    cases i with
    | zero => exact ⟨x, ws', rfl, hv, h⟩
    | succ i => exact ⟨w, _, rfl, hu, ih h i⟩
theorem mem_set {l : List V} {i : Nat} {x v : V} (h : v ∈ l.set i x) : v = x ∨ v ∈ l := by
  rcases List.mem_or_eq_of_mem_set h with h | h
  · exact .inr h
  · exact .inl h

theorem lsets_sim {ι : Inj} (off : Nat) : ∀ {vs : List V} {ws : List Value} (j : Nat) {l : List V} {c : Array Value}, VRL σ ι vs ws → VRL σ ι l c.toList → (∀ v ∈ vs, v.one = true) → (∀ v ∈ l, v.one = true) →
    VRL σ ι (lsets vs l (off + j)) ((ws.zipIdx j).foldl (fun cs (p : Value × Nat) => cs.setIfInBounds (off + p.2) p.1) c).toList ∧ (∀ v ∈ lsets vs l (off + j), v.one = true) ∧ (lsets vs l (off + j)).length = l.length := by
  intro vs
  induction vs with
  | nil => intro ws j l c h hl h1 h2; rw [VRL.nil.1 h]; exact ⟨hl, h2, rfl⟩
  | cons v vs ih =>
    intro ws j l c h hl h1 h2
    obtain ⟨w, ws', rfl, hv, h⟩ := h
    have hl' : VRL σ ι (l.set (off + j) v) (c.setIfInBounds (off + j) w).toList := by simpa using hl.set (off + j) hv
    obtain ⟨a, b, d⟩ := ih (j + 1) (l := l.set (off + j) v) (c := c.setIfInBounds (off + j) w) h hl' (fun u hu => h1 u (by simp [hu]))
      (fun u hu => by rcases mem_set hu with rfl | hu; exact h1 u (by simp); exact h2 u hu)
    have e : lsets (v :: vs) l (off + j) = lsets vs (l.set (off + j) v) (off + (j + 1)) := by
      show lsets vs (lset v l (off + j)) (Nat.succ (off + j)) = _
      rw [lset_eq]; rfl
    rw [e]
    exact ⟨by simpa using a, b, by rw [d]; simp⟩

theorem fill_sim {place : Nat → Option (Nat × Nat)} : ∀ {parts : List (Nat × Operand)} {ps : List (Nat × Nat × Opd)} {t : T} {l : List V} {k : List V → R} {r : V × H}, partsAt place parts = some ps → fillK ps t l k = some r →
    ∃ l', k l' = some r ∧ ∀ (ι : Inj) (ρ : Operand → Value) (c : Array Value), Opds σ ι t ρ → VRL σ ι l c.toList → (∀ v ∈ l, v.one = true) →
      ∃ c', Instr.fill place c (parts.map fun p => (p.1, ρ p.2)) = some c' ∧ VRL σ ι l' c'.toList ∧ ∀ v ∈ l', v.one = true := by
  intro parts
  induction parts with
  | nil =>
    intro ps t l k r hp e
    simp [partsAt] at hp; subst hp
    exact ⟨l, e, fun ι ρ c _ hl h1 => ⟨c, rfl, hl, h1⟩⟩
  | cons p parts ih =>
    obtain ⟨i, x⟩ := p
    intro ps t l k r hp e
    unfold partsAt at hp
    cases h1 : place i with
    | none => simp [h1] at hp
    | some os =>
      obtain ⟨off, sz⟩ := os
      cases h2 : ofOpd x with
      | none => simp [h1, h2] at hp
      | some y =>
        cases h3 : partsAt place parts with
        | none => simp [h1, h2, h3] at hp
        | some rest =>
          simp [h1, h2, h3] at hp; subst hp
          obtain ⟨hbx, e⟩ := ifK_some.1 e
          obtain ⟨hsz, e⟩ := ifK_some.1 e
          obtain ⟨hle, e⟩ := ifK_some.1 e
          have hsz := Nat.eq_of_beq_eq_true hsz
          rw [Nat.ble_eq] at hle
          simp only [llen_eq] at hsz hle
          obtain ⟨l', e, hl'⟩ := ih h3 e
          refine ⟨l', e, fun ι ρ c hρ hl h1l => ?_⟩
          have hx := hρ x y h2
          have hcs := cells_of_one hx
          have hone := bx_one hx hbx
          obtain ⟨a, b, d⟩ := lsets_sim off 0 hcs hl hone h1l
          obtain ⟨c', f1, f2, f3⟩ := hl' ι ρ _ hρ a b
          refine ⟨c', ?_, f2, f3⟩
          have hsz' : (ρ x).cells.size = sz := by have := hcs.length; simp at this; omega
          have hc : c.size = l.length := by have := hl.length; simpa using this
          simp only [List.map_cons, Instr.fill, h1]
          rw [if_neg (by simp [hsz', hc]; omega)]
          rw [← f1]
          congr 1
          rw [← Array.foldl_toList]
          simp [Array.toList_zipIdx]

theorem places_spec (hy : Hyp P cx) : ∀ {fs : List Field} {pl : List (Nat × Nat)}, placesOf cx fs = some pl → fs.mapM (fun f => (P.info? f.type).map fun i => (f.offset, i.size)) = some pl
  | [], pl, h => by simp [placesOf] at h; subst h; rfl
  | f :: fs, pl, h => by
    unfold placesOf at h
    cases h1 : szOf cx f.type with
    | none => simp [h1] at h
    | some s =>
      cases h2 : placesOf cx fs with
      | none => simp [h1, h2] at h
      | some r =>
        simp [h1, h2] at h; subst h
        unfold szOf at h1
        cases hi : cx.ti f.type with
        | none => simp [hi] at h1
        | some i =>
          simp [hi] at h1
          have := places_spec hy h2
          simp [List.mapM_cons, hy.ti _ _ hi, h1, this]

theorem info_of (hy : Hyp P cx) {t : TypeId} {s : Nat} (h : szOf cx t = some s) : ∃ i, P.info? t = some i ∧ i.size = s := by
  unfold szOf at h
  cases hi : cx.ti t with
  | none => simp [hi] at h
  | some i => simp [hi] at h; exact ⟨i, hy.ti t i hi, h⟩
theorem zeros_info (hy : Hyp P cx) {t : TypeId} {zs : List V} (h : zerosOf cx t = some zs) :
    ∃ i z, P.info? t = some i ∧ i.zero = some z ∧ ∀ ι, VRL σ ι zs z.cells.toList ∧ ∀ x ∈ zs, x.one = true := by
  unfold zerosOf at h
  cases hi : cx.ti t with
  | none => simp [hi] at h
  | some i =>
    cases hz : i.zero with
    | none => simp [hi, hz] at h
    | some z => simp only [hi, hz] at h; exact ⟨i, z, hy.ti t i hi, hz, fun ι => zerosV_spec h ι⟩

theorem s_build_struct (hy : Hyp P cx) {o : Oper} {ty : TypeId} {parts : Array (Nat × Operand)} {fs : Array Field} {pl : List (Nat × Nat)} {ps : List (Nat × Nat × Opd)} {zs : List V} (ho : o.op = .build ty parts) (hz : zerosOf cx ty = some zs)
    (hu : und cx ty = some (.struct fs)) (hpl : placesOf cx fs.toList = some pl) (hps : partsAt (pl[·]?) parts.toList = some ps) : Sound cx σ P o (x_build zs ps) := by
  intro t h k r e
  obtain ⟨l', e, hl⟩ := fill_sim (σ := σ) hps e
  refine ⟨_, h, e, OSim.same fun ι w ρ hr hρ => ?_⟩
  obtain ⟨i, z, hi, hz0, hzz⟩ := zeros_info (σ := σ) hy hz
  obtain ⟨c', h1, h2, h3⟩ := hl ι ρ z.cells hρ (hzz ι).1 (hzz ι).2
  refine ⟨.agg c', ?_, VR.agg.2 ⟨c', rfl, h2, h3⟩⟩
  have hb : P.built ty (parts.map fun (i, x) => (i, ρ x)).toList = some c' := by
    unfold Program.built
    simp only [hi, und_spec hy hu, hz0, places_spec hy hpl]
    rw [← h1]; congr 1
    · funext x; simp
    · simp
  simp only [execOp, ho, Sem.run_bind, run_build w ty _ _ hb, Result.andThen_ok, Sem.run_pure]

theorem s_build_array (hy : Hyp P cx) {o : Oper} {ty e : TypeId} {parts : Array (Nat × Operand)} {n esz : Nat} {ps : List (Nat × Nat × Opd)} {zs : List V} (ho : o.op = .build ty parts) (hz : zerosOf cx ty = some zs)
    (hu : und cx ty = some (.array n e)) (hs : szOf cx e = some esz) (hps : partsAt (fun i => some (i * esz, esz)) parts.toList = some ps) : Sound cx σ P o (x_build zs ps) := by
  intro t h k r e0
  obtain ⟨l', e0, hl⟩ := fill_sim (σ := σ) hps e0
  refine ⟨_, h, e0, OSim.same fun ι w ρ hr hρ => ?_⟩
  obtain ⟨i, z, hi, hz0, hzz⟩ := zeros_info (σ := σ) hy hz
  obtain ⟨ie, hie, hse⟩ := info_of hy hs
  obtain ⟨c', h1, h2, h3⟩ := hl ι ρ z.cells hρ (hzz ι).1 (hzz ι).2
  refine ⟨.agg c', ?_, VR.agg.2 ⟨c', rfl, h2, h3⟩⟩
  have hb : P.built ty (parts.map fun (i, x) => (i, ρ x)).toList = some c' := by
    unfold Program.built
    simp only [hi, und_spec hy hu, hz0, hie, hse]
    rw [← h1]; congr 1
    simp
  simp only [execOp, ho, Sem.run_bind, run_build w ty _ _ hb, Result.andThen_ok, Sem.run_pure]

/-- zero cells, over and over -/
theorem repl_get (zs : List V) (n i : Nat) (hi : i < n * zs.length) : (repl zs n)[i]? = zs[i % zs.length]? := by
  rw [repl_eq]
  induction n generalizing i with
  | zero => simp at hi
  | succ n ih =>
    rw [List.replicate_succ, List.flatten_cons]
    by_cases h : i < zs.length
    · rw [List.getElem?_append_left h, Nat.mod_eq_of_lt h]
    · have hp : 0 < zs.length := by rcases Nat.eq_zero_or_pos zs.length with h0 | h0; · rw [h0] at hi; simp at hi
                                    · exact h0
      rw [List.getElem?_append_right (by omega), ih (i - zs.length) (by rw [Nat.succ_mul] at hi; omega), Nat.mod_eq_sub_mod (by omega : i ≥ zs.length)]
theorem repl_length (zs : List V) (n : Nat) : (repl zs n).length = n * zs.length := by
  rw [repl_eq]; simp
theorem repl_mem {zs : List V} {n : Nat} {v : V} (h : v ∈ repl zs n) : v ∈ zs := by
  rw [repl_eq] at h
  simp at h
  obtain ⟨l, ⟨_, rfl⟩, h⟩ := h
  exact h
theorem range0 (g : Nat → Value) : Array.map g (Array.range 0) = #[] := by apply Array.ext'; simp
theorem range_map_get (z : Array Value) (n i : Nat) (hi : i < n) (hz : i % z.size < z.size) : ((Array.range n).map (z[· % z.size]!))[i]? = z[i % z.size]? := by
  simp [hi, hz]
theorem repl_sim {ι : Inj} {zs : List V} {z : Array Value} (h : VRL σ ι zs z.toList) (n : Nat) (hp : zs.length ≠ 0) : VRL σ ι (repl zs n) ((Array.range (n * zs.length)).map (z[· % z.size]!)).toList := by
  have hz : z.size = zs.length := by have := h.length; simpa using this
  refine VRL.of_get (by simp [repl_length]) fun i v hi => ?_
  have hlt : i < n * zs.length := by rw [← repl_length]; exact (List.getElem?_eq_some_iff.1 hi).1
  rw [repl_get zs n i hlt] at hi
  obtain ⟨w, hw1, hw2⟩ := h.get hi
  have hm : i % z.size < z.size := Nat.mod_lt _ (by omega)
  refine ⟨w, ?_, hw2⟩
  rw [Array.getElem?_toList, range_map_get z _ i hlt hm, hz]
  simpa using hw1

theorem s_bslice (hy : Hyp P cx) {o : Oper} {ty e : TypeId} {n : Nat} {parts : Array (Nat × Operand)} {esz : Nat} {ps : List (Nat × Nat × Opd)} {zs : List V} (ho : o.op = .buildSlice ty n parts) (hz : zerosOf cx e = some zs)
    (hu : und cx ty = some (.slice e)) (hs : szOf cx e = some esz) (hzl : zs.length = esz) (hsm : n * esz ≤ 16777216) (h0 : esz ≠ 0) (hps : partsAt (fun i => some (i * esz, esz)) parts.toList = some ps) : Sound cx σ P o (x_bslice n (repl zs n) ps) := by
  intro t h k r e0
  obtain ⟨l', e0, hl⟩ := fill_sim (σ := σ) hps e0
  have e1 : k (.sl h.nx 0 n n none) (h.push (mkO l')) = some r := by rw [← e0]; exact (H.alloc_eq h _ (fun r h' => k (.sl r 0 n n none) h')).symm
  refine ⟨_, _, e1, fun ι w ρ hr hρ => ?_⟩
  obtain ⟨i, z, hi, hz0, hzz⟩ := zeros_info (σ := σ) hy hz
  obtain ⟨i', hi', hsz⟩ := info_of hy hs
  rw [hi] at hi'; cases hi'
  have hrs := repl_sim (hzz ι).1 n (by omega)
  obtain ⟨c', h1, h2, h3⟩ := hl ι ρ ((Array.range (n * zs.length)).map (z.cells[· % z.cells.size]!)) hρ hrs (fun v hv => (hzz ι).2 v (repl_mem hv))
  obtain ⟨ι', g1, g2, g3, g4⟩ := new_sim hr e h2 h3
  refine ⟨_, .slice (some ⟨w.heap.size, 0, none⟩) n n, _, ι', ?_, .inl rfl, VR.sl_mk g4 rfl (Nat.le_refl _) (fun _ => rfl) (fun _ h => by cases h), g2, g3⟩
  have hmap : (parts.map fun (i, x) => (i, ρ x)).toList = parts.toList.map fun p => (p.1, ρ p.2) := by simp
  by_cases hn : n = 0
  · subst hn
    have hc' : Instr.fill (fun i => some (i * esz, esz)) #[] (parts.toList.map fun p => (p.1, ρ p.2)) = some c' := by
      rw [← h1, Nat.zero_mul, range0]
    simp [execOp, ho, Instr.buildSlice, run_underlying (und_spec hy hu), szOf_spec hy hs, hc', newRow, range0]
  · have hne : ¬ n * esz = 0 := fun hh => by rcases Nat.mul_eq_zero.1 hh with h | h; exact hn h; exact h0 h
    have hsm' : ¬ n * esz > 2 ^ 24 := by omega
    have hz1 : ∀ w : World, (zeroValue e).run P w = .ok z w := fun w => by simp [zeroValue, run_typeInfo w hi, hz0]
    rw [hzl] at h1
    have run0 : (Instr.buildSlice ty n (parts.map fun (i, x) => (i, ρ x))).run P w = .ok (.slice (some ⟨w.heap.size, 0, none⟩) n n) (w.alloc (.cells c' e)) := by
      unfold Instr.buildSlice
      simp only [Sem.run_bind, run_underlying (und_spec hy hu), Result.andThen_ok, szOf_spec hy hs, if_neg hsm', if_neg hne, hz1, Sem.run_pure, hmap, h1, newRow, run_newObj]
      rfl
    simp only [execOp, ho, Sem.run_bind, run0, Result.andThen_ok, Sem.run_pure]

theorem wrap_i64 {n : Int} (h1 : -9223372036854775808 ≤ n) (h2 : n < 9223372036854775808) : IntKind.i64.wrap n = n := by
  show (let m := n % 18446744073709551616; if (true && decide (m ≥ 9223372036854775808)) = true then m - 18446744073709551616 else m) = n
  simp only [Bool.true_and, decide_eq_true_eq]
  split <;> omega

theorem s_mkslice (hy : Hyp P cx) {o : Oper} {ty e : TypeId} {l c : Operand} {l' c' : Opd} {esz bytes : Nat} {zs : List V} (ho : o.op = .makeSlice ty l c) (hl : ofOpd l = some l') (hc : ofOpd c = some c') (hz : zerosOf cx e = some zs)
    (hu : und cx ty = some (.slice e)) (hs : szOf cx e = some esz) (hb : byOf cx e = some bytes) (hzl : zs.length = esz) (h0 : esz ≠ 0) : Sound cx σ P o (x_mkslice esz zs bytes l' c') := by
  intro t h k r e0
  obtain ⟨j, n, hn, e0⟩ := V.nat_some e0
  obtain ⟨j', m, hm, e0⟩ := V.nat_some e0
  obtain ⟨h1, e0⟩ := ifK_some.1 e0
  obtain ⟨h2, e0⟩ := ifK_some.1 e0
  obtain ⟨h3, e0⟩ := ifK_some.1 e0
  rw [Nat.ble_eq] at h1 h2 h3
  have e1 : k (.sl h.nx 0 n m none) (h.push (.big (Nat.mul m esz) esz zs .nil)) = some r := by rw [← e0]; exact (H.alloc_eq h _ (fun r h' => k (.sl r 0 n m none) h')).symm
  refine ⟨_, _, e1, fun ι w ρ hr hρ => ?_⟩
  have hN := nat_of hn (hρ l l' hl)
  have hM := nat_of hm (hρ c c' hc)
  obtain ⟨i, z, hi, hz0, hzz⟩ := zeros_info (σ := σ) hy hz
  obtain ⟨ib, hib, hbytes⟩ := byOf_spec hy hb w
  have hzsz : z.cells.size = zs.length := by have := (hzz ι).1.length; simpa using this
  let cs : Array Value := (Array.range (m * esz)).map (z.cells[· % z.cells.size]!)
  have hor : ORel cx σ ι (w.alloc (.cells cs e)) ⟨w.heap.size, 0, m * esz⟩ (.big (Nat.mul m esz) esz zs .nil) := by
    refine ⟨cs, e, (0, 0), by show (w.heap.push _)[w.heap.size]? = _; simp, Nat.le_refl _, by simp [cs], fun i _ => by simp, fun q v hv => ?_⟩
    simp only [O.at] at hv
    by_cases hq : q < Nat.mul m esz
    · rw [if_pos hq, Tr.get_nil] at hv
      have hv : zs[q % esz]? = some v := hv
      obtain ⟨x, hx1, hx2⟩ := (hzz ι).1.get hv
      have hmod : q % z.cells.size < z.cells.size := Nat.mod_lt _ (by omega)
      refine ⟨x, ?_, hx2, (hzz ι).2 v (List.mem_of_getElem? hv)⟩
      show cs[0 + q]? = _
      rw [Nat.zero_add, show cs[q]? = _ from range_map_get z.cells _ q hq hmod, hzsz, hzl]
      simpa using hx1
    · rw [if_neg hq] at hv; cases hv
  obtain ⟨g2, g3⟩ := hr.push _ (.cells cs e) (m * esz) hor
  refine ⟨_, .slice (some ⟨w.heap.size, 0, none⟩) n m, _, _, ?_, .inl rfl, VR.sl_mk (Inj.add_same _ _ _) rfl (Nat.le_refl _) (fun _ => rfl) (fun _ h => by cases h), g2, g3⟩
  have hwn : IntKind.i64.wrap (n : Int) = n := wrap_i64 (by omega) (by omega)
  have hwm : IntKind.i64.wrap (m : Int) = m := wrap_i64 (by omega) (by omega)
  have hbm : (bytes : Int) * (m : Int) ≤ 1099511627776 := by
    have : bytes * m ≤ 1099511627776 := by rw [Nat.mul_comm]; exact h2
    have hq := Int.ofNat_le.2 this
    rw [Int.natCast_mul] at hq
    omega
  have hz1 : ∀ w : World, (zeroValue e).run P w = .ok z w := fun w => by simp [zeroValue, run_typeInfo w hi, hz0]
  have hti : (typeInfo e).run P w = .ok i w := run_typeInfo w hi
  rw [hti] at hib
  have hib' : i = ib := by injection hib
  rw [← hib'] at hbytes
  have hp48 : (2 : Int) ^ 48 = 281474976710656 := rfl
  have htl : (decide ((m : Int) < 0) || decide ((bytes : Int) * m > 2 ^ 48)) = false := by
    rw [Bool.or_eq_false_iff]; exact ⟨decide_eq_false (by omega), decide_eq_false (by omega)⟩
  have hnm : ¬ ((n : Int) > m) := by omega
  have run0 : (Instr.makeSlice ty (.int j n) (.int j' m)).run P w = .ok (.slice (some ⟨w.heap.size, 0, none⟩) n m) (w.alloc (.cells cs e)) := by
    have hl0 : ¬ ((n : Int) < 0) := by omega
    have t2 : (decide ((n : Int) < 0) || decide ((n : Int) > m)) = false := by rw [Bool.or_eq_false_iff]; exact ⟨decide_eq_false (by omega), decide_eq_false (by omega)⟩
    have tt : ((decide ((m : Int) < 0) || decide ((bytes : Int) * m > 2 ^ 48) || decide ((n : Int) < 0) || decide ((n : Int) > m)) = true) = False := by
      rw [Bool.or_assoc, htl, Bool.false_or, t2]; exact eq_false (by decide)
    unfold Instr.makeSlice
    simp only [Sem.run_bind, run_underlying (und_spec hy hu), asInt, asIntOf, hti, hbytes, Result.andThen_ok, Sem.run_pure, hwn, hwm, tt, if_false, run_askRoom, szOf_spec hy hs, Int.toNat_natCast]
    by_cases hme : m * esz = 0
    · have hcs : cs = #[] := by simp only [cs, hme]; exact range0 _
      simp only [hme, if_true, Sem.run_pure, Result.andThen_ok, newRow, Sem.run_bind, run_newObj, range0, hcs]
      rfl
    · simp only [if_neg hme, Sem.run_bind, hz1, Result.andThen_ok, Sem.run_pure, newRow, run_newObj]
      rfl
  simp [execOp, ho, hN, hM, run0]
end
end Go.Ab
