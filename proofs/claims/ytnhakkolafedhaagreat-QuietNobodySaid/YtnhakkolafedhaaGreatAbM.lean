/- Each operation, last part: slices at the operation, append, copy, clear. -/
import Derived.Test.YtnhakkolafedhaaGreatAbL
set_option linter.unusedVariables false
set_option linter.unusedSimpArgs false
namespace Go.Ab
section
variable {P : Program} {cx : Cx} {σ : Nat → Int}

theorem s_slc (hy : Hyp P cx) {o : Oper} {ty e : TypeId} {x : Operand} {lo hi mx : Option Operand} {x' : Opd} {lo' hi' mx' : Option Opd} {esz : Nat} (ho : o.op = .slice ty x lo hi mx) (hx : ofOpd x = some x') (h1 : ofOpt lo = some lo') (h2 : ofOpt hi = some hi') (h3 : ofOpt mx = some mx')
    (hu : und cx ty = some (.slice e)) (hs : szOf cx e = some esz) : Sound cx σ P o (x_slc esz x' lo' hi' mx') := by
  intro t h k r e0
  have hu := und_spec hy hu
  have arm : ∀ (ρ : Operand → Value) (w : World) (a : Option Addr) (len cap l hh m : Nat), ρ x = .slice a len cap → (Instr.sliceBounds true len cap (lo.map ρ) (hi.map ρ) (mx.map ρ)).run P w = .ok (l, hh, m) w →
      (execOp ρ o).run P w = .ok (.value (.slice (if m = l then a else a.map (·.add (l * esz))) (hh - l) (m - l))) w := fun ρ w a len cap l hh m hv hb => by
    simp only [execOp, ho, hv, Instr.sliceAt, Sem.run_bind, run_underlying hu, Result.andThen_ok, Instr.slice, hb, szOf_spec hy hs, Sem.run_pure]
  rcases V.onSl_some e0 with ⟨b, off, len, cap, fx, hv, e0⟩ | ⟨_, e0⟩
  · obtain ⟨v, e0, hrun⟩ := slcE_some (P := P) (σ := σ) e0
    refine ⟨_, h, e0, OSim.same fun ι w ρ hr hρ => ?_⟩
    have hX := hρ x x' hx
    rw [hv] at hX
    obtain ⟨L, c, A, hL, hw, hc1, hc2, hc3, hA⟩ := hX
    obtain ⟨l, hh, m, g1, g2⟩ := hrun ι L c _ _ _ true w A hL hc1 hc2 hc3 hA (evo_sim hρ h1) (evo_sim hρ h2) (evo_sim hρ h3)
    refine ⟨_, arm ρ w _ len c l hh m hw g1, ?_⟩
    have : (if m = l then some (⟨L.blk, A, none⟩ : Addr) else (some (⟨L.blk, A, none⟩ : Addr)).map (·.add (l * esz))) = some (if m = l then ⟨L.blk, A, none⟩ else (⟨L.blk, A, none⟩ : Addr).add (l * esz)) := by split <;> rfl
    rw [this]; exact g2
  · obtain ⟨hn, e0⟩ := ifK_some.1 e0
    rw [V.isNils_iff] at hn
    obtain ⟨l, hh, m, e0, _, hm, hh1, hh2, hlh, hrun⟩ := bounds_some (σ := σ) (P := P) (k := fun _ _ _ => k .nils h) e0
    refine ⟨_, h, e0, OSim.same fun ι w ρ hr hρ => ?_⟩
    have hX := hρ x x' hx
    rw [hn, VR.nils] at hX
    have g1 := hrun ι _ _ _ true 0 w (Nat.le_refl _) (fun _ => rfl) (evo_sim hρ h1) (evo_sim hρ h2) (evo_sim hρ h3)
    refine ⟨_, arm ρ w none 0 0 l hh m hX g1, ?_⟩
    have hm0 : m = 0 := by omega
    have hh0 : hh = 0 := by
      by_cases hz : evo hi' t = none
      · exact hh1 hz
      · have := hh2 hz; omega
    subst hm0; subst hh0
    have : l = 0 := by omega
    subst this
    exact VR.nils.2 rfl

theorem s_slca (hy : Hyp P cx) {o : Oper} {ty e : TypeId} {x : Operand} {lo hi mx : Option Operand} {x' : Opd} {lo' hi' mx' : Option Opd} {n esz : Nat} (ho : o.op = .slice ty x lo hi mx) (hx : ofOpd x = some x') (h1 : ofOpt lo = some lo') (h2 : ofOpt hi = some hi') (h3 : ofOpt mx = some mx')
    (hu : und cx ty = some (.array n e)) (hs : szOf cx e = some esz) : Sound cx σ P o (x_slca n esz x' lo' hi' mx') := by
  intro t h k r e0
  have hu := und_spec hy hu
  obtain ⟨b, off, hv, e0⟩ := V.onPtr_some e0
  obtain ⟨v, e0, hrun⟩ := slcE_some (P := P) (σ := σ) e0
  refine ⟨_, h, e0, OSim.same fun ι w ρ hr hρ => ?_⟩
  have hX := hρ x x' hx
  rw [hv] at hX
  obtain ⟨L, hL, hw⟩ := hX
  obtain ⟨l, hh, m, g1, g2⟩ := hrun ι L n _ _ _ false w _ hL (Nat.le_refl _) (fun _ => rfl) (fun _ h => by cases h) (.inl rfl) (evo_sim hρ h1) (evo_sim hρ h2) (evo_sim hρ h3)
  refine ⟨_, ?_, g2⟩
  simp only [execOp, ho, hw, Instr.sliceAt, Instr.sureAddr, Sem.run_bind, run_underlying hu, Result.andThen_ok, g1, szOf_spec hy hs, Sem.run_pure]
  rfl

/-! ### the cells of a slice -/
theorem run_firstCells_some {w : World} {b : Nat} {c : Array Value} {ty : TypeId} {fz : Nat × Nat} (hb : w.heap[b]? = some (.cells c ty fz)) {off m : Nat} (hle : off + m ≤ c.size) :
    (loadCells ⟨b, off, none⟩ m).run P w = .ok ((c.toList.drop off).take m).toArray w := by
  have h := run_loadCells_list (P := P) w (⟨b, off, none⟩ : Addr) ((c.toList.drop off).take m) (fun j v hj => by
    rw [addr_add, cell_of w hb]
    have hj' : j < m := by have := (List.getElem?_eq_some_iff.1 hj).1; simp at this; omega
    simpa [List.getElem?_take, hj', List.getElem?_drop] using hj)
  have hl : ((c.toList.drop off).take m).length = m := by simp; omega
  rw [hl] at h; exact h

/-- cells that are loaded, in both -/
theorem ldn_sim {h : H} {b : Pos} {i n : Nat} {k : List V → R} {r : V × H} (e : h.ldn b i n k = some r) :
    ∃ vs, vs.length = n ∧ k vs = some r ∧ (∀ o, h.get b = some o → n ≠ 0 → o.isC = true ∧ i + n ≤ o.size ∧ ∀ j, j < n → o.at (i + j) = vs[j]?) ∧ ∀ (ι : Inj) (w : World) (l : Loc), Rel cx σ ι h w → ι b = some l →
      (∀ v ∈ vs, v.one = true) ∧ ∃ ws : List Value, VRL σ ι vs ws ∧ (loadCells ⟨l.blk, l.off + i, none⟩ n).run P w = .ok ws.toArray w := by
  obtain ⟨ob, hb, e⟩ := H.getK_some e
  obtain ⟨vs, hl, hn, hat, e⟩ := getcs_some e
  refine ⟨vs, hl, e, fun o ho hz => (by rw [hb] at ho; cases ho; exact ⟨(hn hz).1, (hn hz).2, hat⟩), fun ι w l hr hlo => ?_⟩
  by_cases hz : n = 0
  · have : vs = [] := List.eq_nil_of_length_eq_zero (by omega)
    subst this; subst hz
    exact ⟨by simp, [], rfl, rfl⟩
  · obtain ⟨c, tyy, fz, h2, h3, h4, h5, h6⟩ := (orel_cells cx σ (hn hz).1).1 (hr.obj b l ob hlo hb)
    have hle := (hn hz).2
    refine ⟨fun v hv => ?_, (c.toList.drop (l.off + i)).take n, VRL.of_get ?_ fun j v hj => ?_, run_firstCells_some h2 (by omega)⟩
    · obtain ⟨j, hj, hjv⟩ := List.getElem_of_mem hv
      exact (h6 (i + j) v (by rw [hat j (by omega), List.getElem?_eq_getElem hj, hjv])).choose_spec.2.2
    · simp; omega
    · have hj' : j < n := by rw [← hl]; exact (List.getElem?_eq_some_iff.1 hj).1
      obtain ⟨xv, hx1, hx2, _⟩ := h6 (i + j) v (by rw [hat j hj', hj])
      refine ⟨xv, ?_, hx2⟩
      simp [hj', List.getElem?_drop, ← Nat.add_assoc] at hx1 ⊢; exact hx1

theorem elems_sim {h : H} {esz n : Nat} {s : V} {k : List V → R} {r : V × H} (e : h.elems esz s n k = some r) :
    ∃ vs, vs.length = n * esz ∧ k vs = some r ∧ ∀ (ι : Inj) (w : World) (x : Value), Rel cx σ ι h w → VR σ ι s x → (∀ v ∈ vs, v.one = true) ∧ ∃ ws : List Value, VRL σ ι vs ws ∧ (Builtin.firstCells esz n x).run P w = .ok ws.toArray w := by
  rcases V.onSl_some e with ⟨b, off, len, cap, fx, hv, e⟩ | ⟨_, e⟩
  · obtain ⟨hnl, e⟩ := ifK_some.1 e
    rw [Nat.ble_eq] at hnl
    obtain ⟨vs, h1, e, _, h2⟩ := ldn_sim (P := P) (cx := cx) (σ := σ) e
    refine ⟨vs, h1, e, fun ι w x hr hx => ?_⟩
    rw [hv] at hx
    obtain ⟨l, c, A, hl, rfl, _, _, _, hA⟩ := hx
    obtain ⟨g1, ws, g2, g3⟩ := h2 ι w l hr hl
    rcases hA with rfl | ⟨_, hz, _⟩
    · exact ⟨g1, ws, g2, g3⟩
    · have hn0 : n = 0 := by omega
      have hvs : vs = [] := List.eq_nil_of_length_eq_zero (by rw [h1, hn0]; show 0 * esz = 0; omega)
      subst hvs
      refine ⟨g1, [], rfl, ?_⟩
      rw [hn0]
      simp [Builtin.firstCells, loadCells, loadCellsFrom]
  · obtain ⟨hn, e⟩ := ifK_some.1 e
    obtain ⟨hz, e⟩ := ifK_some.1 e
    rw [V.isNils_iff] at hn
    have hz := Nat.eq_of_beq_eq_true hz
    refine ⟨[], by rw [hz]; simp, e, fun ι w x hr hx => ⟨by simp, [], rfl, ?_⟩⟩
    rw [hn, VR.nils] at hx
    subst hx
    simp [Builtin.firstCells]

/-! ### append -/
theorem growBy_le (nl : Nat) : ∀ (r c : Nat), Builtin.growBy nl r c ≤ 2 ^ r * c + (2 ^ r - 1) * 768
  | 0, c => by simp [Builtin.growBy]
  | r + 1, c => by
    unfold Builtin.growBy
    have hp : 1 ≤ 2 ^ r := Nat.one_le_two_pow
    split
    · have : c ≤ 2 ^ (r + 1) * c := Nat.le_mul_of_pos_left c (by omega)
      omega
    · refine Nat.le_trans (growBy_le nl r _) ?_
      have h1 : c + (c + 768) / 4 ≤ 2 * c + 768 := by omega
      have h2 := Nat.mul_le_mul_left (2 ^ r) h1
      have h3 : 2 ^ r * (2 * c + 768) = 2 ^ (r + 1) * c + 2 ^ r * 768 := by rw [Nat.pow_succ, Nat.mul_add]; congr 1; rw [← Nat.mul_assoc]
      have h4 : (2 ^ (r + 1) - 1) * 768 = 2 ^ r * 768 + (2 ^ r - 1) * 768 := by rw [Nat.pow_succ, ← Nat.add_mul]; congr 1; omega
      omega
theorem nextcap_le {need c : Nat} (h : c < need) (h2 : need ≤ 1073741824) : Builtin.nextslicecap need c ≤ 17179881204 := by
  unfold Builtin.nextslicecap
  split
  · omega
  · split
    · omega
    · have := growBy_le need 4 c
      omega

/-- the old block's cells go on as the new block's -/
theorem Rel.move {ι : Inj} {h : H} {w w' : World} (hr : Rel cx σ ι h w) {b : Pos} {l l' : Loc} {o o' : O} (hb : ι b = some l) (ho : h.get b = some o) (hd : o ≠ .dead) (hblk : l'.blk = l.blk)
    (hsz : w'.heap.size = w.heap.size) (hoth : ∀ B, B ≠ l.blk → w'.heap[B]? = w.heap[B]?) (hn : ORel cx σ (ι.add h.nx l') w' l' o') (hos : w'.os = w.os) (hout : w'.output = w.output) (htape : w'.tape = w.tape) :
    Rel cx σ (ι.add h.nx l') ((h.put b .dead).push o') w' ∧ Ext ι (ι.add h.nx l') h ((h.put b .dead).push o') w w' := by
  classical
  have hle : Le ι (ι.add h.nx l') := Inj.add_le hr.none_nx
  have hbn : b ≠ h.nx := fun e => by rw [e, hr.none_nx] at hb; cases hb
  have hnx : ((h.put b .dead).push o').get h.nx = some o' := by have := H.get_push_same (h.put b .dead) o'; rwa [H.nx_put] at this
  have hge : ∀ x, x ≠ h.nx → ((h.put b .dead).push o').get x = if x = b then some .dead else h.get x := fun x hx => by
    rw [H.get_push_ne _ _ _ (by rw [H.nx_put]; exact hx)]
    split
    · rename_i e; rw [e, H.get_put_same]
    · rename_i e; exact H.get_put_ne _ _ _ _ e
  refine ⟨⟨fun x lx hx => ?_, fun x y lx ly hx hy e hdx hdy => ?_, fun x lx ox hx hox => ?_⟩, ?_⟩
  · rw [H.nx_push, H.nx_put, Pos.toNat_succ, hsz]
    by_cases ex : x = h.nx
    · rw [ex, Inj.add_same] at hx; cases hx; rw [ex, hblk]; exact ⟨by omega, (hr.bound b l hb).2⟩
    · rw [Inj.add_ne _ _ _ _ ex] at hx; have := hr.bound x lx hx; omega
  · have key : ∀ z lz, z ≠ h.nx → ι.add h.nx l' z = some lz → ((h.put b .dead).push o').get z ≠ some .dead → ι z = some lz ∧ z ≠ b ∧ h.get z ≠ some .dead := fun z lz hz hzl hzd => by
      rw [Inj.add_ne _ _ _ _ hz] at hzl
      rw [hge z hz] at hzd
      by_cases ezb : z = b
      · rw [if_pos ezb] at hzd; exact absurd rfl hzd
      · rw [if_neg ezb] at hzd; exact ⟨hzl, ezb, hzd⟩
    have hba : h.get b ≠ some .dead := by rw [ho]; exact fun e => hd (Option.some.inj e)
    by_cases ex : x = h.nx
    · by_cases ey : y = h.nx
      · rw [ex, ey]
      · obtain ⟨h1, h2, h3⟩ := key y ly ey hy hdy
        rw [ex, Inj.add_same] at hx; cases hx
        exact absurd (hr.inj y b ly l h1 hb (by rw [← e, hblk]) h3 hba) h2
    · obtain ⟨h1, h2, h3⟩ := key x lx ex hx hdx
      by_cases ey : y = h.nx
      · rw [ey, Inj.add_same] at hy; cases hy
        exact absurd (hr.inj x b lx l h1 hb (by rw [e, hblk]) h3 hba) h2
      · obtain ⟨g1, g2, g3⟩ := key y ly ey hy hdy
        exact hr.inj x y lx ly h1 g1 e h3 g3
  · by_cases ex : x = h.nx
    · rw [ex, Inj.add_same] at hx; cases hx; rw [ex, hnx] at hox; cases hox; exact hn
    · rw [Inj.add_ne _ _ _ _ ex] at hx
      rw [hge x ex] at hox
      by_cases exb : x = b
      · rw [if_pos exb] at hox; cases hox; trivial
      · rw [if_neg exb] at hox
        by_cases hde : ox = .dead
        · subst hde; trivial
        · refine ((hr.obj x lx ox hx hox).other fun y hy => ?_).mono hle
          rw [hoth]
          · exact hy
          · intro eb
            exact exb (hr.inj x b lx l hx hb eb (by rw [hox]; exact fun e => hde (Option.some.inj e)) (by rw [ho]; exact fun e => hd (Option.some.inj e)))
  · refine ⟨hle, fun x lx e n => ?_, fun x hlt n => ?_, ?_, fun B q e hn' => (hoth B (fun e' => hn' b l hb e'.symm)).trans e, by omega, fun x lx e n => ?_, hos, hout, htape⟩
    · by_cases ex : x = h.nx
      · rw [ex]; exact Nat.le_refl _
      · rw [Inj.add_ne _ _ _ _ ex] at e; exact no_some e n
    · have ex : x ≠ h.nx := fun e => by rw [e] at hlt; omega
      have exb : x ≠ b := fun e => by rw [e] at n; exact no_some hb n
      rw [hge x ex, if_neg exb]
    · rw [H.nx_push, H.nx_put, Pos.toNat_succ]; omega
    · by_cases ex : x = h.nx
      · rw [ex, Inj.add_same] at e; cases e; exact .inr ⟨b, l, hb, hblk.symm⟩
      · rw [Inj.add_ne _ _ _ _ ex] at e; exact no_some e n
end
end Go.Ab
