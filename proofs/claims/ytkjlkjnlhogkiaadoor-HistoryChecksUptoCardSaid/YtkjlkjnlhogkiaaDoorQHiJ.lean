/- 'basinlaw26.HistoryChecks': how its argument is read. No condition. -/
import Derived.Test.YtkjlkjnlhogkiaaDoorQHiI
import Derived.WalkKit
import Derived.ProofKit
import Derived.OpenShut
import Derived.ChangeSlices
set_option linter.unusedSimpArgs false
set_option linter.unusedVariables false
namespace Go.Proofs.YtkjlkjnlhogkiaaDoor.hist
open Go.Ab Go.Hist Go.ChangeShapes Go.WideShapes Go.ChangeAt Go.RowKit
theorem cell_kept {w w' : World} (hk : ∀ (B : Nat) (o : Obj), w.heap[B]? = some o → w'.heap[B]? = some o) {a : Addr} {v : Value} (h : w.cell? a = some v) : w'.cell? a = some v := by
  unfold World.cell? at h ⊢
  cases hb : w.heap[a.block]? with
  | none => rw [hb] at h; cases h
  | some o => rw [hk _ _ hb]; rw [hb] at h; exact h
theorem cells_kept {w w' : World} (hk : ∀ (B : Nat) (o : Obj), w.heap[B]? = some o → w'.heap[B]? = some o) {base : Nat} {a : Addr} {n : Nat} {cs : List Value} (h : w.cells? base a n = some cs) : w'.cells? base a n = some cs := by
  unfold World.cells? at h ⊢
  split at h
  · rename_i hb
    rw [if_pos hb]
    exact mapM_carry h fun x y _ _ e => cell_kept hk e
  · cases h
section
variable {H : Type} {enc : TypeId × Value → H} {P : Program}
/-- a slice of plain elements reads behind as it read before, where all lies as it lay -/
theorem keep_slice {t e : TypeId} (ht : P.underlying t = some (.slice e)) {d : Nat} {ks : List (Option IntKind)} (hks : kindsT P d e = some ks) {w w' : World} (hk : ∀ (B : Nat) (o : Obj), w.heap[B]? = some o → w'.heap[B]? = some o) {sp' : Nat → Bool} {held held' : Bool} {fuel : Nat} {cs : List Value} {x : DataW H × List MemPlace}
    (h : DataW.trod enc P w 0 (fun _ => true) held fuel t cs = some x) (hsp : ∀ a len cap, cs = [.slice (some a) len cap] → sp' a.block = true) : DataW.trod enc P w' 0 sp' held' fuel t cs = some x := by
  cases fuel with
  | zero => cases h
  | succ n =>
    have h0 := h
    rcases DataW.trod_slice ht h with ⟨rfl, rfl⟩ | ⟨a, len, cap, elems, rest, m, hm, rfl, _⟩
    · simp [DataW.trod, ht]
    · have hs := hsp a len cap rfl
      rw [DataW.trod_step] at h ⊢
      unfold DataW.trodStep at h ⊢
      simp only [ht] at h ⊢
      have el : ∀ (i : Nat) (y : DataW H × List MemPlace), (w.cells? 0 (a.add (i * P.cellsOf e)) (P.cellsOf e)).bind (DataW.trod enc P w 0 (fun _ => true) held n e) = some y → (w'.cells? 0 (a.add (i * P.cellsOf e)) (P.cellsOf e)).bind (DataW.trod enc P w' 0 sp' held' n e) = some y := fun i y hy => by
        obtain ⟨c, hc, hy⟩ := Option.bind_eq_some_iff.1 hy
        rw [cells_kept hk hc]
        exact (trod_plain n d e ks c y w 0 (fun _ => true) held hks hy).1.2 w' 0 sp' held'
      split at h
      · rename_i hc
        rw [if_pos hc]
        obtain ⟨es, h1, h2⟩ := Option.bind_eq_some_iff.1 h
        rw [mapM_carry h1 fun x y _ _ e => el x y e]
        simp only [if_true] at h2
        obtain ⟨rs, h3, h4⟩ := Option.map_eq_some_iff.1 h2
        simp only [Option.bind_some, hs, if_true]
        rw [mapM_carry h3 fun x y _ _ e => el _ y e]
        simpa using h4
      · cases h
end
/-- an element's cells are an event's -/
theorem ev_of {cs : List Value} (h : Cl [none, some .i64, some .i64, some .i64, some .i64, some .i64, some .i64, some .i64, some .i64, some .i64, some .i64, some .i64] cs) : ∃ x : Ev, cs = valE x := by
  obtain ⟨c0, t0, rfl, ⟨b, rfl⟩, c1, t1, rfl, ⟨n1, rfl, _⟩, c2, t2, rfl, ⟨n2, rfl, _⟩, c3, t3, rfl, ⟨n3, rfl, _⟩, c4, t4, rfl, ⟨n4, rfl, _⟩, c5, t5, rfl, ⟨n5, rfl, _⟩, c6, t6, rfl, ⟨n6, rfl, _⟩, c7, t7, rfl, ⟨n7, rfl, _⟩, c8, t8, rfl, ⟨n8, rfl, _⟩, c9, t9, rfl, ⟨n9, rfl, _⟩, c10, t10, rfl, ⟨n10, rfl, _⟩, c11, t11, rfl, ⟨n11, rfl, _⟩, h⟩ := h
  obtain rfl : t11 = [] := h
  exact ⟨⟨b, n1, ⟨n2, n3, n4, n5, n6, n7, n8, n9⟩, ⟨n10, n11⟩⟩, rfl⟩
theorem k40 : kindsT Tryd.prog 9 40 = some [none, some .i64, some .i64, some .i64, some .i64, some .i64, some .i64, some .i64, some .i64, some .i64, some .i64, some .i64] := by kernel_rfl
theorem cells40 : Tryd.prog.cellsOf 40 = 12 := by kernel_rfl
theorem heap_of_has {P : Program} {w : World} {r : Reach} {base : Nat} {a : Addr} {e : TypeId} {n : Nat} (h : w.has P r base a e n) : a = ⟨a.block, a.off, none⟩ ∧ ∃ c ty fz, w.heap[a.block]? = some (.cells c ty fz) := by
  obtain ⟨_, h2, row, cells, h3, _⟩ := h
  refine ⟨by cases a; simp_all, ?_⟩
  unfold World.shape? at h3
  split at h3
  · rename_i c elem fz e; exact ⟨c, elem, fz, e⟩
  · cases h3
theorem ok_slice {P : Program} {w : World} {r : Reach} {base : Nat} {t e : TypeId} {a : Addr} {len cap : Nat} (ht : P.underlying t = some (.slice e)) (h : Value.okWide P w r base t (.slice (some a) len cap)) : len ≤ cap ∧ w.has P r base a e cap := by
  simp only [Value.okWide, ht, Cell.okWide, Cell.ok] at h
  exact ⟨h.1, h.2.2⟩
theorem kept_but {w w' : World} (h : Kept w w') (may : MemPlace → Prop) : w.keptBut w' may := kept_of h.1 h.2.1 h.2.2.2 may
/-- a row of events, out of the cells that are read -/
theorem rows_of {W : World} {a : Addr} (cap : Nat) (h : ∀ i, i < cap → ∃ x : Ev, W.cells? 0 (a.add (i * 12)) 12 = some (valE x)) : ∃ zs : List Ev, zs.length = cap ∧ ∀ (i : Nat) (x : Ev), zs[i]? = some x → W.cells? 0 (a.add (i * 12)) 12 = some (valE x) := by
  induction cap with
  | zero => exact ⟨[], rfl, fun i x hx => by simp at hx⟩
  | succ n ih =>
    obtain ⟨zs, h1, h2⟩ := ih fun i hi => h i (by omega)
    obtain ⟨x, hx⟩ := h n (by omega)
    refine ⟨zs ++ [x], by simp [h1], fun i y hy => ?_⟩
    rcases Nat.lt_or_ge i zs.length with hi | hi
    · rw [List.getElem?_append_left hi] at hy; exact h2 i y hy
    · rw [List.getElem?_append_right hi] at hy
      cases hk : i - zs.length with
      | zero =>
        rw [hk] at hy
        obtain rfl : x = y := by simpa using hy
        obtain rfl : i = n := by omega
        exact hx
      | succ k => rw [hk] at hy; simp at hy
end Go.Proofs.YtkjlkjnlhogkiaaDoor.hist
