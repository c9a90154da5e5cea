/- 'basinlaw26.HistoryChecks', where what it reads is of bulk at most 1048576: it returns true, and its argument reads behind the call as it read before. The second form's card: the listed variables are tied to the program's text. Conditions: those of the statement. -/
import Derived.Test.YtkjlkjnlhogkiaaDoorQHiJ
import Derived.Test.YtkjlkjnlhogkiaaDoorCards
import Derived.Test.YtkjlkjnlhogkiaaDoorTie
import Derived.WalkKit
import Derived.ProofKit
import Derived.OpenShut
import Derived.ChangeSlices
import Derived.Deep.DeepHandedRow
import Derived.Lib.LaidTab
set_option linter.unusedSimpArgs false
set_option linter.unusedVariables false
namespace Go.Proofs.YtkjlkjnlhogkiaaDoor.historyChecks
open Go.ChangeShapes Go.WideShapes Go.ChangeAt Go.RowKit Go.Ab Go.Hist Go.Proofs.YtkjlkjnlhogkiaaDoor.hist
theorem own : ownKnob Tryd.prog.godebug = none := by kernel_rfl
theorem one_le {H : Type} (d : DataW H) : 1 ≤ Rows.uptoBulk d := by
  cases d with
  | lit l => cases l <;> simp [Rows.uptoBulk]
  | nil => simp [Rows.uptoBulk]
  | ptr d => simp [Rows.uptoBulk]
  | slice elems spare => simp [Rows.uptoBulk]
  | agg parts => simp [Rows.uptoBulk]
  | iface t d => simp [Rows.uptoBulk]
  | map entries => simp [Rows.uptoBulk]
  | held h => simp [Rows.uptoBulk]
theorem length_le {H : Type} (l : List (DataW H)) : l.length ≤ Rows.uptoBulkAll l := by
  induction l with
  | nil => simp [Rows.uptoBulkAll]
  | cons x r ih => have := one_le x; simp only [Rows.uptoBulkAll, List.length_cons]; omega
theorem short {H : Type} {elems spare : List (DataW H)} (hk : Rows.uptoSmall H [.slice elems spare] = true) : elems.length ≤ 1048576 := by
  have h : Rows.uptoBulkAll [DataW.slice (H := H) elems spare] ≤ 1048576 := of_decide_eq_true hk
  simp only [Rows.uptoBulkAll, Rows.uptoBulk] at h
  have := length_le elems
  omega
set_option maxRecDepth 100000 in
theorem contract (H : Type) (enc : TypeId × Value → H) (W : World) (base : Nat) (args : Array Value) (ds gs : List (DataW H)) (before : List MemPlace)
    (hval : ∀ (j : Nat) t v, Tryd.f3.params[j]? = some t → args[j]? = some v → Value.okWide Tryd.prog W .any base t v)
    (hW : DataW.Whole enc Tryd.prog Tryd.f3.params.toList Rows.historyChecksSpec.vars false W args.toList ds gs before) (hk : Rows.uptoSmall H (ds ++ gs) = true) :
    Calls Tryd.prog 3 args W fun e W' => ∃ v, e = .returned v ∧ Rows.historyChecksSpec.post enc Tryd.prog Tryd.f3 false true false false W args v W' := by
  have hW' := hW
  obtain ⟨p, q, hA0, hV, rfl, hfz, hnd⟩ := hW
  have hA : DataW.TrodAll enc Tryd.prog W 0 (fun _ => true) true Tryd.f3.params.toList args.toList ds p := hA0
  rw [Tryd.params3] at hA hval
  obtain ⟨v0, vs0, d0, ds0, p0, q0, hargs, rfl, rfl, h0, r0⟩ := trodAll_cons hA
  obtain ⟨rfl, rfl, rfl⟩ := trodAll_nil r0
  obtain rfl : args = #[v0] := by cases args; simp_all
  obtain ⟨rfl, rfl⟩ := trodVars_none hV
  obtain ⟨a, len, cap, rfl⟩ := okWide_slice Tryd.underlying22 (hval 0 22 v0 rfl rfl)
  have hok := hval 0 22 _ rfl rfl
  obtain ⟨fuel, h1⟩ := h0
  clear hA0
  have fin : (Calls Tryd.prog 3 #[.slice a len cap] W fun e W' => e = .returned (.bool true) ∧ Kept W W') → (∀ a' l c, [Value.slice a len cap] = [.slice (some a') l c] → a'.block < W.heap.size) →
      Calls Tryd.prog 3 #[.slice a len cap] W fun e W' => ∃ v, e = .returned v ∧ Rows.historyChecksSpec.post enc Tryd.prog Tryd.f3 false true false false W #[.slice a len cap] v W' := fun hc hlt => by
    refine hc.mono fun e W' ⟨he, hg⟩ => ?_
    subst he
    exact ⟨_, rfl, _, _, _, [], _, [], hW', trodAll_cons_mk (shut_bool Tryd.underlying4 _) trodAll_mk0, (trodAll_cons_mk ⟨fuel, keep_slice Tryd.underlying22 k40 hg.2.2.2 h1 fun a' l c e => by simpa using hlt a' l c e⟩ trodAll_mk0), rfl, kept_but hg _, fun h => (by cases h)⟩
  rcases DataW.trod_slice Tryd.underlying22 h1 with ⟨e1, e2⟩ | ⟨ad, len', cap', elems, rest, n, hfu, e1, e2, hb, hl, hm, hlen, hel, hsp, _⟩
  · simp only [Value.cells, List.cons.injEq, Value.slice.injEq, and_true] at e1
    obtain ⟨rfl, rfl, rfl⟩ := e1
    exact fin run_nil fun a' l c e => by simp at e
  · simp only [Value.cells, List.cons.injEq, Value.slice.injEq, and_true] at e1
    obtain ⟨rfl, rfl, rfl⟩ := e1
    cases e2
    obtain ⟨_, hhas⟩ := ok_slice Tryd.underlying22 hok
    obtain ⟨ha, c, ty, fz, hblk⟩ := heap_of_has hhas
    obtain ⟨b, off, sp⟩ := ad
    simp only [Addr.mk.injEq, true_and] at ha
    subst ha
    have hlt : b < W.heap.size := lt_of_some hblk
    obtain ⟨hrl, hr⟩ := hsp rfl
    rw [cells40] at hel hr
    have each : ∀ i, i < cap → ∃ x : Ev, W.cells? 0 ((⟨b, off, none⟩ : Addr).add (i * 12)) 12 = some (valE x) := fun i hi => by
      have hy : ∃ y, (W.cells? 0 ((⟨b, off, none⟩ : Addr).add (i * 12)) 12).bind (DataW.trod enc Tryd.prog W 0 (fun _ => true) true n 40) = some y := by
        by_cases hil : i < len
        · rw [hel i hil]; exact ⟨_, List.getElem?_eq_getElem (by omega)⟩
        · have := hr (i - len) (by omega)
          rw [show len + (i - len) = i by omega] at this
          rw [this]; exact ⟨_, List.getElem?_eq_getElem (by omega)⟩
      obtain ⟨y, hy⟩ := hy
      obtain ⟨cs, hc, hy⟩ := Option.bind_eq_some_iff.1 hy
      obtain ⟨x, rfl⟩ := ev_of (trod_plain n 9 40 _ cs y W 0 (fun _ => true) true k40 hy).2
      exact ⟨x, hc⟩
    obtain ⟨zs, hz, hrow⟩ := rows_of cap each
    refine fin (run_slice hl hz ⟨c, ty, fz, hblk⟩ (fun i x hx j y hj => ?_) (fun i hi => ?_) ?_) fun a' l c e => by
      simp at e
      rw [← e.1]; exact hlt
    · have hj12 : j < 12 := (List.getElem?_eq_some_iff.1 hj).1
      have := (World.cells?_some (hrow i x hx)).2.2 j hj12
      rw [hj] at this
      rw [← this]
      simp only [add_plain]
      congr 2
      omega
    · refine hfz b (off + i) ?_
      simp only [List.append_nil]
      refine List.mem_append_left _ ?_
      rw [hlen, hrl, cells40]
      simp only [MemPlace.row, List.mem_map, List.mem_range]
      exact ⟨i, by rw [show len + (cap - len) = cap by omega]; exact hi, rfl⟩
    · have := short (by simpa using hk)
      simpa [hlen] using this
end Go.Proofs.YtkjlkjnlhogkiaaDoor.historyChecks
