/- 'basinlaw28.QuietFairs' returns true at every argument, and each argument reads behind the call as it read before. No condition. -/
import Derived.Test.YtjgflopikppagaaGreatQFi
import Derived.Test.YtjgflopikppagaaGreatRows
import Derived.WalkKit
import Derived.ProofKit
import Derived.OpenShut
import Derived.SizedLaws
import Derived.ChangeSlices
set_option linter.unusedSimpArgs false
set_option linter.unusedVariables false
namespace Go.Proofs.YtjgflopikppagaaGreat.quietFairs
open Go.ChangeShapes Go.WideShapes Go.ChangeAt Go.RowKit Go.Ab Go.Fair Go.Proofs.YtjgflopikppagaaGreat.fair

theorem own : ownKnob Tryz.prog.godebug = none := by kernel_rfl
theorem k0 : kindsT Tryz.prog 9 23 = some [some .i64, some .i64, some .i64, some .i64, some .i64, none] := by kernel_rfl
theorem cells3 : Tryz.prog.cellsOf 3 = 1 := by kernel_rfl
theorem bytes3 : Tryz.prog.bytesOf 3 = 8 := by kernel_rfl
theorem kept_but {w w' : World} (h : Kept w w') (may : MemPlace → Prop) : w.keptBut w' may := kept_of h.1 h.2.1 h.2.2.2 may
theorem heap_of_has {P : Program} {w : World} {r : Reach} {base : Nat} {a : Addr} {e : TypeId} {n : Nat} (h : w.has P r base a e n) : a = ⟨a.block, a.off, none⟩ ∧ ∃ c ty fz, w.heap[a.block]? = some (.cells c ty fz) := by
  obtain ⟨_, h2, row, cells, h3, _⟩ := h
  refine ⟨by cases a; simp_all, ?_⟩
  unfold World.shape? at h3
  split at h3
  · rename_i c elem fz e; exact ⟨c, elem, fz, e⟩
  · cases h3
theorem ok_slice {P : Program} {w : World} {r : Reach} {base : Nat} {t e : TypeId} {a : Addr} {len cap : Nat} (ht : P.underlying t = some (.slice e)) (h : Value.okWide P w r base t (.slice (some a) len cap)) : len ≤ cap ∧ w.has P r base a e cap := by
  simp only [Value.okWide, ht, Cell.okWide, Cell.ok] at h
  exact ⟨h.1, h.2.2⟩
theorem shut_nil {H : Type} {enc : TypeId × Value → H} {P : Program} {w : World} {base : Nat} {sp : Nat → Bool} {held : Bool} {t e : TypeId} (ht : P.underlying t = some (.slice e)) : DataW.Trod enc P w base sp held t (.slice none 0 0) .nil [] :=
  ⟨1, by simp [DataW.trod, Value.cells, ht]⟩
theorem bounds64 {n : Int} (h : (Lit.int .i64 n).wf = true) : -9223372036854775808 ≤ n ∧ n < 9223372036854775808 := by
  have := bounds_i64 h
  omega

set_option maxRecDepth 100000 in
theorem lifted (os : Os) (started : os.Started) (H : Type) (enc : TypeId × Value → H) :
    ReturnsInHanded {} Tryz.checked os 3 .any (Rows.quietFairsSpec.pre6 enc Tryz.prog Tryz.f3 Rows.quietFairsRow.domain false) (Rows.quietFairsSpec.post enc Tryz.prog Tryz.f3 false true false false) := by
  refine returnsInHanded_of_change_sized (C := Tryz.checked) own started (by kernel_rfl) Tryz.func3
    (ChangeSpec.witness6 (enc := enc) (C := Tryz.checked) false ⟨#[], #[.agg #[.int .i64 0, .int .i64 0, .int .i64 0, .int .i64 0, .int .i64 0, .bool false], .slice none 0 0, .int .i64 0], []⟩ 8 (by kernel_rfl) (by kernel_rfl) (by kernel_rfl) (by kernel_rfl)) ?_
  intro W base args ds gs before hval0 hW hcnd hbig _
  have hval : ∀ (j : Nat) t v, Tryz.f3.params[j]? = some t → args[j]? = some v → Value.okWide Tryz.prog W .any base t v := hval0
  have hW' := hW
  obtain ⟨p, q, hA0, hV, rfl, hfz, hnd⟩ := hW
  have hA : DataW.TrodAll enc Tryz.prog W 0 (fun _ => true) true Tryz.f3.params.toList args.toList ds p := hA0
  rw [Tryz.params3] at hA hval
  obtain ⟨v0, vs0, d0, ds0, p0, q0, hargs, rfl, rfl, h0, r0⟩ := trodAll_cons hA
  obtain ⟨v1, vs1, d1, ds1, p1, q1, rfl, rfl, rfl, h1, r1⟩ := trodAll_cons r0
  obtain ⟨v2, vs2, d2, ds2, p2, q2, rfl, rfl, rfl, h2, r2⟩ := trodAll_cons r1
  obtain ⟨rfl, rfl, rfl⟩ := trodAll_nil r2
  obtain rfl : args = #[v0, v1, v2] := by cases args; simp_all
  obtain ⟨rfl, rfl⟩ := trodVars_none hV
  obtain ⟨cs0, rfl, hsz0⟩ := okWide_struct Tryz.underlying23 (hval 0 23 v0 rfl rfl)
  obtain ⟨rfl, c0, s0⟩ := arg_plain k0 h0
  obtain ⟨a2, rfl, rfl, rfl, w2⟩ := open_int Tryz.underlying3 (hval 2 3 v2 rfl rfl) h2
  obtain ⟨a, len, cap, rfl⟩ := okWide_slice Tryz.underlying24 (hval 1 24 v1 rfl rfl)
  have hok := hval 1 24 _ rfl rfl
  obtain ⟨fuel, h1⟩ := h1
  clear hA0 hval0
  have hw := bounds64 w2
  have c0' : Cl [some .i64, some .i64, some .i64, some .i64, some .i64, none] cs0.toList := c0
  rcases open_ints Tryz.underlying24 Tryz.underlying3 cells3 h1 with ⟨e1, e2⟩ | ⟨ad, len', cap', zs, e1, hb, hl, hm, hz, e2, hcell, hwf⟩
  · simp only [Value.cells, List.cons.injEq, Value.slice.injEq, and_true] at e1
    obtain ⟨rfl, rfl, rfl⟩ := e1
    cases e2
    refine (run_nil (cs := cs0) (W := W) hw.2 hw.1 c0').mono fun e W' ⟨he, hg⟩ => ?_
    subst he
    exact ⟨_, rfl, _, _, _, [], [], [], hW', trodAll_cons_mk (shut_bool Tryz.underlying4 _) trodAll_mk0, (trodAll_cons_mk (s0 _ _ _ _) (trodAll_cons_mk (shut_nil Tryz.underlying24) (trodAll_cons_mk (shut_int Tryz.underlying3 w2) trodAll_mk0))), rfl, kept_but hg _, fun h => (by cases h)⟩
  · simp only [Value.cells, List.cons.injEq, Value.slice.injEq, and_true] at e1
    obtain ⟨rfl, rfl, rfl⟩ := e1
    cases e2
    obtain ⟨_, hhas⟩ := ok_slice Tryz.underlying24 hok
    obtain ⟨ha, c, ty, fz, hblk⟩ := heap_of_has hhas
    obtain ⟨b, off, sp⟩ := ad
    simp only [Addr.mk.injEq, true_and] at ha
    subst ha
    have hz : zs.length = cap := hz
    have hcell' : ∀ i, i < zs.length → W.cell? ⟨b, off + i, none⟩ = some (.int .i64 (zs.getD i 0)) := fun i hi => by have := hcell i hi; rwa [add_plain] at this
    have hlt : b < W.heap.size := lt_of_some hblk
    have hbytes : cap * 9 ≤ 281474976710656 := by
      have h := sized_slice hbig (j := 1) (t := 24) (by rw [Tryz.params3]; rfl) rfl Tryz.underlying24
      change (_ + _) * Tryz.prog.bytesOf 3 ≤ _ at h
      rw [bytes3] at h
      simp [lits] at h
      have := reachBytes_lt
      omega
    refine (run_slice (cs := cs0) (W := W) hw.2 hw.1 c0' hl hz ⟨c, ty, fz, hblk⟩ hcell' (fun i hi => ?_) hbytes).mono fun e W' ⟨he, hg⟩ => ?_
    · have := hfz b (off + i) (by simp [MemPlace.row]; exact hi)
      exact this
    · subst he
      have hblk' := hg.2.2.2 _ _ hblk
      refine ⟨_, rfl, _, _, _, [], _, [], hW', trodAll_cons_mk (shut_bool Tryz.underlying4 _) trodAll_mk0, (trodAll_cons_mk (s0 _ _ _ _) (trodAll_cons_mk ⟨2, shut_ints' 0 Tryz.underlying24 Tryz.underlying3 cells3 (Nat.zero_le _) hl hm ?_ ?_ hwf⟩ (trodAll_cons_mk (shut_int Tryz.underlying3 w2) trodAll_mk0))), rfl, kept_but hg _, fun h => (by cases h)⟩
      · simp [hlt, hz]
      · intro i hi
        have h := hcell' i hi
        rw [cell_of W hblk] at h
        rw [cell_of W' hblk']
        exact h
end Go.Proofs.YtjgflopikppagaaGreat.quietFairs
