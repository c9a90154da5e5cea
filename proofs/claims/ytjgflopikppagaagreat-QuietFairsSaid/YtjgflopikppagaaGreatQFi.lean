/- The law 'basinlaw28.QuietFairs': its call, in the real memory. No condition. -/
import Derived.Test.YtjgflopikppagaaGreatQFh
import Derived.Test.YtjgflopikppagaaGreatLc
import Derived.KernelRfl
set_option linter.unusedSimpArgs false
set_option linter.unusedVariables false
namespace Go.Proofs.YtjgflopikppagaaGreat.fair
open Go.Ab Go.Fair
theorem follows : Tryz.prog.follows .mixedOrders = true := by kernel_rfl
theorem names : (Tryz.prog.funcs.toList.all fun fn => !(fn.name == "runtime.NumGoroutine")) = true := by kernel_rfl
theorem hyp : Hyp Tryz.prog CX := hyp_of rfl
theorem tabOk : TabOk Tryz.prog CX FT := tab_of rfl names
theorem awake (w : World) : Calls Tryz.prog 6 #[] w fun e w' => e = .returned (.bool true) ∧ Kept w w' :=
  law_true hyp follows noOrc_nat (fun _ => noOrc_ok) tabOk 100000 6 [] [] (by decide) .run (by kernel_rfl) #[] rfl w
theorem aw_name : (Tryz.f6.name == "runtime.NumGoroutine") = false := by kernel_rfl
theorem aw_body : ∃ c, Tryz.f6.body = some c := ⟨_, rfl⟩
theorem orcOk (σ : Nat → Int) : OrcOk Tryz.prog CX σ (trueOrc 6) := by
  obtain ⟨c, hc⟩ := aw_body
  exact trueOrc_ok Tryz.func6 hc aw_name awake
noncomputable abbrev σ0 : Nat → Int := fun _ => 0
/-- the call, wherever a memory stands for what comes in -/
theorem run_of {W : World} {ι : Inj} {h : H} {s : V} {l : List Int} {w : Int} {cs : Array Value} {v : Value} (hr : Rel CX σ0 ι h W) (hs : VR σ0 ι s v) (hl : Sli h 1 s (ints l)) (ha : Ahead h) (hsz : l.length * 9 ≤ 281474976710656)
    (hw : w < 9223372036854775808) (hw2 : -9223372036854775808 ≤ w) (hcs : Cl [some .i64, some .i64, some .i64, some .i64, some .i64, none] cs.toList)
    (back : ∀ (h' : H) (ι' : Inj) (W' : World), Mod (fun _ => False) h h' → Rel CX σ0 ι' h' W' → Ext ι ι' h h' W W' → Kept W W') :
    Calls Tryz.prog 3 #[.agg cs, v, .int .i64 w] W fun e W' => e = .returned (.bool true) ∧ Kept W W' := by
  obtain ⟨c0, t0, e0, ⟨n, rfl, _⟩, c1, t1, e1, ⟨c, rfl, _⟩, c2, t2, e2, ⟨f, rfl, _⟩, c3, t3, e3, ⟨lg, rfl, _⟩, c4, t4, e4, ⟨tl, rfl, _⟩, c5, t5, e5, ⟨hu, rfl⟩, e6⟩ := hcs
  subst e6 e5 e4 e3 e2 e1
  obtain ⟨h', m1, m2⟩ := law (n := n) (c := c) (f := f) (lg := lg) (tl := tl) (hu := hu) hl ha hsz hw hw2
  obtain ⟨d, hd⟩ := EE_run nS FT (trueOrc_nat 6) (m2 (fun v h => some (v, h)))
  have hv : VRL σ0 ι [.agg (cfg n c f lg tl hu), s, .int .i64 w] (#[Value.agg cs, v, Value.int .i64 w] : Array Value).toList := by
    refine ⟨_, _, rfl, VR.agg.2 ⟨cs, rfl, ?_, ?_⟩, _, _, rfl, hs, _, _, rfl, rfl, rfl⟩
    · rw [e0]
      exact ⟨_, _, rfl, rfl, _, _, rfl, rfl, _, _, rfl, rfl, _, _, rfl, rfl, _, _, rfl, rfl, _, _, rfl, rfl, rfl⟩
    · intro x hx
      simp only [cfg, List.mem_cons, List.not_mem_nil, or_false] at hx
      rcases hx with rfl | rfl | rfl | rfl | rfl | rfl <;> rfl
  have := run_law (nS_ok _) hyp follows (trueOrc_nat 6) (orcOk _) tabOk d hd hr hv
  refine callsIn_wide.1 (CallsIn.mono this ?_)
  rintro e W' ⟨v', ι', rfl, hv', hr', he⟩
  exact ⟨by rw [VR.bool.1 hv'], back _ _ _ m1 hr' he⟩
/-- no slice -/
theorem run_nil {W : World} {w : Int} {cs : Array Value} (hw : w < 9223372036854775808) (hw2 : -9223372036854775808 ≤ w) (hcs : Cl [some .i64, some .i64, some .i64, some .i64, some .i64, none] cs.toList) :
    Calls Tryz.prog 3 #[.agg cs, .slice none 0 0, .int .i64 w] W fun e W' => e = .returned (.bool true) ∧ Kept W W' :=
  run_of (l := []) (rel_none h0) (VR.nils.2 rfl) .nil h0_ahead (by simp) hw hw2 hcs fun h' ι' W' _ _ he => ⟨he.os, he.out, he.tape, fun B o e => he.keepW B o e fun _ _ h => (by cases h)⟩
/-- a slice of cells that lie there -/
theorem run_slice {W : World} {w : Int} {cs : Array Value} {b off len cap : Nat} {zs : List Int} (hw : w < 9223372036854775808) (hw2 : -9223372036854775808 ≤ w) (hcs : Cl [some .i64, some .i64, some .i64, some .i64, some .i64, none] cs.toList)
    (hl : len ≤ cap) (hz : zs.length = cap) (hb : ∃ c ty fz, W.heap[b]? = some (.cells c ty fz)) (hv : ∀ i, i < zs.length → W.cell? ⟨b, off + i, none⟩ = some (.int .i64 (zs.getD i 0))) (hf : ∀ i, i < zs.length → W.frozen? ⟨b, off + i, none⟩ = false)
    (hsz : cap * 9 ≤ 281474976710656) : Calls Tryz.prog 3 #[.agg cs, .slice (some ⟨b, off, none⟩) len cap, .int .i64 w] W fun e W' => e = .returned (.bool true) ∧ Kept W W' := by
  have hlen : (ints zs).length = zs.length := by simp [ints]
  obtain ⟨ι, s, r1, r2, r3, r4⟩ := arg_slice (cx := CX) (σ := σ0) (W := W) (b := b) (off := off) (esz := 1) (vs := ints zs) hl (by rw [hlen, hz]; omega) hb (fun i v hi => by
    have hi' : i < zs.length := by rw [← hlen]; exact (List.getElem?_eq_some_iff.1 hi).1
    refine ⟨_, hv i hi', ?_⟩
    have : v = .int .i64 (zs.getD i 0) := by
      simp only [ints, List.getElem?_map, List.getElem?_eq_getElem hi', Option.map_some, Option.some.injEq] at hi
      rw [← hi]; simp [hi']
    subst this
    exact ⟨fun ι y => Iff.rfl, rfl⟩) (fun i hi => hf i (by rw [← hlen]; exact hi)) (by decide)
  have e : (ints zs).take (len * 1) = ints (zs.take len) := by simp [ints, List.map_take]
  rw [e] at r3
  exact run_of r1 r2 r3 (h0_ahead.push _) (by simp; omega) hw hw2 hcs r4
end Go.Proofs.YtjgflopikppagaaGreat.fair
