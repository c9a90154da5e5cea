/- The law 'basinlaw26.HistoryChecks': its call, in the real memory. No condition. -/
import Derived.Test.YtkjlkjnlhogkiaaDoorQHiR3
import Derived.Test.YtkjlkjnlhogkiaaDoorLd
import Derived.KernelRfl
set_option linter.unusedSimpArgs false
set_option linter.unusedVariables false
namespace Go.Proofs.YtkjlkjnlhogkiaaDoor.hist
open Go.Ab Go.Hist
theorem follows : Tryd.prog.follows .mixedOrders = true := by kernel_rfl
theorem names : (Tryd.prog.funcs.toList.all fun fn => !(fn.name == "runtime.NumGoroutine")) = true := by kernel_rfl
theorem hyp : Hyp Tryd.prog CX := hyp_of rfl
theorem tabOk : TabOk Tryd.prog CX FT := tab_of rfl names
theorem awake (w : World) : Calls Tryd.prog 6 #[] w fun e w' => e = .returned (.bool true) ∧ Kept w w' :=
  law_true hyp follows noOrc_nat (fun _ => noOrc_ok) tabOk 100000 6 [] [] (by decide) .run (by kernel_rfl) #[] rfl w
theorem aw_name : (Tryd.f6.name == "runtime.NumGoroutine") = false := by kernel_rfl
theorem aw_body : ∃ c, Tryd.f6.body = some c := ⟨_, rfl⟩
theorem orcOk (σ : Nat → Int) : OrcOk Tryd.prog CX σ (trueOrc 6) := by
  obtain ⟨c, hc⟩ := aw_body
  exact trueOrc_ok Tryd.func6 hc aw_name awake
noncomputable abbrev σ0 : Nat → Int := fun _ => 0
/-- the call, wherever a memory stands for what comes in -/
theorem run_of {W : World} {ι : Inj} {h : H} {s : V} {l : List Ev} {v : Value} (hr : Rel CX σ0 ι h W) (hs : VR σ0 ι s v) (hl : Sli h 12 s (flat rowE l)) (ha : Ahead h) (hn : l.length ≤ 1048576)
    (back : ∀ (h' : H) (ι' : Inj) (W' : World), Mod (fun _ => False) h h' → Rel CX σ0 ι' h' W' → Ext ι ι' h h' W W' → Kept W W') :
    Calls Tryd.prog 3 #[v] W fun e W' => e = .returned (.bool true) ∧ Kept W W' := by
  obtain ⟨h', m1, m2⟩ := law hl hn ha
  obtain ⟨d, hd⟩ := EE_run nS FT (trueOrc_nat 6) (m2 (fun v h => some (v, h)))
  have hv : VRL σ0 ι [s] (#[v] : Array Value).toList := ⟨_, _, rfl, hs, rfl⟩
  have := run_law (nS_ok _) hyp follows (trueOrc_nat 6) (orcOk _) tabOk d hd hr hv
  refine callsIn_wide.1 (CallsIn.mono this ?_)
  rintro e W' ⟨v', ι', rfl, hv', hr', he⟩
  exact ⟨by rw [VR.bool.1 hv'], back _ _ _ m1 hr' he⟩
/-- no slice -/
theorem run_nil {W : World} : Calls Tryd.prog 3 #[.slice none 0 0] W fun e W' => e = .returned (.bool true) ∧ Kept W W' :=
  run_of (l := []) (rel_none h0) (VR.nils.2 rfl) .nil h0_ahead (by simp) fun h' ι' W' _ _ he => ⟨he.os, he.out, he.tape, fun B o e => he.keepW B o e fun _ _ h => (by cases h)⟩
/-- an event's cells -/
abbrev valE (x : Ev) : List Value := [.bool x.fin, .int .i64 x.core, .int .i64 x.call.c0, .int .i64 x.call.c1, .int .i64 x.call.c2, .int .i64 x.call.c3, .int .i64 x.call.c4, .int .i64 x.call.c5, .int .i64 x.call.c6, .int .i64 x.call.c7, .int .i64 x.res.r0, .int .i64 x.res.r1]
theorem cell_of_row {x : Ev} : ∀ {j : Nat} {v : V}, (rowE x)[j]? = some v → ∃ y, (valE x)[j]? = some y ∧ (∀ (ι : Inj) (z : Value), VR σ0 ι v z ↔ z = y) ∧ v.one = true
  | 0, v, h => ⟨_, rfl, fun ι z => by obtain rfl : V.bool x.fin = v := Option.some.inj h; exact Iff.rfl, by obtain rfl : V.bool x.fin = v := Option.some.inj h; rfl⟩
  | 1, v, h => ⟨_, rfl, fun ι z => by obtain rfl := Option.some.inj h; exact Iff.rfl, by obtain rfl := Option.some.inj h; rfl⟩
  | 2, v, h => ⟨_, rfl, fun ι z => by obtain rfl := Option.some.inj h; exact Iff.rfl, by obtain rfl := Option.some.inj h; rfl⟩
  | 3, v, h => ⟨_, rfl, fun ι z => by obtain rfl := Option.some.inj h; exact Iff.rfl, by obtain rfl := Option.some.inj h; rfl⟩
  | 4, v, h => ⟨_, rfl, fun ι z => by obtain rfl := Option.some.inj h; exact Iff.rfl, by obtain rfl := Option.some.inj h; rfl⟩
  | 5, v, h => ⟨_, rfl, fun ι z => by obtain rfl := Option.some.inj h; exact Iff.rfl, by obtain rfl := Option.some.inj h; rfl⟩
  | 6, v, h => ⟨_, rfl, fun ι z => by obtain rfl := Option.some.inj h; exact Iff.rfl, by obtain rfl := Option.some.inj h; rfl⟩
  | 7, v, h => ⟨_, rfl, fun ι z => by obtain rfl := Option.some.inj h; exact Iff.rfl, by obtain rfl := Option.some.inj h; rfl⟩
  | 8, v, h => ⟨_, rfl, fun ι z => by obtain rfl := Option.some.inj h; exact Iff.rfl, by obtain rfl := Option.some.inj h; rfl⟩
  | 9, v, h => ⟨_, rfl, fun ι z => by obtain rfl := Option.some.inj h; exact Iff.rfl, by obtain rfl := Option.some.inj h; rfl⟩
  | 10, v, h => ⟨_, rfl, fun ι z => by obtain rfl := Option.some.inj h; exact Iff.rfl, by obtain rfl := Option.some.inj h; rfl⟩
  | 11, v, h => ⟨_, rfl, fun ι z => by obtain rfl := Option.some.inj h; exact Iff.rfl, by obtain rfl := Option.some.inj h; rfl⟩
  | j + 12, v, h => by simp at h
/-- a slice of cells that lie there -/
theorem run_slice {W : World} {b off len cap : Nat} {zs : List Ev} (hl : len ≤ cap) (hz : zs.length = cap) (hb : ∃ c ty fz, W.heap[b]? = some (.cells c ty fz))
    (hv : ∀ i x, zs[i]? = some x → ∀ j y, (valE x)[j]? = some y → W.cell? ⟨b, off + (i * 12 + j), none⟩ = some y) (hf : ∀ i, i < cap * 12 → W.frozen? ⟨b, off + i, none⟩ = false)
    (hn : len ≤ 1048576) : Calls Tryd.prog 3 #[.slice (some ⟨b, off, none⟩) len cap] W fun e W' => e = .returned (.bool true) ∧ Kept W W' := by
  have hlen : (flat rowE zs).length = cap * 12 := by rw [flat_len lenE, hz]
  obtain ⟨ι, s, r1, r2, r3, r4⟩ := arg_slice (cx := CX) (σ := σ0) (W := W) (b := b) (off := off) (esz := 12) (vs := flat rowE zs) hl hlen hb (fun k v hk => by
    have hkl : k < cap * 12 := by rw [← hlen]; exact (List.getElem?_eq_some_iff.1 hk).1
    obtain ⟨i, j, hj, rfl⟩ : ∃ i j, j < 12 ∧ k = i * 12 + j := ⟨k / 12, k % 12, Nat.mod_lt _ (by omega), by omega⟩
    have hi : i < zs.length := by omega
    rw [flat_get lenE (List.getElem?_eq_getElem hi) hj] at hk
    obtain ⟨y, y1, y2, y3⟩ := cell_of_row hk
    exact ⟨y, hv i _ (List.getElem?_eq_getElem hi) j y y1, y2, y3⟩) (fun i hi => hf i (by rw [← hlen]; exact hi)) (by decide)
  have e : (flat rowE zs).take (len * 12) = flat rowE (zs.take len) := by
    have e1 : flat rowE zs = flat rowE (zs.take len) ++ flat rowE (zs.drop len) := by
      unfold flat; rw [← List.flatten_append, ← List.map_append, List.take_append_drop]
    have e2 : (flat rowE (zs.take len)).length = len * 12 := by rw [flat_len lenE]; simp; omega
    rw [e1, ← e2, List.take_left]
  rw [e] at r3
  exact run_of r1 r2 r3 (h0_ahead.push _) (by simp; omega) r4
end Go.Proofs.YtkjlkjnlhogkiaaDoor.hist
