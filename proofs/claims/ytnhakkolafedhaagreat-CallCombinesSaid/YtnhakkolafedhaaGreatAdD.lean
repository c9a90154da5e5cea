/- A program's tables; the contract of a function of no argument that returns true. -/
import Derived.Test.YtnhakkolafedhaaGreatAdC
set_option linter.unusedVariables false
set_option linter.unusedSimpArgs false
namespace Go.Ab

theorem tyTab_get (l : List TypeInfo) : ∀ (n : Nat) (t : Tr TypeInfo) (i : Nat), (tyTab l n t).get (Pos.of i) = if n ≤ i ∧ i < n + l.length then l[i - n]? else t.get (Pos.of i) := by
  induction l with
  | nil => intro n t i; rw [if_neg (by simp)]; rfl
  | cons v l ih =>
    intro n t i
    show (tyTab l (Nat.succ n) (Tr.put (Pos.of n) v t)).get (Pos.of i) = _
    rw [ih]
    simp only [List.length_cons]
    by_cases e : i = n
    · subst e; rw [if_neg (by omega), if_pos (by omega), Tr.get_put_same]; simp
    · by_cases hin : Nat.succ n ≤ i ∧ i < Nat.succ n + l.length
      · rw [if_pos hin, if_pos (by omega), show i - n = (i - Nat.succ n) + 1 by omega]; simp
      · rw [if_neg hin, if_neg (by omega), Tr.get_put_ne _ _ _ _ (Pos.of_ne e)]

theorem fnTab_get (cx : Cx) (l : List Func) : ∀ (n : Nat) (t : Tr IFn) (i : Nat) (x : IFn), (fnTab cx l n t).get (Pos.of i) = some x → (n ≤ i ∧ ∃ f, l[i - n]? = some f ∧ compF cx f = some x) ∨ t.get (Pos.of i) = some x := by
  induction l with
  | nil => intro n t i x h; exact .inr h
  | cons v l ih =>
    intro n t i x h
    have h : (fnTab cx l (Nat.succ n) (Option.rec (motive := fun _ => Tr IFn) t (fun x => Tr.put (Pos.of n) x t) (compF cx v))).get (Pos.of i) = some x := h
    rcases ih _ _ _ _ h with ⟨h1, f, h2, h3⟩ | h1
    · left
      refine ⟨by omega, f, ?_, h3⟩
      rw [show i - n = (i - Nat.succ n) + 1 by omega]; simpa using h2
    · cases hc : compF cx v with
      | none => rw [hc] at h1; exact .inr h1
      | some y =>
        rw [hc] at h1
        have h1 : (Tr.put (Pos.of n) y t).get (Pos.of i) = some x := h1
        by_cases e : i = n
        · subst e; rw [Tr.get_put_same] at h1; cases h1; exact .inl ⟨Nat.le_refl _, v, by simp, hc⟩
        · rw [Tr.get_put_ne _ _ _ _ (Pos.of_ne e)] at h1; exact .inr h1

noncomputable def eqsOf (P : Program) (t : TypeId) : Bool := !P.stoodInHeld t && !P.eqGuardType P.depth t

theorem hyp_of {P : Program} {TT : Tr TypeInfo} (ht : TT = tyTab P.types.toList 0 .nil) : Hyp P ⟨tyGet TT, eqsOf P⟩ where
  ti := by
    intro t i h
    have h : TT.get (Pos.of t) = some i := h
    rw [ht, tyTab_get] at h
    split at h
    · rename_i hlt
      have hlt : t < P.types.size := by simpa using hlt.2
      show (if t < P.types.size then P.types[t]? else _) = some i
      rw [if_pos hlt]
      simpa using h
    · rw [Tr.get_nil] at h; cases h
  eqs := by
    intro t h
    have h : (!P.stoodInHeld t && !P.eqGuardType P.depth t) = true := h
    rw [Bool.and_eq_true, Bool.not_eq_true', Bool.not_eq_true'] at h
    exact h

theorem tab_of {P : Program} {cx : Cx} {FT : Tr IFn} (hf : FT = fnTab cx P.funcs.toList 0 .nil) (hn : (P.funcs.toList.all fun fn => !(fn.name == "runtime.NumGoroutine")) = true) : TabOk P cx FT where
  ok := by
    intro f x h
    rw [hf] at h
    rcases fnTab_get cx _ _ _ _ _ h with ⟨_, fn, h1, h2⟩ | h1
    · have h1 : P.funcs[f]? = some fn := by simpa using h1
      have hb : ∃ c, fn.body = some c := by
        unfold compF at h2
        cases hb : fn.body with
        | none => rw [hb] at h2; simp at h2
        | some c => exact ⟨c, rfl⟩
      obtain ⟨c, hb⟩ := hb
      have := List.all_eq_true.1 hn fn (by have := List.mem_of_getElem? (l := P.funcs.toList) (i := f) (by simpa using h1); exact this)
      exact ⟨fn, c, h1, hb, h2, by simpa using this⟩
    · rw [Tr.get_nil] at h1; cases h1

def noOrc : Orc := fun _ _ _ => none
theorem noOrc_nat : OrcNat noOrc := fun _ _ _ _ h => by cases h
theorem noOrc_ok {P : Program} {cx : Cx} {σ : Nat → Int} : OrcOk P cx σ noOrc := fun _ _ _ _ _ _ h => by cases h

/-- a function that takes nothing and returns true -/
noncomputable def trueOrc (g : Nat) : Orc := fun f args h => match args with
  | [] => if Nat.beq f g then some (fun k => k (.bool true) h) else none
  | _ :: _ => none
theorem trueOrc_nat (g : Nat) : OrcNat (trueOrc g) := by
  intro f args h c e
  unfold trueOrc at e
  split at e
  · split at e
    · cases e; exact CpK.ret _ _
    · cases e
  · cases e

def Kept (w w' : World) : Prop := w'.os = w.os ∧ w'.output = w.output ∧ w'.tape = w.tape ∧ ∀ (B : Nat) (o : Obj), w.heap[B]? = some o → w'.heap[B]? = some o
theorem kept_size {w w' : World} (h : Kept w w') : w.heap.size ≤ w'.heap.size := by
  rcases Nat.eq_zero_or_pos w.heap.size with e | e
  · omega
  · have h1 : w.heap[w.heap.size - 1]? = some w.heap[w.heap.size - 1] := Array.getElem?_eq_getElem (by omega)
    have := lt_of_some (h.2.2.2 _ _ h1)
    omega
theorem trueOrc_ok {P : Program} {cx : Cx} {σ : Nat → Int} {g : Nat} {fn : Func} {c : Code} (h1 : P.funcs[g]? = some fn) (h2 : fn.body = some c) (h3 : (fn.name == "runtime.NumGoroutine") = false)
    (hcall : ∀ w : World, Calls P g #[] w fun e w' => e = .returned (.bool true) ∧ Kept w w') : OrcOk P cx σ (trueOrc g) := by
  intro f args h c k r e hx
  unfold trueOrc at e
  split at e
  · split at e
    · rename_i hf
      rw [Nat.beq_eq] at hf
      subst hf
      cases e
      refine ⟨_, _, hx, fun ι w xs hr hv => ?_⟩
      have hxs : xs = #[] := by have := VRL.nil.1 hv; simpa using this
      subst hxs
      refine ⟨run_callFunc h1 h2 h3 _ _, ?_⟩
      have := callsIn_wide (n := 0).2 (hcall w)
      refine CallsIn.mono (callsIn_Fz (ro := none) this) ?_
      rintro e w' ⟨rfl, hk⟩
      have hsz := kept_size hk
      refine ⟨.bool true, ι, rfl, rfl, ⟨fun b l hb => by have := hr.bound b l hb; exact ⟨this.1, by omega⟩, hr.inj, fun b l o hb ho => (hr.obj b l o hb ho).other fun x hx => hk.2.2.2 _ _ hx⟩, ?_⟩
      exact ⟨Le.refl _, fun _ _ e n => no_some e n, fun _ _ _ => rfl, Nat.le_refl _, fun B o hB _ => hk.2.2.2 B o hB, hsz, fun _ _ e n => no_some e n, hk.1, hk.2.1, hk.2.2.1⟩
    · cases e
  · cases e
end Go.Ab
