/- Code: by its shape; a loop's round; a function. -/
import Derived.Test.YtnhakkolafedhaaGreatAbZ
set_option linter.unusedVariables false
set_option linter.unusedSimpArgs false
namespace Go.Ab
section
variable {P : Program} {cx : Cx} {σ : Nat → Int} {S : Sy} {call : Nat → List V → H → K → R} {round : Pos → List V → H → K → R} {loop : IC → T → H → (T → H → R) → (Option Nat → T → H → R) → R}

theorem code_sound (hS : SyOk σ P S) (hy : Hyp P cx) (hm : P.follows .mixedOrders = true) (hE : EnvNat call round loop) (hok : EnvOk P cx σ call round) (hlp : LoopOk P cx σ loop) {lo nt : Nat} (c : Code) :
    ∀ (inR : Bool) (t : T) (h : H) (kn : T → H → R) (kx : Option Nat → T → H → R) (r : V × H), code S (compC cx nt inR c) (.mk call round loop) t h kn kx = some r →
      ∀ ro : Option Nat, (inR = false → ro = none) → WpOk cx σ lo nt t h kn kx r (fun Q a w => c.wpIn (Fz ro) 0 P Q a w) := by
  induction c with
  | skip => intro inR t h kn kx r hx ro _ ι a w Q hf hlo hmr hn _; exact wpIn_skip (hn t h hx ι a w hf hmr (Ext.refl _ _ _))
  | ret => intro inR t h kn kx r hx ro _ ι a w Q hf hlo hmr _ hk; exact wpIn_ret (hk none t h hx ι a w hf hmr (Ext.refl _ _ _))
  | label l => intro inR t h kn kx r hx ro _ ι a w Q hf hlo hmr hn _; exact wpIn_label (hn t h hx ι a w hf hmr (Ext.refl _ _ _))
  | exit id => intro inR t h kn kx r hx ro _ ι a w Q hf hlo hmr _ hk; exact wpIn_exit (hk (some id) t h hx ι a w hf hmr (Ext.refl _ _ _))
  | goto l => intro inR t h kn kx r hx; cases hx
  | refuse s => intro inR t h kn kx r hx; cases hx
  | scope c ih =>
    intro inR t h kn kx r hx ro hro ι a w Q hf hlo hmr hn hk
    refine wpIn_scope_straight (ih inR t h kn kx r hx ro hro ι a w _ hf hlo hmr (fun t' h' e ι' a' w' f1 f2 f3 => hn t' h' e ι' a' w' f1 f2 f3) fun e t' h' ee ι' a' w' f1 f2 f3 => ?_)
    have := hk e t' h' ee ι' a' w' f1 f2 f3
    cases e <;> exact this
  | region id ops draw =>
    intro inR t h kn kx r hx ro _ ι a w Q hf hlo hmr hn _
    cases draw with
    | true =>
      have hx : code S (compDraw cx nt ops) (.mk call round loop) t h kn kx = some r := hx
      cases hcd : compDraw cx nt ops with
      | regd L =>
        rw [hcd] at hx
        obtain ⟨t', h', h1, h2⟩ := regd_sound hS hy hm hE hok hcd (show opersD S L (.mk call round loop) [] t h kn = some r from hx)
        exact h2 ro id ι a w Q hf fun ι' a' w' f1 f2 f3 => hn t' h' h1 ι' a' w' f1 (by rw [f2]; exact hmr.ext f3) f3
      | bad => rw [hcd] at hx; cases hx
      | _ =>
        exfalso
        unfold compDraw at hcd
        split at hcd
        · cases hcd
        · cases hcd
    | false =>
      have hx : opers S (ops.toList.map (compOpr cx nt ops 0)) (.mk call round loop) t h kn = some r := hx
      obtain ⟨t', h', h1, h2⟩ := opers_sound hS hy rfl hok (List.range ops.size) ops.toList (range_map_ops ops) hx
      exact wpIn_region (h2 ro ι a w Q hf fun ι' a' w' f1 f2 f3 => hn t' h' h1 ι' a' w' f1 (by rw [f2]; exact hmr.ext f3) f3)
  | seq x y ihx ihy =>
    intro inR t h kn kx r hx ro hro ι a w Q hf hlo hmr hn hk
    refine wpIn_seq (ihx inR t h (fun t h => code S (compC cx nt inR y) (.mk call round loop) t h kn kx) kx r hx ro hro ι a w _ hf hlo hmr (fun t' h' e ι' a' w' f1 f2 f3 => ?_) fun e t' h' ee ι' a' w' f1 f2 f3 => then_exitOf (hk e t' h' ee ι' a' w' f1 f2 f3))
    exact ihy inR t' h' kn kx r e ro hro ι' a' w' Q f1 (Nat.le_trans hlo f3.size) f2 (fun t2 h2 e2 ι2 a2 w2 g1 g2 g3 => hn t2 h2 e2 ι2 a2 w2 g1 g2 (f3.trans g3)) fun e t2 h2 e2 ι2 a2 w2 g1 g2 g3 => hk e t2 h2 e2 ι2 a2 w2 g1 g2 (f3.trans g3)
  | cond o x y ihx ihy =>
    intro inR t h kn kx r hx ro hro ι a w Q hf hlo hmr hn hk
    unfold compC at hx
    cases ho : ofOpd o with
    | none => rw [ho] at hx; cases hx
    | some o' =>
      rw [ho] at hx
      have hx : (o'.ev t).onBool (fun b => Bool.rec (motive := fun _ => R) (code S (compC cx nt inR y) (.mk call round loop) t h kn kx) (code S (compC cx nt inR x) (.mk call round loop) t h kn kx) b) = some r := hx
      obtain ⟨b, hb, hx⟩ := V.onBool_some hx
      have hv := hf.tm.opds o o' ho
      rw [hb] at hv
      refine wpIn_cond (t := b) (VR.bool.1 hv) ?_
      cases b with
      | true => exact ihx inR t h kn kx r hx ro hro ι a w Q hf hlo hmr hn hk
      | false => exact ihy inR t h kn kx r hx ro hro ι a w Q hf hlo hmr hn hk
  | block id x ih =>
    intro inR t h kn kx r hx ro hro ι a w Q hf hlo hmr hn hk
    refine wpIn_block (ih inR t h kn (fun e t h => Option.rec (motive := fun _ => R) (kx none t h) (fun j => Bool.rec (motive := fun _ => R) (kx (some j) t h) (kn t h) (Nat.beq j id)) e) r hx ro hro ι a w _ hf hlo hmr
      (fun t' h' e ι' a' w' f1 f2 f3 => hn t' h' e ι' a' w' f1 f2 f3) fun e t' h' ee ι' a' w' f1 f2 f3 => ?_)
    cases e with
    | none => exact hk none t' h' ee ι' a' w' f1 f2 f3
    | some j =>
      show Exit.inBlock id Q (.exit j) a' w'
      by_cases hj : j = id
      · subst hj
        have hb : Nat.beq j j = true := by rw [Nat.beq_eq]
        have ee : Bool.rec (motive := fun _ => R) (kx (some j) t' h') (kn t' h') (Nat.beq j j) = some r := ee
        rw [hb] at ee
        simp only [Exit.inBlock, if_true]
        exact hn t' h' ee ι' a' w' f1 f2 f3
      · have hb : Nat.beq j id = false := by
          cases hb : Nat.beq j id with
          | false => rfl
          | true => rw [Nat.beq_eq] at hb; exact absurd hb hj
        have ee : Bool.rec (motive := fun _ => R) (kx (some j) t' h') (kn t' h') (Nat.beq j id) = some r := ee
        rw [hb] at ee
        simp only [Exit.inBlock, hj, if_false]
        exact hk (some j) t' h' ee ι' a' w' f1 f2 f3
  | loop x ih =>
    intro inR t h kn kx r hx ro hro ι a w Q hf hlo hmr hn hk
    exact LoopW.wp (hlp x lo nt inR t h kn kx r hx ro hro ι a w Q hf hlo hmr hn hk)
  | rangeFunc f ps x y ihx ihy =>
    intro inR t h kn kx r hx ro hro
    unfold compC at hx
    cases ho : ofOpd f with
    | none => rw [ho] at hx; cases hx
    | some o' =>
      rw [ho] at hx
      simp only at hx
      split at hx
      · rename_i hcond
        rw [Bool.and_eq_true, List.all_eq_true] at hcond
        cases inR with
        | true => cases hcond.1
        | false =>
          rw [hro rfl]
          exact rangeFunc_sound hE hok ho (fun p hp => by simpa using hcond.2 p hp) hx
      · cases hx

theorem loop_sound (hS : SyOk σ P S) (hy : Hyp P cx) (hm : P.follows .mixedOrders = true) (hE : EnvNat call round loop) (hok : EnvOk P cx σ call round) (hlp : LoopOk P cx σ loop) :
    LoopOk P cx σ (fun b t h kn kx => code S b (.mk call round loop) t h (fun t h => loop b t h kn kx) kx) := by
  intro c lo nt inR t h kn kx r hx ro hro ι a w Q hf hlo hmr hn hk
  refine LoopW.step (code_sound hS hy hm hE hok hlp (lo := lo) c inR t h _ kx r hx ro hro ι a w _ hf hlo hmr (fun t' h' e ι' a' w' f1 f2 f3 => ?_) fun e t' h' ee ι' a' w' f1 f2 f3 => then_exitOf (hk e t' h' ee ι' a' w' f1 f2 f3))
  exact hlp c lo nt inR t' h' kn kx r e ro hro ι' a' w' Q f1 (Nat.le_trans hlo f3.size) f2 (fun t2 h2 e2 ι2 a2 w2 g1 g2 g3 => hn t2 h2 e2 ι2 a2 w2 g1 g2 (f3.trans g3)) fun e t2 h2 e2 ι2 a2 w2 g1 g2 g3 => hk e t2 h2 e2 ι2 a2 w2 g1 g2 (f3.trans g3)
end
end Go.Ab
