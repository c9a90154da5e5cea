/- What an operation's run looks at: its operands alone; which runs do not look at the memory; which only read it; which only make a block. -/
import Derived.Test.YtnhakkolafedhaaGreatAbP
set_option linter.unusedVariables false
set_option linter.unusedSimpArgs false
namespace Go.Ab

theorem evs_congr {l : List Opd} {t t' : T} (h : ∀ x ∈ l, x.ev t = x.ev t') : evs l t = evs l t' := by
  induction l with
  | nil => rfl
  | cons x l ih =>
    show x.ev t :: evs l t = x.ev t' :: evs l t'
    rw [h x (by simp), ih fun y hy => h y (by simp [hy])]
theorem evo_congr {x : Option Opd} {t t' : T} (h : ∀ y ∈ x.toList, y.ev t = y.ev t') : evo x t = evo x t' := by
  cases x with
  | none => rfl
  | some x => show some (x.ev t) = some (x.ev t'); rw [h x (by simp)]
theorem fillK_congr {ps : List (Nat × Nat × Opd)} {t t' : T} (h : ∀ x ∈ ps.map (·.2.2), x.ev t = x.ev t') (l : List V) (k : List V → R) : fillK ps t l k = fillK ps t' l k := by
  induction ps generalizing l with
  | nil => rfl
  | cons p ps ih =>
    show ifK (p.2.2.ev t).bx (ifK (Nat.beq (llen (p.2.2.ev t).cells) p.2.1) (ifK (Nat.ble (p.1 + p.2.1) (llen l)) (fillK ps t (lsets (p.2.2.ev t).cells l p.1) k))) =
      ifK (p.2.2.ev t').bx (ifK (Nat.beq (llen (p.2.2.ev t').cells) p.2.1) (ifK (Nat.ble (p.1 + p.2.1) (llen l)) (fillK ps t' (lsets (p.2.2.ev t').cells l p.1) k)))
    rw [h p.2.2 (by simp), ih fun x hx => h x (by simp only [List.map_cons, List.mem_cons]; exact .inr hx)]
theorem mnxK_congr {b : Bool} {j : IntKind} {ys : List Opd} {t t' : T} (h : ∀ x ∈ ys, x.ev t = x.ev t') (n : Int) (k : V → R) : mnxK b j ys t n k = mnxK b j ys t' n k := by
  induction ys generalizing n with
  | nil => rfl
  | cons y ys ih =>
    show (y.ev t).onInt none (fun _ m => mnxK b j ys t _ k) = (y.ev t').onInt none (fun _ m => mnxK b j ys t' _ k)
    rw [h y (by simp)]
    congr 1; funext _ m
    exact ih (fun x hx => h x (by simp [hx])) _

theorem exec_congr {S : Sy} {E : Env} {op : IOp} {t t' : T} (hh : ∀ x ∈ op.opds, x.ev t = x.ev t') (h : H) (k : K) : exec S E op t h k = exec S E op t' h k := by
  cases op with
  | build zs ps => exact fillK_congr hh _ _
  | bslice n zs ps => exact fillK_congr hh _ _
  | mkfn f a b =>
    show k (.fn f (evs a t) (evs b t)) h = k (.fn f (evs a t') (evs b t')) h
    rw [evs_congr fun x hx => hh x (by simp [IOp.opds, hx]), evs_congr (l := b) fun x hx => hh x (by simp [IOp.opds, hx])]
  | call f as =>
    show E.callV (f.ev t) (evs as t) h k = E.callV (f.ev t') (evs as t') h k
    rw [hh f (by simp [IOp.opds]), evs_congr fun x hx => hh x (by simp [IOp.opds, hx])]
  | mnx b x ys =>
    show (x.ev t).onInt none (fun j n => mnxK b j ys t n fun v => k v h) = (x.ev t').onInt none (fun j n => mnxK b j ys t' n fun v => k v h)
    rw [hh x (by simp [IOp.opds])]
    congr 1; funext j n
    exact mnxK_congr (fun y hy => hh y (by simp [IOp.opds, hy])) _ _
  | slc esz x lo hi mx =>
    have h1 := hh x (by simp [IOp.opds])
    have h2 := evo_congr (x := lo) fun y hy => hh y (by simp only [IOp.opds, List.mem_cons, List.mem_append]; exact .inr (.inl (.inl hy)))
    have h3 := evo_congr (x := hi) fun y hy => hh y (by simp only [IOp.opds, List.mem_cons, List.mem_append]; exact .inr (.inl (.inr hy)))
    have h4 := evo_congr (x := mx) fun y hy => hh y (by simp only [IOp.opds, List.mem_cons, List.mem_append]; exact .inr (.inr hy))
    show x_slc esz x lo hi mx t h k = x_slc esz x lo hi mx t' h k
    simp only [x_slc, h1, h2, h3, h4]
  | slca n esz x lo hi mx =>
    have h1 := hh x (by simp [IOp.opds])
    have h2 := evo_congr (x := lo) fun y hy => hh y (by simp only [IOp.opds, List.mem_cons, List.mem_append]; exact .inr (.inl (.inl hy)))
    have h3 := evo_congr (x := hi) fun y hy => hh y (by simp only [IOp.opds, List.mem_cons, List.mem_append]; exact .inr (.inl (.inr hy)))
    have h4 := evo_congr (x := mx) fun y hy => hh y (by simp only [IOp.opds, List.mem_cons, List.mem_append]; exact .inr (.inr hy))
    show x_slca n esz x lo hi mx t h k = x_slca n esz x lo hi mx t' h k
    simp only [x_slca, h1, h2, h3, h4]
  | new zs => rfl
  | mkmap => rfl
  | bad => rfl
  | mv x => have h1 := hh x (by simp [IOp.opds]); show x_mv x t h k = x_mv x t' h k; simp only [x_mv, h1]
  | box x => have h1 := hh x (by simp [IOp.opds]); show x_box x t h k = x_box x t' h k; simp only [x_box, h1]
  | ld1 x => have h1 := hh x (by simp [IOp.opds]); show x_ld1 x t h k = x_ld1 x t' h k; simp only [x_ld1, h1]
  | ldn n x => have h1 := hh x (by simp [IOp.opds]); show x_ldn n x t h k = x_ldn n x t' h k; simp only [x_ldn, h1]
  | nilck x => have h1 := hh x (by simp [IOp.opds]); show x_nilck x t h k = x_nilck x t' h k; simp only [x_nilck, h1]
  | notb x => have h1 := hh x (by simp [IOp.opds]); show x_notb x t h k = x_notb x t' h k; simp only [x_notb, h1]
  | neg x => have h1 := hh x (by simp [IOp.opds]); show x_neg x t h k = x_neg x t' h k; simp only [x_neg, h1]
  | conv j x => have h1 := hh x (by simp [IOp.opds]); show x_conv S j x t h k = x_conv S j x t' h k; simp only [x_conv, h1]
  | fa o x => have h1 := hh x (by simp [IOp.opds]); show x_fa o x t h k = x_fa o x t' h k; simp only [x_fa, h1]
  | fld n o x => have h1 := hh x (by simp [IOp.opds]); show x_fld n o x t h k = x_fld n o x t' h k; simp only [x_fld, h1]
  | ext x i => have h1 := hh x (by simp [IOp.opds]); show x_ext x i t h k = x_ext x i t' h k; simp only [x_ext, h1]
  | len x => have h1 := hh x (by simp [IOp.opds]); show x_len x t h k = x_len x t' h k; simp only [x_len, h1]
  | lenm x => have h1 := hh x (by simp [IOp.opds]); show x_lenm x t h k = x_lenm x t' h k; simp only [x_lenm, h1]
  | clear zs x => have h1 := hh x (by simp [IOp.opds]); show x_clear zs x t h k = x_clear zs x t' h k; simp only [x_clear, h1]
  | capx x => have h1 := hh x (by simp [IOp.opds]); show x_capx x t h k = x_capx x t' h k; simp only [x_capx, h1]
  | appz e z a x => have h1 := hh a (by simp [IOp.opds]); have h2 := hh x (by simp [IOp.opds]); show x_appz e z a x t h k = x_appz e z a x t' h k; simp only [x_appz, h1, h2]
  | pick c a b => have h1 := hh c (by simp [IOp.opds]); have h2 := hh a (by simp [IOp.opds]); have h3 := hh b (by simp [IOp.opds]); show x_pick c a b t h k = x_pick c a b t' h k; simp only [x_pick, h1, h2, h3]
  | mset g s m y x => have h1 := hh m (by simp [IOp.opds]); have h2 := hh y (by simp [IOp.opds]); have h3 := hh x (by simp [IOp.opds]); show x_mset S g s m y x t h k = x_mset S g s m y x t' h k; simp only [x_mset, h1, h2, h3]
  | st1 a x => have h1 := hh a (by simp [IOp.opds]); have h2 := hh x (by simp [IOp.opds]); show x_st1 a x t h k = x_st1 a x t' h k; simp only [x_st1, h1, h2]
  | stn n a x => have h1 := hh a (by simp [IOp.opds]); have h2 := hh x (by simp [IOp.opds]); show x_stn n a x t h k = x_stn n a x t' h k; simp only [x_stn, h1, h2]
  | bin o a x => have h1 := hh a (by simp [IOp.opds]); have h2 := hh x (by simp [IOp.opds]); show x_bin S o a x t h k = x_bin S o a x t' h k; simp only [x_bin, h1, h2]
  | eqv c n a x => have h1 := hh a (by simp [IOp.opds]); have h2 := hh x (by simp [IOp.opds]); show x_eqv c n a x t h k = x_eqv c n a x t' h k; simp only [x_eqv, h1, h2]
  | eqa c n a x => have h1 := hh a (by simp [IOp.opds]); have h2 := hh x (by simp [IOp.opds]); show x_eqa S c n a x t h k = x_eqa S c n a x t' h k; simp only [x_eqa, h1, h2]
  | mkslice e z b a x => have h1 := hh a (by simp [IOp.opds]); have h2 := hh x (by simp [IOp.opds]); show x_mkslice e z b a x t h k = x_mkslice e z b a x t' h k; simp only [x_mkslice, h1, h2]
  | ixs e a x => have h1 := hh a (by simp [IOp.opds]); have h2 := hh x (by simp [IOp.opds]); show x_ixs e a x t h k = x_ixs e a x t' h k; simp only [x_ixs, h1, h2]
  | ixa l e a x => have h1 := hh a (by simp [IOp.opds]); have h2 := hh x (by simp [IOp.opds]); show x_ixa l e a x t h k = x_ixa l e a x t' h k; simp only [x_ixa, h1, h2]
  | ixv l n e a x => have h1 := hh a (by simp [IOp.opds]); have h2 := hh x (by simp [IOp.opds]); show x_ixv l n e a x t h k = x_ixv l n e a x t' h k; simp only [x_ixv, h1, h2]
  | lkp g s z o a x => have h1 := hh a (by simp [IOp.opds]); have h2 := hh x (by simp [IOp.opds]); show x_lkp S g s z o a x t h k = x_lkp S g s z o a x t' h k; simp only [x_lkp, h1, h2]
  | app e a x => have h1 := hh a (by simp [IOp.opds]); have h2 := hh x (by simp [IOp.opds]); show x_app e a x t h k = x_app e a x t' h k; simp only [x_app, h1, h2]
  | copy e a x => have h1 := hh a (by simp [IOp.opds]); have h2 := hh x (by simp [IOp.opds]); show x_copy e a x t h k = x_copy e a x t' h k; simp only [x_copy, h1, h2]
  | del g s a x => have h1 := hh a (by simp [IOp.opds]); have h2 := hh x (by simp [IOp.opds]); show x_del S g s a x t h k = x_del S g s a x t' h k; simp only [x_del, h1, h2]

/-! ### words that hand on at most one thing, whatever comes behind -/
def Cp {β : Type} (F : (β → R) → R) : Prop := (∀ k, F k = none) ∨ ∃ v, ∀ k, F k = k v
theorem Cp.none {β : Type} : Cp (fun _ : β → R => none) := .inl fun _ => rfl
theorem Cp.ret {β : Type} (v : β) : Cp (fun k => k v) := .inr ⟨v, fun _ => rfl⟩
theorem Cp.bind {α β : Type} {F : (α → R) → R} {G : α → (β → R) → R} (hF : Cp F) (hG : ∀ a, Cp (G a)) : Cp (fun k => F (fun a => G a k)) := by
  rcases hF with h | ⟨v, h⟩
  · exact .inl fun k => h _
  · rcases hG v with g | ⟨u, g⟩
    · exact .inl fun k => (h _).trans (g k)
    · exact .inr ⟨u, fun k => (h _).trans (g k)⟩
section cp
variable {β : Type}
theorem Cp.ifK {b : Bool} {F : (β → R) → R} (h : Cp F) : Cp (fun k => Ab.ifK b (F k)) := by cases b; exact .none; exact h
theorem Cp.onPtr {v : V} {G : Pos → Nat → (β → R) → R} (h : ∀ b o, Cp (G b o)) : Cp (fun k => v.onPtr fun b o => G b o k) := by cases v <;> first | exact h _ _ | exact .none
theorem Cp.onBool {v : V} {G : Bool → (β → R) → R} (h : ∀ b, Cp (G b)) : Cp (fun k => v.onBool fun b => G b k) := by cases v <;> first | exact h _ | exact .none
theorem Cp.onAgg {v : V} {G : List V → (β → R) → R} (h : ∀ b, Cp (G b)) : Cp (fun k => v.onAgg fun b => G b k) := by cases v <;> first | exact h _ | exact .none
theorem Cp.onTup {v : V} {G : List V → (β → R) → R} (h : ∀ b, Cp (G b)) : Cp (fun k => v.onTup fun b => G b k) := by cases v <;> first | exact h _ | exact .none
theorem Cp.onInt {v : V} {D : (β → R) → R} {G : IntKind → Int → (β → R) → R} (hD : Cp D) (h : ∀ j n, Cp (G j n)) : Cp (fun k => v.onInt (D k) fun j n => G j n k) := by cases v <;> first | exact h _ _ | exact hD
theorem Cp.onSl {v : V} {D : (β → R) → R} {G : Pos → Nat → Nat → Nat → Option Nat → (β → R) → R} (hD : Cp D) (h : ∀ a b c d e, Cp (G a b c d e)) : Cp (fun k => v.onSl (D k) fun a b c d e => G a b c d e k) := by cases v <;> first | exact h _ _ _ _ _ | exact hD
theorem Cp.onMap {v : V} {D : (β → R) → R} {G : Pos → (β → R) → R} (hD : Cp D) (h : ∀ a, Cp (G a)) : Cp (fun k => v.onMap (D k) fun a => G a k) := by cases v <;> first | exact h _ | exact hD
theorem Cp.nat {v : V} {G : Nat → (β → R) → R} (h : ∀ n, Cp (G n)) : Cp (fun k => v.nat fun n => G n k) := by
  cases v with
  | int j n => cases n; exact h _; exact .none
  | _ => exact .none
theorem Cp.bool {b : Bool} {F G : (β → R) → R} (hF : Cp F) (hG : Cp G) : Cp (fun k => Bool.rec (motive := fun _ => R) (F k) (G k) b) := by cases b; exact hF; exact hG
theorem Cp.opt {α : Type} {o : Option α} {D : (β → R) → R} {G : α → (β → R) → R} (hD : Cp D) (h : ∀ a, Cp (G a)) : Cp (fun k => Option.rec (motive := fun _ => R) (D k) (fun a => G a k) o) := by cases o; exact hD; exact h _
theorem Cp.nthK (l : List V) : ∀ n, Cp (fun k => Ab.nthK l n k) := by
  induction l with
  | nil => intro n; exact .none
  | cons a l ih => intro n; cases n; exact .ret a; exact ih _
theorem Cp.wrapK (j : IntKind) (n : Int) : Cp (fun k => Ab.wrapK j n k) := by
  cases j
  case i64 =>
    cases n with
    | ofNat x => exact .bool (.ret _) (.ret _)
    | negSucc x => exact .bool (.ret _) (.ret _)
  all_goals exact .ret _
theorem Cp.nn {a b : Int} {G : Nat → Nat → (β → R) → R} (h : ∀ x y, Cp (G x y)) : Cp (fun k => Ab.nn a b fun x y => G x y k) := by
  cases a <;> cases b <;> first | exact h _ _ | exact .none
theorem Cp.binInt (op : BinOp) (i j : IntKind) (a b : Int) : Cp (fun k => Ab.binInt op i j a b k) := by
  cases op <;> first
    | exact .ifK (.bind (.wrapK _ _) fun n => .ret _)
    | exact .ifK (.ifK (.bind (.wrapK _ _) fun n => .ret _))
    | exact .ifK (.ifK (.ret _))
    | exact .ifK (.nn fun _ _ => .bind (.wrapK _ _) fun n => .ret _)
    | exact .ifK (.ret _)
theorem Cp.eqcK (S : Sy) (b : Bool) (v w : V) : Cp (fun k => Ab.eqcK S b v w k) :=
  .bool (.onInt (.opt .none fun x => .onBool fun b => .ret b) fun _ _ => .onInt (.opt .none fun x => .onBool fun b => .ret b) fun _ _ => .ifK (.ret _)) (.onBool fun _ => .onBool fun _ => .ret _)
theorem Cp.eqL (S : Sy) (sh : List Bool) : ∀ vs ws, Cp (fun k => Ab.eqL S sh vs ws k) := by
  induction sh with
  | nil => intro vs ws; cases vs <;> cases ws <;> first | exact .ret _ | exact .none
  | cons b sh ih =>
    intro vs ws
    cases vs with
    | nil => exact .none
    | cons v vs => cases ws with
      | nil => exact .none
      | cons w ws => exact Cp.bind (F := fun k => Ab.eqcK S b v w k) (G := fun r k => Bool.rec (motive := fun _ => R) (k false) (Ab.eqL S sh vs ws k) r) (.eqcK S b v w) fun r => .bool (.ret _) (ih vs ws)
theorem Cp.eqLK (S : Sy) (sh : List Bool) (vs ws : List V) : Cp (fun k => Ab.eqLK S sh vs ws k) := .ifK (.ifK (.eqL S sh vs ws))
theorem Cp.fillK (ps : List (Nat × Nat × Opd)) (t : T) : ∀ l, Cp (fun k => Ab.fillK ps t l k) := by
  induction ps with
  | nil => intro l; exact .ret l
  | cons p ps ih => intro l; exact .ifK (.ifK (.ifK (ih _)))
theorem Cp.mnxK (b : Bool) (j : IntKind) (ys : List Opd) (t : T) : ∀ n, Cp (fun k => Ab.mnxK b j ys t n k) := by
  induction ys with
  | nil => intro n; exact .ret _
  | cons y ys ih => intro n; exact .onInt .none fun _ _ => ih _
theorem Cp.bnd (x : Option V) (y d : Nat) : Cp (fun k => Ab.bnd x y d k) := .opt (.ret d) fun v => .nat fun n => .ifK (.ret n)
theorem Cp.bounds {len cap : Nat} {lo hi mx : Option V} {G : Nat → Nat → Nat → (β → R) → R} (h : ∀ a b c, Cp (G a b c)) : Cp (fun k => Ab.bounds len cap lo hi mx fun a b c => G a b c k) :=
  .bind (.bnd mx cap cap) fun m => .opt (.opt (.bind (.bnd lo len 0) fun l => h _ _ _) fun _ => .none) fun _ => .bind (.bnd hi m len) fun _ => .bind (.bnd lo _ 0) fun _ => h _ _ _
theorem Cp.slcE (esz : Nat) (b : Pos) (o len cap : Nat) (fx : Option Nat) (lo hi mx : Option V) : Cp (fun k => Ab.slcE esz b o len cap fx lo hi mx k) :=
  .opt (.bounds fun _ _ _ => .bool (.ret _) (.ret _)) fun e => .opt (.ifK (.ifK (.bind (.bnd hi len len) fun _ => .bind (.bnd lo _ 0) fun _ => .ret _))) fun _ => .bounds fun _ _ _ => .ifK (.ret _)
theorem Cp.partK (n : Option Nat) (c : List V) (off : Nat) : Cp (fun k => Ab.partK n c off k) := .opt (.nthK c off) fun n => .ifK (.ret _)
theorem Cp.lenK (s : V) : Cp (fun k => Ab.lenK s k) := .onSl (.ifK (.ret 0)) fun _ _ _ _ _ => .ret _
theorem Cp.keyCells (ag : Bool) (v : V) : Cp (fun k => Ab.keyCells ag v k) := .bool (.ifK (.ret _)) (.onAgg fun _ => .ret _)
theorem Cp.keyEq (S : Sy) (ag : Bool) (sh : List Bool) (a b : V) : Cp (fun k => Ab.keyEq S ag sh a b k) :=
  Cp.bind (F := fun k => Ab.keyCells ag a k) (G := fun x k => Ab.keyCells ag b fun y => Ab.eqLK S sh x y k) (.keyCells ag a) fun x => Cp.bind (F := fun k => Ab.keyCells ag b k) (G := fun y k => Ab.eqLK S sh x y k) (.keyCells ag b) fun y => .eqLK S sh x y
theorem Cp.findK (S : Sy) (ag : Bool) (sh : List Bool) (key : V) (es : List (V × V)) : Cp (fun k => Ab.findK S ag sh key es k) := by
  induction es with
  | nil => exact .ret _
  | cons e es ih => exact Cp.bind (F := fun k => Ab.keyEq S ag sh key e.1 k) (G := fun b k => Bool.rec (motive := fun _ => R) (Ab.findK S ag sh key es k) (k (some e.2)) b) (.keyEq S ag sh key e.1) fun b => .bool ih (.ret _)
theorem Cp.lkR (z : V) (ok : Bool) (r : Option V) : Cp (fun k => Ab.lkR z ok r k) := .bool (.opt (.ret _) fun _ => .ret _) (.opt (.ret _) fun _ => .ret _)
theorem Cp.keyOk {ag : Bool} {sh : List Bool} {a : V} {F : (β → R) → R} (h : Cp F) : Cp (fun k => Ab.keyOk ag sh a (F k)) := .bind (.keyCells ag a) fun _ => .ifK h
theorem Cp.getO (o : O) (i : Nat) : Cp (fun k => o.getK i k) := by
  cases o with
  | lst l => exact .nthK l i
  | big n m zs t => exact .ifK (.opt (.nthK _ _) fun v => .ret v)
  | _ => exact .none
theorem Cp.getcs (o : O) (n : Nat) : ∀ i, Cp (fun k => Ab.getcs o n i k) := by
  induction n with
  | zero => intro i; exact .ret []
  | succ n ih => intro i; exact Cp.bind (F := fun k => o.getK i k) (G := fun v k => Ab.getcs o n (Nat.succ i) fun vs => k (v :: vs)) (.getO o i) fun v => Cp.bind (F := fun k => Ab.getcs o n (Nat.succ i) k) (G := fun vs k => k (v :: vs)) (ih _) fun vs => .ret _
theorem Cp.getH (h : H) (b : Pos) : Cp (fun k => h.getK b k) := by cases h; exact .opt .none fun _ => .ret _
end cp

/-! ### kind 0: the memory is not looked at -/
theorem kind0 {S : Sy} {E : Env} {op : IOp} (hk : op.kind = 0) (t : T) : ∃ F : (V → R) → R, Cp F ∧ ∀ h k, exec S E op t h k = F (fun v => k v h) := by
  cases op <;> first
    | (cases hk; done)
    | exact ⟨_, .ret _, fun _ _ => rfl⟩
    | exact ⟨_, .onBool fun w => .bool (.ret _) (.ret _), fun _ _ => rfl⟩
    | exact ⟨_, .bind (.fillK _ _ _) fun _ => .ret _, fun _ _ => rfl⟩
    | exact ⟨_, .onPtr fun _ _ => .ret _, fun _ _ => rfl⟩
    | exact ⟨_, .onInt (.opt .none fun _ => .ret _) fun _ _ => .onInt (.opt .none fun _ => .ret _) fun _ _ => .binInt _ _ _ _ _, fun _ _ => rfl⟩
    | exact ⟨_, .ifK (.opt .none fun _ => .ret _), fun _ _ => rfl⟩
    | exact ⟨_, .onAgg fun _ => .onAgg fun _ => .bind (.eqLK _ _ _ _) fun _ => .ret _, fun _ _ => rfl⟩
    | exact ⟨_, .onBool fun _ => .ret _, fun _ _ => rfl⟩
    | exact ⟨_, .onInt .none fun _ _ => .bind (.wrapK _ _) fun _ => .ret _, fun _ _ => rfl⟩
    | exact ⟨_, .onInt (.opt .none fun _ => .ret _) fun _ _ => .bind (.wrapK _ _) fun _ => .ret _, fun _ _ => rfl⟩
    | exact ⟨_, .onSl (.ifK (.bounds fun _ _ _ => .ret _)) fun _ _ _ _ _ => .slcE _ _ _ _ _ _ _ _ _, fun _ _ => rfl⟩
    | exact ⟨_, .onPtr fun _ _ => .slcE _ _ _ _ _ _ _ _ _, fun _ _ => rfl⟩
    | exact ⟨_, .onSl .none fun _ _ _ _ _ => .nat fun _ => .ifK (.ret _), fun _ _ => rfl⟩
    | exact ⟨_, .onPtr fun _ _ => .nat fun _ => .ifK (.ret _), fun _ _ => rfl⟩
    | exact ⟨_, .onAgg fun _ => .partK _ _ _, fun _ _ => rfl⟩
    | exact ⟨_, .onAgg fun _ => .nat fun _ => .ifK (.partK _ _ _), fun _ _ => rfl⟩
    | exact ⟨_, .onTup fun _ => .nthK _ _, fun _ _ => rfl⟩
    | exact ⟨_, Cp.bind (F := fun k => Ab.lenK _ k) (G := fun n k => k (V.int .i64 (.ofNat n))) (.lenK _) fun _ => .ret _, fun _ _ => rfl⟩
    | exact ⟨_, .onInt .none fun _ _ => .mnxK _ _ _ _ _, fun _ _ => rfl⟩
    | exact ⟨_, .onSl (.ifK (.ret _)) fun _ _ _ _ _ => .opt (.ret _) fun _ => .none, fun _ _ => rfl⟩

theorem kind0_spec {S : Sy} {E : Env} {op : IOp} (hk : op.kind = 0) {t : T} {h : H} {k : K} {r : V × H} (hx : exec S E op t h k = some r) : ∃ v, k v h = some r ∧ ∀ H' k', exec S E op t H' k' = k' v H' := by
  obtain ⟨F, hF, he⟩ := kind0 (S := S) (E := E) hk t
  rcases hF with hn | ⟨v, hv⟩
  · rw [he, hn] at hx; cases hx
  · exact ⟨v, by rw [he, hv] at hx; exact hx, fun H' k' => by rw [he, hv]⟩

/-! ### kind 1: a reading; blocks more do no harm -/
def HLe (h h' : H) : Prop := ∀ b o, h.get b = some o → h'.get b = some o
theorem getK_le {h h' : H} (hle : HLe h h') {b : Pos} {o : O} (ho : h.get b = some o) {k : O → R} : h'.getK b k = k o := by
  have := hle b o ho
  cases h'; simp only [H.getK]; rw [show Tr.getO _ b = some o from this]
theorem kind1_spec {S : Sy} {E : Env} {op : IOp} (hk : op.kind = 1) {t : T} {h : H} {k : K} {r : V × H} (hx : exec S E op t h k = some r) :
    ∃ v, k v h = some r ∧ ∀ H', HLe h H' → ∀ k', exec S E op t H' k' = k' v H' := by
  cases op with
  | ld1 x =>
    obtain ⟨b, i, hp, e⟩ := V.onPtr_some (v := x.ev t) hx
    obtain ⟨ob, hb, e⟩ := H.getK_some e
    rcases Cp.getO ob i with hn | ⟨v, hv⟩
    · rw [show ob.getK i _ = none from hn _] at e; cases e
    · refine ⟨v, (hv _).symm.trans e, fun H' hle k' => ?_⟩
      show (x.ev t).onPtr (fun b i => H'.ld1 b i fun v => k' v H') = _
      rw [hp]
      show H'.getK b (fun o => o.getK i fun v => k' v H') = _
      rw [getK_le hle hb]; exact hv _
  | ldn n x =>
    obtain ⟨b, i, hp, e⟩ := V.onPtr_some (v := x.ev t) hx
    obtain ⟨ob, hb, e⟩ := H.getK_some e
    rcases Cp.getcs ob n i with hn | ⟨v, hv⟩
    · rw [show getcs ob n i _ = none from hn _] at e; cases e
    · refine ⟨.agg v, (hv _).symm.trans e, fun H' hle k' => ?_⟩
      show (x.ev t).onPtr (fun b i => H'.ldn b i n fun vs => k' (.agg vs) H') = _
      rw [hp]
      show H'.getK b (fun o => getcs o n i fun vs => k' (.agg vs) H') = _
      rw [getK_le hle hb]; exact hv _
  | lenm x =>
    rcases V.onMap_some (v := x.ev t) hx with ⟨b, hp, e⟩ | ⟨hne, e⟩
    · obtain ⟨ob, hb, e⟩ := H.getK_some e
      cases ob with
      | mp es =>
        refine ⟨_, e, fun H' hle k' => ?_⟩
        show (x.ev t).onMap _ (fun r => H'.mapK r fun es => k' (.int .i64 (.ofNat (llen es))) H') = _
        rw [hp]
        show H'.getK b _ = _
        rw [getK_le hle hb]
      | _ => cases e
    · obtain ⟨h1, e⟩ := ifK_some.1 e
      have : x.ev t = .nilm := V.isNilm_iff.1 h1
      refine ⟨_, e, fun H' hle k' => ?_⟩
      show (x.ev t).onMap (ifK (x.ev t).isNilm _) _ = _
      rw [this]; rfl
  | lkp ag sh z ok x i =>
    have hx : keyOk ag sh (i.ev t) ((x.ev t).onMap (ifK (x.ev t).isNilm (lkR z ok none fun v => k v h)) fun r => h.mapK r fun es => findK S ag sh (i.ev t) es fun f => lkR z ok f fun v => k v h) = some r := hx
    have hko : ∃ c, ∀ kk : List V → R, keyCells ag (i.ev t) kk = kk c := by
      rcases Cp.keyCells ag (i.ev t) with hn | hv
      · rw [show keyOk ag sh (i.ev t) _ = none from hn _] at hx; cases hx
      · exact hv
    obtain ⟨c, hc⟩ := hko
    have hk' : ∀ kk : R, keyOk ag sh (i.ev t) kk = ifK (Nat.beq (llen c) (llen sh)) kk := fun kk => hc _
    rw [hk'] at hx
    obtain ⟨hb1, hx⟩ := ifK_some.1 hx
    have go : ∀ (f : Option V), (lkR z ok f fun v => k v h) = some r → ∃ v, k v h = some r ∧ ∀ kk : V → R, lkR z ok f kk = kk v := fun f hf => by
      rcases Cp.lkR z ok f with hn | ⟨v, hv⟩
      · rw [show lkR z ok f _ = none from hn _] at hf; cases hf
      · exact ⟨v, (hv _).symm.trans hf, hv⟩
    rcases V.onMap_some (v := x.ev t) hx with ⟨b, hp, e⟩ | ⟨hne, e⟩
    · obtain ⟨ob, hb, e⟩ := H.getK_some e
      cases ob with
      | mp es =>
        have e : (findK S ag sh (i.ev t) es fun f => lkR z ok f fun v => k v h) = some r := e
        rcases Cp.findK S ag sh (i.ev t) es with hn | ⟨f, hf⟩
        · rw [show findK S ag sh (i.ev t) es _ = none from hn _] at e; cases e
        · rw [show findK S ag sh (i.ev t) es _ = _ from hf _] at e
          obtain ⟨v, h1, h2⟩ := go f e
          refine ⟨v, h1, fun H' hle k' => ?_⟩
          show keyOk ag sh (i.ev t) ((x.ev t).onMap _ fun r => H'.mapK r fun es => findK S ag sh (i.ev t) es fun f => lkR z ok f fun v => k' v H') = _
          rw [hk', hb1, hp]
          show H'.getK b _ = _
          rw [getK_le hle hb]
          exact (hf _).trans (h2 _)
      | _ => cases e
    · obtain ⟨h1, e⟩ := ifK_some.1 e
      have hnm : x.ev t = .nilm := V.isNilm_iff.1 h1
      obtain ⟨v, h2, h3⟩ := go none e
      refine ⟨v, h2, fun H' hle k' => ?_⟩
      show keyOk ag sh (i.ev t) ((x.ev t).onMap (ifK (x.ev t).isNilm (lkR z ok none fun v => k' v H')) _) = _
      rw [hk', hb1, hnm]
      exact h3 (fun v => k' v H')
  | _ => cases hk
end Go.Ab
