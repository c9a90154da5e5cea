/- A run hands on one thing at most, and the same one whatever comes behind. -/
import Derived.Test.YtnhakkolafedhaaGreatAbR
set_option linter.unusedVariables false
set_option linter.unusedSimpArgs false
namespace Go.Ab

section gen
variable {κ : Type} {P : (κ → R) → Prop}
theorem Gn.ifK (hn : P fun _ => none) {b : Bool} {F : κ → R} (h : P F) : P (fun k => Ab.ifK b (F k)) := by cases b; exact hn; exact h
theorem Gn.onPtr (hn : P fun _ => none) {v : V} {G : Pos → Nat → κ → R} (h : ∀ b o, P (G b o)) : P (fun k => v.onPtr fun b o => G b o k) := by cases v <;> first | exact h _ _ | exact hn
theorem Gn.onBool (hn : P fun _ => none) {v : V} {G : Bool → κ → R} (h : ∀ b, P (G b)) : P (fun k => v.onBool fun b => G b k) := by cases v <;> first | exact h _ | exact hn
theorem Gn.onAgg (hn : P fun _ => none) {v : V} {G : List V → κ → R} (h : ∀ b, P (G b)) : P (fun k => v.onAgg fun b => G b k) := by cases v <;> first | exact h _ | exact hn
theorem Gn.onSl {v : V} {D : κ → R} {G : Pos → Nat → Nat → Nat → Option Nat → κ → R} (hD : P D) (h : ∀ a b c d e, P (G a b c d e)) : P (fun k => v.onSl (D k) fun a b c d e => G a b c d e k) := by cases v <;> first | exact h _ _ _ _ _ | exact hD
theorem Gn.onMap {v : V} {D : κ → R} {G : Pos → κ → R} (hD : P D) (h : ∀ a, P (G a)) : P (fun k => v.onMap (D k) fun a => G a k) := by cases v <;> first | exact h _ | exact hD
theorem Gn.nat (hn : P fun _ => none) {v : V} {G : Nat → κ → R} (h : ∀ n, P (G n)) : P (fun k => v.nat fun n => G n k) := by
  cases v with
  | int j n => cases n; exact h _; exact hn
  | _ => exact hn
theorem Gn.bool {b : Bool} {F G : κ → R} (hF : P F) (hG : P G) : P (fun k => Bool.rec (motive := fun _ => R) (F k) (G k) b) := by cases b; exact hF; exact hG
theorem Gn.opt {α : Type} {o : Option α} {D : κ → R} {G : α → κ → R} (hD : P D) (h : ∀ a, P (G a)) : P (fun k => Option.rec (motive := fun _ => R) (D k) (fun a => G a k) o) := by cases o; exact hD; exact h _
/-- behind a word that hands on one thing at most -/
theorem Gn.bind (hn : P fun _ => none) {β : Type} {F : (β → R) → R} (hF : Cp F) {G : β → κ → R} (hG : ∀ a, P (G a)) : P (fun k => F (fun a => G a k)) := by
  rcases hF with h | ⟨v, h⟩
  · have : (fun k => F (fun a => G a k)) = fun _ => none := funext fun k => h _
    rw [this]; exact hn
  · have : (fun k => F (fun a => G a k)) = G v := funext fun k => h _
    rw [this]; exact hG v
end gen

def CpK (F : K → R) : Prop := (∀ k, F k = none) ∨ ∃ v h, ∀ k, F k = k v h
theorem CpK.no : CpK (fun _ => none) := .inl fun _ => rfl
theorem CpK.ret (v : V) (h : H) : CpK (fun k => k v h) := .inr ⟨v, h, fun _ => rfl⟩
def CpT (F : (T → H → R) → R) : Prop := (∀ k, F k = none) ∨ ∃ t h, ∀ k, F k = k t h
theorem CpT.no : CpT (fun _ => none) := .inl fun _ => rfl
theorem CpT.ret (t : T) (h : H) : CpT (fun k => k t h) := .inr ⟨t, h, fun _ => rfl⟩
def CpE (F : (T → H → R) × (Option Nat → T → H → R) → R) : Prop := (∀ k, F k = none) ∨ (∃ t h, ∀ k, F k = k.1 t h) ∨ ∃ e t h, ∀ k, F k = k.2 e t h
theorem CpE.no : CpE (fun _ => none) := .inl fun _ => rfl
theorem CpE.ret (t : T) (h : H) : CpE (fun k => k.1 t h) := .inr (.inl ⟨t, h, fun _ => rfl⟩)
theorem CpE.out (e : Option Nat) (t : T) (h : H) : CpE (fun k => k.2 e t h) := .inr (.inr ⟨e, t, h, fun _ => rfl⟩)

theorem Gn.bindK {κ : Type} {P : (κ → R) → Prop} (hn : P fun _ => none) {F : K → R} (hF : CpK F) {G : V → H → κ → R} (hG : ∀ v h, P (G v h)) : P (fun k => F (fun v h => G v h k)) := by
  rcases hF with h | ⟨v, h', h⟩
  · have : (fun k => F (fun v h => G v h k)) = fun _ => none := funext fun k => h _
    rw [this]; exact hn
  · have : (fun k => F (fun v h => G v h k)) = G v h' := funext fun k => h _
    rw [this]; exact hG v h'
theorem Gn.bindT {κ : Type} {P : (κ → R) → Prop} (hn : P fun _ => none) {F : (T → H → R) → R} (hF : CpT F) {G : T → H → κ → R} (hG : ∀ v h, P (G v h)) : P (fun k => F (fun v h => G v h k)) := by
  rcases hF with h | ⟨v, h', h⟩
  · have : (fun k => F (fun v h => G v h k)) = fun _ => none := funext fun k => h _
    rw [this]; exact hn
  · have : (fun k => F (fun v h => G v h k)) = G v h' := funext fun k => h _
    rw [this]; exact hG v h'
theorem Gn.bindE {κ : Type} {P : (κ → R) → Prop} (hn : P fun _ => none) {F : (T → H → R) → (Option Nat → T → H → R) → R} (hF : CpE fun k => F k.1 k.2) {G : T → H → κ → R} {G' : Option Nat → T → H → κ → R}
    (hG : ∀ v h, P (G v h)) (hG' : ∀ e v h, P (G' e v h)) : P (fun k => F (fun v h => G v h k) (fun e v h => G' e v h k)) := by
  rcases hF with h | ⟨v, h', h⟩ | ⟨e, v, h', h⟩
  · have : (fun k => F (fun v h => G v h k) (fun e v h => G' e v h k)) = fun _ => none := funext fun k => h (_, _)
    rw [this]; exact hn
  · have : (fun k => F (fun v h => G v h k) (fun e v h => G' e v h k)) = G v h' := funext fun k => h (_, _)
    rw [this]; exact hG v h'
  · have : (fun k => F (fun v h => G v h k) (fun e v h => G' e v h k)) = G' e v h' := funext fun k => h (_, _)
    rw [this]; exact hG' e v h'

theorem Cp.setO (o : O) (i : Nat) (v : V) : Cp (fun k => o.setK i v k) := by
  cases o with
  | lst l => exact .ifK (.ifK (.ret _))
  | big n m zs t => exact .ifK (.ifK (.ret _))
  | _ => exact .ifK .none
theorem Cp.setcs (vs : List V) : ∀ o i, Cp (fun k => Ab.setcs vs o i k) := by
  induction vs with
  | nil => intro o i; exact .ret o
  | cons v vs ih => intro o i; exact Cp.bind (F := fun k => o.setK i v k) (G := fun o' k => Ab.setcs vs o' (Nat.succ i) k) (.setO o i v) fun o' => ih _ _
theorem Cp.stn (h : H) (b : Pos) (i : Nat) (vs : List V) : Cp (fun k => h.stn b i vs k) :=
  Cp.bind (F := fun k => h.getK b k) (G := fun o k => Ab.setcs vs o i fun o' => k (h.put b o')) (.getH h b) fun o => Cp.bind (F := fun k => Ab.setcs vs o i k) (G := fun o' k => k (h.put b o')) (.setcs vs o i) fun o' => .ret _
theorem Cp.st1 (h : H) (b : Pos) (i : Nat) (v : V) : Cp (fun k => h.st1 b i v k) :=
  Cp.bind (F := fun k => h.getK b k) (G := fun o k => o.setK i v fun o' => k (h.put b o')) (.getH h b) fun o => Cp.bind (F := fun k => o.setK i v k) (G := fun o' k => k (h.put b o')) (.setO o i v) fun o' => .ret _
theorem Cp.ldn (h : H) (b : Pos) (i n : Nat) : Cp (fun k => h.ldn b i n k) :=
  Cp.bind (F := fun k => h.getK b k) (G := fun o k => Ab.getcs o n i k) (.getH h b) fun o => .getcs o n i
theorem Cp.ld1 (h : H) (b : Pos) (i : Nat) : Cp (fun k => h.ld1 b i k) :=
  Cp.bind (F := fun k => h.getK b k) (G := fun o k => o.getK i k) (.getH h b) fun o => .getO o i
theorem Cp.mapK (h : H) (b : Pos) : Cp (fun k => h.mapK b k) :=
  Cp.bind (F := fun k => h.getK b k) (G := fun o k => O.rec (motive := fun _ => R) (fun _ => Option.none) (fun _ _ _ _ => Option.none) k (fun _ _ _ _ _ => Option.none) Option.none o) (.getH h b)
    fun o => by cases o <;> first | exact .ret _ | exact .none
theorem Cp.setKK (S : Sy) (ag : Bool) (sh : List Bool) (key v : V) (es : List (V × V)) : Cp (fun k => Ab.setKK S ag sh key v es k) := by
  induction es with
  | nil => exact .ret _
  | cons e es ih => exact Cp.bind (F := fun k => Ab.keyEq S ag sh key e.1 k) (G := fun b k => Bool.rec (motive := fun _ => R) (Ab.setKK S ag sh key v es fun l => k (e :: l)) (k ((key, v) :: es)) b) (.keyEq S ag sh key e.1) fun b => .bool (Cp.bind (F := fun k => Ab.setKK S ag sh key v es k) (G := fun l k => k (e :: l)) ih fun l => .ret _) (.ret _)
theorem Cp.delKK (S : Sy) (ag : Bool) (sh : List Bool) (key : V) (es : List (V × V)) : Cp (fun k => Ab.delKK S ag sh key es k) := by
  induction es with
  | nil => exact .ret _
  | cons e es ih => exact Cp.bind (F := fun k => Ab.keyEq S ag sh key e.1 k) (G := fun b k => Bool.rec (motive := fun _ => R) (Ab.delKK S ag sh key es fun l => k (e :: l)) (k es) b) (.keyEq S ag sh key e.1) fun b => .bool (Cp.bind (F := fun k => Ab.delKK S ag sh key es k) (G := fun l k => k (e :: l)) ih fun l => .ret _) (.ret _)
theorem Cp.elems (h : H) (esz : Nat) (s : V) (n : Nat) : Cp (fun k => h.elems esz s n k) := .onSl (.ifK (.ifK (.ret _))) fun b o _ _ _ => .ifK (.ldn h b o _)
theorem Cp.alloc {β : Type} {h : H} {o : O} {G : Pos → H → (β → R) → R} (hG : ∀ b h, Cp (G b h)) : Cp (fun k => h.alloc o fun b h => G b h k) := by
  have : (fun k => h.alloc o fun b h => G b h k) = G h.nx (h.push o) := funext fun k => H.alloc_eq h o _
  rw [this]; exact hG _ _
theorem Gn.alloc {κ : Type} {P : (κ → R) → Prop} {h : H} {o : O} {G : Pos → H → κ → R} (hG : ∀ b h, P (G b h)) : P (fun k => h.alloc o fun b h => G b h k) := by
  have : (fun k => h.alloc o fun b h => G b h k) = G h.nx (h.push o) := funext fun k => H.alloc_eq h o _
  rw [this]; exact hG _ _

theorem doApp_nat (h : H) (esz : Nat) (s : V) (new : List V) (n : Nat) : CpK (doApp h esz s new n) := by
  refine Gn.onSl (P := CpK) (Gn.ifK CpK.no ?_) fun b o len cap fx => Gn.bool (P := CpK) ?_ ?_
  · cases n with
    | zero => exact .ret _ _
    | succ n => exact Gn.alloc (P := CpK) fun _ _ => .ret _ _
  · refine Gn.bind (P := CpK) CpK.no (F := fun k => h.ldn b o (Nat.mul len esz) k) (.ldn h b o _) fun old => Gn.opt (P := CpK) ?_ fun e => Gn.ifK CpK.no (Gn.bind (P := CpK) CpK.no (F := fun k => h.getK b k) (.getH h b) fun ob => Gn.ifK CpK.no ?_)
    · exact Gn.alloc (P := CpK) fun _ _ => .ret _ _
    · exact Gn.alloc (P := CpK) fun _ _ => .ret _ _
  · exact Gn.bind (P := CpK) CpK.no (F := fun k => h.stn b _ new k) (.stn h b _ new) fun h' => .ret _ _

structure EnvNat (call : Nat → List V → H → K → R) (round : Pos → List V → H → K → R) (loop : IC → T → H → (T → H → R) → (Option Nat → T → H → R) → R) : Prop where
  call : ∀ f args h, CpK (call f args h)
  round : ∀ l args h, CpK (round l args h)
  loop : ∀ b t h, CpE fun k => loop b t h k.1 k.2

section
variable {call : Nat → List V → H → K → R} {round : Pos → List V → H → K → R} {loop : IC → T → H → (T → H → R) → (Option Nat → T → H → R) → R} {S : Sy}

theorem callV_nat (hE : EnvNat call round loop) (f : V) (args : List V) (h : H) : CpK (Env.callV (.mk call round loop) f args h) := by
  cases f with
  | fn f a b => exact hE.call _ _ _
  | yield l => exact hE.round _ _ _
  | _ => exact CpK.no

theorem callFn_nat (hE : EnvNat call round loop) (f : V) (args : List V) (h : H) : CpK (Env.callFn (.mk call round loop) f args h) := by
  cases f with
  | fn f a b => exact hE.call _ _ _
  | _ => exact CpK.no

theorem exec_nat (hE : EnvNat call round loop) (op : IOp) (t : T) (h : H) : CpK (exec S (.mk call round loop) op t h) := by
  by_cases h0 : op.kind = 0
  · obtain ⟨F, hF, he⟩ := kind0 (S := S) (E := .mk call round loop) h0 t
    have : exec S (.mk call round loop) op t h = fun k => F fun v => k v h := funext fun k => he h k
    rw [this]
    exact Gn.bind (P := CpK) CpK.no hF fun v => .ret v h
  · cases op with
    | ld1 x => exact Gn.onPtr CpK.no fun b i => Gn.bind (P := CpK) CpK.no (F := fun k => h.ld1 b i k) (.ld1 h b i) fun v => .ret _ _
    | ldn n x => exact Gn.onPtr CpK.no fun b i => Gn.bind (P := CpK) CpK.no (F := fun k => h.ldn b i n k) (.ldn h b i n) fun v => .ret _ _
    | lenm x => exact Gn.onMap (P := CpK) (Gn.ifK CpK.no (.ret _ _)) fun r => Gn.bind (P := CpK) CpK.no (F := fun k => h.mapK r k) (.mapK h r) fun es => .ret _ _
    | lkp ag sh z ok x i =>
      change CpK fun k => keyCells ag (i.ev t) fun c => ifK (Nat.beq (llen c) (llen sh)) ((x.ev t).onMap (ifK (x.ev t).isNilm (lkR z ok none fun v => k v h)) fun r => h.mapK r fun es => findK S ag sh (i.ev t) es fun f => lkR z ok f fun v => k v h)
      refine Gn.bind (P := CpK) CpK.no (F := fun k => keyCells ag (i.ev t) k) (.keyCells _ _) fun c => Gn.ifK CpK.no (Gn.onMap (P := CpK) (Gn.ifK CpK.no ?_) fun r => ?_)
      · exact Gn.bind (P := CpK) CpK.no (F := fun k => lkR z ok none k) (.lkR _ _ _) fun v => .ret _ _
      · exact Gn.bind (P := CpK) CpK.no (F := fun k => h.mapK r k) (.mapK h r) fun es => Gn.bind (P := CpK) CpK.no (F := fun k => findK S ag sh (i.ev t) es k) (.findK _ _ _ _ _) fun f => Gn.bind (P := CpK) CpK.no (F := fun k => lkR z ok f k) (.lkR _ _ _) fun v => .ret _ _
    | new zs => exact Gn.alloc (P := CpK) (h := h) (o := mkO zs) (G := fun r h' k => k (.ptr r 0) h') fun _ _ => .ret _ _
    | box x => exact Gn.ifK CpK.no (Gn.alloc (P := CpK) fun _ _ => .ret _ _)
    | bslice n zs ps => exact Gn.bind (P := CpK) CpK.no (F := fun k => fillK ps t zs k) (.fillK _ _ _) fun l => Gn.alloc (P := CpK) fun _ _ => .ret _ _
    | mkmap => exact Gn.alloc (P := CpK) (h := h) (o := .mp []) (G := fun r h' k => k (.map r) h') fun _ _ => .ret _ _
    | mkslice e zs b l c => exact Gn.nat CpK.no fun n => Gn.nat CpK.no fun m => Gn.ifK CpK.no (Gn.ifK CpK.no (Gn.ifK CpK.no (Gn.alloc (P := CpK) fun _ _ => .ret _ _)))
    | st1 a x => exact Gn.onPtr CpK.no fun b i => Gn.bind (P := CpK) CpK.no (F := fun k => h.st1 b i (x.ev t) k) (.st1 h b i _) fun h' => .ret _ _
    | stn n a x => exact Gn.onPtr CpK.no fun b i => Gn.onAgg CpK.no fun c => Gn.ifK CpK.no (Gn.bind (P := CpK) CpK.no (F := fun k => h.stn b i c k) (.stn h b i c) fun h' => .ret _ _)
    | mset ag sh m key x =>
      change CpK fun k => keyCells ag (key.ev t) fun c => ifK (Nat.beq (llen c) (llen sh)) ((m.ev t).onMap none fun r => h.mapK r fun es => setKK S ag sh (key.ev t) (x.ev t) es fun es' => k (.tup []) (h.put r (.mp es')))
      refine Gn.bind (P := CpK) CpK.no (F := fun k => keyCells ag (key.ev t) k) (.keyCells _ _) fun c => Gn.ifK CpK.no (Gn.onMap (P := CpK) CpK.no fun r => ?_)
      exact Gn.bind (P := CpK) CpK.no (F := fun k => h.mapK r k) (.mapK h r) fun es => Gn.bind (P := CpK) CpK.no (F := fun k => setKK S ag sh (key.ev t) (x.ev t) es k) (.setKK _ _ _ _ _ _) fun es' => .ret _ _
    | del ag sh m key =>
      change CpK fun k => keyCells ag (key.ev t) fun c => ifK (Nat.beq (llen c) (llen sh)) ((m.ev t).onMap none fun r => h.mapK r fun es => delKK S ag sh (key.ev t) es fun es' => k (.tup []) (h.put r (.mp es')))
      refine Gn.bind (P := CpK) CpK.no (F := fun k => keyCells ag (key.ev t) k) (.keyCells _ _) fun c => Gn.ifK CpK.no (Gn.onMap (P := CpK) CpK.no fun r => ?_)
      exact Gn.bind (P := CpK) CpK.no (F := fun k => h.mapK r k) (.mapK h r) fun es => Gn.bind (P := CpK) CpK.no (F := fun k => delKK S ag sh (key.ev t) es k) (.delKK _ _ _ _ _) fun es' => .ret _ _
    | call f as => exact callV_nat hE _ _ _
    | app esz s x =>
      change CpK fun k => lenK (s.ev t) fun len => lenK (x.ev t) fun n => h.elems esz (x.ev t) n fun new => ifK (Nat.ble (Nat.add len n) 1073741824) (doApp h esz (s.ev t) new n k)
      exact Gn.bind (P := CpK) CpK.no (F := fun k => lenK (s.ev t) k) (.lenK _) fun len => Gn.bind (P := CpK) CpK.no (F := fun k => lenK (x.ev t) k) (.lenK _) fun n => Gn.bind (P := CpK) CpK.no (F := fun k => h.elems esz (x.ev t) n k) (.elems h esz _ n) fun new => Gn.ifK CpK.no (doApp_nat h esz _ new n)
    | copy esz d s =>
      change CpK fun k => lenK (d.ev t) fun dn => lenK (s.ev t) fun sn => h.elems esz (s.ev t) (Nat.min sn dn) fun cs =>
        (d.ev t).onSl (k (.int .i64 (.ofNat (Nat.min sn dn))) h) fun b o _ _ _ => h.stn b o cs fun h' => k (.int .i64 (.ofNat (Nat.min sn dn))) h'
      exact Gn.bind (P := CpK) CpK.no (F := fun k => lenK (d.ev t) k) (.lenK _) fun dn => Gn.bind (P := CpK) CpK.no (F := fun k => lenK (s.ev t) k) (.lenK _) fun sn => Gn.bind (P := CpK) CpK.no (F := fun k => h.elems esz (s.ev t) (Nat.min sn dn) k) (.elems h esz _ _) fun cs => Gn.onSl (P := CpK) (.ret _ _) fun b o _ _ _ => Gn.bind (P := CpK) CpK.no (F := fun k => h.stn b o cs k) (.stn h b o cs) fun h' => .ret _ _
    | clear zs x => exact Gn.onSl (P := CpK) CpK.no fun b o n _ _ => Gn.bind (P := CpK) CpK.no (F := fun k => h.stn b o (repl zs n) k) (.stn h b o _) fun h' => .ret _ _
    | appz e zs s n => exact Gn.nat CpK.no fun m => Gn.ifK CpK.no (Gn.ifK CpK.no (Gn.ifK CpK.no (Gn.alloc (P := CpK) fun _ _ => .ret _ _)))
    | bad => exact CpK.no
    | _ => exact absurd rfl h0

theorem wantK_nat (hE : EnvNat call round loop) {κ : Type} {P : (κ → R) → Prop} (g : Option (Pos × Bool)) (t : T) {F G : κ → R} (hF : P F) (hG : P G) : P (fun k => wantK g t (F k) (G k)) := by
  cases g with
  | none => exact hG
  | some p =>
    obtain ⟨d, w⟩ := p
    show P (fun k => V.on ((Opd.t d).ev t) (F k) (fun b => Bool.rec (motive := fun _ => R) (F k) (G k) (beqB b w)) _ _ _ _ _ _ _)
    cases (Opd.t d).ev t with
    | bool b => exact Gn.bool hF hG
    | _ => exact hF

theorem opers_nat (hE : EnvNat call round loop) (l : List IOpr) : ∀ t h, CpT (opers S l (.mk call round loop) t h) := by
  induction l with
  | nil => intro t h; exact .ret t h
  | cons o l ih =>
    intro t h
    obtain ⟨d, g, late, op⟩ := o
    exact wantK_nat hE (P := CpT) g t (ih _ _) (Gn.bindK (P := CpT) CpT.no (exec_nat hE op t h) fun v h' => ih _ _)

theorem rechk_nat (hE : EnvNat call round loop) (h : H) (l : List Pend) : Cp (rechk S (.mk call round loop) h l) := by
  induction l with
  | nil => exact .ret _
  | cons p l ih =>
    obtain ⟨n, op, t, v⟩ := p
    cases n with
    | zero => exact ih
    | succ n =>
      change Cp fun k => exec S (.mk call round loop) op t h fun v' _ => ifK (vsame v v') (rechk S (.mk call round loop) h l fun l' => k (⟨n, op, t, v⟩ :: l'))
      exact Gn.bindK (P := Cp) .none (exec_nat hE op t h) fun v' _ => .ifK (Cp.bind (F := fun k => rechk S (.mk call round loop) h l k) (G := fun l' k => k (⟨n, op, t, v⟩ :: l')) ih fun l' => .ret _)

theorem isK3_eq (hE : EnvNat call round loop) (op : IOp) (a b : R) : isK3 op a b = if op.kind = 3 then a else b := by
  cases op <;> rfl

theorem opersD_nat (hE : EnvNat call round loop) (l : List IOpr) : ∀ pend t h, CpT (opersD S l (.mk call round loop) pend t h) := by
  induction l with
  | nil => intro _ t h; exact .ret t h
  | cons o l ih =>
    intro pend t h
    obtain ⟨d, g, late, op⟩ := o
    refine wantK_nat hE (P := CpT) g t (F := fun k => isK3 op (rechk S (.mk call round loop) h pend fun pend' => opersD S l (.mk call round loop) pend' (tset d (.tup []) t) h k) (opersD S l (.mk call round loop) pend (tset d (.tup []) t) h k))
      (G := fun k => exec S (.mk call round loop) op t h fun v h' => isK3 op (rechk S (.mk call round loop) h' pend fun pend' => opersD S l (.mk call round loop) pend' (tset d v t) h' k) (Ab.ifK (mkOk op h) (opersD S l (.mk call round loop) (pendAdd late op t v pend) (tset d v t) h' k))) ?_ ?_
    · simp only [isK3_eq hE]
      by_cases h3 : op.kind = 3
      · simp only [h3, if_true]; exact Gn.bind (P := CpT) CpT.no (rechk_nat hE h pend) fun p => ih _ _ _
      · simp only [h3, if_false]; exact ih _ _ _
    · refine Gn.bindK (P := CpT) CpT.no (exec_nat hE op t h) (G := fun v h' k => isK3 op (rechk S (.mk call round loop) h' pend fun pend' => opersD S l (.mk call round loop) pend' (tset d v t) h' k) (Ab.ifK (mkOk op h) (opersD S l (.mk call round loop) (pendAdd late op t v pend) (tset d v t) h' k))) fun v h' => ?_
      simp only [isK3_eq hE]
      by_cases h3 : op.kind = 3
      · simp only [h3, if_true]; exact Gn.bind (P := CpT) CpT.no (rechk_nat hE h' pend) fun p => ih _ _ _
      · simp only [h3, if_false]; exact Gn.ifK CpT.no (ih _ _ _)

theorem loopK_nat (hE : EnvNat call round loop) {κ : Type} {P : (κ → R) → Prop} (hn : P fun _ => none) (h : H) (l : Pos) {G : Nat → T → List Pos → IC → IC → κ → R} (hG : ∀ a b c d e, P (G a b c d e)) : P (fun k => h.loopK l fun a b c d e => G a b c d e k) :=
  Gn.bind (P := P) hn (F := fun k => h.getK l k) (.getH h l) (G := fun o k => O.rec (motive := fun _ => R) (fun _ => none) (fun _ _ _ _ => none) (fun _ => none) (fun a b c d e => G a b c d e k) none o)
    fun o => by cases o <;> first | exact hG _ _ _ _ _ | exact hn

theorem code_nat (hE : EnvNat call round loop) (c : IC) : ∀ t h, CpE fun k => code S c (.mk call round loop) t h k.1 k.2 := by
  induction c with
  | skip => intro t h; exact .ret t h
  | ret => intro t h; exact .out none t h
  | bad => intro t h; exact CpE.no
  | reg ops => intro t h; exact Gn.bindT (P := CpE) CpE.no (opers_nat hE ops t h) fun t h => .ret t h
  | regd ops => intro t h; exact Gn.bindT (P := CpE) CpE.no (opersD_nat hE ops [] t h) fun t h => .ret t h
  | seq a b iha ihb => intro t h; exact Gn.bindE (P := CpE) CpE.no (iha t h) (fun t h => ihb t h) fun e t h => .out e t h
  | cond c a b iha ihb => intro t h; exact Gn.onBool CpE.no fun w => Gn.bool (P := CpE) (ihb t h) (iha t h)
  | block id b ih =>
    intro t h
    exact Gn.bindE (P := CpE) CpE.no (ih t h) (fun t h => .ret t h) (G' := fun e t h k => Option.rec (motive := fun _ => R) (k.2 none t h) (fun j => Bool.rec (motive := fun _ => R) (k.2 (some j) t h) (k.1 t h) (Nat.beq j id)) e)
      fun e t h => Gn.opt (P := CpE) (.out none t h) fun j => Gn.bool (P := CpE) (.out _ t h) (.ret t h)
  | loop b ih => intro t h; exact hE.loop b t h
  | exit id => intro t h; exact .out (some id) t h
  | rfun f ps as bd _ _ =>
    intro t h
    change CpE fun k => h.alloc (.loop 0 t ps as bd) fun l h1 => Env.callFn (.mk call round loop) (f.ev t) [.yield l] h1 fun _ h2 => h2.loopK l fun st _ _ _ _ => Nat.rec (motive := fun _ => R) (k.1 t (h2.put l .dead))
        (fun s _ => Nat.rec (motive := fun _ => R) none (fun s _ => Nat.rec (motive := fun _ => R) (k.2 none t (h2.put l .dead)) (fun id _ => k.2 (some id) t (h2.put l .dead)) s) s) st
    refine Gn.alloc (P := CpE) fun l h1 => Gn.bindK (P := CpE) CpE.no (callFn_nat hE (f.ev t) [.yield l] h1) fun _ h2 => loopK_nat hE (P := CpE) CpE.no h2 l fun st _ _ _ _ => ?_
    cases st with
    | zero => exact .ret _ _
    | succ s => cases s with
      | zero => exact CpE.no
      | succ s => cases s with
        | zero => exact .out none _ _
        | succ s => exact .out (some s) _ _

theorem resK_nat (hE : EnvNat call round loop) (l : List (Pos × Option Nat × Bool)) (t : T) (h : H) : Cp (resK l t h) := by
  induction l with
  | nil => exact .ret _
  | cons r l ih =>
    obtain ⟨p, n, ag⟩ := r
    refine Cp.opt (D := fun k => resK l t h fun vs => k ((Opd.t p).ev t :: vs)) (G := fun n k => ((Opd.t p).ev t).onPtr fun b i => Bool.rec (motive := fun _ => R)
          (h.ld1 b i fun v => resK l t h fun vs => k (v :: vs)) (h.ldn b i n fun c => resK l t h fun vs => k (.agg c :: vs)) ag) ?_ fun n => .onPtr fun b i => .bool ?_ ?_
    · exact Cp.bind (F := resK l t h) (G := fun vs k => k ((Opd.t p).ev t :: vs)) ih fun vs => .ret _
    · exact Cp.bind (F := fun k => h.ld1 b i k) (G := fun v k => resK l t h fun vs => k (v :: vs)) (.ld1 h b i) fun v => Cp.bind (F := resK l t h) (G := fun vs k => k (v :: vs)) ih fun vs => .ret _
    · exact Cp.bind (F := fun k => h.ldn b i n k) (G := fun c k => resK l t h fun vs => k (.agg c :: vs)) (.ldn h b i n) fun v => Cp.bind (F := resK l t h) (G := fun vs k => k (.agg v :: vs)) ih fun vs => .ret _

theorem tsets_nat (hE : EnvNat call round loop) {κ : Type} {P : (κ → R) → Prop} (hn : P fun _ => none) (ps : List Pos) : ∀ (vs : List V) (t : T) {G : T → κ → R}, (∀ t, P (G t)) → P (fun k => tsets ps vs t fun t => G t k) := by
  induction ps with
  | nil => intro vs t G hG; cases vs; exact hG t; exact hn
  | cons p ps ih => intro vs t G hG; cases vs; exact hn; exact ih _ _ hG

theorem runF_nat (hE : EnvNat call round loop) (tab : Tr IFn) (f : Nat) (args : List V) (h : H) : CpK (runF S tab (.mk call round loop) f args h) := by
  unfold runF
  cases tab.get (Pos.of f) with
  | none => exact CpK.no
  | some fn =>
  obtain ⟨body, nt, res⟩ := fn
  change CpK fun k => ifK (Nat.ble (llen args) nt) (code S body (.mk call round loop) (ofL args 0 .nil) h (fun t h' => resK res t h' fun vs => k (resV vs) h')
      (fun e t h' => Option.rec (motive := fun _ => R) (resK res t h' fun vs => k (resV vs) h') (fun _ => none) e))
  refine Gn.ifK CpK.no ?_
  refine Gn.bindE (P := CpK) CpK.no (code_nat hE body _ h) (fun t h' => ?_) fun e t h' => ?_
  · exact Gn.bind (P := CpK) CpK.no (resK_nat hE res t h') fun vs => .ret _ _
  · exact Gn.opt (P := CpK) (Gn.bind (P := CpK) CpK.no (resK_nat hE res t h') fun vs => .ret _ _) fun _ => CpK.no

theorem runR_nat (hE : EnvNat call round loop) (l : Pos) (args : List V) (h : H) : CpK (runR S (.mk call round loop) l args h) := by
  unfold runR
  refine loopK_nat hE (P := CpK) CpK.no h l fun st t ps as bd => Gn.ifK CpK.no (tsets_nat hE (P := CpK) CpK.no ps args t fun t1 => ?_)
  refine Gn.bindE (P := CpK) CpK.no (code_nat hE as t1 h) (fun t2 h1 => ?_) fun e t h => CpK.no
  refine loopK_nat hE (P := CpK) CpK.no h1 l fun st' t' ps' as' bd' => Gn.ifK CpK.no ?_
  refine Gn.bindE (P := CpK) CpK.no (code_nat hE bd t2 _) (fun _ h2 => ?_) fun e _ h2 => ?_
  · exact loopK_nat hE (P := CpK) CpK.no h2 l fun _ _ _ _ _ => .ret _ _
  · exact loopK_nat hE (P := CpK) CpK.no h2 l fun _ _ _ _ _ => .ret _ _
end

/-- contracts hand on one thing at most -/
def OrcNat (orc : Orc) : Prop := ∀ f args h c, orc f args h = some c → CpK c

theorem env_nat {S : Sy} {orc : Orc} (ho : OrcNat orc) (tab : Tr IFn) (n : Nat) : ∃ call round loop, env S orc tab n = .mk call round loop ∧ EnvNat call round loop := by
  induction n with
  | zero => exact ⟨_, _, _, rfl, fun _ _ _ => CpK.no, fun _ _ _ => CpK.no, fun _ _ _ => CpE.no⟩
  | succ n ih =>
    obtain ⟨call, round, loop, e, hE⟩ := ih
    have : env S orc tab (n + 1) = .mk (fun f args h k => Option.rec (motive := fun _ => R) (runF S tab (env S orc tab n) f args h k) (fun c => c k) (orc f args h)) (runR S (env S orc tab n))
      (fun b t h kn kx => code S b (env S orc tab n) t h (fun t h => Env.rec (motive := fun _ => R) (fun _ _ l => l b t h kn kx) (env S orc tab n)) kx) := rfl
    rw [e] at this
    refine ⟨_, _, _, this, fun f args h => ?_, fun l args h => runR_nat hE l args h, fun b t h => ?_⟩
    · cases hc : orc f args h with
      | none => exact runF_nat hE tab f args h
      | some c => exact ho f args h c hc
    · exact Gn.bindE (P := CpE) CpE.no (code_nat hE b t h) (fun t h => hE.loop b t h) fun e t h => .out e t h
end Go.Ab
