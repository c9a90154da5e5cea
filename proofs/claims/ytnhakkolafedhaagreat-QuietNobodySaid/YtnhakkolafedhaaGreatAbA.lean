/- The abstract interpreter: places, tries, values, instructions, and how they are run (everything by recursors, so that the kernel runs it fast). -/
import GoSem.Step
set_option linter.unusedVariables false
set_option linter.unusedSimpArgs false
namespace Go.Ab

/-- a digit -/
inductive D4 where
  | k0
  | k1
  | k2
  | k3
structure N4 (β : Type) where
  a : β
  b : β
  c : β
  d : β
/-- far out: in binary -/
inductive Pb where
  | one
  | o (p : Pb)
  | i (p : Pb)
inductive Pos where
  | s (x y z : D4)
  | m (p q r v x y z : D4)
  | far (p : Pb)

noncomputable def Pb.succ (p : Pb) : Pb := Pb.rec (.o .one) (fun q _ => .i q) (fun _ ih => .o ih) p
/-- the next digit, or on -/
noncomputable def D4.inc (d : D4) (k : D4 → Pos) (c : Pos) : Pos :=
  D4.rec (motive := fun _ => (D4 → Pos) → Pos → Pos) (fun k _ => k .k1) (fun k _ => k .k2) (fun k _ => k .k3) (fun _ c => c) d k c
noncomputable def Pos.succ (p : Pos) : Pos := Pos.rec (motive := fun _ => Pos)
  (fun x y z => z.inc (fun z => .s x y z) (y.inc (fun y => .s x y .k0) (x.inc (fun x => .s x .k0 .k0) (.m .k0 .k0 .k0 .k0 .k0 .k0 .k0))))
  (fun p q r v x y z => z.inc (fun z => .m p q r v x y z) (y.inc (fun y => .m p q r v x y .k0) (x.inc (fun x => .m p q r v x .k0 .k0)
    (v.inc (fun v => .m p q r v .k0 .k0 .k0) (r.inc (fun r => .m p q r .k0 .k0 .k0 .k0) (q.inc (fun q => .m p q .k0 .k0 .k0 .k0 .k0) (p.inc (fun p => .m p .k0 .k0 .k0 .k0 .k0 .k0) (.far .one))))))))
  (fun p => .far p.succ) p

inductive Tb (α : Type) where
  | nil
  | node (v : Option α) (l r : Tb α)

noncomputable def Tb.get {α : Type} (t : Tb α) : Pb → Option α :=
  Tb.rec (motive := fun _ => Pb → Option α) (fun _ => none)
    (fun v _ _ ihl ihr p => Pb.rec (motive := fun _ => Option α) v (fun q _ => ihl q) (fun q _ => ihr q) p) t

noncomputable def Tb.put {α : Type} (p : Pb) (x : α) : Tb α → Tb α :=
  Pb.rec (motive := fun _ => Tb α → Tb α)
    (fun t => Tb.rec (motive := fun _ => Tb α) (.node (some x) .nil .nil) (fun _ l r _ _ => .node (some x) l r) t)
    (fun _ ih t => Tb.rec (motive := fun _ => Tb α) (.node none (ih .nil) .nil) (fun v l r _ _ => .node v (ih l) r) t)
    (fun _ ih t => Tb.rec (motive := fun _ => Tb α) (.node none .nil (ih .nil)) (fun v l r _ _ => .node v l (ih r)) t) p

def N4.all {β : Type} (x : β) : N4 β := ⟨x, x, x, x⟩
noncomputable def D4.sel {β : Type} (d : D4) (n : N4 β) : β :=
  D4.rec (motive := fun _ => N4 β → β) (fun n => n.a) (fun n => n.b) (fun n => n.c) (fun n => n.d) d n
noncomputable def D4.upd {β : Type} (d : D4) (f : β → β) (n : N4 β) : N4 β :=
  D4.rec (motive := fun _ => (β → β) → N4 β → N4 β) (fun f n => N4.rec (motive := fun _ => N4 β) (fun a b c d => ⟨f a, b, c, d⟩) n) (fun f n => N4.rec (motive := fun _ => N4 β) (fun a b c d => ⟨a, f b, c, d⟩) n)
    (fun f n => N4.rec (motive := fun _ => N4 β) (fun a b c d => ⟨a, b, f c, d⟩) n) (fun f n => N4.rec (motive := fun _ => N4 β) (fun a b c d => ⟨a, b, c, f d⟩) n) d f n

structure Tr (α : Type) where
  s : N4 (N4 (N4 (Option α)))
  m : N4 (N4 (N4 (N4 (N4 (N4 (N4 (Option α)))))))
  f : Tb α

/-! here all is written out: what a definition's name hides is not kept by the kernel -/
noncomputable def Tr.nil {α : Type} : Tr α := ⟨((fun x : N4 (N4 (Option α)) => (⟨x, x, x, x⟩ : N4 (N4 (N4 (Option α))))) ((fun x : N4 (Option α) => (⟨x, x, x, x⟩ : N4 (N4 (Option α)))) ((fun x : Option α => (⟨x, x, x, x⟩ : N4 (Option α))) none))),
  ((fun x : N4 (N4 (N4 (N4 (N4 (N4 (Option α)))))) => (⟨x, x, x, x⟩ : N4 (N4 (N4 (N4 (N4 (N4 (N4 (Option α))))))))) ((fun x : N4 (N4 (N4 (N4 (N4 (Option α))))) => (⟨x, x, x, x⟩ : N4 (N4 (N4 (N4 (N4 (N4 (Option α)))))))) ((fun x : N4 (N4 (N4 (N4 (Option α)))) => (⟨x, x, x, x⟩ : N4 (N4 (N4 (N4 (N4 (Option α))))))) ((fun x : N4 (N4 (N4 (Option α))) => (⟨x, x, x, x⟩ : N4 (N4 (N4 (N4 (Option α)))))) ((fun x : N4 (N4 (Option α)) => (⟨x, x, x, x⟩ : N4 (N4 (N4 (Option α))))) ((fun x : N4 (Option α) => (⟨x, x, x, x⟩ : N4 (N4 (Option α)))) ((fun x : Option α => (⟨x, x, x, x⟩ : N4 (Option α))) none))))))), .nil⟩

noncomputable def Tr.get {α : Type} (t : Tr α) (p : Pos) : Option α :=
  Pos.rec (motive := fun _ => Tr α → Option α) (fun x y z t => (D4.rec (motive := fun _ => N4 (Option α) → Option α) (fun n => n.a) (fun n => n.b) (fun n => n.c) (fun n => n.d) z (D4.rec (motive := fun _ => N4 (N4 (Option α)) → N4 (Option α)) (fun n => n.a) (fun n => n.b) (fun n => n.c) (fun n => n.d) y (D4.rec (motive := fun _ => N4 (N4 (N4 (Option α))) → N4 (N4 (Option α))) (fun n => n.a) (fun n => n.b) (fun n => n.c) (fun n => n.d) x t.s))))
    (fun p q r v x y z t => (D4.rec (motive := fun _ => N4 (Option α) → Option α) (fun n => n.a) (fun n => n.b) (fun n => n.c) (fun n => n.d) z (D4.rec (motive := fun _ => N4 (N4 (Option α)) → N4 (Option α)) (fun n => n.a) (fun n => n.b) (fun n => n.c) (fun n => n.d) y (D4.rec (motive := fun _ => N4 (N4 (N4 (Option α))) → N4 (N4 (Option α))) (fun n => n.a) (fun n => n.b) (fun n => n.c) (fun n => n.d) x (D4.rec (motive := fun _ => N4 (N4 (N4 (N4 (Option α)))) → N4 (N4 (N4 (Option α)))) (fun n => n.a) (fun n => n.b) (fun n => n.c) (fun n => n.d) v (D4.rec (motive := fun _ => N4 (N4 (N4 (N4 (N4 (Option α))))) → N4 (N4 (N4 (N4 (Option α))))) (fun n => n.a) (fun n => n.b) (fun n => n.c) (fun n => n.d) r (D4.rec (motive := fun _ => N4 (N4 (N4 (N4 (N4 (N4 (Option α)))))) → N4 (N4 (N4 (N4 (N4 (Option α)))))) (fun n => n.a) (fun n => n.b) (fun n => n.c) (fun n => n.d) q (D4.rec (motive := fun _ => N4 (N4 (N4 (N4 (N4 (N4 (N4 (Option α))))))) → N4 (N4 (N4 (N4 (N4 (N4 (Option α))))))) (fun n => n.a) (fun n => n.b) (fun n => n.c) (fun n => n.d) p t.m)))))))) (fun p t => t.f.get p) p t

noncomputable def Tr.put {α : Type} (p : Pos) (w : α) (t : Tr α) : Tr α :=
  Pos.rec (motive := fun _ => α → Tr α → Tr α)
    (fun x y z w t => Tr.rec (motive := fun _ => Tr α) (fun s m f => ⟨(D4.rec (motive := fun _ => (N4 (N4 (Option α)) → N4 (N4 (Option α))) → N4 (N4 (N4 (Option α))) → N4 (N4 (N4 (Option α)))) (fun f n => N4.rec (motive := fun _ => N4 (N4 (N4 (Option α)))) (fun a b c d => ⟨f a, b, c, d⟩) n) (fun f n => N4.rec (motive := fun _ => N4 (N4 (N4 (Option α)))) (fun a b c d => ⟨a, f b, c, d⟩) n) (fun f n => N4.rec (motive := fun _ => N4 (N4 (N4 (Option α)))) (fun a b c d => ⟨a, b, f c, d⟩) n) (fun f n => N4.rec (motive := fun _ => N4 (N4 (N4 (Option α)))) (fun a b c d => ⟨a, b, c, f d⟩) n) x (fun n => (D4.rec (motive := fun _ => (N4 (Option α) → N4 (Option α)) → N4 (N4 (Option α)) → N4 (N4 (Option α))) (fun f n => N4.rec (motive := fun _ => N4 (N4 (Option α))) (fun a b c d => ⟨f a, b, c, d⟩) n) (fun f n => N4.rec (motive := fun _ => N4 (N4 (Option α))) (fun a b c d => ⟨a, f b, c, d⟩) n) (fun f n => N4.rec (motive := fun _ => N4 (N4 (Option α))) (fun a b c d => ⟨a, b, f c, d⟩) n) (fun f n => N4.rec (motive := fun _ => N4 (N4 (Option α))) (fun a b c d => ⟨a, b, c, f d⟩) n) y (fun n => (D4.rec (motive := fun _ => (Option α → Option α) → N4 (Option α) → N4 (Option α)) (fun f n => N4.rec (motive := fun _ => N4 (Option α)) (fun a b c d => ⟨f a, b, c, d⟩) n) (fun f n => N4.rec (motive := fun _ => N4 (Option α)) (fun a b c d => ⟨a, f b, c, d⟩) n) (fun f n => N4.rec (motive := fun _ => N4 (Option α)) (fun a b c d => ⟨a, b, f c, d⟩) n) (fun f n => N4.rec (motive := fun _ => N4 (Option α)) (fun a b c d => ⟨a, b, c, f d⟩) n) z (fun _ => some w) n)) n)) s), m, f⟩) t)
    (fun p q r v x y z w t => Tr.rec (motive := fun _ => Tr α) (fun s m f => ⟨s, (D4.rec (motive := fun _ => (N4 (N4 (N4 (N4 (N4 (N4 (Option α)))))) → N4 (N4 (N4 (N4 (N4 (N4 (Option α))))))) → N4 (N4 (N4 (N4 (N4 (N4 (N4 (Option α))))))) → N4 (N4 (N4 (N4 (N4 (N4 (N4 (Option α)))))))) (fun f n => N4.rec (motive := fun _ => N4 (N4 (N4 (N4 (N4 (N4 (N4 (Option α)))))))) (fun a b c d => ⟨f a, b, c, d⟩) n) (fun f n => N4.rec (motive := fun _ => N4 (N4 (N4 (N4 (N4 (N4 (N4 (Option α)))))))) (fun a b c d => ⟨a, f b, c, d⟩) n) (fun f n => N4.rec (motive := fun _ => N4 (N4 (N4 (N4 (N4 (N4 (N4 (Option α)))))))) (fun a b c d => ⟨a, b, f c, d⟩) n) (fun f n => N4.rec (motive := fun _ => N4 (N4 (N4 (N4 (N4 (N4 (N4 (Option α)))))))) (fun a b c d => ⟨a, b, c, f d⟩) n) p (fun n => (D4.rec (motive := fun _ => (N4 (N4 (N4 (N4 (N4 (Option α))))) → N4 (N4 (N4 (N4 (N4 (Option α)))))) → N4 (N4 (N4 (N4 (N4 (N4 (Option α)))))) → N4 (N4 (N4 (N4 (N4 (N4 (Option α))))))) (fun f n => N4.rec (motive := fun _ => N4 (N4 (N4 (N4 (N4 (N4 (Option α))))))) (fun a b c d => ⟨f a, b, c, d⟩) n) (fun f n => N4.rec (motive := fun _ => N4 (N4 (N4 (N4 (N4 (N4 (Option α))))))) (fun a b c d => ⟨a, f b, c, d⟩) n) (fun f n => N4.rec (motive := fun _ => N4 (N4 (N4 (N4 (N4 (N4 (Option α))))))) (fun a b c d => ⟨a, b, f c, d⟩) n) (fun f n => N4.rec (motive := fun _ => N4 (N4 (N4 (N4 (N4 (N4 (Option α))))))) (fun a b c d => ⟨a, b, c, f d⟩) n) q (fun n => (D4.rec (motive := fun _ => (N4 (N4 (N4 (N4 (Option α)))) → N4 (N4 (N4 (N4 (Option α))))) → N4 (N4 (N4 (N4 (N4 (Option α))))) → N4 (N4 (N4 (N4 (N4 (Option α)))))) (fun f n => N4.rec (motive := fun _ => N4 (N4 (N4 (N4 (N4 (Option α)))))) (fun a b c d => ⟨f a, b, c, d⟩) n) (fun f n => N4.rec (motive := fun _ => N4 (N4 (N4 (N4 (N4 (Option α)))))) (fun a b c d => ⟨a, f b, c, d⟩) n) (fun f n => N4.rec (motive := fun _ => N4 (N4 (N4 (N4 (N4 (Option α)))))) (fun a b c d => ⟨a, b, f c, d⟩) n) (fun f n => N4.rec (motive := fun _ => N4 (N4 (N4 (N4 (N4 (Option α)))))) (fun a b c d => ⟨a, b, c, f d⟩) n) r (fun n => (D4.rec (motive := fun _ => (N4 (N4 (N4 (Option α))) → N4 (N4 (N4 (Option α)))) → N4 (N4 (N4 (N4 (Option α)))) → N4 (N4 (N4 (N4 (Option α))))) (fun f n => N4.rec (motive := fun _ => N4 (N4 (N4 (N4 (Option α))))) (fun a b c d => ⟨f a, b, c, d⟩) n) (fun f n => N4.rec (motive := fun _ => N4 (N4 (N4 (N4 (Option α))))) (fun a b c d => ⟨a, f b, c, d⟩) n) (fun f n => N4.rec (motive := fun _ => N4 (N4 (N4 (N4 (Option α))))) (fun a b c d => ⟨a, b, f c, d⟩) n) (fun f n => N4.rec (motive := fun _ => N4 (N4 (N4 (N4 (Option α))))) (fun a b c d => ⟨a, b, c, f d⟩) n) v (fun n => (D4.rec (motive := fun _ => (N4 (N4 (Option α)) → N4 (N4 (Option α))) → N4 (N4 (N4 (Option α))) → N4 (N4 (N4 (Option α)))) (fun f n => N4.rec (motive := fun _ => N4 (N4 (N4 (Option α)))) (fun a b c d => ⟨f a, b, c, d⟩) n) (fun f n => N4.rec (motive := fun _ => N4 (N4 (N4 (Option α)))) (fun a b c d => ⟨a, f b, c, d⟩) n) (fun f n => N4.rec (motive := fun _ => N4 (N4 (N4 (Option α)))) (fun a b c d => ⟨a, b, f c, d⟩) n) (fun f n => N4.rec (motive := fun _ => N4 (N4 (N4 (Option α)))) (fun a b c d => ⟨a, b, c, f d⟩) n) x (fun n => (D4.rec (motive := fun _ => (N4 (Option α) → N4 (Option α)) → N4 (N4 (Option α)) → N4 (N4 (Option α))) (fun f n => N4.rec (motive := fun _ => N4 (N4 (Option α))) (fun a b c d => ⟨f a, b, c, d⟩) n) (fun f n => N4.rec (motive := fun _ => N4 (N4 (Option α))) (fun a b c d => ⟨a, f b, c, d⟩) n) (fun f n => N4.rec (motive := fun _ => N4 (N4 (Option α))) (fun a b c d => ⟨a, b, f c, d⟩) n) (fun f n => N4.rec (motive := fun _ => N4 (N4 (Option α))) (fun a b c d => ⟨a, b, c, f d⟩) n) y (fun n => (D4.rec (motive := fun _ => (Option α → Option α) → N4 (Option α) → N4 (Option α)) (fun f n => N4.rec (motive := fun _ => N4 (Option α)) (fun a b c d => ⟨f a, b, c, d⟩) n) (fun f n => N4.rec (motive := fun _ => N4 (Option α)) (fun a b c d => ⟨a, f b, c, d⟩) n) (fun f n => N4.rec (motive := fun _ => N4 (Option α)) (fun a b c d => ⟨a, b, f c, d⟩) n) (fun f n => N4.rec (motive := fun _ => N4 (Option α)) (fun a b c d => ⟨a, b, c, f d⟩) n) z (fun _ => some w) n)) n)) n)) n)) n)) n)) m), f⟩) t)
    (fun p w t => Tr.rec (motive := fun _ => Tr α) (fun s m f => ⟨s, m, f.put p w⟩) t) p w t

noncomputable def Pb.go (f : Nat) : Nat → Pb :=
  Nat.rec (motive := fun _ => Nat → Pb) (fun _ => .one)
    (fun _ ih n => Bool.rec (motive := fun _ => Pb)
      (Nat.rec (motive := fun _ => Pb) (.o (ih (Nat.div n 2))) (fun _ _ => .i (ih (Nat.div n 2))) (Nat.mod n 2)) .one (Nat.ble n 1)) f
noncomputable def D4.of (n : Nat) : D4 :=
  Nat.rec (motive := fun _ => D4) .k0 (fun k _ => Nat.rec (motive := fun _ => D4) .k1 (fun k _ => Nat.rec (motive := fun _ => D4) .k2 (fun _ _ => .k3) k) k) (Nat.mod n 4)
noncomputable def Pos.ofm (n : Nat) : Pos := .m (.of (Nat.div n 4096)) (.of (Nat.div n 1024)) (.of (Nat.div n 256)) (.of (Nat.div n 64)) (.of (Nat.div n 16)) (.of (Nat.div n 4)) (.of n)
noncomputable def Pos.of (n : Nat) : Pos :=
  Bool.rec (motive := fun _ => Pos) (Bool.rec (motive := fun _ => Pos) (.far (Pb.go (Nat.sub n 16447) (Nat.sub n 16447))) (Pos.ofm (Nat.sub n 64)) (Nat.ble n 16447))
    (.s (.of (Nat.div n 16)) (.of (Nat.div n 4)) (.of n)) (Nat.ble n 63)

inductive V where
  | bool (b : Bool)
  | int (k : IntKind) (n : Int)
  | str (s : ByteArray)
  | sym (k : IntKind) (i : Nat)
  | nilp
  | ptr (b : Pos) (o : Nat)
  | nils
  | sl (b : Pos) (o len cap : Nat) (fx : Option Nat)
  | nilm
  | map (r : Pos)
  | fn (f : Nat) (first captured : List V)
  | yield (l : Pos)
  | nilf
  | agg (c : List V)
  | tup (c : List V)

/-! for values alone: nothing is to be put in place of a type -/
noncomputable def Tr.getV (t : Tr V) (p : Pos) : Option V :=
  Pos.rec (motive := fun _ => Tr V → Option V) (fun x y z t => (D4.rec (motive := fun _ => N4 (Option V) → Option V) (fun n => n.a) (fun n => n.b) (fun n => n.c) (fun n => n.d) z (D4.rec (motive := fun _ => N4 (N4 (Option V)) → N4 (Option V)) (fun n => n.a) (fun n => n.b) (fun n => n.c) (fun n => n.d) y (D4.rec (motive := fun _ => N4 (N4 (N4 (Option V))) → N4 (N4 (Option V))) (fun n => n.a) (fun n => n.b) (fun n => n.c) (fun n => n.d) x t.s))))
    (fun p q r v x y z t => (D4.rec (motive := fun _ => N4 (Option V) → Option V) (fun n => n.a) (fun n => n.b) (fun n => n.c) (fun n => n.d) z (D4.rec (motive := fun _ => N4 (N4 (Option V)) → N4 (Option V)) (fun n => n.a) (fun n => n.b) (fun n => n.c) (fun n => n.d) y (D4.rec (motive := fun _ => N4 (N4 (N4 (Option V))) → N4 (N4 (Option V))) (fun n => n.a) (fun n => n.b) (fun n => n.c) (fun n => n.d) x (D4.rec (motive := fun _ => N4 (N4 (N4 (N4 (Option V)))) → N4 (N4 (N4 (Option V)))) (fun n => n.a) (fun n => n.b) (fun n => n.c) (fun n => n.d) v (D4.rec (motive := fun _ => N4 (N4 (N4 (N4 (N4 (Option V))))) → N4 (N4 (N4 (N4 (Option V))))) (fun n => n.a) (fun n => n.b) (fun n => n.c) (fun n => n.d) r (D4.rec (motive := fun _ => N4 (N4 (N4 (N4 (N4 (N4 (Option V)))))) → N4 (N4 (N4 (N4 (N4 (Option V)))))) (fun n => n.a) (fun n => n.b) (fun n => n.c) (fun n => n.d) q (D4.rec (motive := fun _ => N4 (N4 (N4 (N4 (N4 (N4 (N4 (Option V))))))) → N4 (N4 (N4 (N4 (N4 (N4 (Option V))))))) (fun n => n.a) (fun n => n.b) (fun n => n.c) (fun n => n.d) p t.m)))))))) (fun p t => t.f.get p) p t
noncomputable def Tr.putV (p : Pos) (w : V) (t : Tr V) : Tr V :=
  Pos.rec (motive := fun _ => V → Tr V → Tr V)
    (fun x y z w t => Tr.rec (motive := fun _ => Tr V) (fun s m f => ⟨(D4.rec (motive := fun _ => (N4 (N4 (Option V)) → N4 (N4 (Option V))) → N4 (N4 (N4 (Option V))) → N4 (N4 (N4 (Option V)))) (fun f n => N4.rec (motive := fun _ => N4 (N4 (N4 (Option V)))) (fun a b c d => ⟨f a, b, c, d⟩) n) (fun f n => N4.rec (motive := fun _ => N4 (N4 (N4 (Option V)))) (fun a b c d => ⟨a, f b, c, d⟩) n) (fun f n => N4.rec (motive := fun _ => N4 (N4 (N4 (Option V)))) (fun a b c d => ⟨a, b, f c, d⟩) n) (fun f n => N4.rec (motive := fun _ => N4 (N4 (N4 (Option V)))) (fun a b c d => ⟨a, b, c, f d⟩) n) x (fun n => (D4.rec (motive := fun _ => (N4 (Option V) → N4 (Option V)) → N4 (N4 (Option V)) → N4 (N4 (Option V))) (fun f n => N4.rec (motive := fun _ => N4 (N4 (Option V))) (fun a b c d => ⟨f a, b, c, d⟩) n) (fun f n => N4.rec (motive := fun _ => N4 (N4 (Option V))) (fun a b c d => ⟨a, f b, c, d⟩) n) (fun f n => N4.rec (motive := fun _ => N4 (N4 (Option V))) (fun a b c d => ⟨a, b, f c, d⟩) n) (fun f n => N4.rec (motive := fun _ => N4 (N4 (Option V))) (fun a b c d => ⟨a, b, c, f d⟩) n) y (fun n => (D4.rec (motive := fun _ => (Option V → Option V) → N4 (Option V) → N4 (Option V)) (fun f n => N4.rec (motive := fun _ => N4 (Option V)) (fun a b c d => ⟨f a, b, c, d⟩) n) (fun f n => N4.rec (motive := fun _ => N4 (Option V)) (fun a b c d => ⟨a, f b, c, d⟩) n) (fun f n => N4.rec (motive := fun _ => N4 (Option V)) (fun a b c d => ⟨a, b, f c, d⟩) n) (fun f n => N4.rec (motive := fun _ => N4 (Option V)) (fun a b c d => ⟨a, b, c, f d⟩) n) z (fun _ => some w) n)) n)) s), m, f⟩) t)
    (fun p q r v x y z w t => Tr.rec (motive := fun _ => Tr V) (fun s m f => ⟨s, (D4.rec (motive := fun _ => (N4 (N4 (N4 (N4 (N4 (N4 (Option V)))))) → N4 (N4 (N4 (N4 (N4 (N4 (Option V))))))) → N4 (N4 (N4 (N4 (N4 (N4 (N4 (Option V))))))) → N4 (N4 (N4 (N4 (N4 (N4 (N4 (Option V)))))))) (fun f n => N4.rec (motive := fun _ => N4 (N4 (N4 (N4 (N4 (N4 (N4 (Option V)))))))) (fun a b c d => ⟨f a, b, c, d⟩) n) (fun f n => N4.rec (motive := fun _ => N4 (N4 (N4 (N4 (N4 (N4 (N4 (Option V)))))))) (fun a b c d => ⟨a, f b, c, d⟩) n) (fun f n => N4.rec (motive := fun _ => N4 (N4 (N4 (N4 (N4 (N4 (N4 (Option V)))))))) (fun a b c d => ⟨a, b, f c, d⟩) n) (fun f n => N4.rec (motive := fun _ => N4 (N4 (N4 (N4 (N4 (N4 (N4 (Option V)))))))) (fun a b c d => ⟨a, b, c, f d⟩) n) p (fun n => (D4.rec (motive := fun _ => (N4 (N4 (N4 (N4 (N4 (Option V))))) → N4 (N4 (N4 (N4 (N4 (Option V)))))) → N4 (N4 (N4 (N4 (N4 (N4 (Option V)))))) → N4 (N4 (N4 (N4 (N4 (N4 (Option V))))))) (fun f n => N4.rec (motive := fun _ => N4 (N4 (N4 (N4 (N4 (N4 (Option V))))))) (fun a b c d => ⟨f a, b, c, d⟩) n) (fun f n => N4.rec (motive := fun _ => N4 (N4 (N4 (N4 (N4 (N4 (Option V))))))) (fun a b c d => ⟨a, f b, c, d⟩) n) (fun f n => N4.rec (motive := fun _ => N4 (N4 (N4 (N4 (N4 (N4 (Option V))))))) (fun a b c d => ⟨a, b, f c, d⟩) n) (fun f n => N4.rec (motive := fun _ => N4 (N4 (N4 (N4 (N4 (N4 (Option V))))))) (fun a b c d => ⟨a, b, c, f d⟩) n) q (fun n => (D4.rec (motive := fun _ => (N4 (N4 (N4 (N4 (Option V)))) → N4 (N4 (N4 (N4 (Option V))))) → N4 (N4 (N4 (N4 (N4 (Option V))))) → N4 (N4 (N4 (N4 (N4 (Option V)))))) (fun f n => N4.rec (motive := fun _ => N4 (N4 (N4 (N4 (N4 (Option V)))))) (fun a b c d => ⟨f a, b, c, d⟩) n) (fun f n => N4.rec (motive := fun _ => N4 (N4 (N4 (N4 (N4 (Option V)))))) (fun a b c d => ⟨a, f b, c, d⟩) n) (fun f n => N4.rec (motive := fun _ => N4 (N4 (N4 (N4 (N4 (Option V)))))) (fun a b c d => ⟨a, b, f c, d⟩) n) (fun f n => N4.rec (motive := fun _ => N4 (N4 (N4 (N4 (N4 (Option V)))))) (fun a b c d => ⟨a, b, c, f d⟩) n) r (fun n => (D4.rec (motive := fun _ => (N4 (N4 (N4 (Option V))) → N4 (N4 (N4 (Option V)))) → N4 (N4 (N4 (N4 (Option V)))) → N4 (N4 (N4 (N4 (Option V))))) (fun f n => N4.rec (motive := fun _ => N4 (N4 (N4 (N4 (Option V))))) (fun a b c d => ⟨f a, b, c, d⟩) n) (fun f n => N4.rec (motive := fun _ => N4 (N4 (N4 (N4 (Option V))))) (fun a b c d => ⟨a, f b, c, d⟩) n) (fun f n => N4.rec (motive := fun _ => N4 (N4 (N4 (N4 (Option V))))) (fun a b c d => ⟨a, b, f c, d⟩) n) (fun f n => N4.rec (motive := fun _ => N4 (N4 (N4 (N4 (Option V))))) (fun a b c d => ⟨a, b, c, f d⟩) n) v (fun n => (D4.rec (motive := fun _ => (N4 (N4 (Option V)) → N4 (N4 (Option V))) → N4 (N4 (N4 (Option V))) → N4 (N4 (N4 (Option V)))) (fun f n => N4.rec (motive := fun _ => N4 (N4 (N4 (Option V)))) (fun a b c d => ⟨f a, b, c, d⟩) n) (fun f n => N4.rec (motive := fun _ => N4 (N4 (N4 (Option V)))) (fun a b c d => ⟨a, f b, c, d⟩) n) (fun f n => N4.rec (motive := fun _ => N4 (N4 (N4 (Option V)))) (fun a b c d => ⟨a, b, f c, d⟩) n) (fun f n => N4.rec (motive := fun _ => N4 (N4 (N4 (Option V)))) (fun a b c d => ⟨a, b, c, f d⟩) n) x (fun n => (D4.rec (motive := fun _ => (N4 (Option V) → N4 (Option V)) → N4 (N4 (Option V)) → N4 (N4 (Option V))) (fun f n => N4.rec (motive := fun _ => N4 (N4 (Option V))) (fun a b c d => ⟨f a, b, c, d⟩) n) (fun f n => N4.rec (motive := fun _ => N4 (N4 (Option V))) (fun a b c d => ⟨a, f b, c, d⟩) n) (fun f n => N4.rec (motive := fun _ => N4 (N4 (Option V))) (fun a b c d => ⟨a, b, f c, d⟩) n) (fun f n => N4.rec (motive := fun _ => N4 (N4 (Option V))) (fun a b c d => ⟨a, b, c, f d⟩) n) y (fun n => (D4.rec (motive := fun _ => (Option V → Option V) → N4 (Option V) → N4 (Option V)) (fun f n => N4.rec (motive := fun _ => N4 (Option V)) (fun a b c d => ⟨f a, b, c, d⟩) n) (fun f n => N4.rec (motive := fun _ => N4 (Option V)) (fun a b c d => ⟨a, f b, c, d⟩) n) (fun f n => N4.rec (motive := fun _ => N4 (Option V)) (fun a b c d => ⟨a, b, f c, d⟩) n) (fun f n => N4.rec (motive := fun _ => N4 (Option V)) (fun a b c d => ⟨a, b, c, f d⟩) n) z (fun _ => some w) n)) n)) n)) n)) n)) n)) m), f⟩) t)
    (fun p w t => Tr.rec (motive := fun _ => Tr V) (fun s m f => ⟨s, m, f.put p w⟩) t) p w t

inductive Opd where
  | t (n : Pos)
  | c (v : V)

inductive IOp where
  | mv (x : Opd)
  | pick (c a b : Opd)
  | new (zs : List V)
  | box (x : Opd)
  | build (zs : List V) (parts : List (Nat × Nat × Opd))
  | bslice (len : Nat) (zs : List V) (parts : List (Nat × Nat × Opd))
  | ld1 (x : Opd)
  | ldn (n : Nat) (x : Opd)
  | st1 (a x : Opd)
  | stn (n : Nat) (a x : Opd)
  | nilck (x : Opd)
  | bin (op : BinOp) (x y : Opd)
  | eqv (c : Nat) (neg : Bool) (x y : Opd)
  | eqa (sh : List Bool) (neg : Bool) (x y : Opd)
  | notb (x : Opd)
  | neg (x : Opd)
  | conv (k : IntKind) (x : Opd)
  | mkfn (f : Nat) (first captured : List Opd)
  | mkmap
  | mkslice (esz : Nat) (zs : List V) (bytes : Nat) (l c : Opd)
  | slc (esz : Nat) (x : Opd) (lo hi mx : Option Opd)
  | slca (n esz : Nat) (x : Opd) (lo hi mx : Option Opd)
  | fa (off : Nat) (x : Opd)
  | ixs (esz : Nat) (x i : Opd)
  | ixa (len esz : Nat) (x i : Opd)
  | fld (n : Option Nat) (off : Nat) (x : Opd)
  | ixv (len : Nat) (n : Option Nat) (esz : Nat) (x i : Opd)
  | lkp (ag : Bool) (sh : List Bool) (zero : V) (ok : Bool) (x i : Opd)
  | mset (ag : Bool) (sh : List Bool) (m k x : Opd)
  | ext (x : Opd) (i : Nat)
  | call (f : Opd) (args : List Opd)
  | app (esz : Nat) (s x : Opd)
  | copy (esz : Nat) (d s : Opd)
  | len (x : Opd)
  | lenm (x : Opd)
  | clear (zs : List V) (x : Opd)
  | del (ag : Bool) (sh : List Bool) (m k : Opd)
  | mnx (isMax : Bool) (x : Opd) (ys : List Opd)
  | capx (x : Opd)
  | appz (esz : Nat) (zs : List V) (s n : Opd)
  | bad

structure IOpr where
  dst : Option Pos
  guard : Option (Pos × Bool)
  late : Nat
  op : IOp

inductive IC where
  | skip
  | ret
  | bad
  | reg (ops : List IOpr)
  | regd (ops : List IOpr)
  | seq (a b : IC)
  | cond (c : Opd) (a b : IC)
  | block (id : Nat) (b : IC)
  | loop (b : IC)
  | exit (id : Nat)
  | rfun (f : Opd) (ps : List Pos) (assign body : IC)

/-- how a loop's record stands: 0 ready, 1 busy, 2 left by 'ret', 3 + id: left by 'exit id' -/
inductive O where
  | lst (l : List V)
  | big (n k : Nat) (zs : List V) (t : Tr V)
  | mp (es : List (V × V))
  | loop (st : Nat) (t : Tr V) (ps : List Pos) (assign body : IC)
  | dead

noncomputable def Tr.getO (t : Tr O) (p : Pos) : Option O :=
  Pos.rec (motive := fun _ => Tr O → Option O) (fun x y z t => (D4.rec (motive := fun _ => N4 (Option O) → Option O) (fun n => n.a) (fun n => n.b) (fun n => n.c) (fun n => n.d) z (D4.rec (motive := fun _ => N4 (N4 (Option O)) → N4 (Option O)) (fun n => n.a) (fun n => n.b) (fun n => n.c) (fun n => n.d) y (D4.rec (motive := fun _ => N4 (N4 (N4 (Option O))) → N4 (N4 (Option O))) (fun n => n.a) (fun n => n.b) (fun n => n.c) (fun n => n.d) x t.s))))
    (fun p q r v x y z t => (D4.rec (motive := fun _ => N4 (Option O) → Option O) (fun n => n.a) (fun n => n.b) (fun n => n.c) (fun n => n.d) z (D4.rec (motive := fun _ => N4 (N4 (Option O)) → N4 (Option O)) (fun n => n.a) (fun n => n.b) (fun n => n.c) (fun n => n.d) y (D4.rec (motive := fun _ => N4 (N4 (N4 (Option O))) → N4 (N4 (Option O))) (fun n => n.a) (fun n => n.b) (fun n => n.c) (fun n => n.d) x (D4.rec (motive := fun _ => N4 (N4 (N4 (N4 (Option O)))) → N4 (N4 (N4 (Option O)))) (fun n => n.a) (fun n => n.b) (fun n => n.c) (fun n => n.d) v (D4.rec (motive := fun _ => N4 (N4 (N4 (N4 (N4 (Option O))))) → N4 (N4 (N4 (N4 (Option O))))) (fun n => n.a) (fun n => n.b) (fun n => n.c) (fun n => n.d) r (D4.rec (motive := fun _ => N4 (N4 (N4 (N4 (N4 (N4 (Option O)))))) → N4 (N4 (N4 (N4 (N4 (Option O)))))) (fun n => n.a) (fun n => n.b) (fun n => n.c) (fun n => n.d) q (D4.rec (motive := fun _ => N4 (N4 (N4 (N4 (N4 (N4 (N4 (Option O))))))) → N4 (N4 (N4 (N4 (N4 (N4 (Option O))))))) (fun n => n.a) (fun n => n.b) (fun n => n.c) (fun n => n.d) p t.m)))))))) (fun p t => t.f.get p) p t
noncomputable def Tr.putO (p : Pos) (w : O) (t : Tr O) : Tr O :=
  Pos.rec (motive := fun _ => O → Tr O → Tr O)
    (fun x y z w t => Tr.rec (motive := fun _ => Tr O) (fun s m f => ⟨(D4.rec (motive := fun _ => (N4 (N4 (Option O)) → N4 (N4 (Option O))) → N4 (N4 (N4 (Option O))) → N4 (N4 (N4 (Option O)))) (fun f n => N4.rec (motive := fun _ => N4 (N4 (N4 (Option O)))) (fun a b c d => ⟨f a, b, c, d⟩) n) (fun f n => N4.rec (motive := fun _ => N4 (N4 (N4 (Option O)))) (fun a b c d => ⟨a, f b, c, d⟩) n) (fun f n => N4.rec (motive := fun _ => N4 (N4 (N4 (Option O)))) (fun a b c d => ⟨a, b, f c, d⟩) n) (fun f n => N4.rec (motive := fun _ => N4 (N4 (N4 (Option O)))) (fun a b c d => ⟨a, b, c, f d⟩) n) x (fun n => (D4.rec (motive := fun _ => (N4 (Option O) → N4 (Option O)) → N4 (N4 (Option O)) → N4 (N4 (Option O))) (fun f n => N4.rec (motive := fun _ => N4 (N4 (Option O))) (fun a b c d => ⟨f a, b, c, d⟩) n) (fun f n => N4.rec (motive := fun _ => N4 (N4 (Option O))) (fun a b c d => ⟨a, f b, c, d⟩) n) (fun f n => N4.rec (motive := fun _ => N4 (N4 (Option O))) (fun a b c d => ⟨a, b, f c, d⟩) n) (fun f n => N4.rec (motive := fun _ => N4 (N4 (Option O))) (fun a b c d => ⟨a, b, c, f d⟩) n) y (fun n => (D4.rec (motive := fun _ => (Option O → Option O) → N4 (Option O) → N4 (Option O)) (fun f n => N4.rec (motive := fun _ => N4 (Option O)) (fun a b c d => ⟨f a, b, c, d⟩) n) (fun f n => N4.rec (motive := fun _ => N4 (Option O)) (fun a b c d => ⟨a, f b, c, d⟩) n) (fun f n => N4.rec (motive := fun _ => N4 (Option O)) (fun a b c d => ⟨a, b, f c, d⟩) n) (fun f n => N4.rec (motive := fun _ => N4 (Option O)) (fun a b c d => ⟨a, b, c, f d⟩) n) z (fun _ => some w) n)) n)) s), m, f⟩) t)
    (fun p q r v x y z w t => Tr.rec (motive := fun _ => Tr O) (fun s m f => ⟨s, (D4.rec (motive := fun _ => (N4 (N4 (N4 (N4 (N4 (N4 (Option O)))))) → N4 (N4 (N4 (N4 (N4 (N4 (Option O))))))) → N4 (N4 (N4 (N4 (N4 (N4 (N4 (Option O))))))) → N4 (N4 (N4 (N4 (N4 (N4 (N4 (Option O)))))))) (fun f n => N4.rec (motive := fun _ => N4 (N4 (N4 (N4 (N4 (N4 (N4 (Option O)))))))) (fun a b c d => ⟨f a, b, c, d⟩) n) (fun f n => N4.rec (motive := fun _ => N4 (N4 (N4 (N4 (N4 (N4 (N4 (Option O)))))))) (fun a b c d => ⟨a, f b, c, d⟩) n) (fun f n => N4.rec (motive := fun _ => N4 (N4 (N4 (N4 (N4 (N4 (N4 (Option O)))))))) (fun a b c d => ⟨a, b, f c, d⟩) n) (fun f n => N4.rec (motive := fun _ => N4 (N4 (N4 (N4 (N4 (N4 (N4 (Option O)))))))) (fun a b c d => ⟨a, b, c, f d⟩) n) p (fun n => (D4.rec (motive := fun _ => (N4 (N4 (N4 (N4 (N4 (Option O))))) → N4 (N4 (N4 (N4 (N4 (Option O)))))) → N4 (N4 (N4 (N4 (N4 (N4 (Option O)))))) → N4 (N4 (N4 (N4 (N4 (N4 (Option O))))))) (fun f n => N4.rec (motive := fun _ => N4 (N4 (N4 (N4 (N4 (N4 (Option O))))))) (fun a b c d => ⟨f a, b, c, d⟩) n) (fun f n => N4.rec (motive := fun _ => N4 (N4 (N4 (N4 (N4 (N4 (Option O))))))) (fun a b c d => ⟨a, f b, c, d⟩) n) (fun f n => N4.rec (motive := fun _ => N4 (N4 (N4 (N4 (N4 (N4 (Option O))))))) (fun a b c d => ⟨a, b, f c, d⟩) n) (fun f n => N4.rec (motive := fun _ => N4 (N4 (N4 (N4 (N4 (N4 (Option O))))))) (fun a b c d => ⟨a, b, c, f d⟩) n) q (fun n => (D4.rec (motive := fun _ => (N4 (N4 (N4 (N4 (Option O)))) → N4 (N4 (N4 (N4 (Option O))))) → N4 (N4 (N4 (N4 (N4 (Option O))))) → N4 (N4 (N4 (N4 (N4 (Option O)))))) (fun f n => N4.rec (motive := fun _ => N4 (N4 (N4 (N4 (N4 (Option O)))))) (fun a b c d => ⟨f a, b, c, d⟩) n) (fun f n => N4.rec (motive := fun _ => N4 (N4 (N4 (N4 (N4 (Option O)))))) (fun a b c d => ⟨a, f b, c, d⟩) n) (fun f n => N4.rec (motive := fun _ => N4 (N4 (N4 (N4 (N4 (Option O)))))) (fun a b c d => ⟨a, b, f c, d⟩) n) (fun f n => N4.rec (motive := fun _ => N4 (N4 (N4 (N4 (N4 (Option O)))))) (fun a b c d => ⟨a, b, c, f d⟩) n) r (fun n => (D4.rec (motive := fun _ => (N4 (N4 (N4 (Option O))) → N4 (N4 (N4 (Option O)))) → N4 (N4 (N4 (N4 (Option O)))) → N4 (N4 (N4 (N4 (Option O))))) (fun f n => N4.rec (motive := fun _ => N4 (N4 (N4 (N4 (Option O))))) (fun a b c d => ⟨f a, b, c, d⟩) n) (fun f n => N4.rec (motive := fun _ => N4 (N4 (N4 (N4 (Option O))))) (fun a b c d => ⟨a, f b, c, d⟩) n) (fun f n => N4.rec (motive := fun _ => N4 (N4 (N4 (N4 (Option O))))) (fun a b c d => ⟨a, b, f c, d⟩) n) (fun f n => N4.rec (motive := fun _ => N4 (N4 (N4 (N4 (Option O))))) (fun a b c d => ⟨a, b, c, f d⟩) n) v (fun n => (D4.rec (motive := fun _ => (N4 (N4 (Option O)) → N4 (N4 (Option O))) → N4 (N4 (N4 (Option O))) → N4 (N4 (N4 (Option O)))) (fun f n => N4.rec (motive := fun _ => N4 (N4 (N4 (Option O)))) (fun a b c d => ⟨f a, b, c, d⟩) n) (fun f n => N4.rec (motive := fun _ => N4 (N4 (N4 (Option O)))) (fun a b c d => ⟨a, f b, c, d⟩) n) (fun f n => N4.rec (motive := fun _ => N4 (N4 (N4 (Option O)))) (fun a b c d => ⟨a, b, f c, d⟩) n) (fun f n => N4.rec (motive := fun _ => N4 (N4 (N4 (Option O)))) (fun a b c d => ⟨a, b, c, f d⟩) n) x (fun n => (D4.rec (motive := fun _ => (N4 (Option O) → N4 (Option O)) → N4 (N4 (Option O)) → N4 (N4 (Option O))) (fun f n => N4.rec (motive := fun _ => N4 (N4 (Option O))) (fun a b c d => ⟨f a, b, c, d⟩) n) (fun f n => N4.rec (motive := fun _ => N4 (N4 (Option O))) (fun a b c d => ⟨a, f b, c, d⟩) n) (fun f n => N4.rec (motive := fun _ => N4 (N4 (Option O))) (fun a b c d => ⟨a, b, f c, d⟩) n) (fun f n => N4.rec (motive := fun _ => N4 (N4 (Option O))) (fun a b c d => ⟨a, b, c, f d⟩) n) y (fun n => (D4.rec (motive := fun _ => (Option O → Option O) → N4 (Option O) → N4 (Option O)) (fun f n => N4.rec (motive := fun _ => N4 (Option O)) (fun a b c d => ⟨f a, b, c, d⟩) n) (fun f n => N4.rec (motive := fun _ => N4 (Option O)) (fun a b c d => ⟨a, f b, c, d⟩) n) (fun f n => N4.rec (motive := fun _ => N4 (Option O)) (fun a b c d => ⟨a, b, f c, d⟩) n) (fun f n => N4.rec (motive := fun _ => N4 (Option O)) (fun a b c d => ⟨a, b, c, f d⟩) n) z (fun _ => some w) n)) n)) n)) n)) n)) n)) m), f⟩) t)
    (fun p w t => Tr.rec (motive := fun _ => Tr O) (fun s m f => ⟨s, m, f.put p w⟩) t) p w t

inductive H where
  | mk (nx : Pos) (m : Tr O)

abbrev R := Option (V × H)
abbrev T := Tr V
abbrev K := V → H → R

noncomputable def ltb (a b : Nat) : Bool := Nat.ble (Nat.succ a) b
noncomputable def bnot (b : Bool) : Bool := Bool.rec true false b
noncomputable def beqB (a b : Bool) : Bool := Bool.rec (motive := fun _ => Bool) (bnot b) b a
/-- on with k if so -/
noncomputable def ifK (b : Bool) (k : R) : R := Bool.rec (motive := fun _ => R) none k b

noncomputable def nthK (l : List V) : Nat → (V → R) → R :=
  List.rec (motive := fun _ => Nat → (V → R) → R) (fun _ _ => none)
    (fun a _ ih n k => Nat.rec (motive := fun _ => R) (k a) (fun m _ => ih m k) n) l

noncomputable def lset (x : V) (l : List V) : Nat → List V :=
  List.rec (motive := fun _ => Nat → List V) (fun _ => [])
    (fun a as ih n => Nat.rec (motive := fun _ => List V) (x :: as) (fun m _ => a :: ih m) n) l

noncomputable def llen {α : Type} (l : List α) : Nat := List.rec (motive := fun _ => Nat) 0 (fun _ _ ih => Nat.succ ih) l
noncomputable def app {α : Type} (l m : List α) : List α := List.rec (motive := fun _ => List α) m (fun a _ ih => a :: ih) l
noncomputable def tkn {α : Type} (l : List α) : Nat → List α :=
  List.rec (motive := fun _ => Nat → List α) (fun _ => []) (fun a _ ih n => Nat.rec (motive := fun _ => List α) [] (fun m _ => a :: ih m) n) l
noncomputable def drp {α : Type} (l : List α) : Nat → List α :=
  List.rec (motive := fun _ => Nat → List α) (fun _ => []) (fun a as ih n => Nat.rec (motive := fun _ => List α) (a :: as) (fun m _ => ih m) n) l
noncomputable def repl (zs : List V) (n : Nat) : List V := Nat.rec (motive := fun _ => List V) [] (fun _ ih => app zs ih) n

noncomputable def O.getK (o : O) (i : Nat) (k : V → R) : R :=
  O.rec (motive := fun _ => Nat → (V → R) → R) (fun l i k => nthK l i k)
    (fun n m zs t i k => ifK (ltb i n) (Option.rec (motive := fun _ => R) (nthK zs (Nat.mod i m) k) (fun v => k v) (t.getV (Pos.of i))))
    (fun _ _ _ => none) (fun _ _ _ _ _ _ _ => none) (fun _ _ => none) o i k

/-- is it one cell's? -/
noncomputable def V.one (v : V) : Bool :=
  V.rec (motive_1 := fun _ => Bool) (motive_2 := fun _ => Bool) (fun _ => true) (fun _ _ => true) (fun _ => true) (fun _ _ => true) true (fun _ _ => true) true (fun _ _ _ _ _ => true) true (fun _ => true)
    (fun _ _ _ _ _ => true) (fun _ => true) true (fun _ _ => false) (fun _ _ => false) true (fun _ _ _ _ => true) v

/-- may it be laid into a variable: one cell's, or a row of such -/
noncomputable def V.bx (v : V) : Bool :=
  V.rec (motive_1 := fun _ => Bool) (motive_2 := fun _ => Bool) (fun _ => true) (fun _ _ => true) (fun _ => true) (fun _ _ => true) true (fun _ _ => true) true (fun _ _ _ _ _ => true) true (fun _ => true)
    (fun _ _ _ _ _ => true) (fun _ => true) true (fun _ _ => true) (fun _ _ => false) true (fun _ _ _ _ => true) v

noncomputable def O.setK (o : O) (i : Nat) (v : V) (k : O → R) : R := ifK v.one
  (O.rec (motive := fun _ => Nat → V → (O → R) → R) (fun l i v k => ifK (ltb i (llen l)) (k (.lst (lset v l i))))
    (fun n m zs t i v k => ifK (ltb i n) (k (.big n m zs (Tr.putV (Pos.of i) v t))))
    (fun _ _ _ _ => none) (fun _ _ _ _ _ _ _ _ => none) (fun _ _ _ => none) o i v k)

noncomputable def ofL (l : List V) : Nat → Tr V → Tr V :=
  List.rec (motive := fun _ => Nat → Tr V → Tr V) (fun _ t => t) (fun x _ ih i t => ih (Nat.succ i) (Tr.putV (Pos.of i) x t)) l

noncomputable def mkO (l : List V) : O :=
  Bool.rec (motive := fun _ => O) (.big (llen l) 1 [] (ofL l 0 .nil)) (.lst l) (Nat.ble (llen l) 8)

noncomputable def H.getK (h : H) (b : Pos) (k : O → R) : R :=
  H.rec (motive := fun _ => R) (fun _ m => Option.rec (motive := fun _ => R) none k (m.getO b)) h
noncomputable def H.put (h : H) (b : Pos) (o : O) : H := H.rec (motive := fun _ => H) (fun nx m => .mk nx (Tr.putO b o m)) h
noncomputable def H.alloc (h : H) (o : O) (k : Pos → H → R) : R :=
  H.rec (motive := fun _ => R) (fun nx m => k nx (.mk nx.succ (Tr.putO nx o m))) h

noncomputable def H.ld1 (h : H) (b : Pos) (i : Nat) (k : V → R) : R := h.getK b fun o => o.getK i k
noncomputable def H.st1 (h : H) (b : Pos) (i : Nat) (v : V) (k : H → R) : R := h.getK b fun o => o.setK i v fun o' => k (h.put b o')
noncomputable def getcs (o : O) (n : Nat) : Nat → (List V → R) → R :=
  Nat.rec (motive := fun _ => Nat → (List V → R) → R) (fun _ k => k [])
    (fun _ ih i k => o.getK i fun v => ih (Nat.succ i) fun vs => k (v :: vs)) n
noncomputable def H.ldn (h : H) (b : Pos) (i n : Nat) (k : List V → R) : R := h.getK b fun o => getcs o n i k
noncomputable def setcs (vs : List V) : O → Nat → (O → R) → R :=
  List.rec (motive := fun _ => O → Nat → (O → R) → R) (fun o _ k => k o)
    (fun v _ ih o i k => o.setK i v fun o' => ih o' (Nat.succ i) k) vs
noncomputable def H.stn (h : H) (b : Pos) (i : Nat) (vs : List V) (k : H → R) : R := h.getK b fun o => setcs vs o i fun o' => k (h.put b o')

/-! looking into values: one word for all -/
noncomputable def V.on {β : Type} (v : V) (d : β) (kb : Bool → β) (ki : IntKind → Int → β) (kp : Pos → Nat → β) (ks : Pos → Nat → Nat → Nat → Option Nat → β)
    (km : Pos → β) (kf : Nat → List V → List V → β) (ka kt : List V → β) : β :=
  V.rec (motive_1 := fun _ => β) (motive_2 := fun _ => β) kb ki (fun _ => d) (fun _ _ => d) d kp d ks d km (fun f a b _ _ => kf f a b) (fun _ => d) d (fun c _ => ka c) (fun c _ => kt c) d (fun _ _ _ _ => d) v
noncomputable def V.onPtr (v : V) (k : Pos → Nat → R) : R :=
  V.rec (motive_1 := fun _ => (Pos → Nat → R) → R) (motive_2 := fun _ => Unit) (fun _ _ => none) (fun _ _ _ => none) (fun _ _ => none) (fun _ _ _ => none) (fun _ => none) (fun b o k => k b o) (fun _ => none) (fun _ _ _ _ _ _ => none) (fun _ => none) (fun _ _ => none) (fun _ _ _ _ _ _ => none) (fun _ _ => none) (fun _ => none) (fun _ _ _ => none) (fun _ _ _ => none) () (fun _ _ _ _ => ()) v k
noncomputable def V.onInt (v : V) (d : R) (k : IntKind → Int → R) : R :=
  V.rec (motive_1 := fun _ => R → (IntKind → Int → R) → R) (motive_2 := fun _ => Unit) (fun _ d _ => d) (fun j n _ k => k j n) (fun _ d _ => d) (fun _ _ d _ => d) (fun d _ => d) (fun _ _ d _ => d) (fun d _ => d) (fun _ _ _ _ _ d _ => d) (fun d _ => d) (fun _ d _ => d) (fun _ _ _ _ _ d _ => d) (fun _ d _ => d) (fun d _ => d) (fun _ _ d _ => d) (fun _ _ d _ => d) () (fun _ _ _ _ => ()) v d k
noncomputable def V.onBool (v : V) (k : Bool → R) : R :=
  V.rec (motive_1 := fun _ => (Bool → R) → R) (motive_2 := fun _ => Unit) (fun b k => k b) (fun _ _ _ => none) (fun _ _ => none) (fun _ _ _ => none) (fun _ => none) (fun _ _ _ => none) (fun _ => none) (fun _ _ _ _ _ _ => none) (fun _ => none) (fun _ _ => none) (fun _ _ _ _ _ _ => none) (fun _ _ => none) (fun _ => none) (fun _ _ _ => none) (fun _ _ _ => none) () (fun _ _ _ _ => ()) v k
noncomputable def V.onSl (v : V) (d : R) (k : Pos → Nat → Nat → Nat → Option Nat → R) : R :=
  V.rec (motive_1 := fun _ => R → (Pos → Nat → Nat → Nat → Option Nat → R) → R) (motive_2 := fun _ => Unit) (fun _ d _ => d) (fun _ _ d _ => d) (fun _ d _ => d) (fun _ _ d _ => d) (fun d _ => d) (fun _ _ d _ => d) (fun d _ => d) (fun b o l c f _ k => k b o l c f) (fun d _ => d) (fun _ d _ => d) (fun _ _ _ _ _ d _ => d) (fun _ d _ => d) (fun d _ => d) (fun _ _ d _ => d) (fun _ _ d _ => d) () (fun _ _ _ _ => ()) v d k
noncomputable def V.onMap (v : V) (d : R) (k : Pos → R) : R :=
  V.rec (motive_1 := fun _ => R → (Pos → R) → R) (motive_2 := fun _ => Unit) (fun _ d _ => d) (fun _ _ d _ => d) (fun _ d _ => d) (fun _ _ d _ => d) (fun d _ => d) (fun _ _ d _ => d) (fun d _ => d) (fun _ _ _ _ _ d _ => d) (fun d _ => d) (fun r _ k => k r) (fun _ _ _ _ _ d _ => d) (fun _ d _ => d) (fun d _ => d) (fun _ _ d _ => d) (fun _ _ d _ => d) () (fun _ _ _ _ => ()) v d k
noncomputable def V.onAgg (v : V) (k : List V → R) : R :=
  V.rec (motive_1 := fun _ => (List V → R) → R) (motive_2 := fun _ => Unit) (fun _ _ => none) (fun _ _ _ => none) (fun _ _ => none) (fun _ _ _ => none) (fun _ => none) (fun _ _ _ => none) (fun _ => none) (fun _ _ _ _ _ _ => none) (fun _ => none) (fun _ _ => none) (fun _ _ _ _ _ _ => none) (fun _ _ => none) (fun _ => none) (fun c _ k => k c) (fun _ _ _ => none) () (fun _ _ _ _ => ()) v k
noncomputable def V.onTup (v : V) (k : List V → R) : R :=
  V.rec (motive_1 := fun _ => (List V → R) → R) (motive_2 := fun _ => Unit) (fun _ _ => none) (fun _ _ _ => none) (fun _ _ => none) (fun _ _ _ => none) (fun _ => none) (fun _ _ _ => none) (fun _ => none) (fun _ _ _ _ _ _ => none) (fun _ => none) (fun _ _ => none) (fun _ _ _ _ _ _ => none) (fun _ _ => none) (fun _ => none) (fun _ _ _ => none) (fun c _ k => k c) () (fun _ _ _ _ => ()) v k
noncomputable def V.cells (v : V) : List V :=
  V.rec (motive_1 := fun _ => V → List V) (motive_2 := fun _ => Unit) (fun _ v => [v]) (fun _ _ v => [v]) (fun _ v => [v]) (fun _ _ v => [v]) (fun v => [v]) (fun _ _ v => [v]) (fun v => [v]) (fun _ _ _ _ _ v => [v]) (fun v => [v]) (fun _ v => [v]) (fun _ _ _ _ _ v => [v]) (fun _ v => [v]) (fun v => [v]) (fun c _ _ => c) (fun _ _ v => [v]) () (fun _ _ _ _ => ()) v v
noncomputable def V.isNils (v : V) : Bool :=
  V.rec (motive_1 := fun _ => Bool) (motive_2 := fun _ => Bool) (fun _ => false) (fun _ _ => false) (fun _ => false) (fun _ _ => false) false (fun _ _ => false) true (fun _ _ _ _ _ => false) false (fun _ => false)
    (fun _ _ _ _ _ => false) (fun _ => false) false (fun _ _ => false) (fun _ _ => false) false (fun _ _ _ _ => false) v
noncomputable def V.isNilm (v : V) : Bool :=
  V.rec (motive_1 := fun _ => Bool) (motive_2 := fun _ => Bool) (fun _ => false) (fun _ _ => false) (fun _ => false) (fun _ _ => false) false (fun _ _ => false) false (fun _ _ _ _ _ => false) true (fun _ => false)
    (fun _ _ _ _ _ => false) (fun _ => false) false (fun _ _ => false) (fun _ _ => false) false (fun _ _ _ _ => false) v
noncomputable def V.nat (v : V) (k : Nat → R) : R := v.onInt none fun _ n => Int.rec (motive := fun _ => R) k (fun _ => none) n

/-! integers -/
noncomputable def ilt (a b : Int) : Bool :=
  Int.rec (motive := fun _ => Bool) (fun x => Int.rec (motive := fun _ => Bool) (fun y => ltb x y) (fun _ => false) b)
    (fun x => Int.rec (motive := fun _ => Bool) (fun _ => true) (fun y => ltb y x) b) a
noncomputable def ieq (a b : Int) : Bool :=
  Int.rec (motive := fun _ => Bool) (fun x => Int.rec (motive := fun _ => Bool) (fun y => Nat.beq x y) (fun _ => false) b)
    (fun x => Int.rec (motive := fun _ => Bool) (fun _ => false) (fun y => Nat.beq x y) b) a
noncomputable def kbeq (j k : IntKind) : Bool :=
  IntKind.rec (motive := fun _ => Bool) (IntKind.rec true false false false false false false false k) (IntKind.rec false true false false false false false false k)
    (IntKind.rec false false true false false false false false k) (IntKind.rec false false false true false false false false k)
    (IntKind.rec false false false false true false false false k) (IntKind.rec false false false false false true false false k)
    (IntKind.rec false false false false false false true false k) (IntKind.rec false false false false false false false true k) j
noncomputable def wrapK (k : IntKind) (n : Int) (c : Int → R) : R :=
  IntKind.rec (motive := fun _ => R) (c (IntKind.wrap k n)) (c (IntKind.wrap k n)) (c (IntKind.wrap k n))
    (Int.rec (motive := fun _ => R) (fun x => Bool.rec (motive := fun _ => R) (c (IntKind.wrap k n)) (c (.ofNat x)) (Nat.ble x 9223372036854775807))
      (fun x => Bool.rec (motive := fun _ => R) (c (IntKind.wrap k n)) (c (.negSucc x)) (Nat.ble x 9223372036854775807)) n)
    (c (IntKind.wrap k n)) (c (IntKind.wrap k n)) (c (IntKind.wrap k n)) (c (IntKind.wrap k n)) k

/-- both not negative -/
noncomputable def nn (a b : Int) (k : Nat → Nat → R) : R :=
  Int.rec (motive := fun _ => R) (fun x => Int.rec (motive := fun _ => R) (fun y => k x y) (fun _ => none) b) (fun _ => none) a

noncomputable def binInt (op : BinOp) (j k : IntKind) (a b : Int) (c : V → R) : R := match op with
  | .add => ifK (kbeq j k) (wrapK j (Int.add a b) fun n => c (.int j n))
  | .sub => ifK (kbeq j k) (wrapK j (Int.sub a b) fun n => c (.int j n))
  | .mul => ifK (kbeq j k) (wrapK j (Int.mul a b) fun n => c (.int j n))
  | .quo => ifK (kbeq j k) (ifK (bnot (ieq b 0)) (wrapK j (Int.tdiv a b) fun n => c (.int j n)))
  | .rem => ifK (kbeq j k) (ifK (bnot (ieq b 0)) (c (.int j (Int.tmod a b))))
  | .and => ifK (kbeq j k) (nn a b fun x y => wrapK j (.ofNat (Nat.land (Nat.mod x (2 ^ j.bits)) (Nat.mod y (2 ^ j.bits)))) fun n => c (.int j n))
  | .or => ifK (kbeq j k) (nn a b fun x y => wrapK j (.ofNat (Nat.lor (Nat.mod x (2 ^ j.bits)) (Nat.mod y (2 ^ j.bits)))) fun n => c (.int j n))
  | .xor => ifK (kbeq j k) (nn a b fun x y => wrapK j (.ofNat (Nat.xor (Nat.mod x (2 ^ j.bits)) (Nat.mod y (2 ^ j.bits)))) fun n => c (.int j n))
  | .andNot => ifK (kbeq j k) (nn a b fun x y => wrapK j (.ofNat (Nat.land (Nat.mod x (2 ^ j.bits)) (Nat.sub (2 ^ j.bits - 1) (Nat.mod y (2 ^ j.bits))))) fun n => c (.int j n))
  | .eql => ifK (kbeq j k) (c (.bool (ieq a b)))
  | .neq => ifK (kbeq j k) (c (.bool (bnot (ieq a b))))
  | .lss => ifK (kbeq j k) (c (.bool (ilt a b)))
  | .leq => ifK (kbeq j k) (c (.bool (bnot (ilt b a))))
  | .gtr => ifK (kbeq j k) (c (.bool (ilt b a)))
  | .geq => ifK (kbeq j k) (c (.bool (bnot (ilt a b))))
  | .shl => ifK (ilt (-1) b) (wrapK j (Int.mul a (Int.ofNat (Nat.pow 2 (Nat.min (Int.toNat b) j.bits)))) fun n => c (.int j n))
  | .shr => ifK (ilt (-1) b) (c (.int j (Int.fdiv a (Int.ofNat (Nat.pow 2 (Nat.min (Int.toNat b) j.bits))))))

/-- what symbols tell: a number kept in a symbol is looked at by these alone -/
structure Sy where
  bin : BinOp → V → V → Option V
  conv : IntKind → V → Option V

/-- equality of one-cell values that are no integers; which kind of type they are of -/
noncomputable def eq1 (v w : V) : Option Bool := match v, w with
  | .bool a, .bool b => some (beqB a b)
  | .nilp, .nilp => some true
  | .nilp, .ptr _ _ => some false
  | .ptr _ _, .nilp => some false
  | .nils, .nils => some true
  | .nils, .sl _ _ _ _ _ => some false
  | .sl _ _ _ _ _, .nils => some false
  | .nilm, .nilm => some true
  | .nilm, .map _ => some false
  | .map _, .nilm => some false
  | .nilf, .nilf => some true
  | .nilf, .fn _ _ _ => some false
  | .fn _ _ _, .nilf => some false
  | _, _ => none
noncomputable def V.cls (v : V) : Nat :=
  V.rec (motive_1 := fun _ => Nat) (motive_2 := fun _ => Nat) (fun _ => 0) (fun _ _ => 9) (fun _ => 9) (fun _ _ => 9) 2 (fun _ _ => 2) 3 (fun _ _ _ _ _ => 3) 4 (fun _ => 4)
    (fun _ _ _ _ _ => 5) (fun _ => 9) 5 (fun _ _ => 9) (fun _ _ => 9) 9 (fun _ _ _ _ => 9) v

/-- one cell against another one; a bool's cell, or an integer's -/
noncomputable def eqcK (S : Sy) (isB : Bool) (v w : V) (k : Bool → R) : R :=
  Bool.rec (motive := fun _ => R)
    (v.onInt (Option.rec (motive := fun _ => R) none (fun x => x.onBool k) (S.bin .eql v w)) fun i a =>
      w.onInt (Option.rec (motive := fun _ => R) none (fun x => x.onBool k) (S.bin .eql v w)) fun j b => ifK (kbeq i j) (k (ieq a b)))
    (v.onBool fun a => w.onBool fun b => k (beqB a b)) isB
/-- cell by cell, from the first on -/
noncomputable def eqL (S : Sy) (sh : List Bool) : List V → List V → (Bool → R) → R :=
  List.rec (motive := fun _ => List V → List V → (Bool → R) → R)
    (fun vs ws k => List.rec (motive := fun _ => R) (List.rec (motive := fun _ => R) (k true) (fun _ _ _ => none) ws) (fun _ _ _ => none) vs)
    (fun b _ ih vs ws k => List.rec (motive := fun _ => R) none (fun v vs' _ => List.rec (motive := fun _ => R) none (fun w ws' _ =>
      eqcK S b v w fun r => Bool.rec (motive := fun _ => R) (k false) (ih vs' ws' k) r) ws) vs) sh

noncomputable def eqLK (S : Sy) (sh : List Bool) (vs ws : List V) (k : Bool → R) : R := ifK (Nat.beq (llen vs) (llen sh)) (ifK (Nat.beq (llen ws) (llen sh)) (eqL S sh vs ws k))
noncomputable def Opd.ev (x : Opd) (t : T) : V :=
  Opd.rec (motive := fun _ => V) (fun n => Option.rec (motive := fun _ => V) (.tup []) (fun v => v) (t.getV n)) (fun v => v) x
noncomputable def evs (l : List Opd) (t : T) : List V := List.rec (motive := fun _ => List V) [] (fun x _ ih => x.ev t :: ih) l
noncomputable def evo (x : Option Opd) (t : T) : Option V := Option.rec (motive := fun _ => Option V) none (fun x => some (x.ev t)) x

/-- a part of so many cells laid at a place -/
noncomputable def lsets (vs : List V) : List V → Nat → List V :=
  List.rec (motive := fun _ => List V → Nat → List V) (fun l _ => l) (fun v _ ih l i => ih (lset v l i) (Nat.succ i)) vs
noncomputable def fillK (ps : List (Nat × Nat × Opd)) (t : T) : List V → (List V → R) → R :=
  List.rec (motive := fun _ => List V → (List V → R) → R) (fun l k => k l)
    (fun p _ ih l k => ifK (p.2.2.ev t).bx <| ifK (Nat.beq (llen (p.2.2.ev t).cells) p.2.1) (ifK (Nat.ble (p.1 + p.2.1) (llen l)) (ih (lsets (p.2.2.ev t).cells l p.1) k))) ps

/-- x[lo:hi:mx]: each bound -/
noncomputable def bnd (x : Option V) (y d : Nat) (k : Nat → R) : R :=
  Option.rec (motive := fun _ => R) (k d) (fun v => v.nat fun n => ifK (Nat.ble n y) (k n)) x
noncomputable def bounds (len cap : Nat) (lo hi mx : Option V) (k : Nat → Nat → Nat → R) : R :=
  bnd mx cap cap fun m => Option.rec (motive := fun _ => R) (Option.rec (motive := fun _ => R) (bnd lo len 0 fun l => k l len m) (fun _ => none) mx)
    (fun _ => bnd hi m len fun h => bnd lo h 0 fun l => k l h m) hi

noncomputable def slcE (esz : Nat) (b : Pos) (o len cap : Nat) (fx : Option Nat) (lo hi mx : Option V) (k : V → R) : R :=
  Option.rec (motive := fun _ => R)
    (bounds len cap lo hi mx fun l h m => Bool.rec (motive := fun _ => R) (k (.sl b (Nat.add o (Nat.mul l esz)) (Nat.sub h l) (Nat.sub m l) none)) (k (.sl b o (Nat.sub h l) 0 none)) (Nat.beq m l))
    (fun e => Option.rec (motive := fun _ => R)
      (ifK (Nat.beq e esz) <| ifK (Nat.ble len cap) (bnd hi len len fun h => bnd lo h 0 fun l => k (.sl b (Nat.add o (Nat.mul l esz)) (Nat.sub h l) (Nat.sub cap l) fx)))
      (fun _ => bounds len cap lo hi mx fun l h m => ifK (ltb l m) (k (.sl b (Nat.add o (Nat.mul l esz)) (Nat.sub h l) (Nat.sub m l) none))) mx) fx

/-! maps: keys are compared cell by cell -/
noncomputable def keyCells (ag : Bool) (v : V) (k : List V → R) : R := Bool.rec (motive := fun _ => R) (ifK v.one (k [v])) (v.onAgg k) ag
noncomputable def keyEq (S : Sy) (ag : Bool) (sh : List Bool) (a b : V) (k : Bool → R) : R := keyCells ag a fun x => keyCells ag b fun y => eqLK S sh x y k
/-- a key that may be looked for -/
noncomputable def keyOk (ag : Bool) (sh : List Bool) (a : V) (k : R) : R := keyCells ag a fun x => ifK (Nat.beq (llen x) (llen sh)) k
noncomputable def findK (S : Sy) (ag : Bool) (sh : List Bool) (key : V) (es : List (V × V)) : (Option V → R) → R :=
  List.rec (motive := fun _ => (Option V → R) → R) (fun k => k none) (fun e _ ih k => keyEq S ag sh key e.1 fun b => Bool.rec (motive := fun _ => R) (ih k) (k (some e.2)) b) es
noncomputable def setKK (S : Sy) (ag : Bool) (sh : List Bool) (key v : V) (es : List (V × V)) : (List (V × V) → R) → R :=
  List.rec (motive := fun _ => (List (V × V) → R) → R) (fun k => k [(key, v)])
    (fun e es' ih k => keyEq S ag sh key e.1 fun b => Bool.rec (motive := fun _ => R) (ih fun l => k (e :: l)) (k ((key, v) :: es')) b) es
noncomputable def delKK (S : Sy) (ag : Bool) (sh : List Bool) (key : V) (es : List (V × V)) : (List (V × V) → R) → R :=
  List.rec (motive := fun _ => (List (V × V) → R) → R) (fun k => k [])
    (fun e es' ih k => keyEq S ag sh key e.1 fun b => Bool.rec (motive := fun _ => R) (ih fun l => k (e :: l)) (k es') b) es
noncomputable def H.mapK (h : H) (r : Pos) (k : List (V × V) → R) : R := h.getK r fun o =>
  O.rec (motive := fun _ => R) (fun _ => none) (fun _ _ _ _ => none) k (fun _ _ _ _ _ => none) none o

/-- the cells of so many elements of a slice -/
noncomputable def H.elems (h : H) (esz : Nat) (s : V) (n : Nat) (k : List V → R) : R :=
  s.onSl (ifK s.isNils (ifK (Nat.beq n 0) (k []))) fun b o len _ _ => ifK (Nat.ble n len) (h.ldn b o (Nat.mul n esz) k)
noncomputable def lenK (s : V) (k : Nat → R) : R := s.onSl (ifK s.isNils (k 0)) fun _ _ n _ _ => k n

/-- is it cells? -/
noncomputable def O.isCB (o : O) : Bool := O.rec (motive := fun _ => Bool) (fun _ => true) (fun _ _ _ _ => true) (fun _ => false) (fun _ _ _ _ _ => false) false o
/-- append: 'new' are the cells, n of them elements -/
noncomputable def doApp (h : H) (esz : Nat) (s : V) (new : List V) (n : Nat) (k : K) : R :=
  s.onSl (ifK s.isNils (Nat.rec (motive := fun _ => R) (k .nils h) (fun _ _ => h.alloc (mkO new) fun r h' => k (.sl r 0 n n (some esz)) h') n))
    fun b o len cap fx => Bool.rec (motive := fun _ => R)
      (h.ldn b o (Nat.mul len esz) fun old =>
        Option.rec (motive := fun _ => R) (h.alloc (mkO (app old new)) fun r h' => k (.sl r 0 (Nat.add len n) (Nat.add len n) (some esz)) h')
          (fun e => ifK (Nat.beq e esz) <| h.getK b fun ob => ifK ob.isCB ((h.put b .dead).alloc (mkO (app old new)) fun r h' => k (.sl r 0 (Nat.add len n) (Nat.add len n) (some esz)) h')) fx)
      (h.stn b (Nat.add o (Nat.mul len esz)) new fun h' => k (.sl b o (Nat.add len n) cap fx) h') (Nat.ble (Nat.add len n) cap)

noncomputable def x_mv (x : Opd) (t : T) (h : H) (k : K) : R := k (x.ev t) h
noncomputable def x_pick (c a b : Opd) (t : T) (h : H) (k : K) : R := (c.ev t).onBool fun w => Bool.rec (motive := fun _ => R) (k (b.ev t) h) (k (a.ev t) h) w
noncomputable def x_new (zs : List V) (_ : T) (h : H) (k : K) : R := h.alloc (mkO zs) fun r h' => k (.ptr r 0) h'
noncomputable def x_box (x : Opd) (t : T) (h : H) (k : K) : R := ifK (x.ev t).bx (h.alloc (mkO (x.ev t).cells) fun r h' => k (.ptr r 0) h')
noncomputable def x_build (zs : List V) (ps : List (Nat × Nat × Opd)) (t : T) (h : H) (k : K) : R := fillK ps t zs fun l => k (.agg l) h
noncomputable def x_bslice (n : Nat) (zs : List V) (ps : List (Nat × Nat × Opd)) (t : T) (h : H) (k : K) : R :=
  fillK ps t zs fun l => h.alloc (mkO l) fun r h' => k (.sl r 0 n n none) h'
noncomputable def x_ld1 (x : Opd) (t : T) (h : H) (k : K) : R := (x.ev t).onPtr fun b i => h.ld1 b i fun v => k v h
noncomputable def x_ldn (n : Nat) (x : Opd) (t : T) (h : H) (k : K) : R := (x.ev t).onPtr fun b i => h.ldn b i n fun vs => k (.agg vs) h
noncomputable def x_st1 (a x : Opd) (t : T) (h : H) (k : K) : R := (a.ev t).onPtr fun b i => h.st1 b i (x.ev t) fun h' => k (.tup []) h'
noncomputable def x_stn (n : Nat) (a x : Opd) (t : T) (h : H) (k : K) : R := (a.ev t).onPtr fun b i => (x.ev t).onAgg fun c =>
  ifK (Nat.beq (llen c) n) (h.stn b i c fun h' => k (.tup []) h')
noncomputable def x_nilck (x : Opd) (t : T) (h : H) (k : K) : R := (x.ev t).onPtr fun b i => k (.ptr b i) h
noncomputable def x_bin (S : Sy) (op : BinOp) (x y : Opd) (t : T) (h : H) (k : K) : R :=
  (x.ev t).onInt (Option.rec (motive := fun _ => R) none (fun v => k v h) (S.bin op (x.ev t) (y.ev t))) fun i a =>
    (y.ev t).onInt (Option.rec (motive := fun _ => R) none (fun v => k v h) (S.bin op (x.ev t) (y.ev t))) fun j b => binInt op i j a b fun v => k v h
noncomputable def negIf (neg b : Bool) : Bool := Bool.rec (motive := fun _ => Bool) b (bnot b) neg
noncomputable def x_eqv (c : Nat) (neg : Bool) (x y : Opd) (t : T) (h : H) (k : K) : R := ifK (Nat.beq (x.ev t).cls c)
  (Option.rec (motive := fun _ => R) none (fun b => k (.bool (negIf neg b)) h) (eq1 (x.ev t) (y.ev t)))
noncomputable def x_eqa (S : Sy) (sh : List Bool) (neg : Bool) (x y : Opd) (t : T) (h : H) (k : K) : R :=
  (x.ev t).onAgg fun a => (y.ev t).onAgg fun b => eqLK S sh a b fun r => k (.bool (negIf neg r)) h
noncomputable def x_notb (x : Opd) (t : T) (h : H) (k : K) : R := (x.ev t).onBool fun b => k (.bool (bnot b)) h
noncomputable def x_neg (x : Opd) (t : T) (h : H) (k : K) : R := (x.ev t).onInt none fun j n => wrapK j (Int.sub 0 n) fun n => k (.int j n) h
noncomputable def x_conv (S : Sy) (j : IntKind) (x : Opd) (t : T) (h : H) (k : K) : R :=
  (x.ev t).onInt (Option.rec (motive := fun _ => R) none (fun v => k v h) (S.conv j (x.ev t))) fun _ n => wrapK j n fun n => k (.int j n) h
noncomputable def x_mkfn (f : Nat) (a b : List Opd) (t : T) (h : H) (k : K) : R := k (.fn f (evs a t) (evs b t)) h
noncomputable def x_mkmap (_ : T) (h : H) (k : K) : R := h.alloc (.mp []) fun r h' => k (.map r) h'
noncomputable def x_mkslice (esz : Nat) (zs : List V) (bytes : Nat) (l c : Opd) (t : T) (h : H) (k : K) : R := (l.ev t).nat fun n => (c.ev t).nat fun m =>
  ifK (Nat.ble n m) (ifK (Nat.ble (Nat.mul m bytes) 1099511627776) (ifK (Nat.ble m 1099511627776) (h.alloc (.big (Nat.mul m esz) esz zs .nil) fun r h' => k (.sl r 0 n m none) h')))
noncomputable def x_slc (esz : Nat) (x : Opd) (lo hi mx : Option Opd) (t : T) (h : H) (k : K) : R :=
  (x.ev t).onSl (ifK (x.ev t).isNils (bounds 0 0 (evo lo t) (evo hi t) (evo mx t) fun _ _ _ => k .nils h)) fun b o len cap fx =>
    slcE esz b o len cap fx (evo lo t) (evo hi t) (evo mx t) fun v => k v h
noncomputable def x_slca (n esz : Nat) (x : Opd) (lo hi mx : Option Opd) (t : T) (h : H) (k : K) : R :=
  (x.ev t).onPtr fun b o => slcE esz b o n n none (evo lo t) (evo hi t) (evo mx t) fun v => k v h
noncomputable def x_fa (off : Nat) (x : Opd) (t : T) (h : H) (k : K) : R := (x.ev t).onPtr fun b o => k (.ptr b (Nat.add o off)) h
noncomputable def x_ixs (esz : Nat) (x i : Opd) (t : T) (h : H) (k : K) : R := (x.ev t).onSl none fun b o len _ _ => (i.ev t).nat fun n =>
  ifK (ltb n len) (k (.ptr b (Nat.add o (Nat.mul n esz))) h)
noncomputable def x_ixa (len esz : Nat) (x i : Opd) (t : T) (h : H) (k : K) : R := (x.ev t).onPtr fun b o => (i.ev t).nat fun n =>
  ifK (ltb n len) (k (.ptr b (Nat.add o (Nat.mul n esz))) h)
noncomputable def partK (n : Option Nat) (c : List V) (off : Nat) (k : V → R) : R :=
  Option.rec (motive := fun _ => R) (nthK c off k) (fun n => ifK (Nat.ble (off + n) (llen c)) (k (.agg (tkn (drp c off) n)))) n
noncomputable def x_fld (n : Option Nat) (off : Nat) (x : Opd) (t : T) (h : H) (k : K) : R := (x.ev t).onAgg fun c => partK n c off fun v => k v h
noncomputable def x_ixv (len : Nat) (n : Option Nat) (esz : Nat) (x i : Opd) (t : T) (h : H) (k : K) : R := (x.ev t).onAgg fun c => (i.ev t).nat fun j =>
  ifK (ltb j len) (partK n c (Nat.mul j esz) fun v => k v h)
noncomputable def lkR (zero : V) (ok : Bool) (r : Option V) (k : V → R) : R :=
  Bool.rec (motive := fun _ => R) (Option.rec (motive := fun _ => R) (k zero) k r)
    (Option.rec (motive := fun _ => R) (k (.tup [zero, .bool false])) (fun v => k (.tup [v, .bool true])) r) ok
noncomputable def x_lkp (S : Sy) (ag : Bool) (sh : List Bool) (zero : V) (ok : Bool) (x i : Opd) (t : T) (h : H) (k : K) : R := keyOk ag sh (i.ev t)
  ((x.ev t).onMap (ifK (x.ev t).isNilm (lkR zero ok none fun v => k v h)) fun r => h.mapK r fun es => findK S ag sh (i.ev t) es fun f => lkR zero ok f fun v => k v h)
noncomputable def x_mset (S : Sy) (ag : Bool) (sh : List Bool) (m key x : Opd) (t : T) (h : H) (k : K) : R := keyOk ag sh (key.ev t)
  ((m.ev t).onMap none fun r => h.mapK r fun es => setKK S ag sh (key.ev t) (x.ev t) es fun es' => k (.tup []) (h.put r (.mp es')))
noncomputable def x_ext (x : Opd) (i : Nat) (t : T) (h : H) (k : K) : R := (x.ev t).onTup fun c => nthK c i fun v => k v h
noncomputable def x_app (esz : Nat) (s x : Opd) (t : T) (h : H) (k : K) : R :=
  lenK (s.ev t) fun len => lenK (x.ev t) fun n => h.elems esz (x.ev t) n fun new => ifK (Nat.ble (Nat.add len n) 1073741824) (doApp h esz (s.ev t) new n k)
noncomputable def x_copy (esz : Nat) (d s : Opd) (t : T) (h : H) (k : K) : R :=
  lenK (d.ev t) fun dn => lenK (s.ev t) fun sn => h.elems esz (s.ev t) (Nat.min sn dn) fun cs =>
    (d.ev t).onSl (k (.int .i64 (.ofNat (Nat.min sn dn))) h) fun b o _ _ _ => h.stn b o cs fun h' => k (.int .i64 (.ofNat (Nat.min sn dn))) h'
noncomputable def x_len (x : Opd) (t : T) (h : H) (k : K) : R := lenK (x.ev t) fun n => k (.int .i64 (.ofNat n)) h
noncomputable def x_lenm (x : Opd) (t : T) (h : H) (k : K) : R :=
  (x.ev t).onMap (ifK (x.ev t).isNilm (k (.int .i64 (.ofNat 0)) h)) fun r => h.mapK r fun es => k (.int .i64 (.ofNat (llen es))) h
noncomputable def x_clear (zs : List V) (x : Opd) (t : T) (h : H) (k : K) : R :=
  (x.ev t).onSl none fun b o n _ _ => h.stn b o (repl zs n) fun h' => k (.tup []) h'
noncomputable def x_del (S : Sy) (ag : Bool) (sh : List Bool) (m key : Opd) (t : T) (h : H) (k : K) : R := keyOk ag sh (key.ev t)
  ((m.ev t).onMap none fun r => h.mapK r fun es => delKK S ag sh (key.ev t) es fun es' => k (.tup []) (h.put r (.mp es')))
noncomputable def mnxK (isMax : Bool) (j : IntKind) (ys : List Opd) (t : T) : Int → (V → R) → R :=
  List.rec (motive := fun _ => Int → (V → R) → R) (fun n k => k (.int j n))
    (fun y _ ih n k => (y.ev t).onInt none fun _ m => ih (Bool.rec (motive := fun _ => Int) n m (Bool.rec (motive := fun _ => Bool) (ilt m n) (ilt n m) isMax)) k) ys
noncomputable def x_mnx (isMax : Bool) (x : Opd) (ys : List Opd) (t : T) (h : H) (k : K) : R := (x.ev t).onInt none fun j n => mnxK isMax j ys t n fun v => k v h

noncomputable def x_capx (x : Opd) (t : T) (h : H) (k : K) : R :=
  (x.ev t).onSl (ifK (x.ev t).isNils (k (.int .i64 (.ofNat 0)) h)) fun _ _ _ cap fx => Option.rec (motive := fun _ => R) (k (.int .i64 (.ofNat cap)) h) (fun _ => none) fx
/-- append of so many zeros to a nil slice -/
noncomputable def x_appz (esz : Nat) (zs : List V) (s n : Opd) (t : T) (h : H) (k : K) : R := (n.ev t).nat fun m =>
  ifK (s.ev t).isNils (ifK (ltb 0 m) (ifK (Nat.ble m 1073741824) (h.alloc (mkO (repl zs m)) fun r h' => k (.sl r 0 m m (some esz)) h')))

/-! running -/
inductive Env where
  | mk (call : Nat → List V → H → K → R) (round : Pos → List V → H → K → R)
      (loop : IC → T → H → (T → H → R) → (Option Nat → T → H → R) → R)

noncomputable def Env.callV (E : Env) (f : V) (args : List V) (h : H) (k : K) : R :=
  V.rec (motive_1 := fun _ => Env → List V → H → K → R) (motive_2 := fun _ => Unit) (fun _ _ _ _ _ => none) (fun _ _ _ _ _ _ => none) (fun _ _ _ _ _ => none) (fun _ _ _ _ _ _ => none) (fun _ _ _ _ => none) (fun _ _ _ _ _ _ => none) (fun _ _ _ _ => none) (fun _ _ _ _ _ _ _ _ _ => none) (fun _ _ _ _ => none) (fun _ _ _ _ _ => none) (fun f fs cs _ _ E args h k => Env.rec (motive := fun _ => R) (fun c _ _ => c f (app fs (app args cs)) h k) E) (fun l E args h k => Env.rec (motive := fun _ => R) (fun _ r _ => r l args h k) E) (fun _ _ _ _ => none) (fun _ _ _ _ _ _ => none) (fun _ _ _ _ _ _ => none) () (fun _ _ _ _ => ()) f E args h k

/-- a function's alone -/
noncomputable def Env.callFn (E : Env) (f : V) (args : List V) (h : H) (k : K) : R :=
  V.rec (motive_1 := fun _ => Env → List V → H → K → R) (motive_2 := fun _ => Unit) (fun _ _ _ _ _ => none) (fun _ _ _ _ _ _ => none) (fun _ _ _ _ _ => none) (fun _ _ _ _ _ _ => none) (fun _ _ _ _ => none) (fun _ _ _ _ _ _ => none) (fun _ _ _ _ => none) (fun _ _ _ _ _ _ _ _ _ => none) (fun _ _ _ _ => none) (fun _ _ _ _ _ => none) (fun f fs cs _ _ E args h k => Env.rec (motive := fun _ => R) (fun c _ _ => c f (app fs (app args cs)) h k) E) (fun _ _ _ _ _ => none) (fun _ _ _ _ => none) (fun _ _ _ _ _ _ => none) (fun _ _ _ _ _ _ => none) () (fun _ _ _ _ => ()) f E args h k

noncomputable def exec (S : Sy) (E : Env) (op : IOp) : T → H → K → R :=
  IOp.rec (motive := fun _ => Sy → Env → T → H → K → R) (fun a0 _ _ => x_mv a0) (fun a0 a1 a2 _ _ => x_pick a0 a1 a2) (fun a0 _ _ => x_new a0) (fun a0 _ _ => x_box a0) (fun a0 a1 _ _ => x_build a0 a1) (fun a0 a1 a2 _ _ => x_bslice a0 a1 a2) (fun a0 _ _ => x_ld1 a0) (fun a0 a1 _ _ => x_ldn a0 a1) (fun a0 a1 _ _ => x_st1 a0 a1) (fun a0 a1 a2 _ _ => x_stn a0 a1 a2) (fun a0 _ _ => x_nilck a0) (fun a0 a1 a2 S _ => x_bin S a0 a1 a2) (fun a0 a1 a2 a3 _ _ => x_eqv a0 a1 a2 a3) (fun a0 a1 a2 a3 S _ => x_eqa S a0 a1 a2 a3) (fun a0 _ _ => x_notb a0) (fun a0 _ _ => x_neg a0) (fun a0 a1 S _ => x_conv S a0 a1) (fun a0 a1 a2 _ _ => x_mkfn a0 a1 a2) (fun _ _ => x_mkmap) (fun a0 a1 a2 a3 a4 _ _ => x_mkslice a0 a1 a2 a3 a4) (fun a0 a1 a2 a3 a4 _ _ => x_slc a0 a1 a2 a3 a4) (fun a0 a1 a2 a3 a4 a5 _ _ => x_slca a0 a1 a2 a3 a4 a5) (fun a0 a1 _ _ => x_fa a0 a1) (fun a0 a1 a2 _ _ => x_ixs a0 a1 a2) (fun a0 a1 a2 a3 _ _ => x_ixa a0 a1 a2 a3) (fun a0 a1 a2 _ _ => x_fld a0 a1 a2) (fun a0 a1 a2 a3 a4 _ _ => x_ixv a0 a1 a2 a3 a4) (fun a0 a1 a2 a3 a4 a5 S _ => x_lkp S a0 a1 a2 a3 a4 a5) (fun a0 a1 a2 a3 a4 S _ => x_mset S a0 a1 a2 a3 a4) (fun a0 a1 _ _ => x_ext a0 a1) (fun f as _ E t h k => E.callV (f.ev t) (evs as t) h k) (fun a0 a1 a2 _ _ => x_app a0 a1 a2) (fun a0 a1 a2 _ _ => x_copy a0 a1 a2) (fun a0 _ _ => x_len a0) (fun a0 _ _ => x_lenm a0) (fun a0 a1 _ _ => x_clear a0 a1) (fun a0 a1 a2 a3 S _ => x_del S a0 a1 a2 a3) (fun a0 a1 a2 _ _ => x_mnx a0 a1 a2) (fun a0 _ _ => x_capx a0) (fun a0 a1 a2 a3 _ _ => x_appz a0 a1 a2 a3) (fun _ _ _ _ _ => none) op S E

noncomputable def tset (d : Option Pos) (v : V) (t : T) : T := Option.rec (motive := fun _ => T) t (fun d => Tr.putV d v t) d

/-- is an operation to be done? -/
noncomputable def wantK (g : Option (Pos × Bool)) (t : T) (no yes : R) : R :=
  Option.rec (motive := fun _ => T → R → R → R) (fun _ _ yes => yes) (fun p t no yes => Prod.rec (motive := fun _ => R) (fun d w =>
    V.on ((Opd.t d).ev t) no (fun b => Bool.rec (motive := fun _ => R) no yes (beqB b w)) (fun _ _ => no) (fun _ _ => no) (fun _ _ _ _ _ => no) (fun _ => no) (fun _ _ _ => no) (fun _ => no) (fun _ => no)) p) g t no yes

/-- 0: computes; 1: reads; 2: makes; 3: anything -/
noncomputable def IOp.kind (op : IOp) : Nat := match op with
  | .mv _ | .pick .. | .build .. | .nilck _ | .bin .. | .eqv .. | .eqa .. | .notb _ | .neg _ | .conv .. | .mkfn .. | .slc .. | .slca .. | .fa .. | .ixs .. | .ixa .. | .fld .. | .ixv .. | .ext .. | .len _ | .mnx .. | .capx _ => 0
  | .ld1 _ | .ldn .. | .lkp .. | .lenm _ => 1
  | .new _ | .box _ | .bslice .. | .mkmap | .mkslice .. => 2
  | _ => 3

noncomputable def Pb.nat (p : Pb) : Nat := Pb.rec 1 (fun _ n => Nat.mul 2 n) (fun _ n => Nat.succ (Nat.mul 2 n)) p
noncomputable def D4.nat (d : D4) : Nat := D4.rec 0 1 2 3 d
noncomputable def D4.add (d : D4) (n : Nat) : Nat := Nat.add (Nat.mul 4 n) d.nat
noncomputable def Pos.nat (p : Pos) : Nat := Pos.rec (motive := fun _ => Nat) (fun x y z => Nat.succ (z.add (y.add x.nat)))
  (fun p q r v x y z => Nat.add 65 (z.add (y.add (x.add (v.add (r.add (q.add p.nat))))))) (fun p => Nat.add 16448 p.nat) p
noncomputable def andB (a b : Bool) : Bool := Bool.rec (motive := fun _ => Bool) false b a
/-- surely the same value -/
noncomputable def vsame1 (v w : V) : Bool := match v, w with
  | .bool a, .bool b => beqB a b
  | .int j a, .int k b => andB (kbeq j k) (ieq a b)
  | .sym j a, .sym k b => andB (kbeq j k) (Nat.beq a b)
  | .nilp, .nilp => true
  | .nils, .nils => true
  | .nilm, .nilm => true
  | .nilf, .nilf => true
  | .ptr b o, .ptr c p => andB (Nat.beq b.nat c.nat) (Nat.beq o p)
  | .map b, .map c => Nat.beq b.nat c.nat
  | .sl b o n m none, .sl b' o' n' m' none => andB (Nat.beq b.nat b'.nat) (andB (Nat.beq o o') (andB (Nat.beq n n') (Nat.beq m m')))
  | .sl b o n m (some e), .sl b' o' n' m' (some e') => andB (Nat.beq e e') (andB (Nat.beq b.nat b'.nat) (andB (Nat.beq o o') (andB (Nat.beq n n') (Nat.beq m m'))))
  | .fn f [] [], .fn g [] [] => Nat.beq f g
  | .fn f [x] [], .fn g [y] [] => match x, y with | .ptr b o, .ptr c p => andB (Nat.beq f g) (andB (Nat.beq b.nat c.nat) (Nat.beq o p)) | _, _ => false
  | _, _ => false

noncomputable def vsameL (vs : List V) : List V → Bool :=
  List.rec (motive := fun _ => List V → Bool) (fun ws => List.rec (motive := fun _ => Bool) true (fun _ _ _ => false) ws)
    (fun v _ ih ws => List.rec (motive := fun _ => Bool) false (fun w ws' _ => andB (vsame1 v w) (ih ws')) ws) vs
noncomputable def vsame (v w : V) : Bool := match v, w with
  | .agg a, .agg b => vsameL a b
  | v, w => vsame1 v w

structure Pend where
  n : Nat
  op : IOp
  t : T
  v : V
/-- readings that may come later: again, behind a writer -/
noncomputable def rechk (S : Sy) (E : Env) (h : H) (l : List Pend) : (List Pend → R) → R :=
  List.rec (motive := fun _ => (List Pend → R) → R) (fun k => k []) (fun p _ ih k => Pend.rec (motive := fun _ => R) (fun n op t v =>
    Nat.rec (motive := fun _ => R) (ih k) (fun n _ => exec S E op t h fun v' _ => ifK (vsame v v') (ih fun l' => k (⟨n, op, t, v⟩ :: l'))) n) p) l
noncomputable def isK3 (op : IOp) (a b : R) : R := Nat.rec (motive := fun _ => R) b (fun n _ => Nat.rec (motive := fun _ => R) b (fun n _ => Nat.rec (motive := fun _ => R) b (fun _ _ => a) n) n) op.kind
noncomputable def pendAdd (n : Nat) (op : IOp) (t : T) (v : V) (l : List Pend) : List Pend := Nat.rec (motive := fun _ => List Pend) l (fun m _ => ⟨Nat.succ m, op, t, v⟩ :: l) n

noncomputable def H.fresh (h : H) : Bool := H.rec (motive := fun _ => Bool) (fun nx m => Option.rec (motive := fun _ => Bool) true (fun _ => false) (m.getO nx)) h
/-- what makes a block makes a new one -/
noncomputable def mkOk (op : IOp) (h : H) : Bool := Bool.rec (motive := fun _ => Bool) true h.fresh (Nat.beq op.kind 2)
/-- a region that draws its order -/
noncomputable def opersD (S : Sy) (l : List IOpr) : Env → List Pend → T → H → (T → H → R) → R :=
  List.rec (motive := fun _ => Env → List Pend → T → H → (T → H → R) → R) (fun _ _ t h k => k t h)
    (fun o _ ih E pend t h k => IOpr.rec (motive := fun _ => R) (fun d g late op =>
      wantK g t (isK3 op (rechk S E h pend fun pend' => ih E pend' (tset d (.tup []) t) h k) (ih E pend (tset d (.tup []) t) h k))
        (exec S E op t h fun v h' => isK3 op (rechk S E h' pend fun pend' => ih E pend' (tset d v t) h' k) (ifK (mkOk op h) (ih E (pendAdd late op t v pend) (tset d v t) h' k)))) o) l

noncomputable def opers (S : Sy) (l : List IOpr) : Env → T → H → (T → H → R) → R :=
  List.rec (motive := fun _ => Env → T → H → (T → H → R) → R) (fun _ t h k => k t h)
    (fun o _ ih E t h k => wantK o.guard t (ih E (tset o.dst (.tup []) t) h k) (exec S E o.op t h fun v h' => ih E (tset o.dst v t) h' k)) l

noncomputable def tsets (ps : List Pos) : List V → T → (T → R) → R :=
  List.rec (motive := fun _ => List V → T → (T → R) → R) (fun vs t k => List.rec (motive := fun _ => R) (k t) (fun _ _ _ => none) vs)
    (fun p _ ih vs t k => List.rec (motive := fun _ => R) none (fun v vs' _ => ih vs' (Tr.putV p v t) k) vs) ps

/-- the loop's record, as it stands -/
noncomputable def H.loopK (h : H) (l : Pos) (k : Nat → T → List Pos → IC → IC → R) : R := h.getK l fun o =>
  O.rec (motive := fun _ => R) (fun _ => none) (fun _ _ _ _ => none) (fun _ => none) k none o

noncomputable def exitSt (e : Option Nat) : Nat := Option.rec (motive := fun _ => Nat) 2 (fun id => id + 3) e

noncomputable def code (S : Sy) (c : IC) : Env → T → H → (T → H → R) → (Option Nat → T → H → R) → R :=
  IC.rec (motive := fun _ => Env → T → H → (T → H → R) → (Option Nat → T → H → R) → R)
    (fun _ t h kn _ => kn t h)
    (fun _ t h _ kx => kx none t h)
    (fun _ _ _ _ _ => none)
    (fun ops E t h kn _ => opers S ops E t h kn)
    (fun ops E t h kn _ => opersD S ops E [] t h kn)
    (fun _ _ iha ihb E t h kn kx => iha E t h (fun t h => ihb E t h kn kx) kx)
    (fun c _ _ iha ihb E t h kn kx => (c.ev t).onBool fun b => Bool.rec (motive := fun _ => R) (ihb E t h kn kx) (iha E t h kn kx) b)
    (fun id _ ih E t h kn kx => ih E t h kn (fun e t h => Option.rec (motive := fun _ => R) (kx none t h)
      (fun j => Bool.rec (motive := fun _ => R) (kx (some j) t h) (kn t h) (Nat.beq j id)) e))
    (fun b _ E t h kn kx => Env.rec (motive := fun _ => R) (fun _ _ l => l b t h kn kx) E)
    (fun id _ t h _ kx => kx (some id) t h)
    (fun f ps as bd _ _ E t h kn kx => h.alloc (.loop 0 t ps as bd) fun l h1 => E.callFn (f.ev t) [.yield l] h1 fun _ h2 =>
      h2.loopK l fun st _ _ _ _ => Nat.rec (motive := fun _ => R) (kn t (h2.put l .dead))
        (fun s _ => Nat.rec (motive := fun _ => R) none (fun s _ => Nat.rec (motive := fun _ => R) (kx none t (h2.put l .dead)) (fun id _ => kx (some id) t (h2.put l .dead)) s) s) st) c

inductive IFn where
  | mk (body : IC) (nt : Nat) (res : List (Pos × Option Nat × Bool))

noncomputable def resK (l : List (Pos × Option Nat × Bool)) : T → H → (List V → R) → R :=
  List.rec (motive := fun _ => T → H → (List V → R) → R) (fun _ _ k => k [])
    (fun r _ ih t h k => Prod.rec (motive := fun _ => R) (fun p q => Prod.rec (motive := fun _ => R) (fun n ag => Option.rec (motive := fun _ => R)
        (ih t h fun vs => k ((Opd.t p).ev t :: vs))
        (fun n => ((Opd.t p).ev t).onPtr fun b i => Bool.rec (motive := fun _ => R)
          (h.ld1 b i fun v => ih t h fun vs => k (v :: vs)) (h.ldn b i n fun c => ih t h fun vs => k (.agg c :: vs)) ag) n) q) r) l

noncomputable def resV (vs : List V) : V :=
  List.rec (motive := fun _ => V) (.tup vs) (fun v vs' _ => List.rec (motive := fun _ => V) v (fun _ _ _ => .tup vs) vs') vs

noncomputable def runF (S : Sy) (tab : Tr IFn) (E : Env) (f : Nat) (args : List V) (h : H) (k : K) : R :=
  Option.rec (motive := fun _ => R) none (fun fn => IFn.rec (motive := fun _ => R) (fun body nt res => ifK (Nat.ble (llen args) nt)
    (code S body E (ofL args 0 .nil) h (fun t h' => resK res t h' fun vs => k (resV vs) h')
      (fun e t h' => Option.rec (motive := fun _ => R) (resK res t h' fun vs => k (resV vs) h') (fun _ => none) e))) fn) (tab.get (Pos.of f))

noncomputable def runR (S : Sy) (E : Env) (l : Pos) (args : List V) (h : H) (k : K) : R :=
  h.loopK l fun st t ps as bd => ifK (Nat.beq st 0) (tsets ps args t fun t1 => code S as E t1 h (fun t2 h1 =>
    h1.loopK l fun st' t' ps' as' bd' => ifK (Nat.beq st' 0) (code S bd E t2 (h1.put l (.loop 1 t' ps' as' bd'))
      (fun _ h2 => h2.loopK l fun _ t3 ps3 as3 bd3 => k (.bool true) (h2.put l (.loop 0 t3 ps3 as3 bd3)))
      (fun e _ h2 => h2.loopK l fun _ t3 ps3 as3 bd3 => k (.bool false) (h2.put l (.loop (exitSt e) t3 ps3 as3 bd3)))))
    (fun _ _ _ => none))

/-- functions that are told by a contract, not run -/
abbrev Orc := Nat → List V → H → Option (K → R)

noncomputable def env (S : Sy) (orc : Orc) (tab : Tr IFn) (n : Nat) : Env :=
  Nat.rec (motive := fun _ => Env) (.mk (fun _ _ _ _ => none) (fun _ _ _ _ => none) (fun _ _ _ _ _ => none))
    (fun _ E => .mk (fun f args h k => Option.rec (motive := fun _ => R) (runF S tab E f args h k) (fun c => c k) (orc f args h)) (runR S E)
      (fun b t h kn kx => code S b E t h (fun t h => Env.rec (motive := fun _ => R) (fun _ _ l => l b t h kn kx) E) kx)) n

end Go.Ab
