/- The loaded program's code, turned into the abstract interpreter's. -/
import Derived.Test.YtnhakkolafedhaaGreatAbB
set_option linter.unusedVariables false
set_option linter.unusedSimpArgs false
namespace Go.Ab

/-- what the turning asks of the program's types: their rows; of which types '==' may be taken cell by cell -/
structure Cx where
  ti : Nat → Option TypeInfo
  eqs : Nat → Bool

def ofV1 : Value → Option V
  | .bool b => some (V.bool b)
  | .int k n => some (V.int k n)
  | .string s => some (V.str s)
  | .pointer none => some V.nilp
  | .slice none 0 0 => some V.nils
  | .map none => some V.nilm
  | .nilFunc => some V.nilf
  | _ => none
def ofVs : List Value → Option (List V)
  | [] => some []
  | v :: vs => match ofV1 v with
    | some x => match ofVs vs with
      | some xs => some (x :: xs)
      | none => none
    | none => none
def ofV : Value → Option V
  | .agg cs => match ofVs cs.toList with
    | some l => some (V.agg l)
    | none => none
  | v => ofV1 v
def zerosV : Value → Option (List V)
  | .agg cs => ofVs cs.toList
  | v => match ofV1 v with
    | some x => some [x]
    | none => none

noncomputable def ofOpd : Operand → Option Opd
  | .tmp t => some (.t (Pos.of t))
  | .const v => match ofV v with
    | some x => some (.c x)
    | none => none
  | .func f => some (.c (.fn f [] []))
  | .global _ => none
noncomputable def ofOpds : List Operand → Option (List Opd)
  | [] => some []
  | v :: vs => match ofOpd v with
    | some x => match ofOpds vs with
      | some xs => some (x :: xs)
      | none => none
    | none => none
noncomputable def ofOpt : Option Operand → Option (Option Opd)
  | none => some none
  | some x => match ofOpd x with
    | some y => some (some y)
    | none => none

section
variable (cx : Cx)
def und (t : TypeId) : Option TypeDesc := match cx.ti t with
  | some i => match i.desc with
    | .named _ u => (cx.ti u).map (·.desc)
    | d => some d
  | none => none
def szOf (t : TypeId) : Option Nat := (cx.ti t).map (·.size)
def byOf (t : TypeId) : Option Nat := (cx.ti t).map (·.bytes)
def zerosOf (t : TypeId) : Option (List V) := match cx.ti t with
  | some i => match i.zero with
    | some v => zerosV v
    | none => none
  | none => none
def zeroOf (t : TypeId) : Option V := match cx.ti t with
  | some i => match i.zero with
    | some v => ofV v
    | none => none
  | none => none
def aggOf (t : TypeId) : Option Bool := match und cx t with
  | some (.struct _) | some (.array _ _) => some true
  | some _ => some false
  | none => none
/-- the size of a part, if it is a struct or an array; none: one cell -/
def partOf (t : TypeId) : Option (Option Nat) := match szOf cx t, aggOf cx t with
  | some s, some true => some (some s)
  | some _, some false => some none
  | _, _ => none

/-- a type whose '==' is its cells' '==', cell by cell: which cells are bools' -/
def shapeFs (rec : TypeId → Option (List Bool)) : List Field → Nat → Option (List Bool)
  | [], _ => some []
  | f :: fs, off => if f.name == "_" || f.offset != off then none else match rec f.type with
    | some l => match shapeFs rec fs (off + l.length) with
      | some r => some (l ++ r)
      | none => none
    | none => none
def shapeOf : Nat → TypeId → Option (List Bool)
  | 0, _ => none
  | d + 1, t => match und cx t with
    | some .bool => if szOf cx t == some 1 then some [true] else none
    | some (.int _) => if szOf cx t == some 1 then some [false] else none
    | some (.struct fs) => if cx.eqs t then match shapeFs (shapeOf d) fs.toList 0 with
        | some l => if szOf cx t == some l.length then some l else none
        | none => none
      else none
    | some (.array n e) => match shapeOf d e with
        | some l => if szOf cx e == some l.length && szOf cx t == some (n * l.length) then some (List.replicate n l).flatten else none
        | none => none
    | _ => none

/-- a key's type: which cells it has -/
def keyShape (t : TypeId) : Option (List Bool) := match und cx t with
  | some .bool | some (.int _) | some (.struct _) => shapeOf cx 2 t
  | _ => none
def placesOf : List Field → Option (List (Nat × Nat))
  | [] => some []
  | f :: fs => match szOf cx f.type, placesOf fs with
    | some s, some r => some ((f.offset, s) :: r)
    | _, _ => none
noncomputable def partsAt (place : Nat → Option (Nat × Nat)) : List (Nat × Operand) → Option (List (Nat × Nat × Opd))
  | [] => some []
  | (i, x) :: ps => match place i, ofOpd x, partsAt place ps with
    | some (o, s), some y, some r => some ((o, s, y) :: r)
    | _, _, _ => none

noncomputable def compEq (neg : Bool) (t : TypeId) (x y : Opd) : Option IOp := match und cx t with
  | some (.int _) => some (.bin (if neg then .neq else .eql) x y)
  | some .bool => some (.eqv 0 neg x y)
  | some (.pointer _) => some (.eqv 2 neg x y)
  | some (.slice _) => some (.eqv 3 neg x y)
  | some (.map _ _) => some (.eqv 4 neg x y)
  | some (.func _ _ _) => some (.eqv 5 neg x y)
  | some (.struct _) => if cx.eqs t then (shapeOf cx 40 t).map fun sh => .eqa sh neg x y else none
  | some (.array _ _) => if cx.eqs t then (shapeOf cx 40 t).map fun sh => .eqa sh neg x y else none
  | _ => none

noncomputable def compOp (o : Op) : Option IOp :=
  match o with
  | .move x | .assign x => do pure (.mv (← ofOpd x))
  | .pick c a b => do pure (.pick (← ofOpd c) (← ofOpd a) (← ofOpd b))
  | .alloc e => do pure (.new (← zerosOf cx e))
  | .box _ x => do pure (.box (← ofOpd x))
  | .build t ps => do
    let z ← zerosOf cx t
    match ← und cx t with
    | .struct fs => do
      let pl ← placesOf cx fs.toList
      pure (.build z (← partsAt (pl[·]?) ps.toList))
    | .array _ e => do
      let s ← szOf cx e
      pure (.build z (← partsAt (fun i => some (i * s, s)) ps.toList))
    | _ => none
  | .buildSlice t n ps => do
    let .slice e ← und cx t | none
    let s ← szOf cx e
    let z ← zerosOf cx e
    if z.length == s && n * s ≤ 16777216 && s != 0 then pure (.bslice n (repl z n) (← partsAt (fun i => some (i * s, s)) ps.toList)) else none
  | .load t a => do
    match ← partOf cx t with
    | some n => pure (.ldn n (← ofOpd a))
    | none => pure (.ld1 (← ofOpd a))
  | .store t a x => do
    match ← partOf cx t with
    | some n => pure (.stn n (← ofOpd a) (← ofOpd x))
    | none => if szOf cx t == some 1 then pure (.st1 (← ofOpd a) (← ofOpd x)) else none
  | .nilCheck x => do pure (.nilck (← ofOpd x))
  | .binOp .eql t x y _ => do compEq cx false t (← ofOpd x) (← ofOpd y)
  | .binOp .neq t x y _ => do compEq cx true t (← ofOpd x) (← ofOpd y)
  | .binOp op _ x y _ => do pure (.bin op (← ofOpd x) (← ofOpd y))
  | .unOp .not _ x => do pure (.notb (← ofOpd x))
  | .unOp .neg _ x => do pure (.neg (← ofOpd x))
  | .convert s d x => do
    let _ ← und cx s
    match ← und cx d with
    | .int k => pure (.conv k (← ofOpd x))
    | _ => none
  | .makeFunc (.func f) a b => do pure (.mkfn f (← ofOpds a.toList) (← ofOpds b.toList))
  | .makeMap _ none => some .mkmap
  | .makeSlice t l c => do
    let .slice e ← und cx t | none
    let s ← szOf cx e
    let z ← zerosOf cx e
    if z.length == s && s != 0 then pure (.mkslice s z (← byOf cx e) (← ofOpd l) (← ofOpd c)) else none
  | .slice t x lo hi mx => do
    match ← und cx t with
    | .slice e => pure (.slc (← szOf cx e) (← ofOpd x) (← ofOpt lo) (← ofOpt hi) (← ofOpt mx))
    | .array n e => pure (.slca n (← szOf cx e) (← ofOpd x) (← ofOpt lo) (← ofOpt hi) (← ofOpt mx))
    | _ => none
  | .fieldAddr s x i => do
    let .struct fs ← und cx s | none
    let f ← fs[i]?
    match szOf cx f.type with
    | some (_ + 1) => pure (.fa f.offset (← ofOpd x))
    | _ => none
  | .indexAddr t x i => do
    match ← und cx t with
    | .slice e => do
      let s ← szOf cx e
      pure (.ixs s (← ofOpd x) (← ofOpd i))
    | .array n e => do
      let s ← szOf cx e
      pure (.ixa n s (← ofOpd x) (← ofOpd i))
    | _ => none
  | .field t x i => do
    let .struct fs ← und cx t | none
    let f ← fs[i]?
    pure (.fld (← partOf cx f.type) f.offset (← ofOpd x))
  | .index t x i => do
    match ← und cx t with
    | .array n e => do
      let s ← szOf cx e
      pure (.ixv n (← partOf cx e) s (← ofOpd x) (← ofOpd i))
    | _ => none
  | .lookup t x i ok => do
    let .map k e ← und cx t | none
    pure (.lkp (← aggOf cx k) (← keyShape cx k) (← zeroOf cx e) ok (← ofOpd x) (← ofOpd i))
  | .mapUpdate t m k x | .insert t m k x => do
    let .map kt _ ← und cx t | none
    pure (.mset (← aggOf cx kt) (← keyShape cx kt) (← ofOpd m) (← ofOpd k) (← ofOpd x))
  | .extract x i => do pure (.ext (← ofOpd x) i)
  | .call { callee := .value f, args, .. } => do pure (.call (← ofOpd f) (← ofOpds args.toList))
  | .call { callee := .builtin b, args, argTypes } => do
    match b, args.toList, argTypes.toList with
    | .append, [s, x], [t, u] => do
      let .slice e ← und cx t | none
      let z ← zerosOf cx e
      let sz ← szOf cx e
      let by_ ← byOf cx e
      if z.length == sz && sz != 0 && by_ ≤ 1024 then (match und cx u with
        | some (.slice _) => do pure (.app sz (← ofOpd s) (← ofOpd x))
        | some (.int _) => do pure (.appz sz z (← ofOpd s) (← ofOpd x))
        | _ => none) else none
    | .cap, [x], ts => do
      let t ← ts[0]?
      let .slice _ ← und cx t | none
      pure (.capx (← ofOpd x))
    | .copy, [d, s], ts => do
      let t ← ts[0]?
      let .slice e ← und cx t | none
      pure (.copy (← szOf cx e) (← ofOpd d) (← ofOpd s))
    | .len, [x], ts => do
      let t ← ts[0]?
      match ← und cx t with
      | .array n _ => pure (.mv (.c (.int .i64 n)))
      | .map _ _ => pure (.lenm (← ofOpd x))
      | .slice _ => pure (.len (← ofOpd x))
      | .pointer a => do
        let .array n _ ← und cx a | none
        pure (.mv (.c (.int .i64 n)))
      | _ => none
    | .clear, [x], ts => do
      let t ← ts[0]?
      let .slice e ← und cx t | none
      let z ← zerosOf cx e
      if z.isEmpty then none else pure (.clear z (← ofOpd x))
    | .delete, [m, k], ts => do
      let t ← ts[0]?
      let .map kt _ ← und cx t | none
      pure (.del (← aggOf cx kt) (← keyShape cx kt) (← ofOpd m) (← ofOpd k))
    | .min, x :: ys, _ => do pure (.mnx false (← ofOpd x) (← ofOpds ys))
    | .max, x :: ys, _ => do pure (.mnx true (← ofOpd x) (← ofOpds ys))
    | _, _, _ => none
  | _ => none

noncomputable def compGuard (ops : Array Oper) : Option (Nat × Bool) → Option (Option (Pos × Bool))
  | none => some none
  | some (j, w) => match (ops[j]?).bind (·.dst) with
    | some d => some (some (Pos.of d, w))
    | none => none

noncomputable def badOpr : IOpr := ⟨none, none, 0, .bad⟩
noncomputable def compOpr (nt : Nat) (ops : Array Oper) (late : Nat) (o : Oper) : IOpr :=
  match compOp cx o.op, compGuard ops o.guard, o.dst with
  | some op, some g, none => ⟨none, g, late, op⟩
  | some op, some g, some d => if d < nt then ⟨some (Pos.of d), g, late, op⟩ else badOpr
  | _, _, _ => badOpr

/-! regions that draw their order -/
/-- 0: computes; 1: reads; 2: makes; 3: anything -/
def opKind : Op → Nat
  | .move _ | .assign _ | .pick .. | .build .. | .nilCheck _ | .binOp .. | .unOp .. | .convert .. | .makeFunc .. | .slice .. | .fieldAddr .. | .indexAddr .. | .field .. | .index .. | .extract .. => 0
  | .load .. | .lookup .. => 1
  | .alloc _ | .box .. | .buildSlice .. | .makeMap .. | .makeSlice .. => 2
  | .call { callee := .builtin .len, .. } => 1
  | .call { callee := .builtin .min, .. } | .call { callee := .builtin .max, .. } | .call { callee := .builtin .cap, .. } => 0
  | _ => 3
def predsOf (o : Oper) : List Nat := (o.after.toList.filter (Region.binds .any)).map (·.on)
/-- first whatever is ready and is no writer; else the first writer that is ready -/
def order (ops : Array Oper) : Nat → List Nat → List Nat
  | 0, done => done.reverse
  | f + 1, done =>
    let ready := (List.range ops.size).filter fun i => !done.contains i && ((ops[i]?).any fun o => (predsOf o).all done.contains)
    match ready.find? fun i => (ops[i]?).any fun o => opKind o.op != 3 with
    | some i => order ops f (i :: done)
    | none => match ready with
      | i :: _ => order ops f (i :: done)
      | [] => done.reverse
/-- an entry of a region that draws its order: its number, what it waits for, what it is turned to -/
structure Ent where
  j : Nat
  ps : List Nat
  io : IOpr
noncomputable def IOp.opds : IOp → List Opd
  | .mv x | .box x | .ld1 x | .ldn _ x | .nilck x | .notb x | .neg x | .conv _ x | .fa _ x | .fld _ _ x | .ext x _ | .len x | .lenm x | .clear _ x | .capx x => [x]
  | .pick c a b => [c, a, b]
  | .new _ | .mkmap | .bad => []
  | .build _ ps | .bslice _ _ ps => ps.map (·.2.2)
  | .st1 a x | .stn _ a x | .bin _ a x | .eqv _ _ a x | .eqa _ _ a x | .mkslice _ _ _ a x | .ixs _ a x | .ixa _ _ a x | .ixv _ _ _ a x | .lkp _ _ _ _ a x | .app _ a x | .copy _ a x | .del _ _ a x | .appz _ _ a x => [a, x]
  | .mset _ _ m k x => [m, k, x]
  | .mkfn _ a b => a ++ b
  | .slc _ x a b c | .slca _ _ x a b c => x :: (a.toList ++ b.toList ++ c.toList)
  | .call f as => f :: as
  | .mnx _ x ys => x :: ys
noncomputable def rdsIn (d : Pos) (io : IOpr) : Bool :=
  (io.op.opds.any fun x => match x with | .t n => Nat.beq n.nat d.nat | .c _ => false) || (match io.guard with | some (g, _) => Nat.beq g.nat d.nat | none => false)
noncomputable def Ent.isW (e : Ent) : Bool := Nat.beq e.io.op.kind 3
/-- going back, something that it waits for stands at the next writer or behind it -/
noncomputable def segOk (ps : List Nat) : List Ent → Bool
  | [] => true
  | x :: l => ps.contains x.j || (!x.isW && segOk ps l)
/-- may the region be run in this order for all orders? 'before': those that stand ahead, the last one first -/
noncomputable def chkAt (before : List Ent) (e : Ent) : Bool :=
  (match e.io.dst with
   | none => true
   | some d => !rdsIn d e.io &&
      before.all (fun p => (match p.io.dst with | some d' => !Nat.beq d.nat d'.nat | none => true) && (!rdsIn d p.io || e.ps.contains p.j))) &&
  before.all (fun p => (match p.io.dst with | some d => !rdsIn d e.io || e.ps.contains p.j | none => true)) &&
  before.all (fun p => !(Nat.beq p.j e.j)) &&
  segOk e.ps before &&
  e.ps.all (fun z => before.any fun p => Nat.beq p.j z)
noncomputable def chkAll : List Ent → List Ent → Bool
  | _, [] => true
  | before, e :: rest => chkAt before e && chkAll (e :: before) rest
/-- so many writers stand behind it before one that waits for it -/
noncomputable def lateOf (j : Nat) : List Ent → Nat
  | [] => 0
  | e :: rest => if e.isW then (if e.ps.contains j then 0 else lateOf j rest + 1) else lateOf j rest
noncomputable def lateE : List Ent → List IOpr
  | [] => []
  | e :: rest => { e.io with late := if Nat.beq e.io.op.kind 1 then lateOf e.j rest else 0 } :: lateE rest
noncomputable def entOf (nt : Nat) (ops : Array Oper) (j : Nat) : Ent := match ops[j]? with
  | some o => ⟨j, predsOf o, compOpr cx nt ops 0 o⟩
  | none => ⟨j, [], badOpr⟩
def isMk : Op → Bool
  | .alloc _ | .box .. | .buildSlice .. | .makeMap .. | .makeSlice .. => true
  | _ => false
noncomputable def chkEnts (ops : Array Oper) (l : List Ent) : Bool := Nat.beq l.length ops.size && (l.all fun e => ltb e.j ops.size) && chkAll [] l &&
  (l.all fun e => (ops[e.j]?).all fun o => beqB (isMk o.op) (Nat.beq e.io.op.kind 2)) && (List.range ops.size).all fun i => l.any fun e => Nat.beq e.j i
noncomputable def compDraw (nt : Nat) (ops : Array Oper) : IC :=
  if chkEnts ops ((order ops ops.size []).map (entOf cx nt ops)) then .regd (lateE ((order ops ops.size []).map (entOf cx nt ops))) else .bad

noncomputable def compC (nt : Nat) (inR : Bool) : Code → IC
  | .skip => .skip
  | .ret => .ret
  | .region _ ops draw => if draw then compDraw cx nt ops else .reg (ops.toList.map (compOpr cx nt ops 0))
  | .seq a b => .seq (compC nt inR a) (compC nt inR b)
  | .cond c a b => match ofOpd c with
    | some x => .cond x (compC nt inR a) (compC nt inR b)
    | none => .bad
  | .block id b => .block id (compC nt inR b)
  | .scope b => compC nt inR b
  | .label _ => .skip
  | .loop b => .loop (compC nt inR b)
  | .exit id => .exit id
  | .rangeFunc f ps a b => match ofOpd f with
    | some x => if !inR && ps.toList.all (· < nt) then .rfun x (ps.toList.map Pos.of) (compC nt true a) (compC nt true b) else .bad
    | none => .bad
  | _ => .bad

noncomputable def compRes : List ResultVar → Option (List (Pos × Option Nat × Bool))
  | [] => some []
  | .tmp t :: l => match compRes l with
    | some r => some ((Pos.of t, none, false) :: r)
    | none => none
  | .cell a t :: l => match szOf cx t, aggOf cx t, compRes l with
    | some s, some g, some r => some ((Pos.of a, some s, g) :: r)
    | _, _, _ => none

noncomputable def compF (f : Func) : Option IFn := match f.body, compRes cx f.results.toList with
  | some b, some r => some (.mk (compC cx f.ntmps false b) f.ntmps r)
  | _, _ => none
end

noncomputable def tyTab (l : List TypeInfo) : Nat → Tr TypeInfo → Tr TypeInfo :=
  List.rec (motive := fun _ => Nat → Tr TypeInfo → Tr TypeInfo) (fun _ t => t) (fun x _ ih i t => ih (Nat.succ i) (Tr.put (Pos.of i) x t)) l
noncomputable def tyGet (t : Tr TypeInfo) (n : Nat) : Option TypeInfo := t.get (Pos.of n)
noncomputable def fnTab (cx : Cx) (l : List Func) : Nat → Tr IFn → Tr IFn :=
  List.rec (motive := fun _ => Nat → Tr IFn → Tr IFn) (fun _ t => t)
    (fun f _ ih i t => ih (Nat.succ i) (Option.rec (motive := fun _ => Tr IFn) t (fun x => Tr.put (Pos.of i) x t) (compF cx f))) l

end Go.Ab
