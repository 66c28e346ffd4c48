/-
  An evaluator of Go code over abstract values and an abstract heap: values, heaps, pure operations. No program in sight.
-/
import Derived.WalkKit
import Derived.Orders
import Derived.Deep.Draws
import Derived.Deep.AppendSrc
set_option linter.unusedVariables false
noncomputable section
namespace Go.AS

/-! ### the two ways on: written by recursors, since the kernel reckons with them -/
def bnd {α β : Type} (x : Option α) (f : α → Option β) : Option β := Option.rec (motive := fun _ => Option β) none f x
def tst {β : Type} (b : Bool) (x : Option β) : Option β := Bool.rec (motive := fun _ => Option β) none x b
def ite' {β : Type} (b : Bool) (x y : β) : β := Bool.rec (motive := fun _ => β) y x b

/-! ### tries -/
inductive Tr (α : Type) where
  | lf
  | nd (v : Option α) (l r : Tr α)

def Tr.get {α : Type} (t : Tr α) : Nat → Option α :=
  Tr.rec (motive := fun _ => Nat → Option α) (fun _ => none)
    (fun v _ _ gl gr k => ite' (Nat.beq k 0) v (ite' (Nat.beq (Nat.mod k 2) 1) (gl (Nat.div k 2)) (gr (Nat.div k 2)))) t

def Tr.set {α : Type} (f : Nat) : Tr α → Nat → α → Tr α :=
  Nat.rec (motive := fun _ => Tr α → Nat → α → Tr α) (fun t _ _ => t)
    (fun _ ih t k a => Tr.rec (motive := fun _ => Tr α)
      (ite' (Nat.beq k 0) (.nd (some a) .lf .lf)
        (ite' (Nat.beq (Nat.mod k 2) 1) (.nd none (ih .lf (Nat.div k 2) a) .lf) (.nd none .lf (ih .lf (Nat.div k 2) a))))
      (fun v l r _ _ => ite' (Nat.beq k 0) (.nd (some a) l r)
        (ite' (Nat.beq (Nat.mod k 2) 1) (.nd v (ih l (Nat.div k 2) a) r) (.nd v l (ih r (Nat.div k 2) a)))) t) f

def Tr.put {α : Type} (t : Tr α) (k : Nat) (a : α) : Tr α := Tr.set (Nat.succ k) t k a

/-! ### values -/
inductive AV where
  | int (k : IntKind) (n : Int)
  | bool (b : Bool)
  | str (s : List Nat)
  | nilp | nils | nilm | nilf | nili
  | ptr (b o : Nat)
  | slc (b o n c sz : Nat) (ex : Bool)
  | agg (cs : List AV)
  | tup (vs : List AV)
  | ifc (t : TypeId) (v : AV)
  | fn (f : Fn) (first captured : List AV)
  | mp (r : Nat)
  | lit (v : Value)
  | opq (k : Nat)
  deriving Inhabited

def AV.undef : AV := .tup []
def AV.cells : AV → List AV
  | .agg cs => cs
  | v => [v]
/-- Is it the value of one cell? -/
def AV.one : AV → Bool
  | .agg _ => false
  | .tup _ => false
  | .opq _ => false
  | .lit v => v.oneCell'
  | _ => true

/-- Are its cells known? -/
def AV.flat : AV → Bool
  | .agg _ => true
  | v => v.one

structure Blk where
  cls : Nat
  base : Nat
  cells : List AV
  el : TypeId
  xsz : Option Nat
  ro : Bool

inductive Ob where
  | cells (b : Blk)
  | mp (es : List (AV × AV))

structure Cls where
  mem : List Nat
  hi : Nat

structure HP where
  obs : Tr Ob
  nxt : Nat
  cls : Tr Cls

def Ob.blk : Ob → Option Blk
  | .cells k => some k
  | .mp _ => none
def Ob.ents : Ob → Option (List (AV × AV))
  | .cells _ => none
  | .mp es => some es

def HP.blk (H : HP) (b : Nat) : Option Blk := bnd (H.obs.get b) Ob.blk

def HP.alloc (H : HP) (cells : List AV) (el : TypeId) (xsz : Option Nat) : HP :=
  { obs := H.obs.put H.nxt (.cells ⟨H.nxt, 0, cells, el, xsz, false⟩), nxt := Nat.succ H.nxt, cls := H.cls.put H.nxt ⟨[H.nxt], 0⟩ }

/-- n of them from o on, if there are so many. -/
def takeX {α : Type} (l : List α) : (n : Nat) → Option (List α) :=
  List.rec (motive := fun _ => Nat → Option (List α)) (fun n => tst (Nat.beq n 0) (some []))
    (fun x _ ih n => ite' (Nat.beq n 0) (some []) (bnd (ih (Nat.pred n)) fun r => some (x :: r))) l
def dropX {α : Type} (l : List α) : (n : Nat) → List α :=
  List.rec (motive := fun _ => Nat → List α) (fun _ => [])
    (fun x xs ih n => ite' (Nat.beq n 0) (x :: xs) (ih (Nat.pred n))) l
/-- xs over what stands from o on. -/
def overX {α : Type} (l : List α) : (o : Nat) → List α → Option (List α) :=
  List.rec (motive := fun _ => Nat → List α → Option (List α)) (fun o xs => tst (Nat.beq o 0) (List.rec (motive := fun _ => Option (List α)) (some []) (fun _ _ _ => none) xs))
    (fun y ys ih o xs => ite' (Nat.beq o 0)
      (List.rec (motive := fun _ => Option (List α)) (some (y :: ys)) (fun x r _ => bnd (ih 0 r) fun t => some (x :: t)) xs)
      (bnd (ih (Nat.pred o) xs) fun t => some (y :: t))) l
def nthX {α : Type} (l : List α) : Nat → Option α :=
  List.rec (motive := fun _ => Nat → Option α) (fun _ => none) (fun x _ ih n => ite' (Nat.beq n 0) (some x) (ih (Nat.pred n))) l
def lenX {α : Type} (l : List α) : Nat := List.rec (motive := fun _ => Nat) 0 (fun _ _ ih => Nat.succ ih) l

def HP.rd (H : HP) (b o n : Nat) : Option (List AV) := bnd (H.blk b) fun k => takeX (dropX k.cells o) n

/-- Members of a class other than 'skip' lose what they hold from coordinate 'co' on. -/
def cutOb (co : Nat) (i : Nat) (t : Tr Ob) : Ob → Tr Ob
  | .cells k => ite' (Nat.ble (lenX k.cells) (Nat.sub co k.base)) t (t.put i (.cells { k with cells := k.cells.take (Nat.sub co k.base) }))
  | .mp _ => t
def cut (co : Nat) (skip : Option Nat) (l : List Nat) : Tr Ob → Tr Ob :=
  List.rec (motive := fun _ => Tr Ob → Tr Ob) (fun t => t)
    (fun i _ ih t => ih (ite' (skip == some i) t (Option.rec (motive := fun _ => Tr Ob) t (fun o => cutOb co i t o) (t.get i)))) l

def HP.wr (H : HP) (b o : Nat) (xs : List AV) : Option HP :=
  bnd (H.blk b) fun k =>
  tst (!k.ro && xs.all AV.one) <| bnd (H.cls.get k.cls) fun c =>
  tst (Nat.ble c.hi (Nat.add k.base o)) <| bnd (overX k.cells o xs) fun cs =>
  some { obs := (cut (Nat.add k.base o) (some b) c.mem H.obs).put b (.cells { k with cells := cs }), nxt := H.nxt, cls := H.cls }

/-! ### constants -/
def ofCell : Value → Option AV
  | .bool b => some (.bool b)
  | .int k n => some (.int k n)
  | .string s => some (.str (s.data.toList.map UInt8.toNat))
  | .pointer none => some .nilp
  | .slice none 0 0 => some .nils
  | .map none => some .nilm
  | .nilFunc => some .nilf
  | .nilIface => some .nili
  | _ => none

def ofCells (l : List Value) : Option (List AV) :=
  List.rec (motive := fun _ => Option (List AV)) (some []) (fun v _ ih => bnd (ofCell v) fun x => bnd ih fun xs => some (x :: xs)) l

def ofV : Value → Option AV
  | .agg cs => bnd (ofCells cs.toList) fun l => some (.agg l)
  | v => ofCell v

/-- A term that asks nothing of the world. -/
def pureRun {α : Type} (P : Program) : Sem α → Option α
  | .pure a => some a
  | .program k => pureRun P (k P)
  | .mark _ k => pureRun P k
  | _ => none

/-! ### the context -/
inductive Xk where
  | noEscape | indexByteString | makeNoZero (e : TypeId) | valueOf | vLen
  | swapper (tbl : List Nat)
  | swap
  /-- errors.As at an error whose type is the wanted one: g the number of errors.errorType, hb the block of the handles, rt reflectlite's rtype, et 'error', te the error's type, tp the pointer's to it -/
  | errorsAs (g hb : Nat) (rt et te tp : TypeId)

structure Cx where
  P : Program
  G : Nat → Option Nat
  X : FuncId → Option Xk
  K : Nat

def isAg (P : Program) (t : TypeId) : Option Bool :=
  match P.underlying t with
  | some (.struct _) => some true
  | some (.array _ _) => some true
  | some _ => some false
  | none => none

def szOf (P : Program) (t : TypeId) : Option Nat := bnd (P.info? t) fun i => some i.size
def zeroOf (P : Program) (t : TypeId) : Option AV := bnd (P.info? t) fun i => bnd i.zero ofV

def part (P : Program) (t : TypeId) (cs : List AV) (off : Nat) : Option AV :=
  bnd (isAg P t) fun b => ite' b (bnd (szOf P t) fun n => bnd (takeX (dropX cs off) n) fun l => some (.agg l)) (nthX cs off)

def only : List AV → Option AV
  | [x] => some x
  | _ => none

def rdVar (P : Program) (H : HP) (t : TypeId) (b o : Nat) : Option AV :=
  bnd (isAg P t) fun a => ite' a (bnd (szOf P t) fun n => bnd (H.rd b o n) fun l => some (.agg l)) (bnd (H.rd b o 1) only)

def fill (place : Nat → Option (Nat × Nat)) (ps : List (Nat × AV)) : List AV → Option (List AV) :=
  List.rec (motive := fun _ => List AV → Option (List AV)) (fun cells => some cells)
    (fun p _ ih cells => bnd (place p.1) fun q => tst (p.2.flat && Nat.beq (lenX p.2.cells) q.2) <| bnd (overX cells q.1 p.2.cells) fun cs => ih cs) ps

def reps (zero : List AV) (n : Nat) : List AV := Nat.rec (motive := fun _ => List AV) [] (fun _ ih => zero ++ ih) n

/-- Equality. -/
def aEq (P : Program) : Nat → TypeId → AV → AV → Option Bool
  | 0, _, _, _ => none
  | d + 1, t, x, y =>
    match P.underlying t, x, y with
    | some .bool, .bool a, .bool b => some (a == b)
    | some (.int _), .int k a, .int k' b => if k = k' then some (decide (a = b)) else none
    | some .string, .str a, .str b => some (decide (a = b))
    | some (.pointer _), .nilp, .nilp => some true
    | some (.pointer _), .nilp, .ptr _ _ => some false
    | some (.pointer _), .ptr _ _, .nilp => some false
    | some (.pointer e), .ptr b o, .ptr b' o' => match szOf P e with
      | some (_ + 1) => if b = b' then some (decide (o = o')) else none
      | _ => none
    | some (.interface _), .nili, .nili => some true
    | some (.interface _), .nili, .ifc _ _ => some false
    | some (.interface _), .ifc _ _, .nili => some false
    | some (.slice _), .nils, .nils => some true
    | some (.slice _), .nils, .slc _ _ _ _ _ _ => some false
    | some (.slice _), .slc _ _ _ _ _ _, .nils => some false
    | some (.map _ _), .nilm, .nilm => some true
    | some (.map _ _), .nilm, .mp _ => some false
    | some (.map _ _), .mp _, .nilm => some false
    | some (.func _ _ _), .nilf, .nilf => some true
    | some (.func _ _ _), .nilf, .fn _ _ _ => some false
    | some (.func _ _ _), .fn _ _ _, .nilf => some false
    | some (.struct fields), .agg xs, .agg ys =>
      cond (P.stoodInHeld t) none (fields.toList.foldl (fun acc f =>
        match acc with
        | some true => cond (f.name == "_") (some true) (match part P f.type xs f.offset, part P f.type ys f.offset with
          | some a, some b => aEq P d f.type a b
          | _, _ => none)
        | r => r) (some true))
    | _, _, _ => none

def bLess : List Nat → List Nat → Bool
  | _, [] => false
  | [], _ :: _ => true
  | a :: x, b :: y => Nat.blt a b || (Nat.beq a b && bLess x y)

def strOp (op : BinOp) (x y : List Nat) : Option AV :=
  match op with
  | .add => tst (Nat.ble (lenX x + lenX y) 4611686018427387904) (some (.str (x ++ y)))
  | .eql => some (.bool (decide (x = y)))
  | .neq => some (.bool (!decide (x = y)))
  | .lss => some (.bool (bLess x y))
  | .leq => some (.bool (bLess x y || decide (x = y)))
  | .gtr => some (.bool !(bLess x y || decide (x = y)))
  | .geq => some (.bool (!bLess x y))
  | _ => none

def intRest (P : Program) (op : BinOp) (t : TypeId) (k : IntKind) (a : Int) (b : Int) : Option AV := bnd (pureRun P (binOp op t (.int k a) (.int k b))) ofCell

/-- The common ones by themselves (the kernel reckons them fast), the others by the model's own terms. -/
def intSame (P : Program) (op : BinOp) (t : TypeId) (k : IntKind) (a : Int) (b : Int) : Option AV :=
  match op with
  | .add => some (.int k (k.wrap (a + b)))
  | .sub => some (.int k (k.wrap (a - b)))
  | .eql => some (.bool (decide (a = b)))
  | .neq => some (.bool (!decide (a = b)))
  | .lss => some (.bool (decide (a < b)))
  | .leq => some (.bool (decide (a ≤ b)))
  | .gtr => some (.bool (decide (b < a)))
  | .geq => some (.bool (decide (b ≤ a)))
  | _ => intRest P op t k a b

def intShift (P : Program) (op : BinOp) (t : TypeId) (k : IntKind) (a : Int) (k' : IntKind) (b : Int) : Option AV :=
  match op with
  | .shl => bnd (pureRun P (binOp op t (.int k a) (.int k' b))) ofCell
  | .shr => bnd (pureRun P (binOp op t (.int k a) (.int k' b))) ofCell
  | _ => none

def intOp (P : Program) (op : BinOp) (t : TypeId) (k : IntKind) (a : Int) (k' : IntKind) (b : Int) : Option AV :=
  ite' (decide (k = k')) (intSame P op t k a b) (intShift P op t k a k' b)

/-- May the two be held against each other without a guard's question? -/
def eqFree (P : Program) (t : TypeId) (x y : AV) (cst : Bool) : Bool :=
  match x, y with
  | .nili, .nili => cst
  | .agg _, .agg _ => !P.eqGuardType P.depth t
  | _, _ => true

def eqOp (P : Program) (op : BinOp) (t : TypeId) (x y : AV) (cst : Bool) : Option AV :=
  match op with
  | .eql => tst (eqFree P t x y cst) (bnd (aEq P 40 t x y) fun b => some (.bool b))
  | .neq => tst (eqFree P t x y cst) (bnd (aEq P 40 t x y) fun b => some (.bool (!b)))
  | _ => none

def binOpA (P : Program) (op : BinOp) (t : TypeId) (x y : AV) (cst : Bool) : Option AV :=
  match x, y with
  | .int k a, .int k' b => intOp P op t k a k' b
  | .str a, .str b => strOp op a b
  | x, y => eqOp P op t x y cst

end Go.AS
