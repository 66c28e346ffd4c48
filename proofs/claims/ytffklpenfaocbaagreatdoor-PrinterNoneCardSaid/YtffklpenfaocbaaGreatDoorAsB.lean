/-
  The evaluator: operations, regions, code, calls.
-/
import Derived.Test.YtffklpenfaocbaaGreatDoorAsA
set_option linter.unusedVariables false
noncomputable section
namespace Go.AS

/-- The temporaries. -/
abbrev TM := Nat → Option AV
def TM.none : TM := fun _ => Option.none
def TM.put (T : TM) (k : Nat) (v : AV) : TM := fun j => ite' (Nat.beq j k) (some v) (T j)

def ev (c : Cx) (T : TM) (x : Operand) : Option AV :=
  Operand.rec (motive := fun _ => Option AV) (fun t => T t) ofV (fun g => bnd (c.G g) fun b => some (.ptr b 0)) (fun f => some (.fn (.func f) [] [])) x

def evs (c : Cx) (T : TM) (l : List Operand) : Option (List AV) :=
  List.rec (motive := fun _ => Option (List AV)) (some []) (fun x _ ih => bnd (ev c T x) fun v => bnd ih fun vs => some (v :: vs)) l

def evParts (c : Cx) (T : TM) (l : List (Nat × Operand)) : Option (List (Nat × AV)) :=
  List.rec (motive := fun _ => Option (List (Nat × AV))) (some []) (fun p _ ih => bnd (ev c T p.2) fun v => bnd ih fun vs => some ((p.1, v) :: vs)) l

def natOf : AV → Option Nat
  | .int _ (.ofNat n) => some n
  | _ => none

/-- An optional bound of a slice expression. -/
def evBound (c : Cx) (T : TM) (x : Option Operand) : Option (Option Nat) :=
  Option.rec (motive := fun _ => Option (Option Nat)) (some none) (fun x => bnd (ev c T x) fun v => bnd (natOf v) fun n => some (some n)) x

def isConstOp : Operand → Bool
  | .const _ => true
  | _ => false

def strSlice (s : List Nat) (lo hi mx : Option Nat) : Option AV :=
  tst (mx.isNone && Nat.ble (hi.getD s.length) s.length && Nat.ble (lo.getD 0) (hi.getD s.length))
    (some (.str ((s.drop (lo.getD 0)).take (Nat.sub (hi.getD s.length) (lo.getD 0)))))

def slcSlice (P : Program) (e : TypeId) (b o n cp sz : Nat) (ex : Bool) (lo hi mx : Option Nat) : Option AV :=
  tst (Nat.ble (mx.getD cp) cp && Nat.ble (hi.getD n) (mx.getD cp) && Nat.ble (lo.getD 0) (hi.getD n) && decide (szOf P e = some sz))
    (some (.slc b (ite' ((mx.isSome || ex) && Nat.beq (mx.getD cp) (lo.getD 0)) o (o + lo.getD 0 * sz)) (hi.getD n - lo.getD 0) (mx.getD cp - lo.getD 0) sz (mx.isSome || ex)))

def sliceOp (P : Program) (t : TypeId) (x : AV) (lo hi mx : Option Nat) : Option AV :=
  match x with
  | .str s => bnd (P.underlying t) fun d => match d with
    | .string => strSlice s lo hi mx
    | _ => none
  | .nils => bnd (P.underlying t) fun d => match d with
    | .slice e => tst (Nat.beq (lo.getD 0) 0 && Nat.beq (hi.getD 0) 0 && Nat.beq (mx.getD 0) 0 && (szOf P e).isSome) (some .nils)
    | _ => none
  | .slc b o n cp sz ex => bnd (P.underlying t) fun d => match d with
    | .slice e => slcSlice P e b o n cp sz ex lo hi mx
    | _ => none
  | _ => none

/-- A new block for what is appended, apart from all others. -/
def appNew (H : HP) (e : TypeId) (sz : Nat) (cells : List AV) (need : Nat) : AV × HP :=
  (.slc H.nxt 0 need need sz false, H.alloc cells e none)

/-- A new block that may lie over the old one. -/
def appOver (H : HP) (e : TypeId) (k : Blk) (c : Cls) (o off sz cp : Nat) (ex : Bool) (cells : List AV) (need : Nat) : AV × HP :=
  (.slc H.nxt 0 need (ite' (Nat.ble need cp) cp need) sz (ex && Nat.ble need cp),
    { obs := (cut off none c.mem H.obs).put H.nxt (.cells ⟨k.cls, Nat.add k.base o, cells, e, none, false⟩),
      nxt := Nat.succ H.nxt, cls := H.cls.put k.cls ⟨H.nxt :: c.mem, c.hi⟩ })

/-- 'append(s, xs...)': n elements of sz cells. -/
def appendOp (H : HP) (e : TypeId) (sz bytes : Nat) (s : AV) (xs : List AV) (n : Nat) : Option (AV × HP) :=
  match s with
  | .nils => ite' (Nat.beq n 0) (some (.nils, H)) (tst (Nat.ble (n * bytes) 140737488355328) (some (appNew H e sz xs n)))
  | .slc b o len cp sz' ex =>
    ite' (Nat.beq n 0) (tst (Nat.ble len cp) (some (.slc b o len cp sz' ex, H))) <|
    tst (Nat.beq sz sz' && Nat.ble ((len + n) * bytes) 140737488355328) <|
    bnd (H.rd b o (len * sz)) fun olds =>
    ite' (ex && Nat.blt cp (len + n)) (some (appNew H e sz (olds ++ xs) (len + n))) <|
    bnd (H.blk b) fun k => tst (!k.ro && Nat.beq k.el e) <| bnd (H.cls.get k.cls) fun c =>
    tst (Nat.ble c.hi (k.base + o + len * sz)) <|
    some (appOver H e k c o (k.base + o + len * sz) sz cp ex (olds ++ xs) (len + n))
  | _ => none

def byteAV (b : Nat) : AV := .int .u8 (Int.ofNat b)

/-- What is appended, as cells; how many elements. -/
def srcOf (P : Program) (H : HP) (sz : Nat) (tx : TypeId) (x : AV) : Option (List AV × Nat) :=
  match x with
  | .nils => bnd (P.underlying tx) fun d => match d with | .slice _ => some ([], 0) | _ => none
  | .slc b o n _ sz' _ => bnd (P.underlying tx) fun d => match d with
    | .slice _ => tst (Nat.beq sz sz') <| bnd (H.rd b o (n * sz)) fun xs => tst (xs.all AV.one) (some (xs, n))
    | _ => none
  | .str s => bnd (P.underlying tx) fun d => match d with
    | .string => tst (Nat.beq sz 1) (some (s.map byteAV, s.length))
    | _ => none
  | _ => none

def byteOf : AV → Option Nat
  | .int .u8 (.ofNat n) => tst (Nat.blt n 256) (some n)
  | _ => none

def bytesOf' (l : List AV) : Option (List Nat) :=
  List.rec (motive := fun _ => Option (List Nat)) (some []) (fun x _ ih => bnd (byteOf x) fun b => bnd ih fun r => some (b :: r)) l

def isByteSlice (P : Program) : TypeDesc → Bool
  | .slice e => match P.underlying e with
    | some (.int .u8) => true
    | _ => false
  | _ => false

def intConv (n : Int) : TypeDesc → Option AV
  | .int k => some (.int k (k.wrap n))
  | _ => none

def strConv (s : Option (List Nat)) : TypeDesc → Option AV
  | .string => bnd s fun s => some (.str s)
  | _ => none

/-- A pointer to unsafe.Pointer and back: the same place. -/
def toUnsafe (P : Program) (H : HP) (b o : Nat) : TypeDesc → TypeDesc → Option AV
  | .pointer t, .unsafePointer => bnd (szOf P t) fun n => tst (Nat.blt 0 n) <| bnd (H.rd b o 1) fun _ => some (.ptr b o)
  | .unsafePointer, .pointer u => bnd (szOf P u) fun n => bnd (H.blk b) fun k => bnd k.xsz fun m =>
    tst (Nat.blt 0 n && liesAt P P.depth k.el (m / P.cellsOf k.el) o u 1) (some (.ptr b o))
  | _, _ => none

def convA (P : Program) (src dst : TypeId) (x : AV) (H : HP) : Option AV :=
  bnd (P.underlying src) fun ds => bnd (P.underlying dst) fun dd =>
  match x with
  | .ptr b o => toUnsafe P H b o ds dd
  | .int _ n => intConv n dd
  | .str s => strConv (some s) dd
  | .nils => tst (isByteSlice P ds) (strConv (some []) dd)
  | .slc b o n _ _ _ => tst (isByteSlice P ds) (strConv (bnd (H.rd b o n) bytesOf') dd)
  | _ => none

def keyEq (P : Program) (t : TypeId) (k : AV) : List (AV × AV) → Nat → Option (Option (Nat × AV))
  | [], _ => some none
  | (k', v) :: es, i => match aEq P 40 t k k' with
    | some true => some (some (i, v))
    | some false => keyEq P t k es (i + 1)
    | none => none

inductive Kd where
  | pure | read | alloc | eff
  deriving DecidableEq

def kindB : Builtin → Kd
  | .len | .max | .min | .cap | .unsafeSliceData => .pure
  | _ => .eff

def kindC : Callee → Kd
  | .builtin b => kindB b
  | _ => .eff

def kindOf : Op → Kd
  | .move _ | .assign _ | .pick .. | .build .. | .nilCheck _ | .binOp .. | .unOp .. | .makeInterface .. | .makeFunc .. | .slice .. | .fieldAddr ..
  | .field .. | .indexAddr .. | .index .. | .extract .. | .typeAssert .. => .pure
  | .load .. | .lookup .. | .convert .. => .read
  | .alloc _ | .box .. | .buildSlice .. | .makeSlice .. | .makeMap .. => .alloc
  | .call c => kindC c.callee
  | _ => .eff

def pickA (a b : Option AV) : AV → Option AV
  | .bool t => ite' t a b
  | _ => none

def placesX (P : Program) (l : List Field) : Option (List (Nat × Nat)) :=
  List.rec (motive := fun _ => Option (List (Nat × Nat))) (some []) (fun f _ ih => bnd (szOf P f.type) fun n => bnd ih fun r => some ((f.offset, n) :: r)) l

def elemPlace (n i : Nat) : Option (Nat × Nat) := some (i * n, n)

def buildD (P : Program) (z : AV) (ps : List (Nat × AV)) : TypeDesc → Option AV
  | .struct fields => bnd (placesX P fields.toList) fun pl => bnd (fill (nthX pl) ps z.cells) fun l => some (.agg l)
  | .array _ e => bnd (szOf P e) fun n => bnd (fill (elemPlace n) ps z.cells) fun l => some (.agg l)
  | _ => none

def nilCheckA : AV → Option AV
  | .ptr b o => some (.ptr b o)
  | .slc b o n cp sz ex => some (.slc b o n cp sz ex)
  | .nils => some .nils
  | .fn (.func f) a b => some (.fn (.func f) a b)
  | .ifc t v => some (.ifc t v)
  | _ => none

def unA (P : Program) (op : UnOp) : AV → Option AV
  | .int k n => bnd (pureRun P (Op.unary op (.int k n))) ofCell
  | .bool b => bnd (pureRun P (Op.unary op (.bool b))) ofCell
  | _ => none

def ifaceD (t : TypeId) (v : AV) : TypeDesc → Option AV
  | .interface _ => none
  | _ => some (.ifc t v)

def structD : TypeDesc → Option (Array Field)
  | .struct fields => some fields
  | _ => none
def sliceD : TypeDesc → Option TypeId
  | .slice e => some e
  | _ => none
def arrayD : TypeDesc → Option (Nat × TypeId)
  | .array n e => some (n, e)
  | _ => none
def mapD : TypeDesc → Option (TypeId × TypeId)
  | .map k e => some (k, e)
  | _ => none
def stringD : TypeDesc → Bool
  | .string => true
  | _ => false

def fieldAddrA (P : Program) (s : TypeId) (f : Nat) : AV → Option AV
  | .ptr b o => bnd (P.underlying s) fun d => bnd (structD d) fun fields => bnd (nthX fields.toList f) fun fd => bnd (szOf P fd.type) fun n =>
    tst (Nat.blt 0 n) (some (.ptr b (Nat.add o fd.offset)))
  | _ => none

def fieldA (P : Program) (t : TypeId) (f : Nat) : AV → Option AV
  | .agg cs => bnd (P.underlying t) fun d => bnd (structD d) fun fields => bnd (nthX fields.toList f) fun fd => part P fd.type cs fd.offset
  | _ => none

def indexAddrA (P : Program) (t : TypeId) (n : Nat) : AV → Option AV
  | .ptr b o => bnd (P.underlying t) fun d => bnd (arrayD d) fun q => bnd (szOf P q.2) fun sz => tst (Nat.blt n q.1) (some (.ptr b (Nat.add o (Nat.mul n sz))))
  | .slc b o len _ _ _ => bnd (P.underlying t) fun d => bnd (sliceD d) fun e => bnd (szOf P e) fun sz => tst (Nat.blt n len) (some (.ptr b (Nat.add o (Nat.mul n sz))))
  | _ => none

def indexA (P : Program) (t : TypeId) (n : Nat) : AV → Option AV
  | .agg cs => bnd (P.underlying t) fun d => bnd (arrayD d) fun q => bnd (szOf P q.2) fun sz => tst (Nat.blt n q.1) (part P q.2 cs (Nat.mul n sz))
  | .str s => bnd (P.underlying t) fun d => tst (stringD d) (bnd (nthX s n) fun b => some (byteAV b))
  | _ => none

def extractA (i : Nat) : AV → Option AV
  | .tup vs => nthX vs i
  | _ => none

def okFails (P : Program) (asserted : TypeId) (ok : Bool) : Option AV := tst ok (bnd (zeroOf P asserted) fun z => some (.tup [z, .bool false]))

def holdsA (ok : Bool) (v : AV) : Option AV := some (ite' ok (.tup [v, .bool true]) v)

def assertI (P : Program) (want : Array (String × TypeId)) (asserted : TypeId) (ok : Bool) (v : AV) (info : TypeInfo) : Option AV :=
  match Instr.missingMethod want info.methods with
  | none => holdsA ok v
  | some _ => okFails P asserted ok

def assertD (P : Program) (asserted : TypeId) (ok : Bool) (t : TypeId) (v : AV) : TypeDesc → Option AV
  | .interface want => bnd (P.info? t) fun info => assertI P want asserted ok (.ifc t v) info
  | _ => ite' (Nat.beq t asserted) (holdsA ok v) (okFails P asserted ok)

def typeAssertA (P : Program) (asserted : TypeId) (ok : Bool) : AV → Option AV
  | .ifc t v => bnd (P.underlying asserted) fun d => assertD P asserted ok t v d
  | .nili => bnd (P.underlying asserted) fun _ => okFails P asserted ok
  | _ => none

def isSliceD : TypeDesc → Bool
  | .slice _ => true
  | _ => false

def lenA (d : TypeDesc) : List AV → Option AV
  | [.str s] => tst (stringD d) (some (.int .i64 (Int.ofNat (lenX s))))
  | [.nils] => tst (isSliceD d) (some (.int .i64 0))
  | [.slc _ _ n _ _ _] => tst (isSliceD d) (some (.int .i64 (Int.ofNat n)))
  | _ => none

def maxL (k : IntKind) : Int → List AV → Option AV
  | a, [] => some (.int k a)
  | a, .int _ b :: r => maxL k (ite' (decide (b > a)) b a) r
  | _, _ => none
def minL (k : IntKind) : Int → List AV → Option AV
  | a, [] => some (.int k a)
  | a, .int _ b :: r => minL k (ite' (decide (b < a)) b a) r
  | _, _ => none

def maxA : List AV → Option AV
  | .int k a :: r => maxL k a r
  | _ => none

def minA : List AV → Option AV
  | .int k a :: r => minL k a r
  | _ => none

def capA (d : TypeDesc) : List AV → Option AV
  | [.nils] => tst (isSliceD d) (some (.int .i64 0))
  | [.slc _ _ _ c _ ex] => tst (isSliceD d && ex) (some (.int .i64 (Int.ofNat c)))
  | _ => none

def sliceDataA : List AV → Option AV
  | [.nils] => some .nilp
  | [.slc b o _ c _ _] => tst (Nat.blt 0 c) (some (.ptr b o))
  | _ => none

def argD (P : Program) : List TypeId → Option TypeDesc
  | t :: _ => P.underlying t
  | [] => none

def builtinPure (P : Program) (ts : List TypeId) (args : List AV) : Builtin → Option AV
  | .len => bnd (argD P ts) fun d => lenA d args
  | .cap => bnd (argD P ts) fun d => capA d args
  | .unsafeSliceData => sliceDataA args
  | .max => maxA args
  | .min => minA args
  | _ => none

def callPure (c : Cx) (T : TM) (q : Call) : Callee → Option AV
  | .builtin b => bnd (evs c T q.args.toList) fun vs => builtinPure c.P q.argTypes.toList vs b
  | _ => none

/-- Operations that ask the temporaries alone. -/
def opPure (c : Cx) (T : TM) : Op → Option AV
  | .move x => ev c T x
  | .assign x => ev c T x
  | .pick q a b => bnd (ev c T q) (pickA (ev c T a) (ev c T b))
  | .build t parts => bnd (zeroOf c.P t) fun z => bnd (evParts c T parts.toList) fun ps => bnd (c.P.underlying t) (buildD c.P z ps)
  | .nilCheck x => bnd (ev c T x) nilCheckA
  | .binOp op t x y _ => bnd (ev c T x) fun a => bnd (ev c T y) fun b => binOpA c.P op t a b (isConstOp x || isConstOp y)
  | .unOp op _ x => bnd (ev c T x) (unA c.P op)
  | .makeInterface t x => bnd (ev c T x) fun v => bnd (c.P.underlying t) (ifaceD t v)
  | .makeFunc f first captured => bnd (evs c T first.toList) fun a => bnd (evs c T captured.toList) fun b => some (.fn f a b)
  | .slice t x lo hi mx => bnd (ev c T x) fun v => bnd (evBound c T lo) fun l => bnd (evBound c T hi) fun h => bnd (evBound c T mx) fun m => tst (m.isNone || h.isSome) (sliceOp c.P t v l h m)
  | .fieldAddr s x f => bnd (ev c T x) (fieldAddrA c.P s f)
  | .field t x f => bnd (ev c T x) (fieldA c.P t f)
  | .indexAddr t x i => bnd (ev c T i) fun j => bnd (natOf j) fun n => bnd (ev c T x) (indexAddrA c.P t n)
  | .index t x i => bnd (ev c T i) fun j => bnd (natOf j) fun n => bnd (ev c T x) (indexA c.P t n)
  | .extract x i => bnd (ev c T x) (extractA i)
  | .typeAssert x _ asserted ok => bnd (ev c T x) (typeAssertA c.P asserted ok)
  | .call q => callPure c T q q.callee
  | _ => none

def loadA (P : Program) (H : HP) (t : TypeId) : AV → Option AV
  | .ptr b off => rdVar P H t b off
  | _ => none

def lookupR (P : Program) (e : TypeId) (ok : Bool) : Option (Nat × AV) → Option AV
  | none => bnd (zeroOf P e) fun z => some (ite' ok (.tup [z, .bool false]) z)
  | some (_, v) => some (ite' ok (.tup [v, .bool true]) v)

/-- Is it a key that can always be hashed? -/
def keyFine (P : Program) (t : TypeId) (k : AV) : Bool :=
  match P.underlying t with
  | some (.interface _) => false
  | some (.array _ _) => false
  | some (.struct _) => false
  | some _ => true
  | none => false

def lookupA (P : Program) (H : HP) (t : TypeId) (ok : Bool) (k : AV) : AV → Option AV
  | .mp r => bnd (P.underlying t) fun d => bnd (mapD d) fun q => tst (keyFine P q.1 k) <| bnd (H.obs.get r) fun ob => bnd ob.ents fun es => bnd (keyEq P q.1 k es 0) (lookupR P q.2 ok)
  | _ => none

/-- Operations that read the heap too. -/
def opRead (c : Cx) (T : TM) (H : HP) : Op → Option AV
  | .load t a => bnd (ev c T a) (loadA c.P H t)
  | .lookup t x i ok => bnd (ev c T i) fun k => bnd (ev c T x) (lookupA c.P H t ok k)
  | .convert src dst x => bnd (ev c T x) fun v => convA c.P src dst v H
  | _ => none

def allocA (H : HP) (t : TypeId) (z : AV) : Option (AV × HP) := tst z.flat (some (.ptr H.nxt 0, H.alloc z.cells t (some (lenX z.cells))))

def buildSliceA (P : Program) (H : HP) (t : TypeId) (len : Nat) (ps : List (Nat × AV)) : Option (AV × HP) :=
  bnd (P.underlying t) fun d => bnd (sliceD d) fun e => bnd (szOf P e) fun sz => bnd (zeroOf P e) fun z =>
  tst (z.flat && Nat.blt 0 sz && Nat.ble (len * sz) 16777216 && Nat.beq (lenX z.cells) sz) <|
  bnd (fill (elemPlace sz) ps (reps z.cells len)) fun cells => some (.slc H.nxt 0 len len sz true, H.alloc cells e (some (len * sz)))

def makeSliceA (P : Program) (H : HP) (t : TypeId) (n m : Nat) : Option (AV × HP) :=
  bnd (P.underlying t) fun d => bnd (sliceD d) fun e => bnd (P.info? e) fun i => bnd (zeroOf P e) fun z =>
  tst (Nat.ble n m && Nat.ble m 4294967296 && Nat.ble (m * i.bytes) 140737488355328 && z.flat && Nat.beq (lenX z.cells) i.size && Nat.blt 0 i.size)
    (some (.slc H.nxt 0 n m i.size true, H.alloc (reps z.cells m) e (some (m * i.size))))

def makeMapA (H : HP) : Option Operand → Option (AV × HP)
  | none => some (.mp H.nxt, { obs := H.obs.put H.nxt (.mp []), nxt := Nat.succ H.nxt, cls := H.cls })
  | some _ => none

def i64Of : AV → Option Nat
  | .int .i64 (.ofNat n) => some n
  | _ => none

def opAlloc (c : Cx) (T : TM) (H : HP) : Op → Option (AV × HP)
  | .alloc t => bnd (zeroOf c.P t) (allocA H t)
  | .box t x => bnd (ev c T x) (allocA H t)
  | .buildSlice t len parts => bnd (evParts c T parts.toList) (buildSliceA c.P H t len)
  | .makeSlice t l cp => bnd (ev c T l) fun a => bnd (i64Of a) fun n => bnd (ev c T cp) fun b => bnd (i64Of b) fun m => makeSliceA c.P H t n m
  | .makeMap t r => makeMapA H r
  | _ => none

abbrev CallF := FuncId → List AV → HP → Option (AV × HP)

def storeA (P : Program) (H : HP) (t : TypeId) (v : AV) : AV → Option (AV × HP)
  | .ptr b off => bnd (szOf P t) fun n => tst (Nat.beq (lenX v.cells) n) <| bnd (H.wr b off v.cells) fun H' => some (AV.undef, H')
  | _ => none

def mapPut (H : HP) (r : Nat) (es : List (AV × AV)) (k v : AV) : Option (Nat × AV) → Option (AV × HP)
  | none => some (AV.undef, { obs := H.obs.put r (.mp (es ++ [(k, v)])), nxt := H.nxt, cls := H.cls })
  | some _ => none

def mapUpdateA (P : Program) (H : HP) (t : TypeId) (k v : AV) : AV → Option (AV × HP)
  | .mp r => bnd (P.underlying t) fun d => bnd (mapD d) fun q => tst (keyFine P q.1 k) <| bnd (H.obs.get r) fun ob => bnd ob.ents fun es => bnd (keyEq P q.1 k es 0) (mapPut H r es k v)
  | _ => none

/-- Has its zero as many cells as it says? -/
def zeroFits (z : Option Value) (n : Nat) : Bool := Option.rec (motive := fun _ => Bool) false (fun z => Nat.beq z.cells.size n) z

def appendA (P : Program) (H : HP) (t tx : TypeId) (sv xv : AV) : Option (AV × HP) :=
  bnd (P.underlying t) fun d => bnd (sliceD d) fun e => bnd (P.info? e) fun i => tst (zeroFits i.zero i.size && Nat.blt 0 i.size && Nat.blt 0 i.bytes) <|
  bnd (srcOf P H i.size tx xv) fun q => appendOp H e i.size i.bytes sv q.1 q.2

def appendC (c : Cx) (T : TM) (H : HP) : List Operand → List TypeId → Option (AV × HP)
  | [s, x], [t, tx] => bnd (ev c T s) fun sv => bnd (ev c T x) fun xv => appendA c.P H t tx sv xv
  | _, _ => none

def callA (call : CallF) (H : HP) (vs : List AV) : AV → Option (AV × HP)
  | .fn (.func fid) first captured => call fid (first ++ (vs ++ captured)) H
  | _ => none

def pointerD : TypeDesc → Option TypeId
  | .pointer e => some e
  | _ => none

/-- The string that lies at a place; its bytes are shut. -/
def unsafeStrAt (P : Program) (H : HP) (pt : TypeId) (b o n : Nat) : Option (AV × HP) :=
  bnd (P.underlying pt) fun d => bnd (pointerD d) fun u => bnd (H.blk b) fun k => bnd (H.cls.get k.cls) fun c =>
  tst (!k.ro && Nat.beq (P.cellsOf k.el) 1 && sameLayout P P.depth k.el u) <|
  bnd (H.rd b o n) fun xs => bnd (bytesOf' xs) fun s =>
  some (.str s, { obs := H.obs, nxt := H.nxt, cls := H.cls.put k.cls ⟨c.mem, Nat.max c.hi (k.base + o + n)⟩ })

def unsafeStrA (P : Program) (H : HP) : List AV → List TypeId → Option (AV × HP)
  | [.nilp, .int .i64 (.ofNat n)], _ :: _ => tst (Nat.beq n 0) (some (.str [], H))
  | [.ptr b o, .int .i64 (.ofNat n)], pt :: _ => ite' (Nat.beq n 0) (some (.str [], H)) (tst (Nat.ble n 140737488355328) (unsafeStrAt P H pt b o n))
  | _, _ => none

def copyInto (P : Program) (H : HP) (sz : Nat) (dst : AV) (xs : List AV) (n : Nat) : Option (AV × HP) :=
  match dst with
  | .nils => some (.int .i64 0, H)
  | .slc b o len _ sz' _ => tst (Nat.beq sz sz') <| bnd (takeX xs (Nat.min n len * sz)) fun ys =>
    ite' (Nat.beq (Nat.min n len) 0) (some (.int .i64 0, H)) (bnd (H.wr b o ys) fun H' => some (.int .i64 (Int.ofNat (Nat.min n len)), H'))
  | _ => none

def copyC (c : Cx) (T : TM) (H : HP) : List Operand → List TypeId → Option (AV × HP)
  | [s, x], [t, tx] => bnd (ev c T s) fun sv => bnd (ev c T x) fun xv => bnd (c.P.underlying t) fun d => bnd (sliceD d) fun e => bnd (szOf c.P e) fun sz =>
    bnd (srcOf c.P H sz tx xv) fun q => copyInto c.P H sz sv q.1 q.2
  | _, _ => none

def builtinEff (c : Cx) (T : TM) (H : HP) (q : Call) : Builtin → Option (AV × HP)
  | .append => appendC c T H q.args.toList q.argTypes.toList
  | .copy => copyC c T H q.args.toList q.argTypes.toList
  | .unsafeString => bnd (evs c T q.args.toList) fun vs => unsafeStrA c.P H vs q.argTypes.toList
  | _ => none

def callEff (c : Cx) (call : CallF) (T : TM) (H : HP) (q : Call) : Callee → Option (AV × HP)
  | .value f => bnd (evs c T q.args.toList) fun vs => bnd (ev c T f) (callA call H vs)
  | .builtin b => builtinEff c T H q b
  | _ => none

def opEff (c : Cx) (call : CallF) (T : TM) (H : HP) : Op → Option (AV × HP)
  | .store t a x => bnd (ev c T x) fun v => bnd (ev c T a) (storeA c.P H t v)
  | .insert t m k x => bnd (ev c T k) fun kv => bnd (ev c T x) fun v => bnd (ev c T m) (mapUpdateA c.P H t kv v)
  | .mapUpdate t m k x => bnd (ev c T k) fun kv => bnd (ev c T x) fun v => bnd (ev c T m) (mapUpdateA c.P H t kv v)
  | .call q => callEff c call T H q q.callee
  | _ => none

def stay (H : HP) (x : Option AV) : Option (AV × HP) := bnd x fun v => some (v, H)

def byKind (c : Cx) (call : CallF) (T : TM) (H : HP) (o : Op) : Kd → Option (AV × HP)
  | .pure => stay H (opPure c T o)
  | .read => stay H (opRead c T H o)
  | .alloc => opAlloc c T H o
  | .eff => opEff c call T H o

/-- All of it by one look at the operation. -/
def opAny (c : Cx) (call : CallF) (T : TM) (H : HP) : Op → Option (AV × HP)
  | .move x => stay H (ev c T x)
  | .assign x => stay H (ev c T x)
  | .pick q a b => stay H (bnd (ev c T q) (pickA (ev c T a) (ev c T b)))
  | .build t parts => stay H (bnd (zeroOf c.P t) fun z => bnd (evParts c T parts.toList) fun ps => bnd (c.P.underlying t) (buildD c.P z ps))
  | .nilCheck x => stay H (bnd (ev c T x) nilCheckA)
  | .binOp op t x y _ => stay H (bnd (ev c T x) fun a => bnd (ev c T y) fun b => binOpA c.P op t a b (isConstOp x || isConstOp y))
  | .fieldAddr s x f => stay H (bnd (ev c T x) (fieldAddrA c.P s f))
  | .load t a => stay H (bnd (ev c T a) (loadA c.P H t))
  | .store t a x => bnd (ev c T x) fun v => bnd (ev c T a) (storeA c.P H t v)
  | .extract x i => stay H (bnd (ev c T x) (extractA i))
  | .alloc t => bnd (zeroOf c.P t) (allocA H t)
  | .call q => byKind c call T H (.call q) (kindC q.callee)
  | o => byKind c call T H o (kindOf o)

def putT (N : Nat) (T : TM) (dst : Option Tmp) (v : AV) : Option (TM) :=
  Option.rec (motive := fun _ => Option (TM)) (some T) (fun d => tst (Nat.blt d N) (some (TM.put T d v))) dst

def boolOf (want : Bool) : AV → Option Bool
  | .bool b => some (b == want)
  | .tup _ => some false
  | _ => none

/-- Is the operation wanted (its guard)? -/
def wanted (ops : List Oper) (T : TM) (g : Option (Nat × Bool)) : Option Bool :=
  Option.rec (motive := fun _ => Option Bool) (some true)
    (fun q => bnd (nthX ops q.1) fun o => bnd o.dst fun d => bnd (T d) (boolOf q.2)) g

def evList (c : Cx) (N : Nat) (call : CallF) (ops : List Oper) (l : List Oper) : TM → HP → Option (TM × HP) :=
  List.rec (motive := fun _ => TM → HP → Option (TM × HP)) (fun T H => some (T, H))
    (fun o _ ih T H => bnd (wanted ops T o.guard) fun w => ite' w
      (bnd (opAny c call T H o.op) fun r => bnd (putT N T o.dst r.1) fun T' => ih T' r.2)
      (bnd (putT N T o.dst .undef) fun T' => ih T' H)) l

/-! ### regions that draw their order -/
/-- One operation's part of the run in the order of the text: what it looks at, the heap ahead, whether it is wanted, what it yields, the heap behind. -/
structure Rc where
  T : TM
  H : HP
  w : Bool
  v : AV
  H' : HP

/-- The temporaries that an operation looks at. -/
def TM.mask (T : TM) (l : List Nat) : TM := fun j => ite' (l.any (Nat.beq j)) (T j) Option.none

structure DR where
  rs : List Rc
  T : TM
  H : HP

/-- The run in the order of the text. -/
def evDraw (c : Cx) (N : Nat) (call : CallF) (ops : Array Oper) (l : List Oper) : TM → HP → Option DR :=
  List.rec (motive := fun _ => TM → HP → Option DR) (fun T H => some ⟨[], T, H⟩)
    (fun o _ ih T H => bnd (wanted ops.toList (TM.mask T (o.looksAt ops)) o.guard) fun w => ite' w
      (bnd (opAny c call (TM.mask T (o.looksAt ops)) H o.op) fun r => bnd (putT N T o.dst r.1) fun T' => bnd (ih T' r.2) fun d => some ⟨⟨TM.mask T (o.looksAt ops), H, true, r.1, r.2⟩ :: d.rs, d.T, d.H⟩)
      (bnd (putT N T o.dst .undef) fun T' => bnd (ih T' H) fun d => some ⟨⟨TM.mask T (o.looksAt ops), H, false, .undef, H⟩ :: d.rs, d.T, d.H⟩)) l

/-- The masks of the operations ahead, in the order of the text. -/
def masks : List Oper → List Nat → List Nat
  | [], acc => acc
  | o :: r, acc => masks r (acc ++ [o.after.toList.foldl (fun s e => cond (Region.binds .any e) (s ||| (1 <<< e.on) ||| acc.getD e.on 0) s) 0])

def mk (ms : List Nat) (j i : Nat) : Bool := (ms.getD j 0).testBit i

def isStore : Op → Bool
  | .store .. => true
  | _ => false

/-- Does the operation look at the other's temporary? -/
def looks (ops : Array Oper) (o : Oper) (x : Oper) : Bool := Option.rec (motive := fun _ => Bool) false (fun d => (o.looksAt ops).any (Nat.beq d)) x.dst

def sameDst (x y : Oper) : Bool := Option.rec (motive := fun _ => Bool) false (fun d => Option.rec (motive := fun _ => Bool) false (fun e => Nat.beq d e) y.dst) x.dst

/-- The two kinds may come in either order. -/
def kindsOk : Kd → Kd → Bool
  | .alloc, .eff => false
  | _, _ => true

/-- What must hold of a pair of operations, i ahead of j in the text. -/
def pairOk (ops : Array Oper) (ms : List Nat) (oi : Oper) (i : Nat) (oj : Oper) (j : Nat) : Bool :=
  !sameDst oi oj && (mk ms j i || (!looks ops oi oj && !looks ops oj oi && kindsOk (kindOf oi.op) (kindOf oj.op)))

def pairsOk (ops : Array Oper) (ms : List Nat) : List Oper → Nat → Bool
  | [], _ => true
  | oj :: r, j => ops.toList.zipIdx.all (fun q => !Nat.blt q.2 j || pairOk ops ms q.1 q.2 oj j) && pairsOk ops ms r (j + 1)

/-- What must hold of the region's text. -/
def textOk (ops : Array Oper) : Bool :=
  pairsOk ops (masks ops.toList []) ops.toList 0 &&
  ops.toList.zipIdx.all fun q => q.1.after.toList.all (fun e => !Region.binds .any e || Nat.blt e.on q.2)

mutual
def same : AV → AV → Bool
  | .int k n, .int k' n' => decide (k = k') && decide (n = n')
  | .bool a, .bool b => a == b
  | .str a, .str b => decide (a = b)
  | .nilp, .nilp | .nils, .nils | .nilm, .nilm | .nilf, .nilf | .nili, .nili => true
  | .ptr b o, .ptr b' o' => Nat.beq b b' && Nat.beq o o'
  | .slc b o n c s e, .slc b' o' n' c' s' e' => Nat.beq b b' && Nat.beq o o' && Nat.beq n n' && Nat.beq c c' && Nat.beq s s' && (e == e')
  | .agg a, .agg b => sames a b
  | .tup a, .tup b => sames a b
  | .ifc t v, .ifc t' v' => Nat.beq t t' && same v v'
  | .fn f a b, .fn f' a' b' => decide (f = f') && sames a a' && sames b b'
  | .mp r, .mp r' => Nat.beq r r'
  | .opq k, .opq k' => Nat.beq k k'
  | _, _ => false
def sames : List AV → List AV → Bool
  | [], [] => true
  | a :: x, b :: y => same a b && sames x y
  | _, _ => false
end

mutual
/-- Its numbers lie below n. -/
def below (n : Nat) : AV → Bool
  | .ptr b _ => Nat.blt b n
  | .slc b _ _ _ _ _ => Nat.blt b n
  | .agg a => belows n a
  | .tup a => belows n a
  | .ifc _ v => below n v
  | .fn _ a b => belows n a && belows n b
  | .mp r => Nat.blt r n
  | _ => true
def belows (n : Nat) : List AV → Bool
  | [] => true
  | a :: x => below n a && belows n x
end

/-- An operation of the text with its number and its part of the run. -/
structure It where
  i : Nat
  o : Oper
  r : Rc

def items : List Oper → List Rc → Nat → List It
  | o :: os, r :: rs, i => ⟨i, o, r⟩ :: items os rs (Nat.succ i)
  | _, _, _ => []

def It.is (k : Kd) (x : It) : Bool := x.r.w && decide (kindOf x.o.op = k)

def readSame (c : Cx) (x : It) (K : HP) : Bool :=
  match opRead c x.r.T K x.o.op with
  | some v => same v x.r.v
  | none => false

/-- A read yields the same in every heap in which it may come up: 'done' effects are behind, 'todo' ahead. -/
def readOk (c : Cx) (ms : List Nat) (x : It) : List It → List It → HP → Bool
  | done, [], K => done.any (fun e => mk ms e.i x.i) || readSame c x K
  | done, e :: es, K => (done.any (fun e => mk ms e.i x.i) || (e :: es).any (fun e => mk ms x.i e.i) || readSame c x K) && readOk c ms x (done ++ [e]) es e.r.H'

/-- The class to whose block a store goes. -/
def storeCls (c : Cx) (T : TM) (H : HP) : Op → Option Nat
  | .store _ a _ => match ev c T a with
    | some (.ptr b _) => bnd (H.blk b) fun k => some k.cls
    | _ => none
  | _ => none

def twoCls : Option Nat → Option Nat → Bool
  | some a, some b => !Nat.beq a b
  | _, _ => false

/-- The last two effects may be stores into two classes, in either order; reads and allocations come ahead of the later one, and what waits for it waits for the other too. -/
def lastTwo (c : Cx) (ms : List Nat) (its : List It) (e e' : It) : Bool :=
  its.all (fun x => (!x.is .read || mk ms e'.i x.i) && (!x.is .alloc || mk ms e'.i x.i) && (!x.o.after.toList.any (fun d => Region.binds .any d && Nat.beq d.on e'.i) || mk ms x.i e.i)) &&
  twoCls (storeCls c e.r.T e.r.H e.o.op) (storeCls c e'.r.T e.r.H e'.o.op) && (opEff c (fun _ _ _ => none) e'.r.T e.r.H e'.o.op).isSome && e.o.dst.isNone && e'.o.dst.isNone

/-- The effects are ordered one behind the other; but for the last two. -/
def effsOk (c : Cx) (ms : List Nat) (its : List It) : List It → Bool
  | [] => true
  | [_] => true
  | [e, e'] => mk ms e'.i e.i || lastTwo c ms its e e'
  | e :: es => es.all (fun e' => mk ms e'.i e.i) && effsOk c ms its es

def drawOk (c : Cx) (ms : List Nat) (H : HP) (its : List It) : Bool :=
  effsOk c ms its (its.filter (It.is .eff)) && its.all (fun x => Nat.ble x.r.H.nxt x.r.H'.nxt) && its.all fun x => !x.is .read || (below x.r.H.nxt x.r.v && readOk c ms x [] (its.filter (It.is .eff)) H)

def evRegion (c : Cx) (N : Nat) (call : CallF) (ops : Array Oper) (draw : Bool) (T : TM) (H : HP) : Option (TM × HP) :=
  ite' draw
    (tst (textOk ops) <| bnd (evDraw c N call ops ops.toList T H) fun s => tst (drawOk c (masks ops.toList []) H (items ops.toList s.rs 0)) (some (s.T, s.H)))
    (evList c N call ops.toList ops.toList T H)

/-! ### a choice that Go leaves open: both roads come to the same -/
def sameOb : Ob → Ob → Bool
  | .cells a, .cells b => Nat.beq a.cls b.cls && Nat.beq a.base b.base && Nat.beq a.el b.el && decide (a.xsz = b.xsz) && (a.ro == b.ro) && sames a.cells b.cells
  | .mp a, .mp b => sames (a.map (·.1)) (b.map (·.1)) && sames (a.map (·.2)) (b.map (·.2))
  | _, _ => false

def sameCls (a b : Cls) : Bool := decide (a.mem = b.mem) && Nat.beq a.hi b.hi

def Tr.merge {α : Type} (eq : α → α → Bool) : Tr α → Tr α → Tr α
  | .nd v l r, .nd v' l' r' => .nd (match v, v' with | some x, some y => cond (eq x y) (some x) none | _, _ => none) (Tr.merge eq l l') (Tr.merge eq r r')
  | _, _ => .lf

def keep (y : Option AV) (x : AV) : Option AV := bnd y fun y => tst (same x y) (some x)
def TM.merge (T U : TM) : TM := fun j => bnd (T j) (keep (U j))

/-- The edges that bind. -/
def onlyOn (l : List Edge) (want : List Nat) : Bool := l.all (fun e => !Region.binds .any e || want.any (Nat.beq e.on)) && want.all (fun n => l.any fun e => Region.binds .any e && Nat.beq e.on n)

structure DMode where
  p : Tmp
  r : Tmp
  t : TypeId

def dmOps : List Oper → Option DMode
  | [⟨some d0, .alloc t0, _, _, a0, none⟩, ⟨none, .store t1 (.tmp d1) (.const (.bool true)), _, _, a1, none⟩,
       ⟨none, .store t2 (.tmp d2) (.const (.bool false)), _, _, a2, none⟩, ⟨some d3, .load t3 (.tmp d4), _, _, a3, none⟩] =>
      cond (Nat.beq t0 t1 && Nat.beq t0 t2 && Nat.beq t0 t3 && Nat.beq d0 d1 && Nat.beq d0 d2 && Nat.beq d0 d4 && !Nat.beq d0 d3 &&
        onlyOn a0.toList [] && onlyOn a1.toList [0] && onlyOn a2.toList [0] && onlyOn a3.toList [0, 1, 2]) (some ⟨d0, d3, t0⟩) none
  | _ => none

/-- The region that lays a bool which may be either. -/
def isDM : Code → Option DMode
  | .region _ ops draw => tst draw (dmOps ops.toList)
  | _ => none

def TM.hide (T : TM) (d : Nat) : TM := fun j => ite' (Nat.beq j d) Option.none (T j)

def isBoolT (P : Program) (t : TypeId) : Bool :=
  match zeroOf P t, isAg P t, szOf P t with
  | some (.bool _), some false, some 1 => true
  | _, _, _ => false

/-! ### code -/
inductive Ex where
  | norm | exit (id : Nat) | ret

structure St where
  x : Ex
  T : TM
  H : HP

def sameEx : Ex → Ex → Bool
  | .norm, .norm => true
  | .ret, .ret => true
  | .exit i, .exit j => Nat.beq i j
  | _, _ => false

def isNorm : Ex → Bool
  | .norm => true
  | _ => false

def loopN (n : Nat) (f : TM → HP → Option St) : TM → HP → Option St :=
  Nat.rec (motive := fun _ => TM → HP → Option St) (fun _ _ => none)
    (fun _ ih T H => bnd (f T H) fun s => ite' (isNorm s.x) (ih s.T s.H) (some s)) n

def thenK (g : TM → HP → Option St) (s : St) : Option St := ite' (isNorm s.x) (g s.T s.H) (some s)

def condK (a b : TM → HP → Option St) (T : TM) (H : HP) : AV → Option St
  | .bool t => ite' t (a T H) (b T H)
  | _ => none

def blockX (id : Nat) : Ex → Ex
  | .exit i => ite' (Nat.beq i id) .norm (.exit i)
  | x => x

def mergeSt (s1 s2 : St) : Option St :=
  tst (sameEx s1.x s2.x && Nat.beq s1.H.nxt s2.H.nxt)
    (some ⟨s1.x, TM.merge s1.T s2.T, { obs := Tr.merge sameOb s1.H.obs s2.H.obs, nxt := s1.H.nxt, cls := Tr.merge sameCls s1.H.cls s2.H.cls }⟩)

def forkK (c : Cx) (N : Nat) (g : TM → HP → Option St) (t : DMode) (T : TM) (H : HP) : Option St :=
  tst (Nat.blt t.r N && Nat.blt t.p N && isBoolT c.P t.t) <| bnd (g (TM.put (TM.hide T t.p) t.r (.bool true)) H) fun s1 => bnd (g (TM.put (TM.hide T t.p) t.r (.bool false)) H) fun s2 => mergeSt s1 s2

def seqK (c : Cx) (N : Nat) (dm : Option DMode) (f g : TM → HP → Option St) (T : TM) (H : HP) : Option St :=
  Option.rec (motive := fun _ => Option St) (bnd (f T H) (thenK g)) (fun t => forkK c N g t T H) dm

def evCode (c : Cx) (N : Nat) (call : CallF) (q : Code) : TM → HP → Option St :=
  Code.rec (motive := fun _ => TM → HP → Option St)
    (fun T H => some ⟨.norm, T, H⟩)                                                                    -- skip
    (fun _ ops draw T H => bnd (evRegion c N call ops draw T H) fun r => some ⟨.norm, r.1, r.2⟩)        -- region
    (fun a _ f g T H => seqK c N (isDM a) f g T H)                                                        -- seq
    (fun x _ _ f g T H => bnd (ev c T x) (condK f g T H))                                               -- cond
    (fun id _ f T H => bnd (f T H) fun s => some ⟨blockX id s.x, s.T, s.H⟩)                             -- block
    (fun _ f T H => loopN c.K f T H)                                                                    -- loop
    (fun _ _ _ _ _ _ _ _ => none)                                                                       -- rangeFunc
    (fun id T H => some ⟨.exit id, T, H⟩)                                                               -- exit
    (fun _ f T H => f T H)                                                                              -- scope
    (fun _ T H => some ⟨.norm, T, H⟩)                                                                   -- label
    (fun _ _ _ => none)                                                                                 -- goto
    (fun T H => some ⟨.ret, T, H⟩)                                                                      -- ret
    (fun _ _ _ => none) q                                                                               -- refuse

def argsT : List AV → Nat → TM → TM
  | [], _, T => T
  | v :: r, i, T => argsT r (Nat.succ i) (TM.put T i v)

def ptrOf : AV → Option (Nat × Nat)
  | .ptr b o => some (b, o)
  | _ => none

def resVar (c : Cx) (T : TM) (H : HP) : ResultVar → Option AV
  | .tmp t => T t
  | .cell a t => bnd (T a) fun p => bnd (ptrOf p) fun q => rdVar c.P H t q.1 q.2

def resOf (c : Cx) (T : TM) (H : HP) : List ResultVar → Option (List AV)
  | [] => some []
  | x :: r => bnd (resVar c T H x) fun v => bnd (resOf c T H r) fun vs => some (v :: vs)

def oneOrTup : List AV → AV
  | [v] => v
  | vs => .tup vs

/-! ### calls without a Go body -/
def findByte (b : Nat) : List Nat → Nat → Int
  | [], _ => -1
  | x :: r, i => cond (Nat.beq x b) (Int.ofNat i) (findByte b r (i + 1))

/-- Which of the swappers (internal/reflectlite.Swapper$k). -/
def swapNo (n : Nat) (i : TypeInfo) (isString : Bool) : Nat :=
  if n == 0 then 1 else if n == 1 then 2
  else if i.hasPointers && i.bytes == 8 then 3
  else if i.hasPointers && isString then 4
  else if i.hasPointers then 9
  else match i.bytes with | 8 => 5 | 4 => 6 | 2 => 7 | 1 => 8 | _ => 9

def swapperA (c : Cx) (tbl : List Nat) (t : TypeId) (s : AV) (n : Nat) : Option AV :=
  bnd (pureRun c.P (Extern.Rtype.elem? t)) fun oe => bnd oe fun e => bnd (c.P.info? e) fun i => bnd (pureRun c.P (Extern.Rtype.kind e)) fun k =>
  bnd (nthX tbl (swapNo n i (k == 24))) fun f => some (.fn (.func f) [] (cond (Nat.ble (swapNo n i (k == 24)) 2) [] [s, .lit (typeHandle c.P e)]))

/-- The length of what lies behind a Value. -/
def vLenA (P : Program) (H : HP) (t : TypeId) (b o : Nat) (q : TypeId × TypeInfo) : Option (AV × HP) :=
  tst (!P.packed t && isSliceD q.2.desc) <| bnd (P.underlying t) fun d => bnd (rdVar P H t b o) fun x => bnd (lenA d [x]) fun v => some (v, H)

def swapA (P : Program) (H : HP) (e : TypeId) (b o i j sz : Nat) : Option (AV × HP) :=
  bnd (szOf P e) fun n => tst (Nat.beq n sz) <| bnd (rdVar P H e b (o + i * sz)) fun x => bnd (rdVar P H e b (o + j * sz)) fun y =>
  tst (Nat.beq (lenX x.cells) n && Nat.beq (lenX y.cells) n) <| bnd (H.wr b (o + i * sz) y.cells) fun H1 => bnd (H1.wr b (o + j * sz) x.cells) fun H2 => some (.tup [], H2)

/-- The variable 'errors.errorType', as it is at the start. -/
def isErrT (hb : Nat) (rt et : TypeId) : List AV → Bool
  | [.ifc t (.agg [.lit (.pointer (some ⟨a, o, none⟩))])] => Nat.beq t rt && Nat.beq a hb && Nat.beq o et
  | _ => false

def evExt (c : Cx) (k : Xk) (args : List AV) (H : HP) : Option (AV × HP) :=
  match k, args with
  | .noEscape, [x] => some (x, H)
  | .indexByteString, [.str s, .int .u8 b] => tst (Nat.blt b.toNat 256) (some (.int .i64 (findByte b.toNat s 0), H))
  | .makeNoZero e, [.int .i64 (.ofNat n)] => tst (Nat.ble n 4294967296) (some (.slc H.nxt 0 n n 1 false, H.alloc [] e none))
  | .valueOf, [.ifc t v] => bnd (pureRun c.P (Extern.Rtype.kind t)) fun k => tst v.flat (some (.agg [.lit (typeHandle c.P t), .ptr H.nxt 0, .int .u64 (Int.ofNat (k + 128))], H.alloc v.cells t (some (lenX v.cells))))
  | .vLen, [.agg [.lit h, .ptr b o, .int .u64 f]] => tst (Nat.beq (f.toNat % 32) 23) <| bnd (pureRun c.P (Extern.Rtype.ofHandle h)) fun t => bnd (pureRun c.P (Extern.Rtype.under t)) (vLenA c.P H t b o)
  | .swapper tbl, [.ifc t (.slc b o n cp sz ex)] => bnd (swapperA c tbl t (.slc b o n cp sz ex) n) fun v => some (v, H)
  | .swapper tbl, [.ifc t .nils] => bnd (swapperA c tbl t .nils 0) fun v => some (v, H)
  | .swap, [.int .i64 (.ofNat i), .int .i64 (.ofNat j), .slc b o n _ sz _, .lit h] => tst (Nat.blt i n && Nat.blt j n) <| bnd (pureRun c.P (Extern.Rtype.ofHandle h)) fun e => swapA c.P H e b o i j sz
  | .errorsAs g hb rt et te tp, [.ifc t (.ptr b o), .ifc t' (.ptr b' o')] => tst (Nat.beq t te && Nat.beq t' tp) <| bnd (c.G g) fun gb => bnd (H.rd gb 0 1) fun l => tst (isErrT hb rt et l) <| bnd (H.wr b' o' [.ptr b o]) fun H' => some (.bool true, H')
  | _, _ => none

def retK (c : Cx) (fn : Func) (s : St) : Ex → Option (AV × HP)
  | .exit _ => none
  | _ => bnd (resOf c s.T s.H fn.results.toList) fun vs => some (oneOrTup vs, s.H)

def evBody (c : Cx) (call : CallF) (args : List AV) (H : HP) (fn : Func) : Option (AV × HP) :=
  bnd fn.body fun body => tst (Nat.ble (lenX args) fn.ntmps) <| bnd (evCode c fn.ntmps call body (argsT args 0 TM.none) H) fun s => retK c fn s s.x

def evCall (c : Cx) (n : Nat) : CallF :=
  Nat.rec (motive := fun _ => CallF) (fun _ _ _ => none)
    (fun _ ih f args H => Option.rec (motive := fun _ => Option (AV × HP)) (bnd c.P.funcs[f]? (evBody c ih args H)) (fun k => evExt c k args H) (c.X f)) n

end Go.AS
