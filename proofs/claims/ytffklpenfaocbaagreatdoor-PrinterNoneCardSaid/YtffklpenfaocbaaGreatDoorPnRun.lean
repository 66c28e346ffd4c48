/-
  PrinterNone's run on abstract values, reckoned by the kernel.
-/
import Derived.Test.YtffklpenfaocbaaGreatDoorAsZg
import Derived.Test.YtffklpenfaocbaaGreatDoorPnAs
namespace Go.Proofs.YtffklpenfaocbaaGreatDoor
open Go.AS

def xk : FuncId → Option Xk
  | 46 => some (.errorsAs 0 2 238 30 75 109)
  | 88 => some .valueOf
  | 205 => some .noEscape
  | 209 => some (.makeNoZero 5)
  | 272 => some .indexByteString
  | 305 => some (.swapper [0, 319, 320, 321, 322, 323, 324, 325, 326, 327])
  | 306 => some .vLen
  | 321 => some .swap
  | 322 => some .swap
  | 323 => some .swap
  | 324 => some .swap
  | 325 => some .swap
  | 326 => some .swap
  | 327 => some .swap
  | _ => none

noncomputable def cx : Cx := { P := Tryz.prog, G := fun g => ite' (Nat.beq g 0) (some 0) none, X := xk, K := 2000 }
def errT : AV := .ifc 238 (.agg [.lit (.pointer (some ⟨2, 30, none⟩))])
def xArg : AV := .agg [.opq 1, .opq 2, .opq 3, .opq 4]

theorem run (el : TypeId) : says (evCall cx 100 3 [.opq 0, xArg] (heap1 el errT)) = true := by kernel_rfl
end Go.Proofs.YtffklpenfaocbaaGreatDoor
