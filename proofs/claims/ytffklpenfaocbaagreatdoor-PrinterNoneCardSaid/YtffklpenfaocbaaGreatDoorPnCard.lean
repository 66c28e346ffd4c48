/-
  PrinterNone answers true whatever its arguments are, and they read afterwards as before: the card. Conditions: those of the given row.
-/
import Derived.Test.YtffklpenfaocbaaGreatDoorPnSaid
import Derived.Test.YtffklpenfaocbaaGreatDoorCards
import Derived.Test.YtffklpenfaocbaaGreatDoorTie
import Derived.SevenTiedAt
namespace Go.Proofs.YtffklpenfaocbaaGreatDoor
open Go.ChangeShapes Go.WideShapes Go.RowKit Go.AS

theorem plain (f : FuncId) (fn : Func) (hf : Tryz.pinned.checked.prog.funcNamed "blindfold/blindfoldlaw38.PrinterNone" = some f) (hfn : Tryz.pinned.checked.prog.funcs[f]? = some fn) :
    true = Tryz.pinned.checked.prog.looks [] ∧ ∀ (j : Nat) t, fn.params[j]? = some t → Tryz.pinned.checked.prog.wantsStandIn t = false := by
  obtain rfl : f = 3 := Option.some.inj ((show Tryz.prog.funcNamed "blindfold/blindfoldlaw38.PrinterNone" = some 3 by kernel_rfl).symm.trans hf) |>.symm
  obtain rfl : fn = Tryz.f3 := (Option.some.inj (Tryz.func3.symm.trans hfn)).symm
  refine ⟨by kernel_rfl, fun j t ht => ?_⟩
  rw [Tryz.params3] at ht
  have hm : t = 9 ∨ t = 24 := by simpa using Array.mem_of_getElem? ht
  rcases hm with rfl | rfl
  · exact (show Tryz.prog.wantsStandIn 9 = false by kernel_rfl)
  · exact (show Tryz.prog.wantsStandIn 24 = false by kernel_rfl)

theorem printerNone_holds : Rows.PrinterNoneCardSaid :=
  Claim7.holds_tied_plain_at .later [] _ _ _ _ said (fun _ h => by cases h) (by kernel_rfl) (fun _ h => by cases h) printerNone_row_tie rfl ⟨rfl, rfl⟩ (by kernel_rfl) rfl plain (by kernel_rfl)
#print axioms printerNone_holds
end Go.Proofs.YtffklpenfaocbaaGreatDoor
