/-
  PrinterNone's row.
-/
import Derived.Test.YtffklpenfaocbaaGreatDoorPnProofs
import Derived.Test.YtffklpenfaocbaaGreatDoorPnFacts
namespace Go.Proofs.YtffklpenfaocbaaGreatDoor
open Go.ChangeShapes Go.WideShapes Go.RowKit Go.AS

theorem said : Rows.PrinterNoneSaid :=
  OpenClaim.holds_of_wide 3 Tryz.f3 rfl rfl rfl rfl rfl rfl rfl ⟨rfl, rfl, rfl, rfl, rfl⟩ rfl rfl rfl rfl rfl (by kernel_rfl) Tryz.func3 Facts.all
    (of_decide_eq_true (by kernel_rfl)) (by unfold Func.isWrapper; first | (rw [if_pos (by decide +kernel)]; kernel_rfl) | (rw [if_neg (by decide +kernel)]; exact ⟨rfl, rfl⟩))
    (fun os started H enc _ => lifted os started H enc)

end Go.Proofs.YtffklpenfaocbaaGreatDoor
