/-
  The functions without a Go body that PrinterNone comes to, and errors.As.
-/
import Derived.Test.YtffklpenfaocbaaGreatDoorPnRun
namespace Go.Proofs.YtffklpenfaocbaaGreatDoor
open Go.AS Go.RowKit

theorem asHit : AsHit Tryz.prog 46 0 2 238 30 75 109 := by
  refine ⟨⟨_, Tryz.func46, by kernel_rfl, by kernel_rfl⟩, fun e t old w hg ht hf => ?_⟩
  refine Calls.mono (AsHit.as_hit e t old w hg ht hf) ?_
  rintro ev w' ⟨rfl, rfl⟩
  refine ⟨rfl, _, ?_, rfl⟩
  have step : ∀ (w w1 : World) (o : Obj), AS.Grown w w1 → AS.Grown w (w1.alloc o) := fun w w1 o h =>
    ⟨by have := h.size; simp; omega, fun B hB => (heap_alloc_old w1 o (Nat.lt_of_lt_of_le hB h.size)).trans (h.old B hB), h.os, h.tape, h.output⟩
  exact step _ _ _ (step _ _ _ (step _ _ _ (step _ _ _ ⟨Nat.le_refl _, fun _ _ => rfl, rfl, rfl, rfl⟩)))

theorem names : (Tryz.prog.funcs.toList.all fun fn => !(fn.name == "runtime.NumGoroutine")) = true := by kernel_rfl
theorem name_ok (f : Nat) (fn : Func) (h : Tryz.prog.funcs[f]? = some fn) : (fn.name == "runtime.NumGoroutine") = false := by
  have := List.all_eq_true.1 names fn (List.mem_of_getElem? (by simpa using h))
  simpa using this

theorem xrow {f : FuncId} {fn : Func} {e : Array Value → Sem Value} (h : Tryz.prog.funcs[f]? = some fn) (hb : fn.body.isNone = true) (hn : Extern.findNext fn = none) (he : Extern.find fn = some e) : XRow Tryz.prog f e :=
  ⟨fn, h, name_ok f fn h, hb, hn, he⟩

theorem x_ok (f : FuncId) (k : Xk) (h : xk f = some k) : XOK' Tryz.prog f k := by
  unfold xk at h
  split at h <;> cases h
  · exact asHit
  · exact xrow Tryz.func88 (by kernel_rfl) (by kernel_rfl) (by kernel_rfl)
  · exact xrow Tryz.func205 (by kernel_rfl) (by kernel_rfl) (by kernel_rfl)
  · exact ⟨#[3], 146, xrow Tryz.func209 (by kernel_rfl) (by kernel_rfl) (by kernel_rfl), by kernel_rfl⟩
  · exact xrow Tryz.func272 (by kernel_rfl) (by kernel_rfl) (by kernel_rfl)
  · refine ⟨xrow Tryz.func305 (by kernel_rfl) (by kernel_rfl) (by kernel_rfl), fun k g hk h1 => ?_⟩
    have hlt : k < 10 := (List.getElem?_eq_some_iff.1 hk).1
    have : k = 1 ∨ k = 2 ∨ k = 3 ∨ k = 4 ∨ k = 5 ∨ k = 6 ∨ k = 7 ∨ k = 8 ∨ k = 9 := by omega
    rcases this with rfl | rfl | rfl | rfl | rfl | rfl | rfl | rfl | rfl <;> (cases hk; show Tryz.prog.funcs.findIdx? _ = _; kernel_rfl)
  · exact xrow Tryz.func306 (by kernel_rfl) (by kernel_rfl) (by kernel_rfl)
  · exact ⟨true, xrow Tryz.func321 (by kernel_rfl) (by kernel_rfl) (by kernel_rfl)⟩
  · exact ⟨true, xrow Tryz.func322 (by kernel_rfl) (by kernel_rfl) (by kernel_rfl)⟩
  · exact ⟨true, xrow Tryz.func323 (by kernel_rfl) (by kernel_rfl) (by kernel_rfl)⟩
  · exact ⟨true, xrow Tryz.func324 (by kernel_rfl) (by kernel_rfl) (by kernel_rfl)⟩
  · exact ⟨true, xrow Tryz.func325 (by kernel_rfl) (by kernel_rfl) (by kernel_rfl)⟩
  · exact ⟨true, xrow Tryz.func326 (by kernel_rfl) (by kernel_rfl) (by kernel_rfl)⟩
  · exact ⟨false, xrow Tryz.func327 (by kernel_rfl) (by kernel_rfl) (by kernel_rfl)⟩
end Go.Proofs.YtffklpenfaocbaaGreatDoor
