/-
  PrinterNone answers true whatever its arguments are, and they read afterwards as before: the row, its card. Conditions: those of the given row (package variable errors.errorType as laid).
-/
import Derived.Test.YtffklpenfaocbaaGreatDoorPnX
import Derived.Test.YtffklpenfaocbaaGreatDoorRows
import Derived.ChangeVars
import Derived.JoinedOf
import Derived.RowKit
import Derived.RowKitTokens
import Derived.LaidLaws
import Derived.LaidHandle
import Derived.Stop.Joined
import Derived.SevenTiedAt
namespace Go.Proofs.YtffklpenfaocbaaGreatDoor
open Go.ChangeShapes Go.WideShapes Go.RowKit Go.AS

theorem own : ownKnob Tryz.prog.godebug = none := by kernel_rfl
theorem et : Tryz.prog.globalNamed "errors.errorType" = some 0 := by kernel_rfl
theorem rt : (Tryz.prog.cutTypes.find? (·.1 == "internal/reflectlite.rtype")).map (·.2) = some 238 := by kernel_rfl
theorem oneRow : ((List.range 461).filter fun t => Tryz.prog.rowNamed t [101, 114, 114, 111, 114]) = [30] := by kernel_rfl
theorem tsize : Tryz.prog.types.size = 461 := by kernel_rfl
theorem kids : Kids Tryz.prog (· < Tryz.prog.types.size) := kids_rows (by kernel_rfl) (by kernel_rfl)
theorem full : ∀ t e, t < Tryz.prog.types.size → Tryz.prog.underlying t = some (.slice e) → 0 < Tryz.prog.cellsOf e := slices_full_of Tryz.prog (by kernel_rfl)
theorem mixed : Tryz.prog.follows .mixedOrders = true := by kernel_rfl

theorem handle_of_laid {W : World} (h : laidMetH Tryz.prog Rows.printerNoneRow.laid W) : W.cell? ⟨0, 0, none⟩ = some (.iface 238 (.agg #[.pointer (some ⟨2, 30, none⟩)])) := by
  have h' : laidMet Tryz.prog [] W ∧ handlesMet Tryz.prog Rows.printerNoneRow.laid W := h
  obtain ⟨name, u, ty, e1, e2, e3, e4, e5⟩ := h'.2 _ (List.mem_singleton.2 rfl)
  have en : name = [101, 114, 114, 111, 114] := (Option.some.inj e1).symm
  subst en
  obtain rfl := Option.some.inj (rt.symm.trans e2)
  have hm : ty ∈ (List.range 461).filter fun t => Tryz.prog.rowNamed t [101, 114, 114, 111, 114] := List.mem_filter.2 ⟨List.mem_range.2 (by rw [← tsize]; exact e3), e4⟩
  rw [oneRow] at hm
  obtain rfl := List.mem_singleton.1 hm
  have hh : typeHandle Tryz.prog 30 = .pointer (some ⟨2, 30, none⟩) := by kernel_rfl
  rw [hh] at e5
  simpa using World.var?_cell et e5 0

def rho (v0 : Value) (Cs : Array Value) : Nat → Value
  | 0 => v0
  | k + 1 => Cs[k]?.getD (.tuple #[])
theorem rho_at (v0 : Value) (l : List Value) (k : Nat) (x : Value) (h : l[k]? = some x) : rho v0 ⟨l⟩ (k + 1) = x := by
  simp [rho, h]

/-- The walk, for every argument of its type. -/
theorem walk (W : World) (v0 : Value) (Cs : Array Value) (hsz : Cs.size = 4) (hg : W.cell? ⟨0, 0, none⟩ = some (.iface 238 (.agg #[.pointer (some ⟨2, 30, none⟩)]))) :
    Calls Tryz.prog 3 #[v0, .agg Cs] W fun e W' => e = .returned (.bool true) ∧ Below W.heap.size W W' := by
  have hb : ∃ Gs el fz, W.heap[0]? = some (.cells Gs el fz) ∧ Gs[0]? = some (.iface 238 (.agg #[.pointer (some ⟨2, 30, none⟩)])) := by
    unfold World.cell? at hg
    cases h : W.heap[0]? with
    | none => simp [h] at hg
    | some o =>
      cases o with
      | cells Gs el fz => exact ⟨Gs, el, fz, rfl, by simpa [h] using hg⟩
      | _ => simp [h] at hg
  obtain ⟨Gs, el, fz, h1, h2⟩ := hb
  have hok := ok_start (ρ := rho v0 Cs) (x := errT) h1 h2 (.ifc _ _ _ (.agg _ _ (.cons _ _ _ _ (.lit _) .nil)))
  refine calls_says (c := cx) mixed name_ok x_ok Tryz.func3 (by kernel_rfl) (run el) hok ?_ ?_
  · intro g b hgb
    have hgb' : ite' (Nat.beq g 0) (some 0) none = some b := hgb
    rw [ite'_beq] at hgb'
    split at hgb'
    · rename_i e
      subst e
      cases hgb'
      exact ⟨Gs.size, rfl⟩
    · cases hgb'
  · refine .cons _ _ _ _ (.opq 0 _ rfl) (.cons _ _ _ _ (.agg _ _ ?_) .nil)
    obtain ⟨l⟩ := Cs
    have hl : l.length = 4 := hsz
    match l, hl with
    | [a, b, c, d], _ => exact .cons _ _ _ _ (.opq 1 _ (rho_at v0 [a, b, c, d] 0 a rfl)) (.cons _ _ _ _ (.opq 2 _ (rho_at v0 [a, b, c, d] 1 b rfl)) (.cons _ _ _ _ (.opq 3 _ (rho_at v0 [a, b, c, d] 2 c rfl)) (.cons _ _ _ _ (.opq 4 _ (rho_at v0 [a, b, c, d] 3 d rfl)) .nil)))

/-- A world that meets the condition: the settled one, the variable's cell laid. -/
noncomputable def laidWorld (os : Os) : World :=
  let w0 := World.holding Tryz.prog os ⟨#[], #[], []⟩
  { w0 with heap := w0.heap.modify 0 fun
      | .cells _ t frozen => .cells #[.iface 238 (.agg #[.pointer (some ⟨2, 30, none⟩)])] t frozen
      | o => o }
theorem laidWorld_met (os : Os) (args : Array Value) : laidMetH Tryz.prog Rows.printerNoneRow.laid ((laidWorld os).forCall (fun _ _ => 0) ⟨#[], args, []⟩).memory :=
  laidMetH_of_parts (laidMet_nil _ _) (by kernel_rfl)

def wArgs : Array Value := #[.string ⟨#[]⟩, .agg #[.int .i64 0, .int .i64 0, .string ⟨#[]⟩, .slice none 0 0]]

theorem two_of {H : Type} {enc : TypeId × Value → H} {P : Program} {w : World} {base : Nat} {sp : Nat → Bool} {held : Bool} {t t' : TypeId} {args : Array Value} {ds : List (DataW H)} {ps : List MemPlace}
    (h : DataW.TrodAll enc P w base sp held (#[t, t'] : Array TypeId).toList args.toList ds ps) : ∃ v0 d0 v1 d1 p0 p1, args = #[v0, v1] ∧ ds = [d0, d1] ∧ ps = p0 ++ p1 ∧ DataW.Trod enc P w base sp held t v0 d0 p0 ∧ DataW.Trod enc P w base sp held t' v1 d1 p1 := by
  obtain ⟨v0, vs0, d0, ds0, p0, q0, hargs, rfl, rfl, h0, r0⟩ := trodAll_cons h
  obtain ⟨v1, vs1, d1, ds1, p1, q1, rfl, rfl, rfl, h1, r1⟩ := trodAll_cons r0
  obtain ⟨rfl, rfl, rfl⟩ := trodAll_nil r1
  exact ⟨v0, d0, v1, d1, p0, p1, by apply Array.ext'; simpa using hargs, rfl, by simp, h0, h1⟩

set_option maxRecDepth 100000 in
theorem lifted (os : Os) (started : os.Started) (H : Type) (enc : TypeId × Value → H) :
    ReturnsInHanded {} Tryz.checked os 3 .any (fun w args => (Rows.printerNoneSpec.pre enc Tryz.prog Tryz.f3 [] false w args ∧ laidMetH Tryz.prog Rows.printerNoneRow.laid w) ∧ sizedMet enc Tryz.prog Tryz.f3 (OpenSpec.ofChange Rows.printerNoneSpec) false w args)
      (Rows.printerNoneSpec.post enc Tryz.prog Tryz.f3 false true false false) := by
  refine returnsInHanded_of_change_and (C := Tryz.checked) (X := fun w _ => laidMetH Tryz.prog Rows.printerNoneRow.laid w) (fun _ _ _ hh h => h.of_heap hh) own started (by kernel_rfl) Tryz.func3
    (ChangeSpec.witness_at (enc := enc) (C := Tryz.checked) (os := os) (X := fun w _ => laidMetH Tryz.prog Rows.printerNoneRow.laid w) false (laidWorld os) wArgs 8 rfl (by kernel_rfl) (by kernel_rfl) (by kernel_rfl) (by kernel_rfl) (by kernel_rfl) (laidWorld_met os _)) ?_
  intro W base args ds gs before hval0 hW _ _ hL _
  have hval : ∀ (j : Nat) t v, Tryz.f3.params[j]? = some t → args[j]? = some v → Value.okWide Tryz.prog W .any base t v := hval0
  have hW' := hW
  obtain ⟨p, q, hA0, hV0, rfl, hfz, hnd⟩ := hW
  have hA : DataW.TrodAll enc Tryz.prog W 0 (fun _ => true) true Tryz.f3.params.toList args.toList ds p := hA0
  rw [Tryz.params3] at hA hval
  obtain ⟨v0, d0, v1, d1, p0, p1, rfl, rfl, -, -, -⟩ := two_of hA
  have hx := hval 1 24 v1 rfl rfl
  obtain ⟨Cs, rfl, hsz⟩ : ∃ Cs : Array Value, v1 = .agg Cs ∧ Cs.size = 4 := by
    unfold Value.okWide at hx
    rw [Tryz.underlying24] at hx
    obtain ⟨Cs, h1, h2, -⟩ := hx
    exact ⟨Cs, h1, h2.trans (by kernel_rfl)⟩
  obtain rfl : gs = [] := by
    cases gs with
    | nil => rfl
    | cons g r => exact absurd hV0 (by intro h; cases h)
  refine (walk W v0 Cs hsz (handle_of_laid hL)).mono fun e W' ⟨he, hb⟩ => ?_
  subst he
  exact ⟨_, rfl, post_of_read kids full (fun t ht => by
    have : Tryz.f3.params.toList = [9, 24] := by rw [Tryz.params3]
    rw [this] at ht
    show t < Tryz.prog.types.size
    rw [tsize]
    simp only [List.mem_cons, List.not_mem_nil, or_false] at ht
    rcases ht with rfl | rfl <;> decide) hW' rfl hb (by kernel_rfl) Tryz.underlying4 rfl⟩

end Go.Proofs.YtffklpenfaocbaaGreatDoor
