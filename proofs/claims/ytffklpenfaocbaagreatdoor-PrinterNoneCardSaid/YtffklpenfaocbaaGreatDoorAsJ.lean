/-
  Every pure operation yields what the evaluator says.
-/
import Derived.Test.YtffklpenfaocbaaGreatDoorAsI
set_option linter.unusedVariables false
set_option linter.unusedSimpArgs false
namespace Go.AS
open Go.RowKit

section
variable {P : Program} {E : Env}

/-- Types that the evaluator's 'len' and 'cap' take at their word: the type's own look must agree. -/
theorem nilCheck_sound {x v : AV} {X : Value} (hx : VR E x X) (h : nilCheckA x = some v) : VR E v X ∧ X ≠ .pointer none ∧ X ≠ .nilIface ∧ X ≠ .nilFunc ∧ (∀ n f c, X ≠ .func (.method n) f c) := by
  cases hx <;> simp only [nilCheckA, reduceCtorEq, Option.some.injEq] at h
  case nils => subst h; exact ⟨.nils, by simp, by simp, by simp, by simp⟩
  case ptr b o B d S hμ => subst h; exact ⟨.ptr b o B d S hμ, by simp, by simp, by simp, by simp⟩
  case slc b o n c sz ex B d S D c' hμ hc hex hD hS => subst h; exact ⟨.slc b o n c sz ex B d S D c' hμ hc hex hD hS, by simp, by simp, by simp, by simp⟩
  case ifc t u U hu => subst h; exact ⟨.ifc t u U hu, by simp, by simp, by simp, by simp⟩
  case fn f a b A B ha hb =>
    split at h
    case h_4 f' a' b' he =>
      cases he
      simp only [Option.some.injEq] at h
      subst h
      exact ⟨.fn _ _ _ _ _ ha hb, by simp, by simp, by simp, by simp⟩
    all_goals first | (cases h; done) | simp_all

theorem un_sound {op : UnOp} {x v : AV} {X : Value} (hx : VR E x X) (h : unA P op x = some v) (w : World) : ∃ V, (Op.unary op X).run P w = .ok V w ∧ VR E v V := by
  cases hx <;> simp only [unA, reduceCtorEq, bnd_eq] at h
  case int k n =>
    obtain ⟨V, hV, hc⟩ := h
    exact ⟨V, pureRun_run hV w, ofCell_sound hc⟩
  case bool b =>
    obtain ⟨V, hV, hc⟩ := h
    exact ⟨V, pureRun_run hV w, ofCell_sound hc⟩

theorem iface_sound {t : TypeId} {x v : AV} {X : Value} {d : TypeDesc} (hd : P.underlying t = some d) (hx : VR E x X) (h : ifaceD t x d = some v) (w : World) :
    ∃ V, (Instr.makeInterface t X).run P w = .ok V w ∧ VR E v V := by
  cases d <;> simp only [ifaceD, reduceCtorEq, Option.some.injEq] at h
  all_goals (subst h; exact ⟨.iface t X, by simp [Instr.makeInterface, run_underlying hd], .ifc _ _ _ hx⟩)

theorem maxL_sound {k : IntKind} (w : World) : ∀ {a : Int} {l : List AV} {Vs : List Value} {v : AV}, VRs E l Vs → maxL k a l = some v → ∃ V, (Vs.foldlM Builtin.max2 (.int k a)).run P w = .ok V w ∧ VR E v V
  | a, [], _, v, .nil, h => by simp only [maxL, Option.some.injEq] at h; subst h; exact ⟨_, rfl, .int _ _⟩
  | a, x :: l, _, v, .cons _ X _ Xs hx hs, h => by
    cases hx <;> simp only [maxL, reduceCtorEq] at h
    case int k' b =>
      obtain ⟨V, hV, hv⟩ := maxL_sound w hs h
      refine ⟨V, ?_, hv⟩
      rw [ite'_if] at hV
      simp only [List.foldlM_cons, Builtin.max2, pure_bind]
      simpa using hV
theorem minL_sound {k : IntKind} (w : World) : ∀ {a : Int} {l : List AV} {Vs : List Value} {v : AV}, VRs E l Vs → minL k a l = some v → ∃ V, (Vs.foldlM Builtin.min2 (.int k a)).run P w = .ok V w ∧ VR E v V
  | a, [], _, v, .nil, h => by simp only [minL, Option.some.injEq] at h; subst h; exact ⟨_, rfl, .int _ _⟩
  | a, x :: l, _, v, .cons _ X _ Xs hx hs, h => by
    cases hx <;> simp only [minL, reduceCtorEq] at h
    case int k' b =>
      obtain ⟨V, hV, hv⟩ := minL_sound w hs h
      refine ⟨V, ?_, hv⟩
      rw [ite'_if] at hV
      simp only [List.foldlM_cons, Builtin.min2, pure_bind]
      simpa using hV

theorem argD_sound {ts : Array TypeId} {d : TypeDesc} (h : argD P ts.toList = some d) : ∃ t, ts[0]? = some t ∧ P.underlying t = some d := by
  obtain ⟨l⟩ := ts
  cases l with
  | nil => simp [argD] at h
  | cons t r => exact ⟨t, rfl, h⟩

theorem VRs.one {x : AV} {Vs : List Value} (h : VRs E [x] Vs) : ∃ X, Vs = [X] ∧ VR E x X := by
  cases h with
  | cons _ X _ Xs hx hs => cases hs; exact ⟨X, rfl, hx⟩

theorem builtinPure_sound {b : Builtin} {ts : Array TypeId} {ty : TypeId} {cs : Array Bool} {vs : List AV} {Vs : Array Value} {v : AV} (hv : VRs E vs Vs.toList) (h : builtinPure P ts.toList vs b = some v) (w : World) :
    ∃ V, (builtin b ts ty cs Vs).run P w = .ok (.value V) w ∧ VR E v V := by
  have lift : ∀ {s : Sem Value}, (∃ V, s.run P w = .ok V w ∧ VR E v V) → ∃ V, (do pure (Next.value (← s)) : Sem Next).run P w = .ok (.value V) w ∧ VR E v V := by
    rintro s ⟨V, hV, hvv⟩
    exact ⟨V, by rw [Sem.run_bind, hV]; rfl, hvv⟩
  unfold builtinPure at h
  split at h
  · -- len
    simp only [bnd_eq] at h
    obtain ⟨d, hd, h⟩ := h
    obtain ⟨t, ht, hu⟩ := argD_sound hd
    refine lift (s := Builtin.len_ ts ty Vs) ?_
    unfold lenA at h
    split at h
    · simp only [tst_eq, Option.some.injEq, lenX_eq] at h
      obtain ⟨hs, rfl⟩ := h
      obtain ⟨X, hX, hx⟩ := hv.one
      cases hx with
      | str _ sb hsb =>
        cases d <;> simp only [stringD, Bool.false_eq_true] at hs
        refine ⟨.int .i64 sb.size, ?_, by rw [str_size hsb]; exact .int _ _⟩
        have : Vs = #[.string sb] := by apply Array.ext'; simpa using hX
        subst this
        simp [Builtin.len_, ht, run_underlying hu, goInt]
    · simp only [tst_eq, Option.some.injEq] at h
      obtain ⟨hs, rfl⟩ := h
      obtain ⟨X, hX, hx⟩ := hv.one
      cases hx
      cases d <;> simp only [isSliceD, Bool.false_eq_true] at hs
      refine ⟨.int .i64 0, ?_, .int _ _⟩
      have : Vs = #[.slice none 0 0] := by apply Array.ext'; simpa using hX
      subst this
      simp [Builtin.len_, ht, run_underlying hu, goInt]
    · simp only [tst_eq, Option.some.injEq] at h
      obtain ⟨hs, rfl⟩ := h
      obtain ⟨X, hX, hx⟩ := hv.one
      cases hx with
      | slc b o n c sz ex B dd S D c' hμ hc hex hD hS =>
        cases d <;> simp only [isSliceD, Bool.false_eq_true] at hs
        refine ⟨.int .i64 (Int.ofNat _), ?_, .int _ _⟩
        have := hX
        obtain ⟨l⟩ := Vs
        simp only at this
        subst this
        simp [Builtin.len_, ht, run_underlying hu, goInt]
    · cases h
  · -- cap
    simp only [bnd_eq] at h
    obtain ⟨d, hd, h⟩ := h
    obtain ⟨t, ht, hu⟩ := argD_sound hd
    refine lift (s := Builtin.cap_ ts ty Vs) ?_
    unfold capA at h
    split at h
    · simp only [tst_eq, Option.some.injEq] at h
      obtain ⟨hs, rfl⟩ := h
      obtain ⟨X, hX, hx⟩ := hv.one
      cases hx
      cases d <;> simp only [isSliceD, Bool.false_eq_true] at hs
      refine ⟨.int .i64 0, ?_, .int _ _⟩
      have : Vs = #[.slice none 0 0] := by apply Array.ext'; simpa using hX
      subst this
      simp [Builtin.cap_, ht, run_underlying hu, goInt]
    · simp only [tst_eq, Bool.and_eq_true, Option.some.injEq] at h
      obtain ⟨⟨hs, he⟩, rfl⟩ := h
      obtain ⟨X, hX, hx⟩ := hv.one
      cases hx with
      | slc b o n c sz ex B dd S D c' hμ hc hex hD hS =>
        cases d <;> simp only [isSliceD, Bool.false_eq_true] at hs
        have := hex he
        subst this
        refine ⟨.int .i64 c', ?_, .int _ _⟩
        obtain ⟨l⟩ := Vs
        simp only at hX
        subst hX
        simp [Builtin.cap_, ht, run_underlying hu, goInt]
    · cases h
  · -- unsafe.SliceData
    refine lift (s := Builtin.unsafeSliceData_ ts ty Vs) ?_
    unfold sliceDataA at h
    split at h
    · simp only [Option.some.injEq] at h
      subst h
      obtain ⟨X, hX, hx⟩ := hv.one
      cases hx
      have : Vs = #[.slice none 0 0] := by apply Array.ext'; simpa using hX
      subst this
      exact ⟨.pointer none, rfl, .nilp⟩
    · simp only [tst_eq, Option.some.injEq] at h
      obtain ⟨hc0, rfl⟩ := h
      have hc0' : Nat.ble 1 _ = true := hc0
      rw [Nat.ble_eq] at hc0'
      obtain ⟨X, hX, hx⟩ := hv.one
      cases hx with
      | slc b o n c sz ex B dd S D c' hμ hc hex hD hS =>
        obtain ⟨l⟩ := Vs
        simp only at hX
        subst hX
        have e : ∀ (a : Addr) (n c : Nat), Builtin.unsafeSliceData_ ts ty #[.slice (some a) n c] =
            (if c ≠ 0 then pure (.pointer (some a)) else do
              if (← viewAt a.block).isSome then pure (.pointer (some a))
              else pure (.pointer (some ⟨← newObj (.view a (← elemOf ty)), 0, none⟩))) := fun _ _ _ => rfl
        refine ⟨.pointer (some ⟨B, D, none⟩), ?_, ?_⟩
        · show (Builtin.unsafeSliceData_ ts ty #[.slice (some ⟨B, D, none⟩) _ c']).run P w = _
          rw [e, if_pos (by omega)]
          rfl
        · rcases hD with h | ⟨-, h⟩
          · subst h; exact .ptr _ _ B dd S hμ
          · omega
    · cases h
  · -- max
    refine lift (s := Builtin.max_ ts ty Vs) ?_
    unfold maxA at h
    split at h
    · cases hvv : Vs.toList with
      | nil => rw [hvv] at hv; cases hv
      | cons X Xs =>
        rw [hvv] at hv
        cases hv with
        | cons _ _ _ _ hx hs =>
          cases hx
          simp only [Builtin.max_, hvv]
          exact maxL_sound w hs h
    · cases h
  · -- min
    refine lift (s := Builtin.min_ ts ty Vs) ?_
    unfold minA at h
    split at h
    · cases hvv : Vs.toList with
      | nil => rw [hvv] at hv; cases hv
      | cons X Xs =>
        rw [hvv] at hv
        cases hv with
        | cons _ _ _ _ hx hs =>
          cases hx
          simp only [Builtin.min_, hvv]
          exact minL_sound w hs h
    · cases h
  · cases h
end
end Go.AS
