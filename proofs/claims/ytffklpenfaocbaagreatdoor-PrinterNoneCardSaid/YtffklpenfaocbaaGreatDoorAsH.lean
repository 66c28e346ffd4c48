/-
  The pure operations together.
-/
import Derived.Test.YtffklpenfaocbaaGreatDoorAsG
set_option linter.unusedVariables false
set_option linter.unusedSimpArgs false
namespace Go.AS
open Go.RowKit

section
variable {c : Cx} {E : Env} {T : TM} {a : Act}

theorem Addr.add_any (B D j : Nat) : (⟨B, D, none⟩ : Addr).add j = ⟨B, D + j, none⟩ := Addr.add_mid B D j

theorem natOf_sound {x : AV} {X : Value} {n : Nat} (hx : VR E x X) (h : natOf x = some n) : ∃ k, X = .int k (n : Int) := by
  unfold natOf at h
  split at h
  · cases h; cases hx; exact ⟨_, rfl⟩
  · cases h

theorem evBound_sound (hT : TR E T a) (hG : GL c E) {x : Option Operand} {r : Option Nat} (h : evBound c T x = some r) :
    (x = none ∧ r = none) ∨ ∃ y n k, x = some y ∧ r = some n ∧ a.eval y = .int k (n : Int) := by
  cases x with
  | none =>
    have h' : some none = some r := h
    cases h'; exact .inl ⟨rfl, rfl⟩
  | some y =>
    have h' : (bnd (ev c T y) fun v => bnd (natOf v) fun n => some (some n)) = some r := h
    simp only [bnd_eq, Option.some.injEq] at h'
    obtain ⟨v, hv, n, hn, rfl⟩ := h'
    obtain ⟨k, hk⟩ := natOf_sound (ev_sound hT hG hv) hn
    exact .inr ⟨y, n, k, rfl, rfl, hk⟩

/-- A bound that holds. -/
theorem sliceBound_run {P : Program} {k : IntKind} {n y : Nat} (h : n ≤ y) (code : BoundsCode) (w : World) : (Instr.sliceBound (.int k (n : Int)) y code).run P w = .ok n w := by
  simp [Instr.sliceBound, asIntOf, h]

/-- What stands for an optional bound. -/
inductive BR : Option Nat → Option Value → Prop
  | none : BR .none .none
  | some (n : Nat) (k : IntKind) : BR (.some n) (.some (.int k (n : Int)))

theorem sliceBounds_run {P : Program} (isSlice : Bool) (len cap : Nat) {lo hi mx : Option Nat} {Lo Hi Mx : Option Value} (hl : BR lo Lo) (hh : BR hi Hi) (hm : BR mx Mx)
    (hmh : mx.isSome = true → hi.isSome = true) (h1 : mx.getD cap ≤ cap) (h2 : hi.getD len ≤ mx.getD cap) (h3 : lo.getD 0 ≤ hi.getD len) (w : World) :
    (Instr.sliceBounds isSlice len cap Lo Hi Mx).run P w = .ok (lo.getD 0, hi.getD len, mx.getD cap) w := by
  cases hm with
  | none =>
    cases hh with
    | none => cases hl with
      | none => simp [Instr.sliceBounds]
      | some l kl => simp [Instr.sliceBounds, sliceBound_run (by simpa using h3)]
    | some h kh => cases hl with
      | none => simp [Instr.sliceBounds, sliceBound_run (by simpa using h2)]
      | some l kl => simp [Instr.sliceBounds, sliceBound_run (show h ≤ cap by simpa using h2), sliceBound_run (show l ≤ h by simpa using h3)]
  | some m km =>
    cases hh with
    | none => simp at hmh
    | some h kh => cases hl with
      | none => simp [Instr.sliceBounds, sliceBound_run (show m ≤ cap by simpa using h1), sliceBound_run (show h ≤ m by simpa using h2)]
      | some l kl => simp [Instr.sliceBounds, sliceBound_run (show m ≤ cap by simpa using h1), sliceBound_run (show h ≤ m by simpa using h2), sliceBound_run (show l ≤ h by simpa using h3)]

theorem BR_of (hT : TR E T a) (hG : GL c E) {x : Option Operand} {r : Option Nat} (h : evBound c T x = some r) : BR r (x.map a.eval) := by
  rcases evBound_sound hT hG h with ⟨rfl, rfl⟩ | ⟨y, n, k, rfl, rfl, hk⟩
  · exact .none
  · rw [Option.map_some, hk]; exact .some n k
end

section
variable {P : Program} {E : Env}
theorem slice_sound {t : TypeId} {x v : AV} {X : Value} {lo hi mx : Option Nat} {Lo Hi Mx : Option Value} (hx : VR E x X) (hl : BR lo Lo) (hh : BR hi Hi) (hm : BR mx Mx)
    (hmh : mx.isSome = true → hi.isSome = true) (h : sliceOp P t x lo hi mx = some v) (w : World) :
    ∃ V, (Instr.sliceAt t X Lo Hi Mx).run P w = .ok V w ∧ VR E v V := by
  unfold sliceOp at h
  cases hx <;> simp only [reduceCtorEq] at h
  case str s b hb =>
    simp only [bnd_eq] at h
    obtain ⟨d, hd, h⟩ := h
    split at h
    · unfold strSlice at h
      simp only [tst_eq, Bool.and_eq_true, Nat.ble_eq, Option.some.injEq, Option.isNone_iff_eq_none] at h
      obtain ⟨⟨⟨rfl, h1⟩, h2⟩, rfl⟩ := h
      cases hm
      have hsz := str_size hb
      have hr := sliceBounds_run (P := P) false b.size b.size hl hh .none (by simp) (Nat.le_refl _) (by rw [hsz]; simpa using h1) (by rw [hsz]; exact h2) w
      refine ⟨.string (b.extract (lo.getD 0) (hi.getD b.size)), ?_, ?_⟩
      · simp [Instr.sliceAt, Instr.slice, run_underlying hd, hr]
      · refine .str _ _ ?_
        rw [hsz]
        simp only [ByteArray.data_extract, Array.toList_extract, List.extract_eq_take_drop, List.map_take, List.map_drop, hb]
        rfl
    · cases h
  case nils =>
    simp only [bnd_eq] at h
    obtain ⟨d, hd, h⟩ := h
    split at h
    · rename_i e
      simp only [tst_eq, Bool.and_eq_true, Nat.beq_eq, Option.some.injEq] at h
      obtain ⟨⟨⟨⟨h1, h2⟩, h3⟩, h4⟩, rfl⟩ := h
      obtain ⟨n, hn⟩ := Option.isSome_iff_exists.1 h4
      have hr := sliceBounds_run (P := P) true 0 0 hl hh hm hmh (by omega) (by omega) (by omega) w
      refine ⟨.slice none 0 0, ?_, .nils⟩
      have e1 : mx.getD 0 = lo.getD 0 := by omega
      have e2 : hi.getD 0 = 0 := h2
      simp [Instr.sliceAt, Instr.slice, run_underlying hd, hr, szOf_run hn, h1, h2, h3]
    · cases h
  case slc b o n cp sz ex B dd S D c' hμ hc hex hD hS =>
    simp only [bnd_eq] at h
    obtain ⟨d, hd, h⟩ := h
    split at h
    · rename_i e
      unfold slcSlice at h
      simp only [tst_eq, Bool.and_eq_true, Nat.ble_eq, decide_eq_true_eq, Option.some.injEq] at h
      obtain ⟨⟨⟨⟨h1, h2⟩, h3⟩, h4⟩, rfl⟩ := h
      -- the real bound: mx, or the real capacity
      have hr := sliceBounds_run (P := P) true n c' hl hh hm hmh (by cases hm with | none => exact Nat.le_refl _ | some m k => simp at h1 ⊢; omega)
        (by cases hm with | none => simp at h2 ⊢; omega | some m k => simpa using h2) h3 w
      have hm' : mx.getD cp ≤ mx.getD c' := by cases hm with | none => simpa using hc | some m k => simp
      have hmc : mx.getD c' ≤ c' := by cases hm with | none => simp | some m k => simp at h1 ⊢; omega
      refine ⟨.slice (some ⟨B, if mx.getD c' = lo.getD 0 then D else D + lo.getD 0 * sz, none⟩) (hi.getD n - lo.getD 0) (mx.getD c' - lo.getD 0), ?_, ?_⟩
      · simp only [Instr.sliceAt, Instr.slice, Sem.run_bind, run_underlying hd, hr, szOf_run h4, Result.andThen_ok, Sem.run_pure, Option.map_some, Addr.add_any]
        split <;> rfl
      refine .slc b _ _ _ sz _ B dd S _ _ hμ (by omega) ?_ ?_ ?_
      · intro he
        rcases Bool.or_eq_true_iff.1 he with h' | h'
        · cases hm with
          | none => simp at h'
          | some m k => simp
        · have := hex h'
          rw [this]
      · -- where it begins
        by_cases hz : mx.getD c' = lo.getD 0
        · rw [if_pos hz]
          have hh0 : hi.getD n = lo.getD 0 := by
            have : hi.getD n ≤ mx.getD cp := h2
            omega
          exact .inr ⟨by omega, by omega⟩
        · rw [if_neg hz]
          rcases hD with hD | ⟨hn0, hc0⟩
          · left
            rw [ite'_if]
            rw [if_neg]
            · omega
            · intro hb
              simp only [Bool.and_eq_true, Nat.beq_eq] at hb
              obtain ⟨hb1, hb2⟩ := hb
              rcases Bool.or_eq_true_iff.1 hb1 with h' | h'
              · cases hm with
                | none => simp at h'
                | some m k => simp at hz hb2; exact hz hb2
              · have := hex h'; rw [this] at hz; exact hz hb2
          · exfalso
            have : mx.getD c' ≤ 0 := by omega
            have : lo.getD 0 = 0 := by omega
            omega
      · split
        · have : (mx.getD c' - lo.getD 0) * sz ≤ c' * sz := Nat.mul_le_mul_right _ (by omega)
          omega
        · have h5 : lo.getD 0 * sz + (mx.getD c' - lo.getD 0) * sz = mx.getD c' * sz := by
            rw [← Nat.add_mul]; congr 1; omega
          have h6 : mx.getD c' * sz ≤ c' * sz := Nat.mul_le_mul_right _ hmc
          omega
    · cases h
end
end Go.AS
