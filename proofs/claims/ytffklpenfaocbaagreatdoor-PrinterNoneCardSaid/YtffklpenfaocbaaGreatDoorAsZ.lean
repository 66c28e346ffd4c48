/-
  The steps of a drawn region: what is taken in ahead of an effect.
-/
import Derived.Test.YtffklpenfaocbaaGreatDoorAsY
set_option linter.unusedVariables false
set_option linter.unusedSimpArgs false
namespace Go.AS
open Go.RowKit

theorem cut_ext (F : Env) {n : Nat} {x : Nat × Nat × Nat} (h : F.μ n = some x) : (F.cut n).ext n x = F.cut (n + 1) := by
  unfold Env.cut Env.ext
  congr 1
  funext j
  by_cases hj : j = n
  · subst hj
    rw [if_pos rfl, if_pos (Nat.lt_succ_self _), h]
  · rw [if_neg hj]
    show (if j < n then F.μ j else none) = _
    by_cases hlt : j < n
    · rw [if_pos hlt, if_pos (by omega)]
    · rw [if_neg hlt, if_neg (by omega)]

namespace Ctx
variable {X : Ctx}

theorem Fits.same (hf : X.Fits) {q : Nat} (hq : q < X.ops.size) (hna : ¬ X.Is .alloc q) (hne : ¬ X.Is .eff q) : X.Hs (q + 1) = X.Hs q := by
  have ho := Array.getElem?_eq_getElem hq
  have hrl : q < X.rs.length := by rw [hf.run.len]; simpa using hq
  have hr : X.rs[q]? = some X.rs[q] := List.getElem?_eq_getElem hrl
  obtain ⟨hp, e1, e2⟩ := hf.part ho hr
  cases hw : X.rs[q].w with
  | false => rw [← e2, (hp.no hw).2, e1]
  | true =>
    have hkd := hf.kind ho hr hw
    cases hk : kindOf X.ops[q].op with
    | pure => rw [hk] at hkd; simp only [byKind, AS.stay, bnd_eq, Option.some.injEq, Prod.mk.injEq] at hkd; obtain ⟨v, -, -, e⟩ := hkd; exact e.symm
    | read => rw [hk] at hkd; simp only [byKind, AS.stay, bnd_eq, Option.some.injEq, Prod.mk.injEq] at hkd; obtain ⟨v, -, -, e⟩ := hkd; exact e.symm
    | alloc => exact absurd ⟨_, _, ho, hr, hw, hk⟩ hna
    | eff => exact absurd ⟨_, _, ho, hr, hw, hk⟩ hne

theorem DI.assemble (hf : X.Fits) {L : Nat → Bool} {p : Nat} {F : Env} {a : Act} {w : World} (h : X.DI L p F a w) : ∀ q, p ≤ q → q ≤ X.ops.size → (∀ k, X.Is .alloc k → p ≤ k → k < q → L k = true) → (∀ k, X.Is .eff k → p ≤ k → ¬ k < q) →
    OK (F.cut (X.Hs q).nxt) (X.Hs q) X.N0 w
  | 0, hp, _, _, _ => by
    have : p = 0 := by omega
    subst this; exact h.ok
  | q + 1, hp, hq, hal, hef => by
    rcases Nat.lt_or_ge p (q + 1) with hlt | hge
    · have ih := DI.assemble hf h q (by omega) (by omega) (fun k hk h1 h2 => hal k hk h1 (by omega)) (fun k hk h1 h2 => hef k hk h1 (by omega))
      have hne : ¬ X.Is .eff q := fun hk => hef q hk (by omega) (Nat.lt_succ_self q)
      by_cases ha : X.Is .alloc q
      · obtain ⟨B, S, ob, g1, g2, g3, g4, g5⟩ := h.ex q ⟨ha, hal q ha (by omega) (Nat.lt_succ_self q), by omega⟩
        have := ih.adopt g3 g2 g4 fun i x hx => by
          obtain ⟨h1, h2⟩ := Env.cut_some hx
          exact g5 i x (by omega) h2
        rw [cut_ext F g1, ← hf.allocNxt ha] at this
        exact this
      · rw [hf.same (by omega) ha hne]; exact ih
    · have : p = q + 1 := by omega
      subst this; exact h.ok
end Ctx
end Go.AS
