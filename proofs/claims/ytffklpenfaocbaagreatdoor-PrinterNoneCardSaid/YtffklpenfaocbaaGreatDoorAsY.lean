/-
  The steps of a drawn region: reads.
-/
import Derived.Test.YtffklpenfaocbaaGreatDoorAsX
set_option linter.unusedVariables false
set_option linter.unusedSimpArgs false
namespace Go.AS
open Go.RowKit

/-- The heap behind these effects. -/
def behind (K : HP) : List It → HP
  | [] => K
  | e :: es => behind e.r.H' es

theorem readOk_split {c : Cx} {ms : List Nat} {x : It} : ∀ (t1 t2 done : List It) (K : HP), readOk c ms x done (t1 ++ t2) K = true →
    (∃ e ∈ done ++ t1, mk ms e.i x.i = true) ∨ (∃ e ∈ t2, mk ms x.i e.i = true) ∨ readSame c x (behind K t1) = true
  | [], [], done, K, h => by
    simp only [List.append_nil, readOk, Bool.or_eq_true, List.any_eq_true] at h
    rcases h with ⟨e, he, h⟩ | h
    · exact .inl ⟨e, by simpa using he, h⟩
    · exact .inr (.inr h)
  | [], e :: es, done, K, h => by
    simp only [List.nil_append, readOk, Bool.and_eq_true, Bool.or_eq_true, List.any_eq_true] at h
    rcases h.1 with (⟨e', he, h⟩ | ⟨e', he, h⟩) | h
    · exact .inl ⟨e', by simpa using he, h⟩
    · exact .inr (.inl ⟨e', he, h⟩)
    · exact .inr (.inr h)
  | e :: t1, t2, done, K, h => by
    simp only [List.cons_append, readOk, Bool.and_eq_true] at h
    have := readOk_split t1 t2 (done ++ [e]) e.r.H' h.2
    rcases this with ⟨e', he, h1⟩ | h1 | h1
    · exact .inl ⟨e', by simpa using he, h1⟩
    · exact .inr (.inl h1)
    · exact .inr (.inr h1)

namespace Ctx
variable {X : Ctx}

/-- A read, once its value in the heap behind the last done effect is known to be the text's. -/
theorem DI.read (hf : X.Fits) {L : Nat → Bool} {p : Nat} {F : Env} {a : Act} {w : World} (h : X.DI L p F a w) {j : Nat} {o : Oper} {r : Rc} (ho : X.ops[j]? = some o) (hr : X.rs[j]? = some r) (hj : L j = false)
    (hpre : ∀ e ∈ o.after, Region.binds .any e = true → L e.on = true) (hw : r.w = true) (hk : kindOf o.op = .read) (hbelow : below (X.Hs j).nxt r.v = true) (hread : opRead X.c r.T (X.Hs p) o.op = some r.v)
    {Q : Exit → Act → World → Prop} {K : Act → World → Prop} (hK : ∀ a', X.DI (fun k => k == j || L k) p F a' w → K a' w) : o.wp X.c.P a w K Q := by
  have hjlt : j < X.ops.size := (Array.getElem?_eq_some_iff.1 ho).1
  have hkd := hf.kind ho hr hw
  rw [hk] at hkd
  simp only [byKind, AS.stay, bnd_eq, Option.some.injEq, Prod.mk.injEq] at hkd
  obtain ⟨v0, -, -, e2⟩ := hkd
  have hT := (h.tr hf ho hr hj hpre).mono (F.cut_le _)
  have hG := (h.glj hf (Nat.le_of_lt hjlt)).mono (F.cut_le _)
  -- the heap's relation under the whole environment
  have hHR : HR F (fun i => if i < (X.Hs p).nxt then (X.Hs p).obs.get i else none) (X.Hs p).cls.get X.N0 w := by
    constructor
    · intro i ob hi
      split at hi
      · obtain ⟨B, d, S, hμ, hb⟩ := h.ok.hr.obj i ob hi
        exact ⟨B, d, S, (Env.cut_some hμ).2, hb.mono (F.cut_le _)⟩
      · cases hi
    · intro i k oi ok B d S d' S' hik hi hk' mi mk' hB
      split at hi
      · rename_i h1
        split at hk'
        · rename_i h2
          exact h.ok.hr.sep i k oi ok B d S d' S' hik hi hk' (by rw [Env.cut_lt F h1]; exact mi) (by rw [Env.cut_lt F h2]; exact mk') hB
        · cases hk'
      · cases hi
  have hAg : Agree F (X.Hs p) (fun i => if i < (X.Hs p).nxt then (X.Hs p).obs.get i else none) := by
    intro b ob _ hb
    obtain ⟨B, d, S, hμ, -⟩ := h.ok.hr.obj b ob hb
    show (if b < (X.Hs p).nxt then (X.Hs p).obs.get b else none) = some ob
    rw [if_pos (Env.cut_some hμ).1]; exact hb
  obtain ⟨V, h1, h2⟩ := opRead_sound hT hG hHR hAg hread
  unfold Oper.wp
  rw [h1]
  refine hK _ (h.stay hf ho hr hj hpre (not_is ho hr (.inr (by rw [hk]; simp))) (not_is ho hr (.inr (by rw [hk]; simp))) ?_)
  rw [← e2]; exact h2.cut hbelow
end Ctx
end Go.AS
