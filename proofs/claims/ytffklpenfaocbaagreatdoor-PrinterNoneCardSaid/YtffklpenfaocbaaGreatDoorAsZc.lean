/-
  What the check of a drawn region's run says of its effects and reads.
-/
import Derived.Test.YtffklpenfaocbaaGreatDoorAsZb
set_option linter.unusedVariables false
set_option linter.unusedSimpArgs false
namespace Go.AS
open Go.RowKit

theorem effsOk_split {c : Cx} {ms : List Nat} {its : List It} : ∀ {l : List It}, effsOk c ms its l = true → ∀ (a b : List It) (e e' : It), l = a ++ e :: b → e' ∈ b → mk ms e'.i e.i = true ∨ (b = [e'] ∧ lastTwo c ms its e e' = true)
  | [], _, a, b, e, e', h, _ => by simp at h
  | [x], _, a, b, e, e', h, hb => by
    cases a with
    | nil => simp only [List.nil_append, List.cons.injEq] at h; rw [← h.2] at hb; simp at hb
    | cons y a => simp at h
  | [x, y], hok, a, b, e, e', h, hb => by
    cases a with
    | nil =>
      simp only [List.nil_append, List.cons.injEq] at h
      obtain ⟨rfl, h⟩ := h
      subst h
      have : e' = y := by simpa using hb
      subst this
      simp only [effsOk, Bool.or_eq_true] at hok
      rcases hok with h1 | h1
      · exact .inl h1
      · exact .inr ⟨rfl, h1⟩
    | cons z a =>
      simp only [List.cons_append, List.cons.injEq] at h
      obtain ⟨-, h⟩ := h
      cases a with
      | nil => simp only [List.nil_append, List.cons.injEq] at h; rw [← h.2] at hb; simp at hb
      | cons u a => simp at h
  | x :: y :: z :: l, hok, a, b, e, e', h, hb => by
    simp only [effsOk, Bool.and_eq_true, List.all_eq_true] at hok
    cases a with
    | nil =>
      simp only [List.nil_append, List.cons.injEq] at h
      obtain ⟨rfl, h⟩ := h
      subst h
      exact .inl (hok.1 e' hb)
    | cons u a =>
      simp only [List.cons_append, List.cons.injEq] at h
      exact effsOk_split hok.2 a b e e' h.2 hb

theorem readSame_eq {c : Cx} {x : It} {K : HP} (h : readSame c x K = true) : opRead c x.r.T K x.o.op = some x.r.v := by
  unfold readSame at h
  split at h
  · rename_i v hv
    rw [hv, same_eq h]
  · cases h
end Go.AS
