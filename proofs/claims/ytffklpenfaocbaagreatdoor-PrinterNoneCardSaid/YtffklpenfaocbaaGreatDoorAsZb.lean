/-
  The effects of a drawn region, in order: which are done at a stage, and what heap lies behind them.
-/
import Derived.Test.YtffklpenfaocbaaGreatDoorAsZa
set_option linter.unusedVariables false
set_option linter.unusedSimpArgs false
namespace Go.AS
open Go.RowKit

theorem items_sorted : ∀ (l : List Oper) (rs : List Rc) (k : Nat), (items l rs k).Pairwise (fun x y => x.i < y.i)
  | [], _, _ => by simp [items]
  | _ :: _, [], _ => by simp [items]
  | o :: l, r :: rs, k => by
    simp only [items, List.pairwise_cons]
    refine ⟨fun y hy => ?_, items_sorted l rs (k + 1)⟩
    obtain ⟨i, h1, -, -⟩ := items_mem l rs (Nat.succ k) y hy
    show k < y.i
    omega

theorem behind_append (K : HP) : ∀ (t : List It) (x : It), behind K (t ++ [x]) = x.r.H'
  | [], x => rfl
  | e :: t, x => behind_append e.r.H' t x

theorem split_sorted (p : Nat) : ∀ (l : List It), l.Pairwise (fun x y => x.i < y.i) → ∃ t1 t2, l = t1 ++ t2 ∧ (∀ x ∈ t1, x.i < p) ∧ (∀ x ∈ t2, p ≤ x.i)
  | [], _ => ⟨[], [], rfl, by simp, by simp⟩
  | x :: l, h => by
    rw [List.pairwise_cons] at h
    obtain ⟨t1, t2, h1, h2, h3⟩ := split_sorted p l h.2
    by_cases hx : x.i < p
    · refine ⟨x :: t1, t2, by rw [h1]; rfl, fun y hy => ?_, h3⟩
      rcases List.mem_cons.1 hy with rfl | hy
      · exact hx
      · exact h2 y hy
    · refine ⟨[], x :: l, rfl, by simp, fun y hy => ?_⟩
      rcases List.mem_cons.1 hy with rfl | hy
      · omega
      · have := h.1 y hy; omega

namespace Ctx
variable {X : Ctx}

def its (X : Ctx) : List It := items X.ops.toList X.rs 0
def effs (X : Ctx) : List It := X.its.filter (It.is .eff)

theorem its_mem {x : It} (h : x ∈ X.its) : X.ops[x.i]? = some x.o ∧ X.rs[x.i]? = some x.r := by
  obtain ⟨i, h1, h2, h3⟩ := items_mem _ _ _ x h
  have : x.i = i := by omega
  rw [this]
  exact ⟨by simpa using h2, h3⟩
theorem mem_its {i : Nat} {o : Oper} {r : Rc} (ho : X.ops[i]? = some o) (hr : X.rs[i]? = some r) : (⟨i, o, r⟩ : It) ∈ X.its := by
  have := items_get X.ops.toList X.rs 0 i o r (by simpa using ho) hr
  rw [Nat.zero_add] at this
  exact List.mem_of_getElem? this
theorem is_it {k : Kd} {x : It} (h : x ∈ X.its) (hk : x.is k = true) : X.Is k x.i := by
  obtain ⟨h1, h2⟩ := its_mem h
  unfold It.is at hk
  simp only [Bool.and_eq_true, decide_eq_true_eq] at hk
  exact ⟨x.o, x.r, h1, h2, hk.1, hk.2⟩
theorem effs_mem {x : It} (h : x ∈ X.effs) : x ∈ X.its ∧ X.Is .eff x.i := by
  unfold effs at h
  rw [List.mem_filter] at h
  exact ⟨h.1, is_it h.1 h.2⟩
theorem mem_effs {k : Nat} (h : X.Is .eff k) : ∃ x ∈ X.effs, x.i = k := by
  obtain ⟨o, r, h1, h2, h3, h4⟩ := h
  refine ⟨⟨k, o, r⟩, ?_, rfl⟩
  unfold effs
  rw [List.mem_filter]
  exact ⟨mem_its h1 h2, by simp [It.is, h3, h4]⟩

/-- The effects done at a stage and those to come; the heap behind the done ones. -/
theorem Stage.split (hf : X.Fits) {L : Nat → Bool} {p : Nat} (h : X.Stage L p) : ∃ t1 t2, X.effs = t1 ++ t2 ∧ (∀ x ∈ t1, L x.i = true) ∧ (∀ x ∈ t2, L x.i = false) ∧ behind (X.Hs 0) t1 = X.Hs p := by
  have hs : X.effs.Pairwise (fun x y => x.i < y.i) := (items_sorted _ _ _).filter _
  obtain ⟨t1, t2, h1, h2, h3⟩ := split_sorted p X.effs hs
  have hm : ∀ x, x ∈ t1 ∨ x ∈ t2 → x ∈ X.effs := fun x hx => by rw [h1]; exact List.mem_append.2 hx
  refine ⟨t1, t2, h1, fun x hx => h.done x.i (effs_mem (hm x (.inl hx))).2 (h2 x hx), fun x hx => ?_, ?_⟩
  · cases hL : L x.i with
    | false => rfl
    | true => have := h.todo x.i (effs_mem (hm x (.inr hx))).2 hL; have := h3 x hx; omega
  · rcases h.top with rfl | ⟨k, rfl, hk⟩
    · cases t1 with
      | nil => rfl
      | cons x t => have := h2 x (by simp); omega
    · obtain ⟨x, hx, hxi⟩ := mem_effs hk
      have hxt : x ∈ t1 := by
        rw [h1] at hx
        rcases List.mem_append.1 hx with hx | hx
        · exact hx
        · have := h3 x hx; omega
      rw [h1, List.pairwise_append] at hs
      have hlast : ∃ t, t1 = t ++ [x] := by
        obtain ⟨a, b, rfl⟩ := List.append_of_mem hxt
        cases b with
        | nil => exact ⟨a, rfl⟩
        | cons y b =>
          have hp := hs.1
          rw [List.pairwise_append, List.pairwise_cons] at hp
          have h5 := hp.2.1.1 y (by simp)
          have h6 := h2 y (by simp)
          omega
      obtain ⟨t, rfl⟩ := hlast
      rw [behind_append]
      obtain ⟨q1, q2⟩ := its_mem (effs_mem hx).1
      rw [hxi] at q1 q2
      exact (hf.part q1 q2).2.2
end Ctx
end Go.AS
