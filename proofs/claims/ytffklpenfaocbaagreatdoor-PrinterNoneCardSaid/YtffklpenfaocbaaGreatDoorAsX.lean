/-
  The steps of a drawn region: allocations, reads.
-/
import Derived.Test.YtffklpenfaocbaaGreatDoorAsW
set_option linter.unusedVariables false
set_option linter.unusedSimpArgs false
namespace Go.AS
open Go.RowKit

theorem ext_cut (F : Env) {i n : Nat} (x : Nat × Nat × Nat) (h : n ≤ i) : (F.ext i x).cut n = F.cut n := by
  unfold Env.cut
  congr 1
  funext j
  by_cases hj : j < n
  · rw [if_pos hj, if_pos hj, Env.ext_ne F x (by omega)]
  · rw [if_neg hj, if_neg hj]

theorem Made.mono {E E' : Env} (hE : E.le E') {H H' : HP} {ob : Obj} {S : Nat} (h : Made E H H' ob S) : Made E' H H' ob S := by
  rcases h with ⟨cells, el, xsz, Cs, h1, h2, h3, h4, h5⟩ | h
  · exact .inl ⟨cells, el, xsz, Cs, h1, h2, h3, fun j x hx => let ⟨V, hV, hv⟩ := h4 j x hx; ⟨V, hV, hv.mono hE⟩, h5⟩
  · exact .inr h
theorem Made.nxt {E : Env} {H H' : HP} {ob : Obj} {S : Nat} (h : Made E H H' ob S) : H'.nxt = H.nxt + 1 := by
  rcases h with ⟨cells, el, xsz, Cs, h1, h2, h3, h4, h5⟩ | ⟨h1, h2⟩
  · rw [h3]; rfl
  · rw [h2]

namespace Ctx
variable {X : Ctx}

theorem is_ne {k k' : Kd} {j : Nat} (h : X.Is k j) (h' : X.Is k' j) : k = k' := by
  obtain ⟨o, r, h1, h2, h3, h4⟩ := h
  obtain ⟨o', r', h1', h2', h3', h4'⟩ := h'
  rw [h1] at h1'; cases h1'
  rw [← h4, ← h4']
theorem is_lt {k : Kd} {j : Nat} (h : X.Is k j) : j < X.ops.size := by
  obtain ⟨o, r, h1, -⟩ := h
  exact (Array.getElem?_eq_some_iff.1 h1).1

/-- An allocation takes the next number, in the order of the text. -/
theorem Fits.allocNxt (hf : X.Fits) {k : Nat} (hk : X.Is .alloc k) : (X.Hs (k + 1)).nxt = (X.Hs k).nxt + 1 := by
  obtain ⟨o, r, h1, h2, h3, h4⟩ := hk
  have hkd := hf.kind h1 h2 h3
  rw [h4] at hkd
  simp only [byKind] at hkd
  have key : ∀ {T : TM} {H H' : HP} {op : Op} {v : AV}, opAlloc X.c T H op = some (v, H') → H'.nxt = H.nxt + 1 := by
    intro T H H' op v h
    cases op <;> simp only [opAlloc, reduceCtorEq] at h
    case alloc t => simp only [bnd_eq, allocA, tst_eq, Option.some.injEq, Prod.mk.injEq] at h; obtain ⟨z, -, -, -, rfl⟩ := h; rfl
    case box t x => simp only [bnd_eq, allocA, tst_eq, Option.some.injEq, Prod.mk.injEq] at h; obtain ⟨z, -, -, -, rfl⟩ := h; rfl
    case buildSlice t len parts =>
      simp only [bnd_eq, buildSliceA, tst_eq, Option.some.injEq, Prod.mk.injEq] at h
      obtain ⟨ps, -, d, -, e, -, sz, -, z, -, -, cells, -, -, rfl⟩ := h; rfl
    case makeSlice t l cp =>
      simp only [bnd_eq, makeSliceA, tst_eq, Option.some.injEq, Prod.mk.injEq] at h
      obtain ⟨av, -, n, -, bv, -, m, -, d, -, e, -, i, -, z, -, -, -, rfl⟩ := h; rfl
    case makeMap t r =>
      unfold makeMapA at h
      split at h
      · simp only [Option.some.injEq, Prod.mk.injEq] at h
        obtain ⟨-, rfl⟩ := h; rfl
      · cases h
  exact key hkd

theorem Fits.allocNe (hf : X.Fits) {j k : Nat} (hj : X.Is .alloc j) (hk : X.Is .alloc k) (hne : j ≠ k) : (X.Hs j).nxt ≠ (X.Hs k).nxt := by
  have hj1 := is_lt hj
  have hk1 := is_lt hk
  rcases Nat.lt_or_ge j k with h | h
  · have h1 := hf.allocNxt hj
    have h2 := hf.nxt (i := j + 1) (j := k) (by omega) (by omega)
    omega
  · have h1 := hf.allocNxt hk
    have h2 := hf.nxt (i := k + 1) (j := j) (by omega) (by omega)
    omega

theorem DI.alloc (hf : X.Fits) {L : Nat → Bool} {p : Nat} {F : Env} {a : Act} {w : World} (h : X.DI L p F a w) {j : Nat} {o : Oper} {r : Rc} (ho : X.ops[j]? = some o) (hr : X.rs[j]? = some r) (hj : L j = false)
    (hpre : ∀ e ∈ o.after, Region.binds .any e = true → L e.on = true) (hw : r.w = true) (hk : kindOf o.op = .alloc) {Q : Exit → Act → World → Prop} {K : Act → World → Prop} (hK : ∀ F' a' w', X.DI (fun k => k == j || L k) p F' a' w' → K a' w') : o.wp X.c.P a w K Q := by
  have hjlt : j < X.ops.size := (Array.getElem?_eq_some_iff.1 ho).1
  have hIs : X.Is .alloc j := ⟨o, r, ho, hr, hw, hk⟩
  have hpj : p ≤ j := by
    rcases Nat.lt_or_ge j p with hlt | hge
    · have := h.st.made j hIs hlt; rw [hj] at this; cases this
    · exact hge
  have hkd := hf.kind ho hr hw
  rw [hk] at hkd
  simp only [byKind] at hkd
  obtain ⟨V, ob, S, h1, h2, h3⟩ := opAlloc_sound (h.tr hf ho hr hj hpre) (h.glj hf (Nat.le_of_lt hjlt)) hkd w
  have hnp := hf.nxt hpj (Nat.le_of_lt hjlt)
  have hnone : F.μ (X.Hs j).nxt = none := by
    cases hx : F.μ (X.Hs j).nxt with
    | none => rfl
    | some x =>
      rcases h.on _ x hx with h4 | ⟨k, ⟨h4, h5, h6⟩, h7⟩
      · omega
      · have : j ≠ k := fun e => by subst e; rw [hj] at h5; cases h5
        exact absurd h7 (hf.allocNe hIs h4 this)
  have hle := F.le_ext (w.heap.size, 0, S) hnone
  have hnx := hf.allocNxt hIs
  unfold Oper.wp
  rw [h1]
  have hold : ∀ B, B < w.heap.size → (w.alloc ob).heap[B]? = w.heap[B]? := fun B hB => heap_alloc_old w ob hB
  obtain ⟨t1, t2⟩ := h.put hf hle ho hr hj (V := V) (h2 _ (by rw [Env.cut_lt _ (by omega)]; exact Env.ext_at _ _ _))
  refine hK (F.ext (X.Hs j).nxt (w.heap.size, 0, S)) _ _ ⟨closed_add h.cl ho hpre, ⟨h.st.le, fun k hk hp => add_iff.2 (.inr (h.st.done k hk hp)), fun k hk hL => ?_, fun k hk hp => add_iff.2 (.inr (h.st.made k hk hp)), h.st.top⟩, ?_, ?_, ?_, ?_, t1, t2,
    (put_size _ _).trans h.sz, (put_defers _ _).trans h.df, h.go.trans (Goes.alloc F X.N0 w ob _ S hnone), h.gl.mono (Env.cut_of_le hle _)⟩
  · rcases add_iff.1 hL with rfl | hL
    · exact absurd (is_ne hk hIs) (by simp)
    · exact h.st.todo k hk hL
  · rw [ext_cut F _ hnp]
    exact h.ok.frame (fun i B d S' hμ => hold B (h.ok.bd i _ hμ)) (by simp)
  · rintro k ⟨k1, k2, k3⟩
    by_cases e : k = j
    · subst e
      refine ⟨w.heap.size, S, ob, Env.ext_at _ _ _, heap_alloc_at _ _, ?_, h.ok.n0, fun i x hi hx => ?_⟩
      · rw [ext_cut F _ (Nat.le_refl _)]; exact h3
      · rw [Env.ext_ne F _ hi] at hx
        have := h.bd i x hx; omega
    · have hLk : L k = true := (add_iff.1 k2).resolve_left e
      obtain ⟨B, S', ob', g1, g2, g3, g4, g5⟩ := h.ex k ⟨k1, hLk, k3⟩
      have hne := hf.allocNe k1 hIs e
      have hBs : B < w.heap.size := (Array.getElem?_eq_some_iff.1 g2).1
      refine ⟨B, S', ob', by rw [Env.ext_ne F _ hne]; exact g1, (hold B hBs).trans g2, g3.mono (Env.cut_of_le hle _), g4, fun i x hi hx => ?_⟩
      by_cases e2 : i = (X.Hs j).nxt
      · subst e2
        rw [Env.ext_at] at hx; cases hx
        show w.heap.size ≠ B
        omega
      · rw [Env.ext_ne F _ e2] at hx
        exact g5 i x hi hx
  · intro i x hx
    by_cases e : i = (X.Hs j).nxt
    · exact .inr ⟨j, ⟨hIs, by simp, hpj⟩, e⟩
    · rw [Env.ext_ne F _ e] at hx
      rcases h.on i x hx with h4 | ⟨k, ⟨h4, h5, h6⟩, h7⟩
      · exact .inl h4
      · exact .inr ⟨k, ⟨h4, add_iff.2 (.inr h5), h6⟩, h7⟩
  · intro i x hx
    have hs : (w.alloc ob).heap.size = w.heap.size + 1 := by simp
    rw [hs]
    by_cases e : i = (X.Hs j).nxt
    · subst e; rw [Env.ext_at] at hx; cases hx; exact Nat.lt_succ_self _
    · rw [Env.ext_ne F _ e] at hx; exact Nat.lt_succ_of_lt (h.bd i x hx)
end Ctx
end Go.AS
