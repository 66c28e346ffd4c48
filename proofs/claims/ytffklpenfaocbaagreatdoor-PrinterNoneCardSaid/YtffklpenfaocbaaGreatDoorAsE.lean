/-
  The whole heap's invariant; allocation, reading, appending.
-/
import Derived.Test.YtffklpenfaocbaaGreatDoorAsD
set_option linter.unusedVariables false
set_option linter.unusedSimpArgs false
namespace Go.AS
open Go.RowKit

structure OK (E : Env) (H : HP) (N0 : Nat) (w : World) : Prop where
  hr : HR E H.obs.get H.cls.get N0 w
  fr : ∀ i, H.nxt ≤ i → E.μ i = none
  cl : ∀ i k, H.obs.get i = some (.cells k) → k.cls < H.nxt
  n0 : N0 ≤ w.heap.size
  bd : ∀ i x, E.μ i = some x → x.1 < w.heap.size

theorem OK.drew {E : Env} {H : HP} {N0 : Nat} {w : World} (h : OK E H N0 w) : OK E H N0 w.drew := ⟨h.hr.drew, h.fr, h.cl, h.n0, h.bd⟩

def Env.ext (E : Env) (i : Nat) (x : Nat × Nat × Nat) : Env := { μ := fun j => if j = i then some x else E.μ j, ρ := E.ρ }
theorem Env.ext_at (E : Env) (i : Nat) (x : Nat × Nat × Nat) : (E.ext i x).μ i = some x := by simp [Env.ext]
theorem Env.ext_ne (E : Env) {i j : Nat} (x : Nat × Nat × Nat) (h : j ≠ i) : (E.ext i x).μ j = E.μ j := by simp [Env.ext, h]
theorem Env.le_ext (E : Env) {i : Nat} (x : Nat × Nat × Nat) (h : E.μ i = none) : E.le (E.ext i x) := by
  refine ⟨rfl, fun j y hy => ?_⟩
  by_cases hj : j = i
  · subst hj; rw [h] at hy; cases hy
  · rw [Env.ext_ne E x hj]; exact hy

theorem ObR.mono {E E' : Env} (hE : E.le E') {C : Nat → Option Cls} {N0 i B d S : Nat} {w : World} : ∀ {ob : Ob}, ObR E C N0 i B d S w ob → ObR E' C N0 i B d S w ob
  | .mp es, ⟨h0, es', clk, h1, h2⟩ => ⟨h0, es', clk, h1, h2.mono hE⟩
  | .cells k, h => by
    obtain ⟨⟨Cs, fz, h1, h2, h3, h4⟩, h5, h6, h7⟩ := h
    exact ⟨⟨Cs, fz, h1, h2, fun j x hx => let ⟨X, hX, hv⟩ := h3 j x hx; ⟨X, hX, hv.mono hE⟩, h4⟩, h5, h6, h7⟩
/-- The same block in another world, under classes that say no more of it. -/
theorem ObR.into {E : Env} {C C' : Nat → Option Cls} {N0 i B d S : Nat} {w w' : World} : ∀ {ob : Ob}, ObR E C N0 i B d S w ob → w'.heap[B]? = w.heap[B]? →
    (∀ k, ob = .cells k → ∀ c, C' k.cls = some c → (C k.cls = some c ∨ ∃ c0, C k.cls = some c0 ∧ c0.hi = c.hi ∧ ∀ j ∈ c0.mem, j ∈ c.mem)) → ObR E C' N0 i B d S w' ob
  | .mp es, ⟨h0, es', clk, h1, h2⟩, hw, _ => ⟨h0, es', clk, hw.trans h1, h2⟩
  | .cells k, h, hw, hC => by
    obtain ⟨⟨Cs, fz, h1, h2, h3, h4⟩, h5, h6, h7⟩ := h
    refine ⟨⟨Cs, fz, hw.trans h1, h2, h3, fun hr c hc => ?_⟩, h5, h6, h7⟩
    rcases hC k rfl c hc with e | ⟨c0, e, ehi, hm⟩
    · exact h4 hr c e
    · obtain ⟨a1, a2⟩ := h4 hr c0 e
      exact ⟨hm _ a1, by rw [← ehi]; exact a2⟩

theorem heap_alloc_old (w : World) (o : Obj) {k : Nat} (h : k < w.heap.size) : (w.alloc o).heap[k]? = w.heap[k]? := Below.heap_alloc w o k h
theorem heap_alloc_at (w : World) (o : Obj) : (w.alloc o).heap[w.heap.size]? = some o := by
  show (w.heap.push o)[w.heap.size]? = _
  simp

/-- What comes of a new object under a new number. -/
theorem Goes.alloc (E : Env) (N0 : Nat) (w : World) (o : Obj) (i S : Nat) (hf : E.μ i = none) : Goes E (E.ext i (w.heap.size, 0, S)) N0 w (w.alloc o) where
  le := E.le_ext _ hf
  os := rfl
  tape := rfl
  output := rfl
  size := by simp
  old := fun B hB _ => heap_alloc_old w o hB
  new := fun j x hx => by
    by_cases hj : j = i
    · subst hj; rw [Env.ext_at] at hx; cases hx; exact .inr (.inl (Nat.le_refl _))
    · rw [Env.ext_ne E _ hj] at hx; exact .inl hx

theorem OK.bd_ext {E : Env} {H : HP} {N0 : Nat} {w : World} (h : OK E H N0 w) (o : Obj) (k S : Nat) : ∀ i x, (E.ext k (w.heap.size, 0, S)).μ i = some x → x.1 < (w.alloc o).heap.size := by
  intro i x hx
  have : (w.alloc o).heap.size = w.heap.size + 1 := by simp
  rw [this]
  by_cases e : i = k
  · subst e; rw [Env.ext_at] at hx; cases hx; exact Nat.lt_succ_self _
  · rw [Env.ext_ne E _ e] at hx; exact Nat.lt_succ_of_lt (h.bd i x hx)

theorem OK.alloc {E : Env} {H : HP} {N0 : Nat} {w : World} (h : OK E H N0 w) (cells : List AV) (Cs : Array Value) (el : TypeId) (xsz : Option Nat)
    (hv : ∀ (j : Nat) (x : AV), cells[j]? = some x → ∃ X, Cs[j]? = some X ∧ VR E x X) (hx : ∀ n, xsz = some n → Cs.size = n) :
    OK (E.ext H.nxt (w.heap.size, 0, Cs.size)) (H.alloc cells el xsz) N0 (w.alloc (.cells Cs el)) := by
  have hnone := h.fr H.nxt (Nat.le_refl _)
  have hle := E.le_ext (w.heap.size, 0, Cs.size) hnone
  refine ⟨⟨?_, ?_⟩, ?_, ?_, by simp; have := h.n0; omega, h.bd_ext _ _ _⟩
  · intro i ob hi
    have hi' : (H.obs.put H.nxt (.cells ⟨H.nxt, 0, cells, el, xsz, false⟩)).get i = some ob := hi
    rw [Tr.get_put] at hi'
    by_cases e : i = H.nxt
    · subst e
      rw [if_pos rfl] at hi'
      cases hi'
      refine ⟨w.heap.size, 0, Cs.size, Env.ext_at _ _ _, ⟨⟨Cs, (0, 0), heap_alloc_at _ _, rfl, fun j x hj => ?_, fun _ c hc => ?_⟩, fun n hn => ⟨hx n hn, rfl⟩, fun _ => h.n0, fun e => by cases e⟩⟩
      · obtain ⟨X, hX, hvv⟩ := hv j x hj
        exact ⟨X, by simpa using hX, hvv.mono hle⟩
      · have hc' : (H.cls.put H.nxt ⟨[H.nxt], 0⟩).get H.nxt = some c := hc
        rw [Tr.get_put, if_pos rfl] at hc'
        cases hc'
        exact ⟨by simp, fun r h1 h2 => absurd h2 (by omega)⟩
    · rw [if_neg e] at hi'
      obtain ⟨B, d, S, hμ, hr⟩ := h.hr.obj i ob hi'
      refine ⟨B, d, S, by rw [Env.ext_ne E _ e]; exact hμ, (hr.mono hle).into (heap_alloc_old w _ (h.hr.lt hi' hμ)) fun k hk c hc => ?_⟩
      subst hk
      have hc' : (H.cls.put H.nxt ⟨[H.nxt], 0⟩).get k.cls = some c := hc
      rw [Tr.get_put, if_neg (by have := h.cl i k hi'; omega)] at hc'
      exact .inl hc'
  · intro i j oi oj B d S d' S' hij hi hj mi mj hB
    have hi' : (H.obs.put H.nxt (.cells ⟨H.nxt, 0, cells, el, xsz, false⟩)).get i = some oi := hi
    have hj' : (H.obs.put H.nxt (.cells ⟨H.nxt, 0, cells, el, xsz, false⟩)).get j = some oj := hj
    rw [Tr.get_put] at hi' hj'
    by_cases ei : i = H.nxt
    · have ej : j ≠ H.nxt := fun e => hij (ei.trans e.symm)
      rw [if_neg ej] at hj'
      rw [Env.ext_ne E _ ej] at mj
      subst ei
      rw [Env.ext_at] at mi; cases mi
      exact absurd (h.hr.lt hj' mj) (by omega)
    · rw [if_neg ei] at hi'
      rw [Env.ext_ne E _ ei] at mi
      by_cases ej : j = H.nxt
      · subst ej
        rw [Env.ext_at] at mj; cases mj
        exact absurd (h.hr.lt hi' mi) (by omega)
      · rw [if_neg ej] at hj'
        rw [Env.ext_ne E _ ej] at mj
        exact h.hr.sep i j oi oj B d S d' S' hij hi' hj' mi mj hB
  · intro i hi
    have hi' : H.nxt + 1 ≤ i := hi
    rw [Env.ext_ne E _ (by omega)]
    exact h.fr i (by omega)
  · intro i k hi
    have hi' : (H.obs.put H.nxt (.cells ⟨H.nxt, 0, cells, el, xsz, false⟩)).get i = some (.cells k) := hi
    rw [Tr.get_put] at hi'
    show k.cls < H.nxt + 1
    split at hi'
    · cases hi'; exact Nat.lt_succ_self _
    · exact Nat.lt_succ_of_lt (h.cl i k hi')

theorem OK.wr {E : Env} {N0 : Nat} {w : World} {H H' : HP} (h : OK E H N0 w) {b o : Nat} {xs : List AV} (hw : H.wr b o xs = some H') {B d S : Nat} (hμ : E.μ b = some (B, d, S))
    {Xs : List Value} (hxs : VRs E xs Xs) (P : Program) :
    (storeCells ⟨B, d + o, none⟩ Xs).run P w = .ok () (w.setCells B (d + o) Xs) ∧ OK E H' N0 (w.setCells B (d + o) Xs) ∧ Goes E E N0 w (w.setCells B (d + o) Xs) := by
  obtain ⟨h1, h2, h3, h4⟩ := h.hr.wr hw hμ hxs P
  refine ⟨h1 w rfl, ⟨h2, by rw [h3]; exact h.fr, ?_, by rw [(size_setCells' B Xs (d + o) w).1]; exact h.n0, by rw [(size_setCells' B Xs (d + o) w).1]; exact h.bd⟩, h4⟩
  intro i k hi
  rw [h3]
  unfold HP.wr HP.blk at hw
  simp only [bnd_eq, tst_eq] at hw
  obtain ⟨k0, ⟨ob, hob, hk⟩, -, c, hc, -, cs, -, h4⟩ := hw
  simp only [Option.some.injEq] at h4
  subst h4
  have hi' : ((cut (Nat.add k0.base o) (some b) c.mem H.obs).put b (.cells { k0 with cells := cs })).get i = some (.cells k) := hi
  rw [Tr.get_put] at hi'
  split at hi'
  · cases hi'
    cases ob with
    | mp _ => cases hk
    | cells k' => cases hk; exact h.cl b k0 hob
  · obtain ⟨ob0, a1, a2, -⟩ := cut_get _ _ _ _ i _ hi'
    cases ob0 with
    | mp _ => exact a2.elim
    | cells k1 =>
      obtain ⟨e, -⟩ := a2
      rw [e]; exact h.cl i k1 a1

/-- What a read of cells yields. -/
theorem HR.rd {E : Env} {M : Nat → Option Ob} {C : Nat → Option Cls} {N0 : Nat} {w : World} (h : HR E M C N0 w) {H : HP} {b o n : Nat} {xs : List AV} (hrd : H.rd b o n = some xs)
    (hM : ∀ ob, H.obs.get b = some ob → M b = some ob) {B d S : Nat} (hμ : E.μ b = some (B, d, S)) :
    ∃ Xs, VRs E xs Xs ∧ Xs.length = n ∧ ∀ (j : Nat) (X : Value), Xs[j]? = some X → w.cell? ⟨B, d + o + j, none⟩ = some X := by
  unfold HP.rd HP.blk at hrd
  simp only [bnd_eq, takeX_eq, dropX_eq] at hrd
  obtain ⟨k, ⟨ob, hob, hk⟩, hl, rfl⟩ := hrd
  cases ob with
  | mp _ => cases hk
  | cells k' =>
    cases hk
    obtain ⟨B', d', S', hμ', hr⟩ := h.obj b _ (hM _ hob)
    rw [hμ] at hμ'; cases hμ'
    obtain ⟨⟨Cs, fz, h1, h2, h3, h4⟩, -⟩ := hr
    simp only [List.length_drop] at hl
    have hsome : ∀ j : Nat, j < n → ∃ X, Cs[d + (o + j)]? = some X ∧ VR E (k.cells[o + j]?.getD .undef) X := by
      intro j hj
      have hlt : o + j < k.cells.length := by omega
      obtain ⟨X, hX, hv⟩ := h3 (o + j) k.cells[o + j] (List.getElem?_eq_getElem hlt)
      exact ⟨X, hX, by rw [List.getElem?_eq_getElem hlt]; exact hv⟩
    refine ⟨(List.range n).map fun j => (Cs[d + (o + j)]?).getD undef, ?_, by simp, ?_⟩
    · refine VRs.of_get (by simp; omega) fun i x X hx hX => ?_
      rw [List.getElem?_take] at hx
      split at hx
      · rename_i hi
        obtain ⟨Y, hY, hv⟩ := hsome i hi
        rw [List.getElem?_drop] at hx
        rw [hx] at hv
        simp only [List.getElem?_map, List.getElem?_range hi, Option.map_some, hY, Option.getD_some, Option.some.injEq] at hX
        subst hX
        exact hv
      · cases hx
    · intro j X hX
      have hj : j < n := by have := (List.getElem?_eq_some_iff.1 hX).1; simpa using this
      obtain ⟨Y, hY, -⟩ := hsome j hj
      simp only [List.getElem?_map, List.getElem?_range hj, Option.map_some, hY, Option.getD_some, Option.some.injEq] at hX
      subst hX
      simp only [World.cell?, h1]
      rw [show d + o + j = d + (o + j) by omega, hY]
      rfl

/-- Where a slice's first cell really lies, if it has cells. -/
theorem OK.lt {E : Env} {H : HP} {N0 : Nat} {w : World} (h : OK E H N0 w) {i : Nat} {x : Nat × Nat × Nat} (hμ : E.μ i = some x) : i < H.nxt := by
  rcases Nat.lt_or_ge i H.nxt with h' | h'
  · exact h'
  · rw [h.fr i h'] at hμ; cases hμ
end Go.AS
