/-
  The steps of a drawn region: an effect.
-/
import Derived.Test.YtffklpenfaocbaaGreatDoorAsZ
set_option linter.unusedVariables false
set_option linter.unusedSimpArgs false
namespace Go.AS
open Go.RowKit

/-- One environment below a number, another from there on. -/
def Env.join (E' F : Env) (n : Nat) : Env := { μ := fun i => if i < n then E'.μ i else F.μ i, ρ := F.ρ }
theorem Env.join_lt (E' F : Env) {n i : Nat} (h : i < n) : (Env.join E' F n).μ i = E'.μ i := by
  show (if i < n then E'.μ i else F.μ i) = _
  rw [if_pos h]
theorem Env.join_ge (E' F : Env) {n i : Nat} (h : n ≤ i) : (Env.join E' F n).μ i = F.μ i := by
  show (if i < n then E'.μ i else F.μ i) = _
  rw [if_neg (by omega)]
theorem Env.join_cut {E' F : Env} {n : Nat} (hr : E'.ρ = F.ρ) (hf : ∀ i, n ≤ i → E'.μ i = none) : (Env.join E' F n).cut n = E' := by
  obtain ⟨m, q⟩ := E'
  simp only at hr hf
  subst hr
  unfold Env.cut Env.join
  congr 1
  funext i
  show (if i < n then (if i < n then m i else F.μ i) else none) = m i
  by_cases h : i < n
  · rw [if_pos h, if_pos h]
  · rw [if_neg h, hf i (by omega)]

namespace Ctx
variable {X : Ctx}

/-- What is done ahead of an effect. -/
theorem DI.ahead (hf : X.Fits) {L : Nat → Bool} {p : Nat} {F : Env} {a : Act} {w : World} (h : X.DI L p F a w) {s : Nat} {o : Oper} {r : Rc} (ho : X.ops[s]? = some o) (hr : X.rs[s]? = some r) (hj : L s = false)
    (hpre : ∀ e ∈ o.after, Region.binds .any e = true → L e.on = true) (hw : r.w = true) (hk : kindOf o.op = .eff) :
    p ≤ s ∧ (∀ k, X.Is .alloc k → k < s → L k = true) ∧ ((∀ k, X.Is .eff k → k < s → k < p) → OK (F.cut (X.Hs s).nxt) (X.Hs s) X.N0 w) := by
  have hslt : s < X.ops.size := (Array.getElem?_eq_some_iff.1 ho).1
  have hIs : X.Is .eff s := ⟨o, r, ho, hr, hw, hk⟩
  have hps : p ≤ s := by
    rcases Nat.lt_or_ge s p with hlt | hge
    · have := h.st.done s hIs hlt; rw [hj] at this; cases this
    · exact hge
  have hal : ∀ k, X.Is .alloc k → k < s → L k = true := by
    rintro k ⟨ok, rk, h1, h2, h3, h4⟩ hlt
    rcases (hf.apart h.cl h1 ho hlt).2 with h5 | ⟨-, -, h5⟩
    · exact h5 hpre
    · rw [h4, hk] at h5; cases h5
  exact ⟨hps, hal, fun hfirst => h.assemble hf s hps (Nat.le_of_lt hslt) (fun k hk1 _ h2 => hal k hk1 h2) (fun k hk1 h1 h2 => by have := hfirst k hk1 h2; omega)⟩

/-- An effect is done: from what it does to the heap that is known ahead of it. -/
theorem DI.effCore (hf : X.Fits) {L : Nat → Bool} {p : Nat} {F : Env} {a : Act} {w : World} (h : X.DI L p F a w) {s : Nat} {o : Oper} {r : Rc} (ho : X.ops[s]? = some o) (hr : X.rs[s]? = some r) (hj : L s = false)
    (hpre : ∀ e ∈ o.after, Region.binds .any e = true → L e.on = true) (hw : r.w = true) (hk : kindOf o.op = .eff) (hfirst : ∀ k, X.Is .eff k → k < s → k < p)
    {E' : Env} {V : Value} {w' : World} (hk' : OK E' (X.Hs (s + 1)) X.N0 w') (hg : Goes (F.cut (X.Hs s).nxt) E' X.N0 w w') (hv : VR E' r.v V) :
    ∃ F', F.le F' ∧ X.DI (fun k => k == s || L k) (s + 1) F' (a.put o.dst V) w' := by
  have hslt : s < X.ops.size := (Array.getElem?_eq_some_iff.1 ho).1
  have hIs : X.Is .eff s := ⟨o, r, ho, hr, hw, hk⟩
  obtain ⟨hps, hal, -⟩ := h.ahead hf ho hr hj hpre hw hk
  have hmono := hf.mono s hslt
  have hcut : (Env.join E' F (X.Hs (s + 1)).nxt).cut (X.Hs (s + 1)).nxt = E' := Env.join_cut (hg.le.1.trans rfl) hk'.fr
  have hxk : ∀ k, X.Extra L p k → (X.Hs s).nxt ≤ (X.Hs k).nxt → s < k ∧ (X.Hs (s + 1)).nxt ≤ (X.Hs k).nxt := by
    rintro k ⟨h1, h2, h3⟩ hge
    have hkl := is_lt h1
    rcases Nat.lt_trichotomy k s with hlt | heq | hgt
    · have h4 := hf.allocNxt h1
      have h5 := hf.nxt (i := k + 1) (j := s) (by omega) (by omega)
      omega
    · subst heq; exact absurd (is_ne h1 hIs) (by simp)
    · exact ⟨hgt, hf.nxt (by omega) (by omega)⟩
  have hnps := hf.nxt hps (Nat.le_of_lt hslt)
  have hle : F.le (Env.join E' F (X.Hs (s + 1)).nxt) := by
    refine ⟨rfl, fun i x hx => ?_⟩
    rcases Nat.lt_or_ge i (X.Hs s).nxt with hlt | hge
    · rw [Env.join_lt _ _ (by omega)]
      exact hg.le.2 i x (by rw [Env.cut_lt F hlt]; exact hx)
    · rcases h.on i x hx with h1 | ⟨k, h1, rfl⟩
      · omega
      · rw [Env.join_ge _ _ (hxk k h1 hge).2]; exact hx
  have hrng : ∀ B, Rng (F.cut (X.Hs s).nxt) X.N0 B → Rng F X.N0 B := fun B ⟨h0, i, d, S, hi⟩ => ⟨h0, i, d, S, (Env.cut_some hi).2⟩
  have hgo : Goes F (Env.join E' F (X.Hs (s + 1)).nxt) X.N0 w w' := by
    refine ⟨hle, hg.os, hg.tape, hg.output, hg.size, fun B hB hR => hg.old B hB fun hR' => hR (hrng B hR'), fun i x hx => ?_⟩
    rcases Nat.lt_or_ge i (X.Hs (s + 1)).nxt with hlt | hge
    · rw [Env.join_lt _ _ hlt] at hx
      rcases hg.new i x hx with h1 | h1 | h1
      · exact .inl (Env.cut_some h1).2
      · exact .inr (.inl h1)
      · exact .inr (.inr (hrng _ h1))
    · rw [Env.join_ge _ _ hge] at hx; exact .inl hx
  obtain ⟨t1, t2⟩ := h.put hf hle ho hr hj (V := V) (by rw [hcut]; exact hv)
  refine ⟨Env.join E' F (X.Hs (s + 1)).nxt, hle, closed_add h.cl ho hpre, ⟨hslt, fun k hk1 hp => ?_, fun k hk1 hL => ?_, fun k hk1 hp => ?_, .inr ⟨s, rfl, hIs⟩⟩, by rw [hcut]; exact hk', ?_, fun i x hx => ?_, fun i x hx => ?_, t1, t2,
    (put_size _ _).trans h.sz, (put_defers _ _).trans h.df, h.go.trans hgo, h.gl.mono (Env.cut_of_le hle _)⟩
  · rcases Nat.lt_or_ge k s with hlt | hge
    · exact add_iff.2 (.inr (h.st.done k hk1 (hfirst k hk1 hlt)))
    · exact add_iff.2 (.inl (by omega))
  · rcases add_iff.1 hL with rfl | hL
    · exact Nat.lt_succ_self _
    · have := h.st.todo k hk1 hL; omega
  · rcases Nat.lt_or_ge k s with hlt | hge
    · exact add_iff.2 (.inr (hal k hk1 hlt))
    · have : k = s := by omega
      subst this; exact absurd (is_ne hk1 hIs) (by simp)
  · rintro k ⟨k1, k2, k3⟩
    have hLk : L k = true := (add_iff.1 k2).resolve_left (by omega)
    have hkl := is_lt k1
    obtain ⟨B, S, ob, g1, g2, g3, g4, g5⟩ := h.ex k ⟨k1, hLk, by omega⟩
    have hnk := hf.nxt (i := s + 1) (j := k) k3 (by omega)
    have hBs : B < w.heap.size := (Array.getElem?_eq_some_iff.1 g2).1
    have hnr : ¬ Rng (F.cut (X.Hs s).nxt) X.N0 B := by
      rintro ⟨-, i, d, S', hi⟩
      obtain ⟨h1, h2⟩ := Env.cut_some hi
      exact g5 i _ (by omega) h2 rfl
    refine ⟨B, S, ob, by rw [Env.join_ge _ _ hnk]; exact g1, (hg.old B hBs hnr).trans g2, g3.mono (Env.cut_of_le hle _), g4, fun i x hi hx => ?_⟩
    rcases Nat.lt_or_ge i (X.Hs (s + 1)).nxt with hlt | hge
    · rw [Env.join_lt _ _ hlt] at hx
      rcases hg.new i x hx with h1 | h1 | ⟨h0, i', d, S', h1⟩
      · exact g5 i x hi (Env.cut_some h1).2
      · omega
      · obtain ⟨h2, h3⟩ := Env.cut_some h1
        have := g5 i' (x.1, d, S') (by omega) h3
        exact this
    · rw [Env.join_ge _ _ hge] at hx
      exact g5 i x hi hx
  · rcases Nat.lt_or_ge i (X.Hs (s + 1)).nxt with hlt | hge
    · exact .inl hlt
    · rw [Env.join_ge _ _ hge] at hx
      rcases h.on i x hx with h1 | ⟨k, h1, rfl⟩
      · omega
      · obtain ⟨h2, h3⟩ := hxk k h1 (by omega)
        exact .inr ⟨k, ⟨h1.1, add_iff.2 (.inr h1.2.1), h2⟩, rfl⟩
  · rcases Nat.lt_or_ge i (X.Hs (s + 1)).nxt with hlt | hge
    · rw [Env.join_lt _ _ hlt] at hx; exact hk'.bd i x hx
    · rw [Env.join_ge _ _ hge] at hx; exact Nat.lt_of_lt_of_le (h.bd i x hx) hg.size

theorem DI.eff (hf : X.Fits) (hcall : CallOK X.c X.N0 X.call) {L : Nat → Bool} {p : Nat} {F : Env} {a : Act} {w : World} (h : X.DI L p F a w) {s : Nat} {o : Oper} {r : Rc} (ho : X.ops[s]? = some o) (hr : X.rs[s]? = some r) (hj : L s = false)
    (hpre : ∀ e ∈ o.after, Region.binds .any e = true → L e.on = true) (hw : r.w = true) (hk : kindOf o.op = .eff) (hfirst : ∀ k, X.Is .eff k → k < s → k < p) {Q : Exit → Act → World → Prop} {K : Act → World → Prop}
    (hK : ∀ F' a' w', X.DI (fun k => k == s || L k) (s + 1) F' a' w' → K a' w') : o.wp X.c.P a w K Q := by
  have hslt : s < X.ops.size := (Array.getElem?_eq_some_iff.1 ho).1
  obtain ⟨-, -, hok⟩ := h.ahead hf ho hr hj hpre hw hk
  have hkd := hf.kind ho hr hw
  rw [hk] at hkd
  simp only [byKind] at hkd
  refine opEff_sound (h.tr hf ho hr hj hpre) (h.glj hf (Nat.le_of_lt hslt)) (hok hfirst) hcall hkd K Q fun E' V w' hk' hg hv => ?_
  obtain ⟨F', -, h'⟩ := h.effCore hf ho hr hj hpre hw hk hfirst hk' hg hv
  exact hK F' _ _ h'
end Ctx
end Go.AS
