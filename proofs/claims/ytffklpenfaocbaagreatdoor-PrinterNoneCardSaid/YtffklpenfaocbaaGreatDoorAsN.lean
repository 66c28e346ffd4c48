/-
  Stores, maps, appends.
-/
import Derived.Test.YtffklpenfaocbaaGreatDoorAsM
import Derived.ChangeMaps4
set_option linter.unusedVariables false
set_option linter.unusedSimpArgs false
namespace Go.AS
open Go.RowKit Go.ChangeMaps

/-- Cells that no known block covers may change. -/
theorem HR.far {E : Env} {M : Nat → Option Ob} {C : Nat → Option Cls} {N0 : Nat} {w : World} (h : HR E M C N0 w) (B st : Nat) (Xs : List Value) {Cs : Array Value} {el : TypeId} {fz : Nat × Nat}
    (hB : w.heap[B]? = some (.cells Cs el fz)) (hfit : st + Xs.length ≤ Cs.size) (hfar : ∀ i k d S, M i = some (.cells k) → E.μ i = some (B, d, S) → k.cells ≠ [] → d + k.cells.length ≤ st) : HR E M C N0 (w.setCells B st Xs) where
  sep := h.sep
  obj := by
    intro i ob hi
    obtain ⟨Bi, di, Si, hμ, hr⟩ := h.obj i ob hi
    refine ⟨Bi, di, Si, hμ, ?_⟩
    obtain ⟨Cs', g1, g2, g3⟩ := heap_setCells_at B el fz Xs st w Cs hB hfit
    by_cases e : Bi = B
    · subst e
      cases ob with
      | mp es => obtain ⟨h0, es', clk, k1, k2⟩ := hr; rw [hB] at k1; cases k1
      | cells k =>
        obtain ⟨⟨Ci, fi, i1, i2, i3, i4⟩, i5, i6, i7⟩ := hr
        rw [hB] at i1
        simp only [Option.some.injEq, Obj.cells.injEq] at i1
        obtain ⟨rfl, iel, rfl⟩ := i1
        refine ⟨⟨Cs', fz, by rw [← iel]; exact g1, g2.trans i2, fun j x hx => ?_, i4⟩, i5, i6, i7⟩
        have hjl := (List.getElem?_eq_some_iff.1 hx).1
        have hne : k.cells ≠ [] := fun e => by rw [e] at hjl; simp at hjl
        have := hfar i k di Si hi hμ hne
        rw [g3 (di + j), if_neg (by omega)]
        exact i3 j x hx
    · have e' := heap_setCells_far B Xs st w Bi e
      cases ob with
      | mp es => obtain ⟨h0, es', clk, k1, k2⟩ := hr; exact ⟨h0, es', clk, e'.trans k1, k2⟩
      | cells k =>
        obtain ⟨⟨Ci, fi, i1, i2, i3, i4⟩, i5, i6, i7⟩ := hr
        exact ⟨⟨Ci, fi, e'.trans i1, i2, i3, i4⟩, i5, i6, i7⟩

/-- A block gets a second number, in its class. -/
noncomputable def forked (H : HP) (cl : Nat) (c : Cls) (obs : Tr Ob) (base : Nat) (cells : List AV) (e : TypeId) : HP :=
  { obs := obs.put H.nxt (.cells ⟨cl, base, cells, e, none, false⟩), nxt := Nat.succ H.nxt, cls := H.cls.put cl ⟨H.nxt :: c.mem, c.hi⟩ }

theorem OK.fork {E : Env} {H : HP} {N0 : Nat} {w w2 : World} (h : OK E H N0 w) {obs : Tr Ob} (hobs : ∀ i ob', obs.get i = some ob' → ∃ ob, H.obs.get i = some ob ∧ ObLe ob' ob)
    (h1 : HR E obs.get H.cls.get N0 w2) (hsz : w.heap.size ≤ w2.heap.size) {cl : Nat} (hcl : cl < H.nxt) {c : Cls} (hc : H.cls.get cl = some c) {B d : Nat} {Cs : Array Value} {e : TypeId} {fz : Nat × Nat} (hB : w2.heap[B]? = some (.cells Cs e fz)) (hN : N0 ≤ B)
    (base : Nat) (cells : List AV) (hv : ∀ (j : Nat) (x : AV), cells[j]? = some x → ∃ X, Cs[d + j]? = some X ∧ VR E x X) (hfz : ∀ r, True → r < fz.2 → r + base < c.hi + d)
    (hsep : ∀ i oi d' S', obs.get i = some oi → E.μ i = some (B, d', S') → ∃ ki, oi = .cells ki ∧ ki.cls = cl ∧ d + ki.base = d' + base) :
    OK (E.ext H.nxt (B, d, Cs.size)) (forked H cl c obs base cells e) N0 w2 := by
  have hnone := h.fr H.nxt (Nat.le_refl _)
  have hle := E.le_ext (B, d, Cs.size) hnone
  have hBs : B < w2.heap.size := (Array.getElem?_eq_some_iff.1 hB).1
  refine ⟨⟨?_, ?_⟩, ?_, ?_, Nat.le_trans h.n0 hsz, ?_⟩
  · intro i ob hi
    have hi' : (obs.put H.nxt (.cells ⟨cl, base, cells, e, none, false⟩)).get i = some ob := hi
    rw [Tr.get_put] at hi'
    by_cases ei : i = H.nxt
    · subst ei
      rw [if_pos rfl] at hi'
      cases hi'
      refine ⟨B, d, _, Env.ext_at _ _ _, ⟨⟨Cs, fz, hB, rfl, fun j x hj => ?_, fun _ c' hc' => ?_⟩, fun n hn => (by cases hn), fun _ => hN, fun e => by cases e⟩⟩
      · obtain ⟨X, hX, hvv⟩ := hv j x hj
        exact ⟨X, hX, hvv.mono hle⟩
      · have hc'' : (H.cls.put cl ⟨H.nxt :: c.mem, c.hi⟩).get cl = some c' := hc'
        rw [Tr.get_put, if_pos rfl] at hc''
        cases hc''
        exact ⟨by simp, hfz⟩
    · rw [if_neg ei] at hi'
      obtain ⟨B', d', S', hμ, hr⟩ := h1.obj i ob hi'
      refine ⟨B', d', S', by rw [Env.ext_ne E _ ei]; exact hμ, (hr.mono hle).into rfl fun k hk c' hc' => ?_⟩
      have hc'' : (H.cls.put cl ⟨H.nxt :: c.mem, c.hi⟩).get k.cls = some c' := hc'
      rw [Tr.get_put] at hc''
      split at hc''
      · rename_i ek
        cases hc''
        exact .inr ⟨c, by rw [ek]; exact hc, rfl, fun j hj => List.mem_cons_of_mem _ hj⟩
      · exact .inl hc''
  · intro i j oi oj B1 d1 S1 d2 S2 hij hi hj mi mj hB1
    have hi' : (obs.put H.nxt (.cells ⟨cl, base, cells, e, none, false⟩)).get i = some oi := hi
    have hj' : (obs.put H.nxt (.cells ⟨cl, base, cells, e, none, false⟩)).get j = some oj := hj
    rw [Tr.get_put] at hi' hj'
    by_cases ei : i = H.nxt
    · have ej : j ≠ H.nxt := fun e => hij (ei.trans e.symm)
      rw [if_neg ej] at hj'
      rw [Env.ext_ne E _ ej] at mj
      subst ei
      rw [Env.ext_at] at mi; cases mi
      rw [if_pos rfl] at hi'; cases hi'
      obtain ⟨kj, e1, e2, e3⟩ := hsep j oj d2 S2 hj' mj
      exact ⟨_, kj, rfl, e1, e2.symm, by omega⟩
    · rw [if_neg ei] at hi'
      rw [Env.ext_ne E _ ei] at mi
      by_cases ej : j = H.nxt
      · subst ej
        rw [Env.ext_at] at mj; cases mj
        rw [if_pos rfl] at hj'; cases hj'
        obtain ⟨ki, e1, e2, e3⟩ := hsep i oi d1 S1 hi' mi
        exact ⟨ki, _, e1, rfl, e2, by show d1 + base = d + ki.base; omega⟩
      · rw [if_neg ej] at hj'
        rw [Env.ext_ne E _ ej] at mj
        exact h1.sep i j oi oj B1 d1 S1 d2 S2 hij hi' hj' mi mj hB1
  · intro i hi
    have hi' : H.nxt + 1 ≤ i := hi
    rw [Env.ext_ne E _ (by omega)]
    exact h.fr i (by omega)
  · intro i k hi
    have hi' : (obs.put H.nxt (.cells ⟨cl, base, cells, e, none, false⟩)).get i = some (.cells k) := hi
    rw [Tr.get_put] at hi'
    show k.cls < H.nxt + 1
    split at hi'
    · cases hi'; exact Nat.lt_succ_of_lt hcl
    · obtain ⟨ob, a1, a2⟩ := hobs i _ hi'
      cases ob with
      | mp _ => exact a2.elim
      | cells k1 =>
        obtain ⟨e1, -⟩ := a2
        rw [e1]; exact Nat.lt_succ_of_lt (h.cl i k1 a1)
  · intro i x hx
    by_cases e : i = H.nxt
    · subst e; rw [Env.ext_at] at hx; cases hx; exact hBs
    · rw [Env.ext_ne E _ e] at hx; exact Nat.lt_of_lt_of_le (h.bd i x hx) hsz

/-- What comes of a write into a block of the range. -/
theorem Goes.cells {E : Env} {N0 : Nat} {w : World} {B : Nat} (hR : Rng E N0 B) (o : Nat) (Xs : List Value) : Goes E E N0 w (w.setCells B o Xs) := by
  obtain ⟨h1, h2, h3, h4⟩ := size_setCells' B Xs o w
  refine ⟨.refl E, h2, h3, h4, by rw [h1]; exact Nat.le_refl _, fun B' hB' hn => ?_, fun _ _ h => .inl h⟩
  exact heap_setCells_far B Xs o w B' (fun e => hn (e ▸ hR))

/-- The new number for a block of the range, or for a new one. -/
theorem Goes.ext {E : Env} {N0 : Nat} {w w' : World} (h : Goes E E N0 w w') {i : Nat} (hf : E.μ i = none) {x : Nat × Nat × Nat} (hx : Rng E N0 x.1 ∨ w.heap.size ≤ x.1) : Goes E (E.ext i x) N0 w w' where
  le := E.le_ext x hf
  os := h.os
  tape := h.tape
  output := h.output
  size := h.size
  old := h.old
  new := by
    intro j y hy
    by_cases e : j = i
    · subst e; rw [Env.ext_at] at hy; cases hy; rcases hx with h | h
      · exact .inr (.inr h)
      · exact .inr (.inl h)
    · rw [Env.ext_ne E _ e] at hy; exact .inl hy

/-- What an operation comes to: a value or none, a new environment. -/
def Does (P : Program) (E : Env) (a : Act) (o : Oper) (w : World) (v : AV) (H' : HP) (N0 : Nat) : Prop :=
  ∃ E' V w', ((execOp a.eval o).run P w = .ok (.value V) w' ∨ ((execOp a.eval o).run P w = .ok .skip w' ∧ V = undef)) ∧ OK E' H' N0 w' ∧ Goes E E' N0 w w' ∧ VR E' v V

theorem alls_flat {v : AV} (h : v.cells.all AV.one = true) : v.flat = true := by
  cases v <;> first | rfl | (simp [AV.cells, AV.one] at h; done) | (simpa [AV.cells, AV.one, AV.flat] using h)

theorem wr_ones {H H' : HP} {b o : Nat} {xs : List AV} (h : H.wr b o xs = some H') : xs.all AV.one = true := by
  unfold HP.wr at h
  simp only [bnd_eq, tst_eq, Bool.and_eq_true] at h
  obtain ⟨k, -, h1, -⟩ := h
  exact h1.2

section
variable {P : Program} {E : Env}

theorem store_sound {H H' : HP} {N0 : Nat} {w : World} (hok : OK E H N0 w) {t : TypeId} {v x r : AV} {V X : Value} (hv : VR E v V) (hx : VR E x X) (h : storeA P H t v x = some (r, H')) :
    ∃ w', (Instr.storeAt t X V).run P w = .ok () w' ∧ OK E H' N0 w' ∧ Goes E E N0 w w' ∧ r = AV.undef := by
  unfold storeA at h
  split at h
  · simp only [bnd_eq, tst_eq, Option.some.injEq, Prod.mk.injEq, Nat.beq_eq, lenX_eq] at h
    obtain ⟨n, hn, hl, H1, hw, rfl, rfl⟩ := h
    cases hx
    rename_i B d S hμ
    have hc := cells_sound hv (alls_flat (wr_ones hw))
    obtain ⟨h1, h2, h3⟩ := hok.wr hw hμ hc P
    refine ⟨_, ?_, h2, h3, rfl⟩
    have hcl := hc.length
    simp only [Array.length_toList] at hcl
    simp [Instr.storeAt, Instr.sureAddr, storeVar, szOf_run hn, show V.cells.size = n by omega, h1]
  · cases h

/-! ### maps -/
theorem EntsR.push : ∀ {as : List (AV × AV)} {es : List MapEntry} {k v : AV} {K V : Value} {b : Nat}, EntsR E as es → VR E k K → VR E v V → EntsR E (as ++ [(k, v)]) (es ++ [{ key := K, val := V, born := b }])
  | [], [], _, _, _, _, _, _, hk, hv => ⟨hk, hv, trivial⟩
  | _ :: _, _ :: _, _, _, _, _, _, ⟨h1, h2, h3⟩, hk, hv => ⟨h1, h2, EntsR.push h3 hk hv⟩

theorem mapUpdate_sound {H H' : HP} {N0 : Nat} {w : World} (hok : OK E H N0 w) {t : TypeId} {k v x r : AV} {K V X : Value} (hk : VR E k K) (hv : VR E v V) (hx : VR E x X) (h : mapUpdateA P H t k v x = some (r, H')) :
    ∃ w', (Instr.mapUpdate t X K V).run P w = .ok () w' ∧ OK E H' N0 w' ∧ Goes E E N0 w w' ∧ r = AV.undef := by
  unfold mapUpdateA at h
  split at h
  · rename_i m
    simp only [bnd_eq, tst_eq] at h
    obtain ⟨dd, hd, q, hq, hf, ob, hob, es, hes, f, hfd, hl⟩ := h
    have := mapD_eq hq; subst this
    cases hx
    rename_i B d S hμ
    obtain ⟨hB, es', clk, hw, hE⟩ := map_obj hok.hr (fun b ob _ h => h) hμ hob hes
    have hob' : H.obs.get m = some (.mp es) := by
      cases ob with
      | cells _ => cases hes
      | mp es0 => cases hes; exact hob
    cases hu : P.underlying q.1 with
    | none => unfold keyFine at hf; rw [hu] at hf; cases hf
    | some kd =>
    obtain ⟨R, hR, hFR⟩ := findKey_sound hu hk w hE hfd
    have hck := checkKey_run (P := P) (k := k) K false (kt := q.1) hf w
    have hg : (getObj B).run P w = .ok (.map es' clk) w := MapKept.run_getObj_map hw
    have hs := MapKept.run_setObj_map (P := P) (.map (es'.push { key := K, val := V, born := clk }) (clk + 1)) hw
    unfold mapPut at hl
    split at hl
    · cases R with
      | some _ => exact hFR.elim
      | none =>
        simp only [Option.some.injEq, Prod.mk.injEq] at hl
        obtain ⟨rfl, rfl⟩ := hl
        have hBlt : B < w.heap.size := (Array.getElem?_eq_some_iff.1 hw).1
        have hat : (setBlock w B (.map (es'.push { key := K, val := V, born := clk }) (clk + 1))).heap[B]? = some (.map (es'.push { key := K, val := V, born := clk }) (clk + 1)) := by
          simp [setBlock, hBlt]
        have hfar : ∀ j, j ≠ B → (setBlock w B (.map (es'.push { key := K, val := V, born := clk }) (clk + 1))).heap[j]? = w.heap[j]? := fun j hj => by
          simp [setBlock, Array.getElem?_setIfInBounds_ne (Ne.symm hj)]
        have hsize : (setBlock w B (.map (es'.push { key := K, val := V, born := clk }) (clk + 1))).heap.size = w.heap.size := by simp [setBlock]
        refine ⟨setBlock w B (.map (es'.push { key := K, val := V, born := clk }) (clk + 1)), ?_, ⟨⟨?_, ?_⟩, hok.fr, ?_, by rw [hsize]; exact hok.n0, by rw [hsize]; exact hok.bd⟩, ⟨.refl E, rfl, rfl, rfl, by rw [hsize]; exact Nat.le_refl _, fun B' hB' hn => hfar B' fun e => hn (e ▸ ⟨hB, _, _, _, hμ⟩), fun _ _ h => .inl h⟩, rfl⟩
        · simp [Instr.mapUpdate, run_underlying hd, hg, hck, hR, hs, setBlock]
        · intro i ob' hi
          rw [Tr.get_put] at hi
          split at hi
          · rename_i e
            subst e
            cases hi
            exact ⟨B, d, S, hμ, hB, _, _, hat, by rw [Array.toList_push]; exact hE.push hk hv⟩
          · rename_i hne
            obtain ⟨Bi, di, Si, hμi, hr⟩ := hok.hr.obj i ob' hi
            refine ⟨Bi, di, Si, hμi, ?_⟩
            have hBne : Bi ≠ B := fun e => by
              subst e
              obtain ⟨ki, kj, -, e2, -⟩ := hok.hr.sep i m _ _ Bi di Si d S hne hi hob' hμi hμ hB
              cases e2
            exact ObR.into hr (hfar Bi hBne) fun k' hk' c' hc' => .inl hc'
        · intro i j oi oj B1 d1 S1 d2 S2 hij hi hj mi mj hB1
          rw [Tr.get_put] at hi hj
          have key : ∀ i ob', (if i = m then some (Ob.mp (es ++ [(k, v)])) else H.obs.get i) = some ob' → ∃ ob0, H.obs.get i = some ob0 ∧ (∀ k', ob0 = .cells k' → ob' = .cells k') := by
            intro i' ob' hi'
            split at hi'
            · rename_i e; subst e; exact ⟨_, hob', fun k' e => by cases e⟩
            · exact ⟨ob', hi', fun _ e => e⟩
          obtain ⟨o1, a1, a2⟩ := key i oi hi
          obtain ⟨o2, b1, b2⟩ := key j oj hj
          obtain ⟨ki, kj, e1, e2, e3, e4⟩ := hok.hr.sep i j o1 o2 B1 d1 S1 d2 S2 hij a1 b1 mi mj hB1
          exact ⟨ki, kj, a2 ki e1, b2 kj e2, e3, e4⟩
        · intro i k' hi
          rw [Tr.get_put] at hi
          split at hi
          · cases hi
          · exact hok.cl i k' hi
    · cases hl
  · cases h
end
end Go.AS
