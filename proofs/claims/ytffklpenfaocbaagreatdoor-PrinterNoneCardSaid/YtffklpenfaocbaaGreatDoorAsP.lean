/-
  Copies; strings that share their bytes.
-/
import Derived.Test.YtffklpenfaocbaaGreatDoorAsO
import Derived.Lib.UnsafeStr
set_option linter.unusedVariables false
set_option linter.unusedSimpArgs false
namespace Go.AS
open Go.RowKit

section
variable {P : Program} {E : Env}

theorem firstPart {H : HP} {N0 : Nat} {w : World} (hok : OK E H N0 w) {sz : Nat} {tx : TypeId} {x : AV} {X : Value} (hx : VR E x X) {xs : List AV} {n : Nat} (h : srcOf P H sz tx x = some (xs, n)) (m : Nat) (hm : m ≤ n) :
    ∃ Xs, VRs E (xs.take (m * sz)) Xs ∧ (Builtin.firstCells sz m X).run P w = .ok Xs.toArray w ∧ Xs.length = m * sz := by
  obtain ⟨Xs, hX, hS⟩ := srcOf_sound hok hx h
  have hl := hS.newsLen
  have hle := Nat.mul_le_mul_right sz hm
  refine ⟨Xs.take (m * sz), hX.take _, ?_, by rw [List.length_take]; omega⟩
  unfold srcOf at h
  split at h
  · simp only [bnd_eq] at h
    obtain ⟨d, hd, h⟩ := h
    split at h
    · simp only [Option.some.injEq, Prod.mk.injEq] at h
      obtain ⟨rfl, rfl⟩ := h
      cases hx
      have : Xs = [] := List.eq_nil_of_length_eq_zero (by omega)
      subst this
      simpa using run_firstCells_none w sz m 0 0
    · cases h
  · simp only [bnd_eq] at h
    obtain ⟨d, hd, h⟩ := h
    split at h
    · simp only [bnd_eq, tst_eq, Option.some.injEq, Prod.mk.injEq, Nat.beq_eq] at h
      obtain ⟨rfl, l, hrd, h1, rfl, rfl⟩ := h
      cases hx
      rename_i B d S D c' hμ hD hc hS' hex
      obtain ⟨Ys, hY, hlen, hcell⟩ := hok.hr.rd hrd (fun ob hob => hob) hμ
      -- the cells read are the cells there
      have hfull := hS.cells
      refine run_firstCells_some w sz m _ _ c' _ (by rw [List.length_take]; omega) fun j v hj => ?_
      have hjl := (List.getElem?_eq_some_iff.1 hj).1
      rw [List.length_take] at hjl
      rw [List.getElem?_take_of_lt (by omega)] at hj
      have hrun := fun q => run_firstCells_some (P := P) w sz _ ⟨B, D, none⟩ q c' Ys hlen (fun j v hj => by
        rw [Addr.add_any]
        rcases hD with rfl | ⟨hn0, -⟩
        · exact hcell j v hj
        · subst hn0
          have hlt := (List.getElem?_eq_some_iff.1 hj).1
          rw [hlen] at hlt
          omega)
      have hrun := hfull.symm.trans (hrun _)
      simp only [Result.ok.injEq, and_true] at hrun
      have hXY : Xs = Ys := by simpa using hrun
      subst hXY
      rw [Addr.add_any]
      rcases hD with rfl | ⟨hn0, -⟩
      · exact hcell j v hj
      · subst hn0; omega
    · cases h
  · simp only [bnd_eq] at h
    obtain ⟨d, hd, h⟩ := h
    split at h
    · simp only [bnd_eq, tst_eq, Option.some.injEq, Prod.mk.injEq, Nat.beq_eq] at h
      obtain ⟨rfl, rfl, rfl⟩ := h
      cases hx
      rename_i b hb
      have hlen := str_size hb
      have hfull := hS.cells
      rw [← hlen, firstCells_string] at hfull
      simp only [Result.ok.injEq, and_true] at hfull
      have hXY : byteCells b = Xs := by simpa using hfull
      subst hXY
      simp only [Builtin.firstCells, Sem.run_pure]
      congr 1
      apply Array.ext'
      simp [byteCells, List.map_take]
    · cases h
  · cases h

theorem copy_sound {H H' : HP} {N0 : Nat} {w : World} (hok : OK E H N0 w) {t tx ty e : TypeId} {sz : Nat} {s x r : AV} {S X : Value} (hs : VR E s S) (hx : VR E x X) (hd : P.underlying t = some (.slice e)) (hsz : szOf P e = some sz) {xs : List AV} {n : Nat}
    (hsrc : srcOf P H sz tx x = some (xs, n)) (h : copyInto P H sz s xs n = some (r, H')) :
    ∃ V w', (Builtin.copy_ #[t, tx] ty #[S, X]).run P w = .ok V w' ∧ OK E H' N0 w' ∧ Goes E E N0 w w' ∧ VR E r V := by
  obtain ⟨Xs0, -, hSrc⟩ := srcOf_sound hok hx hsrc
  have hlenOf := hSrc.len
  unfold copyInto at h
  split at h
  · simp only [Option.some.injEq, Prod.mk.injEq] at h
    obtain ⟨rfl, rfl⟩ := h
    cases hs
    obtain ⟨Xs, hX, hf, hl⟩ := firstPart hok hx hsrc 0 (Nat.zero_le _)
    refine ⟨.int .i64 0, w, ?_, hok, .refl E N0 w, .int _ _⟩
    simp [Builtin.copy_, run_underlying hd, hlenOf, szOf_run hsz, hf, goInt]
  · rename_i b o len cp sz' ex
    simp only [bnd_eq, tst_eq, Nat.beq_eq, takeX_eq] at h
    obtain ⟨rfl, ys, ⟨hyl, rfl⟩, h⟩ := h
    have hmin : Nat.min n len ≤ n := Nat.min_le_left _ _
    obtain ⟨Xs, hX, hf, hl⟩ := firstPart hok hx hsrc (Nat.min n len) hmin
    cases hs
    rename_i B d S D c' hμ hD hc hSz hex
    rw [ite'_beq] at h
    split at h
    · rename_i h0
      simp only [Option.some.injEq, Prod.mk.injEq] at h
      obtain ⟨rfl, rfl⟩ := h
      have hX0 : Xs = [] := List.eq_nil_of_length_eq_zero (by rw [hl, h0]; simp)
      subst hX0
      refine ⟨.int .i64 0, w, ?_, hok, .refl E N0 w, .int _ _⟩
      rw [h0] at hf
      simp [Builtin.copy_, run_underlying hd, hlenOf, szOf_run hsz, hf, h0, goInt, storeCells]
    · rename_i h0
      simp only [bnd_eq, Option.some.injEq, Prod.mk.injEq] at h
      obtain ⟨H1, hw, rfl, rfl⟩ := h
      have hDd : D = d + o := by
        rcases hD with h | ⟨hn, -⟩
        · exact h
        · subst hn; exact absurd (Nat.le_zero.1 (Nat.min_le_right n 0)) h0
      subst hDd
      obtain ⟨h1, h2, h3⟩ := hok.wr hw hμ hX P
      refine ⟨.int .i64 (Nat.min n len : Nat), _, ?_, h2, h3, .int _ _⟩
      simp [Builtin.copy_, run_underlying hd, hlenOf, szOf_run hsz, hf, h1, goInt]
  · cases h

/-! ### frozen bytes -/
theorem liesAt_one {e u : TypeId} (hc : P.cellsOf e = 1) (hs : sameLayout P P.depth e u = true) (count off n : Nat) (hn : off + n ≤ count) : liesAt P P.depth e (count / P.cellsOf e) off u n = true := by
  have hd : P.depth = (2 * (P.types.size + Made.depth) + 1) + 1 := rfl
  rw [hd] at hs ⊢
  simp only [liesAt, Bool.or_eq_true]
  left
  rw [hd]
  simp [rowAt, hc, hn, hs, Nat.mod_one]

theorem freeze_at (w : World) (B o n : Nat) {Cs : Array Value} {e : TypeId} {fz : Nat × Nat} (h : w.heap[B]? = some (.cells Cs e fz)) (hn : 0 < n) :
    ∃ fz' : Nat × Nat, (w.freeze ⟨B, o, none⟩ n).heap[B]? = some (.cells Cs e fz') ∧ ∀ r, r < fz'.2 → r < o + n ∨ r < fz.2 := by
  obtain ⟨lo, hi⟩ := fz
  unfold World.freeze
  rw [if_neg (by omega)]
  simp only [Array.getElem?_modify, h, if_true, Option.map_some]
  by_cases e1 : lo = hi
  · subst e1
    exact ⟨(o, o + n), by simp, fun r h2 => .inl h2⟩
  · exact ⟨(min lo o, max hi (o + n)), by simp [e1], fun r h2 => by simp only at h2 ⊢; omega⟩
theorem freeze_far (w : World) (B o n k : Nat) (h : k ≠ B) : (w.freeze ⟨B, o, none⟩ n).heap[k]? = w.heap[k]? := by
  unfold World.freeze
  split
  · rfl
  · simp [Array.getElem?_modify, Ne.symm h]
theorem freeze_size (w : World) (a : Addr) (n : Nat) : (w.freeze a n).heap.size = w.heap.size ∧ (w.freeze a n).os = w.os ∧ (w.freeze a n).tape = w.tape ∧ (w.freeze a n).output = w.output := by
  unfold World.freeze
  split
  · exact ⟨rfl, rfl, rfl, rfl⟩
  · simp

theorem OK.frz {H : HP} {N0 : Nat} {w : World} (hok : OK E H N0 w) {b : Nat} {k : Blk} (hb : H.obs.get b = some (.cells k)) (hro : k.ro = false) {c : Cls} (hc : H.cls.get k.cls = some c) {B d S : Nat} (hμ : E.μ b = some (B, d, S)) (o n : Nat) (hn : 0 < n) :
    OK E { obs := H.obs, nxt := H.nxt, cls := H.cls.put k.cls ⟨c.mem, Nat.max c.hi (k.base + o + n)⟩ } N0 (w.freeze ⟨B, d + o, none⟩ n) ∧ Goes E E N0 w (w.freeze ⟨B, d + o, none⟩ n) := by
  obtain ⟨B', d', S', hμ', hr⟩ := hok.hr.obj b _ hb
  rw [hμ] at hμ'; cases hμ'
  obtain ⟨⟨Cs, fz, h1, h2, h3, h4⟩, h5, h6, h7⟩ := hr
  have hN := h6 hro
  obtain ⟨s1, s2, s3, s4⟩ := freeze_size w ⟨B, d + o, none⟩ n
  obtain ⟨fz', f1, f2⟩ := freeze_at w B (d + o) n h1 hn
  refine ⟨⟨⟨?_, hok.hr.sep⟩, hok.fr, hok.cl, by rw [s1]; exact hok.n0, by rw [s1]; exact hok.bd⟩, ⟨.refl E, s2, s3, s4, by rw [s1]; exact Nat.le_refl _, fun B' hB' hn' => freeze_far w B _ n B' fun e => hn' (e ▸ ⟨hN, b, d, S, hμ⟩), fun _ _ h => .inl h⟩⟩
  intro i ob hi
  obtain ⟨Bi, di, Si, hμi, hri⟩ := hok.hr.obj i ob hi
  refine ⟨Bi, di, Si, hμi, ?_⟩
  cases ob with
  | mp es =>
    obtain ⟨h0, es', clk, g1, g2⟩ := hri
    refine ⟨h0, es', clk, ?_, g2⟩
    by_cases e : Bi = B
    · subst e; rw [h1] at g1; cases g1
    · rw [freeze_far w B _ n Bi e]; exact g1
  | cells ki =>
    obtain ⟨⟨Ci, fi, i1, i2, i3, i4⟩, i5, i6, i7⟩ := hri
    have hmono : ∀ c', (H.cls.put k.cls ⟨c.mem, Nat.max c.hi (k.base + o + n)⟩).get ki.cls = some c' → ∃ c0, H.cls.get ki.cls = some c0 ∧ c0.mem = c'.mem ∧ c0.hi ≤ c'.hi ∧ (ki.cls = k.cls → k.base + o + n ≤ c'.hi) := by
      intro c' hc'
      rw [Tr.get_put] at hc'
      split at hc'
      · rename_i e
        cases hc'
        exact ⟨c, by rw [e]; exact hc, rfl, Nat.le_max_left _ _, fun _ => Nat.le_max_right _ _⟩
      · rename_i e
        exact ⟨c', hc', rfl, Nat.le_refl _, fun e' => absurd e' e⟩
    by_cases e : Bi = B
    · subst e
      have hsep : ki.cls = k.cls ∧ di + k.base = d + ki.base := by
        by_cases eb : i = b
        · subst eb
          rw [hb] at hi; cases hi
          rw [hμ] at hμi; cases hμi
          exact ⟨rfl, rfl⟩
        · obtain ⟨k1, k2, e1, e2, e3, e4⟩ := hok.hr.sep i b _ _ Bi di Si d S eb hi hb hμi hμ hN
          cases e1; cases e2
          exact ⟨e3, e4⟩
      rw [h1] at i1
      simp only [Option.some.injEq, Obj.cells.injEq] at i1
      obtain ⟨rfl, iel, rfl⟩ := i1
      refine ⟨⟨Cs, fz', by rw [← iel]; exact f1, i2, i3, fun hr2 c' hc' => ?_⟩, i5, i6, i7⟩
      obtain ⟨c0, a1, a2, a3, a4⟩ := hmono c' hc'
      obtain ⟨m1, m2⟩ := i4 hr2 c0 a1
      refine ⟨by rw [← a2]; exact m1, fun r _ hlt => ?_⟩
      have := a4 hsep.1
      rcases f2 r hlt with h | h
      · omega
      · have := m2 r trivial h
        omega
    · refine ⟨⟨Ci, fi, by rw [freeze_far w B _ n Bi e]; exact i1, i2, i3, fun hr2 c' hc' => ?_⟩, i5, i6, i7⟩
      obtain ⟨c0, a1, a2, a3, a4⟩ := hmono c' hc'
      obtain ⟨m1, m2⟩ := i4 hr2 c0 a1
      exact ⟨by rw [← a2]; exact m1, fun r _ hlt => by have := m2 r trivial hlt; omega⟩

theorem pointerD_eq {d : TypeDesc} {e : TypeId} (h : pointerD d = some e) : d = .pointer e := by
  cases d <;> simp only [pointerD, reduceCtorEq, Option.some.injEq] at h
  subst h; rfl

theorem VRs.two {x y : AV} {Vs : List Value} (h : VRs E [x, y] Vs) : ∃ X Y, Vs = [X, Y] ∧ VR E x X ∧ VR E y Y := by
  cases h with
  | cons _ X _ Xs hx hs =>
    obtain ⟨Y, rfl, hy⟩ := hs.one
    exact ⟨X, Y, rfl, hx, hy⟩

theorem head_of {ts : Array TypeId} {t : TypeId} {l : List TypeId} (h : ts.toList = t :: l) : ts[0]? = some t := by
  rw [← Array.getElem?_toList, h]; rfl

theorem arr_of {α : Type} {Vs : Array α} {l : List α} (h : Vs.toList = l) : Vs = l.toArray := by rw [← h]

theorem ustr_none (ts : Array TypeId) (ty : TypeId) (l : Value) : Builtin.unsafeString_ ts ty #[.pointer none, l] = (do
    let n ← asInt l
    let some pt := ts[0]? | stuck "unsafe.String: no argument types"
    if n < 0 then runtimePanic (.error "unsafe.String: len out of range")
    if n > IntKind.i64.max then unsupported (.unsafePointer "String: a length above the largest int")
    if n = 0 then pure (.string .empty)
    else runtimePanic (.error "unsafe.String: ptr is nil and len is not zero")) := rfl
theorem ustr_some (ts : Array TypeId) (ty : TypeId) (a : Addr) (l : Value) : Builtin.unsafeString_ ts ty #[.pointer (some a), l] = (do
    let n ← asInt l
    let some pt := ts[0]? | stuck "unsafe.String: no argument types"
    if n < 0 then runtimePanic (.error "unsafe.String: len out of range")
    if n > IntKind.i64.max then unsupported (.unsafePointer "String: a length above the largest int")
    if n = 0 then pure (.string .empty)
    else if ← variablesAt a (← elemOf pt) n.toNat then do
      let s ← loadBytes a .empty n.toNat
      freeze a n.toNat
      pure (.string s)
    else unsupported (.unsafePointer "String: not so many bytes at ptr")) := rfl

theorem unsafeStr_sound {H H' : HP} {N0 : Nat} {w : World} (hok : OK E H N0 w) {ts : Array TypeId} {ty : TypeId} {vs : List AV} {Vs : Array Value} {r : AV} (hv : VRs E vs Vs.toList) (h : unsafeStrA P H vs ts.toList = some (r, H')) :
    ∃ V w', (Builtin.unsafeString_ ts ty Vs).run P w = .ok V w' ∧ OK E H' N0 w' ∧ Goes E E N0 w w' ∧ VR E r V := by
  have hmax : IntKind.i64.max = 9223372036854775807 := rfl
  have hemp : VR E (.str []) (.string .empty) := .str _ _ rfl
  generalize htl : ts.toList = tl at h
  unfold unsafeStrA at h
  split at h
  · rename_i n t0 tr
    have ht := head_of htl
    simp only [tst_eq, Option.some.injEq, Prod.mk.injEq, Nat.beq_eq] at h
    obtain ⟨rfl, rfl, rfl⟩ := h
    obtain ⟨X, Y, hVs, hx, hy⟩ := hv.two
    have := arr_of hVs; subst this
    cases hx; cases hy
    exact ⟨_, w, by simp [ustr_none, ustr_some, asInt, asIntOf, ht, hmax], hok, .refl E N0 w, hemp⟩
  · rename_i b o n pt tr
    have ht := head_of htl
    obtain ⟨X, Y, hVs, hx, hy⟩ := hv.two
    have := arr_of hVs; subst this
    cases hy
    cases hx
    rename_i B d S hμ
    rw [ite'_beq] at h
    split at h
    · rename_i h0
      subst h0
      simp only [Option.some.injEq, Prod.mk.injEq] at h
      obtain ⟨rfl, rfl⟩ := h
      exact ⟨_, w, by simp [ustr_none, ustr_some, asInt, asIntOf, ht, hmax], hok, .refl E N0 w, hemp⟩
    · rename_i h0
      simp only [tst_eq, Nat.ble_eq, unsafeStrAt, bnd_eq, Bool.and_eq_true, Bool.not_eq_true', Nat.beq_eq, Option.some.injEq, Prod.mk.injEq] at h
      obtain ⟨hle, dd, hd, u, hu, k, hk, c, hc, ⟨⟨hro, hone⟩, hlay⟩, xs, hrd, s, hs, rfl, rfl⟩ := h
      have := pointerD_eq hu; subst this
      have hb : H.obs.get b = some (.cells k) := by
        unfold HP.blk at hk
        simp only [bnd_eq] at hk
        obtain ⟨ob, hob, hk⟩ := hk
        cases ob with
        | mp _ => cases hk
        | cells k' => cases hk; exact hob
      obtain ⟨Xs, hX, hlen, hcell⟩ := hok.hr.rd hrd (fun ob hob => hob) hμ
      obtain ⟨us, hu1, hu2⟩ := bytesOf_sound hX hs
      subst hu2
      have hul : us.length = n := by simpa using hlen
      obtain ⟨B', d', S', hμ', hr⟩ := hok.hr.obj b _ hb
      rw [hμ] at hμ'; cases hμ'
      obtain ⟨⟨Cs, fz, h1, h2, h3, h4⟩, h5, h6, h7⟩ := hr
      have hsh : w.shape? B = some (k.el, Cs.size) := by simp [World.shape?, h1]
      have hfit : d + o + n ≤ Cs.size := by
        have hlast : (us.map fun u => Value.int .u8 u.toNat)[n - 1]? = some (Value.int .u8 (us[n - 1]'(by omega)).toNat) := by
          rw [List.getElem?_map, List.getElem?_eq_getElem (by omega)]; rfl
        have := hcell (n - 1) _ hlast
        simp only [World.cell?, h1] at this
        have := (Array.getElem?_eq_some_iff.1 this).1
        omega
      have hlies := liesAt_one (P := P) hone hlay Cs.size (d + o) n hfit
      have hvar : (variablesAt ⟨B, d + o, none⟩ u n).run P w = .ok true w := by simp [variablesAt, hsh, hlies]
      have hload := Lib.run_loadBytes (P := P) w us ⟨B, d + o, none⟩ .empty (fun j x hj => by
        rw [Addr.add_any]
        exact hcell j _ (by rw [List.getElem?_map, hj]; rfl))
      rw [hul] at hload
      obtain ⟨k1, k2⟩ := hok.frz hb hro hc hμ o n (by omega)
      refine ⟨.string ⟨us.toArray⟩, _, ?_, k1, k2, .str _ _ (by simpa using hu1)⟩
      have hn1 : ¬ ((n : Int) < 0) := by omega
      have hn2 : ¬ ((9223372036854775807 : Int) < (n : Int)) := by omega
      have hn3 : ¬ ((n : Int) = 0) := by omega
      have hel : (elemOf pt).run P w = .ok u w := by simp [elemOf, run_underlying hd]
      simp [ustr_some, asInt, asIntOf, ht, hmax, hn2, h0, hel, hvar, hload]
      exact fun h => absurd h hn1
  · cases h
end
end Go.AS
