/-
  The heap's relation, and what allocation, stores and cuts do to it.
-/
import Derived.Test.YtffklpenfaocbaaGreatDoorAsC
import Derived.Deep.Upon
set_option linter.unusedVariables false
set_option linter.unusedSimpArgs false
namespace Go.AS
open Go.RowKit

/-! ### real cells -/
theorem heap_setCell_at (w : World) (B o : Nat) (v : Value) (Cs : Array Value) (e : TypeId) (fz : Nat × Nat) (h : w.heap[B]? = some (.cells Cs e fz)) :
    (w.setCell ⟨B, o, none⟩ v).heap[B]? = some (.cells (Cs.setIfInBounds o v) e fz) := by
  simp [World.setCell, Array.getElem?_modify, h]

theorem heap_setCells_at (B : Nat) (e : TypeId) (fz : Nat × Nat) : ∀ (vs : List Value) (o : Nat) (w : World) (Cs : Array Value), w.heap[B]? = some (.cells Cs e fz) → o + vs.length ≤ Cs.size →
    ∃ Cs', (w.setCells B o vs).heap[B]? = some (.cells Cs' e fz) ∧ Cs'.size = Cs.size ∧ ∀ r : Nat, Cs'[r]? = if o ≤ r ∧ r < o + vs.length then vs[r - o]? else Cs[r]?
  | [], o, w, Cs, h, hl => ⟨Cs, h, rfl, fun r => by rw [if_neg (by simp only [List.length_nil]; omega)]⟩
  | v :: vs, o, w, Cs, h, hl => by
    simp only [List.length_cons] at hl
    obtain ⟨Cs', h1, h2, h3⟩ := heap_setCells_at B e fz vs (o + 1) (w.setCell ⟨B, o, none⟩ v) (Cs.setIfInBounds o v) (heap_setCell_at w B o v Cs e fz h) (by simp; omega)
    refine ⟨Cs', h1, by simpa using h2, fun r => ?_⟩
    rw [h3 r]
    by_cases hr : r = o
    · subst hr
      rw [if_neg (by omega), if_pos (by simp)]
      simp [show r < Cs.size by omega]
    · by_cases hin : o + 1 ≤ r ∧ r < o + 1 + vs.length
      · rw [if_pos hin, if_pos (by simp; omega)]
        rw [show r - o = (r - (o + 1)) + 1 by omega]; simp
      · rw [if_neg hin, if_neg (by simp; omega), Array.getElem?_setIfInBounds_ne (by omega)]

theorem heap_setCells_far (B : Nat) : ∀ (vs : List Value) (o : Nat) (w : World) (k : Nat), k ≠ B → (w.setCells B o vs).heap[k]? = w.heap[k]?
  | [], _, _, _, _ => rfl
  | v :: vs, o, w, k, h => by
    rw [World.setCells, heap_setCells_far B vs (o + 1) _ k h]
    exact Below.heap_setCell w ⟨B, o, none⟩ v k h
theorem size_setCells' (B : Nat) : ∀ (vs : List Value) (o : Nat) (w : World), (w.setCells B o vs).heap.size = w.heap.size ∧ (w.setCells B o vs).os = w.os ∧ (w.setCells B o vs).tape = w.tape ∧ (w.setCells B o vs).output = w.output
  | [], _, _ => ⟨rfl, rfl, rfl, rfl⟩
  | v :: vs, o, w => by
    obtain ⟨h1, h2, h3, h4⟩ := size_setCells' B vs (o + 1) (w.setCell ⟨B, o, none⟩ v)
    exact ⟨h1.trans (by simp), h2.trans rfl, h3.trans rfl, h4.trans rfl⟩

/-! ### the relation of heaps -/
structure BlkR (E : Env) (C : Nat → Option Cls) (N0 i : Nat) (k : Blk) (B d S : Nat) (w : World) : Prop where
  ex : ∃ Cs fz, w.heap[B]? = some (.cells Cs k.el fz) ∧ Cs.size = S ∧ (∀ (j : Nat) (x : AV), k.cells[j]? = some x → ∃ X, Cs[d + j]? = some X ∧ VR E x X) ∧
    (k.ro = false → ∀ c, C k.cls = some c → i ∈ c.mem ∧ ∀ r : Nat, True → r < fz.2 → r + k.base < c.hi + d)
  xs : ∀ n, k.xsz = some n → S = n ∧ d = 0
  lo : k.ro = false → N0 ≤ B
  ro : k.ro = true → B < N0

def EntsR (E : Env) : List (AV × AV) → List MapEntry → Prop
  | [], [] => True
  | a :: as, e :: es => VR E a.1 e.key ∧ VR E a.2 e.val ∧ EntsR E as es
  | _, _ => False

def ObR (E : Env) (C : Nat → Option Cls) (N0 i : Nat) (B d S : Nat) (w : World) : Ob → Prop
  | .cells k => BlkR E C N0 i k B d S w
  | .mp es => N0 ≤ B ∧ ∃ es' clk, w.heap[B]? = some (.map es' clk) ∧ EntsR E es es'.toList

structure HR (E : Env) (M : Nat → Option Ob) (C : Nat → Option Cls) (N0 : Nat) (w : World) : Prop where
  obj : ∀ i ob, M i = some ob → ∃ B d S, E.μ i = some (B, d, S) ∧ ObR E C N0 i B d S w ob
  sep : ∀ i j oi oj B d S d' S', i ≠ j → M i = some oi → M j = some oj → E.μ i = some (B, d, S) → E.μ j = some (B, d', S') → N0 ≤ B →
    ∃ ki kj, oi = .cells ki ∧ oj = .cells kj ∧ ki.cls = kj.cls ∧ d + kj.base = d' + ki.base

/-- Less of a block: a beginning of its cells. -/
def ObLe : Ob → Ob → Prop
  | .cells k', .cells k => k' = { k with cells := k'.cells } ∧ k'.cells <+: k.cells
  | .mp a, .mp b => a = b
  | _, _ => False

theorem ObLe.refl : ∀ ob : Ob, ObLe ob ob
  | .cells k => ⟨rfl, List.prefix_refl _⟩
  | .mp _ => rfl

theorem HR.shrink {E : Env} {M M' : Nat → Option Ob} {C : Nat → Option Cls} {N0 : Nat} {w : World} (h : HR E M C N0 w) (hM : ∀ i ob', M' i = some ob' → ∃ ob, M i = some ob ∧ ObLe ob' ob) : HR E M' C N0 w where
  obj := by
    intro i ob' hi
    obtain ⟨ob, ho, hle⟩ := hM i ob' hi
    obtain ⟨B, d, S, hμ, hr⟩ := h.obj i ob ho
    refine ⟨B, d, S, hμ, ?_⟩
    cases ob' with
    | mp es => cases ob with
      | mp es' => simp only [ObLe] at hle; subst hle; exact hr
      | cells k => exact hle.elim
    | cells k' => cases ob with
      | mp es' => exact hle.elim
      | cells k =>
        obtain ⟨he, hp⟩ := hle
        have hr' : BlkR E C N0 i k B d S w := hr
        rw [he]
        obtain ⟨⟨Cs, fz, h1, h2, h3, h4⟩, h5, h6, h7⟩ := hr'
        exact ⟨⟨Cs, fz, h1, h2, fun j x hx => h3 j x (by
          obtain ⟨t, ht⟩ := hp
          rw [← ht, List.getElem?_append_left (List.getElem?_eq_some_iff.1 hx).1]; exact hx), h4⟩, h5, h6, h7⟩
  sep := by
    intro i j oi oj B d S d' S' hij hi hj hμi hμj hB
    obtain ⟨oi0, h1, l1⟩ := hM i oi hi
    obtain ⟨oj0, h2, l2⟩ := hM j oj hj
    obtain ⟨ki, kj, rfl, rfl, hc, ha⟩ := h.sep i j oi0 oj0 B d S d' S' hij h1 h2 hμi hμj hB
    cases oi with
    | mp _ => exact l1.elim
    | cells ki' => cases oj with
      | mp _ => exact l2.elim
      | cells kj' =>
        obtain ⟨e1, -⟩ := l1
        obtain ⟨e2, -⟩ := l2
        refine ⟨ki', kj', rfl, rfl, ?_, ?_⟩
        · rw [e1, e2]; exact hc
        · rw [e1, e2]; exact ha

/-- Less is said of classes. -/
theorem HR.lessCls {E : Env} {M : Nat → Option Ob} {C C' : Nat → Option Cls} {N0 : Nat} {w : World} (h : HR E M C N0 w) (hC : ∀ i c, C' i = some c → C i = some c) : HR E M C' N0 w where
  sep := h.sep
  obj := by
    intro i ob hi
    obtain ⟨B, d, S, hμ, hr⟩ := h.obj i ob hi
    refine ⟨B, d, S, hμ, ?_⟩
    cases ob with
    | mp es => exact hr
    | cells k =>
      obtain ⟨⟨Cs, fz, h1, h2, h3, h4⟩, h5, h6, h7⟩ := hr
      exact ⟨⟨Cs, fz, h1, h2, h3, fun hr c hc => h4 hr c (hC _ _ hc)⟩, h5, h6, h7⟩

/-- The range of what may be written. -/
def Rng (E : Env) (N0 B : Nat) : Prop := N0 ≤ B ∧ ∃ i d S, E.μ i = some (B, d, S)

/-- From a world to a later one: the environment grows; what is out of its range stays. -/
structure Goes (E E' : Env) (N0 : Nat) (w w' : World) : Prop where
  le : E.le E'
  os : w'.os = w.os
  tape : w'.tape = w.tape
  output : w'.output = w.output
  size : w.heap.size ≤ w'.heap.size
  old : ∀ B, B < w.heap.size → ¬ Rng E N0 B → w'.heap[B]? = w.heap[B]?
  new : ∀ i x, E'.μ i = some x → E.μ i = some x ∨ w.heap.size ≤ x.1 ∨ Rng E N0 x.1

theorem Goes.refl (E : Env) (N0 : Nat) (w : World) : Goes E E N0 w w := ⟨.refl E, rfl, rfl, rfl, Nat.le_refl _, fun _ _ _ => rfl, fun _ _ h => .inl h⟩
theorem Goes.trans {E E1 E2 : Env} {N0 : Nat} {w w1 w2 : World} (h : Goes E E1 N0 w w1) (h' : Goes E1 E2 N0 w1 w2) : Goes E E2 N0 w w2 where
  le := h.le.trans h'.le
  os := h'.os.trans h.os
  tape := h'.tape.trans h.tape
  output := h'.output.trans h.output
  size := Nat.le_trans h.size h'.size
  old := by
    intro B hB hR
    rw [h'.old B (Nat.lt_of_lt_of_le hB h.size) ?_, h.old B hB hR]
    rintro ⟨h0, i, d, S, hi⟩
    rcases h.new i _ hi with h1 | h1 | h1
    · exact hR ⟨h0, i, d, S, h1⟩
    · exact absurd h1 (by simp; omega)
    · exact hR h1
  new := by
    have key : ∀ B, Rng E1 N0 B → w.heap.size ≤ B ∨ Rng E N0 B := by
      rintro B ⟨h0, i, d, S, hi⟩
      rcases h.new i _ hi with h1 | h1 | h1
      · exact .inr ⟨h0, i, d, S, h1⟩
      · exact .inl h1
      · exact .inr h1
    intro i x hx
    rcases h'.new i x hx with h1 | h1 | h1
    · exact h.new i x h1
    · exact .inr (.inl (Nat.le_trans h.size h1))
    · exact .inr (key _ h1)
theorem Goes.drew {E E' : Env} {N0 : Nat} {w w' : World} (h : Goes E E' N0 w w') : Goes E E' N0 w w'.drew := ⟨h.le, h.os, h.tape, h.output, h.size, h.old, h.new⟩
theorem Goes.drew' {E E' : Env} {N0 : Nat} {w w' : World} (h : Goes E E' N0 w.drew w') : Goes E E' N0 w w' := ⟨h.le, h.os, h.tape, h.output, h.size, h.old, h.new⟩

theorem HR.same {E : Env} {M : Nat → Option Ob} {C : Nat → Option Cls} {N0 : Nat} {w w' : World} (h : HR E M C N0 w) (hw : ∀ i ob, M i = some ob → ∀ B d S, E.μ i = some (B, d, S) → w'.heap[B]? = w.heap[B]?) : HR E M C N0 w' where
  sep := h.sep
  obj := by
    intro i ob hi
    obtain ⟨B, d, S, hμ, hr⟩ := h.obj i ob hi
    have e := hw i ob hi B d S hμ
    refine ⟨B, d, S, hμ, ?_⟩
    cases ob with
    | mp es => obtain ⟨h0, es', clk, h1, h2⟩ := hr; exact ⟨h0, es', clk, e.trans h1, h2⟩
    | cells k =>
      obtain ⟨⟨Cs, fz, h1, h2, h3, h4⟩, h5, h6, h7⟩ := hr
      exact ⟨⟨Cs, fz, e.trans h1, h2, h3, h4⟩, h5, h6, h7⟩
theorem HR.drew {E : Env} {M : Nat → Option Ob} {C : Nat → Option Cls} {N0 : Nat} {w : World} (h : HR E M C N0 w) : HR E M C N0 w.drew := h.same fun _ _ _ _ _ _ _ => rfl

theorem EntsR.mono {E E' : Env} (hE : E.le E') : ∀ {as : List (AV × AV)} {es : List MapEntry}, EntsR E as es → EntsR E' as es
  | [], [], _ => trivial
  | _ :: _, _ :: _, ⟨h1, h2, h3⟩ => ⟨h1.mono hE, h2.mono hE, EntsR.mono hE h3⟩

/-- A block's place in the heap. -/
theorem HR.lt {E : Env} {M : Nat → Option Ob} {C : Nat → Option Cls} {N0 : Nat} {w : World} (h : HR E M C N0 w) {i : Nat} {ob : Ob} (hi : M i = some ob) {B d S : Nat} (hμ : E.μ i = some (B, d, S)) : B < w.heap.size := by
  obtain ⟨B', d', S', hμ', hr⟩ := h.obj i ob hi
  rw [hμ] at hμ'; cases hμ'
  have : ∃ o, w.heap[B]? = some o := by
    cases ob with
    | mp es => obtain ⟨h0, es', clk, h1, h2⟩ := hr; exact ⟨_, h1⟩
    | cells k => obtain ⟨⟨Cs, fz, h1, h2, h3, h4⟩, h5, h6, h7⟩ := hr; exact ⟨_, h1⟩
  obtain ⟨o, ho⟩ := this
  exact (Array.getElem?_eq_some_iff.1 ho).1

/-! ### a store -/
theorem HR.store {E : Env} {M : Nat → Option Ob} {C : Nat → Option Cls} {N0 : Nat} {w : World} (h : HR E M C N0 w) {b : Nat} {k : Blk} (hb : M b = some (.cells k)) (hro : k.ro = false)
    {B d S : Nat} (hμ : E.μ b = some (B, d, S)) {c : Cls} (hc : C k.cls = some c) (o : Nat) (xs : List AV) (Xs : List Value) (hxs : VRs E xs Xs)
    (hlen : o + xs.length ≤ k.cells.length) (hhi : c.hi ≤ k.base + o)
    (hcut : ∀ i ki, i ≠ b → M i = some (.cells ki) → ki.ro = false → ki.cls = k.cls → ki.cells.length ≤ k.base + o - ki.base) :
    (∀ j, j < Xs.length → (w.cell? ⟨B, d + o + j, none⟩).isSome = true ∧ w.frozen? ⟨B, d + o + j, none⟩ = false) ∧
    HR E (fun i => if i = b then some (.cells { k with cells := k.cells.take o ++ (xs ++ k.cells.drop (o + xs.length)) }) else M i) C N0 (w.setCells B (d + o) Xs) := by
  have hL := hxs.length
  rcases Nat.eq_zero_or_pos xs.length with h0 | h0
  · have e1 : xs = [] := List.eq_nil_of_length_eq_zero h0
    subst e1
    have e2 : Xs = [] := List.eq_nil_of_length_eq_zero hL.symm
    subst e2
    refine ⟨fun j hj => absurd hj (by simp), ?_⟩
    simp only [List.length_nil, Nat.add_zero, List.nil_append, List.take_append_drop, World.setCells]
    refine h.shrink fun i ob' hi => ?_
    split at hi
    · rename_i e; subst e; cases hi; exact ⟨_, hb, ObLe.refl _⟩
    · exact ⟨_, hi, ObLe.refl _⟩
  · obtain ⟨B', d', S', hμ', hr⟩ := h.obj b _ hb
    rw [hμ] at hμ'; cases hμ'
    obtain ⟨⟨Cs, fz, h1, h2, h3, h4⟩, h5, h6, h7⟩ := hr
    have hsz : d + k.cells.length ≤ Cs.size := by
      obtain ⟨X, hX, -⟩ := h3 (k.cells.length - 1) (k.cells[k.cells.length - 1]'(by omega)) (List.getElem?_eq_getElem (by omega))
      have := (Array.getElem?_eq_some_iff.1 hX).1
      omega
    obtain ⟨hmem, hfz⟩ := h4 hro c hc
    have hN0 := h6 hro
    constructor
    · intro j hj
      constructor
      · simp only [World.cell?, h1]
        simp [show d + o + j < Cs.size by omega]
      · simp only [World.frozen?, h1]
        rw [Bool.eq_false_iff]
        intro hf
        simp only [Bool.and_eq_true, decide_eq_true_eq] at hf
        have := hfz (d + o + j) trivial hf.2
        omega
    · obtain ⟨Cs', g1, g2, g3⟩ := heap_setCells_at B k.el fz Xs (d + o) w Cs h1 (by omega)
      have gfar := heap_setCells_far B Xs (d + o) w
      constructor
      · intro i ob hi
        by_cases hib : i = b
        · subst hib
          rw [if_pos rfl] at hi
          cases hi
          refine ⟨B, d, S, hμ, ⟨⟨Cs', fz, g1, g2.trans h2, ?_, h4⟩, h5, h6, h7⟩⟩
          intro j x hx
          rw [g3 (d + j)]
          rw [List.getElem?_append] at hx
          split at hx
          · rename_i hj
            simp at hj
            rw [if_neg (by omega)]
            refine h3 j x ?_
            rwa [List.getElem?_take_of_lt (by omega)] at hx
          · rename_i hj
            simp at hj
            rw [List.getElem?_append] at hx
            have hto : (k.cells.take o).length = o := by simp; omega
            rw [hto] at hx
            split at hx
            · rename_i hj2
              rw [if_pos (by omega)]
              obtain ⟨X, hX, hv⟩ := hxs.get (j - o) x hx
              exact ⟨X, by rw [show d + j - (d + o) = j - o by omega]; exact hX, hv⟩
            · rename_i hj2
              rw [List.getElem?_drop] at hx
              rw [if_neg (by omega)]
              refine h3 j x ?_
              rwa [show o + xs.length + (j - o - xs.length) = j by omega] at hx
        · rw [if_neg hib] at hi
          obtain ⟨Bi, di, Si, hμi, hri⟩ := h.obj i ob hi
          refine ⟨Bi, di, Si, hμi, ?_⟩
          by_cases hB : Bi = B
          · subst hB
            obtain ⟨kb, ki, e1, e2, e3, e4⟩ := h.sep b i _ _ Bi d S di Si (Ne.symm hib) hb hi hμ hμi hN0
            cases e1; subst e2
            obtain ⟨⟨Ci, fi, i1, i2, i3, i4⟩, i5, i6, i7⟩ := hri
            have hcu := hcut i ki hib hi (by
              cases hr : ki.ro with
              | false => rfl
              | true => have := i7 hr; omega) e3.symm
            rw [h1] at i1
            simp only [Option.some.injEq, Obj.cells.injEq] at i1
            obtain ⟨rfl, iel, rfl⟩ := i1
            refine ⟨⟨Cs', fz, ?_, g2.trans i2, fun j x hx => ?_, i4⟩, i5, i6, i7⟩
            · rw [← iel]; exact g1
            · have hjl := (List.getElem?_eq_some_iff.1 hx).1
              rw [g3 (di + j), if_neg (by omega)]
              exact i3 j x hx
          · have e := gfar Bi hB
            cases ob with
            | mp es => obtain ⟨h0, es', clk, k1, k2⟩ := hri; exact ⟨h0, es', clk, e.trans k1, k2⟩
            | cells ki =>
              obtain ⟨⟨Ci, fi, i1, i2, i3, i4⟩, i5, i6, i7⟩ := hri
              exact ⟨⟨Ci, fi, e.trans i1, i2, i3, i4⟩, i5, i6, i7⟩
      · intro i j oi oj B1 d1 S1 d2 S2 hij hi hj m1 m2 hB
        have key : ∀ i ob, (if i = b then some (Ob.cells { k with cells := k.cells.take o ++ (xs ++ k.cells.drop (o + xs.length)) }) else M i) = some ob →
            ∃ ob0, M i = some ob0 ∧ (∀ k0, ob0 = .cells k0 → ∃ k1, ob = .cells k1 ∧ k1.cls = k0.cls ∧ k1.base = k0.base) := by
          intro i' ob' hi'
          by_cases e : i' = b
          · rw [if_pos e, Option.some.injEq] at hi'
            refine ⟨_, e ▸ hb, fun k0 e' => ?_⟩
            cases e'
            exact ⟨_, hi'.symm, rfl, rfl⟩
          · rw [if_neg e] at hi'
            exact ⟨ob', hi', fun k0 e => ⟨k0, e, rfl, rfl⟩⟩
        obtain ⟨o1, a1, a2⟩ := key i oi hi
        obtain ⟨o2, b1, b2⟩ := key j oj hj
        obtain ⟨ki, kj, e1, e2, e3, e4⟩ := h.sep i j o1 o2 B1 d1 S1 d2 S2 hij a1 b1 m1 m2 hB
        obtain ⟨k1, c1, c2, c3⟩ := a2 ki e1
        obtain ⟨k2, c4, c5, c6⟩ := b2 kj e2
        exact ⟨k1, k2, c1, c4, by rw [c2, c5, e3], by rw [c3, c6, e4]⟩

/-! ### cuts -/
theorem ObLe.trans {a b c : Ob} (h : ObLe a b) (h' : ObLe b c) : ObLe a c := by
  cases a <;> cases b <;> cases c <;> simp only [ObLe] at * <;> first | exact h.elim | exact h'.elim | skip
  · obtain ⟨e1, p1⟩ := h
    obtain ⟨e2, p2⟩ := h'
    refine ⟨?_, p1.trans p2⟩
    rw [e1, e2]
  · exact h.trans h'

theorem cutOb_get (co x : Nat) (t : Tr Ob) (o : Ob) (hx : t.get x = some o) (i : Nat) (ob : Ob) (h : (cutOb co x t o).get i = some ob) :
    ∃ ob0, t.get i = some ob0 ∧ ObLe ob ob0 ∧ (i = x → ∀ k, ob = .cells k → k.cells.length ≤ co - k.base) := by
  cases o with
  | mp es =>
    refine ⟨ob, h, ObLe.refl _, fun e k hk => ?_⟩
    subst e; subst hk
    have h' : t.get i = some (.cells k) := h
    rw [hx] at h'; cases h'
  | cells k =>
    have h' : (ite' (Nat.ble (lenX k.cells) (co - k.base)) t (t.put x (.cells { k with cells := k.cells.take (co - k.base) }))).get i = some ob := h
    rw [ite'_if] at h'
    split at h'
    · rename_i hle
      rw [lenX_eq, Nat.ble_eq] at hle
      refine ⟨ob, h', ObLe.refl _, fun e k' hk => ?_⟩
      subst e; subst hk
      rw [hx] at h'; cases h'; exact hle
    · rw [Tr.get_put] at h'
      split at h'
      · rename_i e; subst e
        cases h'
        exact ⟨_, hx, ⟨rfl, List.take_prefix _ _⟩, fun _ k' hk => by cases hk; simp; omega⟩
      · rename_i e
        exact ⟨ob, h', ObLe.refl _, fun e' => absurd e' e⟩

theorem cut_get (co : Nat) (skip : Option Nat) : ∀ (l : List Nat) (t : Tr Ob) (i : Nat) (ob : Ob), (cut co skip l t).get i = some ob →
    ∃ ob0, t.get i = some ob0 ∧ ObLe ob ob0 ∧ (i ∈ l → skip ≠ some i → ∀ k, ob = .cells k → k.cells.length ≤ co - k.base)
  | [], t, i, ob, h => ⟨ob, h, ObLe.refl _, fun hm => absurd hm (by simp)⟩
  | x :: l, t, i, ob, h => by
    have h' : (cut co skip l (ite' (skip == some x) t (Option.rec (motive := fun _ => Tr Ob) t (fun o => cutOb co x t o) (t.get x)))).get i = some ob := h
    obtain ⟨ob1, h1, l1, c1⟩ := cut_get co skip l _ i ob h'
    have step : ∃ ob0, t.get i = some ob0 ∧ ObLe ob1 ob0 ∧ (i = x → skip ≠ some i → ∀ k, ob1 = .cells k → k.cells.length ≤ co - k.base) := by
      rw [ite'_if] at h1
      split at h1
      · rename_i hs
        refine ⟨ob1, h1, ObLe.refl _, fun e hne => ?_⟩
        subst e
        exact absurd (by simpa using hs) hne
      · cases hx : t.get x with
        | none =>
          rw [hx] at h1
          refine ⟨ob1, h1, ObLe.refl _, fun e _ => ?_⟩
          subst e
          have : t.get i = some ob1 := h1
          rw [hx] at this; cases this
        | some o =>
          rw [hx] at h1
          obtain ⟨ob0, a1, a2, a3⟩ := cutOb_get co x t o hx i ob1 h1
          exact ⟨ob0, a1, a2, fun e _ => a3 e⟩
    obtain ⟨ob0, a1, a2, a3⟩ := step
    refine ⟨ob0, a1, l1.trans a2, fun hm hne k hk => ?_⟩
    rcases List.mem_cons.1 hm with e | hm'
    · subst hk
      cases ob1 with
      | mp _ => exact l1.elim
      | cells k1 =>
        obtain ⟨e1, p1⟩ := l1
        have := a3 e hne k1 rfl
        have hb : k.base = k1.base := by rw [e1]
        have := p1.length_le
        omega
    · exact c1 hm' hne k hk

theorem one_of {E : Env} {x : AV} {X : Value} (h : VR E x X) (h1 : x.one = true) : X.oneCell' = true := by
  cases h <;> first | rfl | (simp [AV.one] at h1; done) | exact h1
theorem ones_of {E : Env} : ∀ {xs : List AV} {Xs : List Value}, VRs E xs Xs → xs.all AV.one = true → ∀ X ∈ Xs, X.oneCell' = true
  | _, _, .nil, _, X, hm => absurd hm (by simp)
  | _, _, .cons x X xs Xs h hs, h1, Y, hm => by
    simp only [List.all_cons, Bool.and_eq_true] at h1
    rcases List.mem_cons.1 hm with rfl | hm'
    · exact one_of h h1.1
    · exact ones_of hs h1.2 Y hm'

/-- The evaluator's store. -/
theorem HR.wr {E : Env} {N0 : Nat} {w : World} {H H' : HP} (h : HR E H.obs.get H.cls.get N0 w) {b o : Nat} {xs : List AV} (hw : H.wr b o xs = some H') {B d S : Nat} (hμ : E.μ b = some (B, d, S))
    {Xs : List Value} (hxs : VRs E xs Xs) (P : Program) :
    (∀ w1 : World, w1.heap[B]? = w.heap[B]? → (storeCells ⟨B, d + o, none⟩ Xs).run P w1 = .ok () (w1.setCells B (d + o) Xs)) ∧ HR E H'.obs.get H'.cls.get N0 (w.setCells B (d + o) Xs) ∧ H'.nxt = H.nxt ∧
    Goes E E N0 w (w.setCells B (d + o) Xs) := by
  unfold HP.wr HP.blk at hw
  simp only [bnd_eq, tst_eq, overX_eq] at hw
  obtain ⟨k, ⟨ob, hob, hk⟩, h1, c, hc, h2, cs, ⟨h3, rfl⟩, h4⟩ := hw
  simp only [Option.some.injEq] at h4
  subst h4
  simp only [Bool.and_eq_true, Bool.not_eq_true'] at h1
  have hb : H.obs.get b = some (.cells k) := by
    cases ob with
    | mp _ => cases hk
    | cells k' => cases hk; exact hob
  rw [Nat.ble_eq] at h2
  have h2' : c.hi ≤ k.base + o := h2
  -- the cut heap
  have hcutR : HR E (cut (Nat.add k.base o) (some b) c.mem H.obs).get H.cls.get N0 w := h.shrink fun i ob' hi => by
    obtain ⟨ob0, a1, a2, -⟩ := cut_get _ _ _ _ i ob' hi
    exact ⟨ob0, a1, a2⟩
  -- b itself is not cut
  have hbcut : (cut (Nat.add k.base o) (some b) c.mem H.obs).get b = some (.cells k) := by
    have key : ∀ (l : List Nat) (t : Tr Ob), (cut (Nat.add k.base o) (some b) l t).get b = t.get b := by
      intro l
      induction l with
      | nil => intro t; rfl
      | cons x l ih =>
        intro t
        show (cut (Nat.add k.base o) (some b) l (ite' (some b == some x) t (Option.rec (motive := fun _ => Tr Ob) t (fun o => cutOb _ x t o) (t.get x)))).get b = _
        rw [ih, ite'_if]
        split
        · rfl
        · rename_i hne
          cases hx : t.get x with
          | none => rfl
          | some ob =>
            cases ob with
            | mp _ => rfl
            | cells k1 =>
              show (ite' (Nat.ble (lenX k1.cells) (Nat.sub (Nat.add k.base o) k1.base)) t (t.put x _)).get b = _
              rw [ite'_if]
              split
              · rfl
              · rw [Tr.get_put, if_neg (fun e => hne (by simp [e]))]
    rw [key, hb]
  have hcs : ∀ i ki, i ≠ b → (cut (Nat.add k.base o) (some b) c.mem H.obs).get i = some (.cells ki) → ki.ro = false → ki.cls = k.cls → ki.cells.length ≤ k.base + o - ki.base := by
    intro i ki hne hi hro' hcl
    obtain ⟨ob0, a1, a2, a3⟩ := cut_get _ _ _ _ i _ hi
    cases ob0 with
    | mp _ => exact a2.elim
    | cells k0 =>
      have hro0' : k0.ro = false := by obtain ⟨e, -⟩ := a2; rw [e] at hro'; exact hro'
      obtain ⟨B0, d0, S0, m0, r0⟩ := h.obj i _ a1
      obtain ⟨⟨Cs, fz, g1, g2, g3, g4⟩, -⟩ := r0
      have hcl0 : k0.cls = k.cls := by obtain ⟨e, -⟩ := a2; rw [← hcl, e]
      have hm := (g4 hro0' c (by rw [hcl0]; exact hc)).1
      exact a3 hm (fun e => hne (by simpa using e.symm)) ki rfl
  obtain ⟨q1, q2⟩ := hcutR.store hbcut h1.1 hμ hc o xs Xs hxs h3 h2' hcs
  refine ⟨?_, ?_, rfl, ?_⟩
  · intro w1 hw1
    have c1 : ∀ j, w1.cell? ⟨B, j, none⟩ = w.cell? ⟨B, j, none⟩ := fun j => by simp only [World.cell?, hw1]
    have c2 : ∀ j, w1.frozen? ⟨B, j, none⟩ = w.frozen? ⟨B, j, none⟩ := fun j => by simp only [World.frozen?, hw1]
    have := run_storeCells_cells (P := P) B (d + o) Xs 0 w1 (fun j hj => by rw [c1]; simpa using (q1 j hj).1) (fun j hj => by rw [c2]; simpa using (q1 j hj).2) (ones_of hxs h1.2)
    simpa using this
  · refine q2.shrink fun i ob' hi => ?_
    rw [Tr.get_put] at hi
    exact ⟨ob', hi, ObLe.refl _⟩
  · obtain ⟨s1, s2, s3, s4⟩ := size_setCells' B Xs (d + o) w
    refine ⟨.refl E, s2, s3, s4, by rw [s1]; exact Nat.le_refl _, fun B' hB' hR => heap_setCells_far B Xs (d + o) w B' fun e => ?_, fun i x hx => .inl hx⟩
    subst e
    obtain ⟨B0, d0, S0, m0, r0⟩ := h.obj b _ hb
    rw [hμ] at m0; cases m0
    exact hR ⟨r0.lo h1.1, b, d, S, hμ⟩
end Go.AS
