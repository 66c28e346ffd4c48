/-
  Every order of a region, by an invariant over what is done; two roads that come to the same.
-/
import Derived.Test.YtffklpenfaocbaaGreatDoorAsQ
set_option linter.unusedVariables false
set_option linter.unusedSimpArgs false
namespace Go.AS
open Go.RowKit

section
variable {P : Program} {ops : Array Oper} {Q : Exit → Act → World → Prop}

def undone (l : List Bool) : Nat := l.countP (fun b => !b)

theorem undone_set : ∀ (l : List Bool) (i : Nat), l[i]? = some false → undone l = undone (l.set i true) + 1
  | [], i, h => by simp at h
  | b :: l, 0, h => by
    simp only [List.getElem?_cons_zero, Option.some.injEq] at h
    subst h
    simp [undone]
  | b :: l, i + 1, h => by
    have := undone_set l i (by simpa using h)
    simp only [undone, List.set_cons_succ, List.countP_cons] at *
    omega
theorem undone_zero : ∀ (l : List Bool), undone l = 0 → ∀ i, i < l.length → l[i]? = some true
  | [], _, i, hi => by simp at hi
  | b :: l, h, 0, _ => by
    cases b with
    | true => rfl
    | false => simp [undone] at h
  | b :: l, h, i + 1, hi => by
    have := undone_zero l (by simp only [undone, List.countP_cons] at *; omega) i (by simpa using hi)
    simpa using this
theorem undone_pos : ∀ (l : List Bool), undone l ≠ 0 → ∃ i : Nat, l[i]? = some false ∧ ∀ j : Nat, j < i → l[j]? = some true
  | [], h => absurd rfl h
  | false :: l, _ => ⟨0, rfl, fun j hj => absurd hj (by omega)⟩
  | true :: l, h => by
    obtain ⟨i, h1, h2⟩ := undone_pos l (by simpa [undone] using h)
    refine ⟨i + 1, by simpa using h1, fun j hj => ?_⟩
    cases j with
    | zero => rfl
    | succ j => simpa using h2 j (by omega)

/-- **Every order**: an invariant over the set of what is done. -/
theorem wpAny_inv (hback : ∀ (i : Nat) o, ops[i]? = some o → ∀ e ∈ o.after, Region.binds .any e = true → e.on < i) (Inv : (Nat → Bool) → Act → World → Prop)
    (step : ∀ (L : Nat → Bool) (i : Nat) o a w, ops[i]? = some o → L i = false → (∀ e ∈ o.after, Region.binds .any e = true → L e.on = true) → Inv L a w → wpOp P ops Q i (Inv fun j => j == i || L j) a w)
    (fin : ∀ (L : Nat → Bool) a w, (∀ i, i < ops.size → L i = true) → Inv L a w → Q .normal a w) :
    ∀ (fuel : Nat) (listed : Array Bool) a w, listed.size = ops.size → undone listed.toList = fuel → Inv (fun j => listed.getD j false) a w → wpAny P .any ops Q fuel listed a w := by
  intro fuel
  induction fuel with
  | zero =>
    intro listed a w hsz hu hI
    have hall : ∀ i, i < ops.size → listed.getD i false = true := fun i hi => by
      have := undone_zero _ hu i (by simpa [hsz] using hi)
      rw [Array.getElem?_toList] at this
      rw [Array.getD_eq_getD_getElem?, this]; rfl
    refine ⟨?_, fin _ a w hall hI⟩
    unfold Region.ready
    rw [List.filter_eq_nil_iff]
    intro i hi hb
    simp only [Bool.and_eq_true, Bool.not_eq_true'] at hb
    have hi' : i < ops.size := by simpa using hi
    have h1 := hall i hi'
    have h2 := hb.1
    rw [Array.getD_eq_getD_getElem?] at h1 h2
    rw [Array.getElem?_eq_getElem (by omega)] at h1 h2
    simp at h1 h2
    rw [h1] at h2; cases h2
  | succ fuel ih =>
    intro listed a w hsz hu hI
    constructor
    · intro hnil
      exfalso
      obtain ⟨i, h1, h2⟩ := undone_pos listed.toList (by omega)
      have hi : i < listed.size := by
        have := (List.getElem?_eq_some_iff.1 h1).1
        simpa using this
      have hlt : i < ops.size := by omega
      have : i ∈ Region.ready .any ops listed := by
        unfold Region.ready
        rw [List.mem_filter]
        refine ⟨by simpa using hlt, ?_⟩
        rw [Array.getElem?_toList] at h1
        simp only [Bool.and_eq_true, Bool.not_eq_true']
        refine ⟨by rw [Array.getD_eq_getD_getElem?, h1]; rfl, ?_⟩
        rw [Array.getElem?_eq_getElem hlt]
        simp only [Option.map_some, Option.getD_some, Array.all_eq_true']
        intro e he
        cases hb : Region.binds .any e with
        | false => rfl
        | true =>
          have := hback i _ (Array.getElem?_eq_getElem hlt) e he hb
          have := h2 e.on this
          rw [Array.getElem?_toList] at this
          rw [Array.getD_eq_getD_getElem?, this]; rfl
      rw [hnil] at this
      cases this
    · intro i hi
      unfold Region.ready at hi
      rw [List.mem_filter] at hi
      obtain ⟨hi1, hi2⟩ := hi
      have hlt : i < ops.size := by simpa using hi1
      simp only [Bool.and_eq_true, Bool.not_eq_true'] at hi2
      obtain ⟨h1, h2⟩ := hi2
      rw [Array.getElem?_eq_getElem hlt] at h2
      simp only [Option.map_some, Option.getD_some, Array.all_eq_true'] at h2
      have hls : i < listed.size := by omega
      have hf : listed[i]? = some false := by
        rw [Array.getD_eq_getD_getElem?, Array.getElem?_eq_getElem hls] at h1
        rw [Array.getElem?_eq_getElem hls]
        simpa using h1
      refine wpOp_mono (fun a' w' h => ?_) (step (fun j => listed.getD j false) i ops[i] a w (Array.getElem?_eq_getElem hlt) (by show listed.getD i false = false; rw [Array.getD_eq_getD_getElem?, hf]; rfl) (fun e he hb => ?_) hI)
      · refine ih _ a' w' (by simpa using hsz) ?_ ?_
        · have := undone_set listed.toList i (by rw [Array.getElem?_toList]; exact hf)
          rw [Array.toList_setIfInBounds]
          omega
        · have : (fun j => (listed.setIfInBounds i true).getD j false) = fun j => j == i || listed.getD j false := by
            funext j
            rw [Array.getD_eq_getD_getElem?, Array.getElem?_setIfInBounds]
            by_cases e : i = j
            · subst e; simp [hls]
            · have e' : (j == i) = false := by simpa using Ne.symm e
              rw [if_neg e, e', Bool.false_or, Array.getD_eq_getD_getElem?]
          rw [this]; exact h
      · have := h2 e he
        rw [hb] at this
        simpa using this

theorem wp_region_inv {id : Nat} {a : Act} {w : World} (hm : P.follows .mixedOrders = true) (hback : ∀ (i : Nat) o, ops[i]? = some o → ∀ e ∈ o.after, Region.binds .any e = true → e.on < i) (Inv : (Nat → Bool) → Act → World → Prop)
    (step : ∀ (L : Nat → Bool) (i : Nat) o a w, ops[i]? = some o → L i = false → (∀ e ∈ o.after, Region.binds .any e = true → L e.on = true) → Inv L a w → wpOp P ops Q i (Inv fun j => j == i || L j) a w)
    (fin : ∀ (L : Nat → Bool) a w, (∀ i, i < ops.size → L i = true) → Inv L a w → Q .normal a w) (h0 : Inv (fun _ => false) a w.drew) : (Code.region id ops true).wp P Q a w := by
  refine wp_region_any hm (wpAny_inv hback Inv step fin _ _ _ _ (by simp) ?_ ?_)
  · simp [undone, List.countP_replicate]
  · have : (fun j => (Array.replicate ops.size false).getD j false) = fun _ => false := by
      funext j
      rw [Array.getD_eq_getD_getElem?, Array.getElem?_replicate]
      split <;> rfl
    rw [this]; exact h0
end

/-! ### the same -/
mutual
theorem same_eq : ∀ {x y : AV}, same x y = true → x = y
  | .int k n, y, h => by cases y <;> simp [same] at h; rw [h.1, h.2]
  | .bool a, y, h => by cases y <;> simp [same] at h; rw [h]
  | .str s, y, h => by cases y <;> simp [same] at h; rw [h]
  | .nilp, y, h => by cases y <;> simp [same] at h; rfl
  | .nils, y, h => by cases y <;> simp [same] at h; rfl
  | .nilm, y, h => by cases y <;> simp [same] at h; rfl
  | .nilf, y, h => by cases y <;> simp [same] at h; rfl
  | .nili, y, h => by cases y <;> simp [same] at h; rfl
  | .ptr b o, y, h => by cases y <;> simp [same] at h; rw [h.1, h.2]
  | .slc .., y, h => by cases y <;> simp [same] at h; obtain ⟨⟨⟨⟨⟨h1, h2⟩, h3⟩, h4⟩, h5⟩, h6⟩ := h; rw [h1, h2, h3, h4, h5, h6]
  | .agg a, y, h => by
    cases y <;> simp [same] at h
    rw [sames_eq h]
  | .tup a, y, h => by
    cases y <;> simp [same] at h
    rw [sames_eq h]
  | .ifc t v, y, h => by
    cases y <;> simp [same] at h
    rw [h.1, same_eq h.2]
  | .fn f a b, y, h => by
    cases y <;> simp [same] at h
    rw [h.1.1, sames_eq h.1.2, sames_eq h.2]
  | .mp r, y, h => by cases y <;> simp [same] at h; rw [h]
  | .lit v, y, h => by cases y <;> simp [same] at h
  | .opq k, y, h => by cases y <;> simp [same] at h; rw [h]
theorem sames_eq : ∀ {x y : List AV}, sames x y = true → x = y
  | [], [], _ => rfl
  | a :: x, b :: y, h => by
    simp only [sames, Bool.and_eq_true] at h
    rw [same_eq h.1, sames_eq h.2]
  | [], _ :: _, h => by simp [sames] at h
  | _ :: _, [], h => by simp [sames] at h
end

theorem merge_nd {α : Type} (eq : α → α → Bool) (v v' : Option α) (l r l' r' : Tr α) : Tr.merge eq (.nd v l r) (.nd v' l' r') = .nd (match v, v' with | some x, some y => cond (eq x y) (some x) none | _, _ => none) (Tr.merge eq l l') (Tr.merge eq r r') := rfl

theorem merge_get {α : Type} {eq : α → α → Bool} : ∀ {t u : Tr α} {k : Nat} {x : α}, (Tr.merge eq t u).get k = some x → t.get k = some x ∧ ∃ y, u.get k = some y ∧ eq x y = true
  | .lf, u, k, x, h => by simp [Tr.merge, Tr.get_lf] at h
  | .nd v l r, .lf, k, x, h => by simp [Tr.merge, Tr.get_lf] at h
  | .nd v l r, .nd v' l' r', k, x, h => by
    rw [merge_nd, Tr.get_nd] at h
    rw [Tr.get_nd, Tr.get_nd]
    by_cases h0 : k = 0
    · simp only [h0, if_true] at h ⊢
      cases v with
      | none => cases h
      | some a =>
        cases v' with
        | none => cases h
        | some b =>
          simp only at h
          cases hb : eq a b with
          | true =>
            rw [hb] at h
            simp only [cond_true, Option.some.injEq] at h
            subst h
            exact ⟨rfl, _, rfl, hb⟩
          | false => rw [hb] at h; cases h
    · simp only [h0, if_false] at h ⊢
      by_cases h1 : k % 2 = 1
      · simp only [h1, if_true] at h ⊢
        exact merge_get h
      · simp only [h1, if_false] at h ⊢
        exact merge_get h

theorem zip_eq : ∀ {x y : List (AV × AV)}, x.map (·.1) = y.map (·.1) → x.map (·.2) = y.map (·.2) → x = y
  | [], [], _, _ => rfl
  | (a, b) :: x, (a', b') :: y, h1, h2 => by
    simp only [List.map_cons, List.cons.injEq] at h1 h2
    rw [h1.1, h2.1, zip_eq h1.2 h2.2]
  | [], _ :: _, h, _ => by simp at h
  | _ :: _, [], h, _ => by simp at h

theorem sameOb_eq {a b : Ob} (h : sameOb a b = true) : a = b := by
  cases a <;> cases b <;> simp [sameOb] at h
  · rename_i x y
    obtain ⟨⟨⟨⟨⟨h1, h2⟩, h3⟩, h4⟩, h5⟩, h6⟩ := h
    cases x; cases y
    simp only at h1 h2 h3 h4 h5 h6
    rw [h1, h2, h3, h4, h5, sames_eq h6]
  · rw [zip_eq (sames_eq h.1) (sames_eq h.2)]
theorem sameCls_eq {a b : Cls} (h : sameCls a b = true) : a = b := by
  cases a; cases b
  simp [sameCls] at h
  rw [h.1, h.2]

theorem OK.less {E : Env} {H H' : HP} {N0 : Nat} {w : World} (h : OK E H N0 w) (hn : H'.nxt = H.nxt) (ho : ∀ i ob, H'.obs.get i = some ob → H.obs.get i = some ob) (hc : ∀ i c, H'.cls.get i = some c → H.cls.get i = some c) : OK E H' N0 w :=
  ⟨(h.hr.shrink fun i ob' hi => ⟨ob', ho i ob' hi, ObLe.refl _⟩).lessCls hc, by rw [hn]; exact h.fr, fun i k hi => by rw [hn]; exact h.cl i k (ho i _ hi), h.n0, h.bd⟩
theorem TR.less {E : Env} {T T' : TM} {a : Act} (h : TR E T a) (ht : ∀ j x, T' j = some x → T j = some x) : TR E T' a := fun t x hx => h t x (ht t x hx)

theorem tm_merge {T U : TM} {j : Nat} {x : AV} (h : TM.merge T U j = some x) : T j = some x ∧ U j = some x := by
  unfold TM.merge keep at h
  simp only [bnd_eq, tst_eq, Option.some.injEq] at h
  obtain ⟨a, ha, b, hb, hs, rfl⟩ := h
  have := same_eq hs
  subst this
  exact ⟨ha, hb⟩

theorem sameEx_eq {x y : Ex} (h : sameEx x y = true) : x = y := by
  cases x <;> cases y <;> simp [sameEx] at h <;> first | rfl | (rw [h])

theorem merge_sound {c : Cx} {N N0 : Nat} {s1 s2 s : St} (h : mergeSt s1 s2 = some s) {E : Env} {a : Act} {w : World} :
    (SR c N N0 s1.T s1.H E a w → s.x = s1.x ∧ SR c N N0 s.T s.H E a w) ∧ (SR c N N0 s2.T s2.H E a w → s.x = s2.x ∧ SR c N N0 s.T s.H E a w) := by
  unfold mergeSt at h
  simp only [tst_eq, Bool.and_eq_true, Nat.beq_eq, Option.some.injEq] at h
  obtain ⟨⟨hx, hn⟩, rfl⟩ := h
  have hx := sameEx_eq hx
  constructor
  · intro hs
    exact ⟨rfl, hs.tr.less fun j x hj => (tm_merge hj).1, hs.sz, hs.df, hs.ok.less rfl (fun i ob hi => (merge_get hi).1) (fun i ob hi => (merge_get hi).1), hs.gl⟩
  · intro hs
    refine ⟨hx, hs.tr.less fun j x hj => (tm_merge hj).2, hs.sz, hs.df, hs.ok.less hn (fun i ob hi => ?_) (fun i ob hi => ?_), hs.gl⟩
    · obtain ⟨-, y, hy, he⟩ := merge_get hi
      rw [sameOb_eq he]; exact hy
    · obtain ⟨-, y, hy, he⟩ := merge_get hi
      rw [sameCls_eq he]; exact hy
end Go.AS
