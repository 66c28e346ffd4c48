/-
  What the small functions of the evaluator are; the relation between abstract and real values and heaps.
-/
import Derived.Test.YtffklpenfaocbaaGreatDoorAsB
import Derived.Below
import Derived.Deep.MidRow
set_option linter.unusedVariables false
set_option linter.unusedSimpArgs false
namespace Go.AS
open Go.RowKit

section
variable {α β : Type}
theorem bnd_eq {x : Option α} {f : α → Option β} {y : β} : bnd x f = some y ↔ ∃ a, x = some a ∧ f a = some y := by cases x <;> simp [bnd]
theorem tst_eq {b : Bool} {x : Option β} {y : β} : tst b x = some y ↔ b = true ∧ x = some y := by cases b <;> simp [tst]
@[simp] theorem bnd_some (a : α) (f : α → Option β) : bnd (some a) f = f a := rfl
@[simp] theorem bnd_none (f : α → Option β) : bnd none f = none := rfl
@[simp] theorem tst_true (x : Option β) : tst true x = x := rfl
@[simp] theorem tst_false (x : Option β) : tst false x = none := rfl
@[simp] theorem ite'_true (x y : β) : ite' true x y = x := rfl
@[simp] theorem ite'_false (x y : β) : ite' false x y = y := rfl
theorem ite'_beq (n m : Nat) (x y : β) : ite' (Nat.beq n m) x y = if n = m then x else y := by
  by_cases h : n = m
  · subst h; simp [ite', Nat.beq_refl]
  · have h' : Nat.beq n m = false := by
      cases hb : Nat.beq n m with
      | false => rfl
      | true => exact absurd (Nat.eq_of_beq_eq_true hb) h
    rw [if_neg h, h']; rfl
theorem ite'_if (b : Bool) (x y : β) : ite' b x y = if b = true then x else y := by cases b <;> rfl

theorem Tr.get_lf (k : Nat) : (Tr.lf : Tr α).get k = none := rfl
theorem Tr.get_nd (v : Option α) (l r : Tr α) (k : Nat) : (Tr.nd v l r).get k = if k = 0 then v else if k % 2 = 1 then l.get (k / 2) else r.get (k / 2) := by
  show ite' (Nat.beq k 0) v (ite' (Nat.beq (k % 2) 1) (l.get (k / 2)) (r.get (k / 2))) = _
  simp only [ite'_beq]

theorem Tr.get_set : ∀ (f : Nat) (t : Tr α) (k : Nat) (a : α) (j : Nat), k < f → (Tr.set f t k a).get j = if j = k then some a else t.get j
  | 0, _, _, _, _, h => absurd h (by omega)
  | f + 1, t, k, a, j, h => by
    have ih : ∀ (t : Tr α) (i : Nat), k ≠ 0 → (Tr.set f t (k / 2) a).get i = if i = k / 2 then some a else t.get i := fun t i hk => Tr.get_set f t (k / 2) a i (by omega)
    cases t with
    | lf =>
      show (ite' (Nat.beq k 0) (Tr.nd (some a) .lf .lf) (ite' (Nat.beq (k % 2) 1) (Tr.nd none (Tr.set f .lf (k / 2) a) .lf) (Tr.nd none .lf (Tr.set f .lf (k / 2) a)))).get j = _
      simp only [ite'_beq]
      by_cases h0 : k = 0
      · subst h0
        simp only [if_true, Tr.get_nd, Tr.get_lf]
        by_cases hj : j = 0 <;> simp [hj]
      · simp only [h0, if_false]
        by_cases h1 : k % 2 = 1
        · simp only [h1, if_true, Tr.get_nd, Tr.get_lf, ih _ _ h0]
          by_cases hj : j = 0
          · subst hj; simp [Ne.symm h0]
          · by_cases hj1 : j % 2 = 1
            · by_cases hjk : j = k
              · subst hjk; simp [hj, hj1]
              · have : j / 2 ≠ k / 2 := by omega
                simp [hj, hj1, hjk, this]
            · have : j ≠ k := by omega
              simp [hj, hj1, this]
        · simp only [h1, if_false, Tr.get_nd, Tr.get_lf, ih _ _ h0]
          by_cases hj : j = 0
          · subst hj; simp [Ne.symm h0]
          · by_cases hj1 : j % 2 = 1
            · have : j ≠ k := by omega
              simp [hj, hj1, this]
            · by_cases hjk : j = k
              · subst hjk; simp [hj, hj1]
              · have : j / 2 ≠ k / 2 := by omega
                simp [hj, hj1, hjk, this]
    | nd v l r =>
      show (ite' (Nat.beq k 0) (Tr.nd (some a) l r) (ite' (Nat.beq (k % 2) 1) (Tr.nd v (Tr.set f l (k / 2) a) r) (Tr.nd v l (Tr.set f r (k / 2) a)))).get j = _
      simp only [ite'_beq]
      by_cases h0 : k = 0
      · subst h0
        simp only [if_true, Tr.get_nd]
        by_cases hj : j = 0 <;> simp [hj]
      · simp only [h0, if_false]
        by_cases h1 : k % 2 = 1
        · simp only [h1, if_true, Tr.get_nd, ih _ _ h0]
          by_cases hj : j = 0
          · subst hj; simp [Ne.symm h0]
          · by_cases hj1 : j % 2 = 1
            · by_cases hjk : j = k
              · subst hjk; simp [hj, hj1]
              · have : j / 2 ≠ k / 2 := by omega
                simp [hj, hj1, hjk, this]
            · have : j ≠ k := by omega
              simp [hj, hj1, this]
        · simp only [h1, if_false, Tr.get_nd, ih _ _ h0]
          by_cases hj : j = 0
          · subst hj; simp [Ne.symm h0]
          · by_cases hj1 : j % 2 = 1
            · have : j ≠ k := by omega
              simp [hj, hj1, this]
            · by_cases hjk : j = k
              · subst hjk; simp [hj, hj1]
              · have : j / 2 ≠ k / 2 := by omega
                simp [hj, hj1, hjk, this]

theorem Tr.get_put (t : Tr α) (k : Nat) (a : α) (j : Nat) : (t.put k a).get j = if j = k then some a else t.get j := Tr.get_set _ t k a j (Nat.lt_succ_self k)

theorem nthX_eq : ∀ (l : List α) (n : Nat), nthX l n = l[n]?
  | [], n => by simp [nthX]
  | x :: l, n => by
    show ite' (Nat.beq n 0) (some x) (nthX l (Nat.pred n)) = _
    rw [ite'_beq, nthX_eq l]
    cases n <;> simp
theorem lenX_eq : ∀ l : List α, lenX l = l.length
  | [] => rfl
  | x :: l => by show Nat.succ (lenX l) = _; rw [lenX_eq l]; rfl
theorem dropX_eq : ∀ (l : List α) (n : Nat), dropX l n = l.drop n
  | [], n => by simp [dropX]
  | x :: l, n => by
    show ite' (Nat.beq n 0) (x :: l) (dropX l (Nat.pred n)) = _
    rw [ite'_beq, dropX_eq l]
    cases n <;> simp
theorem takeX_eq : ∀ (l : List α) (n : Nat) (r : List α), takeX l n = some r ↔ n ≤ l.length ∧ r = l.take n
  | [], n, r => by
    show tst (Nat.beq n 0) (some []) = some r ↔ _
    rw [tst_eq, Nat.beq_eq]
    constructor
    · rintro ⟨rfl, h⟩; simp at h; simp [h]
    · rintro ⟨h, rfl⟩; simp at h; simp [h]
  | x :: l, n, r => by
    show ite' (Nat.beq n 0) (some []) (bnd (takeX l (Nat.pred n)) fun r => some (x :: r)) = some r ↔ _
    rw [ite'_beq]
    cases n with
    | zero => simp [eq_comm]
    | succ n =>
      simp only [Nat.succ_ne_zero, Nat.add_eq_zero_iff, Nat.one_ne_zero, and_false, if_false, bnd_eq, Nat.pred_succ, takeX_eq l]
      constructor
      · rintro ⟨a, ⟨h, rfl⟩, h2⟩
        simp only [Option.some.injEq] at h2
        exact ⟨by simp; omega, by simp [← h2]⟩
      · rintro ⟨h, rfl⟩
        exact ⟨l.take n, ⟨by simp at h; omega, rfl⟩, by simp⟩
theorem overX_eq : ∀ (l : List α) (o : Nat) (xs r : List α), overX l o xs = some r ↔ o + xs.length ≤ l.length ∧ r = l.take o ++ (xs ++ l.drop (o + xs.length))
  | [], o, xs, r => by
    show tst (Nat.beq o 0) (List.rec (motive := fun _ => Option (List α)) (some []) (fun _ _ _ => none) xs) = some r ↔ _
    rw [tst_eq, Nat.beq_eq]
    cases xs with
    | nil => simp [eq_comm]
    | cons x xs => simp
  | y :: l, o, xs, r => by
    show ite' (Nat.beq o 0) (List.rec (motive := fun _ => Option (List α)) (some (y :: l)) (fun x r _ => bnd (overX l 0 r) fun t => some (x :: t)) xs) (bnd (overX l (Nat.pred o) xs) fun t => some (y :: t)) = some r ↔ _
    rw [ite'_beq]
    cases o with
    | zero =>
      simp only [if_true]
      cases xs with
      | nil => simp [eq_comm]
      | cons x xs =>
        show bnd (overX l 0 xs) (fun t => some (x :: t)) = some r ↔ _
        rw [bnd_eq]
        simp only [overX_eq l 0 xs]
        constructor
        · rintro ⟨a, ⟨h, rfl⟩, h2⟩
          simp only [Option.some.injEq] at h2
          exact ⟨by simp at h ⊢; omega, by rw [← h2]; simp⟩
        · rintro ⟨h, rfl⟩
          exact ⟨_, ⟨by simp at h ⊢; omega, rfl⟩, by simp⟩
    | succ o =>
      simp only [Nat.succ_ne_zero, Nat.add_eq_zero_iff, Nat.one_ne_zero, and_false, if_false, bnd_eq, Nat.pred_succ, overX_eq l]
      constructor
      · rintro ⟨a, ⟨h, rfl⟩, h2⟩
        simp only [Option.some.injEq] at h2
        refine ⟨by simp; omega, ?_⟩
        rw [← h2, show o + 1 + xs.length = (o + xs.length) + 1 by omega]; simp
      · rintro ⟨h, rfl⟩
        refine ⟨_, ⟨by simp at h; omega, rfl⟩, ?_⟩
        rw [show o + 1 + xs.length = (o + xs.length) + 1 by omega]; simp
end

/-! ### the relation -/
structure Env where
  μ : Nat → Option (Nat × Nat × Nat)
  ρ : Nat → Value

mutual
inductive VR (E : Env) : AV → Value → Prop
  | int (k n) : VR E (.int k n) (.int k n)
  | bool (b) : VR E (.bool b) (.bool b)
  | str (s : List Nat) (b : ByteArray) (h : b.data.toList.map UInt8.toNat = s) : VR E (.str s) (.string b)
  | nilp : VR E .nilp (.pointer none)
  | nils : VR E .nils (.slice none 0 0)
  | nilm : VR E .nilm (.map none)
  | nilf : VR E .nilf .nilFunc
  | nili : VR E .nili .nilIface
  | ptr (b o B d S : Nat) (h : E.μ b = some (B, d, S)) : VR E (.ptr b o) (.pointer (some ⟨B, d + o, none⟩))
  | slc (b o n c sz : Nat) (ex : Bool) (B d S D c' : Nat) (h : E.μ b = some (B, d, S)) (hc : c ≤ c') (hx : ex = true → c' = c)
      (hD : D = d + o ∨ (n = 0 ∧ c' = 0)) (hS : D + c' * sz ≤ S) : VR E (.slc b o n c sz ex) (.slice (some ⟨B, D, none⟩) n c')
  | agg (cs : List AV) (Cs : Array Value) (h : VRs E cs Cs.toList) : VR E (.agg cs) (.agg Cs)
  | tup (cs : List AV) (Cs : Array Value) (h : VRs E cs Cs.toList) : VR E (.tup cs) (.tuple Cs)
  | ifc (t : TypeId) (v : AV) (V : Value) (h : VR E v V) : VR E (.ifc t v) (.iface t V)
  | fn (f : Fn) (a b : List AV) (A B : Array Value) (ha : VRs E a A.toList) (hb : VRs E b B.toList) : VR E (.fn f a b) (.func f A B)
  | mp (r B d S : Nat) (h : E.μ r = some (B, d, S)) : VR E (.mp r) (.map (some B))
  | lit (v) : VR E (.lit v) v
  | opq (k) (V : Value) (h : E.ρ k = V) : VR E (.opq k) V
inductive VRs (E : Env) : List AV → List Value → Prop
  | nil : VRs E [] []
  | cons (x : AV) (X : Value) (xs : List AV) (Xs : List Value) (h : VR E x X) (hs : VRs E xs Xs) : VRs E (x :: xs) (X :: Xs)
end

def Env.le (E E' : Env) : Prop := E'.ρ = E.ρ ∧ ∀ b x, E.μ b = some x → E'.μ b = some x
theorem Env.le.refl (E : Env) : E.le E := ⟨rfl, fun _ _ h => h⟩
theorem Env.le.trans {E E' E'' : Env} (h : E.le E') (h' : E'.le E'') : E.le E'' := ⟨h'.1.trans h.1, fun b x hx => h'.2 b x (h.2 b x hx)⟩

theorem VR.mono {E E' : Env} (hE : E.le E') {x : AV} {X : Value} (h : VR E x X) : VR E' x X :=
  VR.rec (motive_1 := fun x X _ => VR E' x X) (motive_2 := fun xs Xs _ => VRs E' xs Xs)
    (fun k n => .int k n) (fun b => .bool b) (fun s b h => .str s b h) .nilp .nils .nilm .nilf .nili
    (fun b o B d S h => .ptr b o B d S (hE.2 _ _ h))
    (fun b o n c sz ex B d S D c' h hc hx hD hS => .slc b o n c sz ex B d S D c' (hE.2 _ _ h) hc hx hD hS)
    (fun cs Cs _ ih => .agg cs Cs ih) (fun cs Cs _ ih => .tup cs Cs ih) (fun t v V _ ih => .ifc t v V ih)
    (fun f a b A B _ _ iha ihb => .fn f a b A B iha ihb) (fun r B d S h => .mp r B d S (hE.2 _ _ h)) (fun v => .lit v)
    (fun k V h => .opq k V (by rw [hE.1]; exact h)) .nil (fun x X xs Xs _ _ ih ihs => .cons x X xs Xs ih ihs) h
theorem VRs.mono {E E' : Env} (hE : E.le E') : ∀ {xs : List AV} {Xs : List Value}, VRs E xs Xs → VRs E' xs Xs
  | _, _, .nil => .nil
  | _, _, .cons x X xs Xs h hs => .cons x X xs Xs (h.mono hE) (hs.mono hE)

theorem VRs.length {E : Env} : ∀ {xs : List AV} {Xs : List Value}, VRs E xs Xs → xs.length = Xs.length
  | _, _, .nil => rfl
  | _, _, .cons x X xs Xs h hs => by simp [hs.length]
theorem VRs.get {E : Env} : ∀ {xs : List AV} {Xs : List Value}, VRs E xs Xs → ∀ (i : Nat) (x : AV), xs[i]? = some x → ∃ X, Xs[i]? = some X ∧ VR E x X
  | _, _, .nil, i, x, h => by simp at h
  | _, _, .cons x X xs Xs h hs, 0, y, e => by simp at e; subst e; exact ⟨X, rfl, h⟩
  | _, _, .cons x X xs Xs h hs, i + 1, y, e => by simpa using hs.get i y (by simpa using e)
theorem VRs.of_get {E : Env} : ∀ {xs : List AV} {Xs : List Value}, xs.length = Xs.length → (∀ (i : Nat) (x : AV) (X : Value), xs[i]? = some x → Xs[i]? = some X → VR E x X) → VRs E xs Xs
  | [], [], _, _ => .nil
  | x :: xs, X :: Xs, hl, h => .cons _ _ _ _ (h 0 x X rfl rfl) (VRs.of_get (by simpa using hl) fun i y Y hy hY => h (i + 1) y Y (by simpa using hy) (by simpa using hY))
  | [], _ :: _, hl, _ => by simp at hl
  | _ :: _, [], hl, _ => by simp at hl
theorem VRs.append {E : Env} : ∀ {xs ys : List AV} {Xs Ys : List Value}, VRs E xs Xs → VRs E ys Ys → VRs E (xs ++ ys) (Xs ++ Ys)
  | _, _, _, _, .nil, h' => h'
  | _, _, _, _, .cons x X xs Xs h hs, h' => .cons _ _ _ _ h (hs.append h')
theorem VRs.take {E : Env} {xs : List AV} {Xs : List Value} (h : VRs E xs Xs) (n : Nat) : VRs E (xs.take n) (Xs.take n) := by
  refine VRs.of_get (by simp [h.length]) fun i x X hx hX => ?_
  rw [List.getElem?_take] at hx hX
  split at hx
  · rename_i hi
    rw [if_pos hi] at hX
    obtain ⟨Y, hY, hv⟩ := h.get i x hx
    rw [hY] at hX; cases hX; exact hv
  · cases hx
theorem VRs.drop {E : Env} {xs : List AV} {Xs : List Value} (h : VRs E xs Xs) (n : Nat) : VRs E (xs.drop n) (Xs.drop n) := by
  refine VRs.of_get (by simp [h.length]) fun i x X hx hX => ?_
  rw [List.getElem?_drop] at hx hX
  obtain ⟨Y, hY, hv⟩ := h.get (n + i) x hx
  rw [hY] at hX; cases hX; exact hv

theorem VR.cells {E : Env} {x : AV} {X : Value} (h : VR E x X) (hx : ∀ k, x ≠ .opq k) (hl : ∀ v, x ≠ .lit v) : VRs E x.cells X.cells.toList := by
  cases h <;> first | exact absurd rfl (hx _) | exact absurd rfl (hl _) | assumption | (simp only [AV.cells, Value.cells]; exact .cons _ _ _ _ (by constructor <;> assumption) .nil) | (simp only [AV.cells, Value.cells]; exact .cons _ _ _ _ (by assumption) .nil)
end Go.AS
