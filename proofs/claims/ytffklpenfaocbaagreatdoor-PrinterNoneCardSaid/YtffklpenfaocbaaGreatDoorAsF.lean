/-
  The pure operations are what the model does.
-/
import Derived.Test.YtffklpenfaocbaaGreatDoorAsE
import Derived.Laws.Tables
set_option linter.unusedVariables false
set_option linter.unusedSimpArgs false
namespace Go.AS
open Go.RowKit

def TR (E : Env) (T : TM) (a : Act) : Prop := ∀ t x, T t = some x → ∃ X, a.tmps[t]? = some X ∧ VR E x X
def GL (c : Cx) (E : Env) : Prop := ∀ g b, c.G g = some b → ∃ S, E.μ b = some (g, 0, S)
theorem TR.mono {E E' : Env} (hE : E.le E') {T : TM} {a : Act} (h : TR E T a) : TR E' T a := fun t x hx => let ⟨X, hX, hv⟩ := h t x hx; ⟨X, hX, hv.mono hE⟩
theorem GL.mono {c : Cx} {E E' : Env} (hE : E.le E') (h : GL c E) : GL c E' := fun g b hg => let ⟨S, hS⟩ := h g b hg; ⟨S, hE.2 _ _ hS⟩

theorem ofCell_sound {E : Env} {V : Value} {x : AV} (h : ofCell V = some x) : VR E x V := by
  unfold ofCell at h
  split at h <;> simp only [Option.some.injEq, reduceCtorEq] at h <;> subst h <;> constructor
  rfl
theorem ofCells_sound {E : Env} : ∀ {Vs : List Value} {xs : List AV}, ofCells Vs = some xs → VRs E xs Vs
  | [], xs, h => by
    have h' : some [] = some xs := h
    cases h'; exact .nil
  | V :: Vs, xs, h => by
    have h' : (bnd (ofCell V) fun x => bnd (ofCells Vs) fun r => some (x :: r)) = some xs := h
    simp only [bnd_eq, Option.some.injEq] at h'
    obtain ⟨x, hx, r, hr, rfl⟩ := h'
    exact .cons _ _ _ _ (ofCell_sound hx) (ofCells_sound hr)
theorem ofV_sound {E : Env} {V : Value} {x : AV} (h : ofV V = some x) : VR E x V := by
  unfold ofV at h
  split at h
  · simp only [bnd_eq, Option.some.injEq] at h
    obtain ⟨l, hl, rfl⟩ := h
    exact .agg _ _ (ofCells_sound hl)
  · exact ofCell_sound h

section
variable {c : Cx} {E : Env} {T : TM} {a : Act}

theorem ev_sound (hT : TR E T a) (hG : GL c E) {x : Operand} {v : AV} (h : ev c T x = some v) : VR E v (a.eval x) := by
  cases x with
  | tmp t =>
    obtain ⟨X, hX, hv⟩ := hT t v h
    show VR E v (a.tmps.getD t undef)
    rw [Array.getD_eq_getD_getElem?, hX]; exact hv
  | const V => exact ofV_sound h
  | global g =>
    have h' : (bnd (c.G g) fun b => some (AV.ptr b 0)) = some v := h
    simp only [bnd_eq, Option.some.injEq] at h'
    obtain ⟨b, hb, rfl⟩ := h'
    obtain ⟨S, hS⟩ := hG g b hb
    exact .ptr b 0 g 0 S hS
  | func f =>
    have h' : some (AV.fn (.func f) [] []) = some v := h
    cases h'
    exact .fn _ _ _ _ _ .nil .nil

theorem evs_sound (hT : TR E T a) (hG : GL c E) : ∀ {l : List Operand} {vs : List AV}, evs c T l = some vs → VRs E vs (l.map a.eval)
  | [], vs, h => by
    have h' : some [] = some vs := h
    cases h'; exact .nil
  | x :: l, vs, h => by
    have h' : (bnd (ev c T x) fun v => bnd (evs c T l) fun r => some (v :: r)) = some vs := h
    simp only [bnd_eq, Option.some.injEq] at h'
    obtain ⟨v, hv, r, hr, rfl⟩ := h'
    exact .cons _ _ _ _ (ev_sound hT hG hv) (evs_sound hT hG hr)

inductive PRs (E : Env) : List (Nat × AV) → List (Nat × Value) → Prop
  | nil : PRs E [] []
  | cons (i : Nat) (x : AV) (X : Value) (xs : List (Nat × AV)) (Xs : List (Nat × Value)) (h : VR E x X) (hs : PRs E xs Xs) : PRs E ((i, x) :: xs) ((i, X) :: Xs)

theorem evParts_sound (hT : TR E T a) (hG : GL c E) : ∀ {l : List (Nat × Operand)} {vs : List (Nat × AV)}, evParts c T l = some vs → PRs E vs (l.map fun p => (p.1, a.eval p.2))
  | [], vs, h => by
    have h' : some [] = some vs := h
    cases h'; exact .nil
  | x :: l, vs, h => by
    have h' : (bnd (ev c T x.2) fun v => bnd (evParts c T l) fun r => some ((x.1, v) :: r)) = some vs := h
    simp only [bnd_eq, Option.some.injEq] at h'
    obtain ⟨v, hv, r, hr, rfl⟩ := h'
    exact .cons _ _ _ _ _ (ev_sound hT hG hv) (evParts_sound hT hG hr)

theorem flat_eq {x : AV} (h : x.flat = true) : x.one = true ∨ ∃ l, x = .agg l := by
  cases x <;> first | exact .inl h | exact .inr ⟨_, rfl⟩

theorem cells_sound {x : AV} {X : Value} (h : VR E x X) (hx : x.flat = true) : VRs E x.cells X.cells.toList := by
  rcases flat_eq hx with h1 | ⟨l, rfl⟩
  · have h2 := one_of h h1
    have : X.cells = #[X] := by cases X <;> simp_all [Value.oneCell', Value.cells]
    rw [this]
    have : x.cells = [x] := by cases x <;> simp_all [AV.one, AV.cells]
    rw [this]
    exact .cons _ _ _ _ h .nil
  · cases h with
    | agg _ Cs h => exact h

/-- Nothing is asked of what it is, if it has as many cells. -/
theorem foldl_set (xs : List Value) : ∀ (k off : Nat) (cs : Array Value), off + k + xs.length ≤ cs.size →
    ((xs.zipIdx k).foldl (fun cs p => cs.setIfInBounds (off + p.2) p.1) cs).toList = cs.toList.take (off + k) ++ (xs ++ cs.toList.drop (off + k + xs.length)) := by
  induction xs with
  | nil => intro k off cs h; simp
  | cons x xs ih =>
    intro k off cs h
    simp only [List.length_cons] at h
    rw [List.zipIdx_cons, List.foldl_cons, ih (k + 1) off _ (by simp; omega)]
    simp only [Array.toList_setIfInBounds]
    have hlt : off + k < cs.toList.length := by simp; omega
    apply List.ext_getElem?
    intro i
    simp only [List.getElem?_append, List.length_take, List.length_set, List.getElem?_take, List.getElem?_set, List.getElem?_drop, List.length_cons, Array.length_toList]
    by_cases h1 : i < off + k
    · simp [show i < min (off + (k + 1)) cs.size by omega, show i < off + (k + 1) by omega, show ¬ off + k = i by omega, h1, show i < min (off + k) cs.size by omega]
    · by_cases h2 : i = off + k
      · subst h2
        simp [show off + k < min (off + (k + 1)) cs.size by omega, show off + k < off + (k + 1) by omega, hlt, show ¬ off + k < min (off + k) cs.size by omega, show off + k - min (off + k) cs.size = 0 by omega]
        omega
      · have e1 : ¬ i < min (off + (k + 1)) cs.size := by omega
        have e2 : ¬ i < min (off + k) cs.size := by omega
        rw [if_neg e1, if_neg e2]
        have e3 : i - min (off + (k + 1)) cs.size = i - (off + k + 1) := by omega
        have e4 : i - min (off + k) cs.size = (i - (off + k + 1)) + 1 := by omega
        rw [e3, e4]
        by_cases h3 : i - (off + k + 1) < xs.length
        · rw [if_pos h3, if_pos (by omega)]; simp
        · rw [if_neg h3, if_neg (by omega)]
          have e5 : off + (k + 1) + xs.length + (i - (off + k + 1) - xs.length) = i := by omega
          have e6 : off + k + (xs.length + 1) + (i - (off + k + 1) + 1 - (xs.length + 1)) = i := by omega
          rw [e5, e6, if_neg (by omega)]

theorem fill_sound {place : Nat → Option (Nat × Nat)} : ∀ {ps : List (Nat × AV)} {Ps : List (Nat × Value)} {cs : List AV} {Cs : Array Value} {r : List AV}, PRs E ps Ps → VRs E cs Cs.toList →
    fill place ps cs = some r → ∃ R, Instr.fill place Cs Ps = some R ∧ VRs E r R.toList
  | _, _, cs, Cs, r, .nil, hc, h => by
    have h' : some cs = some r := h
    cases h'; exact ⟨Cs, rfl, hc⟩
  | _, _, cs, Cs, r, .cons i x X xs Xs hv hs, hc, h => by
    have h' : (bnd (place i) fun q => tst (x.flat && Nat.beq (lenX x.cells) q.2) <| bnd (overX cs q.1 x.cells) fun cs => fill place xs cs) = some r := h
    simp only [bnd_eq, tst_eq, overX_eq, Bool.and_eq_true, Nat.beq_eq, lenX_eq] at h'
    obtain ⟨⟨off, size⟩, hp, ⟨hfl, he⟩, cs', ⟨hl, rfl⟩, hr⟩ := h'
    have hcell := cells_sound hv hfl
    have hL := hcell.length
    simp only [Array.length_toList] at hL
    have hcl := hc.length
    simp only [Array.length_toList] at hcl
    simp only at he hl
    have hbig : VRs E (cs.take off ++ (x.cells ++ cs.drop (off + x.cells.length))) ((X.cells.zipIdx.foldl (fun cs (p : Value × Nat) => cs.setIfInBounds (off + p.2) p.1) Cs).toList) := by
      have e := foldl_set X.cells.toList 0 off Cs (by simp; omega)
      have e2 : (X.cells.zipIdx.foldl (fun cs (p : Value × Nat) => cs.setIfInBounds (off + p.2) p.1) Cs) = (X.cells.toList.zipIdx 0).foldl (fun cs p => cs.setIfInBounds (off + p.2) p.1) Cs := by
        rw [← Array.foldl_toList]; simp
      rw [e2, e]
      simp only [Nat.add_zero]
      refine (hc.take off).append (hcell.append ?_)
      rw [show X.cells.toList.length = x.cells.length by simp; omega]
      exact hc.drop _
    obtain ⟨R, hR, hvR⟩ := fill_sound hs hbig hr
    refine ⟨R, ?_, hvR⟩
    simp only [Instr.fill, hp]
    rw [if_neg (by simp; omega)]
    exact hR
end
end Go.AS
